/-
  NARROWER THAN 'FOR EVERY INPUT', by the rows' own cells (each row's printed sentence says how): ClockSlow: laid · ClockCerny: laid · ClockMerges: laid · ClockMerged: laid · ClockLeads: laid · ClockImages: laid · ClockInside: laid · ClockOwn: laid · ClockFirst: laid · ClockSame: laid · ClockRenamed: laid · ClockResets: laid · ClockAgree: laid.
  DERIVED. THE GIVEN ROWS OF THIS SEAT. 13 by the template 'for every input the law returns true; each argument reads behind the call as it read before'; 0 by the template 'total and deterministic' (their statements: YthlgdakdjikjhaaDoorTotals.lean).
  GIVEN WITH THE SEED: the statements are not yours to turn. If you find one false, say at which input.
  Laid BY PROGRAM, IN A SANDBOX (cutbox-rows.mjs): the forced cells as the released guide's own fill.sh prints them over the translation 0523dd5b322d73d9… (all of the seat's roots in one cut). By AI agents, Wed Nov 11 2026. No macro, syntax, notation, axiom, sorry.
-/
import Derived.Test.YthlgdakdjikjhaaDoorChecked
import GoSem.Claim
import GoSem.ClaimJoined
import GoSem.ClaimMapViews
import Derived.JoinedTies
import Derived.KernelRfl
namespace Go.Proofs.YthlgdakdjikjhaaDoor
/- THE CELL 'sum', in the pinned program and in every row, IS THE sha256 OF THE DUMP (.gsa) THAT YthlgdakdjikjhaaDoorProg.lean LOADS. Nothing in Lean hashes anything: it is a label: what it is worth is what the hold of that sum in a sandbox is worth. -/
noncomputable def Tryd.pinned : Pinned := { name := "ythlgdakdjikjhaadoor", sum := "0523dd5b322d73d9a3311ce506fe987e76ef5e60c18cbc233ae7ce557a4f4439", checked := Tryd.checked }
namespace Rows
def none {H : Type} : Left H := { results := [], args := [] }

/- WHAT THE LISTED PACKAGE-LEVEL VARIABLES READ AS WHEN THE CALL BEGINS. Each datum BY PROGRAM (the guide's laid-datum.mjs) off the statement by which the dump's own 'gosem.cut.vars' lays the variable. In a bare row this is a premise. The card (YthlgdakdjikjhaaDoorCards.lean) ties it to the program's text. -/
def laid_math_bits_deBruijn32tab {H : Type} : DataW H := .agg [.lit (.int .u8 0), .lit (.int .u8 1), .lit (.int .u8 28), .lit (.int .u8 2), .lit (.int .u8 29), .lit (.int .u8 14), .lit (.int .u8 24), .lit (.int .u8 3), .lit (.int .u8 30), .lit (.int .u8 22), .lit (.int .u8 20), .lit (.int .u8 15), .lit (.int .u8 25), .lit (.int .u8 17), .lit (.int .u8 4), .lit (.int .u8 8), .lit (.int .u8 31), .lit (.int .u8 27), .lit (.int .u8 13), .lit (.int .u8 23), .lit (.int .u8 21), .lit (.int .u8 19), .lit (.int .u8 16), .lit (.int .u8 7), .lit (.int .u8 26), .lit (.int .u8 12), .lit (.int .u8 18), .lit (.int .u8 6), .lit (.int .u8 11), .lit (.int .u8 5), .lit (.int .u8 10), .lit (.int .u8 9)]
def laid_math_bits_deBruijn64tab {H : Type} : DataW H := .agg [.lit (.int .u8 0), .lit (.int .u8 1), .lit (.int .u8 56), .lit (.int .u8 2), .lit (.int .u8 57), .lit (.int .u8 49), .lit (.int .u8 28), .lit (.int .u8 3), .lit (.int .u8 61), .lit (.int .u8 58), .lit (.int .u8 42), .lit (.int .u8 50), .lit (.int .u8 38), .lit (.int .u8 29), .lit (.int .u8 17), .lit (.int .u8 4), .lit (.int .u8 62), .lit (.int .u8 47), .lit (.int .u8 59), .lit (.int .u8 36), .lit (.int .u8 45), .lit (.int .u8 43), .lit (.int .u8 51), .lit (.int .u8 22), .lit (.int .u8 53), .lit (.int .u8 39), .lit (.int .u8 33), .lit (.int .u8 30), .lit (.int .u8 24), .lit (.int .u8 18), .lit (.int .u8 12), .lit (.int .u8 5), .lit (.int .u8 63), .lit (.int .u8 55), .lit (.int .u8 48), .lit (.int .u8 27), .lit (.int .u8 60), .lit (.int .u8 41), .lit (.int .u8 37), .lit (.int .u8 16), .lit (.int .u8 46), .lit (.int .u8 35), .lit (.int .u8 44), .lit (.int .u8 21), .lit (.int .u8 52), .lit (.int .u8 32), .lit (.int .u8 23), .lit (.int .u8 11), .lit (.int .u8 54), .lit (.int .u8 26), .lit (.int .u8 40), .lit (.int .u8 15), .lit (.int .u8 34), .lit (.int .u8 20), .lit (.int .u8 31), .lit (.int .u8 10), .lit (.int .u8 25), .lit (.int .u8 14), .lit (.int .u8 19), .lit (.int .u8 9), .lit (.int .u8 13), .lit (.int .u8 8), .lit (.int .u8 7), .lit (.int .u8 6)]

/-- 'lampboxlaw10.ClockSlow': WHATEVER THE INPUT: true; the input reads as it did. -/
def clockSlowSpec : ChangeSpec := { name := "clockSlow", fn := fun _ => fun
  | [d] => { results := [.lit (.bool true)], args := [d] }
  | _ => none }
def clockSlowRow : OpenClaim := { program := "ythlgdakdjikjhaadoor", sum := "0523dd5b322d73d9a3311ce506fe987e76ef5e60c18cbc233ae7ce557a4f4439", func := "lampbox/lampboxlaw10.ClockSlow", spec := "clockSlow", unfollowed := true, recurses := true, named := ["math/bits.deBruijn32tab", "math/bits.deBruijn64tab"], apart := false, laid := [("math/bits.deBruijn32tab", laid_math_bits_deBruijn32tab), ("math/bits.deBruijn64tab", laid_math_bits_deBruijn64tab)] }
def ClockSlowSaid : Prop := clockSlowRow.holds Tryd.pinned (OpenSpec.ofChange clockSlowSpec)

/-- ITS FALSE NEIGHBOUR: 'it returns false'. Refute it at one input. -/
def clockSlowWrong : ChangeSpec := { name := "clockSlow", fn := fun _ => fun
  | [d] => { results := [.lit (.bool false)], args := [d] }
  | _ => none }
def ClockSlowWrongFalsely : Prop := clockSlowRow.holds Tryd.pinned (OpenSpec.ofChange clockSlowWrong)

/-- 'lampboxlaw10.ClockCerny': WHATEVER THE INPUT: true; the input reads as it did. -/
def clockCernySpec : ChangeSpec := { name := "clockCerny", fn := fun _ => fun
  | [d] => { results := [.lit (.bool true)], args := [d] }
  | _ => none }
def clockCernyRow : OpenClaim := { program := "ythlgdakdjikjhaadoor", sum := "0523dd5b322d73d9a3311ce506fe987e76ef5e60c18cbc233ae7ce557a4f4439", func := "lampbox/lampboxlaw10.ClockCerny", spec := "clockCerny", unfollowed := true, recurses := true, named := ["math/bits.deBruijn32tab", "math/bits.deBruijn64tab"], apart := false, laid := [("math/bits.deBruijn32tab", laid_math_bits_deBruijn32tab), ("math/bits.deBruijn64tab", laid_math_bits_deBruijn64tab)] }
def ClockCernySaid : Prop := clockCernyRow.holds Tryd.pinned (OpenSpec.ofChange clockCernySpec)

/-- ITS FALSE NEIGHBOUR: 'it returns false'. Refute it at one input. -/
def clockCernyWrong : ChangeSpec := { name := "clockCerny", fn := fun _ => fun
  | [d] => { results := [.lit (.bool false)], args := [d] }
  | _ => none }
def ClockCernyWrongFalsely : Prop := clockCernyRow.holds Tryd.pinned (OpenSpec.ofChange clockCernyWrong)

/-- 'lampboxlaw10.ClockMerges': WHATEVER THE INPUT: true; the input reads as it did. -/
def clockMergesSpec : ChangeSpec := { name := "clockMerges", fn := fun _ => fun
  | [d1, d2] => { results := [.lit (.bool true)], args := [d1, d2] }
  | _ => none }
def clockMergesRow : OpenClaim := { program := "ythlgdakdjikjhaadoor", sum := "0523dd5b322d73d9a3311ce506fe987e76ef5e60c18cbc233ae7ce557a4f4439", func := "lampbox/lampboxlaw10.ClockMerges", spec := "clockMerges", unfollowed := true, recurses := true, named := ["math/bits.deBruijn32tab", "math/bits.deBruijn64tab"], apart := false, laid := [("math/bits.deBruijn32tab", laid_math_bits_deBruijn32tab), ("math/bits.deBruijn64tab", laid_math_bits_deBruijn64tab)] }
def ClockMergesSaid : Prop := clockMergesRow.holds Tryd.pinned (OpenSpec.ofChange clockMergesSpec)

/-- ITS FALSE NEIGHBOUR: 'it returns false'. Refute it at one input. -/
def clockMergesWrong : ChangeSpec := { name := "clockMerges", fn := fun _ => fun
  | [d1, d2] => { results := [.lit (.bool false)], args := [d1, d2] }
  | _ => none }
def ClockMergesWrongFalsely : Prop := clockMergesRow.holds Tryd.pinned (OpenSpec.ofChange clockMergesWrong)

/-- 'lampboxlaw10.ClockMerged': WHATEVER THE INPUT: true; the input reads as it did. -/
def clockMergedSpec : ChangeSpec := { name := "clockMerged", fn := fun _ => fun
  | [d] => { results := [.lit (.bool true)], args := [d] }
  | _ => none }
def clockMergedRow : OpenClaim := { program := "ythlgdakdjikjhaadoor", sum := "0523dd5b322d73d9a3311ce506fe987e76ef5e60c18cbc233ae7ce557a4f4439", func := "lampbox/lampboxlaw10.ClockMerged", spec := "clockMerged", unfollowed := true, recurses := true, named := ["math/bits.deBruijn32tab", "math/bits.deBruijn64tab"], apart := false, laid := [("math/bits.deBruijn32tab", laid_math_bits_deBruijn32tab), ("math/bits.deBruijn64tab", laid_math_bits_deBruijn64tab)] }
def ClockMergedSaid : Prop := clockMergedRow.holds Tryd.pinned (OpenSpec.ofChange clockMergedSpec)

/-- ITS FALSE NEIGHBOUR: 'it returns false'. Refute it at one input. -/
def clockMergedWrong : ChangeSpec := { name := "clockMerged", fn := fun _ => fun
  | [d] => { results := [.lit (.bool false)], args := [d] }
  | _ => none }
def ClockMergedWrongFalsely : Prop := clockMergedRow.holds Tryd.pinned (OpenSpec.ofChange clockMergedWrong)

/-- 'lampboxlaw10.ClockLeads': WHATEVER THE INPUT: true; the input reads as it did. -/
def clockLeadsSpec : ChangeSpec := { name := "clockLeads", fn := fun _ => fun
  | [d1, d2, d3] => { results := [.lit (.bool true)], args := [d1, d2, d3] }
  | _ => none }
def clockLeadsRow : OpenClaim := { program := "ythlgdakdjikjhaadoor", sum := "0523dd5b322d73d9a3311ce506fe987e76ef5e60c18cbc233ae7ce557a4f4439", func := "lampbox/lampboxlaw10.ClockLeads", spec := "clockLeads", unfollowed := true, recurses := true, named := ["math/bits.deBruijn32tab", "math/bits.deBruijn64tab"], apart := false, laid := [("math/bits.deBruijn32tab", laid_math_bits_deBruijn32tab), ("math/bits.deBruijn64tab", laid_math_bits_deBruijn64tab)] }
def ClockLeadsSaid : Prop := clockLeadsRow.holds Tryd.pinned (OpenSpec.ofChange clockLeadsSpec)

/-- ITS FALSE NEIGHBOUR: 'it returns false'. Refute it at one input. -/
def clockLeadsWrong : ChangeSpec := { name := "clockLeads", fn := fun _ => fun
  | [d1, d2, d3] => { results := [.lit (.bool false)], args := [d1, d2, d3] }
  | _ => none }
def ClockLeadsWrongFalsely : Prop := clockLeadsRow.holds Tryd.pinned (OpenSpec.ofChange clockLeadsWrong)

/-- 'lampboxlaw10.ClockImages': WHATEVER THE INPUT: true; the input reads as it did. -/
def clockImagesSpec : ChangeSpec := { name := "clockImages", fn := fun _ => fun
  | [d1, d2, d3] => { results := [.lit (.bool true)], args := [d1, d2, d3] }
  | _ => none }
def clockImagesRow : OpenClaim := { program := "ythlgdakdjikjhaadoor", sum := "0523dd5b322d73d9a3311ce506fe987e76ef5e60c18cbc233ae7ce557a4f4439", func := "lampbox/lampboxlaw10.ClockImages", spec := "clockImages", unfollowed := true, recurses := true, named := ["math/bits.deBruijn32tab", "math/bits.deBruijn64tab"], apart := false, laid := [("math/bits.deBruijn32tab", laid_math_bits_deBruijn32tab), ("math/bits.deBruijn64tab", laid_math_bits_deBruijn64tab)] }
def ClockImagesSaid : Prop := clockImagesRow.holds Tryd.pinned (OpenSpec.ofChange clockImagesSpec)

/-- ITS FALSE NEIGHBOUR: 'it returns false'. Refute it at one input. -/
def clockImagesWrong : ChangeSpec := { name := "clockImages", fn := fun _ => fun
  | [d1, d2, d3] => { results := [.lit (.bool false)], args := [d1, d2, d3] }
  | _ => none }
def ClockImagesWrongFalsely : Prop := clockImagesRow.holds Tryd.pinned (OpenSpec.ofChange clockImagesWrong)

/-- 'lampboxlaw10.ClockInside': WHATEVER THE INPUT: true; the input reads as it did. -/
def clockInsideSpec : ChangeSpec := { name := "clockInside", fn := fun _ => fun
  | [d1, d2, d3] => { results := [.lit (.bool true)], args := [d1, d2, d3] }
  | _ => none }
def clockInsideRow : OpenClaim := { program := "ythlgdakdjikjhaadoor", sum := "0523dd5b322d73d9a3311ce506fe987e76ef5e60c18cbc233ae7ce557a4f4439", func := "lampbox/lampboxlaw10.ClockInside", spec := "clockInside", unfollowed := true, recurses := true, named := ["math/bits.deBruijn32tab", "math/bits.deBruijn64tab"], apart := false, laid := [("math/bits.deBruijn32tab", laid_math_bits_deBruijn32tab), ("math/bits.deBruijn64tab", laid_math_bits_deBruijn64tab)] }
def ClockInsideSaid : Prop := clockInsideRow.holds Tryd.pinned (OpenSpec.ofChange clockInsideSpec)

/-- ITS FALSE NEIGHBOUR: 'it returns false'. Refute it at one input. -/
def clockInsideWrong : ChangeSpec := { name := "clockInside", fn := fun _ => fun
  | [d1, d2, d3] => { results := [.lit (.bool false)], args := [d1, d2, d3] }
  | _ => none }
def ClockInsideWrongFalsely : Prop := clockInsideRow.holds Tryd.pinned (OpenSpec.ofChange clockInsideWrong)

/-- 'lampboxlaw10.ClockOwn': WHATEVER THE INPUT: true; the input reads as it did. -/
def clockOwnSpec : ChangeSpec := { name := "clockOwn", fn := fun _ => fun
  | [d1, d2] => { results := [.lit (.bool true)], args := [d1, d2] }
  | _ => none }
def clockOwnRow : OpenClaim := { program := "ythlgdakdjikjhaadoor", sum := "0523dd5b322d73d9a3311ce506fe987e76ef5e60c18cbc233ae7ce557a4f4439", func := "lampbox/lampboxlaw10.ClockOwn", spec := "clockOwn", unfollowed := true, recurses := true, named := ["math/bits.deBruijn32tab", "math/bits.deBruijn64tab"], apart := false, laid := [("math/bits.deBruijn32tab", laid_math_bits_deBruijn32tab), ("math/bits.deBruijn64tab", laid_math_bits_deBruijn64tab)] }
def ClockOwnSaid : Prop := clockOwnRow.holds Tryd.pinned (OpenSpec.ofChange clockOwnSpec)

/-- ITS FALSE NEIGHBOUR: 'it returns false'. Refute it at one input. -/
def clockOwnWrong : ChangeSpec := { name := "clockOwn", fn := fun _ => fun
  | [d1, d2] => { results := [.lit (.bool false)], args := [d1, d2] }
  | _ => none }
def ClockOwnWrongFalsely : Prop := clockOwnRow.holds Tryd.pinned (OpenSpec.ofChange clockOwnWrong)

/-- 'lampboxlaw10.ClockFirst': WHATEVER THE INPUT: true; the input reads as it did. -/
def clockFirstSpec : ChangeSpec := { name := "clockFirst", fn := fun _ => fun
  | [d1, d2, d3] => { results := [.lit (.bool true)], args := [d1, d2, d3] }
  | _ => none }
def clockFirstRow : OpenClaim := { program := "ythlgdakdjikjhaadoor", sum := "0523dd5b322d73d9a3311ce506fe987e76ef5e60c18cbc233ae7ce557a4f4439", func := "lampbox/lampboxlaw10.ClockFirst", spec := "clockFirst", unfollowed := true, recurses := true, named := ["math/bits.deBruijn32tab", "math/bits.deBruijn64tab"], apart := false, laid := [("math/bits.deBruijn32tab", laid_math_bits_deBruijn32tab), ("math/bits.deBruijn64tab", laid_math_bits_deBruijn64tab)] }
def ClockFirstSaid : Prop := clockFirstRow.holds Tryd.pinned (OpenSpec.ofChange clockFirstSpec)

/-- ITS FALSE NEIGHBOUR: 'it returns false'. Refute it at one input. -/
def clockFirstWrong : ChangeSpec := { name := "clockFirst", fn := fun _ => fun
  | [d1, d2, d3] => { results := [.lit (.bool false)], args := [d1, d2, d3] }
  | _ => none }
def ClockFirstWrongFalsely : Prop := clockFirstRow.holds Tryd.pinned (OpenSpec.ofChange clockFirstWrong)

/-- 'lampboxlaw10.ClockSame': WHATEVER THE INPUT: true; the input reads as it did. -/
def clockSameSpec : ChangeSpec := { name := "clockSame", fn := fun _ => fun
  | [d1, d2] => { results := [.lit (.bool true)], args := [d1, d2] }
  | _ => none }
def clockSameRow : OpenClaim := { program := "ythlgdakdjikjhaadoor", sum := "0523dd5b322d73d9a3311ce506fe987e76ef5e60c18cbc233ae7ce557a4f4439", func := "lampbox/lampboxlaw10.ClockSame", spec := "clockSame", unfollowed := true, recurses := true, named := ["math/bits.deBruijn32tab", "math/bits.deBruijn64tab"], apart := false, laid := [("math/bits.deBruijn32tab", laid_math_bits_deBruijn32tab), ("math/bits.deBruijn64tab", laid_math_bits_deBruijn64tab)] }
def ClockSameSaid : Prop := clockSameRow.holds Tryd.pinned (OpenSpec.ofChange clockSameSpec)

/-- ITS FALSE NEIGHBOUR: 'it returns false'. Refute it at one input. -/
def clockSameWrong : ChangeSpec := { name := "clockSame", fn := fun _ => fun
  | [d1, d2] => { results := [.lit (.bool false)], args := [d1, d2] }
  | _ => none }
def ClockSameWrongFalsely : Prop := clockSameRow.holds Tryd.pinned (OpenSpec.ofChange clockSameWrong)

/-- 'lampboxlaw10.ClockRenamed': WHATEVER THE INPUT: true; the input reads as it did. -/
def clockRenamedSpec : ChangeSpec := { name := "clockRenamed", fn := fun _ => fun
  | [d1, d2, d3] => { results := [.lit (.bool true)], args := [d1, d2, d3] }
  | _ => none }
def clockRenamedRow : OpenClaim := { program := "ythlgdakdjikjhaadoor", sum := "0523dd5b322d73d9a3311ce506fe987e76ef5e60c18cbc233ae7ce557a4f4439", func := "lampbox/lampboxlaw10.ClockRenamed", spec := "clockRenamed", unfollowed := true, recurses := true, named := ["math/bits.deBruijn32tab", "math/bits.deBruijn64tab"], apart := false, laid := [("math/bits.deBruijn32tab", laid_math_bits_deBruijn32tab), ("math/bits.deBruijn64tab", laid_math_bits_deBruijn64tab)] }
def ClockRenamedSaid : Prop := clockRenamedRow.holds Tryd.pinned (OpenSpec.ofChange clockRenamedSpec)

/-- ITS FALSE NEIGHBOUR: 'it returns false'. Refute it at one input. -/
def clockRenamedWrong : ChangeSpec := { name := "clockRenamed", fn := fun _ => fun
  | [d1, d2, d3] => { results := [.lit (.bool false)], args := [d1, d2, d3] }
  | _ => none }
def ClockRenamedWrongFalsely : Prop := clockRenamedRow.holds Tryd.pinned (OpenSpec.ofChange clockRenamedWrong)

/-- 'lampboxlaw10.ClockResets': WHATEVER THE INPUT: true; the input reads as it did. -/
def clockResetsSpec : ChangeSpec := { name := "clockResets", fn := fun _ => fun
  | [d] => { results := [.lit (.bool true)], args := [d] }
  | _ => none }
def clockResetsRow : OpenClaim := { program := "ythlgdakdjikjhaadoor", sum := "0523dd5b322d73d9a3311ce506fe987e76ef5e60c18cbc233ae7ce557a4f4439", func := "lampbox/lampboxlaw10.ClockResets", spec := "clockResets", unfollowed := true, recurses := true, named := ["math/bits.deBruijn32tab", "math/bits.deBruijn64tab"], apart := false, laid := [("math/bits.deBruijn32tab", laid_math_bits_deBruijn32tab), ("math/bits.deBruijn64tab", laid_math_bits_deBruijn64tab)] }
def ClockResetsSaid : Prop := clockResetsRow.holds Tryd.pinned (OpenSpec.ofChange clockResetsSpec)

/-- ITS FALSE NEIGHBOUR: 'it returns false'. Refute it at one input. -/
def clockResetsWrong : ChangeSpec := { name := "clockResets", fn := fun _ => fun
  | [d] => { results := [.lit (.bool false)], args := [d] }
  | _ => none }
def ClockResetsWrongFalsely : Prop := clockResetsRow.holds Tryd.pinned (OpenSpec.ofChange clockResetsWrong)

/-- 'lampboxlaw10.ClockAgree': WHATEVER THE INPUT: true; the input reads as it did. -/
def clockAgreeSpec : ChangeSpec := { name := "clockAgree", fn := fun _ => fun
  | [d] => { results := [.lit (.bool true)], args := [d] }
  | _ => none }
def clockAgreeRow : OpenClaim := { program := "ythlgdakdjikjhaadoor", sum := "0523dd5b322d73d9a3311ce506fe987e76ef5e60c18cbc233ae7ce557a4f4439", func := "lampbox/lampboxlaw10.ClockAgree", spec := "clockAgree", unfollowed := true, recurses := true, named := ["math/bits.deBruijn32tab", "math/bits.deBruijn64tab"], apart := false, laid := [("math/bits.deBruijn32tab", laid_math_bits_deBruijn32tab), ("math/bits.deBruijn64tab", laid_math_bits_deBruijn64tab)] }
def ClockAgreeSaid : Prop := clockAgreeRow.holds Tryd.pinned (OpenSpec.ofChange clockAgreeSpec)

/-- ITS FALSE NEIGHBOUR: 'it returns false'. Refute it at one input. -/
def clockAgreeWrong : ChangeSpec := { name := "clockAgree", fn := fun _ => fun
  | [d] => { results := [.lit (.bool false)], args := [d] }
  | _ => none }
def ClockAgreeWrongFalsely : Prop := clockAgreeRow.holds Tryd.pinned (OpenSpec.ofChange clockAgreeWrong)

/- THE SECOND FORM. 'bulk': how many values and letters a reading holds, each counted each time it is reached (what is shared counts as often as it is met; a slice's spare places count too). A statement '..UptoSaid' is the law's where the arguments, and the package variables that the reading takes, are together of bulk at most 1048576: NARROWER than '..Said'. Prove '..Said' where nothing that the law and all that it calls make is longer than what came in: it says more and counts as full. Else prove '..UptoSaid'. A law counts once. -/
mutual
def uptoBulk {H : Type} : DataW H → Nat
  | .lit (.string bytes) => bytes.length + 1
  | .lit _ => 1
  | .nil => 1
  | .ptr d => uptoBulk d + 1
  | .slice elems spare => uptoBulkAll elems + uptoBulkAll spare + 1
  | .agg parts => uptoBulkAll parts + 1
  | .iface _ d => uptoBulk d + 1
  | .map entries => uptoBulkEntries entries + 1
  | .held _ => 1
def uptoBulkAll {H : Type} : List (DataW H) → Nat
  | [] => 0
  | d :: r => uptoBulk d + uptoBulkAll r
def uptoBulkEntries {H : Type} : List (Lit × DataW H) → Nat
  | [] => 0
  | x :: r => uptoBulkEntry x + uptoBulkEntries r
def uptoBulkEntry {H : Type} : Lit × DataW H → Nat
  | (.string bytes, d) => bytes.length + uptoBulk d + 1
  | (_, d) => uptoBulk d + 1
 end
def uptoSmall : (H : Type) → List (DataW H) → Bool := fun _ ds => decide (uptoBulkAll ds ≤ 1048576)
def OpenSpec.upto (s : _root_.Go.ChangeSpec) : _root_.Go.OpenSpec := { _root_.Go.OpenSpec.ofChange s with cond := some uptoSmall }

/-- 'lampboxlaw10.ClockSlow', WHERE WHAT IT READS IS OF BULK AT MOST 1048576: true; the input reads as it did. -/
def clockSlowUptoRow : OpenClaim := { program := "ythlgdakdjikjhaadoor", sum := "0523dd5b322d73d9a3311ce506fe987e76ef5e60c18cbc233ae7ce557a4f4439", func := "lampbox/lampboxlaw10.ClockSlow", spec := "clockSlow", unfollowed := true, recurses := true, named := ["math/bits.deBruijn32tab", "math/bits.deBruijn64tab"], apart := false, laid := [("math/bits.deBruijn32tab", laid_math_bits_deBruijn32tab), ("math/bits.deBruijn64tab", laid_math_bits_deBruijn64tab)], narrowed := true }
def ClockSlowUptoSaid : Prop := clockSlowUptoRow.holds Tryd.pinned (OpenSpec.upto clockSlowSpec)

/-- 'lampboxlaw10.ClockCerny', WHERE WHAT IT READS IS OF BULK AT MOST 1048576: true; the input reads as it did. -/
def clockCernyUptoRow : OpenClaim := { program := "ythlgdakdjikjhaadoor", sum := "0523dd5b322d73d9a3311ce506fe987e76ef5e60c18cbc233ae7ce557a4f4439", func := "lampbox/lampboxlaw10.ClockCerny", spec := "clockCerny", unfollowed := true, recurses := true, named := ["math/bits.deBruijn32tab", "math/bits.deBruijn64tab"], apart := false, laid := [("math/bits.deBruijn32tab", laid_math_bits_deBruijn32tab), ("math/bits.deBruijn64tab", laid_math_bits_deBruijn64tab)], narrowed := true }
def ClockCernyUptoSaid : Prop := clockCernyUptoRow.holds Tryd.pinned (OpenSpec.upto clockCernySpec)

/-- 'lampboxlaw10.ClockMerges', WHERE WHAT IT READS IS OF BULK AT MOST 1048576: true; the input reads as it did. -/
def clockMergesUptoRow : OpenClaim := { program := "ythlgdakdjikjhaadoor", sum := "0523dd5b322d73d9a3311ce506fe987e76ef5e60c18cbc233ae7ce557a4f4439", func := "lampbox/lampboxlaw10.ClockMerges", spec := "clockMerges", unfollowed := true, recurses := true, named := ["math/bits.deBruijn32tab", "math/bits.deBruijn64tab"], apart := false, laid := [("math/bits.deBruijn32tab", laid_math_bits_deBruijn32tab), ("math/bits.deBruijn64tab", laid_math_bits_deBruijn64tab)], narrowed := true }
def ClockMergesUptoSaid : Prop := clockMergesUptoRow.holds Tryd.pinned (OpenSpec.upto clockMergesSpec)

/-- 'lampboxlaw10.ClockMerged', WHERE WHAT IT READS IS OF BULK AT MOST 1048576: true; the input reads as it did. -/
def clockMergedUptoRow : OpenClaim := { program := "ythlgdakdjikjhaadoor", sum := "0523dd5b322d73d9a3311ce506fe987e76ef5e60c18cbc233ae7ce557a4f4439", func := "lampbox/lampboxlaw10.ClockMerged", spec := "clockMerged", unfollowed := true, recurses := true, named := ["math/bits.deBruijn32tab", "math/bits.deBruijn64tab"], apart := false, laid := [("math/bits.deBruijn32tab", laid_math_bits_deBruijn32tab), ("math/bits.deBruijn64tab", laid_math_bits_deBruijn64tab)], narrowed := true }
def ClockMergedUptoSaid : Prop := clockMergedUptoRow.holds Tryd.pinned (OpenSpec.upto clockMergedSpec)

/-- 'lampboxlaw10.ClockLeads', WHERE WHAT IT READS IS OF BULK AT MOST 1048576: true; the input reads as it did. -/
def clockLeadsUptoRow : OpenClaim := { program := "ythlgdakdjikjhaadoor", sum := "0523dd5b322d73d9a3311ce506fe987e76ef5e60c18cbc233ae7ce557a4f4439", func := "lampbox/lampboxlaw10.ClockLeads", spec := "clockLeads", unfollowed := true, recurses := true, named := ["math/bits.deBruijn32tab", "math/bits.deBruijn64tab"], apart := false, laid := [("math/bits.deBruijn32tab", laid_math_bits_deBruijn32tab), ("math/bits.deBruijn64tab", laid_math_bits_deBruijn64tab)], narrowed := true }
def ClockLeadsUptoSaid : Prop := clockLeadsUptoRow.holds Tryd.pinned (OpenSpec.upto clockLeadsSpec)

/-- 'lampboxlaw10.ClockImages', WHERE WHAT IT READS IS OF BULK AT MOST 1048576: true; the input reads as it did. -/
def clockImagesUptoRow : OpenClaim := { program := "ythlgdakdjikjhaadoor", sum := "0523dd5b322d73d9a3311ce506fe987e76ef5e60c18cbc233ae7ce557a4f4439", func := "lampbox/lampboxlaw10.ClockImages", spec := "clockImages", unfollowed := true, recurses := true, named := ["math/bits.deBruijn32tab", "math/bits.deBruijn64tab"], apart := false, laid := [("math/bits.deBruijn32tab", laid_math_bits_deBruijn32tab), ("math/bits.deBruijn64tab", laid_math_bits_deBruijn64tab)], narrowed := true }
def ClockImagesUptoSaid : Prop := clockImagesUptoRow.holds Tryd.pinned (OpenSpec.upto clockImagesSpec)

/-- 'lampboxlaw10.ClockInside', WHERE WHAT IT READS IS OF BULK AT MOST 1048576: true; the input reads as it did. -/
def clockInsideUptoRow : OpenClaim := { program := "ythlgdakdjikjhaadoor", sum := "0523dd5b322d73d9a3311ce506fe987e76ef5e60c18cbc233ae7ce557a4f4439", func := "lampbox/lampboxlaw10.ClockInside", spec := "clockInside", unfollowed := true, recurses := true, named := ["math/bits.deBruijn32tab", "math/bits.deBruijn64tab"], apart := false, laid := [("math/bits.deBruijn32tab", laid_math_bits_deBruijn32tab), ("math/bits.deBruijn64tab", laid_math_bits_deBruijn64tab)], narrowed := true }
def ClockInsideUptoSaid : Prop := clockInsideUptoRow.holds Tryd.pinned (OpenSpec.upto clockInsideSpec)

/-- 'lampboxlaw10.ClockOwn', WHERE WHAT IT READS IS OF BULK AT MOST 1048576: true; the input reads as it did. -/
def clockOwnUptoRow : OpenClaim := { program := "ythlgdakdjikjhaadoor", sum := "0523dd5b322d73d9a3311ce506fe987e76ef5e60c18cbc233ae7ce557a4f4439", func := "lampbox/lampboxlaw10.ClockOwn", spec := "clockOwn", unfollowed := true, recurses := true, named := ["math/bits.deBruijn32tab", "math/bits.deBruijn64tab"], apart := false, laid := [("math/bits.deBruijn32tab", laid_math_bits_deBruijn32tab), ("math/bits.deBruijn64tab", laid_math_bits_deBruijn64tab)], narrowed := true }
def ClockOwnUptoSaid : Prop := clockOwnUptoRow.holds Tryd.pinned (OpenSpec.upto clockOwnSpec)

/-- 'lampboxlaw10.ClockFirst', WHERE WHAT IT READS IS OF BULK AT MOST 1048576: true; the input reads as it did. -/
def clockFirstUptoRow : OpenClaim := { program := "ythlgdakdjikjhaadoor", sum := "0523dd5b322d73d9a3311ce506fe987e76ef5e60c18cbc233ae7ce557a4f4439", func := "lampbox/lampboxlaw10.ClockFirst", spec := "clockFirst", unfollowed := true, recurses := true, named := ["math/bits.deBruijn32tab", "math/bits.deBruijn64tab"], apart := false, laid := [("math/bits.deBruijn32tab", laid_math_bits_deBruijn32tab), ("math/bits.deBruijn64tab", laid_math_bits_deBruijn64tab)], narrowed := true }
def ClockFirstUptoSaid : Prop := clockFirstUptoRow.holds Tryd.pinned (OpenSpec.upto clockFirstSpec)

/-- 'lampboxlaw10.ClockSame', WHERE WHAT IT READS IS OF BULK AT MOST 1048576: true; the input reads as it did. -/
def clockSameUptoRow : OpenClaim := { program := "ythlgdakdjikjhaadoor", sum := "0523dd5b322d73d9a3311ce506fe987e76ef5e60c18cbc233ae7ce557a4f4439", func := "lampbox/lampboxlaw10.ClockSame", spec := "clockSame", unfollowed := true, recurses := true, named := ["math/bits.deBruijn32tab", "math/bits.deBruijn64tab"], apart := false, laid := [("math/bits.deBruijn32tab", laid_math_bits_deBruijn32tab), ("math/bits.deBruijn64tab", laid_math_bits_deBruijn64tab)], narrowed := true }
def ClockSameUptoSaid : Prop := clockSameUptoRow.holds Tryd.pinned (OpenSpec.upto clockSameSpec)

/-- 'lampboxlaw10.ClockRenamed', WHERE WHAT IT READS IS OF BULK AT MOST 1048576: true; the input reads as it did. -/
def clockRenamedUptoRow : OpenClaim := { program := "ythlgdakdjikjhaadoor", sum := "0523dd5b322d73d9a3311ce506fe987e76ef5e60c18cbc233ae7ce557a4f4439", func := "lampbox/lampboxlaw10.ClockRenamed", spec := "clockRenamed", unfollowed := true, recurses := true, named := ["math/bits.deBruijn32tab", "math/bits.deBruijn64tab"], apart := false, laid := [("math/bits.deBruijn32tab", laid_math_bits_deBruijn32tab), ("math/bits.deBruijn64tab", laid_math_bits_deBruijn64tab)], narrowed := true }
def ClockRenamedUptoSaid : Prop := clockRenamedUptoRow.holds Tryd.pinned (OpenSpec.upto clockRenamedSpec)

/-- 'lampboxlaw10.ClockResets', WHERE WHAT IT READS IS OF BULK AT MOST 1048576: true; the input reads as it did. -/
def clockResetsUptoRow : OpenClaim := { program := "ythlgdakdjikjhaadoor", sum := "0523dd5b322d73d9a3311ce506fe987e76ef5e60c18cbc233ae7ce557a4f4439", func := "lampbox/lampboxlaw10.ClockResets", spec := "clockResets", unfollowed := true, recurses := true, named := ["math/bits.deBruijn32tab", "math/bits.deBruijn64tab"], apart := false, laid := [("math/bits.deBruijn32tab", laid_math_bits_deBruijn32tab), ("math/bits.deBruijn64tab", laid_math_bits_deBruijn64tab)], narrowed := true }
def ClockResetsUptoSaid : Prop := clockResetsUptoRow.holds Tryd.pinned (OpenSpec.upto clockResetsSpec)

/-- 'lampboxlaw10.ClockAgree', WHERE WHAT IT READS IS OF BULK AT MOST 1048576: true; the input reads as it did. -/
def clockAgreeUptoRow : OpenClaim := { program := "ythlgdakdjikjhaadoor", sum := "0523dd5b322d73d9a3311ce506fe987e76ef5e60c18cbc233ae7ce557a4f4439", func := "lampbox/lampboxlaw10.ClockAgree", spec := "clockAgree", unfollowed := true, recurses := true, named := ["math/bits.deBruijn32tab", "math/bits.deBruijn64tab"], apart := false, laid := [("math/bits.deBruijn32tab", laid_math_bits_deBruijn32tab), ("math/bits.deBruijn64tab", laid_math_bits_deBruijn64tab)], narrowed := true }
def ClockAgreeUptoSaid : Prop := clockAgreeUptoRow.holds Tryd.pinned (OpenSpec.upto clockAgreeSpec)

end Rows
end Go.Proofs.YthlgdakdjikjhaaDoor
