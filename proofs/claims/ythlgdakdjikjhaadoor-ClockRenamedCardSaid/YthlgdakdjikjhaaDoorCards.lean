/-
  DERIVED. GIVEN WITH THE SEED: THE CARDS: each row of YthlgdakdjikjhaaDoorRows.lean that lists a variable, with what it lists TIED to the program's text (the seventh form; the later family's looks); each row that meets fmt, with fmt's text TOLD by the authors' own Lean function (tested against real Go, not proved from fmt's source: count such statements apart). THE CARD IS WHAT COUNTS. Prove the row's statement (the work); the ties are given (YthlgdakdjikjhaaDoorTie.lean); close each card by the builder's one call (the guide's Derived/Test/ToyasCard.lean, 'card_holds'). Laid BY PROGRAM, IN A SANDBOX (cutbox-door.mjs). By AI agents, Wed Nov 11 2026. No macro, syntax, notation, axiom, sorry.
-/
import Derived.Test.YthlgdakdjikjhaaDoorRows
import GoSem.ClaimSeven
namespace Go.Proofs.YthlgdakdjikjhaaDoor
namespace Rows

/-- THE TIED CARD OF 'lampboxlaw10.ClockSlow'. -/
def clockSlowCard : Claim7 := { stood := { row := clockSlowRow, standIns := [], harness := (true, "334643649faa9cab4d28e5e0698c4c08b14c4a8772dd14ad69d60a999747cb79"), looks := false }, kinds := [], alts := [], laidByText := true, laidKinds := [.data, .data], laidTests := true, laidLooks := .later }
def ClockSlowCardSaid : Prop := Claim7.holds Tryd.pinned (.plain (OpenSpec.ofChange clockSlowSpec)) clockSlowCard

/-- THE TIED CARD OF 'lampboxlaw10.ClockCerny'. -/
def clockCernyCard : Claim7 := { stood := { row := clockCernyRow, standIns := [], harness := (true, "334643649faa9cab4d28e5e0698c4c08b14c4a8772dd14ad69d60a999747cb79"), looks := false }, kinds := [], alts := [], laidByText := true, laidKinds := [.data, .data], laidTests := true, laidLooks := .later }
def ClockCernyCardSaid : Prop := Claim7.holds Tryd.pinned (.plain (OpenSpec.ofChange clockCernySpec)) clockCernyCard

/-- THE TIED CARD OF 'lampboxlaw10.ClockMerges'. -/
def clockMergesCard : Claim7 := { stood := { row := clockMergesRow, standIns := [], harness := (true, "334643649faa9cab4d28e5e0698c4c08b14c4a8772dd14ad69d60a999747cb79"), looks := false }, kinds := [], alts := [], laidByText := true, laidKinds := [.data, .data], laidTests := true, laidLooks := .later }
def ClockMergesCardSaid : Prop := Claim7.holds Tryd.pinned (.plain (OpenSpec.ofChange clockMergesSpec)) clockMergesCard

/-- THE TIED CARD OF 'lampboxlaw10.ClockMerged'. -/
def clockMergedCard : Claim7 := { stood := { row := clockMergedRow, standIns := [], harness := (true, "334643649faa9cab4d28e5e0698c4c08b14c4a8772dd14ad69d60a999747cb79"), looks := false }, kinds := [], alts := [], laidByText := true, laidKinds := [.data, .data], laidTests := true, laidLooks := .later }
def ClockMergedCardSaid : Prop := Claim7.holds Tryd.pinned (.plain (OpenSpec.ofChange clockMergedSpec)) clockMergedCard

/-- THE TIED CARD OF 'lampboxlaw10.ClockLeads'. -/
def clockLeadsCard : Claim7 := { stood := { row := clockLeadsRow, standIns := [], harness := (true, "334643649faa9cab4d28e5e0698c4c08b14c4a8772dd14ad69d60a999747cb79"), looks := false }, kinds := [], alts := [], laidByText := true, laidKinds := [.data, .data], laidTests := true, laidLooks := .later }
def ClockLeadsCardSaid : Prop := Claim7.holds Tryd.pinned (.plain (OpenSpec.ofChange clockLeadsSpec)) clockLeadsCard

/-- THE TIED CARD OF 'lampboxlaw10.ClockImages'. -/
def clockImagesCard : Claim7 := { stood := { row := clockImagesRow, standIns := [], harness := (true, "334643649faa9cab4d28e5e0698c4c08b14c4a8772dd14ad69d60a999747cb79"), looks := false }, kinds := [], alts := [], laidByText := true, laidKinds := [.data, .data], laidTests := true, laidLooks := .later }
def ClockImagesCardSaid : Prop := Claim7.holds Tryd.pinned (.plain (OpenSpec.ofChange clockImagesSpec)) clockImagesCard

/-- THE TIED CARD OF 'lampboxlaw10.ClockInside'. -/
def clockInsideCard : Claim7 := { stood := { row := clockInsideRow, standIns := [], harness := (true, "334643649faa9cab4d28e5e0698c4c08b14c4a8772dd14ad69d60a999747cb79"), looks := false }, kinds := [], alts := [], laidByText := true, laidKinds := [.data, .data], laidTests := true, laidLooks := .later }
def ClockInsideCardSaid : Prop := Claim7.holds Tryd.pinned (.plain (OpenSpec.ofChange clockInsideSpec)) clockInsideCard

/-- THE TIED CARD OF 'lampboxlaw10.ClockOwn'. -/
def clockOwnCard : Claim7 := { stood := { row := clockOwnRow, standIns := [], harness := (true, "334643649faa9cab4d28e5e0698c4c08b14c4a8772dd14ad69d60a999747cb79"), looks := false }, kinds := [], alts := [], laidByText := true, laidKinds := [.data, .data], laidTests := true, laidLooks := .later }
def ClockOwnCardSaid : Prop := Claim7.holds Tryd.pinned (.plain (OpenSpec.ofChange clockOwnSpec)) clockOwnCard

/-- THE TIED CARD OF 'lampboxlaw10.ClockFirst'. -/
def clockFirstCard : Claim7 := { stood := { row := clockFirstRow, standIns := [], harness := (true, "334643649faa9cab4d28e5e0698c4c08b14c4a8772dd14ad69d60a999747cb79"), looks := false }, kinds := [], alts := [], laidByText := true, laidKinds := [.data, .data], laidTests := true, laidLooks := .later }
def ClockFirstCardSaid : Prop := Claim7.holds Tryd.pinned (.plain (OpenSpec.ofChange clockFirstSpec)) clockFirstCard

/-- THE TIED CARD OF 'lampboxlaw10.ClockSame'. -/
def clockSameCard : Claim7 := { stood := { row := clockSameRow, standIns := [], harness := (true, "334643649faa9cab4d28e5e0698c4c08b14c4a8772dd14ad69d60a999747cb79"), looks := false }, kinds := [], alts := [], laidByText := true, laidKinds := [.data, .data], laidTests := true, laidLooks := .later }
def ClockSameCardSaid : Prop := Claim7.holds Tryd.pinned (.plain (OpenSpec.ofChange clockSameSpec)) clockSameCard

/-- THE TIED CARD OF 'lampboxlaw10.ClockRenamed'. -/
def clockRenamedCard : Claim7 := { stood := { row := clockRenamedRow, standIns := [], harness := (true, "334643649faa9cab4d28e5e0698c4c08b14c4a8772dd14ad69d60a999747cb79"), looks := false }, kinds := [], alts := [], laidByText := true, laidKinds := [.data, .data], laidTests := true, laidLooks := .later }
def ClockRenamedCardSaid : Prop := Claim7.holds Tryd.pinned (.plain (OpenSpec.ofChange clockRenamedSpec)) clockRenamedCard

/-- THE TIED CARD OF 'lampboxlaw10.ClockResets'. -/
def clockResetsCard : Claim7 := { stood := { row := clockResetsRow, standIns := [], harness := (true, "334643649faa9cab4d28e5e0698c4c08b14c4a8772dd14ad69d60a999747cb79"), looks := false }, kinds := [], alts := [], laidByText := true, laidKinds := [.data, .data], laidTests := true, laidLooks := .later }
def ClockResetsCardSaid : Prop := Claim7.holds Tryd.pinned (.plain (OpenSpec.ofChange clockResetsSpec)) clockResetsCard

/-- THE TIED CARD OF 'lampboxlaw10.ClockAgree'. -/
def clockAgreeCard : Claim7 := { stood := { row := clockAgreeRow, standIns := [], harness := (true, "334643649faa9cab4d28e5e0698c4c08b14c4a8772dd14ad69d60a999747cb79"), looks := false }, kinds := [], alts := [], laidByText := true, laidKinds := [.data, .data], laidTests := true, laidLooks := .later }
def ClockAgreeCardSaid : Prop := Claim7.holds Tryd.pinned (.plain (OpenSpec.ofChange clockAgreeSpec)) clockAgreeCard

/-- THE SECOND FORM's CARD OF 'lampboxlaw10.ClockSlow'. -/
def clockSlowUptoCard : Claim7 := { stood := { row := clockSlowUptoRow, standIns := [], harness := (true, "334643649faa9cab4d28e5e0698c4c08b14c4a8772dd14ad69d60a999747cb79"), looks := false }, kinds := [], alts := [], laidByText := true, laidKinds := [.data, .data], laidTests := true, laidLooks := .later }
def ClockSlowUptoCardSaid : Prop := Claim7.holds Tryd.pinned (.plain (OpenSpec.upto clockSlowSpec)) clockSlowUptoCard

/-- THE SECOND FORM's CARD OF 'lampboxlaw10.ClockCerny'. -/
def clockCernyUptoCard : Claim7 := { stood := { row := clockCernyUptoRow, standIns := [], harness := (true, "334643649faa9cab4d28e5e0698c4c08b14c4a8772dd14ad69d60a999747cb79"), looks := false }, kinds := [], alts := [], laidByText := true, laidKinds := [.data, .data], laidTests := true, laidLooks := .later }
def ClockCernyUptoCardSaid : Prop := Claim7.holds Tryd.pinned (.plain (OpenSpec.upto clockCernySpec)) clockCernyUptoCard

/-- THE SECOND FORM's CARD OF 'lampboxlaw10.ClockMerges'. -/
def clockMergesUptoCard : Claim7 := { stood := { row := clockMergesUptoRow, standIns := [], harness := (true, "334643649faa9cab4d28e5e0698c4c08b14c4a8772dd14ad69d60a999747cb79"), looks := false }, kinds := [], alts := [], laidByText := true, laidKinds := [.data, .data], laidTests := true, laidLooks := .later }
def ClockMergesUptoCardSaid : Prop := Claim7.holds Tryd.pinned (.plain (OpenSpec.upto clockMergesSpec)) clockMergesUptoCard

/-- THE SECOND FORM's CARD OF 'lampboxlaw10.ClockMerged'. -/
def clockMergedUptoCard : Claim7 := { stood := { row := clockMergedUptoRow, standIns := [], harness := (true, "334643649faa9cab4d28e5e0698c4c08b14c4a8772dd14ad69d60a999747cb79"), looks := false }, kinds := [], alts := [], laidByText := true, laidKinds := [.data, .data], laidTests := true, laidLooks := .later }
def ClockMergedUptoCardSaid : Prop := Claim7.holds Tryd.pinned (.plain (OpenSpec.upto clockMergedSpec)) clockMergedUptoCard

/-- THE SECOND FORM's CARD OF 'lampboxlaw10.ClockLeads'. -/
def clockLeadsUptoCard : Claim7 := { stood := { row := clockLeadsUptoRow, standIns := [], harness := (true, "334643649faa9cab4d28e5e0698c4c08b14c4a8772dd14ad69d60a999747cb79"), looks := false }, kinds := [], alts := [], laidByText := true, laidKinds := [.data, .data], laidTests := true, laidLooks := .later }
def ClockLeadsUptoCardSaid : Prop := Claim7.holds Tryd.pinned (.plain (OpenSpec.upto clockLeadsSpec)) clockLeadsUptoCard

/-- THE SECOND FORM's CARD OF 'lampboxlaw10.ClockImages'. -/
def clockImagesUptoCard : Claim7 := { stood := { row := clockImagesUptoRow, standIns := [], harness := (true, "334643649faa9cab4d28e5e0698c4c08b14c4a8772dd14ad69d60a999747cb79"), looks := false }, kinds := [], alts := [], laidByText := true, laidKinds := [.data, .data], laidTests := true, laidLooks := .later }
def ClockImagesUptoCardSaid : Prop := Claim7.holds Tryd.pinned (.plain (OpenSpec.upto clockImagesSpec)) clockImagesUptoCard

/-- THE SECOND FORM's CARD OF 'lampboxlaw10.ClockInside'. -/
def clockInsideUptoCard : Claim7 := { stood := { row := clockInsideUptoRow, standIns := [], harness := (true, "334643649faa9cab4d28e5e0698c4c08b14c4a8772dd14ad69d60a999747cb79"), looks := false }, kinds := [], alts := [], laidByText := true, laidKinds := [.data, .data], laidTests := true, laidLooks := .later }
def ClockInsideUptoCardSaid : Prop := Claim7.holds Tryd.pinned (.plain (OpenSpec.upto clockInsideSpec)) clockInsideUptoCard

/-- THE SECOND FORM's CARD OF 'lampboxlaw10.ClockOwn'. -/
def clockOwnUptoCard : Claim7 := { stood := { row := clockOwnUptoRow, standIns := [], harness := (true, "334643649faa9cab4d28e5e0698c4c08b14c4a8772dd14ad69d60a999747cb79"), looks := false }, kinds := [], alts := [], laidByText := true, laidKinds := [.data, .data], laidTests := true, laidLooks := .later }
def ClockOwnUptoCardSaid : Prop := Claim7.holds Tryd.pinned (.plain (OpenSpec.upto clockOwnSpec)) clockOwnUptoCard

/-- THE SECOND FORM's CARD OF 'lampboxlaw10.ClockFirst'. -/
def clockFirstUptoCard : Claim7 := { stood := { row := clockFirstUptoRow, standIns := [], harness := (true, "334643649faa9cab4d28e5e0698c4c08b14c4a8772dd14ad69d60a999747cb79"), looks := false }, kinds := [], alts := [], laidByText := true, laidKinds := [.data, .data], laidTests := true, laidLooks := .later }
def ClockFirstUptoCardSaid : Prop := Claim7.holds Tryd.pinned (.plain (OpenSpec.upto clockFirstSpec)) clockFirstUptoCard

/-- THE SECOND FORM's CARD OF 'lampboxlaw10.ClockSame'. -/
def clockSameUptoCard : Claim7 := { stood := { row := clockSameUptoRow, standIns := [], harness := (true, "334643649faa9cab4d28e5e0698c4c08b14c4a8772dd14ad69d60a999747cb79"), looks := false }, kinds := [], alts := [], laidByText := true, laidKinds := [.data, .data], laidTests := true, laidLooks := .later }
def ClockSameUptoCardSaid : Prop := Claim7.holds Tryd.pinned (.plain (OpenSpec.upto clockSameSpec)) clockSameUptoCard

/-- THE SECOND FORM's CARD OF 'lampboxlaw10.ClockRenamed'. -/
def clockRenamedUptoCard : Claim7 := { stood := { row := clockRenamedUptoRow, standIns := [], harness := (true, "334643649faa9cab4d28e5e0698c4c08b14c4a8772dd14ad69d60a999747cb79"), looks := false }, kinds := [], alts := [], laidByText := true, laidKinds := [.data, .data], laidTests := true, laidLooks := .later }
def ClockRenamedUptoCardSaid : Prop := Claim7.holds Tryd.pinned (.plain (OpenSpec.upto clockRenamedSpec)) clockRenamedUptoCard

/-- THE SECOND FORM's CARD OF 'lampboxlaw10.ClockResets'. -/
def clockResetsUptoCard : Claim7 := { stood := { row := clockResetsUptoRow, standIns := [], harness := (true, "334643649faa9cab4d28e5e0698c4c08b14c4a8772dd14ad69d60a999747cb79"), looks := false }, kinds := [], alts := [], laidByText := true, laidKinds := [.data, .data], laidTests := true, laidLooks := .later }
def ClockResetsUptoCardSaid : Prop := Claim7.holds Tryd.pinned (.plain (OpenSpec.upto clockResetsSpec)) clockResetsUptoCard

/-- THE SECOND FORM's CARD OF 'lampboxlaw10.ClockAgree'. -/
def clockAgreeUptoCard : Claim7 := { stood := { row := clockAgreeUptoRow, standIns := [], harness := (true, "334643649faa9cab4d28e5e0698c4c08b14c4a8772dd14ad69d60a999747cb79"), looks := false }, kinds := [], alts := [], laidByText := true, laidKinds := [.data, .data], laidTests := true, laidLooks := .later }
def ClockAgreeUptoCardSaid : Prop := Claim7.holds Tryd.pinned (.plain (OpenSpec.upto clockAgreeSpec)) clockAgreeUptoCard
end Rows
end Go.Proofs.YthlgdakdjikjhaaDoor
