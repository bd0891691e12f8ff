/-
  DERIVED. GIVEN WITH THE SEED: THE CARDS: each row of YtbjpkbolmpcmfaaDoorRows.lean that lists a variable, with what it lists TIED to the program's text (the seventh form; the later family's looks); each row that meets fmt, with fmt's text TOLD by the authors' own Lean function (tested against real Go, not proved from fmt's source: count such statements apart). THE CARD IS WHAT COUNTS. Prove the row's statement (the work); the ties are given (YtbjpkbolmpcmfaaDoorTie.lean); close each card by the builder's one call (the guide's Derived/Test/ToyasCard.lean, 'card_holds'). Laid BY PROGRAM, IN A SANDBOX (cutbox-door.mjs). By AI agents, Wed Nov 11 2026. No macro, syntax, notation, axiom, sorry.
-/
import Derived.Test.YtbjpkbolmpcmfaaDoorRows
import GoSem.ClaimSeven
namespace Go.Proofs.YtbjpkbolmpcmfaaDoor
namespace Rows

/-- THE TIED CARD OF 'cribblelaw14.VfiveReads'. -/
def vfiveReadsCard : Claim7 := { stood := { row := vfiveReadsRow, standIns := [], harness := (true, "d5e128d47a0b8c9b6a43ae7d9f17432b6e7a3cd710fe489a87476d699183f07b"), looks := false }, kinds := [], alts := [], laidByText := true, laidKinds := [.data, .pinned], laidTests := true, laidLooks := .later }
def VfiveReadsCardSaid : Prop := Claim7.holds Tryd.pinned (.plain (OpenSpec.ofChange vfiveReadsSpec)) vfiveReadsCard

/-- THE TIED CARD OF 'cribblelaw14.VfiveWrites'. -/
def vfiveWritesCard : Claim7 := { stood := { row := vfiveWritesRow, standIns := [], harness := (true, "d5e128d47a0b8c9b6a43ae7d9f17432b6e7a3cd710fe489a87476d699183f07b"), looks := false }, kinds := [], alts := [], laidByText := true, laidKinds := [.data, .pinned], laidTests := true, laidLooks := .later }
def VfiveWritesCardSaid : Prop := Claim7.holds Tryd.pinned (.plain (OpenSpec.ofChange vfiveWritesSpec)) vfiveWritesCard

/-- THE TIED CARD OF 'cribblelaw14.VfiveBack'. -/
def vfiveBackCard : Claim7 := { stood := { row := vfiveBackRow, standIns := [], harness := (true, "d5e128d47a0b8c9b6a43ae7d9f17432b6e7a3cd710fe489a87476d699183f07b"), looks := false }, kinds := [], alts := [], laidByText := true, laidKinds := [.data, .pinned], laidTests := true, laidLooks := .later }
def VfiveBackCardSaid : Prop := Claim7.holds Tryd.pinned (.plain (OpenSpec.ofChange vfiveBackSpec)) vfiveBackCard

/-- THE TIED CARD OF 'cribblelaw14.VfiveThere'. -/
def vfiveThereCard : Claim7 := { stood := { row := vfiveThereRow, standIns := [], harness := (true, "d5e128d47a0b8c9b6a43ae7d9f17432b6e7a3cd710fe489a87476d699183f07b"), looks := false }, kinds := [], alts := [], laidByText := true, laidKinds := [.data, .pinned], laidTests := true, laidLooks := .later }
def VfiveThereCardSaid : Prop := Claim7.holds Tryd.pinned (.plain (OpenSpec.ofChange vfiveThereSpec)) vfiveThereCard

/-- THE TIED CARD OF 'cribblelaw14.VfiveGaps'. -/
def vfiveGapsCard : Claim7 := { stood := { row := vfiveGapsRow, standIns := [], harness := (true, "d5e128d47a0b8c9b6a43ae7d9f17432b6e7a3cd710fe489a87476d699183f07b"), looks := false }, kinds := [], alts := [], laidByText := true, laidKinds := [.data, .pinned], laidTests := true, laidLooks := .later }
def VfiveGapsCardSaid : Prop := Claim7.holds Tryd.pinned (.plain (OpenSpec.ofChange vfiveGapsSpec)) vfiveGapsCard

/-- THE SECOND FORM's CARD OF 'cribblelaw14.VfiveReads'. -/
def vfiveReadsUptoCard : Claim7 := { stood := { row := vfiveReadsUptoRow, standIns := [], harness := (true, "d5e128d47a0b8c9b6a43ae7d9f17432b6e7a3cd710fe489a87476d699183f07b"), looks := false }, kinds := [], alts := [], laidByText := true, laidKinds := [.data, .pinned], laidTests := true, laidLooks := .later }
def VfiveReadsUptoCardSaid : Prop := Claim7.holds Tryd.pinned (.plain (OpenSpec.upto vfiveReadsSpec)) vfiveReadsUptoCard

/-- THE SECOND FORM's CARD OF 'cribblelaw14.VfiveWrites'. -/
def vfiveWritesUptoCard : Claim7 := { stood := { row := vfiveWritesUptoRow, standIns := [], harness := (true, "d5e128d47a0b8c9b6a43ae7d9f17432b6e7a3cd710fe489a87476d699183f07b"), looks := false }, kinds := [], alts := [], laidByText := true, laidKinds := [.data, .pinned], laidTests := true, laidLooks := .later }
def VfiveWritesUptoCardSaid : Prop := Claim7.holds Tryd.pinned (.plain (OpenSpec.upto vfiveWritesSpec)) vfiveWritesUptoCard

/-- THE SECOND FORM's CARD OF 'cribblelaw14.VfiveBack'. -/
def vfiveBackUptoCard : Claim7 := { stood := { row := vfiveBackUptoRow, standIns := [], harness := (true, "d5e128d47a0b8c9b6a43ae7d9f17432b6e7a3cd710fe489a87476d699183f07b"), looks := false }, kinds := [], alts := [], laidByText := true, laidKinds := [.data, .pinned], laidTests := true, laidLooks := .later }
def VfiveBackUptoCardSaid : Prop := Claim7.holds Tryd.pinned (.plain (OpenSpec.upto vfiveBackSpec)) vfiveBackUptoCard

/-- THE SECOND FORM's CARD OF 'cribblelaw14.VfiveThere'. -/
def vfiveThereUptoCard : Claim7 := { stood := { row := vfiveThereUptoRow, standIns := [], harness := (true, "d5e128d47a0b8c9b6a43ae7d9f17432b6e7a3cd710fe489a87476d699183f07b"), looks := false }, kinds := [], alts := [], laidByText := true, laidKinds := [.data, .pinned], laidTests := true, laidLooks := .later }
def VfiveThereUptoCardSaid : Prop := Claim7.holds Tryd.pinned (.plain (OpenSpec.upto vfiveThereSpec)) vfiveThereUptoCard

/-- THE SECOND FORM's CARD OF 'cribblelaw14.VfiveGaps'. -/
def vfiveGapsUptoCard : Claim7 := { stood := { row := vfiveGapsUptoRow, standIns := [], harness := (true, "d5e128d47a0b8c9b6a43ae7d9f17432b6e7a3cd710fe489a87476d699183f07b"), looks := false }, kinds := [], alts := [], laidByText := true, laidKinds := [.data, .pinned], laidTests := true, laidLooks := .later }
def VfiveGapsUptoCardSaid : Prop := Claim7.holds Tryd.pinned (.plain (OpenSpec.upto vfiveGapsSpec)) vfiveGapsUptoCard
end Rows
end Go.Proofs.YtbjpkbolmpcmfaaDoor
