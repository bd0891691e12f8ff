/-
  DERIVED. GIVEN WITH THE SEED: THE CARDS: each row of YtflbjjpcjeinlaaDoorRows.lean that lists a variable, with what it lists TIED to the program's text (the seventh form; the later family's looks); each row that meets fmt, with fmt's text TOLD by the authors' own Lean function (tested against real Go, not proved from fmt's source: count such statements apart). THE CARD IS WHAT COUNTS. Prove the row's statement (the work); the ties are given (YtflbjjpcjeinlaaDoorTie.lean); close each card by the builder's one call (the guide's Derived/Test/ToyasCard.lean, 'card_holds'). Laid BY PROGRAM, IN A SANDBOX (cutbox-door.mjs). By AI agents, Wed Nov 11 2026. No macro, syntax, notation, axiom, sorry.
-/
import Derived.Test.YtflbjjpcjeinlaaDoorRows
import GoSem.ClaimSeven
namespace Go.Proofs.YtflbjjpcjeinlaaDoor
namespace Rows

/-- THE TIED CARD OF 'cribblelaw32.ConfigThere'. -/
def configThereCard : Claim7 := { stood := { row := configThereRow, standIns := [], harness := (true, "2789690b32d1b8682888a4f57a05c1c4c414e5813891ca4b9b860220cd9e1ebe"), looks := false }, kinds := [], alts := [], laidByText := true, laidKinds := [.data, .pinned], laidTests := true, laidLooks := .later }
def ConfigThereCardSaid : Prop := Claim7.holds Tryd.pinned (.plain (OpenSpec.ofChange configThereSpec)) configThereCard

/-- THE TIED CARD OF 'cribblelaw32.ConfigBack'. -/
def configBackCard : Claim7 := { stood := { row := configBackRow, standIns := [], harness := (true, "2789690b32d1b8682888a4f57a05c1c4c414e5813891ca4b9b860220cd9e1ebe"), looks := false }, kinds := [], alts := [], laidByText := true, laidKinds := [.data, .pinned], laidTests := true, laidLooks := .later }
def ConfigBackCardSaid : Prop := Claim7.holds Tryd.pinned (.plain (OpenSpec.ofChange configBackSpec)) configBackCard

/-- THE SECOND FORM's CARD OF 'cribblelaw32.ConfigThere'. -/
def configThereUptoCard : Claim7 := { stood := { row := configThereUptoRow, standIns := [], harness := (true, "2789690b32d1b8682888a4f57a05c1c4c414e5813891ca4b9b860220cd9e1ebe"), looks := false }, kinds := [], alts := [], laidByText := true, laidKinds := [.data, .pinned], laidTests := true, laidLooks := .later }
def ConfigThereUptoCardSaid : Prop := Claim7.holds Tryd.pinned (.plain (OpenSpec.upto configThereSpec)) configThereUptoCard

/-- THE SECOND FORM's CARD OF 'cribblelaw32.ConfigBack'. -/
def configBackUptoCard : Claim7 := { stood := { row := configBackUptoRow, standIns := [], harness := (true, "2789690b32d1b8682888a4f57a05c1c4c414e5813891ca4b9b860220cd9e1ebe"), looks := false }, kinds := [], alts := [], laidByText := true, laidKinds := [.data, .pinned], laidTests := true, laidLooks := .later }
def ConfigBackUptoCardSaid : Prop := Claim7.holds Tryd.pinned (.plain (OpenSpec.upto configBackSpec)) configBackUptoCard
end Rows
end Go.Proofs.YtflbjjpcjeinlaaDoor
