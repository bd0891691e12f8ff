/-
  DERIVED. GIVEN WITH THE SEED: THE CARDS: each row of YtflbjjpcjeinlaaGreatDoorRows.lean that lists a variable, with what it lists TIED to the program's text (the seventh form; the later family's looks); each row that meets fmt, with fmt's text TOLD by the authors' own Lean function (tested against real Go, not proved from fmt's source: count such statements apart). THE CARD IS WHAT COUNTS. Prove the row's statement (the work); the ties are given (YtflbjjpcjeinlaaGreatDoorTie.lean); close each card by the builder's one call (the guide's Derived/Test/ToyasCard.lean, 'card_holds'). Laid BY PROGRAM, IN A SANDBOX (cutbox-door.mjs). By AI agents, Wed Nov 11 2026. No macro, syntax, notation, axiom, sorry.
-/
import Derived.Test.YtflbjjpcjeinlaaGreatDoorRows
import GoSem.ClaimSeven
namespace Go.Proofs.YtflbjjpcjeinlaaGreatDoor
namespace Rows

/-- THE TIED CARD OF 'cribblelaw32.ConfigTexts'. -/
def configTextsCard : Claim7 := { stood := { row := configTextsRow, standIns := [], harness := (true, "411d38e38ff700b7d8aeac8962912d4fe26b599273c31bfbdf5f0b4f02d21ea0"), looks := false }, kinds := [], alts := [], laidByText := true, laidKinds := [.data, .pinned], laidTests := true, laidLooks := .later }
def ConfigTextsCardSaid : Prop := Claim7.holds Tryz.pinned (.plain (OpenSpec.ofChange configTextsSpec)) configTextsCard

/-- THE TIED CARD OF 'cribblelaw32.ConfigBytes'. -/
def configBytesCard : Claim7 := { stood := { row := configBytesRow, standIns := [], harness := (true, "411d38e38ff700b7d8aeac8962912d4fe26b599273c31bfbdf5f0b4f02d21ea0"), looks := false }, kinds := [], alts := [], laidByText := true, laidKinds := [.data, .pinned], laidTests := true, laidLooks := .later }
def ConfigBytesCardSaid : Prop := Claim7.holds Tryz.pinned (.plain (OpenSpec.ofChange configBytesSpec)) configBytesCard

/-- THE TIED CARD OF 'cribblelaw32.ConfigMakes'. -/
def configMakesCard : Claim7 := { stood := { row := configMakesRow, standIns := [], harness := (true, "411d38e38ff700b7d8aeac8962912d4fe26b599273c31bfbdf5f0b4f02d21ea0"), looks := false }, kinds := [], alts := [], laidByText := true, laidKinds := [.data, .pinned], laidTests := true, laidLooks := .later }
def ConfigMakesCardSaid : Prop := Claim7.holds Tryz.pinned (.plain (OpenSpec.ofChange configMakesSpec)) configMakesCard

/-- THE SECOND FORM's CARD OF 'cribblelaw32.ConfigTexts'. -/
def configTextsUptoCard : Claim7 := { stood := { row := configTextsUptoRow, standIns := [], harness := (true, "411d38e38ff700b7d8aeac8962912d4fe26b599273c31bfbdf5f0b4f02d21ea0"), looks := false }, kinds := [], alts := [], laidByText := true, laidKinds := [.data, .pinned], laidTests := true, laidLooks := .later }
def ConfigTextsUptoCardSaid : Prop := Claim7.holds Tryz.pinned (.plain (OpenSpec.upto configTextsSpec)) configTextsUptoCard

/-- THE SECOND FORM's CARD OF 'cribblelaw32.ConfigBytes'. -/
def configBytesUptoCard : Claim7 := { stood := { row := configBytesUptoRow, standIns := [], harness := (true, "411d38e38ff700b7d8aeac8962912d4fe26b599273c31bfbdf5f0b4f02d21ea0"), looks := false }, kinds := [], alts := [], laidByText := true, laidKinds := [.data, .pinned], laidTests := true, laidLooks := .later }
def ConfigBytesUptoCardSaid : Prop := Claim7.holds Tryz.pinned (.plain (OpenSpec.upto configBytesSpec)) configBytesUptoCard

/-- THE SECOND FORM's CARD OF 'cribblelaw32.ConfigMakes'. -/
def configMakesUptoCard : Claim7 := { stood := { row := configMakesUptoRow, standIns := [], harness := (true, "411d38e38ff700b7d8aeac8962912d4fe26b599273c31bfbdf5f0b4f02d21ea0"), looks := false }, kinds := [], alts := [], laidByText := true, laidKinds := [.data, .pinned], laidTests := true, laidLooks := .later }
def ConfigMakesUptoCardSaid : Prop := Claim7.holds Tryz.pinned (.plain (OpenSpec.upto configMakesSpec)) configMakesUptoCard
end Rows
end Go.Proofs.YtflbjjpcjeinlaaGreatDoor
