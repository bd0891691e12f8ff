/-
  DERIVED. GIVEN WITH THE SEED: THE CARDS: each row of YtadmfmbpojcnpaaDoorRows.lean that lists a variable, with what it lists TIED to the program's text (the seventh form; the later family's looks); each row that meets fmt, with fmt's text TOLD by the authors' own Lean function (tested against real Go, not proved from fmt's source: count such statements apart). THE CARD IS WHAT COUNTS. Prove the row's statement (the work); the ties are given (YtadmfmbpojcnpaaDoorTie.lean); close each card by the builder's one call (the guide's Derived/Test/ToyasCard.lean, 'card_holds'). Laid BY PROGRAM, IN A SANDBOX (cutbox-door.mjs). By AI agents, Wed Nov 11 2026. No macro, syntax, notation, axiom, sorry.
-/
import Derived.Test.YtadmfmbpojcnpaaDoorRows
import GoSem.ClaimSeven
namespace Go.Proofs.YtadmfmbpojcnpaaDoor
namespace Rows

/-- THE TIED CARD OF 'cribblelaw13.FlowTells'. -/
def flowTellsCard : Claim7 := { stood := { row := flowTellsRow, standIns := [], harness := (true, "f0f47fefe5c1aa4f2941bebe1e7481617de56f22507357fadf486eb8b69f13db"), looks := false }, kinds := [], alts := [], laidByText := true, laidKinds := [.data, .pinned], laidTests := true, laidLooks := .later }
def FlowTellsCardSaid : Prop := Claim7.holds Tryd.pinned (.plain (OpenSpec.ofChange flowTellsSpec)) flowTellsCard

/-- THE TIED CARD OF 'cribblelaw13.FlowTotals'. -/
def flowTotalsCard : Claim7 := { stood := { row := flowTotalsRow, standIns := [], harness := (true, "f0f47fefe5c1aa4f2941bebe1e7481617de56f22507357fadf486eb8b69f13db"), looks := false }, kinds := [], alts := [], laidByText := true, laidKinds := [.data, .pinned], laidTests := true, laidLooks := .later }
def FlowTotalsCardSaid : Prop := Claim7.holds Tryd.pinned (.plain (OpenSpec.ofChange flowTotalsSpec)) flowTotalsCard

/-- THE TIED CARD OF 'cribblelaw13.FlowTurns'. -/
def flowTurnsCard : Claim7 := { stood := { row := flowTurnsRow, standIns := [], harness := (true, "f0f47fefe5c1aa4f2941bebe1e7481617de56f22507357fadf486eb8b69f13db"), looks := false }, kinds := [], alts := [], laidByText := true, laidKinds := [.data, .pinned], laidTests := true, laidLooks := .later }
def FlowTurnsCardSaid : Prop := Claim7.holds Tryd.pinned (.plain (OpenSpec.ofChange flowTurnsSpec)) flowTurnsCard

/-- THE TIED CARD OF 'cribblelaw13.FlowLeaf'. -/
def flowLeafCard : Claim7 := { stood := { row := flowLeafRow, standIns := [], harness := (true, "f0f47fefe5c1aa4f2941bebe1e7481617de56f22507357fadf486eb8b69f13db"), looks := false }, kinds := [], alts := [], laidByText := true, laidKinds := [.data, .pinned], laidTests := true, laidLooks := .later }
def FlowLeafCardSaid : Prop := Claim7.holds Tryd.pinned (.plain (OpenSpec.ofChange flowLeafSpec)) flowLeafCard

/-- THE TIED CARD OF 'cribblelaw13.FlowAdds'. -/
def flowAddsCard : Claim7 := { stood := { row := flowAddsRow, standIns := [], harness := (true, "f0f47fefe5c1aa4f2941bebe1e7481617de56f22507357fadf486eb8b69f13db"), looks := false }, kinds := [], alts := [], laidByText := true, laidKinds := [.data, .pinned], laidTests := true, laidLooks := .later }
def FlowAddsCardSaid : Prop := Claim7.holds Tryd.pinned (.plain (OpenSpec.ofChange flowAddsSpec)) flowAddsCard

/-- THE SECOND FORM's CARD OF 'cribblelaw13.FlowTells'. -/
def flowTellsUptoCard : Claim7 := { stood := { row := flowTellsUptoRow, standIns := [], harness := (true, "f0f47fefe5c1aa4f2941bebe1e7481617de56f22507357fadf486eb8b69f13db"), looks := false }, kinds := [], alts := [], laidByText := true, laidKinds := [.data, .pinned], laidTests := true, laidLooks := .later }
def FlowTellsUptoCardSaid : Prop := Claim7.holds Tryd.pinned (.plain (OpenSpec.upto flowTellsSpec)) flowTellsUptoCard

/-- THE SECOND FORM's CARD OF 'cribblelaw13.FlowTotals'. -/
def flowTotalsUptoCard : Claim7 := { stood := { row := flowTotalsUptoRow, standIns := [], harness := (true, "f0f47fefe5c1aa4f2941bebe1e7481617de56f22507357fadf486eb8b69f13db"), looks := false }, kinds := [], alts := [], laidByText := true, laidKinds := [.data, .pinned], laidTests := true, laidLooks := .later }
def FlowTotalsUptoCardSaid : Prop := Claim7.holds Tryd.pinned (.plain (OpenSpec.upto flowTotalsSpec)) flowTotalsUptoCard

/-- THE SECOND FORM's CARD OF 'cribblelaw13.FlowTurns'. -/
def flowTurnsUptoCard : Claim7 := { stood := { row := flowTurnsUptoRow, standIns := [], harness := (true, "f0f47fefe5c1aa4f2941bebe1e7481617de56f22507357fadf486eb8b69f13db"), looks := false }, kinds := [], alts := [], laidByText := true, laidKinds := [.data, .pinned], laidTests := true, laidLooks := .later }
def FlowTurnsUptoCardSaid : Prop := Claim7.holds Tryd.pinned (.plain (OpenSpec.upto flowTurnsSpec)) flowTurnsUptoCard

/-- THE SECOND FORM's CARD OF 'cribblelaw13.FlowLeaf'. -/
def flowLeafUptoCard : Claim7 := { stood := { row := flowLeafUptoRow, standIns := [], harness := (true, "f0f47fefe5c1aa4f2941bebe1e7481617de56f22507357fadf486eb8b69f13db"), looks := false }, kinds := [], alts := [], laidByText := true, laidKinds := [.data, .pinned], laidTests := true, laidLooks := .later }
def FlowLeafUptoCardSaid : Prop := Claim7.holds Tryd.pinned (.plain (OpenSpec.upto flowLeafSpec)) flowLeafUptoCard

/-- THE SECOND FORM's CARD OF 'cribblelaw13.FlowAdds'. -/
def flowAddsUptoCard : Claim7 := { stood := { row := flowAddsUptoRow, standIns := [], harness := (true, "f0f47fefe5c1aa4f2941bebe1e7481617de56f22507357fadf486eb8b69f13db"), looks := false }, kinds := [], alts := [], laidByText := true, laidKinds := [.data, .pinned], laidTests := true, laidLooks := .later }
def FlowAddsUptoCardSaid : Prop := Claim7.holds Tryd.pinned (.plain (OpenSpec.upto flowAddsSpec)) flowAddsUptoCard
end Rows
end Go.Proofs.YtadmfmbpojcnpaaDoor
