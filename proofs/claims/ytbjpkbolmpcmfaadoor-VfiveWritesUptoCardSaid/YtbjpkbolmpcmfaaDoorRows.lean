/-
  NARROWER THAN 'FOR EVERY INPUT', by the rows' own cells (each row's printed sentence says how): VfiveReads: laid · VfiveWrites: laid · VfiveBack: laid · VfiveThere: laid · VfiveGaps: laid.
  DERIVED. THE GIVEN ROWS OF THIS SEAT. 5 by the template 'for every input the law returns true; each argument reads behind the call as it read before'; 0 by the template 'total and deterministic' (their statements: YtbjpkbolmpcmfaaDoorTotals.lean).
  GIVEN WITH THE SEED: the statements are not yours to turn. If you find one false, say at which input.
  Laid BY PROGRAM, IN A SANDBOX (cutbox-rows.mjs): the forced cells as the released guide's own fill.sh prints them over the translation 28b95d36e087bdce… (all of the seat's roots in one cut). By AI agents, Wed Nov 11 2026. No macro, syntax, notation, axiom, sorry.
-/
import Derived.Test.YtbjpkbolmpcmfaaDoorChecked
import GoSem.PinnedTables
import GoSem.Claim
import GoSem.ClaimJoined
import GoSem.ClaimMapViews
import Derived.JoinedTies
import Derived.KernelRfl
namespace Go.Proofs.YtbjpkbolmpcmfaaDoor
/- THE CELL 'sum', in the pinned program and in every row, IS THE sha256 OF THE DUMP (.gsa) THAT YtbjpkbolmpcmfaaDoorProg.lean LOADS. Nothing in Lean hashes anything: it is a label: what it is worth is what the hold of that sum in a sandbox is worth. -/
noncomputable def Tryd.pinned : Pinned := { name := "ytbjpkbolmpcmfaadoor", sum := "28b95d36e087bdcecca0dbed2e2edab1fa1227749b9f6d949e04475ddbe1d88a", checked := Tryd.checked }
namespace Rows
def none {H : Type} : Left H := { results := [], args := [] }

/- WHAT THE LISTED PACKAGE-LEVEL VARIABLES READ AS WHEN THE CALL BEGINS. Each datum BY PROGRAM (the guide's laid-datum.mjs) off the statement by which the dump's own 'gosem.cut.vars' lays the variable. In a bare row this is a premise. The card (YtbjpkbolmpcmfaaDoorCards.lean) ties it to the program's text. -/
def laid_unicode_utf8_acceptRanges {H : Type} : DataW H := .agg [.agg [.lit (.int .u8 128), .lit (.int .u8 191)], .agg [.lit (.int .u8 160), .lit (.int .u8 191)], .agg [.lit (.int .u8 128), .lit (.int .u8 159)], .agg [.lit (.int .u8 144), .lit (.int .u8 191)], .agg [.lit (.int .u8 128), .lit (.int .u8 143)], .agg [.lit (.int .u8 0), .lit (.int .u8 0)], .agg [.lit (.int .u8 0), .lit (.int .u8 0)], .agg [.lit (.int .u8 0), .lit (.int .u8 0)], .agg [.lit (.int .u8 0), .lit (.int .u8 0)], .agg [.lit (.int .u8 0), .lit (.int .u8 0)], .agg [.lit (.int .u8 0), .lit (.int .u8 0)], .agg [.lit (.int .u8 0), .lit (.int .u8 0)], .agg [.lit (.int .u8 0), .lit (.int .u8 0)], .agg [.lit (.int .u8 0), .lit (.int .u8 0)], .agg [.lit (.int .u8 0), .lit (.int .u8 0)], .agg [.lit (.int .u8 0), .lit (.int .u8 0)]]
/-- One of Go's own tables, pinned by name: the form's constant. -/
def laid_unicode_utf8_first : DataW Unit := Go.Pinned.utf8First

/-- 'cribblelaw14.VfiveReads': WHATEVER THE INPUT: true; the input reads as it did. -/
def vfiveReadsSpec : ChangeSpec := { name := "vfiveReads", fn := fun _ => fun
  | [d] => { results := [.lit (.bool true)], args := [d] }
  | _ => none }
def vfiveReadsRow : OpenClaim := { program := "ytbjpkbolmpcmfaadoor", sum := "28b95d36e087bdcecca0dbed2e2edab1fa1227749b9f6d949e04475ddbe1d88a", func := "cribble/cribblelaw14.VfiveReads", spec := "vfiveReads", inPlace := ["internal/bytealg.CountString", "internal/bytealg.IndexByteString", "internal/bytealg.IndexString"], unfollowed := true, recurses := true, named := ["unicode/utf8.first", "unicode/utf8.acceptRanges", "internal/bytealg.MaxLen"], apart := false, laid := [("unicode/utf8.acceptRanges", laid_unicode_utf8_acceptRanges), ("unicode/utf8.first", laid_unicode_utf8_first)] }
def VfiveReadsSaid : Prop := vfiveReadsRow.holds Tryd.pinned (OpenSpec.ofChange vfiveReadsSpec)

/-- ITS FALSE NEIGHBOUR: 'it returns false'. Refute it at one input. -/
def vfiveReadsWrong : ChangeSpec := { name := "vfiveReads", fn := fun _ => fun
  | [d] => { results := [.lit (.bool false)], args := [d] }
  | _ => none }
def VfiveReadsWrongFalsely : Prop := vfiveReadsRow.holds Tryd.pinned (OpenSpec.ofChange vfiveReadsWrong)

/-- 'cribblelaw14.VfiveWrites': WHATEVER THE INPUT: true; the input reads as it did. -/
def vfiveWritesSpec : ChangeSpec := { name := "vfiveWrites", fn := fun _ => fun
  | [d1, d2, d3, d4] => { results := [.lit (.bool true)], args := [d1, d2, d3, d4] }
  | _ => none }
def vfiveWritesRow : OpenClaim := { program := "ytbjpkbolmpcmfaadoor", sum := "28b95d36e087bdcecca0dbed2e2edab1fa1227749b9f6d949e04475ddbe1d88a", func := "cribble/cribblelaw14.VfiveWrites", spec := "vfiveWrites", inPlace := ["internal/bytealg.CountString", "internal/bytealg.IndexByteString", "internal/bytealg.IndexString"], unfollowed := true, recurses := true, named := ["unicode/utf8.first", "unicode/utf8.acceptRanges", "internal/bytealg.MaxLen"], apart := false, laid := [("unicode/utf8.acceptRanges", laid_unicode_utf8_acceptRanges), ("unicode/utf8.first", laid_unicode_utf8_first)] }
def VfiveWritesSaid : Prop := vfiveWritesRow.holds Tryd.pinned (OpenSpec.ofChange vfiveWritesSpec)

/-- ITS FALSE NEIGHBOUR: 'it returns false'. Refute it at one input. -/
def vfiveWritesWrong : ChangeSpec := { name := "vfiveWrites", fn := fun _ => fun
  | [d1, d2, d3, d4] => { results := [.lit (.bool false)], args := [d1, d2, d3, d4] }
  | _ => none }
def VfiveWritesWrongFalsely : Prop := vfiveWritesRow.holds Tryd.pinned (OpenSpec.ofChange vfiveWritesWrong)

/-- 'cribblelaw14.VfiveBack': WHATEVER THE INPUT: true; the input reads as it did. -/
def vfiveBackSpec : ChangeSpec := { name := "vfiveBack", fn := fun _ => fun
  | [d1, d2, d3, d4] => { results := [.lit (.bool true)], args := [d1, d2, d3, d4] }
  | _ => none }
def vfiveBackRow : OpenClaim := { program := "ytbjpkbolmpcmfaadoor", sum := "28b95d36e087bdcecca0dbed2e2edab1fa1227749b9f6d949e04475ddbe1d88a", func := "cribble/cribblelaw14.VfiveBack", spec := "vfiveBack", inPlace := ["internal/bytealg.CountString", "internal/bytealg.IndexByteString", "internal/bytealg.IndexString"], unfollowed := true, recurses := true, named := ["unicode/utf8.first", "unicode/utf8.acceptRanges", "internal/bytealg.MaxLen"], apart := false, laid := [("unicode/utf8.acceptRanges", laid_unicode_utf8_acceptRanges), ("unicode/utf8.first", laid_unicode_utf8_first)] }
def VfiveBackSaid : Prop := vfiveBackRow.holds Tryd.pinned (OpenSpec.ofChange vfiveBackSpec)

/-- ITS FALSE NEIGHBOUR: 'it returns false'. Refute it at one input. -/
def vfiveBackWrong : ChangeSpec := { name := "vfiveBack", fn := fun _ => fun
  | [d1, d2, d3, d4] => { results := [.lit (.bool false)], args := [d1, d2, d3, d4] }
  | _ => none }
def VfiveBackWrongFalsely : Prop := vfiveBackRow.holds Tryd.pinned (OpenSpec.ofChange vfiveBackWrong)

/-- 'cribblelaw14.VfiveThere': WHATEVER THE INPUT: true; the input reads as it did. -/
def vfiveThereSpec : ChangeSpec := { name := "vfiveThere", fn := fun _ => fun
  | [d] => { results := [.lit (.bool true)], args := [d] }
  | _ => none }
def vfiveThereRow : OpenClaim := { program := "ytbjpkbolmpcmfaadoor", sum := "28b95d36e087bdcecca0dbed2e2edab1fa1227749b9f6d949e04475ddbe1d88a", func := "cribble/cribblelaw14.VfiveThere", spec := "vfiveThere", inPlace := ["internal/bytealg.CountString", "internal/bytealg.IndexByteString", "internal/bytealg.IndexString"], unfollowed := true, recurses := true, named := ["unicode/utf8.first", "unicode/utf8.acceptRanges", "internal/bytealg.MaxLen"], apart := false, laid := [("unicode/utf8.acceptRanges", laid_unicode_utf8_acceptRanges), ("unicode/utf8.first", laid_unicode_utf8_first)] }
def VfiveThereSaid : Prop := vfiveThereRow.holds Tryd.pinned (OpenSpec.ofChange vfiveThereSpec)

/-- ITS FALSE NEIGHBOUR: 'it returns false'. Refute it at one input. -/
def vfiveThereWrong : ChangeSpec := { name := "vfiveThere", fn := fun _ => fun
  | [d] => { results := [.lit (.bool false)], args := [d] }
  | _ => none }
def VfiveThereWrongFalsely : Prop := vfiveThereRow.holds Tryd.pinned (OpenSpec.ofChange vfiveThereWrong)

/-- 'cribblelaw14.VfiveGaps': WHATEVER THE INPUT: true; the input reads as it did. -/
def vfiveGapsSpec : ChangeSpec := { name := "vfiveGaps", fn := fun _ => fun
  | [d1, d2, d3, d4, d5] => { results := [.lit (.bool true)], args := [d1, d2, d3, d4, d5] }
  | _ => none }
def vfiveGapsRow : OpenClaim := { program := "ytbjpkbolmpcmfaadoor", sum := "28b95d36e087bdcecca0dbed2e2edab1fa1227749b9f6d949e04475ddbe1d88a", func := "cribble/cribblelaw14.VfiveGaps", spec := "vfiveGaps", inPlace := ["internal/bytealg.CountString", "internal/bytealg.IndexByteString", "internal/bytealg.IndexString"], unfollowed := true, recurses := true, named := ["unicode/utf8.first", "unicode/utf8.acceptRanges", "internal/bytealg.MaxLen"], apart := false, laid := [("unicode/utf8.acceptRanges", laid_unicode_utf8_acceptRanges), ("unicode/utf8.first", laid_unicode_utf8_first)] }
def VfiveGapsSaid : Prop := vfiveGapsRow.holds Tryd.pinned (OpenSpec.ofChange vfiveGapsSpec)

/-- ITS FALSE NEIGHBOUR: 'it returns false'. Refute it at one input. -/
def vfiveGapsWrong : ChangeSpec := { name := "vfiveGaps", fn := fun _ => fun
  | [d1, d2, d3, d4, d5] => { results := [.lit (.bool false)], args := [d1, d2, d3, d4, d5] }
  | _ => none }
def VfiveGapsWrongFalsely : Prop := vfiveGapsRow.holds Tryd.pinned (OpenSpec.ofChange vfiveGapsWrong)

/- THE SECOND FORM. 'bulk': how many values and letters a reading holds, each counted each time it is reached (what is shared counts as often as it is met; a slice's spare places count too). A statement '..UptoSaid' is the law's where the arguments, and the package variables that the reading takes, are together of bulk at most 1048576: NARROWER than '..Said'. Prove '..Said' where nothing that the law and all that it calls make is longer than what came in: it says more and counts as full. Else prove '..UptoSaid'. A law counts once. -/
mutual
def uptoBulk {H : Type} : DataW H → Nat
  | .lit (.string bytes) => bytes.length + 1
  | .lit _ => 1
  | .nil => 1
  | .ptr d => uptoBulk d + 1
  | .slice elems spare => uptoBulkAll elems + uptoBulkAll spare + 1
  | .agg parts => uptoBulkAll parts + 1
  | .iface _ d => uptoBulk d + 1
  | .map entries => uptoBulkEntries entries + 1
  | .held _ => 1
def uptoBulkAll {H : Type} : List (DataW H) → Nat
  | [] => 0
  | d :: r => uptoBulk d + uptoBulkAll r
def uptoBulkEntries {H : Type} : List (Lit × DataW H) → Nat
  | [] => 0
  | x :: r => uptoBulkEntry x + uptoBulkEntries r
def uptoBulkEntry {H : Type} : Lit × DataW H → Nat
  | (.string bytes, d) => bytes.length + uptoBulk d + 1
  | (_, d) => uptoBulk d + 1
 end
def uptoSmall : (H : Type) → List (DataW H) → Bool := fun _ ds => decide (uptoBulkAll ds ≤ 1048576)
def OpenSpec.upto (s : _root_.Go.ChangeSpec) : _root_.Go.OpenSpec := { _root_.Go.OpenSpec.ofChange s with cond := some uptoSmall }

/-- 'cribblelaw14.VfiveReads', WHERE WHAT IT READS IS OF BULK AT MOST 1048576: true; the input reads as it did. -/
def vfiveReadsUptoRow : OpenClaim := { program := "ytbjpkbolmpcmfaadoor", sum := "28b95d36e087bdcecca0dbed2e2edab1fa1227749b9f6d949e04475ddbe1d88a", func := "cribble/cribblelaw14.VfiveReads", spec := "vfiveReads", inPlace := ["internal/bytealg.CountString", "internal/bytealg.IndexByteString", "internal/bytealg.IndexString"], unfollowed := true, recurses := true, named := ["unicode/utf8.first", "unicode/utf8.acceptRanges", "internal/bytealg.MaxLen"], apart := false, laid := [("unicode/utf8.acceptRanges", laid_unicode_utf8_acceptRanges), ("unicode/utf8.first", laid_unicode_utf8_first)], narrowed := true }
def VfiveReadsUptoSaid : Prop := vfiveReadsUptoRow.holds Tryd.pinned (OpenSpec.upto vfiveReadsSpec)

/-- 'cribblelaw14.VfiveWrites', WHERE WHAT IT READS IS OF BULK AT MOST 1048576: true; the input reads as it did. -/
def vfiveWritesUptoRow : OpenClaim := { program := "ytbjpkbolmpcmfaadoor", sum := "28b95d36e087bdcecca0dbed2e2edab1fa1227749b9f6d949e04475ddbe1d88a", func := "cribble/cribblelaw14.VfiveWrites", spec := "vfiveWrites", inPlace := ["internal/bytealg.CountString", "internal/bytealg.IndexByteString", "internal/bytealg.IndexString"], unfollowed := true, recurses := true, named := ["unicode/utf8.first", "unicode/utf8.acceptRanges", "internal/bytealg.MaxLen"], apart := false, laid := [("unicode/utf8.acceptRanges", laid_unicode_utf8_acceptRanges), ("unicode/utf8.first", laid_unicode_utf8_first)], narrowed := true }
def VfiveWritesUptoSaid : Prop := vfiveWritesUptoRow.holds Tryd.pinned (OpenSpec.upto vfiveWritesSpec)

/-- 'cribblelaw14.VfiveBack', WHERE WHAT IT READS IS OF BULK AT MOST 1048576: true; the input reads as it did. -/
def vfiveBackUptoRow : OpenClaim := { program := "ytbjpkbolmpcmfaadoor", sum := "28b95d36e087bdcecca0dbed2e2edab1fa1227749b9f6d949e04475ddbe1d88a", func := "cribble/cribblelaw14.VfiveBack", spec := "vfiveBack", inPlace := ["internal/bytealg.CountString", "internal/bytealg.IndexByteString", "internal/bytealg.IndexString"], unfollowed := true, recurses := true, named := ["unicode/utf8.first", "unicode/utf8.acceptRanges", "internal/bytealg.MaxLen"], apart := false, laid := [("unicode/utf8.acceptRanges", laid_unicode_utf8_acceptRanges), ("unicode/utf8.first", laid_unicode_utf8_first)], narrowed := true }
def VfiveBackUptoSaid : Prop := vfiveBackUptoRow.holds Tryd.pinned (OpenSpec.upto vfiveBackSpec)

/-- 'cribblelaw14.VfiveThere', WHERE WHAT IT READS IS OF BULK AT MOST 1048576: true; the input reads as it did. -/
def vfiveThereUptoRow : OpenClaim := { program := "ytbjpkbolmpcmfaadoor", sum := "28b95d36e087bdcecca0dbed2e2edab1fa1227749b9f6d949e04475ddbe1d88a", func := "cribble/cribblelaw14.VfiveThere", spec := "vfiveThere", inPlace := ["internal/bytealg.CountString", "internal/bytealg.IndexByteString", "internal/bytealg.IndexString"], unfollowed := true, recurses := true, named := ["unicode/utf8.first", "unicode/utf8.acceptRanges", "internal/bytealg.MaxLen"], apart := false, laid := [("unicode/utf8.acceptRanges", laid_unicode_utf8_acceptRanges), ("unicode/utf8.first", laid_unicode_utf8_first)], narrowed := true }
def VfiveThereUptoSaid : Prop := vfiveThereUptoRow.holds Tryd.pinned (OpenSpec.upto vfiveThereSpec)

/-- 'cribblelaw14.VfiveGaps', WHERE WHAT IT READS IS OF BULK AT MOST 1048576: true; the input reads as it did. -/
def vfiveGapsUptoRow : OpenClaim := { program := "ytbjpkbolmpcmfaadoor", sum := "28b95d36e087bdcecca0dbed2e2edab1fa1227749b9f6d949e04475ddbe1d88a", func := "cribble/cribblelaw14.VfiveGaps", spec := "vfiveGaps", inPlace := ["internal/bytealg.CountString", "internal/bytealg.IndexByteString", "internal/bytealg.IndexString"], unfollowed := true, recurses := true, named := ["unicode/utf8.first", "unicode/utf8.acceptRanges", "internal/bytealg.MaxLen"], apart := false, laid := [("unicode/utf8.acceptRanges", laid_unicode_utf8_acceptRanges), ("unicode/utf8.first", laid_unicode_utf8_first)], narrowed := true }
def VfiveGapsUptoSaid : Prop := vfiveGapsUptoRow.holds Tryd.pinned (OpenSpec.upto vfiveGapsSpec)

end Rows
end Go.Proofs.YtbjpkbolmpcmfaaDoor
