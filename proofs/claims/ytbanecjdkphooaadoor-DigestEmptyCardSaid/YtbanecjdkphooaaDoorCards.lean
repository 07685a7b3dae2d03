/-
  DERIVED. GIVEN WITH THE SEED: THE CARDS: each row of YtbanecjdkphooaaDoorRows.lean that lists a variable, with what it lists TIED to the program's text (the seventh form; the later family's looks); each row that meets fmt, with fmt's text TOLD by the authors' own Lean function (tested against real Go, not proved from fmt's source: count such statements apart). THE CARD IS WHAT COUNTS. Prove the row's statement (the work); the ties are given (YtbanecjdkphooaaDoorTie.lean); close each card by the builder's one call (the guide's Derived/Test/ToyasCard.lean, 'card_holds'). Laid BY PROGRAM, IN A SANDBOX (cutbox-door.mjs). By AI agents, Wed Nov 11 2026. No macro, syntax, notation, axiom, sorry.
-/
import Derived.Test.YtbanecjdkphooaaDoorRows
import GoSem.ClaimSeven
namespace Go.Proofs.YtbanecjdkphooaaDoor
namespace Rows

/-- THE TIED CARD OF 'reliquarylaw02.DigestSums'. -/
def digestSumsCard : Claim7 := { stood := { row := digestSumsRow, standIns := [], harness := (true, "f8537644277b1dd5af3de70321719e5295063b85e9d71141f21ec062b58c24b3"), looks := false }, kinds := [], alts := [], laidByText := true, laidKinds := [.data], laidTests := true, laidLooks := .later }
def DigestSumsCardSaid : Prop := Claim7.holds Tryd.pinned (.plain (OpenSpec.ofChange digestSumsSpec)) digestSumsCard

/-- THE TIED CARD OF 'reliquarylaw02.DigestReads'. -/
def digestReadsCard : Claim7 := { stood := { row := digestReadsRow, standIns := [], harness := (true, "f8537644277b1dd5af3de70321719e5295063b85e9d71141f21ec062b58c24b3"), looks := false }, kinds := [], alts := [], laidByText := true, laidKinds := [.data], laidTests := true, laidLooks := .later }
def DigestReadsCardSaid : Prop := Claim7.holds Tryd.pinned (.plain (OpenSpec.ofChange digestReadsSpec)) digestReadsCard

/-- THE TIED CARD OF 'reliquarylaw02.DigestLengths'. -/
def digestLengthsCard : Claim7 := { stood := { row := digestLengthsRow, standIns := [], harness := (true, "f8537644277b1dd5af3de70321719e5295063b85e9d71141f21ec062b58c24b3"), looks := false }, kinds := [], alts := [], laidByText := true, laidKinds := [.data], laidTests := true, laidLooks := .later }
def DigestLengthsCardSaid : Prop := Claim7.holds Tryd.pinned (.plain (OpenSpec.ofChange digestLengthsSpec)) digestLengthsCard

/-- THE TIED CARD OF 'reliquarylaw02.DigestDigits'. -/
def digestDigitsCard : Claim7 := { stood := { row := digestDigitsRow, standIns := [], harness := (true, "f8537644277b1dd5af3de70321719e5295063b85e9d71141f21ec062b58c24b3"), looks := false }, kinds := [], alts := [], laidByText := true, laidKinds := [.data], laidTests := true, laidLooks := .later }
def DigestDigitsCardSaid : Prop := Claim7.holds Tryd.pinned (.plain (OpenSpec.ofChange digestDigitsSpec)) digestDigitsCard

/-- THE TIED CARD OF 'reliquarylaw02.DigestPieces'. -/
def digestPiecesCard : Claim7 := { stood := { row := digestPiecesRow, standIns := [], harness := (true, "f8537644277b1dd5af3de70321719e5295063b85e9d71141f21ec062b58c24b3"), looks := false }, kinds := [], alts := [], laidByText := true, laidKinds := [.data], laidTests := true, laidLooks := .later }
def DigestPiecesCardSaid : Prop := Claim7.holds Tryd.pinned (.plain (OpenSpec.ofChange digestPiecesSpec)) digestPiecesCard

/-- THE TIED CARD OF 'reliquarylaw02.DigestEmpty'. -/
def digestEmptyCard : Claim7 := { stood := { row := digestEmptyRow, standIns := [], harness := (true, "f8537644277b1dd5af3de70321719e5295063b85e9d71141f21ec062b58c24b3"), looks := false }, kinds := [], alts := [], laidByText := true, laidKinds := [.data], laidTests := true, laidLooks := .later }
def DigestEmptyCardSaid : Prop := Claim7.holds Tryd.pinned (.plain (OpenSpec.ofChange digestEmptySpec)) digestEmptyCard

/-- THE SECOND FORM's CARD OF 'reliquarylaw02.DigestSums'. -/
def digestSumsUptoCard : Claim7 := { stood := { row := digestSumsUptoRow, standIns := [], harness := (true, "f8537644277b1dd5af3de70321719e5295063b85e9d71141f21ec062b58c24b3"), looks := false }, kinds := [], alts := [], laidByText := true, laidKinds := [.data], laidTests := true, laidLooks := .later }
def DigestSumsUptoCardSaid : Prop := Claim7.holds Tryd.pinned (.plain (OpenSpec.upto digestSumsSpec)) digestSumsUptoCard

/-- THE SECOND FORM's CARD OF 'reliquarylaw02.DigestReads'. -/
def digestReadsUptoCard : Claim7 := { stood := { row := digestReadsUptoRow, standIns := [], harness := (true, "f8537644277b1dd5af3de70321719e5295063b85e9d71141f21ec062b58c24b3"), looks := false }, kinds := [], alts := [], laidByText := true, laidKinds := [.data], laidTests := true, laidLooks := .later }
def DigestReadsUptoCardSaid : Prop := Claim7.holds Tryd.pinned (.plain (OpenSpec.upto digestReadsSpec)) digestReadsUptoCard

/-- THE SECOND FORM's CARD OF 'reliquarylaw02.DigestLengths'. -/
def digestLengthsUptoCard : Claim7 := { stood := { row := digestLengthsUptoRow, standIns := [], harness := (true, "f8537644277b1dd5af3de70321719e5295063b85e9d71141f21ec062b58c24b3"), looks := false }, kinds := [], alts := [], laidByText := true, laidKinds := [.data], laidTests := true, laidLooks := .later }
def DigestLengthsUptoCardSaid : Prop := Claim7.holds Tryd.pinned (.plain (OpenSpec.upto digestLengthsSpec)) digestLengthsUptoCard

/-- THE SECOND FORM's CARD OF 'reliquarylaw02.DigestDigits'. -/
def digestDigitsUptoCard : Claim7 := { stood := { row := digestDigitsUptoRow, standIns := [], harness := (true, "f8537644277b1dd5af3de70321719e5295063b85e9d71141f21ec062b58c24b3"), looks := false }, kinds := [], alts := [], laidByText := true, laidKinds := [.data], laidTests := true, laidLooks := .later }
def DigestDigitsUptoCardSaid : Prop := Claim7.holds Tryd.pinned (.plain (OpenSpec.upto digestDigitsSpec)) digestDigitsUptoCard

/-- THE SECOND FORM's CARD OF 'reliquarylaw02.DigestPieces'. -/
def digestPiecesUptoCard : Claim7 := { stood := { row := digestPiecesUptoRow, standIns := [], harness := (true, "f8537644277b1dd5af3de70321719e5295063b85e9d71141f21ec062b58c24b3"), looks := false }, kinds := [], alts := [], laidByText := true, laidKinds := [.data], laidTests := true, laidLooks := .later }
def DigestPiecesUptoCardSaid : Prop := Claim7.holds Tryd.pinned (.plain (OpenSpec.upto digestPiecesSpec)) digestPiecesUptoCard

/-- THE SECOND FORM's CARD OF 'reliquarylaw02.DigestEmpty'. -/
def digestEmptyUptoCard : Claim7 := { stood := { row := digestEmptyUptoRow, standIns := [], harness := (true, "f8537644277b1dd5af3de70321719e5295063b85e9d71141f21ec062b58c24b3"), looks := false }, kinds := [], alts := [], laidByText := true, laidKinds := [.data], laidTests := true, laidLooks := .later }
def DigestEmptyUptoCardSaid : Prop := Claim7.holds Tryd.pinned (.plain (OpenSpec.upto digestEmptySpec)) digestEmptyUptoCard
end Rows
end Go.Proofs.YtbanecjdkphooaaDoor
