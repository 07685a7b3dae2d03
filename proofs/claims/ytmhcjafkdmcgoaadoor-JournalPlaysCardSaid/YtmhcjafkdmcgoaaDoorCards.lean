/-
  DERIVED. GIVEN WITH THE SEED: THE CARDS: each row of YtmhcjafkdmcgoaaDoorRows.lean that lists a variable, with what it lists TIED to the program's text (the seventh form; the later family's looks); each row that meets fmt, with fmt's text TOLD by the authors' own Lean function (tested against real Go, not proved from fmt's source: count such statements apart). THE CARD IS WHAT COUNTS. Prove the row's statement (the work); the ties are given (YtmhcjafkdmcgoaaDoorTie.lean); close each card by the builder's one call (the guide's Derived/Test/ToyasCard.lean, 'card_holds'). Laid BY PROGRAM, IN A SANDBOX (cutbox-door.mjs). By AI agents, Wed Nov 11 2026. No macro, syntax, notation, axiom, sorry.
-/
import Derived.Test.YtmhcjafkdmcgoaaDoorRows
import GoSem.ClaimSeven
namespace Go.Proofs.YtmhcjafkdmcgoaaDoor
namespace Rows

/-- THE TIED CARD OF 'reliquarylaw13.JournalLinks'. -/
def journalLinksCard : Claim7 := { stood := { row := journalLinksRow, standIns := [], harness := (true, "35dc5f97c09c288b4750b03c3ae6d2ea128d36da6c1b377b55642797c9a3f201"), looks := false }, kinds := [], alts := [], laidByText := true, laidKinds := [.data, .data], laidTests := true, laidLooks := .later }
def JournalLinksCardSaid : Prop := Claim7.holds Tryd.pinned (.plain (OpenSpec.ofChange journalLinksSpec)) journalLinksCard

/-- THE TIED CARD OF 'reliquarylaw13.JournalRing'. -/
def journalRingCard : Claim7 := { stood := { row := journalRingRow, standIns := [], harness := (true, "35dc5f97c09c288b4750b03c3ae6d2ea128d36da6c1b377b55642797c9a3f201"), looks := false }, kinds := [], alts := [], laidByText := true, laidKinds := [.data, .data], laidTests := true, laidLooks := .later }
def JournalRingCardSaid : Prop := Claim7.holds Tryd.pinned (.plain (OpenSpec.ofChange journalRingSpec)) journalRingCard

/-- THE TIED CARD OF 'reliquarylaw13.JournalSeals'. -/
def journalSealsCard : Claim7 := { stood := { row := journalSealsRow, standIns := [], harness := (true, "35dc5f97c09c288b4750b03c3ae6d2ea128d36da6c1b377b55642797c9a3f201"), looks := false }, kinds := [], alts := [], laidByText := true, laidKinds := [.data, .data], laidTests := true, laidLooks := .later }
def JournalSealsCardSaid : Prop := Claim7.holds Tryd.pinned (.plain (OpenSpec.ofChange journalSealsSpec)) journalSealsCard

/-- THE TIED CARD OF 'reliquarylaw13.JournalCounts'. -/
def journalCountsCard : Claim7 := { stood := { row := journalCountsRow, standIns := [], harness := (true, "35dc5f97c09c288b4750b03c3ae6d2ea128d36da6c1b377b55642797c9a3f201"), looks := false }, kinds := [], alts := [], laidByText := true, laidKinds := [.data, .data], laidTests := true, laidLooks := .later }
def JournalCountsCardSaid : Prop := Claim7.holds Tryd.pinned (.plain (OpenSpec.ofChange journalCountsSpec)) journalCountsCard

/-- THE TIED CARD OF 'reliquarylaw13.JournalPlays'. -/
def journalPlaysCard : Claim7 := { stood := { row := journalPlaysRow, standIns := [], harness := (true, "35dc5f97c09c288b4750b03c3ae6d2ea128d36da6c1b377b55642797c9a3f201"), looks := false }, kinds := [], alts := [], laidByText := true, laidKinds := [.data, .data], laidTests := true, laidLooks := .later }
def JournalPlaysCardSaid : Prop := Claim7.holds Tryd.pinned (.plain (OpenSpec.ofChange journalPlaysSpec)) journalPlaysCard

/-- THE SECOND FORM's CARD OF 'reliquarylaw13.JournalLinks'. -/
def journalLinksUptoCard : Claim7 := { stood := { row := journalLinksUptoRow, standIns := [], harness := (true, "35dc5f97c09c288b4750b03c3ae6d2ea128d36da6c1b377b55642797c9a3f201"), looks := false }, kinds := [], alts := [], laidByText := true, laidKinds := [.data, .data], laidTests := true, laidLooks := .later }
def JournalLinksUptoCardSaid : Prop := Claim7.holds Tryd.pinned (.plain (OpenSpec.upto journalLinksSpec)) journalLinksUptoCard

/-- THE SECOND FORM's CARD OF 'reliquarylaw13.JournalRing'. -/
def journalRingUptoCard : Claim7 := { stood := { row := journalRingUptoRow, standIns := [], harness := (true, "35dc5f97c09c288b4750b03c3ae6d2ea128d36da6c1b377b55642797c9a3f201"), looks := false }, kinds := [], alts := [], laidByText := true, laidKinds := [.data, .data], laidTests := true, laidLooks := .later }
def JournalRingUptoCardSaid : Prop := Claim7.holds Tryd.pinned (.plain (OpenSpec.upto journalRingSpec)) journalRingUptoCard

/-- THE SECOND FORM's CARD OF 'reliquarylaw13.JournalSeals'. -/
def journalSealsUptoCard : Claim7 := { stood := { row := journalSealsUptoRow, standIns := [], harness := (true, "35dc5f97c09c288b4750b03c3ae6d2ea128d36da6c1b377b55642797c9a3f201"), looks := false }, kinds := [], alts := [], laidByText := true, laidKinds := [.data, .data], laidTests := true, laidLooks := .later }
def JournalSealsUptoCardSaid : Prop := Claim7.holds Tryd.pinned (.plain (OpenSpec.upto journalSealsSpec)) journalSealsUptoCard

/-- THE SECOND FORM's CARD OF 'reliquarylaw13.JournalCounts'. -/
def journalCountsUptoCard : Claim7 := { stood := { row := journalCountsUptoRow, standIns := [], harness := (true, "35dc5f97c09c288b4750b03c3ae6d2ea128d36da6c1b377b55642797c9a3f201"), looks := false }, kinds := [], alts := [], laidByText := true, laidKinds := [.data, .data], laidTests := true, laidLooks := .later }
def JournalCountsUptoCardSaid : Prop := Claim7.holds Tryd.pinned (.plain (OpenSpec.upto journalCountsSpec)) journalCountsUptoCard

/-- THE SECOND FORM's CARD OF 'reliquarylaw13.JournalPlays'. -/
def journalPlaysUptoCard : Claim7 := { stood := { row := journalPlaysUptoRow, standIns := [], harness := (true, "35dc5f97c09c288b4750b03c3ae6d2ea128d36da6c1b377b55642797c9a3f201"), looks := false }, kinds := [], alts := [], laidByText := true, laidKinds := [.data, .data], laidTests := true, laidLooks := .later }
def JournalPlaysUptoCardSaid : Prop := Claim7.holds Tryd.pinned (.plain (OpenSpec.upto journalPlaysSpec)) journalPlaysUptoCard
end Rows
end Go.Proofs.YtmhcjafkdmcgoaaDoor
