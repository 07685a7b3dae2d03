/-
  DERIVED. GIVEN WITH THE SEED: THE CARDS: each row of YtfbcokceambghaaDoorRows.lean that lists a variable, with what it lists TIED to the program's text (the seventh form; the later family's looks); each row that meets fmt, with fmt's text TOLD by the authors' own Lean function (tested against real Go, not proved from fmt's source: count such statements apart). THE CARD IS WHAT COUNTS. Prove the row's statement (the work); the ties are given (YtfbcokceambghaaDoorTie.lean); close each card by the builder's one call (the guide's Derived/Test/ToyasCard.lean, 'card_holds'). Laid BY PROGRAM, IN A SANDBOX (cutbox-door.mjs). By AI agents, Wed Nov 11 2026. No macro, syntax, notation, axiom, sorry.
-/
import Derived.Test.YtfbcokceambghaaDoorRows
import GoSem.ClaimSeven
namespace Go.Proofs.YtfbcokceambghaaDoor
namespace Rows

/-- THE TIED CARD OF 'reliquarylaw04.CipherBlocks'. -/
def cipherBlocksCard : Claim7 := { stood := { row := cipherBlocksRow, standIns := [], harness := (true, "64e732376096591a6ccf05a81ac7460f5325322a26fecd85507cb900ee1d36b9"), looks := false }, kinds := [], alts := [], laidByText := true, laidKinds := [.data], laidTests := true, laidLooks := .later }
def CipherBlocksCardSaid : Prop := Claim7.holds Tryd.pinned (.plain (OpenSpec.ofChange cipherBlocksSpec)) cipherBlocksCard

/-- THE TIED CARD OF 'reliquarylaw04.CipherCrypts'. -/
def cipherCryptsCard : Claim7 := { stood := { row := cipherCryptsRow, standIns := [], harness := (true, "64e732376096591a6ccf05a81ac7460f5325322a26fecd85507cb900ee1d36b9"), looks := false }, kinds := [], alts := [], laidByText := true, laidKinds := [.data], laidTests := true, laidLooks := .later }
def CipherCryptsCardSaid : Prop := Claim7.holds Tryd.pinned (.plain (OpenSpec.ofChange cipherCryptsSpec)) cipherCryptsCard

/-- THE TIED CARD OF 'reliquarylaw04.CipherTwice'. -/
def cipherTwiceCard : Claim7 := { stood := { row := cipherTwiceRow, standIns := [], harness := (true, "64e732376096591a6ccf05a81ac7460f5325322a26fecd85507cb900ee1d36b9"), looks := false }, kinds := [], alts := [], laidByText := true, laidKinds := [.data], laidTests := true, laidLooks := .later }
def CipherTwiceCardSaid : Prop := Claim7.holds Tryd.pinned (.plain (OpenSpec.ofChange cipherTwiceSpec)) cipherTwiceCard

/-- THE TIED CARD OF 'reliquarylaw04.CipherNonces'. -/
def cipherNoncesCard : Claim7 := { stood := { row := cipherNoncesRow, standIns := [], harness := (true, "64e732376096591a6ccf05a81ac7460f5325322a26fecd85507cb900ee1d36b9"), looks := false }, kinds := [], alts := [], laidByText := true, laidKinds := [.data], laidTests := true, laidLooks := .later }
def CipherNoncesCardSaid : Prop := Claim7.holds Tryd.pinned (.plain (OpenSpec.ofChange cipherNoncesSpec)) cipherNoncesCard

/-- THE TIED CARD OF 'reliquarylaw04.CipherNoughts'. -/
def cipherNoughtsCard : Claim7 := { stood := { row := cipherNoughtsRow, standIns := [], harness := (true, "64e732376096591a6ccf05a81ac7460f5325322a26fecd85507cb900ee1d36b9"), looks := false }, kinds := [], alts := [], laidByText := true, laidKinds := [.data], laidTests := true, laidLooks := .later }
def CipherNoughtsCardSaid : Prop := Claim7.holds Tryd.pinned (.plain (OpenSpec.ofChange cipherNoughtsSpec)) cipherNoughtsCard

/-- THE TIED CARD OF 'reliquarylaw04.CipherEnds'. -/
def cipherEndsCard : Claim7 := { stood := { row := cipherEndsRow, standIns := [], harness := (true, "64e732376096591a6ccf05a81ac7460f5325322a26fecd85507cb900ee1d36b9"), looks := false }, kinds := [], alts := [], laidByText := true, laidKinds := [.data], laidTests := true, laidLooks := .later }
def CipherEndsCardSaid : Prop := Claim7.holds Tryd.pinned (.plain (OpenSpec.ofChange cipherEndsSpec)) cipherEndsCard

/-- THE SECOND FORM's CARD OF 'reliquarylaw04.CipherBlocks'. -/
def cipherBlocksUptoCard : Claim7 := { stood := { row := cipherBlocksUptoRow, standIns := [], harness := (true, "64e732376096591a6ccf05a81ac7460f5325322a26fecd85507cb900ee1d36b9"), looks := false }, kinds := [], alts := [], laidByText := true, laidKinds := [.data], laidTests := true, laidLooks := .later }
def CipherBlocksUptoCardSaid : Prop := Claim7.holds Tryd.pinned (.plain (OpenSpec.upto cipherBlocksSpec)) cipherBlocksUptoCard

/-- THE SECOND FORM's CARD OF 'reliquarylaw04.CipherCrypts'. -/
def cipherCryptsUptoCard : Claim7 := { stood := { row := cipherCryptsUptoRow, standIns := [], harness := (true, "64e732376096591a6ccf05a81ac7460f5325322a26fecd85507cb900ee1d36b9"), looks := false }, kinds := [], alts := [], laidByText := true, laidKinds := [.data], laidTests := true, laidLooks := .later }
def CipherCryptsUptoCardSaid : Prop := Claim7.holds Tryd.pinned (.plain (OpenSpec.upto cipherCryptsSpec)) cipherCryptsUptoCard

/-- THE SECOND FORM's CARD OF 'reliquarylaw04.CipherTwice'. -/
def cipherTwiceUptoCard : Claim7 := { stood := { row := cipherTwiceUptoRow, standIns := [], harness := (true, "64e732376096591a6ccf05a81ac7460f5325322a26fecd85507cb900ee1d36b9"), looks := false }, kinds := [], alts := [], laidByText := true, laidKinds := [.data], laidTests := true, laidLooks := .later }
def CipherTwiceUptoCardSaid : Prop := Claim7.holds Tryd.pinned (.plain (OpenSpec.upto cipherTwiceSpec)) cipherTwiceUptoCard

/-- THE SECOND FORM's CARD OF 'reliquarylaw04.CipherNonces'. -/
def cipherNoncesUptoCard : Claim7 := { stood := { row := cipherNoncesUptoRow, standIns := [], harness := (true, "64e732376096591a6ccf05a81ac7460f5325322a26fecd85507cb900ee1d36b9"), looks := false }, kinds := [], alts := [], laidByText := true, laidKinds := [.data], laidTests := true, laidLooks := .later }
def CipherNoncesUptoCardSaid : Prop := Claim7.holds Tryd.pinned (.plain (OpenSpec.upto cipherNoncesSpec)) cipherNoncesUptoCard

/-- THE SECOND FORM's CARD OF 'reliquarylaw04.CipherNoughts'. -/
def cipherNoughtsUptoCard : Claim7 := { stood := { row := cipherNoughtsUptoRow, standIns := [], harness := (true, "64e732376096591a6ccf05a81ac7460f5325322a26fecd85507cb900ee1d36b9"), looks := false }, kinds := [], alts := [], laidByText := true, laidKinds := [.data], laidTests := true, laidLooks := .later }
def CipherNoughtsUptoCardSaid : Prop := Claim7.holds Tryd.pinned (.plain (OpenSpec.upto cipherNoughtsSpec)) cipherNoughtsUptoCard

/-- THE SECOND FORM's CARD OF 'reliquarylaw04.CipherEnds'. -/
def cipherEndsUptoCard : Claim7 := { stood := { row := cipherEndsUptoRow, standIns := [], harness := (true, "64e732376096591a6ccf05a81ac7460f5325322a26fecd85507cb900ee1d36b9"), looks := false }, kinds := [], alts := [], laidByText := true, laidKinds := [.data], laidTests := true, laidLooks := .later }
def CipherEndsUptoCardSaid : Prop := Claim7.holds Tryd.pinned (.plain (OpenSpec.upto cipherEndsSpec)) cipherEndsUptoCard
end Rows
end Go.Proofs.YtfbcokceambghaaDoor
