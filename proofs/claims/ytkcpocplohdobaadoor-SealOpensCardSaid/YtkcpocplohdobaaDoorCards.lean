/-
  DERIVED. GIVEN WITH THE SEED: THE CARDS: each row of YtkcpocplohdobaaDoorRows.lean that lists a variable, with what it lists TIED to the program's text (the seventh form; the later family's looks); each row that meets fmt, with fmt's text TOLD by the authors' own Lean function (tested against real Go, not proved from fmt's source: count such statements apart). THE CARD IS WHAT COUNTS. Prove the row's statement (the work); the ties are given (YtkcpocplohdobaaDoorTie.lean); close each card by the builder's one call (the guide's Derived/Test/ToyasCard.lean, 'card_holds'). Laid BY PROGRAM, IN A SANDBOX (cutbox-door.mjs). By AI agents, Wed Nov 11 2026. No macro, syntax, notation, axiom, sorry.
-/
import Derived.Test.YtkcpocplohdobaaDoorRows
import GoSem.ClaimSeven
namespace Go.Proofs.YtkcpocplohdobaaDoor
namespace Rows

/-- THE TIED CARD OF 'reliquarylaw08.SealPuts'. -/
def sealPutsCard : Claim7 := { stood := { row := sealPutsRow, standIns := [], harness := (true, "0afc41f12dab93a3075365e4cf3c412087c2dc19f71928125bab2ea2607b0fcc"), looks := false }, kinds := [], alts := [], laidByText := true, laidKinds := [.data], laidTests := true, laidLooks := .later }
def SealPutsCardSaid : Prop := Claim7.holds Tryd.pinned (.plain (OpenSpec.ofChange sealPutsSpec)) sealPutsCard

/-- THE TIED CARD OF 'reliquarylaw08.SealOpens'. -/
def sealOpensCard : Claim7 := { stood := { row := sealOpensRow, standIns := [], harness := (true, "0afc41f12dab93a3075365e4cf3c412087c2dc19f71928125bab2ea2607b0fcc"), looks := false }, kinds := [], alts := [], laidByText := true, laidKinds := [.data], laidTests := true, laidLooks := .later }
def SealOpensCardSaid : Prop := Claim7.holds Tryd.pinned (.plain (OpenSpec.ofChange sealOpensSpec)) sealOpensCard

/-- THE TIED CARD OF 'reliquarylaw08.SealKinds'. -/
def sealKindsCard : Claim7 := { stood := { row := sealKindsRow, standIns := [], harness := (true, "0afc41f12dab93a3075365e4cf3c412087c2dc19f71928125bab2ea2607b0fcc"), looks := false }, kinds := [], alts := [], laidByText := true, laidKinds := [.data], laidTests := true, laidLooks := .later }
def SealKindsCardSaid : Prop := Claim7.holds Tryd.pinned (.plain (OpenSpec.ofChange sealKindsSpec)) sealKindsCard

/-- THE TIED CARD OF 'reliquarylaw08.SealPlaces'. -/
def sealPlacesCard : Claim7 := { stood := { row := sealPlacesRow, standIns := [], harness := (true, "0afc41f12dab93a3075365e4cf3c412087c2dc19f71928125bab2ea2607b0fcc"), looks := false }, kinds := [], alts := [], laidByText := true, laidKinds := [.data], laidTests := true, laidLooks := .later }
def SealPlacesCardSaid : Prop := Claim7.holds Tryd.pinned (.plain (OpenSpec.ofChange sealPlacesSpec)) sealPlacesCard

/-- THE TIED CARD OF 'reliquarylaw08.SealTails'. -/
def sealTailsCard : Claim7 := { stood := { row := sealTailsRow, standIns := [], harness := (true, "0afc41f12dab93a3075365e4cf3c412087c2dc19f71928125bab2ea2607b0fcc"), looks := false }, kinds := [], alts := [], laidByText := true, laidKinds := [.data], laidTests := true, laidLooks := .later }
def SealTailsCardSaid : Prop := Claim7.holds Tryd.pinned (.plain (OpenSpec.ofChange sealTailsSpec)) sealTailsCard

/-- THE SECOND FORM's CARD OF 'reliquarylaw08.SealPuts'. -/
def sealPutsUptoCard : Claim7 := { stood := { row := sealPutsUptoRow, standIns := [], harness := (true, "0afc41f12dab93a3075365e4cf3c412087c2dc19f71928125bab2ea2607b0fcc"), looks := false }, kinds := [], alts := [], laidByText := true, laidKinds := [.data], laidTests := true, laidLooks := .later }
def SealPutsUptoCardSaid : Prop := Claim7.holds Tryd.pinned (.plain (OpenSpec.upto sealPutsSpec)) sealPutsUptoCard

/-- THE SECOND FORM's CARD OF 'reliquarylaw08.SealOpens'. -/
def sealOpensUptoCard : Claim7 := { stood := { row := sealOpensUptoRow, standIns := [], harness := (true, "0afc41f12dab93a3075365e4cf3c412087c2dc19f71928125bab2ea2607b0fcc"), looks := false }, kinds := [], alts := [], laidByText := true, laidKinds := [.data], laidTests := true, laidLooks := .later }
def SealOpensUptoCardSaid : Prop := Claim7.holds Tryd.pinned (.plain (OpenSpec.upto sealOpensSpec)) sealOpensUptoCard

/-- THE SECOND FORM's CARD OF 'reliquarylaw08.SealKinds'. -/
def sealKindsUptoCard : Claim7 := { stood := { row := sealKindsUptoRow, standIns := [], harness := (true, "0afc41f12dab93a3075365e4cf3c412087c2dc19f71928125bab2ea2607b0fcc"), looks := false }, kinds := [], alts := [], laidByText := true, laidKinds := [.data], laidTests := true, laidLooks := .later }
def SealKindsUptoCardSaid : Prop := Claim7.holds Tryd.pinned (.plain (OpenSpec.upto sealKindsSpec)) sealKindsUptoCard

/-- THE SECOND FORM's CARD OF 'reliquarylaw08.SealPlaces'. -/
def sealPlacesUptoCard : Claim7 := { stood := { row := sealPlacesUptoRow, standIns := [], harness := (true, "0afc41f12dab93a3075365e4cf3c412087c2dc19f71928125bab2ea2607b0fcc"), looks := false }, kinds := [], alts := [], laidByText := true, laidKinds := [.data], laidTests := true, laidLooks := .later }
def SealPlacesUptoCardSaid : Prop := Claim7.holds Tryd.pinned (.plain (OpenSpec.upto sealPlacesSpec)) sealPlacesUptoCard

/-- THE SECOND FORM's CARD OF 'reliquarylaw08.SealTails'. -/
def sealTailsUptoCard : Claim7 := { stood := { row := sealTailsUptoRow, standIns := [], harness := (true, "0afc41f12dab93a3075365e4cf3c412087c2dc19f71928125bab2ea2607b0fcc"), looks := false }, kinds := [], alts := [], laidByText := true, laidKinds := [.data], laidTests := true, laidLooks := .later }
def SealTailsUptoCardSaid : Prop := Claim7.holds Tryd.pinned (.plain (OpenSpec.upto sealTailsSpec)) sealTailsUptoCard
end Rows
end Go.Proofs.YtkcpocplohdobaaDoor
