/-
  DERIVED. GIVEN WITH THE SEED: THE CARDS: each row of YtlmbhggkahehjaaDoorRows.lean that lists a variable, with what it lists TIED to the program's text (the seventh form; the later family's looks); each row that meets fmt, with fmt's text TOLD by the authors' own Lean function (tested against real Go, not proved from fmt's source: count such statements apart). THE CARD IS WHAT COUNTS. Prove the row's statement (the work); the ties are given (YtlmbhggkahehjaaDoorTie.lean); close each card by the builder's one call (the guide's Derived/Test/ToyasCard.lean, 'card_holds'). Laid BY PROGRAM, IN A SANDBOX (cutbox-door.mjs). By AI agents, Wed Nov 11 2026. No macro, syntax, notation, axiom, sorry.
-/
import Derived.Test.YtlmbhggkahehjaaDoorRows
import GoSem.ClaimSeven
namespace Go.Proofs.YtlmbhggkahehjaaDoor
namespace Rows

/-- THE TIED CARD OF 'reliquarylaw03.KeysMacs'. -/
def keysMacsCard : Claim7 := { stood := { row := keysMacsRow, standIns := [], harness := (true, "fd5729de1a89dfe2c7dda45374e6afb8f327d7b4fc4f22f1a463258c031d204e"), looks := false }, kinds := [], alts := [], laidByText := true, laidKinds := [.data], laidTests := true, laidLooks := .later }
def KeysMacsCardSaid : Prop := Claim7.holds Tryd.pinned (.plain (OpenSpec.ofChange keysMacsSpec)) keysMacsCard

/-- THE TIED CARD OF 'reliquarylaw03.KeysDerives'. -/
def keysDerivesCard : Claim7 := { stood := { row := keysDerivesRow, standIns := [], harness := (true, "fd5729de1a89dfe2c7dda45374e6afb8f327d7b4fc4f22f1a463258c031d204e"), looks := false }, kinds := [], alts := [], laidByText := true, laidKinds := [.data], laidTests := true, laidLooks := .later }
def KeysDerivesCardSaid : Prop := Claim7.holds Tryd.pinned (.plain (OpenSpec.ofChange keysDerivesSpec)) keysDerivesCard

/-- THE TIED CARD OF 'reliquarylaw03.KeysNoughts'. -/
def keysNoughtsCard : Claim7 := { stood := { row := keysNoughtsRow, standIns := [], harness := (true, "fd5729de1a89dfe2c7dda45374e6afb8f327d7b4fc4f22f1a463258c031d204e"), looks := false }, kinds := [], alts := [], laidByText := true, laidKinds := [.data], laidTests := true, laidLooks := .later }
def KeysNoughtsCardSaid : Prop := Claim7.holds Tryd.pinned (.plain (OpenSpec.ofChange keysNoughtsSpec)) keysNoughtsCard

/-- THE TIED CARD OF 'reliquarylaw03.KeysLong'. -/
def keysLongCard : Claim7 := { stood := { row := keysLongRow, standIns := [], harness := (true, "fd5729de1a89dfe2c7dda45374e6afb8f327d7b4fc4f22f1a463258c031d204e"), looks := false }, kinds := [], alts := [], laidByText := true, laidKinds := [.data], laidTests := true, laidLooks := .later }
def KeysLongCardSaid : Prop := Claim7.holds Tryd.pinned (.plain (OpenSpec.ofChange keysLongSpec)) keysLongCard

/-- THE SECOND FORM's CARD OF 'reliquarylaw03.KeysMacs'. -/
def keysMacsUptoCard : Claim7 := { stood := { row := keysMacsUptoRow, standIns := [], harness := (true, "fd5729de1a89dfe2c7dda45374e6afb8f327d7b4fc4f22f1a463258c031d204e"), looks := false }, kinds := [], alts := [], laidByText := true, laidKinds := [.data], laidTests := true, laidLooks := .later }
def KeysMacsUptoCardSaid : Prop := Claim7.holds Tryd.pinned (.plain (OpenSpec.upto keysMacsSpec)) keysMacsUptoCard

/-- THE SECOND FORM's CARD OF 'reliquarylaw03.KeysDerives'. -/
def keysDerivesUptoCard : Claim7 := { stood := { row := keysDerivesUptoRow, standIns := [], harness := (true, "fd5729de1a89dfe2c7dda45374e6afb8f327d7b4fc4f22f1a463258c031d204e"), looks := false }, kinds := [], alts := [], laidByText := true, laidKinds := [.data], laidTests := true, laidLooks := .later }
def KeysDerivesUptoCardSaid : Prop := Claim7.holds Tryd.pinned (.plain (OpenSpec.upto keysDerivesSpec)) keysDerivesUptoCard

/-- THE SECOND FORM's CARD OF 'reliquarylaw03.KeysNoughts'. -/
def keysNoughtsUptoCard : Claim7 := { stood := { row := keysNoughtsUptoRow, standIns := [], harness := (true, "fd5729de1a89dfe2c7dda45374e6afb8f327d7b4fc4f22f1a463258c031d204e"), looks := false }, kinds := [], alts := [], laidByText := true, laidKinds := [.data], laidTests := true, laidLooks := .later }
def KeysNoughtsUptoCardSaid : Prop := Claim7.holds Tryd.pinned (.plain (OpenSpec.upto keysNoughtsSpec)) keysNoughtsUptoCard

/-- THE SECOND FORM's CARD OF 'reliquarylaw03.KeysLong'. -/
def keysLongUptoCard : Claim7 := { stood := { row := keysLongUptoRow, standIns := [], harness := (true, "fd5729de1a89dfe2c7dda45374e6afb8f327d7b4fc4f22f1a463258c031d204e"), looks := false }, kinds := [], alts := [], laidByText := true, laidKinds := [.data], laidTests := true, laidLooks := .later }
def KeysLongUptoCardSaid : Prop := Claim7.holds Tryd.pinned (.plain (OpenSpec.upto keysLongSpec)) keysLongUptoCard
end Rows
end Go.Proofs.YtlmbhggkahehjaaDoor
