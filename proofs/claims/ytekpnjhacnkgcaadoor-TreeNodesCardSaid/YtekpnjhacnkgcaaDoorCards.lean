/-
  DERIVED. GIVEN WITH THE SEED: THE CARDS: each row of YtekpnjhacnkgcaaDoorRows.lean that lists a variable, with what it lists TIED to the program's text (the seventh form; the later family's looks); each row that meets fmt, with fmt's text TOLD by the authors' own Lean function (tested against real Go, not proved from fmt's source: count such statements apart). THE CARD IS WHAT COUNTS. Prove the row's statement (the work); the ties are given (YtekpnjhacnkgcaaDoorTie.lean); close each card by the builder's one call (the guide's Derived/Test/ToyasCard.lean, 'card_holds'). Laid BY PROGRAM, IN A SANDBOX (cutbox-door.mjs). By AI agents, Wed Nov 11 2026. No macro, syntax, notation, axiom, sorry.
-/
import Derived.Test.YtekpnjhacnkgcaaDoorRows
import GoSem.ClaimSeven
namespace Go.Proofs.YtekpnjhacnkgcaaDoor
namespace Rows

/-- THE TIED CARD OF 'reliquarylaw10.TreeNodes'. -/
def treeNodesCard : Claim7 := { stood := { row := treeNodesRow, standIns := [], harness := (true, "1365f6d779ce963836325cd02f1bc313c9ef605522c0c50edcf74189e24302da"), looks := false }, kinds := [], alts := [], laidByText := true, laidKinds := [.data], laidTests := true, laidLooks := .later }
def TreeNodesCardSaid : Prop := Claim7.holds Tryd.pinned (.plain (OpenSpec.ofChange treeNodesSpec)) treeNodesCard

/-- THE TIED CARD OF 'reliquarylaw10.TreeDigests'. -/
def treeDigestsCard : Claim7 := { stood := { row := treeDigestsRow, standIns := [], harness := (true, "1365f6d779ce963836325cd02f1bc313c9ef605522c0c50edcf74189e24302da"), looks := false }, kinds := [], alts := [], laidByText := true, laidKinds := [.data], laidTests := true, laidLooks := .later }
def TreeDigestsCardSaid : Prop := Claim7.holds Tryd.pinned (.plain (OpenSpec.ofChange treeDigestsSpec)) treeDigestsCard

/-- THE TIED CARD OF 'reliquarylaw10.TreeStamps'. -/
def treeStampsCard : Claim7 := { stood := { row := treeStampsRow, standIns := [], harness := (true, "1365f6d779ce963836325cd02f1bc313c9ef605522c0c50edcf74189e24302da"), looks := false }, kinds := [], alts := [], laidByText := true, laidKinds := [.data], laidTests := true, laidLooks := .later }
def TreeStampsCardSaid : Prop := Claim7.holds Tryd.pinned (.plain (OpenSpec.ofChange treeStampsSpec)) treeStampsCard

/-- THE TIED CARD OF 'reliquarylaw10.TreeApart'. -/
def treeApartCard : Claim7 := { stood := { row := treeApartRow, standIns := [], harness := (true, "1365f6d779ce963836325cd02f1bc313c9ef605522c0c50edcf74189e24302da"), looks := false }, kinds := [], alts := [], laidByText := true, laidKinds := [.data], laidTests := true, laidLooks := .later }
def TreeApartCardSaid : Prop := Claim7.holds Tryd.pinned (.plain (OpenSpec.ofChange treeApartSpec)) treeApartCard

/-- THE TIED CARD OF 'reliquarylaw10.TreeFields'. -/
def treeFieldsCard : Claim7 := { stood := { row := treeFieldsRow, standIns := [], harness := (true, "1365f6d779ce963836325cd02f1bc313c9ef605522c0c50edcf74189e24302da"), looks := false }, kinds := [], alts := [], laidByText := true, laidKinds := [.data], laidTests := true, laidLooks := .later }
def TreeFieldsCardSaid : Prop := Claim7.holds Tryd.pinned (.plain (OpenSpec.ofChange treeFieldsSpec)) treeFieldsCard

/-- THE SECOND FORM's CARD OF 'reliquarylaw10.TreeNodes'. -/
def treeNodesUptoCard : Claim7 := { stood := { row := treeNodesUptoRow, standIns := [], harness := (true, "1365f6d779ce963836325cd02f1bc313c9ef605522c0c50edcf74189e24302da"), looks := false }, kinds := [], alts := [], laidByText := true, laidKinds := [.data], laidTests := true, laidLooks := .later }
def TreeNodesUptoCardSaid : Prop := Claim7.holds Tryd.pinned (.plain (OpenSpec.upto treeNodesSpec)) treeNodesUptoCard

/-- THE SECOND FORM's CARD OF 'reliquarylaw10.TreeDigests'. -/
def treeDigestsUptoCard : Claim7 := { stood := { row := treeDigestsUptoRow, standIns := [], harness := (true, "1365f6d779ce963836325cd02f1bc313c9ef605522c0c50edcf74189e24302da"), looks := false }, kinds := [], alts := [], laidByText := true, laidKinds := [.data], laidTests := true, laidLooks := .later }
def TreeDigestsUptoCardSaid : Prop := Claim7.holds Tryd.pinned (.plain (OpenSpec.upto treeDigestsSpec)) treeDigestsUptoCard

/-- THE SECOND FORM's CARD OF 'reliquarylaw10.TreeStamps'. -/
def treeStampsUptoCard : Claim7 := { stood := { row := treeStampsUptoRow, standIns := [], harness := (true, "1365f6d779ce963836325cd02f1bc313c9ef605522c0c50edcf74189e24302da"), looks := false }, kinds := [], alts := [], laidByText := true, laidKinds := [.data], laidTests := true, laidLooks := .later }
def TreeStampsUptoCardSaid : Prop := Claim7.holds Tryd.pinned (.plain (OpenSpec.upto treeStampsSpec)) treeStampsUptoCard

/-- THE SECOND FORM's CARD OF 'reliquarylaw10.TreeApart'. -/
def treeApartUptoCard : Claim7 := { stood := { row := treeApartUptoRow, standIns := [], harness := (true, "1365f6d779ce963836325cd02f1bc313c9ef605522c0c50edcf74189e24302da"), looks := false }, kinds := [], alts := [], laidByText := true, laidKinds := [.data], laidTests := true, laidLooks := .later }
def TreeApartUptoCardSaid : Prop := Claim7.holds Tryd.pinned (.plain (OpenSpec.upto treeApartSpec)) treeApartUptoCard

/-- THE SECOND FORM's CARD OF 'reliquarylaw10.TreeFields'. -/
def treeFieldsUptoCard : Claim7 := { stood := { row := treeFieldsUptoRow, standIns := [], harness := (true, "1365f6d779ce963836325cd02f1bc313c9ef605522c0c50edcf74189e24302da"), looks := false }, kinds := [], alts := [], laidByText := true, laidKinds := [.data], laidTests := true, laidLooks := .later }
def TreeFieldsUptoCardSaid : Prop := Claim7.holds Tryd.pinned (.plain (OpenSpec.upto treeFieldsSpec)) treeFieldsUptoCard
end Rows
end Go.Proofs.YtekpnjhacnkgcaaDoor
