/-
  NARROWER THAN 'FOR EVERY INPUT', by the rows' own cells (each row's printed sentence says how): SealPuts: laid · SealOpens: laid · SealKinds: laid · SealPlaces: laid · SealTails: laid.
  DERIVED. THE GIVEN ROWS OF THIS SEAT. 5 by the template 'for every input the law returns true; each argument reads behind the call as it read before'; 0 by the template 'total and deterministic' (their statements: YtkcpocplohdobaaDoorTotals.lean).
  GIVEN WITH THE SEED: the statements are not yours to turn. If you find one false, say at which input.
  Laid BY PROGRAM, IN A SANDBOX (cutbox-rows.mjs): the forced cells as the released guide's own fill.sh prints them over the translation c8ce412192a12a5a… (all of the seat's roots in one cut). By AI agents, Wed Nov 11 2026. No macro, syntax, notation, axiom, sorry.
-/
import Derived.Test.YtkcpocplohdobaaDoorChecked
import GoSem.Claim
import GoSem.ClaimJoined
import GoSem.ClaimMapViews
import Derived.JoinedTies
import Derived.KernelRfl
namespace Go.Proofs.YtkcpocplohdobaaDoor
/- THE CELL 'sum', in the pinned program and in every row, IS THE sha256 OF THE DUMP (.gsa) THAT YtkcpocplohdobaaDoorProg.lean LOADS. Nothing in Lean hashes anything: it is a label: what it is worth is what the hold of that sum in a sandbox is worth. -/
noncomputable def Tryd.pinned : Pinned := { name := "ytkcpocplohdobaadoor", sum := "c8ce412192a12a5accf23be829599f996b1a1c1706e7753a7cd82005f9e025b6", checked := Tryd.checked }
namespace Rows
def none {H : Type} : Left H := { results := [], args := [] }

/- WHAT THE LISTED PACKAGE-LEVEL VARIABLES READ AS WHEN THE CALL BEGINS. Each datum BY PROGRAM (the guide's laid-datum.mjs) off the statement by which the dump's own 'gosem.cut.vars' lays the variable. In a bare row this is a premise. The card (YtkcpocplohdobaaDoorCards.lean) ties it to the program's text. -/
def laid_reliquary_cipher_quarters {H : Type} : DataW H := .agg [.agg [.lit (.int .i64 0), .lit (.int .i64 4), .lit (.int .i64 8), .lit (.int .i64 12)], .agg [.lit (.int .i64 1), .lit (.int .i64 5), .lit (.int .i64 9), .lit (.int .i64 13)], .agg [.lit (.int .i64 2), .lit (.int .i64 6), .lit (.int .i64 10), .lit (.int .i64 14)], .agg [.lit (.int .i64 3), .lit (.int .i64 7), .lit (.int .i64 11), .lit (.int .i64 15)], .agg [.lit (.int .i64 0), .lit (.int .i64 5), .lit (.int .i64 10), .lit (.int .i64 15)], .agg [.lit (.int .i64 1), .lit (.int .i64 6), .lit (.int .i64 11), .lit (.int .i64 12)], .agg [.lit (.int .i64 2), .lit (.int .i64 7), .lit (.int .i64 8), .lit (.int .i64 13)], .agg [.lit (.int .i64 3), .lit (.int .i64 4), .lit (.int .i64 9), .lit (.int .i64 14)]]

/-- 'reliquarylaw08.SealPuts': WHATEVER THE INPUT: true; the input reads as it did. -/
def sealPutsSpec : ChangeSpec := { name := "sealPuts", fn := fun _ => fun
  | [d1, d2, d3, d4, d5] => { results := [.lit (.bool true)], args := [d1, d2, d3, d4, d5] }
  | _ => none }
def sealPutsRow : OpenClaim := { program := "ytkcpocplohdobaadoor", sum := "c8ce412192a12a5accf23be829599f996b1a1c1706e7753a7cd82005f9e025b6", func := "reliquary/reliquarylaw08.SealPuts", spec := "sealPuts", unfollowed := true, recurses := true, named := ["reliquary/cipher.quarters"], apart := false, laid := [("reliquary/cipher.quarters", laid_reliquary_cipher_quarters)] }
def SealPutsSaid : Prop := sealPutsRow.holds Tryd.pinned (OpenSpec.ofChange sealPutsSpec)

/-- ITS FALSE NEIGHBOUR: 'it returns false'. Refute it at one input. -/
def sealPutsWrong : ChangeSpec := { name := "sealPuts", fn := fun _ => fun
  | [d1, d2, d3, d4, d5] => { results := [.lit (.bool false)], args := [d1, d2, d3, d4, d5] }
  | _ => none }
def SealPutsWrongFalsely : Prop := sealPutsRow.holds Tryd.pinned (OpenSpec.ofChange sealPutsWrong)

/-- 'reliquarylaw08.SealOpens': WHATEVER THE INPUT: true; the input reads as it did. -/
def sealOpensSpec : ChangeSpec := { name := "sealOpens", fn := fun _ => fun
  | [d1, d2, d3, d4, d5] => { results := [.lit (.bool true)], args := [d1, d2, d3, d4, d5] }
  | _ => none }
def sealOpensRow : OpenClaim := { program := "ytkcpocplohdobaadoor", sum := "c8ce412192a12a5accf23be829599f996b1a1c1706e7753a7cd82005f9e025b6", func := "reliquary/reliquarylaw08.SealOpens", spec := "sealOpens", unfollowed := true, recurses := true, named := ["reliquary/cipher.quarters"], apart := false, laid := [("reliquary/cipher.quarters", laid_reliquary_cipher_quarters)] }
def SealOpensSaid : Prop := sealOpensRow.holds Tryd.pinned (OpenSpec.ofChange sealOpensSpec)

/-- ITS FALSE NEIGHBOUR: 'it returns false'. Refute it at one input. -/
def sealOpensWrong : ChangeSpec := { name := "sealOpens", fn := fun _ => fun
  | [d1, d2, d3, d4, d5] => { results := [.lit (.bool false)], args := [d1, d2, d3, d4, d5] }
  | _ => none }
def SealOpensWrongFalsely : Prop := sealOpensRow.holds Tryd.pinned (OpenSpec.ofChange sealOpensWrong)

/-- 'reliquarylaw08.SealKinds': WHATEVER THE INPUT: true; the input reads as it did. -/
def sealKindsSpec : ChangeSpec := { name := "sealKinds", fn := fun _ => fun
  | [d1, d2, d3] => { results := [.lit (.bool true)], args := [d1, d2, d3] }
  | _ => none }
def sealKindsRow : OpenClaim := { program := "ytkcpocplohdobaadoor", sum := "c8ce412192a12a5accf23be829599f996b1a1c1706e7753a7cd82005f9e025b6", func := "reliquary/reliquarylaw08.SealKinds", spec := "sealKinds", unfollowed := true, recurses := true, named := ["reliquary/cipher.quarters"], apart := false, laid := [("reliquary/cipher.quarters", laid_reliquary_cipher_quarters)] }
def SealKindsSaid : Prop := sealKindsRow.holds Tryd.pinned (OpenSpec.ofChange sealKindsSpec)

/-- ITS FALSE NEIGHBOUR: 'it returns false'. Refute it at one input. -/
def sealKindsWrong : ChangeSpec := { name := "sealKinds", fn := fun _ => fun
  | [d1, d2, d3] => { results := [.lit (.bool false)], args := [d1, d2, d3] }
  | _ => none }
def SealKindsWrongFalsely : Prop := sealKindsRow.holds Tryd.pinned (OpenSpec.ofChange sealKindsWrong)

/-- 'reliquarylaw08.SealPlaces': WHATEVER THE INPUT: true; the input reads as it did. -/
def sealPlacesSpec : ChangeSpec := { name := "sealPlaces", fn := fun _ => fun
  | [d1, d2, d3, d4, d5, d6] => { results := [.lit (.bool true)], args := [d1, d2, d3, d4, d5, d6] }
  | _ => none }
def sealPlacesRow : OpenClaim := { program := "ytkcpocplohdobaadoor", sum := "c8ce412192a12a5accf23be829599f996b1a1c1706e7753a7cd82005f9e025b6", func := "reliquary/reliquarylaw08.SealPlaces", spec := "sealPlaces", unfollowed := true, recurses := true, named := ["reliquary/cipher.quarters"], apart := false, laid := [("reliquary/cipher.quarters", laid_reliquary_cipher_quarters)] }
def SealPlacesSaid : Prop := sealPlacesRow.holds Tryd.pinned (OpenSpec.ofChange sealPlacesSpec)

/-- ITS FALSE NEIGHBOUR: 'it returns false'. Refute it at one input. -/
def sealPlacesWrong : ChangeSpec := { name := "sealPlaces", fn := fun _ => fun
  | [d1, d2, d3, d4, d5, d6] => { results := [.lit (.bool false)], args := [d1, d2, d3, d4, d5, d6] }
  | _ => none }
def SealPlacesWrongFalsely : Prop := sealPlacesRow.holds Tryd.pinned (OpenSpec.ofChange sealPlacesWrong)

/-- 'reliquarylaw08.SealTails': WHATEVER THE INPUT: true; the input reads as it did. -/
def sealTailsSpec : ChangeSpec := { name := "sealTails", fn := fun _ => fun
  | [d1, d2, d3, d4, d5] => { results := [.lit (.bool true)], args := [d1, d2, d3, d4, d5] }
  | _ => none }
def sealTailsRow : OpenClaim := { program := "ytkcpocplohdobaadoor", sum := "c8ce412192a12a5accf23be829599f996b1a1c1706e7753a7cd82005f9e025b6", func := "reliquary/reliquarylaw08.SealTails", spec := "sealTails", unfollowed := true, recurses := true, named := ["reliquary/cipher.quarters"], apart := false, laid := [("reliquary/cipher.quarters", laid_reliquary_cipher_quarters)] }
def SealTailsSaid : Prop := sealTailsRow.holds Tryd.pinned (OpenSpec.ofChange sealTailsSpec)

/-- ITS FALSE NEIGHBOUR: 'it returns false'. Refute it at one input. -/
def sealTailsWrong : ChangeSpec := { name := "sealTails", fn := fun _ => fun
  | [d1, d2, d3, d4, d5] => { results := [.lit (.bool false)], args := [d1, d2, d3, d4, d5] }
  | _ => none }
def SealTailsWrongFalsely : Prop := sealTailsRow.holds Tryd.pinned (OpenSpec.ofChange sealTailsWrong)

/- THE SECOND FORM. 'bulk': how many values and letters a reading holds, each counted each time it is reached (what is shared counts as often as it is met; a slice's spare places count too). A statement '..UptoSaid' is the law's where the arguments, and the package variables that the reading takes, are together of bulk at most 1048576: NARROWER than '..Said'. Prove '..Said' where nothing that the law and all that it calls make is longer than what came in: it says more and counts as full. Else prove '..UptoSaid'. A law counts once. -/
mutual
def uptoBulk {H : Type} : DataW H → Nat
  | .lit (.string bytes) => bytes.length + 1
  | .lit _ => 1
  | .nil => 1
  | .ptr d => uptoBulk d + 1
  | .slice elems spare => uptoBulkAll elems + uptoBulkAll spare + 1
  | .agg parts => uptoBulkAll parts + 1
  | .iface _ d => uptoBulk d + 1
  | .map entries => uptoBulkEntries entries + 1
  | .held _ => 1
def uptoBulkAll {H : Type} : List (DataW H) → Nat
  | [] => 0
  | d :: r => uptoBulk d + uptoBulkAll r
def uptoBulkEntries {H : Type} : List (Lit × DataW H) → Nat
  | [] => 0
  | x :: r => uptoBulkEntry x + uptoBulkEntries r
def uptoBulkEntry {H : Type} : Lit × DataW H → Nat
  | (.string bytes, d) => bytes.length + uptoBulk d + 1
  | (_, d) => uptoBulk d + 1
 end
def uptoSmall : (H : Type) → List (DataW H) → Bool := fun _ ds => decide (uptoBulkAll ds ≤ 1048576)
def OpenSpec.upto (s : _root_.Go.ChangeSpec) : _root_.Go.OpenSpec := { _root_.Go.OpenSpec.ofChange s with cond := some uptoSmall }

/-- 'reliquarylaw08.SealPuts', WHERE WHAT IT READS IS OF BULK AT MOST 1048576: true; the input reads as it did. -/
def sealPutsUptoRow : OpenClaim := { program := "ytkcpocplohdobaadoor", sum := "c8ce412192a12a5accf23be829599f996b1a1c1706e7753a7cd82005f9e025b6", func := "reliquary/reliquarylaw08.SealPuts", spec := "sealPuts", unfollowed := true, recurses := true, named := ["reliquary/cipher.quarters"], apart := false, laid := [("reliquary/cipher.quarters", laid_reliquary_cipher_quarters)], narrowed := true }
def SealPutsUptoSaid : Prop := sealPutsUptoRow.holds Tryd.pinned (OpenSpec.upto sealPutsSpec)

/-- 'reliquarylaw08.SealOpens', WHERE WHAT IT READS IS OF BULK AT MOST 1048576: true; the input reads as it did. -/
def sealOpensUptoRow : OpenClaim := { program := "ytkcpocplohdobaadoor", sum := "c8ce412192a12a5accf23be829599f996b1a1c1706e7753a7cd82005f9e025b6", func := "reliquary/reliquarylaw08.SealOpens", spec := "sealOpens", unfollowed := true, recurses := true, named := ["reliquary/cipher.quarters"], apart := false, laid := [("reliquary/cipher.quarters", laid_reliquary_cipher_quarters)], narrowed := true }
def SealOpensUptoSaid : Prop := sealOpensUptoRow.holds Tryd.pinned (OpenSpec.upto sealOpensSpec)

/-- 'reliquarylaw08.SealKinds', WHERE WHAT IT READS IS OF BULK AT MOST 1048576: true; the input reads as it did. -/
def sealKindsUptoRow : OpenClaim := { program := "ytkcpocplohdobaadoor", sum := "c8ce412192a12a5accf23be829599f996b1a1c1706e7753a7cd82005f9e025b6", func := "reliquary/reliquarylaw08.SealKinds", spec := "sealKinds", unfollowed := true, recurses := true, named := ["reliquary/cipher.quarters"], apart := false, laid := [("reliquary/cipher.quarters", laid_reliquary_cipher_quarters)], narrowed := true }
def SealKindsUptoSaid : Prop := sealKindsUptoRow.holds Tryd.pinned (OpenSpec.upto sealKindsSpec)

/-- 'reliquarylaw08.SealPlaces', WHERE WHAT IT READS IS OF BULK AT MOST 1048576: true; the input reads as it did. -/
def sealPlacesUptoRow : OpenClaim := { program := "ytkcpocplohdobaadoor", sum := "c8ce412192a12a5accf23be829599f996b1a1c1706e7753a7cd82005f9e025b6", func := "reliquary/reliquarylaw08.SealPlaces", spec := "sealPlaces", unfollowed := true, recurses := true, named := ["reliquary/cipher.quarters"], apart := false, laid := [("reliquary/cipher.quarters", laid_reliquary_cipher_quarters)], narrowed := true }
def SealPlacesUptoSaid : Prop := sealPlacesUptoRow.holds Tryd.pinned (OpenSpec.upto sealPlacesSpec)

/-- 'reliquarylaw08.SealTails', WHERE WHAT IT READS IS OF BULK AT MOST 1048576: true; the input reads as it did. -/
def sealTailsUptoRow : OpenClaim := { program := "ytkcpocplohdobaadoor", sum := "c8ce412192a12a5accf23be829599f996b1a1c1706e7753a7cd82005f9e025b6", func := "reliquary/reliquarylaw08.SealTails", spec := "sealTails", unfollowed := true, recurses := true, named := ["reliquary/cipher.quarters"], apart := false, laid := [("reliquary/cipher.quarters", laid_reliquary_cipher_quarters)], narrowed := true }
def SealTailsUptoSaid : Prop := sealTailsUptoRow.holds Tryd.pinned (OpenSpec.upto sealTailsSpec)

end Rows
end Go.Proofs.YtkcpocplohdobaaDoor
