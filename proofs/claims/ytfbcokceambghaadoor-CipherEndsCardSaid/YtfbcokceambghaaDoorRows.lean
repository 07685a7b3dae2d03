/-
  NARROWER THAN 'FOR EVERY INPUT', by the rows' own cells (each row's printed sentence says how): CipherBlocks: laid · CipherCrypts: laid · CipherTwice: laid · CipherNonces: laid · CipherNoughts: laid · CipherEnds: laid.
  DERIVED. THE GIVEN ROWS OF THIS SEAT. 6 by the template 'for every input the law returns true; each argument reads behind the call as it read before'; 0 by the template 'total and deterministic' (their statements: YtfbcokceambghaaDoorTotals.lean).
  GIVEN WITH THE SEED: the statements are not yours to turn. If you find one false, say at which input.
  Laid BY PROGRAM, IN A SANDBOX (cutbox-rows.mjs): the forced cells as the released guide's own fill.sh prints them over the translation 0ed14360e37c839f… (all of the seat's roots in one cut). By AI agents, Wed Nov 11 2026. No macro, syntax, notation, axiom, sorry.
-/
import Derived.Test.YtfbcokceambghaaDoorChecked
import GoSem.Claim
import GoSem.ClaimJoined
import GoSem.ClaimMapViews
import Derived.JoinedTies
import Derived.KernelRfl
namespace Go.Proofs.YtfbcokceambghaaDoor
/- THE CELL 'sum', in the pinned program and in every row, IS THE sha256 OF THE DUMP (.gsa) THAT YtfbcokceambghaaDoorProg.lean LOADS. Nothing in Lean hashes anything: it is a label: what it is worth is what the hold of that sum in a sandbox is worth. -/
noncomputable def Tryd.pinned : Pinned := { name := "ytfbcokceambghaadoor", sum := "0ed14360e37c839f394ffd10c41f85510ef6811f3d51a4582b3362104e237fde", checked := Tryd.checked }
namespace Rows
def none {H : Type} : Left H := { results := [], args := [] }

/- WHAT THE LISTED PACKAGE-LEVEL VARIABLES READ AS WHEN THE CALL BEGINS. Each datum BY PROGRAM (the guide's laid-datum.mjs) off the statement by which the dump's own 'gosem.cut.vars' lays the variable. In a bare row this is a premise. The card (YtfbcokceambghaaDoorCards.lean) ties it to the program's text. -/
def laid_reliquary_cipher_quarters {H : Type} : DataW H := .agg [.agg [.lit (.int .i64 0), .lit (.int .i64 4), .lit (.int .i64 8), .lit (.int .i64 12)], .agg [.lit (.int .i64 1), .lit (.int .i64 5), .lit (.int .i64 9), .lit (.int .i64 13)], .agg [.lit (.int .i64 2), .lit (.int .i64 6), .lit (.int .i64 10), .lit (.int .i64 14)], .agg [.lit (.int .i64 3), .lit (.int .i64 7), .lit (.int .i64 11), .lit (.int .i64 15)], .agg [.lit (.int .i64 0), .lit (.int .i64 5), .lit (.int .i64 10), .lit (.int .i64 15)], .agg [.lit (.int .i64 1), .lit (.int .i64 6), .lit (.int .i64 11), .lit (.int .i64 12)], .agg [.lit (.int .i64 2), .lit (.int .i64 7), .lit (.int .i64 8), .lit (.int .i64 13)], .agg [.lit (.int .i64 3), .lit (.int .i64 4), .lit (.int .i64 9), .lit (.int .i64 14)]]

/-- 'reliquarylaw04.CipherBlocks': WHATEVER THE INPUT: true; the input reads as it did. -/
def cipherBlocksSpec : ChangeSpec := { name := "cipherBlocks", fn := fun _ => fun
  | [d1, d2, d3] => { results := [.lit (.bool true)], args := [d1, d2, d3] }
  | _ => none }
def cipherBlocksRow : OpenClaim := { program := "ytfbcokceambghaadoor", sum := "0ed14360e37c839f394ffd10c41f85510ef6811f3d51a4582b3362104e237fde", func := "reliquary/reliquarylaw04.CipherBlocks", spec := "cipherBlocks", unfollowed := true, recurses := true, named := ["reliquary/cipher.quarters"], apart := false, laid := [("reliquary/cipher.quarters", laid_reliquary_cipher_quarters)] }
def CipherBlocksSaid : Prop := cipherBlocksRow.holds Tryd.pinned (OpenSpec.ofChange cipherBlocksSpec)

/-- ITS FALSE NEIGHBOUR: 'it returns false'. Refute it at one input. -/
def cipherBlocksWrong : ChangeSpec := { name := "cipherBlocks", fn := fun _ => fun
  | [d1, d2, d3] => { results := [.lit (.bool false)], args := [d1, d2, d3] }
  | _ => none }
def CipherBlocksWrongFalsely : Prop := cipherBlocksRow.holds Tryd.pinned (OpenSpec.ofChange cipherBlocksWrong)

/-- 'reliquarylaw04.CipherCrypts': WHATEVER THE INPUT: true; the input reads as it did. -/
def cipherCryptsSpec : ChangeSpec := { name := "cipherCrypts", fn := fun _ => fun
  | [d1, d2, d3, d4, d5] => { results := [.lit (.bool true)], args := [d1, d2, d3, d4, d5] }
  | _ => none }
def cipherCryptsRow : OpenClaim := { program := "ytfbcokceambghaadoor", sum := "0ed14360e37c839f394ffd10c41f85510ef6811f3d51a4582b3362104e237fde", func := "reliquary/reliquarylaw04.CipherCrypts", spec := "cipherCrypts", unfollowed := true, recurses := true, named := ["reliquary/cipher.quarters"], apart := false, laid := [("reliquary/cipher.quarters", laid_reliquary_cipher_quarters)] }
def CipherCryptsSaid : Prop := cipherCryptsRow.holds Tryd.pinned (OpenSpec.ofChange cipherCryptsSpec)

/-- ITS FALSE NEIGHBOUR: 'it returns false'. Refute it at one input. -/
def cipherCryptsWrong : ChangeSpec := { name := "cipherCrypts", fn := fun _ => fun
  | [d1, d2, d3, d4, d5] => { results := [.lit (.bool false)], args := [d1, d2, d3, d4, d5] }
  | _ => none }
def CipherCryptsWrongFalsely : Prop := cipherCryptsRow.holds Tryd.pinned (OpenSpec.ofChange cipherCryptsWrong)

/-- 'reliquarylaw04.CipherTwice': WHATEVER THE INPUT: true; the input reads as it did. -/
def cipherTwiceSpec : ChangeSpec := { name := "cipherTwice", fn := fun _ => fun
  | [d1, d2, d3, d4] => { results := [.lit (.bool true)], args := [d1, d2, d3, d4] }
  | _ => none }
def cipherTwiceRow : OpenClaim := { program := "ytfbcokceambghaadoor", sum := "0ed14360e37c839f394ffd10c41f85510ef6811f3d51a4582b3362104e237fde", func := "reliquary/reliquarylaw04.CipherTwice", spec := "cipherTwice", unfollowed := true, recurses := true, named := ["reliquary/cipher.quarters"], apart := false, laid := [("reliquary/cipher.quarters", laid_reliquary_cipher_quarters)] }
def CipherTwiceSaid : Prop := cipherTwiceRow.holds Tryd.pinned (OpenSpec.ofChange cipherTwiceSpec)

/-- ITS FALSE NEIGHBOUR: 'it returns false'. Refute it at one input. -/
def cipherTwiceWrong : ChangeSpec := { name := "cipherTwice", fn := fun _ => fun
  | [d1, d2, d3, d4] => { results := [.lit (.bool false)], args := [d1, d2, d3, d4] }
  | _ => none }
def CipherTwiceWrongFalsely : Prop := cipherTwiceRow.holds Tryd.pinned (OpenSpec.ofChange cipherTwiceWrong)

/-- 'reliquarylaw04.CipherNonces': WHATEVER THE INPUT: true; the input reads as it did. -/
def cipherNoncesSpec : ChangeSpec := { name := "cipherNonces", fn := fun _ => fun
  | [d1, d2, d3, d4] => { results := [.lit (.bool true)], args := [d1, d2, d3, d4] }
  | _ => none }
def cipherNoncesRow : OpenClaim := { program := "ytfbcokceambghaadoor", sum := "0ed14360e37c839f394ffd10c41f85510ef6811f3d51a4582b3362104e237fde", func := "reliquary/reliquarylaw04.CipherNonces", spec := "cipherNonces", unfollowed := true, recurses := true, named := ["reliquary/cipher.quarters"], apart := false, laid := [("reliquary/cipher.quarters", laid_reliquary_cipher_quarters)] }
def CipherNoncesSaid : Prop := cipherNoncesRow.holds Tryd.pinned (OpenSpec.ofChange cipherNoncesSpec)

/-- ITS FALSE NEIGHBOUR: 'it returns false'. Refute it at one input. -/
def cipherNoncesWrong : ChangeSpec := { name := "cipherNonces", fn := fun _ => fun
  | [d1, d2, d3, d4] => { results := [.lit (.bool false)], args := [d1, d2, d3, d4] }
  | _ => none }
def CipherNoncesWrongFalsely : Prop := cipherNoncesRow.holds Tryd.pinned (OpenSpec.ofChange cipherNoncesWrong)

/-- 'reliquarylaw04.CipherNoughts': WHATEVER THE INPUT: true; the input reads as it did. -/
def cipherNoughtsSpec : ChangeSpec := { name := "cipherNoughts", fn := fun _ => fun
  | [d1, d2, d3, d4] => { results := [.lit (.bool true)], args := [d1, d2, d3, d4] }
  | _ => none }
def cipherNoughtsRow : OpenClaim := { program := "ytfbcokceambghaadoor", sum := "0ed14360e37c839f394ffd10c41f85510ef6811f3d51a4582b3362104e237fde", func := "reliquary/reliquarylaw04.CipherNoughts", spec := "cipherNoughts", unfollowed := true, recurses := true, named := ["reliquary/cipher.quarters"], apart := false, laid := [("reliquary/cipher.quarters", laid_reliquary_cipher_quarters)] }
def CipherNoughtsSaid : Prop := cipherNoughtsRow.holds Tryd.pinned (OpenSpec.ofChange cipherNoughtsSpec)

/-- ITS FALSE NEIGHBOUR: 'it returns false'. Refute it at one input. -/
def cipherNoughtsWrong : ChangeSpec := { name := "cipherNoughts", fn := fun _ => fun
  | [d1, d2, d3, d4] => { results := [.lit (.bool false)], args := [d1, d2, d3, d4] }
  | _ => none }
def CipherNoughtsWrongFalsely : Prop := cipherNoughtsRow.holds Tryd.pinned (OpenSpec.ofChange cipherNoughtsWrong)

/-- 'reliquarylaw04.CipherEnds': WHATEVER THE INPUT: true; the input reads as it did. -/
def cipherEndsSpec : ChangeSpec := { name := "cipherEnds", fn := fun _ => fun
  | [d1, d2, d3] => { results := [.lit (.bool true)], args := [d1, d2, d3] }
  | _ => none }
def cipherEndsRow : OpenClaim := { program := "ytfbcokceambghaadoor", sum := "0ed14360e37c839f394ffd10c41f85510ef6811f3d51a4582b3362104e237fde", func := "reliquary/reliquarylaw04.CipherEnds", spec := "cipherEnds", unfollowed := true, recurses := true, named := ["reliquary/cipher.quarters"], apart := false, laid := [("reliquary/cipher.quarters", laid_reliquary_cipher_quarters)] }
def CipherEndsSaid : Prop := cipherEndsRow.holds Tryd.pinned (OpenSpec.ofChange cipherEndsSpec)

/-- ITS FALSE NEIGHBOUR: 'it returns false'. Refute it at one input. -/
def cipherEndsWrong : ChangeSpec := { name := "cipherEnds", fn := fun _ => fun
  | [d1, d2, d3] => { results := [.lit (.bool false)], args := [d1, d2, d3] }
  | _ => none }
def CipherEndsWrongFalsely : Prop := cipherEndsRow.holds Tryd.pinned (OpenSpec.ofChange cipherEndsWrong)

/- THE SECOND FORM. 'bulk': how many values and letters a reading holds, each counted each time it is reached (what is shared counts as often as it is met; a slice's spare places count too). A statement '..UptoSaid' is the law's where the arguments, and the package variables that the reading takes, are together of bulk at most 1048576: NARROWER than '..Said'. Prove '..Said' where nothing that the law and all that it calls make is longer than what came in: it says more and counts as full. Else prove '..UptoSaid'. A law counts once. -/
mutual
def uptoBulk {H : Type} : DataW H → Nat
  | .lit (.string bytes) => bytes.length + 1
  | .lit _ => 1
  | .nil => 1
  | .ptr d => uptoBulk d + 1
  | .slice elems spare => uptoBulkAll elems + uptoBulkAll spare + 1
  | .agg parts => uptoBulkAll parts + 1
  | .iface _ d => uptoBulk d + 1
  | .map entries => uptoBulkEntries entries + 1
  | .held _ => 1
def uptoBulkAll {H : Type} : List (DataW H) → Nat
  | [] => 0
  | d :: r => uptoBulk d + uptoBulkAll r
def uptoBulkEntries {H : Type} : List (Lit × DataW H) → Nat
  | [] => 0
  | x :: r => uptoBulkEntry x + uptoBulkEntries r
def uptoBulkEntry {H : Type} : Lit × DataW H → Nat
  | (.string bytes, d) => bytes.length + uptoBulk d + 1
  | (_, d) => uptoBulk d + 1
 end
def uptoSmall : (H : Type) → List (DataW H) → Bool := fun _ ds => decide (uptoBulkAll ds ≤ 1048576)
def OpenSpec.upto (s : _root_.Go.ChangeSpec) : _root_.Go.OpenSpec := { _root_.Go.OpenSpec.ofChange s with cond := some uptoSmall }

/-- 'reliquarylaw04.CipherBlocks', WHERE WHAT IT READS IS OF BULK AT MOST 1048576: true; the input reads as it did. -/
def cipherBlocksUptoRow : OpenClaim := { program := "ytfbcokceambghaadoor", sum := "0ed14360e37c839f394ffd10c41f85510ef6811f3d51a4582b3362104e237fde", func := "reliquary/reliquarylaw04.CipherBlocks", spec := "cipherBlocks", unfollowed := true, recurses := true, named := ["reliquary/cipher.quarters"], apart := false, laid := [("reliquary/cipher.quarters", laid_reliquary_cipher_quarters)], narrowed := true }
def CipherBlocksUptoSaid : Prop := cipherBlocksUptoRow.holds Tryd.pinned (OpenSpec.upto cipherBlocksSpec)

/-- 'reliquarylaw04.CipherCrypts', WHERE WHAT IT READS IS OF BULK AT MOST 1048576: true; the input reads as it did. -/
def cipherCryptsUptoRow : OpenClaim := { program := "ytfbcokceambghaadoor", sum := "0ed14360e37c839f394ffd10c41f85510ef6811f3d51a4582b3362104e237fde", func := "reliquary/reliquarylaw04.CipherCrypts", spec := "cipherCrypts", unfollowed := true, recurses := true, named := ["reliquary/cipher.quarters"], apart := false, laid := [("reliquary/cipher.quarters", laid_reliquary_cipher_quarters)], narrowed := true }
def CipherCryptsUptoSaid : Prop := cipherCryptsUptoRow.holds Tryd.pinned (OpenSpec.upto cipherCryptsSpec)

/-- 'reliquarylaw04.CipherTwice', WHERE WHAT IT READS IS OF BULK AT MOST 1048576: true; the input reads as it did. -/
def cipherTwiceUptoRow : OpenClaim := { program := "ytfbcokceambghaadoor", sum := "0ed14360e37c839f394ffd10c41f85510ef6811f3d51a4582b3362104e237fde", func := "reliquary/reliquarylaw04.CipherTwice", spec := "cipherTwice", unfollowed := true, recurses := true, named := ["reliquary/cipher.quarters"], apart := false, laid := [("reliquary/cipher.quarters", laid_reliquary_cipher_quarters)], narrowed := true }
def CipherTwiceUptoSaid : Prop := cipherTwiceUptoRow.holds Tryd.pinned (OpenSpec.upto cipherTwiceSpec)

/-- 'reliquarylaw04.CipherNonces', WHERE WHAT IT READS IS OF BULK AT MOST 1048576: true; the input reads as it did. -/
def cipherNoncesUptoRow : OpenClaim := { program := "ytfbcokceambghaadoor", sum := "0ed14360e37c839f394ffd10c41f85510ef6811f3d51a4582b3362104e237fde", func := "reliquary/reliquarylaw04.CipherNonces", spec := "cipherNonces", unfollowed := true, recurses := true, named := ["reliquary/cipher.quarters"], apart := false, laid := [("reliquary/cipher.quarters", laid_reliquary_cipher_quarters)], narrowed := true }
def CipherNoncesUptoSaid : Prop := cipherNoncesUptoRow.holds Tryd.pinned (OpenSpec.upto cipherNoncesSpec)

/-- 'reliquarylaw04.CipherNoughts', WHERE WHAT IT READS IS OF BULK AT MOST 1048576: true; the input reads as it did. -/
def cipherNoughtsUptoRow : OpenClaim := { program := "ytfbcokceambghaadoor", sum := "0ed14360e37c839f394ffd10c41f85510ef6811f3d51a4582b3362104e237fde", func := "reliquary/reliquarylaw04.CipherNoughts", spec := "cipherNoughts", unfollowed := true, recurses := true, named := ["reliquary/cipher.quarters"], apart := false, laid := [("reliquary/cipher.quarters", laid_reliquary_cipher_quarters)], narrowed := true }
def CipherNoughtsUptoSaid : Prop := cipherNoughtsUptoRow.holds Tryd.pinned (OpenSpec.upto cipherNoughtsSpec)

/-- 'reliquarylaw04.CipherEnds', WHERE WHAT IT READS IS OF BULK AT MOST 1048576: true; the input reads as it did. -/
def cipherEndsUptoRow : OpenClaim := { program := "ytfbcokceambghaadoor", sum := "0ed14360e37c839f394ffd10c41f85510ef6811f3d51a4582b3362104e237fde", func := "reliquary/reliquarylaw04.CipherEnds", spec := "cipherEnds", unfollowed := true, recurses := true, named := ["reliquary/cipher.quarters"], apart := false, laid := [("reliquary/cipher.quarters", laid_reliquary_cipher_quarters)], narrowed := true }
def CipherEndsUptoSaid : Prop := cipherEndsUptoRow.holds Tryd.pinned (OpenSpec.upto cipherEndsSpec)

end Rows
end Go.Proofs.YtfbcokceambghaaDoor
