/-
  NARROWER THAN 'FOR EVERY INPUT', by the rows' own cells (each row's printed sentence says how): DigestSums: laid · DigestReads: laid · DigestLengths: laid · DigestDigits: laid · DigestPieces: laid · DigestEmpty: laid.
  DERIVED. THE GIVEN ROWS OF THIS SEAT. 6 by the template 'for every input the law returns true; each argument reads behind the call as it read before'; 0 by the template 'total and deterministic' (their statements: YtbanecjdkphooaaDoorTotals.lean).
  GIVEN WITH THE SEED: the statements are not yours to turn. If you find one false, say at which input.
  Laid BY PROGRAM, IN A SANDBOX (cutbox-rows.mjs): the forced cells as the released guide's own fill.sh prints them over the translation e9378f9ec34527bd… (all of the seat's roots in one cut). By AI agents, Wed Nov 11 2026. No macro, syntax, notation, axiom, sorry.
-/
import Derived.Test.YtbanecjdkphooaaDoorChecked
import GoSem.Claim
import GoSem.ClaimJoined
import GoSem.ClaimMapViews
import Derived.JoinedTies
import Derived.KernelRfl
namespace Go.Proofs.YtbanecjdkphooaaDoor
/- THE CELL 'sum', in the pinned program and in every row, IS THE sha256 OF THE DUMP (.gsa) THAT YtbanecjdkphooaaDoorProg.lean LOADS. Nothing in Lean hashes anything: it is a label: what it is worth is what the hold of that sum in a sandbox is worth. -/
noncomputable def Tryd.pinned : Pinned := { name := "ytbanecjdkphooaadoor", sum := "e9378f9ec34527bd3ad8465ece08326da507796e2bf91756280c304ff1509ccc", checked := Tryd.checked }
namespace Rows
def none {H : Type} : Left H := { results := [], args := [] }

/- WHAT THE LISTED PACKAGE-LEVEL VARIABLES READ AS WHEN THE CALL BEGINS. Each datum BY PROGRAM (the guide's laid-datum.mjs) off the statement by which the dump's own 'gosem.cut.vars' lays the variable. In a bare row this is a premise. The card (YtbanecjdkphooaaDoorCards.lean) ties it to the program's text. -/
def laid_reliquary_digest_k {H : Type} : DataW H := .agg [.lit (.int .u32 1116352408), .lit (.int .u32 1899447441), .lit (.int .u32 3049323471), .lit (.int .u32 3921009573), .lit (.int .u32 961987163), .lit (.int .u32 1508970993), .lit (.int .u32 2453635748), .lit (.int .u32 2870763221), .lit (.int .u32 3624381080), .lit (.int .u32 310598401), .lit (.int .u32 607225278), .lit (.int .u32 1426881987), .lit (.int .u32 1925078388), .lit (.int .u32 2162078206), .lit (.int .u32 2614888103), .lit (.int .u32 3248222580), .lit (.int .u32 3835390401), .lit (.int .u32 4022224774), .lit (.int .u32 264347078), .lit (.int .u32 604807628), .lit (.int .u32 770255983), .lit (.int .u32 1249150122), .lit (.int .u32 1555081692), .lit (.int .u32 1996064986), .lit (.int .u32 2554220882), .lit (.int .u32 2821834349), .lit (.int .u32 2952996808), .lit (.int .u32 3210313671), .lit (.int .u32 3336571891), .lit (.int .u32 3584528711), .lit (.int .u32 113926993), .lit (.int .u32 338241895), .lit (.int .u32 666307205), .lit (.int .u32 773529912), .lit (.int .u32 1294757372), .lit (.int .u32 1396182291), .lit (.int .u32 1695183700), .lit (.int .u32 1986661051), .lit (.int .u32 2177026350), .lit (.int .u32 2456956037), .lit (.int .u32 2730485921), .lit (.int .u32 2820302411), .lit (.int .u32 3259730800), .lit (.int .u32 3345764771), .lit (.int .u32 3516065817), .lit (.int .u32 3600352804), .lit (.int .u32 4094571909), .lit (.int .u32 275423344), .lit (.int .u32 430227734), .lit (.int .u32 506948616), .lit (.int .u32 659060556), .lit (.int .u32 883997877), .lit (.int .u32 958139571), .lit (.int .u32 1322822218), .lit (.int .u32 1537002063), .lit (.int .u32 1747873779), .lit (.int .u32 1955562222), .lit (.int .u32 2024104815), .lit (.int .u32 2227730452), .lit (.int .u32 2361852424), .lit (.int .u32 2428436474), .lit (.int .u32 2756734187), .lit (.int .u32 3204031479), .lit (.int .u32 3329325298)]

/-- 'reliquarylaw02.DigestSums': WHATEVER THE INPUT: true; the input reads as it did. -/
def digestSumsSpec : ChangeSpec := { name := "digestSums", fn := fun _ => fun
  | [d] => { results := [.lit (.bool true)], args := [d] }
  | _ => none }
def digestSumsRow : OpenClaim := { program := "ytbanecjdkphooaadoor", sum := "e9378f9ec34527bd3ad8465ece08326da507796e2bf91756280c304ff1509ccc", func := "reliquary/reliquarylaw02.DigestSums", spec := "digestSums", inPlace := ["internal/bytealg.IndexByteString"], unfollowed := true, recurses := true, named := ["reliquary/digest.k"], apart := false, laid := [("reliquary/digest.k", laid_reliquary_digest_k)] }
def DigestSumsSaid : Prop := digestSumsRow.holds Tryd.pinned (OpenSpec.ofChange digestSumsSpec)

/-- ITS FALSE NEIGHBOUR: 'it returns false'. Refute it at one input. -/
def digestSumsWrong : ChangeSpec := { name := "digestSums", fn := fun _ => fun
  | [d] => { results := [.lit (.bool false)], args := [d] }
  | _ => none }
def DigestSumsWrongFalsely : Prop := digestSumsRow.holds Tryd.pinned (OpenSpec.ofChange digestSumsWrong)

/-- 'reliquarylaw02.DigestReads': WHATEVER THE INPUT: true; the input reads as it did. -/
def digestReadsSpec : ChangeSpec := { name := "digestReads", fn := fun _ => fun
  | [d1, d2] => { results := [.lit (.bool true)], args := [d1, d2] }
  | _ => none }
def digestReadsRow : OpenClaim := { program := "ytbanecjdkphooaadoor", sum := "e9378f9ec34527bd3ad8465ece08326da507796e2bf91756280c304ff1509ccc", func := "reliquary/reliquarylaw02.DigestReads", spec := "digestReads", inPlace := ["internal/bytealg.IndexByteString"], unfollowed := true, recurses := true, named := ["reliquary/digest.k"], apart := false, laid := [("reliquary/digest.k", laid_reliquary_digest_k)] }
def DigestReadsSaid : Prop := digestReadsRow.holds Tryd.pinned (OpenSpec.ofChange digestReadsSpec)

/-- ITS FALSE NEIGHBOUR: 'it returns false'. Refute it at one input. -/
def digestReadsWrong : ChangeSpec := { name := "digestReads", fn := fun _ => fun
  | [d1, d2] => { results := [.lit (.bool false)], args := [d1, d2] }
  | _ => none }
def DigestReadsWrongFalsely : Prop := digestReadsRow.holds Tryd.pinned (OpenSpec.ofChange digestReadsWrong)

/-- 'reliquarylaw02.DigestLengths': WHATEVER THE INPUT: true; the input reads as it did. -/
def digestLengthsSpec : ChangeSpec := { name := "digestLengths", fn := fun _ => fun
  | [d1, d2] => { results := [.lit (.bool true)], args := [d1, d2] }
  | _ => none }
def digestLengthsRow : OpenClaim := { program := "ytbanecjdkphooaadoor", sum := "e9378f9ec34527bd3ad8465ece08326da507796e2bf91756280c304ff1509ccc", func := "reliquary/reliquarylaw02.DigestLengths", spec := "digestLengths", inPlace := ["internal/bytealg.IndexByteString"], unfollowed := true, recurses := true, named := ["reliquary/digest.k"], apart := false, laid := [("reliquary/digest.k", laid_reliquary_digest_k)] }
def DigestLengthsSaid : Prop := digestLengthsRow.holds Tryd.pinned (OpenSpec.ofChange digestLengthsSpec)

/-- ITS FALSE NEIGHBOUR: 'it returns false'. Refute it at one input. -/
def digestLengthsWrong : ChangeSpec := { name := "digestLengths", fn := fun _ => fun
  | [d1, d2] => { results := [.lit (.bool false)], args := [d1, d2] }
  | _ => none }
def DigestLengthsWrongFalsely : Prop := digestLengthsRow.holds Tryd.pinned (OpenSpec.ofChange digestLengthsWrong)

/-- 'reliquarylaw02.DigestDigits': WHATEVER THE INPUT: true; the input reads as it did. -/
def digestDigitsSpec : ChangeSpec := { name := "digestDigits", fn := fun _ => fun
  | [d1, d2, d3] => { results := [.lit (.bool true)], args := [d1, d2, d3] }
  | _ => none }
def digestDigitsRow : OpenClaim := { program := "ytbanecjdkphooaadoor", sum := "e9378f9ec34527bd3ad8465ece08326da507796e2bf91756280c304ff1509ccc", func := "reliquary/reliquarylaw02.DigestDigits", spec := "digestDigits", inPlace := ["internal/bytealg.IndexByteString"], unfollowed := true, recurses := true, named := ["reliquary/digest.k"], apart := false, laid := [("reliquary/digest.k", laid_reliquary_digest_k)] }
def DigestDigitsSaid : Prop := digestDigitsRow.holds Tryd.pinned (OpenSpec.ofChange digestDigitsSpec)

/-- ITS FALSE NEIGHBOUR: 'it returns false'. Refute it at one input. -/
def digestDigitsWrong : ChangeSpec := { name := "digestDigits", fn := fun _ => fun
  | [d1, d2, d3] => { results := [.lit (.bool false)], args := [d1, d2, d3] }
  | _ => none }
def DigestDigitsWrongFalsely : Prop := digestDigitsRow.holds Tryd.pinned (OpenSpec.ofChange digestDigitsWrong)

/-- 'reliquarylaw02.DigestPieces': WHATEVER THE INPUT: true; the input reads as it did. -/
def digestPiecesSpec : ChangeSpec := { name := "digestPieces", fn := fun _ => fun
  | [d] => { results := [.lit (.bool true)], args := [d] }
  | _ => none }
def digestPiecesRow : OpenClaim := { program := "ytbanecjdkphooaadoor", sum := "e9378f9ec34527bd3ad8465ece08326da507796e2bf91756280c304ff1509ccc", func := "reliquary/reliquarylaw02.DigestPieces", spec := "digestPieces", inPlace := ["internal/bytealg.IndexByteString"], unfollowed := true, recurses := true, named := ["reliquary/digest.k"], apart := false, laid := [("reliquary/digest.k", laid_reliquary_digest_k)] }
def DigestPiecesSaid : Prop := digestPiecesRow.holds Tryd.pinned (OpenSpec.ofChange digestPiecesSpec)

/-- ITS FALSE NEIGHBOUR: 'it returns false'. Refute it at one input. -/
def digestPiecesWrong : ChangeSpec := { name := "digestPieces", fn := fun _ => fun
  | [d] => { results := [.lit (.bool false)], args := [d] }
  | _ => none }
def DigestPiecesWrongFalsely : Prop := digestPiecesRow.holds Tryd.pinned (OpenSpec.ofChange digestPiecesWrong)

/-- 'reliquarylaw02.DigestEmpty': WHATEVER THE INPUT: true; the input reads as it did. -/
def digestEmptySpec : ChangeSpec := { name := "digestEmpty", fn := fun _ => fun
  | [d1, d2] => { results := [.lit (.bool true)], args := [d1, d2] }
  | _ => none }
def digestEmptyRow : OpenClaim := { program := "ytbanecjdkphooaadoor", sum := "e9378f9ec34527bd3ad8465ece08326da507796e2bf91756280c304ff1509ccc", func := "reliquary/reliquarylaw02.DigestEmpty", spec := "digestEmpty", inPlace := ["internal/bytealg.IndexByteString"], unfollowed := true, recurses := true, named := ["reliquary/digest.k"], apart := false, laid := [("reliquary/digest.k", laid_reliquary_digest_k)] }
def DigestEmptySaid : Prop := digestEmptyRow.holds Tryd.pinned (OpenSpec.ofChange digestEmptySpec)

/-- ITS FALSE NEIGHBOUR: 'it returns false'. Refute it at one input. -/
def digestEmptyWrong : ChangeSpec := { name := "digestEmpty", fn := fun _ => fun
  | [d1, d2] => { results := [.lit (.bool false)], args := [d1, d2] }
  | _ => none }
def DigestEmptyWrongFalsely : Prop := digestEmptyRow.holds Tryd.pinned (OpenSpec.ofChange digestEmptyWrong)

/- THE SECOND FORM. 'bulk': how many values and letters a reading holds, each counted each time it is reached (what is shared counts as often as it is met; a slice's spare places count too). A statement '..UptoSaid' is the law's where the arguments, and the package variables that the reading takes, are together of bulk at most 1048576: NARROWER than '..Said'. Prove '..Said' where nothing that the law and all that it calls make is longer than what came in: it says more and counts as full. Else prove '..UptoSaid'. A law counts once. -/
mutual
def uptoBulk {H : Type} : DataW H → Nat
  | .lit (.string bytes) => bytes.length + 1
  | .lit _ => 1
  | .nil => 1
  | .ptr d => uptoBulk d + 1
  | .slice elems spare => uptoBulkAll elems + uptoBulkAll spare + 1
  | .agg parts => uptoBulkAll parts + 1
  | .iface _ d => uptoBulk d + 1
  | .map entries => uptoBulkEntries entries + 1
  | .held _ => 1
def uptoBulkAll {H : Type} : List (DataW H) → Nat
  | [] => 0
  | d :: r => uptoBulk d + uptoBulkAll r
def uptoBulkEntries {H : Type} : List (Lit × DataW H) → Nat
  | [] => 0
  | x :: r => uptoBulkEntry x + uptoBulkEntries r
def uptoBulkEntry {H : Type} : Lit × DataW H → Nat
  | (.string bytes, d) => bytes.length + uptoBulk d + 1
  | (_, d) => uptoBulk d + 1
 end
def uptoSmall : (H : Type) → List (DataW H) → Bool := fun _ ds => decide (uptoBulkAll ds ≤ 1048576)
def OpenSpec.upto (s : _root_.Go.ChangeSpec) : _root_.Go.OpenSpec := { _root_.Go.OpenSpec.ofChange s with cond := some uptoSmall }

/-- 'reliquarylaw02.DigestSums', WHERE WHAT IT READS IS OF BULK AT MOST 1048576: true; the input reads as it did. -/
def digestSumsUptoRow : OpenClaim := { program := "ytbanecjdkphooaadoor", sum := "e9378f9ec34527bd3ad8465ece08326da507796e2bf91756280c304ff1509ccc", func := "reliquary/reliquarylaw02.DigestSums", spec := "digestSums", inPlace := ["internal/bytealg.IndexByteString"], unfollowed := true, recurses := true, named := ["reliquary/digest.k"], apart := false, laid := [("reliquary/digest.k", laid_reliquary_digest_k)], narrowed := true }
def DigestSumsUptoSaid : Prop := digestSumsUptoRow.holds Tryd.pinned (OpenSpec.upto digestSumsSpec)

/-- 'reliquarylaw02.DigestReads', WHERE WHAT IT READS IS OF BULK AT MOST 1048576: true; the input reads as it did. -/
def digestReadsUptoRow : OpenClaim := { program := "ytbanecjdkphooaadoor", sum := "e9378f9ec34527bd3ad8465ece08326da507796e2bf91756280c304ff1509ccc", func := "reliquary/reliquarylaw02.DigestReads", spec := "digestReads", inPlace := ["internal/bytealg.IndexByteString"], unfollowed := true, recurses := true, named := ["reliquary/digest.k"], apart := false, laid := [("reliquary/digest.k", laid_reliquary_digest_k)], narrowed := true }
def DigestReadsUptoSaid : Prop := digestReadsUptoRow.holds Tryd.pinned (OpenSpec.upto digestReadsSpec)

/-- 'reliquarylaw02.DigestLengths', WHERE WHAT IT READS IS OF BULK AT MOST 1048576: true; the input reads as it did. -/
def digestLengthsUptoRow : OpenClaim := { program := "ytbanecjdkphooaadoor", sum := "e9378f9ec34527bd3ad8465ece08326da507796e2bf91756280c304ff1509ccc", func := "reliquary/reliquarylaw02.DigestLengths", spec := "digestLengths", inPlace := ["internal/bytealg.IndexByteString"], unfollowed := true, recurses := true, named := ["reliquary/digest.k"], apart := false, laid := [("reliquary/digest.k", laid_reliquary_digest_k)], narrowed := true }
def DigestLengthsUptoSaid : Prop := digestLengthsUptoRow.holds Tryd.pinned (OpenSpec.upto digestLengthsSpec)

/-- 'reliquarylaw02.DigestDigits', WHERE WHAT IT READS IS OF BULK AT MOST 1048576: true; the input reads as it did. -/
def digestDigitsUptoRow : OpenClaim := { program := "ytbanecjdkphooaadoor", sum := "e9378f9ec34527bd3ad8465ece08326da507796e2bf91756280c304ff1509ccc", func := "reliquary/reliquarylaw02.DigestDigits", spec := "digestDigits", inPlace := ["internal/bytealg.IndexByteString"], unfollowed := true, recurses := true, named := ["reliquary/digest.k"], apart := false, laid := [("reliquary/digest.k", laid_reliquary_digest_k)], narrowed := true }
def DigestDigitsUptoSaid : Prop := digestDigitsUptoRow.holds Tryd.pinned (OpenSpec.upto digestDigitsSpec)

/-- 'reliquarylaw02.DigestPieces', WHERE WHAT IT READS IS OF BULK AT MOST 1048576: true; the input reads as it did. -/
def digestPiecesUptoRow : OpenClaim := { program := "ytbanecjdkphooaadoor", sum := "e9378f9ec34527bd3ad8465ece08326da507796e2bf91756280c304ff1509ccc", func := "reliquary/reliquarylaw02.DigestPieces", spec := "digestPieces", inPlace := ["internal/bytealg.IndexByteString"], unfollowed := true, recurses := true, named := ["reliquary/digest.k"], apart := false, laid := [("reliquary/digest.k", laid_reliquary_digest_k)], narrowed := true }
def DigestPiecesUptoSaid : Prop := digestPiecesUptoRow.holds Tryd.pinned (OpenSpec.upto digestPiecesSpec)

/-- 'reliquarylaw02.DigestEmpty', WHERE WHAT IT READS IS OF BULK AT MOST 1048576: true; the input reads as it did. -/
def digestEmptyUptoRow : OpenClaim := { program := "ytbanecjdkphooaadoor", sum := "e9378f9ec34527bd3ad8465ece08326da507796e2bf91756280c304ff1509ccc", func := "reliquary/reliquarylaw02.DigestEmpty", spec := "digestEmpty", inPlace := ["internal/bytealg.IndexByteString"], unfollowed := true, recurses := true, named := ["reliquary/digest.k"], apart := false, laid := [("reliquary/digest.k", laid_reliquary_digest_k)], narrowed := true }
def DigestEmptyUptoSaid : Prop := digestEmptyUptoRow.holds Tryd.pinned (OpenSpec.upto digestEmptySpec)

end Rows
end Go.Proofs.YtbanecjdkphooaaDoor
