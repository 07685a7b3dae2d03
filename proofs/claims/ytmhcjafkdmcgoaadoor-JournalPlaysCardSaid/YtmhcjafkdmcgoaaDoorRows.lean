/-
  NARROWER THAN 'FOR EVERY INPUT', by the rows' own cells (each row's printed sentence says how): JournalLinks: laid · JournalRing: laid · JournalSeals: laid · JournalCounts: laid · JournalPlays: laid.
  DERIVED. THE GIVEN ROWS OF THIS SEAT. 5 by the template 'for every input the law returns true; each argument reads behind the call as it read before'; 0 by the template 'total and deterministic' (their statements: YtmhcjafkdmcgoaaDoorTotals.lean).
  GIVEN WITH THE SEED: the statements are not yours to turn. If you find one false, say at which input.
  Laid BY PROGRAM, IN A SANDBOX (cutbox-rows.mjs): the forced cells as the released guide's own fill.sh prints them over the translation cbd822027d3dd804… (all of the seat's roots in one cut). By AI agents, Wed Nov 11 2026. No macro, syntax, notation, axiom, sorry.
-/
import Derived.Test.YtmhcjafkdmcgoaaDoorChecked
import GoSem.Claim
import GoSem.ClaimJoined
import GoSem.ClaimMapViews
import Derived.JoinedTies
import Derived.KernelRfl
namespace Go.Proofs.YtmhcjafkdmcgoaaDoor
/- THE CELL 'sum', in the pinned program and in every row, IS THE sha256 OF THE DUMP (.gsa) THAT YtmhcjafkdmcgoaaDoorProg.lean LOADS. Nothing in Lean hashes anything: it is a label: what it is worth is what the hold of that sum in a sandbox is worth. -/
noncomputable def Tryd.pinned : Pinned := { name := "ytmhcjafkdmcgoaadoor", sum := "cbd822027d3dd80423bbd08495ac8eb30d8aaa689238d32ea7d4022c40ddb594", checked := Tryd.checked }
namespace Rows
def none {H : Type} : Left H := { results := [], args := [] }

/- WHAT THE LISTED PACKAGE-LEVEL VARIABLES READ AS WHEN THE CALL BEGINS. Each datum BY PROGRAM (the guide's laid-datum.mjs) off the statement by which the dump's own 'gosem.cut.vars' lays the variable. In a bare row this is a premise. The card (YtmhcjafkdmcgoaaDoorCards.lean) ties it to the program's text. -/
def laid_reliquary_cipher_quarters {H : Type} : DataW H := .agg [.agg [.lit (.int .i64 0), .lit (.int .i64 4), .lit (.int .i64 8), .lit (.int .i64 12)], .agg [.lit (.int .i64 1), .lit (.int .i64 5), .lit (.int .i64 9), .lit (.int .i64 13)], .agg [.lit (.int .i64 2), .lit (.int .i64 6), .lit (.int .i64 10), .lit (.int .i64 14)], .agg [.lit (.int .i64 3), .lit (.int .i64 7), .lit (.int .i64 11), .lit (.int .i64 15)], .agg [.lit (.int .i64 0), .lit (.int .i64 5), .lit (.int .i64 10), .lit (.int .i64 15)], .agg [.lit (.int .i64 1), .lit (.int .i64 6), .lit (.int .i64 11), .lit (.int .i64 12)], .agg [.lit (.int .i64 2), .lit (.int .i64 7), .lit (.int .i64 8), .lit (.int .i64 13)], .agg [.lit (.int .i64 3), .lit (.int .i64 4), .lit (.int .i64 9), .lit (.int .i64 14)]]
def laid_reliquary_digest_k {H : Type} : DataW H := .agg [.lit (.int .u32 1116352408), .lit (.int .u32 1899447441), .lit (.int .u32 3049323471), .lit (.int .u32 3921009573), .lit (.int .u32 961987163), .lit (.int .u32 1508970993), .lit (.int .u32 2453635748), .lit (.int .u32 2870763221), .lit (.int .u32 3624381080), .lit (.int .u32 310598401), .lit (.int .u32 607225278), .lit (.int .u32 1426881987), .lit (.int .u32 1925078388), .lit (.int .u32 2162078206), .lit (.int .u32 2614888103), .lit (.int .u32 3248222580), .lit (.int .u32 3835390401), .lit (.int .u32 4022224774), .lit (.int .u32 264347078), .lit (.int .u32 604807628), .lit (.int .u32 770255983), .lit (.int .u32 1249150122), .lit (.int .u32 1555081692), .lit (.int .u32 1996064986), .lit (.int .u32 2554220882), .lit (.int .u32 2821834349), .lit (.int .u32 2952996808), .lit (.int .u32 3210313671), .lit (.int .u32 3336571891), .lit (.int .u32 3584528711), .lit (.int .u32 113926993), .lit (.int .u32 338241895), .lit (.int .u32 666307205), .lit (.int .u32 773529912), .lit (.int .u32 1294757372), .lit (.int .u32 1396182291), .lit (.int .u32 1695183700), .lit (.int .u32 1986661051), .lit (.int .u32 2177026350), .lit (.int .u32 2456956037), .lit (.int .u32 2730485921), .lit (.int .u32 2820302411), .lit (.int .u32 3259730800), .lit (.int .u32 3345764771), .lit (.int .u32 3516065817), .lit (.int .u32 3600352804), .lit (.int .u32 4094571909), .lit (.int .u32 275423344), .lit (.int .u32 430227734), .lit (.int .u32 506948616), .lit (.int .u32 659060556), .lit (.int .u32 883997877), .lit (.int .u32 958139571), .lit (.int .u32 1322822218), .lit (.int .u32 1537002063), .lit (.int .u32 1747873779), .lit (.int .u32 1955562222), .lit (.int .u32 2024104815), .lit (.int .u32 2227730452), .lit (.int .u32 2361852424), .lit (.int .u32 2428436474), .lit (.int .u32 2756734187), .lit (.int .u32 3204031479), .lit (.int .u32 3329325298)]

/-- 'reliquarylaw13.JournalLinks': WHATEVER THE INPUT: true; the input reads as it did. -/
def journalLinksSpec : ChangeSpec := { name := "journalLinks", fn := fun _ => fun
  | [d1, d2, d3] => { results := [.lit (.bool true)], args := [d1, d2, d3] }
  | _ => none }
def journalLinksRow : OpenClaim := { program := "ytmhcjafkdmcgoaadoor", sum := "cbd822027d3dd80423bbd08495ac8eb30d8aaa689238d32ea7d4022c40ddb594", func := "reliquary/reliquarylaw13.JournalLinks", spec := "journalLinks", unfollowed := true, recurses := true, named := ["reliquary/cipher.quarters", "reliquary/digest.k"], apart := false, laid := [("reliquary/cipher.quarters", laid_reliquary_cipher_quarters), ("reliquary/digest.k", laid_reliquary_digest_k)] }
def JournalLinksSaid : Prop := journalLinksRow.holds Tryd.pinned (OpenSpec.ofChange journalLinksSpec)

/-- ITS FALSE NEIGHBOUR: 'it returns false'. Refute it at one input. -/
def journalLinksWrong : ChangeSpec := { name := "journalLinks", fn := fun _ => fun
  | [d1, d2, d3] => { results := [.lit (.bool false)], args := [d1, d2, d3] }
  | _ => none }
def JournalLinksWrongFalsely : Prop := journalLinksRow.holds Tryd.pinned (OpenSpec.ofChange journalLinksWrong)

/-- 'reliquarylaw13.JournalRing': WHATEVER THE INPUT: true; the input reads as it did. -/
def journalRingSpec : ChangeSpec := { name := "journalRing", fn := fun _ => fun
  | [d1, d2, d3, d4] => { results := [.lit (.bool true)], args := [d1, d2, d3, d4] }
  | _ => none }
def journalRingRow : OpenClaim := { program := "ytmhcjafkdmcgoaadoor", sum := "cbd822027d3dd80423bbd08495ac8eb30d8aaa689238d32ea7d4022c40ddb594", func := "reliquary/reliquarylaw13.JournalRing", spec := "journalRing", unfollowed := true, recurses := true, named := ["reliquary/cipher.quarters", "reliquary/digest.k"], apart := false, laid := [("reliquary/cipher.quarters", laid_reliquary_cipher_quarters), ("reliquary/digest.k", laid_reliquary_digest_k)] }
def JournalRingSaid : Prop := journalRingRow.holds Tryd.pinned (OpenSpec.ofChange journalRingSpec)

/-- ITS FALSE NEIGHBOUR: 'it returns false'. Refute it at one input. -/
def journalRingWrong : ChangeSpec := { name := "journalRing", fn := fun _ => fun
  | [d1, d2, d3, d4] => { results := [.lit (.bool false)], args := [d1, d2, d3, d4] }
  | _ => none }
def JournalRingWrongFalsely : Prop := journalRingRow.holds Tryd.pinned (OpenSpec.ofChange journalRingWrong)

/-- 'reliquarylaw13.JournalSeals': WHATEVER THE INPUT: true; the input reads as it did. -/
def journalSealsSpec : ChangeSpec := { name := "journalSeals", fn := fun _ => fun
  | [d1, d2, d3, d4] => { results := [.lit (.bool true)], args := [d1, d2, d3, d4] }
  | _ => none }
def journalSealsRow : OpenClaim := { program := "ytmhcjafkdmcgoaadoor", sum := "cbd822027d3dd80423bbd08495ac8eb30d8aaa689238d32ea7d4022c40ddb594", func := "reliquary/reliquarylaw13.JournalSeals", spec := "journalSeals", unfollowed := true, recurses := true, named := ["reliquary/cipher.quarters", "reliquary/digest.k"], apart := false, laid := [("reliquary/cipher.quarters", laid_reliquary_cipher_quarters), ("reliquary/digest.k", laid_reliquary_digest_k)] }
def JournalSealsSaid : Prop := journalSealsRow.holds Tryd.pinned (OpenSpec.ofChange journalSealsSpec)

/-- ITS FALSE NEIGHBOUR: 'it returns false'. Refute it at one input. -/
def journalSealsWrong : ChangeSpec := { name := "journalSeals", fn := fun _ => fun
  | [d1, d2, d3, d4] => { results := [.lit (.bool false)], args := [d1, d2, d3, d4] }
  | _ => none }
def JournalSealsWrongFalsely : Prop := journalSealsRow.holds Tryd.pinned (OpenSpec.ofChange journalSealsWrong)

/-- 'reliquarylaw13.JournalCounts': WHATEVER THE INPUT: true; the input reads as it did. -/
def journalCountsSpec : ChangeSpec := { name := "journalCounts", fn := fun _ => fun
  | [d1, d2, d3, d4, d5] => { results := [.lit (.bool true)], args := [d1, d2, d3, d4, d5] }
  | _ => none }
def journalCountsRow : OpenClaim := { program := "ytmhcjafkdmcgoaadoor", sum := "cbd822027d3dd80423bbd08495ac8eb30d8aaa689238d32ea7d4022c40ddb594", func := "reliquary/reliquarylaw13.JournalCounts", spec := "journalCounts", unfollowed := true, recurses := true, named := ["reliquary/cipher.quarters", "reliquary/digest.k"], apart := false, laid := [("reliquary/cipher.quarters", laid_reliquary_cipher_quarters), ("reliquary/digest.k", laid_reliquary_digest_k)] }
def JournalCountsSaid : Prop := journalCountsRow.holds Tryd.pinned (OpenSpec.ofChange journalCountsSpec)

/-- ITS FALSE NEIGHBOUR: 'it returns false'. Refute it at one input. -/
def journalCountsWrong : ChangeSpec := { name := "journalCounts", fn := fun _ => fun
  | [d1, d2, d3, d4, d5] => { results := [.lit (.bool false)], args := [d1, d2, d3, d4, d5] }
  | _ => none }
def JournalCountsWrongFalsely : Prop := journalCountsRow.holds Tryd.pinned (OpenSpec.ofChange journalCountsWrong)

/-- 'reliquarylaw13.JournalPlays': WHATEVER THE INPUT: true; the input reads as it did. -/
def journalPlaysSpec : ChangeSpec := { name := "journalPlays", fn := fun _ => fun
  | [d1, d2, d3, d4, d5, d6, d7, d8] => { results := [.lit (.bool true)], args := [d1, d2, d3, d4, d5, d6, d7, d8] }
  | _ => none }
def journalPlaysRow : OpenClaim := { program := "ytmhcjafkdmcgoaadoor", sum := "cbd822027d3dd80423bbd08495ac8eb30d8aaa689238d32ea7d4022c40ddb594", func := "reliquary/reliquarylaw13.JournalPlays", spec := "journalPlays", unfollowed := true, recurses := true, named := ["reliquary/cipher.quarters", "reliquary/digest.k"], apart := false, laid := [("reliquary/cipher.quarters", laid_reliquary_cipher_quarters), ("reliquary/digest.k", laid_reliquary_digest_k)] }
def JournalPlaysSaid : Prop := journalPlaysRow.holds Tryd.pinned (OpenSpec.ofChange journalPlaysSpec)

/-- ITS FALSE NEIGHBOUR: 'it returns false'. Refute it at one input. -/
def journalPlaysWrong : ChangeSpec := { name := "journalPlays", fn := fun _ => fun
  | [d1, d2, d3, d4, d5, d6, d7, d8] => { results := [.lit (.bool false)], args := [d1, d2, d3, d4, d5, d6, d7, d8] }
  | _ => none }
def JournalPlaysWrongFalsely : Prop := journalPlaysRow.holds Tryd.pinned (OpenSpec.ofChange journalPlaysWrong)

/- THE SECOND FORM. 'bulk': how many values and letters a reading holds, each counted each time it is reached (what is shared counts as often as it is met; a slice's spare places count too). A statement '..UptoSaid' is the law's where the arguments, and the package variables that the reading takes, are together of bulk at most 1048576: NARROWER than '..Said'. Prove '..Said' where nothing that the law and all that it calls make is longer than what came in: it says more and counts as full. Else prove '..UptoSaid'. A law counts once. -/
mutual
def uptoBulk {H : Type} : DataW H → Nat
  | .lit (.string bytes) => bytes.length + 1
  | .lit _ => 1
  | .nil => 1
  | .ptr d => uptoBulk d + 1
  | .slice elems spare => uptoBulkAll elems + uptoBulkAll spare + 1
  | .agg parts => uptoBulkAll parts + 1
  | .iface _ d => uptoBulk d + 1
  | .map entries => uptoBulkEntries entries + 1
  | .held _ => 1
def uptoBulkAll {H : Type} : List (DataW H) → Nat
  | [] => 0
  | d :: r => uptoBulk d + uptoBulkAll r
def uptoBulkEntries {H : Type} : List (Lit × DataW H) → Nat
  | [] => 0
  | x :: r => uptoBulkEntry x + uptoBulkEntries r
def uptoBulkEntry {H : Type} : Lit × DataW H → Nat
  | (.string bytes, d) => bytes.length + uptoBulk d + 1
  | (_, d) => uptoBulk d + 1
 end
def uptoSmall : (H : Type) → List (DataW H) → Bool := fun _ ds => decide (uptoBulkAll ds ≤ 1048576)
def OpenSpec.upto (s : _root_.Go.ChangeSpec) : _root_.Go.OpenSpec := { _root_.Go.OpenSpec.ofChange s with cond := some uptoSmall }

/-- 'reliquarylaw13.JournalLinks', WHERE WHAT IT READS IS OF BULK AT MOST 1048576: true; the input reads as it did. -/
def journalLinksUptoRow : OpenClaim := { program := "ytmhcjafkdmcgoaadoor", sum := "cbd822027d3dd80423bbd08495ac8eb30d8aaa689238d32ea7d4022c40ddb594", func := "reliquary/reliquarylaw13.JournalLinks", spec := "journalLinks", unfollowed := true, recurses := true, named := ["reliquary/cipher.quarters", "reliquary/digest.k"], apart := false, laid := [("reliquary/cipher.quarters", laid_reliquary_cipher_quarters), ("reliquary/digest.k", laid_reliquary_digest_k)], narrowed := true }
def JournalLinksUptoSaid : Prop := journalLinksUptoRow.holds Tryd.pinned (OpenSpec.upto journalLinksSpec)

/-- 'reliquarylaw13.JournalRing', WHERE WHAT IT READS IS OF BULK AT MOST 1048576: true; the input reads as it did. -/
def journalRingUptoRow : OpenClaim := { program := "ytmhcjafkdmcgoaadoor", sum := "cbd822027d3dd80423bbd08495ac8eb30d8aaa689238d32ea7d4022c40ddb594", func := "reliquary/reliquarylaw13.JournalRing", spec := "journalRing", unfollowed := true, recurses := true, named := ["reliquary/cipher.quarters", "reliquary/digest.k"], apart := false, laid := [("reliquary/cipher.quarters", laid_reliquary_cipher_quarters), ("reliquary/digest.k", laid_reliquary_digest_k)], narrowed := true }
def JournalRingUptoSaid : Prop := journalRingUptoRow.holds Tryd.pinned (OpenSpec.upto journalRingSpec)

/-- 'reliquarylaw13.JournalSeals', WHERE WHAT IT READS IS OF BULK AT MOST 1048576: true; the input reads as it did. -/
def journalSealsUptoRow : OpenClaim := { program := "ytmhcjafkdmcgoaadoor", sum := "cbd822027d3dd80423bbd08495ac8eb30d8aaa689238d32ea7d4022c40ddb594", func := "reliquary/reliquarylaw13.JournalSeals", spec := "journalSeals", unfollowed := true, recurses := true, named := ["reliquary/cipher.quarters", "reliquary/digest.k"], apart := false, laid := [("reliquary/cipher.quarters", laid_reliquary_cipher_quarters), ("reliquary/digest.k", laid_reliquary_digest_k)], narrowed := true }
def JournalSealsUptoSaid : Prop := journalSealsUptoRow.holds Tryd.pinned (OpenSpec.upto journalSealsSpec)

/-- 'reliquarylaw13.JournalCounts', WHERE WHAT IT READS IS OF BULK AT MOST 1048576: true; the input reads as it did. -/
def journalCountsUptoRow : OpenClaim := { program := "ytmhcjafkdmcgoaadoor", sum := "cbd822027d3dd80423bbd08495ac8eb30d8aaa689238d32ea7d4022c40ddb594", func := "reliquary/reliquarylaw13.JournalCounts", spec := "journalCounts", unfollowed := true, recurses := true, named := ["reliquary/cipher.quarters", "reliquary/digest.k"], apart := false, laid := [("reliquary/cipher.quarters", laid_reliquary_cipher_quarters), ("reliquary/digest.k", laid_reliquary_digest_k)], narrowed := true }
def JournalCountsUptoSaid : Prop := journalCountsUptoRow.holds Tryd.pinned (OpenSpec.upto journalCountsSpec)

/-- 'reliquarylaw13.JournalPlays', WHERE WHAT IT READS IS OF BULK AT MOST 1048576: true; the input reads as it did. -/
def journalPlaysUptoRow : OpenClaim := { program := "ytmhcjafkdmcgoaadoor", sum := "cbd822027d3dd80423bbd08495ac8eb30d8aaa689238d32ea7d4022c40ddb594", func := "reliquary/reliquarylaw13.JournalPlays", spec := "journalPlays", unfollowed := true, recurses := true, named := ["reliquary/cipher.quarters", "reliquary/digest.k"], apart := false, laid := [("reliquary/cipher.quarters", laid_reliquary_cipher_quarters), ("reliquary/digest.k", laid_reliquary_digest_k)], narrowed := true }
def JournalPlaysUptoSaid : Prop := journalPlaysUptoRow.holds Tryd.pinned (OpenSpec.upto journalPlaysSpec)

end Rows
end Go.Proofs.YtmhcjafkdmcgoaaDoor
