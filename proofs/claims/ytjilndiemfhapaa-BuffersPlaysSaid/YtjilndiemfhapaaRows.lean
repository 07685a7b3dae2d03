/-
  No cell of these rows narrows 'for every input' (looked for: loops, veiled, ifaces, maps, wideKeys, modest, calm, conditions, laid).
  DERIVED. THE GIVEN ROWS OF THIS SEAT. 5 by the template 'for every input the law returns true; each argument reads behind the call as it read before'; 0 by the template 'total and deterministic' (their statements: YtjilndiemfhapaaTotals.lean).
  GIVEN WITH THE SEED: the statements are not yours to turn. If you find one false, say at which input.
  Laid BY PROGRAM, IN A SANDBOX (cutbox-rows.mjs): the forced cells as the released guide's own fill.sh prints them over the translation d6a3c42299375571… (all of the seat's roots in one cut). By AI agents, Wed Nov 11 2026. No macro, syntax, notation, axiom, sorry.
-/
import Derived.Test.YtjilndiemfhapaaChecked
import GoSem.Claim
import GoSem.ClaimJoined
import GoSem.ClaimMapViews
import Derived.JoinedTies
import Derived.KernelRfl
namespace Go.Proofs.Ytjilndiemfhapaa
/- THE CELL 'sum', in the pinned program and in every row, IS THE sha256 OF THE DUMP (.gsa) THAT YtjilndiemfhapaaProg.lean LOADS. Nothing in Lean hashes anything: it is a label: what it is worth is what the hold of that sum in a sandbox is worth. -/
noncomputable def Try.pinned : Pinned := { name := "ytjilndiemfhapaa", sum := "d6a3c422993755713d85c6bbbad264cf88745e63d38f0a350300727981695192", checked := Try.checked }
namespace Rows
def none {H : Type} : Left H := { results := [], args := [] }

/-- 'reliquarylaw15.BuffersOwn': WHATEVER THE INPUT: true; the input reads as it did. -/
def buffersOwnSpec : ChangeSpec := { name := "buffersOwn", fn := fun _ => fun
  | [d1, d2] => { results := [.lit (.bool true)], args := [d1, d2] }
  | _ => none }
def buffersOwnRow : OpenClaim := { program := "ytjilndiemfhapaa", sum := "d6a3c422993755713d85c6bbbad264cf88745e63d38f0a350300727981695192", func := "reliquary/reliquarylaw15.BuffersOwn", spec := "buffersOwn", unfollowed := true, recurses := true, apart := false }
def BuffersOwnSaid : Prop := buffersOwnRow.holds Try.pinned (OpenSpec.ofChange buffersOwnSpec)

/-- ITS FALSE NEIGHBOUR: 'it returns false'. Refute it at one input. -/
def buffersOwnWrong : ChangeSpec := { name := "buffersOwn", fn := fun _ => fun
  | [d1, d2] => { results := [.lit (.bool false)], args := [d1, d2] }
  | _ => none }
def BuffersOwnWrongFalsely : Prop := buffersOwnRow.holds Try.pinned (OpenSpec.ofChange buffersOwnWrong)

/-- 'reliquarylaw15.BuffersLast': WHATEVER THE INPUT: true; the input reads as it did. -/
def buffersLastSpec : ChangeSpec := { name := "buffersLast", fn := fun _ => fun
  | [d1, d2, d3] => { results := [.lit (.bool true)], args := [d1, d2, d3] }
  | _ => none }
def buffersLastRow : OpenClaim := { program := "ytjilndiemfhapaa", sum := "d6a3c422993755713d85c6bbbad264cf88745e63d38f0a350300727981695192", func := "reliquary/reliquarylaw15.BuffersLast", spec := "buffersLast", unfollowed := true, recurses := true, apart := false }
def BuffersLastSaid : Prop := buffersLastRow.holds Try.pinned (OpenSpec.ofChange buffersLastSpec)

/-- ITS FALSE NEIGHBOUR: 'it returns false'. Refute it at one input. -/
def buffersLastWrong : ChangeSpec := { name := "buffersLast", fn := fun _ => fun
  | [d1, d2, d3] => { results := [.lit (.bool false)], args := [d1, d2, d3] }
  | _ => none }
def BuffersLastWrongFalsely : Prop := buffersLastRow.holds Try.pinned (OpenSpec.ofChange buffersLastWrong)

/-- 'reliquarylaw15.BuffersPlays': WHATEVER THE INPUT: true; the input reads as it did. -/
def buffersPlaysSpec : ChangeSpec := { name := "buffersPlays", fn := fun _ => fun
  | [d1, d2] => { results := [.lit (.bool true)], args := [d1, d2] }
  | _ => none }
def buffersPlaysRow : OpenClaim := { program := "ytjilndiemfhapaa", sum := "d6a3c422993755713d85c6bbbad264cf88745e63d38f0a350300727981695192", func := "reliquary/reliquarylaw15.BuffersPlays", spec := "buffersPlays", unfollowed := true, recurses := true, apart := false }
def BuffersPlaysSaid : Prop := buffersPlaysRow.holds Try.pinned (OpenSpec.ofChange buffersPlaysSpec)

/-- ITS FALSE NEIGHBOUR: 'it returns false'. Refute it at one input. -/
def buffersPlaysWrong : ChangeSpec := { name := "buffersPlays", fn := fun _ => fun
  | [d1, d2] => { results := [.lit (.bool false)], args := [d1, d2] }
  | _ => none }
def BuffersPlaysWrongFalsely : Prop := buffersPlaysRow.holds Try.pinned (OpenSpec.ofChange buffersPlaysWrong)

/-- 'reliquarylaw15.BuffersHold': WHATEVER THE INPUT: true; the input reads as it did. -/
def buffersHoldSpec : ChangeSpec := { name := "buffersHold", fn := fun _ => fun
  | [d1, d2, d3] => { results := [.lit (.bool true)], args := [d1, d2, d3] }
  | _ => none }
def buffersHoldRow : OpenClaim := { program := "ytjilndiemfhapaa", sum := "d6a3c422993755713d85c6bbbad264cf88745e63d38f0a350300727981695192", func := "reliquary/reliquarylaw15.BuffersHold", spec := "buffersHold", unfollowed := true, recurses := true, apart := false }
def BuffersHoldSaid : Prop := buffersHoldRow.holds Try.pinned (OpenSpec.ofChange buffersHoldSpec)

/-- ITS FALSE NEIGHBOUR: 'it returns false'. Refute it at one input. -/
def buffersHoldWrong : ChangeSpec := { name := "buffersHold", fn := fun _ => fun
  | [d1, d2, d3] => { results := [.lit (.bool false)], args := [d1, d2, d3] }
  | _ => none }
def BuffersHoldWrongFalsely : Prop := buffersHoldRow.holds Try.pinned (OpenSpec.ofChange buffersHoldWrong)

/-- 'reliquarylaw15.BuffersPins': WHATEVER THE INPUT: true; the input reads as it did. -/
def buffersPinsSpec : ChangeSpec := { name := "buffersPins", fn := fun _ => fun
  | [d1, d2] => { results := [.lit (.bool true)], args := [d1, d2] }
  | _ => none }
def buffersPinsRow : OpenClaim := { program := "ytjilndiemfhapaa", sum := "d6a3c422993755713d85c6bbbad264cf88745e63d38f0a350300727981695192", func := "reliquary/reliquarylaw15.BuffersPins", spec := "buffersPins", unfollowed := true, recurses := true, apart := false }
def BuffersPinsSaid : Prop := buffersPinsRow.holds Try.pinned (OpenSpec.ofChange buffersPinsSpec)

/-- ITS FALSE NEIGHBOUR: 'it returns false'. Refute it at one input. -/
def buffersPinsWrong : ChangeSpec := { name := "buffersPins", fn := fun _ => fun
  | [d1, d2] => { results := [.lit (.bool false)], args := [d1, d2] }
  | _ => none }
def BuffersPinsWrongFalsely : Prop := buffersPinsRow.holds Try.pinned (OpenSpec.ofChange buffersPinsWrong)

/- THE SECOND FORM. 'bulk': how many values and letters a reading holds, each counted each time it is reached (what is shared counts as often as it is met; a slice's spare places count too). A statement '..UptoSaid' is the law's where the arguments, and the package variables that the reading takes, are together of bulk at most 1048576: NARROWER than '..Said'. Prove '..Said' where nothing that the law and all that it calls make is longer than what came in: it says more and counts as full. Else prove '..UptoSaid'. A law counts once. -/
mutual
def uptoBulk {H : Type} : DataW H → Nat
  | .lit (.string bytes) => bytes.length + 1
  | .lit _ => 1
  | .nil => 1
  | .ptr d => uptoBulk d + 1
  | .slice elems spare => uptoBulkAll elems + uptoBulkAll spare + 1
  | .agg parts => uptoBulkAll parts + 1
  | .iface _ d => uptoBulk d + 1
  | .map entries => uptoBulkEntries entries + 1
  | .held _ => 1
def uptoBulkAll {H : Type} : List (DataW H) → Nat
  | [] => 0
  | d :: r => uptoBulk d + uptoBulkAll r
def uptoBulkEntries {H : Type} : List (Lit × DataW H) → Nat
  | [] => 0
  | x :: r => uptoBulkEntry x + uptoBulkEntries r
def uptoBulkEntry {H : Type} : Lit × DataW H → Nat
  | (.string bytes, d) => bytes.length + uptoBulk d + 1
  | (_, d) => uptoBulk d + 1
 end
def uptoSmall : (H : Type) → List (DataW H) → Bool := fun _ ds => decide (uptoBulkAll ds ≤ 1048576)
def OpenSpec.upto (s : _root_.Go.ChangeSpec) : _root_.Go.OpenSpec := { _root_.Go.OpenSpec.ofChange s with cond := some uptoSmall }

/-- 'reliquarylaw15.BuffersOwn', WHERE WHAT IT READS IS OF BULK AT MOST 1048576: true; the input reads as it did. -/
def buffersOwnUptoRow : OpenClaim := { program := "ytjilndiemfhapaa", sum := "d6a3c422993755713d85c6bbbad264cf88745e63d38f0a350300727981695192", func := "reliquary/reliquarylaw15.BuffersOwn", spec := "buffersOwn", unfollowed := true, recurses := true, apart := false, narrowed := true }
def BuffersOwnUptoSaid : Prop := buffersOwnUptoRow.holds Try.pinned (OpenSpec.upto buffersOwnSpec)

/-- 'reliquarylaw15.BuffersLast', WHERE WHAT IT READS IS OF BULK AT MOST 1048576: true; the input reads as it did. -/
def buffersLastUptoRow : OpenClaim := { program := "ytjilndiemfhapaa", sum := "d6a3c422993755713d85c6bbbad264cf88745e63d38f0a350300727981695192", func := "reliquary/reliquarylaw15.BuffersLast", spec := "buffersLast", unfollowed := true, recurses := true, apart := false, narrowed := true }
def BuffersLastUptoSaid : Prop := buffersLastUptoRow.holds Try.pinned (OpenSpec.upto buffersLastSpec)

/-- 'reliquarylaw15.BuffersPlays', WHERE WHAT IT READS IS OF BULK AT MOST 1048576: true; the input reads as it did. -/
def buffersPlaysUptoRow : OpenClaim := { program := "ytjilndiemfhapaa", sum := "d6a3c422993755713d85c6bbbad264cf88745e63d38f0a350300727981695192", func := "reliquary/reliquarylaw15.BuffersPlays", spec := "buffersPlays", unfollowed := true, recurses := true, apart := false, narrowed := true }
def BuffersPlaysUptoSaid : Prop := buffersPlaysUptoRow.holds Try.pinned (OpenSpec.upto buffersPlaysSpec)

/-- 'reliquarylaw15.BuffersHold', WHERE WHAT IT READS IS OF BULK AT MOST 1048576: true; the input reads as it did. -/
def buffersHoldUptoRow : OpenClaim := { program := "ytjilndiemfhapaa", sum := "d6a3c422993755713d85c6bbbad264cf88745e63d38f0a350300727981695192", func := "reliquary/reliquarylaw15.BuffersHold", spec := "buffersHold", unfollowed := true, recurses := true, apart := false, narrowed := true }
def BuffersHoldUptoSaid : Prop := buffersHoldUptoRow.holds Try.pinned (OpenSpec.upto buffersHoldSpec)

/-- 'reliquarylaw15.BuffersPins', WHERE WHAT IT READS IS OF BULK AT MOST 1048576: true; the input reads as it did. -/
def buffersPinsUptoRow : OpenClaim := { program := "ytjilndiemfhapaa", sum := "d6a3c422993755713d85c6bbbad264cf88745e63d38f0a350300727981695192", func := "reliquary/reliquarylaw15.BuffersPins", spec := "buffersPins", unfollowed := true, recurses := true, apart := false, narrowed := true }
def BuffersPinsUptoSaid : Prop := buffersPinsUptoRow.holds Try.pinned (OpenSpec.upto buffersPinsSpec)

end Rows
end Go.Proofs.Ytjilndiemfhapaa
