/-
  No cell of these rows narrows 'for every input' (looked for: loops, veiled, ifaces, maps, wideKeys, modest, calm, conditions, laid).
  DERIVED. THE GIVEN ROWS OF THIS SEAT. 15 by the template 'for every input the law returns true; each argument reads behind the call as it read before'; 0 by the template 'total and deterministic' (their statements: YtkfkkbblmnnblaaTotals.lean).
  GIVEN WITH THE SEED: the statements are not yours to turn. If you find one false, say at which input.
  Laid BY PROGRAM, IN A SANDBOX (cutbox-rows.mjs): the forced cells as the released guide's own fill.sh prints them over the translation 093d789c98bb9afa… (all of the seat's roots in one cut). By AI agents, Wed Nov 11 2026. No macro, syntax, notation, axiom, sorry.
-/
import Derived.Test.YtkfkkbblmnnblaaChecked
import GoSem.Claim
import GoSem.ClaimJoined
import GoSem.ClaimMapViews
import Derived.JoinedTies
import Derived.KernelRfl
namespace Go.Proofs.Ytkfkkbblmnnblaa
/- THE CELL 'sum', in the pinned program and in every row, IS THE sha256 OF THE DUMP (.gsa) THAT YtkfkkbblmnnblaaProg.lean LOADS. Nothing in Lean hashes anything: it is a label: what it is worth is what the hold of that sum in a sandbox is worth. -/
noncomputable def Try.pinned : Pinned := { name := "ytkfkkbblmnnblaa", sum := "093d789c98bb9afa4ea1358e4cf97d8a4a0cf8749c473b34dc69593958ba93d5", checked := Try.checked }
namespace Rows
def none {H : Type} : Left H := { results := [], args := [] }

/-- 'reliquarylaw05.EqualBytes': WHATEVER THE INPUT: true; the input reads as it did. -/
def equalBytesSpec : ChangeSpec := { name := "equalBytes", fn := fun _ => fun
  | [d1, d2, d3] => { results := [.lit (.bool true)], args := [d1, d2, d3] }
  | _ => none }
def equalBytesRow : OpenClaim := { program := "ytkfkkbblmnnblaa", sum := "093d789c98bb9afa4ea1358e4cf97d8a4a0cf8749c473b34dc69593958ba93d5", func := "reliquary/reliquarylaw05.EqualBytes", spec := "equalBytes", apart := false }
def EqualBytesSaid : Prop := equalBytesRow.holds Try.pinned (OpenSpec.ofChange equalBytesSpec)

/-- ITS FALSE NEIGHBOUR: 'it returns false'. Refute it at one input. -/
def equalBytesWrong : ChangeSpec := { name := "equalBytes", fn := fun _ => fun
  | [d1, d2, d3] => { results := [.lit (.bool false)], args := [d1, d2, d3] }
  | _ => none }
def EqualBytesWrongFalsely : Prop := equalBytesRow.holds Try.pinned (OpenSpec.ofChange equalBytesWrong)

/-- 'reliquarylaw05.EqualChoose': WHATEVER THE INPUT: true; the input reads as it did. -/
def equalChooseSpec : ChangeSpec := { name := "equalChoose", fn := fun _ => fun
  | [d1, d2, d3] => { results := [.lit (.bool true)], args := [d1, d2, d3] }
  | _ => none }
def equalChooseRow : OpenClaim := { program := "ytkfkkbblmnnblaa", sum := "093d789c98bb9afa4ea1358e4cf97d8a4a0cf8749c473b34dc69593958ba93d5", func := "reliquary/reliquarylaw05.EqualChoose", spec := "equalChoose", apart := false }
def EqualChooseSaid : Prop := equalChooseRow.holds Try.pinned (OpenSpec.ofChange equalChooseSpec)

/-- ITS FALSE NEIGHBOUR: 'it returns false'. Refute it at one input. -/
def equalChooseWrong : ChangeSpec := { name := "equalChoose", fn := fun _ => fun
  | [d1, d2, d3] => { results := [.lit (.bool false)], args := [d1, d2, d3] }
  | _ => none }
def EqualChooseWrongFalsely : Prop := equalChooseRow.holds Try.pinned (OpenSpec.ofChange equalChooseWrong)

/-- 'reliquarylaw05.EqualTurned': WHATEVER THE INPUT: true; the input reads as it did. -/
def equalTurnedSpec : ChangeSpec := { name := "equalTurned", fn := fun _ => fun
  | [d1, d2, d3] => { results := [.lit (.bool true)], args := [d1, d2, d3] }
  | _ => none }
def equalTurnedRow : OpenClaim := { program := "ytkfkkbblmnnblaa", sum := "093d789c98bb9afa4ea1358e4cf97d8a4a0cf8749c473b34dc69593958ba93d5", func := "reliquary/reliquarylaw05.EqualTurned", spec := "equalTurned", apart := false }
def EqualTurnedSaid : Prop := equalTurnedRow.holds Try.pinned (OpenSpec.ofChange equalTurnedSpec)

/-- ITS FALSE NEIGHBOUR: 'it returns false'. Refute it at one input. -/
def equalTurnedWrong : ChangeSpec := { name := "equalTurned", fn := fun _ => fun
  | [d1, d2, d3] => { results := [.lit (.bool false)], args := [d1, d2, d3] }
  | _ => none }
def EqualTurnedWrongFalsely : Prop := equalTurnedRow.holds Try.pinned (OpenSpec.ofChange equalTurnedWrong)

/-- 'reliquarylaw05.EqualFirst': WHATEVER THE INPUT: true; the input reads as it did. -/
def equalFirstSpec : ChangeSpec := { name := "equalFirst", fn := fun _ => fun
  | [d1, d2] => { results := [.lit (.bool true)], args := [d1, d2] }
  | _ => none }
def equalFirstRow : OpenClaim := { program := "ytkfkkbblmnnblaa", sum := "093d789c98bb9afa4ea1358e4cf97d8a4a0cf8749c473b34dc69593958ba93d5", func := "reliquary/reliquarylaw05.EqualFirst", spec := "equalFirst", apart := false }
def EqualFirstSaid : Prop := equalFirstRow.holds Try.pinned (OpenSpec.ofChange equalFirstSpec)

/-- ITS FALSE NEIGHBOUR: 'it returns false'. Refute it at one input. -/
def equalFirstWrong : ChangeSpec := { name := "equalFirst", fn := fun _ => fun
  | [d1, d2] => { results := [.lit (.bool false)], args := [d1, d2] }
  | _ => none }
def EqualFirstWrongFalsely : Prop := equalFirstRow.holds Try.pinned (OpenSpec.ofChange equalFirstWrong)

/-- 'reliquarylaw05.EqualLong': WHATEVER THE INPUT: true; the input reads as it did. -/
def equalLongSpec : ChangeSpec := { name := "equalLong", fn := fun _ => fun
  | [d1, d2] => { results := [.lit (.bool true)], args := [d1, d2] }
  | _ => none }
def equalLongRow : OpenClaim := { program := "ytkfkkbblmnnblaa", sum := "093d789c98bb9afa4ea1358e4cf97d8a4a0cf8749c473b34dc69593958ba93d5", func := "reliquary/reliquarylaw05.EqualLong", spec := "equalLong", apart := false }
def EqualLongSaid : Prop := equalLongRow.holds Try.pinned (OpenSpec.ofChange equalLongSpec)

/-- ITS FALSE NEIGHBOUR: 'it returns false'. Refute it at one input. -/
def equalLongWrong : ChangeSpec := { name := "equalLong", fn := fun _ => fun
  | [d1, d2] => { results := [.lit (.bool false)], args := [d1, d2] }
  | _ => none }
def EqualLongWrongFalsely : Prop := equalLongRow.holds Try.pinned (OpenSpec.ofChange equalLongWrong)

/-- 'reliquarylaw18.BitmapSets': WHATEVER THE INPUT: true; the input reads as it did. -/
def bitmapSetsSpec : ChangeSpec := { name := "bitmapSets", fn := fun _ => fun
  | [d1, d2, d3] => { results := [.lit (.bool true)], args := [d1, d2, d3] }
  | _ => none }
def bitmapSetsRow : OpenClaim := { program := "ytkfkkbblmnnblaa", sum := "093d789c98bb9afa4ea1358e4cf97d8a4a0cf8749c473b34dc69593958ba93d5", func := "reliquary/reliquarylaw18.BitmapSets", spec := "bitmapSets", apart := false }
def BitmapSetsSaid : Prop := bitmapSetsRow.holds Try.pinned (OpenSpec.ofChange bitmapSetsSpec)

/-- ITS FALSE NEIGHBOUR: 'it returns false'. Refute it at one input. -/
def bitmapSetsWrong : ChangeSpec := { name := "bitmapSets", fn := fun _ => fun
  | [d1, d2, d3] => { results := [.lit (.bool false)], args := [d1, d2, d3] }
  | _ => none }
def BitmapSetsWrongFalsely : Prop := bitmapSetsRow.holds Try.pinned (OpenSpec.ofChange bitmapSetsWrong)

/-- 'reliquarylaw18.BitmapRows': WHATEVER THE INPUT: true; the input reads as it did. -/
def bitmapRowsSpec : ChangeSpec := { name := "bitmapRows", fn := fun _ => fun
  | [d1, d2, d3] => { results := [.lit (.bool true)], args := [d1, d2, d3] }
  | _ => none }
def bitmapRowsRow : OpenClaim := { program := "ytkfkkbblmnnblaa", sum := "093d789c98bb9afa4ea1358e4cf97d8a4a0cf8749c473b34dc69593958ba93d5", func := "reliquary/reliquarylaw18.BitmapRows", spec := "bitmapRows", apart := false }
def BitmapRowsSaid : Prop := bitmapRowsRow.holds Try.pinned (OpenSpec.ofChange bitmapRowsSpec)

/-- ITS FALSE NEIGHBOUR: 'it returns false'. Refute it at one input. -/
def bitmapRowsWrong : ChangeSpec := { name := "bitmapRows", fn := fun _ => fun
  | [d1, d2, d3] => { results := [.lit (.bool false)], args := [d1, d2, d3] }
  | _ => none }
def BitmapRowsWrongFalsely : Prop := bitmapRowsRow.holds Try.pinned (OpenSpec.ofChange bitmapRowsWrong)

/-- 'reliquarylaw18.BitmapFills': WHATEVER THE INPUT: true; the input reads as it did. -/
def bitmapFillsSpec : ChangeSpec := { name := "bitmapFills", fn := fun _ => fun
  | [d1, d2, d3] => { results := [.lit (.bool true)], args := [d1, d2, d3] }
  | _ => none }
def bitmapFillsRow : OpenClaim := { program := "ytkfkkbblmnnblaa", sum := "093d789c98bb9afa4ea1358e4cf97d8a4a0cf8749c473b34dc69593958ba93d5", func := "reliquary/reliquarylaw18.BitmapFills", spec := "bitmapFills", apart := false }
def BitmapFillsSaid : Prop := bitmapFillsRow.holds Try.pinned (OpenSpec.ofChange bitmapFillsSpec)

/-- ITS FALSE NEIGHBOUR: 'it returns false'. Refute it at one input. -/
def bitmapFillsWrong : ChangeSpec := { name := "bitmapFills", fn := fun _ => fun
  | [d1, d2, d3] => { results := [.lit (.bool false)], args := [d1, d2, d3] }
  | _ => none }
def BitmapFillsWrongFalsely : Prop := bitmapFillsRow.holds Try.pinned (OpenSpec.ofChange bitmapFillsWrong)

/-- 'reliquarylaw18.BitmapParts': WHATEVER THE INPUT: true; the input reads as it did. -/
def bitmapPartsSpec : ChangeSpec := { name := "bitmapParts", fn := fun _ => fun
  | [d1, d2, d3, d4] => { results := [.lit (.bool true)], args := [d1, d2, d3, d4] }
  | _ => none }
def bitmapPartsRow : OpenClaim := { program := "ytkfkkbblmnnblaa", sum := "093d789c98bb9afa4ea1358e4cf97d8a4a0cf8749c473b34dc69593958ba93d5", func := "reliquary/reliquarylaw18.BitmapParts", spec := "bitmapParts", apart := false }
def BitmapPartsSaid : Prop := bitmapPartsRow.holds Try.pinned (OpenSpec.ofChange bitmapPartsSpec)

/-- ITS FALSE NEIGHBOUR: 'it returns false'. Refute it at one input. -/
def bitmapPartsWrong : ChangeSpec := { name := "bitmapParts", fn := fun _ => fun
  | [d1, d2, d3, d4] => { results := [.lit (.bool false)], args := [d1, d2, d3, d4] }
  | _ => none }
def BitmapPartsWrongFalsely : Prop := bitmapPartsRow.holds Try.pinned (OpenSpec.ofChange bitmapPartsWrong)

/-- 'reliquarylaw18.BitmapOthers': WHATEVER THE INPUT: true; the input reads as it did. -/
def bitmapOthersSpec : ChangeSpec := { name := "bitmapOthers", fn := fun _ => fun
  | [d1, d2, d3, d4] => { results := [.lit (.bool true)], args := [d1, d2, d3, d4] }
  | _ => none }
def bitmapOthersRow : OpenClaim := { program := "ytkfkkbblmnnblaa", sum := "093d789c98bb9afa4ea1358e4cf97d8a4a0cf8749c473b34dc69593958ba93d5", func := "reliquary/reliquarylaw18.BitmapOthers", spec := "bitmapOthers", apart := false }
def BitmapOthersSaid : Prop := bitmapOthersRow.holds Try.pinned (OpenSpec.ofChange bitmapOthersSpec)

/-- ITS FALSE NEIGHBOUR: 'it returns false'. Refute it at one input. -/
def bitmapOthersWrong : ChangeSpec := { name := "bitmapOthers", fn := fun _ => fun
  | [d1, d2, d3, d4] => { results := [.lit (.bool false)], args := [d1, d2, d3, d4] }
  | _ => none }
def BitmapOthersWrongFalsely : Prop := bitmapOthersRow.holds Try.pinned (OpenSpec.ofChange bitmapOthersWrong)

/-- 'reliquarylaw15.BuffersOwn': WHATEVER THE INPUT: true; the input reads as it did. -/
def buffersOwnSpec : ChangeSpec := { name := "buffersOwn", fn := fun _ => fun
  | [d1, d2] => { results := [.lit (.bool true)], args := [d1, d2] }
  | _ => none }
def buffersOwnRow : OpenClaim := { program := "ytkfkkbblmnnblaa", sum := "093d789c98bb9afa4ea1358e4cf97d8a4a0cf8749c473b34dc69593958ba93d5", func := "reliquary/reliquarylaw15.BuffersOwn", spec := "buffersOwn", unfollowed := true, recurses := true, apart := false }
def BuffersOwnSaid : Prop := buffersOwnRow.holds Try.pinned (OpenSpec.ofChange buffersOwnSpec)

/-- ITS FALSE NEIGHBOUR: 'it returns false'. Refute it at one input. -/
def buffersOwnWrong : ChangeSpec := { name := "buffersOwn", fn := fun _ => fun
  | [d1, d2] => { results := [.lit (.bool false)], args := [d1, d2] }
  | _ => none }
def BuffersOwnWrongFalsely : Prop := buffersOwnRow.holds Try.pinned (OpenSpec.ofChange buffersOwnWrong)

/-- 'reliquarylaw15.BuffersLast': WHATEVER THE INPUT: true; the input reads as it did. -/
def buffersLastSpec : ChangeSpec := { name := "buffersLast", fn := fun _ => fun
  | [d1, d2, d3] => { results := [.lit (.bool true)], args := [d1, d2, d3] }
  | _ => none }
def buffersLastRow : OpenClaim := { program := "ytkfkkbblmnnblaa", sum := "093d789c98bb9afa4ea1358e4cf97d8a4a0cf8749c473b34dc69593958ba93d5", func := "reliquary/reliquarylaw15.BuffersLast", spec := "buffersLast", unfollowed := true, recurses := true, apart := false }
def BuffersLastSaid : Prop := buffersLastRow.holds Try.pinned (OpenSpec.ofChange buffersLastSpec)

/-- ITS FALSE NEIGHBOUR: 'it returns false'. Refute it at one input. -/
def buffersLastWrong : ChangeSpec := { name := "buffersLast", fn := fun _ => fun
  | [d1, d2, d3] => { results := [.lit (.bool false)], args := [d1, d2, d3] }
  | _ => none }
def BuffersLastWrongFalsely : Prop := buffersLastRow.holds Try.pinned (OpenSpec.ofChange buffersLastWrong)

/-- 'reliquarylaw15.BuffersPlays': WHATEVER THE INPUT: true; the input reads as it did. -/
def buffersPlaysSpec : ChangeSpec := { name := "buffersPlays", fn := fun _ => fun
  | [d1, d2] => { results := [.lit (.bool true)], args := [d1, d2] }
  | _ => none }
def buffersPlaysRow : OpenClaim := { program := "ytkfkkbblmnnblaa", sum := "093d789c98bb9afa4ea1358e4cf97d8a4a0cf8749c473b34dc69593958ba93d5", func := "reliquary/reliquarylaw15.BuffersPlays", spec := "buffersPlays", unfollowed := true, recurses := true, apart := false }
def BuffersPlaysSaid : Prop := buffersPlaysRow.holds Try.pinned (OpenSpec.ofChange buffersPlaysSpec)

/-- ITS FALSE NEIGHBOUR: 'it returns false'. Refute it at one input. -/
def buffersPlaysWrong : ChangeSpec := { name := "buffersPlays", fn := fun _ => fun
  | [d1, d2] => { results := [.lit (.bool false)], args := [d1, d2] }
  | _ => none }
def BuffersPlaysWrongFalsely : Prop := buffersPlaysRow.holds Try.pinned (OpenSpec.ofChange buffersPlaysWrong)

/-- 'reliquarylaw15.BuffersHold': WHATEVER THE INPUT: true; the input reads as it did. -/
def buffersHoldSpec : ChangeSpec := { name := "buffersHold", fn := fun _ => fun
  | [d1, d2, d3] => { results := [.lit (.bool true)], args := [d1, d2, d3] }
  | _ => none }
def buffersHoldRow : OpenClaim := { program := "ytkfkkbblmnnblaa", sum := "093d789c98bb9afa4ea1358e4cf97d8a4a0cf8749c473b34dc69593958ba93d5", func := "reliquary/reliquarylaw15.BuffersHold", spec := "buffersHold", unfollowed := true, recurses := true, apart := false }
def BuffersHoldSaid : Prop := buffersHoldRow.holds Try.pinned (OpenSpec.ofChange buffersHoldSpec)

/-- ITS FALSE NEIGHBOUR: 'it returns false'. Refute it at one input. -/
def buffersHoldWrong : ChangeSpec := { name := "buffersHold", fn := fun _ => fun
  | [d1, d2, d3] => { results := [.lit (.bool false)], args := [d1, d2, d3] }
  | _ => none }
def BuffersHoldWrongFalsely : Prop := buffersHoldRow.holds Try.pinned (OpenSpec.ofChange buffersHoldWrong)

/-- 'reliquarylaw15.BuffersPins': WHATEVER THE INPUT: true; the input reads as it did. -/
def buffersPinsSpec : ChangeSpec := { name := "buffersPins", fn := fun _ => fun
  | [d1, d2] => { results := [.lit (.bool true)], args := [d1, d2] }
  | _ => none }
def buffersPinsRow : OpenClaim := { program := "ytkfkkbblmnnblaa", sum := "093d789c98bb9afa4ea1358e4cf97d8a4a0cf8749c473b34dc69593958ba93d5", func := "reliquary/reliquarylaw15.BuffersPins", spec := "buffersPins", unfollowed := true, recurses := true, apart := false }
def BuffersPinsSaid : Prop := buffersPinsRow.holds Try.pinned (OpenSpec.ofChange buffersPinsSpec)

/-- ITS FALSE NEIGHBOUR: 'it returns false'. Refute it at one input. -/
def buffersPinsWrong : ChangeSpec := { name := "buffersPins", fn := fun _ => fun
  | [d1, d2] => { results := [.lit (.bool false)], args := [d1, d2] }
  | _ => none }
def BuffersPinsWrongFalsely : Prop := buffersPinsRow.holds Try.pinned (OpenSpec.ofChange buffersPinsWrong)

/- THE SECOND FORM. 'bulk': how many values and letters a reading holds, each counted each time it is reached (what is shared counts as often as it is met; a slice's spare places count too). A statement '..UptoSaid' is the law's where the arguments, and the package variables that the reading takes, are together of bulk at most 1048576: NARROWER than '..Said'. Prove '..Said' where nothing that the law and all that it calls make is longer than what came in: it says more and counts as full. Else prove '..UptoSaid'. A law counts once. -/
mutual
def uptoBulk {H : Type} : DataW H → Nat
  | .lit (.string bytes) => bytes.length + 1
  | .lit _ => 1
  | .nil => 1
  | .ptr d => uptoBulk d + 1
  | .slice elems spare => uptoBulkAll elems + uptoBulkAll spare + 1
  | .agg parts => uptoBulkAll parts + 1
  | .iface _ d => uptoBulk d + 1
  | .map entries => uptoBulkEntries entries + 1
  | .held _ => 1
def uptoBulkAll {H : Type} : List (DataW H) → Nat
  | [] => 0
  | d :: r => uptoBulk d + uptoBulkAll r
def uptoBulkEntries {H : Type} : List (Lit × DataW H) → Nat
  | [] => 0
  | x :: r => uptoBulkEntry x + uptoBulkEntries r
def uptoBulkEntry {H : Type} : Lit × DataW H → Nat
  | (.string bytes, d) => bytes.length + uptoBulk d + 1
  | (_, d) => uptoBulk d + 1
 end
def uptoSmall : (H : Type) → List (DataW H) → Bool := fun _ ds => decide (uptoBulkAll ds ≤ 1048576)
def OpenSpec.upto (s : _root_.Go.ChangeSpec) : _root_.Go.OpenSpec := { _root_.Go.OpenSpec.ofChange s with cond := some uptoSmall }

/-- 'reliquarylaw05.EqualBytes', WHERE WHAT IT READS IS OF BULK AT MOST 1048576: true; the input reads as it did. -/
def equalBytesUptoRow : OpenClaim := { program := "ytkfkkbblmnnblaa", sum := "093d789c98bb9afa4ea1358e4cf97d8a4a0cf8749c473b34dc69593958ba93d5", func := "reliquary/reliquarylaw05.EqualBytes", spec := "equalBytes", apart := false, narrowed := true }
def EqualBytesUptoSaid : Prop := equalBytesUptoRow.holds Try.pinned (OpenSpec.upto equalBytesSpec)

/-- 'reliquarylaw05.EqualChoose', WHERE WHAT IT READS IS OF BULK AT MOST 1048576: true; the input reads as it did. -/
def equalChooseUptoRow : OpenClaim := { program := "ytkfkkbblmnnblaa", sum := "093d789c98bb9afa4ea1358e4cf97d8a4a0cf8749c473b34dc69593958ba93d5", func := "reliquary/reliquarylaw05.EqualChoose", spec := "equalChoose", apart := false, narrowed := true }
def EqualChooseUptoSaid : Prop := equalChooseUptoRow.holds Try.pinned (OpenSpec.upto equalChooseSpec)

/-- 'reliquarylaw05.EqualTurned', WHERE WHAT IT READS IS OF BULK AT MOST 1048576: true; the input reads as it did. -/
def equalTurnedUptoRow : OpenClaim := { program := "ytkfkkbblmnnblaa", sum := "093d789c98bb9afa4ea1358e4cf97d8a4a0cf8749c473b34dc69593958ba93d5", func := "reliquary/reliquarylaw05.EqualTurned", spec := "equalTurned", apart := false, narrowed := true }
def EqualTurnedUptoSaid : Prop := equalTurnedUptoRow.holds Try.pinned (OpenSpec.upto equalTurnedSpec)

/-- 'reliquarylaw05.EqualFirst', WHERE WHAT IT READS IS OF BULK AT MOST 1048576: true; the input reads as it did. -/
def equalFirstUptoRow : OpenClaim := { program := "ytkfkkbblmnnblaa", sum := "093d789c98bb9afa4ea1358e4cf97d8a4a0cf8749c473b34dc69593958ba93d5", func := "reliquary/reliquarylaw05.EqualFirst", spec := "equalFirst", apart := false, narrowed := true }
def EqualFirstUptoSaid : Prop := equalFirstUptoRow.holds Try.pinned (OpenSpec.upto equalFirstSpec)

/-- 'reliquarylaw05.EqualLong', WHERE WHAT IT READS IS OF BULK AT MOST 1048576: true; the input reads as it did. -/
def equalLongUptoRow : OpenClaim := { program := "ytkfkkbblmnnblaa", sum := "093d789c98bb9afa4ea1358e4cf97d8a4a0cf8749c473b34dc69593958ba93d5", func := "reliquary/reliquarylaw05.EqualLong", spec := "equalLong", apart := false, narrowed := true }
def EqualLongUptoSaid : Prop := equalLongUptoRow.holds Try.pinned (OpenSpec.upto equalLongSpec)

/-- 'reliquarylaw18.BitmapSets', WHERE WHAT IT READS IS OF BULK AT MOST 1048576: true; the input reads as it did. -/
def bitmapSetsUptoRow : OpenClaim := { program := "ytkfkkbblmnnblaa", sum := "093d789c98bb9afa4ea1358e4cf97d8a4a0cf8749c473b34dc69593958ba93d5", func := "reliquary/reliquarylaw18.BitmapSets", spec := "bitmapSets", apart := false, narrowed := true }
def BitmapSetsUptoSaid : Prop := bitmapSetsUptoRow.holds Try.pinned (OpenSpec.upto bitmapSetsSpec)

/-- 'reliquarylaw18.BitmapRows', WHERE WHAT IT READS IS OF BULK AT MOST 1048576: true; the input reads as it did. -/
def bitmapRowsUptoRow : OpenClaim := { program := "ytkfkkbblmnnblaa", sum := "093d789c98bb9afa4ea1358e4cf97d8a4a0cf8749c473b34dc69593958ba93d5", func := "reliquary/reliquarylaw18.BitmapRows", spec := "bitmapRows", apart := false, narrowed := true }
def BitmapRowsUptoSaid : Prop := bitmapRowsUptoRow.holds Try.pinned (OpenSpec.upto bitmapRowsSpec)

/-- 'reliquarylaw18.BitmapFills', WHERE WHAT IT READS IS OF BULK AT MOST 1048576: true; the input reads as it did. -/
def bitmapFillsUptoRow : OpenClaim := { program := "ytkfkkbblmnnblaa", sum := "093d789c98bb9afa4ea1358e4cf97d8a4a0cf8749c473b34dc69593958ba93d5", func := "reliquary/reliquarylaw18.BitmapFills", spec := "bitmapFills", apart := false, narrowed := true }
def BitmapFillsUptoSaid : Prop := bitmapFillsUptoRow.holds Try.pinned (OpenSpec.upto bitmapFillsSpec)

/-- 'reliquarylaw18.BitmapParts', WHERE WHAT IT READS IS OF BULK AT MOST 1048576: true; the input reads as it did. -/
def bitmapPartsUptoRow : OpenClaim := { program := "ytkfkkbblmnnblaa", sum := "093d789c98bb9afa4ea1358e4cf97d8a4a0cf8749c473b34dc69593958ba93d5", func := "reliquary/reliquarylaw18.BitmapParts", spec := "bitmapParts", apart := false, narrowed := true }
def BitmapPartsUptoSaid : Prop := bitmapPartsUptoRow.holds Try.pinned (OpenSpec.upto bitmapPartsSpec)

/-- 'reliquarylaw18.BitmapOthers', WHERE WHAT IT READS IS OF BULK AT MOST 1048576: true; the input reads as it did. -/
def bitmapOthersUptoRow : OpenClaim := { program := "ytkfkkbblmnnblaa", sum := "093d789c98bb9afa4ea1358e4cf97d8a4a0cf8749c473b34dc69593958ba93d5", func := "reliquary/reliquarylaw18.BitmapOthers", spec := "bitmapOthers", apart := false, narrowed := true }
def BitmapOthersUptoSaid : Prop := bitmapOthersUptoRow.holds Try.pinned (OpenSpec.upto bitmapOthersSpec)

/-- 'reliquarylaw15.BuffersOwn', WHERE WHAT IT READS IS OF BULK AT MOST 1048576: true; the input reads as it did. -/
def buffersOwnUptoRow : OpenClaim := { program := "ytkfkkbblmnnblaa", sum := "093d789c98bb9afa4ea1358e4cf97d8a4a0cf8749c473b34dc69593958ba93d5", func := "reliquary/reliquarylaw15.BuffersOwn", spec := "buffersOwn", unfollowed := true, recurses := true, apart := false, narrowed := true }
def BuffersOwnUptoSaid : Prop := buffersOwnUptoRow.holds Try.pinned (OpenSpec.upto buffersOwnSpec)

/-- 'reliquarylaw15.BuffersLast', WHERE WHAT IT READS IS OF BULK AT MOST 1048576: true; the input reads as it did. -/
def buffersLastUptoRow : OpenClaim := { program := "ytkfkkbblmnnblaa", sum := "093d789c98bb9afa4ea1358e4cf97d8a4a0cf8749c473b34dc69593958ba93d5", func := "reliquary/reliquarylaw15.BuffersLast", spec := "buffersLast", unfollowed := true, recurses := true, apart := false, narrowed := true }
def BuffersLastUptoSaid : Prop := buffersLastUptoRow.holds Try.pinned (OpenSpec.upto buffersLastSpec)

/-- 'reliquarylaw15.BuffersPlays', WHERE WHAT IT READS IS OF BULK AT MOST 1048576: true; the input reads as it did. -/
def buffersPlaysUptoRow : OpenClaim := { program := "ytkfkkbblmnnblaa", sum := "093d789c98bb9afa4ea1358e4cf97d8a4a0cf8749c473b34dc69593958ba93d5", func := "reliquary/reliquarylaw15.BuffersPlays", spec := "buffersPlays", unfollowed := true, recurses := true, apart := false, narrowed := true }
def BuffersPlaysUptoSaid : Prop := buffersPlaysUptoRow.holds Try.pinned (OpenSpec.upto buffersPlaysSpec)

/-- 'reliquarylaw15.BuffersHold', WHERE WHAT IT READS IS OF BULK AT MOST 1048576: true; the input reads as it did. -/
def buffersHoldUptoRow : OpenClaim := { program := "ytkfkkbblmnnblaa", sum := "093d789c98bb9afa4ea1358e4cf97d8a4a0cf8749c473b34dc69593958ba93d5", func := "reliquary/reliquarylaw15.BuffersHold", spec := "buffersHold", unfollowed := true, recurses := true, apart := false, narrowed := true }
def BuffersHoldUptoSaid : Prop := buffersHoldUptoRow.holds Try.pinned (OpenSpec.upto buffersHoldSpec)

/-- 'reliquarylaw15.BuffersPins', WHERE WHAT IT READS IS OF BULK AT MOST 1048576: true; the input reads as it did. -/
def buffersPinsUptoRow : OpenClaim := { program := "ytkfkkbblmnnblaa", sum := "093d789c98bb9afa4ea1358e4cf97d8a4a0cf8749c473b34dc69593958ba93d5", func := "reliquary/reliquarylaw15.BuffersPins", spec := "buffersPins", unfollowed := true, recurses := true, apart := false, narrowed := true }
def BuffersPinsUptoSaid : Prop := buffersPinsUptoRow.holds Try.pinned (OpenSpec.upto buffersPinsSpec)

end Rows
end Go.Proofs.Ytkfkkbblmnnblaa
