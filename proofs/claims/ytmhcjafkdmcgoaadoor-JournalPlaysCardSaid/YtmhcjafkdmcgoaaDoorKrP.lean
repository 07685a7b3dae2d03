/- An owned row of things is cut short, and what stood behind is cleared. No program in sight. -/
import Derived.Test.YtmhcjafkdmcgoaaDoorKrO
namespace Go.Kr
open Go Go.RowKit
set_option linter.unusedVariables false
set_option linter.unusedSimpArgs false
variable {P : Program} {dl : List Deferred} {ops : Array Oper} {Q : Exit → Act → World → Prop} {rest : List Oper} {n d : Nat} {l : Ov} {w w0 W : World} {L : List En} {t e : TypeId} {X Y : Operand} {ty : TypeId} {pos : String} {af : Array Edge}
abbrev Cs := List Value
end Go.Kr
