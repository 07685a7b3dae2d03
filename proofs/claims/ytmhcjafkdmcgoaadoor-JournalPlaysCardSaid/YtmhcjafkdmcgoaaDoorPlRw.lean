/- Rows of things: plain words. -/
import Derived.Test.YtmhcjafkdmcgoaaDoorGx
import Derived.Test.YtmhcjafkdmcgoaaDoorPlA
namespace Go.Proofs.YtmhcjafkdmcgoaaDoor
open Go Go.Kr Go.RowKit
set_option linter.unusedVariables false
set_option linter.unusedSimpArgs false
theorem gx_lt {α : Type} [Inhabited α] {l : List α} {i : Nat} (h : i < l.length) : gx l i = l[i] := by
 unfold gx; rw [List.getD_eq_getElem?_getD, List.getElem?_eq_getElem h]; rfl
theorem gx_mem {α : Type} [Inhabited α] {l : List α} {i : Nat} (h : i < l.length) : gx l i ∈ l := by rw [gx_lt h]; exact List.getElem_mem h
theorem gx_cons_succ {α : Type} [Inhabited α] (x : α) (l : List α) (i : Nat) : gx (x :: l) (i + 1) = gx l i := rfl
end Go.Proofs.YtmhcjafkdmcgoaaDoor
