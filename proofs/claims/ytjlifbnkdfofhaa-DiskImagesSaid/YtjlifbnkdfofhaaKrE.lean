/- Arrays of numbers: in memory and as values. No program in sight. -/
import Derived.Test.YtjlifbnkdfofhaaKrD
import Derived.Laws.Tables
import Derived.Laws.Rows
import Derived.Laws.StructEq
import Derived.Laws.Slices
namespace Go.Kr
open Go Go.RowKit
set_option linter.unusedVariables false
set_option linter.unusedSimpArgs false

variable {dl : List Deferred} {P : Program} {ops : Array Oper} {Q : Exit → Act → World → Prop} {rest : List Oper} {n : Nat} {l l' : Ov} {w w0 : World}
variable {d : Nat} {ty t t' e : TypeId} {pos : String} {af : Array Edge} {g : Option (Nat × Bool)} {v : Value} {X Y Z : Operand} {k k' : IntKind} {x y z : Int} {L : List En}

def ArrT (P : Program) (t : TypeId) (m : Nat) (e : TypeId) (k : IntKind) : Prop :=
  P.underlying t = some (.array m e) ∧ P.underlying e = some (.int k) ∧ P.cellsOf e = 1 ∧ (P.info? t).map (·.size) = some m ∧ ∃ i z, P.info? t = some i ∧ i.zero = some z ∧ z.cells = (iv k (List.replicate m 0)).toArray
theorem iv_zero (k : IntKind) (m : Nat) : (iv k (List.replicate m 0)).toArray = Array.replicate m (.int k 0) := by simp [iv]
theorem ArrT.of {m : Nat} (hu : P.underlying t = some (.array m e)) (he : P.underlying e = some (.int k)) (hc : P.cellsOf e = 1) (hs : (P.info? t).map (·.size) = some m)
    (hz : ((P.info? t).bind (·.zero)).map (·.cells) = some (Array.replicate m (.int k 0))) : ArrT P t m e k := by
  obtain ⟨z, hz, hc2⟩ := Option.map_eq_some_iff.1 hz
  obtain ⟨i, hi, hzz⟩ := Option.bind_eq_some_iff.1 hz
  exact ⟨hu, he, hc, hs, i, z, hi, hzz, by rw [hc2, iv_zero]⟩
theorem ArrT.zero {m : Nat} (h : ArrT P t m e k) : ZeroT P t (iv k (List.replicate m 0)) := by
  obtain ⟨_, _, _, _, i, z, h1, h2, h3⟩ := h
  exact ⟨i, z, h1, h2, h3⟩
theorem ArrT.size {m : Nat} (h : ArrT P t m e k) {xs : List Int} (hl : xs.length = m) : (P.info? t).map (·.size) = some (iv k xs).toArray.size := by
  rw [h.2.2.2.1]; simp [iv, hl]
theorem St.blk (st : St w0 w L) {i bk : Nat} {T : TypeId} {cs : List Value} (hk : L[i]? = some (.cells bk cs T)) : w.heap[bk]? = some (.cells cs.toArray T (0, 0)) := (st.ok _ (List.mem_of_getElem? hk)).2
theorem St.cell_iv (st : St w0 w L) {i bk j : Nat} {T : TypeId} {xs : List Int} (hk : L[i]? = some (.cells bk (iv k xs) T)) (hj : j < xs.length) : w.cell? ⟨bk, j, none⟩ = some (.int k (gn xs j)) :=
  st.cell hk (iv_get hj)
end Go.Kr
