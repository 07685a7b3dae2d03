/- Plain lemmas on numbers and bytes. No program in sight. -/
import Derived.Test.YtjlifbnkdfofhaaKrD
import Derived.Laws.BitsAllLaws
namespace Go.Kr
open Go Go.RowKit
set_option linter.unusedVariables false
set_option linter.unusedSimpArgs false

theorem w64 {x : Int} (h0 : -9223372036854775808 ≤ x) (h1 : x ≤ 9223372036854775807) : IntKind.i64.wrap x = x := by rw [IntKind.wrap_i64]; omega
def Byt (l : List Int) : Prop := ∀ x ∈ l, 0 ≤ x ∧ x < 256
theorem Byt.nil : Byt [] := fun _ h => by simp at h
theorem Byt.gn {l : List Int} (h : Byt l) (j : Nat) : 0 ≤ gn l j ∧ gn l j < 256 := by
  unfold Kr.gn
  rw [List.getD_eq_getElem?_getD]
  cases hj : l[j]? with
  | none => simp
  | some x => simpa using h x (List.mem_of_getElem? hj)
theorem Byt.append {a b : List Int} (h : Byt a) (k : Byt b) : Byt (a ++ b) := fun x hx => (List.mem_append.1 hx).elim (h x) (k x)
theorem Byt.drop {a : List Int} (h : Byt a) (k : Nat) : Byt (a.drop k) := fun x hx => h x (List.mem_of_mem_drop hx)
theorem Byt.take {a : List Int} (h : Byt a) (k : Nat) : Byt (a.take k) := fun x hx => h x (List.mem_of_mem_take hx)
theorem Byt.prt {a : List Int} (h : Byt a) (i j : Int) : Byt (prt a i j) := (h.drop _).take _
theorem Byt.set {a : List Int} (h : Byt a) (k : Nat) {x : Int} (h0 : 0 ≤ x) (h1 : x < 256) : Byt (a.set k x) := fun y hy => by
  rcases List.mem_or_eq_of_mem_set hy with hy | rfl
  · exact h y hy
  · exact ⟨h0, h1⟩
theorem Byt.of_wf {l : List Int} (h : ∀ n ∈ l, (Lit.int .u8 n).wf = true) : Byt l := fun x hx => by
  have := h x hx
  simp [Lit.wf, IntKind.min, IntKind.max, IntKind.signed, IntKind.bits] at this
  omega
theorem size_strOf (l : List Int) : (strOfNums l).size = l.length := by
  show (strOfNums l).data.toList.length = _
  simp [strOfNums]
def Bytl (l : List (List Int)) : Prop := ∀ x ∈ l, Byt x
theorem Bytl.gl {l : List (List Int)} (h : Bytl l) (j : Nat) : Byt (gl l j) := by
  unfold Kr.gl
  rw [List.getD_eq_getElem?_getD]
  cases hj : l[j]? with
  | none => exact Byt.nil
  | some x => exact h x (List.mem_of_getElem? hj)
end Go.Kr
