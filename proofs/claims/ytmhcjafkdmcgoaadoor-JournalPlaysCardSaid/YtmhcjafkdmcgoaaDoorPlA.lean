/- Plain lemmas on numbers and bytes. No program in sight. -/
import Derived.Test.YtmhcjafkdmcgoaaDoorKrD
import Derived.Laws.BitsAllLaws
namespace Go.Kr
open Go Go.RowKit
set_option linter.unusedVariables false
set_option linter.unusedSimpArgs false
theorem w64 {x : Int} (h0 : -9223372036854775808 ≤ x) (h1 : x ≤ 9223372036854775807) : IntKind.i64.wrap x = x := by rw [IntKind.wrap_i64]; omega
theorem wu64 {x : Int} (h0 : 0 ≤ x) (h1 : x < 18446744073709551616) : IntKind.u64.wrap x = x := by
 have : IntKind.u64.wrap x = x % 18446744073709551616 := by simp [IntKind.wrap, IntKind.bits, IntKind.signed]
 omega
theorem wrap_u64 (x : Int) : IntKind.u64.wrap x = x % 18446744073709551616 := by simp [IntKind.wrap, IntKind.bits, IntKind.signed]
theorem wu32 {x : Int} (h0 : 0 ≤ x) (h1 : x < 4294967296) : IntKind.u32.wrap x = x := by rw [IntKind.wrap_u32]; omega
theorem wu8 {x : Int} (h0 : 0 ≤ x) (h1 : x < 256) : IntKind.u8.wrap x = x := by rw [IntKind.wrap_u8]; omega
def Byt (l : List Int) : Prop := ∀ x ∈ l, 0 ≤ x ∧ x < 256
theorem Byt.nil : Byt [] := fun _ h => by simp at h
theorem Byt.gn {l : List Int} (h : Byt l) (j : Nat) : 0 ≤ gn l j ∧ gn l j < 256 := by
 unfold Kr.gn
 rw [List.getD_eq_getElem?_getD]
 cases hj : l[j]? with
 | none => simp
 | some x => simpa using h x (List.mem_of_getElem? hj)
theorem Byt.append {a b : List Int} (h : Byt a) (k : Byt b) : Byt (a ++ b) := fun x hx => (List.mem_append.1 hx).elim (h x) (k x)
theorem Byt.drop {a : List Int} (h : Byt a) (k : Nat) : Byt (a.drop k) := fun x hx => h x (List.mem_of_mem_drop hx)
theorem Byt.take {a : List Int} (h : Byt a) (k : Nat) : Byt (a.take k) := fun x hx => h x (List.mem_of_mem_take hx)
theorem Byt.prt {a : List Int} (h : Byt a) (i j : Int) : Byt (prt a i j) := (h.drop _).take _
theorem Byt.set {a : List Int} (h : Byt a) (k : Nat) {x : Int} (h0 : 0 ≤ x) (h1 : x < 256) : Byt (a.set k x) := fun y hy => by
 rcases List.mem_or_eq_of_mem_set hy with hy | rfl
 ·exact h y hy
 exact ⟨h0, h1⟩
theorem Byt.of_wf {l : List Int} (h : ∀ n ∈ l, (Lit.int .u8 n).wf = true) : Byt l := fun x hx => by
 have := h x hx
 simp [Lit.wf, IntKind.min, IntKind.max, IntKind.signed, IntKind.bits] at this
 omega
theorem ext_gn {a b : List Int} (hl : a.length = b.length) (h : ∀ j, j < a.length → gn a j = gn b j) : a = b := by
 apply List.ext_getElem hl
 intro i h1 h2
 have := h i h1
 simp [gn, List.getD_eq_getElem?_getD, List.getElem?_eq_getElem h1, List.getElem?_eq_getElem h2] at this
 exact this
theorem gn_set {l : List Int} {q : Nat} {y : Int} (h : q < l.length) (p : Nat) : gn (l.set q y) p = if p = q then y else gn l p := by
 unfold gn
 rw [List.getD_eq_getElem?_getD, List.getD_eq_getElem?_getD, List.getElem?_set]
 by_cases e : q = p
 ·subst e; simp [h]
 have : ¬ p = q := fun h => e h.symm
 simp [e, this]
theorem size_strOf (l : List Int) : (strOfNums l).size = l.length := by
 show (strOfNums l).data.toList.length = _
 simp [strOfNums]
theorem toList_strOf (l : List Int) : (strOfNums l).data.toList = l.map fun n => UInt8.ofNat n.toNat := rfl
theorem u8_xor_range {x y : Int} (hx : 0 ≤ x ∧ x < 256) (hy : 0 ≤ y ∧ y < 256) : 0 ≤ bits .xor .u8 x y ∧ bits .xor .u8 x y < 256 := by
 rw [u8_xor x y hx.1 hx.2 hy.1 hy.2]
 have : x.toNat ^^^ y.toNat < 2 ^ 8 := Nat.xor_lt_two_pow (by omega) (by omega)
 omega
def Bytl (l : List (List Int)) : Prop := ∀ x ∈ l, Byt x
theorem Bytl.gl {l : List (List Int)} (h : Bytl l) (j : Nat) : Byt (gl l j) := by
 unfold Kr.gl
 rw [List.getD_eq_getElem?_getD]
 cases hj : l[j]? with
 | none => exact Byt.nil
 | some x => exact h x (List.mem_of_getElem? hj)
end Go.Kr
