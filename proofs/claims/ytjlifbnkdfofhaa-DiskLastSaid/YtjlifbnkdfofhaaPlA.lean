/- Plain lemmas on numbers and bytes. No program in sight. -/
import Derived.Test.YtjlifbnkdfofhaaKrD
import Derived.Laws.BitsAllLaws
namespace Go.Kr
open Go Go.RowKit
set_option linter.unusedVariables false
set_option linter.unusedSimpArgs false

theorem w64 {x : Int} (h0 : -9223372036854775808 ≤ x) (h1 : x ≤ 9223372036854775807) : IntKind.i64.wrap x = x := by rw [IntKind.wrap_i64]; omega
theorem wu64 {x : Int} (h0 : 0 ≤ x) (h1 : x < 18446744073709551616) : IntKind.u64.wrap x = x := by
  have : IntKind.u64.wrap x = x % 18446744073709551616 := by simp [IntKind.wrap, IntKind.bits, IntKind.signed]
  omega
theorem wrap_u64 (x : Int) : IntKind.u64.wrap x = x % 18446744073709551616 := by simp [IntKind.wrap, IntKind.bits, IntKind.signed]
theorem wu32 {x : Int} (h0 : 0 ≤ x) (h1 : x < 4294967296) : IntKind.u32.wrap x = x := by rw [IntKind.wrap_u32]; omega
theorem wu8 {x : Int} (h0 : 0 ≤ x) (h1 : x < 256) : IntKind.u8.wrap x = x := by rw [IntKind.wrap_u8]; omega

/-- All are bytes. -/
def Byt (l : List Int) : Prop := ∀ x ∈ l, 0 ≤ x ∧ x < 256
theorem Byt.nil : Byt [] := fun _ h => by simp at h
theorem Byt.gn {l : List Int} (h : Byt l) (j : Nat) : 0 ≤ gn l j ∧ gn l j < 256 := by
  unfold Kr.gn
  rw [List.getD_eq_getElem?_getD]
  cases hj : l[j]? with
  | none => simp
  | some x => simpa using h x (List.mem_of_getElem? hj)
theorem Byt.append {a b : List Int} (h : Byt a) (k : Byt b) : Byt (a ++ b) := fun x hx => (List.mem_append.1 hx).elim (h x) (k x)
theorem Byt.drop {a : List Int} (h : Byt a) (k : Nat) : Byt (a.drop k) := fun x hx => h x (List.mem_of_mem_drop hx)
theorem Byt.take {a : List Int} (h : Byt a) (k : Nat) : Byt (a.take k) := fun x hx => h x (List.mem_of_mem_take hx)
theorem Byt.prt {a : List Int} (h : Byt a) (i j : Int) : Byt (prt a i j) := (h.drop _).take _
theorem Byt.set {a : List Int} (h : Byt a) (k : Nat) {x : Int} (h0 : 0 ≤ x) (h1 : x < 256) : Byt (a.set k x) := fun y hy => by
  rcases List.mem_or_eq_of_mem_set hy with hy | rfl
  · exact h y hy
  · exact ⟨h0, h1⟩
theorem Byt.of_wf {l : List Int} (h : ∀ n ∈ l, (Lit.int .u8 n).wf = true) : Byt l := fun x hx => by
  have := h x hx
  simp [Lit.wf, IntKind.min, IntKind.max, IntKind.signed, IntKind.bits] at this
  omega
theorem ext_gn {a b : List Int} (hl : a.length = b.length) (h : ∀ j, j < a.length → gn a j = gn b j) : a = b := by
  apply List.ext_getElem hl
  intro i h1 h2
  have := h i h1
  simp [gn, List.getD_eq_getElem?_getD, List.getElem?_eq_getElem h1, List.getElem?_eq_getElem h2] at this
  exact this
theorem gn_set {l : List Int} {q : Nat} {y : Int} (h : q < l.length) (p : Nat) : gn (l.set q y) p = if p = q then y else gn l p := by
  unfold gn
  rw [List.getD_eq_getElem?_getD, List.getD_eq_getElem?_getD, List.getElem?_set]
  by_cases e : q = p
  · subst e; simp [h]
  · have : ¬ p = q := fun h => e h.symm
    simp [e, this]
theorem size_strOf (l : List Int) : (strOfNums l).size = l.length := by
  show (strOfNums l).data.toList.length = _
  simp [strOfNums]
theorem bn_strOf {l : List Int} (h : Byt l) (j : Nat) : bn (strOfNums l) j = gn l j := by
  have e : (strOfNums l).data.toList = l.map fun n => UInt8.ofNat n.toNat := rfl
  have hg := h.gn j
  unfold bn gn at *
  rw [e, List.getD_eq_getElem?_getD, List.getElem?_map]
  rw [List.getD_eq_getElem?_getD] at *
  cases hj : l[j]? with
  | none => simp
  | some x =>
    rw [hj] at hg
    simp at hg ⊢
    omega
theorem toList_strOf (l : List Int) : (strOfNums l).data.toList = l.map fun n => UInt8.ofNat n.toNat := rfl
theorem bytes_toList (b : ByteArray) : b.toList = b.data.toList := by
  have hlen : b.data.toList.length = b.size := rfl
  have loop : ∀ (n i : Nat) (r : List UInt8), b.size - i = n → ByteArray.toList.loop b i r = r.reverse ++ b.data.toList.drop i := by
    intro n
    induction n with
    | zero =>
      intro i r h
      unfold ByteArray.toList.loop
      have hi : ¬ i < b.size := by omega
      rw [if_neg hi, List.drop_eq_nil_of_le (by omega), List.append_nil]
    | succ n ih =>
      intro i r h
      have hi : i < b.size := by omega
      unfold ByteArray.toList.loop
      rw [if_pos hi, ih (i + 1) _ (by omega)]
      have hd : i < b.data.toList.length := by omega
      rw [List.drop_eq_getElem_cons hd]
      have : b.get! i = b.data.toList[i] := by
        show b.data[i]! = _
        rw [getElem!_pos b.data i hi]
        rfl
      rw [this, List.reverse_cons, List.append_assoc]
      rfl
  unfold ByteArray.toList
  rw [loop b.size 0 [] (by omega)]
  rfl
theorem byte_inj {x y : Int} (hx : 0 ≤ x ∧ x < 256) (hy : 0 ≤ y ∧ y < 256) (h : UInt8.ofNat x.toNat = UInt8.ofNat y.toNat) : x = y := by
  have := congrArg UInt8.toNat h
  simp at this
  omega
theorem strOf_inj {a b : List Int} (ha : Byt a) (hb : Byt b) : (strOfNums a).toList = (strOfNums b).toList ↔ a = b := by
  refine ⟨fun h => ?_, fun h => by rw [h]⟩
  rw [bytes_toList, bytes_toList, toList_strOf, toList_strOf] at h
  have hl : a.length = b.length := by simpa using congrArg List.length h
  refine List.ext_getElem hl fun i h1 h2 => ?_
  have h3 : (a.map fun n => UInt8.ofNat n.toNat)[i]? = (b.map fun n => UInt8.ofNat n.toNat)[i]? := by rw [h]
  simp [List.getElem?_eq_getElem h1, List.getElem?_eq_getElem h2] at h3
  exact byte_inj (ha _ (List.getElem_mem h1)) (hb _ (List.getElem_mem h2)) h3
theorem nat_xor_zero {a b : Nat} (h : a ^^^ b = 0) : a = b := by
  have := congrArg (· ^^^ b) h
  simpa [Nat.xor_assoc, Nat.xor_self] using this
theorem u8_xor_zero {x y : Int} (hx : 0 ≤ x ∧ x < 256) (hy : 0 ≤ y ∧ y < 256) : bits .xor .u8 x y = 0 ↔ x = y := by
  rw [u8_xor x y hx.1 hx.2 hy.1 hy.2]
  constructor
  · intro h
    have h' : x.toNat ^^^ y.toNat = 0 := by exact_mod_cast h
    have := nat_xor_zero h'
    omega
  · intro h; subst h; simp
theorem u8_xor_range {x y : Int} (hx : 0 ≤ x ∧ x < 256) (hy : 0 ≤ y ∧ y < 256) : 0 ≤ bits .xor .u8 x y ∧ bits .xor .u8 x y < 256 := by
  rw [u8_xor x y hx.1 hx.2 hy.1 hy.2]
  have : x.toNat ^^^ y.toNat < 2 ^ 8 := Nat.xor_lt_two_pow (by omega) (by omega)
  omega
def Bytl (l : List (List Int)) : Prop := ∀ x ∈ l, Byt x
theorem Bytl.gl {l : List (List Int)} (h : Bytl l) (j : Nat) : Byt (gl l j) := by
  unfold Kr.gl
  rw [List.getD_eq_getElem?_getD]
  cases hj : l[j]? with
  | none => exact Byt.nil
  | some x => exact h x (List.mem_of_getElem? hj)
end Go.Kr
