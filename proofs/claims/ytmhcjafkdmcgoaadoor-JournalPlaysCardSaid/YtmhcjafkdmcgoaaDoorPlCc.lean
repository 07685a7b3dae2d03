/- Lists of numbers; what the library's Concat and Clone compute. -/
import Derived.Test.YtmhcjafkdmcgoaaDoorPlA
import Derived.Test.YtmhcjafkdmcgoaaDoorGx
namespace Go.Proofs.YtmhcjafkdmcgoaaDoor
open Go Go.Kr Go.RowKit
set_option linter.unusedVariables false
set_option linter.unusedSimpArgs false
theorem gn_prt {l : List Int} {a b : Int} {j : Nat} (h0 : 0 ≤ a) (h1 : a + j < b) (h2 : b ≤ l.length) : gn (prt l a b) j = gn l (a.toNat + j) := by
 unfold gn prt
 rw [List.getD_eq_getElem?_getD, List.getElem?_take, if_pos (by omega), List.getElem?_drop, List.getD_eq_getElem?_getD]
theorem set_gn_self {m : List Int} {t : Nat} (ht : t < m.length) : m.set t (gn m t) = m := by
 apply ext_gn (by simp)
 intro j hj
 rw [gn_set ht]
 split
 ·rename_i h; rw [h]
 rfl
theorem gn_over {l : List Int} {j : Nat} (h : l.length ≤ j) : gn l j = 0 := by
 simp [gn, List.getD_eq_getElem?_getD, List.getElem?_eq_none h]
theorem gn_app {a b : List Int} (j : Nat) : gn (a ++ b) j = if j < a.length then gn a j else gn b (j - a.length) := by
 simp only [gn, List.getD_eq_getElem?_getD]
 split
 ·rw [List.getElem?_append_left (by assumption)]
 rw [List.getElem?_append_right (by omega)]
theorem gn_take {l : List Int} {m j : Nat} (h : j < m) : gn (l.take m) j = gn l j := by
 simp [gn, List.getD_eq_getElem?_getD, List.getElem?_take, h]
theorem gn_drop (l : List Int) (m j : Nat) : gn (l.drop m) j = gn l (m + j) := by
 simp [gn, List.getD_eq_getElem?_getD, List.getElem?_drop]
theorem gn_rep (m j : Nat) : gn (List.replicate m 0) j = 0 := by
 simp only [gn, List.getD_eq_getElem?_getD, List.getElem?_replicate]
 split <;> rfl
theorem take_gn {l : List Int} {i : Nat} (h : i < l.length) : l.take (i + 1) = l.take i ++ [gn l i] := by
 rw [List.take_add_one, List.getElem?_eq_getElem h]
 simp [gn, List.getD_eq_getElem?_getD, List.getElem?_eq_getElem h]
theorem rep_byt (n : Nat) : Byt (List.replicate n 0) := fun x hx => by rw [(List.mem_replicate.1 hx).2]; omega
theorem gn_cpy_at {m ys : List Int} {o N : Nat} (h : o + N ≤ m.length) (hy : ys.length ≤ N) (j : Nat) : gn (cpy m o N ys) j = if o ≤ j ∧ j < o + ys.length then gn ys (j - o) else gn m j := by
 unfold cpy
 rw [Nat.min_eq_left hy, List.take_of_length_le (Nat.le_refl ys.length), List.append_assoc, gn_app]
 have hl : (m.take o).length = o := by simp; omega
 rw [hl]
 split
 ·rw [gn_take (by assumption), if_neg (by omega)]
 rw [gn_app]
 split
 ·rw [if_pos (by omega)]
 rw [gn_drop, if_neg (by omega)]
 congr 1; omega
theorem byt_of_gn {l : List Int} (h : ∀ j, j < l.length → 0 ≤ gn l j ∧ gn l j < 256) : Byt l := fun x hx => by
 obtain ⟨j, hj, rfl⟩ := List.mem_iff_getElem.1 hx
 have := h j hj
 simpa [gn, List.getD_eq_getElem?_getD, List.getElem?_eq_getElem hj] using this
theorem gn_map_range (f : Nat → Int) {m j : Nat} (h : j < m) : gn ((List.range m).map f) j = f j := by simp [gn, List.getD_eq_getElem?_getD, h]
theorem flat_succ {ls : List (List Int)} {i : Nat} (h : i < ls.length) : (ls.take (i + 1)).flatten = (ls.take i).flatten ++ gx ls i := by
 rw [List.take_add_one, List.getElem?_eq_getElem h, List.flatten_append]
 congr 1
 simp [gx, List.getD_eq_getElem?_getD, List.getElem?_eq_getElem h]
theorem flat_le (ls : List (List Int)) (i : Nat) : ((ls.take i).flatten).length ≤ ls.flatten.length := by
 have h : ls.flatten = (ls.take i).flatten ++ (ls.drop i).flatten := by rw [← List.flatten_append, List.take_append_drop]
 rw [h, List.length_append]; omega
theorem grow_rel (n : Nat) (h : n ≤ 1000000) : slices_Grow_s_byte_byte_nil0.rel n [] := by
 have e : IntKind.i64.wrap ((n : Int) - IntKind.i64.wrap (0 - 0)) = n := by rw [w64 (x := 0 - 0) (by omega) (by omega), w64 (by omega) (by omega)]; omega
 refine ⟨by omega, ?_⟩
 rw [e]
 by_cases h0 : (n : Int) > 0
 ·exact .inl ⟨h0, ⟨h0, by omega⟩, Nat.zero_le _, rfl⟩
 exact .inr ⟨h0, rfl⟩
theorem concat_L2 (ls : List (List Int)) (h : ls.flatten.length ≤ 1000000) (hl : ls.length ≤ 1000000) : ∀ (d k i : Nat), i + d = ls.length → d < k → slices_Concat_s_byte_byte.L2 ls ls.flatten k (ls.take i).flatten i := by
 intro d
 induction d with
 | zero =>
  intro k i h1 h2
  obtain ⟨k, rfl⟩ : ∃ m, k = m + 1 := ⟨k - 1, by omega⟩
  exact .inr ⟨by omega, by rw [List.take_of_length_le (by omega)]⟩
 | succ d ih =>
  intro k i h1 h2
  obtain ⟨k, rfl⟩ : ∃ m, k = m + 1 := ⟨k - 1, by omega⟩
  have H := ih k (i + 1) (by omega) (by omega)
  have hf := flat_le ls (i + 1)
  rw [flat_succ (by omega)] at H hf
  unfold slices_Concat_s_byte_byte.L2
  rw [Int.toNat_natCast]
  refine .inl ⟨by omega, ⟨by omega, by omega⟩, _, rfl, by omega, ?_⟩
  rw [w64 (by omega) (by omega)]
  exact H
theorem concat_L1 (ls : List (List Int)) (h : ls.flatten.length ≤ 1000000) (hl : ls.length ≤ 1000000) : ∀ (d k i : Nat), i + d = ls.length → d < k → slices_Concat_s_byte_byte.L1 ls ls.flatten k (((ls.take i).flatten.length : Nat) : Int) i := by
 intro d
 induction d with
 | zero =>
  intro k i h1 h2
  obtain ⟨k, rfl⟩ : ∃ m, k = m + 1 := ⟨k - 1, by omega⟩
  have hf := flat_le ls i
  exact .inr ⟨by omega, [], grow_rel _ (by omega), ls.length + 1, concat_L2 ls h hl ls.length _ 0 (by omega) (by omega)⟩
 | succ d ih =>
  intro k i h1 h2
  obtain ⟨k, rfl⟩ : ∃ m, k = m + 1 := ⟨k - 1, by omega⟩
  have H := ih k (i + 1) (by omega) (by omega)
  have hf := flat_le ls (i + 1)
  rw [flat_succ (by omega)] at H hf
  rw [List.length_append] at H hf
  unfold slices_Concat_s_byte_byte.L1
  rw [Int.toNat_natCast]
  refine .inl ⟨by omega, ⟨by omega, by omega⟩, _, rfl, ?_⟩
  rw [w64 (by omega) (by omega), w64 (by omega) (by omega)]
  exact ⟨by omega, H⟩
theorem concat_rel (ls : List (List Int)) (h : ls.flatten.length ≤ 1000000) (hl : ls.length ≤ 1000000) : slices_Concat_s_byte_byte.rel ls ls.flatten :=
 ⟨ls.length + 1, concat_L1 ls h hl ls.length _ 0 (by omega) (by omega)⟩
theorem clone02 (l : List Int) (h : l.length ≤ 1000000) : slices_Clone_s_byte_byte.rel l l := ⟨fun h => h, l, rfl, by omega, rfl⟩
theorem bl_strOfNums {l : List Int} (h : Byt l) : bl (strOfNums l) = l := by
 unfold bl
 rw [toList_strOf, List.map_map]
 have : ∀ x ∈ l, ((fun b : UInt8 => (b.toNat : Int)) ∘ fun n : Int => UInt8.ofNat n.toNat) x = x := fun x hx => by
  have := h x hx
  simp; omega
 rw [List.map_congr_left this]; simp
end Go.Proofs.YtmhcjafkdmcgoaaDoor
