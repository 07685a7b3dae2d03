/- Rows of things: plain words. -/
import Derived.Test.YtjlifbnkdfofhaaGx
import Derived.Test.YtjlifbnkdfofhaaPlA
namespace Go.Proofs.Ytjlifbnkdfofhaa
open Go Go.Kr Go.RowKit
set_option linter.unusedVariables false
set_option linter.unusedSimpArgs false

/-! ### 1. Rows -/
theorem gx_lt {α : Type} [Inhabited α] {l : List α} {i : Nat} (h : i < l.length) : gx l i = l[i] := by
  unfold gx; rw [List.getD_eq_getElem?_getD, List.getElem?_eq_getElem h]; rfl
theorem gx_mem {α : Type} [Inhabited α] {l : List α} {i : Nat} (h : i < l.length) : gx l i ∈ l := by rw [gx_lt h]; exact List.getElem_mem h
theorem gx_cons_succ {α : Type} [Inhabited α] (x : α) (l : List α) (i : Nat) : gx (x :: l) (i + 1) = gx l i := rfl
theorem gx_split {α : Type} [Inhabited α] {l : List α} {i : Nat} (h : i < l.length) : l = l.take i ++ gx l i :: l.drop (i + 1) := by
  rw [gx_lt h, ← List.drop_eq_getElem_cons h, List.take_append_drop]
theorem gx_app_lt {α : Type} [Inhabited α] {a b : List α} {i : Nat} (h : i < a.length) : gx (a ++ b) i = gx a i := by
  rw [gx_lt (by rw [List.length_append]; omega), gx_lt h, List.getElem_append_left h]
theorem gx_app_ge {α : Type} [Inhabited α] {a b : List α} {i : Nat} (h : a.length ≤ i) (h2 : i < a.length + b.length) : gx (a ++ b) i = gx b (i - a.length) := by
  rw [gx_lt (by rw [List.length_append]; omega), gx_lt (by omega), List.getElem_append_right h]
/-- Where the first thing of a kind stands; the length, if there is none. -/
def fix {α : Type} (p : α → Bool) (l : List α) : Int := if l.findIdx p < l.length then (l.findIdx p : Int) else -1
theorem fix_neg {α : Type} {p : α → Bool} {l : List α} : fix p l < 0 ↔ ∀ x ∈ l, p x = false := by
  unfold fix
  constructor
  · intro h x hx
    split at h
    · omega
    · rename_i hge
      cases hp : p x with
      | false => rfl
      | true => exact absurd (List.findIdx_lt_length_of_exists ⟨x, hx, hp⟩) hge
  · intro h
    rw [if_neg]
    · decide
    · intro hlt
      have := List.findIdx_getElem (p := p) (w := hlt)
      rw [h _ (List.getElem_mem hlt)] at this
      cases this
theorem fix_pos {α : Type} [Inhabited α] {p : α → Bool} {l : List α} (h : ¬ fix p l < 0) : ∃ i : Nat, fix p l = (i : Int) ∧ i < l.length ∧ p (gx l i) = true ∧ ∀ j, j < i → p (gx l j) = false := by
  unfold fix at h ⊢
  split at h
  · rename_i hlt
    refine ⟨l.findIdx p, by rw [if_pos hlt], hlt, ?_, ?_⟩
    · rw [gx_lt hlt]; exact List.findIdx_getElem (w := hlt)
    · intro j hj
      rw [gx_lt (by omega)]
      exact Bool.not_eq_true _ ▸ List.not_of_lt_findIdx hj
  · omega
theorem fix_eq {α : Type} [Inhabited α] {p : α → Bool} {l : List α} {i : Nat} (hi : i < l.length) (h1 : p (gx l i) = true) (h2 : ∀ j, j < i → p (gx l j) = false) : fix p l = (i : Int) := by
  have hn : ¬ fix p l < 0 := fun h => by
    have := fix_neg.1 h _ (gx_mem hi)
    rw [h1] at this; cases this
  obtain ⟨k, e, hk, k1, k2⟩ := fix_pos hn
  rw [e]
  rcases Nat.lt_trichotomy k i with h | h | h
  · rw [h2 k h] at k1; cases k1
  · rw [h]
  · rw [k2 i h] at h1; cases h1

theorem tmod_nat {a : Int} (h : 0 ≤ a) (m : Nat) (hm : 0 < m) : ∃ t : Nat, Int.tmod a m = (t : Int) ∧ t < m := by
  refine ⟨a.toNat % m, ?_, Nat.mod_lt _ hm⟩
  obtain ⟨n, rfl⟩ := Int.eq_ofNat_of_zero_le h
  rw [Int.tmod_eq_emod_of_nonneg h, Int.toNat_natCast]
  rfl
end Go.Proofs.Ytjlifbnkdfofhaa
