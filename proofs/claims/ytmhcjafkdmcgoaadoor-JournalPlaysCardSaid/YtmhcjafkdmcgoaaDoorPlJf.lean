/- Words of other texts, picked for this seat (wip/gen/pick.py: PlDk PlDa PlDp PlDi). -/
import Derived.Test.YtmhcjafkdmcgoaaDoorPlJd
namespace Go.Proofs.YtmhcjafkdmcgoaaDoor
open Go Go.Kr Go.RowKit
set_option linter.unusedVariables false
set_option linter.unusedSimpArgs false
def lastW : List R124 → Int → Option (List Int)
  | [], _ => none
  | x :: l, i => match lastW l i with
    | some b => some b
    | none => if x.1 = i then some x.2 else none
theorem lastW_none : ∀ {l : List R124} {i : Int}, lastW l i = none ↔ ∀ x ∈ l, x.1 ≠ i
  | [], i => by simp [lastW]
  | x :: l, i => by
    have ih := lastW_none (l := l) (i := i)
    unfold lastW
    cases h : lastW l i with
    | none =>
      have h1 := ih.1 h
      simp only
      split
      · rename_i h0; simp [h0]
      · rename_i h0
        simp only [List.mem_cons, true_iff]
        rintro y (rfl | hy)
        · exact h0
        · exact h1 y hy
    | some b =>
      refine ⟨fun h2 => (by cases h2), fun hall => ?_⟩
      have := ih.2 fun y hy => hall y (List.mem_cons_of_mem _ hy)
      rw [h] at this
      cases this
theorem lastW_append : ∀ (l : List R124) (x : R124) (i : Int), lastW (l ++ [x]) i = if x.1 = i then some x.2 else lastW l i
  | [], x, i => rfl
  | y :: l, x, i => by
    rw [List.cons_append, lastW, lastW_append l x i]
    by_cases h : x.1 = i
    · rw [if_pos h, if_pos h]
    · rw [if_neg h, if_neg h]; rfl
def layD (p : List R25) (u : List R124) : List R25 := u.foldl (fun p x => p.set x.1.toNat x.2) p
theorem layD_length (p : List R25) (u : List R124) : (layD p u).length = p.length := by
 unfold layD
 induction u generalizing p with
 | nil => rfl
 | cons x u ih => rw [List.foldl_cons, ih]; simp
theorem layD_append (p : List R25) (u : List R124) (x : R124) : layD p (u ++ [x]) = (layD p u).set x.1.toNat x.2 := by simp [layD]
theorem gx_set {α : Type} [Inhabited α] {l : List α} {q : Nat} {y : α} (h : q < l.length) (p : Nat) : gx (l.set q y) p = if p = q then y else gx l p := by
 unfold gx
 rw [List.getD_eq_getElem?_getD, List.getElem?_set]
 by_cases e : q = p
 ·subst e; rw [if_pos rfl, if_pos rfl, if_pos h]; rfl
 rw [if_neg e, if_neg (Ne.symm e), List.getD_eq_getElem?_getD]
theorem snoc_ind {α : Type} {P : List α → Prop} (h0 : P []) (h1 : ∀ l x, P l → P (l ++ [x])) (l : List α) : P l := by
 rw [← List.reverse_reverse l]
 induction l.reverse with
 | nil => exact h0
 | cons x r ih => rw [List.reverse_cons]; exact h1 _ _ ih
theorem gx_layD (p : List R25) (k : Nat) (u : List R124) : (∀ x ∈ u, 0 ≤ x.1 ∧ x.1 < (p.length : Int)) → gx (layD p u) k = (lastW u k).getD (gx p k) := by
 induction u using snoc_ind with
 | h0 => intro _; rfl
 | h1 u x ih =>
  intro h
  have hx := h x (by simp)
  rw [layD_append, gx_set (by rw [layD_length]; omega), lastW_append, ih fun y hy => h y (by simp [hy])]
  by_cases e : k = x.1.toNat
  ·rw [if_pos e, if_pos (by omega)]; rfl
  rw [if_neg e, if_neg (by omega)]
theorem layD_rows {p : List R25} {u : List R124} (h1 : ∀ r ∈ p, r.length = 192) (h2 : ∀ x ∈ u, x.2.length = 192) : ∀ r ∈ layD p u, r.length = 192 := by
 unfold layD
 induction u generalizing p with
 | nil => exact h1
 | cons x u ih =>
  rw [List.foldl_cons]
  refine ih (fun r hr => ?_) fun y hy => h2 y (List.mem_cons_of_mem _ hy)
  rcases List.mem_or_eq_of_mem_set hr with hr | rfl
  ·exact h1 r hr
  exact h2 x (List.mem_cons_self ..)
theorem dk_image_L1 (d : DS) (h : d.Wf) : ∀ (k f i : Nat), i + k = d.p.length → k < f → disk_Disk_Image.L1 d.p d.u d.left d.down d.ops d.p d.u d.left d.down d.ops d.p f (d.p.take i) i := by
 have hf := h.few
 intro k
 induction k with
 | zero =>
  intro f i h1 h2
  obtain ⟨f, rfl⟩ : ∃ m, f = m + 1 := ⟨f - 1, by omega⟩
  refine .inr ⟨by omega, rfl, rfl, rfl, rfl, rfl, ?_⟩
  rw [List.take_of_length_le (by omega)]
 | succ k ih =>
  intro f i h1 h2
  obtain ⟨f, rfl⟩ : ∃ m, f = m + 1 := ⟨f - 1, by omega⟩
  have hr := h.rows _ (gx_mem (l := d.p) (i := i) (by omega))
  have ih' := ih f (i + 1) (by omega) (by omega)
  rw [List.take_succ_eq_append_getElem (by omega), ← gx_lt (by omega)] at ih'
  refine .inl ⟨by omega, ⟨by omega, by omega⟩, gx d.p i, ?_, _, rfl, by simp; omega, ?_⟩
  ·rw [Int.toNat_natCast]; exact dk_clone _ (by omega)
  rw [show IntKind.i64.wrap ((i : Int) + 1) = ((i + 1 : Nat) : Int) by rw [w64 (by omega) (by omega)]; omega]
  exact ih'
theorem dk_image (d : DS) (h : d.Wf) : disk_Disk_Image.rel d.p d.u d.left d.down d.ops d.p d.u d.left d.down d.ops d.p := ⟨d.p.length + 1, dk_image_L1 d h d.p.length _ 0 (by omega) (by omega)⟩
end Go.Proofs.YtmhcjafkdmcgoaaDoor
