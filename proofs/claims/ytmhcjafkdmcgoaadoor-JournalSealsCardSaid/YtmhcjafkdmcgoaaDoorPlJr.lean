/- Words of other texts, picked for this seat (wip/gen/pick.py: PlDk PlDa PlDp PlDi). -/
import Derived.Test.YtmhcjafkdmcgoaaDoorPlJf
namespace Go.Proofs.YtmhcjafkdmcgoaaDoor
open Go Go.Kr Go.RowKit
set_option linter.unusedVariables false
set_option linter.unusedSimpArgs false
theorem lastW_eq : ∀ {l : List R124} {i : Int} {q : Nat}, q < l.length → (gx l q).1 = i → (∀ p, q < p → p < l.length → (gx l p).1 ≠ i) → lastW l i = some (gx l q).2
  | [], i, q, h, _, _ => by simp at h
  | x :: l, i, 0, h, h1, h2 => by
    have : lastW l i = none := lastW_none.2 fun y hy => by
      obtain ⟨p, hp, rfl⟩ := List.getElem_of_mem hy
      have := h2 (p + 1) (by omega) (by simp; omega)
      rwa [gx_cons_succ, gx_lt hp] at this
    unfold lastW
    rw [this]
    exact if_pos h1
  | x :: l, i, q + 1, h, h1, h2 => by
    have h' : q < l.length := by simp at h; omega
    have := lastW_eq (l := l) (i := i) (q := q) h' h1 fun p hp hl => h2 (p + 1) (by omega) (by simp; omega)
    unfold lastW
    rw [this]
    rfl
def toW (x : R124) : R145 := (x.1, strOfNums x.2)
theorem gx_map {α β : Type} [Inhabited α] [Inhabited β] (g : α → β) {l : List α} {i : Nat} (h : i < l.length) : gx (l.map g) i = g (gx l i) := by
 rw [gx_lt (by rw [List.length_map]; exact h), gx_lt h, List.getElem_map]
def lastS (l : List R124) (i : Int) : ByteArray × Bool := match lastW l i with
 | some b => (strOfNums b, true)
 | none => (⟨#[]⟩, false)
theorem rf_last_L1 (l : List R124) (i : Int) (s : ByteArray) (b : Bool) (hl : l.length ≤ 1000000) : ∀ (j f : Nat), j ≤ l.length → j < f → (∀ p, j ≤ p → p < l.length → (gx l p).1 ≠ i) → reliquaryref06_last.L1 (l.map toW) i (lastS l i).1 (lastS l i).2 f s b ((j : Int) - 1) := by
 intro j
 induction j with
 | zero =>
  intro f h1 h2 h3
  obtain ⟨f, rfl⟩ : ∃ m, f = m + 1 := ⟨f - 1, by omega⟩
  have h4 : lastW l i = none := lastW_none.2 fun x hx => by
   obtain ⟨p, hp, rfl⟩ := List.getElem_of_mem hx
   rw [← gx_lt hp]; exact h3 p (by omega) hp
  unfold lastS
  rw [h4]
  exact .inr ⟨by omega, rfl, rfl⟩
 | succ j ih =>
  intro f h1 h2 h3
  obtain ⟨f, rfl⟩ : ∃ m, f = m + 1 := ⟨f - 1, by omega⟩
  rw [show ((j + 1 : Nat) : Int) - 1 = (j : Int) by omega]
  refine .inl ⟨by omega, ⟨by omega, by rw [List.length_map]; omega⟩, ?_⟩
  rw [Int.toNat_natCast, gx_map toW (by omega)]
  by_cases h0 : (gx l j).1 = i
  ·have h4 := lastW_eq (l := l) (i := i) (q := j) (by omega) h0 fun p h5 h6 => h3 p (by omega) h6
   refine .inl ⟨h0, ⟨by omega, by rw [List.length_map]; omega⟩, ?_, ?_⟩
   ·unfold lastS; rw [h4]; rfl
   unfold lastS; rw [h4]
  refine .inr ⟨h0, ?_⟩
  rw [w64 (by omega) (by omega)]
  refine ih f (by omega) (by omega) fun p h5 h6 => ?_
  by_cases e : p = j
  ·rw [e]; exact h0
  exact h3 p (by omega) h6
theorem rf_last (l : List R124) (i : Int) (hl : l.length ≤ 1000000) : reliquaryref06_last.rel (l.map toW) i (lastS l i).1 (lastS l i).2 := by
 refine ⟨l.length + 1, ?_⟩
 rw [List.length_map, w64 (by omega) (by omega)]
 exact rf_last_L1 l i _ _ hl l.length _ (Nat.le_refl _) (by omega) fun p h1 h2 => by omega
def atD (D : List R124) (i : Int) : List Int := (lastW D i).getD Z192
theorem rf_at (n : Int) (D : List R124) (U : List R145) (left : Int) (down : Bool) (ops : List R160) (i : Int) (hl : D.length ≤ 1000000) : reliquaryref06_At.rel n (D.map toW) U left down ops i (strOfNums (atD D i)) := by
 refine ⟨_, _, rf_last D i hl, ?_⟩
 unfold lastS atD
 cases h : lastW D i with
 | some b => exact .inl ⟨rfl, rfl⟩
 | none => exact .inr ⟨by simp, rfl⟩
theorem rf_noted (n : Int) (D U : List R145) (left : Int) (down : Bool) (ops : List R160) (k s : Int) (h : ops.length ≤ 1000000) : reliquaryref06_noted.rel n D U left down ops k s n D U left down (ops ++ [(k, s)]) :=
 ⟨_, rfl, by simp; omega, _, rfl, by simp; omega, rfl, rfl, rfl, rfl, rfl, rfl⟩
theorem rf_more (l : List R124) (x : R124) (h : l.length ≤ 1000000) : reliquaryref06_more.rel (l.map toW) x.1 (strOfNums x.2) ((l ++ [x]).map toW) :=
 ⟨_, rfl, by simp; omega, _, rfl, by simp; omega, by simp [toW]⟩
theorem rf_fits (d : DS) (D U : List R145) (left : Int) (down : Bool) (ops : List R160) (i : Int) (b : List Int) : reliquaryref06_fits.rel (d.p.length : Int) D U left down ops i (strOfNums b) (fitsE d i b) := by
 unfold fitsE
 by_cases h1 : i < 0
 ·rw [if_pos (.inl h1)]; exact .inl ⟨h1, rfl⟩
 by_cases h2 : i ≥ (d.p.length : Int)
 ·rw [if_pos (.inr h2)]; exact .inr ⟨h1, .inl ⟨h2, rfl⟩⟩
 rw [if_neg (by omega)]
 by_cases h3 : b.length ≠ 192
 ·rw [if_pos h3]; exact .inr ⟨h1, .inr ⟨h2, .inl ⟨by rw [size_strOf]; omega, rfl⟩⟩⟩
 rw [if_neg h3]; exact .inr ⟨h1, .inr ⟨h2, .inr ⟨by rw [size_strOf]; omega, rfl⟩⟩⟩
structure Inv (i : Nat) (d : DS) (D : List R124) : Prop where
 wf : d.Wf
 few : D.length + d.u.length ≤ i
 ops : d.ops.length ≤ i
 at_ : ∀ k : Nat, k < d.p.length → gx d.p k = atD D k
theorem Inv.up {i : Nat} {d : DS} {D : List R124} (h : Inv i d D) : Inv (i + 1) d D := ⟨h.wf, by have := h.few; omega, by have := h.ops; omega, h.at_⟩
theorem rf_write (d : DS) (D : List R124) (i : Int) (b : List Int) (n : Nat) (h : Inv n d D) (hn : n ≤ 100000) :
  reliquaryref06_Write.rel (d.p.length : Int) (D.map toW) (d.u.map toW) d.left d.down d.ops i (strOfNums b) (d.p.length : Int) (D.map toW) ((writeD d i b).1.u.map toW) (writeD d i b).1.left (writeD d i b).1.down (writeD d i b).1.ops (writeD d i b).2 := by
 have hnum := h.wf.num
 have hf := h.few
 have ho := h.ops
 unfold writeD
 by_cases h1 : d.down = true
 ·rw [if_pos h1]; exact .inl ⟨h1, rfl, rfl, rfl, rfl, rfl, rfl, rfl⟩
 rw [if_neg h1]
 refine .inr ⟨h1, _, rf_fits d _ _ _ _ _ i b, ?_⟩
 by_cases h2 : fitsE d i b ≠ 0
 ·rw [if_pos h2]; exact .inl ⟨h2, rfl, rfl, rfl, rfl, rfl, rfl, rfl⟩
 rw [if_neg h2]
 refine .inr ⟨h2, ?_⟩
 by_cases h3 : d.left = 0
 ·rw [if_pos h3]; exact .inl ⟨h3, rfl, rfl, rfl, rfl, rfl, rfl, rfl⟩
 rw [if_neg h3]
 refine .inr ⟨h3, ?_⟩
 have hm := rf_more d.u (i, b) (by omega)
 by_cases h4 : d.left > 0
 ·refine .inl ⟨h4, _, hm, _, _, _, _, _, _, rf_noted _ _ _ _ _ _ 2 i (by omega), rfl, rfl, rfl, ?_, rfl, rfl, rfl⟩
  simp only [h4, if_true]
  rw [w64 (by omega) (by omega)]
 refine .inr ⟨h4, _, hm, _, _, _, _, _, _, rf_noted _ _ _ _ _ _ 2 i (by omega), rfl, rfl, rfl, ?_, rfl, rfl, rfl⟩
 simp only [h4, if_false]
theorem Inv.write {n : Nat} {d : DS} {D : List R124} (h : Inv n d D) (hn : n ≤ 100000) (i : Int) (b : List Int) : Inv (n + 1) (writeD d i b).1 D ∧ (writeD d i b).1.p = d.p := by
 have hf := h.few
 have ho := h.ops
 have hw := writeD_wf (i := i) (b := b) h.wf (by omega) (by omega)
 unfold writeD at hw ⊢
 split
 ·exact ⟨h.up, rfl⟩
 rename_i h1
 rw [if_neg h1] at hw
 split
 ·exact ⟨h.up, rfl⟩
 rename_i h2
 rw [if_neg h2] at hw
 split
 ·rename_i h3
  rw [if_pos h3] at hw
  exact ⟨⟨hw, by show D.length + d.u.length ≤ n + 1; omega, by show d.ops.length ≤ n + 1; omega, h.at_⟩, rfl⟩
 rename_i h3
 rw [if_neg h3] at hw
 exact ⟨⟨hw, by simp only [List.length_append, List.length_singleton]; omega, by simp only [List.length_append, List.length_singleton]; omega, h.at_⟩, rfl⟩
def imW (D : List R124) (n : Nat) : List R9 := (List.range n).map fun k : Nat => strOfNums (atD D (k : Int))
theorem imW_succ (D : List R124) (n : Nat) : imW D (n + 1) = imW D n ++ [strOfNums (atD D n)] := by
 unfold imW
 rw [List.range_succ, List.map_append]
 rfl
theorem imW_length (D : List R124) (n : Nat) : (imW D n).length = n := by simp [imW]
theorem imW_gx (D : List R124) {n k : Nat} (h : k < n) : gx (imW D n) k = strOfNums (atD D k) := by
 rw [gx_lt (by rw [imW_length]; exact h)]
 simp [imW]
theorem rf_image_L1 (n : Nat) (D : List R124) (U : List R145) (left : Int) (down : Bool) (ops : List R160) (hl : D.length ≤ 1000000) (hn : n ≤ 1000000) : ∀ (k f i : Nat), i + k = n → k < f → reliquaryref06_Image.L1 (n : Int) (D.map toW) U left down ops (imW D n) f (imW D i) i := by
 intro k
 induction k with
 | zero =>
  intro f i h1 h2
  obtain ⟨f, rfl⟩ : ∃ m, f = m + 1 := ⟨f - 1, by omega⟩
  obtain rfl : i = n := by omega
  exact .inr ⟨by omega, rfl⟩
 | succ k ih =>
  intro f i h1 h2
  obtain ⟨f, rfl⟩ : ∃ m, f = m + 1 := ⟨f - 1, by omega⟩
  have ih' := ih f (i + 1) (by omega) (by omega)
  rw [imW_succ] at ih'
  refine .inl ⟨by omega, _, rf_at _ D _ _ _ _ i hl, _, rfl, by rw [List.length_append, imW_length]; simp; omega, ?_⟩
  rw [show IntKind.i64.wrap ((i : Int) + 1) = ((i + 1 : Nat) : Int) by rw [w64 (by omega) (by omega)]; omega]
  exact ih'
theorem rf_image (n : Nat) (D : List R124) (U : List R145) (left : Int) (down : Bool) (ops : List R160) (hl : D.length ≤ 1000000) (hn : n ≤ 1000000) : reliquaryref06_Image.rel (n : Int) (D.map toW) U left down ops (imW D n) := ⟨n + 1, rf_image_L1 n D U left down ops hl hn n (n + 1) 0 (by omega) (by omega)⟩
theorem Inv.new (n : Nat) (h : n ≤ 4096) : Inv 0 (newD n) [] := ⟨newD_wf n h, Nat.le_refl _, Nat.le_refl _, fun k hk => by rw [newD_gx (by rwa [newD_len] at hk)]; rfl⟩
end Go.Proofs.YtmhcjafkdmcgoaaDoor
