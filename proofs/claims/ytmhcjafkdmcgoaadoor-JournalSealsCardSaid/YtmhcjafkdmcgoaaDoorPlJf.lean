/- Words of other texts, picked for this seat (wip/gen/pick.py: PlDk PlDa PlDp PlDi). -/
import Derived.Test.YtmhcjafkdmcgoaaDoorPlJd
namespace Go.Proofs.YtmhcjafkdmcgoaaDoor
open Go Go.Kr Go.RowKit
set_option linter.unusedVariables false
set_option linter.unusedSimpArgs false
def lastW : List R124 → Int → Option (List Int)
  | [], _ => none
  | x :: l, i => match lastW l i with
    | some b => some b
    | none => if x.1 = i then some x.2 else none
theorem lastW_none : ∀ {l : List R124} {i : Int}, lastW l i = none ↔ ∀ x ∈ l, x.1 ≠ i
  | [], i => by simp [lastW]
  | x :: l, i => by
    have ih := lastW_none (l := l) (i := i)
    unfold lastW
    cases h : lastW l i with
    | none =>
      have h1 := ih.1 h
      simp only
      split
      · rename_i h0; simp [h0]
      · rename_i h0
        simp only [List.mem_cons, true_iff]
        rintro y (rfl | hy)
        · exact h0
        · exact h1 y hy
    | some b =>
      refine ⟨fun h2 => (by cases h2), fun hall => ?_⟩
      have := ih.2 fun y hy => hall y (List.mem_cons_of_mem _ hy)
      rw [h] at this
      cases this
theorem dk_image_L1 (d : DS) (h : d.Wf) : ∀ (k f i : Nat), i + k = d.p.length → k < f → disk_Disk_Image.L1 d.p d.u d.left d.down d.ops d.p d.u d.left d.down d.ops d.p f (d.p.take i) i := by
 have hf := h.few
 intro k
 induction k with
 | zero =>
  intro f i h1 h2
  obtain ⟨f, rfl⟩ : ∃ m, f = m + 1 := ⟨f - 1, by omega⟩
  refine .inr ⟨by omega, rfl, rfl, rfl, rfl, rfl, ?_⟩
  rw [List.take_of_length_le (by omega)]
 | succ k ih =>
  intro f i h1 h2
  obtain ⟨f, rfl⟩ : ∃ m, f = m + 1 := ⟨f - 1, by omega⟩
  have hr := h.rows _ (gx_mem (l := d.p) (i := i) (by omega))
  have ih' := ih f (i + 1) (by omega) (by omega)
  rw [List.take_succ_eq_append_getElem (by omega), ← gx_lt (by omega)] at ih'
  refine .inl ⟨by omega, ⟨by omega, by omega⟩, gx d.p i, ?_, _, rfl, by simp; omega, ?_⟩
  ·rw [Int.toNat_natCast]; exact dk_clone _ (by omega)
  rw [show IntKind.i64.wrap ((i : Int) + 1) = ((i + 1 : Nat) : Int) by rw [w64 (by omega) (by omega)]; omega]
  exact ih'
theorem dk_image (d : DS) (h : d.Wf) : disk_Disk_Image.rel d.p d.u d.left d.down d.ops d.p d.u d.left d.down d.ops d.p := ⟨d.p.length + 1, dk_image_L1 d h d.p.length _ 0 (by omega) (by omega)⟩
end Go.Proofs.YtmhcjafkdmcgoaaDoor
