/- Words of other texts, picked for this seat (wip/gen/pick.py: PlDk PlDa PlDp PlDi). -/
import Derived.Test.YtmhcjafkdmcgoaaDoorPlRw
namespace Go.Proofs.YtmhcjafkdmcgoaaDoor
open Go Go.Kr Go.RowKit
set_option linter.unusedVariables false
set_option linter.unusedSimpArgs false
structure DS where
 p : List R25
 u : List R124
 left : Int
 down : Bool
 ops : List R48
structure DS.Wf (d : DS) : Prop where
 rows : ∀ r ∈ d.p, r.length = 192
 way : ∀ x ∈ d.u, 0 ≤ x.1 ∧ x.1 < (d.p.length : Int) ∧ x.2.length = 192
 few : d.u.length ≤ 1000000 ∧ d.ops.length ≤ 1000000 ∧ d.p.length ≤ 1000000
 num : -9223372036854775808 ≤ d.left ∧ d.left ≤ 9223372036854775807
theorem dk_clone (l : List Int) (h : l.length ≤ 1099511627776) : slices_Clone_s_byte_byte.rel l l := ⟨fun h => h, l, rfl, h, rfl⟩
def Z192 : List Int := List.replicate 192 0
def newD (n : Nat) : DS := ⟨List.replicate n Z192, [], -1, false, []⟩
theorem dk_new_L1 (n : Nat) (hn : n ≤ 4096) : ∀ (d f i : Nat), i + d = n → d < f → disk_New.L1 n (some (List.replicate n Z192, [], -1, false, [])) 0 f (List.replicate i Z192) i := by
 intro d
 induction d with
 | zero =>
  intro f i h1 h2
  obtain ⟨f, rfl⟩ : ∃ m, f = m + 1 := ⟨f - 1, by omega⟩
  obtain rfl : i = n := by omega
  exact .inr ⟨by omega, rfl, rfl⟩
 | succ d ih =>
  intro f i h1 h2
  obtain ⟨f, rfl⟩ : ∃ m, f = m + 1 := ⟨f - 1, by omega⟩
  have e1 : List.replicate (i + 1) Z192 = List.replicate i Z192 ++ ([List.replicate 192 (0 : Int)] : List R25) := by
   rw [List.replicate_succ']; rfl
  refine .inl ⟨by omega, _, rfl, by simp; omega, ?_⟩
  rw [← e1, show IntKind.i64.wrap ((i : Int) + 1) = ((i + 1 : Nat) : Int) by rw [w64 (by omega) (by omega)]; omega]
  exact ih f (i + 1) (by omega) (by omega)
theorem dk_new (n : Nat) (h1 : 1 ≤ n) (h2 : n ≤ 4096) : disk_New.rel n (some ((newD n).p, (newD n).u, (newD n).left, (newD n).down, (newD n).ops)) 0 :=
 .inr ⟨by omega, .inr ⟨by omega, n + 1, dk_new_L1 n h2 n (n + 1) 0 (by omega) (by omega)⟩⟩
theorem newD_wf (n : Nat) (h : n ≤ 4096) : (newD n).Wf := ⟨fun r hr => by rw [(List.mem_replicate.1 hr).2]; exact List.length_replicate .., fun x hx => (by cases hx), ⟨by simp [newD], by simp [newD], by simp [newD]; omega⟩, ⟨by simp [newD], by simp [newD]⟩⟩
def fitsE (d : DS) (i : Int) (b : List Int) : Int := if i < 0 ∨ i ≥ (d.p.length : Int) then 12 else if b.length ≠ 192 then 1 else 0
theorem dk_fits (d : DS) (i : Int) (b : List Int) : disk_Disk_fits.rel d.p d.u d.left d.down d.ops i b d.p d.u d.left d.down d.ops (fitsE d i b) := by
 unfold fitsE
 by_cases h1 : i < 0
 ·rw [if_pos (.inl h1)]; exact .inl ⟨h1, rfl, rfl, rfl, rfl, rfl, rfl⟩
 by_cases h2 : i ≥ (d.p.length : Int)
 ·rw [if_pos (.inr h2)]; exact .inr ⟨h1, .inl ⟨h2, rfl, rfl, rfl, rfl, rfl, rfl⟩⟩
 rw [if_neg (by omega)]
 by_cases h3 : b.length ≠ 192
 ·rw [if_pos h3]; exact .inr ⟨h1, .inr ⟨h2, .inl ⟨by omega, rfl, rfl, rfl, rfl, rfl, rfl⟩⟩⟩
 rw [if_neg h3]; exact .inr ⟨h1, .inr ⟨h2, .inr ⟨by omega, rfl, rfl, rfl, rfl, rfl, rfl⟩⟩⟩
def writeD (d : DS) (i : Int) (b : List Int) : DS × Int :=
 if d.down = true then (d, 13)
 else if fitsE d i b ≠ 0 then (d, fitsE d i b)
 else if d.left = 0 then ({ d with down := true }, 13)
 else ({ d with u := d.u ++ [(i, b)], ops := d.ops ++ [(2, i)], left := if d.left > 0 then d.left - 1 else d.left }, 0)
theorem fitsE_zero {d : DS} {i : Int} {b : List Int} (h : fitsE d i b = 0) : 0 ≤ i ∧ i < (d.p.length : Int) ∧ b.length = 192 := by
 unfold fitsE at h
 split at h
 ·omega
 split at h
 ·omega
 omega
theorem dk_write (d : DS) (i : Int) (b : List Int) (h : d.Wf) : disk_Disk_Write.rel d.p d.u d.left d.down d.ops i b (writeD d i b).1.p (writeD d i b).1.u (writeD d i b).1.left (writeD d i b).1.down (writeD d i b).1.ops (writeD d i b).2 := by
 have hf := h.few
 have hn := h.num
 unfold writeD
 by_cases h1 : d.down = true
 ·rw [if_pos h1]; exact .inl ⟨h1, rfl, rfl, rfl, rfl, rfl, rfl⟩
 rw [if_neg h1]
 refine .inr ⟨h1, _, _, _, _, _, _, dk_fits d i b, ?_⟩
 by_cases h2 : fitsE d i b ≠ 0
 ·rw [if_pos h2]; exact .inl ⟨h2, rfl, rfl, rfl, rfl, rfl, rfl⟩
 rw [if_neg h2]
 have hb := fitsE_zero (Decidable.not_not.1 h2)
 refine .inr ⟨h2, ?_⟩
 by_cases h3 : d.left = 0
 ·rw [if_pos h3]; exact .inl ⟨h3, rfl, rfl, rfl, rfl, rfl, rfl⟩
 rw [if_neg h3]
 refine .inr ⟨h3, ?_⟩
 by_cases h4 : d.left > 0
 ·refine .inl ⟨h4, b, dk_clone b (by omega), _, rfl, by simp; omega, _, rfl, by simp; omega, rfl, rfl, ?_, rfl, rfl, rfl⟩
  simp only [h4, if_true]
  rw [w64 (by omega) (by omega)]
 refine .inr ⟨h4, b, dk_clone b (by omega), _, rfl, by simp; omega, _, rfl, by simp; omega, rfl, rfl, ?_, rfl, rfl, rfl⟩
 simp only [h4, if_false]
theorem writeD_wf {d : DS} {i : Int} {b : List Int} (h : d.Wf) (h1 : d.u.length < 1000000) (h2 : d.ops.length < 1000000) : (writeD d i b).1.Wf := by
 unfold writeD
 split
 ·exact h
 split
 ·exact h
 rename_i hf
 have hb := fitsE_zero (Decidable.not_not.1 hf)
 split
 ·exact ⟨h.rows, h.way, h.few, h.num⟩
 refine ⟨h.rows, ?_, ⟨by simp; omega, by simp; omega, h.few.2.2⟩, ?_⟩
 ·intro x hx
  rcases List.mem_append.1 hx with hx | hx
  ·exact h.way x hx
  rw [List.mem_singleton] at hx; subst hx; exact hb
 have := h.num
 simp only
 split <;> omega
theorem dk_pending (d : DS) : disk_Disk_Pending.rel d.p d.u d.left d.down d.ops d.p d.u d.left d.down d.ops (d.u.length : Int) := ⟨rfl, rfl, rfl, rfl, rfl, rfl⟩
theorem dk_size (d : DS) : disk_Disk_Size.rel d.p d.u d.left d.down d.ops d.p d.u d.left d.down d.ops (d.p.length : Int) := ⟨rfl, rfl, rfl, rfl, rfl, rfl⟩
theorem dk_ops (d : DS) (h : d.Wf) : disk_Disk_Ops.rel d.p d.u d.left d.down d.ops d.p d.u d.left d.down d.ops d.ops :=
 ⟨d.ops, ⟨fun h => h, d.ops, rfl, by have := h.few; omega, rfl⟩, rfl, rfl, rfl, rfl, rfl, rfl⟩
theorem writeD_ok {d : DS} {i : Int} {b : List Int} (h1 : d.down = false) (h2 : 0 ≤ i ∧ i < (d.p.length : Int)) (h3 : b.length = 192) (h4 : d.left ≠ 0) : writeD d i b = ({ d with u := d.u ++ [(i, b)], ops := d.ops ++ [(2, i)], left := if d.left > 0 then d.left - 1 else d.left }, 0) := by
 unfold writeD
 have e : fitsE d i b = 0 := by
  unfold fitsE
  rw [if_neg (by omega), if_neg (by omega)]
 rw [if_neg (by rw [h1]; decide), if_neg (by rw [e]; exact fun h => h rfl), if_neg h4]
theorem newD_len (n : Nat) : (newD n).p.length = n := List.length_replicate ..
theorem newD_gx {n k : Nat} (h : k < n) : gx (newD n).p k = Z192 := by
 rw [gx_lt (by rw [newD_len]; exact h)]
 exact List.getElem_replicate ..
end Go.Proofs.YtmhcjafkdmcgoaaDoor
