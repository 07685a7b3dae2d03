/- Disk: laws without a reference, plainly. -/
import Derived.Test.YtjlifbnkdfofhaaPlDk
namespace Go.Proofs.Ytjlifbnkdfofhaa
open Go Go.Kr Go.RowKit
set_option linter.unusedVariables false
set_option linter.unusedSimpArgs false
theorem writeD_ok {d : DS} {i : Int} {b : List Int} (h1 : d.down = false) (h2 : 0 ≤ i ∧ i < (d.p.length : Int)) (h3 : b.length = 192) (h4 : d.left ≠ 0) : writeD d i b = ({ d with u := d.u ++ [(i, b)], ops := d.ops ++ [(2, i)], left := if d.left > 0 then d.left - 1 else d.left }, 0) := by
  unfold writeD
  have e : fitsE d i b = 0 := by
    unfold fitsE
    rw [if_neg (by omega), if_neg (by omega)]
  rw [if_neg (by rw [h1]; decide), if_neg (by rw [e]; exact fun h => h rfl), if_neg h4]
theorem readD_ok {d : DS} {i : Int} (h1 : d.down = false) (h2 : 0 ≤ i ∧ i < (d.p.length : Int)) : readD d i = ({ d with ops := d.ops ++ [(1, i)] }, (lastW d.u i).getD (gx d.p i.toNat), 0) := by
  unfold readD
  rw [if_neg (by rw [h1]; decide), if_neg (by omega)]
theorem flushD_ok {d : DS} (h1 : d.down = false) : flushD d = ({ d with p := layD d.p d.u, u := [], ops := d.ops ++ [(3, 0)] }, 0) := by
  unfold flushD
  rw [if_neg (by rw [h1]; decide)]
theorem newD_len (n : Nat) : (newD n).p.length = n := List.length_replicate ..
theorem newD_gx {n k : Nat} (h : k < n) : gx (newD n).p k = Z192 := by
  rw [gx_lt (by rw [newD_len]; exact h)]
  exact List.getElem_replicate ..
theorem kept_nil (u : List R69) : kept u [] = [] := by cases u <;> rfl
theorem writeD_at {d : DS} {i : Int} {b : List Int} (h1 : d.down = false) (h2 : 0 ≤ i ∧ i < (d.p.length : Int)) (h3 : b.length = 192) (h4 : d.left ≠ 0) : ∃ e, writeD d i b = (e, 0) ∧ e.p = d.p ∧ e.u = d.u ++ [(i, b)] ∧ e.left = (if d.left > 0 then d.left - 1 else d.left) ∧ e.down = false ∧ e.ops = d.ops ++ [(2, i)] :=
  ⟨_, writeD_ok h1 h2 h3 h4, rfl, rfl, rfl, h1, rfl⟩
theorem readD_at {d : DS} {i : Int} (h1 : d.down = false) (h2 : 0 ≤ i ∧ i < (d.p.length : Int)) : ∃ e r, readD d i = (e, r, 0) ∧ r = (lastW d.u i).getD (gx d.p i.toNat) ∧ e.p = d.p ∧ e.u = d.u ∧ e.left = d.left ∧ e.down = false ∧ e.ops = d.ops ++ [(1, i)] :=
  ⟨_, _, readD_ok h1 h2, rfl, rfl, rfl, rfl, h1, rfl⟩
theorem flushD_at {d : DS} (h1 : d.down = false) : ∃ e, flushD d = (e, 0) ∧ e.p = layD d.p d.u ∧ e.u = [] ∧ e.left = d.left ∧ e.down = false ∧ e.ops = d.ops ++ [(3, 0)] :=
  ⟨_, flushD_ok h1, rfl, rfl, rfl, h1, rfl⟩
theorem crashD_at (d : DS) (k : List Bool) : ∃ e, crashD d k = e ∧ e.p = layD d.p (kept d.u k) ∧ e.u = [] ∧ e.left = -1 ∧ e.down = false ∧ e.ops = d.ops := ⟨_, rfl, rfl, rfl, rfl, rfl, rfl⟩
theorem dk_awake : reliquarylaw06_awake.rel := by
  obtain ⟨B, hB⟩ : ∃ B, B = List.set (List.replicate 192 (0 : Int)) 0 7 := ⟨_, rfl⟩
  have hBl : B.length = 192 := by rw [hB, List.length_set]; exact List.length_replicate ..
  have hB0 : gn B 0 = 7 := by rw [hB]; rfl
  have w0 := newD_wf 2 (by decide)
  have hl := newD_len 2
  have r1 := dk_write (newD 2) 1 B w0
  have w1 := writeD_wf (i := 1) (b := B) w0 (by decide) (by decide)
  obtain ⟨d1, e1, p1, u1, _, g1, o1⟩ := writeD_at (d := newD 2) (i := 1) (b := B) rfl (by rw [hl]; decide) hBl (by decide)
  rw [e1] at r1 w1
  have r2 := dk_read d1 1 w1
  have w2 := readD_wf (i := 1) w1 (by simp only [o1]; decide)
  obtain ⟨d2, b2, e2, hb2, p2, u2, _, g2, o2⟩ := readD_at (d := d1) (i := 1) g1 (by rw [p1, hl]; decide)
  rw [e2] at r2 w2
  have r3 := dk_crash d2 [] w2
  have w3 := crashD_wf (k := []) w2
  obtain ⟨d3, e3, p3, u3, _, g3, o3⟩ := crashD_at d2 []
  rw [e3] at r3 w3
  have r4 := dk_read d3 1 w3
  have hl3 : d3.p.length = 2 := by rw [p3, layD_length, p2, p1, hl]
  have w4 := readD_wf (i := 1) w3 (by rw [o3, o2, o1]; decide)
  obtain ⟨d4, b4, e4, hb4, p4, u4, _, g4, o4⟩ := readD_at (d := d3) (i := 1) g3 (by rw [hl3]; decide)
  rw [e4] at r4 w4
  have r5 := dk_ops d4 w4
  have hb2' : b2 = B := by rw [hb2, u1]; rfl
  have hb4' : b4 = Z192 := by rw [hb4, u3, p3, kept_nil, p2, p1]; exact newD_gx (n := 2) (k := 1) (by decide)
  have hn2 : d2.u.length = 1 := by rw [u2, u1]; rfl
  subst hb2' hb4'
  refine ⟨_, 0, dk_new 2 (by decide) (by decide), _, _, _, _, _, rfl, ⟨by decide, by rw [List.length_replicate]; decide⟩, b2, hB, _, _, _, _, _, _, r1, _, _, _, _, _, _, _, r2, _, _, _, _, _, _, dk_pending d2, _, _, _, _, _, r3, _, _, _, _, _, _, _, r4, rfl, rfl, ?_, ?_, hB0, ?_, rfl, by show ((List.replicate 192 (0 : Int)).length : Int) = 192; rw [List.length_replicate]; rfl, ⟨by decide, by show (0 : Int) < ((List.replicate 192 (0 : Int)).length : Int); rw [List.length_replicate]; decide⟩, rfl, _, _, _, _, _, _, dk_size d4, ?_, _, _, _, _, _, _, r5, ?_⟩
  · show (b2.length : Int) = 192; omega
  · exact ⟨by decide, by show (0 : Int) < (b2.length : Int); omega⟩
  · rw [hn2]; rfl
  · rw [p4, hl3]; rfl
  · rw [o4, o3, o2, o1]; rfl

/-! ### 1. DiskStays -/
end Go.Proofs.Ytjlifbnkdfofhaa
