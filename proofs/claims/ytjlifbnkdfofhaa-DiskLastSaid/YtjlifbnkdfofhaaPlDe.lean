/- Disk: the last one that was written is read; what is told is in memory of its own: plainly. -/
import Derived.Test.YtjlifbnkdfofhaaPlDa
namespace Go.Proofs.Ytjlifbnkdfofhaa
open Go Go.Kr Go.RowKit
set_option linter.unusedVariables false
set_option linter.unusedSimpArgs false
theorem dk_image_L1' (d : DS) (h : d.Wf) : ∀ (k f i : Nat), i + k = d.p.length → k < f → disk_Disk_Image.L1 d.p d.u d.left d.down d.ops d.p d.u d.left d.down d.ops d.p f (d.p.take i) i := by
  have hf := h.few
  intro k
  induction k with
  | zero =>
    intro f i h1 h2
    obtain ⟨f, rfl⟩ : ∃ m, f = m + 1 := ⟨f - 1, by omega⟩
    refine .inr ⟨by omega, rfl, rfl, rfl, rfl, rfl, ?_⟩
    rw [List.take_of_length_le (by omega)]
  | succ k ih =>
    intro f i h1 h2
    obtain ⟨f, rfl⟩ : ∃ m, f = m + 1 := ⟨f - 1, by omega⟩
    have hr := h.rows _ (gx_mem (l := d.p) (i := i) (by omega))
    have ih' := ih f (i + 1) (by omega) (by omega)
    rw [List.take_succ_eq_append_getElem (by omega), ← gx_lt (by omega)] at ih'
    refine .inl ⟨by omega, ⟨by omega, by omega⟩, gx d.p i, ?_, _, rfl, by simp; omega, ?_⟩
    · rw [Int.toNat_natCast]; exact dk_clone _ (by omega)
    · rw [show IntKind.i64.wrap ((i : Int) + 1) = ((i + 1 : Nat) : Int) by rw [w64 (by omega) (by omega)]; omega]
      exact ih'
theorem dk_image' (d : DS) (h : d.Wf) : disk_Disk_Image.rel d.p d.u d.left d.down d.ops d.p d.u d.left d.down d.ops d.p := ⟨d.p.length + 1, dk_image_L1' d h d.p.length _ 0 (by omega) (by omega)⟩
def ReadsTo (d : DS) (i : Int) (e : DS) (r : List Int) : Prop := disk_Disk_Read.rel d.p d.u d.left d.down d.ops i e.p e.u e.left e.down e.ops r 0
theorem last_facts (d : DS) (hw : d.Wf) (hd : d.down = false) (hp : d.p.length = 3) (ho : d.ops.length ≤ 100) (q : List Int) (h1 : (lastW d.u 1).getD (gx d.p 1) = q) (h2 : (lastW d.u 2).getD (gx d.p 2) = Z192) :
    ∃ d1 d2 d3 d4 : DS, ReadsTo d 1 d1 q ∧ ReadsTo d1 1 d2 q ∧ ReadsTo d2 2 d3 Z192 ∧ disk_Disk_Image.rel d3.p d3.u d3.left d3.down d3.ops d3.p d3.u d3.left d3.down d3.ops d3.p ∧ ReadsTo d3 2 d4 Z192 ∧ d3.p.length = 3 ∧ (gx d3.p 2).length = 192 := by
  have r1 := dk_read d 1 hw
  have w1 := readD_wf (i := 1) hw (by omega)
  obtain ⟨d1, b1, e1, hb1, p1, u1, _, g1, o1⟩ := readD_at (d := d) (i := 1) hd (by rw [hp]; decide)
  rw [e1] at r1 w1
  have l1 : d1.ops.length ≤ 101 := by rw [o1]; simp; omega
  have r2 := dk_read d1 1 w1
  have w2 := readD_wf (i := 1) w1 (by simp only; omega)
  obtain ⟨d2, b2, e2, hb2, p2, u2, _, g2, o2⟩ := readD_at (d := d1) (i := 1) g1 (by rw [p1, hp]; decide)
  rw [e2] at r2 w2
  have l2 : d2.ops.length ≤ 102 := by rw [o2]; simp; omega
  have r3 := dk_read d2 2 w2
  have w3 := readD_wf (i := 2) w2 (by simp only; omega)
  obtain ⟨d3, b3, e3, hb3, p3, u3, _, g3, o3⟩ := readD_at (d := d2) (i := 2) g2 (by rw [p2, p1, hp]; decide)
  rw [e3] at r3 w3
  have l3 : d3.ops.length ≤ 103 := by rw [o3]; simp; omega
  have r4 := dk_read d3 2 w3
  obtain ⟨d4, b4, e4, hb4, p4, u4, _, g4, o4⟩ := readD_at (d := d3) (i := 2) g3 (by rw [p3, p2, p1, hp]; decide)
  rw [e4] at r4
  have k1 : b1 = q := hb1.trans h1
  have k2 : b2 = q := by rw [hb2, u1, p1]; exact h1
  have k3 : b3 = Z192 := by rw [hb3, u2, u1, p2, p1]; exact h2
  have k4 : b4 = Z192 := by rw [hb4, u3, u2, u1, p3, p2, p1]; exact h2
  have hp3 : d3.p.length = 3 := by rw [p3, p2, p1, hp]
  subst k1 k3
  rw [k2] at r2
  rw [k4] at r4
  exact ⟨d1, d2, d3, d4, r1, r2, r3, dk_image' d3 w3, r4, hp3, w3.rows _ (gx_mem (by show 2 < d3.p.length; omega))⟩
theorem diskLast_pure (a0 a1 : Int) (a2 : Bool) (a3 : Int) (h0 : 0 ≤ a0 ∧ a0 < 256) (h1 : 0 ≤ a1 ∧ a1 < 256) (h3 : 0 ≤ a3 ∧ a3 < 256) : reliquarylaw06_DiskLast.rel a0 a1 a2 a3 := by
  obtain ⟨p, hp⟩ : ∃ p, p = fullD [a0] false := ⟨_, rfl⟩
  obtain ⟨q, hq⟩ : ∃ q, q = fullD [a1] false := ⟨_, rfl⟩
  have hpl : p.length = 192 := by rw [hp]; exact fullF_length _ _
  have hql : q.length = 192 := by rw [hq]; exact fullF_length _ _
  have hq0 : gn q 0 = a1 := by rw [hq]; rfl
  have f0 := dk_full 0 0 [a0] [] false
  have f1 := dk_full 0 0 [a1] [] false
  rw [← hp] at f0
  rw [← hq] at f1
  have hn := newD_len 3
  have w0 := newD_wf 3 (by decide)
  have r1 := dk_write (newD 3) 1 p w0
  have w1 := writeD_wf (i := 1) (b := p) w0 (by decide) (by decide)
  obtain ⟨d1, e1, p1, u1, q1, g1, o1⟩ := writeD_at (d := newD 3) (i := 1) (b := p) rfl (by rw [hn]; decide) hpl (by decide)
  rw [e1] at r1 w1
  have q1' : d1.left = -1 := q1
  have hd1u : d1.u.length = 1 := by rw [u1]; rfl
  have hd1o : d1.ops.length = 1 := by rw [o1]; rfl
  have r2 := dk_write d1 1 q w1
  have w2 := writeD_wf (i := 1) (b := q) w1 (by show d1.u.length < 1000000; omega) (by show d1.ops.length < 1000000; omega)
  obtain ⟨d2, e2, p2, u2, q2, g2, o2⟩ := writeD_at (d := d1) (i := 1) (b := q) g1 (by rw [p1, hn]; decide) hql (by omega)
  rw [e2] at r2 w2
  have hu : d2.u = [(1, p), (1, q)] := by rw [u2, u1]; rfl
  have hpp : d2.p = (newD 3).p := by rw [p2, p1]
  have hoo : d2.ops.length = 2 := by rw [o2, o1]; rfl
  have hz : Z192.length = 192 := List.length_replicate ..
  have hz0 : gn Z192 0 = 0 := rfl
  have L1 : lastW d2.u 1 = some q := by rw [hu]; rfl
  have L2 : lastW d2.u 2 = none := by rw [hu]; rfl
  have bnd : (0 ≤ (0 : Int) ∧ (0 : Int) < (q.length : Int)) := ⟨by decide, by omega⟩
  have bz : (0 ≤ (0 : Int) ∧ (0 : Int) < (Z192.length : Int)) := ⟨by decide, by omega⟩
  refine ⟨dk_awake, _, 0, dk_new 3 (by decide) (by decide), _, _, _, _, _, rfl, p, f0, q, f1, _, _, _, _, _, _, r1, _, _, _, _, _, _, r2, ?_⟩
  cases a2 with
  | true =>
    have r3 := dk_flush d2 w2
    have w3 := flushD_wf w2 (by show d2.ops.length < 1000000; omega)
    obtain ⟨d3, e3, p3, u3, q3, g3, o3⟩ := flushD_at (d := d2) g2
    rw [e3] at r3 w3
    have hx : ∀ k : Nat, gx d3.p k = (lastW d2.u k).getD (gx d2.p k) := fun k => by
      rw [p3]
      exact gx_layD d2.p k d2.u fun x hx => ⟨(w2.way x hx).1, (w2.way x hx).2.1⟩
    obtain ⟨s1, s2, s3, s4, t1, t2, t3, t4, t5, t6, t7⟩ := last_facts d3 w3 g3 (by rw [p3, layD_length, hpp]; exact hn) (by rw [o3]; simp; omega) q
      (by rw [u3]; show gx d3.p 1 = q; rw [hx 1]; show (lastW d2.u 1).getD _ = q; rw [L1]; rfl) (by rw [u3]; show gx d3.p 2 = Z192; rw [hx 2]; show (lastW d2.u 2).getD _ = _; rw [L2, hpp]; exact newD_gx (by decide))
    exact .inl ⟨rfl, _, _, _, _, _, _, r3, bnd, bnd, _, rfl, _, _, _, _, _, _, _, t1, fun h => h rfl, by omega, bnd, fun h => h hq0, bnd, bnd, _, rfl, _, _, _, _, _, _, _, t2, _, _, _, _, _, _, _, t3, _, _, _, _, _, _, t4, by omega, ⟨by decide, by omega⟩, ⟨by decide, by omega⟩, ⟨by decide, by omega⟩, _, rfl, _, _, _, _, _, _, _, t5, rfl, rfl, rfl, bnd, hq0, rfl, bz, hz0, rfl, bz, hz0⟩
  | false =>
    obtain ⟨s1, s2, s3, s4, t1, t2, t3, t4, t5, t6, t7⟩ := last_facts d2 w2 g2 (by rw [hpp]; exact hn) (by omega) q (by rw [L1]; rfl) (by rw [L2, hpp]; exact newD_gx (by decide))
    exact .inr ⟨by decide, bnd, bnd, _, rfl, _, _, _, _, _, _, _, t1, fun h => h rfl, by omega, bnd, fun h => h hq0, bnd, bnd, _, rfl, _, _, _, _, _, _, _, t2, _, _, _, _, _, _, _, t3, _, _, _, _, _, _, t4, by omega, ⟨by decide, by omega⟩, ⟨by decide, by omega⟩, ⟨by decide, by omega⟩, _, rfl, _, _, _, _, _, _, _, t5, rfl, rfl, rfl, bnd, hq0, rfl, bz, hz0, rfl, bz, hz0⟩
end Go.Proofs.Ytjlifbnkdfofhaa
