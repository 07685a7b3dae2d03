/- Disk: laws without a reference, plainly. -/
import Derived.Test.YtjlifbnkdfofhaaPlDk
namespace Go.Proofs.Ytjlifbnkdfofhaa
open Go Go.Kr Go.RowKit
set_option linter.unusedVariables false
set_option linter.unusedSimpArgs false
theorem writeD_ok {d : DS} {i : Int} {b : List Int} (h1 : d.down = false) (h2 : 0 ≤ i ∧ i < (d.p.length : Int)) (h3 : b.length = 192) (h4 : d.left ≠ 0) : writeD d i b = ({ d with u := d.u ++ [(i, b)], ops := d.ops ++ [(2, i)], left := if d.left > 0 then d.left - 1 else d.left }, 0) := by
  unfold writeD
  have e : fitsE d i b = 0 := by
    unfold fitsE
    rw [if_neg (by omega), if_neg (by omega)]
  rw [if_neg (by rw [h1]; decide), if_neg (by rw [e]; exact fun h => h rfl), if_neg h4]
theorem readD_ok {d : DS} {i : Int} (h1 : d.down = false) (h2 : 0 ≤ i ∧ i < (d.p.length : Int)) : readD d i = ({ d with ops := d.ops ++ [(1, i)] }, (lastW d.u i).getD (gx d.p i.toNat), 0) := by
  unfold readD
  rw [if_neg (by rw [h1]; decide), if_neg (by omega)]
theorem flushD_ok {d : DS} (h1 : d.down = false) : flushD d = ({ d with p := layD d.p d.u, u := [], ops := d.ops ++ [(3, 0)] }, 0) := by
  unfold flushD
  rw [if_neg (by rw [h1]; decide)]
theorem newD_len (n : Nat) : (newD n).p.length = n := List.length_replicate ..
theorem newD_gx {n k : Nat} (h : k < n) : gx (newD n).p k = Z192 := by
  rw [gx_lt (by rw [newD_len]; exact h)]
  exact List.getElem_replicate ..
theorem kept_nil (u : List R69) : kept u [] = [] := by cases u <;> rfl
theorem writeD_at {d : DS} {i : Int} {b : List Int} (h1 : d.down = false) (h2 : 0 ≤ i ∧ i < (d.p.length : Int)) (h3 : b.length = 192) (h4 : d.left ≠ 0) : ∃ e, writeD d i b = (e, 0) ∧ e.p = d.p ∧ e.u = d.u ++ [(i, b)] ∧ e.left = (if d.left > 0 then d.left - 1 else d.left) ∧ e.down = false ∧ e.ops = d.ops ++ [(2, i)] :=
  ⟨_, writeD_ok h1 h2 h3 h4, rfl, rfl, rfl, h1, rfl⟩
theorem readD_at {d : DS} {i : Int} (h1 : d.down = false) (h2 : 0 ≤ i ∧ i < (d.p.length : Int)) : ∃ e r, readD d i = (e, r, 0) ∧ r = (lastW d.u i).getD (gx d.p i.toNat) ∧ e.p = d.p ∧ e.u = d.u ∧ e.left = d.left ∧ e.down = false ∧ e.ops = d.ops ++ [(1, i)] :=
  ⟨_, _, readD_ok h1 h2, rfl, rfl, rfl, rfl, h1, rfl⟩
theorem flushD_at {d : DS} (h1 : d.down = false) : ∃ e, flushD d = (e, 0) ∧ e.p = layD d.p d.u ∧ e.u = [] ∧ e.left = d.left ∧ e.down = false ∧ e.ops = d.ops ++ [(3, 0)] :=
  ⟨_, flushD_ok h1, rfl, rfl, rfl, h1, rfl⟩
theorem crashD_at (d : DS) (k : List Bool) : ∃ e, crashD d k = e ∧ e.p = layD d.p (kept d.u k) ∧ e.u = [] ∧ e.left = -1 ∧ e.down = false ∧ e.ops = d.ops := ⟨_, rfl, rfl, rfl, rfl, rfl, rfl⟩
theorem dk_awake : reliquarylaw06_awake.rel := by
  obtain ⟨B, hB⟩ : ∃ B, B = List.set (List.replicate 192 (0 : Int)) 0 7 := ⟨_, rfl⟩
  have hBl : B.length = 192 := by rw [hB, List.length_set]; exact List.length_replicate ..
  have hB0 : gn B 0 = 7 := by rw [hB]; rfl
  have w0 := newD_wf 2 (by decide)
  have hl := newD_len 2
  have r1 := dk_write (newD 2) 1 B w0
  have w1 := writeD_wf (i := 1) (b := B) w0 (by decide) (by decide)
  obtain ⟨d1, e1, p1, u1, _, g1, o1⟩ := writeD_at (d := newD 2) (i := 1) (b := B) rfl (by rw [hl]; decide) hBl (by decide)
  rw [e1] at r1 w1
  have r2 := dk_read d1 1 w1
  have w2 := readD_wf (i := 1) w1 (by simp only [o1]; decide)
  obtain ⟨d2, b2, e2, hb2, p2, u2, _, g2, o2⟩ := readD_at (d := d1) (i := 1) g1 (by rw [p1, hl]; decide)
  rw [e2] at r2 w2
  have r3 := dk_crash d2 [] w2
  have w3 := crashD_wf (k := []) w2
  obtain ⟨d3, e3, p3, u3, _, g3, o3⟩ := crashD_at d2 []
  rw [e3] at r3 w3
  have r4 := dk_read d3 1 w3
  have hl3 : d3.p.length = 2 := by rw [p3, layD_length, p2, p1, hl]
  have w4 := readD_wf (i := 1) w3 (by rw [o3, o2, o1]; decide)
  obtain ⟨d4, b4, e4, hb4, p4, u4, _, g4, o4⟩ := readD_at (d := d3) (i := 1) g3 (by rw [hl3]; decide)
  rw [e4] at r4 w4
  have r5 := dk_ops d4 w4
  have hb2' : b2 = B := by rw [hb2, u1]; rfl
  have hb4' : b4 = Z192 := by rw [hb4, u3, p3, kept_nil, p2, p1]; exact newD_gx (n := 2) (k := 1) (by decide)
  have hn2 : d2.u.length = 1 := by rw [u2, u1]; rfl
  subst hb2' hb4'
  refine ⟨_, 0, dk_new 2 (by decide) (by decide), _, _, _, _, _, rfl, ⟨by decide, by rw [List.length_replicate]; decide⟩, b2, hB, _, _, _, _, _, _, r1, _, _, _, _, _, _, _, r2, _, _, _, _, _, _, dk_pending d2, _, _, _, _, _, r3, _, _, _, _, _, _, _, r4, rfl, rfl, ?_, ?_, hB0, ?_, rfl, by show ((List.replicate 192 (0 : Int)).length : Int) = 192; rw [List.length_replicate]; rfl, ⟨by decide, by show (0 : Int) < ((List.replicate 192 (0 : Int)).length : Int); rw [List.length_replicate]; decide⟩, rfl, _, _, _, _, _, _, dk_size d4, ?_, _, _, _, _, _, _, r5, ?_⟩
  · show (b2.length : Int) = 192; omega
  · exact ⟨by decide, by show (0 : Int) < (b2.length : Int); omega⟩
  · rw [hn2]; rfl
  · rw [p4, hl3]; rfl
  · rw [o4, o3, o2, o1]; rfl

/-! ### 1. DiskStays -/
theorem diskStays_pure (a0 a1 : Int) (a2 a3 : Bool) (h0 : 0 ≤ a0 ∧ a0 < 256) (h1 : 0 ≤ a1 ∧ a1 < 256) : reliquarylaw06_DiskStays.rel a0 a1 a2 a3 := by
  have hz : ∀ a : Int, (List.set (List.replicate 192 (0 : Int)) 5 a).length = 192 := fun a => by rw [List.length_set]; exact List.length_replicate ..
  have hg : ∀ a : Int, gn (List.set (List.replicate 192 (0 : Int)) 5 a) 5 = a := fun a => by rfl
  obtain ⟨X, hX⟩ : ∃ X, X = List.set (List.replicate 192 (0 : Int)) 5 a0 := ⟨_, rfl⟩
  obtain ⟨Y, hY⟩ : ∃ Y, Y = List.set (List.replicate 192 (0 : Int)) 5 a1 := ⟨_, rfl⟩
  have hXl : X.length = 192 := by rw [hX]; exact hz a0
  have hYl : Y.length = 192 := by rw [hY]; exact hz a1
  have hX5 : gn X 5 = a0 := by rw [hX]; exact hg a0
  have hY5 : gn Y 5 = a1 := by rw [hY]; exact hg a1
  have w0 := newD_wf 1 (by decide)
  have hl := newD_len 1
  have r1 := dk_write (newD 1) 0 X w0
  have w1 := writeD_wf (i := 0) (b := X) w0 (by decide) (by decide)
  obtain ⟨d1, e1, p1, u1, l1, g1, o1⟩ := writeD_at (d := newD 1) (i := 0) (b := X) rfl (by rw [hl]; decide) hXl (by decide)
  rw [e1] at r1 w1
  have r2 := dk_flush d1 w1
  have w2 := flushD_wf w1 (by simp only [o1]; decide)
  obtain ⟨d2, e2, p2, u2, l2, g2, o2⟩ := flushD_at (d := d1) g1
  rw [e2] at r2 w2
  have hl2 : d2.p.length = 1 := by rw [p2, layD_length, p1, hl]
  have r3 := dk_write d2 0 Y w2
  have w3 := writeD_wf (i := 0) (b := Y) w2 (by rw [u2]; decide) (by rw [o2, o1]; decide)
  obtain ⟨d3, e3, p3, u3, l3, g3, o3⟩ := writeD_at (d := d2) (i := 0) (b := Y) g2 (by rw [hl2]; decide) hYl (by rw [l2, l1]; decide)
  rw [e3] at r3 w3
  refine ⟨dk_awake, _, 0, dk_new 1 (by decide) (by decide), _, _, _, _, _, rfl, ⟨by decide, by rw [List.length_replicate]; decide⟩, X, hX, ⟨by decide, by rw [List.length_replicate]; decide⟩, Y, hY, _, _, _, _, _, _, r1, _, _, _, _, _, _, r2, _, _, _, _, _, _, r3, ?_⟩
  have fin : ∀ (d : DS) (r : List Int), d.Wf → d.down = false → d.u = [] → d.p.length = 1 → d.ops.length < 1000 → gx d.p 0 = r → r.length = 192 → ∃ (l_158_0 : List R22) (l_158_1 : List R69) (a_162_2 : Int) (a_162_3 : Bool) (l_158_4 : List R71) (l_167 : List Int) (a_171 : Int), disk_Disk_Read.rel d.p d.u d.left d.down d.ops 0 l_158_0 l_158_1 a_162_2 a_162_3 l_158_4 l_167 a_171 ∧ a_171 = 0 ∧ l_167 = r := fun d r h1 h2 h3 h4 h5 h6 h7 => by
    have q := dk_read d 0 h1
    obtain ⟨e, b, e1, hb, _⟩ := readD_at (d := d) (i := 0) h2 (by rw [h4]; decide)
    rw [e1] at q
    exact ⟨_, _, _, _, _, _, _, q, rfl, by rw [hb, h3]; exact h6⟩
  cases a2
  · refine .inr ⟨by decide, ?_⟩
    have r4 := dk_crash d3 [a3] w3
    have w4 := crashD_wf (k := [a3]) w3
    obtain ⟨d4, e4, p4, u4, l4, g4, o4⟩ := crashD_at d3 [a3]
    rw [e4] at r4 w4
    have hp4 : d4.p.length = 1 := by rw [p4, layD_length, p3, hl2]
    have ho4 : d4.ops.length < 1000 := by rw [o4, o3, o2, o1]; decide
    cases a3
    · obtain ⟨z0, z1, z2, z3, z4, z5, z6, q, rfl, rfl⟩ := fin d4 X w4 g4 u4 hp4 ho4 (by rw [p4, u3, u2, p3, p2, u1, p1]; rfl) hXl
      exact ⟨_, _, _, _, _, r4, _, _, _, _, _, _, _, q, .inr ⟨by decide, rfl, rfl, rfl, rfl, ⟨by decide, by omega⟩, hX5⟩⟩
    · obtain ⟨z0, z1, z2, z3, z4, z5, z6, q, rfl, rfl⟩ := fin d4 Y w4 g4 u4 hp4 ho4 (by rw [p4, u3, u2, p3, p2, u1, p1]; rfl) hYl
      exact ⟨_, _, _, _, _, r4, _, _, _, _, _, _, _, q, .inl ⟨rfl, rfl, rfl, rfl, rfl, ⟨by decide, by omega⟩, hY5⟩⟩
  · refine .inl ⟨rfl, ?_⟩
    have r4 := dk_flush d3 w3
    have w4 := flushD_wf w3 (by rw [o3, o2, o1]; decide)
    obtain ⟨d4, e4, p4, u4, l4, g4, o4⟩ := flushD_at (d := d3) g3
    rw [e4] at r4 w4
    have r5 := dk_crash d4 [a3] w4
    have w5 := crashD_wf (k := [a3]) w4
    obtain ⟨d5, e5, p5, u5, l5, g5, o5⟩ := crashD_at d4 [a3]
    rw [e5] at r5 w5
    obtain ⟨z0, z1, z2, z3, z4, z5, z6, q, rfl, rfl⟩ := fin d5 Y w5 g5 u5 (by rw [p5, layD_length, p4, layD_length, p3, hl2]) (by rw [o5, o4, o3, o2, o1]; decide) (by rw [p5, u4, p4, u3, u2, p3, p2, u1, p1]; cases a3 <;> rfl) hYl
    exact ⟨_, _, _, _, _, _, r4, _, _, _, _, _, r5, _, _, _, _, _, _, _, q, rfl, rfl, rfl, rfl, ⟨by decide, by omega⟩, hY5⟩

/-! ### 2. DiskStops -/
theorem stops_L1 (a0 : Int) (b : List Int) (hb : b.length = 192) (n : Nat) (hn : IntKind.i64.wrap (Int.tmod a0 20) = (n : Int)) (hn2 : n < 20) : ∀ (k f i : Nat) (d : DS), i + k = n → k < f → d.Wf → d.down = false → d.left = (k : Int) → d.p.length = 2 → d.u.length = i → d.ops.length = i →
    reliquarylaw06_DiskStops.L1 a0 b f d.p d.u d.ops d.left d.down false i := by
  intro k
  induction k with
  | zero =>
    intro f i d h1 h2 hw hd hl hp hu ho
    obtain ⟨f, rfl⟩ : ∃ m, f = m + 1 := ⟨f - 1, by omega⟩
    have r1 := dk_write d 0 b hw
    have e1 : writeD d 0 b = ({ d with down := true }, 13) := by
      unfold writeD
      have e : fitsE d 0 b = 0 := by
        unfold fitsE
        rw [if_neg (by omega), if_neg (by omega)]
      rw [if_neg (by rw [hd]; decide), if_neg (by rw [e]; exact fun h => h rfl), if_pos (show d.left = 0 from hl)]
    have w1 : DS.Wf { d with down := true } := ⟨hw.rows, hw.way, hw.few, hw.num⟩
    rw [e1] at r1
    have r2 := dk_read { d with down := true } 0 w1
    have e2 : readD { d with down := true } 0 = ({ d with down := true }, [], 13) := by unfold readD; rw [if_pos rfl]
    rw [e2] at r2
    have r3 := dk_flush { d with down := true } w1
    have e3 : flushD { d with down := true } = ({ d with down := true }, 13) := by unfold flushD; rw [if_pos rfl]
    rw [e3] at r3
    have r4 := dk_crash { d with down := true } [] w1
    have w4 := crashD_wf (k := []) w1
    have hp4 : (crashD { d with down := true } []).p.length = 2 := by simp only [crashD, layD_length]; exact hp
    have r5 := dk_read _ 0 w4
    have w5 := readD_wf (i := 0) w4 (by simp only [crashD]; omega)
    rw [readD_ok rfl (by rw [hp4]; decide)] at r5 w5
    have r6 := dk_write _ 1 b w5
    rw [writeD_ok rfl (by simp only [hp4]; decide) hb (by simp [crashD])] at r6
    exact .inr ⟨by rw [hn]; omega, _, _, _, _, _, _, r1, _, _, _, _, _, _, _, r2, _, _, _, _, _, _, r3, _, _, _, _, _, r4, _, _, _, _, _, _, _, r5, [], 1, ⟨rfl, rfl⟩, trivial, trivial, rfl, rfl, rfl, rfl, _, _, _, _, _, _, r6, rfl, rfl, 1, rfl, rfl, 1, rfl, rfl, 1, rfl, rfl, 1, rfl, rfl, 0, rfl, 0, rfl, [], rfl, _, rfl, [], rfl, rfl⟩
  | succ k ih =>
    intro f i d h1 h2 hw hd hl hp hu ho
    obtain ⟨f, rfl⟩ : ∃ m, f = m + 1 := ⟨f - 1, by omega⟩
    have ht : 0 ≤ Int.tmod (i : Int) 2 ∧ Int.tmod (i : Int) 2 < 2 := by
      obtain ⟨t, e, ht⟩ := tmod_nat (a := (i : Int)) (by omega) 2 (by decide)
      rw [show Int.tmod (i : Int) 2 = (t : Int) from e]; omega
    have r1 := dk_write d (Int.tmod (i : Int) 2) b hw
    have w1 := writeD_wf (i := Int.tmod (i : Int) 2) (b := b) hw (by omega) (by omega)
    rw [writeD_ok hd (by omega) hb (by omega)] at r1 w1
    refine .inl ⟨by rw [hn]; omega, _, _, _, _, _, _, r1, fun h => h rfl, ?_⟩
    rw [show IntKind.i64.wrap ((i : Int) + 1) = ((i + 1 : Nat) : Int) by rw [w64 (by omega) (by omega)]; omega]
    have := ih f (i + 1) { d with u := d.u ++ [(Int.tmod (i : Int) 2, b)], ops := d.ops ++ [(2, Int.tmod (i : Int) 2)], left := if d.left > 0 then d.left - 1 else d.left } (by omega) (by omega) w1 hd (by simp only; rw [if_pos (by omega)]; omega) hp (by simp [hu]) (by simp [ho])
    exact this
theorem diskStops_pure (a0 : Int) (l1 : List Int) (h0 : 0 ≤ a0 ∧ a0 < 256) (h1 : Byt l1) : reliquarylaw06_DiskStops.rel a0 l1 := by
  obtain ⟨n, e1, hn⟩ := tmod_nat h0.1 20 (by decide)
  have hn' : IntKind.i64.wrap (Int.tmod a0 20) = (n : Int) := by rw [show Int.tmod a0 20 = (n : Int) from e1]; exact w64 (by omega) (by omega)
  have w0 := newD_wf 2 (by decide)
  have w1 : (stopD (newD 2) (n : Int)).Wf := ⟨w0.rows, w0.way, w0.few, by simp only [stopD, maxI]; split <;> omega⟩
  refine ⟨dk_awake, _, 0, dk_new 2 (by decide) (by decide), _, _, _, _, _, rfl, fullD l1 false, dk_full 0 0 l1 [] false, _, _, _, _, _, dk_stop (newD 2) _, n + 1, ?_⟩
  rw [hn']
  exact stops_L1 a0 (fullD l1 false) (fullF_length _ _) n hn' hn n (n + 1) 0 (stopD (newD 2) (n : Int)) (by omega) (by omega) w1 rfl (by simp only [stopD, maxI]; rw [if_neg (by omega)]) (newD_len 2) rfl rfl

/-! ### 3. DiskSome -/
theorem and3 {x : Int} (h : 0 ≤ x ∧ x < 256) : 0 ≤ bits .and .u8 x 3 ∧ bits .and .u8 x 3 < 4 := by
  obtain ⟨n, rfl⟩ := Int.eq_ofNat_of_zero_le h.1
  have key : ∀ n : Fin 256, 0 ≤ bits .and .u8 (n.val : Int) 3 ∧ bits .and .u8 (n.val : Int) 3 < 4 := by decide +kernel
  exact key ⟨n, by omega⟩
theorem some_L2 (m : List Int) (hm : m.length = 4) : ∀ (k f i : Nat) (d : DS), i + k = 4 → k < f → d.Wf → d.down = false → d.u = [] → d.p.length = 4 → d.ops.length ≤ 100 + i → (∀ j, j < 4 → gn m j = gn (gx d.p j) 0) →
    reliquarylaw06_DiskSome.L2 m f d.p d.u d.ops d.left d.down false i := by
  intro k
  induction k with
  | zero =>
    intro f i d h1 h2 hw hd hu hp ho hg
    obtain ⟨f, rfl⟩ : ∃ m, f = m + 1 := ⟨f - 1, by omega⟩
    refine .inr ⟨by omega, _, _, _, _, _, _, dk_pending d, ?_⟩
    rw [hu]; rfl
  | succ k ih =>
    intro f i d h1 h2 hw hd hu hp ho hg
    obtain ⟨f, rfl⟩ : ∃ m, f = m + 1 := ⟨f - 1, by omega⟩
    have r1 := dk_read d i hw
    have w1 := readD_wf (i := (i : Int)) hw (by omega)
    rw [readD_ok hd (by omega)] at r1 w1
    have er : (lastW d.u (i : Int)).getD (gx d.p (i : Int).toNat) = gx d.p i := by rw [hu, Int.toNat_natCast]; rfl
    rw [er] at r1
    have hl := hw.rows _ (gx_mem (l := d.p) (i := i) (by omega))
    refine .inl ⟨by omega, _, _, _, _, _, _, _, r1, fun h => h rfl, ⟨by decide, by show (0 : Int) < ((gx d.p i).length : Int); omega⟩, ⟨by omega, by omega⟩, ?_, ?_⟩
    · rw [Int.toNat_natCast, hg i (by omega)]; exact fun h => h rfl
    · rw [show IntKind.i64.wrap ((i : Int) + 1) = ((i + 1 : Nat) : Int) by rw [w64 (by omega) (by omega)]; omega]
      exact ih f (i + 1) { d with ops := d.ops ++ [(1, (i : Int))] } (by omega) (by omega) w1 hd hu hp (by simp; omega) hg
theorem kept_snoc (u : List R69) (x : R69) (k : List Bool) : kept (u ++ [x]) k = kept u k ++ (if u.length < k.length ∧ gb k u.length = true then [x] else []) := by
  have h := kept_take (u ++ [x]) k u.length (by simp)
  rw [List.take_of_length_le (by simp), List.take_left' rfl, gx_app_ge (Nat.le_refl _) (by simp), Nat.sub_self] at h
  exact h
theorem some_L1 (l0 : List Int) (kp : List Bool) (hl : l0.length ≤ 40) (hb : Byt l0) : ∀ (k f i : Nat) (m : List Int) (d : DS), i + k = l0.length → k < f → d.Wf → d.down = false → d.left = -1 → d.p = (newD 4).p → d.u.length = i → d.ops.length = i → m.length = 4 →
    (∀ j, j < 4 → gn m j = gn (gx (layD d.p (kept d.u kp)) j) 0) → reliquarylaw06_DiskSome.L1 l0 kp f m d.p d.u d.ops d.left d.down false i := by
  intro k
  induction k with
  | zero =>
    intro f i m d h1 h2 hw hd hlf hp hu ho hm hg
    obtain ⟨f, rfl⟩ : ∃ m, f = m + 1 := ⟨f - 1, by omega⟩
    have hpl : d.p.length = 4 := by rw [hp]; exact newD_len 4
    refine .inr ⟨by omega, _, _, _, _, _, _, dk_pending d, by omega, _, _, _, _, _, dk_crash d kp hw, 5, ?_⟩
    exact some_L2 m hm 4 5 0 (crashD d kp) (by omega) (by omega) (crashD_wf hw) rfl rfl (by simp only [crashD, layD_length]; exact hpl) (by simp only [crashD]; omega) hg
  | succ k ih =>
    intro f i m d h1 h2 hw hd hlf hp hu ho hm hg
    obtain ⟨f, rfl⟩ : ∃ m, f = m + 1 := ⟨f - 1, by omega⟩
    have hpl : d.p.length = 4 := by rw [hp]; exact newD_len 4
    have ha := and3 (hb.gn i)
    have es : IntKind.i64.wrap (bits .and .u8 (gn l0 i) 3) = bits .and .u8 (gn l0 i) 3 := w64 (by omega) (by omega)
    have ew : IntKind.i64.wrap ((i : Int) + 1) = ((i + 1 : Nat) : Int) := by rw [w64 (by omega) (by omega)]; omega
    have e8 : IntKind.u8.wrap ((i + 1 : Nat) : Int) = ((i + 1 : Nat) : Int) := wu8 (by omega) (by omega)
    obtain ⟨s, hs⟩ : ∃ s, s = bits .and .u8 (gn l0 i) 3 := ⟨_, rfl⟩
    obtain ⟨F, hF⟩ : ∃ F, F = fullD [((i + 1 : Nat) : Int)] false := ⟨_, rfl⟩
    have hFl : F.length = 192 := by rw [hF]; exact fullF_length _ _
    have hF0 : gn F 0 = ((i + 1 : Nat) : Int) := by rw [hF]; rfl
    have r1 := dk_write d s F hw
    have w1 := writeD_wf (i := s) (b := F) hw (by omega) (by omega)
    rw [writeD_ok hd (by rw [hs, hpl]; omega) hFl (by omega)] at r1 w1
    have eleft : (if d.left > 0 then d.left - 1 else d.left) = -1 := by rw [if_neg (by omega)]; exact hlf
    refine .inl ⟨by omega, ⟨by omega, by omega⟩, ?_⟩
    rw [Int.toNat_natCast, ew, e8, es, ← hs]
    refine ⟨F, by rw [hF]; exact dk_full _ _ _ _ _, _, _, _, _, _, _, r1, fun h => h rfl, ?_⟩
    have hk := kept_snoc d.u (s, F) kp
    rw [hu] at hk
    have hlk : (layD d.p (kept d.u kp)).length = 4 := by rw [layD_length]; exact hpl
    have next : ∀ m' : List Int, m'.length = 4 → (∀ j, j < 4 → gn m' j = gn (gx (layD d.p (kept (d.u ++ [(s, F)]) kp)) j) 0) →
        reliquarylaw06_DiskSome.L1 l0 kp f m' d.p (d.u ++ [(s, F)]) (d.ops ++ [(2, s)]) (if d.left > 0 then d.left - 1 else d.left) d.down false ((i + 1 : Nat) : Int) := fun m' h3 h4 =>
      ih f (i + 1) m' { d with u := d.u ++ [(s, F)], ops := d.ops ++ [(2, s)], left := if d.left > 0 then d.left - 1 else d.left } (by omega) (by omega) w1 hd eleft hp (by simp [hu]) (by simp [ho]) h3 h4
    by_cases h3 : i < kp.length
    · refine .inl ⟨by omega, ⟨by omega, by omega⟩, ?_⟩
      by_cases h4 : gb kp i = true
      · refine .inl ⟨h4, ⟨by omega, by omega⟩, _, rfl, next _ (by simp [hm]) fun j hj => ?_⟩
        rw [hk, if_pos ⟨h3, h4⟩, layD_append, gx_set (by rw [hlk]; simp only; omega), gn_set (by omega)]
        simp only
        by_cases e : j = s.toNat
        · rw [if_pos e, if_pos e, hF0]
        · rw [if_neg e, if_neg e]; exact hg j hj
      · refine .inr ⟨h4, next m hm fun j hj => ?_⟩
        rw [hk, if_neg (by rintro ⟨_, h⟩; exact h4 h), List.append_nil]
        exact hg j hj
    · refine .inr ⟨by omega, next m hm fun j hj => ?_⟩
      rw [hk, if_neg (by rintro ⟨h, _⟩; exact h3 h), List.append_nil]
      exact hg j hj
theorem diskSome_pure (l0 : List Int) (l1 : List Bool) (hb : Byt l0) : reliquarylaw06_DiskSome.rel l0 l1 := by
  refine ⟨dk_awake, ?_⟩
  by_cases h : (l0.length : Int) > 40
  · exact .inl ⟨h, trivial⟩
  · refine .inr ⟨h, _, 0, dk_new 4 (by decide) (by decide), _, _, _, _, _, rfl, l0.length + 1, ?_⟩
    have := some_L1 l0 l1 (by omega) hb l0.length (l0.length + 1) 0 (List.replicate 4 (0 : Int)) (newD 4) (by omega) (by omega) (newD_wf 4 (by decide)) rfl rfl rfl rfl rfl rfl (fun j hj => by
      rw [show (newD 4).u = [] from rfl, show kept [] l1 = [] from by cases l1 <;> rfl]
      show _ = gn (gx (newD 4).p j) 0
      rw [newD_gx hj]
      match j, hj with
      | 0, _ => rfl
      | 1, _ => rfl
      | 2, _ => rfl
      | 3, _ => rfl
      | j + 4, h => omega)
    exact this
end Go.Proofs.Ytjlifbnkdfofhaa
