/- The statements of layer 18, as plain propositions: each holds. -/
import Derived.Test.YtkfkkbblmnnblaaPlA
import Derived.Test.YtkfkkbblmnnblaaGbm1
namespace Go.Proofs.Ytkfkkbblmnnblaa
open Go Go.Kr Go.RowKit
set_option linter.unusedVariables false
set_option linter.unusedSimpArgs false

/-! ### Bits -/
def bit (l : List Int) (i : Nat) : Bool := (gn l (i / 8)).toNat.testBit (i % 8)
/-- How many of m numbers from a on. -/
def pcf (f : Nat → Bool) (a : Nat) : Nat → Nat
  | 0 => 0
  | m + 1 => pcf f a m + if f (a + m) then 1 else 0
theorem pcf_add (f : Nat → Bool) (a m n : Nat) : pcf f a (m + n) = pcf f a m + pcf f (a + m) n := by
  induction n with
  | zero => rfl
  | succ n ih => rw [← Nat.add_assoc, pcf, ih, pcf, Nat.add_assoc a m n]; omega
theorem pcf_congr {f g : Nat → Bool} {a b n : Nat} (h : ∀ j, j < n → f (a + j) = g (b + j)) : pcf f a n = pcf g b n := by
  induction n with
  | zero => rfl
  | succ n ih => rw [pcf, pcf, ih fun j hj => h j (by omega), h n (by omega)]
theorem pcf_none {f : Nat → Bool} {a n : Nat} (h : ∀ j, j < n → f (a + j) = false) : pcf f a n = 0 := by
  induction n with
  | zero => rfl
  | succ n ih => rw [pcf, ih fun j hj => h j (by omega), h n (by omega)]; rfl
theorem pcf_all {f : Nat → Bool} {a n : Nat} (h : ∀ j, j < n → f (a + j) = true) : pcf f a n = n := by
  induction n with
  | zero => rfl
  | succ n ih => rw [pcf, ih fun j hj => h j (by omega), h n (by omega)]; rfl
theorem pcf_le (f : Nat → Bool) (a n : Nat) : pcf f a n ≤ n := by
  induction n with
  | zero => exact Nat.le_refl _
  | succ n ih => rw [pcf]; split <;> omega
theorem get_fin : ∀ n : Fin 256, ∀ k : Fin 8, (bits .and .u8 (shrI .u8 (n.val : Int) (k.val : Int)) 1 == 1) = n.val.testBit k.val := by decide +kernel
theorem clr_fin : ∀ n : Fin 256, ∀ k : Fin 8, (n.val &&& (255 - 2 ^ k.val)) < 256 ∧ ∀ j : Fin 8, (n.val &&& (255 - 2 ^ k.val)).testBit j.val = (n.val.testBit j.val && (j.val != k.val)) := by decide +kernel
theorem set_fin : ∀ n : Fin 256, ∀ k : Fin 8, (n.val ||| (2 ^ k.val)) < 256 ∧ ∀ j : Fin 8, (n.val ||| (2 ^ k.val)).testBit j.val = (n.val.testBit j.val || (j.val == k.val)) := by decide +kernel
theorem shl_fin : ∀ k : Fin 8, shlI .u8 1 (k.val : Int) = ((2 ^ k.val : Nat) : Int) ∧ 2 ^ k.val < 256 := by decide +kernel
theorem msk_fin : ∀ k : Fin 9, IntKind.u8.wrap (shlI .u8 1 (k.val : Int) - 1) = ((2 ^ k.val - 1 : Nat) : Int) ∧ 2 ^ k.val - 1 < 256 ∧ ∀ j : Fin 8, (2 ^ k.val - 1).testBit j.val = decide (j.val < k.val) ∧ (255 - (2 ^ k.val - 1)).testBit j.val = decide (k.val ≤ j.val) := by decide +kernel
theorem pc_fin : ∀ n : Fin 256, bn str_df7b43d5 n.val = pcf (fun k => n.val.testBit k) 0 8 := by decide +kernel

theorem td8 (i : Nat) (h : i ≤ 9223372036854775807) : IntKind.i64.wrap (Int.tdiv (i : Int) 8) = ((i / 8 : Nat) : Int) := by
  rw [Int.tdiv_eq_ediv_of_nonneg (by omega), w64 (by omega) (by omega)]; omega
theorem tm8 (i : Nat) : Int.tmod (i : Int) 8 = ((i % 8 : Nat) : Int) := by
  rw [Int.tmod_eq_emod_of_nonneg (by omega)]; omega
theorem inside_rel (l : List Int) (i : Int) (h : i ≤ 9223372036854775807) : bitmap_inside.rel l i (decide (0 ≤ i ∧ i < 8 * l.length)) := by
  by_cases h0 : 0 ≤ i
  · refine .inl ⟨h0, ?_⟩
    obtain ⟨k, rfl⟩ := Int.eq_ofNat_of_zero_le h0
    rw [td8 k (by omega), decide_eq_decide]
    omega
  · exact .inr ⟨h0, decide_eq_false fun h => h0 h.1⟩
theorem get_bit {x : Int} (hx : 0 ≤ x ∧ x < 256) {k : Nat} (hk : k < 8) : (bits .and .u8 (shrI .u8 x (k : Int)) 1 == 1) = x.toNat.testBit k := by
  have := get_fin ⟨x.toNat, by omega⟩ ⟨k, hk⟩
  simpa [Int.toNat_of_nonneg hx.1] using this
theorem get_in (l : List Int) (hb : Byt l) (i : Nat) (h : i < 8 * l.length) (hi : i ≤ 9223372036854775807) : bitmap_Get.rel l i (bit l i) 0 := by
  have h1 := inside_rel l i (by omega)
  rw [decide_eq_true (by omega)] at h1
  refine ⟨true, h1, .inr ⟨by simp, ?_⟩⟩
  rw [td8 i hi, tm8]
  refine ⟨⟨by omega, by omega⟩, by omega, _, rfl, ?_, rfl⟩
  rw [get_bit (hb.gn _) (by omega)]; rfl
theorem get_out (l : List Int) (i : Int) (h : ¬ (0 ≤ i ∧ i < 8 * l.length)) (hi : i ≤ 9223372036854775807) : bitmap_Get.rel l i false 12 := by
  have h1 := inside_rel l i (by omega)
  rw [decide_eq_false h] at h1
  exact ⟨false, h1, .inl ⟨by simp, rfl, rfl⟩⟩
theorem clone_rel (l : List Int) (h : l.length ≤ 1000) : slices_Clone_s_byte_byte.rel l l := ⟨fun h => h, l, rfl, by omega, rfl⟩
theorem bit_set {l : List Int} {i j : Nat} {y : Int} (h : i < 8 * l.length) : bit (l.set (i / 8) y) j = if j / 8 = i / 8 then y.toNat.testBit (j % 8) else bit l j := by
  unfold bit
  rw [gn_set (by omega)]
  split <;> rfl
theorem clr_bit {x : Int} (hx : 0 ≤ x ∧ x < 256) {k : Nat} (hk : k < 8) : ∃ y : Nat, bits .andNot .u8 x (shlI .u8 1 (k : Int)) = (y : Int) ∧ y < 256 ∧ ∀ j, j < 8 → y.testBit j = (x.toNat.testBit j && (j != k)) := by
  obtain ⟨h1, h2⟩ := shl_fin ⟨k, hk⟩
  have h3 : x.toNat &&& (255 - 2 ^ k) < 256 ∧ ∀ j : Fin 8, (x.toNat &&& (255 - 2 ^ k)).testBit j.val = (x.toNat.testBit j.val && (j.val != k)) := clr_fin ⟨x.toNat, by omega⟩ ⟨k, hk⟩
  refine ⟨x.toNat &&& (255 - 2 ^ k), ?_, h3.1, fun j hj => h3.2 ⟨j, hj⟩⟩
  simp only at h1 h2
  rw [h1]
  generalize 2 ^ k = p at h2
  rw [u8_andNot _ _ hx.1 hx.2 (by omega) (by omega), Int.toNat_natCast]
theorem set_bit {x : Int} (hx : 0 ≤ x ∧ x < 256) {k : Nat} (hk : k < 8) : ∃ y : Nat, bits .or .u8 x (shlI .u8 1 (k : Int)) = (y : Int) ∧ y < 256 ∧ ∀ j, j < 8 → y.testBit j = (x.toNat.testBit j || (j == k)) := by
  obtain ⟨h1, h2⟩ := shl_fin ⟨k, hk⟩
  have h3 : x.toNat ||| 2 ^ k < 256 ∧ ∀ j : Fin 8, (x.toNat ||| 2 ^ k).testBit j.val = (x.toNat.testBit j.val || (j.val == k)) := set_fin ⟨x.toNat, by omega⟩ ⟨k, hk⟩
  refine ⟨x.toNat ||| 2 ^ k, ?_, h3.1, fun j hj => h3.2 ⟨j, hj⟩⟩
  simp only at h1 h2
  rw [h1]
  generalize 2 ^ k = p at h2
  rw [u8_or _ _ hx.1 hx.2 (by omega) (by omega), Int.toNat_natCast]
theorem set_in (l : List Int) (hb : Byt l) (hl : l.length ≤ 1000) (i : Nat) (h : i < 8 * l.length) (on : Bool) : ∃ c, bitmap_Set.rel l i on c 0 ∧ c.length = l.length ∧ Byt c ∧ ∀ j, j < 8 * l.length → bit c j = if j = i then on else bit l j := by
  have h1 := inside_rel l i (by omega)
  rw [decide_eq_true (by omega)] at h1
  have hq : i / 8 < l.length := by omega
  obtain ⟨y, hy, hy2, hy3⟩ := clr_bit (hb.gn (i / 8)) (k := i % 8) (by omega)
  have hb1 := hb.set (i / 8) (x := y) (by omega) (by omega)
  have hg : gn (l.set (i / 8) y) (i / 8) = y := by rw [gn_set hq, if_pos rfl]
  obtain ⟨z, hz, hz2, hz3⟩ := set_bit (x := y) (by omega) (k := i % 8) (by omega)
  cases on with
  | false =>
    refine ⟨l.set (i / 8) y, ⟨true, h1, .inr ⟨by simp, l, clone_rel l hl, ?_⟩⟩, by simp, hb1, fun j hj => ?_⟩
    · rw [td8 i (by omega), tm8]
      exact ⟨⟨by omega, by omega⟩, by omega, y, hy.symm, ⟨by omega, by omega⟩, _, rfl, .inr ⟨by simp, rfl, rfl⟩⟩
    · rw [bit_set h]
      by_cases e : j / 8 = i / 8
      · rw [if_pos e, Int.toNat_natCast, hy3 _ (by omega)]
        by_cases e2 : j = i
        · subst e2; simp
        · have : ¬ j % 8 = i % 8 := by omega
          simp [e2, this, bit, e]
      · have : ¬ j = i := fun h => e (by rw [h])
        rw [if_neg e, if_neg this]
  | true =>
    refine ⟨(l.set (i / 8) y).set (i / 8) z, ⟨true, h1, .inr ⟨by simp, l, clone_rel l hl, ?_⟩⟩, by simp, hb1.set _ (by omega) (by omega), fun j hj => ?_⟩
    · rw [td8 i (by omega), tm8]
      refine ⟨⟨by omega, by omega⟩, by omega, y, hy.symm, ⟨by omega, by omega⟩, _, rfl, .inl ⟨rfl, ⟨by omega, by simp; omega⟩, by omega, z, ?_, ⟨by omega, by simp; omega⟩, _, rfl, rfl, rfl⟩⟩
      rw [Int.toNat_natCast, hg]; exact hz.symm
    · rw [bit_set (by simpa using h)]
      by_cases e : j / 8 = i / 8
      · rw [if_pos e, Int.toNat_natCast, hz3 _ (by omega), Int.toNat_natCast, hy3 _ (by omega)]
        by_cases e2 : j = i
        · subst e2; simp
        · have hne : ¬ j % 8 = i % 8 := by omega
          have b1 : (j % 8 != i % 8) = true := bne_iff_ne.mpr hne
          have b2 : (j % 8 == i % 8) = false := beq_eq_false_iff_ne.mpr hne
          rw [b1, b2, if_neg e2]
          simp [bit, e]
      · have : ¬ j = i := fun h => e (by rw [h])
        rw [if_neg e, if_neg this, bit_set h, if_neg e]
theorem set_out (l : List Int) (i : Int) (h : ¬ (0 ≤ i ∧ i < 8 * l.length)) (hi : i ≤ 9223372036854775807) (on : Bool) : bitmap_Set.rel l i on [] 12 := by
  have h1 := inside_rel l i (by omega)
  rw [decide_eq_false h] at h1
  exact ⟨false, h1, .inl ⟨by simp, rfl, rfl⟩⟩

/-! ### First -/
def IsF (f : Nat → Bool) (a b : Nat) (r e : Int) : Prop :=
  (e = 20 ∧ r = 0 ∧ ∀ j, a ≤ j → j < b → f j = true) ∨ (e = 0 ∧ ∃ i : Nat, r = i ∧ a ≤ i ∧ i < b ∧ f i = false ∧ ∀ j, a ≤ j → j < i → f j = true)
theorem IsF.uniq {f : Nat → Bool} {a b : Nat} {r e r' e' : Int} (h : IsF f a b r e) (k : IsF f a b r' e') : r = r' ∧ e = e' := by
  rcases h with ⟨rfl, rfl, h3⟩ | ⟨rfl, i, rfl, h1, h2, h3, h4⟩ <;> rcases k with ⟨rfl, rfl, k3⟩ | ⟨rfl, i', rfl, k1, k2, k3, k4⟩
  · exact ⟨rfl, rfl⟩
  · rw [h3 i' k1 k2] at k3; cases k3
  · rw [k3 i h1 h2] at h3; cases h3
  · refine ⟨?_, rfl⟩
    rcases Nat.lt_trichotomy i i' with q | q | q
    · rw [k4 i h1 q] at h3; cases h3
    · rw [q]
    · rw [h4 i' k1 q] at k3; cases k3
theorem IsF.step {f : Nat → Bool} {a b : Nat} {r e : Int} (h : IsF f (a + 1) b r e) (ha : f a = true) : IsF f a b r e := by
  have hj : ∀ j, a ≤ j → (a + 1 ≤ j → f j = true) → f j = true := fun j h1 h2 => by
    by_cases q : j = a
    · rw [q]; exact ha
    · exact h2 (by omega)
  rcases h with ⟨rfl, rfl, h3⟩ | ⟨rfl, i, rfl, h1, h2, h3, h4⟩
  · exact .inl ⟨rfl, rfl, fun j h1 h2 => hj j h1 fun h => h3 j h h2⟩
  · exact .inr ⟨rfl, i, rfl, by omega, h2, h3, fun j k1 k2 => hj j k1 fun h => h4 j h k2⟩
theorem IsF.congr {f g : Nat → Bool} {a b : Nat} {r e : Int} (h : IsF f a b r e) (hfg : ∀ j, j < b → f j = g j) : IsF g a b r e := by
  rcases h with ⟨rfl, rfl, h3⟩ | ⟨rfl, i, rfl, h1, h2, h3, h4⟩
  · exact .inl ⟨rfl, rfl, fun j k1 k2 => by rw [← hfg j k2]; exact h3 j k1 k2⟩
  · exact .inr ⟨rfl, i, rfl, h1, h2, by rw [← hfg i h2]; exact h3, fun j k1 k2 => by rw [← hfg j (by omega)]; exact h4 j k1 k2⟩
theorem row_rel (l : List Int) (a b : Int) (hl : l.length ≤ 1000) : bitmap_row.rel l a b (decide (0 ≤ a ∧ a ≤ b ∧ b ≤ 8 * l.length)) := by
  unfold bitmap_row.rel
  rw [w64 (by omega) (by omega)]
  by_cases h0 : a ≥ 0
  · by_cases h1 : b ≥ a
    · refine .inl ⟨h0, .inl ⟨h1, ?_⟩⟩
      rw [decide_eq_decide]; omega
    · exact .inl ⟨h0, .inr ⟨h1, decide_eq_false fun h => h1 h.2.1⟩⟩
  · exact .inr ⟨h0, decide_eq_false fun h => h0 h.1⟩
theorem first_loop (l : List Int) (hb : Byt l) (hl : l.length ≤ 1000) (to : Nat) (ht : to ≤ 8 * l.length) : ∀ (d k i : Nat), i + d = to → d < k → ∃ r e, bitmap_First.L1 l to r e k 0 0 i ∧ IsF (bit l) i to r e := by
  intro d
  induction d with
  | zero =>
    intro k i hd hk
    obtain ⟨k, rfl⟩ : ∃ m, k = m + 1 := ⟨k - 1, by omega⟩
    exact ⟨0, 20, .inr ⟨by omega, rfl, rfl⟩, .inl ⟨rfl, rfl, fun j h1 h2 => by omega⟩⟩
  | succ d ih =>
    intro k i hd hk
    obtain ⟨k, rfl⟩ : ∃ m, k = m + 1 := ⟨k - 1, by omega⟩
    have hg := get_in l hb i (by omega) (by omega)
    cases e : bit l i with
    | true =>
      obtain ⟨r, z, hr, hz⟩ := ih k (i + 1) (by omega) (by omega)
      refine ⟨r, z, .inl ⟨by omega, _, _, hg, .inl ⟨e, ?_⟩⟩, hz.step e⟩
      rw [w64 (by omega) (by omega)]; exact hr
    | false =>
      exact ⟨i, 0, .inl ⟨by omega, _, _, hg, .inr ⟨by simp [e], rfl, rfl⟩⟩, .inr ⟨rfl, i, rfl, Nat.le_refl _, by omega, e, fun j h1 h2 => by omega⟩⟩
theorem first_in (l : List Int) (hb : Byt l) (hl : l.length ≤ 1000) (a b : Nat) (h1 : a ≤ b) (h2 : b ≤ 8 * l.length) : ∃ r e, bitmap_First.rel l a b r e ∧ IsF (bit l) a b r e := by
  have hr := row_rel l a b hl
  rw [decide_eq_true (by omega)] at hr
  obtain ⟨r, e, hx, hy⟩ := first_loop l hb hl b h2 (b - a) (b - a + 1) a (by omega) (by omega)
  exact ⟨r, e, ⟨true, hr, .inr ⟨by simp, _, hx⟩⟩, hy⟩
theorem first_out (l : List Int) (hl : l.length ≤ 1000) (a b : Int) (h : ¬ (0 ≤ a ∧ a ≤ b ∧ b ≤ 8 * l.length)) : bitmap_First.rel l a b 0 12 := by
  have hr := row_rel l a b hl
  rw [decide_eq_false h] at hr
  exact ⟨false, hr, .inl ⟨by simp, rfl, rfl⟩⟩

/-! ### Count -/
theorem clamp_val (a q : Nat) (ha : a ≤ 8000) (hq : q ≤ 1000) : ∃ k : Nat, minI (maxI (IntKind.i64.wrap ((a : Int) - IntKind.i64.wrap (8 * (q : Int)))) 0) 8 = (k : Int) ∧ k ≤ 8 ∧ ∀ j, j < 8 → ((k ≤ j ↔ a ≤ 8 * q + j)) := by
  rw [w64 (x := 8 * (q : Int)) (by omega) (by omega), w64 (by omega) (by omega)]
  unfold minI maxI
  refine ⟨min (a - 8 * q) 8, ?_, by omega, fun j hj => by omega⟩
  split <;> split <;> omega
theorem count_loop (l : List Int) (hb : Byt l) (hl : l.length ≤ 1000) (a b : Nat) (hab : a ≤ b) (hbl : b ≤ 8 * l.length) (g : Nat → Bool) (hg : g = fun j => bit l j && decide (a ≤ j) && decide (j < b)) :
    ∀ (d k q : Nat), q + d = l.length → d < k → bitmap_Count.L1 l a b (pcf g 0 (8 * l.length) : Nat) 0 k (pcf g 0 (8 * q) : Nat) q := by
  intro d
  induction d with
  | zero =>
    intro k q hd hk
    obtain ⟨k, rfl⟩ : ∃ m, k = m + 1 := ⟨k - 1, by omega⟩
    obtain rfl : q = l.length := by omega
    exact .inr ⟨by omega, rfl, rfl⟩
  | succ d ih =>
    intro k q hd hk
    obtain ⟨k, rfl⟩ : ∃ m, k = m + 1 := ⟨k - 1, by omega⟩
    have H := ih k (q + 1) (by omega) (by omega)
    obtain ⟨lo, e1, h1, j1⟩ := clamp_val a q (by omega) (by omega)
    obtain ⟨hi, e2, h2, j2⟩ := clamp_val b q (by omega) (by omega)
    have hx := hb.gn q
    obtain ⟨m1, m2, m3⟩ := msk_fin ⟨hi, by omega⟩
    obtain ⟨n1, n2, n3⟩ := msk_fin ⟨lo, by omega⟩
    simp only at m1 m2 n1 n2
    have hand : (gn l q).toNat &&& (2 ^ hi - 1) < 256 := Nat.lt_of_le_of_lt Nat.and_le_right m2
    have b1 : bits .and .u8 (gn l q) ((2 ^ hi - 1 : Nat) : Int) = (((gn l q).toNat &&& (2 ^ hi - 1) : Nat) : Int) := by
      rw [u8_and _ _ hx.1 hx.2 (by omega) (by omega), Int.toNat_natCast]
    have hfin : ((gn l q).toNat &&& (2 ^ hi - 1)) &&& (255 - (2 ^ lo - 1)) < 256 := Nat.lt_of_le_of_lt Nat.and_le_left hand
    have b2 : bits .andNot .u8 (((gn l q).toNat &&& (2 ^ hi - 1) : Nat) : Int) ((2 ^ lo - 1 : Nat) : Int) = ((((gn l q).toNat &&& (2 ^ hi - 1)) &&& (255 - (2 ^ lo - 1)) : Nat) : Int) := by
      rw [u8_andNot _ _ (by omega) (by omega) (by omega) (by omega), Int.toNat_natCast, Int.toNat_natCast]
    have hp := pc_fin ⟨_, hfin⟩
    simp only at hp
    have hc : pcf (fun k => (((gn l q).toNat &&& (2 ^ hi - 1)) &&& (255 - (2 ^ lo - 1))).testBit k) 0 8 = pcf g (8 * q) 8 := pcf_congr fun j hj => by
      have p1 := (m3 ⟨j, hj⟩).1
      have p2 := (n3 ⟨j, hj⟩).2
      simp only at p1 p2
      rw [Nat.zero_add, Nat.testBit_and, Nat.testBit_and, p1, p2, hg]
      have q1 : (8 * q + j) / 8 = q := by omega
      have q2 : (8 * q + j) % 8 = j := by omega
      simp only [bit, q1, q2]
      have r1 : decide (j < hi) = decide (8 * q + j < b) := by rw [decide_eq_decide]; have := j2 j hj; omega
      have r2 : decide (lo ≤ j) = decide (a ≤ 8 * q + j) := by rw [decide_eq_decide]; have := j1 j hj; omega
      rw [r1, r2, Bool.and_assoc, Bool.and_assoc, Bool.and_comm (decide (8 * q + j < b))]
    have hle := pcf_le (fun k => (((gn l q).toNat &&& (2 ^ hi - 1)) &&& (255 - (2 ^ lo - 1))).testBit k) 0 8
    have hle2 := pcf_le g 0 (8 * q)
    have hsum : pcf g 0 (8 * (q + 1)) = pcf g 0 (8 * q) + pcf g (8 * q) 8 := by
      rw [show 8 * (q + 1) = 8 * q + 8 by omega, pcf_add, Nat.zero_add]
    refine .inl ⟨by omega, ⟨by omega, by omega⟩, _, rfl, _, rfl, ?_⟩
    rw [e1, e2, m1, n1]
    refine ⟨by omega, _, rfl, by omega, _, rfl, ?_⟩
    rw [Int.toNat_natCast, b1, b2]
    refine ⟨(pcf g (8 * q) 8 : Nat), ⟨⟨by omega, ?_⟩, ?_⟩, ?_⟩
    · have : str_df7b43d5.size = 256 := by decide +kernel
      rw [this]; omega
    · rw [Int.toNat_natCast, hp, hc, w64 (by omega) (by omega)]
    · rw [w64 (x := (pcf g 0 (8 * q) : Int) + _) (by omega) (by omega), w64 (x := (q : Int) + 1) (by omega) (by omega)]
      rw [hsum] at H
      exact_mod_cast H
theorem count_sum (f : Nat → Bool) (a b n : Nat) (h1 : a ≤ b) (h2 : b ≤ n) : pcf (fun j => f j && decide (a ≤ j) && decide (j < b)) 0 n = pcf f a (b - a) := by
  rw [show n = a + ((b - a) + (n - b)) by omega, pcf_add, pcf_add, Nat.zero_add, show a + (b - a) = b by omega]
  rw [pcf_none (a := 0) (n := a) (fun j hj => by simp; omega), pcf_none (a := b) (fun j hj => by simp), Nat.zero_add, Nat.add_zero]
  exact pcf_congr fun j hj => by
    have : a ≤ a + j ∧ a + j < b := by omega
    simp [this]
theorem count_in (l : List Int) (hb : Byt l) (hl : l.length ≤ 1000) (a b : Nat) (h1 : a ≤ b) (h2 : b ≤ 8 * l.length) : bitmap_Count.rel l a b (pcf (bit l) a (b - a) : Nat) 0 := by
  have hr := row_rel l a b hl
  rw [decide_eq_true (by omega)] at hr
  have := count_loop l hb hl a b h1 h2 _ rfl l.length (l.length + 1) 0 (by omega) (by omega)
  rw [count_sum _ _ _ _ h1 h2] at this
  exact ⟨true, hr, .inr ⟨by simp, _, this⟩⟩
theorem count_out (l : List Int) (hl : l.length ≤ 1000) (a b : Int) (h : ¬ (0 ≤ a ∧ a ≤ b ∧ b ≤ 8 * l.length)) : bitmap_Count.rel l a b 0 12 := by
  have hr := row_rel l a b hl
  rw [decide_eq_false h] at hr
  exact ⟨false, hr, .inl ⟨by simp, rfl, rfl⟩⟩

/-! ### The document's -/
def bl (l : List Int) (n : Nat) : List Bool := (List.range n).map (bit l)
theorem bl_length (l : List Int) (n : Nat) : (bl l n).length = n := by simp [bl]
theorem bl_succ (l : List Int) (n : Nat) : bl l n ++ [bit l n] = bl l (n + 1) := by simp [bl, List.range_succ]
theorem bl_get (l : List Int) {n j : Nat} (h : j < n) : gb (bl l n) j = bit l j := by simp [bl, gb, List.getD_eq_getElem?_getD, h]
theorem half_bit (x t : Nat) (h : x < 256) : (Int.tmod ((x / 2 ^ t : Nat) : Int) 2 == 1) = x.testBit t := by
  rw [Nat.testBit_eq_decide_div_mod_eq]
  generalize x / 2 ^ t = y
  rw [Int.tmod_eq_emod_of_nonneg (by omega), Bool.eq_iff_iff]
  simp
  omega
theorem bits_loop2 (l : List Int) (hb : Byt l) (hl : l.length ≤ 1000) (i : Nat) (hi : i < l.length) (K : List Bool → Int → Prop) (hK : K (bl l (8 * i + 8)) ((i : Int) + 1)) : ∀ (d k t : Nat), t + d = 8 → d < k →
    reliquaryref18_Bits.L2 i K k (bl l (8 * i + t)) (((gn l i).toNat / 2 ^ t : Nat) : Int) t := by
  intro d
  have hx := hb.gn i
  induction d with
  | zero =>
    intro k t hd hk
    obtain ⟨k, rfl⟩ : ∃ m, k = m + 1 := ⟨k - 1, by omega⟩
    obtain rfl : t = 8 := by omega
    exact .inr ⟨by omega, by rw [w64 (by omega) (by omega)]; exact hK⟩
  | succ d ih =>
    intro k t hd hk
    obtain ⟨k, rfl⟩ : ∃ m, k = m + 1 := ⟨k - 1, by omega⟩
    have H := ih k (t + 1) (by omega) (by omega)
    have hdiv : (gn l i).toNat / 2 ^ t ≤ (gn l i).toNat := Nat.div_le_self _ _
    have hh := half_bit (gn l i).toNat t (by omega)
    have e : (gn l i).toNat / 2 ^ (t + 1) = (gn l i).toNat / 2 ^ t / 2 := by rw [Nat.pow_succ, Nat.div_div_eq_div_mul]
    have q1 : (8 * i + t) / 8 = i := by omega
    have q2 : (8 * i + t) % 8 = t := by omega
    have hbt : (gn l i).toNat.testBit t = bit l (8 * i + t) := by simp only [bit, q1, q2]
    rw [e] at H
    rw [hbt] at hh
    clear e hbt q1 q2
    generalize (gn l i).toNat / 2 ^ t = y at *
    refine .inl ⟨by omega, _, rfl, ?_, ?_⟩
    · rw [List.length_append, bl_length]; simp; omega
    · rw [hh, bl_succ, Int.tdiv_eq_ediv_of_nonneg (by omega), wu8 (by omega) (by omega), w64 (by omega) (by omega)]
      exact_mod_cast H
theorem bits_loop (l : List Int) (hb : Byt l) (hl : l.length ≤ 1000) : ∀ (d k i : Nat), i + d = l.length → d < k → reliquaryref18_Bits.L1 (strOfNums l) (bl l (8 * l.length)) k (bl l (8 * i)) i := by
  intro d
  induction d with
  | zero =>
    intro k i hd hk
    obtain ⟨k, rfl⟩ : ∃ m, k = m + 1 := ⟨k - 1, by omega⟩
    obtain rfl : i = l.length := by omega
    exact .inr ⟨by rw [size_strOf]; omega, rfl⟩
  | succ d ih =>
    intro k i hd hk
    obtain ⟨k, rfl⟩ : ∃ m, k = m + 1 := ⟨k - 1, by omega⟩
    have H := ih k (i + 1) (by omega) (by omega)
    refine .inl ⟨by rw [size_strOf]; omega, ⟨by omega, by rw [size_strOf]; omega⟩, 9, ?_⟩
    have := bits_loop2 l hb hl i (by omega) (reliquaryref18_Bits.L1 (strOfNums l) (bl l (8 * l.length)) k) (by exact_mod_cast H) 8 9 0 (by omega) (by omega)
    rw [bn_strOf hb]
    rw [Nat.pow_zero, Nat.div_one, Int.toNat_of_nonneg (hb.gn i).1] at this
    exact this
theorem bits_rel (l : List Int) (hb : Byt l) (hl : l.length ≤ 1000) : reliquaryref18_Bits.rel (strOfNums l) (bl l (8 * l.length)) :=
  ⟨_, bits_loop l hb hl l.length (l.length + 1) 0 (by omega) (by omega)⟩
theorem half_step (x t : Nat) : 2 * (x / 2 ^ (t + 1)) + (if x.testBit t then 1 else 0) = x / 2 ^ t := by
  rw [Nat.testBit_eq_decide_div_mod_eq, Nat.pow_succ, ← Nat.div_div_eq_div_mul]
  simp only [decide_eq_true_eq]
  split <;> omega
theorem bytes_loop2 (c : List Int) (hb : Byt c) (hl : c.length ≤ 1000) (q : Nat) (hq : q < c.length) (K : List Int → Int → Prop) (hK : K (c.take (q + 1)) (8 * (q : Int) + 8)) : ∀ (t k : Nat), t ≤ 8 → t < k →
    reliquaryref18_Bytes.L2 (bl c (8 * c.length)) (c.take q) (8 * (q : Int)) K k (((gn c q).toNat / 2 ^ t : Nat) : Int) ((t : Int) - 1) := by
  intro t
  have hx := hb.gn q
  induction t with
  | zero =>
    intro k ht hk
    obtain ⟨k, rfl⟩ : ∃ m, k = m + 1 := ⟨k - 1, by omega⟩
    refine .inr ⟨by omega, _, rfl, by simp; omega, ?_⟩
    rw [w64 (by omega) (by omega)]
    have : c.take q ++ [(((gn c q).toNat / 2 ^ 0 : Nat) : Int)] = c.take (q + 1) := by
      rw [List.take_add_one, List.getElem?_eq_getElem hq]
      simp
      rw [show max (gn c q) 0 = gn c q by omega]
      simp [gn, List.getD_eq_getElem?_getD, List.getElem?_eq_getElem hq]
    rw [this]; exact hK
  | succ t ih =>
    intro k ht hk
    obtain ⟨k, rfl⟩ : ∃ m, k = m + 1 := ⟨k - 1, by omega⟩
    have H := ih k (by omega) (by omega)
    have e : IntKind.i64.wrap (8 * (q : Int) + (((t + 1 : Nat) : Int) - 1)) = ((8 * q + t : Nat) : Int) := by rw [w64 (by omega) (by omega)]; omega
    have e2 : IntKind.i64.wrap ((((t + 1 : Nat) : Int) - 1) - 1) = (t : Int) - 1 := by rw [w64 (by omega) (by omega)]; omega
    have hs := half_step (gn c q).toNat t
    have hd : (gn c q).toNat / 2 ^ t ≤ (gn c q).toNat := Nat.div_le_self _ _
    have q1 : (8 * q + t) / 8 = q := by omega
    have q2 : (8 * q + t) % 8 = t := by omega
    have hbit : gb (bl c (8 * c.length)) (8 * q + t) = (gn c q).toNat.testBit t := by rw [bl_get c (by omega)]; simp only [bit, q1, q2]
    refine .inl ⟨by omega, ?_⟩
    rw [e, e2]
    refine ⟨⟨by omega, by rw [bl_length]; omega⟩, ?_⟩
    rw [Int.toNat_natCast, hbit]
    cases hq : (gn c q).toNat.testBit t with
    | true =>
      refine .inl ⟨rfl, ?_⟩
      rw [hq] at hs
      simp at hs
      rw [wu8 (x := _ * 2) (by omega) (by omega), wu8 (by omega) (by omega)]
      have : (((gn c q).toNat / 2 ^ (t + 1) : Nat) : Int) * 2 + 1 = (((gn c q).toNat / 2 ^ t : Nat) : Int) := by omega
      rw [this]; exact H
    | false =>
      refine .inr ⟨by simp, ?_⟩
      rw [hq] at hs
      simp at hs
      rw [wu8 (x := _ * 2) (by omega) (by omega)]
      have : (((gn c q).toNat / 2 ^ (t + 1) : Nat) : Int) * 2 = (((gn c q).toNat / 2 ^ t : Nat) : Int) := by omega
      rw [this]; exact H
theorem bytes_loop (c : List Int) (hb : Byt c) (hl : c.length ≤ 1000) : ∀ (d k q : Nat), q + d = c.length → d < k → reliquaryref18_Bytes.L1 (bl c (8 * c.length)) (strOfNums c) k (c.take q) (8 * (q : Int)) := by
  intro d
  induction d with
  | zero =>
    intro k q hd hk
    obtain ⟨k, rfl⟩ : ∃ m, k = m + 1 := ⟨k - 1, by omega⟩
    obtain rfl : q = c.length := by omega
    refine .inr ⟨?_, by rw [List.take_length]⟩
    rw [w64 (by omega) (by omega), bl_length]; omega
  | succ d ih =>
    intro k q hd hk
    obtain ⟨k, rfl⟩ : ∃ m, k = m + 1 := ⟨k - 1, by omega⟩
    have H := ih k (q + 1) (by omega) (by omega)
    refine .inl ⟨by rw [w64 (by omega) (by omega), bl_length]; omega, 9, ?_⟩
    have hx := hb.gn q
    have := bytes_loop2 c hb hl q (by omega) (reliquaryref18_Bytes.L1 (bl c (8 * c.length)) (strOfNums c) k) (by rw [show 8 * (q : Int) + 8 = 8 * ((q + 1 : Nat) : Int) by omega]; exact H) 8 9 (by omega) (by omega)
    rw [Nat.div_eq_of_lt (by omega : (gn c q).toNat < 2 ^ 8)] at this
    exact this
theorem bytes18_rel (c : List Int) (hb : Byt c) (hl : c.length ≤ 1000) : reliquaryref18_Bytes.rel (bl c (8 * c.length)) (strOfNums c) := by
  have := bytes_loop c hb hl c.length (c.length + 1) 0 (by omega) (by omega)
  exact ⟨_, this⟩
theorem bl_set (l c : List Int) (i n : Nat) (on : Bool) (h : ∀ j, j < n → bit c j = if j = i then on else bit l j) : (bl l n).set i on = bl c n := by
  apply List.ext_getElem
  · simp [bl]
  · intro j h1 h2
    have hj : j < n := by rw [bl_length] at h2; exact h2
    rw [List.getElem_set]
    simp only [bl, List.getElem_map, List.getElem_range]
    rw [h j hj]
    by_cases e : i = j
    · subst e; simp
    · have : ¬ j = i := fun h => e h.symm
      simp [e, this]
theorem rset_in (l c : List Int) (hb : Byt l) (hl : l.length ≤ 1000) (i : Nat) (h : i < 8 * l.length) (on : Bool) (hc : Byt c) (hcl : c.length = l.length) (hbit : ∀ j, j < 8 * l.length → bit c j = if j = i then on else bit l j) :
    reliquaryref18_Set.rel (strOfNums l) i on (strOfNums c) 0 := by
  refine ⟨_, bits_rel l hb hl, .inr ⟨by omega, .inr ⟨by rw [bl_length]; omega, ⟨by omega, by rw [bl_length]; omega⟩, _, rfl, _, ?_, rfl, rfl⟩⟩⟩
  rw [Int.toNat_natCast, bl_set l c i _ on hbit]
  have := bytes18_rel c hc (by omega)
  rwa [hcl] at this
theorem rset_out (l : List Int) (hb : Byt l) (hl : l.length ≤ 1000) (i : Int) (h : ¬ (0 ≤ i ∧ i < 8 * l.length)) (on : Bool) : reliquaryref18_Set.rel (strOfNums l) i on (⟨#[]⟩ : ByteArray) 12 := by
  refine ⟨_, bits_rel l hb hl, ?_⟩
  rw [bl_length]
  by_cases e : i < 0
  · exact .inl ⟨e, rfl, rfl⟩
  · exact .inr ⟨e, .inl ⟨by omega, rfl, rfl⟩⟩
theorem rfirst_loop (l : List Int) (hl : l.length ≤ 1000) (to : Nat) (ht : to ≤ 8 * l.length) : ∀ (d k i : Nat), i + d = to → d < k → ∃ r e, reliquaryref18_First.L1 to r e (bl l (8 * l.length)) k 0 0 i ∧ IsF (bit l) i to r e := by
  intro d
  induction d with
  | zero =>
    intro k i hd hk
    obtain ⟨k, rfl⟩ : ∃ m, k = m + 1 := ⟨k - 1, by omega⟩
    exact ⟨0, 20, .inr ⟨by omega, rfl, rfl⟩, .inl ⟨rfl, rfl, fun j h1 h2 => by omega⟩⟩
  | succ d ih =>
    intro k i hd hk
    obtain ⟨k, rfl⟩ : ∃ m, k = m + 1 := ⟨k - 1, by omega⟩
    have hg : gb (bl l (8 * l.length)) ((i : Int).toNat) = bit l i := by rw [Int.toNat_natCast, bl_get l (by omega)]
    cases e : bit l i with
    | true =>
      obtain ⟨r, z, hr, hz⟩ := ih k (i + 1) (by omega) (by omega)
      refine ⟨r, z, .inl ⟨by omega, ⟨by omega, by rw [bl_length]; omega⟩, .inr ⟨by rw [hg, e]; simp, ?_⟩⟩, hz.step e⟩
      rw [w64 (by omega) (by omega)]; exact hr
    | false =>
      exact ⟨i, 0, .inl ⟨by omega, ⟨by omega, by rw [bl_length]; omega⟩, .inl ⟨by rw [hg, e]; simp, rfl, rfl⟩⟩, .inr ⟨rfl, i, rfl, Nat.le_refl _, by omega, e, fun j h1 h2 => by omega⟩⟩
theorem rcount_loop (l : List Int) (hl : l.length ≤ 1000) (a to : Nat) (ht : to ≤ 8 * l.length) : ∀ (d k i : Nat), i + d = to → a ≤ i → d < k → reliquaryref18_Count.L1 to (pcf (bit l) a (to - a) : Nat) 0 (bl l (8 * l.length)) k (pcf (bit l) a (i - a) : Nat) i := by
  intro d
  induction d with
  | zero =>
    intro k i hd hai hk
    obtain ⟨k, rfl⟩ : ∃ m, k = m + 1 := ⟨k - 1, by omega⟩
    obtain rfl : i = to := by omega
    exact .inr ⟨by omega, rfl, rfl⟩
  | succ d ih =>
    intro k i hd hai hk
    obtain ⟨k, rfl⟩ : ∃ m, k = m + 1 := ⟨k - 1, by omega⟩
    have hg : gb (bl l (8 * l.length)) ((i : Int).toNat) = bit l i := by rw [Int.toNat_natCast, bl_get l (by omega)]
    have H := ih k (i + 1) (by omega) (by omega) (by omega)
    have hle := pcf_le (bit l) a (i - a)
    have hs : pcf (bit l) a (i + 1 - a) = pcf (bit l) a (i - a) + if bit l i then 1 else 0 := by
      rw [show i + 1 - a = (i - a) + 1 by omega, pcf, show a + (i - a) = i by omega]
    refine .inl ⟨by omega, ⟨by omega, by rw [bl_length]; omega⟩, ?_⟩
    rw [hg, w64 (x := (i : Int) + 1) (by omega) (by omega)]
    rw [hs] at H
    cases e : bit l i with
    | true =>
      rw [e] at H
      refine .inl ⟨rfl, ?_⟩
      rw [w64 (by omega) (by omega)]
      exact_mod_cast H
    | false =>
      rw [e] at H
      exact .inr ⟨by simp, by simpa using H⟩
theorem rrow (l : List Int) (hb : Byt l) (hl : l.length ≤ 1000) (a b : Int) {Q : Prop} {r0 r1 : Int} (h : (0 ≤ a ∧ a ≤ b ∧ b ≤ 8 * l.length) → Q) (h' : ¬ (0 ≤ a ∧ a ≤ b ∧ b ≤ 8 * l.length) → r0 = 0 ∧ r1 = 12) :
    ((a < 0 ∧ r0 = 0 ∧ r1 = 12) ∨ (¬ (a < 0) ∧ ((b < a ∧ r0 = 0 ∧ r1 = 12) ∨ (¬ (b < a) ∧ ((b > ((bl l (8 * l.length)).length : Int) ∧ r0 = 0 ∧ r1 = 12) ∨ (¬ (b > ((bl l (8 * l.length)).length : Int)) ∧ Q)))))) := by
  rw [bl_length]
  by_cases e : a < 0
  · exact .inl ⟨e, h' (by omega)⟩
  by_cases e2 : b < a
  · exact .inr ⟨e, .inl ⟨e2, h' (by omega)⟩⟩
  by_cases e3 : b > ((8 * l.length : Nat) : Int)
  · exact .inr ⟨e, .inr ⟨e2, .inl ⟨e3, h' (by omega)⟩⟩⟩
  · exact .inr ⟨e, .inr ⟨e2, .inr ⟨e3, h (by omega)⟩⟩⟩

/-! ### The laws -/
theorem awake18 : reliquarylaw18_awake.rel := by
  have b1 : Byt [255, 254] := fun x hx => by simp at hx; omega
  have b2 : Byt [255, 1] := fun x hx => by simp at hx; omega
  have b3 : Byt [0] := fun x hx => by simp at hx; omega
  obtain ⟨r, e, h1, h2⟩ := first_in [255, 254] b1 (by simp) 0 16 (by omega) (by simp)
  obtain ⟨rfl, rfl⟩ := h2.uniq (r' := 8) (e' := 0) (.inr ⟨rfl, 8, rfl, by omega, by omega, by decide +kernel, fun j _ hj => by
    have : ∀ j : Fin 8, bit [255, 254] j.val = true := by decide +kernel
    exact this ⟨j, hj⟩⟩)
  obtain ⟨c, h3, h4, h5, h6⟩ := set_in [0] b3 (by simp) 3 (by simp) true
  obtain ⟨x, rfl⟩ : ∃ x, c = [x] := by
    match c, h4 with
    | [x], _ => exact ⟨x, rfl⟩
  have hx := h5 x (by simp)
  have h7 := get_in [x] h5 3 (by simp) (by omega)
  have hx8 : x = 8 := by
    have hz : ∀ j, j < 8 → x.toNat.testBit j = if j = 3 then true else false := fun j hj => by
      have := h6 j (by simpa using hj)
      have hz2 : bit [0] j = false := by simp [bit, show j / 8 = 0 by omega, gn]
      rw [hz2] at this
      simpa [bit, show j / 8 = 0 by omega, show j % 8 = j by omega, gn] using this
    have hfin : ∀ n : Fin 256, (∀ j : Fin 8, n.val.testBit j.val = if j.val = 3 then true else false) → n.val = 8 := by decide +kernel
    have := hfin ⟨x.toNat, by omega⟩ fun j => hz j.val j.isLt
    simp at this
    omega
  have h8 := count_in [255, 1] b2 (by simp) 4 16 (by omega) (by simp)
  subst hx8
  have hb3 : bit [8] 3 = true := by decide +kernel
  have hc5 : pcf (bit [255, 1]) 4 (16 - 4) = 5 := by decide +kernel
  rw [hb3] at h7
  rw [hc5] at h8
  exact ⟨8, 0, h1, [8], 0, h3, true, 0, h7, _, 0, h8, rfl, rfl, rfl, ⟨by omega, by simp⟩, rfl, rfl, rfl, rfl, rfl, rfl⟩
theorem bitmapSets_pure (l0 : List Int) (a1 : Int) (a2 : Bool) (h0 : Byt l0) (h1 : -9223372036854775808 ≤ a1 ∧ a1 ≤ 9223372036854775807) : reliquarylaw18_BitmapSets.rel l0 a1 a2 := by
  refine ⟨awake18, ?_⟩
  by_cases e0 : (l0.length : Int) > 300
  · exact .inl ⟨e0, trivial⟩
  have hl : l0.length ≤ 1000 := by omega
  refine .inr ⟨e0, ?_⟩
  by_cases hin : 0 ≤ a1 ∧ a1 < 8 * l0.length
  · obtain ⟨i, rfl⟩ := Int.eq_ofNat_of_zero_le hin.1
    obtain ⟨c, s1, s2, s3, s4⟩ := set_in l0 h0 hl i (by omega) a2
    refine ⟨_, _, get_in l0 h0 i (by omega) (by omega), _, bits_rel l0 h0 hl, c, 0, s1, _, _, rset_in l0 c h0 hl i (by omega) a2 s3 s2 s4, by simp, by simp, by simp, .inr ⟨by simp, rfl, ⟨by omega, by rw [bl_length]; omega⟩, ?_⟩⟩
    rw [Int.toNat_natCast, bl_get l0 (by omega)]
  · exact ⟨_, _, get_out l0 a1 hin h1.2, _, bits_rel l0 h0 hl, _, _, set_out l0 a1 hin h1.2 a2, _, _, rset_out l0 h0 hl a1 hin a2, fun h => h rfl, by simp, by simp, .inl ⟨by simp, .inl ⟨by simp, trivial⟩⟩⟩
theorem bitmapRows_pure (l0 : List Int) (a1 a2 : Int) (h0 : Byt l0) (h1 : -9223372036854775808 ≤ a1 ∧ a1 ≤ 9223372036854775807) (h2 : -9223372036854775808 ≤ a2 ∧ a2 ≤ 9223372036854775807) : reliquarylaw18_BitmapRows.rel l0 a1 a2 := by
  refine ⟨awake18, ?_⟩
  by_cases e0 : (l0.length : Int) > 300
  · exact .inl ⟨e0, trivial⟩
  have hl : l0.length ≤ 1000 := by omega
  refine .inr ⟨e0, ?_⟩
  by_cases hin : 0 ≤ a1 ∧ a1 ≤ a2 ∧ a2 ≤ 8 * l0.length
  · obtain ⟨i, rfl⟩ := Int.eq_ofNat_of_zero_le hin.1
    obtain ⟨j, rfl⟩ := Int.eq_ofNat_of_zero_le (by omega : 0 ≤ a2)
    obtain ⟨r, e, f1, f2⟩ := first_in l0 h0 hl i j (by omega) (by omega)
    obtain ⟨r', e', g1, g2⟩ := rfirst_loop l0 hl j (by omega) (j - i) (j - i + 1) i (by omega) (by omega)
    obtain ⟨rfl, rfl⟩ := f2.uniq g2
    have c1 := count_in l0 h0 hl i j (by omega) (by omega)
    have c2 := rcount_loop l0 hl i j (by omega) (j - i) (j - i + 1) i (by omega) (by omega) (by omega)
    rw [Nat.sub_self] at c2
    exact ⟨_, _, f1, r, e, ⟨_, bits_rel l0 h0 hl, rrow l0 h0 hl i j (fun _ => ⟨_, g1⟩) (fun h => absurd hin h)⟩, _, _, c1, _, _, ⟨_, bits_rel l0 h0 hl, rrow l0 h0 hl i j (fun _ => ⟨_, c2⟩) (fun h => absurd hin h)⟩, rfl, rfl, rfl, rfl⟩
  · exact ⟨_, _, first_out l0 hl a1 a2 hin, 0, 12, ⟨_, bits_rel l0 h0 hl, rrow l0 h0 hl a1 a2 (fun h => absurd h hin) (fun _ => ⟨rfl, rfl⟩)⟩, _, _, count_out l0 hl a1 a2 hin, 0, 12, ⟨_, bits_rel l0 h0 hl, rrow l0 h0 hl a1 a2 (fun h => absurd h hin) (fun _ => ⟨rfl, rfl⟩)⟩, rfl, rfl, rfl, rfl⟩
theorem tm_nat (a n : Nat) : Int.tmod (a : Int) (n : Int) = ((a % n : Nat) : Int) := by
  rw [Int.tmod_eq_emod_of_nonneg (by omega)]; omega
theorem bitmapOthers_pure (l0 : List Int) (a1 a2 : Int) (a3 : Bool) (h0 : Byt l0) (h1 : 0 ≤ a1 ∧ a1 < 65536) (h2 : 0 ≤ a2 ∧ a2 < 65536) : reliquarylaw18_BitmapOthers.rel l0 a1 a2 a3 := by
  refine ⟨awake18, ?_⟩
  by_cases e0 : (l0.length : Int) = 0
  · exact .inl ⟨e0, trivial⟩
  refine .inr ⟨e0, ?_⟩
  by_cases e1 : (l0.length : Int) > 100
  · exact .inl ⟨e1, trivial⟩
  refine .inr ⟨e1, ?_⟩
  have hl : l0.length ≤ 1000 := by omega
  obtain ⟨i, rfl⟩ := Int.eq_ofNat_of_zero_le h1.1
  obtain ⟨j, rfl⟩ := Int.eq_ofNat_of_zero_le h2.1
  have e8 : IntKind.i64.wrap (8 * (l0.length : Int)) = ((8 * l0.length : Nat) : Int) := by rw [w64 (by omega) (by omega)]; omega
  rw [e8, w64 (x := (i : Int)) (by omega) (by omega), w64 (x := (j : Int)) (by omega) (by omega), tm_nat, tm_nat]
  have hx : i % (8 * l0.length) < 8 * l0.length := Nat.mod_lt _ (by omega)
  have hy : j % (8 * l0.length) < 8 * l0.length := Nat.mod_lt _ (by omega)
  generalize i % (8 * l0.length) = x at *
  generalize j % (8 * l0.length) = y at *
  obtain ⟨c, s1, s2, s3, s4⟩ := set_in l0 h0 hl x hx a3
  refine ⟨by omega, _, rfl, by omega, _, rfl, _, _, get_in l0 h0 y hy (by omega), c, 0, s1, _, _, get_in c s3 x (by omega) (by omega), _, _, get_in c s3 y (by omega) (by omega), rfl, rfl, rfl, rfl, by rw [s4 x hx, if_pos rfl], ?_⟩
  by_cases e : (x : Int) = y
  · exact .inl ⟨e, by rw [s2], rfl⟩
  · refine .inr ⟨e, ?_, by rw [s2], rfl⟩
    rw [s4 y hy, if_neg (fun h => e (by rw [h]))]
theorem parts_loop (l0 : List Int) (h0 : Byt l0) (hl : l0.length ≤ 1000) (a1 x9 x15 x18 r36 : Int) (p q : Nat) (hpq : p ≤ q) (hq : q ≤ 8 * l0.length) (e1 : IntKind.i64.wrap (x15 + x18) = (q : Int)) (e2 : Int.tmod (IntKind.i64.wrap a1) x9 = (p : Int)) (e3 : r36 = (pcf (bit l0) p (q - p) : Nat)) :
    ∀ (d k : Nat) (b : Bool) (at_ : Nat) (s : Nat), p ≤ at_ → at_ ≤ q → at_ + d = q → s ≤ at_ - p → d < k →
    reliquarylaw18_BitmapParts.L1 l0 a1 x9 x15 x18 r36 k b (((at_ - p) - pcf (bit l0) p (at_ - p) : Nat) : Int) at_ s := by
  intro d
  induction d using Nat.strongRecOn with
  | _ d ih =>
  intro k b at_ s h1 h2 h3 h4 h5
  obtain ⟨k, rfl⟩ : ∃ m, k = m + 1 := ⟨k - 1, by omega⟩
  have e8 : IntKind.i64.wrap (8 * (l0.length : Int)) = ((8 * l0.length : Nat) : Int) := by rw [w64 (by omega) (by omega)]; omega
  obtain ⟨r, e, f1, f2⟩ := first_in l0 h0 hl at_ q h2 hq
  have hle := pcf_le (bit l0) p (at_ - p)
  unfold reliquarylaw18_BitmapParts.L1
  rw [e8, e1, e2]
  refine ⟨by omega, r, e, f1, ?_⟩
  rcases f2 with ⟨rfl, rfl, f3⟩ | ⟨rfl, i, rfl, f3, f4, f5, f6⟩
  · refine .inl ⟨by simp, rfl, _, rfl, ?_⟩
    have hs : pcf (bit l0) p (q - p) = pcf (bit l0) p (at_ - p) + (q - at_) := by
      rw [show q - p = (at_ - p) + (q - at_) by omega, pcf_add, show p + (at_ - p) = at_ by omega]
      rw [pcf_all (f := bit l0) (a := at_) (n := q - at_) (fun j hj => f3 _ (by omega) (by omega))]
    rw [e3, hs, w64 (x := (q : Int) - p) (by omega) (by omega), w64 (by omega) (by omega)]
    omega
  · have hg := get_in l0 h0 i (by omega) (by omega)
    have hs : pcf (bit l0) p (i + 1 - p) = pcf (bit l0) p (at_ - p) + (i - at_) := by
      rw [show i + 1 - p = ((at_ - p) + (i - at_)) + 1 by omega, pcf, show p + ((at_ - p) + (i - at_)) = i by omega, f5, pcf_add, show p + (at_ - p) = at_ by omega]
      rw [pcf_all (f := bit l0) (a := at_) (n := i - at_) (fun j hj => f6 _ (by omega) (by omega))]
      simp
    have H := ih (q - (i + 1)) (by omega) k b (i + 1) (s + 1) (by omega) (by omega) (by omega) (by omega) (by omega)
    refine .inr ⟨by simp, _, _, hg, by rw [f5]; simp, by omega, by omega, ?_⟩
    rw [w64 (x := (i : Int) + 1) (by omega) (by omega), w64 (x := (s : Int) + 1) (by omega) (by omega), w64 (by omega) (by omega)]
    rw [hs] at H
    have e4 : (((at_ - p) - pcf (bit l0) p (at_ - p) : Nat) : Int) + 1 = ((i + 1 - p - (pcf (bit l0) p (at_ - p) + (i - at_)) : Nat) : Int) := by omega
    rw [e4]
    exact H
theorem bitmapParts_pure (l0 : List Int) (a1 a2 a3 : Int) (h0 : Byt l0) (h1 : 0 ≤ a1 ∧ a1 < 65536) (h2 : 0 ≤ a2 ∧ a2 < 65536) (h3 : 0 ≤ a3 ∧ a3 < 65536) : reliquarylaw18_BitmapParts.rel l0 a1 a2 a3 := by
  refine ⟨awake18, ?_⟩
  by_cases e0 : (l0.length : Int) = 0
  · exact .inl ⟨e0, trivial⟩
  refine .inr ⟨e0, ?_⟩
  by_cases e1 : (l0.length : Int) > 100
  · exact .inl ⟨e1, trivial⟩
  refine .inr ⟨e1, ?_⟩
  have hl : l0.length ≤ 1000 := by omega
  obtain ⟨i, rfl⟩ := Int.eq_ofNat_of_zero_le h1.1
  obtain ⟨j, rfl⟩ := Int.eq_ofNat_of_zero_le h2.1
  obtain ⟨m, rfl⟩ := Int.eq_ofNat_of_zero_le h3.1
  have e8 : IntKind.i64.wrap (8 * (l0.length : Int)) = ((8 * l0.length : Nat) : Int) := by rw [w64 (by omega) (by omega)]; omega
  have e9 : IntKind.i64.wrap (((8 * l0.length : Nat) : Int) + 1) = ((8 * l0.length + 1 : Nat) : Int) := by rw [w64 (by omega) (by omega)]; omega
  have hn : 0 < 8 * l0.length + 1 := by omega
  obtain ⟨n, hn2⟩ : ∃ n, n = 8 * l0.length + 1 := ⟨_, rfl⟩
  have hp : i % n < n := Nat.mod_lt _ (by omega)
  obtain ⟨p, hp2⟩ : ∃ p, p = i % n := ⟨_, rfl⟩
  rw [← hp2] at hp
  have hy : j % (n - p) < n - p := Nat.mod_lt _ (by omega)
  obtain ⟨y, hy2⟩ : ∃ y, y = j % (n - p) := ⟨_, rfl⟩
  rw [← hy2] at hy
  have hz : m % (n - (p + y)) < n - (p + y) := Nat.mod_lt _ (by omega)
  obtain ⟨z, hz2⟩ : ∃ z, z = m % (n - (p + y)) := ⟨_, rfl⟩
  rw [← hz2] at hz
  have t1 : Int.tmod (i : Int) (n : Int) = (p : Int) := by rw [tm_nat, hp2]
  have t2 : IntKind.i64.wrap ((n : Int) - p) = ((n - p : Nat) : Int) := by rw [w64 (by omega) (by omega)]; omega
  have t3 : Int.tmod (j : Int) ((n - p : Nat) : Int) = (y : Int) := by rw [tm_nat, hy2]
  have t4 : IntKind.i64.wrap ((p : Int) + y) = ((p + y : Nat) : Int) := by rw [w64 (by omega) (by omega)]; omega
  have t5 : IntKind.i64.wrap ((n : Int) - ((p + y : Nat) : Int)) = ((n - (p + y) : Nat) : Int) := by rw [w64 (by omega) (by omega)]; omega
  have t6 : Int.tmod (m : Int) ((n - (p + y) : Nat) : Int) = (z : Int) := by rw [tm_nat, hz2]
  have t7 : IntKind.i64.wrap (((p + y : Nat) : Int) + z) = ((p + y + z : Nat) : Int) := by rw [w64 (by omega) (by omega)]; omega
  rw [e8, e9, w64 (x := (i : Int)) (by omega) (by omega), w64 (x := (j : Int)) (by omega) (by omega), w64 (x := (m : Int)) (by omega) (by omega), ← hn2]
  have c1 := count_in l0 h0 hl p (p + y) (by omega) (by omega)
  have c2 := count_in l0 h0 hl (p + y) (p + y + z) (by omega) (by omega)
  have c3 := count_in l0 h0 hl p (p + y + z) (by omega) (by omega)
  have hsum : pcf (bit l0) p (p + y + z - p) = pcf (bit l0) p (p + y - p) + pcf (bit l0) (p + y) (p + y + z - (p + y)) := by
    rw [show p + y + z - p = (p + y - p) + (p + y + z - (p + y)) by omega, pcf_add, show p + (p + y - p) = p + y by omega]
  have l1 := pcf_le (bit l0) p (p + y - p)
  have l2 := pcf_le (bit l0) (p + y) (p + y + z - (p + y))
  refine ⟨_, rfl, by omega, ?_⟩
  rw [t1, t2]
  refine ⟨_, rfl, by omega, ?_⟩
  rw [t3, t4]
  refine ⟨_, rfl, ?_⟩
  rw [t5]
  refine ⟨by omega, _, rfl, ?_⟩
  rw [t6, t7]
  refine ⟨_, _, c1, _, _, c2, _, _, c3, by simp, by simp, by simp, ?_, p + y + z - p + 1, ?_⟩
  · rw [w64 (by omega) (by omega), hsum]
    omega
  · have := parts_loop l0 h0 hl i n ((p + y : Nat) : Int) z _ p (p + y + z) (by omega) (by omega) t7 (by rw [w64 (by omega) (by omega)]; exact t1) rfl (p + y + z - p) (p + y + z - p + 1) false p 0 (by omega) (by omega) (by omega) (by omega) (by omega)
    rw [Nat.sub_self] at this
    exact this
theorem fills_loop (a0 a1 a2 x14 : Int) (n a : Nat) (hn : n ≤ 4) (ha : a < 8 * n) (h2 : 0 ≤ a2 ∧ a2 < 256) (eN : IntKind.i64.wrap (8 * (IntKind.i64.wrap ((IntKind.i64.wrap (Int.tmod a0 4)) + 1))) = ((8 * n : Nat) : Int)) (eA : Int.tmod (IntKind.i64.wrap a1) x14 = (a : Int)) :
    ∀ (d k i : Nat) (l : List Int) (b : Bool), Byt l → l.length = n → a ≤ i → i + d = 8 * n → d < k → (∀ j, j < 8 * n → bit l j = (decide (a ≤ j) && decide (j < i))) →
    reliquarylaw18_BitmapFills.L1 a0 a1 a2 x14 k l b i := by
  intro d
  induction d with
  | zero =>
    intro k i l b hb hl hai hd hk hbit
    obtain ⟨k, rfl⟩ : ∃ m, k = m + 1 := ⟨k - 1, by omega⟩
    obtain rfl : i = 8 * n := by omega
    obtain ⟨c0, rfl⟩ := Int.eq_ofNat_of_zero_le h2.1
    unfold reliquarylaw18_BitmapFills.L1
    rw [eN, eA, w64 (x := (c0 : Int)) (by omega) (by omega)]
    have hset : ∀ j, a ≤ j → j < 8 * n → bit l j = true := fun j h1 h2 => by
      rw [hbit j h2]; simp [h1, h2]
    obtain ⟨r, e, f1, f2⟩ := first_in l hb (by omega) a (8 * n) (by omega) (by omega)
    obtain ⟨rfl, rfl⟩ := f2.uniq (.inl ⟨rfl, rfl, hset⟩)
    have c1 := count_in l hb (by omega) 0 (8 * n) (by omega) (by omega)
    have hcnt : pcf (bit l) 0 (8 * n - 0) = 8 * n - a := by
      rw [show 8 * n - 0 = a + (8 * n - a) by omega, pcf_add, Nat.zero_add]
      rw [pcf_none (f := bit l) (a := 0) (n := a) (fun j hj => by rw [hbit _ (by omega)]; simp; omega), pcf_all (f := bit l) (a := a) (n := 8 * n - a) (fun j hj => hset _ (by omega) (by omega)), Nat.zero_add]
    have hy : c0 % (8 * n - a) < 8 * n - a := Nat.mod_lt _ (by omega)
    have e75 : IntKind.i64.wrap (((8 * n : Nat) : Int) - a) = ((8 * n - a : Nat) : Int) := by rw [w64 (by omega) (by omega)]; omega
    have e78 : IntKind.i64.wrap ((a : Int) + Int.tmod (c0 : Int) ((8 * n - a : Nat) : Int)) = ((a + c0 % (8 * n - a) : Nat) : Int) := by
      rw [tm_nat, w64 (by omega) (by omega)]; omega
    obtain ⟨x, hx⟩ : ∃ x, x = a + c0 % (8 * n - a) := ⟨_, rfl⟩
    rw [← hx] at e78
    obtain ⟨c, s1, s2, s3, s4⟩ := set_in l hb (by omega) x (by omega) false
    obtain ⟨r', e', g1, g2⟩ := first_in c s3 (by omega) a (8 * n) (by omega) (by omega)
    obtain ⟨rfl, rfl⟩ := g2.uniq (r' := (x : Int)) (e' := 0) (.inr ⟨rfl, x, rfl, by omega, by omega, by rw [s4 x (by omega), if_pos rfl], fun j h1 h2 => by rw [s4 j (by omega), if_neg (by omega)]; exact hset j h1 (by omega)⟩)
    refine ⟨_, rfl, .inr ⟨by omega, _, rfl, _, _, f1, _, rfl, _, _, c1, _, rfl, _, rfl, ?_⟩⟩
    rw [e75]
    refine ⟨by omega, _, rfl, ?_⟩
    rw [e78]
    exact ⟨c, 0, s1, _, rfl, _, _, g1, rfl, rfl, _, rfl, _, rfl, by rw [hcnt, e75], rfl, rfl, rfl⟩
  | succ d ih =>
    intro k i l b hb hl hai hd hk hbit
    obtain ⟨k, rfl⟩ : ∃ m, k = m + 1 := ⟨k - 1, by omega⟩
    unfold reliquarylaw18_BitmapFills.L1
    rw [eN, eA]
    obtain ⟨r, e, f1, f2⟩ := first_in l hb (by omega) a (8 * n) (by omega) (by omega)
    obtain ⟨rfl, rfl⟩ := f2.uniq (r' := (i : Int)) (e' := 0) (.inr ⟨rfl, i, rfl, by omega, by omega, by rw [hbit i (by omega)]; simp, fun j h1 h2 => by rw [hbit j (by omega)]; simp [h1, h2]⟩)
    obtain ⟨c, s1, s2, s3, s4⟩ := set_in l hb (by omega) i (by omega) true
    refine ⟨_, rfl, .inl ⟨by omega, _, rfl, _, _, f1, by simp, by simp, c, 0, s1, by simp, ?_⟩⟩
    rw [w64 (by omega) (by omega)]
    refine ih k (i + 1) c b s3 (by omega) (by omega) (by omega) (by omega) fun j hj => ?_
    rw [s4 j (by omega), hbit j hj]
    by_cases e : j = i
    · subst e; simp [hai]
    · rw [if_neg e]
      have : decide (j < i) = decide (j < i + 1) := by rw [decide_eq_decide]; omega
      rw [this]
theorem bitmapFills_pure (a0 a1 a2 : Int) (h0 : 0 ≤ a0 ∧ a0 < 256) (h1 : 0 ≤ a1 ∧ a1 < 256) (h2 : 0 ≤ a2 ∧ a2 < 256) : reliquarylaw18_BitmapFills.rel a0 a1 a2 := by
  refine ⟨awake18, ?_⟩
  have h4 : Int.tmod a0 4 = a0 % 4 := Int.tmod_eq_emod_of_nonneg h0.1
  obtain ⟨n, hn⟩ : ∃ n : Nat, (n : Int) = a0 % 4 + 1 := ⟨(a0 % 4 + 1).toNat, by omega⟩
  have e1 : IntKind.i64.wrap (IntKind.i64.wrap (Int.tmod a0 4) + 1) = (n : Int) := by
    rw [h4, w64 (x := a0 % 4) (by omega) (by omega), w64 (by omega) (by omega), hn]
  have e8 : IntKind.i64.wrap (8 * (n : Int)) = ((8 * n : Nat) : Int) := by rw [w64 (by omega) (by omega)]; omega
  obtain ⟨m, rfl⟩ := Int.eq_ofNat_of_zero_le h1.1
  have ha : m % (8 * n) < 8 * n := Nat.mod_lt _ (by omega)
  have e3 : Int.tmod (IntKind.i64.wrap (m : Int)) ((8 * n : Nat) : Int) = ((m % (8 * n) : Nat) : Int) := by
    rw [w64 (by omega) (by omega), tm_nat]
  rw [e1, e8]
  refine ⟨⟨by omega, by omega⟩, _, rfl, by omega, 8 * n + 1, ?_⟩
  rw [e3, Int.toNat_natCast]
  have hz : Byt (List.replicate n (0 : Int)) := fun x hx => by
    have := (List.mem_replicate.1 hx).2
    omega
  refine fills_loop a0 m a2 _ n (m % (8 * n)) (by omega) ha h2 (by rw [e1, e8]) e3 (8 * n - m % (8 * n)) (8 * n + 1) (m % (8 * n)) _ false hz (by simp) (by omega) (by omega) (by omega) fun j hj => ?_
  have : bit (List.replicate n (0 : Int)) j = false := by
    have hq : j / 8 < n := by omega
    simp [bit, gn, List.getD_eq_getElem?_getD, hq]
  rw [this]
  symm
  simp
end Go.Proofs.Ytkfkkbblmnnblaa
