/- Disk: a disk is what an image of it was: plainly. -/
import Derived.Test.YtjlifbnkdfofhaaPlDp
namespace Go.Proofs.Ytjlifbnkdfofhaa
open Go Go.Kr Go.RowKit
set_option linter.unusedVariables false
set_option linter.unusedSimpArgs false

theorem odd_L1 (l : List R22) (hl : l.length ≤ 1000000) (h : ∀ r ∈ l, r.length = 192) : ∀ (k f i : Nat) (z : Int), i + k = l.length → k < f → slices_IndexFunc_s_s_byte_s_byte_fn1_disk_Disk_Restore_1.L1 l (-1) f z i := by
  intro k
  induction k with
  | zero =>
    intro f i z h1 h2
    obtain ⟨f, rfl⟩ : ∃ m, f = m + 1 := ⟨f - 1, by omega⟩
    exact .inr ⟨by omega, rfl⟩
  | succ k ih =>
    intro f i z h1 h2
    obtain ⟨f, rfl⟩ : ∃ m, f = m + 1 := ⟨f - 1, by omega⟩
    have hr := h _ (gx_mem (l := l) (i := i) (by omega))
    refine .inl ⟨by omega, ⟨by omega, by omega⟩, _, rfl, ?_⟩
    rw [Int.toNat_natCast, hr, show IntKind.i64.wrap ((i : Int) + 1) = ((i + 1 : Nat) : Int) by rw [w64 (by omega) (by omega)]; omega]
    exact .inr ⟨by decide, ih f (i + 1) z (by omega) (by omega)⟩
theorem dk_restore_L1 (d : DS) (l : List R22) (hl : l.length = d.p.length) (hn : l.length ≤ 1000000) (h : ∀ r ∈ l, r.length = 192) : ∀ (k f i : Nat), i + k = l.length → k < f →
    disk_Disk_Restore.L1 d.left d.down d.ops l l [] d.left d.down d.ops 0 f (l.take i ++ d.p.drop i) i := by
  intro k
  induction k with
  | zero =>
    intro f i h1 h2
    obtain ⟨f, rfl⟩ : ∃ m, f = m + 1 := ⟨f - 1, by omega⟩
    refine .inr ⟨by omega, ?_, rfl, rfl, rfl, rfl, rfl⟩
    rw [List.take_of_length_le (by omega), List.drop_eq_nil_of_le (by omega), List.append_nil]
  | succ k ih =>
    intro f i h1 h2
    obtain ⟨f, rfl⟩ : ∃ m, f = m + 1 := ⟨f - 1, by omega⟩
    have hr := h _ (gx_mem (l := l) (i := i) (by omega))
    refine .inl ⟨by omega, ⟨by omega, by omega⟩, gx l i, ?_, ⟨by omega, by rw [List.length_append, List.length_take, List.length_drop]; omega⟩, _, rfl, ?_⟩
    · rw [Int.toNat_natCast]; exact dk_clone _ (by omega)
    · rw [Int.toNat_natCast, show IntKind.i64.wrap ((i : Int) + 1) = ((i + 1 : Nat) : Int) by rw [w64 (by omega) (by omega)]; omega]
      have e : List.set (l.take i ++ d.p.drop i) i (gx l i) = l.take (i + 1) ++ d.p.drop (i + 1) := by
        have e1 : (l.take i).length = i := by rw [List.length_take]; omega
        rw [List.set_append_right _ _ (by omega), e1, Nat.sub_self, List.drop_eq_getElem_cons (by omega : i < d.p.length), List.set_cons_zero, List.take_succ_eq_append_getElem (by omega), gx_lt (by omega), List.append_assoc]
        rfl
      rw [e]
      exact ih f (i + 1) (by omega) (by omega)
theorem dk_restore (d : DS) (l : List R22) (hl : l.length = d.p.length) (hn : l.length ≤ 1000000) (h : ∀ r ∈ l, r.length = 192) :
    disk_Disk_Restore.rel d.p d.u d.left d.down d.ops l l [] d.left d.down d.ops 0 := by
  refine .inr ⟨by omega, false, ⟨-1, ⟨l.length + 1, odd_L1 l hn h l.length _ 0 0 (by omega) (by omega)⟩, by decide⟩, .inr ⟨by decide, l.length + 1, ?_⟩⟩
  have := dk_restore_L1 d l hl hn h l.length (l.length + 1) 0 (by omega) (by omega)
  rwa [List.take_zero, List.drop_zero, List.nil_append] at this
theorem dk_restore_no (d : DS) (l : List R22) (hl : l.length ≠ d.p.length) : disk_Disk_Restore.rel d.p d.u d.left d.down d.ops l d.p d.u d.left d.down d.ops 1 :=
  .inl ⟨by omega, rfl, rfl, rfl, rfl, rfl, rfl⟩
def allW (D : List R69) (n : Nat) : List R69 := (List.range n).map fun k : Nat => ((k : Int), atD D (k : Int))
theorem allW_succ (D : List R69) (n : Nat) : allW D (n + 1) = allW D n ++ [((n : Int), atD D (n : Int))] := by
  unfold allW
  rw [List.range_succ, List.map_append]
  rfl
theorem allW_length (D : List R69) (n : Nat) : (allW D n).length = n := by simp [allW]
theorem allW_at (D : List R69) : ∀ (n k : Nat), k < n → atD (allW D n) k = atD D k
  | 0, k, h => by omega
  | n + 1, k, h => by
    rw [allW_succ, atD_cat]
    unfold lastW lastW
    simp only
    by_cases e : (n : Int) = (k : Int)
    · rw [if_pos e]
      have : n = k := by omega
      subst this
      rfl
    · rw [if_neg e]
      exact allW_at D n k (by omega)
theorem rf_restore_L1 (n : Nat) (D : List R69) (D1 U : List R86) (left : Int) (down : Bool) (ops : List R81) (z : Int) (hn : n ≤ 1000000) (h : ∀ k, k < n → (atD D (k : Int)).length = 192) : ∀ (k f i : Nat), i + k = n → k < f →
    reliquaryref06_Restore.L1 (n : Int) D1 U left down ops (imW D n) (n : Int) ((allW D n).map toW) [] left down ops 0 f ((allW D i).map toW) z i := by
  intro k
  induction k with
  | zero =>
    intro f i h1 h2
    obtain ⟨f, rfl⟩ : ∃ m, f = m + 1 := ⟨f - 1, by omega⟩
    obtain rfl : i = n := by omega
    exact .inr ⟨by rw [imW_length]; omega, rfl, rfl, rfl, rfl, rfl, rfl, rfl⟩
  | succ k ih =>
    intro f i h1 h2
    obtain ⟨f, rfl⟩ : ∃ m, f = m + 1 := ⟨f - 1, by omega⟩
    have hr := h i (by omega)
    have ih' := ih f (i + 1) (by omega) (by omega)
    rw [allW_succ, List.map_append] at ih'
    refine .inl ⟨by rw [imW_length]; omega, ⟨by omega, by rw [imW_length]; omega⟩, .inr ⟨?_, ⟨by omega, by rw [imW_length]; omega⟩, _, rfl, ?_, ?_⟩⟩
    · rw [Int.toNat_natCast, imW_gx D (by omega), size_strOf, hr]
      decide
    · rw [List.length_append, List.length_map, allW_length]; simp; omega
    · rw [Int.toNat_natCast, imW_gx D (by omega), show IntKind.i64.wrap ((i : Int) + 1) = ((i + 1 : Nat) : Int) by rw [w64 (by omega) (by omega)]; omega]
      exact ih'
theorem rf_restore (n : Nat) (D : List R69) (D1 U : List R86) (left : Int) (down : Bool) (ops : List R81) (hn : n ≤ 1000000) (h : ∀ k, k < n → (atD D (k : Int)).length = 192) :
    reliquaryref06_Restore.rel (n : Int) D1 U left down ops (imW D n) (n : Int) ((allW D n).map toW) [] left down ops 0 :=
  .inr ⟨by rw [imW_length]; omega, n + 1, rf_restore_L1 n D D1 U left down ops 0 hn h n (n + 1) 0 (by omega) (by omega)⟩
theorem rf_restore_no (n : Int) (D1 U : List R86) (left : Int) (down : Bool) (ops : List R81) (l : List R9) (h : (l.length : Int) ≠ n) : reliquaryref06_Restore.rel n D1 U left down ops l n D1 U left down ops 1 :=
  .inl ⟨h, rfl, rfl, rfl, rfl, rfl, rfl, rfl⟩

theorem images_L2 (l2 : List R33) (hk : ∀ x ∈ l2, ok33 x) (a3 : Bool) (d0 : DS) (D0 : List R69) (m0 n : Nat) (h0 : Inv m0 d0 D0) (hn : d0.p.length = n) (hn1 : 1 ≤ n) (hn6 : n ≤ 4096) (hm0 : m0 ≤ 1000) : ∀ (k f i : Nat) (d : DS) (D : List R69), i + k = min l2.length 20 → k < f → Inv (m0 + i) d D → d.p.length = n →
    reliquarylaw06_DiskImages.L2 l2 a3 d0.p (imW D0 n) f d.p d.u d.ops d.left d.down (n : Int) (D.map toW) (d.u.map toW) d.left d.down d.ops i := by
  intro k
  induction k with
  | zero =>
    intro f i d D h1 h2 h hd
    obtain ⟨f, rfl⟩ : ∃ m, f = m + 1 := ⟨f - 1, by omega⟩
    refine .inr ⟨by omega, ?_⟩
    cases a3 with
    | true =>
      have sm := dk_same d D (m0 + i) h (by omega)
      rw [hd] at sm
      have e1 : (prt d0.p (1 : Int) (d0.p.length : Int)).length = n - 1 := by rw [prt_length (by omega) (by omega) (by omega)]; omega
      have e2 : (prt (imW D0 n) (1 : Int) ((imW D0 n).length : Int)).length = n - 1 := by rw [prt_length (by omega) (by rw [imW_length]; omega) (by omega), imW_length]; omega
      exact .inl ⟨rfl, ⟨by omega, by omega, by omega⟩, ⟨by omega, by rw [imW_length]; omega, by omega⟩, _, _, _, _, _, _, dk_restore_no d _ (by omega), _, _, _, _, _, _, _, rf_restore_no _ _ _ _ _ _ _ (by omega), rfl, _, _, _, _, _, _, sm, rfl⟩
    | false =>
      have hat : ∀ k, k < n → (atD D0 (k : Int)).length = 192 := fun k hk => by rw [← h0.at_ k (by omega)]; exact h0.wf.rows _ (gx_mem (by omega))
      have r1 := dk_restore d d0.p (by omega) (by omega) h0.wf.rows
      have r2 := rf_restore n D0 (D.map toW) (d.u.map toW) d.left d.down d.ops (by omega) hat
      have hI : Inv 10000 ({ d with p := d0.p, u := [] } : DS) (allW D0 n) :=
        ⟨⟨h0.wf.rows, fun x hx => (by cases hx), ⟨by simp, h.wf.few.2.1, h0.wf.few.2.2⟩, h.wf.num⟩, by rw [allW_length]; simp; omega, by have := h.ops; show d.ops.length ≤ 10000; omega, fun k hk => by
          rw [allW_at D0 n k (by simp only at hk; omega)]
          exact h0.at_ k hk⟩
      have sm := dk_same _ _ 10000 hI (by omega)
      have sm' : reliquarylaw06_same.rel d0.p [] d.left d.down d.ops (n : Int) ((allW D0 n).map toW) [] d.left d.down d.ops d0.p [] d.left d.down d.ops true := by
        rw [← hn] at sm ⊢
        exact sm
      exact .inr ⟨by decide, _, _, _, _, _, _, r1, _, _, _, _, _, _, _, r2, rfl, _, _, _, _, _, _, sm', rfl⟩
  | succ k ih =>
    intro f i d D h1 h2 h hd
    obtain ⟨f, rfl⟩ : ∃ m, f = m + 1 := ⟨f - 1, by omega⟩
    have hi : i < l2.length := by omega
    obtain ⟨d', D', s1, s2, s3⟩ := dk_step d D (gx l2 i) (m0 + i) h (by omega) (hk _ (gx_mem hi)).2.1
    have ih' := ih f (i + 1) d' D' (by omega) (by omega) s2 (by omega)
    rw [hd] at s1
    refine .inl ⟨⟨by omega, by omega⟩, ⟨by omega, by omega⟩, ?_⟩
    rw [Int.toNat_natCast, show IntKind.i64.wrap ((i : Int) + 1) = ((i + 1 : Nat) : Int) by rw [w64 (by omega) (by omega)]; omega]
    exact ⟨_, _, _, _, _, _, _, _, _, _, _, _, s1, ih'⟩
theorem images_L1 (l1 l2 : List R33) (hk1 : ∀ x ∈ l1, ok33 x) (hk2 : ∀ x ∈ l2, ok33 x) (a3 : Bool) (n : Nat) (hn1 : 1 ≤ n) (hn6 : n ≤ 4096) : ∀ (k f i : Nat) (d : DS) (D : List R69), i + k = min l1.length 20 → k < f → Inv i d D → d.p.length = n →
    reliquarylaw06_DiskImages.L1 l1 l2 a3 f d.p d.u d.ops (n : Int) (D.map toW) (d.u.map toW) d.left d.down d.ops d.left d.down i := by
  intro k
  induction k with
  | zero =>
    intro f i d D h1 h2 h hd
    obtain ⟨f, rfl⟩ : ∃ m, f = m + 1 := ⟨f - 1, by omega⟩
    have := h.few
    exact .inr ⟨by omega, _, _, _, _, _, _, dk_image d h.wf, _, rf_image n D _ _ _ _ (by omega) (by omega), l2.length + 1, images_L2 l2 hk2 a3 d D i n h hd hn1 hn6 (by omega) (min l2.length 20) (l2.length + 1) 0 d D (by omega) (by omega) h hd⟩
  | succ k ih =>
    intro f i d D h1 h2 h hd
    obtain ⟨f, rfl⟩ : ∃ m, f = m + 1 := ⟨f - 1, by omega⟩
    have hi : i < l1.length := by omega
    obtain ⟨d', D', s1, s2, s3⟩ := dk_step d D (gx l1 i) i h (by omega) (hk1 _ (gx_mem hi)).2.1
    have ih' := ih f (i + 1) d' D' (by omega) (by omega) s2 (by omega)
    rw [hd] at s1
    refine .inl ⟨⟨by omega, by omega⟩, ⟨by omega, by omega⟩, ?_⟩
    rw [Int.toNat_natCast, show IntKind.i64.wrap ((i : Int) + 1) = ((i + 1 : Nat) : Int) by rw [w64 (by omega) (by omega)]; omega]
    exact ⟨_, _, _, _, _, _, _, _, _, _, _, _, s1, ih'⟩
theorem diskImages_pure (a0 : Int) (l1 l2 : List R33) (a3 : Bool) (h0 : 0 ≤ a0 ∧ a0 < 256) (h1 : l1.length ≤ 9223372036854775807) (hk1 : ∀ x ∈ l1, ok33 x) (h2 : l2.length ≤ 9223372036854775807) (hk2 : ∀ x ∈ l2, ok33 x) : reliquarylaw06_DiskImages.rel a0 l1 l2 a3 := by
  obtain ⟨t, ht, htt⟩ := tmod_nat h0.1 6 (by decide)
  have e : IntKind.i64.wrap ((IntKind.i64.wrap (Int.tmod a0 6)) + 1) = ((t + 1 : Nat) : Int) := by
    rw [show Int.tmod a0 6 = (t : Int) from ht, w64 (x := (t : Int)) (by omega) (by omega), w64 (x := (t : Int) + 1) (by omega) (by omega)]; omega
  unfold reliquarylaw06_DiskImages.rel
  rw [e]
  have hm := images_L1 l1 l2 hk1 hk2 a3 (t + 1) (by omega) (by omega) (min l1.length 20) (l1.length + 1) 0 (newD (t + 1)) [] (by omega) (by omega) (Inv.new (t + 1) (by omega)) (newD_len _)
  exact ⟨dk_awake, _, _, dk_new (t + 1) (by omega) (by omega), _, _, _, _, _, rfl, _, _, _, _, _, _, _, .inr ⟨by omega, .inr ⟨by omega, rfl, rfl, rfl, rfl, rfl, rfl, rfl⟩⟩, l1.length + 1, hm⟩
end Go.Proofs.Ytjlifbnkdfofhaa
