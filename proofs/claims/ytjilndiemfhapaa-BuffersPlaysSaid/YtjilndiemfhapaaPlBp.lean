/- Buffers: the reference computes the same rows; any operations: plainly. -/
import Derived.Test.YtjilndiemfhapaaPlBa
namespace Go.Proofs.Ytjilndiemfhapaa
open Go Go.Kr Go.RowKit
set_option linter.unusedVariables false
set_option linter.unusedSimpArgs false

/-! ### 1. The reference's rows -/
def toR (x : R60) : R51 := (x.1, strOfNums x.2.1, x.2.2)
theorem gx_map {α β : Type} [Inhabited α] [Inhabited β] (g : α → β) {l : List α} {i : Nat} (h : i < l.length) : gx (l.map g) i = g (gx l i) := by
  rw [gx_lt (by rw [List.length_map]; exact h), gx_lt h, List.getElem_map]
theorem gn_keys {l : List R60} {i : Nat} (h : i < l.length) : gn (l.map (·.1)) i = (gx l i).1 := by
  unfold gn
  rw [List.getD_eq_getElem?_getD, List.getElem?_map, List.getElem?_eq_getElem h, gx_lt h]
  rfl
theorem rf_find_L1 (l : List R60) (k : Int) : ∀ (d f i : Nat) (z : Int), i + d = l.length → d < f → l.length ≤ 1000000 → (∀ j, j < i → (gx l j).1 ≠ k) → reliquaryref15_Find.L1 (l.map toR) k (fix (keyB k) l) f z i := by
  intro d
  induction d with
  | zero =>
    intro f i z h1 h2 h3 h4
    obtain ⟨f, rfl⟩ : ∃ m, f = m + 1 := ⟨f - 1, by omega⟩
    refine .inr ⟨by rw [List.length_map]; omega, ?_⟩
    unfold fix
    rw [if_neg]
    intro hlt
    have := List.findIdx_getElem (p := keyB k) (w := hlt)
    have h5 := h4 _ (by omega : l.findIdx (keyB k) < i)
    rw [gx_lt hlt] at h5
    exact h5 (by simpa [keyB] using this)
  | succ d ih =>
    intro f i z h1 h2 h3 h4
    obtain ⟨f, rfl⟩ : ∃ m, f = m + 1 := ⟨f - 1, by omega⟩
    refine .inl ⟨by rw [List.length_map]; omega, ⟨by omega, by rw [List.length_map]; omega⟩, ?_⟩
    rw [Int.toNat_natCast, gx_map toR (by omega)]
    by_cases hk : (gx l i).1 = k
    · exact .inl ⟨hk, fix_eq (by omega) (by simpa [keyB] using hk) (fun j hj => by simpa [keyB] using h4 j hj)⟩
    · refine .inr ⟨hk, ?_⟩
      rw [show IntKind.i64.wrap ((i : Int) + 1) = ((i + 1 : Nat) : Int) by rw [w64 (by omega) (by omega)]; omega]
      refine ih f (i + 1) z (by omega) (by omega) h3 fun j hj => ?_
      rcases Nat.lt_or_ge j i with h | h
      · exact h4 j h
      · obtain rfl : j = i := by omega
        exact hk
theorem rf_find (l : List R60) (k : Int) (h : l.length ≤ 1000000) : reliquaryref15_Find.rel (l.map toR) k (fix (keyB k) l) :=
  ⟨l.length + 1, rf_find_L1 l k l.length _ 0 0 (by omega) (by omega) h (by omega)⟩
theorem rf_without (l : List R60) (i : Nat) (hi : i < l.length) (h : l.length ≤ 1000000) : reliquaryref15_without.rel (l.map toR) i ((without l i).map toR) := by
  have e1 : IntKind.i64.wrap ((i : Int) + 1) = ((i + 1 : Nat) : Int) := by rw [w64 (by omega) (by omega)]; omega
  have e2 : prt (l.map toR) ((i + 1 : Nat) : Int) ((l.map toR).length : Int) = (l.map toR).drop (i + 1) := by
    unfold prt
    rw [Int.toNat_natCast, Int.toNat_natCast, List.take_of_length_le (by simp)]
  have e3 : prt (l.map toR) 0 (i : Int) = (l.map toR).take i := by
    unfold prt
    rw [Int.toNat_natCast]
    simp
  unfold reliquaryref15_without.rel
  rw [e1, e2, e3]
  refine ⟨⟨by omega, by omega, by rw [List.length_map]; omega⟩, _, rfl, ?_, ⟨by omega, by rw [List.length_map]; omega, by omega⟩, _, rfl, ?_, ?_⟩
  · simp; omega
  · simp; omega
  · simp [without, List.map_take, List.map_drop]
theorem rf_first (x : R60) (l : List R60) (h : l.length ≤ 1000000) : reliquaryref15_first.rel x.1 (strOfNums x.2.1) x.2.2 (l.map toR) ((x :: l).map toR) :=
  ⟨_, rfl, by simp; omega, rfl⟩
theorem rf_get (a : Int) (l : List R60) (k : Int) (h : l.length ≤ 1000000) : reliquaryref15_Get.rel a (l.map toR) k a ((getF l k).1.map toR) (strOfNums (getF l k).2.1) (getF l k).2.2 := by
  unfold getF
  refine ⟨_, rf_find l k h, ?_⟩
  by_cases hf : fix (keyB k) l < 0
  · rw [if_pos hf]
    exact .inl ⟨hf, rfl, rfl, rfl, rfl⟩
  · rw [if_neg hf]
    obtain ⟨i, e, hi, _, _⟩ := fix_pos hf
    rw [e, Int.toNat_natCast, gx_map toR hi]
    exact .inr ⟨by omega, ⟨by omega, by rw [List.length_map]; omega⟩, _, rf_without l i hi h, _, rf_first (gx l i) (without l i) (by rw [without_length hi]; omega), rfl, rfl, rfl, rfl⟩
theorem map_hold {l : List R60} {i : Nat} (hi : i < l.length) (y : Int) : (l.map toR).set i ((gx (l.map toR) i).1, (gx (l.map toR) i).2.1, y) = (holdF l i y).map toR := by
  rw [gx_map toR hi]
  unfold holdF
  rw [List.map_set]
  rfl
theorem rf_pin (a : Int) (l : List R60) (k : Int) (h : l.length ≤ 1000000) (hh : ∀ x ∈ l, 0 ≤ x.2.2 ∧ x.2.2 ≤ 1000000) : reliquaryref15_Hold.rel a (l.map toR) k 1 a ((pinF l k).1.map toR) (pinF l k).2 := by
  unfold pinF
  refine ⟨_, rf_find l k h, ?_⟩
  by_cases hf : fix (keyB k) l < 0
  · rw [if_pos hf]
    exact .inl ⟨hf, rfl, rfl, rfl⟩
  · rw [if_neg hf]
    obtain ⟨i, e, hi, _, _⟩ := fix_pos hf
    have h1 := hh _ (gx_mem hi)
    have ew : IntKind.i64.wrap ((gx (l.map toR) i).2.2 + 1) = (gx l i).2.2 + 1 := by rw [gx_map toR hi]; exact w64 (by show _ ≤ (gx l i).2.2 + 1; omega) (by show (gx l i).2.2 + 1 ≤ _; omega)
    rw [e, Int.toNat_natCast, List.nil_append, ew]
    refine .inr ⟨by omega, ⟨by omega, by rw [List.length_map]; omega⟩, .inr ⟨by omega, _, rfl, by rw [List.length_map]; omega, ⟨by omega, by rw [List.length_map]; omega⟩, ⟨by omega, by rw [List.length_map]; omega⟩, _, rfl, rfl, ?_, rfl⟩⟩
    rw [ew]
    exact (map_hold hi _).symm
theorem rf_unpin (a : Int) (l : List R60) (k : Int) (h : l.length ≤ 1000000) (hh : ∀ x ∈ l, 0 ≤ x.2.2 ∧ x.2.2 ≤ 1000000) : reliquaryref15_Hold.rel a (l.map toR) k (-1) a ((unpinF l k).1.map toR) (unpinF l k).2 := by
  unfold unpinF
  refine ⟨_, rf_find l k h, ?_⟩
  by_cases hf : fix (keyB k) l < 0
  · rw [if_pos (.inl hf)]
    exact .inl ⟨hf, rfl, rfl, rfl⟩
  · obtain ⟨i, e, hi, _, _⟩ := fix_pos hf
    have h1 := hh _ (gx_mem hi)
    have ew : IntKind.i64.wrap ((gx (l.map toR) i).2.2 + -1) = (gx l i).2.2 - 1 := by rw [gx_map toR hi]; exact w64 (by show _ ≤ (gx l i).2.2 + -1; omega) (by show (gx l i).2.2 + -1 ≤ _; omega)
    rw [e, Int.toNat_natCast, List.nil_append, ew]
    refine .inr ⟨by omega, ⟨by omega, by rw [List.length_map]; omega⟩, ?_⟩
    by_cases h0 : (gx l i).2.2 = 0
    · rw [if_pos (.inr h0)]
      exact .inl ⟨by omega, rfl, rfl, rfl⟩
    · rw [if_neg (by rintro (h | h) <;> omega)]
      refine .inr ⟨by omega, _, rfl, by rw [List.length_map]; omega, ⟨by omega, by rw [List.length_map]; omega⟩, ⟨by omega, by rw [List.length_map]; omega⟩, _, rfl, rfl, ?_, rfl⟩
      rw [ew]
      exact (map_hold hi _).symm
theorem rf_drop (a : Int) (l : List R60) (k : Int) (h : l.length ≤ 1000000) : reliquaryref15_Drop.rel a (l.map toR) k a ((dropF l k).1.map toR) (dropF l k).2 := by
  unfold dropF
  refine ⟨_, rf_find l k h, ?_⟩
  by_cases hf : fix (keyB k) l < 0
  · rw [if_pos (.inl hf)]
    exact .inl ⟨hf, rfl, rfl, rfl⟩
  · obtain ⟨i, e, hi, _, _⟩ := fix_pos hf
    rw [e, Int.toNat_natCast, gx_map toR hi]
    refine .inr ⟨by omega, ⟨by omega, by rw [List.length_map]; omega⟩, ?_⟩
    by_cases h0 : (gx l i).2.2 > 0
    · rw [if_pos (.inr h0)]
      exact .inl ⟨h0, rfl, rfl, rfl⟩
    · rw [if_neg (by rintro (h | h) <;> omega)]
      exact .inr ⟨h0, _, rf_without l i hi h, rfl, rfl, rfl⟩
theorem rf_put_L2 (a : Int) (l : List R60) (k : Int) (z : Int) (K : List R51 → Int → Prop) (res : List R51 × Int) (hl : l.length ≤ 1000000) (hh : ∀ x ∈ l, 0 ≤ x.2.2)
    (hn : (∀ x ∈ l, x.2.2 ≠ 0) → res = (l.map toR, 17)) (hs : ∀ q, q < l.length → (gx l q).2.2 = 0 → (∀ p, q < p → p < l.length → (gx l p).2.2 ≠ 0) → K ((without l q).map toR) z) :
    ∀ (j f : Nat), j ≤ l.length → j < f → (∀ p, j ≤ p → p < l.length → (gx l p).2.2 ≠ 0) → reliquaryref15_Put.L2 a a res.1 res.2 (l.map toR) z K f ((j : Int) - 1) := by
  intro j
  induction j with
  | zero =>
    intro f h1 h2 h3
    obtain ⟨f, rfl⟩ : ∃ m, f = m + 1 := ⟨f - 1, by omega⟩
    have := hn fun x hx => by
      obtain ⟨p, hp, rfl⟩ := List.getElem_of_mem hx
      rw [← gx_lt hp]
      exact h3 p (by omega) hp
    exact .inr ⟨by omega, .inl ⟨by omega, rfl, by rw [this], by rw [this]⟩⟩
  | succ j ih =>
    intro f h1 h2 h3
    obtain ⟨f, rfl⟩ : ∃ m, f = m + 1 := ⟨f - 1, by omega⟩
    rw [show ((j + 1 : Nat) : Int) - 1 = (j : Int) by omega]
    refine .inl ⟨by omega, ⟨by omega, by rw [List.length_map]; omega⟩, ?_⟩
    rw [Int.toNat_natCast, gx_map toR (by omega)]
    have h4 := hh _ (gx_mem (l := l) (i := j) (by omega))
    by_cases h0 : (gx l j).2.2 = 0
    · refine .inr ⟨?_, .inr ⟨by omega, _, rf_without l j (by omega) hl, hs j (by omega) h0 fun p h5 h6 => h3 p (by omega) h6⟩⟩
      show ¬ (gx l j).2.2 > 0
      omega
    · refine .inl ⟨?_, ?_⟩
      · show (gx l j).2.2 > 0
        omega
      · rw [w64 (by omega) (by omega)]
        refine ih f (by omega) (by omega) fun p h5 h6 => ?_
        by_cases e : p = j
        · rw [e]; exact h0
        · exact h3 p (by omega) h6
theorem rf_put (a m : Int) (l : List R60) (k : Int) (b : List Int) (hm : m = if a < 0 then 0 else a) (h : l.length ≤ 1000000) (hlm : (l.length : Int) ≤ m) (hh : ∀ x ∈ l, 0 ≤ x.2.2) :
    reliquaryref15_Put.rel a (l.map toR) k (strOfNums b) a ((putF m l k b).1.map toR) (putF m l k b).2 := by
  unfold putF
  by_cases hb : b.length = 160
  · rw [if_neg (by omega)]
    refine .inr ⟨by rw [size_strOf]; omega, _, rf_find l k h, ?_⟩
    by_cases hf : fix (keyB k) l < 0
    · rw [if_pos hf]
      refine .inr ⟨by omega, 3, ?_⟩
      by_cases ha : a < 1
      · have hm0 : m = 0 := by rw [hm]; split <;> omega
        have hl0 : l = [] := List.eq_nil_of_length_eq_zero (by omega)
        subst hl0 hm0
        exact .inr ⟨by simp, .inl ⟨ha, rfl, rfl, rfl⟩⟩
      · have hma : m = a := by rw [hm, if_neg (by omega)]
        subst hma
        unfold roomF
        by_cases hge : (l.length : Int) ≥ m
        · rw [if_pos hge]
          refine .inl ⟨by rw [List.length_map]; omega, .inl ⟨by rw [List.length_map]; exact hge, l.length + 1, ?_⟩⟩
          rw [List.length_map, w64 (by omega) (by omega)]
          cases hlf : lastFree l with
          | none =>
            exact rf_put_L2 m l k 0 _ (l.map toR, 17) h hh (fun _ => rfl) (fun q h1 h2 h3 => by rw [lastFree_eq h1 h2 h3] at hlf; cases hlf) l.length _ (Nat.le_refl _) (by omega) (fun p h1 h2 => by omega)
          | some q =>
            obtain ⟨k1, k2, k3⟩ := lastFree_some hlf
            refine rf_put_L2 m l k 0 _ ((((k, b, 0) : R60) :: without l q).map toR, 0) h hh (fun hall => absurd k2 (hall _ (gx_mem k1))) (fun q' h1 h2 h3 => ?_) l.length _ (Nat.le_refl _) (by omega) (fun p h1 h2 => by omega)
            have e := lastFree_eq h1 h2 h3
            rw [hlf] at e
            cases e
            have hw := without_length k1
            have hfst := rf_first ((k, b, 0) : R60) (without l q) (by omega)
            by_cases h0 : l.length = 1
            · exact .inr ⟨by rw [List.length_map]; omega, .inr ⟨ha, _, hfst, rfl, rfl, rfl⟩⟩
            · exact .inl ⟨by rw [List.length_map]; omega, .inr ⟨by rw [List.length_map]; omega, .inr ⟨ha, _, hfst, rfl, rfl, rfl⟩⟩⟩
        · rw [if_neg hge]
          have hfst := rf_first ((k, b, 0) : R60) l h
          by_cases h0 : l.length = 0
          · exact .inr ⟨by rw [List.length_map]; omega, .inr ⟨ha, _, hfst, rfl, rfl, rfl⟩⟩
          · exact .inl ⟨by rw [List.length_map]; omega, .inr ⟨by rw [List.length_map]; omega, .inr ⟨ha, _, hfst, rfl, rfl, rfl⟩⟩⟩
    · rw [if_neg hf]
      obtain ⟨i, e, hi, _, _⟩ := fix_pos hf
      rw [e, Int.toNat_natCast, gx_map toR hi]
      exact .inl ⟨by omega, ⟨by omega, by rw [List.length_map]; omega⟩, _, rf_without l i hi h, _, rf_first ((gx l i).1, b, (gx l i).2.2) (without l i) (by rw [without_length hi]; omega), rfl, rfl, rfl⟩
  · rw [if_pos hb]
    exact .inl ⟨by rw [size_strOf]; omega, rfl, rfl, rfl⟩

/-! ### 2. What stays so -/
def Inv (m : Int) (n : Nat) (l : List R60) : Prop := (l.length : Int) ≤ m ∧ l.length ≤ n ∧ ∀ x ∈ l, x.2.1.length = 160 ∧ 0 ≤ x.2.2 ∧ x.2.2 ≤ (n : Int)
theorem Inv.up {m : Int} {n : Nat} {l : List R60} (h : Inv m n l) : Inv m (n + 1) l := ⟨h.1, by have := h.2.1; omega, fun x hx => by have := h.2.2 x hx; omega⟩
theorem mem_first {l : List R60} {i : Nat} {x : R60} (hi : i < l.length) (h : x ∈ toFront l i) : x ∈ l := by
  rcases List.mem_cons.1 h with rfl | h
  · exact gx_mem hi
  · exact mem_without h
theorem Inv.put {m : Int} {n : Nat} {l : List R60} (h : Inv m n l) (hm : 0 ≤ m) (k : Int) {b : List Int} : Inv m (n + 1) (putF m l k b).1 := by
  obtain ⟨h1, h2, h3⟩ := h
  unfold putF
  split
  · exact Inv.up ⟨h1, h2, h3⟩
  · rename_i hb
    split
    · cases hr : roomF m l with
      | none => exact Inv.up ⟨h1, h2, h3⟩
      | some l' =>
        have hl := (roomF_length hr).1
        have hl2 := (roomF_length hr).2 h1
        have hmem : ∀ x ∈ l', x ∈ l := by
          unfold roomF at hr
          split at hr
          · cases hq : lastFree l with
            | none => rw [hq] at hr; cases hr
            | some q => rw [hq] at hr; cases hr; exact fun x hx => mem_without hx
          · cases hr; exact fun x hx => hx
        refine ⟨?_, by simp only [List.length_cons]; omega, fun x hx => ?_⟩
        · simp only [List.length_cons]
          rcases hl2 with h | h
          · omega
          · exfalso
            have hl0 : l = [] := List.eq_nil_of_length_eq_zero (by omega)
            subst hl0
            unfold roomF at hr
            rw [if_pos (by simp; omega)] at hr
            cases hr
        · rcases List.mem_cons.1 hx with rfl | hx
          · exact ⟨by show b.length = 160; omega, by show (0 : Int) ≤ 0; omega, by show (0 : Int) ≤ _; omega⟩
          · have := h3 x (hmem x hx); omega
    · rename_i hf
      obtain ⟨i, e, hi, _, _⟩ := fix_pos hf
      rw [e, Int.toNat_natCast]
      have hw := without_length hi
      have hg := h3 _ (gx_mem hi)
      refine ⟨by simp only [List.length_cons]; omega, by simp only [List.length_cons]; omega, fun x hx => ?_⟩
      rcases List.mem_cons.1 hx with rfl | hx
      · exact ⟨by show b.length = 160; omega, hg.2.1, by show (gx l i).2.2 ≤ _; omega⟩
      · have := h3 x (mem_without hx); omega
theorem Inv.get {m : Int} {n : Nat} {l : List R60} (h : Inv m n l) (k : Int) : Inv m (n + 1) (getF l k).1 := by
  unfold getF
  split
  · exact h.up
  · rename_i hf
    obtain ⟨i, e, hi, _, _⟩ := fix_pos hf
    rw [e, Int.toNat_natCast]
    exact Inv.up ⟨by rw [toFront_length hi]; exact h.1, by rw [toFront_length hi]; exact h.2.1, fun x hx => h.2.2 x (mem_first hi hx)⟩
theorem Inv.held {m : Int} {n : Nat} {l : List R60} (h : Inv m n l) {i : Nat} (hi : i < l.length) {y : Int} (h0 : 0 ≤ y) (h1 : y ≤ (gx l i).2.2 + 1) : Inv m (n + 1) (holdF l i y) := by
  have hg := h.2.2 _ (gx_mem hi)
  refine ⟨by unfold holdF; rw [List.length_set]; exact h.1, by unfold holdF; rw [List.length_set]; have := h.2.1; omega, fun x hx => ?_⟩
  rcases List.mem_or_eq_of_mem_set hx with hx | rfl
  · have := h.2.2 x hx; omega
  · exact ⟨hg.1, h0, by show y ≤ _; omega⟩
theorem Inv.pin {m : Int} {n : Nat} {l : List R60} (h : Inv m n l) (k : Int) : Inv m (n + 1) (pinF l k).1 := by
  unfold pinF
  split
  · exact h.up
  · rename_i hf
    obtain ⟨i, e, hi, _, _⟩ := fix_pos hf
    rw [e, Int.toNat_natCast]
    have := h.2.2 _ (gx_mem hi)
    exact h.held hi (by omega) (by omega)
theorem Inv.unpin {m : Int} {n : Nat} {l : List R60} (h : Inv m n l) (k : Int) : Inv m (n + 1) (unpinF l k).1 := by
  unfold unpinF
  split
  · exact h.up
  · rename_i hf
    obtain ⟨hf, h0⟩ := not_or.1 hf
    obtain ⟨i, e, hi, _, _⟩ := fix_pos hf
    rw [e, Int.toNat_natCast] at h0 ⊢
    have := h.2.2 _ (gx_mem hi)
    exact h.held hi (by omega) (by omega)
theorem Inv.drop {m : Int} {n : Nat} {l : List R60} (h : Inv m n l) (k : Int) : Inv m (n + 1) (dropF l k).1 := by
  unfold dropF
  split
  · exact h.up
  · rename_i hf
    obtain ⟨hf, h0⟩ := not_or.1 hf
    obtain ⟨i, e, hi, _, _⟩ := fix_pos hf
    rw [e, Int.toNat_natCast]
    have hw := without_length hi
    have := h.1
    have := h.2.1
    exact Inv.up ⟨by show ((without l i).length : Int) ≤ m; omega, by show (without l i).length ≤ n; omega, fun x hx => h.2.2 x (mem_without hx)⟩

/-! ### 3. The rows told are the same -/
theorem cmp_L2 {K : List R60 → Int → List R51 → Int → Bool → Int → Prop} (x a0 a1 : Int) (l : List R60) (b : Bool) (hl : l.length ≤ 1000000) (h : K l a0 (l.map toR) a1 b (IntKind.i64.wrap (x + 1))) : ∀ (d f j : Nat), j + d = l.length → d < f → reliquarylaw15_BuffersPlays.L2 x a0 (l.map toR) a1 l (l.map (·.1)) K f b j := by
  intro d
  induction d with
  | zero =>
    intro f j h1 h2
    obtain ⟨f, rfl⟩ : ∃ m, f = m + 1 := ⟨f - 1, by omega⟩
    exact .inr ⟨by rw [List.length_map]; omega, h⟩
  | succ d ih =>
    intro f j h1 h2
    obtain ⟨f, rfl⟩ : ∃ m, f = m + 1 := ⟨f - 1, by omega⟩
    refine .inl ⟨by rw [List.length_map]; omega, ⟨by omega, by rw [List.length_map]; omega⟩, ⟨by omega, by rw [List.length_map]; omega⟩, ?_, ?_⟩
    · rw [Int.toNat_natCast, gx_map toR (by omega), gn_keys (by omega)]
      exact fun h => h rfl
    · rw [show IntKind.i64.wrap ((j : Int) + 1) = ((j + 1 : Nat) : Int) by rw [w64 (by omega) (by omega)]; omega]
      exact ih f (j + 1) (by omega) (by omega)
theorem cmp_L3 {K : List R60 → Int → List R51 → Int → Bool → Int → Prop} (x a0 a1 : Int) (l : List R60) (b : Bool) (hl : l.length ≤ 1000000) (h : K l a0 (l.map toR) a1 b (IntKind.i64.wrap (x + 1))) : ∀ (d f j : Nat), j + d = l.length → d < f → reliquarylaw15_BuffersPlays.L3 x a0 (l.map toR) a1 l (l.map (·.1)) K f b j := by
  intro d
  induction d with
  | zero =>
    intro f j h1 h2
    obtain ⟨f, rfl⟩ : ∃ m, f = m + 1 := ⟨f - 1, by omega⟩
    exact .inr ⟨by rw [List.length_map]; omega, h⟩
  | succ d ih =>
    intro f j h1 h2
    obtain ⟨f, rfl⟩ : ∃ m, f = m + 1 := ⟨f - 1, by omega⟩
    refine .inl ⟨by rw [List.length_map]; omega, ⟨by omega, by rw [List.length_map]; omega⟩, ⟨by omega, by rw [List.length_map]; omega⟩, ?_, ?_⟩
    · rw [Int.toNat_natCast, gx_map toR (by omega), gn_keys (by omega)]
      exact fun h => h rfl
    · rw [show IntKind.i64.wrap ((j : Int) + 1) = ((j + 1 : Nat) : Int) by rw [w64 (by omega) (by omega)]; omega]
      exact ih f (j + 1) (by omega) (by omega)
theorem cmp_L4 {K : List R60 → Int → List R51 → Int → Bool → Int → Prop} (x a0 a1 : Int) (l : List R60) (b : Bool) (hl : l.length ≤ 1000000) (h : K l a0 (l.map toR) a1 b (IntKind.i64.wrap (x + 1))) : ∀ (d f j : Nat), j + d = l.length → d < f → reliquarylaw15_BuffersPlays.L4 x a0 (l.map toR) a1 l (l.map (·.1)) K f b j := by
  intro d
  induction d with
  | zero =>
    intro f j h1 h2
    obtain ⟨f, rfl⟩ : ∃ m, f = m + 1 := ⟨f - 1, by omega⟩
    exact .inr ⟨by rw [List.length_map]; omega, h⟩
  | succ d ih =>
    intro f j h1 h2
    obtain ⟨f, rfl⟩ : ∃ m, f = m + 1 := ⟨f - 1, by omega⟩
    refine .inl ⟨by rw [List.length_map]; omega, ⟨by omega, by rw [List.length_map]; omega⟩, ⟨by omega, by rw [List.length_map]; omega⟩, ?_, ?_⟩
    · rw [Int.toNat_natCast, gx_map toR (by omega), gn_keys (by omega)]
      exact fun h => h rfl
    · rw [show IntKind.i64.wrap ((j : Int) + 1) = ((j + 1 : Nat) : Int) by rw [w64 (by omega) (by omega)]; omega]
      exact ih f (j + 1) (by omega) (by omega)
theorem cmp_L5 {K : List R60 → Int → List R51 → Int → Bool → Int → Prop} (x a0 a1 : Int) (l : List R60) (b : Bool) (hl : l.length ≤ 1000000) (h : K l a0 (l.map toR) a1 b (IntKind.i64.wrap (x + 1))) : ∀ (d f j : Nat), j + d = l.length → d < f → reliquarylaw15_BuffersPlays.L5 x a0 (l.map toR) a1 l (l.map (·.1)) K f b j := by
  intro d
  induction d with
  | zero =>
    intro f j h1 h2
    obtain ⟨f, rfl⟩ : ∃ m, f = m + 1 := ⟨f - 1, by omega⟩
    exact .inr ⟨by rw [List.length_map]; omega, h⟩
  | succ d ih =>
    intro f j h1 h2
    obtain ⟨f, rfl⟩ : ∃ m, f = m + 1 := ⟨f - 1, by omega⟩
    refine .inl ⟨by rw [List.length_map]; omega, ⟨by omega, by rw [List.length_map]; omega⟩, ⟨by omega, by rw [List.length_map]; omega⟩, ?_, ?_⟩
    · rw [Int.toNat_natCast, gx_map toR (by omega), gn_keys (by omega)]
      exact fun h => h rfl
    · rw [show IntKind.i64.wrap ((j : Int) + 1) = ((j + 1 : Nat) : Int) by rw [w64 (by omega) (by omega)]; omega]
      exact ih f (j + 1) (by omega) (by omega)
theorem cmp_L6 {K : List R60 → Int → List R51 → Int → Bool → Int → Prop} (x a0 a1 : Int) (l : List R60) (b : Bool) (hl : l.length ≤ 1000000) (h : K l a0 (l.map toR) a1 b (IntKind.i64.wrap (x + 1))) : ∀ (d f j : Nat), j + d = l.length → d < f → reliquarylaw15_BuffersPlays.L6 x a0 (l.map toR) a1 l (l.map (·.1)) K f b j := by
  intro d
  induction d with
  | zero =>
    intro f j h1 h2
    obtain ⟨f, rfl⟩ : ∃ m, f = m + 1 := ⟨f - 1, by omega⟩
    exact .inr ⟨by rw [List.length_map]; omega, h⟩
  | succ d ih =>
    intro f j h1 h2
    obtain ⟨f, rfl⟩ : ∃ m, f = m + 1 := ⟨f - 1, by omega⟩
    refine .inl ⟨by rw [List.length_map]; omega, ⟨by omega, by rw [List.length_map]; omega⟩, ⟨by omega, by rw [List.length_map]; omega⟩, ?_, ?_⟩
    · rw [Int.toNat_natCast, gx_map toR (by omega), gn_keys (by omega)]
      exact fun h => h rfl
    · rw [show IntKind.i64.wrap ((j : Int) + 1) = ((j + 1 : Nat) : Int) by rw [w64 (by omega) (by omega)]; omega]
      exact ih f (j + 1) (by omega) (by omega)
theorem cmp_L7 {K : List R60 → Int → List R51 → Int → Bool → Int → Prop} (x a0 a1 : Int) (l : List R60) (b : Bool) (hl : l.length ≤ 1000000) (h : K l a0 (l.map toR) a1 b (IntKind.i64.wrap (x + 1))) : ∀ (d f j : Nat), j + d = l.length → d < f → reliquarylaw15_BuffersPlays.L7 x a0 (l.map toR) a1 l (l.map (·.1)) K f b j := by
  intro d
  induction d with
  | zero =>
    intro f j h1 h2
    obtain ⟨f, rfl⟩ : ∃ m, f = m + 1 := ⟨f - 1, by omega⟩
    exact .inr ⟨by rw [List.length_map]; omega, h⟩
  | succ d ih =>
    intro f j h1 h2
    obtain ⟨f, rfl⟩ : ∃ m, f = m + 1 := ⟨f - 1, by omega⟩
    refine .inl ⟨by rw [List.length_map]; omega, ⟨by omega, by rw [List.length_map]; omega⟩, ⟨by omega, by rw [List.length_map]; omega⟩, ?_, ?_⟩
    · rw [Int.toNat_natCast, gx_map toR (by omega), gn_keys (by omega)]
      exact fun h => h rfl
    · rw [show IntKind.i64.wrap ((j : Int) + 1) = ((j + 1 : Nat) : Int) by rw [w64 (by omega) (by omega)]; omega]
      exact ih f (j + 1) (by omega) (by omega)
theorem cmp_L8 {K : List R60 → Int → List R51 → Int → Bool → Int → Prop} (x a0 a1 : Int) (l : List R60) (b : Bool) (hl : l.length ≤ 1000000) (h : K l a0 (l.map toR) a1 b (IntKind.i64.wrap (x + 1))) : ∀ (d f j : Nat), j + d = l.length → d < f → reliquarylaw15_BuffersPlays.L8 x a0 (l.map toR) a1 l (l.map (·.1)) K f b j := by
  intro d
  induction d with
  | zero =>
    intro f j h1 h2
    obtain ⟨f, rfl⟩ : ∃ m, f = m + 1 := ⟨f - 1, by omega⟩
    exact .inr ⟨by rw [List.length_map]; omega, h⟩
  | succ d ih =>
    intro f j h1 h2
    obtain ⟨f, rfl⟩ : ∃ m, f = m + 1 := ⟨f - 1, by omega⟩
    refine .inl ⟨by rw [List.length_map]; omega, ⟨by omega, by rw [List.length_map]; omega⟩, ⟨by omega, by rw [List.length_map]; omega⟩, ?_, ?_⟩
    · rw [Int.toNat_natCast, gx_map toR (by omega), gn_keys (by omega)]
      exact fun h => h rfl
    · rw [show IntKind.i64.wrap ((j : Int) + 1) = ((j + 1 : Nat) : Int) by rw [w64 (by omega) (by omega)]; omega]
      exact ih f (j + 1) (by omega) (by omega)
theorem cmp_L10 {K : List R60 → Int → List R51 → Int → Bool → Int → Prop} (x a0 a1 : Int) (l : List R60) (b : Bool) (hl : l.length ≤ 1000000) (h : K l a0 (l.map toR) a1 b (IntKind.i64.wrap (x + 1))) : ∀ (d f j : Nat), j + d = l.length → d < f → reliquarylaw15_BuffersPlays.L10 a0 (l.map toR) x a1 l (l.map (·.1)) K f b j := by
  intro d
  induction d with
  | zero =>
    intro f j h1 h2
    obtain ⟨f, rfl⟩ : ∃ m, f = m + 1 := ⟨f - 1, by omega⟩
    exact .inr ⟨by rw [List.length_map]; omega, h⟩
  | succ d ih =>
    intro f j h1 h2
    obtain ⟨f, rfl⟩ : ∃ m, f = m + 1 := ⟨f - 1, by omega⟩
    refine .inl ⟨by rw [List.length_map]; omega, ⟨by omega, by rw [List.length_map]; omega⟩, ⟨by omega, by rw [List.length_map]; omega⟩, ?_, ?_⟩
    · rw [Int.toNat_natCast, gx_map toR (by omega), gn_keys (by omega)]
      exact fun h => h rfl
    · rw [show IntKind.i64.wrap ((j : Int) + 1) = ((j + 1 : Nat) : Int) by rw [w64 (by omega) (by omega)]; omega]
      exact ih f (j + 1) (by omega) (by omega)

/-! ### 4. Any operations -/
theorem plays_L1 (l1 : List R41) (a0 m : Int) (hm : m = if a0 < 0 then 0 else a0) : ∀ (d f i : Nat) (l : List R60), i + d = min l1.length 60 → d < f → Inv m i l → reliquarylaw15_BuffersPlays.L1 l1 f l a0 (l.map toR) m false i := by
  have hm0 : 0 ≤ m := by rw [hm]; split <;> omega
  intro d
  induction d with
  | zero =>
    intro f i l h1 h2 hI
    obtain ⟨f, rfl⟩ : ∃ m, f = m + 1 := ⟨f - 1, by omega⟩
    by_cases h : i < l1.length
    · exact .inl ⟨by omega, .inr ⟨by omega, trivial⟩⟩
    · exact .inr ⟨by omega, trivial⟩
  | succ d ih =>
    intro f i l h1 h2 hI
    obtain ⟨f, rfl⟩ : ∃ m, f = m + 1 := ⟨f - 1, by omega⟩
    obtain ⟨k1, k2, k3⟩ := hI
    have hI : Inv m i l := ⟨k1, k2, k3⟩
    have hl : l.length ≤ 1000000 := by omega
    have hb : ∀ x ∈ l, x.2.1.length ≤ 1000000 := fun x hx => by have := k3 x hx; omega
    have hh : ∀ x ∈ l, 0 ≤ x.2.2 ∧ x.2.2 ≤ 1000000 := fun x hx => by have := k3 x hx; omega
    obtain ⟨g, hg⟩ : ∃ g, g = gx l1 i := ⟨_, rfl⟩
    obtain ⟨r, hr⟩ : ∃ r, reliquarylaw15_full.rel g.2.2.1 g.2.2.2 r := by
      cases g.2.2.2 with
      | true => exact ⟨_, bu_short _⟩
      | false => exact ⟨_, bu_full _⟩
    obtain ⟨t, ht⟩ : ∃ t, t = bits .and .i64 g.1 7 := ⟨_, rfl⟩
    have next : ∀ l', Inv m (i + 1) l' → reliquarylaw15_BuffersPlays.L1 l1 f l' a0 (l'.map toR) m false (IntKind.i64.wrap ((i : Int) + 1)) := fun l' h' => by
      rw [show IntKind.i64.wrap ((i : Int) + 1) = ((i + 1 : Nat) : Int) by rw [w64 (by omega) (by omega)]; omega]
      exact ih f (i + 1) l' (by omega) (by omega) h'
    have small : ∀ {l' : List R60}, Inv m (i + 1) l' → l'.length ≤ 1000000 := fun h' => by have := h'.2.1; omega
    have same : ∀ l' : List R60, ¬ (((l'.map (·.1)).length : Int) ≠ ((l'.map toR).length : Int)) := fun l' => by rw [List.length_map, List.length_map]; exact fun h => h rfl
    refine .inl ⟨by omega, .inl ⟨by omega, ⟨by omega, by omega⟩, r, ?_⟩⟩
    rw [Int.toNat_natCast, ← hg, ← ht]
    refine ⟨hr, ?_⟩
    have iP := hI.put hm0 g.2.1 (b := r)
    have iG := hI.get g.2.1
    by_cases t0 : t = 0
    · exact .inl ⟨t0, _, _, _, bu_put m l g.2.1 r hl k1, _, _, _, rf_put a0 m l g.2.1 r hm hl k1 (fun x hx => (hh x hx).1), _, _, _, bu_blocks m _ (small iP), fun h => h rfl, same _, _,
        cmp_L2 _ _ _ _ _ (small iP) (next _ iP) _ _ 0 (Nat.zero_add _) (Nat.lt_succ_self _)⟩
    refine .inr ⟨t0, ?_⟩
    by_cases t1 : t = 1
    · exact .inl ⟨t1, _, _, _, bu_put m l g.2.1 r hl k1, _, _, _, rf_put a0 m l g.2.1 r hm hl k1 (fun x hx => (hh x hx).1), _, _, _, bu_blocks m _ (small iP), fun h => h rfl, same _, _,
        cmp_L3 _ _ _ _ _ (small iP) (next _ iP) _ _ 0 (Nat.zero_add _) (Nat.lt_succ_self _)⟩
    refine .inr ⟨t1, ?_⟩
    by_cases t2 : t = 2
    · exact .inl ⟨t2, _, _, _, _, bu_get m l g.2.1 hl hb, _, _, _, _, rf_get a0 l g.2.1 hl, rfl, _, _, _, bu_blocks m _ (small iG), fun h => h rfl, same _, _,
        cmp_L4 _ _ _ _ _ (small iG) (next _ iG) _ _ 0 (Nat.zero_add _) (Nat.lt_succ_self _)⟩
    refine .inr ⟨t2, ?_⟩
    by_cases t3 : t = 3
    · exact .inl ⟨t3, _, _, _, _, bu_get m l g.2.1 hl hb, _, _, _, _, rf_get a0 l g.2.1 hl, rfl, _, _, _, bu_blocks m _ (small iG), fun h => h rfl, same _, _,
        cmp_L5 _ _ _ _ _ (small iG) (next _ iG) _ _ 0 (Nat.zero_add _) (Nat.lt_succ_self _)⟩
    refine .inr ⟨t3, ?_⟩
    by_cases t4 : t = 4
    · exact .inl ⟨t4, _, _, _, bu_pin m l g.2.1 hl hh, _, _, _, rf_pin a0 l g.2.1 hl hh, _, _, _, bu_blocks m _ (small (hI.pin g.2.1)), fun h => h rfl, same _, _,
        cmp_L6 _ _ _ _ _ (small (hI.pin g.2.1)) (next _ (hI.pin g.2.1)) _ _ 0 (Nat.zero_add _) (Nat.lt_succ_self _)⟩
    refine .inr ⟨t4, ?_⟩
    by_cases t5 : t = 5
    · exact .inl ⟨t5, _, _, _, bu_unpin m l g.2.1 hl hh, _, _, _, rf_unpin a0 l g.2.1 hl hh, _, _, _, bu_blocks m _ (small (hI.unpin g.2.1)), fun h => h rfl, same _, _,
        cmp_L7 _ _ _ _ _ (small (hI.unpin g.2.1)) (next _ (hI.unpin g.2.1)) _ _ 0 (Nat.zero_add _) (Nat.lt_succ_self _)⟩
    refine .inr ⟨t5, ?_⟩
    by_cases t6 : t = 6
    · exact .inl ⟨t6, _, _, _, bu_drop m l g.2.1 hl, _, _, _, rf_drop a0 l g.2.1 hl, _, _, _, bu_blocks m _ (small (hI.drop g.2.1)), fun h => h rfl, same _, _,
        cmp_L8 _ _ _ _ _ (small (hI.drop g.2.1)) (next _ (hI.drop g.2.1)) _ _ 0 (Nat.zero_add _) (Nat.lt_succ_self _)⟩
    refine .inr ⟨t6, ?_⟩
    by_cases hs : g.2.2.2 = true
    · exact .inl ⟨hs, _, _, bu_clear m l, _, _, _, bu_blocks m [] (by decide), by simp, 1, ⟨by simp, next [] ⟨by simpa using hm0, by simp, by simp⟩⟩⟩
    · exact .inr ⟨hs, _, _, _, bu_blocks m l hl, same _, _, cmp_L10 _ _ _ _ _ hl (next _ hI.up) _ _ 0 (Nat.zero_add _) (Nat.lt_succ_self _)⟩
def ok41 (x : R41) : Prop := (-9223372036854775808 ≤ x.1 ∧ x.1 ≤ 9223372036854775807) ∧ (0 ≤ x.2.1 ∧ x.2.1 < 18446744073709551616) ∧ (x.2.2.1.length ≤ 9223372036854775807 ∧ Byt x.2.2.1) ∧ True
theorem buffersPlays_pure (a0 : Int) (l1 : List R41) (h0 : -9223372036854775808 ≤ a0 ∧ a0 ≤ 9223372036854775807) (h1 : l1.length ≤ 9223372036854775807) (h2 : ∀ x ∈ l1, ok41 x) : reliquarylaw15_BuffersPlays.rel a0 l1 := by
  refine ⟨bu_awake, (if a0 < 0 then 0 else a0), [], ⟨?_, rfl⟩, l1.length + 1, plays_L1 l1 a0 _ rfl (min l1.length 60) _ 0 [] (by omega) (by omega) ⟨by split <;> simp <;> omega, by simp, by simp⟩⟩
  unfold maxI
  split <;> rfl
end Go.Proofs.Ytjilndiemfhapaa
