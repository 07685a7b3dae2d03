/- The tree's nodes: the document's Put and Get. -/
import Derived.Test.YtekpnjhacnkgcaaDoorPlTr
namespace Go.Proofs.YtekpnjhacnkgcaaDoor
open Go Go.Kr Go.RowKit
set_option linter.unusedVariables false
set_option linter.unusedSimpArgs false
/-! ### 3. The document's -/
theorem rg_L4 (l : List Int) (hb : Byt l) (hl : l.length = 160) : ∀ (d k i : Nat) (m : List Int) (x : Int) (b : Bool), i + d = 32 → d < k → m.length = 32 → (∀ j, j < i → gn m j = gn l (120 + j)) →
    reliquaryref10_Get.L4 l (gs l 0) (st l 0) (gs l 1) (st l 1) (gs l 2) (st l 2) (gs l 3) (st l 3) 0 (st l 0) (st l 1) (st l 2) k (gs l 0) (gs l 1) (gs l 2) m i x b := by
  intro d
  induction d with
  | zero =>
    intro k i m x b h1 h2 hm hj
    obtain ⟨k, rfl⟩ : ∃ m, k = m + 1 := ⟨k - 1, by omega⟩
    have hg := rget_rel l hb 152 8 (by omega) (by omega) (by omega)
    rw [getf_node l hl 152 (by omega)] at hg
    have em : gs l 3 = m := gs_eq hm fun j h => hj j (by omega)
    exact .inr ⟨by omega, _, _, hg, rfl, rfl, rfl, rfl, rfl, rfl, em, rfl, rfl⟩
  | succ d ih =>
    intro k i m x b h1 h2 hm hj
    obtain ⟨k, rfl⟩ : ∃ m, k = m + 1 := ⟨k - 1, by omega⟩
    have e : IntKind.i64.wrap (120 + (i : Int)) = ((120 + i : Nat) : Int) := by rw [w64 (by omega) (by omega)]; omega
    unfold reliquaryref10_Get.L4
    rw [e, Int.toNat_natCast, Int.toNat_natCast]
    refine .inl ⟨by omega, ⟨by omega, by omega⟩, ⟨by omega, by omega⟩, _, rfl, ?_⟩
    rw [w64 (by omega) (by omega)]
    refine ih k (i + 1) _ _ _ (by omega) (by omega) (by simpa using hm) fun j hh => ?_
    rw [gn_set (by omega)]
    split
    · rename_i ej; subst ej; rfl
    · exact hj j (by omega)
theorem rg_L3 (l : List Int) (hb : Byt l) (hl : l.length = 160) : ∀ (d k i : Nat) (m : List Int) (x : Int) (b : Bool), i + d = 32 → d < k → m.length = 32 → (∀ j, j < i → gn m j = gn l (80 + j)) →
    reliquaryref10_Get.L3 l (gs l 0) (st l 0) (gs l 1) (st l 1) (gs l 2) (st l 2) (gs l 3) (st l 3) 0 (st l 0) (st l 1) k (gs l 0) (gs l 1) m (List.replicate 32 0) i x b := by
  intro d
  induction d with
  | zero =>
    intro k i m x b h1 h2 hm hj
    obtain ⟨k, rfl⟩ : ∃ m, k = m + 1 := ⟨k - 1, by omega⟩
    have hg := rget_rel l hb 112 8 (by omega) (by omega) (by omega)
    rw [getf_node l hl 112 (by omega)] at hg
    have em : gs l 2 = m := gs_eq hm fun j h => hj j (by omega)
    refine .inr ⟨by omega, _, _, hg, 33, ?_⟩
    rw [← em]
    exact rg_L4 l hb hl 32 33 0 _ _ _ (by omega) (by omega) (by simp) (fun j h => by omega)
  | succ d ih =>
    intro k i m x b h1 h2 hm hj
    obtain ⟨k, rfl⟩ : ∃ m, k = m + 1 := ⟨k - 1, by omega⟩
    have e : IntKind.i64.wrap (80 + (i : Int)) = ((80 + i : Nat) : Int) := by rw [w64 (by omega) (by omega)]; omega
    unfold reliquaryref10_Get.L3
    rw [e, Int.toNat_natCast, Int.toNat_natCast]
    refine .inl ⟨by omega, ⟨by omega, by omega⟩, ⟨by omega, by omega⟩, _, rfl, ?_⟩
    rw [w64 (by omega) (by omega)]
    refine ih k (i + 1) _ _ _ (by omega) (by omega) (by simpa using hm) fun j hh => ?_
    rw [gn_set (by omega)]
    split
    · rename_i ej; subst ej; rfl
    · exact hj j (by omega)
theorem rg_L2 (l : List Int) (hb : Byt l) (hl : l.length = 160) : ∀ (d k i : Nat) (m : List Int) (x : Int) (b : Bool), i + d = 32 → d < k → m.length = 32 → (∀ j, j < i → gn m j = gn l (40 + j)) →
    reliquaryref10_Get.L2 l (gs l 0) (st l 0) (gs l 1) (st l 1) (gs l 2) (st l 2) (gs l 3) (st l 3) 0 (st l 0) k (gs l 0) m (List.replicate 32 0) (List.replicate 32 0) i x b := by
  intro d
  induction d with
  | zero =>
    intro k i m x b h1 h2 hm hj
    obtain ⟨k, rfl⟩ : ∃ m, k = m + 1 := ⟨k - 1, by omega⟩
    have hg := rget_rel l hb 72 8 (by omega) (by omega) (by omega)
    rw [getf_node l hl 72 (by omega)] at hg
    have em : gs l 1 = m := gs_eq hm fun j h => hj j (by omega)
    refine .inr ⟨by omega, _, _, hg, 33, ?_⟩
    rw [← em]
    exact rg_L3 l hb hl 32 33 0 _ _ _ (by omega) (by omega) (by simp) (fun j h => by omega)
  | succ d ih =>
    intro k i m x b h1 h2 hm hj
    obtain ⟨k, rfl⟩ : ∃ m, k = m + 1 := ⟨k - 1, by omega⟩
    have e : IntKind.i64.wrap (40 + (i : Int)) = ((40 + i : Nat) : Int) := by rw [w64 (by omega) (by omega)]; omega
    unfold reliquaryref10_Get.L2
    rw [e, Int.toNat_natCast, Int.toNat_natCast]
    refine .inl ⟨by omega, ⟨by omega, by omega⟩, ⟨by omega, by omega⟩, _, rfl, ?_⟩
    rw [w64 (by omega) (by omega)]
    refine ih k (i + 1) _ _ _ (by omega) (by omega) (by simpa using hm) fun j hh => ?_
    rw [gn_set (by omega)]
    split
    · rename_i ej; subst ej; rfl
    · exact hj j (by omega)
theorem rg_L1 (l : List Int) (hb : Byt l) (hl : l.length = 160) : ∀ (d k i : Nat) (m : List Int), i + d = 32 → d < k → m.length = 32 → (∀ j, j < i → gn m j = gn l (0 + j)) →
    reliquaryref10_Get.L1 l (gs l 0) (st l 0) (gs l 1) (st l 1) (gs l 2) (st l 2) (gs l 3) (st l 3) 0 k m (List.replicate 32 0) (List.replicate 32 0) (List.replicate 32 0) i := by
  intro d
  induction d with
  | zero =>
    intro k i m h1 h2 hm hj
    obtain ⟨k, rfl⟩ : ∃ m, k = m + 1 := ⟨k - 1, by omega⟩
    have hg := rget_rel l hb 32 8 (by omega) (by omega) (by omega)
    rw [getf_node l hl 32 (by omega)] at hg
    have em : gs l 0 = m := gs_eq hm fun j h => hj j (by omega)
    refine .inr ⟨by omega, _, _, hg, 33, ?_⟩
    rw [← em]
    exact rg_L2 l hb hl 32 33 0 _ _ _ (by omega) (by omega) (by simp) (fun j h => by omega)
  | succ d ih =>
    intro k i m h1 h2 hm hj
    obtain ⟨k, rfl⟩ : ∃ m, k = m + 1 := ⟨k - 1, by omega⟩
    have e : IntKind.i64.wrap (0 + (i : Int)) = ((0 + i : Nat) : Int) := by rw [w64 (by omega) (by omega)]; omega
    unfold reliquaryref10_Get.L1
    rw [e, Int.toNat_natCast, Int.toNat_natCast]
    refine .inl ⟨by omega, ⟨by omega, by omega⟩, ⟨by omega, by omega⟩, _, rfl, ?_⟩
    rw [w64 (by omega) (by omega)]
    refine ih k (i + 1) _ (by omega) (by omega) (by simpa using hm) fun j hh => ?_
    rw [gn_set (by omega)]
    split
    · rename_i ej; subst ej; rfl
    · exact hj j (by omega)
theorem rget10_rel (l : List Int) (hb : Byt l) (hs : l.length ≤ 100000) : reliquaryref10_Get.rel l (getl l 0) (gett l 0) (getl l 1) (gett l 1) (getl l 2) (gett l 2) (getl l 3) (gett l 3) (gete l) := by
  unfold getl gett gete
  by_cases hl : l.length = 160
  · simp only [if_pos hl]
    exact .inr ⟨by omega, 33, rg_L1 l hb hl 32 33 0 _ (by omega) (by omega) (by simp) (fun j h => by omega)⟩
  · simp only [if_neg hl]
    exact .inl ⟨by omega, rfl, rfl, rfl, rfl, rfl, rfl, rfl, rfl, rfl⟩
theorem rp_L4 (l6 : List Int) (a7 : Int) (hl6 : l6.length = 32) (ha7 : 0 ≤ a7 ∧ a7 < 18446744073709551616) (p : List Int) (hp : p.length ≤ 950) : ∀ (d k i : Nat) (x : Int) (b : Bool), i + d = 32 → d < k →
    reliquaryref10_Put.L4 l6 a7 (p ++ rf l6 a7) k (p ++ l6.take i) i x b := by
  intro d
  induction d with
  | zero =>
    intro k i x b h1 h2
    obtain ⟨k, rfl⟩ : ∃ m, k = m + 1 := ⟨k - 1, by omega⟩
    rw [List.take_of_length_le (by omega)]
    refine .inr ⟨by omega, _, rput_rel a7 ha7 8 (by omega), _, rfl, by rw [List.length_append, List.length_append, putf_length]; omega, ?_⟩
    rw [List.append_assoc]; rfl
  | succ d ih =>
    intro k i x b h1 h2
    obtain ⟨k, rfl⟩ : ∃ m, k = m + 1 := ⟨k - 1, by omega⟩
    have H := ih k (i + 1) (i : Int) (decide ((i : Int) < 32)) (by omega) (by omega)
    rw [take_gn (by omega), show p ++ (l6.take i ++ [gn l6 i]) = p ++ l6.take i ++ [gn l6 i] from (List.append_assoc _ _ _).symm] at H
    unfold reliquaryref10_Put.L4
    rw [Int.toNat_natCast]
    refine .inl ⟨by omega, ⟨by omega, by omega⟩, _, rfl, by rw [List.length_append, List.length_append, List.length_take]; simp; omega, ?_⟩
    rw [w64 (by omega) (by omega)]
    exact H
theorem rp_L3 (l4 : List Int) (a5 : Int) (l6 : List Int) (a7 : Int) (hl4 : l4.length = 32) (ha5 : 0 ≤ a5 ∧ a5 < 18446744073709551616) (hl6 : l6.length = 32) (ha7 : 0 ≤ a7 ∧ a7 < 18446744073709551616) (p : List Int) (hp : p.length ≤ 900) : ∀ (d k i : Nat) (x : Int) (b : Bool), i + d = 32 → d < k →
    reliquaryref10_Put.L3 l4 a5 l6 a7 (p ++ (rf l4 a5 ++ rf l6 a7)) k (p ++ l4.take i) i x b := by
  intro d
  induction d with
  | zero =>
    intro k i x b h1 h2
    obtain ⟨k, rfl⟩ : ∃ m, k = m + 1 := ⟨k - 1, by omega⟩
    rw [List.take_of_length_le (by omega)]
    refine .inr ⟨by omega, _, rput_rel a5 ha5 8 (by omega), _, rfl, by rw [List.length_append, List.length_append, putf_length]; omega, ?_⟩
    refine ⟨33, ?_⟩
    have H := rp_L4 l6 a7 hl6 ha7 ((p ++ l4) ++ putf a5 8) (by rw [List.length_append, List.length_append, putf_length]; omega) 32 33 0 (i : Int) (decide ((i : Int) < 32)) (by omega) (by omega)
    rw [List.take_zero, List.append_nil] at H
    have e : (p ++ l4) ++ putf a5 8 ++ (rf l6 a7) = p ++ (rf l4 a5 ++ (rf l6 a7)) := by simp [rf]
    rw [e] at H
    exact H
  | succ d ih =>
    intro k i x b h1 h2
    obtain ⟨k, rfl⟩ : ∃ m, k = m + 1 := ⟨k - 1, by omega⟩
    have H := ih k (i + 1) (i : Int) (decide ((i : Int) < 32)) (by omega) (by omega)
    rw [take_gn (by omega), show p ++ (l4.take i ++ [gn l4 i]) = p ++ l4.take i ++ [gn l4 i] from (List.append_assoc _ _ _).symm] at H
    unfold reliquaryref10_Put.L3
    rw [Int.toNat_natCast]
    refine .inl ⟨by omega, ⟨by omega, by omega⟩, _, rfl, by rw [List.length_append, List.length_append, List.length_take]; simp; omega, ?_⟩
    rw [w64 (by omega) (by omega)]
    exact H
theorem rp_L2 (l2 : List Int) (a3 : Int) (l4 : List Int) (a5 : Int) (l6 : List Int) (a7 : Int) (hl2 : l2.length = 32) (ha3 : 0 ≤ a3 ∧ a3 < 18446744073709551616) (hl4 : l4.length = 32) (ha5 : 0 ≤ a5 ∧ a5 < 18446744073709551616) (hl6 : l6.length = 32) (ha7 : 0 ≤ a7 ∧ a7 < 18446744073709551616) (p : List Int) (hp : p.length ≤ 850) : ∀ (d k i : Nat) (x : Int) (b : Bool), i + d = 32 → d < k →
    reliquaryref10_Put.L2 l2 a3 l4 a5 l6 a7 (p ++ (rf l2 a3 ++ (rf l4 a5 ++ rf l6 a7))) k (p ++ l2.take i) i x b := by
  intro d
  induction d with
  | zero =>
    intro k i x b h1 h2
    obtain ⟨k, rfl⟩ : ∃ m, k = m + 1 := ⟨k - 1, by omega⟩
    rw [List.take_of_length_le (by omega)]
    refine .inr ⟨by omega, _, rput_rel a3 ha3 8 (by omega), _, rfl, by rw [List.length_append, List.length_append, putf_length]; omega, ?_⟩
    refine ⟨33, ?_⟩
    have H := rp_L3 l4 a5 l6 a7 hl4 ha5 hl6 ha7 ((p ++ l2) ++ putf a3 8) (by rw [List.length_append, List.length_append, putf_length]; omega) 32 33 0 (i : Int) (decide ((i : Int) < 32)) (by omega) (by omega)
    rw [List.take_zero, List.append_nil] at H
    have e : (p ++ l2) ++ putf a3 8 ++ ((rf l4 a5 ++ rf l6 a7)) = p ++ (rf l2 a3 ++ ((rf l4 a5 ++ rf l6 a7))) := by simp [rf]
    rw [e] at H
    exact H
  | succ d ih =>
    intro k i x b h1 h2
    obtain ⟨k, rfl⟩ : ∃ m, k = m + 1 := ⟨k - 1, by omega⟩
    have H := ih k (i + 1) (i : Int) (decide ((i : Int) < 32)) (by omega) (by omega)
    rw [take_gn (by omega), show p ++ (l2.take i ++ [gn l2 i]) = p ++ l2.take i ++ [gn l2 i] from (List.append_assoc _ _ _).symm] at H
    unfold reliquaryref10_Put.L2
    rw [Int.toNat_natCast]
    refine .inl ⟨by omega, ⟨by omega, by omega⟩, _, rfl, by rw [List.length_append, List.length_append, List.length_take]; simp; omega, ?_⟩
    rw [w64 (by omega) (by omega)]
    exact H
theorem rp_L1 (l0 : List Int) (a1 : Int) (l2 : List Int) (a3 : Int) (l4 : List Int) (a5 : Int) (l6 : List Int) (a7 : Int) (hl0 : l0.length = 32) (ha1 : 0 ≤ a1 ∧ a1 < 18446744073709551616) (hl2 : l2.length = 32) (ha3 : 0 ≤ a3 ∧ a3 < 18446744073709551616) (hl4 : l4.length = 32) (ha5 : 0 ≤ a5 ∧ a5 < 18446744073709551616) (hl6 : l6.length = 32) (ha7 : 0 ≤ a7 ∧ a7 < 18446744073709551616) (p : List Int) (hp : p.length ≤ 800) : ∀ (d k i : Nat), i + d = 32 → d < k →
    reliquaryref10_Put.L1 l0 a1 l2 a3 l4 a5 l6 a7 (p ++ (rf l0 a1 ++ (rf l2 a3 ++ (rf l4 a5 ++ rf l6 a7)))) k (p ++ l0.take i) i := by
  intro d
  induction d with
  | zero =>
    intro k i h1 h2
    obtain ⟨k, rfl⟩ : ∃ m, k = m + 1 := ⟨k - 1, by omega⟩
    rw [List.take_of_length_le (by omega)]
    refine .inr ⟨by omega, _, rput_rel a1 ha1 8 (by omega), _, rfl, by rw [List.length_append, List.length_append, putf_length]; omega, ?_⟩
    refine ⟨33, ?_⟩
    have H := rp_L2 l2 a3 l4 a5 l6 a7 hl2 ha3 hl4 ha5 hl6 ha7 ((p ++ l0) ++ putf a1 8) (by rw [List.length_append, List.length_append, putf_length]; omega) 32 33 0 (i : Int) (decide ((i : Int) < 32)) (by omega) (by omega)
    rw [List.take_zero, List.append_nil] at H
    have e : (p ++ l0) ++ putf a1 8 ++ ((rf l2 a3 ++ (rf l4 a5 ++ rf l6 a7))) = p ++ (rf l0 a1 ++ ((rf l2 a3 ++ (rf l4 a5 ++ rf l6 a7)))) := by simp [rf]
    rw [e] at H
    exact H
  | succ d ih =>
    intro k i h1 h2
    obtain ⟨k, rfl⟩ : ∃ m, k = m + 1 := ⟨k - 1, by omega⟩
    have H := ih k (i + 1) (by omega) (by omega)
    rw [take_gn (by omega), show p ++ (l0.take i ++ [gn l0 i]) = p ++ l0.take i ++ [gn l0 i] from (List.append_assoc _ _ _).symm] at H
    unfold reliquaryref10_Put.L1
    rw [Int.toNat_natCast]
    refine .inl ⟨by omega, ⟨by omega, by omega⟩, _, rfl, by rw [List.length_append, List.length_append, List.length_take]; simp; omega, ?_⟩
    rw [w64 (by omega) (by omega)]
    exact H
theorem rput10_rel (l0 : List Int) (a1 : Int) (l2 : List Int) (a3 : Int) (l4 : List Int) (a5 : Int) (l6 : List Int) (a7 : Int) (h0 : l0.length = 32) (h1 : 0 ≤ a1 ∧ a1 < 18446744073709551616) (h2 : l2.length = 32) (h3 : 0 ≤ a3 ∧ a3 < 18446744073709551616)
    (h4 : l4.length = 32) (h5 : 0 ≤ a5 ∧ a5 < 18446744073709551616) (h6 : l6.length = 32) (h7 : 0 ≤ a7 ∧ a7 < 18446744073709551616) : reliquaryref10_Put.rel l0 a1 l2 a3 l4 a5 l6 a7 (nodeb l0 a1 l2 a3 l4 a5 l6 a7) := by
  have H := rp_L1 l0 a1 l2 a3 l4 a5 l6 a7 h0 h1 h2 h3 h4 h5 h6 h7 [] (by simp) 32 33 0 (by omega) (by omega)
  rw [List.take_zero, List.append_nil, List.nil_append] at H
  exact ⟨33, H⟩

/-! ### 4. There and back -/
theorem node_back (l : List Int) (hb : Byt l) (hl : l.length = 160) : nodeb (gs l 0) (st l 0) (gs l 1) (st l 1) (gs l 2) (st l 2) (gs l 3) (st l 3) = l := by
  have part : ∀ q j, j < 40 → gn (rf (gs l q) (st l q)) j = gn l (40 * q + j) := fun q j hj => by
    rw [rf, gn_app, gs_length]
    by_cases c : j < 32
    · rw [if_pos c, gn_gs l q c]
    · rw [if_neg c, gn_putf _ (by omega), st, pb_getn hb _ 8 _ (by omega)]
      congr 1; omega
  have rl : ∀ q, (rf (gs l q) (st l q)).length = 40 := fun q => rf_length _ (gs_length l q)
  refine ext_gn (by rw [nodeb_length _ _ _ _ (gs_length l 0) (gs_length l 1) (gs_length l 2) (gs_length l 3), hl]) fun j hj => ?_
  rw [nodeb_length _ _ _ _ (gs_length l 0) (gs_length l 1) (gs_length l 2) (gs_length l 3)] at hj
  rw [nodeb, gn_app, rl]
  split
  · rw [part 0 j (by omega)]; congr 1; omega
  rw [gn_app, rl]
  split
  · rw [part 1 _ (by omega)]; congr 1; omega
  rw [gn_app, rl]
  split
  · rw [part 2 _ (by omega)]; congr 1; omega
  · rw [part 3 _ (by omega)]; congr 1; omega

theorem treeNodes_pure (l0 : List Int) (a1 : Int) (l2 : List Int) (a3 : Int) (l4 : List Int) (a5 : Int) (l6 : List Int) (a7 : Int) (l : List Int) (b0 : Byt l0) (h0 : l0.length = 32) (h1 : 0 ≤ a1 ∧ a1 < 18446744073709551616) (b2 : Byt l2) (h2 : l2.length = 32) (h3 : 0 ≤ a3 ∧ a3 < 18446744073709551616)
    (b4 : Byt l4) (h4 : l4.length = 32) (h5 : 0 ≤ a5 ∧ a5 < 18446744073709551616) (b6 : Byt l6) (h6 : l6.length = 32) (h7 : 0 ≤ a7 ∧ a7 < 18446744073709551616) (hb : Byt l) : reliquarylaw10_TreeNodes.rel l0 a1 l2 a3 l4 a5 l6 a7 l := by
  refine ⟨awake10, ?_⟩
  by_cases c : (l.length : Int) > 300
  · exact .inl ⟨c, trivial⟩
  refine .inr ⟨c, _, put10_rel l0 a1 l2 a3 l4 a5 l6 a7 h0 h2 h4 h6, _, _, _, _, _, _, _, _, _, get_node l0 a1 l2 a3 l4 a5 l6 a7 b0 h0 h1 b2 h2 h3 b4 h4 h5 b6 h6 h7, _, _, _, _, _, _, _, _, _, get10_rel l hb (by omega),
    _, _, _, _, _, _, _, _, _, rget10_rel l hb (by omega), _, _, _, _, _, _, _, _, ⟨rfl, rfl, rfl, rfl, rfl, rfl, rfl, rfl⟩, _, rput10_rel l0 a1 l2 a3 l4 a5 l6 a7 h0 h1 h2 h3 h4 h5 h6 h7, by simp, by simp, by simp,
    _, _, _, _, _, _, _, _, ⟨rfl, rfl, rfl, rfl, rfl, rfl, rfl, rfl⟩, by simp, by simp, ?_⟩
  by_cases hl : l.length = 160
  · refine .inr ⟨by unfold gete; simp [hl], _, put10_rel _ _ _ _ _ _ _ _ (getl_length l 0) (getl_length l 1) (getl_length l 2) (getl_length l 3), ?_⟩
    unfold getl gett
    simp only [if_pos hl]
    rw [node_back l hb hl]
  · exact .inl ⟨by unfold gete; simp [hl], trivial⟩
end Go.Proofs.YtekpnjhacnkgcaaDoor
