/- Keys: what the walks compute is one function; the laws of layer 03. -/
import Derived.Test.YtlmbhggkahehjaaDoorPlSh
namespace Go.Proofs.YtlmbhggkahehjaaDoor
open Go Go.Kr Go.RowKit
set_option linter.unusedVariables false
set_option linter.unusedSimpArgs false

/-! ### 1. A key laid over -/
def overf (key : List Int) (c : Int) : List Int := (List.range 64).map fun i => bits .xor .u8 (gn key i) c
theorem overf_length (key : List Int) (c : Int) : (overf key c).length = 64 := by simp [overf]
theorem gn_overf (key : List Int) (c : Int) {j : Nat} (h : j < 64) : gn (overf key c) j = bits .xor .u8 (gn key j) c := by simp [overf, gn, List.getD_eq_getElem?_getD, h]
theorem overf_byt {key : List Int} (hb : Byt key) {c : Int} (hc : 0 ≤ c ∧ c < 256) : Byt (overf key c) := fun x hx => by
  obtain ⟨j, _, rfl⟩ := List.mem_map.1 hx
  exact u8_xor_range (hb.gn j) hc
theorem gn_over {l : List Int} {j : Nat} (h : l.length ≤ j) : gn l j = 0 := by
  simp [gn, List.getD_eq_getElem?_getD, List.getElem?_eq_none h]
theorem gn_app {a b : List Int} (j : Nat) : gn (a ++ b) j = if j < a.length then gn a j else gn b (j - a.length) := by
  simp only [gn, List.getD_eq_getElem?_getD]
  split
  · rw [List.getElem?_append_left (by assumption)]
  · rw [List.getElem?_append_right (by omega)]
theorem gn_take {l : List Int} {m j : Nat} (h : j < m) : gn (l.take m) j = gn l j := by
  simp [gn, List.getD_eq_getElem?_getD, List.getElem?_take, h]
theorem gn_drop (l : List Int) (m j : Nat) : gn (l.drop m) j = gn l (m + j) := by
  simp [gn, List.getD_eq_getElem?_getD, List.getElem?_drop]
theorem gn_rep (m j : Nat) : gn (List.replicate m 0) j = 0 := by
  simp only [gn, List.getD_eq_getElem?_getD, List.getElem?_replicate]
  split <;> rfl
theorem gn_cpy (key : List Int) {j : Nat} (h : j < 64) : gn (cpy (List.replicate 64 (0 : Int)) 0 64 key) j = gn key j := by
  unfold cpy
  rw [List.take_zero, List.nil_append, gn_app]
  split
  · rename_i h1
    rw [List.length_take] at h1
    exact gn_take (by omega)
  · rename_i h1
    rw [List.length_take] at h1
    rw [gn_drop, gn_rep, gn_over (by omega)]
theorem cpy64_length (key : List Int) : (cpy (List.replicate 64 (0 : Int)) 0 64 key).length = 64 := by rw [cpy_length (by simp)]; simp
theorem mac1_L1 (key : List Int) (c : Int) (m : List Int) (hm : m.length = 64) : ∀ (d k i : Nat) (l : List Int), i + d = 64 → d < k → l.length = 64 → (∀ j, j < i → gn l j = bits .xor .u8 (gn key j) c) → (∀ j, i ≤ j → j < 64 → gn l j = gn key j) →
    keys_Mac_1.L1 c (overf key c) m k l i := by
  intro d
  induction d with
  | zero =>
    intro k i l h1 h2 hl ha hb
    obtain ⟨k, rfl⟩ : ∃ m, k = m + 1 := ⟨k - 1, by omega⟩
    refine .inr ⟨by omega, ext_gn (by rw [overf_length, hl]) fun j hj => ?_⟩
    rw [overf_length] at hj
    rw [gn_overf _ _ hj, ha j (by omega)]
  | succ d ih =>
    intro k i l h1 h2 hl ha hb
    obtain ⟨k, rfl⟩ : ∃ m, k = m + 1 := ⟨k - 1, by omega⟩
    unfold keys_Mac_1.L1
    rw [Int.toNat_natCast]
    refine .inl ⟨by omega, ⟨by omega, by omega⟩, ⟨by omega, by omega⟩, _, rfl, ?_⟩
    rw [w64 (by omega) (by omega)]
    refine ih k (i + 1) _ (by omega) (by omega) (by simpa using hl) (fun j hj => ?_) (fun j hj hj2 => ?_)
    · rw [gn_set (by omega)]
      split
      · rename_i e; subst e; rw [hb j (by omega) (by omega)]
      · exact ha j (by omega)
    · rw [gn_set (by omega), if_neg (by omega)]
      exact hb j (by omega) hj2
theorem mac1_rel (key : List Int) (c : Int) : keys_Mac_1.rel c key (overf key c) :=
  ⟨_, rfl, 65, mac1_L1 key c _ (cpy64_length key) 64 65 0 _ (by omega) (by omega) (cpy64_length key) (fun j hj => by omega) (fun j _ hj => gn_cpy key hj)⟩
theorem over_L1 (key : List Int) (c : Int) : ∀ (d k i : Nat), i + d = 64 → d < k → reliquaryref03_over.L1 key c (overf key c) k ((overf key c).take i) i := by
  intro d
  induction d with
  | zero =>
    intro k i h1 h2
    obtain ⟨k, rfl⟩ : ∃ m, k = m + 1 := ⟨k - 1, by omega⟩
    exact .inr ⟨by omega, by rw [List.take_of_length_le (by rw [overf_length]; omega)]⟩
  | succ d ih =>
    intro k i h1 h2
    obtain ⟨k, rfl⟩ : ∃ m, k = m + 1 := ⟨k - 1, by omega⟩
    have H := ih k (i + 1) (by omega) (by omega)
    rw [take_gn (by rw [overf_length]; omega), gn_overf _ _ (by omega)] at H
    have hl : ((overf key c).take i).length = i := by rw [List.length_take, overf_length]; omega
    unfold reliquaryref03_over.L1
    rw [Int.toNat_natCast]
    refine .inl ⟨by omega, ?_⟩
    by_cases e : (i : Int) < (key.length : Int)
    · refine .inl ⟨e, ⟨by omega, by omega⟩, _, rfl, by simp; omega, ?_⟩
      rw [w64 (by omega) (by omega)]
      exact H
    · rw [gn_over (l := key) (by omega)] at H
      refine .inr ⟨e, _, rfl, by simp; omega, ?_⟩
      rw [w64 (by omega) (by omega)]
      exact H
theorem over_rel (key : List Int) (c : Int) : reliquaryref03_over.rel key c (overf key c) := ⟨65, over_L1 key c 64 65 0 (by omega) (by omega)⟩

/-! ### 2. The code of a message -/
def short (key : List Int) : List Int := if key.length > 64 then sumf key else key
def macf (key msg : List Int) : List Int := sumf (overf (short key) 92 ++ sumf (overf (short key) 54 ++ msg))
theorem short_byt {key : List Int} (hb : Byt key) : Byt (short key) := by unfold short; split; exact sumf_byt _; exact hb
theorem macf_length (a b : List Int) : (macf a b).length = 32 := sumf_length _
theorem macf_byt (a b : List Int) : Byt (macf a b) := sumf_byt _
theorem two_pieces (a b : List Int) (ha : Byt a) (hb : Byt b) (h : a.length + b.length ≤ 1000000) : digest_Pieces.rel [a, b] (sumf (a ++ b)) := by
  have f : [a, b].flatten = a ++ b := by simp
  have := pieces_rel [a, b] (by rw [f]; exact ha.append hb) (by rw [f, List.length_append]; exact h) (by simp)
  rwa [f] at this
theorem mac_rel (key msg : List Int) (hk : Byt key) (hm : Byt msg) (h1 : key.length ≤ 100000) (h2 : msg.length ≤ 100000) : keys_Mac.rel key msg (macf key msg) := by
  have hs := short_byt hk
  have b1 := overf_byt hs (c := 54) (by omega)
  have b2 := overf_byt hs (c := 92) (by omega)
  have p1 := two_pieces _ msg b1 hm (by rw [overf_length]; omega)
  have p2 := two_pieces _ _ b2 (sumf_byt (overf (short key) 54 ++ msg)) (by rw [overf_length, sumf_length]; omega)
  unfold macf
  by_cases e : (key.length : Int) > 64
  · have es : short key = sumf key := if_pos (by omega)
    rw [es] at p1 p2 ⊢
    exact .inl ⟨e, _, of_rel key hk (by omega), _, mac1_rel _ 54, _, p1, _, mac1_rel _ 92, _, p2, rfl⟩
  · have es : short key = key := if_neg (by omega)
    rw [es] at p1 p2 ⊢
    exact .inr ⟨e, _, mac1_rel _ 54, _, p1, _, mac1_rel _ 92, _, p2, rfl⟩
theorem rmac_rel (key msg : List Int) (hk : Byt key) (hm : Byt msg) (h1 : key.length ≤ 100000) (h2 : msg.length ≤ 100000) : reliquaryref03_Mac.rel key msg (macf key msg) := by
  have hs := short_byt hk
  have b1 := (overf_byt hs (c := 54) (by omega)).append hm
  have b2 := (overf_byt hs (c := 92) (by omega)).append (sumf_byt (overf (short key) 54 ++ msg))
  have p1 := rof_rel _ b1 (by rw [List.length_append, overf_length]; omega)
  have p2 := rof_rel _ b2 (by rw [List.length_append, overf_length, sumf_length]; omega)
  refine ⟨_, rfl, by simp; omega, ?_⟩
  rw [List.nil_append]
  unfold macf
  by_cases e : (key.length : Int) > 64
  · have es : short key = sumf key := if_pos (by omega)
    rw [es] at p1 p2 ⊢
    exact .inl ⟨e, _, rof_rel key hk (by omega), _, over_rel _ 54, _, rfl, by simp [overf_length]; omega, _, p1, _, over_rel _ 92, _, rfl, by rw [List.length_append, overf_length, sumf_length]; omega, _, p2, rfl⟩
  · have es : short key = key := if_neg (by omega)
    rw [es] at p1 p2 ⊢
    exact .inr ⟨e, _, over_rel _ 54, _, rfl, by simp [overf_length]; omega, _, p1, _, over_rel _ 92, _, rfl, by rw [List.length_append, overf_length, sumf_length]; omega, _, p2, rfl⟩

/-! ### 3. Keys out of keys -/
def derf (m : List Int) (s : ByteArray) : List Int × Int := if m.length ≠ 32 ∨ s.size < 1 ∨ s.size > 64 then (List.replicate 32 0, 1) else (macf m (bl s ++ [1]), 0)
theorem bl_byt (s : ByteArray) : Byt (bl s) := fun x hx => by
  obtain ⟨b, _, rfl⟩ := List.mem_map.1 hx
  have := b.toNat_lt
  omega
theorem lab_byt (s : ByteArray) : Byt (bl s ++ [1]) := (bl_byt s).append fun x hx => by simp at hx; omega
theorem der_rel (m : List Int) (s : ByteArray) (hm : Byt m) : keys_Derive.rel m s (derf m s).1 (derf m s).2 := by
  unfold derf
  by_cases e1 : (m.length : Int) ≠ 32
  · rw [if_pos (.inl (by omega))]
    exact .inl ⟨e1, _, rfl, rfl, rfl⟩
  refine .inr ⟨e1, ?_⟩
  by_cases e2 : (s.size : Int) < 1
  · rw [if_pos (.inr (.inl (by omega)))]
    exact .inl ⟨e2, _, rfl, rfl, rfl⟩
  refine .inr ⟨e2, ?_⟩
  by_cases e3 : (s.size : Int) > 64
  · rw [if_pos (.inr (.inr (by omega)))]
    exact .inl ⟨e3, _, rfl, rfl, rfl⟩
  rw [if_neg (by omega)]
  have hl : (bl s ++ [1]).length = s.size + 1 := by rw [List.length_append, ← bl_length]; rfl
  exact .inr ⟨e3, _, rfl, by omega, _, mac_rel m _ hm (lab_byt s) (by omega) (by omega), rfl, rfl⟩
theorem toList_empty (s : ByteArray) : s.toList = (⟨#[]⟩ : ByteArray).toList ↔ s.size = 0 := by
  rw [bytes_toList, bytes_toList]
  constructor
  · intro h
    have := congrArg List.length h
    simpa using this
  · intro h
    have : s.data.toList.length = 0 := by simpa using h
    rw [List.length_eq_zero_iff.1 this]
theorem rder_rel (m : List Int) (s : ByteArray) (hm : Byt m) : reliquaryref03_Derive.rel m s (derf m s).1 (derf m s).2 := by
  unfold derf
  by_cases e1 : (m.length : Int) ≠ 32
  · rw [if_pos (.inl (by omega))]
    exact .inl ⟨e1, _, rfl, rfl, rfl⟩
  refine .inr ⟨e1, ?_⟩
  by_cases e2 : s.size = 0
  · rw [if_pos (.inr (.inl (by omega)))]
    exact .inl ⟨(toList_empty s).2 e2, _, rfl, rfl, rfl⟩
  refine .inr ⟨fun h => e2 ((toList_empty s).1 h), ?_⟩
  by_cases e3 : (s.size : Int) > 64
  · rw [if_pos (.inr (.inr (by omega)))]
    exact .inl ⟨e3, _, rfl, rfl, rfl⟩
  rw [if_neg (by omega)]
  have hl : (bl s ++ [1]).length = s.size + 1 := by rw [List.length_append, ← bl_length]; rfl
  exact .inr ⟨e3, _, rfl, by omega, _, rmac_rel m _ hm (lab_byt s) (by omega) (by omega), rfl, rfl⟩
abbrev HOME : ByteArray := ⟨#[104, 111, 109, 101]⟩
abbrev JOUR : ByteArray := ⟨#[106, 111, 117, 114, 110, 97, 108]⟩
abbrev CHEK : ByteArray := ⟨#[99, 104, 101, 99, 107]⟩
theorem derf_code (m : List Int) (s : ByteArray) (h1 : 1 ≤ s.size) (h2 : s.size ≤ 64) : (derf m s).2 = if m.length = 32 then 0 else 1 := by
  unfold derf
  by_cases e : m.length = 32
  · rw [if_neg (by omega), if_pos e]
  · rw [if_pos (.inl e), if_neg e]
theorem derf_bad (m : List Int) (s : ByteArray) (h : m.length ≠ 32) : derf m s = (List.replicate 32 0, 1) := if_pos (.inl h)
theorem keysOf_rel (m : List Int) (hm : Byt m) : keys_Of.rel m (derf m HOME).1 (derf m JOUR).1 (derf m CHEK).1 (derf m HOME).2 := by
  have c1 := derf_code m HOME (by decide) (by decide)
  have c2 := derf_code m JOUR (by decide) (by decide)
  have c3 := derf_code m CHEK (by decide) (by decide)
  by_cases e : m.length = 32
  · rw [if_pos e] at c1 c2 c3
    refine ⟨_, _, der_rel m HOME hm, .inr ⟨by rw [c1]; decide, _, _, der_rel m JOUR hm, .inr ⟨by rw [c2]; decide, _, _, der_rel m CHEK hm, .inr ⟨by rw [c3]; decide, rfl, rfl, rfl, c1⟩⟩⟩⟩
  · have b1 := derf_bad m HOME e
    have b2 := derf_bad m JOUR e
    have b3 := derf_bad m CHEK e
    refine ⟨_, _, der_rel m HOME hm, .inl ⟨?_, ?_, ?_, ?_, rfl⟩⟩
    · rw [b1]; decide
    · rw [b1]
    · rw [b2]
    · rw [b3]

/-! ### 4. The laws -/
theorem wake_a : macf (List.replicate 32 0) (bl ⟨#[97]⟩ ++ [1]) ≠ List.replicate 32 0 := by decide +kernel
theorem wake_h : macf (List.replicate 32 0) (bl HOME ++ [1]) ≠ macf (List.replicate 32 0) (bl JOUR ++ [1]) := by decide +kernel
theorem wake_n : macf [] [] ≠ List.replicate 32 0 := by decide +kernel
theorem rep_byt (n : Nat) : Byt (List.replicate n 0) := fun x hx => by rw [(List.mem_replicate.1 hx).2]; omega
theorem awake03 : reliquarylaw03_awake.rel := by
  have d1 := der_rel (List.replicate 31 0) ⟨#[97]⟩ (rep_byt 31)
  have d2 := der_rel (List.replicate 32 0) ⟨#[97]⟩ (rep_byt 32)
  have d3 := keysOf_rel (List.replicate 32 0) (rep_byt 32)
  have e1 : derf (List.replicate 31 0) ⟨#[97]⟩ = (List.replicate 32 0, 1) := derf_bad _ _ (by simp)
  have e2 : derf (List.replicate 32 0) ⟨#[97]⟩ = (macf (List.replicate 32 0) (bl ⟨#[97]⟩ ++ [1]), 0) := if_neg (by decide)
  have e3 : derf (List.replicate 32 0) HOME = (macf (List.replicate 32 0) (bl HOME ++ [1]), 0) := if_neg (by decide)
  have e4 : derf (List.replicate 32 0) JOUR = (macf (List.replicate 32 0) (bl JOUR ++ [1]), 0) := if_neg (by decide)
  rw [e1] at d1
  rw [e2] at d2
  rw [e3, e4] at d3
  exact ⟨_, _, d1, _, _, d2, _, _, _, _, d3, rfl, rfl, _, rfl, wake_a, rfl, wake_h, _, mac_rel [] [] Byt.nil Byt.nil (by simp) (by simp), _, rfl, wake_n⟩
theorem keysMacs_pure (l0 l1 : List Int) (h0 : Byt l0) (h1 : Byt l1) : reliquarylaw03_KeysMacs.rel l0 l1 := by
  refine ⟨awake03, ?_⟩
  by_cases e : (l0.length : Int) > 500
  · exact .inl ⟨e, trivial⟩
  refine .inr ⟨e, ?_⟩
  by_cases e2 : (l1.length : Int) > 2000
  · exact .inl ⟨e2, trivial⟩
  exact .inr ⟨e2, _, mac_rel l0 l1 h0 h1 (by omega) (by omega), _, rmac_rel l0 l1 h0 h1 (by omega) (by omega), rfl⟩
theorem keysDerives_pure (l0 : List Int) (a1 : ByteArray) (h0 : Byt l0) (_ : a1.size ≤ maxLen) : reliquarylaw03_KeysDerives.rel l0 a1 := by
  refine ⟨awake03, ?_⟩
  by_cases e : (l0.length : Int) > 500
  · exact .inl ⟨e, trivial⟩
  refine .inr ⟨e, ?_⟩
  by_cases e2 : (a1.size : Int) > 500
  · exact .inl ⟨e2, trivial⟩
  exact .inr ⟨e2, _, _, der_rel l0 a1 h0, _, _, rder_rel l0 a1 h0, _, _, _, _, keysOf_rel l0 h0, _, _, rder_rel l0 HOME h0, _, _, rder_rel l0 JOUR h0, _, _, rder_rel l0 CHEK h0, rfl, rfl, rfl, rfl, rfl, rfl⟩
theorem overf_noughts (key : List Int) (n : Nat) (c : Int) : overf (key ++ List.replicate n 0) c = overf key c := by
  unfold overf
  refine List.map_congr_left fun j _ => ?_
  rw [gn_app]
  split
  · rfl
  · rw [gn_rep, gn_over (by omega)]
theorem macf_noughts (key msg : List Int) (n : Nat) (h : key.length + n ≤ 64) : macf (key ++ List.replicate n 0) msg = macf key msg := by
  have s1 : short key = key := if_neg (by omega)
  have s2 : short (key ++ List.replicate n 0) = key ++ List.replicate n 0 := if_neg (by simp; omega)
  unfold macf
  rw [s1, s2, overf_noughts, overf_noughts]
theorem noughts_L1 (l0 l2 : List Int) (a1 : Int) (h0 : Byt l0) (h2 : Byt l2) (hl : l0.length ≤ 64) (hl2 : l2.length ≤ 1000) (n : Nat) (hn : n < 65) (en : IntKind.i64.wrap (Int.tmod a1 65) = (n : Int)) : ∀ (d k i : Nat), i + d = n → d < k → l0.length + i ≤ 64 →
    reliquarylaw03_KeysNoughts.L1 l0 a1 l2 k (l0 ++ List.replicate i 0) i := by
  intro d
  have fin : ∀ i, l0.length + i ≤ 64 → ∃ r_51, keys_Mac.rel l0 l2 r_51 ∧ ∃ r_57, keys_Mac.rel (l0 ++ List.replicate i 0) l2 r_57 ∧ r_51 = r_57 := fun i hi =>
    ⟨_, mac_rel l0 l2 h0 h2 (by omega) (by omega), _, mac_rel _ l2 (h0.append (rep_byt i)) h2 (by simp; omega) (by omega), (macf_noughts l0 l2 i hi).symm⟩
  induction d with
  | zero =>
    intro k i h1 h3 h4
    obtain ⟨k, rfl⟩ : ∃ m, k = m + 1 := ⟨k - 1, by omega⟩
    unfold reliquarylaw03_KeysNoughts.L1
    rw [en]
    exact .inr ⟨by omega, fin i h4⟩
  | succ d ih =>
    intro k i h1 h3 h4
    obtain ⟨k, rfl⟩ : ∃ m, k = m + 1 := ⟨k - 1, by omega⟩
    unfold reliquarylaw03_KeysNoughts.L1
    rw [en]
    refine .inl ⟨by omega, ?_⟩
    by_cases e : ((l0 ++ List.replicate i (0 : Int)).length : Int) < 64
    · simp at e
      have H := ih k (i + 1) (by omega) (by omega) (by omega)
      refine .inl ⟨by simp; omega, _, rfl, by simp; omega, ?_⟩
      rw [w64 (by omega) (by omega), List.append_assoc, ← List.replicate_succ']
      exact H
    · exact .inr ⟨e, fin i h4⟩
theorem keysNoughts_pure (l0 : List Int) (a1 : Int) (l2 : List Int) (h0 : Byt l0) (h1 : 0 ≤ a1 ∧ a1 < 256) (h2 : Byt l2) : reliquarylaw03_KeysNoughts.rel l0 a1 l2 := by
  refine ⟨awake03, ?_⟩
  by_cases e : (l0.length : Int) > 64
  · exact .inl ⟨e, trivial⟩
  refine .inr ⟨e, ?_⟩
  by_cases e2 : (l2.length : Int) > 1000
  · exact .inl ⟨e2, trivial⟩
  obtain ⟨n, hn⟩ := Int.eq_ofNat_of_zero_le (show 0 ≤ a1 % 65 by omega)
  have en : IntKind.i64.wrap (Int.tmod a1 65) = (n : Int) := by rw [Int.tmod_eq_emod_of_nonneg h1.1, w64 (by omega) (by omega), hn]
  have := noughts_L1 l0 l2 a1 h0 h2 (by omega) (by omega) n (by omega) en n (n + 1) 0 (by omega) (by omega) (by omega)
  rw [List.replicate_zero, List.append_nil] at this
  exact .inr ⟨e2, _, rfl, by simp; omega, n + 1, this⟩
theorem keysLong_pure (l0 l1 : List Int) (h0 : Byt l0) (h1 : Byt l1) : reliquarylaw03_KeysLong.rel l0 l1 := by
  refine ⟨awake03, ?_⟩
  by_cases e : (l0.length : Int) ≤ 64
  · exact .inl ⟨e, trivial⟩
  refine .inr ⟨e, ?_⟩
  by_cases e2 : (l0.length : Int) > 500
  · exact .inl ⟨e2, trivial⟩
  refine .inr ⟨e2, ?_⟩
  by_cases e3 : (l1.length : Int) > 1000
  · exact .inl ⟨e3, trivial⟩
  have s1 : short l0 = sumf l0 := if_pos (by omega)
  have s2 : short (sumf l0) = sumf l0 := if_neg (by rw [sumf_length]; omega)
  refine .inr ⟨e3, _, rof_rel l0 h0 (by omega), _, mac_rel l0 l1 h0 h1 (by omega) (by omega), macf_length _ _, _, mac_rel _ l1 (sumf_byt _) h1 (by rw [sumf_length]; omega) (by omega), macf_length _ _, ?_⟩
  unfold macf
  rw [s1, s2]
end Go.Proofs.YtlmbhggkahehjaaDoor
