/- The statements of layer 5, as plain propositions: each holds. -/
import Derived.Test.YtkfkkbblmnnblaaPlA
import Derived.Test.YtkfkkbblmnnblaaGeq1
namespace Go.Proofs.Ytkfkkbblmnnblaa
open Go Go.Kr Go.RowKit
set_option linter.unusedVariables false
set_option linter.unusedSimpArgs false

/-! ### differ, Bytes -/
theorem or_u64_zero {a b : Int} (ha : 0 ≤ a) (ha' : a < 18446744073709551616) (hb : 0 ≤ b) (hb' : b < 18446744073709551616) : bits .or .u64 a b = 0 ↔ a = 0 ∧ b = 0 := by
  rw [u64_or a b ha ha' hb hb']
  constructor
  · intro h
    have h' : a.toNat ||| b.toNat = 0 := by exact_mod_cast h
    rw [Nat.or_eq_zero_iff] at h'
    omega
  · rintro ⟨rfl, rfl⟩; simp
theorem or_u64_range {a b : Int} (ha : 0 ≤ a) (ha' : a < 18446744073709551616) (hb : 0 ≤ b) (hb' : b < 18446744073709551616) : 0 ≤ bits .or .u64 a b ∧ bits .or .u64 a b < 18446744073709551616 := by
  rw [u64_or a b ha ha' hb hb']
  have : a.toNat ||| b.toNat < 2 ^ 64 := Nat.or_lt_two_pow (by omega) (by omega)
  omega
theorem differ_loop (l0 l1 : List Int) (h0 : Byt l0) (h1 : Byt l1) (hl : l0.length = l1.length) (hs : l0.length ≤ 9223372036854775807) : ∀ (d k : Nat) (acc i : Int), 0 ≤ i → i + d = l0.length → d < k → 0 ≤ acc → acc < 18446744073709551616 →
    ∃ r, equal_differ.L1 l0 l1 r k acc i ∧ (r = 0 ↔ acc = 0 ∧ ∀ j : Nat, i ≤ j → j < l0.length → gn l0 j = gn l1 j) := by
  intro d
  induction d with
  | zero =>
    intro k acc i hi hd hk ha hb
    obtain ⟨k, rfl⟩ : ∃ m, k = m + 1 := ⟨k - 1, by omega⟩
    exact ⟨acc, .inr ⟨by omega, rfl⟩, by constructor; exact fun h => ⟨h, fun j h1 h2 => by omega⟩; exact fun h => h.1⟩
  | succ d ih =>
    intro k acc i hi hd hk ha hb
    obtain ⟨k, rfl⟩ : ∃ m, k = m + 1 := ⟨k - 1, by omega⟩
    have hx := u8_xor_range (h0.gn i.toNat) (h1.gn i.toNat)
    have hw : IntKind.u64.wrap (bits .xor .u8 (gn l0 i.toNat) (gn l1 i.toNat)) = bits .xor .u8 (gn l0 i.toNat) (gn l1 i.toNat) := wu64 hx.1 (by omega)
    have ho := or_u64_range ha hb hx.1 (by omega : bits .xor .u8 (gn l0 i.toNat) (gn l1 i.toNat) < 18446744073709551616)
    have hz := or_u64_zero ha hb hx.1 (by omega : bits .xor .u8 (gn l0 i.toNat) (gn l1 i.toNat) < 18446744073709551616)
    obtain ⟨r, hr, hq⟩ := ih k _ (i + 1) (by omega) (by omega) (by omega) ho.1 ho.2
    refine ⟨r, .inl ⟨by omega, ⟨hi, by omega⟩, ⟨hi, by omega⟩, _, rfl, ?_⟩, ?_⟩
    · rw [hw, w64 (by omega) (by omega)]; exact hr
    · rw [hq, hz, u8_xor_zero (h0.gn _) (h1.gn _)]
      constructor
      · rintro ⟨⟨ha, he⟩, hj⟩
        refine ⟨ha, fun j h1 h2 => ?_⟩
        by_cases e : (j : Int) = i
        · have : j = i.toNat := by omega
          rw [this]; exact he
        · exact hj j (by omega) h2
      · rintro ⟨ha, hj⟩
        exact ⟨⟨ha, hj _ (by omega) (by omega)⟩, fun j h1 h2 => hj j (by omega) h2⟩
theorem bytes_rel (l0 l1 : List Int) (h0 : Byt l0) (h1 : Byt l1) (hs : l0.length ≤ 9223372036854775807) : equal_Bytes.rel l0 l1 (decide (l0 = l1)) := by
  by_cases hl : l0.length = l1.length
  · obtain ⟨r, hr, hq⟩ := differ_loop l0 l1 h0 h1 hl hs l0.length (l0.length + 1) 0 0 (by omega) (by omega) (by omega) (by omega) (by omega)
    refine .inl ⟨by omega, r, ⟨_, hr⟩, ?_⟩
    have : r = 0 ↔ l0 = l1 := by
      rw [hq]
      exact ⟨fun h => ext_gn hl fun j hj => h.2 j (by omega) hj, fun h => ⟨rfl, fun j _ _ => by rw [h]⟩⟩
    by_cases e : l0 = l1
    · rw [decide_eq_true e, this.mpr e]; rfl
    · rw [decide_eq_false e]
      have : ¬ r = 0 := fun h => e (this.mp h)
      exact (beq_eq_false_iff_ne.mpr this).symm
  · refine .inr ⟨by omega, ?_⟩
    exact decide_eq_false fun e => hl (by rw [e])

/-! ### Choose -/
theorem and_u64_one {a : Int} (h0 : 0 ≤ a) (h1 : a < 18446744073709551616) : bits .and .u64 a 1 = a % 2 := by
  rw [u64_and a 1 h0 h1 (by omega) (by omega)]
  have : a.toNat &&& (1 : Int).toNat = a.toNat % 2 := by
    rw [show (1 : Int).toNat = 2 ^ 1 - 1 from rfl, Nat.and_two_pow_sub_one_eq_mod]
  rw [this]; omega
theorem choose_rel {a0 a1 a2 : Int} (h0 : 0 ≤ a0 ∧ a0 < 18446744073709551616) (h1 : 0 ≤ a1 ∧ a1 < 18446744073709551616) (h2 : 0 ≤ a2 ∧ a2 < 18446744073709551616) : equal_Choose.rel a0 a1 a2 (if a0 % 2 = 1 then a1 else a2) := by
  refine ⟨_, rfl, ?_⟩
  rw [and_u64_one h0.1 h0.2]
  have hx : 0 ≤ bits .xor .u64 a1 a2 ∧ bits .xor .u64 a1 a2 < 18446744073709551616 := by
    rw [u64_xor a1 a2 h1.1 h1.2 h2.1 h2.2]
    have : a1.toNat ^^^ a2.toNat < 2 ^ 64 := Nat.xor_lt_two_pow (by omega) (by omega)
    omega
  split
  · rename_i h
    rw [h, show IntKind.u64.wrap (0 - 1) = 18446744073709551615 from by rw [wrap_u64]; rfl]
    have : bits .and .u64 18446744073709551615 (bits .xor .u64 a1 a2) = bits .xor .u64 a1 a2 := by
      rw [u64_and _ _ (by omega) (by omega) hx.1 hx.2, Nat.and_comm]
      rw [show (18446744073709551615 : Int).toNat = 2 ^ 64 - 1 from rfl, Nat.and_two_pow_sub_one_eq_mod]
      omega
    rw [this, u64_xor _ _ h2.1 h2.2 hx.1 hx.2, u64_xor _ _ h1.1 h1.2 h2.1 h2.2]
    rw [Int.toNat_natCast, Nat.xor_comm a1.toNat, ← Nat.xor_assoc, Nat.xor_self, Nat.zero_xor]
    omega
  · rename_i h
    have : a0 % 2 = 0 := by omega
    rw [this, show IntKind.u64.wrap (0 - 0) = 0 from by rw [wrap_u64]; rfl]
    rw [u64_and _ _ (by omega) (by omega) hx.1 hx.2]
    simp
    rw [show ((0 : Int)) = ((0 : Nat) : Int) from rfl, u64_xor _ _ h2.1 h2.2 (by omega) (by omega)]
    simp
    omega

/-! ### Find -/
/-- r is where b stands first in l; -1: nowhere. -/
def IsFirst (l : List (List Int)) (b : List Int) (r : Int) : Prop :=
  (r = -1 ∧ ∀ j, j < l.length → gl l j ≠ b) ∨ (∃ j : Nat, j < l.length ∧ r = j ∧ gl l j = b ∧ ∀ i, i < j → gl l i ≠ b)
theorem IsFirst.uniq {l : List (List Int)} {b : List Int} {r s : Int} (h : IsFirst l b r) (k : IsFirst l b s) : r = s := by
  rcases h with ⟨h1, h2⟩ | ⟨j, h1, h2, h3, h4⟩ <;> rcases k with ⟨k1, k2⟩ | ⟨i, k1, k2, k3, k4⟩
  · rw [h1, k1]
  · exact absurd k3 (h2 i k1)
  · exact absurd h3 (k2 j h1)
  · rcases Nat.lt_trichotomy i j with e | e | e
    · exact absurd k3 (h4 i e)
    · rw [h2, k2, e]
    · exact absurd h3 (k4 j e)
/-- Behind i rounds: what stands first among the last i; 2^64 - 1: nowhere. -/
def Fst (l : List (List Int)) (b : List Int) (i : Int) (f : Int) : Prop :=
  (f = 18446744073709551615 ∧ ∀ j : Nat, (l.length : Int) - i ≤ j → j < l.length → gl l j ≠ b) ∨ (∃ j : Nat, (l.length : Int) - i ≤ j ∧ j < l.length ∧ f = j ∧ gl l j = b ∧ ∀ m : Nat, (l.length : Int) - i ≤ m → m < j → gl l m ≠ b)
theorem bit_rel (b : Bool) : equal_bit.rel b (if b then 1 else 0) := by
  cases b
  · exact .inr ⟨by simp, rfl⟩
  · exact .inl ⟨rfl, rfl⟩
theorem find_loop (l : List (List Int)) (b : List Int) (hl : Bytl l) (hb : Byt b) (hs : ∀ j, (gl l j).length ≤ 9223372036854775807) (hn : l.length ≤ 9223372036854775807) : ∀ (d k : Nat) (f i : Int), 0 ≤ i → i + d = l.length → d < k → Fst l b i f →
    ∃ r, equal_Find.L1 l b r k f i ∧ IsFirst l b r := by
  intro d
  induction d with
  | zero =>
    intro k f i hi hd hk hf
    obtain ⟨k, rfl⟩ : ∃ m, k = m + 1 := ⟨k - 1, by omega⟩
    refine ⟨_, .inr ⟨by omega, rfl⟩, ?_⟩
    rcases hf with ⟨rfl, h2⟩ | ⟨j, h1, h2, rfl, h4, h5⟩
    · exact .inl ⟨by rw [IntKind.wrap_i64]; rfl, fun j hj => h2 j (by omega) hj⟩
    · exact .inr ⟨j, h2, w64 (by omega) (by omega), h4, fun i hi => h5 i (by omega) hi⟩
  | succ d ih =>
    intro k f i hi hd hk hf
    obtain ⟨k, rfl⟩ : ∃ m, k = m + 1 := ⟨k - 1, by omega⟩
    obtain ⟨at_, hat⟩ : ∃ a : Nat, (a : Int) = l.length - 1 - i := ⟨(l.length - 1 - i : Int).toNat, by omega⟩
    have hf0 : 0 ≤ f ∧ f < 18446744073709551616 := by
      rcases hf with ⟨rfl, h2⟩ | ⟨j, h1, h2, rfl, h4, h5⟩ <;> omega
    have hw : IntKind.i64.wrap (IntKind.i64.wrap ((l.length : Int) - 1) - i) = at_ := by
      rw [w64 (x := (l.length : Int) - 1) (by omega) (by omega), w64 (by omega) (by omega), hat]
    have hat' : (at_ : Int).toNat = at_ := rfl
    have hb1 := bytes_rel (gl l at_) b (hl.gl _) hb (hs _)
    have hc : equal_Choose.rel (if decide (gl l at_ = b) then 1 else 0) (at_ : Int) f (if (if decide (gl l at_ = b) then 1 else 0 : Int) % 2 = 1 then (at_ : Int) else f) := choose_rel (by split <;> omega) (by omega) hf0
    obtain ⟨r, hr, hq⟩ := ih k (if gl l at_ = b then (at_ : Int) else f) (i + 1) (by omega) (by omega) (by omega) (by
      by_cases e : gl l at_ = b
      · rw [if_pos e]
        exact .inr ⟨at_, by omega, by omega, rfl, e, fun m h1 h2 => by omega⟩
      · rw [if_neg e]
        rcases hf with ⟨h1, h2⟩ | ⟨j, h1, h2, h3, h4, h5⟩
        · refine .inl ⟨h1, fun j h3 h4 => ?_⟩
          by_cases e2 : j = at_
          · rw [e2]; exact e
          · exact h2 j (by omega) h4
        · refine .inr ⟨j, by omega, h2, h3, h4, fun m h6 h7 => ?_⟩
          by_cases e2 : m = at_
          · rw [e2]; exact e
          · exact h5 m (by omega) h7)
    refine ⟨r, .inl ⟨by omega, (at_ : Int), hw.symm, ⟨by omega, by omega⟩, decide (gl l at_ = b), hb1, _, bit_rel _, (if gl l at_ = b then (at_ : Int) else f), ?_, ?_⟩, hq⟩
    · rw [wu64 (by omega) (by omega)]
      by_cases e : gl l at_ = b
      · simpa [e] using hc
      · simpa [e] using hc
    · rw [w64 (by omega) (by omega)]; exact hr
theorem find_rel (l : List (List Int)) (b : List Int) (hl : Bytl l) (hb : Byt b) (hs : ∀ j, (gl l j).length ≤ 9223372036854775807) (hn : l.length ≤ 9223372036854775807) : ∃ r, equal_Find.rel l b r ∧ IsFirst l b r := by
  obtain ⟨r, hr, hq⟩ := find_loop l b hl hb hs hn l.length (l.length + 1) 18446744073709551615 0 (by omega) (by omega) (by omega) (.inl ⟨rfl, fun j h1 h2 => by omega⟩)
  exact ⟨r, ⟨_, hr⟩, hq⟩
theorem rfind_loop (l : List (List Int)) (b : List Int) (hl : Bytl l) (hb : Byt b) (hn : l.length ≤ 9223372036854775807) : ∀ (d k : Nat) (x i : Int), 0 ≤ i → i + d = l.length → d < k → (∀ j : Nat, j < i → gl l j ≠ b) →
    ∃ r, reliquaryref05_Find.L1 l b r k x i ∧ IsFirst l b r := by
  intro d
  induction d with
  | zero =>
    intro k x i hi hd hk hf
    obtain ⟨k, rfl⟩ : ∃ m, k = m + 1 := ⟨k - 1, by omega⟩
    exact ⟨-1, .inr ⟨by omega, rfl⟩, .inl ⟨rfl, fun j hj => hf j (by omega)⟩⟩
  | succ d ih =>
    intro k x i hi hd hk hf
    obtain ⟨k, rfl⟩ : ∃ m, k = m + 1 := ⟨k - 1, by omega⟩
    by_cases e : gl l i.toNat = b
    · exact ⟨i, .inl ⟨by omega, ⟨hi, by omega⟩, .inl ⟨(strOf_inj (hl.gl _) hb).mpr e, rfl⟩⟩, .inr ⟨i.toNat, by omega, by omega, e, fun j hj => hf j (by omega)⟩⟩
    · obtain ⟨r, hr, hq⟩ := ih k x (i + 1) (by omega) (by omega) (by omega) (fun j hj => by
        by_cases e2 : j = i.toNat
        · rw [e2]; exact e
        · exact hf j (by omega))
      exact ⟨r, .inl ⟨by omega, ⟨hi, by omega⟩, .inr ⟨fun h => e ((strOf_inj (hl.gl _) hb).mp h), by rw [w64 (by omega) (by omega)]; exact hr⟩⟩, hq⟩
theorem rfind_rel (l : List (List Int)) (b : List Int) (hl : Bytl l) (hb : Byt b) (hn : l.length ≤ 9223372036854775807) : ∃ r, reliquaryref05_Find.rel l b r ∧ IsFirst l b r := by
  obtain ⟨r, hr, hq⟩ := rfind_loop l b hl hb hn l.length (l.length + 1) 0 0 (by omega) (by omega) (by omega) (fun j hj => by omega)
  exact ⟨r, ⟨_, hr⟩, hq⟩

/-! ### The laws -/
theorem awake05 : reliquarylaw05_awake.rel := by
  have h1 := choose_rel (a0 := 1) (a1 := 5) (a2 := 7) (by omega) (by omega) (by omega)
  have h2 := choose_rel (a0 := 2) (a1 := 5) (a2 := 7) (by omega) (by omega) (by omega)
  obtain ⟨r, hr, hf⟩ := find_rel [] [] (fun x hx => by simp at hx) Byt.nil (fun j => by simp [gl]) (by simp)
  have : r = -1 := hf.uniq (.inl ⟨rfl, fun j hj => by simp at hj⟩)
  subst this
  exact ⟨_, h1, rfl, _, h2, rfl, _, bytes_rel [] [] Byt.nil Byt.nil (by simp), by simp, _, hr, rfl⟩
theorem equalChoose_pure (a0 a1 a2 : Int) (h0 : 0 ≤ a0 ∧ a0 < 18446744073709551616) (h1 : 0 ≤ a1 ∧ a1 < 18446744073709551616) (h2 : 0 ≤ a2 ∧ a2 < 18446744073709551616) : reliquarylaw05_EqualChoose.rel a0 a1 a2 := by
  have hc := choose_rel h0 h1 h2
  have ht : Int.tmod a0 2 = a0 % 2 := Int.tmod_eq_emod_of_nonneg h0.1
  refine ⟨awake05, ?_⟩
  rw [ht]
  by_cases e : a0 % 2 = 1
  · rw [if_pos e] at hc; exact .inl ⟨e, _, hc, rfl⟩
  · rw [if_neg e] at hc; exact .inr ⟨e, _, hc, rfl⟩
theorem equalBytes_loop (l0 l1 : List Int) (l2 : List (List Int)) (h0 : Byt l0) (h1 : Byt l1) (h2 : Bytl l2) (s0 : l0.length ≤ 3000) (s1 : l1.length ≤ 3000) (s2 : l2.length ≤ 100) (hs : ∀ j, (gl l2 j).length ≤ 9223372036854775807) : ∀ (d k : Nat) (b : Bool) (i : Int), 0 ≤ i → i + d = l2.length → d < k →
    reliquarylaw05_EqualBytes.L1 l0 l1 l2 k b i := by
  intro d
  induction d with
  | zero =>
    intro k b i hi hd hk
    obtain ⟨k, rfl⟩ : ∃ m, k = m + 1 := ⟨k - 1, by omega⟩
    obtain ⟨r, hr, hf⟩ := find_rel l2 l0 h2 h0 hs (by omega)
    obtain ⟨s, hsr, hg⟩ := rfind_rel l2 l0 h2 h0 (by omega)
    refine .inr ⟨by omega, _, bytes_rel l0 l1 h0 h1 (by omega), ?_, _, bytes_rel l1 l0 h1 h0 (by omega), _, bytes_rel l0 l1 h0 h1 (by omega), ?_, r, hr, s, hsr, hf.uniq hg⟩
    · rw [Bool.eq_iff_iff]
      simp [strOf_inj h0 h1]
    · rw [Bool.eq_iff_iff]
      simp [eq_comm]
  | succ d ih =>
    intro k b i hi hd hk
    obtain ⟨k, rfl⟩ : ∃ m, k = m + 1 := ⟨k - 1, by omega⟩
    refine .inl ⟨by omega, ⟨hi, by omega⟩, ?_⟩
    by_cases e : ((gl l2 i.toNat).length : Int) > 500
    · exact .inl ⟨e, trivial⟩
    · exact .inr ⟨e, by rw [w64 (by omega) (by omega)]; exact ih k b (i + 1) (by omega) (by omega) (by omega)⟩
theorem equalBytes_pure (l0 l1 : List Int) (l2 : List (List Int)) (h0 : Byt l0) (h1 : Byt l1) (h2 : Bytl l2) (hs : ∀ j, (gl l2 j).length ≤ 9223372036854775807) : reliquarylaw05_EqualBytes.rel l0 l1 l2 := by
  refine ⟨awake05, ?_⟩
  by_cases e0 : (l0.length : Int) > 3000
  · exact .inl ⟨e0, trivial⟩
  refine .inr ⟨e0, ?_⟩
  by_cases e1 : (l1.length : Int) > 3000
  · exact .inl ⟨e1, trivial⟩
  refine .inr ⟨e1, ?_⟩
  by_cases e2 : (l2.length : Int) > 100
  · exact .inl ⟨e2, trivial⟩
  exact .inr ⟨e2, _, equalBytes_loop l0 l1 l2 h0 h1 h2 (by omega) (by omega) (by omega) hs l2.length (l2.length + 1) false 0 (by omega) (by omega) (by omega)⟩

theorem gn_set_same {l : List Int} {j : Nat} {x : Int} (h : j < l.length) : gn (l.set j x) j = x := by
  simp [gn, List.getD_eq_getElem?_getD, h]
theorem shl_u8_one {n : Int} (h0 : 0 ≤ n) (h1 : n < 8) : shlI .u8 1 n = 2 ^ n.toNat ∧ 1 ≤ shlI .u8 1 n ∧ shlI .u8 1 n < 256 := by
  have : n = 0 ∨ n = 1 ∨ n = 2 ∨ n = 3 ∨ n = 4 ∨ n = 5 ∨ n = 6 ∨ n = 7 := by omega
  rcases this with rfl | rfl | rfl | rfl | rfl | rfl | rfl | rfl <;> decide
theorem bytes_true {a b : List Int} (ha : Byt a) (hb : Byt b) (hs : a.length ≤ 9223372036854775807) (h : a = b) : equal_Bytes.rel a b true := by
  have := bytes_rel a b ha hb hs; rwa [decide_eq_true h] at this
theorem bytes_false {a b : List Int} (ha : Byt a) (hb : Byt b) (hs : a.length ≤ 9223372036854775807) (h : a ≠ b) : equal_Bytes.rel a b false := by
  have := bytes_rel a b ha hb hs; rwa [decide_eq_false h] at this
theorem equalTurned_pure (l0 : List Int) (a1 a2 : Int) (h0 : Byt l0) (h1 : 0 ≤ a1 ∧ a1 < 65536) (h2 : 0 ≤ a2 ∧ a2 < 256) : reliquarylaw05_EqualTurned.rel l0 a1 a2 := by
  refine ⟨awake05, ?_⟩
  by_cases e0 : (l0.length : Int) = 0
  · exact .inl ⟨e0, trivial⟩
  refine .inr ⟨e0, ?_⟩
  by_cases e1 : (l0.length : Int) > 3000
  · exact .inl ⟨e1, trivial⟩
  have hw : IntKind.i64.wrap a1 = a1 := w64 (by omega) (by omega)
  have ht : Int.tmod a1 (l0.length : Int) = a1 % l0.length := Int.tmod_eq_emod_of_nonneg h1.1
  have ht0 : 0 ≤ a1 % (l0.length : Int) := Int.emod_nonneg _ e0
  have ht1 : a1 % (l0.length : Int) < l0.length := Int.emod_lt_of_pos _ (by omega)
  obtain ⟨j, hj⟩ := Int.eq_ofNat_of_zero_le ht0
  have hband : bits .and .u8 a2 7 = a2 % 8 := u8_and7 a2 h2.1 h2.2
  obtain ⟨hs1, hs2, hs3⟩ := shl_u8_one (n := a2 % 8) (by omega) (by omega)
  have hlen : j < l0.length := by omega
  have hx := u8_xor_range (h0.gn j) (⟨by omega, hs3⟩ : 0 ≤ shlI .u8 1 (a2 % 8) ∧ shlI .u8 1 (a2 % 8) < 256)
  have hne : l0 ≠ l0.set j (bits .xor .u8 (gn l0 j) (shlI .u8 1 (a2 % 8))) := by
    intro h
    have h3 : gn l0 j = bits .xor .u8 (gn l0 j) (shlI .u8 1 (a2 % 8)) := by
      have := congrArg (gn · j) h
      simpa [gn_set_same hlen] using this
    have hz := h0.gn j
    rw [u8_xor _ _ hz.1 hz.2 (by omega) hs3] at h3
    have h4 : (gn l0 j).toNat = (gn l0 j).toNat ^^^ (shlI .u8 1 (a2 % 8)).toNat := by omega
    have h5 : (gn l0 j).toNat ^^^ ((gn l0 j).toNat ^^^ (shlI .u8 1 (a2 % 8)).toNat) = 0 := by rw [← h4, Nat.xor_self]
    rw [← Nat.xor_assoc, Nat.xor_self, Nat.zero_xor] at h5
    omega
  have hb := h0.set j hx.1 hx.2
  refine .inr ⟨e1, _, rfl, ?_⟩
  rw [hw, ht, hj, hband, List.nil_append]
  refine ⟨by omega, true, bytes_true h0 h0 (by omega) rfl, e0, ⟨by omega, by omega⟩, by omega, _, rfl, ⟨by omega, by omega⟩, _, rfl, rfl, false, bytes_false h0 hb (by omega) hne, by simp, false, bytes_false hb h0 (by simp; omega) (fun h => hne h.symm), by simp, ⟨by omega, by omega, by omega⟩, false, bytes_false h0 (h0.prt _ _) (by omega) ?_, by simp⟩
  intro h
  have := congrArg List.length h
  rw [prt_length (by omega) (by omega) (by omega)] at this
  omega
theorem equalFirst_loop2 (l0 : List (List Int)) (a1 : Int) (r : Int) (h2 : Bytl l0) (hs : l0.length ≤ 50) (t : Nat) (ht : Int.tmod (IntKind.i64.wrap a1) (l0.length : Int) = t) (htl : t < l0.length) (hr : r ≤ l0.length) (hf : ∀ j : Nat, (j : Int) < r → gl l0 j ≠ gl l0 t) : ∀ (d k : Nat) (b : Bool) (i : Int), 0 ≤ i → i + d = r → d < k →
    reliquarylaw05_EqualFirst.L2 l0 a1 r k b i := by
  intro d
  induction d with
  | zero =>
    intro k b i hi hd hk
    obtain ⟨k, rfl⟩ : ∃ m, k = m + 1 := ⟨k - 1, by omega⟩
    exact .inr ⟨by omega, trivial⟩
  | succ d ih =>
    intro k b i hi hd hk
    obtain ⟨k, rfl⟩ : ∃ m, k = m + 1 := ⟨k - 1, by omega⟩
    refine .inl ⟨by omega, ⟨hi, by omega⟩, ?_⟩
    rw [ht]
    refine ⟨⟨by omega, by omega⟩, fun h => hf i.toNat (by omega) ((strOf_inj (h2.gl _) (h2.gl _)).mp h), ?_⟩
    rw [w64 (by omega) (by omega)]; exact ih k b (i + 1) (by omega) (by omega) (by omega)
theorem equalFirst_loop (l0 : List (List Int)) (a1 : Int) (h1 : 0 ≤ a1 ∧ a1 < 256) (h2 : Bytl l0) (hs : l0.length ≤ 50) (hne : l0.length ≠ 0) (hz : ∀ j, (gl l0 j).length ≤ 9223372036854775807) : ∀ (d k : Nat) (b : Bool) (i : Int), 0 ≤ i → i + d = l0.length → d < k →
    reliquarylaw05_EqualFirst.L1 l0 a1 k b i := by
  intro d
  have hw : IntKind.i64.wrap a1 = a1 := w64 (by omega) (by omega)
  have ht : Int.tmod a1 (l0.length : Int) = a1 % l0.length := Int.tmod_eq_emod_of_nonneg h1.1
  have ht0 : 0 ≤ a1 % (l0.length : Int) := Int.emod_nonneg _ (by omega)
  have ht1 : a1 % (l0.length : Int) < l0.length := Int.emod_lt_of_pos _ (by omega)
  obtain ⟨t, hj⟩ := Int.eq_ofNat_of_zero_le ht0
  have hT : Int.tmod (IntKind.i64.wrap a1) (l0.length : Int) = t := by rw [hw, ht, hj]
  induction d with
  | zero =>
    intro k b i hi hd hk
    obtain ⟨k, rfl⟩ : ∃ m, k = m + 1 := ⟨k - 1, by omega⟩
    obtain ⟨r, hr, hf⟩ := find_rel l0 (gl l0 t) h2 (h2.gl _) hz (by omega)
    rcases hf with ⟨_, h3⟩ | ⟨j, h3, rfl, h5, h6⟩
    · exact absurd rfl (h3 t (by omega))
    · have hjt : j ≤ t := by
        rcases Nat.lt_or_ge t j with h | h
        · exact absurd rfl (h6 t h)
        · exact h
      refine .inr ⟨by omega, by omega, ?_⟩
      rw [hT]
      refine ⟨⟨by omega, by omega⟩, _, hr, by omega, by omega, ⟨by omega, by omega⟩, ⟨by omega, by omega⟩, ?_, _, equalFirst_loop2 l0 a1 j h2 hs t hT (by omega) (by omega) (fun i hi => h6 i (by omega)) j (j + 1) b 0 (by omega) (by omega) (by omega)⟩
      exact fun h => h ((strOf_inj (h2.gl _) (h2.gl _)).mpr h5)
  | succ d ih =>
    intro k b i hi hd hk
    obtain ⟨k, rfl⟩ : ∃ m, k = m + 1 := ⟨k - 1, by omega⟩
    refine .inl ⟨by omega, ⟨hi, by omega⟩, ?_⟩
    by_cases e : ((gl l0 i.toNat).length : Int) > 200
    · exact .inl ⟨e, trivial⟩
    · exact .inr ⟨e, by rw [w64 (by omega) (by omega)]; exact ih k b (i + 1) (by omega) (by omega) (by omega)⟩
theorem equalFirst_pure (l0 : List (List Int)) (a1 : Int) (h2 : Bytl l0) (h1 : 0 ≤ a1 ∧ a1 < 256) (hz : ∀ j, (gl l0 j).length ≤ 9223372036854775807) : reliquarylaw05_EqualFirst.rel l0 a1 := by
  refine ⟨awake05, ?_⟩
  by_cases e0 : (l0.length : Int) = 0
  · exact .inl ⟨e0, trivial⟩
  refine .inr ⟨e0, ?_⟩
  by_cases e1 : (l0.length : Int) > 50
  · exact .inl ⟨e1, trivial⟩
  exact .inr ⟨e1, _, equalFirst_loop l0 a1 h1 h2 (by omega) (by omega) hz l0.length (l0.length + 1) false 0 (by omega) (by omega) (by omega)⟩
theorem found_rel (a : Int) : reliquarylaw05_found.rel a (if a > 0 then 1 else 0) := by
  by_cases e : a > 0
  · rw [if_pos e]; exact .inl ⟨e, rfl⟩
  · rw [if_neg e]; exact .inr ⟨e, rfl⟩
theorem equalLong_pure (l0 l1 : List Int) (h0 : Byt l0) (h1 : Byt l1) : reliquarylaw05_EqualLong.rel l0 l1 := by
  refine ⟨awake05, ?_⟩
  by_cases e0 : (l0.length : Int) > 1000
  · exact .inl ⟨e0, trivial⟩
  refine .inr ⟨e0, ?_⟩
  by_cases e1 : (l1.length : Int) > 1000
  · exact .inl ⟨e1, trivial⟩
  refine .inr ⟨e1, _, rfl, ?_⟩
  rw [List.nil_append]
  have hb := h0.append h1
  have hlen : (l0 ++ l1).length = l0.length + l1.length := by simp
  have p1 : prt (l0 ++ l1) (0 : Int) (l0.length : Int) = l0 := by simp [prt]
  have p2 : prt (l0 ++ l1) (l0.length : Int) ((l0 ++ l1).length : Int) = l1 := by
    simp [prt]
    exact List.take_of_length_le (by omega)
  have hB : Bytl [l0 ++ l1, l0] := fun x hx => by
    simp only [List.mem_cons, List.not_mem_nil, or_false] at hx
    rcases hx with rfl | rfl
    · exact hb
    · exact h0
  obtain ⟨r, hr, hf⟩ := find_rel [l0 ++ l1, l0] l0 hB h0 (fun j => by
    match j with
    | 0 => show (l0 ++ l1).length ≤ _; omega
    | 1 => show l0.length ≤ _; omega
    | j + 2 => simp [gl]) (by simp)
  refine ⟨by omega, _, rfl, by omega, decide (l0 = l0 ++ l1), bytes_rel l0 _ h0 hb (by omega), ?_, true, bytes_true hb hb (by omega) rfl, rfl, ⟨by omega, by omega, by omega⟩, true, bytes_true (hb.prt _ _) h0 (by rw [p1]; omega) p1, rfl, ⟨by omega, by omega, by omega⟩, true, bytes_true (hb.prt _ _) h1 (by rw [p2]; omega) p2, rfl, r, hr, _, found_rel _, ?_⟩
  · rw [Bool.eq_iff_iff]
    simp
  · refine hf.uniq ?_
    by_cases e : (l1.length : Int) > 0
    · rw [if_pos e]
      refine .inr ⟨1, by simp, rfl, rfl, fun i hi => ?_⟩
      have : i = 0 := by omega
      subst this
      intro h
      have := congrArg List.length (show l0 ++ l1 = l0 from h)
      omega
    · rw [if_neg e]
      have : l1 = [] := List.eq_nil_of_length_eq_zero (by omega)
      subst this
      exact .inr ⟨0, by simp, rfl, by simp [gl], fun i hi => by omega⟩
end Go.Proofs.Ytkfkkbblmnnblaa
