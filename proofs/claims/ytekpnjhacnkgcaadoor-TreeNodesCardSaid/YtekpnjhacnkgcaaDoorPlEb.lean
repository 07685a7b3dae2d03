/- Bytes are told the same just if they are. -/
import Derived.Test.YtekpnjhacnkgcaaDoorPlA
import Derived.Test.YtekpnjhacnkgcaaDoorGx
namespace Go.Proofs.YtekpnjhacnkgcaaDoor
open Go Go.Kr Go.RowKit
set_option linter.unusedVariables false
set_option linter.unusedSimpArgs false
/-! ### differ, Bytes -/
theorem or_u64_zero {a b : Int} (ha : 0 ≤ a) (ha' : a < 18446744073709551616) (hb : 0 ≤ b) (hb' : b < 18446744073709551616) : bits .or .u64 a b = 0 ↔ a = 0 ∧ b = 0 := by
  rw [u64_or a b ha ha' hb hb']
  constructor
  · intro h
    have h' : a.toNat ||| b.toNat = 0 := by exact_mod_cast h
    rw [Nat.or_eq_zero_iff] at h'
    omega
  · rintro ⟨rfl, rfl⟩; simp
theorem or_u64_range {a b : Int} (ha : 0 ≤ a) (ha' : a < 18446744073709551616) (hb : 0 ≤ b) (hb' : b < 18446744073709551616) : 0 ≤ bits .or .u64 a b ∧ bits .or .u64 a b < 18446744073709551616 := by
  rw [u64_or a b ha ha' hb hb']
  have : a.toNat ||| b.toNat < 2 ^ 64 := Nat.or_lt_two_pow (by omega) (by omega)
  omega
theorem differ_loop (l0 l1 : List Int) (h0 : Byt l0) (h1 : Byt l1) (hl : l0.length = l1.length) (hs : l0.length ≤ 9223372036854775807) : ∀ (d k : Nat) (acc i : Int), 0 ≤ i → i + d = l0.length → d < k → 0 ≤ acc → acc < 18446744073709551616 →
    ∃ r, equal_differ.L1 l0 l1 r k acc i ∧ (r = 0 ↔ acc = 0 ∧ ∀ j : Nat, i ≤ j → j < l0.length → gn l0 j = gn l1 j) := by
  intro d
  induction d with
  | zero =>
    intro k acc i hi hd hk ha hb
    obtain ⟨k, rfl⟩ : ∃ m, k = m + 1 := ⟨k - 1, by omega⟩
    exact ⟨acc, .inr ⟨by omega, rfl⟩, by constructor; exact fun h => ⟨h, fun j h1 h2 => by omega⟩; exact fun h => h.1⟩
  | succ d ih =>
    intro k acc i hi hd hk ha hb
    obtain ⟨k, rfl⟩ : ∃ m, k = m + 1 := ⟨k - 1, by omega⟩
    have hx := u8_xor_range (h0.gn i.toNat) (h1.gn i.toNat)
    have hw : IntKind.u64.wrap (bits .xor .u8 (gn l0 i.toNat) (gn l1 i.toNat)) = bits .xor .u8 (gn l0 i.toNat) (gn l1 i.toNat) := wu64 hx.1 (by omega)
    have ho := or_u64_range ha hb hx.1 (by omega : bits .xor .u8 (gn l0 i.toNat) (gn l1 i.toNat) < 18446744073709551616)
    have hz := or_u64_zero ha hb hx.1 (by omega : bits .xor .u8 (gn l0 i.toNat) (gn l1 i.toNat) < 18446744073709551616)
    obtain ⟨r, hr, hq⟩ := ih k _ (i + 1) (by omega) (by omega) (by omega) ho.1 ho.2
    refine ⟨r, .inl ⟨by omega, ⟨hi, by omega⟩, ⟨hi, by omega⟩, _, rfl, ?_⟩, ?_⟩
    · rw [hw, w64 (by omega) (by omega)]; exact hr
    · rw [hq, hz, u8_xor_zero (h0.gn _) (h1.gn _)]
      constructor
      · rintro ⟨⟨ha, he⟩, hj⟩
        refine ⟨ha, fun j h1 h2 => ?_⟩
        by_cases e : (j : Int) = i
        · have : j = i.toNat := by omega
          rw [this]; exact he
        · exact hj j (by omega) h2
      · rintro ⟨ha, hj⟩
        exact ⟨⟨ha, hj _ (by omega) (by omega)⟩, fun j h1 h2 => hj j (by omega) h2⟩
theorem bytes_rel (l0 l1 : List Int) (h0 : Byt l0) (h1 : Byt l1) (hs : l0.length ≤ 9223372036854775807) : equal_Bytes.rel l0 l1 (decide (l0 = l1)) := by
  by_cases hl : l0.length = l1.length
  · obtain ⟨r, hr, hq⟩ := differ_loop l0 l1 h0 h1 hl hs l0.length (l0.length + 1) 0 0 (by omega) (by omega) (by omega) (by omega) (by omega)
    refine .inl ⟨by omega, r, ⟨_, hr⟩, ?_⟩
    have : r = 0 ↔ l0 = l1 := by
      rw [hq]
      exact ⟨fun h => ext_gn hl fun j hj => h.2 j (by omega) hj, fun h => ⟨rfl, fun j _ _ => by rw [h]⟩⟩
    by_cases e : l0 = l1
    · rw [decide_eq_true e, this.mpr e]; rfl
    · rw [decide_eq_false e]
      have : ¬ r = 0 := fun h => e (this.mp h)
      exact (beq_eq_false_iff_ne.mpr this).symm
  · refine .inr ⟨by omega, ?_⟩
    exact decide_eq_false fun e => hl (by rw [e])

end Go.Proofs.YtekpnjhacnkgcaaDoor
