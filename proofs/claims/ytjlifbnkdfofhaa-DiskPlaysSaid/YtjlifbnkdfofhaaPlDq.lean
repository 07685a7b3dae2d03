/- Disk: whatever is done with a disk: the law. -/
import Derived.Test.YtjlifbnkdfofhaaPlDp
namespace Go.Proofs.Ytjlifbnkdfofhaa
open Go Go.Kr Go.RowKit
set_option linter.unusedVariables false
set_option linter.unusedSimpArgs false
theorem plays_L4 (l1 : List R33) (hk : ∀ x ∈ l1, ok33 x) : ∀ (k f i : Nat) (d : DS) (D : List R69), i + k = min l1.length 40 → k < f → Inv i d D →
    reliquarylaw06_DiskPlays.L4 l1 f d.p d.u d.ops (d.p.length : Int) (D.map toW) (d.u.map toW) d.left d.down d.ops d.left d.down false i := by
  intro k
  induction k with
  | zero =>
    intro f i d D h1 h2 h
    obtain ⟨f, rfl⟩ : ∃ m, f = m + 1 := ⟨f - 1, by omega⟩
    by_cases hi : i < l1.length
    · exact .inl ⟨by omega, .inr ⟨by omega, trivial⟩⟩
    · exact .inr ⟨by omega, trivial⟩
  | succ k ih =>
    intro f i d D h1 h2 h
    obtain ⟨f, rfl⟩ : ∃ m, f = m + 1 := ⟨f - 1, by omega⟩
    have hi : i < l1.length := by omega
    obtain ⟨d', D', s1, s2, s3⟩ := dk_step d D (gx l1 i) i h (by omega) (hk _ (gx_mem hi)).2.1
    have sm := dk_same d' D' (i + 1) s2 (by omega)
    have ih' := ih f (i + 1) d' D' (by omega) (by omega) s2
    rw [s3] at sm ih'
    refine .inl ⟨by omega, .inl ⟨by omega, ⟨by omega, by omega⟩, ?_⟩⟩
    rw [Int.toNat_natCast, show IntKind.i64.wrap ((i : Int) + 1) = ((i + 1 : Nat) : Int) by rw [w64 (by omega) (by omega)]; omega]
    exact ⟨_, _, _, _, _, _, _, _, _, _, _, _, s1, fun h => h rfl, _, _, _, _, _, _, sm, fun h => h rfl, ih'⟩
theorem diskPlays_pure (a0 : Int) (l1 : List R33) (h0 : -9223372036854775808 ≤ a0 ∧ a0 ≤ 9223372036854775807) (h1 : l1.length ≤ 9223372036854775807) (hk : ∀ x ∈ l1, ok33 x) : reliquarylaw06_DiskPlays.rel a0 l1 := by
  refine ⟨dk_awake, ?_⟩
  have one : ∀ (c1 : Prop), (0 : Int) < (l1.length : Int) ∨ ¬ (0 : Int) < (l1.length : Int) := fun _ => Decidable.em _
  by_cases h20 : a0 > 20
  · refine .inl ⟨h20, ?_⟩
    by_cases h40 : a0 ≤ 4096
    · exact .inl ⟨h40, trivial⟩
    · refine .inr ⟨h40, _, _, dk_new_no a0 (by omega), .inl ⟨rfl, _, _, _, _, _, _, _, .inr ⟨by omega, .inl ⟨by omega, rfl, rfl, rfl, rfl, rfl, rfl, rfl⟩⟩, fun h => h rfl, 1, ?_⟩⟩
      rcases one True with h | h
      · exact .inl ⟨h, .inl ⟨by decide, trivial⟩⟩
      · exact .inr ⟨h, trivial⟩
  · refine .inr ⟨h20, ?_⟩
    by_cases hlt : a0 < 1
    · refine ⟨_, _, dk_new_no a0 (by omega), .inl ⟨rfl, _, _, _, _, _, _, _, .inl ⟨by omega, rfl, rfl, rfl, rfl, rfl, rfl, rfl⟩, fun h => h rfl, 1, ?_⟩⟩
      rcases one True with h | h
      · exact .inl ⟨h, .inl ⟨by decide, trivial⟩⟩
      · exact .inr ⟨h, trivial⟩
    · obtain ⟨n, rfl⟩ := Int.eq_ofNat_of_zero_le (show 0 ≤ a0 by omega)
      refine ⟨_, _, dk_new n (by omega) (by omega), .inr ⟨_, _, _, _, _, rfl, _, _, _, _, _, _, _, .inr ⟨by omega, .inr ⟨by omega, rfl, rfl, rfl, rfl, rfl, rfl, rfl⟩⟩, fun h => h rfl, l1.length + 1, ?_⟩⟩
      have := plays_L4 l1 hk (min l1.length 40) (l1.length + 1) 0 (newD n) [] (by omega) (by omega) (Inv.new n (by omega))
      rw [newD_len] at this
      exact this
end Go.Proofs.Ytjlifbnkdfofhaa
