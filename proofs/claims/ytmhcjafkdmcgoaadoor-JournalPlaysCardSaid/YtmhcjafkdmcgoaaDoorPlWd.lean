/- Numbers in bytes: what the program and the document put and get. -/
import Derived.Test.YtmhcjafkdmcgoaaDoorPlCc
namespace Go.Proofs.YtmhcjafkdmcgoaaDoor
open Go Go.Kr Go.RowKit
set_option linter.unusedVariables false
set_option linter.unusedSimpArgs false
def pb (x : Int) (i : Nat) : Int := x / 256 ^ i % 256
def putf (x : Int) (n : Nat) : List Int := (List.range n).map (pb x)
theorem putf_length (x : Int) (n : Nat) : (putf x n).length = n := by simp [putf]
theorem gn_putf (x : Int) {n j : Nat} (h : j < n) : gn (putf x n) j = pb x j := gn_map_range _ h
theorem pb_range (x : Int) (i : Nat) : 0 ≤ pb x i ∧ pb x i < 256 := by unfold pb; omega
theorem putf_byt (x : Int) (n : Nat) : Byt (putf x n) := byt_of_gn fun j hj => by
 rw [putf_length] at hj
 rw [gn_putf x hj]; exact pb_range x j
theorem pow256 (i : Nat) : (256 : Int) ^ i = ((256 ^ i : Nat) : Int) := by simp
theorem p256 (i : Nat) : (0 : Int) < 256 ^ i := by
 induction i with
 | zero => simp
 | succ i ih => rw [Int.pow_succ]; omega
theorem p256' (i : Nat) : (0 : Int) ≤ 256 ^ i := Int.le_of_lt (p256 i)
theorem pow8 (i : Nat) : (2 : Int) ^ (8 * i) = 256 ^ i := by rw [Int.pow_mul]; rfl
theorem shr64 (x : Int) (i : Nat) (hi : i ≤ 8) : shrI .u64 x ((8 * i : Nat) : Int) = x / 256 ^ i := by
 unfold shrI
 rw [show min ((8 * i : Nat) : Int).toNat IntKind.u64.bits = 8 * i by simp [IntKind.bits]; omega, pow8]
 rw [Int.fdiv_eq_ediv_of_nonneg _ (p256' i)]
theorem idx8 (i : Nat) (hi : i ≤ 8) : IntKind.u64.wrap (IntKind.i64.wrap (8 * (i : Int))) = ((8 * i : Nat) : Int) := by
 rw [w64 (by omega) (by omega), wu64 (by omega) (by omega)]; omega
theorem size_rel (n : Nat) : word_size.rel n (decide (1 ≤ n ∧ n ≤ 8)) := by
 by_cases h : 1 ≤ n
 ·exact .inl ⟨by omega, decide_eq_decide.mpr (by omega)⟩
 exact .inr ⟨by omega, by simp [h]⟩
theorem put_L1 (x : Int) (n : Nat) (hn : n ≤ 8) : ∀ (d k i : Nat) (l : List Int), i + d = n → d < k → l.length = n → (∀ j, j < i → gn l j = pb x j) → word_Put.L1 x n (putf x n) k l i := by
 intro d
 induction d with
 | zero =>
  intro k i l h1 h2 hl hj
  obtain ⟨k, rfl⟩ : ∃ m, k = m + 1 := ⟨k - 1, by omega⟩
  exact .inr ⟨by omega, ext_gn (by rw [putf_length, hl]) fun j h => by rw [putf_length] at h; rw [gn_putf x h, hj j (by omega)]⟩
 | succ d ih =>
  intro k i l h1 h2 hl hj
  obtain ⟨k, rfl⟩ : ∃ m, k = m + 1 := ⟨k - 1, by omega⟩
  unfold word_Put.L1
  rw [idx8 i (by omega), Int.toNat_natCast]
  refine .inl ⟨by omega, by omega, _, rfl, ⟨by omega, by omega⟩, _, rfl, ?_⟩
  rw [w64 (by omega) (by omega)]
  refine ih k (i + 1) _ (by omega) (by omega) (by simpa using hl) fun j h => ?_
  rw [gn_set (by omega)]
  split
  ·rename_i e; subst e
   rw [shr64 x j (by omega), IntKind.wrap_u8]; rfl
  exact hj j (by omega)
theorem put_rel (x : Int) (n : Nat) (h1 : 1 ≤ n) (h2 : n ≤ 8) : word_Put.rel x n (putf x n) := by
 refine ⟨_, size_rel n, .inr ⟨by simp [h1, h2], ⟨by omega, by omega⟩, n + 1, ?_⟩⟩
 exact put_L1 x n h2 n (n + 1) 0 _ (by omega) (by omega) (by simp) (fun j hj => by omega)
theorem rput_L1 (x : Int) (hx : 0 ≤ x ∧ x < 18446744073709551616) (n : Nat) (hn : n ≤ 8) : ∀ (d k i : Nat), i + d = n → d < k → reliquaryref01_Put.L1 n (putf x n) k (putf x i) (x / 256 ^ i) i := by
 intro d
 induction d with
 | zero =>
  intro k i h1 h2
  obtain ⟨k, rfl⟩ : ∃ m, k = m + 1 := ⟨k - 1, by omega⟩
  exact .inr ⟨by omega, by rw [show i = n by omega]⟩
 | succ d ih =>
  intro k i h1 h2
  obtain ⟨k, rfl⟩ : ∃ m, k = m + 1 := ⟨k - 1, by omega⟩
  have H := ih k (i + 1) (by omega) (by omega)
  have hq : 0 ≤ x / 256 ^ i ∧ x / 256 ^ i ≤ x := ⟨Int.ediv_nonneg hx.1 (p256' i), Int.ediv_le_self _ hx.1⟩
  have e1 : putf x (i + 1) = putf x i ++ [pb x i] := by simp [putf, List.range_succ]
  have e2 : x / 256 ^ (i + 1) = x / 256 ^ i / 256 := by
   rw [Int.pow_succ, Int.ediv_ediv_of_nonneg (p256' i)]
  unfold reliquaryref01_Put.L1
  refine .inl ⟨by omega, _, rfl, by rw [List.length_append, putf_length]; simp; omega, ?_⟩
  rw [w64 (by omega) (by omega), Int.tmod_eq_emod_of_nonneg hq.1, wu8 (by omega) (by omega), Int.tdiv_eq_ediv_of_nonneg hq.1, wu64 (by omega) (by omega), ← e2]
  rw [e1] at H
  exact H
theorem rput_rel (x : Int) (hx : 0 ≤ x ∧ x < 18446744073709551616) (n : Nat) (h2 : n ≤ 8) : reliquaryref01_Put.rel x n (putf x n) := by
 refine .inr ⟨by omega, n + 1, ?_⟩
 have := rput_L1 x hx n h2 n (n + 1) 0 (by omega) (by omega)
 simpa [putf] using this
def getn (l : List Int) (a : Nat) : Nat → Int
 | 0 => 0
 | i + 1 => getn l a i + gn l (a + i) * 256 ^ i
theorem getn_range {l : List Int} (hb : Byt l) (a : Nat) : ∀ i, 0 ≤ getn l a i ∧ getn l a i < 256 ^ i
  | 0 => by simp [getn]
  | i + 1 => by
    have h := getn_range hb a i
    have hx := hb.gn (a + i)
    rw [getn, Int.pow_succ]
    have h1 : 0 ≤ gn l (a + i) * 256 ^ i := Int.mul_nonneg hx.1 (p256' i)
    have h2 : gn l (a + i) * 256 ^ i ≤ 255 * 256 ^ i := Int.mul_le_mul_of_nonneg_right (by omega) (p256' i)
    omega
theorem pow256_le {i : Nat} (h : i ≤ 7) : (256 : Int) ^ i ≤ 72057594037927936 := by
 have : 256 ^ i ≤ 256 ^ 7 := Nat.pow_le_pow_right (by omega) h
 rw [pow256]; omega
theorem or_add64 {v c : Int} {i : Nat} (hi : i ≤ 7) (h0 : 0 ≤ v) (h1 : v < 256 ^ i) (hc : 0 ≤ c ∧ c < 256) : bits .or .u64 v (c * 256 ^ i) = v + c * 256 ^ i := by
 have hp := pow256_le hi
 have hm0 : 0 ≤ c * 256 ^ i := Int.mul_nonneg hc.1 (p256' i)
 have hm : c * 256 ^ i ≤ 255 * 256 ^ i := Int.mul_le_mul_of_nonneg_right (by omega) (p256' i)
 rw [u64_or _ _ (by omega) (by omega) (by omega) (by omega)]
 have hb : v.toNat < 2 ^ (8 * i) := by
  rw [Nat.pow_mul]
  have : (v.toNat : Int) < ((256 ^ i : Nat) : Int) := by rw [← pow256, Int.toNat_of_nonneg h0]; exact h1
  exact_mod_cast this
 have h := Nat.two_pow_add_eq_or_of_lt hb c.toNat
 have e1 : (c * 256 ^ i).toNat = 2 ^ (8 * i) * c.toNat := by
  rw [Nat.pow_mul, Int.toNat_mul hc.1 (p256' i), pow256, Int.toNat_natCast, Nat.mul_comm]
 rw [e1, Nat.or_comm, ← h]
 have e2 : ((2 ^ (8 * i) * c.toNat : Nat) : Int) = c * 256 ^ i := by rw [← e1, Int.toNat_of_nonneg hm0]
 omega
theorem shl64 (c : Int) (i : Nat) (hi : i ≤ 7) (hc : 0 ≤ c ∧ c < 256) : shlI .u64 c ((8 * i : Nat) : Int) = c * 256 ^ i := by
 unfold shlI
 rw [show min ((8 * i : Nat) : Int).toNat IntKind.u64.bits = 8 * i by simp [IntKind.bits]; omega, pow8]
 have hp := pow256_le hi
 have h1 : 0 ≤ c * 256 ^ i := Int.mul_nonneg hc.1 (p256' i)
 have h2 : c * 256 ^ i ≤ 255 * 256 ^ i := Int.mul_le_mul_of_nonneg_right (by omega) (p256' i)
 exact wu64 h1 (by omega)
theorem get_L1 (l : List Int) (hb : Byt l) (a n : Nat) (hn : n ≤ 8) (h : a + n ≤ l.length) (hs : l.length ≤ 1000000) : ∀ (d k i : Nat), i + d = n → d < k → word_Get.L1 l a n (getn l a n) 0 k (getn l a i) i := by
 have e0 : IntKind.i64.wrap ((a : Int) + (n : Int)) = ((a + n : Nat) : Int) := by rw [w64 (by omega) (by omega)]; omega
 have hpl : (prt l (a : Int) ((a + n : Nat) : Int)).length = n := by rw [prt_length (by omega) (by omega) (by omega)]; omega
 intro d
 induction d with
 | zero =>
  intro k i h1 h2
  obtain ⟨k, rfl⟩ : ∃ m, k = m + 1 := ⟨k - 1, by omega⟩
  unfold word_Get.L1
  rw [e0, hpl]
  exact .inr ⟨by omega, by rw [show i = n by omega], rfl⟩
 | succ d ih =>
  intro k i h1 h2
  obtain ⟨k, rfl⟩ : ∃ m, k = m + 1 := ⟨k - 1, by omega⟩
  have hx := hb.gn (a + i)
  have hg := getn_range hb a i
  unfold word_Get.L1
  rw [e0, hpl, idx8 i (by omega), Int.toNat_natCast, gn_prt (by omega) (by omega) (by omega), Int.toNat_natCast, wu64 hx.1 (by omega)]
  refine .inl ⟨by omega, ⟨by omega, by omega⟩, _, rfl, by omega, _, rfl, ?_⟩
  rw [w64 (by omega) (by omega), shl64 _ i (by omega) hx, or_add64 (by omega) hg.1 hg.2 hx]
  exact ih k (i + 1) (by omega) (by omega)
def getf (l : List Int) (a n : Nat) : Int × Int := if n < 1 ∨ n > 8 then (0, 1) else if l.length < a + n then (0, 12) else (getn l a n, 0)
theorem get_rel (l : List Int) (hb : Byt l) (a n : Nat) (ha : a ≤ 1000000) (hn : n ≤ 1000000) (hs : l.length ≤ 1000000) : word_Get.rel l a n (getf l a n).1 (getf l a n).2 := by
 have hz := size_rel n
 unfold getf
 by_cases c1 : n < 1 ∨ n > 8
 ·rw [if_pos c1]
  exact ⟨1, ⟨_, hz, .inl ⟨by simp; omega, rfl⟩⟩, .inl ⟨by decide, rfl, rfl⟩⟩
 rw [if_neg c1]
 have hok : ¬ ¬ (decide (1 ≤ n ∧ n ≤ 8) = true) := by simp; omega
 by_cases c2 : l.length < a + n
 ·rw [if_pos c2]
  refine ⟨12, ⟨_, hz, .inr ⟨hok, .inr ⟨by omega, ?_⟩⟩⟩, .inl ⟨by decide, rfl, rfl⟩⟩
  by_cases c3 : (a : Int) > l.length
  ·exact .inl ⟨c3, rfl⟩
  exact .inr ⟨c3, .inl ⟨by rw [w64 (by omega) (by omega)]; omega, rfl⟩⟩
 rw [if_neg c2]
 refine ⟨0, ⟨_, hz, .inr ⟨hok, .inr ⟨by omega, .inr ⟨by omega, .inr ⟨by rw [w64 (by omega) (by omega)]; omega, rfl⟩⟩⟩⟩⟩, .inr ⟨by decide, ?_, n + 1, get_L1 l hb a n (by omega) (by omega) hs n _ 0 (by omega) (by omega)⟩⟩
 rw [w64 (by omega) (by omega)]
 omega
theorem rget_L1 (l : List Int) (hb : Byt l) (a n : Nat) (hn : n ≤ 8) (h : a + n ≤ l.length) (hs : l.length ≤ 1000000) : ∀ (d k i : Nat), i + d = n → d < k → reliquaryref01_Get.L1 l a n (getn l a n) 0 k (getn l a i) (IntKind.u64.wrap (256 ^ i)) i := by
 intro d
 induction d with
 | zero =>
  intro k i h1 h2
  obtain ⟨k, rfl⟩ : ∃ m, k = m + 1 := ⟨k - 1, by omega⟩
  exact .inr ⟨by omega, by rw [show i = n by omega], rfl⟩
 | succ d ih =>
  intro k i h1 h2
  obtain ⟨k, rfl⟩ : ∃ m, k = m + 1 := ⟨k - 1, by omega⟩
  have H := ih k (i + 1) (by omega) (by omega)
  have hx := hb.gn (a + i)
  have hg := getn_range hb a i
  have hp := pow256_le (i := i) (by omega)
  have e1 : IntKind.i64.wrap ((a : Int) + (i : Int)) = ((a + i : Nat) : Int) := by rw [w64 (by omega) (by omega)]; omega
  have e2 : IntKind.u64.wrap ((256 : Int) ^ i) = 256 ^ i := wu64 (p256' i) (by omega)
  have m1 : 0 ≤ gn l (a + i) * 256 ^ i := Int.mul_nonneg hx.1 (p256' i)
  have m2 : gn l (a + i) * 256 ^ i ≤ 255 * 256 ^ i := Int.mul_le_mul_of_nonneg_right (by omega) (p256' i)
  unfold reliquaryref01_Get.L1
  rw [e1, e2, Int.toNat_natCast, wu64 hx.1 (by omega)]
  refine .inl ⟨by omega, ⟨by omega, by omega⟩, _, rfl, ?_⟩
  rw [w64 (by omega) (by omega), wu64 m1 (by omega), wu64 (by omega) (by omega), ← Int.pow_succ]
  exact H
theorem rget_rel (l : List Int) (hb : Byt l) (a n : Nat) (ha : a ≤ 1000000) (hn : n ≤ 1000000) (hs : l.length ≤ 1000000) : reliquaryref01_Get.rel l a n (getf l a n).1 (getf l a n).2 := by
 unfold getf
 by_cases c0 : n < 1
 ·rw [if_pos (.inl c0)]
  exact .inl ⟨by omega, rfl, rfl⟩
 refine .inr ⟨by omega, ?_⟩
 by_cases c1 : n > 8
 ·rw [if_pos (.inr c1)]
  exact .inl ⟨by omega, rfl, rfl⟩
 rw [if_neg (by omega)]
 refine .inr ⟨by omega, .inr ⟨by omega, ?_⟩⟩
 by_cases c2 : l.length < a + n
 ·rw [if_pos c2]
  by_cases c3 : (a : Int) > l.length
  ·exact .inl ⟨c3, rfl, rfl⟩
  exact .inr ⟨c3, .inl ⟨by rw [w64 (by omega) (by omega)]; omega, rfl, rfl⟩⟩
 rw [if_neg c2]
 refine .inr ⟨by omega, .inr ⟨by rw [w64 (by omega) (by omega)]; omega, n + 1, ?_⟩⟩
 have := rget_L1 l hb a n (by omega) (by omega) hs n (n + 1) 0 (by omega) (by omega)
 simpa [getn, IntKind.wrap_u64] using this
end Go.Proofs.YtmhcjafkdmcgoaaDoor
