/- The digest's digits, and the laws of layer 02. -/
import Derived.Test.YtbanecjdkphooaaDoorPlSh
namespace Go.Proofs.YtbanecjdkphooaaDoor
open Go Go.Kr Go.RowKit
set_option linter.unusedVariables false
set_option linter.unusedSimpArgs false

/-! ### 5. Digits -/
abbrev HX : ByteArray := ⟨#[48, 49, 50, 51, 52, 53, 54, 55, 56, 57, 97, 98, 99, 100, 101, 102]⟩
def nib (v : Nat) : Int := bn HX v
def hexl (l : List Int) : List Int := l.flatMap fun x => [nib (x.toNat / 16), nib (x.toNat % 16)]
theorem hex_fin : ∀ x : Fin 256, (shrI .u8 (x.val : Int) 4).toNat = x.val / 16 ∧ (bits .and .u8 (x.val : Int) 15).toNat = x.val % 16 ∧ 0 ≤ shrI .u8 (x.val : Int) 4 ∧ shrI .u8 (x.val : Int) 4 < 16 ∧ 0 ≤ bits .and .u8 (x.val : Int) 15 ∧ bits .and .u8 (x.val : Int) 15 < 16 := by decide +kernel
theorem hexl_append (a b : List Int) : hexl (a ++ b) = hexl a ++ hexl b := by simp [hexl]
theorem hexl_length : ∀ l : List Int, (hexl l).length = 2 * l.length
  | [] => rfl
  | x :: l => by
    have := hexl_length l
    simp only [hexl, List.flatMap_cons, List.length_append, List.length_cons, List.length_nil] at *
    omega
theorem hex_L1 (l : List Int) (hb : Byt l) (hl : l.length = 32) : ∀ (d k i : Nat), i + d = 32 → d < k → digest_Hex.L1 l (strOfNums (hexl l)) k (hexl (l.take i)) i := by
  intro d
  induction d with
  | zero =>
    intro k i h1 h2
    obtain ⟨k, rfl⟩ : ∃ m, k = m + 1 := ⟨k - 1, by omega⟩
    obtain rfl : i = 32 := by omega
    exact .inr ⟨by omega, by rw [List.take_of_length_le (by omega)]⟩
  | succ d ih =>
    intro k i h1 h2
    obtain ⟨k, rfl⟩ : ∃ m, k = m + 1 := ⟨k - 1, by omega⟩
    have H := ih k (i + 1) (by omega) (by omega)
    have hx := hb.gn i
    have hf := hex_fin ⟨(gn l i).toNat, by omega⟩
    simp only [Int.toNat_of_nonneg hx.1] at hf
    obtain ⟨f1, f2, f3, f4, f5, f6⟩ := hf
    have hs16 : (HX.size : Int) = 16 := rfl
    refine .inl ⟨by omega, ⟨by omega, by omega⟩, ?_⟩
    rw [Int.toNat_natCast]
    refine ⟨⟨f3, by show _ < (HX.size : Int); omega⟩, ⟨f5, by show _ < (HX.size : Int); omega⟩, _, rfl, ?_, ?_⟩
    · rw [List.length_append, hexl_length]; simp; omega
    · rw [w64 (by omega) (by omega), f1, f2]
      rw [take_gn (by omega), hexl_append] at H
      exact H
theorem hex_rel (l : List Int) (hb : Byt l) (hl : l.length = 32) : digest_Hex.rel l (strOfNums (hexl l)) :=
  ⟨33, hex_L1 l hb hl 32 33 0 (by omega) (by omega)⟩
theorem nib_str : ∀ v : Fin 16, sx HX (v.val : Int) ((v.val : Int) + 1) = strOfNums [nib v.val] := by decide +kernel
theorem strOf_append (a b : List Int) : strOfNums a ++ strOfNums b = strOfNums (a ++ b) := by
  apply ByteArray.ext
  simp [strOfNums, ByteArray.data_append]
theorem rhex_L1 (l : List Int) (hb : Byt l) (hl : l.length = 32) : ∀ (d k i : Nat), i + d = 32 → d < k → reliquaryref02_Hex.L1 l (strOfNums (hexl l)) k (strOfNums (hexl (l.take i))) i := by
  intro d
  induction d with
  | zero =>
    intro k i h1 h2
    obtain ⟨k, rfl⟩ : ∃ m, k = m + 1 := ⟨k - 1, by omega⟩
    obtain rfl : i = 32 := by omega
    exact .inr ⟨by omega, by rw [List.take_of_length_le (by omega)]⟩
  | succ d ih =>
    intro k i h1 h2
    obtain ⟨k, rfl⟩ : ∃ m, k = m + 1 := ⟨k - 1, by omega⟩
    have H := ih k (i + 1) (by omega) (by omega)
    have hx := hb.gn i
    obtain ⟨v, hv⟩ := Int.eq_ofNat_of_zero_le hx.1
    have hv2 : v < 256 := by omega
    have e1 : IntKind.i64.wrap (Int.tdiv (IntKind.i64.wrap (gn l i)) 16) = ((v / 16 : Nat) : Int) := by
      rw [w64 (x := gn l i) (by omega) (by omega), hv, Int.tdiv_eq_ediv_of_nonneg (by omega), w64 (by omega) (by omega)]; omega
    have e2 : Int.tmod (IntKind.i64.wrap (gn l i)) 16 = ((v % 16 : Nat) : Int) := by
      rw [w64 (x := gn l i) (by omega) (by omega), hv, Int.tmod_eq_emod_of_nonneg (by omega)]; omega
    have e3 : IntKind.i64.wrap (((v / 16 : Nat) : Int) + 1) = ((v / 16 : Nat) : Int) + 1 := w64 (by omega) (by omega)
    have e4 : IntKind.i64.wrap (((v % 16 : Nat) : Int) + 1) = ((v % 16 : Nat) : Int) + 1 := w64 (by omega) (by omega)
    have n1 : sx HX ((v / 16 : Nat) : Int) (((v / 16 : Nat) : Int) + 1) = strOfNums [nib (v / 16)] := nib_str ⟨v / 16, by omega⟩
    have n2 : sx HX ((v % 16 : Nat) : Int) (((v % 16 : Nat) : Int) + 1) = strOfNums [nib (v % 16)] := nib_str ⟨v % 16, by omega⟩
    have hs16 : (HX.size : Int) = 16 := rfl
    unfold reliquaryref02_Hex.L1
    rw [Int.toNat_natCast, e1, e2, e4]
    refine .inl ⟨by omega, ⟨by omega, by omega⟩, _, rfl, ⟨by omega, by omega⟩, ?_⟩
    rw [e3]
    refine ⟨⟨by omega, by omega, by show _ ≤ (HX.size : Int); omega⟩, _, rfl, ⟨by omega, by omega, by show _ ≤ (HX.size : Int); omega⟩, ?_⟩
    rw [n1, n2]
    refine ⟨by rw [size_strOf, size_strOf]; simp, _, rfl, ?_, ?_⟩
    · rw [strOf_append, size_strOf, size_strOf, hexl_length]; simp; omega
    · rw [w64 (by omega) (by omega), strOf_append, strOf_append]
      rw [take_gn (by omega), hexl_append] at H
      have : hexl [gn l i] = [nib (v / 16)] ++ [nib (v % 16)] := by simp [hexl, hv]
      rw [this] at H
      exact H
theorem rhex_rel (l : List Int) (hb : Byt l) (hl : l.length = 32) : reliquaryref02_Hex.rel l (strOfNums (hexl l)) :=
  ⟨33, rhex_L1 l hb hl 32 33 0 (by omega) (by omega)⟩

/-! ### 6. Digits read -/
def dig (c : Int) : Int := ixb HX c
theorem dig_fin : ∀ c : Fin 256, -1 ≤ dig (c.val : Int) ∧ dig (c.val : Int) < 16 := by decide +kernel
theorem bn_range (s : ByteArray) (j : Nat) : 0 ≤ bn s j ∧ bn s j < 256 := by
  unfold bn
  have := (s.data.toList.getD j 0).toNat_lt
  omega
theorem dig_range (s : ByteArray) (j : Nat) : -1 ≤ dig (bn s j) ∧ dig (bn s j) < 16 := by
  have h := bn_range s j
  have := dig_fin ⟨(bn s j).toNat, by omega⟩
  simpa only [Int.toNat_of_nonneg h.1] using this
theorem two_fin : ∀ a b : Fin 16, IntKind.u8.wrap (bits .or .i64 (shlI .i64 (a.val : Int) 4) (b.val : Int)) = 16 * (a.val : Int) + (b.val : Int) := by decide +kernel
theorem two_dig {a b : Int} (h0 : 0 ≤ a) (h1 : a < 16) (h2 : 0 ≤ b) (h3 : b < 16) : IntKind.u8.wrap (bits .or .i64 (shlI .i64 a 4) b) = 16 * a + b := by
  have := two_fin ⟨a.toNat, by omega⟩ ⟨b.toNat, by omega⟩
  simpa only [Int.toNat_of_nonneg h0, Int.toNat_of_nonneg h2] using this
def rd (s : ByteArray) : Nat → Nat → List Int → List Int × Int
  | 0, _, m => (m, 0)
  | d + 1, i, m => if dig (bn s (2 * i)) < 0 ∨ dig (bn s (2 * i + 1)) < 0 then (List.replicate 32 0, 11) else rd s d (i + 1) (m.set i (16 * dig (bn s (2 * i)) + dig (bn s (2 * i + 1))))
theorem read_L1 (s : ByteArray) (hs : s.size = 64) : ∀ (d k i : Nat) (m : List Int), i + d = 32 → d < k → digest_Read.L1 s (rd s d i m).1 (rd s d i m).2 k m 0 i := by
  intro d
  induction d with
  | zero =>
    intro k i m h1 h2
    obtain ⟨k, rfl⟩ : ∃ m, k = m + 1 := ⟨k - 1, by omega⟩
    exact .inr ⟨by omega, rfl, rfl⟩
  | succ d ih =>
    intro k i m h1 h2
    obtain ⟨k, rfl⟩ : ∃ m, k = m + 1 := ⟨k - 1, by omega⟩
    have e1 : IntKind.i64.wrap (2 * (i : Int)) = ((2 * i : Nat) : Int) := by rw [w64 (by omega) (by omega)]; omega
    have e2 : IntKind.i64.wrap (((2 * i : Nat) : Int) + 1) = ((2 * i + 1 : Nat) : Int) := by rw [w64 (by omega) (by omega)]; omega
    have r1 := dig_range s (2 * i)
    have r2 := dig_range s (2 * i + 1)
    unfold digest_Read.L1
    rw [e1, e2]
    refine .inl ⟨by omega, ⟨by omega, by omega⟩, dig (bn s (2 * i)), ⟨_, rfl, rfl⟩, ⟨by omega, by omega⟩, dig (bn s (2 * i + 1)), ⟨_, rfl, rfl⟩, ?_⟩
    by_cases c1 : dig (bn s (2 * i)) < 0
    · rw [rd, if_pos (.inl c1)]
      exact .inl ⟨c1, _, rfl, rfl, rfl⟩
    by_cases c2 : dig (bn s (2 * i + 1)) < 0
    · rw [rd, if_pos (.inr c2)]
      exact .inr ⟨c1, .inl ⟨c2, _, rfl, rfl, rfl⟩⟩
    rw [rd, if_neg (by omega)]
    refine .inr ⟨c1, .inr ⟨c2, ⟨by omega, by omega⟩, _, rfl, ?_⟩⟩
    rw [two_dig (by omega) r1.2 (by omega) r2.2, w64 (by omega) (by omega)]
    exact ih k (i + 1) _ (by omega) (by omega)
def readf (s : ByteArray) : List Int × Int := if s.size = 64 then rd s 32 0 (List.replicate 32 0) else (List.replicate 32 0, 11)
theorem read_rel (s : ByteArray) : digest_Read.rel s (readf s).1 (readf s).2 := by
  unfold readf
  by_cases h : s.size = 64
  · rw [if_pos h]
    exact .inr ⟨by omega, 33, read_L1 s h 32 33 0 _ (by omega) (by omega)⟩
  · rw [if_neg h]
    exact .inl ⟨by omega, _, rfl, rfl, rfl⟩

/-! ### 7. The laws -/
theorem awake02 : reliquarylaw02_awake.rel := by
  have h1 := of_rel [] Byt.nil (by simp)
  have h2 := hex_rel (sumf []) (sumf_byt _) (sumf_length _)
  have h3 := read_rel str_cd372fb8
  have e1 : readf str_cd372fb8 = (sumf [], 0) := by decide +kernel
  rw [e1] at h3
  have e2 : (strOfNums (hexl (sumf []))).toList = str_cd372fb8.toList := by
    have : strOfNums (hexl (sumf [])) = str_cd372fb8 := by decide +kernel
    rw [this]
  exact ⟨_, h1, _, _, h3, _, h2, e2, rfl, rfl⟩
theorem digestSums_pure (l0 : List Int) (h0 : Byt l0) : reliquarylaw02_DigestSums.rel l0 := by
  refine ⟨awake02, ?_⟩
  by_cases e : (l0.length : Int) > 3000
  · exact .inl ⟨e, trivial⟩
  · exact .inr ⟨e, _, of_rel l0 h0 (by omega), _, rof_rel l0 h0 (by omega), sumf_length _, rfl, _, hex_rel _ (sumf_byt _) (sumf_length _), _, rhex_rel _ (sumf_byt _) (sumf_length _), rfl⟩
theorem lengths_loop (a0 a1 : Int) (h1 : 0 ≤ a1 ∧ a1 < 256) (n : Nat) (hn : n < 300) (e : IntKind.i64.wrap (Int.tmod a0 300) = (n : Int)) : ∀ (d k i : Nat), i + d = n → d < k → reliquarylaw02_DigestLengths.L1 a0 a1 k (List.replicate i a1) i := by
  intro d
  have hb : ∀ i, Byt (List.replicate i a1) := fun i x hx => by have := (List.mem_replicate.1 hx).2; omega
  induction d with
  | zero =>
    intro k i h2 h3
    obtain ⟨k, rfl⟩ : ∃ m, k = m + 1 := ⟨k - 1, by omega⟩
    unfold reliquarylaw02_DigestLengths.L1
    rw [e]
    exact .inr ⟨by omega, _, of_rel _ (hb i) (by simp; omega), _, rof_rel _ (hb i) (by simp; omega), rfl⟩
  | succ d ih =>
    intro k i h2 h3
    obtain ⟨k, rfl⟩ : ∃ m, k = m + 1 := ⟨k - 1, by omega⟩
    have H := ih k (i + 1) (by omega) (by omega)
    unfold reliquarylaw02_DigestLengths.L1
    rw [e]
    refine .inl ⟨by omega, _, rfl, by simp; omega, ?_⟩
    rw [w64 (by omega) (by omega), ← List.replicate_succ']
    exact H
theorem digestLengths_pure (a0 a1 : Int) (h0 : 0 ≤ a0 ∧ a0 < 65536) (h1 : 0 ≤ a1 ∧ a1 < 256) : reliquarylaw02_DigestLengths.rel a0 a1 := by
  have hm : 0 ≤ a0 % 300 := by omega
  obtain ⟨n, hn⟩ := Int.eq_ofNat_of_zero_le hm
  have e : IntKind.i64.wrap (Int.tmod a0 300) = (n : Int) := by rw [Int.tmod_eq_emod_of_nonneg h0.1, w64 (by omega) (by omega), hn]
  exact ⟨awake02, n + 1, lengths_loop a0 a1 h1 n (by omega) e n (n + 1) 0 (by omega) (by omega)⟩
theorem digit_fin : ∀ c : Fin 256, ∀ i : Fin 16, (bn HX i.val = (c.val : Int) → dig (c.val : Int) = (i.val : Int)) ∧ (dig (c.val : Int) = (i.val : Int) → bn HX i.val = (c.val : Int)) := by decide +kernel
theorem digit_L1 (c : Int) (h0 : 0 ≤ c) (h1 : c < 256) : ∀ (d k i : Nat), i + d = 16 → d < k → (∀ j : Nat, j < i → dig c ≠ (j : Int)) → reliquaryref02_digit.L1 c (dig c) k 0 i := by
  intro d
  have hs16 : (HX.size : Int) = 16 := rfl
  induction d with
  | zero =>
    intro k i h1 h2 hne
    obtain ⟨k, rfl⟩ : ∃ m, k = m + 1 := ⟨k - 1, by omega⟩
    obtain rfl : i = 16 := by omega
    have hr := dig_fin ⟨c.toNat, by omega⟩
    simp only [Int.toNat_of_nonneg h0] at hr
    refine .inr ⟨by omega, ?_⟩
    by_cases hz : dig c < 0
    · omega
    · exact absurd (by omega) (hne (dig c).toNat (by omega))
  | succ d ih =>
    intro k i h2 h3 hne
    obtain ⟨k, rfl⟩ : ∃ m, k = m + 1 := ⟨k - 1, by omega⟩
    have hf := digit_fin ⟨c.toNat, by omega⟩ ⟨i, by omega⟩
    simp only [Int.toNat_of_nonneg h0] at hf
    unfold reliquaryref02_digit.L1
    rw [Int.toNat_natCast]
    refine .inl ⟨by omega, ⟨by omega, by show _ < (HX.size : Int); omega⟩, ?_⟩
    by_cases e : bn HX i = c
    · exact .inl ⟨e, hf.1 e⟩
    · refine .inr ⟨e, ?_⟩
      rw [w64 (by omega) (by omega)]
      refine ih k (i + 1) (by omega) (by omega) (fun j hj => ?_)
      by_cases ej : j = i
      · subst ej; exact fun hd => e (hf.2 hd)
      · exact hne j (by omega)
theorem digit_rel (c : Int) (h0 : 0 ≤ c) (h1 : c < 256) : reliquaryref02_digit.rel c (dig c) := ⟨17, digit_L1 c h0 h1 16 17 0 (by omega) (by omega) (fun j hj => by omega)⟩
theorem rread_L1 (s : ByteArray) (hs : s.size = 64) : ∀ (d k i : Nat) (m : List Int), i + d = 32 → d < k → reliquaryref02_Read.L1 s (rd s d i m).1 (rd s d i m).2 k m 0 i := by
  intro d
  induction d with
  | zero =>
    intro k i m h1 h2
    obtain ⟨k, rfl⟩ : ∃ m, k = m + 1 := ⟨k - 1, by omega⟩
    exact .inr ⟨by omega, rfl, rfl⟩
  | succ d ih =>
    intro k i m h1 h2
    obtain ⟨k, rfl⟩ : ∃ m, k = m + 1 := ⟨k - 1, by omega⟩
    have e1 : IntKind.i64.wrap (2 * (i : Int)) = ((2 * i : Nat) : Int) := by rw [w64 (by omega) (by omega)]; omega
    have e2 : IntKind.i64.wrap (((2 * i : Nat) : Int) + 1) = ((2 * i + 1 : Nat) : Int) := by rw [w64 (by omega) (by omega)]; omega
    have r1 := dig_range s (2 * i)
    have r2 := dig_range s (2 * i + 1)
    have b1 := bn_range s (2 * i)
    have b2 := bn_range s (2 * i + 1)
    unfold reliquaryref02_Read.L1
    rw [e1, e2]
    refine .inl ⟨by omega, ⟨by omega, by omega⟩, dig (bn s (2 * i)), digit_rel _ b1.1 b1.2, ⟨by omega, by omega⟩, dig (bn s (2 * i + 1)), digit_rel _ b2.1 b2.2, ?_⟩
    by_cases c1 : dig (bn s (2 * i)) < 0
    · rw [rd, if_pos (.inl c1)]
      exact .inl ⟨c1, _, rfl, rfl, rfl⟩
    by_cases c2 : dig (bn s (2 * i + 1)) < 0
    · rw [rd, if_pos (.inr c2)]
      exact .inr ⟨c1, .inl ⟨c2, _, rfl, rfl, rfl⟩⟩
    rw [rd, if_neg (by omega)]
    refine .inr ⟨c1, .inr ⟨c2, _, rfl, ⟨by omega, by omega⟩, _, rfl, ?_⟩⟩
    rw [w64 (x := 16 * _) (by omega) (by omega), w64 (by omega) (by omega), wu8 (by omega) (by omega), w64 (by omega) (by omega)]
    exact ih k (i + 1) _ (by omega) (by omega)
theorem rread_rel (s : ByteArray) : reliquaryref02_Read.rel s (readf s).1 (readf s).2 := by
  unfold readf
  by_cases h : s.size = 64
  · rw [if_pos h]
    exact .inr ⟨by omega, 33, rread_L1 s h 32 33 0 _ (by omega) (by omega)⟩
  · rw [if_neg h]
    exact .inl ⟨by omega, _, rfl, rfl, rfl⟩
theorem dig_nib : ∀ v : Fin 16, dig (nib v.val) = (v.val : Int) := by decide +kernel
theorem nib_byt : ∀ v : Fin 16, 0 ≤ nib v.val ∧ nib v.val < 256 := by decide +kernel
theorem hexl_byt {l : List Int} (hb : Byt l) : Byt (hexl l) := fun x hx => by
  unfold hexl at hx
  obtain ⟨y, hy, hx⟩ := List.mem_flatMap.1 hx
  have h1 := hb y hy
  simp only [List.mem_cons, List.not_mem_nil, or_false] at hx
  rcases hx with rfl | rfl
  · exact nib_byt ⟨y.toNat / 16, by omega⟩
  · exact nib_byt ⟨y.toNat % 16, by omega⟩
theorem gn_hexl : ∀ (l : List Int) (i : Nat), i < l.length → gn (hexl l) (2 * i) = nib ((gn l i).toNat / 16) ∧ gn (hexl l) (2 * i + 1) = nib ((gn l i).toNat % 16)
  | [], i, h => by simp at h
  | x :: l, 0, _ => ⟨rfl, rfl⟩
  | x :: l, i + 1, h => by
    have := gn_hexl l i (by simpa using h)
    have e : hexl (x :: l) = nib (x.toNat / 16) :: nib (x.toNat % 16) :: hexl l := rfl
    rw [e, show 2 * (i + 1) = 2 * i + 1 + 1 by omega, show 2 * i + 1 + 1 + 1 = (2 * i + 1) + 1 + 1 by omega]
    exact this
theorem rd_hex (l : List Int) (hb : Byt l) (hl : l.length = 32) : ∀ (d i : Nat) (m : List Int), i + d = 32 → m.length = 32 → (∀ j, j < i → gn m j = gn l j) → rd (strOfNums (hexl l)) d i m = (l, 0)
  | 0, i, m, h, hm, hj => by
    rw [rd]
    congr 1
    exact ext_gn (by omega) (fun j h' => hj j (by omega))
  | d + 1, i, m, h, hm, hj => by
    have hx := hb.gn i
    obtain ⟨g1, g2⟩ := gn_hexl l i (by omega)
    have d1 := dig_nib ⟨(gn l i).toNat / 16, by omega⟩
    have d2 := dig_nib ⟨(gn l i).toNat % 16, by omega⟩
    rw [rd, bn_strOf (hexl_byt hb), bn_strOf (hexl_byt hb), g1, g2]
    simp only at d1 d2
    rw [d1, d2, if_neg (by omega)]
    refine rd_hex l hb hl d (i + 1) _ (by omega) (by simpa using hm) (fun j hj2 => ?_)
    rw [gn_set (by omega)]
    split
    · rename_i e; subst e; omega
    · exact hj j (by omega)
theorem readf_hex (l : List Int) (hb : Byt l) (hl : l.length = 32) : readf (strOfNums (hexl l)) = (l, 0) := by
  unfold readf
  rw [if_pos (by rw [size_strOf, hexl_length]; omega)]
  exact rd_hex l hb hl 32 0 _ (by omega) (by simp) (fun j hj => by omega)
theorem digestReads_pure (a0 : ByteArray) (l1 : List Int) (_ : a0.size ≤ maxLen) (hb : Byt l1) (hl : l1.length = 32) : reliquarylaw02_DigestReads.rel a0 l1 := by
  refine ⟨awake02, ?_⟩
  by_cases e : (a0.size : Int) > 300
  · exact .inl ⟨e, trivial⟩
  · have h3 := read_rel (strOfNums (hexl l1))
    rw [readf_hex l1 hb hl] at h3
    exact .inr ⟨e, _, _, read_rel a0, _, _, rread_rel a0, _, hex_rel l1 hb hl, _, _, h3, rfl, rfl, rfl, rfl⟩
theorem flat_small (ls : List (List Int)) (b i : Nat) (hi : i ≤ ls.length) (h : ∀ j, j < i → (gl ls j).length ≤ b) : (ls.take i).flatten.length ≤ b * i := by
  induction i with
  | zero => simp
  | succ i ih =>
    have h1 := ih (by omega) (fun j hj => h j (by omega))
    have h2 := h i (by omega)
    rw [flat_succ (by omega), List.length_append, Nat.mul_succ]
    omega
theorem pieces_loop (ls : List (List Int)) (hb : Bytl ls) (hl : ls.length ≤ 20) : ∀ (d k i : Nat), i + d = ls.length → d < k → (∀ j, j < i → (gl ls j).length ≤ 500) → reliquarylaw02_DigestPieces.L1 ls k (ls.take i).flatten false i := by
  intro d
  induction d with
  | zero =>
    intro k i h1 h2 h3
    obtain ⟨k, rfl⟩ : ∃ m, k = m + 1 := ⟨k - 1, by omega⟩
    have hf := flat_small ls 500 i (by omega) h3
    have e : ls.take i = ls := List.take_of_length_le (by omega)
    rw [e] at hf ⊢
    exact .inr ⟨by omega, _, pieces_rel ls (flat_byt hb) (by omega) (by omega), _, rof_rel _ (flat_byt hb) (by omega), sumf_length _, rfl, _, of_rel _ (flat_byt hb) (by omega), sumf_length _, rfl⟩
  | succ d ih =>
    intro k i h1 h2 h3
    obtain ⟨k, rfl⟩ : ∃ m, k = m + 1 := ⟨k - 1, by omega⟩
    unfold reliquarylaw02_DigestPieces.L1
    rw [Int.toNat_natCast]
    refine .inl ⟨by omega, ⟨by omega, by omega⟩, ?_⟩
    by_cases e : ((gl ls i).length : Int) > 500
    · exact .inl ⟨e, trivial⟩
    · have h4 : ∀ j, j < i + 1 → (gl ls j).length ≤ 500 := fun j hj => by
        by_cases ej : j = i
        · subst ej; omega
        · exact h3 j (by omega)
      have H := ih k (i + 1) (by omega) (by omega) h4
      have hf := flat_small ls 500 (i + 1) (by omega) h4
      rw [flat_succ (by omega)] at H hf
      refine .inr ⟨e, ⟨by omega, by omega⟩, _, rfl, by omega, ?_⟩
      rw [w64 (by omega) (by omega)]
      exact H
theorem digestPieces_pure (ls : List (List Int)) (hb : Bytl ls) : reliquarylaw02_DigestPieces.rel ls := by
  refine ⟨awake02, ?_⟩
  by_cases e : (ls.length : Int) > 20
  · exact .inl ⟨e, trivial⟩
  · exact .inr ⟨e, ls.length + 1, pieces_loop ls hb (by omega) ls.length _ 0 (by omega) (by omega) (fun j hj => by omega)⟩
theorem digestEmpty_pure (a b : List Int) (ha : Byt a) (hb : Byt b) : reliquarylaw02_DigestEmpty.rel a b := by
  refine ⟨awake02, ?_⟩
  by_cases e : (a.length : Int) > 1000
  · exact .inl ⟨e, trivial⟩
  refine .inr ⟨e, ?_⟩
  by_cases e2 : (b.length : Int) > 1000
  · exact .inl ⟨e2, trivial⟩
  have f1 : [a].flatten = a := by simp
  have f2 : [([] : List Int), a, [], b, []].flatten = a ++ b := by simp
  have f3 : [a, b].flatten = a ++ b := by simp
  have f4 : ([] : List (List Int)).flatten = [] := rfl
  have p1 := pieces_rel [a] (by rw [f1]; exact ha) (by rw [f1]; omega) (by simp)
  have p2 := pieces_rel [([] : List Int), a, [], b, []] (by rw [f2]; exact ha.append hb) (by rw [f2, List.length_append]; omega) (by simp)
  have p3 := pieces_rel [a, b] (by rw [f3]; exact ha.append hb) (by rw [f3, List.length_append]; omega) (by simp)
  have p4 := pieces_rel [] (by rw [f4]; exact Byt.nil) (by simp) (by simp)
  rw [f1] at p1
  rw [f2] at p2
  rw [f3] at p3
  rw [f4] at p4
  exact .inr ⟨e2, _, p1, _, of_rel a ha (by omega), rfl, _, p2, _, p3, rfl, _, p4, _, of_rel [] Byt.nil (by simp), rfl⟩

/-! ### 8. A digit is laid over -/
theorem nib_fine : ∀ v : Fin 16, ((48 ≤ nib v.val ∧ nib v.val ≤ 57) ∨ (97 ≤ nib v.val ∧ nib v.val ≤ 102)) := by decide +kernel
theorem dig_fine : ∀ c : Fin 256, (((48 ≤ (c.val : Int) ∧ (c.val : Int) ≤ 57) ∨ (97 ≤ (c.val : Int) ∧ (c.val : Int) ≤ 102)) → 0 ≤ dig (c.val : Int) ∧ nib (dig (c.val : Int)).toNat = (c.val : Int)) ∧
    (¬ ((48 ≤ (c.val : Int) ∧ (c.val : Int) ≤ 57) ∨ (97 ≤ (c.val : Int) ∧ (c.val : Int) ≤ 102)) → dig (c.val : Int) < 0) := by decide +kernel
theorem hexl_nib {l : List Int} (hb : Byt l) {i : Nat} (hi : i < 2 * l.length) : ∃ v : Fin 16, gn (hexl l) i = nib v.val := by
  have h1 := hb.gn (i / 2)
  obtain ⟨g1, g2⟩ := gn_hexl l (i / 2) (by omega)
  rcases Nat.mod_two_eq_zero_or_one i with e | e
  · rw [show 2 * (i / 2) = i by omega] at g1
    exact ⟨⟨(gn l (i / 2)).toNat / 16, by omega⟩, g1⟩
  · rw [show 2 * (i / 2) + 1 = i by omega] at g2
    exact ⟨⟨(gn l (i / 2)).toNat % 16, by omega⟩, g2⟩
theorem rd_bad (s : ByteArray) : ∀ (d i : Nat) (m : List Int), (∃ j, i ≤ j ∧ j < i + d ∧ (dig (bn s (2 * j)) < 0 ∨ dig (bn s (2 * j + 1)) < 0)) → rd s d i m = (List.replicate 32 0, 11)
  | 0, i, m, ⟨j, h1, h2, _⟩ => by omega
  | d + 1, i, m, ⟨j, h1, h2, h3⟩ => by
    rw [rd]
    by_cases e : dig (bn s (2 * i)) < 0 ∨ dig (bn s (2 * i + 1)) < 0
    · rw [if_pos e]
    · rw [if_neg e]
      have hj : j ≠ i := fun ej => by subst ej; exact e h3
      exact rd_bad s d (i + 1) _ ⟨j, by omega, by omega, h3⟩
theorem sx_strOf (l : List Int) (a b : Int) (h0 : 0 ≤ a) (h1 : a ≤ b) (h2 : b ≤ l.length) : sx (strOfNums l) a b = strOfNums (prt l a b) := by
  apply ByteArray.ext
  unfold sx strOfNums prt
  rw [ByteArray.data_extract]
  apply Array.ext'
  simp only [Array.toList_extract, List.toList_toArray, List.extract_eq_take_drop, List.map_take, List.map_drop]
theorem set_split (l : List Int) (q : Nat) (c : Int) (hq : q < l.length) : l.set q c = l.take q ++ [c] ++ l.drop (q + 1) := by
  rw [List.set_eq_take_append_cons_drop, if_pos hq]; simp
theorem text_rel (l : List Int) (q : Nat) (c : Int) (hq : q < l.length) : sx (strOfNums l) 0 (q : Int) ++ strOfNums [c] ++ sx (strOfNums l) ((q + 1 : Nat) : Int) (l.length : Int) = strOfNums (l.set q c) := by
  rw [sx_strOf l 0 q (by omega) (by omega) (by omega), sx_strOf l ((q + 1 : Nat) : Int) l.length (by omega) (by omega) (by omega), strOf_append, strOf_append, set_split l q c hq]
  congr 2
  have : (l.length : Int).toNat - ((q + 1 : Nat) : Int).toNat = l.length - (q + 1) := by omega
  unfold prt
  rw [this, Int.toNat_natCast, List.take_of_length_le (by simp)]
theorem gn_set' {l : List Int} {q : Nat} {y : Int} (h : q < l.length) (p : Nat) : gn (l.set q y) p = if p = q then y else gn l p := gn_set h p
/-- The digest whose digits are these but for one. -/
def relaid (l : List Int) (q : Nat) (v : Nat) : List Int :=
  l.set (q / 2) (if q % 2 = 0 then 16 * (v : Int) + gn l (q / 2) % 16 else 16 * (gn l (q / 2) / 16) + (v : Int))
theorem relaid_byt {l : List Int} (hb : Byt l) (q v : Nat) (hv : v < 16) : Byt (relaid l q v) := by
  have h1 := hb.gn (q / 2)
  unfold relaid
  split
  · exact hb.set _ (by omega) (by omega)
  · exact hb.set _ (by omega) (by omega)
theorem hexl_relaid {l : List Int} (hb : Byt l) {q v : Nat} (hq : q < 2 * l.length) (hv : v < 16) : hexl (relaid l q v) = (hexl l).set q (nib v) := by
  have hl2 : (relaid l q v).length = l.length := by simp [relaid]
  apply ext_gn
  · rw [List.length_set, hexl_length, hexl_length, hl2]
  · intro j hj
    rw [hexl_length, hl2] at hj
    rw [gn_set (by rw [hexl_length]; exact hq)]
    have h1 := hb.gn (q / 2)
    obtain ⟨g1, g2⟩ := gn_hexl (relaid l q v) (j / 2) (by omega)
    obtain ⟨k1, k2⟩ := gn_hexl l (j / 2) (by omega)
    have hr : gn (relaid l q v) (j / 2) = if j / 2 = q / 2 then (if q % 2 = 0 then 16 * (v : Int) + gn l (q / 2) % 16 else 16 * (gn l (q / 2) / 16) + (v : Int)) else gn l (j / 2) := by
      unfold relaid; exact gn_set (by omega) _
    rw [hr] at g1 g2
    rcases Nat.mod_two_eq_zero_or_one j with e | e
    · rw [show 2 * (j / 2) = j by omega] at g1 k1
      rw [g1]
      by_cases ej : j = q
      · subst ej
        rw [if_pos rfl, if_pos e, if_pos rfl]
        congr 1; omega
      · rw [if_neg ej, k1]
        by_cases e2 : j / 2 = q / 2
        · rw [if_pos e2, if_neg (by omega), e2]
          congr 1; omega
        · rw [if_neg e2]
    · rw [show 2 * (j / 2) + 1 = j by omega] at g2 k2
      rw [g2]
      by_cases ej : j = q
      · subst ej
        rw [if_pos rfl, if_neg (by omega), if_pos rfl]
        congr 1; omega
      · rw [if_neg ej, k2]
        by_cases e2 : j / 2 = q / 2
        · rw [if_pos e2, if_pos (by omega), e2]
          congr 1; omega
        · rw [if_neg e2]
theorem hexl_inj {a b : List Int} (ha : Byt a) (hb : Byt b) (h1 : a.length = 32) (h2 : b.length = 32) (h : hexl a = hexl b) : a = b := by
  have e1 := readf_hex a ha h1
  rw [h, readf_hex b hb h2] at e1
  simpa using e1.symm
theorem digits_end (l0 : List Int) (a1 a2 : Int) (hb : Byt l0) (hl : l0.length = 32) (h1 : 0 ≤ a1 ∧ a1 < 256) (h2 : 0 ≤ a2 ∧ a2 < 256) (q : Nat) (hq : (q : Int) = a1 % 64) :
    ∃ s e, digest_Read.rel (strOfNums ((hexl l0).set q a2)) s e ∧ (((48 ≤ a2 ∧ a2 ≤ 57) ∨ (97 ≤ a2 ∧ a2 ≤ 102)) → e = 0 ∧ (s == l0) = (a2 == gn (hexl l0) q)) ∧
      (¬ ((48 ≤ a2 ∧ a2 ≤ 57) ∨ (97 ≤ a2 ∧ a2 ≤ 102)) → e = 11 ∧ s = List.replicate 32 0) := by
  have hX : (hexl l0).length = 64 := by rw [hexl_length]; omega
  have hXb := hexl_byt hb
  refine ⟨_, _, read_rel _, fun hf => ?_, fun hf => ?_⟩
  · have hd := (dig_fine ⟨a2.toNat, by omega⟩).1
    simp only [Int.toNat_of_nonneg h2.1] at hd
    obtain ⟨d1, d2⟩ := hd hf
    have dr := (dig_fin ⟨a2.toNat, by omega⟩).2
    simp only [Int.toNat_of_nonneg h2.1] at dr
    have hv : (dig a2).toNat < 16 := by omega
    have e1 := hexl_relaid hb (q := q) (v := (dig a2).toNat) (by omega) hv
    rw [d2] at e1
    have hr1 := relaid_byt hb q _ hv
    have hr2 : (relaid l0 q (dig a2).toNat).length = 32 := by simp [relaid, hl]
    rw [← e1, readf_hex _ hr1 hr2]
    refine ⟨rfl, ?_⟩
    have : (relaid l0 q (dig a2).toNat = l0) ↔ (a2 = gn (hexl l0) q) := by
      constructor
      · intro h
        rw [h] at e1
        have := congrArg (fun l => gn l q) e1
        simp only [gn_set (l := hexl l0) (q := q) (y := a2) (by omega), if_true] at this
        exact this.symm
      · intro h
        refine hexl_inj hr1 hb hr2 hl ?_
        rw [e1, h, set_gn_self (by omega)]
    by_cases hh : relaid l0 q (dig a2).toNat = l0
    · rw [hh, ← this.1 hh]; simp
    · have h3 : ¬ (a2 = gn (hexl l0) q) := fun h => hh (this.2 h)
      rw [beq_eq_false_iff_ne.mpr hh, beq_eq_false_iff_ne.mpr h3]
  · have hd := (dig_fine ⟨a2.toNat, by omega⟩).2
    simp only [Int.toNat_of_nonneg h2.1] at hd
    have d1 := hd hf
    have hbs : Byt ((hexl l0).set q a2) := hXb.set _ h2.1 h2.2
    have hsz : (strOfNums ((hexl l0).set q a2)).size = 64 := by rw [size_strOf, List.length_set]; exact hX
    have : readf (strOfNums ((hexl l0).set q a2)) = (List.replicate 32 0, 11) := by
      unfold readf
      rw [if_pos hsz]
      refine rd_bad _ 32 0 _ ⟨q / 2, by omega, by omega, ?_⟩
      rcases Nat.mod_two_eq_zero_or_one q with e | e
      · left
        rw [show 2 * (q / 2) = q by omega, bn_strOf hbs, gn_set (by omega), if_pos rfl]; exact d1
      · right
        rw [show 2 * (q / 2) + 1 = q by omega, bn_strOf hbs, gn_set (by omega), if_pos rfl]; exact d1
    rw [this]
    exact ⟨rfl, rfl⟩
theorem digits_loop (l0 : List Int) (a1 a2 : Int) (hb : Byt l0) (hl : l0.length = 32) (h1 : 0 ≤ a1 ∧ a1 < 256) (h2 : 0 ≤ a2 ∧ a2 < 256) : ∀ (d k i : Nat), i + d = 64 → d < k → reliquarylaw02_DigestDigits.L1 l0 a1 a2 (strOfNums (hexl l0)) k false i := by
  intro d
  have hX : (hexl l0).length = 64 := by rw [hexl_length]; omega
  have hXb := hexl_byt hb
  have hS : (strOfNums (hexl l0)).size = 64 := by rw [size_strOf]; exact hX
  induction d with
  | zero =>
    intro k i h3 h4
    obtain ⟨k, rfl⟩ : ∃ m, k = m + 1 := ⟨k - 1, by omega⟩
    obtain ⟨q, hq⟩ := Int.eq_ofNat_of_zero_le (show 0 ≤ a1 % 64 by omega)
    have e1 : IntKind.i64.wrap (Int.tmod a1 64) = (q : Int) := by rw [Int.tmod_eq_emod_of_nonneg h1.1, w64 (by omega) (by omega), hq]
    have e2 : IntKind.i64.wrap ((q : Int) + 1) = ((q + 1 : Nat) : Int) := by rw [w64 (by omega) (by omega)]; omega
    have ht := text_rel (hexl l0) q a2 (by omega)
    rw [hX] at ht
    obtain ⟨s, e, hr, hf, hn⟩ := digits_end l0 a1 a2 hb hl h1 h2 q hq.symm
    have hg : bn (strOfNums (hexl l0)) q = gn (hexl l0) q := bn_strOf hXb q
    unfold reliquarylaw02_DigestDigits.L1
    rw [e1, e2, hS, Int.toNat_natCast]
    have z1 : (sx (strOfNums (hexl l0)) 0 (q : Int)).size = q := by
      rw [sx_strOf _ _ _ (by omega) (by omega) (by omega), size_strOf, prt_length (by omega) (by omega) (by omega)]; omega
    have z2 : (sx (strOfNums (hexl l0)) ((q + 1 : Nat) : Int) ((64 : Nat) : Int)).size = 63 - q := by
      rw [sx_strOf _ _ _ (by omega) (by omega) (by omega), size_strOf, prt_length (by omega) (by omega) (by omega)]; omega
    have z3 : (strOfNums [a2]).size = 1 := by rw [size_strOf]; rfl
    refine .inr ⟨by omega, ⟨by omega, by omega, by omega⟩, ⟨by omega, by omega, by omega⟩, by omega, _, rfl, by rw [ByteArray.size_append]; omega, _, rfl, s, e, ?_, ?_⟩
    · rw [ht]; exact hr
    · rw [Int.toNat_natCast, hg]
      by_cases c1 : a2 ≥ 48
      · refine .inl ⟨c1, ?_⟩
        by_cases c2 : a2 ≤ 57
        · have := hf (.inl ⟨c1, c2⟩)
          exact .inl ⟨c2, this.1, ⟨by omega, by omega⟩, this.2⟩
        · refine .inr ⟨c2, ?_⟩
          by_cases c3 : a2 ≥ 97
          · refine .inl ⟨c3, ?_⟩
            by_cases c4 : a2 ≤ 102
            · have := hf (.inr ⟨c3, c4⟩)
              exact .inr ⟨fun h => h c4, this.1, ⟨by omega, by omega⟩, this.2⟩
            · have := hn (by omega)
              exact .inl ⟨c4, this.1, _, rfl, this.2⟩
          · have := hn (by omega)
            exact .inr ⟨c3, this.1, _, rfl, this.2⟩
      · refine .inr ⟨c1, ?_⟩
        have := hn (by omega)
        exact .inr ⟨by omega, this.1, _, rfl, this.2⟩
  | succ d ih =>
    intro k i h3 h4
    obtain ⟨k, rfl⟩ : ∃ m, k = m + 1 := ⟨k - 1, by omega⟩
    have H := ih k (i + 1) (by omega) (by omega)
    obtain ⟨v, hv⟩ := hexl_nib hb (i := i) (by omega)
    have hfine := nib_fine v
    rw [← hv] at hfine
    unfold reliquarylaw02_DigestDigits.L1
    rw [Int.toNat_natCast, hS, bn_strOf hXb, w64 (by omega) (by omega)]
    refine .inl ⟨by omega, ⟨by omega, by omega⟩, ?_⟩
    refine .inr ⟨by omega, ⟨by omega, by omega⟩, ?_⟩
    by_cases c : gn (hexl l0) i > 57
    · exact .inl ⟨c, ⟨by omega, by omega⟩, by omega, ⟨by omega, by omega⟩, by omega, H⟩
    · exact .inr ⟨c, H⟩
theorem digestDigits_pure (l0 : List Int) (a1 a2 : Int) (hb : Byt l0) (hl : l0.length = 32) (h1 : 0 ≤ a1 ∧ a1 < 256) (h2 : 0 ≤ a2 ∧ a2 < 256) : reliquarylaw02_DigestDigits.rel l0 a1 a2 :=
  ⟨awake02, _, hex_rel l0 hb hl, by rw [size_strOf, hexl_length]; omega, 65, digits_loop l0 a1 a2 hb hl h1 h2 64 65 0 (by omega) (by omega)⟩
end Go.Proofs.YtbanecjdkphooaaDoor
