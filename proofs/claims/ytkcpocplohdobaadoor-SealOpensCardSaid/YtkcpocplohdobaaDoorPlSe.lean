/- Sealing: what the walks compute is one function. -/
import Derived.Test.YtkcpocplohdobaaDoorPlCi
namespace Go.Proofs.YtkcpocplohdobaaDoor
open Go Go.Kr Go.RowKit
set_option linter.unusedVariables false
set_option linter.unusedSimpArgs false

/-! ### 1. Bytes as text, and what was said of the cipher -/
theorem bl_strOfNums {l : List Int} (h : Byt l) : bl (strOfNums l) = l := by
  unfold bl
  rw [toList_strOf, List.map_map]
  have : ∀ x ∈ l, ((fun b : UInt8 => (b.toNat : Int)) ∘ fun n : Int => UInt8.ofNat n.toNat) x = x := fun x hx => by
    have := h x hx
    simp; omega
  rw [List.map_congr_left this]; simp
theorem se_sx (l : List Int) (a b : Int) (h0 : 0 ≤ a) (h1 : a ≤ b) (h2 : b ≤ l.length) : sx (strOfNums l) a b = strOfNums (prt l a b) := by
  apply ByteArray.ext
  unfold sx strOfNums prt
  rw [ByteArray.data_extract]
  apply Array.ext'
  simp only [Array.toList_extract, List.toList_toArray, List.extract_eq_take_drop, List.map_take, List.map_drop]
theorem strOf_nil : strOfNums [] = (⟨#[]⟩ : ByteArray) := rfl
theorem se_xor {x y : Int} (hx : 0 ≤ x ∧ x < 256) (hy : 0 ≤ y ∧ y < 256) : bits .xor .u8 (bits .xor .u8 x y) y = x := by
  have hr := u8_xor_range hx hy
  rw [u8_xor _ y hr.1 (by omega) hy.1 (by omega), u8_xor x y hx.1 (by omega) hy.1 (by omega), Int.toNat_natCast, Nat.xor_assoc, Nat.xor_self, Nat.xor_zero]
  omega
theorem se_twice (key : List Int) (ctr : Int) (nonce : List Int) {l : List Int} (hb : Byt l) : cryptl key ctr nonce (cryptl key ctr nonce l) = l := by
  refine ext_gn (by rw [cryptl_length, cryptl_length]) fun p hp => ?_
  rw [cryptl_length, cryptl_length] at hp
  rw [gn_cryptl _ _ _ _ (by rw [cryptl_length]; exact hp)]
  unfold cb
  rw [gn_cryptl _ _ _ _ hp]
  exact se_xor (hb.gn p) ((blockf_byt _ _ _).gn _)
theorem se_cryptf {key nonce l : List Int} (h : l.length ≤ 100000) : cryptf key 0 nonce l = (cryptl key 0 nonce l, 0) := by
  unfold cryptf
  rw [if_neg]
  unfold nblk; omega
theorem se_rnonce_L2 (c r : List Int) (hc : c.length = 8) (hr : r.length = 12) (h1 : ∀ j, j < 8 → gn c j = gn r (4 + j)) : ∀ (d k i : Nat) (n : List Int), i + d = 8 → d < k → n.length = 12 →
    (∀ j, j < 4 + i → gn n j = gn r j) → reliquaryref04_Nonce.L2 r c k n i := by
  intro d
  induction d with
  | zero =>
    intro k i n h2 h3 hn hj
    obtain ⟨k, rfl⟩ : ∃ m, k = m + 1 := ⟨k - 1, by omega⟩
    exact .inr ⟨by omega, ext_gn (by omega) fun j hh => (hj j (by omega)).symm⟩
  | succ d ih =>
    intro k i n h2 h3 hn hj
    obtain ⟨k, rfl⟩ : ∃ m, k = m + 1 := ⟨k - 1, by omega⟩
    have e : IntKind.i64.wrap (4 + (i : Int)) = ((4 + i : Nat) : Int) := by rw [w64 (by omega) (by omega)]; omega
    unfold reliquaryref04_Nonce.L2
    rw [e, Int.toNat_natCast, Int.toNat_natCast]
    refine .inl ⟨by omega, ⟨by omega, by omega⟩, ⟨by omega, by omega⟩, _, rfl, ?_⟩
    rw [w64 (by omega) (by omega)]
    refine ih k (i + 1) _ (by omega) (by omega) (by simpa using hn) fun j hh => ?_
    rw [gn_set (by omega)]
    split
    · rename_i ej; subst ej; exact h1 i (by omega)
    · exact hj j (by omega)
theorem se_rnonce_L1 (p c r : List Int) (hp : p.length = 4) (hc : c.length = 8) (hr : r.length = 12) (h0 : ∀ j, j < 4 → gn p j = gn r j) (h1 : ∀ j, j < 8 → gn c j = gn r (4 + j)) : ∀ (d k i : Nat) (n : List Int), i + d = 4 → d < k → n.length = 12 →
    (∀ j, j < i → gn n j = gn r j) → reliquaryref04_Nonce.L1 r p c k n i := by
  intro d
  induction d with
  | zero =>
    intro k i n h2 h3 hn hj
    obtain ⟨k, rfl⟩ : ∃ m, k = m + 1 := ⟨k - 1, by omega⟩
    exact .inr ⟨by omega, 9, se_rnonce_L2 c r hc hr h1 8 9 0 n (by omega) (by omega) hn (fun j h => hj j (by omega))⟩
  | succ d ih =>
    intro k i n h2 h3 hn hj
    obtain ⟨k, rfl⟩ : ∃ m, k = m + 1 := ⟨k - 1, by omega⟩
    unfold reliquaryref04_Nonce.L1
    rw [Int.toNat_natCast]
    refine .inl ⟨by omega, ⟨by omega, by omega⟩, ⟨by omega, by omega⟩, _, rfl, ?_⟩
    rw [w64 (by omega) (by omega)]
    refine ih k (i + 1) _ (by omega) (by omega) (by simpa using hn) fun j hh => ?_
    rw [gn_set (by omega)]
    split
    · rename_i ej; subst ej; exact h0 j (by omega)
    · exact hj j (by omega)
theorem se_rnonce (p v : Int) (hp : 0 ≤ p ∧ p < 4294967296) (hv : 0 ≤ v ∧ v < 18446744073709551616) : reliquaryref04_Nonce.rel p v (noncef p v) := by
  have h4 := rput_rel p ⟨hp.1, by omega⟩ 4 (by omega)
  refine ⟨putf p 4, ?_, _, rput_rel v hv 8 (by omega), 5, ?_⟩
  · rw [wu64 hp.1 (by omega)]; exact h4
  · refine se_rnonce_L1 _ _ _ (putf_length p 4) (putf_length v 8) (noncef_length p v) (fun j hj => ?_) (fun j hj => ?_) 4 5 0 _ (by omega) (by omega) (by simp) (fun j h => by omega)
    · rw [noncef, gn_app, putf_length, if_pos hj]
    · rw [noncef, gn_app, putf_length, if_neg (by omega), show 4 + j - 4 = j by omega]
/-- What is got is put. -/
theorem pb_getn {l : List Int} (hb : Byt l) (a : Nat) : ∀ (n j : Nat), j < n → pb (getn l a n) j = gn l (a + j)
  | 0, j, h => by omega
  | n + 1, j, h => by
    have hg := getn_range hb a n
    have hx := hb.gn (a + n)
    rw [getn]
    unfold pb
    by_cases c : j = n
    · subst c
      rw [Int.add_mul_ediv_right _ _ (Int.ne_of_gt (p256 j)), Int.ediv_eq_zero_of_lt hg.1 hg.2]
      omega
    · have ih := pb_getn hb a n j (by omega)
      unfold pb at ih
      obtain ⟨t, rfl⟩ : ∃ t, n = j + (t + 1) := ⟨n - j - 1, by omega⟩
      have e : gn l (a + (j + (t + 1))) * 256 ^ (j + (t + 1)) = gn l (a + (j + (t + 1))) * 256 ^ t * 256 * 256 ^ j := by
        rw [Int.pow_add, Int.pow_succ]
        simp only [Int.mul_assoc, Int.mul_comm, Int.mul_left_comm]
      rw [e, Int.add_mul_ediv_right _ _ (Int.ne_of_gt (p256 j)), Int.add_mul_emod_self_right, ih]

/-! ### 2. Looking for what isn't nought -/
def tz (l : List Int) (n : Nat) : Bool := (l.drop n).any (· != 0)
theorem any_gn (l : List Int) : l.any (· != 0) = false ↔ ∀ j, gn l j = 0 := by
  constructor
  · intro h j
    by_cases c : j < l.length
    · have := (List.any_eq_false.1 h) l[j] (List.getElem_mem c)
      simp at this
      simp [gn, List.getD_eq_getElem?_getD, List.getElem?_eq_getElem c, this]
    · exact gn_over (by omega)
  · intro h
    refine List.any_eq_false.2 fun x hx => ?_
    obtain ⟨j, hj, rfl⟩ := List.getElem_of_mem hx
    have := h j
    simp [gn, List.getD_eq_getElem?_getD, List.getElem?_eq_getElem hj] at this
    simp [this]
theorem tz_iff (l : List Int) (n : Nat) : tz l n = false ↔ ∀ j, n ≤ j → gn l j = 0 := by
  rw [tz, any_gn]
  constructor
  · intro h j hj
    have := h (j - n)
    rw [gn_drop, show n + (j - n) = j by omega] at this; exact this
  · intro h j
    rw [gn_drop]; exact h _ (by omega)
theorem index_L1 (l : List Int) (hl : l.length ≤ 1000000) : ∀ (d k i : Nat), i + d = l.length → d < k → (∀ j, j < i → gn l j = 0) →
    ∃ r, slices_IndexFunc_s_byte_byte_fn1_seal_Open_1.L1 l r k 0 i ∧ decide (r ≥ 0) = l.any (· != 0) := by
  intro d
  induction d with
  | zero =>
    intro k i h1 h2 hj
    obtain ⟨k, rfl⟩ : ∃ m, k = m + 1 := ⟨k - 1, by omega⟩
    refine ⟨-1, .inr ⟨by omega, rfl⟩, ?_⟩
    rw [(any_gn l).2 fun j => if c : j < i then hj j c else gn_over (by omega)]
    rfl
  | succ d ih =>
    intro k i h1 h2 hj
    obtain ⟨k, rfl⟩ : ∃ m, k = m + 1 := ⟨k - 1, by omega⟩
    by_cases c : gn l i = 0
    · obtain ⟨r, hr, e⟩ := ih k (i + 1) (by omega) (by omega) fun j h => by
        by_cases c2 : j = i
        · rw [c2, c]
        · exact hj j (by omega)
      refine ⟨r, ?_, e⟩
      unfold slices_IndexFunc_s_byte_byte_fn1_seal_Open_1.L1
      rw [Int.toNat_natCast]
      refine .inl ⟨by omega, ⟨by omega, by omega⟩, _, rfl, .inr ⟨by simp [c], ?_⟩⟩
      rw [w64 (by omega) (by omega)]
      exact hr
    · refine ⟨i, ?_, ?_⟩
      · unfold slices_IndexFunc_s_byte_byte_fn1_seal_Open_1.L1
        rw [Int.toNat_natCast]
        exact .inl ⟨by omega, ⟨by omega, by omega⟩, _, rfl, .inl ⟨by simp [c], rfl⟩⟩
      · have : l.any (· != 0) = true := by
          cases h : l.any (· != 0) with
          | true => rfl
          | false => exact absurd ((any_gn l).1 h i) c
        rw [this]; simp
theorem contains_rel (l : List Int) (hl : l.length ≤ 1000000) : slices_ContainsFunc_s_byte_byte_fn1_seal_Open_1.rel l (l.any (· != 0)) := by
  obtain ⟨r, hr, e⟩ := index_L1 l hl l.length (l.length + 1) 0 (by omega) (by omega) (fun j h => by omega)
  exact ⟨r, ⟨_, hr⟩, e.symm⟩

/-! ### 3. Sealing -/
abbrev VMAX : Int := 18446744073709551615
def sealb (key : List Int) (p v : Int) (l : List Int) : List Int := putf v 8 ++ cryptl key 0 (noncef p v) l ++ List.replicate (184 - l.length) 0
def sealf (key : List Int) (p v : Int) (l : List Int) : List Int × Int := if ¬ (l.length = 160 ∨ l.length = 176) ∨ v = 0 then ([], 1) else if v = 18446744073709551615 then ([], 15) else (sealb key p v l, 0)
theorem sealb_length (key : List Int) (p v : Int) {l : List Int} (h : l.length ≤ 184) : (sealb key p v l).length = 192 := by
  rw [sealb, List.length_append, List.length_append, putf_length, cryptl_length, List.length_replicate]; omega
theorem sealb_byt (key : List Int) (p v : Int) {l : List Int} (hb : Byt l) : Byt (sealb key p v l) := ((putf_byt v 8).append (cryptl_byt _ _ _ hb)).append (rep_byt _)
theorem gn_sealb (key : List Int) (p v : Int) {l : List Int} (j : Nat) : gn (sealb key p v l) j = if j < 8 then pb v j else if j < 8 + l.length then cb key 0 (noncef p v) l (j - 8) else 0 := by
  rw [sealb, gn_app, List.length_append, putf_length, cryptl_length]
  by_cases c1 : j < 8
  · rw [if_pos (by omega), gn_app, putf_length, if_pos c1, if_pos c1, gn_putf v c1]
  rw [if_neg c1]
  by_cases c2 : j < 8 + l.length
  · rw [if_pos c2, if_pos c2, gn_app, putf_length, if_neg c1, gn_cryptl _ _ _ _ (by omega)]
  · rw [if_neg c2, if_neg c2, gn_rep]
theorem ssize_rel (n : Int) : seal_size.rel n (decide (n = 160 ∨ n = 176)) := by
  by_cases h : n = 160
  · exact .inl ⟨h, by simp [h]⟩
  · refine .inr ⟨h, ?_⟩
    by_cases h2 : n = 176 <;> simp [h, h2]
theorem pad_rel (l : List Int) (h : l.length ≤ 192) : word_Pad.rel l 192 (l ++ List.replicate (192 - l.length) 0) := by
  refine .inr ⟨by omega, ⟨by omega, by omega⟩, _, rfl, ?_⟩
  refine ext_gn (by rw [List.length_append, List.length_replicate, cpy_length (Nat.le_of_eq (Nat.zero_add _)), List.length_replicate]; omega) fun j hj => ?_
  rw [gn_cpy_at (Nat.le_of_eq (Nat.zero_add _)) (by rw [List.length_replicate]; omega), gn_app]
  by_cases c : j < l.length
  · rw [if_pos c, if_pos (by omega), Nat.sub_zero]
  · rw [if_neg c, if_neg (by omega), gn_rep, gn_rep]
theorem seal_rel (key : List Int) (p v : Int) (l : List Int) (hb : Byt key) (hl : key.length = 32) (hp : 0 ≤ p ∧ p < 4294967296) (hv : 0 ≤ v ∧ v < 18446744073709551616) (hs : l.length ≤ 100000) :
    seal_Seal.rel key p v l (sealf key p v l).1 (sealf key p v l).2 := by
  refine ⟨_, ssize_rel _, ?_⟩
  unfold sealf
  by_cases c1 : ¬ (l.length = 160 ∨ l.length = 176)
  · rw [if_pos (.inl c1)]
    exact .inl ⟨by simp; omega, rfl, rfl⟩
  refine .inr ⟨by simp; omega, ?_⟩
  by_cases c2 : v = 0
  · rw [if_pos (.inr c2)]
    exact .inl ⟨c2, rfl, rfl⟩
  rw [if_neg (by omega)]
  refine .inr ⟨c2, ?_⟩
  by_cases c3 : v = 18446744073709551615
  · rw [if_pos c3]
    exact .inl ⟨c3, rfl, rfl⟩
  rw [if_neg c3]
  have hc := crypt_rel key 0 (noncef p v) l hb hl (noncef_byt p v) (noncef_length p v) (by omega) hs
  rw [se_cryptf hs] at hc
  have f : [putf v 8, cryptl key 0 (noncef p v) l].flatten = putf v 8 ++ cryptl key 0 (noncef p v) l := by simp
  have fl : (putf v 8 ++ cryptl key 0 (noncef p v) l).length = 8 + l.length := by rw [List.length_append, putf_length, cryptl_length]
  have hcc := concat_rel [putf v 8, cryptl key 0 (noncef p v) l] (by rw [f, fl]; omega) (by simp)
  rw [f] at hcc
  have hpd := pad_rel (putf v 8 ++ cryptl key 0 (noncef p v) l) (by rw [fl]; omega)
  refine .inr ⟨c3, _, nonce_rel p v hp, _, _, hc, .inr ⟨by simp, _, put_rel v 8 (by omega) (by omega), _, hcc, _, hpd, ?_, rfl⟩⟩
  rw [fl, show 192 - (8 + l.length) = 184 - l.length by omega]; rfl
theorem rseal_L1 (r1 : Int) (l : List Int) (h : l.length ≤ 192) : ∀ (d k : Nat), d ≤ 192 - l.length → d < k → reliquaryref08_Seal.L1 (strOfNums (l ++ List.replicate (192 - l.length) 0)) 0 k (l ++ List.replicate (192 - l.length - d) 0) := by
  intro d
  induction d with
  | zero =>
    intro k h1 h2
    obtain ⟨k, rfl⟩ : ∃ m, k = m + 1 := ⟨k - 1, by omega⟩
    exact .inr ⟨by rw [List.length_append, List.length_replicate]; omega, by rw [Nat.sub_zero], rfl⟩
  | succ d ih =>
    intro k h1 h2
    obtain ⟨k, rfl⟩ : ∃ m, k = m + 1 := ⟨k - 1, by omega⟩
    have H := ih k (by omega) (by omega)
    rw [show 192 - l.length - d = (192 - l.length - (d + 1)) + 1 by omega, List.replicate_succ', ← List.append_assoc] at H
    exact .inl ⟨by rw [List.length_append, List.length_replicate]; omega, _, rfl, by rw [List.length_append, List.length_append, List.length_replicate]; simp; omega, H⟩
theorem rseal_L2 (r0 : ByteArray) (r1 : Int) : ∀ (k : Nat) (l : List Int), reliquaryref08_Seal.L1 r0 r1 k l → reliquaryref08_Seal.L2 r0 r1 k l
  | 0, _, h => h
  | k + 1, l, h => by
    rcases h with ⟨a, m, b, c, d⟩ | h
    · exact .inl ⟨a, m, b, c, rseal_L2 r0 r1 k m d⟩
    · exact .inr h
theorem rseal_rel (key : List Int) (p v : Int) (l : List Int) (hb : Byt key) (hl : key.length = 32) (hp : 0 ≤ p ∧ p < 4294967296) (hv : 0 ≤ v ∧ v < 18446744073709551616) (hlb : Byt l) (hs : l.length ≤ 100000) :
    reliquaryref08_Seal.rel key p v (strOfNums l) (strOfNums (sealf key p v l).1) (sealf key p v l).2 := by
  have hc := rcrypt_rel key 0 (noncef p v) l hb hl (noncef_byt p v) (noncef_length p v) (by omega) hs
  rw [se_cryptf hs] at hc
  have fl : (putf v 8 ++ cryptl key 0 (noncef p v) l).length = 8 + l.length := by rw [List.length_append, putf_length, cryptl_length]
  unfold reliquaryref08_Seal.rel
  rw [size_strOf, bl_strOfNums hlb]
  unfold sealf
  by_cases c1 : ¬ (l.length = 160 ∨ l.length = 176)
  · rw [if_pos (.inl c1)]
    exact .inl ⟨by omega, .inl ⟨by omega, rfl, rfl⟩⟩
  by_cases c2 : v = 0
  · rw [if_pos (.inr c2)]
    by_cases c4 : l.length = 160
    · exact .inr ⟨by omega, .inl ⟨c2, rfl, rfl⟩⟩
    · exact .inl ⟨by omega, .inr ⟨by omega, .inl ⟨c2, rfl, rfl⟩⟩⟩
  rw [if_neg (by omega)]
  by_cases c3 : v = 18446744073709551615
  · rw [if_pos c3]
    by_cases c4 : l.length = 160
    · exact .inr ⟨by omega, .inr ⟨c2, .inl ⟨c3, rfl, rfl⟩⟩⟩
    · exact .inl ⟨by omega, .inr ⟨by omega, .inr ⟨c2, .inl ⟨c3, rfl, rfl⟩⟩⟩⟩
  rw [if_neg c3]
  have H := rseal_L1 0 (putf v 8 ++ cryptl key 0 (noncef p v) l) (by rw [fl]; omega) (192 - (8 + l.length)) 193 (by rw [fl]; omega) (by omega)
  rw [fl, Nat.sub_self, List.replicate_zero, List.append_nil, show 192 - (8 + l.length) = 184 - l.length by omega] at H
  have hput := rput_rel v hv 8 (by omega)
  have hno := se_rnonce p v hp hv
  by_cases c4 : l.length = 160
  · exact .inr ⟨by omega, .inr ⟨c2, .inr ⟨c3, _, hput, _, hno, _, _, hc, _, rfl, by rw [fl]; omega, 193, rseal_L2 _ _ _ _ H⟩⟩⟩
  · exact .inl ⟨by omega, .inr ⟨by omega, .inr ⟨c2, .inr ⟨c3, _, hput, _, hno, _, _, hc, _, rfl, by rw [fl]; omega, 193, H⟩⟩⟩⟩

/-! ### 4. Opening -/
def midl (s : List Int) (n : Int) : List Int := prt s 8 (8 + n)
def openf (key : List Int) (p : Int) (s : List Int) (n : Int) : Int × List Int × Int :=
  if ¬ (n = 160 ∨ n = 176) then (0, [], 1)
  else if s.length ≠ 192 ∨ getn s 0 8 = 0 ∨ getn s 0 8 = 18446744073709551615 ∨ tz s (8 + n.toNat) = true then (0, [], 11)
  else (getn s 0 8, cryptl key 0 (noncef p (getn s 0 8)) (midl s n), 0)
theorem open_rel (key : List Int) (p : Int) (s : List Int) (n : Int) (hb : Byt key) (hl : key.length = 32) (hp : 0 ≤ p ∧ p < 4294967296) (hsb : Byt s) (hs : s.length ≤ 100000) :
    seal_Open.rel key p s n (openf key p s n).1 (openf key p s n).2.1 (openf key p s n).2.2 := by
  refine ⟨_, ssize_rel n, ?_⟩
  unfold openf
  by_cases c1 : ¬ (n = 160 ∨ n = 176)
  · rw [if_pos c1]
    exact .inl ⟨by simp; omega, rfl, rfl, rfl⟩
  rw [if_neg c1]
  have hg := get_rel s hsb 0 8 (by omega) (by omega) (by omega)
  refine .inr ⟨by simp; omega, _, _, hg, ?_⟩
  unfold getf
  rw [if_neg (by omega)]
  by_cases c2 : s.length < 0 + 8
  · rw [if_pos c2, if_pos (.inl (by omega))]
    exact .inl ⟨by decide, rfl, rfl, rfl⟩
  rw [if_neg c2]
  refine .inr ⟨by simp, ?_⟩
  by_cases c3 : s.length ≠ 192
  · rw [if_pos (.inl c3)]
    exact .inl ⟨by omega, rfl, rfl, rfl⟩
  refine .inr ⟨by omega, ?_⟩
  by_cases c4 : getn s 0 8 = 0
  · rw [if_pos (.inr (.inl c4))]
    exact .inl ⟨c4, rfl, rfl, rfl⟩
  refine .inr ⟨c4, ?_⟩
  by_cases c5 : getn s 0 8 = 18446744073709551615
  · rw [if_pos (.inr (.inr (.inl c5)))]
    exact .inl ⟨c5, rfl, rfl, rfl⟩
  refine .inr ⟨c5, ?_⟩
  have e8 : IntKind.i64.wrap (8 + n) = 8 + n := w64 (by omega) (by omega)
  rw [e8]
  have hpr : prt s (8 + n) (s.length : Int) = s.drop (8 + n.toNat) := by
    unfold prt
    rw [show (8 + n).toNat = 8 + n.toNat by omega, List.take_of_length_le (by rw [List.length_drop]; omega)]
  have hpl : (s.drop (8 + n.toNat)).length ≤ 1000000 := by rw [List.length_drop]; omega
  have hcf : slices_ContainsFunc_s_byte_byte_fn1_seal_Open_1.rel (s.drop (8 + n.toNat)) (tz s (8 + n.toNat)) := contains_rel (s.drop (8 + n.toNat)) hpl
  rw [hpr]
  refine ⟨⟨by omega, by omega, by omega⟩, _, hcf, ?_⟩
  by_cases c6 : tz s (8 + n.toNat) = true
  · rw [if_pos (.inr (.inr (.inr c6)))]
    exact .inl ⟨c6, rfl, rfl, rfl⟩
  have hr := getn_range hsb 0 8
  have hno := nonce_rel p (getn s 0 8) hp
  have hml : (prt s 8 (8 + n)).length = n.toNat := by rw [prt_length (by omega) (by omega) (by omega)]; omega
  have hc := crypt_rel key 0 (noncef p (getn s 0 8)) (prt s 8 (8 + n)) hb hl (noncef_byt _ _) (noncef_length _ _) (by omega) (by omega)
  rw [se_cryptf (by omega)] at hc
  rw [if_neg (by simp only [not_or]; exact ⟨c3, c4, c5, c6⟩)]
  exact .inr ⟨c6, ⟨by omega, by omega, by omega⟩, _, hno, _, _, hc, .inr ⟨by simp, rfl, rfl, rfl⟩⟩
theorem ropen_L1 (key : List Int) (p : Int) (s : List Int) (n : Int) (hb : Byt key) (hl : key.length = 32) (hp : 0 ≤ p ∧ p < 4294967296) (hsb : Byt s) (hs : s.length = 192) (hn : n = 160 ∨ n = 176) (hv : 0 ≤ getn s 0 8 ∧ getn s 0 8 < 18446744073709551616) :
    ∀ (d k i : Nat), i + d = 192 → d < k → 8 + n.toNat ≤ i → (∀ j, 8 + n.toNat ≤ j → j < i → gn s j = 0) →
    reliquaryref08_Open.L1 key p (strOfNums s) n (if tz s (8 + n.toNat) = true then 0 else getn s 0 8) (strOfNums (if tz s (8 + n.toNat) = true then [] else cryptl key 0 (noncef p (getn s 0 8)) (midl s n))) (if tz s (8 + n.toNat) = true then 11 else 0) (getn s 0 8) k 0 (⟨#[]⟩ : ByteArray) 0 i := by
  have e8 : IntKind.i64.wrap (8 + n) = 8 + n := w64 (by omega) (by omega)
  intro d
  induction d with
  | zero =>
    intro k i h1 h2 h3 hj
    obtain ⟨k, rfl⟩ : ∃ m, k = m + 1 := ⟨k - 1, by omega⟩
    have ht : tz s (8 + n.toNat) = false := (tz_iff s _).2 fun j h => if c : j < i then hj j h c else gn_over (by omega)
    rw [ht]
    have hml : (prt s 8 (8 + n)).length = n.toNat := by rw [prt_length (by omega) (by omega) (by omega)]; omega
    have hc := rcrypt_rel key 0 (noncef p (getn s 0 8)) (prt s 8 (8 + n)) hb hl (noncef_byt _ _) (noncef_length _ _) (by omega) (by omega)
    rw [se_cryptf (by omega)] at hc
    unfold reliquaryref08_Open.L1
    rw [e8, size_strOf, se_sx s 8 (8 + n) (by omega) (by omega) (by omega), bl_strOfNums (hsb.prt _ _)]
    exact .inr ⟨by omega, ⟨by omega, by omega, by omega⟩, _, se_rnonce p _ hp hv, _, _, hc, rfl, rfl, rfl⟩
  | succ d ih =>
    intro k i h1 h2 h3 hj
    obtain ⟨k, rfl⟩ : ∃ m, k = m + 1 := ⟨k - 1, by omega⟩
    have hi : (i : Int) < (strOfNums s).size := by rw [size_strOf]; omega
    by_cases c : gn s i = 0
    · have H := ih k (i + 1) (by omega) (by omega) (by omega) fun j h h' => by
        by_cases c2 : j = i
        · rw [c2, c]
        · exact hj j h (by omega)
      unfold reliquaryref08_Open.L1
      rw [Int.toNat_natCast, bn_strOf hsb]
      refine .inl ⟨by omega, ⟨by omega, hi⟩, .inr ⟨by simp [c], ?_⟩⟩
      rw [w64 (by omega) (by omega)]
      exact H
    · have ht : tz s (8 + n.toNat) = true := by
        cases h : tz s (8 + n.toNat) with
        | true => rfl
        | false => exact absurd ((tz_iff s _).1 h i h3) c
      rw [ht]
      unfold reliquaryref08_Open.L1
      rw [Int.toNat_natCast, bn_strOf hsb]
      exact .inl ⟨by omega, ⟨by omega, hi⟩, .inl ⟨c, rfl, rfl, rfl⟩⟩
theorem ropen_L2 (l0 : List Int) (a1 : Int) (a2 : ByteArray) (a3 r0 : Int) (r1 : ByteArray) (r2 g : Int) : ∀ (k : Nat) (x : Int) (s : ByteArray) (y z : Int), reliquaryref08_Open.L1 l0 a1 a2 a3 r0 r1 r2 g k x s y z → reliquaryref08_Open.L2 l0 a1 a2 a3 r0 r1 r2 g k x s y z
  | 0, _, _, _, _, h => h
  | k + 1, x, s, y, z, h => by
    rcases h with ⟨a, b, c⟩ | h
    · refine .inl ⟨a, b, ?_⟩
      rcases c with c | ⟨c, d⟩
      · exact .inl c
      · exact .inr ⟨c, ropen_L2 l0 a1 a2 a3 r0 r1 r2 g k _ _ _ _ d⟩
    · exact .inr h
theorem ropen_rel (key : List Int) (p : Int) (s : List Int) (n : Int) (hb : Byt key) (hl : key.length = 32) (hp : 0 ≤ p ∧ p < 4294967296) (hsb : Byt s) (hs : s.length ≤ 100000) :
    reliquaryref08_Open.rel key p (strOfNums s) n (openf key p s n).1 (strOfNums (openf key p s n).2.1) (openf key p s n).2.2 := by
  have hg := rget_rel s hsb 0 8 (by omega) (by omega) (by omega)
  unfold reliquaryref08_Open.rel
  rw [size_strOf, bl_strOfNums hsb]
  unfold openf
  by_cases c1 : ¬ (n = 160 ∨ n = 176)
  · rw [if_pos c1]
    exact .inl ⟨by omega, .inl ⟨by omega, rfl, rfl, rfl⟩⟩
  rw [if_neg c1]
  by_cases c3 : s.length ≠ 192
  · rw [if_pos (.inl c3)]
    by_cases c4 : n = 160
    · exact .inr ⟨by omega, .inl ⟨by omega, rfl, rfl, rfl⟩⟩
    · exact .inl ⟨by omega, .inr ⟨by omega, .inl ⟨by omega, rfl, rfl, rfl⟩⟩⟩
  unfold getf at hg
  rw [if_neg (by omega), if_neg (by omega)] at hg
  by_cases c4 : getn s 0 8 = 0
  · rw [if_pos (.inr (.inl c4))]
    by_cases c5 : n = 160
    · exact .inr ⟨by omega, .inr ⟨by omega, _, _, hg, .inl ⟨c4, rfl, rfl, rfl⟩⟩⟩
    · exact .inl ⟨by omega, .inr ⟨by omega, .inr ⟨by omega, _, _, hg, .inl ⟨c4, rfl, rfl, rfl⟩⟩⟩⟩
  by_cases c5 : getn s 0 8 = 18446744073709551615
  · rw [if_pos (.inr (.inr (.inl c5)))]
    by_cases c6 : n = 160
    · exact .inr ⟨by omega, .inr ⟨by omega, _, _, hg, .inr ⟨c4, .inl ⟨c5, rfl, rfl, rfl⟩⟩⟩⟩
    · exact .inl ⟨by omega, .inr ⟨by omega, .inr ⟨by omega, _, _, hg, .inr ⟨c4, .inl ⟨c5, rfl, rfl, rfl⟩⟩⟩⟩⟩
  have hr := getn_range hsb 0 8
  have H := ropen_L1 key p s n hb hl hp hsb (by omega) (by omega) ⟨hr.1, by omega⟩ (192 - (8 + n.toNat)) 193 (8 + n.toNat) (by omega) (by omega) (by omega) (fun j a b => by omega)
  have e8 : IntKind.i64.wrap (8 + n) = ((8 + n.toNat : Nat) : Int) := by rw [w64 (by omega) (by omega)]; omega
  have eq : (if s.length ≠ 192 ∨ getn s 0 8 = 0 ∨ getn s 0 8 = 18446744073709551615 ∨ tz s (8 + n.toNat) = true then ((0 : Int), ([] : List Int), (11 : Int)) else (getn s 0 8, cryptl key 0 (noncef p (getn s 0 8)) (midl s n), 0)) =
      (if tz s (8 + n.toNat) = true then 0 else getn s 0 8, if tz s (8 + n.toNat) = true then [] else cryptl key 0 (noncef p (getn s 0 8)) (midl s n), if tz s (8 + n.toNat) = true then 11 else 0) := by
    by_cases c6 : tz s (8 + n.toNat) = true
    · rw [if_pos (.inr (.inr (.inr c6))), if_pos c6, if_pos c6, if_pos c6]
    · rw [if_neg (by simp only [not_or]; exact ⟨c3, c4, c5, c6⟩), if_neg c6, if_neg c6, if_neg c6]
  rw [eq, e8]
  by_cases c6 : n = 160
  · exact .inr ⟨by omega, .inr ⟨by omega, _, _, hg, .inr ⟨c4, .inr ⟨c5, 193, ropen_L2 _ _ _ _ _ _ _ _ _ _ _ _ _ H⟩⟩⟩⟩
  · exact .inl ⟨by omega, .inr ⟨by omega, .inr ⟨by omega, _, _, hg, .inr ⟨c4, .inr ⟨c5, 193, H⟩⟩⟩⟩⟩

/-! ### 5. There and back -/
theorem getn_sealb (key : List Int) (p v : Int) (l : List Int) (hv : 0 ≤ v ∧ v < 18446744073709551616) : getn (sealb key p v l) 0 8 = v := by
  rw [getn_putf v hv.1 _ 0 8 fun j hj => by rw [Nat.zero_add, gn_sealb, if_pos hj]]
  omega
theorem tz_sealb (key : List Int) (p v : Int) (l : List Int) : tz (sealb key p v l) (8 + l.length) = false := (tz_iff _ _).2 fun j h => by
  rw [gn_sealb, if_neg (by omega), if_neg (by omega)]
theorem midl_sealb (key : List Int) (p v : Int) {l : List Int} (h : l.length ≤ 184) : midl (sealb key p v l) (l.length : Int) = cryptl key 0 (noncef p v) l := by
  have hl := sealb_length key p v h
  have hpl : (prt (sealb key p v l) 8 (8 + (l.length : Int))).length = l.length := by rw [prt_length (by omega) (by omega) (by omega)]; omega
  refine ext_gn (by rw [midl, hpl, cryptl_length]) fun j hj => ?_
  rw [midl, hpl] at hj
  rw [midl, gn_prt (by omega) (by omega) (by omega), gn_sealb, if_neg (by omega), if_pos (by omega), gn_cryptl _ _ _ _ hj]
  congr 1
  show (8 : Int).toNat + j - 8 = j
  omega
theorem open_sealb (key : List Int) (p v : Int) (other : List Int) (to : Int) (l : List Int) (h : l.length = 160 ∨ l.length = 176) (hv : 0 < v ∧ v < 18446744073709551615) :
    openf other to (sealb key p v l) (l.length : Int) = (v, cryptl other 0 (noncef to v) (cryptl key 0 (noncef p v) l), 0) := by
  unfold openf
  rw [getn_sealb key p v l ⟨by omega, by omega⟩, if_neg (by omega), sealb_length key p v (by omega), midl_sealb key p v (by omega), show ((l.length : Int)).toNat = l.length from rfl, tz_sealb, if_neg]
  simp only [not_or]
  exact ⟨by omega, by omega, by omega, by simp⟩

/-! ### 6. Blocks, and records -/
def longf (l : List Int) (n : Nat) : List Int := (List.range n).map (gn l)
theorem longf_length (l : List Int) (n : Nat) : (longf l n).length = n := by simp [longf]
theorem gn_longf (l : List Int) {n j : Nat} (h : j < n) : gn (longf l n) j = gn l j := gn_map_range _ h
theorem longf_byt {l : List Int} (hb : Byt l) (n : Nat) : Byt (longf l n) := byt_of_gn fun j hj => by
  rw [longf_length] at hj
  rw [gn_longf l hj]; exact hb.gn j
def kn (a : Int) : Nat := (gn [160, 176, 161, 160] (bits .and .u8 a 3).toNat).toNat
theorem and3 {a : Int} (h : 0 ≤ a ∧ a < 256) : 0 ≤ bits .and .u8 a 3 ∧ bits .and .u8 a 3 ≤ 3 := by
  rw [u8_and _ _ (by omega) (by omega) (by omega) (by omega)]
  have : a.toNat &&& (3 : Int).toNat ≤ (3 : Int).toNat := Nat.and_le_right
  omega
theorem and1 {a : Int} (h : 0 ≤ a ∧ a < 256) : 0 ≤ bits .and .u8 a 1 ∧ bits .and .u8 a 1 ≤ 1 := by
  rw [u8_and _ _ (by omega) (by omega) (by omega) (by omega)]
  have : a.toNat &&& (1 : Int).toNat ≤ (1 : Int).toNat := Nat.and_le_right
  omega
theorem kn_fin : ∀ i : Fin 4, gn [160, 176, 161, 160] i.val = ((gn [160, 176, 161, 160] i.val).toNat : Int) ∧ (gn [160, 176, 161, 160] i.val).toNat ≤ 176 ∧ 160 ≤ (gn [160, 176, 161, 160] i.val).toNat := by decide
theorem kn_le {a : Int} (h : 0 ≤ a ∧ a < 256) : gn [160, 176, 161, 160] (bits .and .u8 a 3).toNat = (kn a : Int) ∧ kn a ≤ 176 ∧ 160 ≤ kn a := by
  have := and3 h
  exact kn_fin ⟨(bits .and .u8 a 3).toNat, by omega⟩
theorem long_L1 (l : List Int) (a : Int) (ha : 0 ≤ a ∧ a < 256) : ∀ (d k i : Nat) (m : List Int), i + d = min l.length (kn a) → d < k → m.length = kn a → (∀ j, j < kn a → gn m j = if j < i then gn l j else 0) →
    reliquarylaw08_long.L1 l a (longf l (kn a)) k m i := by
  obtain ⟨ek, hk, _⟩ := kn_le ha
  intro d
  induction d with
  | zero =>
    intro k i m h1 h2 hm hj
    obtain ⟨k, rfl⟩ : ∃ m, k = m + 1 := ⟨k - 1, by omega⟩
    have e : longf l (kn a) = m := ext_gn (by rw [longf_length, hm]) fun j h => by
      rw [longf_length] at h
      rw [gn_longf l h, hj j h]
      split
      · rfl
      · exact gn_over (by omega)
    unfold reliquarylaw08_long.L1
    rw [ek]
    by_cases c : (i : Int) < (l.length : Int)
    · exact .inl ⟨c, .inr ⟨by omega, e⟩⟩
    · exact .inr ⟨c, e⟩
  | succ d ih =>
    intro k i m h1 h2 hm hj
    obtain ⟨k, rfl⟩ : ∃ m, k = m + 1 := ⟨k - 1, by omega⟩
    unfold reliquarylaw08_long.L1
    rw [ek, Int.toNat_natCast]
    refine .inl ⟨by omega, .inl ⟨by omega, ⟨by omega, by omega⟩, ⟨by omega, by omega⟩, _, rfl, ?_⟩⟩
    rw [w64 (by omega) (by omega)]
    refine ih k (i + 1) _ (by omega) (by omega) (by simpa using hm) fun j h => ?_
    rw [gn_set (by omega)]
    by_cases e : j = i
    · subst e; rw [if_pos rfl, if_pos (by omega)]
    · rw [if_neg e, hj j h]
      by_cases c : j < i
      · rw [if_pos c, if_pos (by omega)]
      · rw [if_neg c, if_neg (by omega)]
theorem long_rel (l : List Int) (a : Int) (ha : 0 ≤ a ∧ a < 256) : reliquarylaw08_long.rel l a (longf l (kn a)) := by
  obtain ⟨ek, hk, _⟩ := kn_le ha
  have h3 := and3 ha
  refine ⟨⟨by omega, by simp; omega⟩, ⟨by omega, by omega⟩, min l.length (kn a) + 1, ?_⟩
  rw [ek, Int.toNat_natCast]
  refine long_L1 l a ha (min l.length (kn a)) _ 0 _ (by omega) (by omega) (by simp) fun j h => ?_
  rw [gn_rep, if_neg (by omega)]

/-! ### 7. The laws -/
theorem z32b : Byt (List.replicate 32 0) := rep_byt 32
theorem lr (n : Nat) : (List.replicate n (0 : Int)).length = n := List.length_replicate
theorem lr' {n m : Nat} (h : n ≤ m) : (List.replicate n (0 : Int)).length ≤ m := by rw [lr]; exact h
theorem awake08 : reliquarylaw08_awake.rel := by
  have s1 := seal_rel (List.replicate 32 0) 1 0 (List.replicate 160 0) z32b (lr 32) (by omega) (by omega) (lr' (by omega))
  have s2 := seal_rel (List.replicate 32 0) 1 5 (List.replicate 160 0) z32b (lr 32) (by omega) (by omega) (lr' (by omega))
  have e1 : sealf (List.replicate 32 0) 1 0 (List.replicate 160 0) = ([], 1) := by unfold sealf; rw [if_pos (.inr rfl)]
  have e2 : sealf (List.replicate 32 0) 1 5 (List.replicate 160 0) = (sealb (List.replicate 32 0) 1 5 (List.replicate 160 0), 0) := by
    unfold sealf; rw [if_neg (by rw [List.length_replicate]; omega), if_neg (by omega)]
  rw [e1] at s1
  rw [e2] at s2
  have o := open_rel (List.replicate 32 0) 1 (sealb (List.replicate 32 0) 1 5 (List.replicate 160 0)) 160 z32b (lr 32) (by omega) (sealb_byt _ _ _ (rep_byt _)) (by rw [sealb_length _ _ _ (lr' (by omega))]; omega)
  have e3 : openf (List.replicate 32 0) 1 (sealb (List.replicate 32 0) 1 5 (List.replicate 160 0)) 160 = (5, List.replicate 160 0, 0) := by
    have := open_sealb (List.replicate 32 0) 1 5 (List.replicate 32 0) 1 (List.replicate 160 0) (.inl (lr 160)) (by omega)
    rw [se_twice _ _ _ (rep_byt 160), List.length_replicate] at this
    exact this
  rw [e3] at o
  exact ⟨_, rfl, _, _, s1, _, rfl, _, _, s2, _, rfl, _, _, _, o, rfl, rfl, by rw [sealb_length _ _ _ (lr' (by omega))]; rfl, rfl, rfl, by rw [lr]; rfl, ⟨by omega, by rw [lr]; omega⟩, gn_rep _ _⟩
theorem sealPuts_pure (key : List Int) (p v : Int) (l : List Int) (a : Int) (hb : Byt key) (hl : key.length = 32) (hp : 0 ≤ p ∧ p < 4294967296) (hv : 0 ≤ v ∧ v < 18446744073709551616) (hlb : Byt l) (ha : 0 ≤ a ∧ a < 256) : reliquarylaw08_SealPuts.rel key p v l a := by
  obtain ⟨_, hk, _⟩ := kn_le ha
  have hlen := longf_length l (kn a)
  have hby := longf_byt hlb (kn a)
  have s := seal_rel key p v (longf l (kn a)) hb hl hp hv (by omega)
  have t := rseal_rel key p v (longf l (kn a)) hb hl hp hv hby (by omega)
  refine ⟨awake08, _, long_rel l a ha, _, _, s, _, _, t, by simp, by simp, ?_⟩
  by_cases c : ¬ ((longf l (kn a)).length = 160 ∨ (longf l (kn a)).length = 176) ∨ v = 0
  · have e : sealf key p v (longf l (kn a)) = ([], 1) := by unfold sealf; rw [if_pos c]
    rw [e]; exact .inl ⟨by decide, trivial⟩
  by_cases c2 : v = 18446744073709551615
  · have e : sealf key p v (longf l (kn a)) = ([], 15) := by unfold sealf; rw [if_neg c, if_pos c2]
    rw [e]; exact .inl ⟨by decide, trivial⟩
  have e : sealf key p v (longf l (kn a)) = (sealb key p v (longf l (kn a)), 0) := by unfold sealf; rw [if_neg c, if_neg c2]
  rw [e]
  have o := open_rel key p (sealb key p v (longf l (kn a))) (longf l (kn a)).length hb hl hp (sealb_byt _ _ _ hby) (by rw [sealb_length _ _ _ (by omega)]; omega)
  rw [open_sealb key p v key p (longf l (kn a)) (by omega) (by omega), se_twice _ _ _ hby] at o
  exact .inr ⟨by simp, _, _, _, o, rfl, rfl, rfl⟩
theorem open_ok {key : List Int} {p : Int} {s : List Int} {n : Int} (hsb : Byt s) (h : (openf key p s n).2.2 = 0) : sealf key p (openf key p s n).1 (openf key p s n).2.1 = (s, 0) := by
  unfold openf at h ⊢
  by_cases c1 : ¬ (n = 160 ∨ n = 176)
  · rw [if_pos c1] at h; exact absurd h (by decide)
  rw [if_neg c1] at h ⊢
  by_cases c2 : s.length ≠ 192 ∨ getn s 0 8 = 0 ∨ getn s 0 8 = 18446744073709551615 ∨ tz s (8 + n.toNat) = true
  · rw [if_pos c2] at h; exact absurd h (by decide)
  rw [if_neg c2]
  simp only [not_or] at c2
  obtain ⟨a, b, c, d⟩ := c2
  have hml : (midl s n).length = n.toNat := by rw [midl, prt_length (by omega) (by omega) (by omega)]; omega
  have hr := getn_range hsb 0 8
  unfold sealf
  simp only
  rw [if_neg (by rw [cryptl_length]; omega), if_neg c]
  refine Prod.ext (show sealb key p (getn s 0 8) (cryptl key 0 (noncef p (getn s 0 8)) (midl s n)) = s from ext_gn (by rw [sealb_length _ _ _ (by rw [cryptl_length]; omega)]; omega) fun j hj => ?_) rfl
  rw [sealb_length _ _ _ (by rw [cryptl_length]; omega)] at hj
  rw [gn_sealb]
  split
  · rename_i h8
    rw [pb_getn hsb 0 8 j h8, Nat.zero_add]
  rename_i h8
  rw [cryptl_length, hml]
  split
  · rename_i h9
    have h10 : cb key 0 (noncef p (getn s 0 8)) (cryptl key 0 (noncef p (getn s 0 8)) (midl s n)) (j - 8) = gn (midl s n) (j - 8) := by
      have := se_twice key 0 (noncef p (getn s 0 8)) (hsb.prt 8 (8 + n))
      rw [← gn_cryptl _ _ _ _ (by rw [cryptl_length, hml]; omega)]
      exact congrArg (fun z => gn z (j - 8)) this
    rw [h10, midl, gn_prt (by omega) (by omega) (by omega)]
    congr 1
    show (8 : Int).toNat + (j - 8) = j
    omega
  · have : tz s (8 + n.toNat) = false := by simpa using d
    rw [(tz_iff s _).1 this j (by omega)]
theorem sealOpens_end (key : List Int) (p a4 : Int) (s : List Int) (hb : Byt key) (hl : key.length = 32) (hp : 0 ≤ p ∧ p < 4294967296) (hsb : Byt s) (hs : s.length ≤ 1000) :
    (∃ (r_52 : Int) (r_53 : List Int) (r_59 : Int), seal_Open.rel key p s a4 r_52 r_53 r_59 ∧ (∃ (r_64 : Int) (r_65 : ByteArray) (r_66 : Int), reliquaryref08_Open.rel key p (strOfNums s) a4 r_64 r_65 r_66 ∧ (¬ (r_52 ≠ r_64) ∧ (¬ (¬ ((strOfNums r_53).toList = r_65.toList)) ∧ (¬ (r_59 ≠ r_66) ∧ ((r_59 ≠ 0 ∧ True) ∨ (¬ (r_59 ≠ 0) ∧ (∃ (r_79 : List Int) (r_85 : Int), seal_Seal.rel key p r_52 r_53 r_79 r_85 ∧ (r_85 = 0 ∧ (strOfNums r_79).toList = (strOfNums s).toList))))))))) := by
  refine ⟨_, _, _, open_rel key p s a4 hb hl hp hsb (by omega), _, _, _, ropen_rel key p s a4 hb hl hp hsb (by omega), by simp, by simp, by simp, ?_⟩
  by_cases c : (openf key p s a4).2.2 = 0
  · have e := open_ok hsb c
    have hv : 0 ≤ (openf key p s a4).1 ∧ (openf key p s a4).1 < 18446744073709551616 := by
      have hr := getn_range hsb 0 8
      unfold openf
      split
      · exact ⟨by decide, by decide⟩
      · split
        · exact ⟨by decide, by decide⟩
        · exact ⟨hr.1, by simp only; omega⟩
    have hn : (openf key p s a4).2.1.length ≤ 100000 := by
      unfold openf
      split
      · simp
      · split
        · simp
        · simp only
          rw [cryptl_length, midl, prt]; simp; omega
    have q := seal_rel key p (openf key p s a4).1 (openf key p s a4).2.1 hb hl hp hv hn
    rw [e] at q
    exact .inr ⟨by simp [c], _, _, q, rfl, rfl⟩
  · exact .inl ⟨c, trivial⟩
theorem opens_L1 (key : List Int) (p : Int) (l : List Int) (a3 a4 : Int) (hb : Byt key) (hl : key.length = 32) (hp : 0 ≤ p ∧ p < 4294967296) (ha : 0 ≤ a3 ∧ a3 < 256) : ∀ (d k : Nat) (s : List Int), s.length ≤ 1000 → 192 ≤ s.length + d → d < k → Byt s →
    reliquarylaw08_SealOpens.L1 key p l a3 a4 k s := by
  intro d
  induction d with
  | zero =>
    intro k s h0 h1 h2 hs
    obtain ⟨k, rfl⟩ : ∃ m, k = m + 1 := ⟨k - 1, by omega⟩
    exact .inr ⟨by omega, sealOpens_end key p a4 s hb hl hp hs h0⟩
  | succ d ih =>
    intro k s h0 h1 h2 hs
    obtain ⟨k, rfl⟩ : ∃ m, k = m + 1 := ⟨k - 1, by omega⟩
    by_cases c : (s.length : Int) < 192
    · refine .inl ⟨c, ?_⟩
      by_cases c2 : Int.tmod (l.length : Int) 2 = 0
      · have hx : Byt (s ++ [a3]) := hs.append fun x hx => by rw [List.mem_singleton.1 hx]; exact ha
        exact .inl ⟨c2, _, rfl, by rw [List.length_append]; simp; omega, ih k _ (by rw [List.length_append]; simp; omega) (by rw [List.length_append]; simp; omega) (by omega) hx⟩
      · exact .inr ⟨c2, sealOpens_end key p a4 s hb hl hp hs h0⟩
    · exact .inr ⟨c, sealOpens_end key p a4 s hb hl hp hs h0⟩
theorem sealOpens_pure (key : List Int) (p : Int) (l : List Int) (a3 a4 : Int) (hb : Byt key) (hl : key.length = 32) (hp : 0 ≤ p ∧ p < 4294967296) (hlb : Byt l) (ha : 0 ≤ a3 ∧ a3 < 256) (h4 : -9223372036854775808 ≤ a4 ∧ a4 ≤ 9223372036854775807) : reliquarylaw08_SealOpens.rel key p l a3 a4 := by
  refine ⟨awake08, ?_⟩
  by_cases c : (l.length : Int) > 300
  · exact .inl ⟨c, trivial⟩
  · refine .inr ⟨c, l, by simp, by omega, 193, ?_⟩
    exact opens_L1 key p l a3 a4 hb hl hp ha 192 193 l (by omega) (by omega) (by omega) hlb
theorem sealKinds_pure (key : List Int) (a v : Int) (hb : Byt key) (hl : key.length = 32) (ha : 0 ≤ a ∧ a < 65536) (hv : 0 ≤ v ∧ v < 18446744073709551616) : reliquarylaw08_SealKinds.rel key a v := by
  refine ⟨awake08, ?_⟩
  obtain ⟨m, hm, em⟩ : ∃ n : Nat, n < 400 ∧ IntKind.i64.wrap (Int.tmod a 400) = (n : Int) := by
    refine ⟨(a % 400).toNat, by omega, ?_⟩
    rw [Int.tmod_eq_emod_of_nonneg ha.1, w64 (by omega) (by omega)]; omega
  rw [em, Int.toNat_natCast]
  have s := seal_rel key 0 v (List.replicate m 0) hb hl (by omega) hv (lr' (by omega))
  have o := open_rel key 0 (List.replicate 192 0) m hb hl (by omega) (rep_byt _) (lr' (by omega))
  have g0 : getn (List.replicate 192 0) 0 8 = 0 := by decide +kernel
  have e1 : (m : Int) = 160 ∨ (m : Int) = 176 → openf key 0 (List.replicate 192 0) m = (0, [], 11) := fun h => by
    unfold openf
    rw [g0, if_neg (by omega), if_pos (.inr (.inl rfl))]
  have e2 : ¬ ((m : Int) = 160 ∨ (m : Int) = 176) → openf key 0 (List.replicate 192 0) m = (0, [], 1) := fun h => by
    unfold openf
    rw [if_pos h]
  have e3 : ¬ (m = 160 ∨ m = 176) ∨ v = 0 → sealf key 0 v (List.replicate m 0) = ([], 1) := fun h => by
    unfold sealf; rw [lr, if_pos h]
  have e4 : ¬ (¬ (m = 160 ∨ m = 176) ∨ v = 0) → v = 18446744073709551615 → sealf key 0 v (List.replicate m 0) = ([], 15) := fun h h2 => by
    unfold sealf; rw [lr, if_neg h, if_pos h2]
  have e5 : ¬ (¬ (m = 160 ∨ m = 176) ∨ v = 0) → v ≠ 18446744073709551615 → sealf key 0 v (List.replicate m 0) = (sealb key 0 v (List.replicate m 0), 0) := fun h h2 => by
    unfold sealf; rw [lr, if_neg h, if_neg h2]
  refine ⟨⟨by omega, by omega⟩, _, _, s, _, _, _, o, ?_⟩
  have K : (m : Int) = 160 ∨ (m : Int) = 176 → v ≠ 0 → (v == 18446744073709551615) = ((sealf key 0 v (List.replicate m 0)).2 == 15) ∧ ((sealf key 0 v (List.replicate m 0)).2 == 0) = (decide (v < 18446744073709551615)) ∧ (openf key 0 (List.replicate 192 0) m).2.2 = 11 := fun h1 h2 => by
    rw [e1 h1]
    by_cases c3 : v = 18446744073709551615
    · rw [e4 (by omega) c3]
      exact ⟨by rw [c3]; rfl, by rw [c3]; rfl, rfl⟩
    · rw [e5 (by omega) c3]
      refine ⟨?_, ?_, rfl⟩
      · rw [beq_eq_false_iff_ne.2 c3]; rfl
      · rw [decide_eq_true (by omega : v < 18446744073709551615)]; rfl
  by_cases c1 : (m : Int) = 160
  · refine .inl ⟨c1, ?_⟩
    by_cases c2 : v = 0
    · rw [e1 (.inl c1), e3 (.inr c2)]
      exact .inl ⟨c2, rfl, rfl, rfl, trivial⟩
    · exact .inr ⟨c2, K (.inl c1) c2⟩
  refine .inr ⟨c1, ?_⟩
  by_cases c2 : (m : Int) = 176
  · refine .inr ⟨not_not_intro c2, ?_⟩
    by_cases c3 : v = 0
    · rw [e1 (.inr c2), e3 (.inr c3)]
      exact .inl ⟨c3, rfl, rfl, .inl ⟨c2, rfl, trivial⟩⟩
    · exact .inr ⟨c3, K (.inr c2) c3⟩
  · rw [e2 (by omega), e3 (.inl (by omega))]
    exact .inl ⟨c2, rfl, rfl, .inr ⟨c2, rfl⟩⟩
theorem kn0 : kn 0 = 160 := by decide +kernel
theorem sealPlaces_pure (key : List Int) (p v : Int) (l other : List Int) (to : Int) (hb : Byt key) (hl : key.length = 32) (hp : 0 ≤ p ∧ p < 4294967296) (hv : 0 ≤ v ∧ v < 18446744073709551616) (hlb : Byt l) (hob : Byt other) (hol : other.length = 32) (ht : 0 ≤ to ∧ to < 4294967296) :
    reliquarylaw08_SealPlaces.rel key p v l other to := by
  have hlen := longf_length l (kn 0)
  have hby := longf_byt hlb (kn 0)
  rw [kn0] at hlen hby
  have hlg := long_rel l 0 (by omega)
  rw [kn0] at hlg
  have s := seal_rel key p v (longf l 160) hb hl hp hv (by omega)
  refine ⟨awake08, _, hlg, _, _, s, ?_⟩
  by_cases c : v = 0
  · have e : sealf key p v (longf l 160) = ([], 1) := by unfold sealf; rw [if_pos (.inr c)]
    rw [e]; exact .inl ⟨by decide, rfl⟩
  by_cases c2 : v = 18446744073709551615
  · have e : sealf key p v (longf l 160) = ([], 15) := by unfold sealf; rw [if_neg (by omega), if_pos c2]
    rw [e]; exact .inl ⟨by decide, rfl⟩
  have e : sealf key p v (longf l 160) = (sealb key p v (longf l 160), 0) := by unfold sealf; rw [if_neg (by omega), if_neg c2]
  rw [e]
  have hsl := sealb_length key p v (l := longf l 160) (by omega)
  have o := open_rel other to (sealb key p v (longf l 160)) 160 hob hol ht (sealb_byt _ _ _ hby) (by omega)
  have w := ropen_rel other to (sealb key p v (longf l 160)) 160 hob hol ht (sealb_byt _ _ _ hby) (by omega)
  have eo := open_sealb key p v other to (longf l 160) (by omega) (by omega)
  rw [hlen] at eo
  have eo' : openf other to (sealb key p v (longf l 160)) 160 = _ := eo
  rw [eo'] at o w
  exact .inr ⟨by simp, _, _, _, o, _, _, _, w, rfl, rfl, rfl, rfl⟩
theorem tails_L1 (key : List Int) (a3 a4 : Int) (l : List Int) (hb : Byt key) (hl : key.length = 32) (ha : 0 ≤ a3 ∧ a3 < 256) (h4 : 0 ≤ a4 ∧ a4 < 256) (hlb : Byt l) (hll : l.length = 160 ∨ l.length = 176) :
    ∀ (d k i : Nat), i + d = 192 → d < k → 8 + l.length ≤ i → reliquarylaw08_SealTails.L1 key a3 a4 l (sealb key 3 7 l) k false i := by
  have hsl := sealb_length key 3 7 (l := l) (by omega)
  have e8 : IntKind.i64.wrap (8 + (l.length : Int)) = ((8 + l.length : Nat) : Int) := by rw [w64 (by omega) (by omega)]; omega
  intro d
  induction d with
  | zero =>
    intro k i h1 h2 h3
    obtain ⟨k, rfl⟩ : ∃ m, k = m + 1 := ⟨k - 1, by omega⟩
    have e9 : IntKind.i64.wrap (192 - ((8 + l.length : Nat) : Int)) = ((184 - l.length : Nat) : Int) := by rw [w64 (by omega) (by omega)]; omega
    have e10 : IntKind.i64.wrap (((8 + l.length : Nat) : Int) + Int.tmod (IntKind.i64.wrap a3) ((184 - l.length : Nat) : Int)) = ((8 + l.length + (a3 % ((184 - l.length : Nat) : Int)).toNat : Nat) : Int) := by
      have q0 := Int.emod_nonneg a3 (show ((184 - l.length : Nat) : Int) ≠ 0 by omega)
      have q1 := Int.emod_lt_of_pos a3 (show 0 < ((184 - l.length : Nat) : Int) by omega)
      rw [w64 (x := a3) (by omega) (by omega), Int.tmod_eq_emod_of_nonneg ha.1, w64 (by omega) (by omega)]; omega
    have q0 := Int.emod_nonneg a3 (show ((184 - l.length : Nat) : Int) ≠ 0 by omega)
    have q1 := Int.emod_lt_of_pos a3 (show 0 < ((184 - l.length : Nat) : Int) by omega)
    unfold reliquarylaw08_SealTails.L1
    rw [e8, hsl]
    refine .inr ⟨by omega, _, rfl, ?_⟩
    rw [e9]
    refine ⟨by omega, _, rfl, ?_⟩
    rw [e10]
    generalize hq : 8 + l.length + (a3 % ((184 - l.length : Nat) : Int)).toNat = q
    rw [Int.toNat_natCast]
    have hml : ((sealb key 3 7 l).set q a4).length = 192 := by rw [List.length_set, hsl]
    have hmb : Byt ((sealb key 3 7 l).set q a4) := (sealb_byt _ _ _ hlb).set q h4.1 h4.2
    have hgn : ∀ j, gn ((sealb key 3 7 l).set q a4) j = if j = q then a4 else gn (sealb key 3 7 l) j := fun j => gn_set (by omega) j
    have o := open_rel key 3 ((sealb key 3 7 l).set q a4) (l.length : Int) hb hl (by omega) hmb (by omega)
    have g8 : getn ((sealb key 3 7 l).set q a4) 0 8 = 7 := by
      rw [getn_putf 7 (by omega) _ 0 8 fun j hj => by rw [Nat.zero_add, hgn, if_neg (by omega), gn_sealb, if_pos hj]]
      decide
    have ht : tz ((sealb key 3 7 l).set q a4) (8 + l.length) = (a4 != 0) := by
      by_cases c : a4 = 0
      · rw [(tz_iff _ _).2 fun j hj => by
          rw [hgn]
          split
          · exact c
          · rw [gn_sealb, if_neg (by omega), if_neg (by omega)]]
        simp [c]
      · cases h : tz ((sealb key 3 7 l).set q a4) (8 + l.length) with
        | true => simp [c]
        | false =>
          have := (tz_iff _ _).1 h q (by omega)
          rw [hgn, if_pos rfl] at this
          exact absurd this c
    have eo : (openf key 3 ((sealb key 3 7 l).set q a4) (l.length : Int)).2.2 = if a4 = 0 then 0 else 11 := by
      unfold openf
      rw [if_neg (by omega), g8, hml, Int.toNat_natCast, ht]
      by_cases c : a4 = 0
      · rw [if_pos c, if_neg]
        simp [c]
      · rw [if_neg c, if_pos]
        simp [c]
    refine ⟨⟨by omega, by omega⟩, _, rfl, _, _, _, o, by rw [hml]; rfl, ?_, ?_⟩
    · rw [eo]
      by_cases c : a4 = 0 <;> simp [c]
    · rw [eo]
      by_cases c : a4 = 0 <;> simp [c]
  | succ d ih =>
    intro k i h1 h2 h3
    obtain ⟨k, rfl⟩ : ∃ m, k = m + 1 := ⟨k - 1, by omega⟩
    have H := ih k (i + 1) (by omega) (by omega) (by omega)
    unfold reliquarylaw08_SealTails.L1
    rw [Int.toNat_natCast, hsl, gn_sealb, if_neg (by omega), if_neg (by omega)]
    refine .inl ⟨by omega, ⟨by omega, by omega⟩, by simp, ?_⟩
    rw [w64 (by omega) (by omega)]
    exact H
theorem kn_and1 {a : Int} (h : 0 ≤ a ∧ a < 256) : kn (bits .and .u8 a 1) = 160 ∨ kn (bits .and .u8 a 1) = 176 := by
  have h1 := and1 h
  have : ∀ i : Fin 2, kn (i.val : Int) = 160 ∨ kn (i.val : Int) = 176 := by decide +kernel
  have := this ⟨(bits .and .u8 a 1).toNat, by omega⟩
  rw [show ((bits .and .u8 a 1).toNat : Int) = bits .and .u8 a 1 by omega] at this
  exact this
theorem sealTails_pure (key l : List Int) (a2 a3 a4 : Int) (hb : Byt key) (hl : key.length = 32) (hlb : Byt l) (h2 : 0 ≤ a2 ∧ a2 < 256) (h3 : 0 ≤ a3 ∧ a3 < 256) (h4 : 0 ≤ a4 ∧ a4 < 256) : reliquarylaw08_SealTails.rel key l a2 a3 a4 := by
  have h1 := and1 h2
  have hk := kn_and1 h2
  have hlg := long_rel l (bits .and .u8 a2 1) (by omega)
  have hlen := longf_length l (kn (bits .and .u8 a2 1))
  have hby := longf_byt hlb (kn (bits .and .u8 a2 1))
  generalize longf l (kn (bits .and .u8 a2 1)) = m at *
  have s := seal_rel key 3 7 m hb hl (by omega) (by omega) (by omega)
  have e : sealf key 3 7 m = (sealb key 3 7 m, 0) := by unfold sealf; rw [if_neg (by omega), if_neg (by omega)]
  rw [e] at s
  have e8 : IntKind.i64.wrap (8 + (m.length : Int)) = ((8 + m.length : Nat) : Int) := by rw [w64 (by omega) (by omega)]; omega
  refine ⟨awake08, _, hlg, _, _, s, by simp, 193, ?_⟩
  rw [e8]
  exact tails_L1 key a3 a4 m hb hl h3 h4 hby (by omega) (192 - (8 + m.length)) 193 _ (by omega) (by omega) (by omega)
end Go.Proofs.YtkcpocplohdobaaDoor
