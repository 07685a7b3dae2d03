/- The cipher: what the walks compute is one function. -/
import Derived.Test.YtmhcjafkdmcgoaaDoorPlWd
namespace Go.Proofs.YtmhcjafkdmcgoaaDoor
open Go Go.Kr Go.RowKit
set_option linter.unusedVariables false
set_option linter.unusedSimpArgs false
def fillv (c : List Int) (off : Nat) (f : Nat → Int) : Nat → List Int
 | 0 => c
 | i + 1 => (fillv c off f i).set (off + i) (f i)
theorem fillv_length (c : List Int) (off : Nat) (f : Nat → Int) : ∀ i, (fillv c off f i).length = c.length
 | 0 => rfl
 | i + 1 => by rw [fillv, List.length_set, fillv_length c off f i]
def CW4 : List Int := [1634760805, 857760878, 2036477234, 1797285236, 0, 0, 0, 0, 0, 0, 0, 0, 0, 0, 0, 0]
def fw (l : List Int) (i : Nat) : Int := getn l (4 * i) 4
def wds (key : List Int) (ctr : Int) (nonce : List Int) : List Int := fillv ((fillv CW4 4 (fw key) 8).set 12 ctr) 13 (fw nonce) 3
theorem getf_in {l : List Int} {i : Nat} (h : 4 * i + 4 ≤ l.length) : getf l (4 * i) 4 = (fw l i, 0) := by
 unfold getf
 rw [if_neg (by omega), if_neg (by omega)]; rfl
theorem fw_wrap {l : List Int} (hb : Byt l) (i : Nat) : IntKind.u32.wrap (fw l i) = fw l i := by
 have := getn_range hb (4 * i) 4
 exact wu32 this.1 this.2
theorem at_rel (l : List Int) (hb : Byt l) (i : Nat) (h : 4 * i + 4 ≤ l.length) (hs : l.length ≤ 1000000) : cipher_at.rel l i (fw l i) := by
 have hg := get_rel l hb (4 * i) 4 (by omega) (by omega) hs
 rw [getf_in h] at hg
 refine ⟨fw l i, 0, ?_, (fw_wrap hb i).symm⟩
 rw [w64 (by omega) (by omega)]
 exact hg
theorem rat_rel (l : List Int) (hb : Byt l) (i : Nat) (h : 4 * i + 4 ≤ l.length) (hs : l.length ≤ 1000000) : reliquaryref04_at.rel l ((4 * i : Nat) : Int) (fw l i) := by
 have hg := rget_rel l hb (4 * i) 4 (by omega) (by omega) hs
 rw [getf_in h] at hg
 exact ⟨_, _, hg, (fw_wrap hb i).symm⟩
theorem ci_words_L2 (c nonce : List Int) (hc : c.length = 16) (hb : Byt nonce) (hl : nonce.length = 12) : ∀ (d k i : Nat), i + d = 3 → d < k → cipher_words.L2 nonce (fillv c 13 (fw nonce) 3) k (fillv c 13 (fw nonce) i) i := by
 intro d
 induction d with
 | zero =>
  intro k i h1 h2
  obtain ⟨k, rfl⟩ : ∃ m, k = m + 1 := ⟨k - 1, by omega⟩
  exact .inr ⟨by omega, by rw [show i = 3 by omega]⟩
 | succ d ih =>
  intro k i h1 h2
  obtain ⟨k, rfl⟩ : ∃ m, k = m + 1 := ⟨k - 1, by omega⟩
  have e : IntKind.i64.wrap (13 + (i : Int)) = ((13 + i : Nat) : Int) := by rw [w64 (by omega) (by omega)]; omega
  unfold cipher_words.L2
  rw [e, Int.toNat_natCast]
  refine .inl ⟨by omega, _, at_rel nonce hb i (by omega) (by omega), ⟨by omega, by omega⟩, _, rfl, ?_⟩
  rw [w64 (by omega) (by omega)]
  exact ih k (i + 1) (by omega) (by omega)
theorem ci_words_L1 (key : List Int) (ctr : Int) (nonce : List Int) (hb : Byt key) (hl : key.length = 32) (hn : Byt nonce) (hnl : nonce.length = 12) : ∀ (d k i : Nat), i + d = 8 → d < k →
  cipher_words.L1 key ctr nonce (wds key ctr nonce) k (fillv CW4 4 (fw key) i) i := by
 intro d
 induction d with
 | zero =>
  intro k i h1 h2
  obtain ⟨k, rfl⟩ : ∃ m, k = m + 1 := ⟨k - 1, by omega⟩
  obtain rfl : i = 8 := by omega
  exact .inr ⟨by omega, _, rfl, 4, ci_words_L2 _ nonce (by rw [List.length_set, fillv_length]; rfl) hn hnl 3 4 0 (by omega) (by omega)⟩
 | succ d ih =>
  intro k i h1 h2
  obtain ⟨k, rfl⟩ : ∃ m, k = m + 1 := ⟨k - 1, by omega⟩
  have e : IntKind.i64.wrap (4 + (i : Int)) = ((4 + i : Nat) : Int) := by rw [w64 (by omega) (by omega)]; omega
  unfold cipher_words.L1
  rw [e, Int.toNat_natCast]
  refine .inl ⟨by omega, _, at_rel key hb i (by omega) (by omega), ⟨by omega, by omega⟩, _, rfl, ?_⟩
  rw [w64 (by omega) (by omega)]
  exact ih k (i + 1) (by omega) (by omega)
theorem ci_words_rel (key : List Int) (ctr : Int) (nonce : List Int) (hb : Byt key) (hl : key.length = 32) (hn : Byt nonce) (hnl : nonce.length = 12) : cipher_words.rel key ctr nonce (wds key ctr nonce) :=
 ⟨_, rfl, 9, ci_words_L1 key ctr nonce hb hl hn hnl 8 9 0 (by omega) (by omega)⟩
def rotl (x n : Int) : Int := bits .or .u32 (shlI .u32 x n) (shrI .u32 x (32 - n))
theorem rot_rel (x n : Int) (h : bits .and .u64 (IntKind.u64.wrap n) 31 = n) (h0 : 0 ≤ n) (h1 : n ≤ 32) : bits_RotateLeft32.rel x n (rotl x n) := by
 refine ⟨by rw [h]; exact h0, _, rfl, ?_⟩
 rw [h, wu64 (by omega) (by omega)]
 exact ⟨by omega, _, rfl, rfl⟩
theorem left_rel (x n : Int) (h0 : 0 ≤ n) (h1 : n ≤ 32) : reliquaryref04_left.rel x n (rotl x n) := by
 refine ⟨h0, ?_⟩
 rw [wu64 (by omega) (by omega)]
 exact ⟨by omega, _, rfl, rfl⟩
def addf (w : List Int) (a b d : Nat) (n : Int) : List Int :=
 (w.set a (IntKind.u32.wrap (gn w a + gn w b))).set d (rotl (bits .xor .u32 (gn (w.set a (IntKind.u32.wrap (gn w a + gn w b))) d) (gn (w.set a (IntKind.u32.wrap (gn w a + gn w b))) a)) n)
theorem add_rel (w : List Int) (a b d : Nat) (n : Int) (ha : a < 16) (hb : b < 16) (hd : d < 16) (h : bits .and .u64 (IntKind.u64.wrap n) 31 = n) (h0 : 0 ≤ n) (h1 : n ≤ 32) : cipher_Block_1.rel a b d n w (addf w a b d n) := by
 unfold cipher_Block_1.rel
 simp only [Int.toNat_natCast]
 exact ⟨⟨by omega, by omega⟩, ⟨by omega, by omega⟩, _, rfl, ⟨by omega, by omega⟩, _, rfl, ⟨by omega, by omega⟩, ⟨by omega, by omega⟩, _, rot_rel _ n h h0 h1, ⟨by omega, by omega⟩, _, rfl, rfl⟩
def qrf (w : List Int) (a b c d : Nat) : List Int := addf (addf (addf (addf w a b d 16) c d b 12) a b d 8) c d b 7
theorem quarter_rel (w : List Int) (a b c d : Nat) (ha : a < 16) (hb : b < 16) (hc : c < 16) (hd : d < 16) : reliquaryref04_quarter.rel w a b c d (qrf w a b c d) := by
 unfold reliquaryref04_quarter.rel
 simp only [Int.toNat_natCast]
 have A : (0 : Int) ≤ a ∧ (a : Int) < (16 : Int) := ⟨by omega, by omega⟩
 have B : (0 : Int) ≤ b ∧ (b : Int) < (16 : Int) := ⟨by omega, by omega⟩
 have C : (0 : Int) ≤ c ∧ (c : Int) < (16 : Int) := ⟨by omega, by omega⟩
 have D : (0 : Int) ≤ d ∧ (d : Int) < (16 : Int) := ⟨by omega, by omega⟩
 exact ⟨A, B, _, rfl, A, _, rfl, D, A, _, left_rel _ 16 (by omega) (by omega), D, _, rfl, C, D, _, rfl, C, _, rfl, B, C, _, left_rel _ 12 (by omega) (by omega), B, _, rfl,
  A, B, _, rfl, A, _, rfl, D, A, _, left_rel _ 8 (by omega) (by omega), D, _, rfl, C, D, _, rfl, C, _, rfl, B, C, _, rfl, _, left_rel _ 7 (by omega) (by omega), B, _, rfl, rfl⟩
def qi (i j : Nat) : Nat := (gn tab1 (i * 4 + j)).toNat
theorem tab_fin : ∀ i : Fin 8, ∀ j : Fin 4, gn tab1 (i.val * 4 + j.val) = (qi i.val j.val : Int) ∧ qi i.val j.val < 16 := by decide +kernel
def drf (w : List Int) : Nat → List Int
 | 0 => w
 | i + 1 => qrf (drf w i) (qi i 0) (qi i 1) (qi i 2) (qi i 3)
theorem tab_part (i j : Nat) (hi : i < 8) (hj : j < 4) : gn (List.take 4 (List.drop (i * 4) tab1)) j = (qi i j : Int) := by
 rw [gn_take hj, gn_drop]; exact (tab_fin ⟨i, hi⟩ ⟨j, hj⟩).1
theorem block_L2 (x : Int) (K : List Int → Int → Prop) (w : List Int) (hK : K (drf w 8) (IntKind.i64.wrap (x + 1))) : ∀ (d k i : Nat), i + d = 8 → d < k → cipher_Block.L2 x K k (drf w i) i := by
 intro d
 induction d with
 | zero =>
  intro k i h1 h2
  obtain ⟨k, rfl⟩ : ∃ m, k = m + 1 := ⟨k - 1, by omega⟩
  obtain rfl : i = 8 := by omega
  exact .inr ⟨by omega, hK⟩
 | succ d ih =>
  intro k i h1 h2
  obtain ⟨k, rfl⟩ : ∃ m, k = m + 1 := ⟨k - 1, by omega⟩
  have t0 := tab_part i 0 (by omega) (by omega)
  have t1 := tab_part i 1 (by omega) (by omega)
  have t2 := tab_part i 2 (by omega) (by omega)
  have t3 := tab_part i 3 (by omega) (by omega)
  have b0 := (tab_fin ⟨i, by omega⟩ 0).2
  have b1 := (tab_fin ⟨i, by omega⟩ 1).2
  have b2 := (tab_fin ⟨i, by omega⟩ 2).2
  have b3 := (tab_fin ⟨i, by omega⟩ 3).2
  unfold cipher_Block.L2
  rw [Int.toNat_natCast]
  refine .inl ⟨by omega, ⟨by omega, by omega⟩, _, rfl, ?_⟩
  rw [t0, t1, t2, t3, w64 (by omega) (by omega)]
  exact ⟨_, add_rel _ _ _ _ 16 b0 b1 b3 (by decide) (by omega) (by omega), _, add_rel _ _ _ _ 12 b2 b3 b1 (by decide) (by omega) (by omega), _, add_rel _ _ _ _ 8 b0 b1 b3 (by decide) (by omega) (by omega),
   _, add_rel _ _ _ _ 7 b2 b3 b1 (by decide) (by omega) (by omega), ih k (i + 1) (by omega) (by omega)⟩
def rnd (w : List Int) : Nat → List Int
 | 0 => w
 | i + 1 => drf (rnd w i) 8
def oub (v w : List Int) (j : Nat) : Int := IntKind.u32.wrap (gn v (j / 4) + gn w (j / 4)) / 256 ^ (j % 4) % 256
def outc (v w : List Int) : List Int := (List.range 64).map (oub v w)
theorem outc_length (v w : List Int) : (outc v w).length = 64 := by simp [outc]
theorem gn_outc (v w : List Int) {j : Nat} (h : j < 64) : gn (outc v w) j = oub v w j := gn_map_range _ h
theorem outc_byt (v w : List Int) : Byt (outc v w) := byt_of_gn fun j hj => by
 rw [outc_length] at hj
 rw [gn_outc v w hj]; unfold oub; omega
theorem block_L3 (v w : List Int) : ∀ (d k i : Nat) (m : List Int), i + d = 16 → d < k → m.length = 64 → (∀ j, j < 4 * i → gn m j = oub v w j) → cipher_Block.L3 (outc v w) w v k m i := by
 intro d
 induction d with
 | zero =>
  intro k i m h1 h2 hm hj
  obtain ⟨k, rfl⟩ : ∃ m, k = m + 1 := ⟨k - 1, by omega⟩
  exact .inr ⟨by omega, ext_gn (by rw [outc_length, hm]) fun j h => by rw [outc_length] at h; rw [gn_outc v w h, hj j (by omega)]⟩
 | succ d ih =>
  intro k i m h1 h2 hm hj
  obtain ⟨k, rfl⟩ : ∃ m, k = m + 1 := ⟨k - 1, by omega⟩
  have e : IntKind.i64.wrap (4 * (i : Int)) = ((4 * i : Nat) : Int) := by rw [w64 (by omega) (by omega)]; omega
  have hpl : (prt m ((4 * i : Nat) : Int) 64).length = 64 - 4 * i := by rw [prt_length (by omega) (by omega) (by omega)]; omega
  have hx : 0 ≤ IntKind.u32.wrap (gn v i + gn w i) ∧ IntKind.u32.wrap (gn v i + gn w i) < 4294967296 := by rw [IntKind.wrap_u32]; omega
  unfold cipher_Block.L3
  rw [e, Int.toNat_natCast, Int.toNat_natCast, hpl]
  refine .inl ⟨by omega, ⟨by omega, by omega⟩, ⟨by omega, by omega, by omega⟩, ⟨by omega, by omega⟩, _, rfl, _, put_rel _ 4 (by omega) (by omega), _, rfl, ?_⟩
  rw [w64 (by omega) (by omega), wu64 hx.1 (by omega), Nat.zero_add]
  refine ih k (i + 1) _ (by omega) (by omega) (by rw [cpy_length (by omega), hm]) fun j h => ?_
  rw [gn_cpy_at (by omega) (by rw [putf_length]; omega), putf_length]
  split
  ·rename_i hr
   rw [gn_putf _ (by omega)]
   unfold oub pb
   rw [show j / 4 = i by omega, show j % 4 = j - 4 * i by omega]
  exact hj j (by omega)
def blockf (key : List Int) (ctr : Int) (nonce : List Int) : List Int := outc (rnd (wds key ctr nonce) 10) (wds key ctr nonce)
theorem blockf_byt (key : List Int) (ctr : Int) (nonce : List Int) : Byt (blockf key ctr nonce) := outc_byt _ _
theorem block_L1 (w : List Int) : ∀ (d k i : Nat), i + d = 10 → d < k → cipher_Block.L1 (outc (rnd w 10) w) w k (rnd w i) i := by
 intro d
 induction d with
 | zero =>
  intro k i h1 h2
  obtain ⟨k, rfl⟩ : ∃ m, k = m + 1 := ⟨k - 1, by omega⟩
  obtain rfl : i = 10 := by omega
  exact .inr ⟨by omega, 17, block_L3 (rnd w 10) w 16 17 0 _ (by omega) (by omega) (by simp) (fun j hj => by omega)⟩
 | succ d ih =>
  intro k i h1 h2
  obtain ⟨k, rfl⟩ : ∃ m, k = m + 1 := ⟨k - 1, by omega⟩
  refine .inl ⟨by omega, 9, block_L2 _ _ (rnd w i) ?_ 8 9 0 (by omega) (by omega)⟩
  rw [w64 (by omega) (by omega)]
  exact ih k (i + 1) (by omega) (by omega)
theorem ci_block_rel (key : List Int) (ctr : Int) (nonce : List Int) (hb : Byt key) (hl : key.length = 32) (hn : Byt nonce) (hnl : nonce.length = 12) : cipher_Block.rel key ctr nonce (blockf key ctr nonce) :=
 ⟨_, ci_words_rel key ctr nonce hb hl hn hnl, 11, block_L1 _ 10 11 0 (by omega) (by omega)⟩
theorem q_fin : ∀ k : Fin 4, qi k.val 0 = k.val ∧ qi k.val 1 = 4 + k.val ∧ qi k.val 2 = 8 + k.val ∧ qi k.val 3 = 12 + k.val ∧
 qi (4 + k.val) 0 = k.val ∧ qi (4 + k.val) 1 = 4 + (k.val + 1) % 4 ∧ qi (4 + k.val) 2 = 8 + (k.val + 2) % 4 ∧ qi (4 + k.val) 3 = 12 + (k.val + 3) % 4 := by decide +kernel
def EXP : List Int := [101, 120, 112, 97, 110, 100, 32, 51, 50, 45, 98, 121, 116, 101, 32, 107]
theorem exp_byt : Byt EXP := by
 have : ∀ x ∈ EXP, 0 ≤ x ∧ x < 256 := by decide
 exact this
theorem cw_eq : fillv (List.replicate 16 0) 0 (fw EXP) 4 = CW4 := by decide +kernel
theorem rblock_L7 (v w : List Int) : ∀ (d k i : Nat) (m : List Int), i + d = 64 → d < k → m.length = 64 → (∀ j, j < i → gn m j = oub v w j) → reliquaryref04_Block.L7 (outc v w) w v k m i := by
 intro d
 induction d with
 | zero =>
  intro k i m h1 h2 hm hj
  obtain ⟨k, rfl⟩ : ∃ m, k = m + 1 := ⟨k - 1, by omega⟩
  exact .inr ⟨by omega, ext_gn (by rw [outc_length, hm]) fun j h => by rw [outc_length] at h; rw [gn_outc v w h, hj j (by omega)]⟩
 | succ d ih =>
  intro k i m h1 h2 hm hj
  obtain ⟨k, rfl⟩ : ∃ m, k = m + 1 := ⟨k - 1, by omega⟩
  have e1 : IntKind.i64.wrap (Int.tdiv (i : Int) 4) = ((i / 4 : Nat) : Int) := by rw [Int.tdiv_eq_ediv_of_nonneg (by omega), w64 (by omega) (by omega)]; omega
  have e2 : IntKind.u64.wrap (IntKind.i64.wrap (8 * Int.tmod (i : Int) 4)) = ((8 * (i % 4) : Nat) : Int) := by
   rw [Int.tmod_eq_emod_of_nonneg (by omega), w64 (by omega) (by omega), wu64 (by omega) (by omega)]; omega
  have hx : 0 ≤ IntKind.u32.wrap (gn v (i / 4) + gn w (i / 4)) ∧ IntKind.u32.wrap (gn v (i / 4) + gn w (i / 4)) < 4294967296 := by rw [IntKind.wrap_u32]; omega
  unfold reliquaryref04_Block.L7
  rw [e1, e2, Int.toNat_natCast, Int.toNat_natCast]
  refine .inl ⟨by omega, ⟨by omega, by omega⟩, ⟨by omega, by omega⟩, _, rfl, by omega, _, rfl, ⟨by omega, by omega⟩, _, rfl, ?_⟩
  rw [w64 (by omega) (by omega)]
  refine ih k (i + 1) _ (by omega) (by omega) (by simpa using hm) fun j h => ?_
  rw [gn_set (by omega)]
  split
  ·rename_i ej; subst ej
   have e3 : shrI .u32 (IntKind.u32.wrap (gn v (j / 4) + gn w (j / 4))) ((8 * (j % 4) : Nat) : Int) = IntKind.u32.wrap (gn v (j / 4) + gn w (j / 4)) / 256 ^ (j % 4) := by
    unfold shrI
    rw [show min ((8 * (j % 4) : Nat) : Int).toNat IntKind.u32.bits = 8 * (j % 4) by simp [IntKind.bits]; omega, pow8, Int.fdiv_eq_ediv_of_nonneg _ (p256' _)]
   rw [e3, IntKind.wrap_u8]; rfl
  exact hj j (by omega)
theorem rblock_L6 (x : Int) (K : List Int → Int → Prop) (w : List Int) (hK : K (drf w 8) (IntKind.i64.wrap (x + 1))) : ∀ (d k i : Nat), i + d = 4 → d < k → reliquaryref04_Block.L6 x K k (drf w (4 + i)) i := by
 intro d
 induction d with
 | zero =>
  intro k i h1 h2
  obtain ⟨k, rfl⟩ : ∃ m, k = m + 1 := ⟨k - 1, by omega⟩
  obtain rfl : i = 4 := by omega
  exact .inr ⟨by omega, hK⟩
 | succ d ih =>
  intro k i h1 h2
  obtain ⟨k, rfl⟩ : ∃ m, k = m + 1 := ⟨k - 1, by omega⟩
  obtain ⟨_, _, _, _, q0, q1, q2, q3⟩ := q_fin ⟨i, by omega⟩
  simp only at q0 q1 q2 q3
  have H := ih k (i + 1) (by omega) (by omega)
  have m1 : IntKind.i64.wrap (4 + Int.tmod (IntKind.i64.wrap ((i : Int) + 1)) 4) = ((4 + (i + 1) % 4 : Nat) : Int) := by
   rw [w64 (x := (i : Int) + 1) (by omega) (by omega), Int.tmod_eq_emod_of_nonneg (by omega), w64 (by omega) (by omega)]; omega
  have m2 : IntKind.i64.wrap (8 + Int.tmod (IntKind.i64.wrap ((i : Int) + 2)) 4) = ((8 + (i + 2) % 4 : Nat) : Int) := by
   rw [w64 (x := (i : Int) + 2) (by omega) (by omega), Int.tmod_eq_emod_of_nonneg (by omega), w64 (by omega) (by omega)]; omega
  have m3 : IntKind.i64.wrap (12 + Int.tmod (IntKind.i64.wrap ((i : Int) + 3)) 4) = ((12 + (i + 3) % 4 : Nat) : Int) := by
   rw [w64 (x := (i : Int) + 3) (by omega) (by omega), Int.tmod_eq_emod_of_nonneg (by omega), w64 (by omega) (by omega)]; omega
  unfold reliquaryref04_Block.L6
  rw [m1, m2, m3, w64 (x := (i : Int) + 1) (by omega) (by omega)]
  refine .inl ⟨by omega, _, rfl, _, rfl, _, rfl, _, quarter_rel _ i _ _ _ (by omega) (by omega) (by omega) (by omega), ?_⟩
  rw [show 4 + (i + 1) = (4 + i) + 1 by omega, drf, q0, q1, q2, q3] at H
  exact H
theorem rblock_L5 (x : Int) (K : List Int → Int → Prop) (w : List Int) (hK : K (drf w 8) (IntKind.i64.wrap (x + 1))) : ∀ (d k i : Nat), i + d = 4 → d < k → reliquaryref04_Block.L5 x K k (drf w i) i := by
 intro d
 induction d with
 | zero =>
  intro k i h1 h2
  obtain ⟨k, rfl⟩ : ∃ m, k = m + 1 := ⟨k - 1, by omega⟩
  obtain rfl : i = 4 := by omega
  exact .inr ⟨by omega, 5, rblock_L6 x K w hK 4 5 0 (by omega) (by omega)⟩
 | succ d ih =>
  intro k i h1 h2
  obtain ⟨k, rfl⟩ : ∃ m, k = m + 1 := ⟨k - 1, by omega⟩
  obtain ⟨q0, q1, q2, q3, _⟩ := q_fin ⟨i, by omega⟩
  simp only at q0 q1 q2 q3
  have H := ih k (i + 1) (by omega) (by omega)
  have m1 : IntKind.i64.wrap (4 + (i : Int)) = ((4 + i : Nat) : Int) := by rw [w64 (by omega) (by omega)]; omega
  have m2 : IntKind.i64.wrap (8 + (i : Int)) = ((8 + i : Nat) : Int) := by rw [w64 (by omega) (by omega)]; omega
  have m3 : IntKind.i64.wrap (12 + (i : Int)) = ((12 + i : Nat) : Int) := by rw [w64 (by omega) (by omega)]; omega
  unfold reliquaryref04_Block.L5
  rw [m1, m2, m3, w64 (x := (i : Int) + 1) (by omega) (by omega)]
  refine .inl ⟨by omega, _, quarter_rel _ i _ _ _ (by omega) (by omega) (by omega) (by omega), ?_⟩
  rw [drf, q0, q1, q2, q3] at H
  exact H
theorem rblock_L4 (w : List Int) : ∀ (d k i : Nat), i + d = 10 → d < k → reliquaryref04_Block.L4 (outc (rnd w 10) w) w k (rnd w i) i := by
 intro d
 induction d with
 | zero =>
  intro k i h1 h2
  obtain ⟨k, rfl⟩ : ∃ m, k = m + 1 := ⟨k - 1, by omega⟩
  obtain rfl : i = 10 := by omega
  exact .inr ⟨by omega, 65, rblock_L7 (rnd w 10) w 64 65 0 _ (by omega) (by omega) (by simp) (fun j hj => by omega)⟩
 | succ d ih =>
  intro k i h1 h2
  obtain ⟨k, rfl⟩ : ∃ m, k = m + 1 := ⟨k - 1, by omega⟩
  refine .inl ⟨by omega, 5, rblock_L5 _ _ (rnd w i) ?_ 4 5 0 (by omega) (by omega)⟩
  rw [w64 (by omega) (by omega)]
  exact ih k (i + 1) (by omega) (by omega)
theorem rblock_L3 (c nonce : List Int) (hc : c.length = 16) (hb : Byt nonce) (hl : nonce.length = 12) : ∀ (d k i : Nat), i + d = 3 → d < k →
  reliquaryref04_Block.L3 nonce (outc (rnd (fillv c 13 (fw nonce) 3) 10) (fillv c 13 (fw nonce) 3)) k (fillv c 13 (fw nonce) i) i := by
 intro d
 induction d with
 | zero =>
  intro k i h1 h2
  obtain ⟨k, rfl⟩ : ∃ m, k = m + 1 := ⟨k - 1, by omega⟩
  obtain rfl : i = 3 := by omega
  exact .inr ⟨by omega, 11, rblock_L4 _ 10 11 0 (by omega) (by omega)⟩
 | succ d ih =>
  intro k i h1 h2
  obtain ⟨k, rfl⟩ : ∃ m, k = m + 1 := ⟨k - 1, by omega⟩
  have e : IntKind.i64.wrap (13 + (i : Int)) = ((13 + i : Nat) : Int) := by rw [w64 (by omega) (by omega)]; omega
  have e4 : IntKind.i64.wrap (4 * (i : Int)) = ((4 * i : Nat) : Int) := by rw [w64 (by omega) (by omega)]; omega
  unfold reliquaryref04_Block.L3
  rw [e, e4, Int.toNat_natCast]
  refine .inl ⟨by omega, _, rat_rel nonce hb i (by omega) (by omega), ⟨by omega, by omega⟩, _, rfl, ?_⟩
  rw [w64 (by omega) (by omega)]
  exact ih k (i + 1) (by omega) (by omega)
theorem rblock_L2 (key : List Int) (ctr : Int) (nonce : List Int) (hb : Byt key) (hl : key.length = 32) (hn : Byt nonce) (hnl : nonce.length = 12) : ∀ (d k i : Nat), i + d = 8 → d < k →
  reliquaryref04_Block.L2 key ctr nonce (blockf key ctr nonce) k (fillv CW4 4 (fw key) i) i := by
 intro d
 induction d with
 | zero =>
  intro k i h1 h2
  obtain ⟨k, rfl⟩ : ∃ m, k = m + 1 := ⟨k - 1, by omega⟩
  obtain rfl : i = 8 := by omega
  exact .inr ⟨by omega, _, rfl, 4, rblock_L3 _ nonce (by rw [List.length_set, fillv_length]; rfl) hn hnl 3 4 0 (by omega) (by omega)⟩
 | succ d ih =>
  intro k i h1 h2
  obtain ⟨k, rfl⟩ : ∃ m, k = m + 1 := ⟨k - 1, by omega⟩
  have e : IntKind.i64.wrap (4 + (i : Int)) = ((4 + i : Nat) : Int) := by rw [w64 (by omega) (by omega)]; omega
  have e4 : IntKind.i64.wrap (4 * (i : Int)) = ((4 * i : Nat) : Int) := by rw [w64 (by omega) (by omega)]; omega
  unfold reliquaryref04_Block.L2
  rw [e, e4, Int.toNat_natCast]
  refine .inl ⟨by omega, _, rat_rel key hb i (by omega) (by omega), ⟨by omega, by omega⟩, _, rfl, ?_⟩
  rw [w64 (by omega) (by omega)]
  exact ih k (i + 1) (by omega) (by omega)
theorem rblock_L1 (key : List Int) (ctr : Int) (nonce : List Int) (hb : Byt key) (hl : key.length = 32) (hn : Byt nonce) (hnl : nonce.length = 12) : ∀ (d k i : Nat), i + d = 4 → d < k →
  reliquaryref04_Block.L1 key ctr nonce (blockf key ctr nonce) k (fillv (List.replicate 16 0) 0 (fw EXP) i) i := by
 intro d
 induction d with
 | zero =>
  intro k i h1 h2
  obtain ⟨k, rfl⟩ : ∃ m, k = m + 1 := ⟨k - 1, by omega⟩
  obtain rfl : i = 4 := by omega
  rw [cw_eq]
  exact .inr ⟨by omega, 9, rblock_L2 key ctr nonce hb hl hn hnl 8 9 0 (by omega) (by omega)⟩
 | succ d ih =>
  intro k i h1 h2
  obtain ⟨k, rfl⟩ : ∃ m, k = m + 1 := ⟨k - 1, by omega⟩
  have H := ih k (i + 1) (by omega) (by omega)
  have e4 : IntKind.i64.wrap (4 * (i : Int)) = ((4 * i : Nat) : Int) := by rw [w64 (by omega) (by omega)]; omega
  unfold reliquaryref04_Block.L1
  rw [e4, Int.toNat_natCast]
  refine .inl ⟨by omega, _, rat_rel EXP exp_byt i (by simp [EXP]; omega) (by simp [EXP]), ⟨by omega, by omega⟩, _, rfl, ?_⟩
  rw [w64 (by omega) (by omega)]
  rw [fillv, Nat.zero_add] at H
  exact H
theorem rblock_rel (key : List Int) (ctr : Int) (nonce : List Int) (hb : Byt key) (hl : key.length = 32) (hn : Byt nonce) (hnl : nonce.length = 12) : reliquaryref04_Block.rel key ctr nonce (blockf key ctr nonce) :=
 ⟨5, rblock_L1 key ctr nonce hb hl hn hnl 4 5 0 (by omega) (by omega)⟩
def cb (key : List Int) (ctr : Int) (nonce l : List Int) (p : Nat) : Int := bits .xor .u8 (gn l p) (gn (blockf key (IntKind.u32.wrap (ctr + ((p / 64 : Nat) : Int))) nonce) (p % 64))
def cryptl (key : List Int) (ctr : Int) (nonce l : List Int) : List Int := (List.range l.length).map (cb key ctr nonce l)
def nblk (l : List Int) : Nat := (l.length + 63) / 64
def cryptf (key : List Int) (ctr : Int) (nonce l : List Int) : List Int × Int := if ctr + nblk l > 4294967296 then ([], 1) else (cryptl key ctr nonce l, 0)
theorem cryptl_length (key : List Int) (ctr : Int) (nonce l : List Int) : (cryptl key ctr nonce l).length = l.length := by simp [cryptl]
theorem gn_cryptl (key : List Int) (ctr : Int) (nonce l : List Int) {p : Nat} (h : p < l.length) : gn (cryptl key ctr nonce l) p = cb key ctr nonce l p := gn_map_range _ h
theorem cb_range (key : List Int) (ctr : Int) (nonce : List Int) {l : List Int} (hb : Byt l) (p : Nat) : 0 ≤ cb key ctr nonce l p ∧ cb key ctr nonce l p < 256 := u8_xor_range (hb.gn p) ((blockf_byt _ _ _).gn _)
theorem cryptl_byt (key : List Int) (ctr : Int) (nonce : List Int) {l : List Int} (hb : Byt l) : Byt (cryptl key ctr nonce l) := byt_of_gn fun j hj => by
 rw [cryptl_length] at hj
 rw [gn_cryptl _ _ _ _ hj]; exact cb_range key ctr nonce hb j
def xorc (l : List Int) (o : Nat) (b : List Int) : List Int := (List.range l.length).map fun p => if o ≤ p ∧ p < o + 64 then bits .xor .u8 (gn l p) (gn b (p - o)) else gn l p
theorem xorc_length (l : List Int) (o : Nat) (b : List Int) : (xorc l o b).length = l.length := by simp [xorc]
theorem gn_xorc (l : List Int) (o : Nat) (b : List Int) {p : Nat} (h : p < l.length) : gn (xorc l o b) p = if o ≤ p ∧ p < o + 64 then bits .xor .u8 (gn l p) (gn b (p - o)) else gn l p := gn_map_range _ h
theorem gn_chl64 {l : List Int} {x j : Nat} (hj : j < 64) : gn (chl l 64 x) j = gn l (64 * x + j) := by
 unfold chl; rw [gn_take hj, gn_drop]
def gxc (key nonce : List Int) (x : Nat) (s : List Int × Int) : List Int × Int := (xorc s.1 (64 * x) (blockf key s.2 nonce), IntKind.u32.wrap (s.2 + 1))
theorem crypt_L1 (key nonce l : List Int) (c : Int) (x : Nat) (hx : 64 * x < l.length) (hs : l.length ≤ 1000000) : ∀ (d k i : Nat) (m : List Int), i + d = min 64 (l.length - 64 * x) → d < k → m.length = l.length →
  (∀ p, p < l.length → gn m p = if 64 * x ≤ p ∧ p < 64 * x + i then bits .xor .u8 (gn l p) (gn (blockf key c nonce) (p - 64 * x)) else gn l p) →
  cipher_Crypt.L1 l c x (fun _ _ => True) (gxc key nonce) (blockf key c nonce) k m i := by
 have hcl : ∀ m : List Int, m.length = l.length → (chl m 64 x).length = min 64 (l.length - 64 * x) := fun m hm => by rw [← chl_length, hm]
 intro d
 induction d with
 | zero =>
  intro k i m h1 h2 hm hp
  obtain ⟨k, rfl⟩ : ∃ m, k = m + 1 := ⟨k - 1, by omega⟩
  refine .inr ⟨by rw [hcl l rfl]; omega, trivial, ?_⟩
  unfold gxc
  refine Prod.ext (show m = xorc l (64 * x) (blockf key c nonce) from ext_gn (by rw [xorc_length, hm]) fun p h => ?_) rfl
  rw [hm] at h
  rw [gn_xorc _ _ _ h, hp p h]
  by_cases c1 : 64 * x ≤ p ∧ p < 64 * x + 64
  ·rw [if_pos c1, if_pos (by omega)]
  rw [if_neg c1, if_neg (by omega)]
 | succ d ih =>
  intro k i m h1 h2 hm hp
  obtain ⟨k, rfl⟩ : ∃ m, k = m + 1 := ⟨k - 1, by omega⟩
  unfold cipher_Crypt.L1
  rw [hcl l rfl, hcl m hm, Int.toNat_natCast]
  refine .inl ⟨by omega, ⟨by omega, by omega⟩, ⟨by omega, by omega⟩, _, rfl, ⟨by omega, by omega⟩, _, rfl, ?_⟩
  rw [w64 (by omega) (by omega), gn_chl64 (by omega)]
  refine ih k (i + 1) _ (by omega) (by omega) (by simpa using hm) fun p h => ?_
  rw [gn_set (by omega)]
  by_cases e : p = 64 * x + i
  ·subst e
   rw [if_pos rfl, if_pos (by omega), hp _ h, if_neg (by omega)]
   congr 2; omega
  rw [if_neg e, hp p h]
  by_cases c1 : 64 * x ≤ p ∧ p < 64 * x + i
  ·rw [if_pos c1, if_pos (by omega)]
  rw [if_neg c1, if_neg (by omega)]
def partc (key : List Int) (ctr : Int) (nonce l : List Int) (i : Nat) : List Int := (List.range l.length).map fun p => if p < 64 * i then cb key ctr nonce l p else gn l p
theorem wrap_add32 (c : Int) (i : Nat) : IntKind.u32.wrap (IntKind.u32.wrap (c + (i : Int)) + 1) = IntKind.u32.wrap (c + ((i + 1 : Nat) : Int)) := by
 simp only [IntKind.wrap_u32]; omega
theorem crypt_fold (key : List Int) (ctr : Int) (nonce l : List Int) : ∀ i : Nat, (List.range i).foldl (fun s_ x_ => gxc key nonce x_ s_) (l, IntKind.u32.wrap ctr) = (partc key ctr nonce l i, IntKind.u32.wrap (ctr + (i : Int)))
  | 0 => by
    refine Prod.ext (show l = partc key ctr nonce l 0 from ext_gn (by simp [partc]) fun p hp => ?_) (by simp)
    unfold partc
    rw [gn_map_range _ hp, if_neg (by omega)]
  | i + 1 => by
    rw [List.range_succ, List.foldl_append, crypt_fold key ctr nonce l i]
    show gxc key nonce i _ = _
    unfold gxc
    refine Prod.ext ?_ (wrap_add32 ctr i)
    have hl : (partc key ctr nonce l i).length = l.length := by simp [partc]
    refine ext_gn (by rw [xorc_length, hl]; simp [partc]) fun p hp => ?_
    rw [xorc_length, hl] at hp
    simp only
    rw [gn_xorc _ _ _ (by rw [hl]; exact hp)]
    unfold partc
    rw [gn_map_range _ hp, gn_map_range _ hp]
    by_cases c1 : 64 * i ≤ p ∧ p < 64 * i + 64
    · rw [if_pos c1, if_neg (by omega), if_pos (by omega)]
      unfold cb
      rw [show p / 64 = i by omega, show p % 64 = p - 64 * i by omega]
    · rw [if_neg c1]
      by_cases c2 : p < 64 * i
      · rw [if_pos c2, if_pos (by omega)]
      · rw [if_neg c2, if_neg (by omega)]
theorem crypt_rel (key : List Int) (ctr : Int) (nonce l : List Int) (hb : Byt key) (hl : key.length = 32) (hn : Byt nonce) (hnl : nonce.length = 12) (hc : 0 ≤ ctr ∧ ctr < 4294967296) (hs : l.length ≤ 100000) :
  cipher_Crypt.rel key ctr nonce l (cryptf key ctr nonce l).1 (cryptf key ctr nonce l).2 := by
 have ec : IntKind.u32.wrap ctr = ctr := wu32 hc.1 hc.2
 have e1 : IntKind.u64.wrap (IntKind.u64.wrap (IntKind.u64.wrap (l.length : Int) + 64) - 1) = ((l.length + 63 : Nat) : Int) := by
  rw [wu64 (x := (l.length : Int)) (by omega) (by omega), wu64 (x := (l.length : Int) + 64) (by omega) (by omega), wu64 (by omega) (by omega)]; omega
 have e2 : IntKind.u64.wrap (IntKind.u64.wrap ctr + IntKind.u64.wrap (Int.tdiv ((l.length + 63 : Nat) : Int) 64)) = ctr + nblk l := by
  unfold nblk
  rw [Int.tdiv_eq_ediv_of_nonneg (by omega), wu64 (x := ctr) (by omega) (by omega), wu64 (x := ((l.length + 63 : Nat) : Int) / 64) (by omega) (by omega), wu64 (by omega) (by omega)]; omega
 refine ⟨_, rfl, _, rfl, ?_⟩
 rw [e1, e2]
 unfold cryptf
 by_cases c1 : ctr + nblk l > 4294967296
 ·rw [if_pos c1]
  exact .inl ⟨c1, rfl, rfl⟩
 rw [if_neg c1]
 have hf := crypt_fold key ctr nonce l (nblk l)
 rw [ec] at hf
 have hpc : partc key ctr nonce l (nblk l) = cryptl key ctr nonce l := by
  unfold partc cryptl
  refine List.map_congr_left fun p hp => ?_
  rw [if_pos]
  have := List.mem_range.1 hp
  unfold nblk; omega
 rw [hpc] at hf
 refine .inr ⟨c1, l, clone02 l (by omega), nblk l, ⟨by unfold nblk; omega, fun j hj => by unfold nblk at hj; omega, by omega⟩, fun _ _ => True, gxc key nonce, trivial, fun x m c hx _ hm => ?_, _, _, hf.symm, rfl, rfl⟩
 unfold nblk at hx
 refine ⟨_, ci_block_rel key c nonce hb hl hn hnl, 65, crypt_L1 key nonce m c x (by omega) (by omega) (min 64 (m.length - 64 * x)) 65 0 m (Nat.zero_add _) (by omega) rfl fun p hp => ?_⟩
 rw [if_neg (by omega)]
theorem take_cryptl (key : List Int) (ctr : Int) (nonce l : List Int) {i : Nat} (h : i < l.length) : (cryptl key ctr nonce l).take (i + 1) = (cryptl key ctr nonce l).take i ++ [cb key ctr nonce l i] := by
 rw [take_gn (by rw [cryptl_length]; exact h), gn_cryptl _ _ _ _ h]
theorem rcrypt_L2 (key : List Int) (ctr : Int) (nonce l : List Int) (hs : l.length ≤ 100000) (x : Nat) (hx : x ≤ 100000) (K : List Int → Int → Prop) (hK : K ((cryptl key ctr nonce l).take (64 * (x + 1))) (IntKind.u64.wrap ((x : Int) + 1))) : ∀ (d k i : Nat), i + d = 64 → d < k →
  reliquaryref04_Crypt.L2 l x (blockf key (IntKind.u32.wrap (ctr + (x : Int))) nonce) K k ((cryptl key ctr nonce l).take (64 * x + i)) i := by
 intro d
 induction d with
 | zero =>
  intro k i h1 h2
  obtain ⟨k, rfl⟩ : ∃ m, k = m + 1 := ⟨k - 1, by omega⟩
  obtain rfl : i = 64 := by omega
  exact .inr ⟨by omega, by rw [show 64 * x + 64 = 64 * (x + 1) by omega]; exact hK⟩
 | succ d ih =>
  intro k i h1 h2
  obtain ⟨k, rfl⟩ : ∃ m, k = m + 1 := ⟨k - 1, by omega⟩
  have H := ih k (i + 1) (by omega) (by omega)
  have e : IntKind.i64.wrap (IntKind.i64.wrap (IntKind.i64.wrap (x : Int) * 64) + (i : Int)) = ((64 * x + i : Nat) : Int) := by
   rw [w64 (x := (x : Int)) (by omega) (by omega), w64 (x := (x : Int) * 64) (by omega) (by omega), w64 (by omega) (by omega)]; omega
  have ei : IntKind.i64.wrap ((i : Int) + 1) = ((i + 1 : Nat) : Int) := by rw [w64 (by omega) (by omega)]; omega
  unfold reliquaryref04_Crypt.L2
  rw [e, ei, Int.toNat_natCast]
  refine .inl ⟨by omega, _, rfl, ?_⟩
  rw [Int.toNat_natCast]
  by_cases c : 64 * x + i < l.length
  ·refine .inl ⟨by omega, ⟨by omega, by omega⟩, ⟨by omega, by omega⟩, _, rfl, _, rfl, by rw [List.length_append, List.length_take]; simp; omega, ?_⟩
   rw [show 64 * x + (i + 1) = 64 * x + i + 1 by omega, take_cryptl _ _ _ _ c] at H
   unfold cb at H
   rw [show (64 * x + i) / 64 = x by omega, show (64 * x + i) % 64 = i by omega] at H
   exact H
  refine .inr ⟨by omega, ?_⟩
  rw [List.take_of_length_le (by rw [cryptl_length]; omega)] at H ⊢
  exact H
theorem rcrypt_L1 (key : List Int) (ctr : Int) (nonce l : List Int) (hb : Byt key) (hl : key.length = 32) (hn : Byt nonce) (hnl : nonce.length = 12) (hs : l.length ≤ 100000) : ∀ (d k i : Nat), i + d = nblk l → d < k →
  reliquaryref04_Crypt.L1 key ctr nonce l (cryptl key ctr nonce l) 0 (nblk l) k ((cryptl key ctr nonce l).take (64 * i)) i := by
 intro d
 induction d with
 | zero =>
  intro k i h1 h2
  obtain ⟨k, rfl⟩ : ∃ m, k = m + 1 := ⟨k - 1, by omega⟩
  refine .inr ⟨by omega, ?_, rfl⟩
  rw [List.take_of_length_le]
  rw [cryptl_length]
  unfold nblk at h1; omega
 | succ d ih =>
  intro k i h1 h2
  obtain ⟨k, rfl⟩ : ∃ m, k = m + 1 := ⟨k - 1, by omega⟩
  have H := ih k (i + 1) (by omega) (by omega)
  have hi : i ≤ 100000 := by unfold nblk at h1; omega
  refine .inl ⟨by omega, _, rblock_rel key _ nonce hb hl hn hnl, 65, ?_⟩
  have e : IntKind.u32.wrap (ctr + IntKind.u32.wrap (i : Int)) = IntKind.u32.wrap (ctr + (i : Int)) := by rw [wu32 (x := (i : Int)) (by omega) (by omega)]
  rw [e]
  refine rcrypt_L2 key ctr nonce l hs i hi _ ?_ 64 65 0 (by omega) (by omega)
  rw [wu64 (by omega) (by omega)]
  exact H
theorem rcrypt_rel (key : List Int) (ctr : Int) (nonce l : List Int) (hb : Byt key) (hl : key.length = 32) (hn : Byt nonce) (hnl : nonce.length = 12) (hc : 0 ≤ ctr ∧ ctr < 4294967296) (hs : l.length ≤ 100000) :
  reliquaryref04_Crypt.rel key ctr nonce l (cryptf key ctr nonce l).1 (cryptf key ctr nonce l).2 := by
 have e1 : IntKind.u64.wrap (Int.tdiv (IntKind.u64.wrap (IntKind.i64.wrap ((l.length : Int) + 63))) 64) = (nblk l : Int) := by
  unfold nblk
  rw [w64 (by omega) (by omega), wu64 (x := (l.length : Int) + 63) (by omega) (by omega), Int.tdiv_eq_ediv_of_nonneg (by omega), wu64 (by omega) (by omega)]; omega
 have hn2 : nblk l ≤ 100000 := by unfold nblk; omega
 have e2 : IntKind.u64.wrap (IntKind.u64.wrap ctr + (nblk l : Int)) = ctr + nblk l := by
  rw [wu64 (x := ctr) (by omega) (by omega), wu64 (by omega) (by omega)]
 refine ⟨_, rfl, ?_⟩
 rw [e1, e2]
 unfold cryptf
 by_cases c1 : ctr + nblk l > 4294967296
 ·rw [if_pos c1]
  exact .inl ⟨c1, rfl, rfl⟩
 rw [if_neg c1]
 have := rcrypt_L1 key ctr nonce l hb hl hn hnl hs (nblk l) (nblk l + 1) 0 (by omega) (by omega)
 exact .inr ⟨c1, _, this⟩
def noncef (place version : Int) : List Int := putf place 4 ++ putf version 8
theorem noncef_length (p v : Int) : (noncef p v).length = 12 := by rw [noncef, List.length_append, putf_length, putf_length]
theorem noncef_byt (p v : Int) : Byt (noncef p v) := (putf_byt p 4).append (putf_byt v 8)
theorem nonce_rel (p v : Int) (hp : 0 ≤ p ∧ p < 4294967296) : cipher_Nonce.rel p v (noncef p v) := by
 have f : [putf p 4, putf v 8].flatten = noncef p v := by simp [noncef]
 have hc := concat_rel [putf p 4, putf v 8] (by rw [f, noncef_length]; omega) (by simp)
 rw [f] at hc
 have h4 := put_rel p 4 (by omega) (by omega)
 refine ⟨putf p 4, ?_, _, put_rel v 8 (by omega) (by omega), _, hc, by rw [noncef_length]; omega, ?_⟩
 ·rw [wu64 hp.1 (by omega)]; exact h4
 rw [List.take_of_length_le (by rw [noncef_length]; omega)]
end Go.Proofs.YtmhcjafkdmcgoaaDoor
