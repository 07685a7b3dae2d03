/- The digest: what the walks compute is one function. -/
import Derived.Test.YtmhcjafkdmcgoaaDoorPlCc
namespace Go.Proofs.YtmhcjafkdmcgoaaDoor
open Go Go.Kr Go.RowKit
set_option linter.unusedVariables false
set_option linter.unusedSimpArgs false
theorem or_comm32 (a b : Int) : bits .or .u32 a b = bits .or .u32 b a := by
 show IntKind.u32.wrap ((BitVec.ofInt 32 a ||| BitVec.ofInt 32 b).toNat : Int) = IntKind.u32.wrap ((BitVec.ofInt 32 b ||| BitVec.ofInt 32 a).toNat : Int)
 rw [BitVec.or_comm]
def rot (x n : Int) : Int := bits .or .u32 (shlI .u32 x (32 - n)) (shrI .u32 x n)
theorem right_rel {x n : Int} (h : bits .and .u64 (IntKind.u64.wrap (IntKind.i64.wrap (0 - n))) 31 = 32 - n) (h0 : 0 ≤ n) (h1 : n ≤ 32) : digest_right.rel x n (rot x n) := by
 refine ⟨_, ?_, rfl⟩
 unfold bits_RotateLeft32.rel
 rw [h, show (32 : Int) - (32 - n) = n by omega, wu64 (x := n) h0 (by omega)]
 exact ⟨by omega, _, rfl, h0, _, rfl, rfl⟩
theorem rright_rel {x n : Int} (h0 : 0 ≤ n) (h1 : n ≤ 32) : reliquaryref02_right.rel x n (rot x n) := by
 unfold reliquaryref02_right.rel
 rw [wu64 (x := 32 - n) (by omega) (by omega)]
 exact ⟨h0, by omega, _, rfl, or_comm32 _ _⟩
def sg0 (x : Int) : Int := bits .xor .u32 (bits .xor .u32 (rot x 7) (rot x 18)) (shrI .u32 x 3)
def sg1 (x : Int) : Int := bits .xor .u32 (bits .xor .u32 (rot x 17) (rot x 19)) (shrI .u32 x 10)
def wn (m : List Int) (t : Nat) : Int := IntKind.u32.wrap (IntKind.u32.wrap (IntKind.u32.wrap (gn m (t - 16) + sg0 (gn m (t - 15))) + gn m (t - 7)) + sg1 (gn m (t - 2)))
def exts : Nat → Nat → List Int → List Int
 | 0, _, m => m
 | d + 1, t, m => exts d (t + 1) (m.set t (wn m t))
theorem ofs (t a : Nat) (h : a ≤ t) (ht : t ≤ 64) : IntKind.i64.wrap ((t : Int) - (a : Int)) = ((t - a : Nat) : Int) := by
 rw [w64 (by omega) (by omega)]; omega
theorem words_L3 : ∀ (d k t : Nat) (m : List Int), t + d = 64 → 16 ≤ t → d < k → digest_words.L3 (exts d t m) k m t := by
 intro d
 induction d with
 | zero =>
  intro k t m h1 h2 h3
  obtain ⟨k, rfl⟩ : ∃ m, k = m + 1 := ⟨k - 1, by omega⟩
  exact .inr ⟨by omega, rfl⟩
 | succ d ih =>
  intro k t m h1 h2 h3
  obtain ⟨k, rfl⟩ : ∃ m, k = m + 1 := ⟨k - 1, by omega⟩
  have H := ih k (t + 1) (m.set t (wn m t)) (by omega) (by omega) (by omega)
  unfold digest_words.L3
  have e15 : IntKind.i64.wrap ((t : Int) - 15) = ((t - 15 : Nat) : Int) := ofs t 15 (by omega) (by omega)
  have e2 : IntKind.i64.wrap ((t : Int) - 2) = ((t - 2 : Nat) : Int) := ofs t 2 (by omega) (by omega)
  have e16 : IntKind.i64.wrap ((t : Int) - 16) = ((t - 16 : Nat) : Int) := ofs t 16 (by omega) (by omega)
  have e7 : IntKind.i64.wrap ((t : Int) - 7) = ((t - 7 : Nat) : Int) := ofs t 7 (by omega) (by omega)
  rw [e15, e2, e16, e7]
  refine .inl ⟨by omega, ⟨by omega, by omega⟩, ⟨by omega, by omega⟩, ⟨by omega, by omega⟩, _, right_rel (by decide) (by omega) (by omega), _, right_rel (by decide) (by omega) (by omega), _, rfl, _, rfl, ⟨by omega, by omega⟩, _, rfl, _, right_rel (by decide) (by omega) (by omega), _, right_rel (by decide) (by omega) (by omega), _, rfl, ⟨by omega, by omega⟩, _, rfl, ?_⟩
  rw [w64 (by omega) (by omega)]
  exact_mod_cast H
def w4 (a b c d : Int) : Int := ((a * 256 + b) * 256 + c) * 256 + d
theorem shl32 (x : Int) (n : Nat) (hn : n ≤ 32) : shlI .u32 x n = IntKind.u32.wrap (x * 2 ^ n) := by
 unfold shlI
 rw [show min (n : Int).toNat IntKind.u32.bits = n by simp [IntKind.bits]; omega]
theorem or_low (v c : Int) (hv : 0 ≤ v) (hv2 : v * 256 < 4294967296) (hc : 0 ≤ c) (hc2 : c < 256) : bits .or .u32 (v * 256) c = v * 256 + c := by
 rw [u32_or _ _ (by omega) hv2 hc (by omega)]
 obtain ⟨m, rfl⟩ := Int.eq_ofNat_of_zero_le hv
 obtain ⟨e, rfl⟩ := Int.eq_ofNat_of_zero_le hc
 have h := Nat.two_pow_add_eq_or_of_lt (i := 8) (b := e) (by omega) m
 have e1 : ((m : Int) * 256).toNat = 2 ^ 8 * m := by omega
 rw [e1, Int.toNat_natCast, ← h]
 omega
theorem shl8_or (v c : Int) (hv : 0 ≤ v) (hv2 : v * 256 < 4294967296) (hc : 0 ≤ c) (hc2 : c < 256) : bits .or .u32 (shlI .u32 v 8) (IntKind.u32.wrap c) = v * 256 + c := by
 have h := shl32 v 8 (by omega)
 have h2 : shlI .u32 v 8 = v * 256 := by
  rw [show (8 : Int) = ((8 : Nat) : Int) from rfl, h, wu32 (by omega) (by omega)]; omega
 rw [h2, wu32 hc (by omega), or_low v c hv hv2 hc hc2]
def pv (l : List Int) (a : Nat) : Nat → Int
 | 0 => 0
 | i + 1 => pv l a i * 256 + gn l (a + i)
theorem pv_range {l : List Int} (hb : Byt l) (a : Nat) : ∀ i, 0 ≤ pv l a i ∧ pv l a i < 256 ^ i
  | 0 => by simp [pv]
  | i + 1 => by
    have h := pv_range hb a i
    have hg := hb.gn (a + i)
    rw [pv, Int.pow_succ]
    generalize (256 : Int) ^ i = p at *
    omega
theorem words_L2 (l0 : List Int) (hb : Byt l0) (hl : l0.length = 64) (t : Nat) (ht : t < 16) (m : List Int) (hm : m.length = 64) (K : List Int → Int → Prop) (hK : K (m.set t (pv l0 (4 * t) 4)) ((t : Int) + 1)) :
  ∀ (d k i : Nat), i + d = 4 → d < k → digest_words.L2 l0 t K k (m.set t (pv l0 (4 * t) i)) i := by
 intro d
 have e1 : IntKind.i64.wrap (4 * (t : Int)) = ((4 * t : Nat) : Int) := by rw [w64 (by omega) (by omega)]; omega
 have e2 : IntKind.i64.wrap (((4 * t : Nat) : Int) + 4) = ((4 * t + 4 : Nat) : Int) := by rw [w64 (by omega) (by omega)]; omega
 have e3 : (prt l0 ((4 * t : Nat) : Int) ((4 * t + 4 : Nat) : Int)).length = 4 := by rw [prt_length (by omega) (by omega) (by omega)]; omega
 induction d with
 | zero =>
  intro k i h1 h2
  obtain ⟨k, rfl⟩ : ∃ m, k = m + 1 := ⟨k - 1, by omega⟩
  obtain rfl : i = 4 := by omega
  unfold digest_words.L2
  rw [e1, e2, e3]
  exact .inr ⟨by omega, by rw [w64 (by omega) (by omega)]; exact hK⟩
 | succ d ih =>
  intro k i h1 h2
  obtain ⟨k, rfl⟩ : ∃ m, k = m + 1 := ⟨k - 1, by omega⟩
  have H := ih k (i + 1) (by omega) (by omega)
  have hr := pv_range hb (4 * t) i
  have hg := hb.gn (4 * t + i)
  have h24 : pv l0 (4 * t) i * 256 < 4294967296 := by
   have : i = 0 ∨ i = 1 ∨ i = 2 ∨ i = 3 := by omega
   rcases this with rfl | rfl | rfl | rfl <;> simp at hr <;> omega
  unfold digest_words.L2
  rw [e1, e2, e3]
  refine .inl ⟨by omega, ⟨by omega, by omega⟩, ⟨by omega, by omega⟩, _, rfl, ⟨by omega, by omega⟩, _, rfl, ?_⟩
  rw [w64 (by omega) (by omega), Int.toNat_natCast, Int.toNat_natCast, gn_prt (by omega) (by omega) (by omega), Int.toNat_natCast, gn_set (by omega), if_pos rfl, List.set_set, shl8_or _ _ hr.1 h24 hg.1 hg.2]
  exact H
def laid (l : List Int) : Nat → List Int
 | 0 => List.replicate 64 0
 | t + 1 => (laid l t).set t (pv l (4 * t) 4)
theorem laid_length (l : List Int) : ∀ t, (laid l t).length = 64
 | 0 => by simp [laid]
 | t + 1 => by rw [laid, List.length_set, laid_length l t]
theorem laid_behind (l : List Int) : ∀ t j, t ≤ j → gn (laid l t) j = 0
  | 0, j, _ => by
    show (List.replicate 64 (0 : Int)).getD j 0 = 0
    rw [List.getD_eq_getElem?_getD, List.getElem?_replicate]; split <;> rfl
  | t + 1, j, h => by
    rw [laid]
    by_cases ht : t < 64
    · rw [gn_set (by rw [laid_length]; exact ht), if_neg (by omega), laid_behind l t j (by omega)]
    · rw [List.set_eq_of_length_le (by rw [laid_length]; omega), laid_behind l t j (by omega)]
def wrds (l : List Int) : List Int := exts 48 16 (laid l 16)
theorem words_L1 (l0 : List Int) (hb : Byt l0) (hl : l0.length = 64) : ∀ (d k t : Nat), t + d = 16 → d < k → digest_words.L1 l0 (wrds l0) k (laid l0 t) t := by
 intro d
 induction d with
 | zero =>
  intro k t h1 h2
  obtain ⟨k, rfl⟩ : ∃ m, k = m + 1 := ⟨k - 1, by omega⟩
  obtain rfl : t = 16 := by omega
  exact .inr ⟨by omega, 49, words_L3 48 49 16 _ (by omega) (by omega) (by omega)⟩
 | succ d ih =>
  intro k t h1 h2
  obtain ⟨k, rfl⟩ : ∃ m, k = m + 1 := ⟨k - 1, by omega⟩
  have H := ih k (t + 1) (by omega) (by omega)
  have e1 : IntKind.i64.wrap (4 * (t : Int)) = ((4 * t : Nat) : Int) := by rw [w64 (by omega) (by omega)]; omega
  have e2 : IntKind.i64.wrap (((4 * t : Nat) : Int) + 4) = ((4 * t + 4 : Nat) : Int) := by rw [w64 (by omega) (by omega)]; omega
  have h4 := words_L2 l0 hb hl t (by omega) (laid l0 t) (laid_length _ _) (digest_words.L1 l0 (wrds l0) k) (by exact_mod_cast H) 4 5 0 (by omega) (by omega)
  have h5 : (laid l0 t).set t (pv l0 (4 * t) 0) = laid l0 t := by
   have : pv l0 (4 * t) 0 = gn (laid l0 t) t := (laid_behind l0 t t (Nat.le_refl _)).symm
   rw [this, set_gn_self (by rw [laid_length]; omega)]
  rw [h5] at h4
  unfold digest_words.L1
  rw [e1, e2]
  exact .inl ⟨by omega, ⟨by omega, by omega, by omega⟩, 5, h4⟩
theorem words_rel (l0 : List Int) (hb : Byt l0) (hl : l0.length = 64) : digest_words.rel l0 (wrds l0) :=
 ⟨17, words_L1 l0 hb hl 16 17 0 (by omega) (by omega)⟩
theorem shlc {x : Int} (n : Nat) (hn : n ≤ 32) (h0 : 0 ≤ x) (h1 : x * 2 ^ n < 4294967296) : shlI .u32 x n = x * 2 ^ n := by
 rw [shl32 x n hn, wu32 (Int.mul_nonneg h0 (Int.le_of_lt (Int.pow_pos (by omega)))) h1]
theorem gn_chl {p : List Int} {x j : Nat} (hj : j < 64) (h : 64 * x + 64 ≤ p.length) : gn (chl p 64 x) j = gn p (64 * x + j) := by
 unfold gn chl
 rw [List.getD_eq_getElem?_getD, List.getElem?_take, if_pos hj, List.getElem?_drop, List.getD_eq_getElem?_getD]
theorem chl_len {p : List Int} {x : Nat} (h : 64 * x + 64 ≤ p.length) : (chl p 64 x).length = 64 := by
 simp [chl]; omega
theorem chl_byt {p : List Int} (hb : Byt p) (x : Nat) : Byt (chl p 64 x) := (hb.drop _).take _
theorem blk_L2 (h r0 : List Int) (W : List Int) (hW : ∃ k, reliquaryref02_block.L3 h r0 W tab0 k h 0) : ∀ (d k t : Nat) (m : List Int), exts d t m = W → t + d = 64 → 16 ≤ t → d < k → reliquaryref02_block.L2 h r0 k m t := by
 intro d
 induction d with
 | zero =>
  intro k t m h0 h1 h2 h3
  obtain ⟨k, rfl⟩ : ∃ m, k = m + 1 := ⟨k - 1, by omega⟩
  subst h0
  exact .inr ⟨by omega, tab0, ⟨_, rfl, rfl⟩, hW⟩
 | succ d ih =>
  intro k t m h0 h1 h2 h3
  obtain ⟨k, rfl⟩ : ∃ m, k = m + 1 := ⟨k - 1, by omega⟩
  have H := ih k (t + 1) (m.set t (wn m t)) h0 (by omega) (by omega) (by omega)
  unfold reliquaryref02_block.L2
  have e15 : IntKind.i64.wrap ((t : Int) - 15) = ((t - 15 : Nat) : Int) := ofs t 15 (by omega) (by omega)
  have e2 : IntKind.i64.wrap ((t : Int) - 2) = ((t - 2 : Nat) : Int) := ofs t 2 (by omega) (by omega)
  have e16 : IntKind.i64.wrap ((t : Int) - 16) = ((t - 16 : Nat) : Int) := ofs t 16 (by omega) (by omega)
  have e7 : IntKind.i64.wrap ((t : Int) - 7) = ((t - 7 : Nat) : Int) := ofs t 7 (by omega) (by omega)
  rw [e15, e2, e16, e7]
  refine .inl ⟨by omega, ⟨by omega, by omega⟩, _, rright_rel (by omega) (by omega), ⟨by omega, by omega⟩, _, rright_rel (by omega) (by omega), ⟨by omega, by omega⟩, _, rfl, ⟨by omega, by omega⟩, _, rright_rel (by omega) (by omega), ⟨by omega, by omega⟩, _, rright_rel (by omega) (by omega), ⟨by omega, by omega⟩, _, rfl, ⟨by omega, by omega⟩, _, rfl, ⟨by omega, by omega⟩, _, rfl, ⟨by omega, by omega⟩, _, rfl, ?_⟩
  rw [w64 (by omega) (by omega)]
  exact H
theorem blk_L1 (h r0 p : List Int) (x : Nat) (hb : Byt p) (hp : 64 * x + 64 ≤ p.length) (hs : p.length ≤ 1099511627776) (hW : ∃ k, reliquaryref02_block.L3 h r0 (wrds (chl p 64 x)) tab0 k h 0) : ∀ (d k t : Nat), t + d = 16 → d < k →
  reliquaryref02_block.L1 h p ((64 * x : Nat) : Int) r0 k (laid (chl p 64 x) t) t := by
 intro d
 induction d with
 | zero =>
  intro k t h1 h2
  obtain ⟨k, rfl⟩ : ∃ m, k = m + 1 := ⟨k - 1, by omega⟩
  obtain rfl : t = 16 := by omega
  exact .inr ⟨by omega, 49, blk_L2 h r0 _ hW 48 49 16 _ rfl (by omega) (by omega) (by omega)⟩
 | succ d ih =>
  intro k t h1 h2
  obtain ⟨k, rfl⟩ : ∃ m, k = m + 1 := ⟨k - 1, by omega⟩
  have H := ih k (t + 1) (by omega) (by omega)
  have e1 : IntKind.i64.wrap (4 * (t : Int)) = ((4 * t : Nat) : Int) := by rw [w64 (by omega) (by omega)]; omega
  have e2 : IntKind.i64.wrap (((64 * x : Nat) : Int) + ((4 * t : Nat) : Int)) = ((64 * x + 4 * t : Nat) : Int) := by rw [w64 (by omega) (by omega)]; omega
  have g0 := hb.gn (64 * x + 4 * t)
  have g1 := hb.gn (64 * x + 4 * t + 1)
  have g2 := hb.gn (64 * x + 4 * t + 2)
  have g3 := hb.gn (64 * x + 4 * t + 3)
  have e3 : ∀ a : Nat, a ≤ 3 → IntKind.i64.wrap (((64 * x + 4 * t : Nat) : Int) + (a : Int)) = ((64 * x + 4 * t + a : Nat) : Int) := fun a ha => by rw [w64 (by omega) (by omega)]; omega
  have e31 := e3 1 (by omega)
  have e32 := e3 2 (by omega)
  have e33 := e3 3 (by omega)
  have hv : IntKind.u32.wrap (IntKind.u32.wrap (IntKind.u32.wrap (shlI .u32 (IntKind.u32.wrap (gn p (64 * x + 4 * t))) 24 + shlI .u32 (IntKind.u32.wrap (gn p (64 * x + 4 * t + 1))) 16) + shlI .u32 (IntKind.u32.wrap (gn p (64 * x + 4 * t + 2))) 8) + IntKind.u32.wrap (gn p (64 * x + 4 * t + 3))) = pv (chl p 64 x) (4 * t) 4 := by
   have q0 : gn (chl p 64 x) (4 * t + 0) = gn p (64 * x + 4 * t) := by rw [gn_chl (by omega) hp]; rfl
   have q1 : gn (chl p 64 x) (4 * t + 1) = gn p (64 * x + 4 * t + 1) := by rw [gn_chl (by omega) hp, ← Nat.add_assoc]
   have q2 : gn (chl p 64 x) (4 * t + 2) = gn p (64 * x + 4 * t + 2) := by rw [gn_chl (by omega) hp, ← Nat.add_assoc]
   have q3 : gn (chl p 64 x) (4 * t + 3) = gn p (64 * x + 4 * t + 3) := by rw [gn_chl (by omega) hp, ← Nat.add_assoc]
   simp only [pv, q0, q1, q2, q3]
   generalize gn p (64 * x + 4 * t) = b0 at *
   generalize gn p (64 * x + 4 * t + 1) = b1 at *
   generalize gn p (64 * x + 4 * t + 2) = b2 at *
   generalize gn p (64 * x + 4 * t + 3) = b3 at *
   have s24 : shlI .u32 b0 24 = b0 * 16777216 := shlc 24 (by omega) g0.1 (by omega)
   have s16 : shlI .u32 b1 16 = b1 * 65536 := shlc 16 (by omega) g1.1 (by omega)
   have s8 : shlI .u32 b2 8 = b2 * 256 := shlc 8 (by omega) g2.1 (by omega)
   rw [wu32 g0.1 (by omega), wu32 g1.1 (by omega), wu32 g2.1 (by omega), wu32 g3.1 (by omega), s24, s16, s8, wu32 (x := b0 * 16777216 + b1 * 65536) (by omega) (by omega), wu32 (x := b0 * 16777216 + b1 * 65536 + b2 * 256) (by omega) (by omega), wu32 (by omega) (by omega)]
   omega
  unfold reliquaryref02_block.L1
  rw [e1, e2]
  refine .inl ⟨by omega, ⟨by omega, by omega⟩, _, rfl, _, rfl, ?_⟩
  rw [show IntKind.i64.wrap (((64 * x + 4 * t : Nat) : Int) + 1) = ((64 * x + 4 * t + 1 : Nat) : Int) from e31]
  refine ⟨⟨by omega, by omega⟩, _, rfl, _, rfl, ?_⟩
  rw [show IntKind.i64.wrap (((64 * x + 4 * t : Nat) : Int) + 2) = ((64 * x + 4 * t + 2 : Nat) : Int) from e32]
  refine ⟨⟨by omega, by omega⟩, _, rfl, _, rfl, ?_⟩
  rw [show IntKind.i64.wrap (((64 * x + 4 * t : Nat) : Int) + 3) = ((64 * x + 4 * t + 3 : Nat) : Int) from e33]
  refine ⟨⟨by omega, by omega⟩, _, rfl, ⟨by omega, by omega⟩, _, rfl, ?_⟩
  rw [w64 (by omega) (by omega)]
  simp only [Int.toNat_natCast]
  rw [hv]
  exact H
def S1f (e : Int) : Int := bits .xor .u32 (bits .xor .u32 (rot e 6) (rot e 11)) (rot e 25)
def S0f (a : Int) : Int := bits .xor .u32 (bits .xor .u32 (rot a 2) (rot a 13)) (rot a 22)
def CHf (e f g : Int) : Int := bits .xor .u32 (bits .and .u32 e f) (bits .and .u32 (notI .u32 e) g)
def MJf (a b c : Int) : Int := bits .xor .u32 (bits .xor .u32 (bits .and .u32 a b) (bits .and .u32 a c)) (bits .and .u32 b c)
def T1f (e f g h k w : Int) : Int := IntKind.u32.wrap (IntKind.u32.wrap (IntKind.u32.wrap (IntKind.u32.wrap (h + S1f e) + CHf e f g) + k) + w)
def nA (a b c t1 : Int) : Int := IntKind.u32.wrap (t1 + IntKind.u32.wrap (S0f a + MJf a b c))
def rnds (w : List Int) : Nat → Nat → Int → Int → Int → Int → Int → Int → Int → Int → List Int
 | 0, _, a, b, c, d, e, f, g, h => [a, b, c, d, e, f, g, h]
 | n + 1, i, a, b, c, d, e, f, g, h => rnds w n (i + 1) (nA a b c (T1f e f g h (gn tab0 i) (gn w i))) a b c (IntKind.u32.wrap (d + T1f e f g h (gn tab0 i) (gn w i))) e f g
theorem mixed_L1 (l0 r0 w : List Int) : ∀ (n k i : Nat) (a b c d e f g h : Int), i + n = 64 → n < k → (∃ k, digest_state_mixed.L2 r0 (rnds w n i a b c d e f g h) k l0 0) → digest_state_mixed.L1 l0 r0 w k a b c d e f g h i := by
 intro n
 induction n with
 | zero =>
  intro k i a b c d e f g h h1 h2 h3
  obtain ⟨k, rfl⟩ : ∃ m, k = m + 1 := ⟨k - 1, by omega⟩
  exact .inr ⟨by omega, _, rfl, h3⟩
 | succ n ih =>
  intro k i a b c d e f g h h1 h2 h3
  obtain ⟨k, rfl⟩ : ∃ m, k = m + 1 := ⟨k - 1, by omega⟩
  have H := ih k (i + 1) _ _ _ _ _ _ _ _ (by omega) (by omega) h3
  refine .inl ⟨by omega, ⟨by omega, by omega⟩, _, right_rel (by decide) (by omega) (by omega), _, right_rel (by decide) (by omega) (by omega), _, right_rel (by decide) (by omega) (by omega), _, rfl, _, rfl, ⟨by omega, by omega⟩, _, rfl, _, right_rel (by decide) (by omega) (by omega), _, right_rel (by decide) (by omega) (by omega), _, right_rel (by decide) (by omega) (by omega), _, rfl, _, rfl, _, rfl, _, rfl, ?_⟩
  rw [w64 (by omega) (by omega)]
  exact H
def shf : Nat → List Int → List Int
 | 0, m => m
 | j + 1, m => shf j (m.set (j + 1) (gn m j))
theorem blk_L4 (w : List Int) (i x177 r1 r2 r3 x200 : Int) (K : List Int → Int → Prop) : ∀ (j k : Nat) (m : List Int), j ≤ 7 → j < k →
  K (((shf j m).set 4 (IntKind.u32.wrap (gn (shf j m) 4 + IntKind.u32.wrap (x177 + gn w i.toNat)))).set 0 (IntKind.u32.wrap (IntKind.u32.wrap (IntKind.u32.wrap (x177 + gn w i.toNat) + bits .xor .u32 (bits .xor .u32 r1 r2) r3) + x200))) (IntKind.i64.wrap (i + 1)) →
  reliquaryref02_block.L4 w i x177 r1 r2 r3 x200 K k m j := by
 intro j
 induction j with
 | zero =>
  intro k m h1 h2 hK
  obtain ⟨k, rfl⟩ : ∃ m, k = m + 1 := ⟨k - 1, by omega⟩
  exact .inr ⟨by omega, _, rfl, _, rfl, _, rfl, _, rfl, hK⟩
 | succ j ih =>
  intro k m h1 h2 hK
  obtain ⟨k, rfl⟩ : ∃ m, k = m + 1 := ⟨k - 1, by omega⟩
  have H := ih k (m.set (j + 1) (gn m j)) (by omega) (by omega) hK
  have e : IntKind.i64.wrap (((j + 1 : Nat) : Int) - 1) = (j : Int) := by rw [w64 (by omega) (by omega)]; omega
  unfold reliquaryref02_block.L4
  rw [e]
  exact .inl ⟨by omega, ⟨by omega, by omega⟩, ⟨by omega, by omega⟩, _, rfl, H⟩
theorem add3 (t s m : Int) : IntKind.u32.wrap (IntKind.u32.wrap (t + s) + m) = IntKind.u32.wrap (t + IntKind.u32.wrap (s + m)) := by
 simp only [IntKind.wrap_u32]; omega
theorem blk_L3 (l0 r0 w : List Int) : ∀ (n k i : Nat) (a b c d e f g h : Int), i + n = 64 → n < k → (∃ k, reliquaryref02_block.L5 l0 r0 k (rnds w n i a b c d e f g h) 0) → reliquaryref02_block.L3 l0 r0 w tab0 k [a, b, c, d, e, f, g, h] i := by
 intro n
 induction n with
 | zero =>
  intro k i a b c d e f g h h1 h2 h3
  obtain ⟨k, rfl⟩ : ∃ m, k = m + 1 := ⟨k - 1, by omega⟩
  exact .inr ⟨by omega, h3⟩
 | succ n ih =>
  intro k i a b c d e f g h h1 h2 h3
  obtain ⟨k, rfl⟩ : ∃ m, k = m + 1 := ⟨k - 1, by omega⟩
  have H := ih k (i + 1) _ _ _ _ _ _ _ _ (by omega) (by omega) h3
  refine .inl ⟨by omega, _, rright_rel (by omega) (by omega), _, rright_rel (by omega) (by omega), _, rright_rel (by omega) (by omega), _, rfl, _, rfl, ⟨by omega, by omega⟩, _, rfl, ⟨by omega, by omega⟩, _, rright_rel (by omega) (by omega), _, rright_rel (by omega) (by omega), _, rright_rel (by omega) (by omega), _, rfl, _, rfl, 8, ?_⟩
  refine blk_L4 w i _ _ _ _ _ _ 7 8 _ (by omega) (by omega) ?_
  rw [w64 (by omega) (by omega)]
  have hA : nA a b c (T1f e f g h (gn tab0 i) (gn w i)) = IntKind.u32.wrap (IntKind.u32.wrap (T1f e f g h (gn tab0 i) (gn w i) + S0f a) + MJf a b c) := (add3 _ _ _).symm
  rw [hA] at H
  exact H
def adds8 (l v : List Int) : List Int := (List.range 8).map fun j => IntKind.u32.wrap (gn l j + gn v j)
theorem gn_adds8 {l v : List Int} {j : Nat} (h : j < 8) : gn (adds8 l v) j = IntKind.u32.wrap (gn l j + gn v j) := by
 simp [adds8, gn, List.getD_eq_getElem?_getD, h]
theorem mixed_L2 (l0 v : List Int) (hl : l0.length = 8) : ∀ (d k i : Nat) (m : List Int), i + d = 8 → d < k → m.length = 8 → (∀ j, j < i → gn m j = IntKind.u32.wrap (gn l0 j + gn v j)) → (∀ j, i ≤ j → gn m j = gn l0 j) → digest_state_mixed.L2 (adds8 l0 v) v k m i := by
 intro d
 induction d with
 | zero =>
  intro k i m h1 h2 h3 h4 h5
  obtain ⟨k, rfl⟩ : ∃ m, k = m + 1 := ⟨k - 1, by omega⟩
  refine .inr ⟨by omega, ext_gn (by simp [adds8, h3]) fun j hj => ?_⟩
  have hj8 : j < 8 := by simpa [adds8] using hj
  rw [gn_adds8 hj8, h4 j (by omega)]
 | succ d ih =>
  intro k i m h1 h2 h3 h4 h5
  obtain ⟨k, rfl⟩ : ∃ m, k = m + 1 := ⟨k - 1, by omega⟩
  refine .inl ⟨by omega, ⟨by omega, by omega⟩, ⟨by omega, by omega⟩, _, rfl, ⟨by omega, by omega⟩, _, rfl, ?_⟩
  rw [w64 (by omega) (by omega), Int.toNat_natCast]
  refine ih k (i + 1) _ (by omega) (by omega) (by simpa using h3) (fun j hj => ?_) (fun j hj => ?_)
  ·rw [gn_set (by omega)]
   by_cases e : j = i
   ·rw [if_pos e, e, h5 i (Nat.le_refl _)]
   rw [if_neg e, h4 j (by omega)]
  rw [gn_set (by omega), if_neg (by omega), h5 j (by omega)]
theorem blk_L5 (l0 v : List Int) (hl : l0.length = 8) (hv : v.length = 8) : ∀ (d k i : Nat) (m : List Int), i + d = 8 → d < k → m.length = 8 → (∀ j, j < i → gn m j = IntKind.u32.wrap (gn l0 j + gn v j)) → (∀ j, i ≤ j → gn m j = gn v j) → reliquaryref02_block.L5 l0 (adds8 l0 v) k m i := by
 intro d
 induction d with
 | zero =>
  intro k i m h1 h2 h3 h4 h5
  obtain ⟨k, rfl⟩ : ∃ m, k = m + 1 := ⟨k - 1, by omega⟩
  refine .inr ⟨by omega, ext_gn (by simp [adds8, h3]) fun j hj => ?_⟩
  have hj8 : j < 8 := by simpa [adds8] using hj
  rw [gn_adds8 hj8, h4 j (by omega)]
 | succ d ih =>
  intro k i m h1 h2 h3 h4 h5
  obtain ⟨k, rfl⟩ : ∃ m, k = m + 1 := ⟨k - 1, by omega⟩
  refine .inl ⟨by omega, ⟨by omega, by omega⟩, ⟨by omega, by omega⟩, _, rfl, ⟨by omega, by omega⟩, _, rfl, ?_⟩
  rw [w64 (by omega) (by omega), Int.toNat_natCast]
  refine ih k (i + 1) _ (by omega) (by omega) (by simpa using h3) (fun j hj => ?_) (fun j hj => ?_)
  ·rw [gn_set (by omega)]
   by_cases e : j = i
   ·rw [if_pos e, e, h5 i (Nat.le_refl _), Int.add_comm]
   rw [if_neg e, h4 j (by omega)]
  rw [gn_set (by omega), if_neg (by omega), h5 j (by omega)]
theorem rnds_length (w : List Int) : ∀ (n i : Nat) (a b c d e f g h : Int), (rnds w n i a b c d e f g h).length = 8
 | 0, _, _, _, _, _, _, _, _, _ => rfl
 | n + 1, i, a, b, c, d, e, f, g, h => by rw [rnds]; exact rnds_length w n (i + 1) _ _ _ _ _ _ _ _
def mix (s c : List Int) : List Int := adds8 s (rnds (wrds c) 64 0 (gn s 0) (gn s 1) (gn s 2) (gn s 3) (gn s 4) (gn s 5) (gn s 6) (gn s 7))
theorem mix_length (s c : List Int) : (mix s c).length = 8 := by simp [mix, adds8]
theorem mixed_rel (s c : List Int) (hs : s.length = 8) (hb : Byt c) (hc : c.length = 64) : digest_state_mixed.rel s c (mix s c) :=
 ⟨_, words_rel c hb hc, 65, mixed_L1 s _ _ 64 65 0 _ _ _ _ _ _ _ _ (by omega) (by omega) ⟨9, mixed_L2 s _ hs 8 9 0 s (by omega) (by omega) hs (fun j hj => by omega) (fun j _ => rfl)⟩⟩
theorem list8 {s : List Int} (h : s.length = 8) : s = [gn s 0, gn s 1, gn s 2, gn s 3, gn s 4, gn s 5, gn s 6, gn s 7] := by
 match s, h with
 | [a, b, c, d, e, f, g, i], _ => rfl
theorem block_rel (s p : List Int) (x : Nat) (hs : s.length = 8) (hb : Byt p) (hp : 64 * x + 64 ≤ p.length) (hsz : p.length ≤ 1099511627776) : reliquaryref02_block.rel s p ((64 * x : Nat) : Int) (mix s (chl p 64 x)) := by
 refine ⟨17, blk_L1 s _ p x hb hp hsz ⟨65, ?_⟩ 16 17 0 (by omega) (by omega)⟩
 have H := blk_L3 s (mix s (chl p 64 x)) (wrds (chl p 64 x)) 64 65 0 (gn s 0) (gn s 1) (gn s 2) (gn s 3) (gn s 4) (gn s 5) (gn s 6) (gn s 7) (by omega) (by omega)
  ⟨9, blk_L5 s _ hs (rnds_length _ _ _ _ _ _ _ _ _ _ _) 8 9 0 _ (by omega) (by omega) (rnds_length _ _ _ _ _ _ _ _ _ _ _) (fun j hj => by omega) (fun j _ => rfl)⟩
 rwa [← list8 hs] at H
def H0 : List Int := [1779033703, 3144134277, 1013904242, 2773480762, 1359893119, 2600822924, 528734635, 1541459225]
def lenb (n : Nat) (j : Nat) : Int := IntKind.u8.wrap (shrI .u64 (IntKind.u64.wrap (8 * IntKind.u64.wrap (n : Int))) (56 - 8 * (j : Int)))
def tl8 (n i : Nat) : List Int := (List.range i).map (lenb n)
theorem tl8_succ (n i : Nat) : tl8 n i ++ [lenb n i] = tl8 n (i + 1) := by simp [tl8, List.range_succ]
theorem tl8_length (n i : Nat) : (tl8 n i).length = i := by simp [tl8]
def zs (n : Nat) : Nat := (119 - n % 64) % 64
def pad (l : List Int) : List Int := (l ++ [128]) ++ List.replicate (zs l.length) 0 ++ tl8 l.length 8
theorem pad_length (l : List Int) : (pad l).length = l.length + 9 + zs l.length := by simp [pad, tl8_length]; omega
theorem pad_whole (l : List Int) : 64 * ((pad l).length / 64) = (pad l).length := by rw [pad_length, zs]; omega
theorem pad_byt {l : List Int} (h : Byt l) : Byt (pad l) := by
 intro x hx
 unfold pad at hx
 rcases List.mem_append.1 hx with hx | hx
 ·rcases List.mem_append.1 hx with hx | hx
  ·rcases List.mem_append.1 hx with hx | hx
   ·exact h x hx
   simp at hx; omega
  have := (List.mem_replicate.1 hx).2; omega
 unfold tl8 at hx
 obtain ⟨j, _, rfl⟩ := List.mem_map.1 hx
 unfold lenb
 rw [IntKind.wrap_u8]; omega
def hs (p : List Int) (x : Nat) : List Int := (List.range x).foldl (fun s x_ => mix s (chl p 64 x_)) H0
theorem hs_succ (p : List Int) (x : Nat) : hs p (x + 1) = mix (hs p x) (chl p 64 x) := by simp [hs, List.range_succ]
theorem hs_length (p : List Int) : ∀ x, (hs p x).length = 8
 | 0 => rfl
 | x + 1 => by rw [hs_succ, mix_length]
def outb (s : List Int) (j : Nat) : Int := IntKind.u8.wrap (shrI .u32 (gn s (j / 4)) (24 - 8 * ((j % 4 : Nat) : Int)))
def out32 (s : List Int) : List Int := (List.range 32).map (outb s)
def sumf (l : List Int) : List Int := out32 (hs (pad l) ((pad l).length / 64))
theorem sumf_length (l : List Int) : (sumf l).length = 32 := by simp [sumf, out32]
theorem gn_out32 {s : List Int} {j : Nat} (h : j < 32) : gn (out32 s) j = outb s j := by simp [out32, gn, List.getD_eq_getElem?_getD, h]
theorem td4 (i : Nat) (h : i ≤ 1000) : IntKind.i64.wrap (Int.tdiv (i : Int) 4) = ((i / 4 : Nat) : Int) := by
 rw [Int.tdiv_eq_ediv_of_nonneg (by omega), w64 (by omega) (by omega)]; omega
theorem tm4 (i : Nat) : Int.tmod (i : Int) 4 = ((i % 4 : Nat) : Int) := by
 rw [Int.tmod_eq_emod_of_nonneg (by omega)]; omega
theorem of_L3 (s : List Int) : ∀ (d k i : Nat) (m : List Int), i + d = 32 → d < k → m.length = 32 → (∀ j, j < i → gn m j = outb s j) → digest_Of.L3 (out32 s) s k m i := by
 intro d
 induction d with
 | zero =>
  intro k i m h1 h2 h3 h4
  obtain ⟨k, rfl⟩ : ∃ m, k = m + 1 := ⟨k - 1, by omega⟩
  refine .inr ⟨by omega, ext_gn (by simp [out32, h3]) fun j hj => ?_⟩
  have hj8 : j < 32 := by simpa [out32] using hj
  rw [gn_out32 hj8, h4 j (by omega)]
 | succ d ih =>
  intro k i m h1 h2 h3 h4
  obtain ⟨k, rfl⟩ : ∃ m, k = m + 1 := ⟨k - 1, by omega⟩
  have e : IntKind.i64.wrap (24 - IntKind.i64.wrap (((i % 4 : Nat) : Int) * 8)) = 24 - 8 * ((i % 4 : Nat) : Int) := by
   rw [w64 (x := ((i % 4 : Nat) : Int) * 8) (by omega) (by omega), w64 (by omega) (by omega)]; omega
  unfold digest_Of.L3
  rw [td4 i (by omega), tm4, e]
  refine .inl ⟨by omega, ⟨by omega, by omega⟩, _, rfl, by omega, _, rfl, ⟨by omega, by omega⟩, _, rfl, ?_⟩
  rw [w64 (by omega) (by omega), Int.toNat_natCast, Int.toNat_natCast]
  refine ih k (i + 1) _ (by omega) (by omega) (by simpa using h3) (fun j hj => ?_)
  rw [gn_set (by omega)]
  by_cases e : j = i
  ·rw [if_pos e, e]; rfl
  rw [if_neg e, h4 j (by omega)]
theorem rof_L4 (s : List Int) : ∀ (d k i : Nat) (m : List Int), i + d = 32 → d < k → m.length = 32 → (∀ j, j < i → gn m j = outb s j) → reliquaryref02_Of.L4 (out32 s) s k m i := by
 intro d
 induction d with
 | zero =>
  intro k i m h1 h2 h3 h4
  obtain ⟨k, rfl⟩ : ∃ m, k = m + 1 := ⟨k - 1, by omega⟩
  refine .inr ⟨by omega, ext_gn (by simp [out32, h3]) fun j hj => ?_⟩
  have hj8 : j < 32 := by simpa [out32] using hj
  rw [gn_out32 hj8, h4 j (by omega)]
 | succ d ih =>
  intro k i m h1 h2 h3 h4
  obtain ⟨k, rfl⟩ : ∃ m, k = m + 1 := ⟨k - 1, by omega⟩
  have e : IntKind.i64.wrap (24 - IntKind.i64.wrap (8 * ((i % 4 : Nat) : Int))) = 24 - 8 * ((i % 4 : Nat) : Int) := by
   rw [w64 (x := 8 * ((i % 4 : Nat) : Int)) (by omega) (by omega), w64 (by omega) (by omega)]
  unfold reliquaryref02_Of.L4
  rw [td4 i (by omega), tm4, e]
  refine .inl ⟨by omega, ⟨by omega, by omega⟩, _, rfl, ?_⟩
  rw [wu64 (by omega) (by omega)]
  refine ⟨by omega, _, rfl, ⟨by omega, by omega⟩, _, rfl, ?_⟩
  rw [w64 (by omega) (by omega), Int.toNat_natCast, Int.toNat_natCast]
  refine ih k (i + 1) _ (by omega) (by omega) (by simpa using h3) (fun j hj => ?_)
  rw [gn_set (by omega)]
  by_cases e : j = i
  ·rw [if_pos e, e]; rfl
  rw [if_neg e, h4 j (by omega)]
theorem chunk_fits {p : List Int} (hq : 64 * (p.length / 64) = p.length) {x : Nat} (hx : x < p.length / 64) : 64 * x + 64 ≤ p.length := by omega
theorem of_L2 (l : List Int) (hb : Byt l) (hl : l.length ≤ 1000000) (M : List Int) (hM : M = (l ++ [128]) ++ List.replicate (zs l.length) 0) : ∀ (d k i : Nat), i + d = 8 → d < k → digest_Of.L2 l (sumf l) k (M ++ tl8 l.length i) (56 - 8 * (i : Int)) := by
 intro d
 have hpl := pad_length l
 have hpw := pad_whole l
 have hpb := pad_byt hb
 have hz : zs l.length < 64 := by unfold zs; omega
 have hMl : M.length = l.length + 1 + zs l.length := by rw [hM]; simp; omega
 induction d with
 | zero =>
  intro k i h1 h2
  obtain ⟨k, rfl⟩ : ∃ m, k = m + 1 := ⟨k - 1, by omega⟩
  obtain rfl : i = 8 := by omega
  have hp : M ++ tl8 l.length 8 = pad l := by rw [hM]; rfl
  rw [hp]
  refine .inr ⟨by omega, H0, ⟨_, rfl, rfl⟩, (pad l).length / 64, ⟨by omega, fun j hj => by omega, by omega⟩, fun s => s.length = 8, fun x s => mix s (chl (pad l) 64 x), rfl, fun x s hx _ hs => ?_, hs (pad l) ((pad l).length / 64), rfl, 33, of_L3 _ 32 33 0 _ (by omega) (by omega) (by simp) (fun j hj => by omega)⟩
  exact ⟨mix s (chl (pad l) 64 x), mixed_rel s _ hs (chl_byt hpb x) (chl_len (chunk_fits hpw hx)), mix_length _ _, rfl⟩
 | succ d ih =>
  intro k i h1 h2
  obtain ⟨k, rfl⟩ : ∃ m, k = m + 1 := ⟨k - 1, by omega⟩
  have H := ih k (i + 1) (by omega) (by omega)
  refine .inl ⟨by omega, by omega, _, rfl, _, rfl, ?_, ?_⟩
  ·rw [List.length_append, List.length_append, hMl, tl8_length]; simp; omega
  have e : IntKind.i64.wrap ((56 - 8 * (i : Int)) - 8) = 56 - 8 * ((i + 1 : Nat) : Int) := by rw [w64 (by omega) (by omega)]; omega
  rw [e, List.append_assoc]
  have := tl8_succ l.length i
  unfold lenb at this
  rw [this]
  exact H
theorem of_L1 (l : List Int) (r0 : List Int) : ∀ (z k : Nat) (m : List Int), (m.length + z) % 64 = 56 → z < 64 → z < k → m.length + z ≤ 2000000 → (∃ k, digest_Of.L2 l r0 k (m ++ List.replicate z 0) 56) → digest_Of.L1 l r0 k m := by
 intro z
 induction z with
 | zero =>
  intro k m h1 h2 h3 h4 h5
  obtain ⟨k, rfl⟩ : ∃ m, k = m + 1 := ⟨k - 1, by omega⟩
  have e : Int.tmod (m.length : Int) 64 = ((m.length % 64 : Nat) : Int) := by rw [Int.tmod_eq_emod_of_nonneg (by omega)]; omega
  refine .inr ⟨by rw [e]; omega, ?_⟩
  simpa using h5
 | succ z ih =>
  intro k m h1 h2 h3 h4 h5
  obtain ⟨k, rfl⟩ : ∃ m, k = m + 1 := ⟨k - 1, by omega⟩
  have e : Int.tmod (m.length : Int) 64 = ((m.length % 64 : Nat) : Int) := by rw [Int.tmod_eq_emod_of_nonneg (by omega)]; omega
  refine .inl ⟨by rw [e]; omega, _, rfl, by simp; omega, ih k _ (by simp; omega) (by omega) (by omega) (by simp; omega) ?_⟩
  rw [List.append_assoc]
  exact h5
theorem zs_fits (n : Nat) : (n + 1 + zs n) % 64 = 56 := by unfold zs; omega
theorem of_rel (l : List Int) (hb : Byt l) (hl : l.length ≤ 1000000) : digest_Of.rel l (sumf l) := by
 have hz : zs l.length < 64 := by unfold zs; omega
 have hf := zs_fits l.length
 refine ⟨l, clone02 l hl, _, rfl, by simp; omega, zs l.length + 1, of_L1 l _ (zs l.length) (zs l.length + 1) _ (by simpa using hf) hz (by omega) (by simp; omega) ⟨9, ?_⟩⟩
 have H := of_L2 l hb hl _ rfl 8 9 0 (by omega) (by omega)
 simpa [tl8] using H
theorem rof_L3 (p : List Int) (hb : Byt p) (hq : 64 * (p.length / 64) = p.length) (hl : p.length ≤ 2000000) : ∀ (d k x : Nat), x + d = p.length / 64 → d < k → reliquaryref02_Of.L3 (out32 (hs p (p.length / 64))) p k (hs p x) ((64 * x : Nat) : Int) := by
 intro d
 induction d with
 | zero =>
  intro k x h1 h2
  obtain ⟨k, rfl⟩ : ∃ m, k = m + 1 := ⟨k - 1, by omega⟩
  have : x = p.length / 64 := by omega
  subst this
  exact .inr ⟨by omega, 33, rof_L4 _ 32 33 0 _ (by omega) (by omega) (by simp) (fun j hj => by omega)⟩
 | succ d ih =>
  intro k x h1 h2
  obtain ⟨k, rfl⟩ : ∃ m, k = m + 1 := ⟨k - 1, by omega⟩
  have H := ih k (x + 1) (by omega) (by omega)
  have e : IntKind.i64.wrap (((64 * x : Nat) : Int) + 64) = ((64 * (x + 1) : Nat) : Int) := by rw [w64 (by omega) (by omega)]; omega
  refine .inl ⟨by omega, _, block_rel (hs p x) p x (hs_length p x) hb (by omega) (by omega), ?_⟩
  rw [e, ← hs_succ]
  exact H
theorem rof_L2 (l : List Int) (hb : Byt l) (hl : l.length ≤ 1000000) (M : List Int) (hM : M = (l ++ [128]) ++ List.replicate (zs l.length) 0) : ∀ (d k i : Nat), i + d = 8 → d < k → reliquaryref02_Of.L2 l (sumf l) k (M ++ tl8 l.length i) i := by
 intro d
 have hpl := pad_length l
 have hz : zs l.length < 64 := by unfold zs; omega
 have hMl : M.length = l.length + 1 + zs l.length := by rw [hM]; simp; omega
 induction d with
 | zero =>
  intro k i h1 h2
  obtain ⟨k, rfl⟩ : ∃ m, k = m + 1 := ⟨k - 1, by omega⟩
  obtain rfl : i = 8 := by omega
  have hp : M ++ tl8 l.length 8 = pad l := by rw [hM]; rfl
  rw [hp]
  exact .inr ⟨by omega, H0, rfl, _, rof_L3 (pad l) (pad_byt hb) (pad_whole l) (by omega) _ _ 0 (Nat.zero_add _) (Nat.lt_succ_self _)⟩
 | succ d ih =>
  intro k i h1 h2
  obtain ⟨k, rfl⟩ : ∃ m, k = m + 1 := ⟨k - 1, by omega⟩
  have H := ih k (i + 1) (by omega) (by omega)
  have e : IntKind.u64.wrap (IntKind.i64.wrap (56 - IntKind.i64.wrap (8 * (i : Int)))) = 56 - 8 * (i : Int) := by
   rw [w64 (x := 8 * (i : Int)) (by omega) (by omega), w64 (by omega) (by omega), wu64 (by omega) (by omega)]
  refine .inl ⟨by omega, _, rfl, ?_⟩
  rw [e]
  refine ⟨by omega, _, rfl, _, rfl, ?_, ?_⟩
  ·rw [List.length_append, List.length_append, hMl, tl8_length]; simp; omega
  rw [w64 (by omega) (by omega), List.append_assoc, Int.mul_comm (IntKind.u64.wrap (l.length : Int)) 8]
  have := tl8_succ l.length i
  unfold lenb at this
  rw [this]
  exact H
theorem rof_L1 (l : List Int) (r0 : List Int) : ∀ (z k : Nat) (m : List Int), (m.length + z) % 64 = 56 → z < 64 → z < k → m.length + z ≤ 2000000 → (∃ k, reliquaryref02_Of.L2 l r0 k (m ++ List.replicate z 0) 0) → reliquaryref02_Of.L1 l r0 k m := by
 intro z
 induction z with
 | zero =>
  intro k m h1 h2 h3 h4 h5
  obtain ⟨k, rfl⟩ : ∃ m, k = m + 1 := ⟨k - 1, by omega⟩
  have e : Int.tmod (m.length : Int) 64 = ((m.length % 64 : Nat) : Int) := by rw [Int.tmod_eq_emod_of_nonneg (by omega)]; omega
  refine .inr ⟨by rw [e]; omega, ?_⟩
  simpa using h5
 | succ z ih =>
  intro k m h1 h2 h3 h4 h5
  obtain ⟨k, rfl⟩ : ∃ m, k = m + 1 := ⟨k - 1, by omega⟩
  have e : Int.tmod (m.length : Int) 64 = ((m.length % 64 : Nat) : Int) := by rw [Int.tmod_eq_emod_of_nonneg (by omega)]; omega
  refine .inl ⟨by rw [e]; omega, _, rfl, by simp; omega, ih k _ (by simp; omega) (by omega) (by omega) (by simp; omega) ?_⟩
  rw [List.append_assoc]
  exact h5
theorem rof_rel (l : List Int) (hb : Byt l) (hl : l.length ≤ 1000000) : reliquaryref02_Of.rel l (sumf l) := by
 have hz : zs l.length < 64 := by unfold zs; omega
 have hf := zs_fits l.length
 refine ⟨l, rfl, by omega, _, rfl, by simp; omega, zs l.length + 1, rof_L1 l _ (zs l.length) (zs l.length + 1) _ (by simpa using hf) hz (by omega) (by simp; omega) ⟨9, ?_⟩⟩
 have H := rof_L2 l hb hl _ rfl 8 9 0 (by omega) (by omega)
 simpa [tl8] using H
theorem outb_byt (s : List Int) (j : Nat) : 0 ≤ outb s j ∧ outb s j < 256 := by unfold outb; rw [IntKind.wrap_u8]; omega
theorem sumf_byt (l : List Int) : Byt (sumf l) := fun x hx => by
 unfold sumf out32 at hx
 obtain ⟨j, _, rfl⟩ := List.mem_map.1 hx
 exact outb_byt _ _
theorem pieces_rel (ls : List (List Int)) (hb : Byt ls.flatten) (h : ls.flatten.length ≤ 1000000) (hl : ls.length ≤ 1000000) : digest_Pieces.rel ls (sumf ls.flatten) :=
 ⟨_, concat_rel ls h hl, _, of_rel _ hb h, rfl⟩
end Go.Proofs.YtmhcjafkdmcgoaaDoor
