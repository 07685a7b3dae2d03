/- The cipher's laws: plain Lean. -/
import Derived.Test.YtfbcokceambghaaDoorPlCi
namespace Go.Proofs.YtfbcokceambghaaDoor
open Go Go.Kr Go.RowKit
set_option linter.unusedVariables false
set_option linter.unusedSimpArgs false

theorem u8_xor_twice {x y : Int} (hx : 0 ≤ x ∧ x < 256) (hy : 0 ≤ y ∧ y < 256) : bits .xor .u8 (bits .xor .u8 x y) y = x := by
  have hr := u8_xor_range hx hy
  rw [u8_xor _ y hr.1 (by omega) hy.1 (by omega), u8_xor x y hx.1 (by omega) hy.1 (by omega), Int.toNat_natCast, Nat.xor_assoc, Nat.xor_self, Nat.xor_zero]
  omega
theorem u8_xor_nought {y : Int} (hy : 0 ≤ y ∧ y < 256) : bits .xor .u8 0 y = y := by
  rw [u8_xor 0 y (by omega) (by omega) hy.1 (by omega)]
  simp; omega
theorem cryptl_twice (key : List Int) (ctr : Int) (nonce : List Int) {l : List Int} (hb : Byt l) : cryptl key ctr nonce (cryptl key ctr nonce l) = l := by
  refine ext_gn (by rw [cryptl_length, cryptl_length]) fun p hp => ?_
  rw [cryptl_length, cryptl_length] at hp
  rw [gn_cryptl _ _ _ _ (by rw [cryptl_length]; exact hp)]
  unfold cb
  rw [gn_cryptl _ _ _ _ hp]
  exact u8_xor_twice (hb.gn p) ((blockf_byt _ _ _).gn _)
theorem strOf_append (a b : List Int) : strOfNums a ++ strOfNums b = strOfNums (a ++ b) := by
  apply ByteArray.ext
  simp [strOfNums, ByteArray.data_append]
theorem cryptl_parts (key : List Int) (ctr : Int) (nonce l : List Int) (n : Nat) (h : 64 * n ≤ l.length) :
    cryptl key ctr nonce (prt l 0 ((64 * n : Nat) : Int)) ++ cryptl key (IntKind.u32.wrap (ctr + (n : Int))) nonce (prt l ((64 * n : Nat) : Int) (l.length : Int)) = cryptl key ctr nonce l := by
  have l1 : (prt l 0 ((64 * n : Nat) : Int)).length = 64 * n := by rw [prt_length (by omega) (by omega) (by omega)]; omega
  have l2 : (prt l ((64 * n : Nat) : Int) (l.length : Int)).length = l.length - 64 * n := by rw [prt_length (by omega) (by omega) (by omega)]; omega
  refine ext_gn (by rw [List.length_append, cryptl_length, cryptl_length, cryptl_length, l1, l2]; omega) fun p hp => ?_
  rw [List.length_append, cryptl_length, cryptl_length, l1, l2] at hp
  rw [gn_app, cryptl_length, l1, gn_cryptl _ _ _ l (by omega)]
  by_cases c : p < 64 * n
  · rw [if_pos c, gn_cryptl _ _ _ _ (by rw [l1]; exact c)]
    unfold cb
    rw [gn_prt (by omega) (by omega) (by omega)]
    simp
  · rw [if_neg c, gn_cryptl _ _ _ _ (by rw [l2]; omega)]
    unfold cb
    rw [gn_prt (by omega) (by omega) (by omega)]
    have e1 : IntKind.u32.wrap (IntKind.u32.wrap (ctr + (n : Int)) + (((p - 64 * n) / 64 : Nat) : Int)) = IntKind.u32.wrap (ctr + ((p / 64 : Nat) : Int)) := by
      simp only [IntKind.wrap_u32]; omega
    rw [e1, Int.toNat_natCast, show 64 * n + (p - 64 * n) = p by omega, show (p - 64 * n) % 64 = p % 64 by omega]
theorem noncef_inj {p v p' v' : Int} (hp : 0 ≤ p ∧ p < 4294967296) (hv : 0 ≤ v ∧ v < 18446744073709551616) (hp' : 0 ≤ p' ∧ p' < 4294967296) (hv' : 0 ≤ v' ∧ v' < 18446744073709551616) (h : noncef p v = noncef p' v') : p = p' ∧ v = v' := by
  have g4 : ∀ (p v : Int) (j : Nat), j < 4 → gn (noncef p v) (0 + j) = pb p j := fun p v j hj => by
    rw [Nat.zero_add, noncef, gn_app, putf_length, if_pos hj, gn_putf p hj]
  have g8 : ∀ (p v : Int) (j : Nat), j < 8 → gn (noncef p v) (4 + j) = pb v j := fun p v j hj => by
    rw [noncef, gn_app, putf_length, if_neg (by omega), show 4 + j - 4 = j by omega, gn_putf v hj]
  have a1 := getn_putf p hp.1 (noncef p v) 0 4 (g4 p v)
  have a2 := getn_putf p' hp'.1 (noncef p' v') 0 4 (g4 p' v')
  have b1 := getn_putf v hv.1 (noncef p v) 4 8 (g8 p v)
  have b2 := getn_putf v' hv'.1 (noncef p' v') 4 8 (g8 p' v')
  rw [h] at a1 b1
  have a3 := a1.symm.trans a2
  have b3 := b1.symm.trans b2
  omega
theorem rnonce_L2 (m c : List Int) (hm : m.length = 12) (hc : c.length = 8) (r : List Int) (hr : r.length = 12) (h0 : ∀ j, j < 4 → gn m j = gn r j) (h1 : ∀ j, j < 8 → gn c j = gn r (4 + j)) : ∀ (d k i : Nat) (n : List Int), i + d = 8 → d < k → n.length = 12 →
    (∀ j, j < 4 + i → gn n j = gn r j) → reliquaryref04_Nonce.L2 r c k n i := by
  intro d
  induction d with
  | zero =>
    intro k i n h2 h3 hn hj
    obtain ⟨k, rfl⟩ : ∃ m, k = m + 1 := ⟨k - 1, by omega⟩
    exact .inr ⟨by omega, ext_gn (by omega) fun j hh => (hj j (by omega)).symm⟩
  | succ d ih =>
    intro k i n h2 h3 hn hj
    obtain ⟨k, rfl⟩ : ∃ m, k = m + 1 := ⟨k - 1, by omega⟩
    have e : IntKind.i64.wrap (4 + (i : Int)) = ((4 + i : Nat) : Int) := by rw [w64 (by omega) (by omega)]; omega
    unfold reliquaryref04_Nonce.L2
    rw [e, Int.toNat_natCast, Int.toNat_natCast]
    refine .inl ⟨by omega, ⟨by omega, by omega⟩, ⟨by omega, by omega⟩, _, rfl, ?_⟩
    rw [w64 (by omega) (by omega)]
    refine ih k (i + 1) _ (by omega) (by omega) (by simpa using hn) fun j hh => ?_
    rw [gn_set (by omega)]
    split
    · rename_i ej; subst ej; exact h1 i (by omega)
    · exact hj j (by omega)
theorem rnonce_L1 (p c : List Int) (hp : p.length = 4) (hc : c.length = 8) (r : List Int) (hr : r.length = 12) (h0 : ∀ j, j < 4 → gn p j = gn r j) (h1 : ∀ j, j < 8 → gn c j = gn r (4 + j)) : ∀ (d k i : Nat) (n : List Int), i + d = 4 → d < k → n.length = 12 →
    (∀ j, j < i → gn n j = gn r j) → reliquaryref04_Nonce.L1 r p c k n i := by
  intro d
  induction d with
  | zero =>
    intro k i n h2 h3 hn hj
    obtain ⟨k, rfl⟩ : ∃ m, k = m + 1 := ⟨k - 1, by omega⟩
    exact .inr ⟨by omega, 9, rnonce_L2 n c hn hc r hr (fun j h => hj j (by omega)) h1 8 9 0 n (by omega) (by omega) hn (fun j h => hj j (by omega))⟩
  | succ d ih =>
    intro k i n h2 h3 hn hj
    obtain ⟨k, rfl⟩ : ∃ m, k = m + 1 := ⟨k - 1, by omega⟩
    unfold reliquaryref04_Nonce.L1
    rw [Int.toNat_natCast]
    refine .inl ⟨by omega, ⟨by omega, by omega⟩, ⟨by omega, by omega⟩, _, rfl, ?_⟩
    rw [w64 (by omega) (by omega)]
    refine ih k (i + 1) _ (by omega) (by omega) (by simpa using hn) fun j hh => ?_
    rw [gn_set (by omega)]
    split
    · rename_i ej; subst ej; exact h0 j (by omega)
    · exact hj j (by omega)
theorem rnonce_rel (p v : Int) (hp : 0 ≤ p ∧ p < 4294967296) (hv : 0 ≤ v ∧ v < 18446744073709551616) : reliquaryref04_Nonce.rel p v (noncef p v) := by
  have h4 := rput_rel p ⟨hp.1, by omega⟩ 4 (by omega)
  refine ⟨putf p 4, ?_, _, rput_rel v hv 8 (by omega), 5, ?_⟩
  · rw [wu64 hp.1 (by omega)]; exact h4
  · refine rnonce_L1 _ _ (putf_length p 4) (putf_length v 8) _ (noncef_length p v) (fun j hj => ?_) (fun j hj => ?_) 4 5 0 _ (by omega) (by omega) (by simp) (fun j h => by omega)
    · rw [noncef, gn_app, putf_length, if_pos hj]
    · rw [noncef, gn_app, putf_length, if_neg (by omega), show 4 + j - 4 = j by omega]

/-! ### The laws -/
def Z32 : List Int := List.replicate 32 0
def Z12 : List Int := List.replicate 12 0
theorem aw_fin : gn (blockf Z32 0 Z12) 0 = 118 ∧ gn (blockf Z32 0 Z12) 1 = 184 := by decide +kernel
theorem cryptf_in {key : List Int} {ctr : Int} {nonce l : List Int} (h : ¬ ctr + nblk l > 4294967296) : cryptf key ctr nonce l = (cryptl key ctr nonce l, 0) := by unfold cryptf; rw [if_neg h]
theorem nblk_le {l : List Int} {n : Nat} (h : l.length ≤ 64 * n) : (nblk l : Int) ≤ n := by unfold nblk; omega
theorem b123 : Byt [1, 2, 3] := by
  have : ∀ x ∈ [(1 : Int), 2, 3], 0 ≤ x ∧ x < 256 := by decide
  exact this
theorem awake04 : reliquarylaw04_awake.rel := by
  have hN := noncef_byt 1 2
  have hNl := noncef_length 1 2
  have z32 : Byt (List.replicate 32 0) := rep_byt 32
  have z12 : Byt (List.replicate 12 0) := rep_byt 12
  have c1 : cryptf Z32 0 (noncef 1 2) [1, 2, 3] = (cryptl Z32 0 (noncef 1 2) [1, 2, 3], 0) := cryptf_in (by have := nblk_le (l := [1, 2, 3]) (n := 1) (by simp); omega)
  have hl : (cryptl Z32 0 (noncef 1 2) [1, 2, 3]).length = 3 := by rw [cryptl_length]; rfl
  have c2 : cryptf Z32 0 (noncef 1 2) (cryptl Z32 0 (noncef 1 2) [1, 2, 3]) = ([1, 2, 3], 0) := by
    rw [cryptf_in (by have := nblk_le (l := cryptl Z32 0 (noncef 1 2) [1, 2, 3]) (n := 1) (by omega); omega), cryptl_twice _ _ _ b123]
  have r1 := crypt_rel Z32 0 (noncef 1 2) [1, 2, 3] z32 (by simp [Z32]) hN hNl (by omega) (by simp)
  have r2 := crypt_rel Z32 0 (noncef 1 2) (cryptl Z32 0 (noncef 1 2) [1, 2, 3]) z32 (by simp [Z32]) hN hNl (by omega) (by omega)
  rw [c1] at r1
  rw [c2] at r2
  refine ⟨_, nonce_rel 1 2 (by omega), _, rfl, _, _, r1, _, rfl, _, _, r2, _, rfl, _, rfl, _, block_rel Z32 0 Z12 z32 (by simp [Z32]) z12 (by simp [Z12]), by decide +kernel, by decide +kernel, rfl, rfl, by rw [hl]; rfl, ?_, aw_fin.1, aw_fin.2⟩
  decide +kernel
theorem cipherBlocks_pure (key : List Int) (ctr : Int) (nonce : List Int) (hb : Byt key) (hl : key.length = 32) (hc : 0 ≤ ctr ∧ ctr < 4294967296) (hn : Byt nonce) (hnl : nonce.length = 12) : reliquarylaw04_CipherBlocks.rel key ctr nonce :=
  ⟨awake04, _, block_rel key ctr nonce hb hl hn hnl, blockf_length _ _ _, _, rblock_rel key ctr nonce hb hl hn hnl, blockf_length _ _ _, rfl⟩
theorem cipherCrypts_pure (key : List Int) (ctr p v : Int) (l : List Int) (hb : Byt key) (hl : key.length = 32) (hc : 0 ≤ ctr ∧ ctr < 4294967296) (hp : 0 ≤ p ∧ p < 4294967296) (hv : 0 ≤ v ∧ v < 18446744073709551616) (hlb : Byt l) : reliquarylaw04_CipherCrypts.rel key ctr p v l := by
  refine ⟨awake04, ?_⟩
  by_cases c : (l.length : Int) > 1000
  · exact .inl ⟨c, trivial⟩
  · exact .inr ⟨c, _, nonce_rel p v hp, _, _, crypt_rel key ctr _ l hb hl (noncef_byt p v) (noncef_length p v) hc (by omega), _, _, rcrypt_rel key ctr _ l hb hl (noncef_byt p v) (noncef_length p v) hc (by omega), _, rnonce_rel p v hp hv, noncef_length p v, rfl, rfl, rfl⟩
theorem cipherTwice_pure (key nonce l : List Int) (a : Int) (hb : Byt key) (hl : key.length = 32) (hn : Byt nonce) (hnl : nonce.length = 12) (hlb : Byt l) (ha : 0 ≤ a ∧ a < 256) : reliquarylaw04_CipherTwice.rel key nonce l a := by
  refine ⟨awake04, ?_⟩
  by_cases c : (l.length : Int) > 1000
  · exact .inl ⟨c, trivial⟩
  obtain ⟨n, hn16, en⟩ : ∃ n : Nat, n < 16 ∧ IntKind.i64.wrap (Int.tmod a 16) = (n : Int) := by
    refine ⟨(a % 16).toNat, by omega, ?_⟩
    rw [Int.tmod_eq_emod_of_nonneg ha.1, w64 (by omega) (by omega)]; omega
  have e1 : IntKind.i64.wrap (64 * (n : Int)) = ((64 * n : Nat) : Int) := by rw [w64 (by omega) (by omega)]; omega
  have hlen := cryptl_length key 5 nonce l
  have f1 : ∀ m : List Int, m.length ≤ 1000 → cryptf key 5 nonce m = (cryptl key 5 nonce m, 0) := fun m hm => cryptf_in (by have := nblk_le (l := m) (n := 16) (by omega); omega)
  have r1 := crypt_rel key 5 nonce l hb hl hn hnl (by omega) (by omega)
  have r2 := crypt_rel key 5 nonce (cryptl key 5 nonce l) hb hl hn hnl (by omega) (by omega)
  rw [f1 _ (by omega)] at r1
  rw [f1 _ (by omega), cryptl_twice _ _ _ hlb] at r2
  refine .inr ⟨c, _, _, r1, _, _, r2, by simp, by simp, by simp, by simp, ?_⟩
  rw [en, e1]
  by_cases c2 : ((64 * n : Nat) : Int) > (l.length : Int)
  · exact .inl ⟨c2, trivial⟩
  have l1 : (prt l 0 ((64 * n : Nat) : Int)).length = 64 * n := by rw [prt_length (by omega) (by omega) (by omega)]; omega
  have l2 : (prt l ((64 * n : Nat) : Int) (l.length : Int)).length = l.length - 64 * n := by rw [prt_length (by omega) (by omega) (by omega)]; omega
  have r3 := crypt_rel key 5 nonce (prt l 0 ((64 * n : Nat) : Int)) hb hl hn hnl (by omega) (by omega)
  rw [f1 _ (by omega)] at r3
  have e5 : IntKind.u32.wrap (5 + IntKind.u32.wrap (n : Int)) = 5 + (n : Int) := by rw [wu32 (x := (n : Int)) (by omega) (by omega), wu32 (by omega) (by omega)]
  have e6 : IntKind.u32.wrap (5 + (n : Int)) = 5 + (n : Int) := wu32 (by omega) (by omega)
  have r4 := crypt_rel key (5 + (n : Int)) nonce (prt l ((64 * n : Nat) : Int) (l.length : Int)) hb hl hn hnl (by omega) (by omega)
  rw [cryptf_in (by have := nblk_le (l := prt l ((64 * n : Nat) : Int) (l.length : Int)) (n := 16) (by omega); omega)] at r4
  refine .inr ⟨c2, ⟨by omega, by omega, by omega⟩, _, _, r3, _, rfl, ⟨by omega, by omega, by omega⟩, ?_⟩
  rw [e5]
  refine ⟨_, _, r4, rfl, rfl, by rw [size_strOf, size_strOf, cryptl_length, cryptl_length, l1, l2]; omega, ?_⟩
  have hp := cryptl_parts key 5 nonce l n (by omega)
  rw [e6] at hp
  rw [strOf_append, hp]
theorem cipherNonces_pure (p v p' v' : Int) (hp : 0 ≤ p ∧ p < 4294967296) (hv : 0 ≤ v ∧ v < 18446744073709551616) (hp' : 0 ≤ p' ∧ p' < 4294967296) (hv' : 0 ≤ v' ∧ v' < 18446744073709551616) : reliquarylaw04_CipherNonces.rel p v p' v' := by
  refine ⟨awake04, _, nonce_rel p v hp, _, nonce_rel p' v' hp', ?_⟩
  by_cases c : p = p'
  · subst c
    refine .inl ⟨rfl, ?_⟩
    rw [Bool.eq_iff_iff]
    simp only [beq_iff_eq]
    exact ⟨fun h => (noncef_inj hp hv hp hv' h).2, fun h => by rw [h]⟩
  · refine .inr ⟨c, ?_⟩
    rw [beq_eq_false_iff_ne]
    exact fun h => c (noncef_inj hp hv hp' hv' h).1
theorem noughts_L2 (key : List Int) (c : Int) (nonce : List Int) (a3 : Int) (n : Nat) (hn : n < 400) (en : IntKind.i64.wrap (Int.tmod a3 400) = (n : Int)) (q : Nat) (K : Bool → Int → Prop) (hK : K false ((64 * (q + 1) : Nat) : Int)) (hq : 64 * q < n) : ∀ (d k i : Nat), i + d = 64 → d < k →
    reliquarylaw04_CipherNoughts.L2 a3 (cryptl key c nonce (List.replicate n 0)) ((64 * q : Nat) : Int) (blockf key (IntKind.u32.wrap (c + (q : Int))) nonce) K k false i := by
  have ek : IntKind.i64.wrap (((64 * q : Nat) : Int) + 64) = ((64 * (q + 1) : Nat) : Int) := by rw [w64 (by omega) (by omega)]; omega
  intro d
  induction d with
  | zero =>
    intro k i h1 h2
    obtain ⟨k, rfl⟩ : ∃ m, k = m + 1 := ⟨k - 1, by omega⟩
    refine .inr ⟨by omega, ?_⟩
    rw [ek]; exact hK
  | succ d ih =>
    intro k i h1 h2
    obtain ⟨k, rfl⟩ : ∃ m, k = m + 1 := ⟨k - 1, by omega⟩
    have e : IntKind.i64.wrap (((64 * q : Nat) : Int) + (i : Int)) = ((64 * q + i : Nat) : Int) := by rw [w64 (by omega) (by omega)]; omega
    unfold reliquarylaw04_CipherNoughts.L2
    rw [e, en, ek, cryptl_length, List.length_replicate, Int.toNat_natCast, Int.toNat_natCast]
    refine .inl ⟨by omega, ?_⟩
    by_cases c1 : ((64 * q + i : Nat) : Int) < (n : Int)
    · refine .inl ⟨c1, ⟨by omega, by omega⟩, ⟨by omega, by omega⟩, ?_, ?_⟩
      · rw [gn_cryptl _ _ _ _ (by rw [List.length_replicate]; omega)]
        unfold cb
        rw [gn_rep, show (64 * q + i) / 64 = q by omega, show (64 * q + i) % 64 = i by omega, u8_xor_nought ((blockf_byt _ _ _).gn _)]
        simp
      · rw [w64 (by omega) (by omega)]
        exact ih k (i + 1) (by omega) (by omega)
    · exact .inr ⟨c1, hK⟩
theorem noughts_L1 (key : List Int) (a1 : Int) (nonce : List Int) (a3 : Int) (hb : Byt key) (hl : key.length = 32) (hnb : Byt nonce) (hnl : nonce.length = 12) (n : Nat) (hn : n < 400) (en : IntKind.i64.wrap (Int.tmod a3 400) = (n : Int)) : ∀ (d k q : Nat), q + d = 7 → d < k →
    reliquarylaw04_CipherNoughts.L1 key a1 nonce a3 (cryptl key (bits .and .u32 a1 16777215) nonce (List.replicate n 0)) k false ((64 * q : Nat) : Int) := by
  intro d
  induction d with
  | zero =>
    intro k q h1 h2
    obtain ⟨k, rfl⟩ : ∃ m, k = m + 1 := ⟨k - 1, by omega⟩
    unfold reliquarylaw04_CipherNoughts.L1
    rw [en]
    exact .inr ⟨by omega, trivial⟩
  | succ d ih =>
    intro k q h1 h2
    obtain ⟨k, rfl⟩ : ∃ m, k = m + 1 := ⟨k - 1, by omega⟩
    have e : IntKind.u32.wrap (IntKind.i64.wrap (Int.tdiv ((64 * q : Nat) : Int) 64)) = (q : Int) := by
      rw [Int.tdiv_eq_ediv_of_nonneg (by omega), w64 (by omega) (by omega), wu32 (by omega) (by omega)]; omega
    unfold reliquarylaw04_CipherNoughts.L1
    rw [en, e]
    by_cases c1 : ((64 * q : Nat) : Int) < (n : Int)
    · refine .inl ⟨c1, _, rfl, _, rblock_rel key _ nonce hb hl hnb hnl, 65, ?_⟩
      exact noughts_L2 key _ nonce a3 n hn en q _ (ih k (q + 1) (by omega) (by omega)) (by omega) 64 65 0 (by omega) (by omega)
    · exact .inr ⟨c1, trivial⟩
theorem and24 {a : Int} (h : 0 ≤ a ∧ a < 4294967296) : 0 ≤ bits .and .u32 a 16777215 ∧ bits .and .u32 a 16777215 ≤ 16777215 := by
  rw [u32_and _ _ (by omega) (by omega) (by omega) (by omega)]
  have : a.toNat &&& (16777215 : Int).toNat ≤ (16777215 : Int).toNat := Nat.and_le_right
  omega
theorem cipherNoughts_pure (key : List Int) (a1 : Int) (nonce : List Int) (a3 : Int) (hb : Byt key) (hl : key.length = 32) (ha : 0 ≤ a1 ∧ a1 < 4294967296) (hnb : Byt nonce) (hnl : nonce.length = 12) (h3 : 0 ≤ a3 ∧ a3 < 65536) : reliquarylaw04_CipherNoughts.rel key a1 nonce a3 := by
  refine ⟨awake04, ?_⟩
  obtain ⟨n, hn, en⟩ : ∃ n : Nat, n < 400 ∧ IntKind.i64.wrap (Int.tmod a3 400) = (n : Int) := by
    refine ⟨(a3 % 400).toNat, by omega, ?_⟩
    rw [Int.tmod_eq_emod_of_nonneg h3.1, w64 (by omega) (by omega)]; omega
  have hc := and24 ha
  have r := crypt_rel key (bits .and .u32 a1 16777215) nonce (List.replicate n 0) hb hl hnb hnl ⟨hc.1, by omega⟩ (by rw [List.length_replicate]; omega)
  rw [cryptf_in (by have := nblk_le (l := List.replicate n (0 : Int)) (n := 7) (by rw [List.length_replicate]; omega); omega)] at r
  have H := noughts_L1 key a1 nonce a3 hb hl hnb hnl n hn en 7 8 0 (by omega) (by omega)
  rw [en, Int.toNat_natCast]
  exact ⟨⟨by omega, by omega⟩, _, _, r, by simp, by rw [cryptl_length, List.length_replicate]; omega, _, H⟩
theorem cipherEnds_pure (key : List Int) (a b : Int) (hb : Byt key) (hl : key.length = 32) (ha : 0 ≤ a ∧ a < 256) (hB : 0 ≤ b ∧ b < 65536) : reliquarylaw04_CipherEnds.rel key a b := by
  refine ⟨awake04, ?_⟩
  obtain ⟨n, hn, en⟩ : ∃ n : Nat, n < 5 ∧ Int.tmod a 5 = (n : Int) := ⟨(a % 5).toNat, by omega, by rw [Int.tmod_eq_emod_of_nonneg ha.1]; omega⟩
  obtain ⟨m, hm, em⟩ : ∃ n : Nat, n < 500 ∧ IntKind.i64.wrap (Int.tmod b 500) = (n : Int) := by
    refine ⟨(b % 500).toNat, by omega, ?_⟩
    rw [Int.tmod_eq_emod_of_nonneg hB.1, w64 (by omega) (by omega)]; omega
  have e1 : IntKind.u64.wrap (4294967295 - IntKind.u64.wrap (n : Int)) = 4294967295 - (n : Int) := by rw [wu64 (x := (n : Int)) (by omega) (by omega), wu64 (by omega) (by omega)]
  have e2 : IntKind.u32.wrap (4294967295 - (n : Int)) = 4294967295 - (n : Int) := wu32 (by omega) (by omega)
  have e3 : IntKind.i64.wrap (64 * IntKind.i64.wrap (IntKind.i64.wrap (n : Int) + 1)) = ((64 * (n + 1) : Nat) : Int) := by
    rw [w64 (x := (n : Int)) (by omega) (by omega), w64 (x := (n : Int) + 1) (by omega) (by omega), w64 (by omega) (by omega)]; omega
  have r := crypt_rel key (4294967295 - (n : Int)) (List.replicate 12 0) (List.replicate m 0) hb hl (rep_byt 12) (by simp) ⟨by omega, by omega⟩ (by rw [List.length_replicate]; omega)
  refine ⟨_, rfl, _, rfl, ?_⟩
  rw [en, em, e1, e2, Int.toNat_natCast]
  refine ⟨⟨by omega, by omega⟩, _, _, r, _, rfl, ?_⟩
  rw [e3]
  unfold cryptf
  have hk : (nblk (List.replicate m (0 : Int)) : Int) = ((m + 63) / 64 : Nat) := by unfold nblk; rw [List.length_replicate]
  by_cases c : (m : Int) ≤ ((64 * (n + 1) : Nat) : Int)
  · rw [if_neg (by omega)]
    exact .inl ⟨c, rfl, by rw [cryptl_length, List.length_replicate], trivial⟩
  · rw [if_pos (by omega)]
    exact .inr ⟨c, rfl, rfl⟩
end Go.Proofs.YtfbcokceambghaaDoor
