/- Words of other texts, picked for this seat (wip/gen/pick.py: PlSe). -/
import Derived.Test.YtmhcjafkdmcgoaaDoorPlCi
import Derived.Test.YtmhcjafkdmcgoaaDoorPlSh
namespace Go.Proofs.YtmhcjafkdmcgoaaDoor
open Go Go.Kr Go.RowKit
set_option linter.unusedVariables false
set_option linter.unusedSimpArgs false
theorem se_cryptf {key nonce l : List Int} (h : l.length ≤ 100000) : cryptf key 0 nonce l = (cryptl key 0 nonce l, 0) := by
 unfold cryptf
 rw [if_neg]
 unfold nblk; omega
theorem se_rnonce_L2 (c r : List Int) (hc : c.length = 8) (hr : r.length = 12) (h1 : ∀ j, j < 8 → gn c j = gn r (4 + j)) : ∀ (d k i : Nat) (n : List Int), i + d = 8 → d < k → n.length = 12 →
  (∀ j, j < 4 + i → gn n j = gn r j) → reliquaryref04_Nonce.L2 r c k n i := by
 intro d
 induction d with
 | zero =>
  intro k i n h2 h3 hn hj
  obtain ⟨k, rfl⟩ : ∃ m, k = m + 1 := ⟨k - 1, by omega⟩
  exact .inr ⟨by omega, ext_gn (by omega) fun j hh => (hj j (by omega)).symm⟩
 | succ d ih =>
  intro k i n h2 h3 hn hj
  obtain ⟨k, rfl⟩ : ∃ m, k = m + 1 := ⟨k - 1, by omega⟩
  have e : IntKind.i64.wrap (4 + (i : Int)) = ((4 + i : Nat) : Int) := by rw [w64 (by omega) (by omega)]; omega
  unfold reliquaryref04_Nonce.L2
  rw [e, Int.toNat_natCast, Int.toNat_natCast]
  refine .inl ⟨by omega, ⟨by omega, by omega⟩, ⟨by omega, by omega⟩, _, rfl, ?_⟩
  rw [w64 (by omega) (by omega)]
  refine ih k (i + 1) _ (by omega) (by omega) (by simpa using hn) fun j hh => ?_
  rw [gn_set (by omega)]
  split
  ·rename_i ej; subst ej; exact h1 i (by omega)
  exact hj j (by omega)
theorem se_rnonce_L1 (p c r : List Int) (hp : p.length = 4) (hc : c.length = 8) (hr : r.length = 12) (h0 : ∀ j, j < 4 → gn p j = gn r j) (h1 : ∀ j, j < 8 → gn c j = gn r (4 + j)) : ∀ (d k i : Nat) (n : List Int), i + d = 4 → d < k → n.length = 12 →
  (∀ j, j < i → gn n j = gn r j) → reliquaryref04_Nonce.L1 r p c k n i := by
 intro d
 induction d with
 | zero =>
  intro k i n h2 h3 hn hj
  obtain ⟨k, rfl⟩ : ∃ m, k = m + 1 := ⟨k - 1, by omega⟩
  exact .inr ⟨by omega, 9, se_rnonce_L2 c r hc hr h1 8 9 0 n (by omega) (by omega) hn (fun j h => hj j (by omega))⟩
 | succ d ih =>
  intro k i n h2 h3 hn hj
  obtain ⟨k, rfl⟩ : ∃ m, k = m + 1 := ⟨k - 1, by omega⟩
  unfold reliquaryref04_Nonce.L1
  rw [Int.toNat_natCast]
  refine .inl ⟨by omega, ⟨by omega, by omega⟩, ⟨by omega, by omega⟩, _, rfl, ?_⟩
  rw [w64 (by omega) (by omega)]
  refine ih k (i + 1) _ (by omega) (by omega) (by simpa using hn) fun j hh => ?_
  rw [gn_set (by omega)]
  split
  ·rename_i ej; subst ej; exact h0 j (by omega)
  exact hj j (by omega)
theorem se_rnonce (p v : Int) (hp : 0 ≤ p ∧ p < 4294967296) (hv : 0 ≤ v ∧ v < 18446744073709551616) : reliquaryref04_Nonce.rel p v (noncef p v) := by
 have h4 := rput_rel p ⟨hp.1, by omega⟩ 4 (by omega)
 refine ⟨putf p 4, ?_, _, rput_rel v hv 8 (by omega), 5, ?_⟩
 ·rw [wu64 hp.1 (by omega)]; exact h4
 refine se_rnonce_L1 _ _ _ (putf_length p 4) (putf_length v 8) (noncef_length p v) (fun j hj => ?_) (fun j hj => ?_) 4 5 0 _ (by omega) (by omega) (by simp) (fun j h => by omega)
 ·rw [noncef, gn_app, putf_length, if_pos hj]
 rw [noncef, gn_app, putf_length, if_neg (by omega), show 4 + j - 4 = j by omega]
def sealb (key : List Int) (p v : Int) (l : List Int) : List Int := putf v 8 ++ cryptl key 0 (noncef p v) l ++ List.replicate (184 - l.length) 0
def sealf (key : List Int) (p v : Int) (l : List Int) : List Int × Int := if ¬ (l.length = 160 ∨ l.length = 176) ∨ v = 0 then ([], 1) else if v = 18446744073709551615 then ([], 15) else (sealb key p v l, 0)
theorem sealb_length (key : List Int) (p v : Int) {l : List Int} (h : l.length ≤ 184) : (sealb key p v l).length = 192 := by
 rw [sealb, List.length_append, List.length_append, putf_length, cryptl_length, List.length_replicate]; omega
theorem sealb_byt (key : List Int) (p v : Int) {l : List Int} (hb : Byt l) : Byt (sealb key p v l) := ((putf_byt v 8).append (cryptl_byt _ _ _ hb)).append (rep_byt _)
theorem ssize_rel (n : Int) : seal_size.rel n (decide (n = 160 ∨ n = 176)) := by
 by_cases h : n = 160
 ·exact .inl ⟨h, by simp [h]⟩
 refine .inr ⟨h, ?_⟩
 by_cases h2 : n = 176 <;> simp [h, h2]
theorem pad_rel (l : List Int) (h : l.length ≤ 192) : word_Pad.rel l 192 (l ++ List.replicate (192 - l.length) 0) := by
 refine .inr ⟨by omega, ⟨by omega, by omega⟩, _, rfl, ?_⟩
 refine ext_gn (by rw [List.length_append, List.length_replicate, cpy_length (Nat.le_of_eq (Nat.zero_add _)), List.length_replicate]; omega) fun j hj => ?_
 rw [gn_cpy_at (Nat.le_of_eq (Nat.zero_add _)) (by rw [List.length_replicate]; omega), gn_app]
 by_cases c : j < l.length
 ·rw [if_pos c, if_pos (by omega), Nat.sub_zero]
 rw [if_neg c, if_neg (by omega), gn_rep, gn_rep]
theorem seal_rel (key : List Int) (p v : Int) (l : List Int) (hb : Byt key) (hl : key.length = 32) (hp : 0 ≤ p ∧ p < 4294967296) (hv : 0 ≤ v ∧ v < 18446744073709551616) (hs : l.length ≤ 100000) :
  seal_Seal.rel key p v l (sealf key p v l).1 (sealf key p v l).2 := by
 refine ⟨_, ssize_rel _, ?_⟩
 unfold sealf
 by_cases c1 : ¬ (l.length = 160 ∨ l.length = 176)
 ·rw [if_pos (.inl c1)]
  exact .inl ⟨by simp; omega, rfl, rfl⟩
 refine .inr ⟨by simp; omega, ?_⟩
 by_cases c2 : v = 0
 ·rw [if_pos (.inr c2)]
  exact .inl ⟨c2, rfl, rfl⟩
 rw [if_neg (by omega)]
 refine .inr ⟨c2, ?_⟩
 by_cases c3 : v = 18446744073709551615
 ·rw [if_pos c3]
  exact .inl ⟨c3, rfl, rfl⟩
 rw [if_neg c3]
 have hc := crypt_rel key 0 (noncef p v) l hb hl (noncef_byt p v) (noncef_length p v) (by omega) hs
 rw [se_cryptf hs] at hc
 have f : [putf v 8, cryptl key 0 (noncef p v) l].flatten = putf v 8 ++ cryptl key 0 (noncef p v) l := by simp
 have fl : (putf v 8 ++ cryptl key 0 (noncef p v) l).length = 8 + l.length := by rw [List.length_append, putf_length, cryptl_length]
 have hcc := concat_rel [putf v 8, cryptl key 0 (noncef p v) l] (by rw [f, fl]; omega) (by simp)
 rw [f] at hcc
 have hpd := pad_rel (putf v 8 ++ cryptl key 0 (noncef p v) l) (by rw [fl]; omega)
 refine .inr ⟨c3, _, nonce_rel p v hp, _, _, hc, .inr ⟨by simp, _, put_rel v 8 (by omega) (by omega), _, hcc, _, hpd, ?_, rfl⟩⟩
 rw [fl, show 192 - (8 + l.length) = 184 - l.length by omega]; rfl
theorem rseal_L1 (r1 : Int) (l : List Int) (h : l.length ≤ 192) : ∀ (d k : Nat), d ≤ 192 - l.length → d < k → reliquaryref08_Seal.L1 (strOfNums (l ++ List.replicate (192 - l.length) 0)) 0 k (l ++ List.replicate (192 - l.length - d) 0) := by
 intro d
 induction d with
 | zero =>
  intro k h1 h2
  obtain ⟨k, rfl⟩ : ∃ m, k = m + 1 := ⟨k - 1, by omega⟩
  exact .inr ⟨by rw [List.length_append, List.length_replicate]; omega, by rw [Nat.sub_zero], rfl⟩
 | succ d ih =>
  intro k h1 h2
  obtain ⟨k, rfl⟩ : ∃ m, k = m + 1 := ⟨k - 1, by omega⟩
  have H := ih k (by omega) (by omega)
  rw [show 192 - l.length - d = (192 - l.length - (d + 1)) + 1 by omega, List.replicate_succ', ← List.append_assoc] at H
  exact .inl ⟨by rw [List.length_append, List.length_replicate]; omega, _, rfl, by rw [List.length_append, List.length_append, List.length_replicate]; simp; omega, H⟩
theorem rseal_L2 (r0 : ByteArray) (r1 : Int) : ∀ (k : Nat) (l : List Int), reliquaryref08_Seal.L1 r0 r1 k l → reliquaryref08_Seal.L2 r0 r1 k l
  | 0, _, h => h
  | k + 1, l, h => by
    rcases h with ⟨a, m, b, c, d⟩ | h
    · exact .inl ⟨a, m, b, c, rseal_L2 r0 r1 k m d⟩
    · exact .inr h
theorem rseal_rel (key : List Int) (p v : Int) (l : List Int) (hb : Byt key) (hl : key.length = 32) (hp : 0 ≤ p ∧ p < 4294967296) (hv : 0 ≤ v ∧ v < 18446744073709551616) (hlb : Byt l) (hs : l.length ≤ 100000) :
  reliquaryref08_Seal.rel key p v (strOfNums l) (strOfNums (sealf key p v l).1) (sealf key p v l).2 := by
 have hc := rcrypt_rel key 0 (noncef p v) l hb hl (noncef_byt p v) (noncef_length p v) (by omega) hs
 rw [se_cryptf hs] at hc
 have fl : (putf v 8 ++ cryptl key 0 (noncef p v) l).length = 8 + l.length := by rw [List.length_append, putf_length, cryptl_length]
 unfold reliquaryref08_Seal.rel
 rw [size_strOf, bl_strOfNums hlb]
 unfold sealf
 by_cases c1 : ¬ (l.length = 160 ∨ l.length = 176)
 ·rw [if_pos (.inl c1)]
  exact .inl ⟨by omega, .inl ⟨by omega, rfl, rfl⟩⟩
 by_cases c2 : v = 0
 ·rw [if_pos (.inr c2)]
  by_cases c4 : l.length = 160
  ·exact .inr ⟨by omega, .inl ⟨c2, rfl, rfl⟩⟩
  exact .inl ⟨by omega, .inr ⟨by omega, .inl ⟨c2, rfl, rfl⟩⟩⟩
 rw [if_neg (by omega)]
 by_cases c3 : v = 18446744073709551615
 ·rw [if_pos c3]
  by_cases c4 : l.length = 160
  ·exact .inr ⟨by omega, .inr ⟨c2, .inl ⟨c3, rfl, rfl⟩⟩⟩
  exact .inl ⟨by omega, .inr ⟨by omega, .inr ⟨c2, .inl ⟨c3, rfl, rfl⟩⟩⟩⟩
 rw [if_neg c3]
 have H := rseal_L1 0 (putf v 8 ++ cryptl key 0 (noncef p v) l) (by rw [fl]; omega) (192 - (8 + l.length)) 193 (by rw [fl]; omega) (by omega)
 rw [fl, Nat.sub_self, List.replicate_zero, List.append_nil, show 192 - (8 + l.length) = 184 - l.length by omega] at H
 have hput := rput_rel v hv 8 (by omega)
 have hno := se_rnonce p v hp hv
 by_cases c4 : l.length = 160
 ·exact .inr ⟨by omega, .inr ⟨c2, .inr ⟨c3, _, hput, _, hno, _, _, hc, _, rfl, by rw [fl]; omega, 193, rseal_L2 _ _ _ _ H⟩⟩⟩
 exact .inl ⟨by omega, .inr ⟨by omega, .inr ⟨c2, .inr ⟨c3, _, hput, _, hno, _, _, hc, _, rfl, by rw [fl]; omega, 193, H⟩⟩⟩⟩
end Go.Proofs.YtmhcjafkdmcgoaaDoor
