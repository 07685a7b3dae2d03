/- Words of other texts, picked for this seat (wip/gen/pick.py: PlSe). -/
import Derived.Test.YtmhcjafkdmcgoaaDoorPlCi
import Derived.Test.YtmhcjafkdmcgoaaDoorPlSh
namespace Go.Proofs.YtmhcjafkdmcgoaaDoor
open Go Go.Kr Go.RowKit
set_option linter.unusedVariables false
set_option linter.unusedSimpArgs false
theorem se_cryptf {key nonce l : List Int} (h : l.length ≤ 100000) : cryptf key 0 nonce l = (cryptl key 0 nonce l, 0) := by
  unfold cryptf
  rw [if_neg]
  unfold nblk; omega
def sealb (key : List Int) (p v : Int) (l : List Int) : List Int := putf v 8 ++ cryptl key 0 (noncef p v) l ++ List.replicate (184 - l.length) 0
def sealf (key : List Int) (p v : Int) (l : List Int) : List Int × Int := if ¬ (l.length = 160 ∨ l.length = 176) ∨ v = 0 then ([], 1) else if v = 18446744073709551615 then ([], 15) else (sealb key p v l, 0)
theorem sealb_length (key : List Int) (p v : Int) {l : List Int} (h : l.length ≤ 184) : (sealb key p v l).length = 192 := by
  rw [sealb, List.length_append, List.length_append, putf_length, cryptl_length, List.length_replicate]; omega
theorem sealb_byt (key : List Int) (p v : Int) {l : List Int} (hb : Byt l) : Byt (sealb key p v l) := ((putf_byt v 8).append (cryptl_byt _ _ _ hb)).append (rep_byt _)
theorem ssize_rel (n : Int) : seal_size.rel n (decide (n = 160 ∨ n = 176)) := by
  by_cases h : n = 160
  · exact .inl ⟨h, by simp [h]⟩
  · refine .inr ⟨h, ?_⟩
    by_cases h2 : n = 176 <;> simp [h, h2]
theorem pad_rel (l : List Int) (h : l.length ≤ 192) : word_Pad.rel l 192 (l ++ List.replicate (192 - l.length) 0) := by
  refine .inr ⟨by omega, ⟨by omega, by omega⟩, _, rfl, ?_⟩
  refine ext_gn (by rw [List.length_append, List.length_replicate, cpy_length (Nat.le_of_eq (Nat.zero_add _)), List.length_replicate]; omega) fun j hj => ?_
  rw [gn_cpy_at (Nat.le_of_eq (Nat.zero_add _)) (by rw [List.length_replicate]; omega), gn_app]
  by_cases c : j < l.length
  · rw [if_pos c, if_pos (by omega), Nat.sub_zero]
  · rw [if_neg c, if_neg (by omega), gn_rep, gn_rep]
theorem seal_rel (key : List Int) (p v : Int) (l : List Int) (hb : Byt key) (hl : key.length = 32) (hp : 0 ≤ p ∧ p < 4294967296) (hv : 0 ≤ v ∧ v < 18446744073709551616) (hs : l.length ≤ 100000) :
    seal_Seal.rel key p v l (sealf key p v l).1 (sealf key p v l).2 := by
  refine ⟨_, ssize_rel _, ?_⟩
  unfold sealf
  by_cases c1 : ¬ (l.length = 160 ∨ l.length = 176)
  · rw [if_pos (.inl c1)]
    exact .inl ⟨by simp; omega, rfl, rfl⟩
  refine .inr ⟨by simp; omega, ?_⟩
  by_cases c2 : v = 0
  · rw [if_pos (.inr c2)]
    exact .inl ⟨c2, rfl, rfl⟩
  rw [if_neg (by omega)]
  refine .inr ⟨c2, ?_⟩
  by_cases c3 : v = 18446744073709551615
  · rw [if_pos c3]
    exact .inl ⟨c3, rfl, rfl⟩
  rw [if_neg c3]
  have hc := crypt_rel key 0 (noncef p v) l hb hl (noncef_byt p v) (noncef_length p v) (by omega) hs
  rw [se_cryptf hs] at hc
  have f : [putf v 8, cryptl key 0 (noncef p v) l].flatten = putf v 8 ++ cryptl key 0 (noncef p v) l := by simp
  have fl : (putf v 8 ++ cryptl key 0 (noncef p v) l).length = 8 + l.length := by rw [List.length_append, putf_length, cryptl_length]
  have hcc := concat_rel [putf v 8, cryptl key 0 (noncef p v) l] (by rw [f, fl]; omega) (by simp)
  rw [f] at hcc
  have hpd := pad_rel (putf v 8 ++ cryptl key 0 (noncef p v) l) (by rw [fl]; omega)
  refine .inr ⟨c3, _, nonce_rel p v hp, _, _, hc, .inr ⟨by simp, _, put_rel v 8 (by omega) (by omega), _, hcc, _, hpd, ?_, rfl⟩⟩
  rw [fl, show 192 - (8 + l.length) = 184 - l.length by omega]; rfl
end Go.Proofs.YtmhcjafkdmcgoaaDoor
