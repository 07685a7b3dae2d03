/- The tree's nodes, and digests of places: plain Lean. -/
import Derived.Test.YtekpnjhacnkgcaaDoorPlSh
import Derived.Test.YtekpnjhacnkgcaaDoorPlWd
import Derived.Test.YtekpnjhacnkgcaaDoorPlEb
namespace Go.Proofs.YtekpnjhacnkgcaaDoor
open Go Go.Kr Go.RowKit
set_option linter.unusedVariables false
set_option linter.unusedSimpArgs false

/-! ### 1. A node's bytes -/
def rf (l : List Int) (a : Int) : List Int := l ++ putf a 8
theorem rf_length {l : List Int} (a : Int) (h : l.length = 32) : (rf l a).length = 40 := by rw [rf, List.length_append, putf_length, h]
theorem rf_byt {l : List Int} (a : Int) (h : Byt l) : Byt (rf l a) := h.append (putf_byt a 8)
def nodeb (l0 : List Int) (a1 : Int) (l2 : List Int) (a3 : Int) (l4 : List Int) (a5 : Int) (l6 : List Int) (a7 : Int) : List Int := rf l0 a1 ++ (rf l2 a3 ++ (rf l4 a5 ++ rf l6 a7))
theorem nodeb_length {l0 l2 l4 l6 : List Int} (a1 a3 a5 a7 : Int) (h0 : l0.length = 32) (h2 : l2.length = 32) (h4 : l4.length = 32) (h6 : l6.length = 32) : (nodeb l0 a1 l2 a3 l4 a5 l6 a7).length = 160 := by
  rw [nodeb, List.length_append, List.length_append, List.length_append, rf_length a1 h0, rf_length a3 h2, rf_length a5 h4, rf_length a7 h6]
theorem nodeb_byt {l0 l2 l4 l6 : List Int} (a1 a3 a5 a7 : Int) (h0 : Byt l0) (h2 : Byt l2) (h4 : Byt l4) (h6 : Byt l6) : Byt (nodeb l0 a1 l2 a3 l4 a5 l6 a7) := (rf_byt a1 h0).append ((rf_byt a3 h2).append ((rf_byt a5 h4).append (rf_byt a7 h6)))
def gs (l : List Int) (q : Nat) : List Int := (List.range 32).map fun j => gn l (40 * q + j)
def st (l : List Int) (q : Nat) : Int := getn l (40 * q + 32) 8
theorem gs_length (l : List Int) (q : Nat) : (gs l q).length = 32 := by simp [gs]
theorem gn_gs (l : List Int) (q : Nat) {j : Nat} (h : j < 32) : gn (gs l q) j = gn l (40 * q + j) := gn_map_range (fun j => gn l (40 * q + j)) h
theorem gs_byt {l : List Int} (hb : Byt l) (q : Nat) : Byt (gs l q) := byt_of_gn fun j hj => by
  rw [gs_length] at hj
  rw [gn_gs l q hj]; exact hb.gn _
theorem gs_eq {l m : List Int} {q : Nat} (hm : m.length = 32) (h : ∀ j, j < 32 → gn m j = gn l (40 * q + j)) : gs l q = m := ext_gn (by rw [gs_length, hm]) fun j hj => by
  rw [gs_length] at hj
  rw [gn_gs l q hj, h j hj]
theorem st_range {l : List Int} (hb : Byt l) (q : Nat) : 0 ≤ st l q ∧ st l q < 18446744073709551616 := by
  have := getn_range hb (40 * q + 32) 8
  exact ⟨this.1, by unfold st; omega⟩
theorem getn_congr {l m : List Int} {a b : Nat} : ∀ n, (∀ j, j < n → gn l (a + j) = gn m (b + j)) → getn l a n = getn m b n
  | 0, _ => rfl
  | n + 1, h => by rw [getn, getn, getn_congr n (fun j hj => h j (by omega)), h n (by omega)]
theorem getf_node (l : List Int) (hl : l.length = 160) (a : Nat) (h : a + 8 ≤ 160) : getf l a 8 = (getn l a 8, 0) := by
  unfold getf
  rw [if_neg (by omega), if_neg (by omega)]
/-- What lies in a row of which it is the first part, or a later one. -/
theorem gn_rf0 (l : List Int) (a : Int) (r : List Int) (h : l.length = 32) {j : Nat} (hj : j < 32) : gn (rf l a ++ r) j = gn l j := by
  rw [gn_app, rf_length a h, if_pos (by omega), rf, gn_app, if_pos (by omega)]
theorem gn_rf8 (l : List Int) (a : Int) (r : List Int) (h : l.length = 32) {j : Nat} (hj : j < 8) : gn (rf l a ++ r) (32 + j) = pb a j := by
  rw [gn_app, rf_length a h, if_pos (by omega), rf, gn_app, if_neg (by omega), h, Nat.add_sub_cancel_left, gn_putf a hj]
theorem gn_rfn (l : List Int) (a : Int) (r : List Int) (h : l.length = 32) (j : Nat) : gn (rf l a ++ r) (40 + j) = gn r j := by
  rw [gn_app, rf_length a h, if_neg (by omega), Nat.add_sub_cancel_left]
theorem gs_rf0 (l : List Int) (a : Int) (r : List Int) (h : l.length = 32) : gs (rf l a ++ r) 0 = l := gs_eq h fun j hj => by rw [Nat.mul_zero, Nat.zero_add, gn_rf0 l a r h hj]
theorem gs_rfn (l : List Int) (a : Int) (r : List Int) (h : l.length = 32) (q : Nat) : gs (rf l a ++ r) (q + 1) = gs r q := gs_eq (gs_length r q) fun j hj => by
  rw [gn_gs r q hj, show 40 * (q + 1) + j = 40 + (40 * q + j) by omega, gn_rfn l a r h]
theorem st_rf0 (l : List Int) (a : Int) (r : List Int) (h : l.length = 32) (ha : 0 ≤ a ∧ a < 18446744073709551616) : st (rf l a ++ r) 0 = a := by
  unfold st
  rw [getn_putf a ha.1 _ _ 8 fun j hj => by rw [Nat.mul_zero, Nat.zero_add, gn_rf8 l a r h hj]]
  omega
theorem st_rfn (l : List Int) (a : Int) (r : List Int) (h : l.length = 32) (q : Nat) : st (rf l a ++ r) (q + 1) = st r q := getn_congr 8 fun j hj => by
  rw [show 40 * (q + 1) + 32 + j = 40 + (40 * q + 32 + j) by omega, gn_rfn l a r h]

/-! ### 2. The program's Put and Get -/
theorem cat3 (a b c : List Int) (h : (a ++ (b ++ c)).length ≤ 1000000) : slices_Concat_s_byte_byte.rel [a, b, c] (a ++ (b ++ c)) := by
  have f : [a, b, c].flatten = a ++ (b ++ c) := by simp
  have := concat_rel [a, b, c] (by rw [f]; exact h) (by simp)
  rw [f] at this; exact this
theorem put10_rel (l0 : List Int) (a1 : Int) (l2 : List Int) (a3 : Int) (l4 : List Int) (a5 : Int) (l6 : List Int) (a7 : Int) (h0 : l0.length = 32) (h2 : l2.length = 32) (h4 : l4.length = 32) (h6 : l6.length = 32) :
    tree_Put.rel l0 a1 l2 a3 l4 a5 l6 a7 (nodeb l0 a1 l2 a3 l4 a5 l6 a7) := by
  have p := fun a : Int => put_rel a 8 (by omega) (by omega)
  refine ⟨_, p a1, _, cat3 [] l0 (putf a1 8) ?_, _, p a3, _, cat3 _ l2 (putf a3 8) ?_, _, p a5, _, cat3 _ l4 (putf a5 8) ?_, _, p a7, _, cat3 _ l6 (putf a7 8) ?_, ?_⟩
  · simp [putf_length, h0]
  · simp [putf_length, h0, h2]
  · simp [putf_length, h0, h2, h4]
  · simp [putf_length, h0, h2, h4, h6]
  · simp [nodeb, rf]
def getl (l : List Int) (q : Nat) : List Int := if l.length = 160 then gs l q else List.replicate 32 0
def gett (l : List Int) (q : Nat) : Int := if l.length = 160 then st l q else 0
def gete (l : List Int) : Int := if l.length = 160 then 0 else 11
theorem getl_length (l : List Int) (q : Nat) : (getl l q).length = 32 := by unfold getl; split <;> simp [gs_length]
theorem pl40 (l : List Int) (hl : l.length = 160) (q : Nat) (h : q < 4) : (prt l ((40 * q : Nat) : Int) ((40 * (q + 1) : Nat) : Int)).length = 40 := by rw [prt_length (by omega) (by omega) (by omega)]; omega
theorem pl32 (l : List Int) (hl : l.length = 160) (q : Nat) (h : q < 4) : (prt (prt l ((40 * q : Nat) : Int) ((40 * (q + 1) : Nat) : Int)) 0 32).length = 32 := by
  have := pl40 l hl q h
  rw [prt_length (by omega) (by omega) (by omega)]; rfl
theorem gs_prt (l : List Int) (hl : l.length = 160) (q : Nat) (h : q < 4) : gs l q = List.take 32 (prt (prt l ((40 * q : Nat) : Int) ((40 * (q + 1) : Nat) : Int)) 0 32) := by
  have h1 := pl40 l hl q h
  have h2 := pl32 l hl q h
  refine gs_eq (by rw [List.length_take, h2]; rfl) fun j hj => ?_
  rw [gn_take hj, gn_prt (by omega) (by omega) (by omega), gn_prt (by omega) (by omega) (by omega)]
  congr 1
  show (40 * q) + (0 + j) = 40 * q + j
  omega
theorem g_rel (l : List Int) (hb : Byt l) (hl : l.length = 160) (q : Nat) (h : q < 4) : word_Get.rel (prt l ((40 * q : Nat) : Int) ((40 * (q + 1) : Nat) : Int)) 32 8 (st l q) 0 := by
  have h1 := pl40 l hl q h
  have hg := get_rel (prt l ((40 * q : Nat) : Int) ((40 * (q + 1) : Nat) : Int)) (hb.prt _ _) 32 8 (by omega) (by omega) (by omega)
  unfold getf at hg
  rw [if_neg (by omega), if_neg (by omega)] at hg
  have e : st l q = getn (prt l ((40 * q : Nat) : Int) ((40 * (q + 1) : Nat) : Int)) 32 8 := getn_congr 8 fun j hj => by
    rw [gn_prt (by omega) (by omega) (by omega)]
    congr 1
    show 40 * q + 32 + j = 40 * q + (32 + j)
    omega
  rw [e]; exact hg
theorem get10_rel (l : List Int) (hb : Byt l) (hs : l.length ≤ 100000) : tree_Get.rel l (getl l 0) (gett l 0) (getl l 1) (gett l 1) (getl l 2) (gett l 2) (getl l 3) (gett l 3) (gete l) := by
  unfold getl gett gete
  by_cases hl : l.length = 160
  · simp only [if_pos hl]
    have g0 := g_rel l hb hl 0 (by omega)
    have g1 := g_rel l hb hl 1 (by omega)
    have g2 := g_rel l hb hl 2 (by omega)
    have g3 := g_rel l hb hl 3 (by omega)
    have p0 := pl40 l hl 0 (by omega)
    have p1 := pl40 l hl 1 (by omega)
    have p2 := pl40 l hl 2 (by omega)
    have p3 := pl40 l hl 3 (by omega)
    have q0 := pl32 l hl 0 (by omega)
    have q1 := pl32 l hl 1 (by omega)
    have q2 := pl32 l hl 2 (by omega)
    have q3 := pl32 l hl 3 (by omega)
    exact .inr ⟨by omega, ⟨by omega, by omega, by omega⟩, ⟨by omega, by omega, (show (32 : Int) ≤ ((prt l 0 40).length : Int) from by rw [show (prt l 0 40).length = 40 from p0]; decide)⟩, Nat.le_of_eq q0.symm, _, _, g0,
      ⟨by omega, by omega, by omega⟩, ⟨by omega, by omega, (show (32 : Int) ≤ ((prt l 40 80).length : Int) from by rw [show (prt l 40 80).length = 40 from p1]; decide)⟩, Nat.le_of_eq q1.symm, _, _, g1,
      ⟨by omega, by omega, by omega⟩, ⟨by omega, by omega, (show (32 : Int) ≤ ((prt l 80 120).length : Int) from by rw [show (prt l 80 120).length = 40 from p2]; decide)⟩, Nat.le_of_eq q2.symm, _, _, g2,
      ⟨by omega, by omega, by omega⟩, ⟨by omega, by omega, (show (32 : Int) ≤ ((prt l 120 160).length : Int) from by rw [show (prt l 120 160).length = 40 from p3]; decide)⟩, Nat.le_of_eq q3.symm, _, _, g3,
      gs_prt l hl 0 (by omega), rfl, gs_prt l hl 1 (by omega), rfl, gs_prt l hl 2 (by omega), rfl, gs_prt l hl 3 (by omega), rfl, rfl⟩
  · simp only [if_neg hl]
    exact .inl ⟨by omega, rfl, rfl, rfl, rfl, rfl, rfl, rfl, rfl, rfl⟩

/-! ### 5. Stamps -/
theorem stamp_ok (v s : Int) (h1 : 1 ≤ v) (h2 : v < 9223372036854775808) (hs : s = 0 ∨ s = 1) : tree_Stamp.rel v s (2 * v + s) 0 := by
  have e : IntKind.u64.wrap (IntKind.u64.wrap (2 * v) + IntKind.u64.wrap s) = 2 * v + s := by rw [wu64 (x := 2 * v) (by omega) (by omega), wu64 (x := s) (by omega) (by omega), wu64 (by omega) (by omega)]
  refine .inr ⟨by omega, .inr ⟨by omega, ?_⟩⟩
  by_cases c : s = 0
  · exact .inr ⟨by omega, _, rfl, e.symm, rfl⟩
  · exact .inl ⟨c, .inr ⟨by omega, _, rfl, e.symm, rfl⟩⟩
theorem stamp_bad (v s : Int) (h : v < 1 ∨ v ≥ 9223372036854775808 ∨ (s ≠ 0 ∧ s ≠ 1)) : tree_Stamp.rel v s 0 1 := by
  by_cases c1 : v < 1
  · exact .inl ⟨c1, rfl, rfl⟩
  by_cases c2 : v ≥ 9223372036854775808
  · exact .inr ⟨c1, .inl ⟨c2, rfl, rfl⟩⟩
  · exact .inr ⟨c1, .inr ⟨c2, .inl ⟨by omega, .inl ⟨by omega, rfl, rfl⟩⟩⟩⟩

/-! ### 6. Digests of places -/
def dgb (a p : Int) (l : List Int) : List Int := [IntKind.u8.wrap a] ++ (putf p 4 ++ l)
theorem dgb_length (a p : Int) (l : List Int) : (dgb a p l).length = 5 + l.length := by rw [dgb, List.length_append, List.length_append, putf_length]; simp; omega
theorem u8w (a : Int) : 0 ≤ IntKind.u8.wrap a ∧ IntKind.u8.wrap a < 256 := by rw [IntKind.wrap_u8]; omega
theorem dgb_byt (a p : Int) {l : List Int} (h : Byt l) : Byt (dgb a p l) := (show Byt [IntKind.u8.wrap a] from fun x hx => by rw [List.mem_singleton.1 hx]; exact u8w a).append ((putf_byt p 4).append h)
theorem dig_rel (a p : Int) (l : List Int) (hp : 0 ≤ p ∧ p < 4294967296) (hb : Byt l) (hs : l.length ≤ 100000) : tree_Digest.rel a p l (sumf (dgb a p l)) := by
  have hput := put_rel p 4 (by omega) (by omega)
  have f : [[IntKind.u8.wrap a], putf p 4, l].flatten = dgb a p l := by simp [dgb]
  have := pieces_rel [[IntKind.u8.wrap a], putf p 4, l] (by rw [f]; exact dgb_byt a p hb) (by rw [f, dgb_length]; omega) (by simp)
  rw [f] at this
  refine ⟨_, ?_, _, this, rfl⟩
  rw [wu64 hp.1 (by omega)]; exact hput
theorem rdig_rel (a p : Int) (l : List Int) (hp : 0 ≤ p ∧ p < 4294967296) (hb : Byt l) (hs : l.length ≤ 100000) : reliquaryref10_Digest.rel a p (strOfNums l) (sumf (dgb a p l)) := by
  have hput := rput_rel p ⟨hp.1, by omega⟩ 4 (by omega)
  have e : [IntKind.u8.wrap a] ++ putf p 4 ++ l = dgb a p l := by simp [dgb]
  have hof := rof_rel (dgb a p l) (dgb_byt a p hb) (by rw [dgb_length]; omega)
  refine ⟨putf p 4, ?_, _, rfl, by simp [putf_length], _, rfl, ?_⟩
  · rw [wu64 hp.1 (by omega)]; exact hput
  · rw [bl_strOfNums hb, e]
    exact ⟨by rw [dgb_length]; omega, _, hof, rfl⟩
theorem check_rel (s : List Int) (t a p : Int) (l : List Int) (hsb : Byt s) (hsl : s.length = 32) (hp : 0 ≤ p ∧ p < 4294967296) (hb : Byt l) (hs : l.length ≤ 100000) : tree_Check.rel s t a p l (decide (s = sumf (dgb a p l))) :=
  ⟨_, dig_rel a p l hp hb hs, _, bytes_rel s _ hsb (sumf_byt _) (by omega), rfl⟩

/-! ### 7. The laws -/
theorem z32b : Byt (List.replicate 32 0) := rep_byt 32
theorem z32l : (List.replicate 32 (0 : Int)).length = 32 := by simp
theorem get_node (l0 : List Int) (a1 : Int) (l2 : List Int) (a3 : Int) (l4 : List Int) (a5 : Int) (l6 : List Int) (a7 : Int) (b0 : Byt l0) (h0 : l0.length = 32) (h1 : 0 ≤ a1 ∧ a1 < 18446744073709551616) (b2 : Byt l2) (h2 : l2.length = 32) (h3 : 0 ≤ a3 ∧ a3 < 18446744073709551616)
    (b4 : Byt l4) (h4 : l4.length = 32) (h5 : 0 ≤ a5 ∧ a5 < 18446744073709551616) (b6 : Byt l6) (h6 : l6.length = 32) (h7 : 0 ≤ a7 ∧ a7 < 18446744073709551616) : tree_Get.rel (nodeb l0 a1 l2 a3 l4 a5 l6 a7) l0 a1 l2 a3 l4 a5 l6 a7 0 := by
  have hl := nodeb_length a1 a3 a5 a7 h0 h2 h4 h6
  have g := get10_rel (nodeb l0 a1 l2 a3 l4 a5 l6 a7) (nodeb_byt a1 a3 a5 a7 b0 b2 b4 b6) (by omega)
  unfold getl gett gete at g
  simp only [if_pos hl] at g
  have e6 : rf l6 a7 = rf l6 a7 ++ [] := by simp
  have w : nodeb l0 a1 l2 a3 l4 a5 l6 a7 = rf l0 a1 ++ (rf l2 a3 ++ (rf l4 a5 ++ (rf l6 a7 ++ []))) := by rw [← e6]; rfl
  have x0 : gs (nodeb l0 a1 l2 a3 l4 a5 l6 a7) 0 = l0 := gs_rf0 _ _ _ h0
  have x1 : gs (nodeb l0 a1 l2 a3 l4 a5 l6 a7) 1 = l2 := (gs_rfn _ _ _ h0 0).trans (gs_rf0 _ _ _ h2)
  have x2 : gs (nodeb l0 a1 l2 a3 l4 a5 l6 a7) 2 = l4 := (gs_rfn _ _ _ h0 1).trans ((gs_rfn _ _ _ h2 0).trans (gs_rf0 _ _ _ h4))
  have x3 : gs (nodeb l0 a1 l2 a3 l4 a5 l6 a7) 3 = l6 := by rw [w]; exact (gs_rfn _ _ _ h0 2).trans ((gs_rfn _ _ _ h2 1).trans ((gs_rfn _ _ _ h4 0).trans (gs_rf0 _ _ _ h6)))
  have y0 : st (nodeb l0 a1 l2 a3 l4 a5 l6 a7) 0 = a1 := st_rf0 _ _ _ h0 h1
  have y1 : st (nodeb l0 a1 l2 a3 l4 a5 l6 a7) 1 = a3 := (st_rfn _ _ _ h0 0).trans (st_rf0 _ _ _ h2 h3)
  have y2 : st (nodeb l0 a1 l2 a3 l4 a5 l6 a7) 2 = a5 := (st_rfn _ _ _ h0 1).trans ((st_rfn _ _ _ h2 0).trans (st_rf0 _ _ _ h4 h5))
  have y3 : st (nodeb l0 a1 l2 a3 l4 a5 l6 a7) 3 = a7 := by rw [w]; exact (st_rfn _ _ _ h0 2).trans ((st_rfn _ _ _ h2 1).trans ((st_rfn _ _ _ h4 0).trans (st_rf0 _ _ _ h6 h7)))
  rw [x0, x1, x2, x3, y0, y1, y2, y3] at g
  exact g
theorem awake10 : reliquarylaw10_awake.rel := by
  have p := put10_rel (List.replicate 32 0) 0 (List.replicate 32 0) 0 (List.replicate 32 0) 0 (List.replicate 32 0) 0 z32l z32l z32l z32l
  have g := get_node (List.replicate 32 0) 0 (List.replicate 32 0) 0 (List.replicate 32 0) 0 (List.replicate 32 0) 0 z32b z32l (by omega) z32b z32l (by omega) z32b z32l (by omega) z32b z32l (by omega)
  have d := dig_rel 0 0 [] (by omega) Byt.nil (by simp)
  have c := check_rel (sumf (dgb 0 0 [])) 0 0 0 [] (sumf_byt _) (sumf_length _) (by omega) Byt.nil (by simp)
  rw [decide_eq_true rfl] at c
  exact ⟨_, _, stamp_ok 3 1 (by omega) (by omega) (.inr rfl), _, p, _, _, _, _, _, _, _, _, _, g, _, d, rfl, rfl, by rw [nodeb_length _ _ _ _ z32l z32l z32l z32l]; rfl, by simp, rfl, _, c, rfl, _, rfl, by decide, _, rfl, by decide⟩
theorem treeStamps_pure (v s : Int) (hv : 0 ≤ v ∧ v < 18446744073709551616) (hs : -9223372036854775808 ≤ s ∧ s ≤ 9223372036854775807) : reliquarylaw10_TreeStamps.rel v s := by
  refine ⟨awake10, ?_⟩
  by_cases c1 : v = 0
  · exact ⟨_, _, stamp_bad v s (by omega), .inl ⟨c1, rfl, rfl⟩⟩
  by_cases c2 : v ≥ 9223372036854775808
  · exact ⟨_, _, stamp_bad v s (by omega), .inr ⟨c1, .inl ⟨c2, rfl, rfl⟩⟩⟩
  by_cases c3 : s < 0
  · exact ⟨_, _, stamp_bad v s (by omega), .inr ⟨c1, .inr ⟨c2, .inl ⟨c3, rfl, rfl⟩⟩⟩⟩
  by_cases c4 : s > 1
  · exact ⟨_, _, stamp_bad v s (by omega), .inr ⟨c1, .inr ⟨c2, .inr ⟨c3, .inl ⟨c4, rfl, rfl⟩⟩⟩⟩⟩
  refine ⟨_, _, stamp_ok v s (by omega) (by omega) (by omega), .inr ⟨c1, .inr ⟨c2, .inr ⟨c3, .inr ⟨c4, rfl, _, rfl, ?_, _, rfl, ?_, by omega⟩⟩⟩⟩⟩
  · rw [Int.tdiv_eq_ediv_of_nonneg (by omega), wu64 (by omega) (by omega)]; omega
  · rw [Int.tmod_eq_emod_of_nonneg (by omega), w64 (by omega) (by omega)]; omega
theorem treeDigests_pure (a p : Int) (l s : List Int) (ha : -9223372036854775808 ≤ a ∧ a ≤ 9223372036854775807) (hp : 0 ≤ p ∧ p < 4294967296) (hb : Byt l) (hsb : Byt s) (hsl : s.length = 32) : reliquarylaw10_TreeDigests.rel a p l s := by
  refine ⟨awake10, ?_⟩
  by_cases c : (l.length : Int) > 1000
  · exact .inl ⟨c, trivial⟩
  have c1 := check_rel (sumf (dgb a p l)) 9 a p l (sumf_byt _) (sumf_length _) hp hb (by omega)
  rw [decide_eq_true rfl] at c1
  refine .inr ⟨c, _, dig_rel a p l hp hb (by omega), _, rdig_rel a p l hp hb (by omega), rfl, _, c1, rfl, _, check_rel s 0 a p l hsb hsl hp hb (by omega), ?_⟩
  rw [Bool.eq_iff_iff]; simp
theorem shr32 (x : Int) (i : Nat) (hi : i ≤ 4) : shrI .u32 x ((8 * i : Nat) : Int) = x / 256 ^ i := by
  unfold shrI
  rw [show min ((8 * i : Nat) : Int).toNat IntKind.u32.bits = 8 * i by simp [IntKind.bits]; omega, pow8]
  rw [Int.fdiv_eq_ediv_of_nonneg _ (p256' i)]
theorem dgb_eq (a p : Int) (l : List Int) (ha : 0 ≤ a ∧ a < 256) : [a, IntKind.u8.wrap p, IntKind.u8.wrap (shrI .u32 p 8), IntKind.u8.wrap (shrI .u32 p 16), IntKind.u8.wrap (shrI .u32 p 24)] ++ l = dgb a p l := by
  have e1 := shr32 p 1 (by omega)
  have e2 := shr32 p 2 (by omega)
  have e3 := shr32 p 3 (by omega)
  have f : putf p 4 = [pb p 0, pb p 1, pb p 2, pb p 3] := rfl
  rw [dgb, f, wu8 ha.1 ha.2]
  have g1 : shrI .u32 p 8 = p / 256 ^ 1 := e1
  have g2 : shrI .u32 p 16 = p / 256 ^ 2 := e2
  have g3 : shrI .u32 p 24 = p / 256 ^ 3 := e3
  rw [g1, g2, g3, IntKind.wrap_u8, IntKind.wrap_u8, IntKind.wrap_u8, IntKind.wrap_u8]
  simp [pb]
theorem dgb_inj {a p : Int} {l : List Int} {b q : Int} {s : List Int} (ha : 0 ≤ a ∧ a < 256) (hp : 0 ≤ p ∧ p < 4294967296) (hb : 0 ≤ b ∧ b < 256) (hq : 0 ≤ q ∧ q < 4294967296) (h : dgb a p l = dgb b q s) : a = b ∧ p = q ∧ l = s := by
  have f : ∀ p, putf p 4 = [pb p 0, pb p 1, pb p 2, pb p 3] := fun p => rfl
  rw [dgb, dgb, f, f, wu8 ha.1 ha.2, wu8 hb.1 hb.2] at h
  simp only [List.cons_append, List.nil_append, List.cons.injEq] at h
  obtain ⟨h0, h1, h2, h3, h4, h5⟩ := h
  unfold pb at h1 h2 h3 h4
  refine ⟨h0, ?_, h5⟩
  omega
theorem treeApart_pure (a p : Int) (l : List Int) (b q : Int) (s : List Int) (ha : 0 ≤ a ∧ a < 256) (hp : 0 ≤ p ∧ p < 4294967296) (hl : Byt l) (hb : 0 ≤ b ∧ b < 256) (hq : 0 ≤ q ∧ q < 4294967296) (hs : Byt s) : reliquarylaw10_TreeApart.rel a p l b q s := by
  refine ⟨awake10, ?_⟩
  by_cases c1 : (l.length : Int) > 300
  · exact .inl ⟨c1, trivial⟩
  refine .inr ⟨c1, ?_⟩
  by_cases c2 : (s.length : Int) > 300
  · exact .inl ⟨c2, trivial⟩
  refine .inr ⟨c2, ?_⟩
  rw [w64 (x := a) (by omega) (by omega), w64 (x := b) (by omega) (by omega)]
  refine ⟨_, dig_rel a p l hp hl (by omega), _, check_rel _ 0 b q s (sumf_byt _) (sumf_length _) hq hs (by omega), ?_⟩
  rw [dgb_eq a p l ha, dgb_eq b q s hb]
  by_cases c : sumf (dgb a p l) = sumf (dgb b q s)
  · rw [decide_eq_true c]
    refine .inr ⟨by simp, ?_⟩
    have K : ¬ (a = b ∧ p = q ∧ l = s) → (∃ m_43 : List Int, m_43 = dgb a p l ∧ (m_43.length ≤ 1099511627776 ∧ (∃ m_56 : List Int, m_56 = dgb b q s ∧ (m_56.length ≤ 1099511627776 ∧ (¬ ((strOfNums m_43).toList = (strOfNums m_56).toList) ∧ (∃ (r_71 : List Int), reliquaryref02_Of.rel m_43 r_71 ∧ (∃ (r_77 : List Int), reliquaryref02_Of.rel m_56 r_77 ∧ r_71 = r_77))))))) := fun hne =>
      ⟨_, rfl, by rw [dgb_length]; omega, _, rfl, by rw [dgb_length]; omega, fun h => hne (dgb_inj ha hp hb hq ((strOf_inj (dgb_byt a p hl) (dgb_byt b q hs)).1 h)), _, rof_rel _ (dgb_byt a p hl) (by rw [dgb_length]; omega), _, rof_rel _ (dgb_byt b q hs) (by rw [dgb_length]; omega), c⟩
    by_cases d1 : a = b
    · refine .inl ⟨d1, ?_⟩
      by_cases d2 : p = q
      · refine .inl ⟨d2, ?_⟩
        by_cases d3 : (strOfNums l).toList = (strOfNums s).toList
        · exact .inl ⟨d3, trivial⟩
        · exact .inr ⟨d3, K fun h => d3 (by rw [h.2.2])⟩
      · exact .inr ⟨d2, K fun h => d2 h.2.1⟩
    · exact .inr ⟨d1, K fun h => d1 h.1⟩
  · rw [decide_eq_false c]
    refine .inl ⟨by simp, ?_⟩
    by_cases d1 : a = b
    · refine .inr ⟨not_not_intro d1, ?_⟩
      by_cases d2 : p = q
      · refine .inr ⟨not_not_intro d2, fun h => c ?_⟩
        rw [d1, d2, (strOf_inj hl hs).1 h]
      · exact .inl ⟨d2, trivial⟩
    · exact .inl ⟨d1, trivial⟩
theorem prt_mid (A M B : List Int) (lo hi : Int) (h1 : lo = A.length) (h2 : hi = A.length + M.length) : prt (A ++ (M ++ B)) lo hi = M := by
  subst h1 h2
  unfold prt
  rw [Int.toNat_natCast, show ((A.length : Int) + (M.length : Int)).toNat - A.length = M.length by omega, List.drop_left' rfl, List.take_left' rfl]
theorem put8_inj {a b : Int} (ha : 0 ≤ a ∧ a < 18446744073709551616) (hb : 0 ≤ b ∧ b < 18446744073709551616) (h : putf a 8 = putf b 8) : a = b := by
  have h1 := getn_putf a ha.1 (putf a 8) 0 8 fun j hj => by rw [Nat.zero_add, gn_putf a hj]
  have h2 := getn_putf b hb.1 (putf b 8) 0 8 fun j hj => by rw [Nat.zero_add, gn_putf b hj]
  rw [h] at h1
  have := h1.symm.trans h2
  omega
theorem fields_core (A B l m : List Int) (a b : Int) (q : Nat) (hq : q < 4) (hA : A.length = 40 * q) (hB : B.length = 120 - 40 * q) (hl : l.length = 32) (hm : m.length = 32) (bl : Byt l) (bm : Byt m) (ha : 0 ≤ a ∧ a < 18446744073709551616) (hb : 0 ≤ b ∧ b < 18446744073709551616) (Q : Int) (hQ : Q = (q : Int)) (x y : List Int) (hx : x = A ++ (rf l a ++ B)) (hy : y = A ++ (rf m b ++ B)) :
    (¬ ((x.length : Int) ≠ 160) ∧ (¬ ((y.length : Int) ≠ 160) ∧ ((0 ≤ (0 : Int) ∧ (0 : Int) ≤ (IntKind.i64.wrap (40 * Q)) ∧ (IntKind.i64.wrap (40 * Q)) ≤ (x.length : Int)) ∧ ((0 ≤ (0 : Int) ∧ (0 : Int) ≤ (IntKind.i64.wrap (40 * Q)) ∧ (IntKind.i64.wrap (40 * Q)) ≤ (y.length : Int)) ∧ (¬ (¬ ((strOfNums (prt x (0 : Int) (IntKind.i64.wrap (40 * Q)))).toList = (strOfNums (prt y (0 : Int) (IntKind.i64.wrap (40 * Q)))).toList)) ∧ ((0 ≤ (IntKind.i64.wrap ((IntKind.i64.wrap (40 * Q)) + 40)) ∧ (IntKind.i64.wrap ((IntKind.i64.wrap (40 * Q)) + 40)) ≤ (x.length : Int) ∧ (x.length : Int) ≤ (x.length : Int)) ∧ ((0 ≤ (IntKind.i64.wrap ((IntKind.i64.wrap (40 * Q)) + 40)) ∧ (IntKind.i64.wrap ((IntKind.i64.wrap (40 * Q)) + 40)) ≤ (y.length : Int) ∧ (y.length : Int) ≤ (y.length : Int)) ∧ (¬ (¬ ((strOfNums (prt x (IntKind.i64.wrap ((IntKind.i64.wrap (40 * Q)) + 40)) (x.length : Int))).toList = (strOfNums (prt y (IntKind.i64.wrap ((IntKind.i64.wrap (40 * Q)) + 40)) (y.length : Int))).toList)) ∧ ((0 ≤ (IntKind.i64.wrap (40 * Q)) ∧ (IntKind.i64.wrap (40 * Q)) ≤ (IntKind.i64.wrap ((IntKind.i64.wrap (40 * Q)) + 32)) ∧ (IntKind.i64.wrap ((IntKind.i64.wrap (40 * Q)) + 32)) ≤ (x.length : Int)) ∧ ((0 ≤ (IntKind.i64.wrap (40 * Q)) ∧ (IntKind.i64.wrap (40 * Q)) ≤ (IntKind.i64.wrap ((IntKind.i64.wrap (40 * Q)) + 32)) ∧ (IntKind.i64.wrap ((IntKind.i64.wrap (40 * Q)) + 32)) ≤ (y.length : Int)) ∧ (((strOfNums (prt x (IntKind.i64.wrap (40 * Q)) (IntKind.i64.wrap ((IntKind.i64.wrap (40 * Q)) + 32)))).toList == (strOfNums (prt y (IntKind.i64.wrap (40 * Q)) (IntKind.i64.wrap ((IntKind.i64.wrap (40 * Q)) + 32)))).toList) = (l == m) ∧ ((0 ≤ (IntKind.i64.wrap ((IntKind.i64.wrap (40 * Q)) + 32)) ∧ (IntKind.i64.wrap ((IntKind.i64.wrap (40 * Q)) + 32)) ≤ (IntKind.i64.wrap ((IntKind.i64.wrap (40 * Q)) + 40)) ∧ (IntKind.i64.wrap ((IntKind.i64.wrap (40 * Q)) + 40)) ≤ (x.length : Int)) ∧ ((0 ≤ (IntKind.i64.wrap ((IntKind.i64.wrap (40 * Q)) + 32)) ∧ (IntKind.i64.wrap ((IntKind.i64.wrap (40 * Q)) + 32)) ≤ (IntKind.i64.wrap ((IntKind.i64.wrap (40 * Q)) + 40)) ∧ (IntKind.i64.wrap ((IntKind.i64.wrap (40 * Q)) + 40)) ≤ (y.length : Int)) ∧ ((strOfNums (prt x (IntKind.i64.wrap ((IntKind.i64.wrap (40 * Q)) + 32)) (IntKind.i64.wrap ((IntKind.i64.wrap (40 * Q)) + 40)))).toList == (strOfNums (prt y (IntKind.i64.wrap ((IntKind.i64.wrap (40 * Q)) + 32)) (IntKind.i64.wrap ((IntKind.i64.wrap (40 * Q)) + 40)))).toList) = (a == b)))))))))))))) := by
  have lr := rf_length a hl
  have lr' := rf_length b hm
  have xl : x.length = 160 := by rw [hx, List.length_append, List.length_append, lr, hA, hB]; omega
  have yl : y.length = 160 := by rw [hy, List.length_append, List.length_append, lr', hA, hB]; omega
  have e0 : IntKind.i64.wrap (40 * Q) = ((40 * q : Nat) : Int) := by rw [hQ, w64 (by omega) (by omega)]; omega
  have e1 : IntKind.i64.wrap (((40 * q : Nat) : Int) + 40) = ((40 * q + 40 : Nat) : Int) := by rw [w64 (by omega) (by omega)]; omega
  have e2 : IntKind.i64.wrap (((40 * q : Nat) : Int) + 32) = ((40 * q + 32 : Nat) : Int) := by rw [w64 (by omega) (by omega)]; omega
  rw [e0, e1, e2, xl, yl]
  have x1 : prt x 0 ((40 * q : Nat) : Int) = A := by
    have := prt_mid [] A (rf l a ++ B) 0 ((40 * q : Nat) : Int) rfl (by rw [hA]; simp)
    rw [hx]; exact this
  have y1 : prt y 0 ((40 * q : Nat) : Int) = A := by
    have := prt_mid [] A (rf m b ++ B) 0 ((40 * q : Nat) : Int) rfl (by rw [hA]; simp)
    rw [hy]; exact this
  have x2 : prt x ((40 * q + 40 : Nat) : Int) ((160 : Nat) : Int) = B := by
    have := prt_mid (A ++ rf l a) B [] ((40 * q + 40 : Nat) : Int) ((160 : Nat) : Int) (by rw [List.length_append, lr, hA]) (by rw [List.length_append, lr, hA, hB]; omega)
    rw [List.append_nil, List.append_assoc] at this
    rw [hx]; exact this
  have y2 : prt y ((40 * q + 40 : Nat) : Int) ((160 : Nat) : Int) = B := by
    have := prt_mid (A ++ rf m b) B [] ((40 * q + 40 : Nat) : Int) ((160 : Nat) : Int) (by rw [List.length_append, lr', hA]) (by rw [List.length_append, lr', hA, hB]; omega)
    rw [List.append_nil, List.append_assoc] at this
    rw [hy]; exact this
  have x3 : prt x ((40 * q : Nat) : Int) ((40 * q + 32 : Nat) : Int) = l := by
    have := prt_mid A l (putf a 8 ++ B) ((40 * q : Nat) : Int) ((40 * q + 32 : Nat) : Int) (by rw [hA]) (by rw [hA, hl]; omega)
    rw [hx, rf, List.append_assoc]; exact this
  have y3 : prt y ((40 * q : Nat) : Int) ((40 * q + 32 : Nat) : Int) = m := by
    have := prt_mid A m (putf b 8 ++ B) ((40 * q : Nat) : Int) ((40 * q + 32 : Nat) : Int) (by rw [hA]) (by rw [hA, hm]; omega)
    rw [hy, rf, List.append_assoc]; exact this
  have x4 : prt x ((40 * q + 32 : Nat) : Int) ((40 * q + 40 : Nat) : Int) = putf a 8 := by
    have := prt_mid (A ++ l) (putf a 8) B ((40 * q + 32 : Nat) : Int) ((40 * q + 40 : Nat) : Int) (by rw [List.length_append, hA, hl]) (by rw [List.length_append, hA, hl, putf_length]; omega)
    rw [List.append_assoc] at this
    rw [hx, rf, List.append_assoc]; exact this
  have y4 : prt y ((40 * q + 32 : Nat) : Int) ((40 * q + 40 : Nat) : Int) = putf b 8 := by
    have := prt_mid (A ++ m) (putf b 8) B ((40 * q + 32 : Nat) : Int) ((40 * q + 40 : Nat) : Int) (by rw [List.length_append, hA, hm]) (by rw [List.length_append, hA, hm, putf_length]; omega)
    rw [List.append_assoc] at this
    rw [hy, rf, List.append_assoc]; exact this
  rw [x1, y1, x2, y2, x3, y3, x4, y4]
  refine ⟨by omega, by omega, ⟨by omega, by omega, by omega⟩, ⟨by omega, by omega, by omega⟩, by simp, ⟨by omega, by omega, by omega⟩, ⟨by omega, by omega, by omega⟩, by simp, ⟨by omega, by omega, by omega⟩, ⟨by omega, by omega, by omega⟩, ?_, ⟨by omega, by omega, by omega⟩, ⟨by omega, by omega, by omega⟩, ?_⟩
  · rw [Bool.eq_iff_iff]
    simp only [beq_iff_eq]
    exact strOf_inj bl bm
  · rw [Bool.eq_iff_iff]
    simp only [beq_iff_eq]
    rw [strOf_inj (putf_byt a 8) (putf_byt b 8)]
    exact ⟨put8_inj ha hb, fun h => by rw [h]⟩
theorem and3' {a : Int} (h : 0 ≤ a ∧ a < 256) : 0 ≤ bits .and .u8 a 3 ∧ bits .and .u8 a 3 ≤ 3 := by
  rw [u8_and _ _ (by omega) (by omega) (by omega) (by omega)]
  have : a.toNat &&& (3 : Int).toNat ≤ (3 : Int).toNat := Nat.and_le_right
  omega
theorem treeFields_pure (l0 : List Int) (a1 : Int) (l2 : List Int) (a3 : Int) (l4 : List Int) (a5 : Int) (l6 : List Int) (a7 : Int) (k : Int) (m : List Int) (b : Int) (b0 : Byt l0) (h0 : l0.length = 32) (h1 : 0 ≤ a1 ∧ a1 < 18446744073709551616) (b2 : Byt l2) (h2 : l2.length = 32) (h3 : 0 ≤ a3 ∧ a3 < 18446744073709551616)
    (b4 : Byt l4) (h4 : l4.length = 32) (h5 : 0 ≤ a5 ∧ a5 < 18446744073709551616) (b6 : Byt l6) (h6 : l6.length = 32) (h7 : 0 ≤ a7 ∧ a7 < 18446744073709551616) (hk : 0 ≤ k ∧ k < 256) (bm : Byt m) (hm : m.length = 32) (hb : 0 ≤ b ∧ b < 18446744073709551616) : reliquarylaw10_TreeFields.rel l0 a1 l2 a3 l4 a5 l6 a7 k m b := by
  refine ⟨awake10, ?_⟩
  have hk3 := and3' hk
  have e : IntKind.i64.wrap (bits .and .u8 k 3) = bits .and .u8 k 3 := w64 (by omega) (by omega)
  have r0 := rf_length a1 h0
  have r2 := rf_length a3 h2
  have r4 := rf_length a5 h4
  have r6 := rf_length a7 h6
  by_cases c0 : IntKind.i64.wrap (bits .and .u8 k 3) = 0
  · exact .inl ⟨c0, _, put10_rel l0 a1 l2 a3 l4 a5 l6 a7 h0 h2 h4 h6, _, put10_rel m b l2 a3 l4 a5 l6 a7 hm h2 h4 h6, fields_core [] (rf l2 a3 ++ (rf l4 a5 ++ rf l6 a7)) l0 m a1 b 0 (by omega) rfl (by simp [r2, r4, r6]) h0 hm b0 bm h1 hb 0 rfl _ _ rfl rfl⟩
  by_cases c1 : IntKind.i64.wrap (bits .and .u8 k 3) = 1
  · exact .inr (.inl ⟨c1, _, put10_rel l0 a1 l2 a3 l4 a5 l6 a7 h0 h2 h4 h6, _, put10_rel l0 a1 m b l4 a5 l6 a7 h0 hm h4 h6, fields_core (rf l0 a1) (rf l4 a5 ++ rf l6 a7) l2 m a3 b 1 (by omega) r0 (by simp [r4, r6]) h2 hm b2 bm h3 hb 1 rfl _ _ rfl rfl⟩)
  by_cases c2 : IntKind.i64.wrap (bits .and .u8 k 3) = 2
  · exact .inr (.inr (.inl ⟨c2, _, put10_rel l0 a1 l2 a3 l4 a5 l6 a7 h0 h2 h4 h6, _, put10_rel l0 a1 l2 a3 m b l6 a7 h0 h2 hm h6, fields_core (rf l0 a1 ++ rf l2 a3) (rf l6 a7) l4 m a5 b 2 (by omega) (by rw [List.length_append, r0, r2]) r6 h4 hm b4 bm h5 hb 2 rfl _ _ (by simp [nodeb]) (by simp [nodeb])⟩))
  · exact .inr (.inr (.inr ⟨by omega, _, put10_rel l0 a1 l2 a3 l4 a5 l6 a7 h0 h2 h4 h6, _, put10_rel l0 a1 l2 a3 l4 a5 m b h0 h2 h4 hm, fields_core (rf l0 a1 ++ (rf l2 a3 ++ rf l4 a5)) [] l6 m a7 b 3 (by omega) (by rw [List.length_append, List.length_append, r0, r2, r4]) rfl h6 hm b6 bm h7 hb 3 rfl _ _ (by simp [nodeb]) (by simp [nodeb])⟩))
end Go.Proofs.YtekpnjhacnkgcaaDoor
