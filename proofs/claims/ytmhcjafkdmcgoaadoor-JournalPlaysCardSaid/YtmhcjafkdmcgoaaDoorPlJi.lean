/- Journal: images filled up, and what an append does to a disk that never fails; plainly. -/
import Derived.Test.YtmhcjafkdmcgoaaDoorPlJo
import Derived.Test.YtmhcjafkdmcgoaaDoorPlJf
namespace Go.Proofs.YtmhcjafkdmcgoaaDoor
open Go Go.Kr Go.RowKit
set_option linter.unusedVariables false
set_option linter.unusedSimpArgs false
def fitAt (n j : Nat) (b : List Int) : List Int := (List.range n).map fun k => if k < j then gn b k else 0
def fitN (n : Nat) (b : List Int) : List Int := (List.range n).map fun k => gn b k
theorem fitAt_length (n j : Nat) (b : List Int) : (fitAt n j b).length = n := by simp [fitAt]
theorem fitN_length (n : Nat) (b : List Int) : (fitN n b).length = n := by simp [fitN]
theorem gn_fitAt {n j k : Nat} {b : List Int} (h : k < n) : gn (fitAt n j b) k = if k < j then gn b k else 0 := gn_map_range _ h
theorem fitN_byt (n : Nat) {b : List Int} (h : Byt b) : Byt (fitN n b) := fun x hx => by
 obtain ⟨k, _, rfl⟩ := List.mem_map.1 hx
 exact h.gn k
theorem fitAt_zero (n : Nat) (b : List Int) : fitAt n 0 b = List.replicate n 0 := by
 refine ext_gn (by rw [fitAt_length, List.length_replicate]) fun k hk => ?_
 rw [fitAt_length] at hk
 rw [gn_fitAt hk, gn_rep, if_neg (by omega)]
theorem fitAt_set {n j : Nat} {b : List Int} (h : j < n) : (fitAt n j b).set j (gn b j) = fitAt n (j + 1) b := by
 refine ext_gn (by rw [List.length_set, fitAt_length, fitAt_length]) fun k hk => ?_
 rw [List.length_set, fitAt_length] at hk
 rw [gn_set (by rw [fitAt_length]; exact h), gn_fitAt hk, gn_fitAt hk]
 by_cases c : k = j
 ·rw [if_pos c, if_pos (by omega), c]
 rw [if_neg c]
 by_cases c2 : k < j
 ·rw [if_pos c2, if_pos (by omega)]
 rw [if_neg c2, if_neg (by omega)]
theorem fitAt_end {n j : Nat} {b : List Int} (h : j = min b.length n) : fitAt n j b = fitN n b := by
 refine ext_gn (by rw [fitAt_length, fitN_length]) fun k hk => ?_
 rw [fitAt_length] at hk
 rw [gn_fitAt hk, show gn (fitN n b) k = gn b k from gn_map_range _ hk]
 by_cases c : k < j
 ·rw [if_pos c]
 rw [if_neg c, gn_over (by omega)]
theorem img_L2 (l0 acc : List RI) (i : Nat) (hi : i < l0.length) (hl : l0.length ≤ 1000000) (ha : acc.length ≤ 1000000) (K : List RI → Int → Prop) (hK : K (acc ++ ([((gx l0 i).1, fitN 159 (gx l0 i).2)] : List RI)) ((i + 1 : Nat) : Int)) :
  ∀ (d f j : Nat), j + d = min (gx l0 i).2.length 159 → d < f → reliquarylaw13_images.L2 l0 acc i K f (fitAt 159 j (gx l0 i).2) j := by
 have e1 : IntKind.i64.wrap ((i : Int) + 1) = ((i + 1 : Nat) : Int) := by rw [w64 (by omega) (by omega)]; omega
 have hal : (acc ++ ([((gx l0 i).1, fitN 159 (gx l0 i).2)] : List RI)).length ≤ 1099511627776 := by simp; omega
 intro d
 induction d with
 | zero =>
  intro f j h1 h2
  obtain ⟨f, rfl⟩ : ∃ m, f = m + 1 := ⟨f - 1, by omega⟩
  unfold reliquarylaw13_images.L2
  rw [Int.toNat_natCast, e1, fitAt_end (by omega)]
  refine ⟨⟨by omega, by omega⟩, ?_⟩
  by_cases c : (j : Int) < ((gx l0 i).2.length : Int)
  ·exact .inl ⟨c, .inr ⟨by omega, ⟨by omega, by omega⟩, _, rfl, hal, hK⟩⟩
  exact .inr ⟨c, ⟨by omega, by omega⟩, _, rfl, hal, hK⟩
 | succ d ih =>
  intro f j h1 h2
  obtain ⟨f, rfl⟩ : ∃ m, f = m + 1 := ⟨f - 1, by omega⟩
  have H := ih f (j + 1) (by omega) (by omega)
  unfold reliquarylaw13_images.L2
  rw [Int.toNat_natCast, Int.toNat_natCast]
  refine ⟨⟨by omega, by omega⟩, .inl ⟨by omega, .inl ⟨by omega, ⟨by omega, by omega⟩, ⟨by omega, by omega⟩, ⟨by omega, by rw [fitAt_length]; omega⟩, _, rfl, ?_⟩⟩⟩
  rw [fitAt_set (by omega), show IntKind.i64.wrap ((j : Int) + 1) = ((j + 1 : Nat) : Int) by rw [w64 (by omega) (by omega)]; omega]
  exact H
theorem img_L3 (l0 acc : List RI) (i : Nat) (hi : i < l0.length) (hl : l0.length ≤ 1000000) (ha : acc.length ≤ 1000000) (K : List RI → Int → Prop) (hK : K (acc ++ ([((gx l0 i).1, fitN 160 (gx l0 i).2)] : List RI)) ((i + 1 : Nat) : Int)) :
  ∀ (d f j : Nat), j + d = min (gx l0 i).2.length 160 → d < f → reliquarylaw13_images.L3 l0 acc i K f (fitAt 160 j (gx l0 i).2) j := by
 have e1 : IntKind.i64.wrap ((i : Int) + 1) = ((i + 1 : Nat) : Int) := by rw [w64 (by omega) (by omega)]; omega
 have hal : (acc ++ ([((gx l0 i).1, fitN 160 (gx l0 i).2)] : List RI)).length ≤ 1099511627776 := by simp; omega
 intro d
 induction d with
 | zero =>
  intro f j h1 h2
  obtain ⟨f, rfl⟩ : ∃ m, f = m + 1 := ⟨f - 1, by omega⟩
  unfold reliquarylaw13_images.L3
  rw [Int.toNat_natCast, e1, fitAt_end (by omega)]
  refine ⟨⟨by omega, by omega⟩, ?_⟩
  by_cases c : (j : Int) < ((gx l0 i).2.length : Int)
  ·exact .inl ⟨c, .inr ⟨by omega, ⟨by omega, by omega⟩, _, rfl, hal, hK⟩⟩
  exact .inr ⟨c, ⟨by omega, by omega⟩, _, rfl, hal, hK⟩
 | succ d ih =>
  intro f j h1 h2
  obtain ⟨f, rfl⟩ : ∃ m, f = m + 1 := ⟨f - 1, by omega⟩
  have H := ih f (j + 1) (by omega) (by omega)
  unfold reliquarylaw13_images.L3
  rw [Int.toNat_natCast, Int.toNat_natCast]
  refine ⟨⟨by omega, by omega⟩, .inl ⟨by omega, .inl ⟨by omega, ⟨by omega, by omega⟩, ⟨by omega, by omega⟩, ⟨by omega, by rw [fitAt_length]; omega⟩, _, rfl, ?_⟩⟩⟩
  rw [fitAt_set (by omega), show IntKind.i64.wrap ((j : Int) + 1) = ((j + 1 : Nat) : Int) by rw [w64 (by omega) (by omega)]; omega]
  exact H
theorem img_L4 (l0 acc : List RI) (i : Nat) (hi : i < l0.length) (hl : l0.length ≤ 1000000) (ha : acc.length ≤ 1000000) (K : List RI → Int → Prop) (hK : K (acc ++ ([((gx l0 i).1, fitN 160 (gx l0 i).2)] : List RI)) ((i + 1 : Nat) : Int)) :
  ∀ (d f j : Nat), j + d = min (gx l0 i).2.length 160 → d < f → reliquarylaw13_images.L4 l0 acc i K f (fitAt 160 j (gx l0 i).2) j := by
 have e1 : IntKind.i64.wrap ((i : Int) + 1) = ((i + 1 : Nat) : Int) := by rw [w64 (by omega) (by omega)]; omega
 have hal : (acc ++ ([((gx l0 i).1, fitN 160 (gx l0 i).2)] : List RI)).length ≤ 1099511627776 := by simp; omega
 intro d
 induction d with
 | zero =>
  intro f j h1 h2
  obtain ⟨f, rfl⟩ : ∃ m, f = m + 1 := ⟨f - 1, by omega⟩
  unfold reliquarylaw13_images.L4
  rw [Int.toNat_natCast, e1, fitAt_end (by omega)]
  refine ⟨⟨by omega, by omega⟩, ?_⟩
  by_cases c : (j : Int) < ((gx l0 i).2.length : Int)
  ·exact .inl ⟨c, .inr ⟨by omega, ⟨by omega, by omega⟩, _, rfl, hal, hK⟩⟩
  exact .inr ⟨c, ⟨by omega, by omega⟩, _, rfl, hal, hK⟩
 | succ d ih =>
  intro f j h1 h2
  obtain ⟨f, rfl⟩ : ∃ m, f = m + 1 := ⟨f - 1, by omega⟩
  have H := ih f (j + 1) (by omega) (by omega)
  unfold reliquarylaw13_images.L4
  rw [Int.toNat_natCast, Int.toNat_natCast]
  refine ⟨⟨by omega, by omega⟩, .inl ⟨by omega, .inl ⟨by omega, ⟨by omega, by omega⟩, ⟨by omega, by omega⟩, ⟨by omega, by rw [fitAt_length]; omega⟩, _, rfl, ?_⟩⟩⟩
  rw [fitAt_set (by omega), show IntKind.i64.wrap ((j : Int) + 1) = ((j + 1 : Nat) : Int) by rw [w64 (by omega) (by omega)]; omega]
  exact H
def imgL (l : List RI) (short : Bool) : List RI := (List.range l.length).map fun i : Nat => ((gx l i).1, fitN (if short = true ∧ i = 1 then 159 else 160) (gx l i).2)
theorem imgL_length (l : List RI) (s : Bool) : (imgL l s).length = l.length := by simp [imgL]
theorem imgL_gx {l : List RI} {s : Bool} {i : Nat} (h : i < l.length) : gx (imgL l s) i = ((gx l i).1, fitN (if s = true ∧ i = 1 then 159 else 160) (gx l i).2) := by
 rw [gx_lt (by rw [imgL_length]; exact h)]
 simp [imgL]
theorem img_L1 (l0 : List RI) (s : Bool) (hl : l0.length ≤ 1000000) : ∀ (d f i : Nat), i + d = l0.length → d < f → reliquarylaw13_images.L1 l0 s (imgL l0 s) f ((imgL l0 s).take i) i := by
 intro d
 induction d with
 | zero =>
  intro f i h1 h2
  obtain ⟨f, rfl⟩ : ∃ m, f = m + 1 := ⟨f - 1, by omega⟩
  exact .inr ⟨by omega, by rw [List.take_of_length_le (by rw [imgL_length]; omega)]⟩
 | succ d ih =>
  intro f i h1 h2
  obtain ⟨f, rfl⟩ : ∃ m, f = m + 1 := ⟨f - 1, by omega⟩
  have hil := imgL_length l0 s
  have H := ih f (i + 1) (by omega) (by omega)
  rw [List.take_succ_eq_append_getElem (by omega), ← gx_lt (by omega), imgL_gx (by omega)] at H
  have hacc : ((imgL l0 s).take i).length ≤ 1000000 := by rw [List.length_take]; omega
  refine .inl ⟨by omega, ?_⟩
  by_cases c1 : s = true
  ·refine .inl ⟨c1, ?_⟩
   by_cases c2 : i = 1
   ·subst c2
    rw [if_pos ⟨c1, rfl⟩] at H
    refine .inl ⟨rfl, 161, ?_⟩
    have := img_L2 l0 ((imgL l0 s).take 1) 1 (by omega) hl hacc _ H (min (gx l0 1).2.length 159) 161 0 (by omega) (by omega)
    rw [fitAt_zero] at this
    exact this
   rw [if_neg (by simp [c2])] at H
   refine .inr ⟨by omega, 161, ?_⟩
   have := img_L3 l0 ((imgL l0 s).take i) i (by omega) hl hacc _ H (min (gx l0 i).2.length 160) 161 0 (by omega) (by omega)
   rw [fitAt_zero] at this
   exact this
  rw [if_neg (by simp [c1])] at H
  refine .inr ⟨c1, 161, ?_⟩
  have := img_L4 l0 ((imgL l0 s).take i) i (by omega) hl hacc _ H (min (gx l0 i).2.length 160) 161 0 (by omega) (by omega)
  rw [fitAt_zero] at this
  exact this
theorem img_rel (l0 : List RI) (s : Bool) (hl : l0.length ≤ 1000000) : reliquarylaw13_images.rel l0 s (imgL l0 s) := by
 have := img_L1 l0 s hl l0.length (l0.length + 1) 0 (by omega) (by omega)
 rw [List.take_zero] at this
 exact ⟨_, this⟩
structure AppR (d : DS) (j : JS) (l : List RI) (d3 : DS) (nx s c : Int) (t : List Int) (e : Int) : Prop where
 rel : journal_Journal_Append.rel d.p d.u d.left d.down d.ops j.key j.first j.size j.start j.count j.tag j.next j.limit l d3.p d3.u d3.left d3.down d3.ops j.key j.first j.size j.start j.count j.tag nx j.limit s c t e
 wf : d3.Wf
 down : d3.down = false
 left : d3.left = d.left
 p : d3.p = d.p
 u : ∃ ws, d3.u = d.u ++ ws ∧ ws.length ≤ l.length ∧ ∀ y ∈ ws, ∃ q : Nat, q < l.length ∧ j.count + l.length ≤ j.size ∧ y.1 = placeJ j.first j.size j.start (j.count + q)
 ops : d3.ops.length ≤ d.ops.length + l.length
 nx1 : 1 ≤ nx ∧ nx ≤ j.next + l.length
 ok : e = 0 ↔ 0 < l.length ∧ (l.length : Int) ≤ j.size - j.count
 st : e = 0 → s = j.start ∧ c = j.count + l.length ∧ Byt t ∧ t.length = 32
 er : e ≠ 0 → l.length = 0 ∧ e = 1 ∨ (l.length : Int) > j.size - j.count ∧ e = 17
end Go.Proofs.YtmhcjafkdmcgoaaDoor
