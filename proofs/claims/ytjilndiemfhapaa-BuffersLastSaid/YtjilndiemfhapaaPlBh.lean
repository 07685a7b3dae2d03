/- Buffers: a block that is held stays; the last ones are kept: plainly. -/
import Derived.Test.YtjilndiemfhapaaPlBl
namespace Go.Proofs.Ytjilndiemfhapaa
open Go Go.Kr Go.RowKit
set_option linter.unusedVariables false
set_option linter.unusedSimpArgs false

/-! ### 1. What an operation leaves of the things with a key -/
theorem filter_without {l : List R60} {q : Nat} (p : R60 → Bool) (h : q < l.length) (hp : p (gx l q) = false) : (without l q).filter p = l.filter p := by
  conv => rhs; rw [gx_split h]
  unfold without
  rw [List.filter_append, List.filter_append, List.filter_cons, hp]
  rfl
/-- Block 7 is kept, held once, with these bytes; no other one is held. -/
structure H7 (b : List Int) (l : List R60) : Prop where
  one : l.filter (keyB 7) = [(7, b, 1)]
  free : ∀ x ∈ l, x.1 ≠ 7 → x.2.2 = 0
  blk : Blk l
theorem H7.find {b : List Int} {l : List R60} (h : H7 b l) : ∃ i : Nat, fix (keyB 7) l = (i : Int) ∧ i < l.length ∧ gx l i = (7, b, 1) := by
  have hm : (7, b, 1) ∈ l.filter (keyB 7) := by rw [h.one]; simp
  have hn : ¬ fix (keyB 7) l < 0 := fun hf => by
    have := fix_neg.1 hf _ (List.mem_filter.1 hm).1
    simp [keyB] at this
  obtain ⟨i, e, hi, k1, _⟩ := fix_pos hn
  refine ⟨i, e, hi, ?_⟩
  have : gx l i ∈ l.filter (keyB 7) := List.mem_filter.2 ⟨gx_mem hi, k1⟩
  rw [h.one] at this
  simpa using this
theorem H7.cons {b c : List Int} {l : List R60} (h : H7 b l) {k : Int} (hk : k ≠ 7) (hc : c.length = 160) : H7 b ((k, c, 0) :: l) := by
  refine ⟨?_, ?_, ?_⟩
  · rw [List.filter_cons, if_neg (by simp [keyB, hk])]; exact h.one
  · intro x hx h7
    rcases List.mem_cons.1 hx with rfl | hx
    · rfl
    · exact h.free x hx h7
  · intro x hx
    rcases List.mem_cons.1 hx with rfl | hx
    · exact hc
    · exact h.blk x hx
theorem H7.without {b : List Int} {l : List R60} (h : H7 b l) {q : Nat} (hq : q < l.length) (h7 : (gx l q).1 ≠ 7) : H7 b (without l q) :=
  ⟨by rw [filter_without _ hq (by simp [keyB, h7])]; exact h.one, fun x hx => h.free x (mem_without hx), fun x hx => h.blk x (mem_without hx)⟩
theorem H7.put {b c : List Int} {l : List R60} {most : Int} (h : H7 b l) {k : Int} (hk : k ≠ 7) (hc : c.length = 160) (hl : (l.length : Int) ≤ most) (hm : 2 ≤ most) :
    ∃ l', putF most l k c = (l', 0) ∧ H7 b l' ∧ ∃ y r, l' = y :: r ∧ y.1 = k := by
  unfold putF
  rw [if_neg (by omega)]
  by_cases hf : fix (keyB k) l < 0
  · rw [if_pos hf]
    unfold roomF
    by_cases hge : (l.length : Int) ≥ most
    · rw [if_pos hge]
      cases hlf : lastFree l with
      | none =>
        exfalso
        obtain ⟨i, _, hi, hgi⟩ := h.find
        have hall := lastFree_none.1 hlf
        obtain ⟨j, hj, hji⟩ : ∃ j, j < l.length ∧ j ≠ i := by
          by_cases h0 : i = 0
          · exact ⟨1, by omega, by omega⟩
          · exact ⟨0, by omega, by omega⟩
        by_cases h7 : (gx l j).1 = 7
        · have : 2 ≤ (l.filter (keyB 7)).length := by
            have key : ∀ {a b : Nat}, a < b → b < l.length → (gx l a).1 = 7 → (gx l b).1 = 7 → 2 ≤ (l.filter (keyB 7)).length := fun {a c} hab hb2 ha hc2 => by
              conv => rhs; rw [gx_split (l := l) (i := c) hb2]
              rw [List.filter_append, List.length_append, List.filter_cons, if_pos (by simp [keyB, hc2])]
              have h3 : gx l a ∈ (l.take c).filter (keyB 7) := List.mem_filter.2 ⟨by
                rw [gx_lt (by omega)]
                exact List.mem_take_iff_getElem.2 ⟨a, by omega, rfl⟩, by simp [keyB, ha]⟩
              have := List.length_pos_of_mem h3
              simp only [List.length_cons]
              omega
            rcases Nat.lt_or_gt_of_ne hji with hh | hh
            · exact key hh hi h7 (by rw [hgi])
            · exact key hh hj (by rw [hgi]) h7
          rw [h.one] at this
          simp at this
        · exact hall _ (gx_mem hj) (h.free _ (gx_mem hj) h7)
      | some q =>
        obtain ⟨k1, k2, _⟩ := lastFree_some hlf
        have h7 : (gx l q).1 ≠ 7 := fun e => by
          have : gx l q ∈ l.filter (keyB 7) := List.mem_filter.2 ⟨gx_mem k1, by simp [keyB, e]⟩
          rw [h.one] at this
          have e2 : gx l q = (7, b, 1) := by simpa using this
          rw [e2] at k2
          cases k2
        exact ⟨_, rfl, (h.without k1 h7).cons hk hc, _, _, rfl, rfl⟩
    · rw [if_neg hge]
      exact ⟨_, rfl, h.cons hk hc, _, _, rfl, rfl⟩
  · rw [if_neg hf]
    obtain ⟨i, e, hi, k1, _⟩ := fix_pos hf
    rw [e, Int.toNat_natCast]
    have ek : (gx l i).1 = k := by simpa [keyB] using k1
    have h7 : (gx l i).1 ≠ 7 := by rw [ek]; exact hk
    rw [h.free _ (gx_mem hi) h7, ek]
    exact ⟨_, rfl, (h.without hi h7).cons hk hc, _, _, rfl, rfl⟩
theorem H7.get {b : List Int} {l : List R60} (h : H7 b l) : ∃ r, getF l 7 = ((7, b, 1) :: r, b, true) := by
  obtain ⟨i, e, hi, hg⟩ := h.find
  unfold getF
  rw [e, if_neg (by omega), Int.toNat_natCast, hg]
  unfold toFront
  rw [hg]
  exact ⟨_, rfl⟩
theorem hold_end (l : List R60) (b : List Int) (x : Int) (m : Int) (hH : H7 b l) (hl : l.length ≤ 1000) (hb : gn b 0 = x) (hb2 : b.length = 160) :
    (∃ (a_312_0 : Int) (l_316_1 : List R60) (l_324 : List Int) (a_328 : Bool), buffers_Cache_Get.rel m l 7 a_312_0 l_316_1 l_324 a_328 ∧ (a_328 = true ∧ ((0 ≤ (0 : Int) ∧ (0 : Int) < (l_324.length : Int)) ∧ ((gn l_324 0) = x ∧ (∃ (a_344_0 : Int) (l_348_1 : List R60) (a_353 : Bool), buffers_Cache_Unpin.rel a_312_0 l_316_1 7 a_344_0 l_348_1 a_353 ∧ (a_353 = true ∧ (∃ (a_363_0 : Int) (l_367_1 : List R60) (a_372 : Bool), buffers_Cache_Drop.rel a_344_0 l_348_1 7 a_363_0 l_367_1 a_372 ∧ a_372 = true))))))) := by
  obtain ⟨r, hr⟩ := hH.get
  have q1 := bu_get m l 7 (by omega) hH.blk.le
  have hlen : (getF l 7).1.length = l.length := by
    obtain ⟨i, e, hi, hg⟩ := hH.find
    unfold getF
    rw [e, if_neg (by omega), Int.toNat_natCast]
    exact toFront_length hi
  have hmem : ∀ y ∈ (getF l 7).1, y ∈ l := by
    obtain ⟨i, e, hi, hg⟩ := hH.find
    unfold getF
    rw [e, if_neg (by omega), Int.toNat_natCast]
    intro y hy
    rcases List.mem_cons.1 hy with rfl | hy
    · exact gx_mem hi
    · exact mem_without hy
  rw [hr] at q1 hlen hmem
  have hsm : ∀ y ∈ ((7, b, 1) :: r : List R60), 0 ≤ y.2.2 ∧ y.2.2 ≤ 1000000 := fun y hy => by
    have hy' := hmem y hy
    by_cases h7 : y.1 = 7
    · have : y ∈ l.filter (keyB 7) := List.mem_filter.2 ⟨hy', by simp [keyB, h7]⟩
      rw [hH.one] at this
      obtain rfl : y = (7, b, 1) := by simpa using this
      simp
    · rw [hH.free y hy' h7]; simp
  have f0 : ∀ h : Int, fix (keyB 7) ((7, b, h) :: r) = 0 := fun h => by rw [fix_cons]; rfl
  have q2 := bu_unpin m ((7, b, 1) :: r) 7 (by simp only at hlen; omega) hsm
  have e2 : unpinF ((7, b, 1) :: r) 7 = ((7, b, 0) :: r, true) := by
    unfold unpinF; rw [f0]; rfl
  rw [e2] at q2
  have q3 := bu_drop m ((7, b, 0) :: r) 7 (by simp only [List.length_cons] at hlen ⊢; omega)
  have e3 : dropF ((7, b, 0) :: r) 7 = (r, true) := by
    unfold dropF; rw [f0]; rfl
  rw [e3] at q3
  exact ⟨_, _, _, _, q1, rfl, ⟨by decide, by rw [hb2]; decide⟩, hb, _, _, _, q2, rfl, _, _, _, q3, rfl⟩
theorem hold_L1 (a0 : Int) (l1 : List Int) (a2 : Int) (m : Nat) (hm : IntKind.i64.wrap ((IntKind.i64.wrap (Int.tmod a0 8)) + 2) = (m : Int)) (hm2 : 2 ≤ m) (hm3 : m ≤ 20) (b : List Int) (hb : gn b 0 = a2) (hb2 : b.length = 160) : ∀ (d f i : Nat) (l : List R60), i + d = min l1.length 40 → d < f → H7 b l → l.length ≤ m →
    reliquarylaw15_BuffersHold.L1 a0 l1 a2 f l m false i := by
  intro d
  induction d with
  | zero =>
    intro f i l h1 h2 hH hl
    obtain ⟨f, rfl⟩ : ∃ m, f = m + 1 := ⟨f - 1, by omega⟩
    have he := hold_end l b a2 m hH (by omega) hb hb2
    by_cases hge : l1.length ≤ i
    · exact .inr ⟨by omega, he⟩
    · exact .inl ⟨by omega, .inr ⟨by omega, he⟩⟩
  | succ d ih =>
    intro f i l h1 h2 hH hl
    obtain ⟨f, rfl⟩ : ∃ m, f = m + 1 := ⟨f - 1, by omega⟩
    have ew : IntKind.i64.wrap ((i : Int) + 1) = ((i + 1 : Nat) : Int) := by rw [w64 (by omega) (by omega)]; omega
    refine .inl ⟨by omega, .inl ⟨by omega, ⟨by omega, by omega⟩, ?_⟩⟩
    rw [Int.toNat_natCast, ew]
    by_cases h7 : gn l1 i = 7
    · exact .inl ⟨h7, ih f (i + 1) l (by omega) (by omega) hH hl⟩
    · obtain ⟨l', e, hH', y, r, hy, hyk⟩ := hH.put h7 Z_length (by omega : (l.length : Int) ≤ m) (by omega)
      have q1 := bu_put m l (gn l1 i) Z (by omega) (by omega)
      have hl' := put_len m l (gn l1 i) Z (by omega) (by omega)
      rw [e] at q1 hl'
      have hl2 : l'.length ≤ m := by simp only at hl'; omega
      have q2 := bu_blocks m l' (by omega)
      refine .inr ⟨h7, ⟨by omega, by omega⟩, Z, bu_full [], _, _, _, q1, fun h => h rfl, _, _, _, q2, ?_, ⟨by omega, by omega⟩, _, _, _, q2, ?_, ?_, ih f (i + 1) l' (by omega) (by omega) hH' hl2⟩
      · rw [hm, List.length_map]; omega
      · rw [hy]; simp
      · subst hy
        rw [show gn (List.map (fun x : R60 => x.1) (y :: r)) 0 = y.1 from rfl, hyk]
        exact fun h => h rfl
theorem buffersHold_pure (a0 : Int) (l1 : List Int) (a2 : Int) (h0 : 0 ≤ a0 ∧ a0 < 256) (h1 : ∀ n ∈ l1, (Lit.int .u64 n).wf = true) (h2 : 0 ≤ a2 ∧ a2 < 256) : reliquarylaw15_BuffersHold.rel a0 l1 a2 := by
  obtain ⟨t, e1, ht⟩ := tmod_nat h0.1 8 (by decide)
  have hk : IntKind.i64.wrap ((IntKind.i64.wrap (Int.tmod a0 8)) + 2) = ((t + 2 : Nat) : Int) := by
    rw [show Int.tmod a0 8 = (t : Int) from e1, w64 (x := (t : Int)) (by omega) (by omega), w64 (by omega) (by omega)]; omega
  obtain ⟨F, hF⟩ : ∃ F, F = fullF [a2] 160 := ⟨_, rfl⟩
  have hFl : F.length = 160 := by rw [hF]; exact fullF_length _ _
  have hF0 : gn F 0 = a2 := by rw [hF]; rfl
  have q1 : buffers_Cache_Put.rel ((t + 2 : Nat) : Int) [] 7 F ((t + 2 : Nat) : Int) [(7, F, 0)] 0 := by
    have := bu_put ((t + 2 : Nat) : Int) [] 7 F (by decide) (by simp; omega)
    rwa [put_new hFl (by simp; omega) (by simp)] at this
  have f0 : ∀ h : Int, fix (keyB 7) [(7, F, h)] = 0 := fun h => by rw [fix_cons]; rfl
  have q2 : buffers_Cache_Pin.rel ((t + 2 : Nat) : Int) [(7, F, 0)] 7 ((t + 2 : Nat) : Int) [(7, F, 1)] true := by
    have := bu_pin ((t + 2 : Nat) : Int) [(7, F, 0)] 7 (by simp) (by simp)
    have e : pinF [(7, F, 0)] 7 = ([(7, F, 1)], true) := by unfold pinF; rw [f0]; rfl
    rwa [e] at this
  have q3 : buffers_Cache_Drop.rel ((t + 2 : Nat) : Int) [(7, F, 1)] 7 ((t + 2 : Nat) : Int) [(7, F, 1)] false := by
    have := bu_drop ((t + 2 : Nat) : Int) [(7, F, 1)] 7 (by simp)
    have e : dropF [(7, F, 1)] 7 = ([(7, F, 1)], false) := by unfold dropF; rw [f0]; rfl
    rwa [e] at this
  have hH : H7 F [(7, F, 1)] := ⟨by simp [keyB], by simp, fun x hx => by simp at hx; subst hx; exact hFl⟩
  refine ⟨bu_awake, [], false, ⟨-1, rfl, by decide, rfl, rfl⟩, trivial, by decide, Z, bu_full [], 1, rfl, by decide, false, ⟨-1, rfl, by decide, rfl⟩, by decide, false, ⟨-1, rfl, by decide, rfl⟩, by decide, false, ⟨-1, rfl, by decide, rfl⟩, by decide, [], rfl, by decide,
    ((t + 2 : Nat) : Int), [], by rw [hk]; exact bu_new _ (by omega), F, by rw [hF]; exact bu_full [a2], _, _, _, q1, _, _, _, q2, by decide, by decide, _, _, _, q3, by decide, l1.length + 41, ?_⟩
  exact hold_L1 a0 l1 a2 (t + 2) hk (by omega) (by omega) F hF0 hFl (min l1.length 40) _ 0 _ (by omega) (by omega) hH (by simp)
/-! ### 2. The last ones are kept -/
theorem put_cap {most : Nat} (hm : 0 < most) {X : List R60} {k : Int} {b : List Int} (hb : b.length = 160) (hk : ∀ x ∈ X.take most, x.1 ≠ k) (hh : ∀ x ∈ X, x.2.2 = 0) : putF most (X.take most) k b = (((k, b, 0) :: X).take most, 0) := by
  obtain ⟨m, rfl⟩ : ∃ m, most = m + 1 := ⟨most - 1, by omega⟩
  rw [List.take_succ_cons]
  by_cases hl : X.length ≤ m
  · rw [put_new hb (by rw [List.length_take]; omega) hk, List.take_of_length_le (by omega : X.length ≤ m + 1), List.take_of_length_le hl]
  · have hlen : (X.take (m + 1)).length = m + 1 := by rw [List.length_take]; omega
    have hall : ∀ x ∈ X.take (m + 1), x.2.2 = 0 := fun x hx => hh x (List.mem_of_mem_take hx)
    have hf : lastFree (X.take (m + 1)) = some m := lastFree_eq (by omega) (hall _ (gx_mem (by omega))) (fun p h1 h2 => by omega)
    rw [put_evict hb (by omega) hk hf]
    congr 1
    unfold without
    rw [List.take_take, List.drop_eq_nil_of_le (by omega), List.append_nil, Nat.min_eq_left (by omega)]
def Fi (i : Nat) : List Int := fullF [(i : Int)] 160
theorem Fi_length (i : Nat) : (Fi i).length = 160 := fullF_length _ _
/-- Blocks i - 1, .., 0. -/
def Ld : Nat → List R60
  | 0 => []
  | i + 1 => ((i : Int), Fi i, 0) :: Ld i
theorem Ld_length : ∀ i, (Ld i).length = i
  | 0 => rfl
  | i + 1 => by rw [Ld, List.length_cons, Ld_length i]
theorem Ld_gx : ∀ (i j : Nat), j < i → gx (Ld i) j = (((i - 1 - j : Nat) : Int), Fi (i - 1 - j), 0)
  | 0, j, h => by omega
  | i + 1, 0, h => rfl
  | i + 1, j + 1, h => by
    rw [Ld, gx_cons_succ, Ld_gx i j (by omega)]
    rw [show i + 1 - 1 - (j + 1) = i - 1 - j by omega]
theorem Ld_mem {i : Nat} {x : R60} (h : x ∈ Ld i) : ∃ j, j < i ∧ x = ((j : Int), Fi j, 0) := by
  obtain ⟨p, hp, rfl⟩ := List.getElem_of_mem h
  rw [Ld_length] at hp
  exact ⟨i - 1 - p, by omega, by rw [← gx_lt (by rw [Ld_length]; exact hp), Ld_gx i p hp]⟩
/-- Blocks 99 + i, .., 100. -/
def Ln : Nat → List R60
  | 0 => []
  | i + 1 => (100 + (i : Int), Z, 0) :: Ln i
theorem Ln_length : ∀ i, (Ln i).length = i
  | 0 => rfl
  | i + 1 => by rw [Ln, List.length_cons, Ln_length i]
theorem Ln_mem : ∀ {i : Nat} {x : R60}, x ∈ Ln i → 100 ≤ x.1 ∧ x.1 < 100 + (i : Int) ∧ x.2.1.length = 160 ∧ x.2.2 = 0
  | 0, x, h => by simp [Ln] at h
  | i + 1, x, h => by
    rcases List.mem_cons.1 h with rfl | h
    · exact ⟨by show (100 : Int) ≤ 100 + (i : Int); omega, by show 100 + (i : Int) < 100 + ((i + 1 : Nat) : Int); omega, Z_length, rfl⟩
    · have := Ln_mem h; exact ⟨this.1, by omega, this.2.2⟩
theorem mem_front {l : List R60} {i : Nat} {x : R60} (hi : i < l.length) (h : x ∈ toFront l i) : x ∈ l := by
  rcases List.mem_cons.1 h with rfl | h
  · exact gx_mem hi
  · exact mem_without h
theorem last_wraps (a0 a1 : Int) (n k : Nat) (e1 : Int.tmod a0 8 = (n : Int)) (hn : n < 8) (e2 : Int.tmod a1 16 = (k : Int)) (hk : k < 16) : IntKind.i64.wrap ((IntKind.i64.wrap (Int.tmod a0 8)) + 1) = ((n + 1 : Nat) : Int) ∧ IntKind.i64.wrap (Int.tmod a1 16) = (k : Int) := by
  rw [e1, e2, w64 (x := (n : Int)) (by omega) (by omega), w64 (x := (k : Int)) (by omega) (by omega), w64 (by omega) (by omega)]
  exact ⟨by omega, rfl⟩
theorem last_L3 (a0 a2 : Int) (n k u : Nat) (hn : n < 8) (e1 : IntKind.i64.wrap ((IntKind.i64.wrap (Int.tmod a0 8)) + 1) = ((n + 1 : Nat) : Int)) (lb : List Int) (a : Nat) (ha : a < 16) (hu : gn lb ((Int.tmod (IntKind.i64.wrap a2) (lb.length : Int)).toNat) = (a : Int)) (r : List R60) (hr : ∀ x ∈ r, x.2.2 = 0 ∧ x.2.1.length = 160 ∧ x.1 < 16) :
    ∀ (d f i : Nat), i + d = n → d < f → reliquarylaw15_BuffersLast.L3 a0 a2 lb f ((Ln i ++ ((a : Int), Fi a, 0) :: r).take (n + 1)) ((n + 1 : Nat) : Int) i := by
  have hX : ∀ i, ∀ x ∈ Ln i ++ ((a : Int), Fi a, (0 : Int)) :: r, x.2.2 = 0 ∧ x.2.1.length = 160 := fun i x hx => by
    rcases List.mem_append.1 hx with hx | hx
    · have := Ln_mem hx; exact ⟨this.2.2.2, this.2.2.1⟩
    · rcases List.mem_cons.1 hx with rfl | hx
      · exact ⟨rfl, Fi_length a⟩
      · have := hr x hx; exact ⟨this.1, this.2.1⟩
  have ew : IntKind.i64.wrap (((n + 1 : Nat) : Int) - 1) = (n : Int) := by rw [w64 (by omega) (by omega)]; omega
  intro d
  induction d with
  | zero =>
    intro f i h1 h2
    obtain ⟨f, rfl⟩ : ∃ m, f = m + 1 := ⟨f - 1, by omega⟩
    obtain rfl : i = n := by omega
    have hlen : ((Ln i ++ ((a : Int), Fi a, (0 : Int)) :: r).take (i + 1)).length = i + 1 := by
      rw [List.length_take, List.length_append, Ln_length, List.length_cons]; omega
    have hgi : gx ((Ln i ++ ((a : Int), Fi a, (0 : Int)) :: r).take (i + 1)) i = ((a : Int), Fi a, 0) := by
      rw [gx_lt (by omega), List.getElem_take, List.getElem_append_right (by rw [Ln_length]; omega)]
      simp [Ln_length]
    have hfix : fix (keyB (a : Int)) ((Ln i ++ ((a : Int), Fi a, (0 : Int)) :: r).take (i + 1)) = (i : Int) := by
      refine fix_eq (by omega) (by rw [hgi]; simp [keyB]) fun j hj => ?_
      have hm : gx ((Ln i ++ ((a : Int), Fi a, (0 : Int)) :: r).take (i + 1)) j ∈ Ln i := by
        rw [gx_lt (by omega), List.getElem_take, List.getElem_append_left (by rw [Ln_length]; omega)]
        exact List.getElem_mem _
      have := Ln_mem hm
      simp [keyB]; omega
    have q1 := bu_get ((i + 1 : Nat) : Int) ((Ln i ++ ((a : Int), Fi a, (0 : Int)) :: r).take (i + 1)) a (by omega) (fun x hx => by
      have := hX i x (List.mem_of_mem_take hx); omega)
    unfold getF at q1
    rw [hfix, if_neg (by omega), Int.toNat_natCast, hgi] at q1
    refine ⟨(i : Int), by rw [e1, ew], .inr ⟨by omega, _, _, _, _, by rw [hu]; exact q1, rfl, ⟨by decide, by simp only; rw [Fi_length]; decide⟩, _, rfl, ?_⟩⟩
    rw [hu, wu8 (by omega) (by omega)]
    rfl
  | succ d ih =>
    intro f i h1 h2
    obtain ⟨f, rfl⟩ : ∃ m, f = m + 1 := ⟨f - 1, by omega⟩
    have e100 : IntKind.u64.wrap (IntKind.i64.wrap (100 + (i : Int))) = 100 + (i : Int) := by rw [w64 (by omega) (by omega), wu64 (by omega) (by omega)]
    have q1 := bu_put ((n + 1 : Nat) : Int) ((Ln i ++ ((a : Int), Fi a, (0 : Int)) :: r).take (n + 1)) (100 + (i : Int)) Z (by rw [List.length_take]; omega) (by rw [List.length_take]; omega)
    rw [put_cap (by omega) Z_length (fun x hx => by
      rcases List.mem_append.1 (List.mem_of_mem_take hx) with hx | hx
      · have := Ln_mem hx; omega
      · rcases List.mem_cons.1 hx with rfl | hx
        · simp only; omega
        · have := hr x hx; omega) (fun x hx => (hX i x hx).1)] at q1
    refine ⟨(n : Int), by rw [e1, ew], .inl ⟨by omega, Z, bu_full [], _, _, _, by rw [e100]; exact q1, ?_⟩⟩
    rw [show IntKind.i64.wrap ((i : Int) + 1) = ((i + 1 : Nat) : Int) by rw [w64 (by omega) (by omega)]; omega]
    exact ih f (i + 1) (by omega) (by omega)
theorem last_L2 (a0 a1 a2 : Int) (n k : Nat) (hn : n < 8) (hk : k < 16) (h2 : 0 ≤ a2 ∧ a2 < 256) (e1 : IntKind.i64.wrap ((IntKind.i64.wrap (Int.tmod a0 8)) + 1) = ((n + 1 : Nat) : Int)) (e2 : IntKind.i64.wrap (Int.tmod a1 16) = (k : Int)) :
    ∀ (d f i : Nat), i + d = min k (n + 1) → d < f → reliquarylaw15_BuffersLast.L2 a0 a1 a2 ((n + 1 : Nat) : Int) ((Ld k).take (n + 1)) (((Ld k).take (n + 1)).map (·.1)) f false i := by
  have hlen : ((Ld k).take (n + 1)).length = min k (n + 1) := by rw [List.length_take, Ld_length]; omega
  have hg : ∀ j, j < min k (n + 1) → gx ((Ld k).take (n + 1)) j = (((k - 1 - j : Nat) : Int), Fi (k - 1 - j), 0) := fun j hj => by
    rw [gx_lt (by omega), List.getElem_take, ← gx_lt (by rw [Ld_length]; omega), Ld_gx k j (by omega)]
  have hgn : ∀ j, j < min k (n + 1) → gn (((Ld k).take (n + 1)).map (·.1)) j = ((k - 1 - j : Nat) : Int) := fun j hj => by
    have := hg j hj
    rw [gx_lt (by omega)] at this
    unfold gn
    rw [List.getD_eq_getElem?_getD, List.getElem?_map, List.getElem?_eq_getElem (by omega), this]
    rfl
  intro d
  induction d with
  | zero =>
    intro f i h1 h3
    obtain ⟨f, rfl⟩ : ∃ m, f = m + 1 := ⟨f - 1, by omega⟩
    refine .inr ⟨by rw [List.length_map]; omega, ?_⟩
    by_cases hlt : ((((Ld k).take (n + 1)).map (·.1)).length : Int) < 2
    · exact .inl ⟨hlt, trivial⟩
    · rw [List.length_map, hlen] at hlt
      obtain ⟨u, hu, hul⟩ := tmod_nat (a := a2) h2.1 (min k (n + 1)) (by omega)
      have hu2 : Int.tmod (IntKind.i64.wrap a2) ((((Ld k).take (n + 1)).map (·.1)).length : Int) = (u : Int) := by
        rw [w64 (by omega) (by omega), List.length_map, hlen]; exact hu
      refine .inr ⟨by rw [List.length_map]; omega, by rw [List.length_map]; omega, ⟨by rw [hu2]; omega, by rw [hu2, List.length_map]; omega⟩, ?_⟩
      have hgu := hgn u hul
      have hfix : fix (keyB ((k - 1 - u : Nat) : Int)) ((Ld k).take (n + 1)) = (u : Int) := by
        refine fix_eq (by omega) (by rw [hg u hul]; simp [keyB]) fun j hj => ?_
        rw [hg j (by omega)]
        simp [keyB]; omega
      have hX : ∀ x ∈ (Ld k).take (n + 1), x.2.2 = 0 ∧ x.2.1.length = 160 ∧ x.1 < 16 := fun x hx => by
        obtain ⟨j, hj, rfl⟩ := Ld_mem (List.mem_of_mem_take hx)
        exact ⟨rfl, Fi_length j, by simp only; omega⟩
      have q1 := bu_get ((n + 1 : Nat) : Int) ((Ld k).take (n + 1)) ((k - 1 - u : Nat) : Int) (by omega) (fun x hx => by have := hX x hx; omega)
      unfold getF at q1
      rw [hfix, if_neg (by omega), Int.toNat_natCast] at q1
      refine ⟨_, _, _, _, by rw [hu2, Int.toNat_natCast, hgu]; exact q1, n + 1, ?_⟩
      have hfl : (toFront ((Ld k).take (n + 1)) u).length = min k (n + 1) := by rw [toFront_length (by omega), hlen]
      have := last_L3 a0 a2 n k u hn e1 (((Ld k).take (n + 1)).map (·.1)) (k - 1 - u) (by omega) (by rw [hu2, Int.toNat_natCast]; exact hgu) (((Ld k).take (n + 1)).take u ++ ((Ld k).take (n + 1)).drop (u + 1)) (fun x hx => hX x (mem_without hx)) n (n + 1) 0 (by omega) (by omega)
      rw [show Ln 0 ++ (((k - 1 - u : Nat) : Int), Fi (k - 1 - u), (0 : Int)) :: (((Ld k).take (n + 1)).take u ++ ((Ld k).take (n + 1)).drop (u + 1)) = toFront ((Ld k).take (n + 1)) u by unfold toFront; rw [hg u hul]; rfl, show List.take (n + 1) (toFront ((Ld k).take (n + 1)) u) = toFront ((Ld k).take (n + 1)) u from List.take_of_length_le (by omega)] at this
      exact this
  | succ d ih =>
    intro f i h1 h3
    obtain ⟨f, rfl⟩ : ∃ m, f = m + 1 := ⟨f - 1, by omega⟩
    have ea : IntKind.i64.wrap ((IntKind.i64.wrap ((IntKind.i64.wrap (Int.tmod a1 16)) - 1)) - (i : Int)) = ((k - 1 - i : Nat) : Int) := by
      rw [e2, w64 (x := (k : Int) - 1) (by omega) (by omega), w64 (by omega) (by omega)]; omega
    refine .inl ⟨by rw [List.length_map]; omega, ⟨by omega, by rw [List.length_map]; omega⟩, _, ea.symm, ?_, ?_⟩
    · rw [Int.toNat_natCast, hgn i (by omega), wu64 (by omega) (by omega)]
      exact fun h => h rfl
    · rw [show IntKind.i64.wrap ((i : Int) + 1) = ((i + 1 : Nat) : Int) by rw [w64 (by omega) (by omega)]; omega]
      exact ih f (i + 1) (by omega) (by omega)
theorem last_L5 (a0 a2 : Int) (n k u : Nat) (hn : n < 8) (e1 : IntKind.i64.wrap ((IntKind.i64.wrap (Int.tmod a0 8)) + 1) = ((n + 1 : Nat) : Int)) (lb : List Int) (a : Nat) (ha : a < 16) (hu : gn lb ((Int.tmod (IntKind.i64.wrap a2) (lb.length : Int)).toNat) = (a : Int)) (r : List R60) (hr : ∀ x ∈ r, x.2.2 = 0 ∧ x.2.1.length = 160 ∧ x.1 < 16) :
    ∀ (d f i : Nat), i + d = n → d < f → reliquarylaw15_BuffersLast.L5 a0 a2 lb f ((Ln i ++ ((a : Int), Fi a, 0) :: r).take (n + 1)) ((n + 1 : Nat) : Int) i := by
  have hX : ∀ i, ∀ x ∈ Ln i ++ ((a : Int), Fi a, (0 : Int)) :: r, x.2.2 = 0 ∧ x.2.1.length = 160 := fun i x hx => by
    rcases List.mem_append.1 hx with hx | hx
    · have := Ln_mem hx; exact ⟨this.2.2.2, this.2.2.1⟩
    · rcases List.mem_cons.1 hx with rfl | hx
      · exact ⟨rfl, Fi_length a⟩
      · have := hr x hx; exact ⟨this.1, this.2.1⟩
  have ew : IntKind.i64.wrap (((n + 1 : Nat) : Int) - 1) = (n : Int) := by rw [w64 (by omega) (by omega)]; omega
  intro d
  induction d with
  | zero =>
    intro f i h1 h2
    obtain ⟨f, rfl⟩ : ∃ m, f = m + 1 := ⟨f - 1, by omega⟩
    obtain rfl : i = n := by omega
    have hlen : ((Ln i ++ ((a : Int), Fi a, (0 : Int)) :: r).take (i + 1)).length = i + 1 := by
      rw [List.length_take, List.length_append, Ln_length, List.length_cons]; omega
    have hgi : gx ((Ln i ++ ((a : Int), Fi a, (0 : Int)) :: r).take (i + 1)) i = ((a : Int), Fi a, 0) := by
      rw [gx_lt (by omega), List.getElem_take, List.getElem_append_right (by rw [Ln_length]; omega)]
      simp [Ln_length]
    have hfix : fix (keyB (a : Int)) ((Ln i ++ ((a : Int), Fi a, (0 : Int)) :: r).take (i + 1)) = (i : Int) := by
      refine fix_eq (by omega) (by rw [hgi]; simp [keyB]) fun j hj => ?_
      have hm : gx ((Ln i ++ ((a : Int), Fi a, (0 : Int)) :: r).take (i + 1)) j ∈ Ln i := by
        rw [gx_lt (by omega), List.getElem_take, List.getElem_append_left (by rw [Ln_length]; omega)]
        exact List.getElem_mem _
      have := Ln_mem hm
      simp [keyB]; omega
    have q1 := bu_get ((i + 1 : Nat) : Int) ((Ln i ++ ((a : Int), Fi a, (0 : Int)) :: r).take (i + 1)) a (by omega) (fun x hx => by
      have := hX i x (List.mem_of_mem_take hx); omega)
    unfold getF at q1
    rw [hfix, if_neg (by omega), Int.toNat_natCast, hgi] at q1
    refine ⟨(i : Int), by rw [e1, ew], .inr ⟨by omega, _, _, _, _, by rw [hu]; exact q1, rfl, ⟨by decide, by simp only; rw [Fi_length]; decide⟩, _, rfl, ?_⟩⟩
    rw [hu, wu8 (by omega) (by omega)]
    rfl
  | succ d ih =>
    intro f i h1 h2
    obtain ⟨f, rfl⟩ : ∃ m, f = m + 1 := ⟨f - 1, by omega⟩
    have e100 : IntKind.u64.wrap (IntKind.i64.wrap (100 + (i : Int))) = 100 + (i : Int) := by rw [w64 (by omega) (by omega), wu64 (by omega) (by omega)]
    have q1 := bu_put ((n + 1 : Nat) : Int) ((Ln i ++ ((a : Int), Fi a, (0 : Int)) :: r).take (n + 1)) (100 + (i : Int)) Z (by rw [List.length_take]; omega) (by rw [List.length_take]; omega)
    rw [put_cap (by omega) Z_length (fun x hx => by
      rcases List.mem_append.1 (List.mem_of_mem_take hx) with hx | hx
      · have := Ln_mem hx; omega
      · rcases List.mem_cons.1 hx with rfl | hx
        · simp only; omega
        · have := hr x hx; omega) (fun x hx => (hX i x hx).1)] at q1
    refine ⟨(n : Int), by rw [e1, ew], .inl ⟨by omega, Z, bu_full [], _, _, _, by rw [e100]; exact q1, ?_⟩⟩
    rw [show IntKind.i64.wrap ((i : Int) + 1) = ((i + 1 : Nat) : Int) by rw [w64 (by omega) (by omega)]; omega]
    exact ih f (i + 1) (by omega) (by omega)
theorem last_L4 (a0 a1 a2 : Int) (n k : Nat) (hn : n < 8) (hk : k < 16) (h2 : 0 ≤ a2 ∧ a2 < 256) (e1 : IntKind.i64.wrap ((IntKind.i64.wrap (Int.tmod a0 8)) + 1) = ((n + 1 : Nat) : Int)) (e2 : IntKind.i64.wrap (Int.tmod a1 16) = (k : Int)) :
    ∀ (d f i : Nat), i + d = min k (n + 1) → d < f → reliquarylaw15_BuffersLast.L4 a0 a1 a2 ((n + 1 : Nat) : Int) ((Ld k).take (n + 1)) (((Ld k).take (n + 1)).map (·.1)) f false i := by
  have hlen : ((Ld k).take (n + 1)).length = min k (n + 1) := by rw [List.length_take, Ld_length]; omega
  have hg : ∀ j, j < min k (n + 1) → gx ((Ld k).take (n + 1)) j = (((k - 1 - j : Nat) : Int), Fi (k - 1 - j), 0) := fun j hj => by
    rw [gx_lt (by omega), List.getElem_take, ← gx_lt (by rw [Ld_length]; omega), Ld_gx k j (by omega)]
  have hgn : ∀ j, j < min k (n + 1) → gn (((Ld k).take (n + 1)).map (·.1)) j = ((k - 1 - j : Nat) : Int) := fun j hj => by
    have := hg j hj
    rw [gx_lt (by omega)] at this
    unfold gn
    rw [List.getD_eq_getElem?_getD, List.getElem?_map, List.getElem?_eq_getElem (by omega), this]
    rfl
  intro d
  induction d with
  | zero =>
    intro f i h1 h3
    obtain ⟨f, rfl⟩ : ∃ m, f = m + 1 := ⟨f - 1, by omega⟩
    refine .inr ⟨by rw [List.length_map]; omega, ?_⟩
    by_cases hlt : ((((Ld k).take (n + 1)).map (·.1)).length : Int) < 2
    · exact .inl ⟨hlt, trivial⟩
    · rw [List.length_map, hlen] at hlt
      obtain ⟨u, hu, hul⟩ := tmod_nat (a := a2) h2.1 (min k (n + 1)) (by omega)
      have hu2 : Int.tmod (IntKind.i64.wrap a2) ((((Ld k).take (n + 1)).map (·.1)).length : Int) = (u : Int) := by
        rw [w64 (by omega) (by omega), List.length_map, hlen]; exact hu
      refine .inr ⟨by rw [List.length_map]; omega, by rw [List.length_map]; omega, ⟨by rw [hu2]; omega, by rw [hu2, List.length_map]; omega⟩, ?_⟩
      have hgu := hgn u hul
      have hfix : fix (keyB ((k - 1 - u : Nat) : Int)) ((Ld k).take (n + 1)) = (u : Int) := by
        refine fix_eq (by omega) (by rw [hg u hul]; simp [keyB]) fun j hj => ?_
        rw [hg j (by omega)]
        simp [keyB]; omega
      have hX : ∀ x ∈ (Ld k).take (n + 1), x.2.2 = 0 ∧ x.2.1.length = 160 ∧ x.1 < 16 := fun x hx => by
        obtain ⟨j, hj, rfl⟩ := Ld_mem (List.mem_of_mem_take hx)
        exact ⟨rfl, Fi_length j, by simp only; omega⟩
      have q1 := bu_get ((n + 1 : Nat) : Int) ((Ld k).take (n + 1)) ((k - 1 - u : Nat) : Int) (by omega) (fun x hx => by have := hX x hx; omega)
      unfold getF at q1
      rw [hfix, if_neg (by omega), Int.toNat_natCast] at q1
      refine ⟨_, _, _, _, by rw [hu2, Int.toNat_natCast, hgu]; exact q1, n + 1, ?_⟩
      have hfl : (toFront ((Ld k).take (n + 1)) u).length = min k (n + 1) := by rw [toFront_length (by omega), hlen]
      have := last_L5 a0 a2 n k u hn e1 (((Ld k).take (n + 1)).map (·.1)) (k - 1 - u) (by omega) (by rw [hu2, Int.toNat_natCast]; exact hgu) (((Ld k).take (n + 1)).take u ++ ((Ld k).take (n + 1)).drop (u + 1)) (fun x hx => hX x (mem_without hx)) n (n + 1) 0 (by omega) (by omega)
      rw [show Ln 0 ++ (((k - 1 - u : Nat) : Int), Fi (k - 1 - u), (0 : Int)) :: (((Ld k).take (n + 1)).take u ++ ((Ld k).take (n + 1)).drop (u + 1)) = toFront ((Ld k).take (n + 1)) u by unfold toFront; rw [hg u hul]; rfl, show List.take (n + 1) (toFront ((Ld k).take (n + 1)) u) = toFront ((Ld k).take (n + 1)) u from List.take_of_length_le (by omega)] at this
      exact this
  | succ d ih =>
    intro f i h1 h3
    obtain ⟨f, rfl⟩ : ∃ m, f = m + 1 := ⟨f - 1, by omega⟩
    have ea : IntKind.i64.wrap ((IntKind.i64.wrap ((IntKind.i64.wrap (Int.tmod a1 16)) - 1)) - (i : Int)) = ((k - 1 - i : Nat) : Int) := by
      rw [e2, w64 (x := (k : Int) - 1) (by omega) (by omega), w64 (by omega) (by omega)]; omega
    refine .inl ⟨by rw [List.length_map]; omega, ⟨by omega, by rw [List.length_map]; omega⟩, _, ea.symm, ?_, ?_⟩
    · rw [Int.toNat_natCast, hgn i (by omega), wu64 (by omega) (by omega)]
      exact fun h => h rfl
    · rw [show IntKind.i64.wrap ((i : Int) + 1) = ((i + 1 : Nat) : Int) by rw [w64 (by omega) (by omega)]; omega]
      exact ih f (i + 1) (by omega) (by omega)
theorem last_L1 (a0 a1 a2 : Int) (n k : Nat) (hn : n < 8) (hk : k < 16) (h2 : 0 ≤ a2 ∧ a2 < 256) (e1 : IntKind.i64.wrap ((IntKind.i64.wrap (Int.tmod a0 8)) + 1) = ((n + 1 : Nat) : Int)) (e2 : IntKind.i64.wrap (Int.tmod a1 16) = (k : Int)) :
    ∀ (d f i : Nat), i + d = k → d < f → reliquarylaw15_BuffersLast.L1 a0 a1 a2 f ((Ld i).take (n + 1)) ((n + 1 : Nat) : Int) false i := by
  intro d
  induction d with
  | zero =>
    intro f i h1 h3
    obtain ⟨f, rfl⟩ : ∃ m, f = m + 1 := ⟨f - 1, by omega⟩
    obtain rfl : i = k := by omega
    have hlen : ((Ld i).take (n + 1)).length = min i (n + 1) := by rw [List.length_take, Ld_length]; omega
    refine .inr ⟨by rw [e2]; omega, _, _, _, bu_blocks ((n + 1 : Nat) : Int) ((Ld i).take (n + 1)) (by omega), ?_⟩
    rw [e1, e2, List.length_map, hlen]
    by_cases hgt : i > n + 1
    · exact .inl ⟨by omega, by omega, min i (n + 1) + 1, last_L2 a0 a1 a2 n i hn hk h2 e1 e2 (min i (n + 1)) _ 0 (by omega) (by omega)⟩
    · exact .inr ⟨by omega, by omega, min i (n + 1) + 1, last_L4 a0 a1 a2 n i hn hk h2 e1 e2 (min i (n + 1)) _ 0 (by omega) (by omega)⟩
  | succ d ih =>
    intro f i h1 h3
    obtain ⟨f, rfl⟩ : ∃ m, f = m + 1 := ⟨f - 1, by omega⟩
    have q1 := bu_put ((n + 1 : Nat) : Int) ((Ld i).take (n + 1)) i (Fi i) (by rw [List.length_take]; omega) (by rw [List.length_take]; omega)
    rw [put_cap (by omega) (Fi_length i) (fun x hx => by
      obtain ⟨j, hj, rfl⟩ := Ld_mem (List.mem_of_mem_take hx)
      simp only; omega) (fun x hx => by obtain ⟨j, hj, rfl⟩ := Ld_mem hx; rfl)] at q1
    refine .inl ⟨by rw [e2]; omega, Fi i, by rw [wu8 (by omega) (by omega)]; exact bu_full _, _, _, _, by rw [wu64 (by omega) (by omega)]; exact q1, fun h => h rfl, ?_⟩
    rw [show IntKind.i64.wrap ((i : Int) + 1) = ((i + 1 : Nat) : Int) by rw [w64 (by omega) (by omega)]; omega]
    exact ih f (i + 1) (by omega) (by omega)
theorem buffersLast_pure (a0 a1 a2 : Int) (h0 : 0 ≤ a0 ∧ a0 < 256) (h1 : 0 ≤ a1 ∧ a1 < 256) (h2 : 0 ≤ a2 ∧ a2 < 256) : reliquarylaw15_BuffersLast.rel a0 a1 a2 := by
  obtain ⟨n, e1, hn⟩ := tmod_nat h0.1 8 (by decide)
  obtain ⟨k, e2, hk⟩ := tmod_nat h1.1 16 (by decide)
  obtain ⟨e3, e4⟩ := last_wraps a0 a1 n k e1 hn e2 hk
  refine ⟨bu_awake, ((n + 1 : Nat) : Int), [], by rw [e3]; exact bu_new _ (by omega), k + 1, ?_⟩
  exact last_L1 a0 a1 a2 n k hn hk h2 e3 e4 k (k + 1) 0 (by omega) (by omega)
end Go.Proofs.Ytjilndiemfhapaa
