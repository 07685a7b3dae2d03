/- Buffers: what the walks compute, as functions of rows. -/
import Derived.Test.YtjilndiemfhapaaGx
import Derived.Test.YtjilndiemfhapaaPlA
namespace Go.Proofs.Ytjilndiemfhapaa
open Go Go.Kr Go.RowKit
set_option linter.unusedVariables false
set_option linter.unusedSimpArgs false

/-! ### 1. Rows -/
theorem gx_lt {α : Type} [Inhabited α] {l : List α} {i : Nat} (h : i < l.length) : gx l i = l[i] := by
  unfold gx; rw [List.getD_eq_getElem?_getD, List.getElem?_eq_getElem h]; rfl
theorem gx_mem {α : Type} [Inhabited α] {l : List α} {i : Nat} (h : i < l.length) : gx l i ∈ l := by rw [gx_lt h]; exact List.getElem_mem h
theorem gx_cons_succ {α : Type} [Inhabited α] (x : α) (l : List α) (i : Nat) : gx (x :: l) (i + 1) = gx l i := rfl
theorem gx_split {α : Type} [Inhabited α] {l : List α} {i : Nat} (h : i < l.length) : l = l.take i ++ gx l i :: l.drop (i + 1) := by
  rw [gx_lt h, ← List.drop_eq_getElem_cons h, List.take_append_drop]
theorem gx_app_lt {α : Type} [Inhabited α] {a b : List α} {i : Nat} (h : i < a.length) : gx (a ++ b) i = gx a i := by
  rw [gx_lt (by rw [List.length_append]; omega), gx_lt h, List.getElem_append_left h]
theorem gx_app_ge {α : Type} [Inhabited α] {a b : List α} {i : Nat} (h : a.length ≤ i) (h2 : i < a.length + b.length) : gx (a ++ b) i = gx b (i - a.length) := by
  rw [gx_lt (by rw [List.length_append]; omega), gx_lt (by omega), List.getElem_append_right h]
/-- Where the first thing of a kind stands; the length, if there is none. -/
def fix {α : Type} (p : α → Bool) (l : List α) : Int := if l.findIdx p < l.length then (l.findIdx p : Int) else -1
theorem fix_neg {α : Type} {p : α → Bool} {l : List α} : fix p l < 0 ↔ ∀ x ∈ l, p x = false := by
  unfold fix
  constructor
  · intro h x hx
    split at h
    · omega
    · rename_i hge
      cases hp : p x with
      | false => rfl
      | true => exact absurd (List.findIdx_lt_length_of_exists ⟨x, hx, hp⟩) hge
  · intro h
    rw [if_neg]
    · decide
    · intro hlt
      have := List.findIdx_getElem (p := p) (w := hlt)
      rw [h _ (List.getElem_mem hlt)] at this
      cases this
theorem fix_pos {α : Type} [Inhabited α] {p : α → Bool} {l : List α} (h : ¬ fix p l < 0) : ∃ i : Nat, fix p l = (i : Int) ∧ i < l.length ∧ p (gx l i) = true ∧ ∀ j, j < i → p (gx l j) = false := by
  unfold fix at h ⊢
  split at h
  · rename_i hlt
    refine ⟨l.findIdx p, by rw [if_pos hlt], hlt, ?_, ?_⟩
    · rw [gx_lt hlt]; exact List.findIdx_getElem (w := hlt)
    · intro j hj
      rw [gx_lt (by omega)]
      exact Bool.not_eq_true _ ▸ List.not_of_lt_findIdx hj
  · omega
theorem fix_eq {α : Type} [Inhabited α] {p : α → Bool} {l : List α} {i : Nat} (hi : i < l.length) (h1 : p (gx l i) = true) (h2 : ∀ j, j < i → p (gx l j) = false) : fix p l = (i : Int) := by
  have hn : ¬ fix p l < 0 := fun h => by
    have := fix_neg.1 h _ (gx_mem hi)
    rw [h1] at this; cases this
  obtain ⟨k, e, hk, k1, k2⟩ := fix_pos hn
  rw [e]
  rcases Nat.lt_trichotomy k i with h | h | h
  · rw [h2 k h] at k1; cases k1
  · rw [h]
  · rw [k2 i h] at h1; cases h1

/-! ### 2. The methods' parts -/
theorem bu_find_L1 (l : List R60) (k : Int) : ∀ (d f i : Nat) (z : Int), i + d = l.length → d < f → l.length ≤ 1099511627776 → (∀ j, j < i → (gx l j).1 ≠ k) →
    slices_IndexFunc_s_buffers_buffer_buffers_buffer_clo1_buffers_Cache_find_1.L1 l k (fix (fun x : R60 => x.1 == k) l) f z i := by
  intro d
  induction d with
  | zero =>
    intro f i z h1 h2 h3 h4
    obtain ⟨f, rfl⟩ : ∃ m, f = m + 1 := ⟨f - 1, by omega⟩
    refine .inr ⟨by omega, ?_⟩
    unfold fix
    rw [if_neg]
    intro hlt
    have := List.findIdx_getElem (p := fun x : R60 => x.1 == k) (w := hlt)
    have h5 := h4 _ (by omega : l.findIdx (fun x : R60 => x.1 == k) < i)
    rw [gx_lt hlt] at h5
    exact h5 (by simpa using this)
  | succ d ih =>
    intro f i z h1 h2 h3 h4
    obtain ⟨f, rfl⟩ : ∃ m, f = m + 1 := ⟨f - 1, by omega⟩
    refine .inl ⟨by omega, ⟨by omega, by omega⟩, ((gx l i).1 == k), rfl, ?_⟩
    by_cases hk : (gx l i).1 = k
    · exact .inl ⟨by simpa using hk, fix_eq (by omega) (by simpa using hk) (fun j hj => by simpa using h4 j hj)⟩
    · refine .inr ⟨by simpa using hk, ?_⟩
      rw [show IntKind.i64.wrap ((i : Int) + 1) = ((i + 1 : Nat) : Int) by rw [w64 (by omega) (by omega)]; omega]
      refine ih f (i + 1) z (by omega) (by omega) h3 fun j hj => ?_
      rcases Nat.lt_or_ge j i with h | h
      · exact h4 j h
      · obtain rfl : j = i := by omega
        exact hk
def keyB (k : Int) (x : R60) : Bool := x.1 == k
theorem bu_find (a : Int) (l : List R60) (k : Int) (h : l.length ≤ 1099511627776) : buffers_Cache_find.rel a l k a l (fix (keyB k) l) :=
  ⟨_, ⟨l.length + 1, bu_find_L1 l k l.length _ 0 0 (by omega) (by omega) h (by omega)⟩, rfl, rfl, rfl⟩
/-- One stands first. -/
def toFront (l : List R60) (i : Nat) : List R60 := gx l i :: (l.take i ++ l.drop (i + 1))
theorem toFront_length {l : List R60} {i : Nat} (h : i < l.length) : (toFront l i).length = l.length := by
  simp [toFront]; omega
theorem bu_front (a : Int) (l : List R60) (i : Nat) (hi : i < l.length) (h : l.length ≤ 1099511627776) : buffers_Cache_front.rel a l i a (toFront l i) := by
  have e1 : IntKind.i64.wrap ((i : Int) + 1) = ((i + 1 : Nat) : Int) := by rw [w64 (by omega) (by omega)]; omega
  refine ⟨⟨by omega, by omega⟩, ?_⟩
  rw [e1]
  refine ⟨⟨by omega, by omega, by omega⟩, ⟨by omega, by omega, by omega⟩, by omega, _, rfl, ⟨by omega, ?_⟩, _, rfl, rfl, ?_⟩
  · rw [cpyR_length _ _ _ _ (by omega) (by omega)]; omega
  · unfold toFront cpyR
    have e2 : min ((i : Int).toNat - ((0 : Int)).toNat) (((i + 1 : Nat) : Int).toNat - ((1 : Int)).toNat) = i := by omega
    rw [e2]
    have e3 : l.take ((1 : Int)).toNat = [l[0]'(by omega)] := by
      rw [show ((1 : Int)).toNat = 1 from rfl, List.take_one]
      simp [List.head?_eq_getElem?, List.getElem?_eq_getElem (show 0 < l.length by omega)]
    rw [e3, Int.toNat_natCast, show ((0 : Int)).toNat = 0 from rfl, List.drop_zero, show ((1 : Int)).toNat + i = i + 1 by rw [show ((1 : Int)).toNat = 1 from rfl]; omega]
    rfl
theorem bu_clone (l : List Int) (h : l.length ≤ 1099511627776) : slices_Clone_s_byte_byte.rel l l := ⟨fun h => h, l, rfl, h, rfl⟩
/-- The last one that isn't held. -/
def lastFree : List R60 → Option Nat
  | [] => none
  | x :: l => match lastFree l with
    | some q => some (q + 1)
    | none => if x.2.2 = 0 then some 0 else none
theorem lastFree_none : ∀ {l : List R60}, lastFree l = none ↔ ∀ x ∈ l, x.2.2 ≠ 0
  | [] => by simp [lastFree]
  | x :: l => by
    have ih := lastFree_none (l := l)
    unfold lastFree
    cases h : lastFree l with
    | none =>
      have h1 := ih.1 h
      simp only
      split
      · rename_i h0
        simp [h0]
      · rename_i h0
        simp only [List.mem_cons, true_iff]
        rintro y (rfl | hy)
        · exact h0
        · exact h1 y hy
    | some q =>
      refine ⟨fun h2 => (by cases h2), fun hall => ?_⟩
      have := ih.2 fun y hy => hall y (List.mem_cons_of_mem _ hy)
      rw [h] at this
      cases this
theorem lastFree_some : ∀ {l : List R60} {q : Nat}, lastFree l = some q → q < l.length ∧ (gx l q).2.2 = 0 ∧ ∀ p, q < p → p < l.length → (gx l p).2.2 ≠ 0
  | [], q, h => by simp [lastFree] at h
  | x :: l, q, h => by
    unfold lastFree at h
    cases h1 : lastFree l with
    | some r =>
      rw [h1] at h
      simp only [Option.some.injEq] at h
      subst h
      obtain ⟨k1, k2, k3⟩ := lastFree_some h1
      refine ⟨by simp; omega, k2, fun p hp hl => ?_⟩
      obtain ⟨p, rfl⟩ : ∃ m, p = m + 1 := ⟨p - 1, by omega⟩
      exact k3 p (by omega) (by simp at hl; omega)
    | none =>
      rw [h1] at h
      simp only at h
      split at h
      · rename_i h0
        cases h
        refine ⟨by simp, h0, fun p hp hl => ?_⟩
        obtain ⟨p, rfl⟩ : ∃ m, p = m + 1 := ⟨p - 1, by omega⟩
        have hl' : p < l.length := by simp at hl; omega
        exact lastFree_none.1 h1 _ (gx_mem hl')
      · cases h
theorem lastFree_eq {l : List R60} {q : Nat} (h1 : q < l.length) (h2 : (gx l q).2.2 = 0) (h3 : ∀ p, q < p → p < l.length → (gx l p).2.2 ≠ 0) : lastFree l = some q := by
  cases h : lastFree l with
  | none => exact absurd h2 (lastFree_none.1 h _ (gx_mem h1))
  | some r =>
    obtain ⟨k1, k2, k3⟩ := lastFree_some h
    rcases Nat.lt_trichotomy q r with hh | hh | hh
    · exact absurd k2 (h3 r hh k1)
    · rw [hh]
    · exact absurd h2 (k3 q hh h1)
def without (l : List R60) (q : Nat) : List R60 := l.take q ++ l.drop (q + 1)
theorem without_length {l : List R60} {q : Nat} (h : q < l.length) : (without l q).length = l.length - 1 := by simp [without]; omega
theorem bu_delete (l : List R60) (q : Nat) (h : q < l.length) (hl : l.length ≤ 1099511627776) : slices_Delete_s_buffers_buffer_buffers_buffer_own0.rel l q (IntKind.i64.wrap ((q : Int) + 1)) (without l q) := by
  have e1 : IntKind.i64.wrap ((q : Int) + 1) = ((q + 1 : Nat) : Int) := by rw [w64 (by omega) (by omega)]; omega
  rw [e1]
  refine ⟨⟨⟨by omega, by omega, by omega⟩, hl⟩, ?_⟩
  rw [Int.toNat_natCast, Int.toNat_natCast]
  rfl
/-- Room for one more. -/
def roomF (most : Int) (l : List R60) : Option (List R60) :=
  if (l.length : Int) ≥ most then (lastFree l).map (without l) else some l
theorem bu_room (most : Int) (l : List R60) (h : l.length ≤ 1099511627776) (hm : (l.length : Int) ≤ most) : buffers_Cache_room.rel most l most ((roomF most l).getD l) (roomF most l).isSome := by
  unfold roomF
  by_cases hge : (l.length : Int) ≥ most
  · rw [if_pos hge]
    refine .inl ⟨hge, ⟨h, fun q hq => ?_⟩, fun hall => ?_⟩
    · by_cases h0 : (gx l q).2.2 = 0
      · refine .inr ⟨h0, fun hlater => .inr ⟨by omega, without l q, bu_delete l q hq h, ?_, rfl, ?_, ?_⟩⟩
        · rw [without_length hq]; omega
        · rw [lastFree_eq hq h0 fun p h1 h2 => (hlater p h1 h2).1]; rfl
        · rw [lastFree_eq hq h0 fun p h1 h2 => (hlater p h1 h2).1]; rfl
      · exact .inl ⟨h0, trivial⟩
    · have : lastFree l = none := by
        rw [lastFree_none]
        intro x hx
        obtain ⟨p, hp, rfl⟩ := List.getElem_of_mem hx
        rw [← gx_lt hp]
        exact (hall p hp).1
      rw [this]
      exact ⟨rfl, rfl, rfl⟩
  · rw [if_neg hge]
    exact .inr ⟨hge, rfl, rfl, rfl⟩

/-! ### 3. The methods -/
def putF (most : Int) (l : List R60) (k : Int) (b : List Int) : List R60 × Int :=
  if b.length ≠ 160 then (l, 1)
  else if fix (keyB k) l < 0 then
    match roomF most l with
    | none => (l, 17)
    | some l' => ((k, b, 0) :: l', 0)
  else (((gx l (fix (keyB k) l).toNat).1, b, (gx l (fix (keyB k) l).toNat).2.2) :: without l (fix (keyB k) l).toNat, 0)
theorem set_without (l : List R60) (i : Nat) (x : R60) (h : i < l.length) : toFront (l.set i x) i = x :: without l i := by
  unfold toFront without
  rw [gx_lt (by simpa using h), List.getElem_set_self, List.take_set_of_le (Nat.le_refl _), List.drop_set_of_lt (by omega)]
theorem roomF_length {most : Int} {l l' : List R60} (h : roomF most l = some l') : l'.length ≤ l.length ∧ ((l.length : Int) ≤ most → (l'.length : Int) + 1 ≤ most ∨ most ≤ 0) := by
  unfold roomF at h
  split at h
  · cases hf : lastFree l with
    | none => rw [hf] at h; cases h
    | some q =>
      rw [hf] at h
      cases h
      have := (lastFree_some hf).1
      rw [without_length this]
      exact ⟨by omega, fun _ => by omega⟩
  · cases h
    exact ⟨Nat.le_refl _, fun _ => by omega⟩
theorem bu_put (most : Int) (l : List R60) (k : Int) (b : List Int) (h : l.length ≤ 1000000) (hm : (l.length : Int) ≤ most) : buffers_Cache_Put.rel most l k b most (putF most l k b).1 (putF most l k b).2 := by
  unfold putF
  by_cases hb : b.length = 160
  · rw [if_neg (by omega)]
    refine .inr ⟨by omega, most, l, _, bu_find most l k (by omega), ?_⟩
    by_cases hf : fix (keyB k) l < 0
    · rw [if_pos hf]
      refine .inl ⟨hf, most, _, _, bu_room most l (by omega) hm, ?_⟩
      cases hr : roomF most l with
      | none => exact .inl ⟨by simp, rfl, rfl, rfl⟩
      | some l' =>
        have hl := (roomF_length hr).1
        have hlen : ((l' ++ ([(k, [], 0)] : List R60)).length : Int) - 1 = (l'.length : Int) := by simp
        have e1 : IntKind.i64.wrap (((l' ++ ([(k, [], 0)] : List R60)).length : Int) - 1) = (l'.length : Int) := by rw [w64 (by rw [hlen]; omega) (by rw [hlen]; omega)]; exact hlen
        refine .inr ⟨by simp, l' ++ ([(k, [], 0)] : List R60), rfl, by simp; omega, b, bu_clone b (by omega), ?_⟩
        rw [e1]
        refine ⟨⟨by omega, by rw [List.length_append]; simp; omega⟩, _, rfl, most, _, bu_front most _ l'.length (by simp) (by simp; omega), rfl, ?_, rfl⟩
        rw [Int.toNat_natCast, set_without _ _ _ (by simp)]
        rw [gx_app_ge (Nat.le_refl _) (by simp), Nat.sub_self]
        unfold without
        rw [List.take_left' rfl, List.drop_eq_nil_of_le (by simp), List.append_nil]
        rfl
    · rw [if_neg hf]
      obtain ⟨i, e, hi, _, _⟩ := fix_pos hf
      refine .inr ⟨hf, b, bu_clone b (by omega), ?_⟩
      rw [e, Int.toNat_natCast]
      refine ⟨⟨by omega, by omega⟩, _, rfl, most, _, bu_front most _ i (by simpa using hi) (by simp; omega), rfl, ?_, rfl⟩
      rw [set_without _ _ _ hi]
  · rw [if_pos hb]
    exact .inl ⟨by omega, rfl, rfl, rfl⟩
def getF (l : List R60) (k : Int) : List R60 × List Int × Bool :=
  if fix (keyB k) l < 0 then (l, [], false) else (toFront l (fix (keyB k) l).toNat, (gx l (fix (keyB k) l).toNat).2.1, true)
theorem bu_get (most : Int) (l : List R60) (k : Int) (h : l.length ≤ 1000000) (hb : ∀ x ∈ l, x.2.1.length ≤ 1000000) : buffers_Cache_Get.rel most l k most (getF l k).1 (getF l k).2.1 (getF l k).2.2 := by
  unfold getF
  refine ⟨most, l, _, bu_find most l k (by omega), ?_⟩
  by_cases hf : fix (keyB k) l < 0
  · rw [if_pos hf]
    exact .inl ⟨hf, rfl, rfl, rfl, rfl⟩
  · rw [if_neg hf]
    obtain ⟨i, e, hi, _, _⟩ := fix_pos hf
    rw [e, Int.toNat_natCast]
    refine .inr ⟨by omega, most, _, bu_front most l i hi (by omega), ⟨by omega, by rw [toFront_length hi]; omega⟩, _, bu_clone _ ?_, rfl, rfl, rfl, rfl⟩
    have := hb _ (gx_mem hi)
    show (gx l i).2.1.length ≤ _
    omega
def holdF (l : List R60) (i : Nat) (y : Int) : List R60 := l.set i ((gx l i).1, (gx l i).2.1, y)
def pinF (l : List R60) (k : Int) : List R60 × Bool :=
  if fix (keyB k) l < 0 then (l, false) else (holdF l (fix (keyB k) l).toNat ((gx l (fix (keyB k) l).toNat).2.2 + 1), true)
theorem bu_pin (most : Int) (l : List R60) (k : Int) (h : l.length ≤ 1000000) (hh : ∀ x ∈ l, 0 ≤ x.2.2 ∧ x.2.2 ≤ 1000000) : buffers_Cache_Pin.rel most l k most (pinF l k).1 (pinF l k).2 := by
  unfold pinF
  refine ⟨most, l, _, bu_find most l k (by omega), ?_⟩
  by_cases hf : fix (keyB k) l < 0
  · rw [if_pos hf]
    exact .inl ⟨hf, rfl, rfl, rfl⟩
  · rw [if_neg hf]
    obtain ⟨i, e, hi, _, _⟩ := fix_pos hf
    rw [e, Int.toNat_natCast]
    have h1 := hh _ (gx_mem hi)
    refine .inr ⟨by omega, ⟨by omega, by omega⟩, ⟨by omega, by omega⟩, _, rfl, rfl, ?_, rfl⟩
    rw [w64 (by omega) (by omega)]
    rfl
def unpinF (l : List R60) (k : Int) : List R60 × Bool :=
  if fix (keyB k) l < 0 ∨ (gx l (fix (keyB k) l).toNat).2.2 = 0 then (l, false) else (holdF l (fix (keyB k) l).toNat ((gx l (fix (keyB k) l).toNat).2.2 - 1), true)
theorem bu_unpin (most : Int) (l : List R60) (k : Int) (h : l.length ≤ 1000000) (hh : ∀ x ∈ l, 0 ≤ x.2.2 ∧ x.2.2 ≤ 1000000) : buffers_Cache_Unpin.rel most l k most (unpinF l k).1 (unpinF l k).2 := by
  unfold unpinF
  refine ⟨most, l, _, bu_find most l k (by omega), ?_⟩
  by_cases hf : fix (keyB k) l < 0
  · rw [if_pos (.inl hf)]
    exact .inl ⟨hf, rfl, rfl, rfl⟩
  · obtain ⟨i, e, hi, _, _⟩ := fix_pos hf
    rw [e, Int.toNat_natCast]
    have h1 := hh _ (gx_mem hi)
    refine .inr ⟨by omega, ⟨by omega, by omega⟩, ?_⟩
    by_cases h0 : (gx l i).2.2 = 0
    · rw [if_pos (.inr h0)]
      exact .inl ⟨h0, rfl, rfl, rfl⟩
    · rw [if_neg (by rintro (h | h) <;> omega)]
      refine .inr ⟨h0, ⟨by omega, by omega⟩, ⟨by omega, by omega⟩, _, rfl, rfl, ?_, rfl⟩
      rw [w64 (by omega) (by omega)]
      rfl
def dropF (l : List R60) (k : Int) : List R60 × Bool :=
  if fix (keyB k) l < 0 ∨ (gx l (fix (keyB k) l).toNat).2.2 > 0 then (l, false) else (without l (fix (keyB k) l).toNat, true)
theorem bu_drop (most : Int) (l : List R60) (k : Int) (h : l.length ≤ 1000000) : buffers_Cache_Drop.rel most l k most (dropF l k).1 (dropF l k).2 := by
  unfold dropF
  refine ⟨most, l, _, bu_find most l k (by omega), ?_⟩
  by_cases hf : fix (keyB k) l < 0
  · rw [if_pos (.inl hf)]
    exact .inl ⟨hf, rfl, rfl, rfl⟩
  · obtain ⟨i, e, hi, _, _⟩ := fix_pos hf
    rw [e, Int.toNat_natCast]
    refine .inr ⟨by omega, ⟨by omega, by omega⟩, ?_⟩
    by_cases h0 : (gx l i).2.2 > 0
    · rw [if_pos (.inr h0)]
      exact .inl ⟨h0, rfl, rfl, rfl⟩
    · rw [if_neg (by rintro (h | h) <;> omega)]
      exact .inr ⟨h0, _, bu_delete l i hi (by omega), rfl, rfl, rfl⟩
theorem bu_clear (most : Int) (l : List R60) : buffers_Cache_Clear.rel most l most [] := ⟨rfl, rfl⟩
theorem bu_blocks_L1 (a : Int) (l : List R60) (h : l.length ≤ 1000000) : ∀ (d f i : Nat), i + d = l.length → d < f → buffers_Cache_Blocks.L1 a l a l (l.map (·.1)) f ((l.take i).map (·.1)) i := by
  intro d
  induction d with
  | zero =>
    intro f i h1 h2
    obtain ⟨f, rfl⟩ : ∃ m, f = m + 1 := ⟨f - 1, by omega⟩
    refine .inr ⟨by omega, rfl, rfl, ?_⟩
    rw [List.take_of_length_le (by omega)]
  | succ d ih =>
    intro f i h1 h2
    obtain ⟨f, rfl⟩ : ∃ m, f = m + 1 := ⟨f - 1, by omega⟩
    have e1 : (l.take (i + 1)).map (·.1) = (l.take i).map (·.1) ++ [(gx l i).1] := by
      rw [List.take_succ_eq_append_getElem (by omega), List.map_append, gx_lt (by omega)]
      rfl
    refine .inl ⟨by omega, ⟨by omega, by omega⟩, _, rfl, ?_, ?_⟩
    · simp; omega
    · rw [Int.toNat_natCast, ← e1, show IntKind.i64.wrap ((i : Int) + 1) = ((i + 1 : Nat) : Int) by rw [w64 (by omega) (by omega)]; omega]
      exact ih f (i + 1) (by omega) (by omega)
theorem bu_blocks (a : Int) (l : List R60) (h : l.length ≤ 1000000) : buffers_Cache_Blocks.rel a l a l (l.map (·.1)) :=
  ⟨l.length + 1, bu_blocks_L1 a l h l.length _ 0 (by omega) (by omega)⟩
theorem bu_new (n : Int) (h : 0 ≤ n) : buffers_New.rel n n [] := by
  refine ⟨?_, rfl⟩
  unfold maxI
  split <;> omega

/-! ### 4. Filled up -/
def fullF (l : List Int) (n : Nat) : List Int := l.take n ++ List.replicate (n - l.length) 0
theorem fullF_length (l : List Int) (n : Nat) : (fullF l n).length = n := by simp [fullF]; omega
theorem fullF_set (l : List Int) (n i : Nat) (hi : i < l.length) (hn : i < n) : (fullF (l.take i) n).set i (gn l i) = fullF (l.take (i + 1)) n := by
  refine List.ext_getElem (by rw [List.length_set, fullF_length, fullF_length]) fun j h1 h2 => ?_
  rw [List.length_set, fullF_length] at h1
  have hg : ∀ (m : Nat) (hm : m ≤ l.length), (fullF (l.take m) n)[j]'(by rw [fullF_length]; exact h1) = if j < m then l.getD j 0 else 0 := fun m hm => by
    simp only [fullF, List.getElem_append]
    split
    · rename_i hlt
      simp only [List.length_take] at hlt
      rw [if_pos (by omega)]
      simp only [List.getElem_take]
      rw [List.getD_eq_getElem?_getD, List.getElem?_eq_getElem (by omega)]
      rfl
    · rename_i hge
      simp only [List.length_take] at hge
      rw [if_neg (by omega)]
      simp
  rw [List.getElem_set, hg i (by omega), hg (i + 1) (by omega)]
  by_cases e : i = j
  · subst e
    rw [if_pos rfl, if_pos (by omega)]
    rfl
  · rw [if_neg e]
    by_cases hlt : j < i
    · rw [if_pos hlt, if_pos (by omega)]
    · rw [if_neg hlt, if_neg (by omega)]
theorem fullF_over (l : List Int) (n i : Nat) (h : n ≤ i) : fullF (l.take i) n = fullF l n := by
  unfold fullF
  rw [List.take_take, Nat.min_eq_left h, List.length_take]
  congr 2
  omega
theorem bu_full_L2 (l : List Int) : ∀ (d f i : Nat), i + d = min l.length 160 → d < f → reliquarylaw15_full.L2 l (fullF l 160) f (fullF (l.take i) 160) i := by
  intro d
  induction d with
  | zero =>
    intro f i h1 h2
    obtain ⟨f, rfl⟩ : ∃ m, f = m + 1 := ⟨f - 1, by omega⟩
    by_cases hl : l.length ≤ i
    · refine .inr ⟨by omega, ?_⟩
      rw [List.take_of_length_le hl]
    · exact .inl ⟨by omega, .inr ⟨by omega, (fullF_over l 160 i (by omega)).symm⟩⟩
  | succ d ih =>
    intro f i h1 h2
    obtain ⟨f, rfl⟩ : ∃ m, f = m + 1 := ⟨f - 1, by omega⟩
    refine .inl ⟨by omega, .inl ⟨by omega, ⟨by omega, by omega⟩, ⟨by omega, by rw [fullF_length]; omega⟩, _, rfl, ?_⟩⟩
    rw [Int.toNat_natCast, fullF_set l 160 i (by omega) (by omega), show IntKind.i64.wrap ((i : Int) + 1) = ((i + 1 : Nat) : Int) by rw [w64 (by omega) (by omega)]; omega]
    exact ih f (i + 1) (by omega) (by omega)
theorem bu_full_L1 (l : List Int) : ∀ (d f i : Nat), i + d = min l.length 159 → d < f → reliquarylaw15_full.L1 l (fullF l 159) f (fullF (l.take i) 159) i := by
  intro d
  induction d with
  | zero =>
    intro f i h1 h2
    obtain ⟨f, rfl⟩ : ∃ m, f = m + 1 := ⟨f - 1, by omega⟩
    by_cases hl : l.length ≤ i
    · refine .inr ⟨by omega, ?_⟩
      rw [List.take_of_length_le hl]
    · exact .inl ⟨by omega, .inr ⟨by omega, (fullF_over l 159 i (by omega)).symm⟩⟩
  | succ d ih =>
    intro f i h1 h2
    obtain ⟨f, rfl⟩ : ∃ m, f = m + 1 := ⟨f - 1, by omega⟩
    refine .inl ⟨by omega, .inl ⟨by omega, ⟨by omega, by omega⟩, ⟨by omega, by rw [fullF_length]; omega⟩, _, rfl, ?_⟩⟩
    rw [Int.toNat_natCast, fullF_set l 159 i (by omega) (by omega), show IntKind.i64.wrap ((i : Int) + 1) = ((i + 1 : Nat) : Int) by rw [w64 (by omega) (by omega)]; omega]
    exact ih f (i + 1) (by omega) (by omega)
theorem bu_full (l : List Int) : reliquarylaw15_full.rel l false (fullF l 160) := by
  refine .inr ⟨by decide, l.length + 161, ?_⟩
  have := bu_full_L2 l (min l.length 160) (l.length + 161) 0 (by omega) (by omega)
  simpa [fullF] using this
theorem bu_short (l : List Int) : reliquarylaw15_full.rel l true (fullF l 159) := by
  refine .inl ⟨rfl, l.length + 161, ?_⟩
  have := bu_full_L1 l (min l.length 159) (l.length + 161) 0 (by omega) (by omega)
  simpa [fullF] using this
end Go.Proofs.Ytjilndiemfhapaa
