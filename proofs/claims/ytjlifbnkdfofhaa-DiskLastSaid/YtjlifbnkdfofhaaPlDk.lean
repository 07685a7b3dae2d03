/- Disk: what the walks compute, as functions of a disk's state. -/
import Derived.Test.YtjlifbnkdfofhaaPlRw
namespace Go.Proofs.Ytjlifbnkdfofhaa
open Go Go.Kr Go.RowKit
set_option linter.unusedVariables false
set_option linter.unusedSimpArgs false
theorem gb_eq (l : List Bool) (j : Nat) : gb l j = l.getD j false := rfl
/-- A disk: places, what is under way, what is left, whether it is down, operations. -/
structure DS where
  p : List R22
  u : List R69
  left : Int
  down : Bool
  ops : List R71
structure DS.Wf (d : DS) : Prop where
  rows : ∀ r ∈ d.p, r.length = 192
  way : ∀ x ∈ d.u, 0 ≤ x.1 ∧ x.1 < (d.p.length : Int) ∧ x.2.length = 192
  few : d.u.length ≤ 1000000 ∧ d.ops.length ≤ 1000000 ∧ d.p.length ≤ 1000000
  num : -9223372036854775808 ≤ d.left ∧ d.left ≤ 9223372036854775807
theorem dk_clone (l : List Int) (h : l.length ≤ 1099511627776) : slices_Clone_s_byte_byte.rel l l := ⟨fun h => h, l, rfl, h, rfl⟩

/-! ### 1. New -/
def Z192 : List Int := List.replicate 192 0
def newD (n : Nat) : DS := ⟨List.replicate n Z192, [], -1, false, []⟩
theorem dk_new_L1 (n : Nat) (hn : n ≤ 4096) : ∀ (d f i : Nat), i + d = n → d < f → disk_New.L1 n (some (List.replicate n Z192, [], -1, false, [])) 0 f (List.replicate i Z192) i := by
  intro d
  induction d with
  | zero =>
    intro f i h1 h2
    obtain ⟨f, rfl⟩ : ∃ m, f = m + 1 := ⟨f - 1, by omega⟩
    obtain rfl : i = n := by omega
    exact .inr ⟨by omega, rfl, rfl⟩
  | succ d ih =>
    intro f i h1 h2
    obtain ⟨f, rfl⟩ : ∃ m, f = m + 1 := ⟨f - 1, by omega⟩
    have e1 : List.replicate (i + 1) Z192 = List.replicate i Z192 ++ ([List.replicate 192 (0 : Int)] : List R22) := by
      rw [List.replicate_succ']; rfl
    refine .inl ⟨by omega, _, rfl, by simp; omega, ?_⟩
    rw [← e1, show IntKind.i64.wrap ((i : Int) + 1) = ((i + 1 : Nat) : Int) by rw [w64 (by omega) (by omega)]; omega]
    exact ih f (i + 1) (by omega) (by omega)
theorem dk_new (n : Nat) (h1 : 1 ≤ n) (h2 : n ≤ 4096) : disk_New.rel n (some ((newD n).p, (newD n).u, (newD n).left, (newD n).down, (newD n).ops)) 0 :=
  .inr ⟨by omega, .inr ⟨by omega, n + 1, dk_new_L1 n h2 n (n + 1) 0 (by omega) (by omega)⟩⟩
theorem dk_new_no (n : Int) (h : n < 1 ∨ n > 4096) : disk_New.rel n none 1 := by
  by_cases h1 : n < 1
  · exact .inl ⟨h1, rfl, rfl⟩
  · exact .inr ⟨h1, .inl ⟨by omega, rfl, rfl⟩⟩
theorem newD_wf (n : Nat) (h : n ≤ 4096) : (newD n).Wf := ⟨fun r hr => by rw [(List.mem_replicate.1 hr).2]; exact List.length_replicate .., fun x hx => (by cases hx), ⟨by simp [newD], by simp [newD], by simp [newD]; omega⟩, ⟨by simp [newD], by simp [newD]⟩⟩

/-! ### 2. Write, Read -/
def fitsE (d : DS) (i : Int) (b : List Int) : Int := if i < 0 ∨ i ≥ (d.p.length : Int) then 12 else if b.length ≠ 192 then 1 else 0
theorem dk_fits (d : DS) (i : Int) (b : List Int) : disk_Disk_fits.rel d.p d.u d.left d.down d.ops i b d.p d.u d.left d.down d.ops (fitsE d i b) := by
  unfold fitsE
  by_cases h1 : i < 0
  · rw [if_pos (.inl h1)]; exact .inl ⟨h1, rfl, rfl, rfl, rfl, rfl, rfl⟩
  · by_cases h2 : i ≥ (d.p.length : Int)
    · rw [if_pos (.inr h2)]; exact .inr ⟨h1, .inl ⟨h2, rfl, rfl, rfl, rfl, rfl, rfl⟩⟩
    · rw [if_neg (by omega)]
      by_cases h3 : b.length ≠ 192
      · rw [if_pos h3]; exact .inr ⟨h1, .inr ⟨h2, .inl ⟨by omega, rfl, rfl, rfl, rfl, rfl, rfl⟩⟩⟩
      · rw [if_neg h3]; exact .inr ⟨h1, .inr ⟨h2, .inr ⟨by omega, rfl, rfl, rfl, rfl, rfl, rfl⟩⟩⟩
def writeD (d : DS) (i : Int) (b : List Int) : DS × Int :=
  if d.down = true then (d, 13)
  else if fitsE d i b ≠ 0 then (d, fitsE d i b)
  else if d.left = 0 then ({ d with down := true }, 13)
  else ({ d with u := d.u ++ [(i, b)], ops := d.ops ++ [(2, i)], left := if d.left > 0 then d.left - 1 else d.left }, 0)
theorem fitsE_zero {d : DS} {i : Int} {b : List Int} (h : fitsE d i b = 0) : 0 ≤ i ∧ i < (d.p.length : Int) ∧ b.length = 192 := by
  unfold fitsE at h
  split at h
  · omega
  · split at h
    · omega
    · omega
theorem dk_write (d : DS) (i : Int) (b : List Int) (h : d.Wf) : disk_Disk_Write.rel d.p d.u d.left d.down d.ops i b (writeD d i b).1.p (writeD d i b).1.u (writeD d i b).1.left (writeD d i b).1.down (writeD d i b).1.ops (writeD d i b).2 := by
  have hf := h.few
  have hn := h.num
  unfold writeD
  by_cases h1 : d.down = true
  · rw [if_pos h1]; exact .inl ⟨h1, rfl, rfl, rfl, rfl, rfl, rfl⟩
  · rw [if_neg h1]
    refine .inr ⟨h1, _, _, _, _, _, _, dk_fits d i b, ?_⟩
    by_cases h2 : fitsE d i b ≠ 0
    · rw [if_pos h2]; exact .inl ⟨h2, rfl, rfl, rfl, rfl, rfl, rfl⟩
    · rw [if_neg h2]
      have hb := fitsE_zero (Decidable.not_not.1 h2)
      refine .inr ⟨h2, ?_⟩
      by_cases h3 : d.left = 0
      · rw [if_pos h3]; exact .inl ⟨h3, rfl, rfl, rfl, rfl, rfl, rfl⟩
      · rw [if_neg h3]
        refine .inr ⟨h3, ?_⟩
        by_cases h4 : d.left > 0
        · refine .inl ⟨h4, b, dk_clone b (by omega), _, rfl, by simp; omega, _, rfl, by simp; omega, rfl, rfl, ?_, rfl, rfl, rfl⟩
          simp only [h4, if_true]
          rw [w64 (by omega) (by omega)]
        · refine .inr ⟨h4, b, dk_clone b (by omega), _, rfl, by simp; omega, _, rfl, by simp; omega, rfl, rfl, ?_, rfl, rfl, rfl⟩
          simp only [h4, if_false]
theorem writeD_wf {d : DS} {i : Int} {b : List Int} (h : d.Wf) (h1 : d.u.length < 1000000) (h2 : d.ops.length < 1000000) : (writeD d i b).1.Wf := by
  unfold writeD
  split
  · exact h
  · split
    · exact h
    · rename_i hf
      have hb := fitsE_zero (Decidable.not_not.1 hf)
      split
      · exact ⟨h.rows, h.way, h.few, h.num⟩
      · refine ⟨h.rows, ?_, ⟨by simp; omega, by simp; omega, h.few.2.2⟩, ?_⟩
        · intro x hx
          rcases List.mem_append.1 hx with hx | hx
          · exact h.way x hx
          · rw [List.mem_singleton] at hx; subst hx; exact hb
        · have := h.num
          simp only
          split <;> omega
/-- The last bytes of a place among writes. -/
def lastW : List R69 → Int → Option (List Int)
  | [], _ => none
  | x :: l, i => match lastW l i with
    | some b => some b
    | none => if x.1 = i then some x.2 else none
theorem lastW_none : ∀ {l : List R69} {i : Int}, lastW l i = none ↔ ∀ x ∈ l, x.1 ≠ i
  | [], i => by simp [lastW]
  | x :: l, i => by
    have ih := lastW_none (l := l) (i := i)
    unfold lastW
    cases h : lastW l i with
    | none =>
      have h1 := ih.1 h
      simp only
      split
      · rename_i h0; simp [h0]
      · rename_i h0
        simp only [List.mem_cons, true_iff]
        rintro y (rfl | hy)
        · exact h0
        · exact h1 y hy
    | some b =>
      refine ⟨fun h2 => (by cases h2), fun hall => ?_⟩
      have := ih.2 fun y hy => hall y (List.mem_cons_of_mem _ hy)
      rw [h] at this
      cases this
theorem lastW_append : ∀ (l : List R69) (x : R69) (i : Int), lastW (l ++ [x]) i = if x.1 = i then some x.2 else lastW l i
  | [], x, i => rfl
  | y :: l, x, i => by
    rw [List.cons_append, lastW, lastW_append l x i]
    by_cases h : x.1 = i
    · rw [if_pos h, if_pos h]
    · rw [if_neg h, if_neg h]; rfl
theorem lastW_eq : ∀ {l : List R69} {i : Int} {q : Nat}, q < l.length → (gx l q).1 = i → (∀ p, q < p → p < l.length → (gx l p).1 ≠ i) → lastW l i = some (gx l q).2
  | [], i, q, h, _, _ => by simp at h
  | x :: l, i, 0, h, h1, h2 => by
    have : lastW l i = none := lastW_none.2 fun y hy => by
      obtain ⟨p, hp, rfl⟩ := List.getElem_of_mem hy
      have := h2 (p + 1) (by omega) (by simp; omega)
      rwa [gx_cons_succ, gx_lt hp] at this
    unfold lastW
    rw [this]
    exact if_pos h1
  | x :: l, i, q + 1, h, h1, h2 => by
    have h' : q < l.length := by simp at h; omega
    have := lastW_eq (l := l) (i := i) (q := q) h' h1 fun p hp hl => h2 (p + 1) (by omega) (by simp; omega)
    unfold lastW
    rw [this]
    rfl
theorem lastW_len {l : List R69} {i : Int} {b : List Int} (h : ∀ x ∈ l, x.2.length = 192) (hb : lastW l i = some b) : b.length = 192 := by
  induction l with
  | nil => cases hb
  | cons x l ih =>
    unfold lastW at hb
    cases hl : lastW l i with
    | some c =>
      rw [hl] at hb
      cases hb
      exact ih (fun y hy => h y (List.mem_cons_of_mem _ hy)) hl
    | none =>
      rw [hl] at hb
      simp only at hb
      split at hb
      · cases hb; exact h x (List.mem_cons_self ..)
      · cases hb
def readD (d : DS) (i : Int) : DS × List Int × Int :=
  if d.down = true then (d, [], 13)
  else if i < 0 ∨ i ≥ (d.p.length : Int) then (d, [], 12)
  else ({ d with ops := d.ops ++ [(1, i)] }, (lastW d.u i).getD (gx d.p i.toNat), 0)
theorem dk_read (d : DS) (i : Int) (h : d.Wf) : disk_Disk_Read.rel d.p d.u d.left d.down d.ops i (readD d i).1.p (readD d i).1.u (readD d i).1.left (readD d i).1.down (readD d i).1.ops (readD d i).2.1 (readD d i).2.2 := by
  have hf := h.few
  unfold readD
  by_cases h1 : d.down = true
  · rw [if_pos h1]; exact .inl ⟨h1, rfl, rfl, rfl, rfl, rfl, rfl, rfl⟩
  · rw [if_neg h1]
    refine .inr ⟨h1, ?_⟩
    by_cases h2 : i < 0
    · rw [if_pos (.inl h2)]; exact .inl ⟨h2, rfl, rfl, rfl, rfl, rfl, rfl, rfl⟩
    · refine .inr ⟨h2, ?_⟩
      by_cases h3 : i ≥ (d.p.length : Int)
      · rw [if_pos (.inr h3)]; exact .inl ⟨h3, rfl, rfl, rfl, rfl, rfl, rfl, rfl⟩
      · rw [if_neg (by omega)]
        refine .inr ⟨h3, _, rfl, by simp; omega, ⟨by omega, fun q hq => ?_⟩, fun hall => ⟨⟨by omega, by omega⟩, gx d.p i.toNat, dk_clone _ ?_, rfl, rfl, rfl, rfl, rfl, ?_, rfl⟩⟩
        · by_cases h4 : (gx d.u q).1 = i
          · refine .inr ⟨h4, (gx d.u q).2, dk_clone _ ?_, fun hl => ⟨rfl, rfl, rfl, rfl, rfl, ?_, rfl⟩⟩
            · have := (h.way _ (gx_mem hq)).2.2; omega
            · rw [lastW_eq hq h4 fun p h5 h6 => (hl p h5 h6).1]; rfl
          · exact .inl ⟨h4, trivial⟩
        · have := h.rows _ (gx_mem (l := d.p) (i := i.toNat) (by omega)); omega
        · rw [lastW_none.2 fun x hx => by
            obtain ⟨p, hp, rfl⟩ := List.getElem_of_mem hx
            rw [← gx_lt hp]; exact (hall p hp).1]
          rfl
theorem readD_wf {d : DS} {i : Int} (h : d.Wf) (h2 : d.ops.length < 1000000) : (readD d i).1.Wf := by
  unfold readD
  split
  · exact h
  · split
    · exact h
    · exact ⟨h.rows, h.way, ⟨h.few.1, by simp; omega, h.few.2.2⟩, h.num⟩
theorem readD_len {d : DS} {i : Int} (h : d.Wf) (h0 : (readD d i).2.2 = 0) : (readD d i).2.1.length = 192 := by
  unfold readD at h0 ⊢
  split at h0
  · cases h0
  · rename_i h1
    rw [if_neg h1]
    split at h0
    · cases h0
    · rename_i h2
      rw [if_neg h2]
      cases hl : lastW d.u i with
      | some b => exact lastW_len (fun x hx => (h.way x hx).2.2) hl
      | none => exact h.rows _ (gx_mem (by omega))

/-! ### 3. Flush, Crash, and the others -/
def layD (p : List R22) (u : List R69) : List R22 := u.foldl (fun p x => p.set x.1.toNat x.2) p
theorem layD_length (p : List R22) (u : List R69) : (layD p u).length = p.length := by
  unfold layD
  induction u generalizing p with
  | nil => rfl
  | cons x u ih => rw [List.foldl_cons, ih]; simp
theorem layD_append (p : List R22) (u : List R69) (x : R69) : layD p (u ++ [x]) = (layD p u).set x.1.toNat x.2 := by simp [layD]
theorem gx_set {α : Type} [Inhabited α] {l : List α} {q : Nat} {y : α} (h : q < l.length) (p : Nat) : gx (l.set q y) p = if p = q then y else gx l p := by
  unfold gx
  rw [List.getD_eq_getElem?_getD, List.getElem?_set]
  by_cases e : q = p
  · subst e; rw [if_pos rfl, if_pos rfl, if_pos h]; rfl
  · rw [if_neg e, if_neg (Ne.symm e), List.getD_eq_getElem?_getD]
theorem snoc_ind {α : Type} {P : List α → Prop} (h0 : P []) (h1 : ∀ l x, P l → P (l ++ [x])) (l : List α) : P l := by
  rw [← List.reverse_reverse l]
  induction l.reverse with
  | nil => exact h0
  | cons x r ih => rw [List.reverse_cons]; exact h1 _ _ ih
/-- What is laid over reads as its last write says. -/
theorem gx_layD (p : List R22) (k : Nat) (u : List R69) : (∀ x ∈ u, 0 ≤ x.1 ∧ x.1 < (p.length : Int)) → gx (layD p u) k = (lastW u k).getD (gx p k) := by
  induction u using snoc_ind with
  | h0 => intro _; rfl
  | h1 u x ih =>
    intro h
    have hx := h x (by simp)
    rw [layD_append, gx_set (by rw [layD_length]; omega), lastW_append, ih fun y hy => h y (by simp [hy])]
    by_cases e : k = x.1.toNat
    · rw [if_pos e, if_pos (by omega)]; rfl
    · rw [if_neg e, if_neg (by omega)]
theorem layD_rows {p : List R22} {u : List R69} (h1 : ∀ r ∈ p, r.length = 192) (h2 : ∀ x ∈ u, x.2.length = 192) : ∀ r ∈ layD p u, r.length = 192 := by
  unfold layD
  induction u generalizing p with
  | nil => exact h1
  | cons x u ih =>
    rw [List.foldl_cons]
    refine ih (fun r hr => ?_) fun y hy => h2 y (List.mem_cons_of_mem _ hy)
    rcases List.mem_or_eq_of_mem_set hr with hr | rfl
    · exact h1 r hr
    · exact h2 x (List.mem_cons_self ..)
def flushD (d : DS) : DS × Int :=
  if d.down = true then (d, 13) else ({ d with p := layD d.p d.u, u := [], ops := d.ops ++ [(3, 0)] }, 0)
theorem dk_flush_L1 (d : DS) (h : d.Wf) : ∀ (k f i : Nat), i + k = d.u.length → k < f →
    disk_Disk_Flush.L1 d.u d.left d.down d.ops (layD d.p d.u) [] d.left d.down (d.ops ++ [(3, 0)]) 0 f (layD d.p (d.u.take i)) i := by
  have hf := h.few
  intro k
  induction k with
  | zero =>
    intro f i h1 h2
    obtain ⟨f, rfl⟩ : ∃ m, f = m + 1 := ⟨f - 1, by omega⟩
    refine .inr ⟨by omega, _, rfl, by simp; omega, ?_, rfl, rfl, rfl, rfl, rfl⟩
    rw [List.take_of_length_le (by omega)]
  | succ k ih =>
    intro f i h1 h2
    obtain ⟨f, rfl⟩ : ∃ m, f = m + 1 := ⟨f - 1, by omega⟩
    have hw := h.way _ (gx_mem (l := d.u) (i := i) (by omega))
    have e1 : layD d.p (d.u.take (i + 1)) = (layD d.p (d.u.take i)).set (gx d.u i).1.toNat (gx d.u i).2 := by
      rw [← layD_append, List.take_succ_eq_append_getElem (by omega), gx_lt (by omega)]
    refine .inl ⟨by omega, ⟨by omega, by omega⟩, ?_⟩
    rw [Int.toNat_natCast]
    refine ⟨⟨hw.1, by rw [layD_length]; exact hw.2.1⟩, _, rfl, ?_⟩
    rw [← e1, show IntKind.i64.wrap ((i : Int) + 1) = ((i + 1 : Nat) : Int) by rw [w64 (by omega) (by omega)]; omega]
    exact ih f (i + 1) (by omega) (by omega)
theorem dk_flush (d : DS) (h : d.Wf) : disk_Disk_Flush.rel d.p d.u d.left d.down d.ops (flushD d).1.p (flushD d).1.u (flushD d).1.left (flushD d).1.down (flushD d).1.ops (flushD d).2 := by
  unfold flushD
  by_cases h1 : d.down = true
  · rw [if_pos h1]; exact .inl ⟨h1, rfl, rfl, rfl, rfl, rfl, rfl⟩
  · rw [if_neg h1]
    exact .inr ⟨h1, d.u.length + 1, dk_flush_L1 d h d.u.length _ 0 (by omega) (by omega)⟩
theorem flushD_wf {d : DS} (h : d.Wf) (h2 : d.ops.length < 1000000) : (flushD d).1.Wf := by
  unfold flushD
  split
  · exact h
  · exact ⟨layD_rows h.rows fun x hx => (h.way x hx).2.2, fun x hx => (by cases hx), ⟨by simp, by simp; omega, by simp only [layD_length]; exact h.few.2.2⟩, h.num⟩
/-- Of writes those that are kept. -/
def kept : List R69 → List Bool → List R69
  | x :: u, true :: k => x :: kept u k
  | _ :: u, false :: k => kept u k
  | _, _ => []
theorem kept_take : ∀ (u : List R69) (k : List Bool) (i : Nat), i < u.length → kept (u.take (i + 1)) k = kept (u.take i) k ++ (if i < k.length ∧ gb k i = true then [gx u i] else [])
  | [], _, i, h => by simp at h
  | x :: u, [], i, h => by
    rw [if_neg (by simp)]
    have : ∀ l : List R69, kept l [] = [] := fun l => by cases l <;> rfl
    rw [this, this]; rfl
  | x :: u, b :: k, 0, h => by
    cases b
    · rw [if_neg (by simp [gb])]; simp [kept]
    · rw [if_pos ⟨by simp, rfl⟩]; simp [kept]; rfl
  | x :: u, b :: k, i + 1, h => by
    have ih := kept_take u k i (by simp at h; omega)
    have e1 : (i + 1 < (b :: k).length ∧ gb (b :: k) (i + 1) = true) ↔ (i < k.length ∧ gb k i = true) := by
      have : gb (b :: k) (i + 1) = gb k i := rfl
      rw [this]; simp
    rw [List.take_succ_cons, List.take_succ_cons]
    cases b
    · simp only [kept]
      rw [ih]
      simp only [e1]
      rfl
    · simp only [kept]
      rw [ih]
      simp only [e1, List.cons_append]
      rfl
theorem kept_mem : ∀ {u : List R69} {k : List Bool} {x : R69}, x ∈ kept u k → x ∈ u
  | x :: u, true :: k, y, h => by
    rcases List.mem_cons.1 h with rfl | h
    · exact List.mem_cons_self ..
    · exact List.mem_cons_of_mem _ (kept_mem h)
  | x :: u, false :: k, y, h => List.mem_cons_of_mem _ (kept_mem (k := k) h)
  | [], _, y, h => by simp [kept] at h
  | x :: u, [], y, h => by simp [kept] at h
def crashD (d : DS) (k : List Bool) : DS := { d with p := layD d.p (kept d.u k), u := [], left := -1, down := false }
theorem dk_crash_L1 (d : DS) (kp : List Bool) (h : d.Wf) : ∀ (k f i : Nat), i + k = d.u.length → k < f →
    disk_Disk_Crash.L1 d.u d.ops kp (layD d.p (kept d.u kp)) [] (-1) false d.ops f (layD d.p (kept (d.u.take i) kp)) i := by
  have hf := h.few
  intro k
  induction k with
  | zero =>
    intro f i h1 h2
    obtain ⟨f, rfl⟩ : ∃ m, f = m + 1 := ⟨f - 1, by omega⟩
    refine .inr ⟨by omega, ?_, rfl, rfl, rfl, rfl⟩
    rw [List.take_of_length_le (by omega)]
  | succ k ih =>
    intro f i h1 h2
    obtain ⟨f, rfl⟩ : ∃ m, f = m + 1 := ⟨f - 1, by omega⟩
    have hw := h.way _ (gx_mem (l := d.u) (i := i) (by omega))
    have ih' := ih f (i + 1) (by omega) (by omega)
    rw [kept_take d.u kp i (by omega)] at ih'
    have ew : IntKind.i64.wrap ((i : Int) + 1) = ((i + 1 : Nat) : Int) := by rw [w64 (by omega) (by omega)]; omega
    refine .inl ⟨by omega, ⟨by omega, by omega⟩, ?_⟩
    rw [Int.toNat_natCast, ew]
    by_cases h3 : i < kp.length
    · refine .inl ⟨by omega, ⟨by omega, by omega⟩, ?_⟩
      by_cases h4 : gb kp i = true
      · rw [if_pos ⟨h3, h4⟩, layD_append] at ih'
        exact .inl ⟨h4, ⟨hw.1, by rw [layD_length]; exact hw.2.1⟩, _, rfl, ih'⟩
      · rw [if_neg (by rintro ⟨_, h⟩; exact h4 h), List.append_nil] at ih'
        exact .inr ⟨h4, ih'⟩
    · rw [if_neg (by rintro ⟨h, _⟩; exact h3 h), List.append_nil] at ih'
      exact .inr ⟨by omega, ih'⟩
theorem dk_crash (d : DS) (k : List Bool) (h : d.Wf) : disk_Disk_Crash.rel d.p d.u d.left d.down d.ops k (crashD d k).p (crashD d k).u (crashD d k).left (crashD d k).down (crashD d k).ops := by
  refine ⟨d.u.length + 1, ?_⟩
  have := dk_crash_L1 d k h d.u.length (d.u.length + 1) 0 (by omega) (by omega)
  have e : kept (d.u.take 0) k = [] := by cases k <;> rfl
  rw [e] at this
  exact this
theorem crashD_wf {d : DS} {k : List Bool} (h : d.Wf) : (crashD d k).Wf :=
  ⟨layD_rows h.rows fun x hx => (h.way x (kept_mem hx)).2.2, fun x hx => (by cases hx), ⟨by simp [crashD], h.few.2.1, by simp only [crashD, layD_length]; exact h.few.2.2⟩, ⟨by simp [crashD], by simp [crashD]⟩⟩
theorem dk_pending (d : DS) : disk_Disk_Pending.rel d.p d.u d.left d.down d.ops d.p d.u d.left d.down d.ops (d.u.length : Int) := ⟨rfl, rfl, rfl, rfl, rfl, rfl⟩
theorem dk_size (d : DS) : disk_Disk_Size.rel d.p d.u d.left d.down d.ops d.p d.u d.left d.down d.ops (d.p.length : Int) := ⟨rfl, rfl, rfl, rfl, rfl, rfl⟩
theorem dk_ops (d : DS) (h : d.Wf) : disk_Disk_Ops.rel d.p d.u d.left d.down d.ops d.p d.u d.left d.down d.ops d.ops :=
  ⟨d.ops, ⟨fun h => h, d.ops, rfl, by have := h.few; omega, rfl⟩, rfl, rfl, rfl, rfl, rfl, rfl⟩

/-! ### 4. Filled up -/
def fullF (l : List Int) (n : Nat) : List Int := l.take n ++ List.replicate (n - l.length) 0
theorem fullF_length (l : List Int) (n : Nat) : (fullF l n).length = n := by simp [fullF]; omega
theorem fullF_set (l : List Int) (n i : Nat) (hi : i < l.length) (hn : i < n) : (fullF (l.take i) n).set i (gn l i) = fullF (l.take (i + 1)) n := by
  refine List.ext_getElem (by rw [List.length_set, fullF_length, fullF_length]) fun j h1 h2 => ?_
  rw [List.length_set, fullF_length] at h1
  have hg : ∀ (m : Nat) (hm : m ≤ l.length), (fullF (l.take m) n)[j]'(by rw [fullF_length]; exact h1) = if j < m then l.getD j 0 else 0 := fun m hm => by
    simp only [fullF, List.getElem_append]
    split
    · rename_i hlt
      simp only [List.length_take] at hlt
      rw [if_pos (by omega)]
      simp only [List.getElem_take]
      rw [List.getD_eq_getElem?_getD, List.getElem?_eq_getElem (by omega)]
      rfl
    · rename_i hge
      simp only [List.length_take] at hge
      rw [if_neg (by omega)]
      simp
  rw [List.getElem_set, hg i (by omega), hg (i + 1) (by omega)]
  by_cases e : i = j
  · subst e
    rw [if_pos rfl, if_pos (by omega)]
    rfl
  · rw [if_neg e]
    by_cases hlt : j < i
    · rw [if_pos hlt, if_pos (by omega)]
    · rw [if_neg hlt, if_neg (by omega)]
theorem fullF_over (l : List Int) (n i : Nat) (h : n ≤ i) : fullF (l.take i) n = fullF l n := by
  unfold fullF
  rw [List.take_take, Nat.min_eq_left h, List.length_take]
  congr 2
  omega
theorem dk_full_L2 (l : List Int) : ∀ (d f i : Nat), i + d = min l.length 192 → d < f → reliquarylaw06_full.L2 l (fullF l 192) f (fullF (l.take i) 192) i := by
  intro d
  induction d with
  | zero =>
    intro f i h1 h2
    obtain ⟨f, rfl⟩ : ∃ m, f = m + 1 := ⟨f - 1, by omega⟩
    by_cases hl : l.length ≤ i
    · refine .inr ⟨by omega, ?_⟩
      rw [List.take_of_length_le hl]
    · exact .inl ⟨by omega, .inr ⟨by omega, (fullF_over l 192 i (by omega)).symm⟩⟩
  | succ d ih =>
    intro f i h1 h2
    obtain ⟨f, rfl⟩ : ∃ m, f = m + 1 := ⟨f - 1, by omega⟩
    refine .inl ⟨by omega, .inl ⟨by omega, ⟨by omega, by omega⟩, ⟨by omega, by rw [fullF_length]; omega⟩, _, rfl, ?_⟩⟩
    rw [Int.toNat_natCast, fullF_set l 192 i (by omega) (by omega), show IntKind.i64.wrap ((i : Int) + 1) = ((i + 1 : Nat) : Int) by rw [w64 (by omega) (by omega)]; omega]
    exact ih f (i + 1) (by omega) (by omega)
theorem dk_full_L1 (l : List Int) : ∀ (d f i : Nat), i + d = min l.length 191 → d < f → reliquarylaw06_full.L1 l (fullF l 191) f (fullF (l.take i) 191) i := by
  intro d
  induction d with
  | zero =>
    intro f i h1 h2
    obtain ⟨f, rfl⟩ : ∃ m, f = m + 1 := ⟨f - 1, by omega⟩
    by_cases hl : l.length ≤ i
    · refine .inr ⟨by omega, ?_⟩
      rw [List.take_of_length_le hl]
    · exact .inl ⟨by omega, .inr ⟨by omega, (fullF_over l 191 i (by omega)).symm⟩⟩
  | succ d ih =>
    intro f i h1 h2
    obtain ⟨f, rfl⟩ : ∃ m, f = m + 1 := ⟨f - 1, by omega⟩
    refine .inl ⟨by omega, .inl ⟨by omega, ⟨by omega, by omega⟩, ⟨by omega, by rw [fullF_length]; omega⟩, _, rfl, ?_⟩⟩
    rw [Int.toNat_natCast, fullF_set l 191 i (by omega) (by omega), show IntKind.i64.wrap ((i : Int) + 1) = ((i + 1 : Nat) : Int) by rw [w64 (by omega) (by omega)]; omega]
    exact ih f (i + 1) (by omega) (by omega)
def fullD (l : List Int) (short : Bool) : List Int := fullF l (if short = true then 191 else 192)
theorem dk_full (a b : Int) (l : List Int) (k : List Bool) (short : Bool) : reliquarylaw06_full.rel a b l k short (fullD l short) := by
  cases short
  · refine .inr ⟨by decide, l.length + 193, ?_⟩
    have := dk_full_L2 l (min l.length 192) (l.length + 193) 0 (by omega) (by omega)
    exact this
  · refine .inl ⟨rfl, l.length + 193, ?_⟩
    have := dk_full_L1 l (min l.length 191) (l.length + 193) 0 (by omega) (by omega)
    exact this
end Go.Proofs.Ytjlifbnkdfofhaa
