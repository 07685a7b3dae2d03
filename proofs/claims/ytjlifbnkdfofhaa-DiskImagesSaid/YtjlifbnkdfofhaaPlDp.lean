/- Disk: the reference computes the same; whatever is done: plainly. -/
import Derived.Test.YtjlifbnkdfofhaaPlDa
namespace Go.Proofs.Ytjlifbnkdfofhaa
open Go Go.Kr Go.RowKit
set_option linter.unusedVariables false
set_option linter.unusedSimpArgs false

def toW (x : R69) : R86 := (x.1, strOfNums x.2)
theorem gx_map {α β : Type} [Inhabited α] [Inhabited β] (g : α → β) {l : List α} {i : Nat} (h : i < l.length) : gx (l.map g) i = g (gx l i) := by
  rw [gx_lt (by rw [List.length_map]; exact h), gx_lt h, List.getElem_map]
def lastS (l : List R69) (i : Int) : ByteArray × Bool := match lastW l i with
  | some b => (strOfNums b, true)
  | none => (⟨#[]⟩, false)
theorem rf_last_L1 (l : List R69) (i : Int) (s : ByteArray) (b : Bool) (hl : l.length ≤ 1000000) : ∀ (j f : Nat), j ≤ l.length → j < f → (∀ p, j ≤ p → p < l.length → (gx l p).1 ≠ i) → reliquaryref06_last.L1 (l.map toW) i (lastS l i).1 (lastS l i).2 f s b ((j : Int) - 1) := by
  intro j
  induction j with
  | zero =>
    intro f h1 h2 h3
    obtain ⟨f, rfl⟩ : ∃ m, f = m + 1 := ⟨f - 1, by omega⟩
    have h4 : lastW l i = none := lastW_none.2 fun x hx => by
      obtain ⟨p, hp, rfl⟩ := List.getElem_of_mem hx
      rw [← gx_lt hp]; exact h3 p (by omega) hp
    unfold lastS
    rw [h4]
    exact .inr ⟨by omega, rfl, rfl⟩
  | succ j ih =>
    intro f h1 h2 h3
    obtain ⟨f, rfl⟩ : ∃ m, f = m + 1 := ⟨f - 1, by omega⟩
    rw [show ((j + 1 : Nat) : Int) - 1 = (j : Int) by omega]
    refine .inl ⟨by omega, ⟨by omega, by rw [List.length_map]; omega⟩, ?_⟩
    rw [Int.toNat_natCast, gx_map toW (by omega)]
    by_cases h0 : (gx l j).1 = i
    · have h4 := lastW_eq (l := l) (i := i) (q := j) (by omega) h0 fun p h5 h6 => h3 p (by omega) h6
      refine .inl ⟨h0, ⟨by omega, by rw [List.length_map]; omega⟩, ?_, ?_⟩
      · unfold lastS; rw [h4]; rfl
      · unfold lastS; rw [h4]
    · refine .inr ⟨h0, ?_⟩
      rw [w64 (by omega) (by omega)]
      refine ih f (by omega) (by omega) fun p h5 h6 => ?_
      by_cases e : p = j
      · rw [e]; exact h0
      · exact h3 p (by omega) h6
theorem rf_last (l : List R69) (i : Int) (hl : l.length ≤ 1000000) : reliquaryref06_last.rel (l.map toW) i (lastS l i).1 (lastS l i).2 := by
  refine ⟨l.length + 1, ?_⟩
  rw [List.length_map, w64 (by omega) (by omega)]
  exact rf_last_L1 l i _ _ hl l.length _ (Nat.le_refl _) (by omega) fun p h1 h2 => by omega
def atD (D : List R69) (i : Int) : List Int := (lastW D i).getD Z192
theorem rf_at (n : Int) (D : List R69) (U : List R86) (left : Int) (down : Bool) (ops : List R81) (i : Int) (hl : D.length ≤ 1000000) : reliquaryref06_At.rel n (D.map toW) U left down ops i (strOfNums (atD D i)) := by
  refine ⟨_, _, rf_last D i hl, ?_⟩
  unfold lastS atD
  cases h : lastW D i with
  | some b => exact .inl ⟨rfl, rfl⟩
  | none => exact .inr ⟨by simp, rfl⟩
theorem rf_noted (n : Int) (D U : List R86) (left : Int) (down : Bool) (ops : List R81) (k s : Int) (h : ops.length ≤ 1000000) : reliquaryref06_noted.rel n D U left down ops k s n D U left down (ops ++ [(k, s)]) :=
  ⟨_, rfl, by simp; omega, _, rfl, by simp; omega, rfl, rfl, rfl, rfl, rfl, rfl⟩
theorem rf_more (l : List R69) (x : R69) (h : l.length ≤ 1000000) : reliquaryref06_more.rel (l.map toW) x.1 (strOfNums x.2) ((l ++ [x]).map toW) :=
  ⟨_, rfl, by simp; omega, _, rfl, by simp; omega, by simp [toW]⟩
theorem rf_fits (d : DS) (D U : List R86) (left : Int) (down : Bool) (ops : List R81) (i : Int) (b : List Int) : reliquaryref06_fits.rel (d.p.length : Int) D U left down ops i (strOfNums b) (fitsE d i b) := by
  unfold fitsE
  by_cases h1 : i < 0
  · rw [if_pos (.inl h1)]; exact .inl ⟨h1, rfl⟩
  · by_cases h2 : i ≥ (d.p.length : Int)
    · rw [if_pos (.inr h2)]; exact .inr ⟨h1, .inl ⟨h2, rfl⟩⟩
    · rw [if_neg (by omega)]
      by_cases h3 : b.length ≠ 192
      · rw [if_pos h3]; exact .inr ⟨h1, .inr ⟨h2, .inl ⟨by rw [size_strOf]; omega, rfl⟩⟩⟩
      · rw [if_neg h3]; exact .inr ⟨h1, .inr ⟨h2, .inr ⟨by rw [size_strOf]; omega, rfl⟩⟩⟩

structure Inv (i : Nat) (d : DS) (D : List R69) : Prop where
  wf : d.Wf
  few : D.length + d.u.length ≤ i
  ops : d.ops.length ≤ i
  at_ : ∀ k : Nat, k < d.p.length → gx d.p k = atD D k
theorem Inv.up {i : Nat} {d : DS} {D : List R69} (h : Inv i d D) : Inv (i + 1) d D := ⟨h.wf, by have := h.few; omega, by have := h.ops; omega, h.at_⟩
theorem lastW_cat (i : Int) : ∀ a b : List R69, lastW (a ++ b) i = match lastW b i with | some x => some x | none => lastW a i
  | [], b => by rw [List.nil_append]; cases lastW b i <;> rfl
  | x :: a, b => by
    rw [List.cons_append, lastW, lastW_cat i a b]
    cases h : lastW b i with
    | some y => rfl
    | none => rfl
theorem atD_cat (D u : List R69) (i : Int) : atD (D ++ u) i = (lastW u i).getD (atD D i) := by
  unfold atD
  rw [lastW_cat]
  cases lastW u i <;> rfl
theorem rf_write (d : DS) (D : List R69) (i : Int) (b : List Int) (n : Nat) (h : Inv n d D) (hn : n ≤ 100000) :
    reliquaryref06_Write.rel (d.p.length : Int) (D.map toW) (d.u.map toW) d.left d.down d.ops i (strOfNums b) (d.p.length : Int) (D.map toW) ((writeD d i b).1.u.map toW) (writeD d i b).1.left (writeD d i b).1.down (writeD d i b).1.ops (writeD d i b).2 := by
  have hnum := h.wf.num
  have hf := h.few
  have ho := h.ops
  unfold writeD
  by_cases h1 : d.down = true
  · rw [if_pos h1]; exact .inl ⟨h1, rfl, rfl, rfl, rfl, rfl, rfl, rfl⟩
  · rw [if_neg h1]
    refine .inr ⟨h1, _, rf_fits d _ _ _ _ _ i b, ?_⟩
    by_cases h2 : fitsE d i b ≠ 0
    · rw [if_pos h2]; exact .inl ⟨h2, rfl, rfl, rfl, rfl, rfl, rfl, rfl⟩
    · rw [if_neg h2]
      refine .inr ⟨h2, ?_⟩
      by_cases h3 : d.left = 0
      · rw [if_pos h3]; exact .inl ⟨h3, rfl, rfl, rfl, rfl, rfl, rfl, rfl⟩
      · rw [if_neg h3]
        refine .inr ⟨h3, ?_⟩
        have hm := rf_more d.u (i, b) (by omega)
        by_cases h4 : d.left > 0
        · refine .inl ⟨h4, _, hm, _, _, _, _, _, _, rf_noted _ _ _ _ _ _ 2 i (by omega), rfl, rfl, rfl, ?_, rfl, rfl, rfl⟩
          simp only [h4, if_true]
          rw [w64 (by omega) (by omega)]
        · refine .inr ⟨h4, _, hm, _, _, _, _, _, _, rf_noted _ _ _ _ _ _ 2 i (by omega), rfl, rfl, rfl, ?_, rfl, rfl, rfl⟩
          simp only [h4, if_false]
theorem Inv.write {n : Nat} {d : DS} {D : List R69} (h : Inv n d D) (hn : n ≤ 100000) (i : Int) (b : List Int) : Inv (n + 1) (writeD d i b).1 D ∧ (writeD d i b).1.p = d.p := by
  have hf := h.few
  have ho := h.ops
  have hw := writeD_wf (i := i) (b := b) h.wf (by omega) (by omega)
  unfold writeD at hw ⊢
  split
  · exact ⟨h.up, rfl⟩
  · rename_i h1
    rw [if_neg h1] at hw
    split
    · exact ⟨h.up, rfl⟩
    · rename_i h2
      rw [if_neg h2] at hw
      split
      · rename_i h3
        rw [if_pos h3] at hw
        exact ⟨⟨hw, by show D.length + d.u.length ≤ n + 1; omega, by show d.ops.length ≤ n + 1; omega, h.at_⟩, rfl⟩
      · rename_i h3
        rw [if_neg h3] at hw
        exact ⟨⟨hw, by simp only [List.length_append, List.length_singleton]; omega, by simp only [List.length_append, List.length_singleton]; omega, h.at_⟩, rfl⟩
theorem rf_read (d : DS) (D : List R69) (i : Int) (n : Nat) (h : Inv n d D) (hn : n ≤ 100000) :
    reliquaryref06_Read.rel (d.p.length : Int) (D.map toW) (d.u.map toW) d.left d.down d.ops i (d.p.length : Int) (D.map toW) ((readD d i).1.u.map toW) (readD d i).1.left (readD d i).1.down (readD d i).1.ops (strOfNums (readD d i).2.1) (readD d i).2.2 := by
  have hf := h.few
  have ho := h.ops
  unfold readD
  by_cases h1 : d.down = true
  · rw [if_pos h1]; exact .inl ⟨h1, rfl, rfl, rfl, rfl, rfl, rfl, rfl, rfl⟩
  · rw [if_neg h1]
    refine .inr ⟨h1, ?_⟩
    by_cases h2 : i < 0
    · rw [if_pos (.inl h2)]; exact .inl ⟨h2, rfl, rfl, rfl, rfl, rfl, rfl, rfl, rfl⟩
    · refine .inr ⟨h2, ?_⟩
      by_cases h3 : i ≥ (d.p.length : Int)
      · rw [if_pos (.inr h3)]; exact .inl ⟨h3, rfl, rfl, rfl, rfl, rfl, rfl, rfl, rfl⟩
      · rw [if_neg (by omega)]
        refine .inr ⟨h3, _, _, rf_last d.u i (by omega), ?_⟩
        unfold lastS
        cases hl : lastW d.u i with
        | some b =>
          exact .inr ⟨by simp, _, _, _, _, _, _, rf_noted _ _ _ _ _ _ 1 i (by omega), rfl, rfl, rfl, rfl, rfl, rfl, rfl, rfl⟩
        | none =>
          refine .inl ⟨by simp, _, rf_at _ D _ _ _ _ i (by omega), _, _, _, _, _, _, rf_noted _ _ _ _ _ _ 1 i (by omega), rfl, rfl, rfl, rfl, rfl, rfl, ?_, rfl⟩
          have e := h.at_ i.toNat (by omega)
          rw [show ((i.toNat : Nat) : Int) = i by omega] at e
          show strOfNums (gx d.p i.toNat) = _
          rw [e]
theorem Inv.read {n : Nat} {d : DS} {D : List R69} (h : Inv n d D) (hn : n ≤ 100000) (i : Int) : Inv (n + 1) (readD d i).1 D ∧ (readD d i).1.p = d.p := by
  have hf := h.few
  have ho := h.ops
  have hw := readD_wf (i := i) h.wf (by omega)
  unfold readD at hw ⊢
  split
  · exact ⟨h.up, rfl⟩
  · rename_i h1
    rw [if_neg h1] at hw
    split
    · exact ⟨h.up, rfl⟩
    · rename_i h2
      rw [if_neg h2] at hw
      exact ⟨⟨hw, by show D.length + d.u.length ≤ n + 1; omega, by simp only [List.length_append, List.length_singleton]; omega, h.at_⟩, rfl⟩
theorem rf_flush_L1 (n : Int) (D U : List R69) (left : Int) (down : Bool) (ops : List R81) (h1 : D.length + U.length ≤ 100000) (h2 : ops.length ≤ 100000) : ∀ (k f i : Nat), i + k = U.length → k < f →
    reliquaryref06_Flush.L1 n (U.map toW) left down ops n ((D ++ U).map toW) [] left down (ops ++ [(3, 0)]) 0 f ((D ++ U.take i).map toW) i := by
  intro k
  induction k with
  | zero =>
    intro f i h3 h4
    obtain ⟨f, rfl⟩ : ∃ m, f = m + 1 := ⟨f - 1, by omega⟩
    rw [List.take_of_length_le (by omega)]
    exact .inr ⟨by rw [List.length_map]; omega, _, _, _, _, _, _, rf_noted _ _ _ _ _ _ 3 0 (by omega), rfl, rfl, rfl, rfl, rfl, rfl, rfl⟩
  | succ k ih =>
    intro f i h3 h4
    obtain ⟨f, rfl⟩ : ∃ m, f = m + 1 := ⟨f - 1, by omega⟩
    refine .inl ⟨by rw [List.length_map]; omega, ⟨by omega, by rw [List.length_map]; omega⟩, ?_⟩
    rw [Int.toNat_natCast, gx_map toW (by omega)]
    refine ⟨_, rf_more (D ++ U.take i) (gx U i) (by rw [List.length_append, List.length_take]; omega), ?_⟩
    rw [show IntKind.i64.wrap ((i : Int) + 1) = ((i + 1 : Nat) : Int) by rw [w64 (by omega) (by omega)]; omega]
    have := ih f (i + 1) (by omega) (by omega)
    rw [List.take_succ_eq_append_getElem (by omega), ← List.append_assoc, ← gx_lt (by omega)] at this
    exact this
def flushL (d : DS) (D : List R69) : List R69 := if d.down = true then D else D ++ d.u
theorem rf_flush (d : DS) (D : List R69) (n : Nat) (h : Inv n d D) (hn : n ≤ 100000) :
    reliquaryref06_Flush.rel (d.p.length : Int) (D.map toW) (d.u.map toW) d.left d.down d.ops (d.p.length : Int) ((flushL d D).map toW) ((flushD d).1.u.map toW) (flushD d).1.left (flushD d).1.down (flushD d).1.ops (flushD d).2 := by
  have hf := h.few
  have ho := h.ops
  unfold flushD flushL
  by_cases h1 : d.down = true
  · rw [if_pos h1, if_pos h1]; exact .inl ⟨h1, rfl, rfl, rfl, rfl, rfl, rfl, rfl⟩
  · rw [if_neg h1, if_neg h1]
    refine .inr ⟨h1, d.u.length + 1, ?_⟩
    have := rf_flush_L1 (d.p.length : Int) D d.u d.left d.down d.ops (by omega) (by omega) d.u.length (d.u.length + 1) 0 (by omega) (by omega)
    rw [List.take_zero, List.append_nil] at this
    exact this
theorem lay_at {n : Nat} {d : DS} {D : List R69} (h : Inv n d D) (u : List R69) (hu : ∀ x ∈ u, x ∈ d.u) (k : Nat) (hk : k < d.p.length) : gx (layD d.p u) k = atD (D ++ u) k := by
  rw [gx_layD _ _ _ fun x hx => ⟨(h.wf.way x (hu x hx)).1, (h.wf.way x (hu x hx)).2.1⟩, atD_cat, h.at_ k hk]
theorem Inv.flush {n : Nat} {d : DS} {D : List R69} (h : Inv n d D) (hn : n ≤ 100000) : Inv (n + 1) (flushD d).1 (flushL d D) ∧ (flushD d).1.p.length = d.p.length := by
  have hf := h.few
  have ho := h.ops
  have hw := flushD_wf h.wf (by omega)
  unfold flushD at hw ⊢
  unfold flushL
  split
  · exact ⟨h.up, rfl⟩
  · rename_i h1
    rw [if_neg h1] at hw
    refine ⟨⟨hw, by rw [List.length_append]; show D.length + d.u.length + 0 ≤ n + 1; omega, by simp only [List.length_append, List.length_singleton]; omega, fun k hk => ?_⟩, layD_length _ _⟩
    rw [layD_length] at hk
    exact lay_at h d.u (fun x hx => hx) k hk
theorem rf_stop (d : DS) (D : List R69) (a : Int) :
    reliquaryref06_Stop.rel (d.p.length : Int) (D.map toW) (d.u.map toW) d.left d.down d.ops a (d.p.length : Int) (D.map toW) ((stopD d a).u.map toW) (stopD d a).left (stopD d a).down (stopD d a).ops := by
  unfold stopD maxI
  by_cases h : a < 0
  · refine .inl ⟨h, rfl, rfl, rfl, ?_, rfl, rfl⟩
    simp only
    split <;> omega
  · refine .inr ⟨h, rfl, rfl, rfl, ?_, rfl, rfl⟩
    simp only
    split <;> omega
theorem Inv.stop {n : Nat} {d : DS} {D : List R69} (h : Inv n d D) (a : Int) (ha : -9223372036854775808 ≤ a ∧ a ≤ 9223372036854775807) : Inv (n + 1) (stopD d a) D :=
  ⟨⟨h.wf.rows, h.wf.way, h.wf.few, by unfold stopD maxI; simp only; split <;> omega⟩, h.up.few, h.up.ops, h.at_⟩
theorem rf_crash_L1 (n : Int) (D U : List R69) (kp : List Bool) (ops : List R81) (h1 : D.length + U.length ≤ 100000) : ∀ (k f i : Nat), i + k = U.length → k < f →
    reliquaryref06_Crash.L1 n (U.map toW) ops kp n ((D ++ kept U kp).map toW) [] (-1) false ops f ((D ++ kept (U.take i) kp).map toW) i := by
  have hkl : ∀ (u : List R69) (q : List Bool), (kept u q).length ≤ u.length := by
    intro u
    induction u with
    | nil => intro q; simp [kept]
    | cons x u ih =>
      intro q
      match q with
      | [] => simp [kept]
      | true :: q => have := ih q; simp [kept]; omega
      | false :: q => have := ih q; simp [kept]; omega
  have stop : ∀ i : Nat, kp.length ≤ i → i ≤ U.length → kept (U.take i) kp = kept U kp := by
    intro i h3 h4
    obtain ⟨j, hj⟩ : ∃ j, U.length = i + j := ⟨U.length - i, by omega⟩
    induction j generalizing i with
    | zero => rw [List.take_of_length_le (by omega)]
    | succ j ih =>
      have e := kept_take U kp i (by omega)
      rw [if_neg (by rintro ⟨h, _⟩; omega), List.append_nil] at e
      rw [← e]
      exact ih (i + 1) (by omega) (by omega) (by omega)
  intro k
  induction k with
  | zero =>
    intro f i h3 h4
    obtain ⟨f, rfl⟩ : ∃ m, f = m + 1 := ⟨f - 1, by omega⟩
    rw [List.take_of_length_le (by omega)]
    exact .inr ⟨by rw [List.length_map]; omega, rfl, rfl, rfl, rfl, rfl, rfl⟩
  | succ k ih =>
    intro f i h3 h4
    obtain ⟨f, rfl⟩ : ∃ m, f = m + 1 := ⟨f - 1, by omega⟩
    refine .inl ⟨by rw [List.length_map]; omega, ?_⟩
    by_cases h5 : i < kp.length
    · have ih' := ih f (i + 1) (by omega) (by omega)
      rw [kept_take U kp i (by omega)] at ih'
      refine .inl ⟨by omega, ⟨by omega, by omega⟩, ?_⟩
      rw [Int.toNat_natCast, show IntKind.i64.wrap ((i : Int) + 1) = ((i + 1 : Nat) : Int) by rw [w64 (by omega) (by omega)]; omega]
      by_cases h6 : gb kp i = true
      · rw [if_pos ⟨h5, h6⟩, ← List.append_assoc] at ih'
        refine .inl ⟨h6, ⟨by omega, by rw [List.length_map]; omega⟩, _, ?_, ih'⟩
        rw [gx_map toW (by omega)]
        exact rf_more (D ++ kept (U.take i) kp) (gx U i) (by rw [List.length_append]; have := hkl (U.take i) kp; rw [List.length_take] at this; omega)
      · rw [if_neg (by rintro ⟨_, h⟩; exact h6 h), List.append_nil] at ih'
        exact .inr ⟨h6, ih'⟩
    · refine .inr ⟨by omega, rfl, ?_, rfl, rfl, rfl, rfl⟩
      rw [stop i (by omega) (by omega)]
theorem kept_le : ∀ (u : List R69) (q : List Bool), (kept u q).length ≤ u.length
  | [], q => by simp [kept]
  | x :: u, [] => by simp [kept]
  | x :: u, true :: q => by have := kept_le u q; simp [kept]; omega
  | x :: u, false :: q => by have := kept_le u q; simp [kept]; omega
theorem rf_crash (d : DS) (D : List R69) (kp : List Bool) (n : Nat) (h : Inv n d D) (hn : n ≤ 100000) :
    reliquaryref06_Crash.rel (d.p.length : Int) (D.map toW) (d.u.map toW) d.left d.down d.ops kp (d.p.length : Int) ((D ++ kept d.u kp).map toW) ((crashD d kp).u.map toW) (crashD d kp).left (crashD d kp).down (crashD d kp).ops := by
  have hf := h.few
  refine ⟨d.u.length + 1, ?_⟩
  have := rf_crash_L1 (d.p.length : Int) D d.u kp d.ops (by omega) d.u.length (d.u.length + 1) 0 (by omega) (by omega)
  have e : kept (d.u.take 0) kp = [] := by cases kp <;> rfl
  rw [e, List.append_nil] at this
  exact this
theorem Inv.crash {n : Nat} {d : DS} {D : List R69} (h : Inv n d D) (kp : List Bool) : Inv (n + 1) (crashD d kp) (D ++ kept d.u kp) ∧ (crashD d kp).p.length = d.p.length := by
  have hf := h.few
  have ho := h.ops
  have hk := kept_le d.u kp
  refine ⟨⟨crashD_wf h.wf, by rw [List.length_append]; show D.length + (kept d.u kp).length + 0 ≤ n + 1; omega, by show d.ops.length ≤ n + 1; omega, fun k hk => ?_⟩, layD_length _ _⟩
  have hk' : k < d.p.length := by unfold crashD at hk; rwa [layD_length] at hk
  exact lay_at h (kept d.u kp) (fun x hx => kept_mem hx) k hk'

def othB (i : Int) (x : R69) : Bool := decide (x.1 ≠ i)
theorem dk_find_L1 (l : List R69) (k : Int) : ∀ (d f i : Nat) (z : Int), i + d = l.length → d < f → l.length ≤ 1000000 → (∀ j, j < i → (gx l j).1 ≠ k) →
    slices_IndexFunc_s_disk_write_disk_write_clo1_disk_Disk_Tamper_1.L1 l k (fix (fun x : R69 => x.1 == k) l) f z i := by
  intro d
  induction d with
  | zero =>
    intro f i z h1 h2 h3 h4
    obtain ⟨f, rfl⟩ : ∃ m, f = m + 1 := ⟨f - 1, by omega⟩
    refine .inr ⟨by omega, ?_⟩
    unfold fix
    rw [if_neg]
    intro hlt
    have := List.findIdx_getElem (p := fun x : R69 => x.1 == k) (w := hlt)
    have h5 := h4 _ (by omega : l.findIdx (fun x : R69 => x.1 == k) < i)
    rw [gx_lt hlt] at h5
    exact h5 (by simpa using this)
  | succ d ih =>
    intro f i z h1 h2 h3 h4
    obtain ⟨f, rfl⟩ : ∃ m, f = m + 1 := ⟨f - 1, by omega⟩
    refine .inl ⟨by omega, ⟨by omega, by omega⟩, _, rfl, ?_⟩
    rw [Int.toNat_natCast]
    by_cases hk : (gx l i).1 = k
    · exact .inl ⟨by simpa using hk, fix_eq (by omega) (by simpa using hk) (fun j hj => by simpa using h4 j hj)⟩
    · refine .inr ⟨by simpa using hk, ?_⟩
      rw [show IntKind.i64.wrap ((i : Int) + 1) = ((i + 1 : Nat) : Int) by rw [w64 (by omega) (by omega)]; omega]
      refine ih f (i + 1) z (by omega) (by omega) h3 fun j hj => ?_
      rcases Nat.lt_or_ge j i with h | h
      · exact h4 j h
      · obtain rfl : j = i := by omega
        exact hk
theorem drop_gx {α : Type} [Inhabited α] {a b : List α} {i : Nat} (h : a.drop i = b.drop i) (hi : i < b.length) (ha : a.length = b.length) : gx a i = gx b i := by
  rw [gx_lt (by omega), gx_lt hi]
  have := congrArg (·[0]?) h
  simp only [List.getElem?_drop, Nat.add_zero] at this
  rw [List.getElem?_eq_getElem (by omega), List.getElem?_eq_getElem hi] at this
  exact Option.some.inj this
theorem dk_delete_L1 (l : List R69) (k : Int) (hl : l.length ≤ 1000000) (h0 : 0 < l.length) : ∀ (d f i c : Nat) (X : List R69), i + d = l.length → d < f → X.length = l.length → X.drop i = l.drop i → X.take c = (l.take i).filter (othB k) → c ≤ i →
    slices_DeleteFunc_s_disk_write_disk_write_clo1_disk_Disk_Tamper_1_own0.L1 k (l.filter (othB k)) f X c i := by
  intro d
  induction d with
  | zero =>
    intro f i c X h1 h2 h3 h4 h5 h6
    obtain ⟨f, rfl⟩ : ∃ m, f = m + 1 := ⟨f - 1, by omega⟩
    refine .inr ⟨by omega, ⟨by omega, by omega, by omega⟩, by omega, _, rfl, ?_⟩
    rw [Int.toNat_natCast, h5, List.take_of_length_le (by omega)]
  | succ d ih =>
    intro f i c X h1 h2 h3 h4 h5 h6
    obtain ⟨f, rfl⟩ : ∃ m, f = m + 1 := ⟨f - 1, by omega⟩
    have eg := drop_gx h4 (by omega) h3
    have ew : ∀ z : Nat, z ≤ 1000000 → IntKind.i64.wrap ((z : Int) + 1) = ((z + 1 : Nat) : Int) := fun z hz => by rw [w64 (by omega) (by omega)]; omega
    have ef : (l.take (i + 1)).filter (othB k) = (l.take i).filter (othB k) ++ (if (gx l i).1 = k then [] else [gx l i]) := by
      rw [List.take_succ_eq_append_getElem (by omega), List.filter_append, ← gx_lt (by omega)]
      by_cases hk : (gx l i).1 = k
      · rw [if_pos hk]; simp [othB, hk]
      · rw [if_neg hk]; simp [othB, hk]
    have ed : l.drop (i + 1) = (l.drop i).drop 1 := by rw [List.drop_drop]
    refine .inl ⟨by omega, ⟨by omega, by omega⟩, _, rfl, ?_⟩
    rw [Int.toNat_natCast, Int.toNat_natCast, eg, ew i (by omega), ew c (by omega)]
    by_cases hk : (gx l i).1 = k
    · refine .inr ⟨by simp [hk], ih f (i + 1) c X (by omega) (by omega) h3 ?_ ?_ (by omega)⟩
      · rw [ed, ← h4, List.drop_drop]
      · rw [ef, if_pos hk, List.append_nil]; exact h5
    · refine .inl ⟨by simp [hk], ⟨by omega, by omega⟩, _, rfl, ih f (i + 1) (c + 1) _ (by omega) (by omega) (by rw [List.length_set]; exact h3) ?_ ?_ (by omega)⟩
      · rw [List.drop_set_of_lt (by omega), ed, ← h4, List.drop_drop]
      · rw [ef, if_neg hk, ← h5, List.take_succ_eq_append_getElem (by rw [List.length_set]; omega), List.take_set_of_le (Nat.le_refl _), List.getElem_set_self]
theorem dk_delete (l : List R69) (k : Int) (hl : l.length ≤ 1000000) : slices_DeleteFunc_s_disk_write_disk_write_clo1_disk_Disk_Tamper_1_own0.rel l k (l.filter (othB k)) := by
  refine ⟨_, ⟨l.length + 1, dk_find_L1 l k l.length _ 0 0 (by omega) (by omega) hl (by omega)⟩, ?_⟩
  by_cases hf : fix (fun x : R69 => x.1 == k) l < 0
  · have h := fix_neg.1 hf
    refine .inl ⟨?_, ?_⟩
    · unfold fix at hf ⊢
      split at hf
      · omega
      · rename_i hh; rw [if_neg hh]
    · exact List.filter_eq_self.2 fun x hx => by have := h x hx; simpa [othB] using this
  · obtain ⟨q, e, hq, h1, h2⟩ := fix_pos hf
    refine .inr ⟨by omega, l.length + 1, ?_⟩
    rw [e, show IntKind.i64.wrap ((q : Int) + 1) = ((q + 1 : Nat) : Int) by rw [w64 (by omega) (by omega)]; omega]
    refine dk_delete_L1 l k hl (by omega) (l.length - (q + 1)) _ (q + 1) q l (by omega) (by omega) rfl rfl ?_ (by omega)
    rw [List.take_succ_eq_append_getElem hq, List.filter_append, ← gx_lt hq]
    have e2 : ([gx l q] : List R69).filter (othB k) = [] := by
      have : (gx l q).1 = k := by simpa using h1
      simp [othB, this]
    rw [e2, List.append_nil]
    refine (List.filter_eq_self.2 fun x hx => ?_).symm
    obtain ⟨j, hj, rfl⟩ := List.getElem_of_mem hx
    rw [List.length_take] at hj
    have := h2 j (by omega)
    rw [gx_lt (by omega)] at this
    rw [List.getElem_take]
    simpa [othB] using this
def tamperD (d : DS) (i : Int) (b : List Int) : DS × Int :=
  if fitsE d i b ≠ 0 then (d, fitsE d i b) else ({ d with p := d.p.set i.toNat b, u := d.u.filter (othB i) }, 0)
theorem dk_tamper (d : DS) (i : Int) (b : List Int) (h : d.Wf) : disk_Disk_Tamper.rel d.p d.u d.left d.down d.ops i b (tamperD d i b).1.p (tamperD d i b).1.u (tamperD d i b).1.left (tamperD d i b).1.down (tamperD d i b).1.ops (tamperD d i b).2 := by
  have hf := h.few
  unfold tamperD
  refine ⟨_, _, _, _, _, _, dk_fits d i b, ?_⟩
  by_cases h2 : fitsE d i b ≠ 0
  · rw [if_pos h2]; exact .inl ⟨h2, rfl, rfl, rfl, rfl, rfl, rfl⟩
  · rw [if_neg h2]
    have hb := fitsE_zero (Decidable.not_not.1 h2)
    exact .inr ⟨h2, b, dk_clone b (by omega), ⟨by omega, by omega⟩, _, rfl, _, dk_delete d.u i (by omega), rfl, rfl, rfl, rfl, rfl, rfl⟩
theorem rf_tamper_L1 (n : Int) (U : List R69) (left : Int) (down : Bool) (ops : List R81) (a : Int) (E : List R86) (hU : U.length ≤ 100000) : ∀ (k f i : Nat), i + k = U.length → k < f →
    reliquaryref06_Tamper.L1 n (U.map toW) left down ops a n E ((U.filter (othB a)).map toW) left down ops 0 E f (((U.take i).filter (othB a)).map toW) i := by
  intro k
  induction k with
  | zero =>
    intro f i h3 h4
    obtain ⟨f, rfl⟩ : ∃ m, f = m + 1 := ⟨f - 1, by omega⟩
    rw [List.take_of_length_le (by omega)]
    exact .inr ⟨by rw [List.length_map]; omega, rfl, rfl, rfl, rfl, rfl, rfl, rfl⟩
  | succ k ih =>
    intro f i h3 h4
    obtain ⟨f, rfl⟩ : ∃ m, f = m + 1 := ⟨f - 1, by omega⟩
    have ih' := ih f (i + 1) (by omega) (by omega)
    rw [List.take_succ_eq_append_getElem (by omega), List.filter_append, ← gx_lt (by omega)] at ih'
    refine .inl ⟨by rw [List.length_map]; omega, ⟨by omega, by rw [List.length_map]; omega⟩, ?_⟩
    rw [Int.toNat_natCast, gx_map toW (by omega), show IntKind.i64.wrap ((i : Int) + 1) = ((i + 1 : Nat) : Int) by rw [w64 (by omega) (by omega)]; omega]
    by_cases hk : (gx U i).1 = a
    · have e2 : ([gx U i] : List R69).filter (othB a) = [] := by simp [othB, hk]
      rw [e2, List.append_nil] at ih'
      exact .inr ⟨fun h => h hk, ih'⟩
    · have e2 : ([gx U i] : List R69).filter (othB a) = [gx U i] := by simp [othB, hk]
      rw [e2, List.map_append] at ih'
      refine .inl ⟨hk, ⟨by omega, by rw [List.length_map]; omega⟩, _, rfl, ?_, ih'⟩
      rw [List.length_append, List.length_map]
      have := List.length_filter_le (othB a) (U.take i)
      rw [List.length_take] at this
      simp only [List.length_singleton]
      omega
def tamperL (d : DS) (D : List R69) (i : Int) (b : List Int) : List R69 := if fitsE d i b ≠ 0 then D else D ++ [(i, b)]
theorem rf_tamper (d : DS) (D : List R69) (i : Int) (b : List Int) (n : Nat) (h : Inv n d D) (hn : n ≤ 100000) :
    reliquaryref06_Tamper.rel (d.p.length : Int) (D.map toW) (d.u.map toW) d.left d.down d.ops i (strOfNums b) (d.p.length : Int) ((tamperL d D i b).map toW) ((tamperD d i b).1.u.map toW) (tamperD d i b).1.left (tamperD d i b).1.down (tamperD d i b).1.ops (tamperD d i b).2 := by
  have hf := h.few
  unfold tamperD tamperL
  refine ⟨_, rf_fits d _ _ _ _ _ i b, ?_⟩
  by_cases h2 : fitsE d i b ≠ 0
  · rw [if_pos h2, if_pos h2]; exact .inl ⟨h2, rfl, rfl, rfl, rfl, rfl, rfl, rfl⟩
  · rw [if_neg h2, if_neg h2]
    refine .inr ⟨h2, _, rf_more D (i, b) (by omega), d.u.length + 1, ?_⟩
    exact rf_tamper_L1 (d.p.length : Int) d.u d.left d.down d.ops i _ (by omega) d.u.length (d.u.length + 1) 0 (by omega) (by omega)
theorem Inv.tamper {n : Nat} {d : DS} {D : List R69} (h : Inv n d D) (i : Int) (b : List Int) : Inv (n + 1) (tamperD d i b).1 (tamperL d D i b) ∧ (tamperD d i b).1.p.length = d.p.length := by
  have hf := h.few
  have ho := h.ops
  unfold tamperD tamperL
  split
  · exact ⟨h.up, rfl⟩
  · rename_i h2
    have hb := fitsE_zero (Decidable.not_not.1 h2)
    have hl := List.length_filter_le (othB i) d.u
    have hfew := h.wf.few
    refine ⟨⟨⟨fun r hr => ?_, fun x hx => ?_, ⟨by show (d.u.filter (othB i)).length ≤ _; omega, hfew.2.1, by simp only [List.length_set]; exact hfew.2.2⟩, h.wf.num⟩, ?_, by show d.ops.length ≤ n + 1; omega, fun k hk => ?_⟩, List.length_set ..⟩
    · rcases List.mem_or_eq_of_mem_set hr with hr | rfl
      · exact h.wf.rows r hr
      · exact hb.2.2
    · simp only [List.length_set]
      exact h.wf.way x (List.mem_filter.1 hx).1
    · rw [List.length_append, List.length_singleton]
      show D.length + 1 + (d.u.filter (othB i)).length ≤ n + 1
      omega
    · simp only [List.length_set] at hk
      simp only
      rw [gx_set (by omega), atD_cat, ← h.at_ k hk]
      unfold lastW lastW
      by_cases e : k = i.toNat
      · rw [if_pos e]
        simp only
        rw [if_pos (by omega)]
        rfl
      · rw [if_neg e]
        simp only
        rw [if_neg (by omega)]
        rfl

def fullA (a : R33) : List Int := fullD a.2.2.1 a.2.2.2.2
theorem dk_fullA (a : R33) : reliquarylaw06_full.rel a.1 a.2.1 a.2.2.1 a.2.2.2.1 a.2.2.2.2 (fullA a) := dk_full _ _ _ _ _
theorem bq (x : Int) : true = (x == x) := (beq_self_eq_true x).symm
theorem dk_step (d : DS) (D : List R69) (a : R33) (n : Nat) (h : Inv n d D) (hn : n ≤ 100000) (ha : -9223372036854775808 ≤ a.2.1 ∧ a.2.1 ≤ 9223372036854775807) :
    ∃ d' D', reliquarylaw06_step.rel d.p d.u d.left d.down d.ops (d.p.length : Int) (D.map toW) (d.u.map toW) d.left d.down d.ops a.1 a.2.1 a.2.2.1 a.2.2.2.1 a.2.2.2.2 d'.p d'.u d'.left d'.down d'.ops (d.p.length : Int) (List.map toW D') (d'.u.map toW) d'.left d'.down d'.ops true ∧ Inv (n + 1) d' D' ∧ d'.p.length = d.p.length := by
  have hF := dk_fullA a
  obtain ⟨t, ht⟩ : ∃ t, t = bits .and .i64 a.1 7 := ⟨_, rfl⟩
  unfold reliquarylaw06_step.rel
  rw [← ht]
  by_cases t0 : t = 0
  · obtain ⟨i1, i2⟩ := h.write hn a.2.1 (fullA a)
    exact ⟨(writeD d a.2.1 (fullA a)).1, D, ⟨_, hF, .inl ⟨t0, _, _, _, _, _, _, dk_write d a.2.1 (fullA a) h.wf, _, _, _, _, _, _, _, rf_write d D a.2.1 (fullA a) n h hn, rfl, rfl, rfl, rfl, rfl, rfl, rfl, rfl, rfl, rfl, rfl, bq _⟩⟩, i1, by rw [i2]⟩
  by_cases t1 : t = 1
  · obtain ⟨i1, i2⟩ := h.write hn a.2.1 (fullA a)
    exact ⟨(writeD d a.2.1 (fullA a)).1, D, ⟨_, hF, .inr ⟨t0, .inl ⟨t1, _, _, _, _, _, _, dk_write d a.2.1 (fullA a) h.wf, _, _, _, _, _, _, _, rf_write d D a.2.1 (fullA a) n h hn, rfl, rfl, rfl, rfl, rfl, rfl, rfl, rfl, rfl, rfl, rfl, bq _⟩⟩⟩, i1, by rw [i2]⟩
  by_cases t2 : t = 2
  · obtain ⟨i1, i2⟩ := h.read hn a.2.1
    exact ⟨(readD d a.2.1).1, D, ⟨_, hF, .inr ⟨t0, .inr ⟨t1, .inl ⟨t2, _, _, _, _, _, _, _, dk_read d a.2.1 h.wf, _, _, _, _, _, _, _, _, rf_read d D a.2.1 n h hn, .inl ⟨rfl, rfl, rfl, rfl, rfl, rfl, rfl, rfl, rfl, rfl, rfl, rfl, bq _⟩⟩⟩⟩⟩, i1, by rw [i2]⟩
  by_cases t3 : t = 3
  · obtain ⟨i1, i2⟩ := h.flush hn
    exact ⟨(flushD d).1, flushL d D, ⟨_, hF, .inr ⟨t0, .inr ⟨t1, .inr ⟨t2, .inl ⟨t3, _, _, _, _, _, _, dk_flush d h.wf, _, _, _, _, _, _, _, rf_flush d D n h hn, rfl, rfl, rfl, rfl, rfl, rfl, rfl, rfl, rfl, rfl, rfl, bq _⟩⟩⟩⟩⟩, i1, i2⟩
  by_cases t4 : t = 4
  · exact ⟨stopD d a.2.1, D, ⟨_, hF, .inr ⟨t0, .inr ⟨t1, .inr ⟨t2, .inr ⟨t3, .inl ⟨t4, _, _, _, _, _, dk_stop d a.2.1, _, _, _, _, _, _, rf_stop d D a.2.1, rfl, rfl, rfl, rfl, rfl, rfl, rfl, rfl, rfl, rfl, rfl, rfl⟩⟩⟩⟩⟩⟩, h.stop a.2.1 ha, rfl⟩
  by_cases t5 : t = 5
  · obtain ⟨i1, i2⟩ := h.crash a.2.2.2.1
    exact ⟨crashD d a.2.2.2.1, D ++ kept d.u a.2.2.2.1, ⟨_, hF, .inr ⟨t0, .inr ⟨t1, .inr ⟨t2, .inr ⟨t3, .inr ⟨t4, .inl ⟨t5, _, _, _, _, _, dk_crash d a.2.2.2.1 h.wf, _, _, _, _, _, _, rf_crash d D a.2.2.2.1 n h hn, rfl, rfl, rfl, rfl, rfl, rfl, rfl, rfl, rfl, rfl, rfl, rfl⟩⟩⟩⟩⟩⟩⟩, i1, i2⟩
  by_cases t6 : t = 6
  · obtain ⟨i1, i2⟩ := h.tamper a.2.1 (fullA a)
    exact ⟨(tamperD d a.2.1 (fullA a)).1, tamperL d D a.2.1 (fullA a), ⟨_, hF, .inr ⟨t0, .inr ⟨t1, .inr ⟨t2, .inr ⟨t3, .inr ⟨t4, .inr ⟨t5, .inl ⟨t6, _, _, _, _, _, _, dk_tamper d a.2.1 (fullA a) h.wf, _, _, _, _, _, _, _, rf_tamper d D a.2.1 (fullA a) n h hn, rfl, rfl, rfl, rfl, rfl, rfl, rfl, rfl, rfl, rfl, rfl, bq _⟩⟩⟩⟩⟩⟩⟩⟩, i1, i2⟩
  · obtain ⟨i1, i2⟩ := h.read hn a.2.1
    exact ⟨(readD d a.2.1).1, D, ⟨_, hF, .inr ⟨t0, .inr ⟨t1, .inr ⟨t2, .inr ⟨t3, .inr ⟨t4, .inr ⟨t5, .inr ⟨t6, _, _, _, _, _, _, _, dk_read d a.2.1 h.wf, _, _, _, _, _, _, _, _, rf_read d D a.2.1 n h hn, .inl ⟨rfl, rfl, rfl, rfl, rfl, rfl, rfl, rfl, rfl, rfl, rfl, rfl, bq _⟩⟩⟩⟩⟩⟩⟩⟩⟩, i1, by rw [i2]⟩
theorem dk_image_L1 (d : DS) (h : d.Wf) : ∀ (k f i : Nat), i + k = d.p.length → k < f → disk_Disk_Image.L1 d.p d.u d.left d.down d.ops d.p d.u d.left d.down d.ops d.p f (d.p.take i) i := by
  have hf := h.few
  intro k
  induction k with
  | zero =>
    intro f i h1 h2
    obtain ⟨f, rfl⟩ : ∃ m, f = m + 1 := ⟨f - 1, by omega⟩
    refine .inr ⟨by omega, rfl, rfl, rfl, rfl, rfl, ?_⟩
    rw [List.take_of_length_le (by omega)]
  | succ k ih =>
    intro f i h1 h2
    obtain ⟨f, rfl⟩ : ∃ m, f = m + 1 := ⟨f - 1, by omega⟩
    have hr := h.rows _ (gx_mem (l := d.p) (i := i) (by omega))
    have ih' := ih f (i + 1) (by omega) (by omega)
    rw [List.take_succ_eq_append_getElem (by omega), ← gx_lt (by omega)] at ih'
    refine .inl ⟨by omega, ⟨by omega, by omega⟩, gx d.p i, ?_, _, rfl, by simp; omega, ?_⟩
    · rw [Int.toNat_natCast]; exact dk_clone _ (by omega)
    · rw [show IntKind.i64.wrap ((i : Int) + 1) = ((i + 1 : Nat) : Int) by rw [w64 (by omega) (by omega)]; omega]
      exact ih'
theorem dk_image (d : DS) (h : d.Wf) : disk_Disk_Image.rel d.p d.u d.left d.down d.ops d.p d.u d.left d.down d.ops d.p := ⟨d.p.length + 1, dk_image_L1 d h d.p.length _ 0 (by omega) (by omega)⟩
def imW (D : List R69) (n : Nat) : List R9 := (List.range n).map fun k : Nat => strOfNums (atD D (k : Int))
theorem imW_succ (D : List R69) (n : Nat) : imW D (n + 1) = imW D n ++ [strOfNums (atD D n)] := by
  unfold imW
  rw [List.range_succ, List.map_append]
  rfl
theorem imW_length (D : List R69) (n : Nat) : (imW D n).length = n := by simp [imW]
theorem imW_gx (D : List R69) {n k : Nat} (h : k < n) : gx (imW D n) k = strOfNums (atD D k) := by
  rw [gx_lt (by rw [imW_length]; exact h)]
  simp [imW]
theorem rf_image_L1 (n : Nat) (D : List R69) (U : List R86) (left : Int) (down : Bool) (ops : List R81) (hl : D.length ≤ 1000000) (hn : n ≤ 1000000) : ∀ (k f i : Nat), i + k = n → k < f → reliquaryref06_Image.L1 (n : Int) (D.map toW) U left down ops (imW D n) f (imW D i) i := by
  intro k
  induction k with
  | zero =>
    intro f i h1 h2
    obtain ⟨f, rfl⟩ : ∃ m, f = m + 1 := ⟨f - 1, by omega⟩
    obtain rfl : i = n := by omega
    exact .inr ⟨by omega, rfl⟩
  | succ k ih =>
    intro f i h1 h2
    obtain ⟨f, rfl⟩ : ∃ m, f = m + 1 := ⟨f - 1, by omega⟩
    have ih' := ih f (i + 1) (by omega) (by omega)
    rw [imW_succ] at ih'
    refine .inl ⟨by omega, _, rf_at _ D _ _ _ _ i hl, _, rfl, by rw [List.length_append, imW_length]; simp; omega, ?_⟩
    rw [show IntKind.i64.wrap ((i : Int) + 1) = ((i + 1 : Nat) : Int) by rw [w64 (by omega) (by omega)]; omega]
    exact ih'
theorem rf_image (n : Nat) (D : List R69) (U : List R86) (left : Int) (down : Bool) (ops : List R81) (hl : D.length ≤ 1000000) (hn : n ≤ 1000000) : reliquaryref06_Image.rel (n : Int) (D.map toW) U left down ops (imW D n) := ⟨n + 1, rf_image_L1 n D U left down ops hl hn n (n + 1) 0 (by omega) (by omega)⟩
theorem same_L2 (d : DS) (b : Bool) (h : d.ops.length ≤ 1000000) : ∀ (k f i : Nat), i + k = d.ops.length → k < f → reliquarylaw06_same.L2 d.ops d.p d.u d.left d.down d.ops true d.ops d.p d.u d.left d.down d.ops f b i := by
  intro k
  induction k with
  | zero =>
    intro f i h1 h2
    obtain ⟨f, rfl⟩ : ∃ m, f = m + 1 := ⟨f - 1, by omega⟩
    exact .inr ⟨by omega, rfl, rfl, rfl, rfl, rfl, rfl⟩
  | succ k ih =>
    intro f i h1 h2
    obtain ⟨f, rfl⟩ : ∃ m, f = m + 1 := ⟨f - 1, by omega⟩
    refine .inl ⟨by omega, ⟨by omega, by omega⟩, ⟨by omega, by omega⟩, .inr ⟨fun h => h rfl, ⟨by omega, by omega⟩, ⟨by omega, by omega⟩, .inr ⟨fun h => h rfl, ?_⟩⟩⟩
    rw [show IntKind.i64.wrap ((i : Int) + 1) = ((i + 1 : Nat) : Int) by rw [w64 (by omega) (by omega)]; omega]
    exact ih f (i + 1) (by omega) (by omega)
theorem same_L1 (d : DS) (D : List R69) (n : Nat) (h : Inv n d D) (b : Bool) : ∀ (k f i : Nat), i + k = d.p.length → k < f → reliquarylaw06_same.L1 d.ops d.p d.u d.left d.down d.ops true d.p (imW D d.p.length) d.ops d.p d.u d.left d.down d.ops f b i := by
  have hf := h.wf.few
  intro k
  induction k with
  | zero =>
    intro f i h1 h2
    obtain ⟨f, rfl⟩ : ∃ m, f = m + 1 := ⟨f - 1, by omega⟩
    exact .inr ⟨by omega, d.ops.length + 1, same_L2 d b hf.2.1 d.ops.length _ 0 (by omega) (by omega)⟩
  | succ k ih =>
    intro f i h1 h2
    obtain ⟨f, rfl⟩ : ∃ m, f = m + 1 := ⟨f - 1, by omega⟩
    refine .inl ⟨by omega, ⟨by omega, by omega⟩, ⟨by omega, by rw [imW_length]; omega⟩, .inr ⟨?_, ?_⟩⟩
    · rw [Int.toNat_natCast, imW_gx D (by omega), h.at_ i (by omega)]
      exact fun h => h rfl
    · rw [show IntKind.i64.wrap ((i : Int) + 1) = ((i + 1 : Nat) : Int) by rw [w64 (by omega) (by omega)]; omega]
      exact ih f (i + 1) (by omega) (by omega)
theorem dk_same (d : DS) (D : List R69) (n : Nat) (h : Inv n d D) (hn : n ≤ 100000) :
    reliquarylaw06_same.rel d.p d.u d.left d.down d.ops (d.p.length : Int) (D.map toW) (d.u.map toW) d.left d.down d.ops d.p d.u d.left d.down d.ops true := by
  have hf := h.wf.few
  have hD := h.few
  exact ⟨_, _, _, _, _, _, dk_image d h.wf, _, rf_image d.p.length D _ _ _ _ (by omega) hf.2.2, _, _, _, _, _, _, dk_ops d h.wf, .inr ⟨by rw [imW_length]; exact fun h => h rfl, _, _, _, _, _, _, dk_pending d, .inr ⟨by rw [List.length_map]; exact fun h => h rfl, .inr ⟨fun h => h rfl, _, _, _, _, _, _, dk_size d, .inr ⟨fun h => h rfl, d.p.length + 1, same_L1 d D n h false d.p.length _ 0 (by omega) (by omega)⟩⟩⟩⟩⟩
theorem Inv.new (n : Nat) (h : n ≤ 4096) : Inv 0 (newD n) [] := ⟨newD_wf n h, Nat.le_refl _, Nat.le_refl _, fun k hk => by rw [newD_gx (by rwa [newD_len] at hk)]; rfl⟩
def ok33 (x : R33) : Prop := (-9223372036854775808 ≤ x.1 ∧ x.1 ≤ 9223372036854775807) ∧ (-9223372036854775808 ≤ x.2.1 ∧ x.2.1 ≤ 9223372036854775807) ∧ (x.2.2.1.length ≤ 9223372036854775807 ∧ Byt x.2.2.1) ∧ (x.2.2.2.1.length ≤ 9223372036854775807) ∧ True
end Go.Proofs.Ytjlifbnkdfofhaa
