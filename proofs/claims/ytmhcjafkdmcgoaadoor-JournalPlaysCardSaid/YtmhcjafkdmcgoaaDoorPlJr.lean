/- Words of other texts, picked for this seat (wip/gen/pick.py: PlDk PlDa PlDp PlDi). -/
import Derived.Test.YtmhcjafkdmcgoaaDoorPlJf
namespace Go.Proofs.YtmhcjafkdmcgoaaDoor
open Go Go.Kr Go.RowKit
set_option linter.unusedVariables false
set_option linter.unusedSimpArgs false
theorem lastW_eq : ∀ {l : List R124} {i : Int} {q : Nat}, q < l.length → (gx l q).1 = i → (∀ p, q < p → p < l.length → (gx l p).1 ≠ i) → lastW l i = some (gx l q).2
  | [], i, q, h, _, _ => by simp at h
  | x :: l, i, 0, h, h1, h2 => by
    have : lastW l i = none := lastW_none.2 fun y hy => by
      obtain ⟨p, hp, rfl⟩ := List.getElem_of_mem hy
      have := h2 (p + 1) (by omega) (by simp; omega)
      rwa [gx_cons_succ, gx_lt hp] at this
    unfold lastW
    rw [this]
    exact if_pos h1
  | x :: l, i, q + 1, h, h1, h2 => by
    have h' : q < l.length := by simp at h; omega
    have := lastW_eq (l := l) (i := i) (q := q) h' h1 fun p hp hl => h2 (p + 1) (by omega) (by simp; omega)
    unfold lastW
    rw [this]
    rfl
def kept : List R124 → List Bool → List R124
 | x :: u, true :: k => x :: kept u k
 | _ :: u, false :: k => kept u k
 | _, _ => []
theorem kept_take : ∀ (u : List R124) (k : List Bool) (i : Nat), i < u.length → kept (u.take (i + 1)) k = kept (u.take i) k ++ (if i < k.length ∧ gb k i = true then [gx u i] else [])
  | [], _, i, h => by simp at h
  | x :: u, [], i, h => by
    rw [if_neg (by simp)]
    have : ∀ l : List R124, kept l [] = [] := fun l => by cases l <;> rfl
    rw [this, this]; rfl
  | x :: u, b :: k, 0, h => by
    cases b
    · rw [if_neg (by simp [gb])]; simp [kept]
    · rw [if_pos ⟨by simp, rfl⟩]; simp [kept]; rfl
  | x :: u, b :: k, i + 1, h => by
    have ih := kept_take u k i (by simp at h; omega)
    have e1 : (i + 1 < (b :: k).length ∧ gb (b :: k) (i + 1) = true) ↔ (i < k.length ∧ gb k i = true) := by
      have : gb (b :: k) (i + 1) = gb k i := rfl
      rw [this]; simp
    rw [List.take_succ_cons, List.take_succ_cons]
    cases b
    · simp only [kept]
      rw [ih]
      simp only [e1]
      rfl
    · simp only [kept]
      rw [ih]
      simp only [e1, List.cons_append]
      rfl
theorem kept_mem : ∀ {u : List R124} {k : List Bool} {x : R124}, x ∈ kept u k → x ∈ u
  | x :: u, true :: k, y, h => by
    rcases List.mem_cons.1 h with rfl | h
    · exact List.mem_cons_self ..
    · exact List.mem_cons_of_mem _ (kept_mem h)
  | x :: u, false :: k, y, h => List.mem_cons_of_mem _ (kept_mem (k := k) h)
  | [], _, y, h => by simp [kept] at h
  | x :: u, [], y, h => by simp [kept] at h
def crashD (d : DS) (k : List Bool) : DS := { d with p := layD d.p (kept d.u k), u := [], left := -1, down := false }
theorem dk_crash_L1 (d : DS) (kp : List Bool) (h : d.Wf) : ∀ (k f i : Nat), i + k = d.u.length → k < f →
  disk_Disk_Crash.L1 d.u d.ops kp (layD d.p (kept d.u kp)) [] (-1) false d.ops f (layD d.p (kept (d.u.take i) kp)) i := by
 have hf := h.few
 intro k
 induction k with
 | zero =>
  intro f i h1 h2
  obtain ⟨f, rfl⟩ : ∃ m, f = m + 1 := ⟨f - 1, by omega⟩
  refine .inr ⟨by omega, ?_, rfl, rfl, rfl, rfl⟩
  rw [List.take_of_length_le (by omega)]
 | succ k ih =>
  intro f i h1 h2
  obtain ⟨f, rfl⟩ : ∃ m, f = m + 1 := ⟨f - 1, by omega⟩
  have hw := h.way _ (gx_mem (l := d.u) (i := i) (by omega))
  have ih' := ih f (i + 1) (by omega) (by omega)
  rw [kept_take d.u kp i (by omega)] at ih'
  have ew : IntKind.i64.wrap ((i : Int) + 1) = ((i + 1 : Nat) : Int) := by rw [w64 (by omega) (by omega)]; omega
  refine .inl ⟨by omega, ⟨by omega, by omega⟩, ?_⟩
  rw [Int.toNat_natCast, ew]
  by_cases h3 : i < kp.length
  ·refine .inl ⟨by omega, ⟨by omega, by omega⟩, ?_⟩
   by_cases h4 : gb kp i = true
   ·rw [if_pos ⟨h3, h4⟩, layD_append] at ih'
    exact .inl ⟨h4, ⟨hw.1, by rw [layD_length]; exact hw.2.1⟩, _, rfl, ih'⟩
   rw [if_neg (by rintro ⟨_, h⟩; exact h4 h), List.append_nil] at ih'
   exact .inr ⟨h4, ih'⟩
  rw [if_neg (by rintro ⟨h, _⟩; exact h3 h), List.append_nil] at ih'
  exact .inr ⟨by omega, ih'⟩
theorem dk_crash (d : DS) (k : List Bool) (h : d.Wf) : disk_Disk_Crash.rel d.p d.u d.left d.down d.ops k (crashD d k).p (crashD d k).u (crashD d k).left (crashD d k).down (crashD d k).ops := by
 refine ⟨d.u.length + 1, ?_⟩
 have := dk_crash_L1 d k h d.u.length (d.u.length + 1) 0 (by omega) (by omega)
 have e : kept (d.u.take 0) k = [] := by cases k <;> rfl
 rw [e] at this
 exact this
theorem crashD_wf {d : DS} {k : List Bool} (h : d.Wf) : (crashD d k).Wf :=
 ⟨layD_rows h.rows fun x hx => (h.way x (kept_mem hx)).2.2, fun x hx => (by cases hx), ⟨by simp [crashD], h.few.2.1, by simp only [crashD, layD_length]; exact h.few.2.2⟩, ⟨by simp [crashD], by simp [crashD]⟩⟩
def stopD (d : DS) (a : Int) : DS := { d with left := maxI a (-1) }
theorem dk_stop (d : DS) (a : Int) : disk_Disk_Stop.rel d.p d.u d.left d.down d.ops a (stopD d a).p (stopD d a).u (stopD d a).left (stopD d a).down (stopD d a).ops := ⟨rfl, rfl, rfl, rfl, rfl⟩
def toW (x : R124) : R145 := (x.1, strOfNums x.2)
theorem gx_map {α β : Type} [Inhabited α] [Inhabited β] (g : α → β) {l : List α} {i : Nat} (h : i < l.length) : gx (l.map g) i = g (gx l i) := by
 rw [gx_lt (by rw [List.length_map]; exact h), gx_lt h, List.getElem_map]
def lastS (l : List R124) (i : Int) : ByteArray × Bool := match lastW l i with
 | some b => (strOfNums b, true)
 | none => (⟨#[]⟩, false)
theorem rf_last_L1 (l : List R124) (i : Int) (s : ByteArray) (b : Bool) (hl : l.length ≤ 1000000) : ∀ (j f : Nat), j ≤ l.length → j < f → (∀ p, j ≤ p → p < l.length → (gx l p).1 ≠ i) → reliquaryref06_last.L1 (l.map toW) i (lastS l i).1 (lastS l i).2 f s b ((j : Int) - 1) := by
 intro j
 induction j with
 | zero =>
  intro f h1 h2 h3
  obtain ⟨f, rfl⟩ : ∃ m, f = m + 1 := ⟨f - 1, by omega⟩
  have h4 : lastW l i = none := lastW_none.2 fun x hx => by
   obtain ⟨p, hp, rfl⟩ := List.getElem_of_mem hx
   rw [← gx_lt hp]; exact h3 p (by omega) hp
  unfold lastS
  rw [h4]
  exact .inr ⟨by omega, rfl, rfl⟩
 | succ j ih =>
  intro f h1 h2 h3
  obtain ⟨f, rfl⟩ : ∃ m, f = m + 1 := ⟨f - 1, by omega⟩
  rw [show ((j + 1 : Nat) : Int) - 1 = (j : Int) by omega]
  refine .inl ⟨by omega, ⟨by omega, by rw [List.length_map]; omega⟩, ?_⟩
  rw [Int.toNat_natCast, gx_map toW (by omega)]
  by_cases h0 : (gx l j).1 = i
  ·have h4 := lastW_eq (l := l) (i := i) (q := j) (by omega) h0 fun p h5 h6 => h3 p (by omega) h6
   refine .inl ⟨h0, ⟨by omega, by rw [List.length_map]; omega⟩, ?_, ?_⟩
   ·unfold lastS; rw [h4]; rfl
   unfold lastS; rw [h4]
  refine .inr ⟨h0, ?_⟩
  rw [w64 (by omega) (by omega)]
  refine ih f (by omega) (by omega) fun p h5 h6 => ?_
  by_cases e : p = j
  ·rw [e]; exact h0
  exact h3 p (by omega) h6
theorem rf_last (l : List R124) (i : Int) (hl : l.length ≤ 1000000) : reliquaryref06_last.rel (l.map toW) i (lastS l i).1 (lastS l i).2 := by
 refine ⟨l.length + 1, ?_⟩
 rw [List.length_map, w64 (by omega) (by omega)]
 exact rf_last_L1 l i _ _ hl l.length _ (Nat.le_refl _) (by omega) fun p h1 h2 => by omega
def atD (D : List R124) (i : Int) : List Int := (lastW D i).getD Z192
theorem rf_at (n : Int) (D : List R124) (U : List R145) (left : Int) (down : Bool) (ops : List R160) (i : Int) (hl : D.length ≤ 1000000) : reliquaryref06_At.rel n (D.map toW) U left down ops i (strOfNums (atD D i)) := by
 refine ⟨_, _, rf_last D i hl, ?_⟩
 unfold lastS atD
 cases h : lastW D i with
 | some b => exact .inl ⟨rfl, rfl⟩
 | none => exact .inr ⟨by simp, rfl⟩
theorem rf_noted (n : Int) (D U : List R145) (left : Int) (down : Bool) (ops : List R160) (k s : Int) (h : ops.length ≤ 1000000) : reliquaryref06_noted.rel n D U left down ops k s n D U left down (ops ++ [(k, s)]) :=
 ⟨_, rfl, by simp; omega, _, rfl, by simp; omega, rfl, rfl, rfl, rfl, rfl, rfl⟩
theorem rf_more (l : List R124) (x : R124) (h : l.length ≤ 1000000) : reliquaryref06_more.rel (l.map toW) x.1 (strOfNums x.2) ((l ++ [x]).map toW) :=
 ⟨_, rfl, by simp; omega, _, rfl, by simp; omega, by simp [toW]⟩
theorem rf_fits (d : DS) (D U : List R145) (left : Int) (down : Bool) (ops : List R160) (i : Int) (b : List Int) : reliquaryref06_fits.rel (d.p.length : Int) D U left down ops i (strOfNums b) (fitsE d i b) := by
 unfold fitsE
 by_cases h1 : i < 0
 ·rw [if_pos (.inl h1)]; exact .inl ⟨h1, rfl⟩
 by_cases h2 : i ≥ (d.p.length : Int)
 ·rw [if_pos (.inr h2)]; exact .inr ⟨h1, .inl ⟨h2, rfl⟩⟩
 rw [if_neg (by omega)]
 by_cases h3 : b.length ≠ 192
 ·rw [if_pos h3]; exact .inr ⟨h1, .inr ⟨h2, .inl ⟨by rw [size_strOf]; omega, rfl⟩⟩⟩
 rw [if_neg h3]; exact .inr ⟨h1, .inr ⟨h2, .inr ⟨by rw [size_strOf]; omega, rfl⟩⟩⟩
structure Inv (i : Nat) (d : DS) (D : List R124) : Prop where
 wf : d.Wf
 few : D.length + d.u.length ≤ i
 ops : d.ops.length ≤ i
 at_ : ∀ k : Nat, k < d.p.length → gx d.p k = atD D k
theorem Inv.up {i : Nat} {d : DS} {D : List R124} (h : Inv i d D) : Inv (i + 1) d D := ⟨h.wf, by have := h.few; omega, by have := h.ops; omega, h.at_⟩
theorem lastW_cat (i : Int) : ∀ a b : List R124, lastW (a ++ b) i = match lastW b i with | some x => some x | none => lastW a i
  | [], b => by rw [List.nil_append]; cases lastW b i <;> rfl
  | x :: a, b => by
    rw [List.cons_append, lastW, lastW_cat i a b]
    cases h : lastW b i with
    | some y => rfl
    | none => rfl
theorem atD_cat (D u : List R124) (i : Int) : atD (D ++ u) i = (lastW u i).getD (atD D i) := by
 unfold atD
 rw [lastW_cat]
 cases lastW u i <;> rfl
theorem rf_write (d : DS) (D : List R124) (i : Int) (b : List Int) (n : Nat) (h : Inv n d D) (hn : n ≤ 100000) :
  reliquaryref06_Write.rel (d.p.length : Int) (D.map toW) (d.u.map toW) d.left d.down d.ops i (strOfNums b) (d.p.length : Int) (D.map toW) ((writeD d i b).1.u.map toW) (writeD d i b).1.left (writeD d i b).1.down (writeD d i b).1.ops (writeD d i b).2 := by
 have hnum := h.wf.num
 have hf := h.few
 have ho := h.ops
 unfold writeD
 by_cases h1 : d.down = true
 ·rw [if_pos h1]; exact .inl ⟨h1, rfl, rfl, rfl, rfl, rfl, rfl, rfl⟩
 rw [if_neg h1]
 refine .inr ⟨h1, _, rf_fits d _ _ _ _ _ i b, ?_⟩
 by_cases h2 : fitsE d i b ≠ 0
 ·rw [if_pos h2]; exact .inl ⟨h2, rfl, rfl, rfl, rfl, rfl, rfl, rfl⟩
 rw [if_neg h2]
 refine .inr ⟨h2, ?_⟩
 by_cases h3 : d.left = 0
 ·rw [if_pos h3]; exact .inl ⟨h3, rfl, rfl, rfl, rfl, rfl, rfl, rfl⟩
 rw [if_neg h3]
 refine .inr ⟨h3, ?_⟩
 have hm := rf_more d.u (i, b) (by omega)
 by_cases h4 : d.left > 0
 ·refine .inl ⟨h4, _, hm, _, _, _, _, _, _, rf_noted _ _ _ _ _ _ 2 i (by omega), rfl, rfl, rfl, ?_, rfl, rfl, rfl⟩
  simp only [h4, if_true]
  rw [w64 (by omega) (by omega)]
 refine .inr ⟨h4, _, hm, _, _, _, _, _, _, rf_noted _ _ _ _ _ _ 2 i (by omega), rfl, rfl, rfl, ?_, rfl, rfl, rfl⟩
 simp only [h4, if_false]
theorem Inv.write {n : Nat} {d : DS} {D : List R124} (h : Inv n d D) (hn : n ≤ 100000) (i : Int) (b : List Int) : Inv (n + 1) (writeD d i b).1 D ∧ (writeD d i b).1.p = d.p := by
 have hf := h.few
 have ho := h.ops
 have hw := writeD_wf (i := i) (b := b) h.wf (by omega) (by omega)
 unfold writeD at hw ⊢
 split
 ·exact ⟨h.up, rfl⟩
 rename_i h1
 rw [if_neg h1] at hw
 split
 ·exact ⟨h.up, rfl⟩
 rename_i h2
 rw [if_neg h2] at hw
 split
 ·rename_i h3
  rw [if_pos h3] at hw
  exact ⟨⟨hw, by show D.length + d.u.length ≤ n + 1; omega, by show d.ops.length ≤ n + 1; omega, h.at_⟩, rfl⟩
 rename_i h3
 rw [if_neg h3] at hw
 exact ⟨⟨hw, by simp only [List.length_append, List.length_singleton]; omega, by simp only [List.length_append, List.length_singleton]; omega, h.at_⟩, rfl⟩
theorem lay_at {n : Nat} {d : DS} {D : List R124} (h : Inv n d D) (u : List R124) (hu : ∀ x ∈ u, x ∈ d.u) (k : Nat) (hk : k < d.p.length) : gx (layD d.p u) k = atD (D ++ u) k := by
 rw [gx_layD _ _ _ fun x hx => ⟨(h.wf.way x (hu x hx)).1, (h.wf.way x (hu x hx)).2.1⟩, atD_cat, h.at_ k hk]
theorem rf_stop (d : DS) (D : List R124) (a : Int) :
  reliquaryref06_Stop.rel (d.p.length : Int) (D.map toW) (d.u.map toW) d.left d.down d.ops a (d.p.length : Int) (D.map toW) ((stopD d a).u.map toW) (stopD d a).left (stopD d a).down (stopD d a).ops := by
 unfold stopD maxI
 by_cases h : a < 0
 ·refine .inl ⟨h, rfl, rfl, rfl, ?_, rfl, rfl⟩
  simp only
  split <;> omega
 refine .inr ⟨h, rfl, rfl, rfl, ?_, rfl, rfl⟩
 simp only
 split <;> omega
theorem Inv.stop {n : Nat} {d : DS} {D : List R124} (h : Inv n d D) (a : Int) (ha : -9223372036854775808 ≤ a ∧ a ≤ 9223372036854775807) : Inv (n + 1) (stopD d a) D :=
 ⟨⟨h.wf.rows, h.wf.way, h.wf.few, by unfold stopD maxI; simp only; split <;> omega⟩, h.up.few, h.up.ops, h.at_⟩
theorem rf_crash_L1 (n : Int) (D U : List R124) (kp : List Bool) (ops : List R160) (h1 : D.length + U.length ≤ 100000) : ∀ (k f i : Nat), i + k = U.length → k < f →
  reliquaryref06_Crash.L1 n (U.map toW) ops kp n ((D ++ kept U kp).map toW) [] (-1) false ops f ((D ++ kept (U.take i) kp).map toW) i := by
 have hkl : ∀ (u : List R124) (q : List Bool), (kept u q).length ≤ u.length := by
  intro u
  induction u with
  | nil => intro q; simp [kept]
  | cons x u ih =>
   intro q
   match q with
   | [] => simp [kept]
   | true :: q => have := ih q; simp [kept]; omega
   | false :: q => have := ih q; simp [kept]; omega
 have stop : ∀ i : Nat, kp.length ≤ i → i ≤ U.length → kept (U.take i) kp = kept U kp := by
  intro i h3 h4
  obtain ⟨j, hj⟩ : ∃ j, U.length = i + j := ⟨U.length - i, by omega⟩
  induction j generalizing i with
  | zero => rw [List.take_of_length_le (by omega)]
  | succ j ih =>
   have e := kept_take U kp i (by omega)
   rw [if_neg (by rintro ⟨h, _⟩; omega), List.append_nil] at e
   rw [← e]
   exact ih (i + 1) (by omega) (by omega) (by omega)
 intro k
 induction k with
 | zero =>
  intro f i h3 h4
  obtain ⟨f, rfl⟩ : ∃ m, f = m + 1 := ⟨f - 1, by omega⟩
  rw [List.take_of_length_le (by omega)]
  exact .inr ⟨by rw [List.length_map]; omega, rfl, rfl, rfl, rfl, rfl, rfl⟩
 | succ k ih =>
  intro f i h3 h4
  obtain ⟨f, rfl⟩ : ∃ m, f = m + 1 := ⟨f - 1, by omega⟩
  refine .inl ⟨by rw [List.length_map]; omega, ?_⟩
  by_cases h5 : i < kp.length
  ·have ih' := ih f (i + 1) (by omega) (by omega)
   rw [kept_take U kp i (by omega)] at ih'
   refine .inl ⟨by omega, ⟨by omega, by omega⟩, ?_⟩
   rw [Int.toNat_natCast, show IntKind.i64.wrap ((i : Int) + 1) = ((i + 1 : Nat) : Int) by rw [w64 (by omega) (by omega)]; omega]
   by_cases h6 : gb kp i = true
   ·rw [if_pos ⟨h5, h6⟩, ← List.append_assoc] at ih'
    refine .inl ⟨h6, ⟨by omega, by rw [List.length_map]; omega⟩, _, ?_, ih'⟩
    rw [gx_map toW (by omega)]
    exact rf_more (D ++ kept (U.take i) kp) (gx U i) (by rw [List.length_append]; have := hkl (U.take i) kp; rw [List.length_take] at this; omega)
   rw [if_neg (by rintro ⟨_, h⟩; exact h6 h), List.append_nil] at ih'
   exact .inr ⟨h6, ih'⟩
  refine .inr ⟨by omega, rfl, ?_, rfl, rfl, rfl, rfl⟩
  rw [stop i (by omega) (by omega)]
theorem kept_le : ∀ (u : List R124) (q : List Bool), (kept u q).length ≤ u.length
 | [], q => by simp [kept]
 | x :: u, [] => by simp [kept]
 | x :: u, true :: q => by have := kept_le u q; simp [kept]; omega
 | x :: u, false :: q => by have := kept_le u q; simp [kept]; omega
theorem rf_crash (d : DS) (D : List R124) (kp : List Bool) (n : Nat) (h : Inv n d D) (hn : n ≤ 100000) :
  reliquaryref06_Crash.rel (d.p.length : Int) (D.map toW) (d.u.map toW) d.left d.down d.ops kp (d.p.length : Int) ((D ++ kept d.u kp).map toW) ((crashD d kp).u.map toW) (crashD d kp).left (crashD d kp).down (crashD d kp).ops := by
 have hf := h.few
 refine ⟨d.u.length + 1, ?_⟩
 have := rf_crash_L1 (d.p.length : Int) D d.u kp d.ops (by omega) d.u.length (d.u.length + 1) 0 (by omega) (by omega)
 have e : kept (d.u.take 0) kp = [] := by cases kp <;> rfl
 rw [e, List.append_nil] at this
 exact this
theorem Inv.crash {n : Nat} {d : DS} {D : List R124} (h : Inv n d D) (kp : List Bool) : Inv (n + 1) (crashD d kp) (D ++ kept d.u kp) ∧ (crashD d kp).p.length = d.p.length := by
 have hf := h.few
 have ho := h.ops
 have hk := kept_le d.u kp
 refine ⟨⟨crashD_wf h.wf, by rw [List.length_append]; show D.length + (kept d.u kp).length + 0 ≤ n + 1; omega, by show d.ops.length ≤ n + 1; omega, fun k hk => ?_⟩, layD_length _ _⟩
 have hk' : k < d.p.length := by unfold crashD at hk; rwa [layD_length] at hk
 exact lay_at h (kept d.u kp) (fun x hx => kept_mem hx) k hk'
def imW (D : List R124) (n : Nat) : List R9 := (List.range n).map fun k : Nat => strOfNums (atD D (k : Int))
theorem imW_succ (D : List R124) (n : Nat) : imW D (n + 1) = imW D n ++ [strOfNums (atD D n)] := by
 unfold imW
 rw [List.range_succ, List.map_append]
 rfl
theorem imW_length (D : List R124) (n : Nat) : (imW D n).length = n := by simp [imW]
theorem imW_gx (D : List R124) {n k : Nat} (h : k < n) : gx (imW D n) k = strOfNums (atD D k) := by
 rw [gx_lt (by rw [imW_length]; exact h)]
 simp [imW]
theorem rf_image_L1 (n : Nat) (D : List R124) (U : List R145) (left : Int) (down : Bool) (ops : List R160) (hl : D.length ≤ 1000000) (hn : n ≤ 1000000) : ∀ (k f i : Nat), i + k = n → k < f → reliquaryref06_Image.L1 (n : Int) (D.map toW) U left down ops (imW D n) f (imW D i) i := by
 intro k
 induction k with
 | zero =>
  intro f i h1 h2
  obtain ⟨f, rfl⟩ : ∃ m, f = m + 1 := ⟨f - 1, by omega⟩
  obtain rfl : i = n := by omega
  exact .inr ⟨by omega, rfl⟩
 | succ k ih =>
  intro f i h1 h2
  obtain ⟨f, rfl⟩ : ∃ m, f = m + 1 := ⟨f - 1, by omega⟩
  have ih' := ih f (i + 1) (by omega) (by omega)
  rw [imW_succ] at ih'
  refine .inl ⟨by omega, _, rf_at _ D _ _ _ _ i hl, _, rfl, by rw [List.length_append, imW_length]; simp; omega, ?_⟩
  rw [show IntKind.i64.wrap ((i : Int) + 1) = ((i + 1 : Nat) : Int) by rw [w64 (by omega) (by omega)]; omega]
  exact ih'
theorem rf_image (n : Nat) (D : List R124) (U : List R145) (left : Int) (down : Bool) (ops : List R160) (hl : D.length ≤ 1000000) (hn : n ≤ 1000000) : reliquaryref06_Image.rel (n : Int) (D.map toW) U left down ops (imW D n) := ⟨n + 1, rf_image_L1 n D U left down ops hl hn n (n + 1) 0 (by omega) (by omega)⟩
theorem Inv.new (n : Nat) (h : n ≤ 4096) : Inv 0 (newD n) [] := ⟨newD_wf n h, Nat.le_refl _, Nat.le_refl _, fun k hk => by rw [newD_gx (by rwa [newD_len] at hk)]; rfl⟩
end Go.Proofs.YtmhcjafkdmcgoaaDoor
