/- What is owned while a function runs: blocks and rows of its own; what is read. No program in sight. -/
import Derived.Test.YtmhcjafkdmcgoaaDoorKrA
import Derived.Below
import Derived.Laws.AppendOwn
import Derived.Laws.Rows
import Derived.Laws.MakeOwn
import Derived.Laws.BytesArg
import Derived.Laws.IdiomCopy
import Derived.Laws.CopyOwn
namespace Go.Kr
open Go Go.RowKit
set_option linter.unusedVariables false
set_option linter.unusedSimpArgs false
inductive En where
 | cells (b : Nat) (cs : List Value) (t : TypeId)
 | sl (A : Option Addr) (c : Nat) (n : Nat) (xs : List Value) (e : TypeId) (size : Nat)
 | obj (b : Nat) (o : Obj)
def En.blk : En → Option Nat
 | .cells b _ _ => some b
 | .sl A _ _ _ _ _ => A.map (·.block)
 | .obj b _ => some b
def En.ok (base : Nat) (W : World) : En → Prop
 | .cells b cs t => base ≤ b ∧ W.heap[b]? = some (.cells cs.toArray t (0, 0))
 | .sl A c n xs e size => W.ownsRow base e size (.slice A n c) n xs
 | .obj b o => base ≤ b ∧ W.heap[b]? = some o
structure St (w0 W : World) (L : List En) : Prop where
 ext : Below w0.heap.size w0 W
 ok : ∀ e ∈ L, e.ok w0.heap.size W
 apart : L.Pairwise (fun x y => ∀ b, x.blk = some b → y.blk ≠ some b)
variable {dl : List Deferred} {P : Program} {w0 w W W' : World} {L L2 : List En}
theorem St.refl (w : World) : St w w [] := ⟨Below.refl _ _, by simp, .nil⟩
theorem en_lt {e : En} {base : Nat} (h : e.ok base W) {b : Nat} (hb : e.blk = some b) : base ≤ b ∧ b < W.heap.size := by
 cases e with
 | cells b' cs t =>
  simp only [En.blk, Option.some.injEq] at hb
  subst hb
  exact ⟨h.1, (Array.getElem?_eq_some_iff.1 h.2).1⟩
 | obj b' o =>
  simp only [En.blk, Option.some.injEq] at hb
  subst hb
  exact ⟨h.1, (Array.getElem?_eq_some_iff.1 h.2).1⟩
 | sl A c n xs e size =>
  have := World.ownsRow.lt h b (by cases A <;> simp_all [En.blk, Value.ownBlock])
  exact this
theorem en_keep {e : En} {base : Nat} (h : e.ok base W) (hk : ∀ b, e.blk = some b → W'.heap[b]? = W.heap[b]?) : e.ok base W' := by
 cases e with
 | cells b cs t => exact ⟨h.1, by rw [hk b rfl]; exact h.2⟩
 | obj b o => exact ⟨h.1, by rw [hk b rfl]; exact h.2⟩
 | sl A c n xs e size =>
  refine ⟨h.1, ?_⟩
  rcases h.2 with h2 | ⟨g, cap, cur, hv, hb, hg, r⟩
  ·exact .inl h2
  refine .inr ⟨g, cap, cur, hv, hb, ?_, r⟩
  rw [hk g (by cases hv; rfl)]
  exact hg
theorem en_mono {e : En} {base base' : Nat} (h : e.ok base W) (hb : base' ≤ base) : e.ok base' W := by
 cases e with
 | cells b cs t => exact ⟨Nat.le_trans hb h.1, h.2⟩
 | obj b o => exact ⟨Nat.le_trans hb h.1, h.2⟩
 | sl A c n xs e size =>
  refine ⟨h.1, ?_⟩
  rcases h.2 with h2 | ⟨g, cap, cur, hv, hb', hg, r⟩
  ·exact .inl h2
  exact .inr ⟨g, cap, cur, hv, Nat.le_trans hb hb', hg, r⟩
theorem St.drew (h : St w0 W L) : St w0 { W with drawn := W.drawn + 1 } L := ⟨⟨h.ext.os, h.ext.tape, h.ext.output, h.ext.size, h.ext.block⟩, fun e he => en_keep (h.ok e he) (W' := { W with drawn := W.drawn + 1 }) (fun _ _ => rfl), h.apart⟩
theorem St.call (h : St w0 W L) (k : St W W' L2) : St w0 W' (L2 ++ L) := by
 have hs : w0.heap.size ≤ W.heap.size := h.ext.size
 refine ⟨h.ext.trans (k.ext.mono hs), ?_, ?_⟩
 ·intro e he
  rcases List.mem_append.1 he with he | he
  ·exact en_mono (k.ok e he) hs
  have h1 := h.ok e he
  exact en_keep h1 (fun b hb => k.ext.block b (en_lt h1 hb).2)
 refine List.pairwise_append.2 ⟨k.apart, h.apart, ?_⟩
 intro x hx y hy b hb hb'
 have h1 := (en_lt (k.ok x hx) hb).1
 have h2 := (en_lt (h.ok y hy) hb').2
 omega
theorem St.pick (h : St w0 W L) (is : List Nat) (hn : is.Nodup) : St w0 W (is.filterMap (L[·]?)) := by
 refine ⟨h.ext, ?_, ?_⟩
 ·intro e he
  obtain ⟨i, _, hi⟩ := List.mem_filterMap.1 he
  exact h.ok e (List.mem_of_getElem? hi)
 refine List.Pairwise.filterMap _ ?_ hn
 intro i j hij x hx y hy b hb hb'
 have key : ∀ {i j : Nat}, i < j → ∀ {x y : En}, L[i]? = some x → L[j]? = some y → ∀ b, x.blk = some b → y.blk ≠ some b := by
  intro i j hlt x y hx hy b hb
  obtain ⟨hi, rfl⟩ := List.getElem?_eq_some_iff.1 hx
  obtain ⟨hj, rfl⟩ := List.getElem?_eq_some_iff.1 hy
  exact (List.pairwise_iff_getElem.1 h.apart) i j hi hj hlt b hb
 rcases Nat.lt_or_gt_of_ne hij with hlt | hlt
 ·exact key hlt hx hy b hb hb'
 exact key hlt hy hx b hb' hb
theorem St.alloc (h : St w0 W L) (cs : List Value) (t : TypeId) : St w0 (W.alloc (.cells cs.toArray t)) (.cells W.heap.size cs t :: L) := by
 refine ⟨h.ext.alloc h.ext.size _, ?_, ?_⟩
 ·intro e he
  rcases List.mem_cons.1 he with rfl | he
  ·exact ⟨h.ext.size, heap_alloc_new W _⟩
  exact en_keep (h.ok e he) (fun b hb => Below.heap_alloc W _ _ (en_lt (h.ok e he) hb).2)
 refine List.pairwise_cons.2 ⟨?_, h.apart⟩
 intro y hy b hb hb'
 simp only [En.blk, Option.some.injEq] at hb
 have := (en_lt (h.ok y hy) hb').2
 omega
theorem St.turn (h : St w0 W L) {k : Nat} {e e' : En} (hk : L[k]? = some e) {row : Option Nat} (hr : e.blk = row) (hg : W.grownBy W' row) (hok : e'.ok w0.heap.size W') (hb : ∀ b, e'.blk = some b → e.blk = some b ∨ W.heap.size ≤ b) : St w0 W' (L.set k e') := by
 have hke : e ∈ L := List.mem_of_getElem? hk
 obtain ⟨hkl, hke'⟩ := List.getElem?_eq_some_iff.1 hk
 have others : ∀ j x, L[j]? = some x → j ≠ k → ∀ b, x.blk = some b → e.blk ≠ some b := by
  intro j x hx hj b hb hb'
  obtain ⟨hjl, rfl⟩ := List.getElem?_eq_some_iff.1 hx
  have hp := List.pairwise_iff_getElem.1 h.apart
  rcases Nat.lt_or_gt_of_ne hj with hlt | hlt
  ·exact hp j k hjl hkl hlt b hb (by rw [hke']; exact hb')
  exact hp k j hkl hjl hlt b (by rw [hke']; exact hb') hb
 refine ⟨?_, ?_, ?_⟩
 ·exact h.ext.grown hg h.ext.size (fun b hb' => (en_lt (h.ok e hke) (by rw [hr, hb'])).1)
 ·intro x hx
  obtain ⟨j, hj⟩ := List.mem_iff_getElem?.1 hx
  rw [List.getElem?_set] at hj
  by_cases e1 : k = j
  ·subst e1
   simp only [if_true, hkl] at hj
   cases hj
   exact hok
  simp only [e1, if_false] at hj
  have hx' := h.ok x (List.mem_of_getElem? hj)
  refine en_keep hx' (fun b hb' => hg.block b (en_lt hx' hb').2 ?_)
  intro hh
  exact others j x hj (Ne.symm e1) b hb' (by rw [hr, hh])
 rw [List.pairwise_iff_getElem]
 intro i j hi hj hlt b hx hy
 simp only [List.length_set] at hi hj
 rw [List.getElem_set] at hx hy
 have hp := List.pairwise_iff_getElem.1 h.apart
 have old : ∀ {m : Nat} {x : En}, L[m]? = some x → x.blk = some b → b < W.heap.size := fun hm hb' => (en_lt (h.ok _ (List.mem_of_getElem? hm)) hb').2
 split at hx
 ·rename_i e1
  subst e1
  split at hy
  ·omega
  have hjs : L[j]? = some L[j] := List.getElem?_eq_getElem hj
  rcases hb b hx with h1 | h1
  ·exact others j _ hjs (by omega) b hy h1
  have := old hjs hy; omega
 have his : L[i]? = some L[i] := List.getElem?_eq_getElem hi
 split at hy
 ·rename_i e2
  subst e2
  rcases hb b hy with h1 | h1
  ·exact others i _ his (by omega) b hx h1
  have := old his hx; omega
 exact hp i j hi hj hlt b hx hy
theorem St.other (h : St w0 W L) {row : Option Nat} (hg : W.grownBy W' row) (hr : ∀ r, row = some r → w0.heap.size ≤ r ∧ ∀ e ∈ L, e.blk ≠ some r) : St w0 W' L := by
 refine ⟨h.ext.grown hg h.ext.size (fun b hb => (hr b hb).1), fun e he => ?_, h.apart⟩
 have hx := h.ok e he
 exact en_keep hx (fun b hb => hg.block b (en_lt hx hb).2 (fun hh => (hr b hh.symm).2 e he hb))
def celly : List En → Bool
 | [] => true
 | .obj _ _ :: _ => false
 | _ :: L => celly L
theorem celly_mem : ∀ {L : List En}, celly L = true → ∀ e ∈ L, ∀ b o, e ≠ .obj b o
  | [], _, e, he, _, _, _ => by simp at he
  | .cells _ _ _ :: L, h, e, he, b, o, hh => by
    rcases List.mem_cons.1 he with rfl | he
    · cases hh
    · exact celly_mem (L := L) h e he b o hh
  | .sl _ _ _ _ _ _ :: L, h, e, he, b, o, hh => by
    rcases List.mem_cons.1 he with rfl | he
    · cases hh
    · exact celly_mem (L := L) h e he b o hh
theorem en_cells {e : En} {base : Nat} (h : e.ok base W) (hno : ∀ b o, e ≠ .obj b o) {b : Nat} (hb : e.blk = some b) : ∃ cs t fr, W.heap[b]? = some (.cells cs t fr) := by
 cases e with
 | cells b' cs t =>
  simp only [En.blk, Option.some.injEq] at hb
  subst hb
  exact ⟨_, _, _, h.2⟩
 | obj b' o => exact absurd rfl (hno b' o)
 | sl A c n xs e size =>
  rcases h.2 with h2 | ⟨g, cap, cur, hv, hb', hg, r⟩
  ·cases A with
   | none => simp [En.blk] at hb
   | some a => simp at h2
  cases hv
  simp only [En.blk, Option.map_some, Option.some.injEq] at hb
  subst hb
  exact ⟨_, _, _, hg⟩
def Src (W : World) (A : Option Addr) (vs : List Value) : Prop := ∀ j v, vs[j]? = some v → ∃ a, A = some a ∧ W.cell? (a.add j) = some v
theorem Src.ext {A : Option Addr} {vs : List Value} (h : Src w0 A vs) (st : St w0 W L) : Src W A vs := fun j v hv => by
 obtain ⟨a, ha, hc⟩ := h j v hv
 exact ⟨a, ha, by rw [st.ext.cell (World.block_lt_of_cell? w0 _ hc)]; exact hc⟩
theorem Src.nil (W : World) (A : Option Addr) : Src W A [] := fun j v hv => by simp at hv
theorem add_plain (g o j : Nat) : (⟨g, o, none⟩ : Addr).add j = ⟨g, o + j, none⟩ := by unfold Addr.add; split <;> simp_all
theorem St.src_sl (h : St w0 W L) {k : Nat} {A : Option Addr} {c n : Nat} {xs : List Value} {e : TypeId} {size : Nat} (hk : L[k]? = some (.sl A c n xs e size)) : Src W A xs := by
 have ho : W.ownsRow w0.heap.size e size (.slice A n c) n xs := h.ok _ (List.mem_of_getElem? hk)
 intro j v hv
 rcases ho.2 with ⟨h1, h2⟩ | ⟨g, cap, cur, hv', _⟩
 ·have := ho.1; subst h2; simp at this; subst this; simp at hv
 cases hv'
 exact ⟨_, rfl, ho.cells (g := g) rfl j v hv⟩
theorem St.cell (h : St w0 W L) {k b i : Nat} {cs : List Value} {t : TypeId} (hk : L[k]? = some (.cells b cs t)) {v : Value} (hi : cs[i]? = some v) : W.cell? ⟨b, i, none⟩ = some v := by
 have ho := h.ok _ (List.mem_of_getElem? hk)
 rw [cell_of_row W b i _ t (0, 0) ho.2]
 simpa using hi
theorem Src.part {A : Option Addr} {vs : List Value} (h : Src W A vs) (l m c : Nat) (hl : (vs.drop l).take m ≠ [] → c ≠ 0 ∨ l = 0) : Src W (if c = 0 then A else A.map (·.add l)) ((vs.drop l).take m) := fun j v hv => by
 have hne : (vs.drop l).take m ≠ [] := fun e => by rw [e] at hv; simp at hv
 rw [List.getElem?_take] at hv
 split at hv
 ·rw [List.getElem?_drop] at hv
  obtain ⟨a, ha, hc⟩ := h (l + j) v hv
  split
  ·rename_i hc0
   rcases hl hne with h1 | h1
   ·exact absurd hc0 h1
   subst h1; exact ⟨a, ha, by simpa using hc⟩
  refine ⟨a.add l, by rw [ha]; rfl, ?_⟩
  have : (a.add l).add j = a.add (l + j) := by
   unfold Addr.add
   by_cases e1 : l = 0 <;> by_cases e2 : j = 0 <;> simp [e1, e2, Nat.add_assoc]
  rw [this]; exact hc
 cases hv
end Go.Kr
