/- Journal: whatever is done with it, it answers as the document says; plainly. -/
import Derived.Test.YtmhcjafkdmcgoaaDoorPlJm
namespace Go.Proofs.YtmhcjafkdmcgoaaDoor
open Go Go.Kr Go.RowKit
set_option linter.unusedVariables false
set_option linter.unusedSimpArgs false
abbrev Wr : Type := R124
abbrev Ac : Type := R84
theorem and_range (x y : Int) : -9223372036854775808 ≤ bits .and .i64 x y ∧ bits .and .i64 x y ≤ 9223372036854775807 := by
 unfold bits
 rw [IntKind.wrap_i64]
 omega
theorem Inv.le {m q : Nat} {d : DS} {D : List Wr} (h : Inv m d D) (hq : m ≤ q) : Inv q d D := by
 obtain ⟨s, rfl⟩ : ∃ s, q = m + s := ⟨q - m, by omega⟩
 clear hq
 induction s with
 | zero => exact h
 | succ s ih => exact ih.up
theorem runJ_facts (key : List Int) (first size st : Int) (hst : 0 ≤ st) : ∀ (rs : List RR) (d : DS) (nx c : Int) (t : List Int), 0 ≤ c → Byt t ∧ t.length = 32 →
    nx ≤ (runJ key first size st rs d nx c t).2.1 ∧ (runJ key first size st rs d nx c t).2.1 ≤ nx + rs.length ∧ 0 ≤ (runJ key first size st rs d nx c t).2.2.1 ∧ 0 ≤ (runJ key first size st rs d nx c t).2.2.2.1 ∧ Byt (runJ key first size st rs d nx c t).2.2.2.2.1 ∧ (runJ key first size st rs d nx c t).2.2.2.2.1.length = 32
  | [], d, nx, c, t, hc, ht => ⟨Int.le_refl _, by simp [runJ], hst, hc, ht.1, ht.2⟩
  | r :: rs, d, nx, c, t, hc, ht => by
    rw [List.length_cons]
    unfold runJ
    by_cases he : (writeD d (placeJ first size st c) (slotJ key (placeJ first size st c) nx r)).2 ≠ 0
    · rw [if_pos he]
      exact ⟨by show nx ≤ nx + 1; omega, by show nx + 1 ≤ nx + ((rs.length + 1 : Nat) : Int); omega, Int.le_refl _, Int.le_refl _, z32b, z32l⟩
    · rw [if_neg he]
      have := runJ_facts key first size st hst rs (writeD d (placeJ first size st c) (slotJ key (placeJ first size st c) nx r)).1 (nx + 1) (c + 1) (linkf t (placeJ first size st c) (slotJ key (placeJ first size st c) nx r)) (by omega) ⟨linkf_byt _ _ _, linkf_length _ _ _⟩
      exact ⟨by omega, by omega, this.2.2⟩
theorem appendJ_facts (d : DS) {j : JS} {n : Nat} (l : List RI) (hj : JOk n j) (hl : l.length ≤ 1000) :
  (1 ≤ (appendJ d j l).2.1 ∧ (appendJ d j l).2.1 < 18446744073709551616) ∧ 0 ≤ (appendJ d j l).2.2.1 ∧ 0 ≤ (appendJ d j l).2.2.2.1 ∧ Byt (appendJ d j l).2.2.2.2.1 ∧ (appendJ d j l).2.2.2.2.1.length = 32 := by
 have hn := hj.nx; have hm := hj.lim; have hs := hj.st; have hc := hj.cnt
 have z : ∀ e : Int, (1 ≤ j.next ∧ j.next < 18446744073709551616) ∧ (0 : Int) ≤ 0 ∧ (0 : Int) ≤ 0 ∧ Byt Z32 ∧ Z32.length = 32 := fun _ => ⟨hn, Int.le_refl _, Int.le_refl _, z32b, z32l⟩
 unfold appendJ
 by_cases c1 : ofB l = true
 ·rw [if_pos c1]; exact z 1
 rw [if_neg c1]
 by_cases c2 : (l.length : Int) > j.size - j.count
 ·rw [if_pos c2]; exact z 17
 rw [if_neg c2]
 by_cases c3 : j.next > j.limit
 ·rw [if_pos c3]; exact z 15
 rw [if_neg c3]
 by_cases c4 : (l.length : Int) > j.limit - j.next
 ·rw [if_pos c4]; exact z 15
 rw [if_neg c4]
 have := runJ_facts j.key j.first j.size j.start hs.1 (recsOf l) d j.next j.count j.tag hc.1 hj.tag
 rw [recsOf_length] at this
 exact ⟨by omega, this.2.2⟩
theorem radopt_rel (j : JS) (st cnt : Int) (tag : List Int) (limit : Int) : reliquaryref13_Adopt.rel j.key j.first j.size j.start j.count j.tag j.next j.limit st cnt tag limit
  (adoptJ j st cnt tag limit).key (adoptJ j st cnt tag limit).first (adoptJ j st cnt tag limit).size (adoptJ j st cnt tag limit).start (adoptJ j st cnt tag limit).count (adoptJ j st cnt tag limit).tag (adoptJ j st cnt tag limit).next (adoptJ j st cnt tag limit).limit := by
 unfold adoptJ
 by_cases c1 : st ≥ j.size
 ·rw [if_neg (by omega)]; exact .inl ⟨c1, rfl, rfl, rfl, rfl, rfl, rfl, rfl, rfl⟩
 by_cases c2 : cnt > j.size
 ·rw [if_neg (by omega)]; exact .inr ⟨c1, .inl ⟨c2, rfl, rfl, rfl, rfl, rfl, rfl, rfl, rfl⟩⟩
 rw [if_pos (by omega)]
 refine .inr ⟨c1, .inr ⟨c2, ?_⟩⟩
 by_cases c3 : limit > 9223372036854775807
 ·refine .inl ⟨c3, rfl, rfl, rfl, rfl, rfl, rfl, rfl, ?_⟩
  show min limit 9223372036854775807 = 9223372036854775807
  omega
 refine .inr ⟨c3, rfl, rfl, rfl, rfl, rfl, rfl, rfl, ?_⟩
 show min limit 9223372036854775807 = limit
 omega
theorem rempty_rel {n : Nat} (j : JS) (hj : JOk n j) : reliquaryref13_Empty.rel j.key j.first j.size j.start j.count j.tag j.next j.limit ((j.start + j.count) % j.size) 0 Z32 := by
 have h1 := hj.pl; have h2 := hj.cnt; have h3 := hj.few; have h4 := hj.st
 refine ⟨by omega, ?_, rfl, rfl⟩
 rw [wu64 (x := j.start + j.count) (by omega) (by omega), Int.tmod_eq_emod_of_nonneg (by omega)]
theorem rnew13_bad (n : Nat) (hn : n ≤ 4096) (key : List Int) (first size st cnt : Int) (tag : List Int) (next limit : Int) (h : newB n first size st cnt next limit = true) (hf : -9223372036854775808 ≤ first ∧ first ≤ 9223372036854775807) (hs : -9223372036854775808 ≤ size ∧ size ≤ 9223372036854775807) (h0 : 0 ≤ next) :
  reliquaryref13_New.rel n key first size st cnt tag next limit Z32 0 0 0 0 Z32 0 0 1 := by
 unfold newB at h
 rw [decide_eq_true_iff] at h
 by_cases c1 : first < 0
 ·exact .inl ⟨c1, rfl, rfl, rfl, rfl, rfl, rfl, rfl, rfl, rfl⟩
 refine .inr ⟨c1, ?_⟩
 by_cases c2 : size < 1
 ·exact .inl ⟨c2, rfl, rfl, rfl, rfl, rfl, rfl, rfl, rfl, rfl⟩
 refine .inr ⟨c2, ?_⟩
 by_cases c3 : first > (n : Int)
 ·exact .inl ⟨c3, rfl, rfl, rfl, rfl, rfl, rfl, rfl, rfl, rfl⟩
 have e1 : IntKind.i64.wrap ((n : Int) - first) = n - first := w64 (by omega) (by omega)
 have e2 : IntKind.u64.wrap size = size := wu64 (by omega) (by omega)
 refine .inr ⟨c3, ?_⟩
 rw [e1, e2]
 by_cases c4 : size > (n : Int) - first
 ·exact .inl ⟨c4, rfl, rfl, rfl, rfl, rfl, rfl, rfl, rfl, rfl⟩
 refine .inr ⟨c4, ?_⟩
 by_cases c5 : st ≥ size
 ·exact .inl ⟨c5, rfl, rfl, rfl, rfl, rfl, rfl, rfl, rfl, rfl⟩
 refine .inr ⟨c5, ?_⟩
 by_cases c6 : cnt > size
 ·exact .inl ⟨c6, rfl, rfl, rfl, rfl, rfl, rfl, rfl, rfl, rfl⟩
 refine .inr ⟨c6, ?_⟩
 by_cases c7 : next = 0
 ·exact .inl ⟨c7, rfl, rfl, rfl, rfl, rfl, rfl, rfl, rfl, rfl⟩
 exact .inr ⟨c7, .inl ⟨by omega, rfl, rfl, rfl, rfl, rfl, rfl, rfl, rfl, rfl⟩⟩
structure After (n : Nat) (d : DS) (d' : DS) (D' : List Wr) (j' : JS) (s c : Int) (t : List Int) : Prop where
 inv : Inv (n + 9) d' D'
 jok : JOk d'.p.length j'
 pl : d'.p.length = d.p.length
 st : 0 ≤ s
 cnt : 0 ≤ c
 tag : Byt t ∧ t.length = 32
theorem jplays_step (d : DS) (D : List Wr) (j : JS) (n : Nat) (s c : Int) (t : List Int) (hI : Inv n d D) (hn : n ≤ 90000) (hj : JOk d.p.length j) (hs : 0 ≤ s) (hc : 0 ≤ c) (ht : Byt t ∧ t.length = 32)
  (kind : Int) (l : List RI) (short : Bool) (st cnt : Int) (tag : List Int) (lim after : Int) (keep : List Bool) (hl : l.length ≤ 8) (ho : ∀ x ∈ l, ok42 x) (h1 : 0 ≤ st) (h2 : 0 ≤ cnt) (h3 : Byt tag ∧ tag.length = 32) (h4 : 0 ≤ lim) :
  ∃ (d' : DS) (D' : List Wr) (j' : JS) (s' c' : Int) (t' : List Int), reliquarylaw13_step.rel d.p d.u d.left d.down d.ops j.key j.first j.size j.start j.count j.tag j.next j.limit (d.p.length : Int) (D.map toW) (d.u.map toW) d.left d.down d.ops j.key j.first j.size j.start j.count j.tag j.next j.limit s c t s c t kind l short st cnt tag lim after keep
   d'.p d'.u d'.left d'.down d'.ops j'.key j'.first j'.size j'.start j'.count j'.tag j'.next j'.limit (d'.p.length : Int) (D'.map toW) (d'.u.map toW) d'.left d'.down d'.ops j'.key j'.first j'.size j'.start j'.count j'.tag j'.next j'.limit s' c' t' s' c' t' true ∧ After n d d' D' j' s' c' t' := by
 have hnum := hI.few; have hops := hI.ops; have hf := hj.few
 by_cases k1 : bits .and .i64 kind 7 = 0 ∨ bits .and .i64 kind 7 = 1 ∨ bits .and .i64 kind 7 = 2
 ·have hil := imgL_length l short
  have hio := imgL_ok short ho
  have hA := jn_append d j (imgL l short) hI.wf hj (by omega) (fun x hx => (hio x hx).2) (by omega) (by omega)
  have hB := rf_append d D j (imgL l short) n hI (by omega) hj (by omega) hio
  have hV := appendJ_inv (j := j) (l := imgL l short) hI (by omega)
  have hF := appendJ_facts d (imgL l short) hj (by omega)
  generalize appendJ d j (imgL l short) = q at hA hB hV hF
  obtain ⟨d', nx, s', c', t', e⟩ := q
  simp only at hA hB hV hF
  have hj' : JOk d'.p.length { j with next := nx } := by rw [hV.2]; exact hj.next hF.1
  by_cases he : e = 0
  ·refine ⟨d', D, { j with next := nx }, s', c', t', .inl ⟨k1, _, img_rel l short (by omega), _, _, _, _, _, _, _, _, _, _, _, _, _, _, _, _, _, hA, _, model_rel _ (by omega), _, _, _, _, _, _, _, _, _, _, _, _, _, _, _, _, _, _, hB, .inl ⟨he, .inl ⟨rfl, s', c', t', ⟨rfl, rfl, rfl⟩, rfl, rfl, rfl, rfl, rfl, rfl, rfl, rfl, rfl, rfl, rfl, rfl, rfl, rfl, rfl, rfl, rfl, rfl, rfl, rfl, rfl, rfl, rfl, rfl, rfl, rfl, rfl, rfl, rfl, rfl, rfl, rfl, rfl, by simp⟩⟩⟩, hV.1.le (by omega), hj', by rw [hV.2], hF.2.1, hF.2.2.1, hF.2.2.2⟩
  refine ⟨d', D, { j with next := nx }, s, c, t, .inl ⟨k1, _, img_rel l short (by omega), _, _, _, _, _, _, _, _, _, _, _, _, _, _, _, _, _, hA, _, model_rel _ (by omega), _, _, _, _, _, _, _, _, _, _, _, _, _, _, _, _, _, _, hB, .inr ⟨he, .inl ⟨rfl, s', c', t', ⟨rfl, rfl, rfl⟩, rfl, rfl, rfl, rfl, rfl, rfl, rfl, rfl, rfl, rfl, rfl, rfl, rfl, rfl, rfl, rfl, rfl, rfl, rfl, rfl, rfl, rfl, rfl, rfl, rfl, rfl, rfl, rfl, rfl, rfl, rfl, rfl, rfl, by simp⟩⟩⟩, hV.1.le (by omega), hj', by rw [hV.2], hs, hc, ht⟩
 by_cases k2 : bits .and .i64 kind 7 = 3 ∨ bits .and .i64 kind 7 = 4
 ·exact ⟨d, D, adoptJ j s c t lim, s, c, t, .inr ⟨k1, .inl ⟨k2, _, _, _, _, _, _, _, _, _, _, _, _, _, jn_adopt d j s c t lim, _, _, _, _, _, _, _, _, radopt_rel j s c t lim, rfl, rfl, rfl, rfl, rfl, rfl, rfl, rfl, rfl, rfl, rfl, rfl, rfl, rfl, rfl, rfl, rfl, rfl, rfl, rfl, rfl, rfl, rfl, rfl, rfl, rfl, rfl, rfl, rfl, rfl, rfl, rfl, rfl, rfl⟩⟩, hI.le (by omega), adoptJ_ok hj hs hc ht h4, rfl, hs, hc, ht⟩
 by_cases k3 : bits .and .i64 kind 7 = 5
 ·cases hsh : short with
  | true =>
   have hE := jn_empty d j hj
   have hz : 0 ≤ (j.start + j.count) % j.size := Int.emod_nonneg _ (by have := hj.pl; omega)
   have hk := adoptJ_ok hj (limit := lim) hz (Int.le_refl 0) ⟨z32b, z32l⟩ h4
   exact ⟨d, D, adoptJ j ((j.start + j.count) % j.size) 0 Z32 lim, s, c, t, .inr ⟨k1, .inr ⟨k2, .inl ⟨k3, .inl ⟨rfl, _, _, _, _, _, _, _, _, _, _, _, _, _, _, _, _, hE, _, _, _, _, _, _, _, _, _, _, _, _, _, jn_adopt d j _ _ _ lim, _, _, _, ⟨rfl, rfl, rfl⟩, z32l, _, _, _, _, _, _, _, _, radopt_rel j _ _ _ lim, hk.key.2, hk.tag.2, rfl, rfl, rfl, rfl, rfl, rfl, rfl, rfl, rfl, rfl, rfl, rfl, rfl, rfl, rfl, rfl, rfl, rfl, rfl, rfl, rfl, rfl, rfl, rfl, rfl, rfl, rfl, rfl, rfl, rfl, rfl, rfl, rfl, rfl⟩⟩⟩⟩, hI.le (by omega), hk, rfl, hs, hc, ht⟩
  | false =>
   have hk := adoptJ_ok hj (limit := lim) h1 h2 h3 h4
   exact ⟨d, D, adoptJ j st cnt tag lim, s, c, t, .inr ⟨k1, .inr ⟨k2, .inl ⟨k3, .inr ⟨by simp, _, _, _, _, _, _, _, _, _, _, _, _, _, jn_adopt d j st cnt tag lim, _, _, _, ⟨rfl, rfl, rfl⟩, h3.2, _, _, _, _, _, _, _, _, radopt_rel j st cnt tag lim, hk.key.2, hk.tag.2, rfl, rfl, rfl, rfl, rfl, rfl, rfl, rfl, rfl, rfl, rfl, rfl, rfl, rfl, rfl, rfl, rfl, rfl, rfl, rfl, rfl, rfl, rfl, rfl, rfl, rfl, rfl, rfl, rfl, rfl, rfl, rfl, rfl, rfl⟩⟩⟩⟩, hI.le (by omega), hk, rfl, hs, hc, ht⟩
 by_cases k4 : bits .and .i64 kind 7 = 6
 ·exact ⟨stopD d (bits .and .i64 after 7), D, j, s, c, t, .inr ⟨k1, .inr ⟨k2, .inr ⟨k3, .inl ⟨k4, _, _, _, _, _, dk_stop d _, _, _, _, _, _, _, rf_stop d D _, rfl, rfl, rfl, rfl, rfl, rfl, rfl, rfl, rfl, rfl, rfl, rfl, rfl, rfl, rfl, rfl, rfl, rfl, rfl, rfl, rfl, rfl, rfl, rfl, rfl, rfl, rfl, rfl, rfl, rfl, rfl, rfl, rfl, rfl⟩⟩⟩⟩, (hI.stop _ (and_range _ _)).le (by omega), hj, rfl, hs, hc, ht⟩
 have hC := hI.crash keep
 have hR := rf_crash d D keep n hI (by omega)
 rw [← hC.2] at hR
 refine ⟨crashD d keep, D ++ kept d.u keep, j, s, c, t, .inr ⟨k1, .inr ⟨k2, .inr ⟨k3, .inr ⟨k4, _, _, _, _, _, dk_crash d keep hI.wf, _, _, _, _, _, _, ?_, rfl, rfl, rfl, rfl, rfl, rfl, rfl, rfl, rfl, rfl, rfl, rfl, rfl, rfl, rfl, rfl, rfl, rfl, rfl, rfl, rfl, rfl, rfl, rfl, rfl, rfl, rfl, rfl, rfl, rfl, rfl, rfl, rfl, rfl⟩⟩⟩⟩, hC.1.le (by omega), by rw [hC.2]; exact hj, hC.2, hs, hc, ht⟩
 rw [← hC.2]; exact hR
def ok84 (x : Ac) : Prop := (-9223372036854775808 ≤ x.1 ∧ x.1 ≤ 9223372036854775807) ∧ (x.2.1.length ≤ 9223372036854775807 ∧ ∀ y ∈ x.2.1, ok42 y) ∧ True ∧ (0 ≤ x.2.2.2.1 ∧ x.2.2.2.1 < 18446744073709551616) ∧ (0 ≤ x.2.2.2.2.1 ∧ x.2.2.2.2.1 < 18446744073709551616) ∧ (Byt x.2.2.2.2.2.1 ∧ x.2.2.2.2.2.1.length = 32) ∧ (0 ≤ x.2.2.2.2.2.2.1 ∧ x.2.2.2.2.2.2.1 < 18446744073709551616) ∧ (-9223372036854775808 ≤ x.2.2.2.2.2.2.2.1 ∧ x.2.2.2.2.2.2.2.1 ≤ 9223372036854775807) ∧ x.2.2.2.2.2.2.2.2.length ≤ 9223372036854775807
theorem jplays_L2 (l7 : List Ac) (o7 : ∀ x ∈ l7, ok84 x) : ∀ (m f i n : Nat) (d : DS) (D : List Wr) (j : JS) (s c : Int) (t : List Int) (b : Bool), i + m = 20 → m < f → Inv n d D → n ≤ 9 * i → JOk d.p.length j → 0 ≤ s → 0 ≤ c → Byt t ∧ t.length = 32 →
  reliquarylaw13_JournalPlays.L2 l7 f d.p d.u d.ops (d.p.length : Int) (D.map toW) (d.u.map toW) d.left d.down d.ops j.key j.first j.size j.start j.count j.tag j.next j.limit s c t s c t d.left d.down j.key j.first j.size j.start j.count j.tag j.next j.limit b i := by
 intro m
 induction m with
 | zero =>
  intro f i n d D j s c t b h1 h2 hI hn hj hs hc ht
  obtain ⟨f, rfl⟩ : ∃ m, f = m + 1 := ⟨f - 1, by omega⟩
  by_cases hi : (i : Int) < (l7.length : Int)
  ·exact .inl ⟨hi, .inr ⟨by omega, trivial⟩⟩
  exact .inr ⟨hi, trivial⟩
 | succ m ih =>
  intro f i n d D j s c t b h1 h2 hI hn hj hs hc ht
  obtain ⟨f, rfl⟩ : ∃ m, f = m + 1 := ⟨f - 1, by omega⟩
  by_cases hi : (i : Int) < (l7.length : Int)
  ·refine .inl ⟨hi, .inl ⟨by omega, ⟨by omega, by omega⟩, ?_⟩⟩
   rw [Int.toNat_natCast]
   have ho := o7 _ (gx_mem (l := l7) (i := i) (by omega))
   generalize gx l7 i = x at ho
   obtain ⟨kind, l, short, st, cnt, tag, lim, after, keep⟩ := x
   obtain ⟨_, ⟨_, o1⟩, _, o2, o3, o4, o5, _⟩ := ho
   simp only at o1 o2 o3 o4 o5
   by_cases hl : (l.length : Int) > 8
   ·exact .inl ⟨hl, trivial⟩
   refine .inr ⟨hl, ⟨by omega, by omega⟩, ?_⟩
   obtain ⟨d', D', j', s', c', t', hS, hA⟩ := jplays_step d D j n s c t hI (by omega) hj hs hc ht kind l short st cnt tag lim after keep (by omega) o1 o2.1 o3.1 o4 o5.1
   obtain ⟨a1, a2, a3, a4, a5, a6⟩ := hA
   simp only
   rw [pad_self o4.2]
   have hE := jn_empty d' j' a2
   have hp := a2.pl; have hcn := a2.cnt; have hfw := a2.few
   refine ⟨_, _, _, _, _, _, _, _, _, _, _, _, _, _, _, _, _, _, _, _, _, _, _, _, _, _, _, _, _, _, _, _, _, _, hS, _, _, _, _, _, _, _, _, _, _, _, _, _, _, _, _, _, jn_state d' j', fun h => h rfl, _, _, _, ⟨rfl, rfl, rfl⟩, fun h => h (by simp), fun h => h rfl, _, _, _, _, _, _, _, _, _, _, _, _, _, _, jn_room d' j' a2, ?_, _, _, _, _, _, _, _, _, _, _, _, _, _, _, _, _, hE, _, _, _, ⟨rfl, rfl, rfl⟩, _, _, _, rempty_rel j' a2, fun h => h (by simp), _, _, _, _, _, _, jm_same d' D' (n + 9) a1 (by omega), fun h => h rfl, ?_⟩
   ·rw [wu64 (x := j'.size - j'.count) (by omega) (by omega)]; exact fun h => h rfl
   rw [show IntKind.i64.wrap ((i : Int) + 1) = ((i + 1 : Nat) : Int) by rw [w64 (by omega) (by omega)]; omega]
   exact ih f (i + 1) (n + 9) d' D' j' s' c' t' b (by omega) (by omega) a1 (by omega) a2 a4 a5 a6
  exact .inr ⟨hi, trivial⟩
theorem jplays_L1 (l7 : List Ac) (b : Bool) : reliquarylaw13_JournalPlays.L1 l7 1 b 0 := by
 by_cases hi : (0 : Int) < (l7.length : Int)
 ·exact .inl ⟨hi, .inl ⟨by omega, trivial⟩⟩
 exact .inr ⟨hi, trivial⟩
theorem journalPlays_pure (a0 : Int) (l1 : List Int) (a2 a3 a4 a5 : Int) (l4 : List Int) (a6 a7 : Int) (l7 : List Ac) (_ : -9223372036854775808 ≤ a0 ∧ a0 ≤ 9223372036854775807) (hb : Byt l1) (hl : l1.length = 32) (h2 : -9223372036854775808 ≤ a2 ∧ a2 ≤ 9223372036854775807) (h3 : -9223372036854775808 ≤ a3 ∧ a3 ≤ 9223372036854775807)
  (h4 : 0 ≤ a4 ∧ a4 < 18446744073709551616) (h5 : 0 ≤ a5 ∧ a5 < 18446744073709551616) (hb4 : Byt l4) (hl4 : l4.length = 32) (h6 : 0 ≤ a6 ∧ a6 < 18446744073709551616) (h7 : 0 ≤ a7 ∧ a7 < 18446744073709551616) (_ : l7.length ≤ 9223372036854775807) (o7 : ∀ x ∈ l7, ok84 x) :
  reliquarylaw13_JournalPlays.rel a0 l1 a2 a3 a4 a5 l4 a6 a7 l7 := by
 refine ⟨awake13, ?_⟩
 by_cases c1 : a0 < 1
 ·exact .inl ⟨c1, trivial⟩
 refine .inr ⟨c1, ?_⟩
 by_cases c2 : a0 > 30
 ·exact .inl ⟨c2, trivial⟩
 refine .inr ⟨c2, ?_⟩
 obtain ⟨n, rfl⟩ : ∃ n : Nat, a0 = n := ⟨a0.toNat, by omega⟩
 have hp : (newD n).p.length = n := newD_len n
 have hN := jn_new (newD n) (by omega) l1 a2 a3 a4 a5 l4 a6 a7 h2 h3
 refine ⟨_, _, _, _, _, _, dk_new n (by omega) (by omega), _, _, _, _, _, _, _, .inr ⟨by omega, .inr ⟨by omega, rfl, rfl, rfl, rfl, rfl, rfl, rfl⟩⟩, _, _, _, _, _, _, _, hN, ?_⟩
 rw [hp]
 cases hB : newB n a2 a3 a4 a5 a6 a7 with
 | true =>
  rw [if_pos rfl]
  exact .inl ⟨rfl, _, _, _, ⟨rfl, rfl, rfl⟩, _, _, _, _, _, _, _, _, _, rnew13_bad n (by omega) l1 a2 a3 a4 a5 l4 a6 a7 hB h2 h3 h6.1, fun h => h rfl, 1, jplays_L1 l7 false⟩
 | false =>
  rw [if_neg (by simp)]
  have hB' := hB
  unfold newB at hB'
  rw [decide_eq_false_iff_not] at hB'
  have hI : Inv 0 (newD n) [] := Inv.new n (by omega)
  have hJ : JOk (newD n).p.length ⟨l1, a2, a3, a4, a5, l4, a6, a7⟩ := by
   rw [hp]
   exact ⟨by omega, ⟨hb, hl⟩, ⟨hb4, hl4⟩, ⟨by show 0 ≤ a2; omega, by show 1 ≤ a3; omega, by show a2 + a3 ≤ (n : Int); omega⟩, ⟨by show 0 ≤ a4; omega, by show a4 < a3; omega⟩, ⟨by show 0 ≤ a5; omega, by show a5 ≤ a3; omega⟩, ⟨by show 1 ≤ a6; omega, by show a6 < 18446744073709551616; omega⟩, ⟨by show 0 ≤ a7; omega, by show a7 ≤ 9223372036854775807; omega⟩⟩
  have hL := jplays_L2 l7 o7 20 21 0 0 (newD n) [] ⟨l1, a2, a3, a4, a5, l4, a6, a7⟩ 0 0 Z32 false rfl (by omega) hI (by omega) hJ (Int.le_refl 0) (Int.le_refl 0) ⟨z32b, z32l⟩
  rw [hp] at hL
  exact .inr ⟨_, _, _, _, _, _, _, _, rfl, _, _, _, ⟨rfl, rfl, rfl⟩, _, _, _, _, _, _, _, _, _, rnew13_rel n (by omega) l1 a2 a3 a4 a5 l4 a6 a7 hB h2 h3, fun h => h rfl, 21, hL⟩
end Go.Proofs.YtmhcjafkdmcgoaaDoor
