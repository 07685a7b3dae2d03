/- Journal: what counts isn't written over; plainly. -/
import Derived.Test.YtmhcjafkdmcgoaaDoorPlJi
namespace Go.Proofs.YtmhcjafkdmcgoaaDoor
open Go Go.Kr Go.RowKit
set_option linter.unusedVariables false
set_option linter.unusedSimpArgs false
def ok42 (x : RI) : Prop := (0 ≤ x.1 ∧ x.1 < 18446744073709551616) ∧ (x.2.length ≤ 9223372036854775807 ∧ Byt x.2)
theorem emod_ne {a b k : Int} (h1 : a < b) (h2 : b < a + k) : b % k ≠ a % k := fun h => by
  have h3 := Int.emod_eq_emod_iff_emod_sub_eq_zero.1 h
  rw [Int.emod_eq_of_lt (by omega) (by omega)] at h3
  omega
theorem adoptJ_at' (key : List Int) (first size st cnt : Int) (tag : List Int) (nx : Int) (s c : Int) (t : List Int) (h1 : s < size) (h2 : c ≤ size) : adoptJ ⟨key, first, size, st, cnt, tag, nx, 1099511627776⟩ s c t 1099511627776 = ⟨key, first, size, s, c, t, nx, 1099511627776⟩ := by
  unfold adoptJ
  rw [if_pos ⟨h1, h2⟩]
  rfl
theorem flushD_ok {d : DS} (h : d.down = false) : flushD d = ({ d with p := layD d.p d.u, u := [], ops := d.ops ++ [(3, 0)] }, 0) := by
  unfold flushD
  rw [if_neg (by rw [h]; simp)]
theorem counts_L1 (a1 : Int) (l3 l4 : List RI) (k n : Nat) (hk : IntKind.i64.wrap (IntKind.i64.wrap (Int.tmod a1 9) + 1) = (k : Int)) (hk1 : 1 ≤ k ∧ k ≤ 9) (s : Int) (hs : 0 ≤ s ∧ s < (k : Int)) (hn : n ≤ k) (h3 : l3.length = n) (t key : List Int) (was now : List R25) (nx e : Int) (d : DS) (hwl : was.length = k) (hnl : now.length = k)
    (same : ∀ x : Nat, x < n → gx was ((s + x) % (k : Int)).toNat = gx now ((s + x) % (k : Int)).toNat) (he : e = 0 ↔ 0 < l4.length ∧ (l4.length : Int) ≤ (k : Int) - n) (hl4 : l4.length ≤ 10) (b : Bool) :
    ∀ (m f x : Nat), x + m = n → m < f → reliquarylaw13_JournalCounts.L1 a1 l3 l4 s n t was key 0 k s n t nx 1099511627776 e d.p d.u d.left d.down d.ops now f b x := by
  have hku : IntKind.u64.wrap (k : Int) = (k : Int) := wu64 (by omega) (by omega)
  intro m
  induction m with
  | zero =>
    intro f x h1 h2
    obtain ⟨f, rfl⟩ : ∃ q, f = q + 1 := ⟨f - 1, by omega⟩
    unfold reliquarylaw13_JournalCounts.L1
    rw [hk, hku]
    have hS := jn_state d ⟨key, 0, k, s, n, t, nx, 1099511627776⟩
    refine .inr ⟨by omega, _, _, _, _, _, _, _, _, _, _, _, _, _, _, _, _, _, hS, ?_, ?_, ?_⟩
    · show (s == s && ((n : Int) == (n : Int) && (t == t && true))) = true
      rw [beq_self_eq_true s, beq_self_eq_true (n : Int), beq_self_eq_true t]; rfl
    · rw [wu64 (by omega) (by omega)]; omega
    · by_cases c : (l4.length : Int) > 0
      · refine .inl ⟨c, _, rfl, ?_⟩
        rw [w64 (by omega) (by omega), Bool.eq_iff_iff, beq_iff_eq, decide_eq_true_iff, he]
        omega
      · refine .inr ⟨c, ?_⟩
        rw [beq_eq_false_iff_ne]
        intro h0
        have := he.1 h0
        omega
  | succ m ih =>
    intro f x h1 h2
    obtain ⟨f, rfl⟩ : ∃ q, f = q + 1 := ⟨f - 1, by omega⟩
    have H := ih f (x + 1) (by omega) (by omega)
    have h5 := Int.emod_nonneg (s + x) (show (k : Int) ≠ 0 by omega)
    have h6 := Int.emod_lt_of_pos (s + x) (show (0 : Int) < k by omega)
    have e1 : Int.tmod (IntKind.u64.wrap (s + (x : Int))) (k : Int) = (s + x) % (k : Int) := by
      rw [wu64 (by omega) (by omega), Int.tmod_eq_emod_of_nonneg (by omega)]
    unfold reliquarylaw13_JournalCounts.L1
    rw [hk, hku]
    refine .inl ⟨by omega, _, rfl, by omega, ?_⟩
    rw [e1, same x (by omega)]
    refine ⟨⟨h5, by omega⟩, ⟨h5, by omega⟩, fun h => h rfl, ?_⟩
    rw [show IntKind.u64.wrap ((x : Int) + 1) = ((x + 1 : Nat) : Int) by rw [wu64 (by omega) (by omega)]; omega]
    exact H
theorem journalCounts_pure (l0 : List Int) (a1 a2 : Int) (l3 l4 : List RI) (hb : Byt l0) (hl : l0.length = 32) (h1 : 0 ≤ a1 ∧ a1 < 256) (h2 : 0 ≤ a2 ∧ a2 < 256) (_ : l3.length ≤ 9223372036854775807) (o3 : ∀ x ∈ l3, ok42 x) (_ : l4.length ≤ 9223372036854775807) (o4 : ∀ x ∈ l4, ok42 x) : reliquarylaw13_JournalCounts.rel l0 a1 a2 l3 l4 := by
  have e1 : Int.tmod a1 9 = a1 % 9 := Int.tmod_eq_emod_of_nonneg h1.1
  obtain ⟨k, hk0⟩ : ∃ k : Nat, (k : Int) = a1 % 9 + 1 := ⟨(a1 % 9 + 1).toNat, by omega⟩
  have hk : IntKind.i64.wrap (IntKind.i64.wrap (Int.tmod a1 9) + 1) = (k : Int) := by
    rw [e1, w64 (x := a1 % 9) (by omega) (by omega), w64 (by omega) (by omega), hk0]
  have hk1 : 1 ≤ k ∧ k ≤ 9 := by omega
  have hku : IntKind.u64.wrap (k : Int) = (k : Int) := wu64 (by omega) (by omega)
  have h5 := Int.emod_nonneg a2 (show (k : Int) ≠ 0 by omega)
  have h6 := Int.emod_lt_of_pos a2 (show (0 : Int) < k by omega)
  have e2 : Int.tmod (IntKind.u64.wrap a2) (k : Int) = a2 % (k : Int) := by rw [wu64 (by omega) (by omega), Int.tmod_eq_emod_of_nonneg (by omega)]
  have hl4 : (newD k).p.length = k := newD_len k
  unfold reliquarylaw13_JournalCounts.rel
  rw [hk, hku]
  refine ⟨awake13, ?_⟩
  by_cases c3 : (l3.length : Int) > 10
  · exact .inl ⟨c3, trivial⟩
  refine .inr ⟨c3, ?_⟩
  by_cases c4 : (l4.length : Int) > 10
  · exact .inl ⟨c4, trivial⟩
  refine .inr ⟨c4, ?_⟩
  have e0 : newB (newD k).p.length 0 k (a2 % (k : Int)) 0 1 1099511627776 = false := by
    rw [hl4]; unfold newB; rw [decide_eq_false_iff_not]; omega
  have hN : ∀ z : Int, z = a2 % (k : Int) → journal_New.rel (newD k).p (newD k).u (newD k).left (newD k).down (newD k).ops l0 0 k z 0 Z32 1 1099511627776 (newD k).p (newD k).u (newD k).left (newD k).down (newD k).ops (some (l0, 0, (k : Int), a2 % (k : Int), 0, Z32, 1, 1099511627776)) 0 := by
    rintro _ rfl
    have hN := jn_new (newD k) (by omega) l0 0 k (a2 % (k : Int)) 0 Z32 1 1099511627776 (by omega) (by omega)
    rwa [e0, if_neg (by simp), if_neg (by simp)] at hN
  have hJ : JOk (newD k).p.length ⟨l0, 0, k, a2 % (k : Int), 0, Z32, 1, 1099511627776⟩ := by
    rw [hl4]
    exact ⟨by omega, ⟨hb, hl⟩, ⟨rep_byt 32, List.length_replicate ..⟩, ⟨by show (0 : Int) ≤ 0; omega, by show (1 : Int) ≤ k; omega, by show (0 : Int) + k ≤ k; omega⟩, ⟨h5, h6⟩, ⟨by show (0 : Int) ≤ 0; omega, by show (0 : Int) ≤ k; omega⟩, ⟨by show (1 : Int) ≤ 1; omega, by show (1 : Int) < 18446744073709551616; omega⟩, ⟨by show (0 : Int) ≤ 1099511627776; omega, by show (1099511627776 : Int) ≤ 9223372036854775807; omega⟩⟩
  have hil := imgL_length l3 false
  obtain ⟨d1, nx1, s1, c1, t1, er1, A1⟩ := app_any (d := newD k) (j := ⟨l0, 0, k, a2 % (k : Int), 0, Z32, 1, 1099511627776⟩) (l := imgL l3 false) (imgL_160 l3) (imgL_byt false fun x hx => (o3 x hx).2.2) (by omega) (newD_wf k (by omega)) rfl (by show (-1 : Int) < 0; omega) ⟨by simp [newD], by simp [newD]⟩ hJ (by show (1 : Int) + _ ≤ 1099511627776; omega)
  refine ⟨_, _, _, _, ⟨rfl, rfl, rfl, rfl⟩, trivial, _, _, _, _, ⟨rfl, rfl, rfl, rfl⟩, fun h => h rfl, fun h => h (by decide), fun h => h rfl, _, rfl, fun h => h rfl, _, _, _, ⟨rfl, rfl, rfl⟩, fun h => h (by decide), _, _, _, _, _, _, dk_new k (by omega) (by omega), _, rfl, by omega, _, _, _, _, _, _, _, _, _, _, _, _, _, _, hN _ e2, _, img_rel l3 false (by omega), _, _, _, _, _, _, _, _, _, _, _, _, _, _, _, _, _, A1.rel, ?_⟩
  by_cases he : er1 ≠ 0
  · refine .inl ⟨he, ?_⟩
    rcases A1.er he with ⟨w1, w2⟩ | ⟨w1, w2⟩
    · exact .inl ⟨by omega, .inl ⟨w2, trivial⟩⟩
    · have w3 : (l3.length : Int) > k := by rw [hil] at w1; show (l3.length : Int) > k; have : ((l3.length : Nat) : Int) > (k : Int) - 0 := w1; omega
      exact .inr ⟨by omega, w3, w2⟩
  refine .inr ⟨he, ?_⟩
  have he0 : er1 = 0 := by omega
  obtain ⟨ok1, ok2⟩ := A1.ok.1 he0
  obtain ⟨rfl, hc, ht⟩ := A1.st he0
  have ok3 : (l3.length : Int) ≤ k := by rw [hil] at ok2; have : ((l3.length : Nat) : Int) ≤ (k : Int) - 0 := ok2; omega
  have hc1 : c1 = (l3.length : Int) := by rw [hc, hil]; show (0 : Int) + _ = _; omega
  subst hc1
  have hd1p : d1.p.length = k := by rw [A1.p, hl4]
  have hnx := A1.nx1
  have hnx2 : nx1 ≤ 20 := by have : nx1 ≤ 1 + (((imgL l3 false).length : Nat) : Int) := hnx.2; omega
  have hAd := jn_adopt d1 ⟨l0, 0, k, a2 % (k : Int), 0, Z32, nx1, 1099511627776⟩ (a2 % (k : Int)) l3.length t1 1099511627776
  have hJ1 : JOk d1.p.length ⟨l0, 0, k, a2 % (k : Int), l3.length, t1, nx1, 1099511627776⟩ := by
    rw [A1.p]
    exact ⟨hJ.few, hJ.key, ht, hJ.pl, hJ.st, ⟨by show (0 : Int) ≤ l3.length; omega, ok3⟩, ⟨hnx.1, by show nx1 < _; omega⟩, hJ.lim⟩
  rw [adoptJ_at' l0 0 k (a2 % (k : Int)) 0 Z32 nx1 _ _ t1 h6 ok3] at hAd
  obtain ⟨ws1, hu1, hu2, hu3⟩ := A1.u
  have hul1 : d1.u.length ≤ 10 := by rw [hu1, List.length_append]; show 0 + ws1.length ≤ 10; omega
  have hol1 : d1.ops.length ≤ 10 := by have := A1.ops; have : d1.ops.length ≤ 0 + (imgL l3 false).length := this; omega
  have hF := dk_flush d1 A1.wf
  have hFw := flushD_wf A1.wf (by omega)
  have hfe := flushD_ok A1.down
  have hIm := dk_image (flushD d1).1 hFw
  have hp2 : (flushD d1).1.p.length = k := by rw [hfe]; show (layD d1.p d1.u).length = k; rw [layD_length, hd1p]
  have hil4 := imgL_length l4 false
  obtain ⟨d3, nx3, s3, c3', t3, er3, A3⟩ := app_any (d := (flushD d1).1) (j := ⟨l0, 0, k, a2 % (k : Int), l3.length, t1, nx1, 1099511627776⟩) (l := imgL l4 false) (imgL_160 l4) (imgL_byt false fun x hx => (o4 x hx).2.2) (by omega) hFw (by rw [hfe]; exact A1.down) (by rw [hfe]; show d1.left < 0; rw [A1.left]; show (-1 : Int) < 0; omega) ⟨by rw [hfe]; simp, by rw [hfe]; simp; omega⟩ (by rw [hp2]; rw [hd1p] at hJ1; exact hJ1) (by show nx1 + _ ≤ 1099511627776; omega)
  have hF3 := dk_flush d3 A3.wf
  have hol3 : d3.ops.length ≤ 100 := by
    have h7 := A3.ops
    rw [hfe] at h7
    have h8 : d3.ops.length ≤ (d1.ops ++ [(3, 0)]).length + (imgL l4 false).length := h7
    rw [List.length_append] at h8
    simp at h8
    omega
  have hFw3 := flushD_wf A3.wf (by omega)
  have hfe3 := flushD_ok A3.down
  have hIm3 := dk_image (flushD d3).1 hFw3
  have hp3 : (flushD d3).1.p.length = k := by rw [hfe3]; show (layD d3.p d3.u).length = k; rw [layD_length, A3.p, hp2]
  obtain ⟨ws3, hv1, hv2, hv3⟩ := A3.u
  have hv0 : d3.u = ws3 := by rw [hv1, hfe]; rfl
  have same : ∀ x : Nat, x < l3.length → gx (flushD d1).1.p ((a2 % (k : Int) + x) % (k : Int)).toNat = gx (flushD d3).1.p ((a2 % (k : Int) + x) % (k : Int)).toNat := fun x hx => by
    have q1 := Int.emod_nonneg (a2 % (k : Int) + x) (show (k : Int) ≠ 0 by omega)
    have q2 : gx (flushD d3).1.p ((a2 % (k : Int) + x) % (k : Int)).toNat = gx (layD d3.p d3.u) ((a2 % (k : Int) + x) % (k : Int)).toNat := by rw [hfe3]
    rw [q2, gx_layD d3.p _ d3.u fun y hy => ⟨(A3.wf.way y hy).1, (A3.wf.way y hy).2.1⟩, lastW_none.2 fun y hy => ?_, A3.p]
    · rfl
    · rw [hv0] at hy
      obtain ⟨q, w1, w2, w3⟩ := hv3 y hy
      have w2' : ((l3.length : Nat) : Int) + ((imgL l4 false).length : Nat) ≤ (k : Int) := w2
      rw [w3, Int.toNat_of_nonneg q1]
      show 0 + (a2 % (k : Int) + ((l3.length : Nat) + (q : Int))) % (k : Int) ≠ _
      rw [Int.zero_add]
      exact emod_ne (by omega) (by omega)
  refine ⟨_, _, _, _, _, _, _, _, _, _, _, _, _, hAd, _, _, _, _, _, _, hF, _, _, _, _, _, _, hIm, _, img_rel l4 false (by omega), _, _, _, _, _, _, _, _, _, _, _, _, _, _, _, _, _, A3.rel, _, _, _, _, _, _, hF3, _, _, _, _, _, _, hIm3, l3.length + 1, ?_⟩
  have ho := A3.ok
  rw [hil4] at ho
  exact counts_L1 a1 l3 l4 k l3.length hk hk1 (a2 % (k : Int)) ⟨h5, h6⟩ (by omega) rfl t1 l0 _ _ nx3 er3 (flushD d3).1 hp2 hp3 same ho (by omega) false l3.length _ 0 (by omega) (by omega)
end Go.Proofs.YtmhcjafkdmcgoaaDoor
