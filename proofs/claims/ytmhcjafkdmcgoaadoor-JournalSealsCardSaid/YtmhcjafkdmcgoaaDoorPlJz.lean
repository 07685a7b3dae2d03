/- Journal: what is written to the ring is what the document says; plainly. -/
import Derived.Test.YtmhcjafkdmcgoaaDoorPlJm
namespace Go.Proofs.YtmhcjafkdmcgoaaDoor
open Go Go.Kr Go.RowKit
set_option linter.unusedVariables false
set_option linter.unusedSimpArgs false
theorem journalSeals_pure (l0 : List Int) (l1 : List RI) (a2 a3 : Int) (hb : Byt l0) (hl : l0.length = 32) (_ : l1.length ≤ 9223372036854775807) (o1 : ∀ x ∈ l1, ok42 x) (h2 : 0 ≤ a2 ∧ a2 < 256) (h3 : 0 ≤ a3 ∧ a3 < 65536) : reliquarylaw13_JournalSeals.rel l0 l1 a2 a3 := by
 refine ⟨awake13, ?_⟩
 by_cases c1 : (l1.length : Int) = 0
 ·exact .inl ⟨c1, trivial⟩
 refine .inr ⟨c1, ?_⟩
 by_cases c2 : (l1.length : Int) > 6
 ·exact .inl ⟨c2, trivial⟩
 refine .inr ⟨c2, ?_⟩
 have e1 : Int.tmod a2 7 = a2 % 7 := Int.tmod_eq_emod_of_nonneg h2.1
 have e2 : IntKind.u64.wrap (Int.tmod a2 7) = a2 % 7 := by rw [e1, wu64 (by omega) (by omega)]
 have e3 : IntKind.u64.wrap (IntKind.u64.wrap a3 + 1) = a3 + 1 := by rw [wu64 (x := a3) (by omega) (by omega), wu64 (by omega) (by omega)]
 rw [e2, e3]
 have hl4 : (newD 8).p.length = 8 := newD_len 8
 have e0 : newB (newD 8).p.length 1 7 (a2 % 7) 0 (a3 + 1) 1099511627776 = false := by
  rw [hl4]; unfold newB; rw [decide_eq_false_iff_not]; omega
 have hN := jn_new (newD 8) (by omega) l0 1 7 (a2 % 7) 0 Z32 (a3 + 1) 1099511627776 (by omega) (by omega)
 rw [e0, if_neg (by simp), if_neg (by simp)] at hN
 have hR := rnew13_rel 8 (by omega) l0 1 7 (a2 % 7) 0 Z32 (a3 + 1) 1099511627776 (by rw [← hl4]; exact e0) (by omega) (by omega)
 have hJ : JOk (newD 8).p.length ⟨l0, 1, 7, a2 % 7, 0, Z32, a3 + 1, 1099511627776⟩ := by
  rw [hl4]
  exact ⟨by omega, ⟨hb, hl⟩, ⟨rep_byt 32, List.length_replicate ..⟩, ⟨by show (0 : Int) ≤ 1; omega, by show (1 : Int) ≤ 7; omega, by show (1 : Int) + 7 ≤ ((8 : Nat) : Int); omega⟩, ⟨by show 0 ≤ a2 % 7; omega, by show a2 % 7 < 7; omega⟩, ⟨by show (0 : Int) ≤ 0; omega, by show (0 : Int) ≤ 7; omega⟩, ⟨by show 1 ≤ a3 + 1; omega, by show a3 + 1 < 18446744073709551616; omega⟩, ⟨by show (0 : Int) ≤ 1099511627776; omega, by show (1099511627776 : Int) ≤ 9223372036854775807; omega⟩⟩
 have hil := imgL_length l1 false
 have hio := imgL_ok false o1
 have hA := jn_append (newD 8) ⟨l0, 1, 7, a2 % 7, 0, Z32, a3 + 1, 1099511627776⟩ (imgL l1 false) (newD_wf 8 (by omega)) hJ (by omega) (fun x hx => (hio x hx).2) (by simp [newD]) (by simp [newD])
 have hI0 : Inv 0 (newD 8) [] := Inv.new 8 (by omega)
 have hB := rf_append (newD 8) [] ⟨l0, 1, 7, a2 % 7, 0, Z32, a3 + 1, 1099511627776⟩ (imgL l1 false) 0 hI0 (by omega) hJ (by omega) hio
 have hI := appendJ_inv (j := ⟨l0, 1, 7, a2 % 7, 0, Z32, a3 + 1, 1099511627776⟩) (l := imgL l1 false) hI0 (by omega)
 have hS := jm_same _ [] _ hI.1 (by omega)
 have eA := appendJ_ok (d := newD 8) (j := ⟨l0, 1, 7, a2 % 7, 0, Z32, a3 + 1, 1099511627776⟩) (l := imgL l1 false) (fun h => by have := congrArg List.length h; rw [hil, List.length_nil] at this; omega) (imgL_160 l1) (by rw [hil]; show (l1.length : Int) ≤ 7 - 0; omega) (by rw [hil]; show a3 + 1 + (l1.length : Int) ≤ 1099511627776; omega) rfl (by decide) hJ
 have hT := tgJ_ok l0 1 7 (a2 % 7) (recsOf (imgL l1 false)) (a3 + 1) 0 Z32 ⟨rep_byt 32, List.length_replicate ..⟩
 have ee : (appendJ (newD 8) ⟨l0, 1, 7, a2 % 7, 0, Z32, a3 + 1, 1099511627776⟩ (imgL l1 false)).2.2.2.2.2 = 0 := by rw [eA]
 have et : (appendJ (newD 8) ⟨l0, 1, 7, a2 % 7, 0, Z32, a3 + 1, 1099511627776⟩ (imgL l1 false)).2.2.2.2.1.length = 32 := by rw [eA]; exact hT.2
 rw [hl4] at hB
 refine ⟨_, _, _, _, _, _, dk_new 8 (by omega) (by omega), _, _, _, _, _, _, _, .inr ⟨by omega, .inr ⟨by omega, rfl, rfl, rfl, rfl, rfl, rfl, rfl⟩⟩, _, _, _, _, _, _, _, _, _, _, _, _, _, _, hN, _, _, _, _, _, _, _, _, _, hR, _, img_rel l1 false (by omega), _, _, _, _, _, _, _, _, _, _, _, _, _, _, _, _, _, hA, _, model_rel _ (by omega), _, _, _, _, _, _, _, _, _, _, _, _, _, _, _, _, _, _, hB, rfl, ee, ee, _, _, _, ⟨rfl, rfl, rfl⟩, et, ?_, _, _, _, _, _, _, hS, rfl⟩
 rw [beq_self_eq_true, beq_self_eq_true, beq_self_eq_true]
 rfl
end Go.Proofs.YtmhcjafkdmcgoaaDoor
