/- Walks: each function computes what its relation says, and a call of it ends so. Printed by a program of this session (wip/gen). -/
import Derived.Test.YtmhcjafkdmcgoaaDoorGx5
namespace Go.Proofs.YtmhcjafkdmcgoaaDoor
open Go Go.Kr Go.RowKit
set_option linter.unusedVariables false
set_option linter.unusedSimpArgs false
/-! ### reliquarylaw13_JournalRing: function 4 -/
def reliquarylaw13_JournalRing.L3 (a1 : Int) (x_94 : Int) (x_95 : Int) (x_108 : Int) (l_181 : List R48) (l_196_1 : List Int) (a_200_2 : Int) (a_200_3 : Int) (a_200_4 : Int) (a_200_5 : Int) (l_196_6 : List Int) (a_200_7 : Int) (a_200_8 : Int) (a_203_0 : Int) (a_203_1 : Int) (l_204_2 : List Int) (l_225_0 : List R25) (l_225_1 : List R124) (a_229_2 : Int) (a_229_3 : Bool) (l_225_4 : List R48) (l_234 : List R48) (K_L1 : (List R25) → (List R124) → (List R48) → Int → Bool → (List Int) → Int → Int → Int → Int → (List Int) → Int → Int → Bool → Int → Int → Prop) : Nat → Bool → Int → Prop
 | 0, _, _ => False
 | kL3 + 1, b_254, x_255 => ((x_255 < (IntKind.i64.wrap (x_108 + 1)) ∧ ((0 ≤ (IntKind.i64.wrap ((l_181.length : Int) + x_255)) ∧ (IntKind.i64.wrap ((l_181.length : Int) + x_255)) < (l_234.length : Int)) ∧ (¬ (((gx l_234 ((IntKind.i64.wrap ((l_181.length : Int) + x_255)).toNat)).1) ≠ 2) ∧ ((0 ≤ (IntKind.i64.wrap ((l_181.length : Int) + x_255)) ∧ (IntKind.i64.wrap ((l_181.length : Int) + x_255)) < (l_234.length : Int)) ∧ ((IntKind.i64.wrap ((IntKind.i64.wrap (Int.tmod a1 9)) + 1)) ≠ 0 ∧ (∃ x_282 : Int, x_282 = Int.tmod (IntKind.i64.wrap (x_94 + x_255)) (IntKind.i64.wrap ((IntKind.i64.wrap (Int.tmod a1 9)) + 1)) ∧ (¬ (((gx l_234 ((IntKind.i64.wrap ((l_181.length : Int) + x_255)).toNat)).2) ≠ (IntKind.i64.wrap (2 + x_282))) ∧ reliquarylaw13_JournalRing.L3 a1 x_94 x_95 x_108 l_181 l_196_1 a_200_2 a_200_3 a_200_4 a_200_5 l_196_6 a_200_7 a_200_8 a_203_0 a_203_1 l_204_2 l_225_0 l_225_1 a_229_2 a_229_3 l_225_4 l_234 K_L1 kL3 b_254 (IntKind.i64.wrap (x_255 + 1))))))))) ∨ (¬ (x_255 < (IntKind.i64.wrap (x_108 + 1))) ∧ (∃ (l_296_0_0 : List R25) (l_296_0_1 : List R124) (a_300_0_2 : Int) (a_300_0_3 : Bool) (l_296_0_4 : List R48) (l_296_1 : List Int) (a_300_2 : Int) (a_300_3 : Int) (a_300_4 : Int) (a_300_5 : Int) (l_296_6 : List Int) (a_300_7 : Int) (a_300_8 : Int), journal_Journal_Adopt.rel l_225_0 l_225_1 a_229_2 a_229_3 l_225_4 l_196_1 a_200_2 a_200_3 a_200_4 a_200_5 l_196_6 a_200_7 a_200_8 a_203_0 a_203_1 l_204_2 1099511627776 l_296_0_0 l_296_0_1 a_300_0_2 a_300_0_3 l_296_0_4 l_296_1 a_300_2 a_300_3 a_300_4 a_300_5 l_296_6 a_300_7 a_300_8 ∧ ((IntKind.i64.wrap ((IntKind.i64.wrap (Int.tmod a1 9)) + 1)) ≠ 0 ∧ (∃ x_306 : Int, x_306 = Int.tmod (IntKind.i64.wrap (x_94 + (IntKind.i64.wrap (x_108 + 1)))) (IntKind.i64.wrap ((IntKind.i64.wrap (Int.tmod a1 9)) + 1)) ∧ (∃ (l_315_0_0 : List R25) (l_315_0_1 : List R124) (a_319_0_2 : Int) (a_319_0_3 : Bool) (l_315_0_4 : List R48) (l_315_1 : List Int) (a_319_2 : Int) (a_319_3 : Int) (a_319_4 : Int) (a_319_5 : Int) (l_315_6 : List Int) (a_319_7 : Int) (a_319_8 : Int) (a_322 : Int), journal_Journal_Room.rel l_296_0_0 l_296_0_1 a_300_0_2 a_300_0_3 l_296_0_4 l_296_1 a_300_2 a_300_3 a_300_4 a_300_5 l_296_6 a_300_7 a_300_8 l_315_0_0 l_315_0_1 a_319_0_2 a_319_0_3 l_315_0_4 l_315_1 a_319_2 a_319_3 a_319_4 a_319_5 l_315_6 a_319_7 a_319_8 a_322 ∧ (∃ x_326 : Int, x_326 = IntKind.i64.wrap ((IntKind.i64.wrap ((IntKind.i64.wrap (Int.tmod a1 9)) + 1)) - (IntKind.i64.wrap (x_108 + 1))) ∧ (¬ (a_322 ≠ (IntKind.u64.wrap x_326)) ∧ (∃ (l_337_0_0 : List R25) (l_337_0_1 : List R124) (a_341_0_2 : Int) (a_341_0_3 : Bool) (l_337_0_4 : List R48) (l_337_1 : List Int) (a_341_2 : Int) (a_341_3 : Int) (a_341_4 : Int) (a_341_5 : Int) (l_337_6 : List Int) (a_341_7 : Int) (a_341_8 : Int) (a_344_0 : Int) (a_344_1 : Int) (l_345_2 : List Int), journal_Journal_Empty.rel l_315_0_0 l_315_0_1 a_319_0_2 a_319_0_3 l_315_0_4 l_315_1 a_319_2 a_319_3 a_319_4 a_319_5 l_315_6 a_319_7 a_319_8 l_337_0_0 l_337_0_1 a_341_0_2 a_341_0_3 l_337_0_4 l_337_1 a_341_2 a_341_3 a_341_4 a_341_5 l_337_6 a_341_7 a_341_8 a_344_0 a_344_1 l_345_2 ∧ (¬ (a_344_0 ≠ (IntKind.u64.wrap x_306)) ∧ (∃ (l_359_0_0 : List R25) (l_359_0_1 : List R124) (a_363_0_2 : Int) (a_363_0_3 : Bool) (l_359_0_4 : List R48) (l_359_1 : List Int) (a_363_2 : Int) (a_363_3 : Int) (a_363_4 : Int) (a_363_5 : Int) (l_359_6 : List Int) (a_363_7 : Int) (a_363_8 : Int) (a_366_0 : Int) (a_366_1 : Int) (l_367_2 : List Int), journal_Journal_Empty.rel l_337_0_0 l_337_0_1 a_341_0_2 a_341_0_3 l_337_0_4 l_337_1 a_341_2 a_341_3 a_341_4 a_341_5 l_337_6 a_341_7 a_341_8 l_359_0_0 l_359_0_1 a_363_0_2 a_363_0_3 l_359_0_4 l_359_1 a_363_2 a_363_3 a_363_4 a_363_5 l_359_6 a_363_7 a_363_8 a_366_0 a_366_1 l_367_2 ∧ (∃ (l_379_0_0 : List R25) (l_379_0_1 : List R124) (a_383_0_2 : Int) (a_383_0_3 : Bool) (l_379_0_4 : List R48) (l_379_1 : List Int) (a_383_2 : Int) (a_383_3 : Int) (a_383_4 : Int) (a_383_5 : Int) (l_379_6 : List Int) (a_383_7 : Int) (a_383_8 : Int), journal_Journal_Adopt.rel l_359_0_0 l_359_0_1 a_363_0_2 a_363_0_3 l_359_0_4 l_359_1 a_363_2 a_363_3 a_363_4 a_363_5 l_359_6 a_363_7 a_363_8 a_366_0 a_366_1 l_367_2 1099511627776 l_379_0_0 l_379_0_1 a_383_0_2 a_383_0_3 l_379_0_4 l_379_1 a_383_2 a_383_3 a_383_4 a_383_5 l_379_6 a_383_7 a_383_8 ∧ K_L1 l_379_0_0 l_379_0_1 l_379_0_4 a_383_0_2 a_383_0_3 l_379_1 a_383_2 a_383_3 a_383_4 a_383_5 l_379_6 a_383_7 a_383_8 b_254 x_306 (IntKind.i64.wrap (x_95 + 1))))))))))))))
def reliquarylaw13_JournalRing.L2 (a1 : Int) (l_60 : List R25) (l_67 : List R124) (l_74 : List R48) (x_81 : Int) (b_82 : Bool) (m_83 : List Int) (x_85 : Int) (x_86 : Int) (x_87 : Int) (x_88 : Int) (m_89 : List Int) (x_91 : Int) (x_92 : Int) (b_93 : Bool) (x_94 : Int) (x_95 : Int) (x_108 : Int) (K_L1 : (List R25) → (List R124) → (List R48) → Int → Bool → (List Int) → Int → Int → Int → Int → (List Int) → Int → Int → Bool → Int → Int → Prop) : Nat → (List R42) → Int → Prop
 | 0, _, _ => False
 | kL2 + 1, l_115, x_122 => ((x_122 < (IntKind.i64.wrap (x_108 + 1)) ∧ (∃ m_152 : List R42, m_152 = l_115 ++ ([(IntKind.u64.wrap x_122, List.replicate 160 (0 : Int))] : List R42) ∧ (m_152.length ≤ 1099511627776 ∧ reliquarylaw13_JournalRing.L2 a1 l_60 l_67 l_74 x_81 b_82 m_83 x_85 x_86 x_87 x_88 m_89 x_91 x_92 b_93 x_94 x_95 x_108 K_L1 kL2 m_152 (IntKind.i64.wrap (x_122 + 1))))) ∨ (¬ (x_122 < (IntKind.i64.wrap (x_108 + 1))) ∧ (∃ (l_172_0 : List R25) (l_172_1 : List R124) (a_176_2 : Int) (a_176_3 : Bool) (l_172_4 : List R48) (l_181 : List R48), disk_Disk_Ops.rel l_60 l_67 x_81 b_82 l_74 l_172_0 l_172_1 a_176_2 a_176_3 l_172_4 l_181 ∧ (∃ (l_196_0_0 : List R25) (l_196_0_1 : List R124) (a_200_0_2 : Int) (a_200_0_3 : Bool) (l_196_0_4 : List R48) (l_196_1 : List Int) (a_200_2 : Int) (a_200_3 : Int) (a_200_4 : Int) (a_200_5 : Int) (l_196_6 : List Int) (a_200_7 : Int) (a_200_8 : Int) (a_203_0 : Int) (a_203_1 : Int) (l_204_2 : List Int) (a_207 : Int), journal_Journal_Append.rel l_172_0 l_172_1 a_176_2 a_176_3 l_172_4 m_83 x_85 x_86 x_87 x_88 m_89 x_91 x_92 l_115 l_196_0_0 l_196_0_1 a_200_0_2 a_200_0_3 l_196_0_4 l_196_1 a_200_2 a_200_3 a_200_4 a_200_5 l_196_6 a_200_7 a_200_8 a_203_0 a_203_1 l_204_2 a_207 ∧ (∃ (l_225_0 : List R25) (l_225_1 : List R124) (a_229_2 : Int) (a_229_3 : Bool) (l_225_4 : List R48) (l_234 : List R48), disk_Disk_Ops.rel l_196_0_0 l_196_0_1 a_200_0_2 a_200_0_3 l_196_0_4 l_225_0 l_225_1 a_229_2 a_229_3 l_225_4 l_234 ∧ (¬ (a_207 ≠ 0) ∧ (∃ x_243 : Int, x_243 = IntKind.i64.wrap ((l_181.length : Int) + (IntKind.i64.wrap (x_108 + 1))) ∧ (¬ ((l_234.length : Int) ≠ x_243) ∧ (¬ (a_203_0 ≠ (IntKind.u64.wrap x_94)) ∧ (¬ (a_203_1 ≠ (IntKind.u64.wrap (IntKind.i64.wrap (x_108 + 1)))) ∧ (∃ k_ : Nat, reliquarylaw13_JournalRing.L3 a1 x_94 x_95 x_108 l_181 l_196_1 a_200_2 a_200_3 a_200_4 a_200_5 l_196_6 a_200_7 a_200_8 a_203_0 a_203_1 l_204_2 l_225_0 l_225_1 a_229_2 a_229_3 l_225_4 l_234 (K_L1) k_ b_93 0)))))))))))
def reliquarylaw13_JournalRing.L1 (a1 : Int) (l3 : List Int) : Nat → (List R25) → (List R124) → (List R48) → Int → Bool → (List Int) → Int → Int → Int → Int → (List Int) → Int → Int → Bool → Int → Int → Prop
 | 0, _, _, _, _, _, _, _, _, _, _, _, _, _, _, _, _ => False
 | kL1 + 1, l_60, l_67, l_74, x_81, b_82, m_83, x_85, x_86, x_87, x_88, m_89, x_91, x_92, b_93, x_94, x_95 => ((x_95 < (l3.length : Int) ∧ ((x_95 < 10 ∧ ((0 ≤ x_95 ∧ x_95 < (l3.length : Int)) ∧ ((IntKind.i64.wrap ((IntKind.i64.wrap (Int.tmod a1 9)) + 1)) ≠ 0 ∧ (∃ x_108 : Int, x_108 = Int.tmod (IntKind.i64.wrap (gn l3 (x_95.toNat))) (IntKind.i64.wrap ((IntKind.i64.wrap (Int.tmod a1 9)) + 1)) ∧ (∃ k_ : Nat, reliquarylaw13_JournalRing.L2 a1 l_60 l_67 l_74 x_81 b_82 m_83 x_85 x_86 x_87 x_88 m_89 x_91 x_92 b_93 x_94 x_95 x_108 (reliquarylaw13_JournalRing.L1 a1 l3 kL1) k_ ([] : List R42) 0))))) ∨ (¬ (x_95 < 10) ∧ True))) ∨ (¬ (x_95 < (l3.length : Int)) ∧ True))
def reliquarylaw13_JournalRing.rel (l0 : List Int) (a1 : Int) (a2 : Int) (l3 : List Int)  : Prop := (reliquarylaw13_awake.rel  ∧ (∃ x_9 : Int, x_9 = IntKind.i64.wrap ((IntKind.i64.wrap ((IntKind.i64.wrap (Int.tmod a1 9)) + 1)) + 2) ∧ (∃ (l_21_0 : List R25) (l_21_1 : List R124) (a_25_2 : Int) (a_25_3 : Bool) (l_21_4 : List R48) (a_27 : Int), disk_New.rel x_9 (some (l_21_0, l_21_1, a_25_2, a_25_3, l_21_4)) a_27 ∧ ((IntKind.i64.wrap ((IntKind.i64.wrap (Int.tmod a1 9)) + 1)) ≠ 0 ∧ (∃ x_32 : Int, x_32 = Int.tmod (IntKind.i64.wrap a2) (IntKind.i64.wrap ((IntKind.i64.wrap (Int.tmod a1 9)) + 1)) ∧ (∃ (l_49_1 : List Int) (a_51_2 : Int) (a_51_3 : Int) (a_51_4 : Int) (a_51_5 : Int) (l_49_6 : List Int) (a_51_7 : Int) (a_51_8 : Int) (l_42_0 : List R25) (l_42_1 : List R124) (a_46_2 : Int) (a_46_3 : Bool) (l_42_4 : List R48) (a_53 : Int), journal_New.rel l_21_0 l_21_1 a_25_2 a_25_3 l_21_4 l0 2 (IntKind.i64.wrap ((IntKind.i64.wrap (Int.tmod a1 9)) + 1)) (IntKind.u64.wrap x_32) 0 (List.replicate 32 (0 : Int)) 1 1099511627776 l_42_0 l_42_1 a_46_2 a_46_3 l_42_4 (some (l_49_1, a_51_2, a_51_3, a_51_4, a_51_5, l_49_6, a_51_7, a_51_8)) a_53 ∧ (∃ k_ : Nat, reliquarylaw13_JournalRing.L1 a1 l3 k_ l_42_0 l_42_1 l_42_4 a_46_2 a_46_3 l_49_1 a_51_2 a_51_3 a_51_4 a_51_5 l_49_6 a_51_7 a_51_8 false x_32 0)))))))
set_option maxHeartbeats 4000000 in
set_option maxRecDepth 100000 in
theorem reliquarylaw13_JournalRing.calls (w : World) (l0 : List Int) (a1 : Int) (a2 : Int) (l3 : List Int) (A3 : Option Addr) (n3 : Nat) (c3 : Nat)  (hG0 : Src w (some ⟨0, 0, none⟩) (iv .u32 tab0)) (hG1 : Src w (some ⟨1, 0, none⟩) (iv .i64 tab1)) (hl0 : l0.length = 32) (hs3 : Src w A3 (iv .u8 l3)) (hn3 : n3 = l3.length) (hc3 : n3 ≤ c3)  (H : reliquarylaw13_JournalRing.rel l0 a1 a2 l3 ) :
  Calls Tryd.prog 4 #[.agg (iv .u8 l0).toArray, .int .u8 a1, .int .u8 a2, .slice A3 n3 c3] w fun e w' => e = .returned (.bool true) ∧ Below w.heap.size w w' := by
 refine CW.enter Tryd.func4 rfl (n := 175) rfl [.agg (iv .u8 l0).toArray, .int .u8 a1, .int .u8 a2, .slice A3 n3 c3] (Nat.le_of_ble_eq_true rfl) ?_
 refine CW.sub [(0, .agg (iv .u8 l0).toArray), (1, .int .u8 a1), (2, .int .u8 a2), (3, .slice A3 n3 c3)] ⟨rfl, rfl, rfl, rfl, trivial⟩ ?_
 obtain ⟨T, R, hT, hR, st0⟩ := St.start w
 refine CW.seq (CW.region ?_)
 refine WL.box st0 rfl rfl ?_
 intro B_1 w_2 st_3
 replace st_3 : St w w_2 (.cells B_1 (iv .u8 l0) 23 :: (T ++ R)) := st_3
 refine WL.val Wanted.none (Runs.assign rfl) ?_
 refine WL.nil (QW.then_n ?_)
 refine CW.seq (CW.region ?_)
 obtain ⟨hr_5, H⟩ := H
 refine WL.call Wanted.none ent8 rfl (reliquarylaw13_awake.calls w_2 (hG0.ext st_3) (hG1.ext st_3) hr_5) ?_
 rintro _ w_6 ⟨rfl, sc_8⟩
 have st_7 : St w w_6 (.cells B_1 (iv .u8 l0) 23 :: (T ++ R)) := st_3.below sc_8
 refine ⟨_, rfl, ?_⟩
 refine WL.val Wanted.none (Runs.assign rfl) ?_
 refine WL.nil (QW.then_n ?_)
 refine CW.seq ?_
 refine CW.seq (CW.region ?_)
 refine WL.val Wanted.none (Runs.move rfl) ?_
 refine WL.val Wanted.none (Runs.not rfl rfl) ?_
 refine WL.nil (QW.then_n ?_)
 refine CW.cf rfl rfl ?_
 refine CW.skip ?_
 refine QW.then_n ?_
 refine CW.seq (CW.region ?_)
 refine WL.val Wanted.none (Runs.move rfl) ?_
 refine WL.val Wanted.none (Runs.rem rfl rfl (by decide) rfl) ?_
 refine WL.val Wanted.none (Runs.conv Tryd.underlying3 ⟨_, Tryd.underlying5⟩ rfl rfl) ?_
 refine WL.val Wanted.none (Runs.add rfl rfl rfl) ?_
 refine WL.val Wanted.none (Runs.assign rfl) ?_
 refine WL.nil (QW.then_n ?_)
 refine CW.sub [(2, .int .u8 a2), (3, .slice A3 n3 c3), (4, .pointer (some ⟨B_1, 0, none⟩)), (8, .bool false), (10, .int .i64 (IntKind.i64.wrap ((IntKind.i64.wrap (Int.tmod a1 9)) + 1)))] ⟨rfl, rfl, rfl, rfl, rfl, trivial⟩ ?_
 refine CW.seq (CW.region ?_)
 refine WL.val Wanted.none (Runs.move rfl) ?_
 obtain ⟨x_9, e_10, H⟩ := H
 refine WL.val Wanted.none (Runs.add rfl rfl e_10) ?_
 have st_11 : St w w_6 ((T ++ (.cells B_1 (iv .u8 l0) 23 :: R))) := St.hide (A := []) (B := [_]) (T := T) (R := R) st_7
 obtain ⟨l_21_0, l_21_1, a_25_2, a_25_3, l_21_4, a_27, hr_12, H⟩ := H
 refine WL.call Wanted.none ent11 rfl (disk_New.calls_obj w w_6 T (.cells B_1 (iv .u8 l0) 23 :: R) x_9  st_11 l_21_0 l_21_1 a_25_2 a_25_3 l_21_4 a_27 (some (l_21_0, l_21_1, a_25_2, a_25_3, l_21_4)) rfl hr_12) ?_
 rintro _ w_28 ⟨T_14, b_17, A_18_0, n_19_0, c_20_0, x_22_0, A_18_1, n_19_1, c_20_1, x_22_1, A_18_4, n_19_4, c_20_4, x_22_4, hs_15, hn_23_0, hx_24_0, hn_23_1, hx_24_1, hn_23_4, hx_24_4, rfl, sc_30⟩
 have st_29 : St w w_28 (.cells b_17 (([.slice A_18_0 n_19_0 c_20_0] : Cs) ++ (([.slice A_18_1 n_19_1 c_20_1] : Cs) ++ (([.int .i64 a_25_2] : Cs) ++ (([.bool a_25_3] : Cs) ++ ([.slice A_18_4 n_19_4 c_20_4] : Cs))))) 95 :: .sl A_18_0 c_20_0 n_19_0 x_22_0 25 1 :: .sl A_18_1 c_20_1 n_19_1 x_22_1 124 2 :: .sl A_18_4 c_20_4 n_19_4 x_22_4 48 2 :: .cells B_1 (iv .u8 l0) 23 :: (T_14 ++ R)) := St.unhide (A := [_, _, _, _]) (B := [_]) (T := T_14) (R := R) sc_30
 refine ⟨_, rfl, ?_⟩
 refine WL.val Wanted.none (Runs.move rfl) ?_
 refine WL.val Wanted.none (Runs.extract rfl rfl) ?_
 refine WL.val Wanted.none (Runs.extract rfl rfl) ?_
 refine WL.val Wanted.none (Runs.assign rfl) ?_
 refine WL.val Wanted.none (Runs.assign rfl) ?_
 refine WL.nil (QW.then_n ?_)
 refine CW.sub [(2, .int .u8 a2), (3, .slice A3 n3 c3), (4, .pointer (some ⟨B_1, 0, none⟩)), (8, .bool false), (10, .int .i64 (IntKind.i64.wrap ((IntKind.i64.wrap (Int.tmod a1 9)) + 1))), (11, .pointer (some ⟨b_17, 0, none⟩))] (by repeat' constructor) ?_
 refine CW.seq (CW.region ?_)
 refine WL.val Wanted.none (Runs.move rfl) ?_
 refine WL.val Wanted.none (Runs.conv Tryd.underlying3 ⟨_, Tryd.underlying5⟩ rfl rfl) ?_
 refine WL.val Wanted.none (Runs.move rfl) ?_
 obtain ⟨z_31, H⟩ := H
 obtain ⟨x_32, e_33, H⟩ := H
 refine WL.val Wanted.none (Runs.rem rfl rfl z_31 e_33) ?_
 refine WL.val Wanted.none (Runs.assign rfl) ?_
 refine WL.nil (QW.then_n ?_)
 refine CW.seq (CW.region ?_)
 refine WL.val Wanted.none (Runs.move rfl) ?_
 refine WL.val Wanted.none (Runs.load_arr arr23 rfl (st_29.blk (i := 4) rfl) hl0) ?_
 refine WL.val Wanted.none (Runs.move rfl) ?_
 refine WL.val Wanted.none (Runs.move rfl) ?_
 refine WL.val Wanted.none (Runs.conv Tryd.underlying37 ⟨_, Tryd.underlying3⟩ rfl rfl) ?_
 refine WL.val Wanted.none (Runs.build_struct (ps := [(0, 1), (1, 1), (2, 32)]) (cs := (([.int .u64 (IntKind.u64.wrap x_32)] : Cs) ++ (([.int .u64 0] : Cs) ++ iv .u8 (List.replicate 32 (0 : Int))))) plc39 zero39 rfl (by refine Fills.cons (o := 0) (ms := (([.int .u64 (IntKind.u64.wrap x_32)] : Cs))) (show _ = some (0, (([.int .u64 (IntKind.u64.wrap x_32)] : Cs)).length) by rw [show (([.int .u64 (IntKind.u64.wrap x_32)] : Cs)).length = 1 from (by first | rfl | simp only [List.length_append, List.length_cons, List.length_nil, iv_length])] <;> rfl) rfl (by have h1_ : (([.int .u64 (IntKind.u64.wrap x_32)] : Cs)).length = 1 := (by first | rfl | simp only [List.length_append, List.length_cons, List.length_nil, iv_length]); have h2_ : (([.int .u64 0] : Cs) ++ (([.int .u64 0] : Cs) ++ iv .u8 (List.replicate 32 (0 : Int)))).length = 34 := (by first | rfl | simp only [List.length_append, List.length_cons, List.length_nil, iv_length, List.length_replicate]); ((try clear H); omega)) ?_; rw [show layV (([.int .u64 0] : Cs) ++ (([.int .u64 0] : Cs) ++ iv .u8 (List.replicate 32 (0 : Int)))) 0 (([.int .u64 (IntKind.u64.wrap x_32)] : Cs)) = (([.int .u64 (IntKind.u64.wrap x_32)] : Cs) ++ (([.int .u64 0] : Cs) ++ iv .u8 (List.replicate 32 (0 : Int)))) from (layV_mid (pre := (([] : Cs))) (mid := (([.int .u64 0] : Cs))) (post := (([.int .u64 0] : Cs) ++ iv .u8 (List.replicate 32 (0 : Int)))) (by first | rfl | simp only [List.append_assoc, List.append_nil, List.nil_append, List.cons_append]) (by first | rfl | simp only [List.length_append, List.length_cons, List.length_nil, iv_length]) (Eq.trans (b := 1) (by first | rfl | simp only [List.length_append, List.length_cons, List.length_nil, iv_length]) (Eq.symm (by first | rfl | simp only [List.length_append, List.length_cons, List.length_nil, iv_length])))).trans (by first | rfl | simp only [List.append_assoc, List.append_nil, List.nil_append, List.cons_append])]; exact Fills.nil)) ?_
 have st_34 : St w w_28 (.cells b_17 (([.slice A_18_0 n_19_0 c_20_0] : Cs) ++ (([.slice A_18_1 n_19_1 c_20_1] : Cs) ++ (([.int .i64 a_25_2] : Cs) ++ (([.bool a_25_3] : Cs) ++ ([.slice A_18_4 n_19_4 c_20_4] : Cs))))) 95 :: .sl A_18_0 c_20_0 n_19_0 x_22_0 25 1 :: .sl A_18_1 c_20_1 n_19_1 x_22_1 124 2 :: .sl A_18_4 c_20_4 n_19_4 x_22_4 48 2 :: (T_14 ++ (.cells B_1 (iv .u8 l0) 23 :: R))) := St.hide (A := [_, _, _, _]) (B := [_]) (T := T_14) (R := R) st_29
 obtain ⟨l_49_1, a_51_2, a_51_3, a_51_4, a_51_5, l_49_6, a_51_7, a_51_8, l_42_0, l_42_1, a_46_2, a_46_3, l_42_4, a_53, hr_35, H⟩ := H
 refine WL.call Wanted.none ent12 rfl (journal_New.calls_obj w w_28 T_14 (.cells B_1 (iv .u8 l0) 23 :: R) l_21_0 l_21_1 a_25_2 a_25_3 l_21_4 l0 2 (IntKind.i64.wrap ((IntKind.i64.wrap (Int.tmod a1 9)) + 1)) (IntKind.u64.wrap x_32) 0 (List.replicate 32 (0 : Int)) 1 1099511627776 b_17 A_18_0 n_19_0 c_20_0 x_22_0 A_18_1 n_19_1 c_20_1 x_22_1 A_18_4 n_19_4 c_20_4 x_22_4  st_34 (hn_23_0) hx_24_0 (hn_23_1) hx_24_1 (hn_23_4) hx_24_4 hl0 (List.length_replicate ..) l_42_0 l_42_1 a_46_2 a_46_3 l_42_4 l_49_1 a_51_2 a_51_3 a_51_4 a_51_5 l_49_6 a_51_7 a_51_8 a_53 (some (l_49_1, a_51_2, a_51_3, a_51_4, a_51_5, l_49_6, a_51_7, a_51_8)) rfl hr_35) ?_
 rintro _ w_54 ⟨T_37, A_39_0, n_40_0, c_41_0, x_43_0, A_39_1, n_40_1, c_41_1, x_43_1, A_39_4, n_40_4, c_41_4, x_43_4, b_48, hs_38, hn_44_0, hx_45_0, hn_44_1, hx_45_1, hn_44_4, hx_45_4, hl_50_1, hl_50_6, rfl, sc_56⟩
 have st_55 : St w w_54 (.cells b_17 (([.slice A_39_0 n_40_0 c_41_0] : Cs) ++ (([.slice A_39_1 n_40_1 c_41_1] : Cs) ++ (([.int .i64 a_46_2] : Cs) ++ (([.bool a_46_3] : Cs) ++ ([.slice A_39_4 n_40_4 c_41_4] : Cs))))) 95 :: .sl A_39_0 c_41_0 n_40_0 x_43_0 25 1 :: .sl A_39_1 c_41_1 n_40_1 x_43_1 124 2 :: .sl A_39_4 c_41_4 n_40_4 x_43_4 48 2 :: .cells b_48 (([.pointer (some ⟨b_17, 0, none⟩)] : Cs) ++ (iv .u8 l_49_1 ++ (([.int .i64 a_51_2] : Cs) ++ (([.int .u64 a_51_3] : Cs) ++ (([.int .u64 a_51_4] : Cs) ++ (([.int .u64 a_51_5] : Cs) ++ (iv .u8 l_49_6 ++ (([.int .u64 a_51_7] : Cs) ++ ([.int .u64 a_51_8] : Cs))))))))) 98 :: .cells B_1 (iv .u8 l0) 23 :: (T_37 ++ R)) := St.unhide (A := [_, _, _, _, _]) (B := [_]) (T := T_37) (R := R) sc_56
 refine ⟨_, rfl, ?_⟩
 refine WL.val Wanted.none (Runs.move rfl) ?_
 refine WL.val Wanted.none (Runs.extract rfl rfl) ?_
 refine WL.val Wanted.none (Runs.extract rfl rfl) ?_
 refine WL.val Wanted.none (Runs.assign rfl) ?_
 refine WL.val Wanted.none (Runs.assign rfl) ?_
 refine WL.nil (QW.then_n ?_)
 refine CW.sub [(3, .slice A3 n3 c3), (8, .bool false), (10, .int .i64 (IntKind.i64.wrap ((IntKind.i64.wrap (Int.tmod a1 9)) + 1))), (11, .pointer (some ⟨b_17, 0, none⟩)), (13, .int .i64 x_32), (14, .pointer (some ⟨b_48, 0, none⟩)), (15, .int .i64 0)] (by repeat' constructor) ?_
 refine CW.seq ?_
 refine CW.seq (CW.region ?_)
 refine WL.val Wanted.none (Runs.move rfl) ?_
 refine WL.val Wanted.none (Runs.neq (b := false) rfl rfl (by decide)) ?_
 refine WL.nil (QW.then_n ?_)
 refine CW.cf rfl rfl ?_
 refine CW.skip ?_
 refine QW.then_n ?_
 refine CW.seq ?_
 refine CW.seq (CW.region ?_)
 refine WL.val Wanted.none (Runs.assign rfl) ?_
 refine WL.nil (QW.then_n ?_)
 refine CW.block ?_
 obtain ⟨k_57, H⟩ := H
 refine CW.sub [(3, .slice A3 n3 c3), (8, .bool false), (10, .int .i64 (IntKind.i64.wrap ((IntKind.i64.wrap (Int.tmod a1 9)) + 1))), (11, .pointer (some ⟨b_17, 0, none⟩)), (13, .int .i64 x_32), (14, .pointer (some ⟨b_48, 0, none⟩)), (16, .int .i64 0)] (by repeat' constructor) ?_
 refine CW.loop (fun kL1 l_ w_ => ∃ (T_58 : Pool) (A_64 : Option Addr) (c_65 : Nat) (n_66 : Nat) (x_62 : Cs) (l_60 : List R25) (A_71 : Option Addr) (c_72 : Nat) (n_73 : Nat) (x_69 : Cs) (l_67 : List R124) (A_78 : Option Addr) (c_79 : Nat) (n_80 : Nat) (x_76 : Cs) (l_74 : List R48) (x_81 : Int) (b_82 : Bool) (m_83 : List Int) (x_85 : Int) (x_86 : Int) (x_87 : Int) (x_88 : Int) (m_89 : List Int) (x_91 : Int) (x_92 : Int) (b_93 : Bool) (x_94 : Int) (x_95 : Int), l_ = [(3, .slice A3 n3 c3), (8, .bool b_93), (10, .int .i64 (IntKind.i64.wrap ((IntKind.i64.wrap (Int.tmod a1 9)) + 1))), (11, .pointer (some ⟨b_17, 0, none⟩)), (13, .int .i64 x_94), (14, .pointer (some ⟨b_48, 0, none⟩)), (16, .int .i64 x_95)] ∧ reliquarylaw13_JournalRing.L1 a1 l3 kL1 l_60 l_67 l_74 x_81 b_82 m_83 x_85 x_86 x_87 x_88 m_89 x_91 x_92 b_93 x_94 x_95 ∧ (Pl T_37 T_58) ∧ (n_66 = l_60.length) ∧ (HRs T_58 (f25 w) x_62 l_60) ∧ (n_73 = l_67.length) ∧ (HRs T_58 (f124 w) x_69 l_67) ∧ (n_80 = l_74.length) ∧ (HRs T_58 (f48 w) x_76 l_74) ∧ (m_83.length = 32) ∧ (m_89.length = 32) ∧ St w w_ (.cells b_17 (([.slice A_64 n_66 c_65] : Cs) ++ (([.slice A_71 n_73 c_72] : Cs) ++ (([.int .i64 x_81] : Cs) ++ (([.bool b_82] : Cs) ++ ([.slice A_78 n_80 c_79] : Cs))))) 95 :: .sl A_64 c_65 n_66 x_62 25 1 :: .sl A_71 c_72 n_73 x_69 124 2 :: .sl A_78 c_79 n_80 x_76 48 2 :: .cells b_48 (([.pointer (some ⟨b_17, 0, none⟩)] : Cs) ++ (iv .u8 m_83 ++ (([.int .i64 x_85] : Cs) ++ (([.int .u64 x_86] : Cs) ++ (([.int .u64 x_87] : Cs) ++ (([.int .u64 x_88] : Cs) ++ (iv .u8 m_89 ++ (([.int .u64 x_91] : Cs) ++ ([.int .u64 x_92] : Cs))))))))) 98 :: .cells B_1 (iv .u8 l0) 23 :: (T_58 ++ R))) (k := k_57) ⟨T_37, A_39_0, c_41_0, n_40_0, x_43_0, l_42_0, A_39_1, c_41_1, n_40_1, x_43_1, l_42_1, A_39_4, c_41_4, n_40_4, x_43_4, l_42_4, a_46_2, a_46_3, l_49_1, a_51_2, a_51_3, a_51_4, a_51_5, l_49_6, a_51_7, a_51_8, false, x_32, 0, rfl, H, Pl.refl, hn_44_0, hx_45_0, hn_44_1, hx_45_1, hn_44_4, hx_45_4, hl_50_1, hl_50_6, st_55⟩ (fun _ _ h => by obtain ⟨_, _, _, _, _, _, _, _, _, _, _, _, _, _, _, _, _, _, _, _, _, _, _, _, _, _, _, _, _, _, h, _⟩ := h; exact h.elim) ?_
 rintro kL1 l_98 w_96 ⟨T_58, A_64, c_65, n_66, x_62, l_60, A_71, c_72, n_73, x_69, l_67, A_78, c_79, n_80, x_76, l_74, x_81, b_82, m_83, x_85, x_86, x_87, x_88, m_89, x_91, x_92, b_93, x_94, x_95, rfl, H, hs_59, hn_61, hx_63, hn_68, hx_70, hn_75, hx_77, hl_84, hl_90, st_97⟩
 refine CW.seq ?_
 refine CW.seq (CW.region ?_)
 refine WL.val Wanted.none (Runs.move rfl) ?_
 refine WL.val Wanted.none (Runs.move rfl) ?_
 refine WL.val Wanted.none (Runs.len_sl Tryd.underlying25 rfl (by rw [hn3])) ?_
 refine WL.val Wanted.none (Runs.lss rfl rfl rfl) ?_
 refine WL.val Wanted.none (Runs.move rfl) ?_
 rcases H with ⟨c_99, H⟩ | ⟨c_99, H⟩
 ·have h_100 : (decide (x_95 < (l3.length : Int))) = true := (decide_eq_true c_99)
  refine WL.on ?_ ?_; exact Wanted.guard (dj := 58) (by rfl) (evb (by rfl) h_100) (by rfl)
  refine WL.val Wanted.none (Runs.move rfl) ?_
  refine WL.on ?_ ?_; exact Wanted.guard (dj := 58) (by rfl) (evb (by rfl) h_100) (by rfl)
  refine WL.val Wanted.none (Runs.lss rfl rfl rfl) ?_
  refine WL.val Wanted.none (Runs.pick_t (evb rfl h_100) rfl) ?_
  refine WL.nil (QW.then_n ?_)
  rcases H with ⟨c_101, H⟩ | ⟨c_101, H⟩
  ·have h_102 : (decide (x_95 < 10)) = true := (decide_eq_true c_101)
   refine CW.ct rfl h_102 ?_
   refine CW.skip ?_
   refine QW.then_n ?_
   refine CW.seq ?_
   refine CW.block ?_
   refine CW.seq (CW.region ?_)
   refine WL.val Wanted.none (Runs.move rfl) ?_
   refine WL.val Wanted.none (Runs.move rfl) ?_
   obtain ⟨⟨p_103, q_104⟩, H⟩ := H
   obtain ⟨a_105, e_106⟩ := (hs3.ext st_97).addr_iv (x_95.toNat) (by ((try clear H); omega))
   refine WL.val Wanted.none (Runs.indexAddr Tryd.underlying25 cells5 (by decide) rfl e_106 rfl p_103 (by rw [hn3]; exact q_104) (o := (x_95).toNat) (by first | rfl | ((try clear H); omega))) ?_
   refine WL.val Wanted.none (Runs.load nagg5 rfl ((hs3.ext st_97).cell_iv e_106 (by ((try clear H); omega)))) ?_
   refine WL.val Wanted.none (Runs.conv Tryd.underlying3 ⟨_, Tryd.underlying5⟩ rfl rfl) ?_
   refine WL.val Wanted.none (Runs.move rfl) ?_
   obtain ⟨z_107, H⟩ := H
   obtain ⟨x_108, e_109, H⟩ := H
   refine WL.val Wanted.none (Runs.rem rfl rfl z_107 e_109) ?_
   refine WL.val Wanted.none (Runs.add rfl rfl rfl) ?_
   refine WL.val Wanted.none (Runs.assign rfl) ?_
   refine WL.nil (QW.then_n ?_)
   refine CW.seq (CW.region ?_)
   refine WL.val Wanted.none (Runs.assign rfl) ?_
   refine WL.nil (QW.then_n ?_)
   refine CW.seq ?_
   refine CW.seq (CW.region ?_)
   refine WL.val Wanted.none (Runs.assign rfl) ?_
   refine WL.nil (QW.then_n ?_)
   refine CW.block ?_
   have st_111 := st_97.nil_sl 42 2
   have st_111 : St w w_96 (.sl none 0 0 ([] : Cs) 42 2 :: .cells b_17 (([.slice A_64 n_66 c_65] : Cs) ++ (([.slice A_71 n_73 c_72] : Cs) ++ (([.int .i64 x_81] : Cs) ++ (([.bool b_82] : Cs) ++ ([.slice A_78 n_80 c_79] : Cs))))) 95 :: .sl A_64 c_65 n_66 x_62 25 1 :: .sl A_71 c_72 n_73 x_69 124 2 :: .sl A_78 c_79 n_80 x_76 48 2 :: .cells b_48 (([.pointer (some ⟨b_17, 0, none⟩)] : Cs) ++ (iv .u8 m_83 ++ (([.int .i64 x_85] : Cs) ++ (([.int .u64 x_86] : Cs) ++ (([.int .u64 x_87] : Cs) ++ (([.int .u64 x_88] : Cs) ++ (iv .u8 m_89 ++ (([.int .u64 x_91] : Cs) ++ ([.int .u64 x_92] : Cs))))))))) 98 :: .cells B_1 (iv .u8 l0) 23 :: (T_58 ++ R)) := st_111
   obtain ⟨k_112, H⟩ := H
   refine CW.sub [(3, .slice A3 n3 c3), (8, .bool b_93), (10, .int .i64 (IntKind.i64.wrap ((IntKind.i64.wrap (Int.tmod a1 9)) + 1))), (11, .pointer (some ⟨b_17, 0, none⟩)), (13, .int .i64 x_94), (14, .pointer (some ⟨b_48, 0, none⟩)), (16, .int .i64 x_95), (54, .int .i64 x_95), (55, .slice A3 n3 c3), (56, .int .i64 (l3.length : Int)), (57, .bool (decide (x_95 < (l3.length : Int)))), (58, .bool (decide (x_95 < (l3.length : Int)))), (59, .int .i64 x_95), (60, .bool (decide (x_95 < 10))), (61, .bool (decide (x_95 < 10))), (64, .slice A3 n3 c3), (65, .int .i64 x_95), (66, .pointer (some (a_105.add (x_95.toNat)))), (67, .int .u8 (gn l3 (x_95.toNat))), (68, .int .i64 (IntKind.i64.wrap (gn l3 (x_95.toNat)))), (69, .int .i64 (IntKind.i64.wrap ((IntKind.i64.wrap (Int.tmod a1 9)) + 1))), (70, .int .i64 x_108), (71, .int .i64 (IntKind.i64.wrap (x_108 + 1))), (17, .int .i64 (IntKind.i64.wrap (x_108 + 1))), (18, .slice none 0 0), (19, .int .i64 0)] (by repeat' constructor) ?_
   refine CW.loop (fun kL2 l_ w_ => ∃ (T_113 : Pool) (A_119 : Option Addr) (c_120 : Nat) (n_121 : Nat) (x_117 : Cs) (l_115 : List R42) (x_122 : Int), l_ = [(3, .slice A3 n3 c3), (8, .bool b_93), (10, .int .i64 (IntKind.i64.wrap ((IntKind.i64.wrap (Int.tmod a1 9)) + 1))), (11, .pointer (some ⟨b_17, 0, none⟩)), (13, .int .i64 x_94), (14, .pointer (some ⟨b_48, 0, none⟩)), (16, .int .i64 x_95), (54, .int .i64 x_95), (55, .slice A3 n3 c3), (56, .int .i64 (l3.length : Int)), (57, .bool (decide (x_95 < (l3.length : Int)))), (58, .bool (decide (x_95 < (l3.length : Int)))), (59, .int .i64 x_95), (60, .bool (decide (x_95 < 10))), (61, .bool (decide (x_95 < 10))), (64, .slice A3 n3 c3), (65, .int .i64 x_95), (66, .pointer (some (a_105.add (x_95.toNat)))), (67, .int .u8 (gn l3 (x_95.toNat))), (68, .int .i64 (IntKind.i64.wrap (gn l3 (x_95.toNat)))), (69, .int .i64 (IntKind.i64.wrap ((IntKind.i64.wrap (Int.tmod a1 9)) + 1))), (70, .int .i64 x_108), (71, .int .i64 (IntKind.i64.wrap (x_108 + 1))), (17, .int .i64 (IntKind.i64.wrap (x_108 + 1))), (18, .slice A_119 n_121 c_120), (19, .int .i64 x_122)] ∧ reliquarylaw13_JournalRing.L2 a1 l_60 l_67 l_74 x_81 b_82 m_83 x_85 x_86 x_87 x_88 m_89 x_91 x_92 b_93 x_94 x_95 x_108 (reliquarylaw13_JournalRing.L1 a1 l3 kL1) kL2 l_115 x_122 ∧ (Pl T_58 T_113) ∧ (n_121 = l_115.length) ∧ (HRs T_113 (f42 w) x_117 l_115) ∧ St w w_ (.sl A_119 c_120 n_121 x_117 42 2 :: .cells b_17 (([.slice A_64 n_66 c_65] : Cs) ++ (([.slice A_71 n_73 c_72] : Cs) ++ (([.int .i64 x_81] : Cs) ++ (([.bool b_82] : Cs) ++ ([.slice A_78 n_80 c_79] : Cs))))) 95 :: .sl A_64 c_65 n_66 x_62 25 1 :: .sl A_71 c_72 n_73 x_69 124 2 :: .sl A_78 c_79 n_80 x_76 48 2 :: .cells b_48 (([.pointer (some ⟨b_17, 0, none⟩)] : Cs) ++ (iv .u8 m_83 ++ (([.int .i64 x_85] : Cs) ++ (([.int .u64 x_86] : Cs) ++ (([.int .u64 x_87] : Cs) ++ (([.int .u64 x_88] : Cs) ++ (iv .u8 m_89 ++ (([.int .u64 x_91] : Cs) ++ ([.int .u64 x_92] : Cs))))))))) 98 :: .cells B_1 (iv .u8 l0) 23 :: (T_113 ++ R))) (k := k_112) ⟨T_58, none, 0, 0, ([] : Cs), ([] : List R42), 0, rfl, H, Pl.refl, rfl, (HRs.nil : HRs T_58 (f42 w) [] []), st_111⟩ (fun _ _ h => by obtain ⟨_, _, _, _, _, _, _, _, h, _⟩ := h; exact h.elim) ?_
   rintro kL2 l_125 w_123 ⟨T_113, A_119, c_120, n_121, x_117, l_115, x_122, rfl, H, hs_114, hn_116, hx_118, st_124⟩
   refine CW.seq ?_
   refine CW.seq (CW.region ?_)
   refine WL.val Wanted.none (Runs.move rfl) ?_
   refine WL.val Wanted.none (Runs.move rfl) ?_
   refine WL.val Wanted.none (Runs.lss rfl rfl rfl) ?_
   refine WL.nil (QW.then_n ?_)
   rcases H with ⟨c_126, H⟩ | ⟨c_126, H⟩
   ·have h_127 : (decide (x_122 < (IntKind.i64.wrap (x_108 + 1)))) = true := (decide_eq_true c_126)
    refine CW.ct rfl h_127 ?_
    refine CW.skip ?_
    refine QW.then_n ?_
    refine CW.seq ?_
    refine CW.block ?_
    refine CW.region ?_
    refine WL.val Wanted.none (Runs.move rfl) ?_
    refine WL.val Wanted.none (Runs.move rfl) ?_
    refine WL.val Wanted.none (Runs.conv Tryd.underlying37 ⟨_, Tryd.underlying3⟩ rfl rfl) ?_
    refine WL.make st_124 Tryd.underlying25 elem5 rfl rfl (by decide) (by decide) (by decide) (N := 160) rfl ?_
    intro B_128 w_129 st_130
    replace st_130 : St w w_129 (.sl (some ⟨B_128, 0, none⟩) 160 160 (iv .u8 (List.replicate 160 (0 : Int))) 5 1 :: .sl A_119 c_120 n_121 x_117 42 2 :: .cells b_17 (([.slice A_64 n_66 c_65] : Cs) ++ (([.slice A_71 n_73 c_72] : Cs) ++ (([.int .i64 x_81] : Cs) ++ (([.bool b_82] : Cs) ++ ([.slice A_78 n_80 c_79] : Cs))))) 95 :: .sl A_64 c_65 n_66 x_62 25 1 :: .sl A_71 c_72 n_73 x_69 124 2 :: .sl A_78 c_79 n_80 x_76 48 2 :: .cells b_48 (([.pointer (some ⟨b_17, 0, none⟩)] : Cs) ++ (iv .u8 m_83 ++ (([.int .i64 x_85] : Cs) ++ (([.int .u64 x_86] : Cs) ++ (([.int .u64 x_87] : Cs) ++ (([.int .u64 x_88] : Cs) ++ (iv .u8 m_89 ++ (([.int .u64 x_91] : Cs) ++ ([.int .u64 x_92] : Cs))))))))) 98 :: .cells B_1 (iv .u8 l0) 23 :: (T_113 ++ R)) := by rw [iv_replicate] at st_130; exact st_130
    have hn_131 : 160 = (List.replicate 160 (0 : Int)).length := by simp
    refine WL.val Wanted.none (Runs.build_struct (ps := [(0, 1), (1, 1)]) (cs := (([.int .u64 (IntKind.u64.wrap x_122)] : Cs) ++ ([.slice (some ⟨B_128, 0, none⟩) 160 160] : Cs))) plc42 zero42 rfl (by refine Fills.cons (o := 0) (ms := (([.int .u64 (IntKind.u64.wrap x_122)] : Cs))) (show _ = some (0, (([.int .u64 (IntKind.u64.wrap x_122)] : Cs)).length) by rw [show (([.int .u64 (IntKind.u64.wrap x_122)] : Cs)).length = 1 from (by first | rfl | simp only [List.length_append, List.length_cons, List.length_nil, iv_length])] <;> rfl) rfl (by have h1_ : (([.int .u64 (IntKind.u64.wrap x_122)] : Cs)).length = 1 := (by first | rfl | simp only [List.length_append, List.length_cons, List.length_nil, iv_length]); have h2_ : (([.int .u64 0] : Cs) ++ ([.slice none 0 0] : Cs)).length = 2 := (by first | rfl | simp only [List.length_append, List.length_cons, List.length_nil, iv_length]); ((try clear H); omega)) ?_; rw [show layV (([.int .u64 0] : Cs) ++ ([.slice none 0 0] : Cs)) 0 (([.int .u64 (IntKind.u64.wrap x_122)] : Cs)) = (([.int .u64 (IntKind.u64.wrap x_122)] : Cs) ++ ([.slice none 0 0] : Cs)) from (layV_mid (pre := (([] : Cs))) (mid := (([.int .u64 0] : Cs))) (post := (([.slice none 0 0] : Cs))) (by first | rfl | simp only [List.append_assoc, List.append_nil, List.nil_append, List.cons_append]) (by first | rfl | simp only [List.length_append, List.length_cons, List.length_nil, iv_length]) (Eq.trans (b := 1) (by first | rfl | simp only [List.length_append, List.length_cons, List.length_nil, iv_length]) (Eq.symm (by first | rfl | simp only [List.length_append, List.length_cons, List.length_nil, iv_length])))).trans (by first | rfl | simp only [List.append_assoc, List.append_nil, List.nil_append, List.cons_append])]; refine Fills.cons (o := 1) (ms := (([.slice (some ⟨B_128, 0, none⟩) 160 160] : Cs))) (show _ = some (1, (([.slice (some ⟨B_128, 0, none⟩) 160 160] : Cs)).length) by rw [show (([.slice (some ⟨B_128, 0, none⟩) 160 160] : Cs)).length = 1 from (by first | rfl | simp only [List.length_append, List.length_cons, List.length_nil, iv_length])] <;> rfl) rfl (by have h1_ : (([.slice (some ⟨B_128, 0, none⟩) 160 160] : Cs)).length = 1 := (by first | rfl | simp only [List.length_append, List.length_cons, List.length_nil, iv_length]); have h2_ : (([.int .u64 (IntKind.u64.wrap x_122)] : Cs) ++ ([.slice none 0 0] : Cs)).length = 2 := (by first | rfl | simp only [List.length_append, List.length_cons, List.length_nil, iv_length]); ((try clear H); omega)) ?_; rw [show layV (([.int .u64 (IntKind.u64.wrap x_122)] : Cs) ++ ([.slice none 0 0] : Cs)) 1 (([.slice (some ⟨B_128, 0, none⟩) 160 160] : Cs)) = (([.int .u64 (IntKind.u64.wrap x_122)] : Cs) ++ ([.slice (some ⟨B_128, 0, none⟩) 160 160] : Cs)) from (layV_mid (pre := (([.int .u64 (IntKind.u64.wrap x_122)] : Cs))) (mid := (([.slice none 0 0] : Cs))) (post := (([] : Cs))) (by first | rfl | simp only [List.append_assoc, List.append_nil, List.nil_append, List.cons_append]) (by first | rfl | simp only [List.length_append, List.length_cons, List.length_nil, iv_length]) (Eq.trans (b := 1) (by first | rfl | simp only [List.length_append, List.length_cons, List.length_nil, iv_length]) (Eq.symm (by first | rfl | simp only [List.length_append, List.length_cons, List.length_nil, iv_length])))).trans (by first | rfl | simp only [List.append_assoc, List.append_nil, List.nil_append, List.cons_append])]; exact Fills.nil)) ?_
    have hb_137c := st_130.cap (i := 0) rfl
    obtain ⟨T_133, hs_134, hm_135, st_136⟩ := St.freeze (A := []) (B := [_, _, _, _, _, _, _]) (T := T_113) (R := R) st_130
    have hb_137 : HB w T_133 (some ⟨B_128, 0, none⟩) 160 160 (iv .u8 (List.replicate 160 (0 : Int))) (List.replicate 160 (0 : Int)).length := ⟨hn_131, hb_137c, Hd.of_sl hm_135⟩
    replace st_136 : St w w_129 (.sl A_119 c_120 n_121 x_117 42 2 :: .cells b_17 (([.slice A_64 n_66 c_65] : Cs) ++ (([.slice A_71 n_73 c_72] : Cs) ++ (([.int .i64 x_81] : Cs) ++ (([.bool b_82] : Cs) ++ ([.slice A_78 n_80 c_79] : Cs))))) 95 :: .sl A_64 c_65 n_66 x_62 25 1 :: .sl A_71 c_72 n_73 x_69 124 2 :: .sl A_78 c_79 n_80 x_76 48 2 :: .cells b_48 (([.pointer (some ⟨b_17, 0, none⟩)] : Cs) ++ (iv .u8 m_83 ++ (([.int .i64 x_85] : Cs) ++ (([.int .u64 x_86] : Cs) ++ (([.int .u64 x_87] : Cs) ++ (([.int .u64 x_88] : Cs) ++ (iv .u8 m_89 ++ (([.int .u64 x_91] : Cs) ++ ([.int .u64 x_92] : Cs))))))))) 98 :: .cells B_1 (iv .u8 l0) 23 :: (T_133 ++ R)) := st_136
    obtain ⟨ii_138, z_139, h_140, h_141, h_142, h_143⟩ := slr42_1
    refine WL.buildSlRows (sz := 2) (cs := (([.int .u64 (IntKind.u64.wrap x_122)] : Cs) ++ ([.slice (some ⟨B_128, 0, none⟩) 160 160] : Cs))) st_136 Tryd.underlying40 h_140 h_141 h_142 (by decide) (by decide) h_143 rfl (by refine Fills.cons (o := 0) (ms := (([.int .u64 (IntKind.u64.wrap x_122)] : Cs) ++ ([.slice (some ⟨B_128, 0, none⟩) 160 160] : Cs))) (show _ = some (0, (([.int .u64 (IntKind.u64.wrap x_122)] : Cs) ++ ([.slice (some ⟨B_128, 0, none⟩) 160 160] : Cs)).length) by rw [show (([.int .u64 (IntKind.u64.wrap x_122)] : Cs) ++ ([.slice (some ⟨B_128, 0, none⟩) 160 160] : Cs)).length = 2 from (by first | rfl | simp only [List.length_append, List.length_cons, List.length_nil, iv_length])] <;> rfl) rfl (by have h1_ : (([.int .u64 (IntKind.u64.wrap x_122)] : Cs) ++ ([.slice (some ⟨B_128, 0, none⟩) 160 160] : Cs)).length = 2 := (by first | rfl | simp only [List.length_append, List.length_cons, List.length_nil, iv_length]); have h2_ : (([.int .u64 0] : Cs) ++ ([.slice none 0 0] : Cs)).length = 2 := (by first | rfl | simp only [List.length_append, List.length_cons, List.length_nil, iv_length]); ((try clear H); omega)) ?_; rw [show layV (([.int .u64 0] : Cs) ++ ([.slice none 0 0] : Cs)) 0 (([.int .u64 (IntKind.u64.wrap x_122)] : Cs) ++ ([.slice (some ⟨B_128, 0, none⟩) 160 160] : Cs)) = (([.int .u64 (IntKind.u64.wrap x_122)] : Cs) ++ ([.slice (some ⟨B_128, 0, none⟩) 160 160] : Cs)) from (layV_mid (pre := (([] : Cs))) (mid := (([.int .u64 0] : Cs) ++ ([.slice none 0 0] : Cs))) (post := (([] : Cs))) (by first | rfl | simp only [List.append_assoc, List.append_nil, List.nil_append, List.cons_append]) (by first | rfl | simp only [List.length_append, List.length_cons, List.length_nil, iv_length]) (Eq.trans (b := 2) (by first | rfl | simp only [List.length_append, List.length_cons, List.length_nil, iv_length]) (Eq.symm (by first | rfl | simp only [List.length_append, List.length_cons, List.length_nil, iv_length])))).trans (by first | rfl | simp only [List.append_assoc, List.append_nil, List.nil_append, List.cons_append])]; exact Fills.nil) ?_
    intro B_144 w_145 st_146
    replace st_146 : St w w_145 (.cells B_144 (([.int .u64 (IntKind.u64.wrap x_122)] : Cs) ++ ([.slice (some ⟨B_128, 0, none⟩) 160 160] : Cs)) 42 :: .sl A_119 c_120 n_121 x_117 42 2 :: .cells b_17 (([.slice A_64 n_66 c_65] : Cs) ++ (([.slice A_71 n_73 c_72] : Cs) ++ (([.int .i64 x_81] : Cs) ++ (([.bool b_82] : Cs) ++ ([.slice A_78 n_80 c_79] : Cs))))) 95 :: .sl A_64 c_65 n_66 x_62 25 1 :: .sl A_71 c_72 n_73 x_69 124 2 :: .sl A_78 c_79 n_80 x_76 48 2 :: .cells b_48 (([.pointer (some ⟨b_17, 0, none⟩)] : Cs) ++ (iv .u8 m_83 ++ (([.int .i64 x_85] : Cs) ++ (([.int .u64 x_86] : Cs) ++ (([.int .u64 x_87] : Cs) ++ (([.int .u64 x_88] : Cs) ++ (iv .u8 m_89 ++ (([.int .u64 x_91] : Cs) ++ ([.int .u64 x_92] : Cs))))))))) 98 :: .cells B_1 (iv .u8 l0) 23 :: (T_133 ++ R)) := st_146
    have st_148 := St.rows_sl (i := 0) (m := 1) (size := 2) st_146 rfl rfl (by decide)
    obtain ⟨x_149, e_150⟩ : ∃ x_ : Cs, x_ = ([.int .u64 (IntKind.u64.wrap x_122)] : Cs) ++ ([.slice (some ⟨B_128, 0, none⟩) 160 160] : Cs) := ⟨_, rfl⟩
    have hx_151 : HRs T_133 (f42 w) x_149 ([(IntKind.u64.wrap x_122, List.replicate 160 (0 : Int))] : List R42) := by rw [e_150]; exact (HRs.one (.cons rfl (.cons ⟨_, _, _, rfl, hb_137⟩ .nil)))
    replace st_148 : St w w_145 (.sl (some ⟨B_144, 0, none⟩) 1 1 x_149 42 2 :: .sl A_119 c_120 n_121 x_117 42 2 :: .cells b_17 (([.slice A_64 n_66 c_65] : Cs) ++ (([.slice A_71 n_73 c_72] : Cs) ++ (([.int .i64 x_81] : Cs) ++ (([.bool b_82] : Cs) ++ ([.slice A_78 n_80 c_79] : Cs))))) 95 :: .sl A_64 c_65 n_66 x_62 25 1 :: .sl A_71 c_72 n_73 x_69 124 2 :: .sl A_78 c_79 n_80 x_76 48 2 :: .cells b_48 (([.pointer (some ⟨b_17, 0, none⟩)] : Cs) ++ (iv .u8 m_83 ++ (([.int .i64 x_85] : Cs) ++ (([.int .u64 x_86] : Cs) ++ (([.int .u64 x_87] : Cs) ++ (([.int .u64 x_88] : Cs) ++ (iv .u8 m_89 ++ (([.int .u64 x_91] : Cs) ++ ([.int .u64 x_92] : Cs))))))))) 98 :: .cells B_1 (iv .u8 l0) 23 :: (T_133 ++ R)) := by rw [e_150]; exact st_148
    obtain ⟨m_152, e_153, H⟩ := H
    obtain ⟨z_154, H⟩ := H
    obtain ⟨n_157, hn_160⟩ : ∃ n_ : Nat, n_ = m_152.length := ⟨_, rfl⟩
    refine WL.appendR (i := 1) (N := n_157) (news := x_149) Wanted.none st_148 rfl Tryd.underlying40 elemS42 rfl rfl (st_148.src_sl (k := 0) rfl) (by have h1_ := (hx_151).length (fz42 w); have h2_ : 1 = ([(IntKind.u64.wrap x_122, List.replicate 160 (0 : Int))] : List R42).length := rfl; rw [h1_, h2_]) (HLs.one hx_151) (by decide) (by have h1_ : n_121 = l_115.length := hn_116; have h2_ : 1 = ([(IntKind.u64.wrap x_122, List.replicate 160 (0 : Int))] : List R42).length := rfl; rw [hn_160, e_153, List.length_append]; ((try clear H); omega)) (by rw [hn_160]; exact z_154) ?_
    intro A_155 c_156 w_158 st_159
    obtain ⟨x_161, e_162⟩ : ∃ x_ : Cs, x_ = x_117 ++ x_149 := ⟨_, rfl⟩
    have hx_163 : HRs T_133 (f42 w) x_161 m_152 := by rw [e_162, e_153]; exact HRs.append (hx_118.mono (fun _ h_ => hs_134.1 _ h_)) hx_151
    replace st_159 : St w w_158 (.sl (some ⟨B_144, 0, none⟩) 1 1 x_149 42 2 :: .sl A_155 c_156 n_157 x_161 42 2 :: .cells b_17 (([.slice A_64 n_66 c_65] : Cs) ++ (([.slice A_71 n_73 c_72] : Cs) ++ (([.int .i64 x_81] : Cs) ++ (([.bool b_82] : Cs) ++ ([.slice A_78 n_80 c_79] : Cs))))) 95 :: .sl A_64 c_65 n_66 x_62 25 1 :: .sl A_71 c_72 n_73 x_69 124 2 :: .sl A_78 c_79 n_80 x_76 48 2 :: .cells b_48 (([.pointer (some ⟨b_17, 0, none⟩)] : Cs) ++ (iv .u8 m_83 ++ (([.int .i64 x_85] : Cs) ++ (([.int .u64 x_86] : Cs) ++ (([.int .u64 x_87] : Cs) ++ (([.int .u64 x_88] : Cs) ++ (iv .u8 m_89 ++ (([.int .u64 x_91] : Cs) ++ ([.int .u64 x_92] : Cs))))))))) 98 :: .cells B_1 (iv .u8 l0) 23 :: (T_133 ++ R)) := by rw [e_162]; exact st_159
    refine WL.val Wanted.none (Runs.assign rfl) ?_
    refine WL.nil ?_
    refine QW.blk_n ?_
    refine QW.then_n ?_
    refine CW.region ?_
    refine WL.val Wanted.none (Runs.move rfl) ?_
    refine WL.val Wanted.none (Runs.add rfl rfl rfl) ?_
    refine WL.val Wanted.none (Runs.assign rfl) ?_
    refine WL.nil ?_
    have st_159' := (St.pickT (L := [_, _, _, _, _, _, _, _]) st_159 [1, 2, 3, 4, 5, 6, 7] (by decide))
    exact QW.at _ (by repeat' constructor) ⟨T_133, A_155, c_156, n_157, x_161, m_152, IntKind.i64.wrap (x_122 + 1), rfl, H, (hs_114.trans hs_134), hn_160, hx_163, st_159'⟩
   ·have h_127 : (decide (x_122 < (IntKind.i64.wrap (x_108 + 1)))) = false := (decide_eq_false c_126)
    refine CW.cf rfl h_127 ?_
    refine CW.exit ?_
    refine QW.then_x ?_
    refine QW.then_x ?_
    refine QW.blk_x ?_
    refine QW.then_n ?_
    refine CW.seq (CW.region ?_)
    refine WL.val Wanted.none (Runs.move rfl) ?_
    have st_164 := (St.pickT (L := [_, _, _, _, _, _, _]) st_124 [1, 2, 3, 4, 0, 5, 6] (by decide))
    replace st_164 : St w w_123 (.cells b_17 (([.slice A_64 n_66 c_65] : Cs) ++ (([.slice A_71 n_73 c_72] : Cs) ++ (([.int .i64 x_81] : Cs) ++ (([.bool b_82] : Cs) ++ ([.slice A_78 n_80 c_79] : Cs))))) 95 :: .sl A_64 c_65 n_66 x_62 25 1 :: .sl A_71 c_72 n_73 x_69 124 2 :: .sl A_78 c_79 n_80 x_76 48 2 :: .sl A_119 c_120 n_121 x_117 42 2 :: .cells b_48 (([.pointer (some ⟨b_17, 0, none⟩)] : Cs) ++ (iv .u8 m_83 ++ (([.int .i64 x_85] : Cs) ++ (([.int .u64 x_86] : Cs) ++ (([.int .u64 x_87] : Cs) ++ (([.int .u64 x_88] : Cs) ++ (iv .u8 m_89 ++ (([.int .u64 x_91] : Cs) ++ ([.int .u64 x_92] : Cs))))))))) 98 :: .cells B_1 (iv .u8 l0) 23 :: (T_113 ++ R)) := st_164
    have st_165 : St w w_123 (.cells b_17 (([.slice A_64 n_66 c_65] : Cs) ++ (([.slice A_71 n_73 c_72] : Cs) ++ (([.int .i64 x_81] : Cs) ++ (([.bool b_82] : Cs) ++ ([.slice A_78 n_80 c_79] : Cs))))) 95 :: .sl A_64 c_65 n_66 x_62 25 1 :: .sl A_71 c_72 n_73 x_69 124 2 :: .sl A_78 c_79 n_80 x_76 48 2 :: (T_113 ++ (.sl A_119 c_120 n_121 x_117 42 2 :: .cells b_48 (([.pointer (some ⟨b_17, 0, none⟩)] : Cs) ++ (iv .u8 m_83 ++ (([.int .i64 x_85] : Cs) ++ (([.int .u64 x_86] : Cs) ++ (([.int .u64 x_87] : Cs) ++ (([.int .u64 x_88] : Cs) ++ (iv .u8 m_89 ++ (([.int .u64 x_91] : Cs) ++ ([.int .u64 x_92] : Cs))))))))) 98 :: .cells B_1 (iv .u8 l0) 23 :: R))) := St.hide (A := [_, _, _, _]) (B := [_, _, _]) (T := T_113) (R := R) st_164
    obtain ⟨l_172_0, l_172_1, a_176_2, a_176_3, l_172_4, l_181, hr_166, H⟩ := H
    refine WL.call Wanted.none ent13 rfl (disk_Disk_Ops.calls w w_123 T_113 (.sl A_119 c_120 n_121 x_117 42 2 :: .cells b_48 (([.pointer (some ⟨b_17, 0, none⟩)] : Cs) ++ (iv .u8 m_83 ++ (([.int .i64 x_85] : Cs) ++ (([.int .u64 x_86] : Cs) ++ (([.int .u64 x_87] : Cs) ++ (([.int .u64 x_88] : Cs) ++ (iv .u8 m_89 ++ (([.int .u64 x_91] : Cs) ++ ([.int .u64 x_92] : Cs))))))))) 98 :: .cells B_1 (iv .u8 l0) 23 :: R) l_60 l_67 x_81 b_82 l_74 b_17 A_64 n_66 c_65 x_62 A_71 n_73 c_72 x_69 A_78 n_80 c_79 x_76  st_165 (hn_61) (hx_63.mono (fun _ h_ => hs_114.1 _ h_)) (hn_68) (hx_70.mono (fun _ h_ => hs_114.1 _ h_)) (hn_75) (hx_77.mono (fun _ h_ => hs_114.1 _ h_)) l_172_0 l_172_1 a_176_2 a_176_3 l_172_4 l_181 hr_166) ?_
    rintro _ w_185 ⟨T_167, A_169_0, n_170_0, c_171_0, x_173_0, A_169_1, n_170_1, c_171_1, x_173_1, A_169_4, n_170_4, c_171_4, x_173_4, A_178, n_179, c_180, x_182, hs_168, hn_174_0, hx_175_0, hn_174_1, hx_175_1, hn_174_4, hx_175_4, hn_183, hx_184, rfl, sc_187⟩
    have st_186 : St w w_185 (.cells b_17 (([.slice A_169_0 n_170_0 c_171_0] : Cs) ++ (([.slice A_169_1 n_170_1 c_171_1] : Cs) ++ (([.int .i64 a_176_2] : Cs) ++ (([.bool a_176_3] : Cs) ++ ([.slice A_169_4 n_170_4 c_171_4] : Cs))))) 95 :: .sl A_169_0 c_171_0 n_170_0 x_173_0 25 1 :: .sl A_169_1 c_171_1 n_170_1 x_173_1 124 2 :: .sl A_169_4 c_171_4 n_170_4 x_173_4 48 2 :: .sl A_178 c_180 n_179 x_182 48 2 :: .sl A_119 c_120 n_121 x_117 42 2 :: .cells b_48 (([.pointer (some ⟨b_17, 0, none⟩)] : Cs) ++ (iv .u8 m_83 ++ (([.int .i64 x_85] : Cs) ++ (([.int .u64 x_86] : Cs) ++ (([.int .u64 x_87] : Cs) ++ (([.int .u64 x_88] : Cs) ++ (iv .u8 m_89 ++ (([.int .u64 x_91] : Cs) ++ ([.int .u64 x_92] : Cs))))))))) 98 :: .cells B_1 (iv .u8 l0) 23 :: (T_167 ++ R)) := St.unhide (A := [_, _, _, _, _]) (B := [_, _, _]) (T := T_167) (R := R) sc_187
    refine ⟨_, rfl, ?_⟩
    refine WL.val Wanted.none (Runs.len_sl Tryd.underlying43 rfl (by rw [hn_183])) ?_
    refine WL.val Wanted.none (Runs.assign rfl) ?_
    refine WL.nil (QW.then_n ?_)
    refine CW.seq (CW.region ?_)
    refine WL.val Wanted.none (Runs.move rfl) ?_
    refine WL.val Wanted.none (Runs.move rfl) ?_
    have st_188 := (St.pickT (L := [_, _, _, _, _, _, _, _]) st_186 [6, 0, 1, 2, 3, 4, 5, 7] (by decide))
    replace st_188 : St w w_185 (.cells b_48 (([.pointer (some ⟨b_17, 0, none⟩)] : Cs) ++ (iv .u8 m_83 ++ (([.int .i64 x_85] : Cs) ++ (([.int .u64 x_86] : Cs) ++ (([.int .u64 x_87] : Cs) ++ (([.int .u64 x_88] : Cs) ++ (iv .u8 m_89 ++ (([.int .u64 x_91] : Cs) ++ ([.int .u64 x_92] : Cs))))))))) 98 :: .cells b_17 (([.slice A_169_0 n_170_0 c_171_0] : Cs) ++ (([.slice A_169_1 n_170_1 c_171_1] : Cs) ++ (([.int .i64 a_176_2] : Cs) ++ (([.bool a_176_3] : Cs) ++ ([.slice A_169_4 n_170_4 c_171_4] : Cs))))) 95 :: .sl A_169_0 c_171_0 n_170_0 x_173_0 25 1 :: .sl A_169_1 c_171_1 n_170_1 x_173_1 124 2 :: .sl A_169_4 c_171_4 n_170_4 x_173_4 48 2 :: .sl A_178 c_180 n_179 x_182 48 2 :: .sl A_119 c_120 n_121 x_117 42 2 :: .cells B_1 (iv .u8 l0) 23 :: (T_167 ++ R)) := st_188
    have st_189 : St w w_185 (.cells b_48 (([.pointer (some ⟨b_17, 0, none⟩)] : Cs) ++ (iv .u8 m_83 ++ (([.int .i64 x_85] : Cs) ++ (([.int .u64 x_86] : Cs) ++ (([.int .u64 x_87] : Cs) ++ (([.int .u64 x_88] : Cs) ++ (iv .u8 m_89 ++ (([.int .u64 x_91] : Cs) ++ ([.int .u64 x_92] : Cs))))))))) 98 :: .cells b_17 (([.slice A_169_0 n_170_0 c_171_0] : Cs) ++ (([.slice A_169_1 n_170_1 c_171_1] : Cs) ++ (([.int .i64 a_176_2] : Cs) ++ (([.bool a_176_3] : Cs) ++ ([.slice A_169_4 n_170_4 c_171_4] : Cs))))) 95 :: .sl A_169_0 c_171_0 n_170_0 x_173_0 25 1 :: .sl A_169_1 c_171_1 n_170_1 x_173_1 124 2 :: .sl A_169_4 c_171_4 n_170_4 x_173_4 48 2 :: (T_167 ++ (.sl A_178 c_180 n_179 x_182 48 2 :: .sl A_119 c_120 n_121 x_117 42 2 :: .cells B_1 (iv .u8 l0) 23 :: R))) := St.hide (A := [_, _, _, _, _]) (B := [_, _, _]) (T := T_167) (R := R) st_188
    obtain ⟨l_196_0_0, l_196_0_1, a_200_0_2, a_200_0_3, l_196_0_4, l_196_1, a_200_2, a_200_3, a_200_4, a_200_5, l_196_6, a_200_7, a_200_8, a_203_0, a_203_1, l_204_2, a_207, hr_190, H⟩ := H
    refine WL.call Wanted.none ent14 rfl (journal_Journal_Append.calls w w_185 T_167 (.sl A_178 c_180 n_179 x_182 48 2 :: .sl A_119 c_120 n_121 x_117 42 2 :: .cells B_1 (iv .u8 l0) 23 :: R) l_172_0 l_172_1 a_176_2 a_176_3 l_172_4 m_83 x_85 x_86 x_87 x_88 m_89 x_91 x_92 l_115 b_48 b_17 A_169_0 n_170_0 c_171_0 x_173_0 A_169_1 n_170_1 c_171_1 x_173_1 A_169_4 n_170_4 c_171_4 x_173_4 A_119 n_121 c_120  st_189 hG0 hG1 (hn_174_0) hx_175_0 (hn_174_1) hx_175_1 (hn_174_4) hx_175_4 hl_84 hl_90 (HS.mk hn_116 (st_188.cap (i := 6) rfl) (fun W_ L_ st hT => st.src_mem (hT _ (List.mem_append_right _ (List.mem_of_getElem? (i := 1) rfl)))) (hx_118.mono (fun _ h_ => hs_168.1 _ h_))) l_196_0_0 l_196_0_1 a_200_0_2 a_200_0_3 l_196_0_4 l_196_1 a_200_2 a_200_3 a_200_4 a_200_5 l_196_6 a_200_7 a_200_8 a_203_0 a_203_1 l_204_2 a_207 hr_190) ?_
    rintro _ w_208 ⟨T_191, A_193_0_0, n_194_0_0, c_195_0_0, x_197_0_0, A_193_0_1, n_194_0_1, c_195_0_1, x_197_0_1, A_193_0_4, n_194_0_4, c_195_0_4, x_197_0_4, hs_192, hn_198_0_0, hx_199_0_0, hn_198_0_1, hx_199_0_1, hn_198_0_4, hx_199_0_4, hl_201_1, hl_201_6, hl_205_2, rfl, sc_210⟩
    have st_209 : St w w_208 (.cells b_48 (([.pointer (some ⟨b_17, 0, none⟩)] : Cs) ++ (iv .u8 l_196_1 ++ (([.int .i64 a_200_2] : Cs) ++ (([.int .u64 a_200_3] : Cs) ++ (([.int .u64 a_200_4] : Cs) ++ (([.int .u64 a_200_5] : Cs) ++ (iv .u8 l_196_6 ++ (([.int .u64 a_200_7] : Cs) ++ ([.int .u64 a_200_8] : Cs))))))))) 98 :: .cells b_17 (([.slice A_193_0_0 n_194_0_0 c_195_0_0] : Cs) ++ (([.slice A_193_0_1 n_194_0_1 c_195_0_1] : Cs) ++ (([.int .i64 a_200_0_2] : Cs) ++ (([.bool a_200_0_3] : Cs) ++ ([.slice A_193_0_4 n_194_0_4 c_195_0_4] : Cs))))) 95 :: .sl A_193_0_0 c_195_0_0 n_194_0_0 x_197_0_0 25 1 :: .sl A_193_0_1 c_195_0_1 n_194_0_1 x_197_0_1 124 2 :: .sl A_193_0_4 c_195_0_4 n_194_0_4 x_197_0_4 48 2 :: .sl A_178 c_180 n_179 x_182 48 2 :: .sl A_119 c_120 n_121 x_117 42 2 :: .cells B_1 (iv .u8 l0) 23 :: (T_191 ++ R)) := St.unhide (A := [_, _, _, _, _]) (B := [_, _, _]) (T := T_191) (R := R) sc_210
    refine ⟨_, rfl, ?_⟩
    refine WL.val Wanted.none (Runs.move rfl) ?_
    refine WL.val Wanted.none (Runs.extract rfl rfl) ?_
    refine WL.val Wanted.none (Runs.extract rfl rfl) ?_
    refine WL.alloc st_209 zero39 ?_
    intro B_211 w_212 st_213
    replace st_213 : St w w_212 (.cells B_211 (([.int .u64 0] : Cs) ++ (([.int .u64 0] : Cs) ++ iv .u8 (List.replicate 32 (0 : Int)))) 39 :: .cells b_48 (([.pointer (some ⟨b_17, 0, none⟩)] : Cs) ++ (iv .u8 l_196_1 ++ (([.int .i64 a_200_2] : Cs) ++ (([.int .u64 a_200_3] : Cs) ++ (([.int .u64 a_200_4] : Cs) ++ (([.int .u64 a_200_5] : Cs) ++ (iv .u8 l_196_6 ++ (([.int .u64 a_200_7] : Cs) ++ ([.int .u64 a_200_8] : Cs))))))))) 98 :: .cells b_17 (([.slice A_193_0_0 n_194_0_0 c_195_0_0] : Cs) ++ (([.slice A_193_0_1 n_194_0_1 c_195_0_1] : Cs) ++ (([.int .i64 a_200_0_2] : Cs) ++ (([.bool a_200_0_3] : Cs) ++ ([.slice A_193_0_4 n_194_0_4 c_195_0_4] : Cs))))) 95 :: .sl A_193_0_0 c_195_0_0 n_194_0_0 x_197_0_0 25 1 :: .sl A_193_0_1 c_195_0_1 n_194_0_1 x_197_0_1 124 2 :: .sl A_193_0_4 c_195_0_4 n_194_0_4 x_197_0_4 48 2 :: .sl A_178 c_180 n_179 x_182 48 2 :: .sl A_119 c_120 n_121 x_117 42 2 :: .cells B_1 (iv .u8 l0) 23 :: (T_191 ++ R)) := st_213
    refine WL.store_mid (i := 0) (pre := (([] : Cs))) (mid := (([.int .u64 0] : Cs) ++ (([.int .u64 0] : Cs) ++ iv .u8 (List.replicate 32 (0 : Int))))) (post := (([] : Cs))) (ms := (([.int .u64 a_203_0] : Cs) ++ (([.int .u64 a_203_1] : Cs) ++ iv .u8 l_204_2))) st_213 rfl row39 (by first | rfl | simp only [List.append_assoc, List.append_nil, List.nil_append, List.cons_append]) (by first | rfl | simp only [List.length_append, List.length_cons, List.length_nil, iv_length]) rfl rfl (by first | rfl | simp only [List.length_append, List.length_cons, List.length_nil, iv_length, hl_205_2]) (by first | rfl | simp only [List.length_append, List.length_cons, List.length_nil, iv_length, List.length_replicate]) (by intro u hu; simp only [List.mem_append, List.mem_singleton] at hu; rcases hu with hu | hu | hu <;> first | exact one_iv _ _ u hu | (subst hu; rfl)) ?_
    intro w_215 st_216
    replace st_216 : St w w_215 (.cells B_211 (([.int .u64 a_203_0] : Cs) ++ (([.int .u64 a_203_1] : Cs) ++ iv .u8 l_204_2)) 39 :: .cells b_48 (([.pointer (some ⟨b_17, 0, none⟩)] : Cs) ++ (iv .u8 l_196_1 ++ (([.int .i64 a_200_2] : Cs) ++ (([.int .u64 a_200_3] : Cs) ++ (([.int .u64 a_200_4] : Cs) ++ (([.int .u64 a_200_5] : Cs) ++ (iv .u8 l_196_6 ++ (([.int .u64 a_200_7] : Cs) ++ ([.int .u64 a_200_8] : Cs))))))))) 98 :: .cells b_17 (([.slice A_193_0_0 n_194_0_0 c_195_0_0] : Cs) ++ (([.slice A_193_0_1 n_194_0_1 c_195_0_1] : Cs) ++ (([.int .i64 a_200_0_2] : Cs) ++ (([.bool a_200_0_3] : Cs) ++ ([.slice A_193_0_4 n_194_0_4 c_195_0_4] : Cs))))) 95 :: .sl A_193_0_0 c_195_0_0 n_194_0_0 x_197_0_0 25 1 :: .sl A_193_0_1 c_195_0_1 n_194_0_1 x_197_0_1 124 2 :: .sl A_193_0_4 c_195_0_4 n_194_0_4 x_197_0_4 48 2 :: .sl A_178 c_180 n_179 x_182 48 2 :: .sl A_119 c_120 n_121 x_117 42 2 :: .cells B_1 (iv .u8 l0) 23 :: (T_191 ++ R)) := by have e_ : (([.int .u64 a_203_0] : Cs) ++ (([.int .u64 a_203_1] : Cs) ++ iv .u8 l_204_2)) = (([] : Cs)) ++ ((([.int .u64 a_203_0] : Cs) ++ (([.int .u64 a_203_1] : Cs) ++ iv .u8 l_204_2)) ++ (([] : Cs))) := (by first | rfl | simp only [List.append_assoc, List.append_nil, List.nil_append, List.cons_append]); have h_ : St w w_215 (.cells B_211 ((([] : Cs)) ++ ((([.int .u64 a_203_0] : Cs) ++ (([.int .u64 a_203_1] : Cs) ++ iv .u8 l_204_2)) ++ (([] : Cs)))) 39 :: .cells b_48 (([.pointer (some ⟨b_17, 0, none⟩)] : Cs) ++ (iv .u8 l_196_1 ++ (([.int .i64 a_200_2] : Cs) ++ (([.int .u64 a_200_3] : Cs) ++ (([.int .u64 a_200_4] : Cs) ++ (([.int .u64 a_200_5] : Cs) ++ (iv .u8 l_196_6 ++ (([.int .u64 a_200_7] : Cs) ++ ([.int .u64 a_200_8] : Cs))))))))) 98 :: .cells b_17 (([.slice A_193_0_0 n_194_0_0 c_195_0_0] : Cs) ++ (([.slice A_193_0_1 n_194_0_1 c_195_0_1] : Cs) ++ (([.int .i64 a_200_0_2] : Cs) ++ (([.bool a_200_0_3] : Cs) ++ ([.slice A_193_0_4 n_194_0_4 c_195_0_4] : Cs))))) 95 :: .sl A_193_0_0 c_195_0_0 n_194_0_0 x_197_0_0 25 1 :: .sl A_193_0_1 c_195_0_1 n_194_0_1 x_197_0_1 124 2 :: .sl A_193_0_4 c_195_0_4 n_194_0_4 x_197_0_4 48 2 :: .sl A_178 c_180 n_179 x_182 48 2 :: .sl A_119 c_120 n_121 x_117 42 2 :: .cells B_1 (iv .u8 l0) 23 :: (T_191 ++ R)) := st_216; rw [← e_] at h_; exact h_
    refine WL.val Wanted.none (Runs.assign rfl) ?_
    refine WL.nil (QW.then_n ?_)
    refine CW.seq (CW.region ?_)
    refine WL.val Wanted.none (Runs.move rfl) ?_
    have st_217 := (St.pickT (L := [_, _, _, _, _, _, _, _, _]) st_216 [2, 3, 4, 5, 0, 1, 6, 7, 8] (by decide))
    replace st_217 : St w w_215 (.cells b_17 (([.slice A_193_0_0 n_194_0_0 c_195_0_0] : Cs) ++ (([.slice A_193_0_1 n_194_0_1 c_195_0_1] : Cs) ++ (([.int .i64 a_200_0_2] : Cs) ++ (([.bool a_200_0_3] : Cs) ++ ([.slice A_193_0_4 n_194_0_4 c_195_0_4] : Cs))))) 95 :: .sl A_193_0_0 c_195_0_0 n_194_0_0 x_197_0_0 25 1 :: .sl A_193_0_1 c_195_0_1 n_194_0_1 x_197_0_1 124 2 :: .sl A_193_0_4 c_195_0_4 n_194_0_4 x_197_0_4 48 2 :: .cells B_211 (([.int .u64 a_203_0] : Cs) ++ (([.int .u64 a_203_1] : Cs) ++ iv .u8 l_204_2)) 39 :: .cells b_48 (([.pointer (some ⟨b_17, 0, none⟩)] : Cs) ++ (iv .u8 l_196_1 ++ (([.int .i64 a_200_2] : Cs) ++ (([.int .u64 a_200_3] : Cs) ++ (([.int .u64 a_200_4] : Cs) ++ (([.int .u64 a_200_5] : Cs) ++ (iv .u8 l_196_6 ++ (([.int .u64 a_200_7] : Cs) ++ ([.int .u64 a_200_8] : Cs))))))))) 98 :: .sl A_178 c_180 n_179 x_182 48 2 :: .sl A_119 c_120 n_121 x_117 42 2 :: .cells B_1 (iv .u8 l0) 23 :: (T_191 ++ R)) := st_217
    have st_218 : St w w_215 (.cells b_17 (([.slice A_193_0_0 n_194_0_0 c_195_0_0] : Cs) ++ (([.slice A_193_0_1 n_194_0_1 c_195_0_1] : Cs) ++ (([.int .i64 a_200_0_2] : Cs) ++ (([.bool a_200_0_3] : Cs) ++ ([.slice A_193_0_4 n_194_0_4 c_195_0_4] : Cs))))) 95 :: .sl A_193_0_0 c_195_0_0 n_194_0_0 x_197_0_0 25 1 :: .sl A_193_0_1 c_195_0_1 n_194_0_1 x_197_0_1 124 2 :: .sl A_193_0_4 c_195_0_4 n_194_0_4 x_197_0_4 48 2 :: (T_191 ++ (.cells B_211 (([.int .u64 a_203_0] : Cs) ++ (([.int .u64 a_203_1] : Cs) ++ iv .u8 l_204_2)) 39 :: .cells b_48 (([.pointer (some ⟨b_17, 0, none⟩)] : Cs) ++ (iv .u8 l_196_1 ++ (([.int .i64 a_200_2] : Cs) ++ (([.int .u64 a_200_3] : Cs) ++ (([.int .u64 a_200_4] : Cs) ++ (([.int .u64 a_200_5] : Cs) ++ (iv .u8 l_196_6 ++ (([.int .u64 a_200_7] : Cs) ++ ([.int .u64 a_200_8] : Cs))))))))) 98 :: .sl A_178 c_180 n_179 x_182 48 2 :: .sl A_119 c_120 n_121 x_117 42 2 :: .cells B_1 (iv .u8 l0) 23 :: R))) := St.hide (A := [_, _, _, _]) (B := [_, _, _, _, _]) (T := T_191) (R := R) st_217
    obtain ⟨l_225_0, l_225_1, a_229_2, a_229_3, l_225_4, l_234, hr_219, H⟩ := H
    refine WL.call Wanted.none ent13 rfl (disk_Disk_Ops.calls w w_215 T_191 (.cells B_211 (([.int .u64 a_203_0] : Cs) ++ (([.int .u64 a_203_1] : Cs) ++ iv .u8 l_204_2)) 39 :: .cells b_48 (([.pointer (some ⟨b_17, 0, none⟩)] : Cs) ++ (iv .u8 l_196_1 ++ (([.int .i64 a_200_2] : Cs) ++ (([.int .u64 a_200_3] : Cs) ++ (([.int .u64 a_200_4] : Cs) ++ (([.int .u64 a_200_5] : Cs) ++ (iv .u8 l_196_6 ++ (([.int .u64 a_200_7] : Cs) ++ ([.int .u64 a_200_8] : Cs))))))))) 98 :: .sl A_178 c_180 n_179 x_182 48 2 :: .sl A_119 c_120 n_121 x_117 42 2 :: .cells B_1 (iv .u8 l0) 23 :: R) l_196_0_0 l_196_0_1 a_200_0_2 a_200_0_3 l_196_0_4 b_17 A_193_0_0 n_194_0_0 c_195_0_0 x_197_0_0 A_193_0_1 n_194_0_1 c_195_0_1 x_197_0_1 A_193_0_4 n_194_0_4 c_195_0_4 x_197_0_4  st_218 (hn_198_0_0) hx_199_0_0 (hn_198_0_1) hx_199_0_1 (hn_198_0_4) hx_199_0_4 l_225_0 l_225_1 a_229_2 a_229_3 l_225_4 l_234 hr_219) ?_
    rintro _ w_238 ⟨T_220, A_222_0, n_223_0, c_224_0, x_226_0, A_222_1, n_223_1, c_224_1, x_226_1, A_222_4, n_223_4, c_224_4, x_226_4, A_231, n_232, c_233, x_235, hs_221, hn_227_0, hx_228_0, hn_227_1, hx_228_1, hn_227_4, hx_228_4, hn_236, hx_237, rfl, sc_240⟩
    have st_239 : St w w_238 (.cells b_17 (([.slice A_222_0 n_223_0 c_224_0] : Cs) ++ (([.slice A_222_1 n_223_1 c_224_1] : Cs) ++ (([.int .i64 a_229_2] : Cs) ++ (([.bool a_229_3] : Cs) ++ ([.slice A_222_4 n_223_4 c_224_4] : Cs))))) 95 :: .sl A_222_0 c_224_0 n_223_0 x_226_0 25 1 :: .sl A_222_1 c_224_1 n_223_1 x_226_1 124 2 :: .sl A_222_4 c_224_4 n_223_4 x_226_4 48 2 :: .sl A_231 c_233 n_232 x_235 48 2 :: .cells B_211 (([.int .u64 a_203_0] : Cs) ++ (([.int .u64 a_203_1] : Cs) ++ iv .u8 l_204_2)) 39 :: .cells b_48 (([.pointer (some ⟨b_17, 0, none⟩)] : Cs) ++ (iv .u8 l_196_1 ++ (([.int .i64 a_200_2] : Cs) ++ (([.int .u64 a_200_3] : Cs) ++ (([.int .u64 a_200_4] : Cs) ++ (([.int .u64 a_200_5] : Cs) ++ (iv .u8 l_196_6 ++ (([.int .u64 a_200_7] : Cs) ++ ([.int .u64 a_200_8] : Cs))))))))) 98 :: .sl A_178 c_180 n_179 x_182 48 2 :: .sl A_119 c_120 n_121 x_117 42 2 :: .cells B_1 (iv .u8 l0) 23 :: (T_220 ++ R)) := St.unhide (A := [_, _, _, _, _]) (B := [_, _, _, _, _]) (T := T_220) (R := R) sc_240
    refine ⟨_, rfl, ?_⟩
    refine WL.val Wanted.none (Runs.assign rfl) ?_
    refine WL.nil (QW.then_n ?_)
    refine CW.seq ?_
    refine CW.seq (CW.region ?_)
    refine WL.val Wanted.none (Runs.move rfl) ?_
    refine WL.val Wanted.none (Runs.neq rfl rfl rfl) ?_
    refine WL.val Wanted.none (Runs.move rfl) ?_
    obtain ⟨c_241, H⟩ := H
    have h_242 : (a_207 != 0) = false := (bne_eq_false_iff_eq.mpr (Decidable.not_not.mp c_241))
    refine WL.on ?_ ?_; exact Wanted.guard (dj := 97) (by rfl) (evb (by rfl) h_242) (by rfl)
    refine WL.val Wanted.none (Runs.move rfl) ?_
    refine WL.on ?_ ?_; exact Wanted.guard (dj := 97) (by rfl) (evb (by rfl) h_242) (by rfl)
    refine WL.val Wanted.none (Runs.len_sl Tryd.underlying43 rfl (by rw [hn_236])) ?_
    refine WL.on ?_ ?_; exact Wanted.guard (dj := 97) (by rfl) (evb (by rfl) h_242) (by rfl)
    refine WL.val Wanted.none (Runs.move rfl) ?_
    refine WL.on ?_ ?_; exact Wanted.guard (dj := 97) (by rfl) (evb (by rfl) h_242) (by rfl)
    refine WL.val Wanted.none (Runs.move rfl) ?_
    refine WL.on ?_ ?_; exact Wanted.guard (dj := 97) (by rfl) (evb (by rfl) h_242) (by rfl)
    obtain ⟨x_243, e_244, H⟩ := H
    refine WL.val Wanted.none (Runs.add rfl rfl e_244) ?_
    refine WL.on ?_ ?_; exact Wanted.guard (dj := 97) (by rfl) (evb (by rfl) h_242) (by rfl)
    refine WL.val Wanted.none (Runs.neq rfl rfl rfl) ?_
    refine WL.val Wanted.none (Runs.pick_f (evb rfl h_242) rfl) ?_
    refine WL.val Wanted.none (Runs.move rfl) ?_
    obtain ⟨c_245, H⟩ := H
    have h_246 : ((l_234.length : Int) != x_243) = false := (bne_eq_false_iff_eq.mpr (Decidable.not_not.mp c_245))
    refine WL.on ?_ ?_; exact Wanted.guard (dj := 105) (by rfl) (evb (by rfl) h_246) (by rfl)
    refine WL.val Wanted.none (Runs.fieldAddr (off := 0) (p := 0) fld39_0 rfl rfl rfl) ?_
    refine WL.on ?_ ?_; exact Wanted.guard (dj := 105) (by rfl) (evb (by rfl) h_246) (by rfl)
    refine WL.val Wanted.none (Runs.load nagg37 rfl (st_239.cell (k := 5) rfl (part_one (u := .int .u64 a_203_0) (pre := (([] : Cs))) (post := (([.int .u64 a_203_1] : Cs) ++ iv .u8 l_204_2)) (by first | rfl | simp only [List.append_assoc, List.append_nil, List.nil_append, List.cons_append]) (by first | rfl | simp only [List.length_append, List.length_cons, List.length_nil, iv_length])))) ?_
    refine WL.on ?_ ?_; exact Wanted.guard (dj := 105) (by rfl) (evb (by rfl) h_246) (by rfl)
    refine WL.val Wanted.none (Runs.move rfl) ?_
    refine WL.on ?_ ?_; exact Wanted.guard (dj := 105) (by rfl) (evb (by rfl) h_246) (by rfl)
    refine WL.val Wanted.none (Runs.conv Tryd.underlying37 ⟨_, Tryd.underlying3⟩ rfl rfl) ?_
    refine WL.on ?_ ?_; exact Wanted.guard (dj := 105) (by rfl) (evb (by rfl) h_246) (by rfl)
    refine WL.val Wanted.none (Runs.neq rfl rfl rfl) ?_
    refine WL.val Wanted.none (Runs.pick_f (evb rfl h_246) rfl) ?_
    refine WL.val Wanted.none (Runs.move rfl) ?_
    obtain ⟨c_247, H⟩ := H
    have h_248 : (a_203_0 != (IntKind.u64.wrap x_94)) = false := (bne_eq_false_iff_eq.mpr (Decidable.not_not.mp c_247))
    refine WL.on ?_ ?_; exact Wanted.guard (dj := 112) (by rfl) (evb (by rfl) h_248) (by rfl)
    refine WL.val Wanted.none (Runs.fieldAddr (off := 1) (p := 1) fld39_1 rfl rfl rfl) ?_
    refine WL.on ?_ ?_; exact Wanted.guard (dj := 112) (by rfl) (evb (by rfl) h_248) (by rfl)
    refine WL.val Wanted.none (Runs.load nagg37 rfl (st_239.cell (k := 5) rfl (part_one (u := .int .u64 a_203_1) (pre := (([.int .u64 a_203_0] : Cs))) (post := (iv .u8 l_204_2)) (by first | rfl | simp only [List.append_assoc, List.append_nil, List.nil_append, List.cons_append]) (by first | rfl | simp only [List.length_append, List.length_cons, List.length_nil, iv_length])))) ?_
    refine WL.on ?_ ?_; exact Wanted.guard (dj := 112) (by rfl) (evb (by rfl) h_248) (by rfl)
    refine WL.val Wanted.none (Runs.move rfl) ?_
    refine WL.on ?_ ?_; exact Wanted.guard (dj := 112) (by rfl) (evb (by rfl) h_248) (by rfl)
    refine WL.val Wanted.none (Runs.conv Tryd.underlying37 ⟨_, Tryd.underlying3⟩ rfl rfl) ?_
    refine WL.on ?_ ?_; exact Wanted.guard (dj := 112) (by rfl) (evb (by rfl) h_248) (by rfl)
    refine WL.val Wanted.none (Runs.neq rfl rfl rfl) ?_
    refine WL.val Wanted.none (Runs.pick_f (evb rfl h_248) rfl) ?_
    refine WL.nil (QW.then_n ?_)
    obtain ⟨c_249, H⟩ := H
    have h_250 : (a_203_1 != (IntKind.u64.wrap (IntKind.i64.wrap (x_108 + 1)))) = false := (bne_eq_false_iff_eq.mpr (Decidable.not_not.mp c_249))
    refine CW.cf rfl h_250 ?_
    refine CW.skip ?_
    refine QW.then_n ?_
    refine CW.seq ?_
    refine CW.seq (CW.region ?_)
    refine WL.val Wanted.none (Runs.assign rfl) ?_
    refine WL.nil (QW.then_n ?_)
    refine CW.block ?_
    obtain ⟨k_251, H⟩ := H
    refine CW.sub [(3, .slice A3 n3 c3), (8, .bool b_93), (10, .int .i64 (IntKind.i64.wrap ((IntKind.i64.wrap (Int.tmod a1 9)) + 1))), (11, .pointer (some ⟨b_17, 0, none⟩)), (13, .int .i64 x_94), (14, .pointer (some ⟨b_48, 0, none⟩)), (16, .int .i64 x_95), (54, .int .i64 x_95), (55, .slice A3 n3 c3), (56, .int .i64 (l3.length : Int)), (57, .bool (decide (x_95 < (l3.length : Int)))), (58, .bool (decide (x_95 < (l3.length : Int)))), (59, .int .i64 x_95), (60, .bool (decide (x_95 < 10))), (61, .bool (decide (x_95 < 10))), (64, .slice A3 n3 c3), (65, .int .i64 x_95), (66, .pointer (some (a_105.add (x_95.toNat)))), (67, .int .u8 (gn l3 (x_95.toNat))), (68, .int .i64 (IntKind.i64.wrap (gn l3 (x_95.toNat)))), (69, .int .i64 (IntKind.i64.wrap ((IntKind.i64.wrap (Int.tmod a1 9)) + 1))), (70, .int .i64 x_108), (71, .int .i64 (IntKind.i64.wrap (x_108 + 1))), (17, .int .i64 (IntKind.i64.wrap (x_108 + 1))), (18, .slice A_119 n_121 c_120), (19, .int .i64 x_122), (72, .int .i64 x_122), (73, .int .i64 (IntKind.i64.wrap (x_108 + 1))), (74, .bool (decide (x_122 < (IntKind.i64.wrap (x_108 + 1))))), (84, .pointer (some ⟨b_17, 0, none⟩)), (85, .slice A_178 n_179 c_180), (86, .int .i64 (l_181.length : Int)), (20, .int .i64 (l_181.length : Int)), (88, .pointer (some ⟨b_48, 0, none⟩)), (89, .slice A_119 n_121 c_120), (90, .tuple #[.agg (([.int .u64 a_203_0] : Cs) ++ (([.int .u64 a_203_1] : Cs) ++ iv .u8 l_204_2)).toArray, .int .i64 a_207]), (87, .tuple #[.agg (([.int .u64 a_203_0] : Cs) ++ (([.int .u64 a_203_1] : Cs) ++ iv .u8 l_204_2)).toArray, .int .i64 a_207]), (91, .agg (([.int .u64 a_203_0] : Cs) ++ (([.int .u64 a_203_1] : Cs) ++ iv .u8 l_204_2)).toArray), (92, .int .i64 a_207), (21, .pointer (some ⟨B_211, 0, none⟩)), (22, .int .i64 a_207), (93, .pointer (some ⟨b_17, 0, none⟩)), (94, .slice A_231 n_232 c_233), (23, .slice A_231 n_232 c_233), (95, .int .i64 a_207), (96, .bool (a_207 != 0)), (97, .bool (a_207 != 0)), (98, .slice A_231 n_232 c_233), (99, .int .i64 (l_234.length : Int)), (100, .int .i64 (l_181.length : Int)), (101, .int .i64 (IntKind.i64.wrap (x_108 + 1))), (102, .int .i64 x_243), (103, .bool ((l_234.length : Int) != x_243)), (104, .bool ((l_234.length : Int) != x_243)), (105, .bool ((l_234.length : Int) != x_243)), (106, .pointer (some ⟨B_211, 0, none⟩)), (107, .int .u64 a_203_0), (108, .int .i64 x_94), (109, .int .u64 (IntKind.u64.wrap x_94)), (110, .bool (a_203_0 != (IntKind.u64.wrap x_94))), (111, .bool (a_203_0 != (IntKind.u64.wrap x_94))), (112, .bool (a_203_0 != (IntKind.u64.wrap x_94))), (113, .pointer (some ⟨B_211, 1, none⟩)), (114, .int .u64 a_203_1), (115, .int .i64 (IntKind.i64.wrap (x_108 + 1))), (116, .int .u64 (IntKind.u64.wrap (IntKind.i64.wrap (x_108 + 1)))), (117, .bool (a_203_1 != (IntKind.u64.wrap (IntKind.i64.wrap (x_108 + 1))))), (118, .bool (a_203_1 != (IntKind.u64.wrap (IntKind.i64.wrap (x_108 + 1))))), (24, .int .i64 0)] (by repeat' constructor) ?_
    refine CW.loop (fun kL3 l_ w_ => ∃ (T_252 : Pool) (b_254 : Bool) (x_255 : Int), l_ = [(3, .slice A3 n3 c3), (8, .bool b_254), (10, .int .i64 (IntKind.i64.wrap ((IntKind.i64.wrap (Int.tmod a1 9)) + 1))), (11, .pointer (some ⟨b_17, 0, none⟩)), (13, .int .i64 x_94), (14, .pointer (some ⟨b_48, 0, none⟩)), (16, .int .i64 x_95), (54, .int .i64 x_95), (55, .slice A3 n3 c3), (56, .int .i64 (l3.length : Int)), (57, .bool (decide (x_95 < (l3.length : Int)))), (58, .bool (decide (x_95 < (l3.length : Int)))), (59, .int .i64 x_95), (60, .bool (decide (x_95 < 10))), (61, .bool (decide (x_95 < 10))), (64, .slice A3 n3 c3), (65, .int .i64 x_95), (66, .pointer (some (a_105.add (x_95.toNat)))), (67, .int .u8 (gn l3 (x_95.toNat))), (68, .int .i64 (IntKind.i64.wrap (gn l3 (x_95.toNat)))), (69, .int .i64 (IntKind.i64.wrap ((IntKind.i64.wrap (Int.tmod a1 9)) + 1))), (70, .int .i64 x_108), (71, .int .i64 (IntKind.i64.wrap (x_108 + 1))), (17, .int .i64 (IntKind.i64.wrap (x_108 + 1))), (18, .slice A_119 n_121 c_120), (19, .int .i64 x_122), (72, .int .i64 x_122), (73, .int .i64 (IntKind.i64.wrap (x_108 + 1))), (74, .bool (decide (x_122 < (IntKind.i64.wrap (x_108 + 1))))), (84, .pointer (some ⟨b_17, 0, none⟩)), (85, .slice A_178 n_179 c_180), (86, .int .i64 (l_181.length : Int)), (20, .int .i64 (l_181.length : Int)), (88, .pointer (some ⟨b_48, 0, none⟩)), (89, .slice A_119 n_121 c_120), (90, .tuple #[.agg (([.int .u64 a_203_0] : Cs) ++ (([.int .u64 a_203_1] : Cs) ++ iv .u8 l_204_2)).toArray, .int .i64 a_207]), (87, .tuple #[.agg (([.int .u64 a_203_0] : Cs) ++ (([.int .u64 a_203_1] : Cs) ++ iv .u8 l_204_2)).toArray, .int .i64 a_207]), (91, .agg (([.int .u64 a_203_0] : Cs) ++ (([.int .u64 a_203_1] : Cs) ++ iv .u8 l_204_2)).toArray), (92, .int .i64 a_207), (21, .pointer (some ⟨B_211, 0, none⟩)), (22, .int .i64 a_207), (93, .pointer (some ⟨b_17, 0, none⟩)), (94, .slice A_231 n_232 c_233), (23, .slice A_231 n_232 c_233), (95, .int .i64 a_207), (96, .bool (a_207 != 0)), (97, .bool (a_207 != 0)), (98, .slice A_231 n_232 c_233), (99, .int .i64 (l_234.length : Int)), (100, .int .i64 (l_181.length : Int)), (101, .int .i64 (IntKind.i64.wrap (x_108 + 1))), (102, .int .i64 x_243), (103, .bool ((l_234.length : Int) != x_243)), (104, .bool ((l_234.length : Int) != x_243)), (105, .bool ((l_234.length : Int) != x_243)), (106, .pointer (some ⟨B_211, 0, none⟩)), (107, .int .u64 a_203_0), (108, .int .i64 x_94), (109, .int .u64 (IntKind.u64.wrap x_94)), (110, .bool (a_203_0 != (IntKind.u64.wrap x_94))), (111, .bool (a_203_0 != (IntKind.u64.wrap x_94))), (112, .bool (a_203_0 != (IntKind.u64.wrap x_94))), (113, .pointer (some ⟨B_211, 1, none⟩)), (114, .int .u64 a_203_1), (115, .int .i64 (IntKind.i64.wrap (x_108 + 1))), (116, .int .u64 (IntKind.u64.wrap (IntKind.i64.wrap (x_108 + 1)))), (117, .bool (a_203_1 != (IntKind.u64.wrap (IntKind.i64.wrap (x_108 + 1))))), (118, .bool (a_203_1 != (IntKind.u64.wrap (IntKind.i64.wrap (x_108 + 1))))), (24, .int .i64 x_255)] ∧ reliquarylaw13_JournalRing.L3 a1 x_94 x_95 x_108 l_181 l_196_1 a_200_2 a_200_3 a_200_4 a_200_5 l_196_6 a_200_7 a_200_8 a_203_0 a_203_1 l_204_2 l_225_0 l_225_1 a_229_2 a_229_3 l_225_4 l_234 (reliquarylaw13_JournalRing.L1 a1 l3 kL1) kL3 b_254 x_255 ∧ (Pl T_220 T_252) ∧ St w w_ (.cells b_17 (([.slice A_222_0 n_223_0 c_224_0] : Cs) ++ (([.slice A_222_1 n_223_1 c_224_1] : Cs) ++ (([.int .i64 a_229_2] : Cs) ++ (([.bool a_229_3] : Cs) ++ ([.slice A_222_4 n_223_4 c_224_4] : Cs))))) 95 :: .sl A_222_0 c_224_0 n_223_0 x_226_0 25 1 :: .sl A_222_1 c_224_1 n_223_1 x_226_1 124 2 :: .sl A_222_4 c_224_4 n_223_4 x_226_4 48 2 :: .sl A_231 c_233 n_232 x_235 48 2 :: .cells B_211 (([.int .u64 a_203_0] : Cs) ++ (([.int .u64 a_203_1] : Cs) ++ iv .u8 l_204_2)) 39 :: .cells b_48 (([.pointer (some ⟨b_17, 0, none⟩)] : Cs) ++ (iv .u8 l_196_1 ++ (([.int .i64 a_200_2] : Cs) ++ (([.int .u64 a_200_3] : Cs) ++ (([.int .u64 a_200_4] : Cs) ++ (([.int .u64 a_200_5] : Cs) ++ (iv .u8 l_196_6 ++ (([.int .u64 a_200_7] : Cs) ++ ([.int .u64 a_200_8] : Cs))))))))) 98 :: .sl A_178 c_180 n_179 x_182 48 2 :: .sl A_119 c_120 n_121 x_117 42 2 :: .cells B_1 (iv .u8 l0) 23 :: (T_252 ++ R))) (k := k_251) ⟨T_220, b_93, 0, rfl, H, Pl.refl, st_239⟩ (fun _ _ h => by obtain ⟨_, _, _, _, h, _⟩ := h; exact h.elim) ?_
    rintro kL3 l_258 w_256 ⟨T_252, b_254, x_255, rfl, H, hs_253, st_257⟩
    refine CW.seq ?_
    refine CW.seq (CW.region ?_)
    refine WL.val Wanted.none (Runs.move rfl) ?_
    refine WL.val Wanted.none (Runs.move rfl) ?_
    refine WL.val Wanted.none (Runs.lss rfl rfl rfl) ?_
    refine WL.nil (QW.then_n ?_)
    rcases H with ⟨c_259, H⟩ | ⟨c_259, H⟩
    ·have h_260 : (decide (x_255 < (IntKind.i64.wrap (x_108 + 1)))) = true := (decide_eq_true c_259)
     refine CW.ct rfl h_260 ?_
     refine CW.skip ?_
     refine QW.then_n ?_
     refine CW.seq ?_
     refine CW.block ?_
     refine CW.seq ?_
     refine CW.region_qa wide (by kernel_rfl) st_257 ?_
     refine HL.val Wanted.none (fun wq sq => (Runs.move rfl)) ?_
     refine HL.val Wanted.none (fun wq sq => (Runs.move rfl)) ?_
     refine HL.val Wanted.none (fun wq sq => (Runs.move rfl)) ?_
     refine HL.val Wanted.none (fun wq sq => (Runs.add rfl rfl rfl)) ?_
     obtain ⟨⟨p_261, q_262⟩, H⟩ := H
     obtain ⟨a_263, e_264, ms_265, hc_266, hm_267⟩ := el_get (i := (IntKind.i64.wrap ((l_181.length : Int) + x_255)).toNat) (st_257.src_sl (k := 4) rfl) (hx_237.mono (fun _ h_ => hs_253.1 _ h_)) (fz48 w) (by decide) (by ((try clear H); omega))
     obtain em_268 := inv48 hm_267
     replace em_268 : ms_265 = ([.int .i64 ((gx l_234 ((IntKind.i64.wrap ((l_181.length : Int) + x_255)).toNat)).1)] : Cs) ++ ([.int .i64 ((gx l_234 ((IntKind.i64.wrap ((l_181.length : Int) + x_255)).toNat)).2)] : Cs) := em_268
     subst em_268
     refine HL.val Wanted.none (fun wq sq => (Runs.indexAddr Tryd.underlying43 cells48 (by decide) rfl e_264 rfl p_261 (by rw [show n_232 = l_234.length from hn_236]; exact q_262) (o := ((IntKind.i64.wrap ((l_181.length : Int) + x_255)).toNat) * 2) (by first | rfl | ((try clear H); omega)))) ?_
     refine HL.val Wanted.none (fun wq sq => (Runs.fieldAddrB (off := 0) fld48_0 rfl rfl rfl)) ?_
     refine HL.val Wanted.none (fun wq sq => (Runs.load nagg3 rfl (Src.cellAt (j := 0) (Src.cut (sq.src_sl (k := 4) rfl) e_264 hc_266) rfl))) ?_
     refine HL.val Wanted.none (fun wq sq => (Runs.neq rfl rfl rfl)) ?_
     refine HL.val Wanted.none (fun wq sq => (Runs.move rfl)) ?_
     obtain ⟨c_269, H⟩ := H
     have h_270 : (((gx l_234 ((IntKind.i64.wrap ((l_181.length : Int) + x_255)).toNat)).1) != 2) = false := (bne_eq_false_iff_eq.mpr (Decidable.not_not.mp c_269))
     refine HL.on ?_ ?_; exact Wanted.guard (dj := 132) (by rfl) (evb (by rfl) h_270) (by rfl)
     refine HL.val Wanted.none (fun wq sq => (Runs.move rfl)) ?_
     refine HL.on ?_ ?_; exact Wanted.guard (dj := 132) (by rfl) (evb (by rfl) h_270) (by rfl)
     refine HL.val Wanted.none (fun wq sq => (Runs.move rfl)) ?_
     refine HL.on ?_ ?_; exact Wanted.guard (dj := 132) (by rfl) (evb (by rfl) h_270) (by rfl)
     refine HL.val Wanted.none (fun wq sq => (Runs.move rfl)) ?_
     refine HL.on ?_ ?_; exact Wanted.guard (dj := 132) (by rfl) (evb (by rfl) h_270) (by rfl)
     refine HL.val Wanted.none (fun wq sq => (Runs.add rfl rfl rfl)) ?_
     refine HL.on ?_ ?_; exact Wanted.guard (dj := 132) (by rfl) (evb (by rfl) h_270) (by rfl)
     obtain ⟨⟨p_273, q_274⟩, H⟩ := H
     obtain ⟨a_275, e_276, ms_277, hc_278, hm_279⟩ := el_get (i := (IntKind.i64.wrap ((l_181.length : Int) + x_255)).toNat) (st_257.src_sl (k := 4) rfl) (hx_237.mono (fun _ h_ => hs_253.1 _ h_)) (fz48 w) (by decide) (by ((try clear H); omega))
     obtain em_280 := inv48 hm_279
     replace em_280 : ms_277 = ([.int .i64 ((gx l_234 ((IntKind.i64.wrap ((l_181.length : Int) + x_255)).toNat)).1)] : Cs) ++ ([.int .i64 ((gx l_234 ((IntKind.i64.wrap ((l_181.length : Int) + x_255)).toNat)).2)] : Cs) := em_280
     subst em_280
     refine HL.val Wanted.none (fun wq sq => (Runs.indexAddr Tryd.underlying43 cells48 (by decide) rfl e_276 rfl p_273 (by rw [show n_232 = l_234.length from hn_236]; exact q_274) (o := ((IntKind.i64.wrap ((l_181.length : Int) + x_255)).toNat) * 2) (by first | rfl | ((try clear H); omega)))) ?_
     refine HL.on ?_ ?_; exact Wanted.guard (dj := 132) (by rfl) (evb (by rfl) h_270) (by rfl)
     refine HL.val Wanted.none (fun wq sq => (Runs.fieldAddrB (off := 1) fld48_1 rfl rfl rfl)) ?_
     refine HL.on ?_ ?_; exact Wanted.guard (dj := 132) (by rfl) (evb (by rfl) h_270) (by rfl)
     refine HL.val Wanted.none (fun wq sq => (Runs.load nagg3 rfl (Src.cellAt (j := 1) (Src.cut (sq.src_sl (k := 4) rfl) e_276 hc_278) rfl))) ?_
     refine HL.on ?_ ?_; exact Wanted.guard (dj := 132) (by rfl) (evb (by rfl) h_270) (by rfl)
     refine HL.val Wanted.none (fun wq sq => (Runs.move rfl)) ?_
     refine HL.on ?_ ?_; exact Wanted.guard (dj := 132) (by rfl) (evb (by rfl) h_270) (by rfl)
     refine HL.val Wanted.none (fun wq sq => (Runs.move rfl)) ?_
     refine HL.on ?_ ?_; exact Wanted.guard (dj := 132) (by rfl) (evb (by rfl) h_270) (by rfl)
     refine HL.val Wanted.none (fun wq sq => (Runs.add rfl rfl rfl)) ?_
     refine HL.on ?_ ?_; exact Wanted.guard (dj := 132) (by rfl) (evb (by rfl) h_270) (by rfl)
     refine HL.val Wanted.none (fun wq sq => (Runs.move rfl)) ?_
     refine HL.on ?_ ?_; exact Wanted.guard (dj := 132) (by rfl) (evb (by rfl) h_270) (by rfl)
     obtain ⟨z_281, H⟩ := H
     obtain ⟨x_282, e_283, H⟩ := H
     refine HL.val Wanted.none (fun wq sq => (Runs.rem rfl rfl z_281 e_283)) ?_
     refine HL.on ?_ ?_; exact Wanted.guard (dj := 132) (by rfl) (evb (by rfl) h_270) (by rfl)
     refine HL.val Wanted.none (fun wq sq => (Runs.add rfl rfl rfl)) ?_
     refine HL.on ?_ ?_; exact Wanted.guard (dj := 132) (by rfl) (evb (by rfl) h_270) (by rfl)
     refine HL.val Wanted.none (fun wq sq => (Runs.neq rfl rfl rfl)) ?_
     refine HL.val Wanted.none (fun wq sq => (Runs.pick_f (evb rfl h_270) rfl)) ?_
     refine HL.nil (fun w_284 st_285 => ?_)
     refine WL.nil (QW.then_n ?_)
     obtain ⟨c_286, H⟩ := H
     have h_287 : (((gx l_234 ((IntKind.i64.wrap ((l_181.length : Int) + x_255)).toNat)).2) != (IntKind.i64.wrap (2 + x_282))) = false := (bne_eq_false_iff_eq.mpr (Decidable.not_not.mp c_286))
     refine CW.cf rfl h_287 ?_
     refine CW.skip ?_
     refine QW.blk_n ?_
     refine QW.then_n ?_
     refine CW.region ?_
     refine WL.val Wanted.none (Runs.move rfl) ?_
     refine WL.val Wanted.none (Runs.add rfl rfl rfl) ?_
     refine WL.val Wanted.none (Runs.assign rfl) ?_
     refine WL.nil ?_
     exact QW.at _ (by repeat' constructor) ⟨T_252, b_254, IntKind.i64.wrap (x_255 + 1), rfl, H, hs_253, st_285⟩
    ·have h_260 : (decide (x_255 < (IntKind.i64.wrap (x_108 + 1)))) = false := (decide_eq_false c_259)
     refine CW.cf rfl h_260 ?_
     refine CW.exit ?_
     refine QW.then_x ?_
     refine QW.then_x ?_
     refine QW.blk_x ?_
     refine QW.then_n ?_
     refine CW.seq (CW.region ?_)
     refine WL.val Wanted.none (Runs.move rfl) ?_
     refine WL.val Wanted.none (Runs.load_mid row39 rfl st_257 (i := 5) rfl (part_mid (pre := (([] : Cs))) (mid := (([.int .u64 a_203_0] : Cs) ++ (([.int .u64 a_203_1] : Cs) ++ iv .u8 l_204_2))) (post := (([] : Cs))) (by first | rfl | simp only [List.append_assoc, List.append_nil, List.nil_append, List.cons_append]) (by first | rfl | simp only [List.length_append, List.length_cons, List.length_nil, iv_length]) (by first | rfl | simp only [List.length_append, List.length_cons, List.length_nil, iv_length, hl_205_2])) (by first | rfl | simp only [List.length_append, List.length_cons, List.length_nil, iv_length, hl_205_2])) ?_
     have st_288 := (St.pickT (L := [_, _, _, _, _, _, _, _, _, _]) st_257 [6, 0, 1, 2, 3, 4, 5, 7, 8, 9] (by decide))
     replace st_288 : St w w_256 (.cells b_48 (([.pointer (some ⟨b_17, 0, none⟩)] : Cs) ++ (iv .u8 l_196_1 ++ (([.int .i64 a_200_2] : Cs) ++ (([.int .u64 a_200_3] : Cs) ++ (([.int .u64 a_200_4] : Cs) ++ (([.int .u64 a_200_5] : Cs) ++ (iv .u8 l_196_6 ++ (([.int .u64 a_200_7] : Cs) ++ ([.int .u64 a_200_8] : Cs))))))))) 98 :: .cells b_17 (([.slice A_222_0 n_223_0 c_224_0] : Cs) ++ (([.slice A_222_1 n_223_1 c_224_1] : Cs) ++ (([.int .i64 a_229_2] : Cs) ++ (([.bool a_229_3] : Cs) ++ ([.slice A_222_4 n_223_4 c_224_4] : Cs))))) 95 :: .sl A_222_0 c_224_0 n_223_0 x_226_0 25 1 :: .sl A_222_1 c_224_1 n_223_1 x_226_1 124 2 :: .sl A_222_4 c_224_4 n_223_4 x_226_4 48 2 :: .sl A_231 c_233 n_232 x_235 48 2 :: .cells B_211 (([.int .u64 a_203_0] : Cs) ++ (([.int .u64 a_203_1] : Cs) ++ iv .u8 l_204_2)) 39 :: .sl A_178 c_180 n_179 x_182 48 2 :: .sl A_119 c_120 n_121 x_117 42 2 :: .cells B_1 (iv .u8 l0) 23 :: (T_252 ++ R)) := st_288
     have st_289 : St w w_256 (.cells b_48 (([.pointer (some ⟨b_17, 0, none⟩)] : Cs) ++ (iv .u8 l_196_1 ++ (([.int .i64 a_200_2] : Cs) ++ (([.int .u64 a_200_3] : Cs) ++ (([.int .u64 a_200_4] : Cs) ++ (([.int .u64 a_200_5] : Cs) ++ (iv .u8 l_196_6 ++ (([.int .u64 a_200_7] : Cs) ++ ([.int .u64 a_200_8] : Cs))))))))) 98 :: .cells b_17 (([.slice A_222_0 n_223_0 c_224_0] : Cs) ++ (([.slice A_222_1 n_223_1 c_224_1] : Cs) ++ (([.int .i64 a_229_2] : Cs) ++ (([.bool a_229_3] : Cs) ++ ([.slice A_222_4 n_223_4 c_224_4] : Cs))))) 95 :: .sl A_222_0 c_224_0 n_223_0 x_226_0 25 1 :: .sl A_222_1 c_224_1 n_223_1 x_226_1 124 2 :: .sl A_222_4 c_224_4 n_223_4 x_226_4 48 2 :: (T_252 ++ (.sl A_231 c_233 n_232 x_235 48 2 :: .cells B_211 (([.int .u64 a_203_0] : Cs) ++ (([.int .u64 a_203_1] : Cs) ++ iv .u8 l_204_2)) 39 :: .sl A_178 c_180 n_179 x_182 48 2 :: .sl A_119 c_120 n_121 x_117 42 2 :: .cells B_1 (iv .u8 l0) 23 :: R))) := St.hide (A := [_, _, _, _, _]) (B := [_, _, _, _, _]) (T := T_252) (R := R) st_288
     obtain ⟨l_296_0_0, l_296_0_1, a_300_0_2, a_300_0_3, l_296_0_4, l_296_1, a_300_2, a_300_3, a_300_4, a_300_5, l_296_6, a_300_7, a_300_8, hr_290, H⟩ := H
     refine WL.call Wanted.none ent15 rfl (journal_Journal_Adopt.calls w w_256 T_252 (.sl A_231 c_233 n_232 x_235 48 2 :: .cells B_211 (([.int .u64 a_203_0] : Cs) ++ (([.int .u64 a_203_1] : Cs) ++ iv .u8 l_204_2)) 39 :: .sl A_178 c_180 n_179 x_182 48 2 :: .sl A_119 c_120 n_121 x_117 42 2 :: .cells B_1 (iv .u8 l0) 23 :: R) l_225_0 l_225_1 a_229_2 a_229_3 l_225_4 l_196_1 a_200_2 a_200_3 a_200_4 a_200_5 l_196_6 a_200_7 a_200_8 a_203_0 a_203_1 l_204_2 1099511627776 b_48 b_17 A_222_0 n_223_0 c_224_0 x_226_0 A_222_1 n_223_1 c_224_1 x_226_1 A_222_4 n_223_4 c_224_4 x_226_4  st_289 (hn_227_0) (hx_228_0.mono (fun _ h_ => hs_253.1 _ h_)) (hn_227_1) (hx_228_1.mono (fun _ h_ => hs_253.1 _ h_)) (hn_227_4) (hx_228_4.mono (fun _ h_ => hs_253.1 _ h_)) hl_201_1 hl_201_6 hl_205_2 l_296_0_0 l_296_0_1 a_300_0_2 a_300_0_3 l_296_0_4 l_296_1 a_300_2 a_300_3 a_300_4 a_300_5 l_296_6 a_300_7 a_300_8 hr_290) ?_
     rintro _ w_302 ⟨T_291, A_293_0_0, n_294_0_0, c_295_0_0, x_297_0_0, A_293_0_1, n_294_0_1, c_295_0_1, x_297_0_1, A_293_0_4, n_294_0_4, c_295_0_4, x_297_0_4, hs_292, hn_298_0_0, hx_299_0_0, hn_298_0_1, hx_299_0_1, hn_298_0_4, hx_299_0_4, hl_301_1, hl_301_6, rfl, sc_304⟩
     have st_303 : St w w_302 (.cells b_48 (([.pointer (some ⟨b_17, 0, none⟩)] : Cs) ++ (iv .u8 l_296_1 ++ (([.int .i64 a_300_2] : Cs) ++ (([.int .u64 a_300_3] : Cs) ++ (([.int .u64 a_300_4] : Cs) ++ (([.int .u64 a_300_5] : Cs) ++ (iv .u8 l_296_6 ++ (([.int .u64 a_300_7] : Cs) ++ ([.int .u64 a_300_8] : Cs))))))))) 98 :: .cells b_17 (([.slice A_293_0_0 n_294_0_0 c_295_0_0] : Cs) ++ (([.slice A_293_0_1 n_294_0_1 c_295_0_1] : Cs) ++ (([.int .i64 a_300_0_2] : Cs) ++ (([.bool a_300_0_3] : Cs) ++ ([.slice A_293_0_4 n_294_0_4 c_295_0_4] : Cs))))) 95 :: .sl A_293_0_0 c_295_0_0 n_294_0_0 x_297_0_0 25 1 :: .sl A_293_0_1 c_295_0_1 n_294_0_1 x_297_0_1 124 2 :: .sl A_293_0_4 c_295_0_4 n_294_0_4 x_297_0_4 48 2 :: .sl A_231 c_233 n_232 x_235 48 2 :: .cells B_211 (([.int .u64 a_203_0] : Cs) ++ (([.int .u64 a_203_1] : Cs) ++ iv .u8 l_204_2)) 39 :: .sl A_178 c_180 n_179 x_182 48 2 :: .sl A_119 c_120 n_121 x_117 42 2 :: .cells B_1 (iv .u8 l0) 23 :: (T_291 ++ R)) := St.unhide (A := [_, _, _, _, _]) (B := [_, _, _, _, _]) (T := T_291) (R := R) sc_304
     refine ⟨_, rfl, ?_⟩
     refine WL.nil (QW.then_n ?_)
     refine CW.seq (CW.region ?_)
     refine WL.val Wanted.none (Runs.move rfl) ?_
     refine WL.val Wanted.none (Runs.move rfl) ?_
     refine WL.val Wanted.none (Runs.add rfl rfl rfl) ?_
     refine WL.val Wanted.none (Runs.move rfl) ?_
     obtain ⟨z_305, H⟩ := H
     obtain ⟨x_306, e_307, H⟩ := H
     refine WL.val Wanted.none (Runs.rem rfl rfl z_305 e_307) ?_
     refine WL.val Wanted.none (Runs.assign rfl) ?_
     refine WL.nil (QW.then_n ?_)
     refine CW.seq ?_
     refine CW.seq (CW.region ?_)
     refine WL.val Wanted.none (Runs.move rfl) ?_
     have st_308 : St w w_302 (.cells b_48 (([.pointer (some ⟨b_17, 0, none⟩)] : Cs) ++ (iv .u8 l_296_1 ++ (([.int .i64 a_300_2] : Cs) ++ (([.int .u64 a_300_3] : Cs) ++ (([.int .u64 a_300_4] : Cs) ++ (([.int .u64 a_300_5] : Cs) ++ (iv .u8 l_296_6 ++ (([.int .u64 a_300_7] : Cs) ++ ([.int .u64 a_300_8] : Cs))))))))) 98 :: .cells b_17 (([.slice A_293_0_0 n_294_0_0 c_295_0_0] : Cs) ++ (([.slice A_293_0_1 n_294_0_1 c_295_0_1] : Cs) ++ (([.int .i64 a_300_0_2] : Cs) ++ (([.bool a_300_0_3] : Cs) ++ ([.slice A_293_0_4 n_294_0_4 c_295_0_4] : Cs))))) 95 :: .sl A_293_0_0 c_295_0_0 n_294_0_0 x_297_0_0 25 1 :: .sl A_293_0_1 c_295_0_1 n_294_0_1 x_297_0_1 124 2 :: .sl A_293_0_4 c_295_0_4 n_294_0_4 x_297_0_4 48 2 :: (T_291 ++ (.sl A_231 c_233 n_232 x_235 48 2 :: .cells B_211 (([.int .u64 a_203_0] : Cs) ++ (([.int .u64 a_203_1] : Cs) ++ iv .u8 l_204_2)) 39 :: .sl A_178 c_180 n_179 x_182 48 2 :: .sl A_119 c_120 n_121 x_117 42 2 :: .cells B_1 (iv .u8 l0) 23 :: R))) := St.hide (A := [_, _, _, _, _]) (B := [_, _, _, _, _]) (T := T_291) (R := R) st_303
     obtain ⟨l_315_0_0, l_315_0_1, a_319_0_2, a_319_0_3, l_315_0_4, l_315_1, a_319_2, a_319_3, a_319_4, a_319_5, l_315_6, a_319_7, a_319_8, a_322, hr_309, H⟩ := H
     refine WL.call Wanted.none ent16 rfl (journal_Journal_Room.calls w w_302 T_291 (.sl A_231 c_233 n_232 x_235 48 2 :: .cells B_211 (([.int .u64 a_203_0] : Cs) ++ (([.int .u64 a_203_1] : Cs) ++ iv .u8 l_204_2)) 39 :: .sl A_178 c_180 n_179 x_182 48 2 :: .sl A_119 c_120 n_121 x_117 42 2 :: .cells B_1 (iv .u8 l0) 23 :: R) l_296_0_0 l_296_0_1 a_300_0_2 a_300_0_3 l_296_0_4 l_296_1 a_300_2 a_300_3 a_300_4 a_300_5 l_296_6 a_300_7 a_300_8 b_48 b_17 A_293_0_0 n_294_0_0 c_295_0_0 x_297_0_0 A_293_0_1 n_294_0_1 c_295_0_1 x_297_0_1 A_293_0_4 n_294_0_4 c_295_0_4 x_297_0_4  st_308 (hn_298_0_0) hx_299_0_0 (hn_298_0_1) hx_299_0_1 (hn_298_0_4) hx_299_0_4 hl_301_1 hl_301_6 l_315_0_0 l_315_0_1 a_319_0_2 a_319_0_3 l_315_0_4 l_315_1 a_319_2 a_319_3 a_319_4 a_319_5 l_315_6 a_319_7 a_319_8 a_322 hr_309) ?_
     rintro _ w_323 ⟨T_310, A_312_0_0, n_313_0_0, c_314_0_0, x_316_0_0, A_312_0_1, n_313_0_1, c_314_0_1, x_316_0_1, A_312_0_4, n_313_0_4, c_314_0_4, x_316_0_4, hs_311, hn_317_0_0, hx_318_0_0, hn_317_0_1, hx_318_0_1, hn_317_0_4, hx_318_0_4, hl_320_1, hl_320_6, rfl, sc_325⟩
     have st_324 : St w w_323 (.cells b_48 (([.pointer (some ⟨b_17, 0, none⟩)] : Cs) ++ (iv .u8 l_315_1 ++ (([.int .i64 a_319_2] : Cs) ++ (([.int .u64 a_319_3] : Cs) ++ (([.int .u64 a_319_4] : Cs) ++ (([.int .u64 a_319_5] : Cs) ++ (iv .u8 l_315_6 ++ (([.int .u64 a_319_7] : Cs) ++ ([.int .u64 a_319_8] : Cs))))))))) 98 :: .cells b_17 (([.slice A_312_0_0 n_313_0_0 c_314_0_0] : Cs) ++ (([.slice A_312_0_1 n_313_0_1 c_314_0_1] : Cs) ++ (([.int .i64 a_319_0_2] : Cs) ++ (([.bool a_319_0_3] : Cs) ++ ([.slice A_312_0_4 n_313_0_4 c_314_0_4] : Cs))))) 95 :: .sl A_312_0_0 c_314_0_0 n_313_0_0 x_316_0_0 25 1 :: .sl A_312_0_1 c_314_0_1 n_313_0_1 x_316_0_1 124 2 :: .sl A_312_0_4 c_314_0_4 n_313_0_4 x_316_0_4 48 2 :: .sl A_231 c_233 n_232 x_235 48 2 :: .cells B_211 (([.int .u64 a_203_0] : Cs) ++ (([.int .u64 a_203_1] : Cs) ++ iv .u8 l_204_2)) 39 :: .sl A_178 c_180 n_179 x_182 48 2 :: .sl A_119 c_120 n_121 x_117 42 2 :: .cells B_1 (iv .u8 l0) 23 :: (T_310 ++ R)) := St.unhide (A := [_, _, _, _, _]) (B := [_, _, _, _, _]) (T := T_310) (R := R) sc_325
     refine ⟨_, rfl, ?_⟩
     refine WL.val Wanted.none (Runs.move rfl) ?_
     refine WL.val Wanted.none (Runs.move rfl) ?_
     obtain ⟨x_326, e_327, H⟩ := H
     refine WL.val Wanted.none (Runs.sub rfl rfl e_327) ?_
     refine WL.val Wanted.none (Runs.conv Tryd.underlying37 ⟨_, Tryd.underlying3⟩ rfl rfl) ?_
     refine WL.val Wanted.none (Runs.neq rfl rfl rfl) ?_
     refine WL.val Wanted.none (Runs.move rfl) ?_
     obtain ⟨c_328, H⟩ := H
     have h_329 : (a_322 != (IntKind.u64.wrap x_326)) = false := (bne_eq_false_iff_eq.mpr (Decidable.not_not.mp c_328))
     refine WL.on ?_ ?_; exact Wanted.guard (dj := 163) (by rfl) (evb (by rfl) h_329) (by rfl)
     refine WL.val Wanted.none (Runs.move rfl) ?_
     refine WL.on ?_ ?_; exact Wanted.guard (dj := 163) (by rfl) (evb (by rfl) h_329) (by rfl)
     have st_330 : St w w_323 (.cells b_48 (([.pointer (some ⟨b_17, 0, none⟩)] : Cs) ++ (iv .u8 l_315_1 ++ (([.int .i64 a_319_2] : Cs) ++ (([.int .u64 a_319_3] : Cs) ++ (([.int .u64 a_319_4] : Cs) ++ (([.int .u64 a_319_5] : Cs) ++ (iv .u8 l_315_6 ++ (([.int .u64 a_319_7] : Cs) ++ ([.int .u64 a_319_8] : Cs))))))))) 98 :: .cells b_17 (([.slice A_312_0_0 n_313_0_0 c_314_0_0] : Cs) ++ (([.slice A_312_0_1 n_313_0_1 c_314_0_1] : Cs) ++ (([.int .i64 a_319_0_2] : Cs) ++ (([.bool a_319_0_3] : Cs) ++ ([.slice A_312_0_4 n_313_0_4 c_314_0_4] : Cs))))) 95 :: .sl A_312_0_0 c_314_0_0 n_313_0_0 x_316_0_0 25 1 :: .sl A_312_0_1 c_314_0_1 n_313_0_1 x_316_0_1 124 2 :: .sl A_312_0_4 c_314_0_4 n_313_0_4 x_316_0_4 48 2 :: (T_310 ++ (.sl A_231 c_233 n_232 x_235 48 2 :: .cells B_211 (([.int .u64 a_203_0] : Cs) ++ (([.int .u64 a_203_1] : Cs) ++ iv .u8 l_204_2)) 39 :: .sl A_178 c_180 n_179 x_182 48 2 :: .sl A_119 c_120 n_121 x_117 42 2 :: .cells B_1 (iv .u8 l0) 23 :: R))) := St.hide (A := [_, _, _, _, _]) (B := [_, _, _, _, _]) (T := T_310) (R := R) st_324
     obtain ⟨l_337_0_0, l_337_0_1, a_341_0_2, a_341_0_3, l_337_0_4, l_337_1, a_341_2, a_341_3, a_341_4, a_341_5, l_337_6, a_341_7, a_341_8, a_344_0, a_344_1, l_345_2, hr_331, H⟩ := H
     refine WL.call Wanted.none ent17 rfl (journal_Journal_Empty.calls w w_323 T_310 (.sl A_231 c_233 n_232 x_235 48 2 :: .cells B_211 (([.int .u64 a_203_0] : Cs) ++ (([.int .u64 a_203_1] : Cs) ++ iv .u8 l_204_2)) 39 :: .sl A_178 c_180 n_179 x_182 48 2 :: .sl A_119 c_120 n_121 x_117 42 2 :: .cells B_1 (iv .u8 l0) 23 :: R) l_315_0_0 l_315_0_1 a_319_0_2 a_319_0_3 l_315_0_4 l_315_1 a_319_2 a_319_3 a_319_4 a_319_5 l_315_6 a_319_7 a_319_8 b_48 b_17 A_312_0_0 n_313_0_0 c_314_0_0 x_316_0_0 A_312_0_1 n_313_0_1 c_314_0_1 x_316_0_1 A_312_0_4 n_313_0_4 c_314_0_4 x_316_0_4  st_330 (hn_317_0_0) hx_318_0_0 (hn_317_0_1) hx_318_0_1 (hn_317_0_4) hx_318_0_4 hl_320_1 hl_320_6 l_337_0_0 l_337_0_1 a_341_0_2 a_341_0_3 l_337_0_4 l_337_1 a_341_2 a_341_3 a_341_4 a_341_5 l_337_6 a_341_7 a_341_8 a_344_0 a_344_1 l_345_2 hr_331) ?_
     rintro _ w_347 ⟨T_332, A_334_0_0, n_335_0_0, c_336_0_0, x_338_0_0, A_334_0_1, n_335_0_1, c_336_0_1, x_338_0_1, A_334_0_4, n_335_0_4, c_336_0_4, x_338_0_4, hs_333, hn_339_0_0, hx_340_0_0, hn_339_0_1, hx_340_0_1, hn_339_0_4, hx_340_0_4, hl_342_1, hl_342_6, hl_346_2, rfl, sc_349⟩
     have st_348 : St w w_347 (.cells b_48 (([.pointer (some ⟨b_17, 0, none⟩)] : Cs) ++ (iv .u8 l_337_1 ++ (([.int .i64 a_341_2] : Cs) ++ (([.int .u64 a_341_3] : Cs) ++ (([.int .u64 a_341_4] : Cs) ++ (([.int .u64 a_341_5] : Cs) ++ (iv .u8 l_337_6 ++ (([.int .u64 a_341_7] : Cs) ++ ([.int .u64 a_341_8] : Cs))))))))) 98 :: .cells b_17 (([.slice A_334_0_0 n_335_0_0 c_336_0_0] : Cs) ++ (([.slice A_334_0_1 n_335_0_1 c_336_0_1] : Cs) ++ (([.int .i64 a_341_0_2] : Cs) ++ (([.bool a_341_0_3] : Cs) ++ ([.slice A_334_0_4 n_335_0_4 c_336_0_4] : Cs))))) 95 :: .sl A_334_0_0 c_336_0_0 n_335_0_0 x_338_0_0 25 1 :: .sl A_334_0_1 c_336_0_1 n_335_0_1 x_338_0_1 124 2 :: .sl A_334_0_4 c_336_0_4 n_335_0_4 x_338_0_4 48 2 :: .sl A_231 c_233 n_232 x_235 48 2 :: .cells B_211 (([.int .u64 a_203_0] : Cs) ++ (([.int .u64 a_203_1] : Cs) ++ iv .u8 l_204_2)) 39 :: .sl A_178 c_180 n_179 x_182 48 2 :: .sl A_119 c_120 n_121 x_117 42 2 :: .cells B_1 (iv .u8 l0) 23 :: (T_332 ++ R)) := St.unhide (A := [_, _, _, _, _]) (B := [_, _, _, _, _]) (T := T_332) (R := R) sc_349
     refine ⟨_, rfl, ?_⟩
     refine WL.on ?_ ?_; exact Wanted.guard (dj := 163) (by rfl) (evb (by rfl) h_329) (by rfl)
     refine WL.val Wanted.none (Runs.field_one fld39_0 nagg37 rfl (part_one (u := .int .u64 a_344_0) (pre := (([] : Cs))) (post := (([.int .u64 a_344_1] : Cs) ++ iv .u8 l_345_2)) (by first | rfl | simp only [List.append_assoc, List.append_nil, List.nil_append, List.cons_append]) (by first | rfl | simp only [List.length_append, List.length_cons, List.length_nil, iv_length]))) ?_
     refine WL.on ?_ ?_; exact Wanted.guard (dj := 163) (by rfl) (evb (by rfl) h_329) (by rfl)
     refine WL.val Wanted.none (Runs.move rfl) ?_
     refine WL.on ?_ ?_; exact Wanted.guard (dj := 163) (by rfl) (evb (by rfl) h_329) (by rfl)
     refine WL.val Wanted.none (Runs.conv Tryd.underlying37 ⟨_, Tryd.underlying3⟩ rfl rfl) ?_
     refine WL.on ?_ ?_; exact Wanted.guard (dj := 163) (by rfl) (evb (by rfl) h_329) (by rfl)
     refine WL.val Wanted.none (Runs.neq rfl rfl rfl) ?_
     refine WL.val Wanted.none (Runs.pick_f (evb rfl h_329) rfl) ?_
     refine WL.nil (QW.then_n ?_)
     obtain ⟨c_350, H⟩ := H
     have h_351 : (a_344_0 != (IntKind.u64.wrap x_306)) = false := (bne_eq_false_iff_eq.mpr (Decidable.not_not.mp c_350))
     refine CW.cf rfl h_351 ?_
     refine CW.skip ?_
     refine QW.then_n ?_
     refine CW.region ?_
     refine WL.val Wanted.none (Runs.move rfl) ?_
     refine WL.val Wanted.none (Runs.move rfl) ?_
     have st_352 : St w w_347 (.cells b_48 (([.pointer (some ⟨b_17, 0, none⟩)] : Cs) ++ (iv .u8 l_337_1 ++ (([.int .i64 a_341_2] : Cs) ++ (([.int .u64 a_341_3] : Cs) ++ (([.int .u64 a_341_4] : Cs) ++ (([.int .u64 a_341_5] : Cs) ++ (iv .u8 l_337_6 ++ (([.int .u64 a_341_7] : Cs) ++ ([.int .u64 a_341_8] : Cs))))))))) 98 :: .cells b_17 (([.slice A_334_0_0 n_335_0_0 c_336_0_0] : Cs) ++ (([.slice A_334_0_1 n_335_0_1 c_336_0_1] : Cs) ++ (([.int .i64 a_341_0_2] : Cs) ++ (([.bool a_341_0_3] : Cs) ++ ([.slice A_334_0_4 n_335_0_4 c_336_0_4] : Cs))))) 95 :: .sl A_334_0_0 c_336_0_0 n_335_0_0 x_338_0_0 25 1 :: .sl A_334_0_1 c_336_0_1 n_335_0_1 x_338_0_1 124 2 :: .sl A_334_0_4 c_336_0_4 n_335_0_4 x_338_0_4 48 2 :: (T_332 ++ (.sl A_231 c_233 n_232 x_235 48 2 :: .cells B_211 (([.int .u64 a_203_0] : Cs) ++ (([.int .u64 a_203_1] : Cs) ++ iv .u8 l_204_2)) 39 :: .sl A_178 c_180 n_179 x_182 48 2 :: .sl A_119 c_120 n_121 x_117 42 2 :: .cells B_1 (iv .u8 l0) 23 :: R))) := St.hide (A := [_, _, _, _, _]) (B := [_, _, _, _, _]) (T := T_332) (R := R) st_348
     obtain ⟨l_359_0_0, l_359_0_1, a_363_0_2, a_363_0_3, l_359_0_4, l_359_1, a_363_2, a_363_3, a_363_4, a_363_5, l_359_6, a_363_7, a_363_8, a_366_0, a_366_1, l_367_2, hr_353, H⟩ := H
     refine WL.call Wanted.none ent17 rfl (journal_Journal_Empty.calls w w_347 T_332 (.sl A_231 c_233 n_232 x_235 48 2 :: .cells B_211 (([.int .u64 a_203_0] : Cs) ++ (([.int .u64 a_203_1] : Cs) ++ iv .u8 l_204_2)) 39 :: .sl A_178 c_180 n_179 x_182 48 2 :: .sl A_119 c_120 n_121 x_117 42 2 :: .cells B_1 (iv .u8 l0) 23 :: R) l_337_0_0 l_337_0_1 a_341_0_2 a_341_0_3 l_337_0_4 l_337_1 a_341_2 a_341_3 a_341_4 a_341_5 l_337_6 a_341_7 a_341_8 b_48 b_17 A_334_0_0 n_335_0_0 c_336_0_0 x_338_0_0 A_334_0_1 n_335_0_1 c_336_0_1 x_338_0_1 A_334_0_4 n_335_0_4 c_336_0_4 x_338_0_4  st_352 (hn_339_0_0) hx_340_0_0 (hn_339_0_1) hx_340_0_1 (hn_339_0_4) hx_340_0_4 hl_342_1 hl_342_6 l_359_0_0 l_359_0_1 a_363_0_2 a_363_0_3 l_359_0_4 l_359_1 a_363_2 a_363_3 a_363_4 a_363_5 l_359_6 a_363_7 a_363_8 a_366_0 a_366_1 l_367_2 hr_353) ?_
     rintro _ w_369 ⟨T_354, A_356_0_0, n_357_0_0, c_358_0_0, x_360_0_0, A_356_0_1, n_357_0_1, c_358_0_1, x_360_0_1, A_356_0_4, n_357_0_4, c_358_0_4, x_360_0_4, hs_355, hn_361_0_0, hx_362_0_0, hn_361_0_1, hx_362_0_1, hn_361_0_4, hx_362_0_4, hl_364_1, hl_364_6, hl_368_2, rfl, sc_371⟩
     have st_370 : St w w_369 (.cells b_48 (([.pointer (some ⟨b_17, 0, none⟩)] : Cs) ++ (iv .u8 l_359_1 ++ (([.int .i64 a_363_2] : Cs) ++ (([.int .u64 a_363_3] : Cs) ++ (([.int .u64 a_363_4] : Cs) ++ (([.int .u64 a_363_5] : Cs) ++ (iv .u8 l_359_6 ++ (([.int .u64 a_363_7] : Cs) ++ ([.int .u64 a_363_8] : Cs))))))))) 98 :: .cells b_17 (([.slice A_356_0_0 n_357_0_0 c_358_0_0] : Cs) ++ (([.slice A_356_0_1 n_357_0_1 c_358_0_1] : Cs) ++ (([.int .i64 a_363_0_2] : Cs) ++ (([.bool a_363_0_3] : Cs) ++ ([.slice A_356_0_4 n_357_0_4 c_358_0_4] : Cs))))) 95 :: .sl A_356_0_0 c_358_0_0 n_357_0_0 x_360_0_0 25 1 :: .sl A_356_0_1 c_358_0_1 n_357_0_1 x_360_0_1 124 2 :: .sl A_356_0_4 c_358_0_4 n_357_0_4 x_360_0_4 48 2 :: .sl A_231 c_233 n_232 x_235 48 2 :: .cells B_211 (([.int .u64 a_203_0] : Cs) ++ (([.int .u64 a_203_1] : Cs) ++ iv .u8 l_204_2)) 39 :: .sl A_178 c_180 n_179 x_182 48 2 :: .sl A_119 c_120 n_121 x_117 42 2 :: .cells B_1 (iv .u8 l0) 23 :: (T_354 ++ R)) := St.unhide (A := [_, _, _, _, _]) (B := [_, _, _, _, _]) (T := T_354) (R := R) sc_371
     refine ⟨_, rfl, ?_⟩
     have st_372 : St w w_369 (.cells b_48 (([.pointer (some ⟨b_17, 0, none⟩)] : Cs) ++ (iv .u8 l_359_1 ++ (([.int .i64 a_363_2] : Cs) ++ (([.int .u64 a_363_3] : Cs) ++ (([.int .u64 a_363_4] : Cs) ++ (([.int .u64 a_363_5] : Cs) ++ (iv .u8 l_359_6 ++ (([.int .u64 a_363_7] : Cs) ++ ([.int .u64 a_363_8] : Cs))))))))) 98 :: .cells b_17 (([.slice A_356_0_0 n_357_0_0 c_358_0_0] : Cs) ++ (([.slice A_356_0_1 n_357_0_1 c_358_0_1] : Cs) ++ (([.int .i64 a_363_0_2] : Cs) ++ (([.bool a_363_0_3] : Cs) ++ ([.slice A_356_0_4 n_357_0_4 c_358_0_4] : Cs))))) 95 :: .sl A_356_0_0 c_358_0_0 n_357_0_0 x_360_0_0 25 1 :: .sl A_356_0_1 c_358_0_1 n_357_0_1 x_360_0_1 124 2 :: .sl A_356_0_4 c_358_0_4 n_357_0_4 x_360_0_4 48 2 :: (T_354 ++ (.sl A_231 c_233 n_232 x_235 48 2 :: .cells B_211 (([.int .u64 a_203_0] : Cs) ++ (([.int .u64 a_203_1] : Cs) ++ iv .u8 l_204_2)) 39 :: .sl A_178 c_180 n_179 x_182 48 2 :: .sl A_119 c_120 n_121 x_117 42 2 :: .cells B_1 (iv .u8 l0) 23 :: R))) := St.hide (A := [_, _, _, _, _]) (B := [_, _, _, _, _]) (T := T_354) (R := R) st_370
     obtain ⟨l_379_0_0, l_379_0_1, a_383_0_2, a_383_0_3, l_379_0_4, l_379_1, a_383_2, a_383_3, a_383_4, a_383_5, l_379_6, a_383_7, a_383_8, hr_373, H⟩ := H
     refine WL.call Wanted.none ent15 rfl (journal_Journal_Adopt.calls w w_369 T_354 (.sl A_231 c_233 n_232 x_235 48 2 :: .cells B_211 (([.int .u64 a_203_0] : Cs) ++ (([.int .u64 a_203_1] : Cs) ++ iv .u8 l_204_2)) 39 :: .sl A_178 c_180 n_179 x_182 48 2 :: .sl A_119 c_120 n_121 x_117 42 2 :: .cells B_1 (iv .u8 l0) 23 :: R) l_359_0_0 l_359_0_1 a_363_0_2 a_363_0_3 l_359_0_4 l_359_1 a_363_2 a_363_3 a_363_4 a_363_5 l_359_6 a_363_7 a_363_8 a_366_0 a_366_1 l_367_2 1099511627776 b_48 b_17 A_356_0_0 n_357_0_0 c_358_0_0 x_360_0_0 A_356_0_1 n_357_0_1 c_358_0_1 x_360_0_1 A_356_0_4 n_357_0_4 c_358_0_4 x_360_0_4  st_372 (hn_361_0_0) hx_362_0_0 (hn_361_0_1) hx_362_0_1 (hn_361_0_4) hx_362_0_4 hl_364_1 hl_364_6 hl_368_2 l_379_0_0 l_379_0_1 a_383_0_2 a_383_0_3 l_379_0_4 l_379_1 a_383_2 a_383_3 a_383_4 a_383_5 l_379_6 a_383_7 a_383_8 hr_373) ?_
     rintro _ w_385 ⟨T_374, A_376_0_0, n_377_0_0, c_378_0_0, x_380_0_0, A_376_0_1, n_377_0_1, c_378_0_1, x_380_0_1, A_376_0_4, n_377_0_4, c_378_0_4, x_380_0_4, hs_375, hn_381_0_0, hx_382_0_0, hn_381_0_1, hx_382_0_1, hn_381_0_4, hx_382_0_4, hl_384_1, hl_384_6, rfl, sc_387⟩
     have st_386 : St w w_385 (.cells b_48 (([.pointer (some ⟨b_17, 0, none⟩)] : Cs) ++ (iv .u8 l_379_1 ++ (([.int .i64 a_383_2] : Cs) ++ (([.int .u64 a_383_3] : Cs) ++ (([.int .u64 a_383_4] : Cs) ++ (([.int .u64 a_383_5] : Cs) ++ (iv .u8 l_379_6 ++ (([.int .u64 a_383_7] : Cs) ++ ([.int .u64 a_383_8] : Cs))))))))) 98 :: .cells b_17 (([.slice A_376_0_0 n_377_0_0 c_378_0_0] : Cs) ++ (([.slice A_376_0_1 n_377_0_1 c_378_0_1] : Cs) ++ (([.int .i64 a_383_0_2] : Cs) ++ (([.bool a_383_0_3] : Cs) ++ ([.slice A_376_0_4 n_377_0_4 c_378_0_4] : Cs))))) 95 :: .sl A_376_0_0 c_378_0_0 n_377_0_0 x_380_0_0 25 1 :: .sl A_376_0_1 c_378_0_1 n_377_0_1 x_380_0_1 124 2 :: .sl A_376_0_4 c_378_0_4 n_377_0_4 x_380_0_4 48 2 :: .sl A_231 c_233 n_232 x_235 48 2 :: .cells B_211 (([.int .u64 a_203_0] : Cs) ++ (([.int .u64 a_203_1] : Cs) ++ iv .u8 l_204_2)) 39 :: .sl A_178 c_180 n_179 x_182 48 2 :: .sl A_119 c_120 n_121 x_117 42 2 :: .cells B_1 (iv .u8 l0) 23 :: (T_374 ++ R)) := St.unhide (A := [_, _, _, _, _]) (B := [_, _, _, _, _]) (T := T_374) (R := R) sc_387
     refine ⟨_, rfl, ?_⟩
     refine WL.nil ?_
     refine QW.blk_n ?_
     refine QW.then_n ?_
     refine CW.region ?_
     refine WL.val Wanted.none (Runs.move rfl) ?_
     refine WL.val Wanted.none (Runs.add rfl rfl rfl) ?_
     refine WL.val Wanted.none (Runs.assign rfl) ?_
     refine WL.nil ?_
     have st_386' := (St.pickT (L := [_, _, _, _, _, _, _, _, _, _]) st_386 [1, 2, 3, 4, 0, 9] (by decide))
     exact QW.at _ (by repeat' constructor) ⟨T_374, A_376_0_0, c_378_0_0, n_377_0_0, x_380_0_0, l_379_0_0, A_376_0_1, c_378_0_1, n_377_0_1, x_380_0_1, l_379_0_1, A_376_0_4, c_378_0_4, n_377_0_4, x_380_0_4, l_379_0_4, a_383_0_2, a_383_0_3, l_379_1, a_383_2, a_383_3, a_383_4, a_383_5, l_379_6, a_383_7, a_383_8, b_254, x_306, IntKind.i64.wrap (x_95 + 1), rfl, H, ((((((((((hs_59.trans hs_114).trans hs_168).trans hs_192).trans hs_221).trans hs_253).trans hs_292).trans hs_311).trans hs_333).trans hs_355).trans hs_375), hn_381_0_0, hx_382_0_0, hn_381_0_1, hx_382_0_1, hn_381_0_4, hx_382_0_4, hl_384_1, hl_384_6, st_386'⟩
  ·have h_102 : (decide (x_95 < 10)) = false := (decide_eq_false c_101)
   refine CW.cf rfl h_102 ?_
   refine CW.exit ?_
   refine QW.then_x ?_
   refine QW.then_x ?_
   refine QW.blk_x ?_
   refine QW.then_n ?_
   refine CW.sub [(8, .bool b_93)] ⟨rfl, trivial⟩ ?_
   refine CW.seq (CW.region ?_)
   refine WL.val Wanted.none (Runs.assign rfl) ?_
   refine WL.nil (QW.then_n ?_)
   refine CW.ret ?_
   exact QW.ret1 rfl rfl ⟨rfl, st_97.ext⟩
 ·have h_100 : (decide (x_95 < (l3.length : Int))) = false := (decide_eq_false c_99)
  refine WL.off ?_ ?_; exact Wanted.guard (dj := 58) (by rfl) (evb (by rfl) h_100) (by rfl)
  refine WL.off ?_ ?_; exact Wanted.guard (dj := 58) (by rfl) (evb (by rfl) h_100) (by rfl)
  refine WL.val Wanted.none (Runs.pick_f (evb rfl h_100) rfl) ?_
  refine WL.nil (QW.then_n ?_)
  refine CW.cf rfl rfl ?_
  refine CW.exit ?_
  refine QW.then_x ?_
  refine QW.then_x ?_
  refine QW.blk_x ?_
  refine QW.then_n ?_
  refine CW.sub [(8, .bool b_93)] ⟨rfl, trivial⟩ ?_
  refine CW.seq (CW.region ?_)
  refine WL.val Wanted.none (Runs.assign rfl) ?_
  refine WL.nil (QW.then_n ?_)
  refine CW.ret ?_
  exact QW.ret1 rfl rfl ⟨rfl, st_97.ext⟩

end Go.Proofs.YtmhcjafkdmcgoaaDoor
