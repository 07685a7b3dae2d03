/- Walks: each function computes what its relation says, and a call of it ends so. Printed by a program of this session (wip/gen). -/
import Derived.Test.YtjilndiemfhapaaGx1
namespace Go.Proofs.Ytjilndiemfhapaa
open Go Go.Kr Go.RowKit
set_option linter.unusedVariables false
set_option linter.unusedSimpArgs false
/-! ### reliquarylaw15_BuffersOwn: function 3 -/
def reliquarylaw15_BuffersOwn.rel (l0 : List Int) (a1 : Int)  : Prop := (reliquarylaw15_awake.rel  ∧ (∃ (r_9 : List Int), reliquarylaw15_full.rel l0 false r_9 ∧ (∃ (a_21_0 : Int) (l_25_1 : List R60), buffers_New.rel 3 a_21_0 l_25_1 ∧ (∃ (a_36_0 : Int) (l_40_1 : List R60) (a_45 : Int), buffers_Cache_Put.rel a_21_0 l_25_1 9 r_9 a_36_0 l_40_1 a_45 ∧ ((0 ≤ (3 : Int) ∧ (3 : Int) < (r_9.length : Int)) ∧ ((0 ≤ (3 : Int) ∧ (3 : Int) < (r_9.length : Int)) ∧ (∃ m_57 : List Int, m_57 = List.set r_9 3 (bits .xor .u8 (gn r_9 3) a1) ∧ (∃ (a_66_0 : Int) (l_70_1 : List R60) (l_78 : List Int) (a_82 : Bool), buffers_Cache_Get.rel a_36_0 l_40_1 9 a_66_0 l_70_1 l_78 a_82 ∧ (¬ (a_45 ≠ 0) ∧ (¬ (¬ ((strOfNums l_78).toList = (strOfNums r_9).toList)) ∧ ((0 ≤ (4 : Int) ∧ (4 : Int) < (l_78.length : Int)) ∧ ((0 ≤ (4 : Int) ∧ (4 : Int) < (l_78.length : Int)) ∧ (∃ m_98 : List Int, m_98 = List.set l_78 4 (bits .xor .u8 (gn l_78 4) a1) ∧ (∃ (a_107_0 : Int) (l_111_1 : List R60) (l_119 : List Int) (a_123 : Bool), buffers_Cache_Get.rel a_66_0 l_70_1 9 a_107_0 l_111_1 l_119 a_123 ∧ (a_123 = true ∧ (strOfNums l_119).toList = (strOfNums r_9).toList)))))))))))))))
set_option maxHeartbeats 4000000 in
set_option maxRecDepth 100000 in
theorem reliquarylaw15_BuffersOwn.calls (w : World) (l0 : List Int) (a1 : Int) (A0 : Option Addr) (n0 : Nat) (c0 : Nat)  (hs0 : Src w A0 (iv .u8 l0)) (hn0 : n0 = l0.length) (hc0 : n0 ≤ c0)  (H : reliquarylaw15_BuffersOwn.rel l0 a1 ) :
    Calls Try.prog 3 #[.slice A0 n0 c0, .int .u8 a1] w fun e w' => e = .returned (.bool true) ∧ Below w.heap.size w w' := by
  refine CW.enter Try.func3 rfl (n := 62) rfl [.slice A0 n0 c0, .int .u8 a1] (Nat.le_of_ble_eq_true rfl) ?_
  refine CW.sub [(0, .slice A0 n0 c0), (1, .int .u8 a1)] ⟨rfl, rfl, trivial⟩ ?_
  obtain ⟨T, R, hT, hR, st0⟩ := St.start w
  refine CW.seq ?_
  refine CW.region ?_
  refine WL.val Wanted.none (Runs.assign rfl) ?_
  refine WL.nil ?_
  refine QW.then_n ?_
  refine CW.seq ?_
  refine CW.region ?_
  obtain ⟨hr_1, H⟩ := H
  refine WL.call Wanted.none ent8 rfl (reliquarylaw15_awake.calls w hr_1) ?_
  rintro _ w_2 ⟨rfl, sc_4⟩
  have st_3 : St w w_2 ((T ++ R)) := st0.below sc_4
  refine ⟨_, rfl, ?_⟩
  refine WL.val Wanted.none (Runs.assign rfl) ?_
  refine WL.nil ?_
  refine QW.then_n ?_
  refine CW.seq ?_
  refine CW.seq ?_
  refine CW.region ?_
  refine WL.val Wanted.none (Runs.move rfl) ?_
  refine WL.val Wanted.none (Runs.not rfl rfl) ?_
  refine WL.nil ?_
  refine QW.then_n ?_
  refine CW.cf rfl rfl ?_
  refine CW.skip ?_
  refine QW.then_n ?_
  refine CW.seq ?_
  refine CW.region ?_
  refine WL.val Wanted.none (Runs.move rfl) ?_
  obtain ⟨r_9, hr_5, H⟩ := H
  refine WL.call Wanted.none ent9 rfl (reliquarylaw15_full.calls w_2 l0 false A0 n0 c0 (hs0.ext st_3) (hn0) (hc0) r_9 hr_5) ?_
  rintro _ w_6 ⟨A_10, c_11, n_12, hn_13, rfl, sc_8⟩
  have st_7 : St w w_6 (.sl A_10 c_11 n_12 (iv .u8 r_9) 5 1 :: (T ++ R)) := st_3.call sc_8
  refine ⟨_, rfl, ?_⟩
  refine WL.val Wanted.none (Runs.assign rfl) ?_
  refine WL.nil ?_
  refine QW.then_n ?_
  refine CW.sub [(1, .int .u8 a1), (4, .bool false), (6, .slice A_10 n_12 c_11)] ⟨rfl, rfl, rfl, trivial⟩ ?_
  refine CW.seq ?_
  refine CW.region ?_
  refine WL.val Wanted.none (Runs.move rfl) ?_
  refine WL.val Wanted.none (Runs.bytes_str Try.underlying22 Try.underlying5 Try.underlying9 rfl (st_7.src_sl (k := 0) rfl) hn_13) ?_
  refine WL.val Wanted.none (Runs.assign rfl) ?_
  refine WL.nil ?_
  refine QW.then_n ?_
  refine CW.seq ?_
  refine CW.region ?_
  have st_15 : St w w_6 ((T ++ (.sl A_10 c_11 n_12 (iv .u8 r_9) 5 1 :: R))) := St.hide (A := []) (B := [_]) (T := T) (R := R) st_7
  obtain ⟨a_21_0, l_25_1, hr_16, H⟩ := H
  refine WL.call Wanted.none ent10 rfl (buffers_New.calls w w_6 T (.sl A_10 c_11 n_12 (iv .u8 r_9) 5 1 :: R) 3  st_15 a_21_0 l_25_1 hr_16) ?_
  rintro _ w_29 ⟨T_17, b_20, A_22_1, n_23_1, c_24_1, x_26_1, hs_18, hn_27_1, hx_28_1, rfl, sc_31⟩
  have st_30 : St w w_29 (.cells b_20 (([.int .i64 a_21_0] : List Value) ++ ([.slice A_22_1 n_23_1 c_24_1] : List Value)) 57 :: .sl A_22_1 c_24_1 n_23_1 x_26_1 60 3 :: .sl A_10 c_11 n_12 (iv .u8 r_9) 5 1 :: (T_17 ++ R)) := St.unhide (A := [_, _]) (B := [_]) (T := T_17) (R := R) sc_31
  refine ⟨_, rfl, ?_⟩
  refine WL.val Wanted.none (Runs.assign rfl) ?_
  refine WL.nil ?_
  refine QW.then_n ?_
  refine CW.seq ?_
  refine CW.region ?_
  refine WL.val Wanted.none (Runs.move rfl) ?_
  refine WL.val Wanted.none (Runs.move rfl) ?_
  have st_32 : St w w_29 (.cells b_20 (([.int .i64 a_21_0] : List Value) ++ ([.slice A_22_1 n_23_1 c_24_1] : List Value)) 57 :: .sl A_22_1 c_24_1 n_23_1 x_26_1 60 3 :: (T_17 ++ (.sl A_10 c_11 n_12 (iv .u8 r_9) 5 1 :: R))) := St.hide (A := [_, _]) (B := [_]) (T := T_17) (R := R) st_30
  obtain ⟨a_36_0, l_40_1, a_45, hr_33, H⟩ := H
  refine WL.call Wanted.none ent11 rfl (buffers_Cache_Put.calls w w_29 T_17 (.sl A_10 c_11 n_12 (iv .u8 r_9) 5 1 :: R) a_21_0 l_25_1 9 r_9 b_20 A_22_1 n_23_1 c_24_1 x_26_1 A_10 n_12 c_11 (hs_18.2 hT) (show celly (.sl A_10 c_11 n_12 (iv .u8 r_9) 5 1 :: R) = true from hR) st_32 (hn_27_1) hx_28_1 ⟨hn_13, st_30.cap (i := 2) rfl, fun W_ L_ st hT => st.src_mem (hT _ (List.mem_append_right _ (List.mem_of_getElem? (i := 0) rfl)))⟩ a_36_0 l_40_1 a_45 hr_33) ?_
  rintro _ w_46 ⟨T_34, A_37_1, n_38_1, c_39_1, x_41_1, hs_35, hn_42_1, hx_43_1, rfl, sc_48⟩
  have st_47 : St w w_46 (.cells b_20 (([.int .i64 a_36_0] : List Value) ++ ([.slice A_37_1 n_38_1 c_39_1] : List Value)) 57 :: .sl A_37_1 c_39_1 n_38_1 x_41_1 60 3 :: .sl A_10 c_11 n_12 (iv .u8 r_9) 5 1 :: (T_34 ++ R)) := St.unhide (A := [_, _]) (B := [_]) (T := T_34) (R := R) sc_48
  refine ⟨_, rfl, ?_⟩
  refine WL.val Wanted.none (Runs.assign rfl) ?_
  refine WL.nil ?_
  refine QW.then_n ?_
  refine CW.sub [(1, .int .u8 a1), (4, .bool false), (6, .slice A_10 n_12 c_11), (7, .string (strOfNums r_9)), (8, .pointer (some ⟨b_20, 0, none⟩)), (9, .int .i64 a_45)] ⟨rfl, rfl, rfl, rfl, rfl, rfl, trivial⟩ ?_
  refine CW.seq ?_
  refine CW.region ?_
  refine WL.val Wanted.none (Runs.move rfl) ?_
  obtain ⟨⟨p_49, q_50⟩, H⟩ := H
  obtain ⟨a_51, e_52⟩ := (st_47.src_sl (k := 2) rfl).addr_iv 3 (by omega)
  refine WL.val Wanted.none (Runs.indexAddr Try.underlying22 cells5 (by decide) rfl e_52 rfl p_49 (by rw [hn_13]; exact q_50) (o := 3) (by first | rfl | omega)) ?_
  refine WL.val Wanted.none (Runs.load nagg5 rfl ((st_47.src_sl (k := 2) rfl).cell_iv e_52 (by omega))) ?_
  refine WL.val Wanted.none (Runs.move rfl) ?_
  refine WL.val Wanted.none (Runs.bxor rfl rfl rfl) ?_
  obtain ⟨⟨p_53, q_54⟩, H⟩ := H
  obtain ⟨a_55, e_56⟩ := (st_47.src_sl (k := 2) rfl).addr_iv 3 (by omega)
  refine WL.val Wanted.none (Runs.indexAddr Try.underlying22 cells5 (by decide) rfl e_56 rfl p_53 (by rw [hn_13]; exact q_54) (o := 3) (by first | rfl | omega)) ?_
  obtain ⟨m_57, e_58, H⟩ := H
  refine WL.store_sl (i := 2) st_47 rfl cells5 rfl e_56 (by rw [iv_length]; omega) rfl rfl ?_
  intro w_59 st_60
  have hn_61 : n_12 = m_57.length := by rw [e_58, List.length_set]; exact hn_13
  have st_60' : St w w_59 (.cells b_20 (([.int .i64 a_36_0] : List Value) ++ ([.slice A_37_1 n_38_1 c_39_1] : List Value)) 57 :: .sl A_37_1 c_39_1 n_38_1 x_41_1 60 3 :: .sl A_10 c_11 n_12 (iv .u8 m_57) 5 1 :: (T_34 ++ R)) := by rw [e_58, ← iv_set .u8 r_9 3 (bits .xor .u8 (gn r_9 3) a1)]; exact st_60
  refine WL.nil ?_
  refine QW.then_n ?_
  refine CW.sub [(1, .int .u8 a1), (4, .bool false), (7, .string (strOfNums r_9)), (8, .pointer (some ⟨b_20, 0, none⟩)), (9, .int .i64 a_45)] ⟨rfl, rfl, rfl, rfl, rfl, trivial⟩ ?_
  refine CW.seq ?_
  refine CW.region ?_
  refine WL.val Wanted.none (Runs.move rfl) ?_
  have st_62 : St w w_59 (.cells b_20 (([.int .i64 a_36_0] : List Value) ++ ([.slice A_37_1 n_38_1 c_39_1] : List Value)) 57 :: .sl A_37_1 c_39_1 n_38_1 x_41_1 60 3 :: (T_34 ++ (.sl A_10 c_11 n_12 (iv .u8 m_57) 5 1 :: R))) := St.hide (A := [_, _]) (B := [_]) (T := T_34) (R := R) st_60'
  obtain ⟨a_66_0, l_70_1, l_78, a_82, hr_63, H⟩ := H
  refine WL.call Wanted.none ent12 rfl (buffers_Cache_Get.calls w w_59 T_34 (.sl A_10 c_11 n_12 (iv .u8 m_57) 5 1 :: R) a_36_0 l_40_1 9 b_20 A_37_1 n_38_1 c_39_1 x_41_1  st_62 (hn_42_1) hx_43_1 a_66_0 l_70_1 l_78 a_82 hr_63) ?_
  rintro _ w_83 ⟨T_64, A_67_1, n_68_1, c_69_1, x_71_1, A_75, n_76, c_77, hs_65, hn_72_1, hx_73_1, hn_80, rfl, sc_85⟩
  have st_84 : St w w_83 (.cells b_20 (([.int .i64 a_66_0] : List Value) ++ ([.slice A_67_1 n_68_1 c_69_1] : List Value)) 57 :: .sl A_67_1 c_69_1 n_68_1 x_71_1 60 3 :: .sl A_75 c_77 n_76 (iv .u8 l_78) 5 1 :: .sl A_10 c_11 n_12 (iv .u8 m_57) 5 1 :: (T_64 ++ R)) := St.unhide (A := [_, _, _]) (B := [_]) (T := T_64) (R := R) sc_85
  refine ⟨_, rfl, ?_⟩
  refine WL.val Wanted.none (Runs.move rfl) ?_
  refine WL.val Wanted.none (Runs.extract rfl rfl) ?_
  refine WL.val Wanted.none (Runs.extract rfl rfl) ?_
  refine WL.val Wanted.none (Runs.assign rfl) ?_
  refine WL.val Wanted.none (Runs.assign rfl) ?_
  refine WL.nil ?_
  refine QW.then_n ?_
  refine CW.sub [(1, .int .u8 a1), (4, .bool false), (7, .string (strOfNums r_9)), (8, .pointer (some ⟨b_20, 0, none⟩)), (9, .int .i64 a_45), (10, .slice A_75 n_76 c_77)] ⟨rfl, rfl, rfl, rfl, rfl, rfl, trivial⟩ ?_
  refine CW.seq ?_
  refine CW.seq ?_
  refine CW.region ?_
  refine WL.val Wanted.none (Runs.move rfl) ?_
  refine WL.val Wanted.none (Runs.neq rfl rfl rfl) ?_
  refine WL.val Wanted.none (Runs.move rfl) ?_
  obtain ⟨c_86, H⟩ := H
  have h_87 : (a_45 != 0) = false := (bne_eq_false_iff_eq.mpr (Decidable.not_not.mp c_86))
  refine WL.on ?_ ?_; exact Wanted.guard (dj := 38) (by rfl) (evb (by rfl) h_87) (by rfl)
  refine WL.val Wanted.none (Runs.move rfl) ?_
  refine WL.on ?_ ?_; exact Wanted.guard (dj := 38) (by rfl) (evb (by rfl) h_87) (by rfl)
  refine WL.val Wanted.none (Runs.bytes_str Try.underlying22 Try.underlying5 Try.underlying9 rfl (st_84.src_sl (k := 2) rfl) hn_80) ?_
  refine WL.on ?_ ?_; exact Wanted.guard (dj := 38) (by rfl) (evb (by rfl) h_87) (by rfl)
  refine WL.val Wanted.none (Runs.move rfl) ?_
  refine WL.on ?_ ?_; exact Wanted.guard (dj := 38) (by rfl) (evb (by rfl) h_87) (by rfl)
  refine WL.val Wanted.none (Runs.nes rfl rfl rfl) ?_
  refine WL.val Wanted.none (Runs.pick_f (evb rfl h_87) rfl) ?_
  refine WL.nil ?_
  refine QW.then_n ?_
  refine CW.sub [(1, .int .u8 a1), (4, .bool false), (7, .string (strOfNums r_9)), (8, .pointer (some ⟨b_20, 0, none⟩)), (10, .slice A_75 n_76 c_77), (43, .bool (!((strOfNums l_78).toList == (strOfNums r_9).toList)))] ⟨rfl, rfl, rfl, rfl, rfl, rfl, trivial⟩ ?_
  obtain ⟨c_88, H⟩ := H
  have h_89 : (!((strOfNums l_78).toList == (strOfNums r_9).toList)) = false := (not_f (beq_iff_eq.mpr (Decidable.not_not.mp c_88)))
  refine CW.cf rfl h_89 ?_
  refine CW.skip ?_
  refine QW.then_n ?_
  refine CW.seq ?_
  refine CW.region ?_
  refine WL.val Wanted.none (Runs.move rfl) ?_
  obtain ⟨⟨p_90, q_91⟩, H⟩ := H
  obtain ⟨a_92, e_93⟩ := (st_84.src_sl (k := 2) rfl).addr_iv 4 (by omega)
  refine WL.val Wanted.none (Runs.indexAddr Try.underlying22 cells5 (by decide) rfl e_93 rfl p_90 (by rw [hn_80]; exact q_91) (o := 4) (by first | rfl | omega)) ?_
  refine WL.val Wanted.none (Runs.load nagg5 rfl ((st_84.src_sl (k := 2) rfl).cell_iv e_93 (by omega))) ?_
  refine WL.val Wanted.none (Runs.move rfl) ?_
  refine WL.val Wanted.none (Runs.bxor rfl rfl rfl) ?_
  obtain ⟨⟨p_94, q_95⟩, H⟩ := H
  obtain ⟨a_96, e_97⟩ := (st_84.src_sl (k := 2) rfl).addr_iv 4 (by omega)
  refine WL.val Wanted.none (Runs.indexAddr Try.underlying22 cells5 (by decide) rfl e_97 rfl p_94 (by rw [hn_80]; exact q_95) (o := 4) (by first | rfl | omega)) ?_
  obtain ⟨m_98, e_99, H⟩ := H
  refine WL.store_sl (i := 2) st_84 rfl cells5 rfl e_97 (by rw [iv_length]; omega) rfl rfl ?_
  intro w_100 st_101
  have hn_102 : n_76 = m_98.length := by rw [e_99, List.length_set]; exact hn_80
  have st_101' : St w w_100 (.cells b_20 (([.int .i64 a_66_0] : List Value) ++ ([.slice A_67_1 n_68_1 c_69_1] : List Value)) 57 :: .sl A_67_1 c_69_1 n_68_1 x_71_1 60 3 :: .sl A_75 c_77 n_76 (iv .u8 m_98) 5 1 :: .sl A_10 c_11 n_12 (iv .u8 m_57) 5 1 :: (T_64 ++ R)) := by rw [e_99, ← iv_set .u8 l_78 4 (bits .xor .u8 (gn l_78 4) a1)]; exact st_101
  refine WL.nil ?_
  refine QW.then_n ?_
  refine CW.sub [(4, .bool false), (7, .string (strOfNums r_9)), (8, .pointer (some ⟨b_20, 0, none⟩))] ⟨rfl, rfl, rfl, trivial⟩ ?_
  refine CW.seq ?_
  refine CW.region ?_
  refine WL.val Wanted.none (Runs.move rfl) ?_
  have st_103 : St w w_100 (.cells b_20 (([.int .i64 a_66_0] : List Value) ++ ([.slice A_67_1 n_68_1 c_69_1] : List Value)) 57 :: .sl A_67_1 c_69_1 n_68_1 x_71_1 60 3 :: (T_64 ++ (.sl A_75 c_77 n_76 (iv .u8 m_98) 5 1 :: .sl A_10 c_11 n_12 (iv .u8 m_57) 5 1 :: R))) := St.hide (A := [_, _]) (B := [_, _]) (T := T_64) (R := R) st_101'
  obtain ⟨a_107_0, l_111_1, l_119, a_123, hr_104, H⟩ := H
  refine WL.call Wanted.none ent12 rfl (buffers_Cache_Get.calls w w_100 T_64 (.sl A_75 c_77 n_76 (iv .u8 m_98) 5 1 :: .sl A_10 c_11 n_12 (iv .u8 m_57) 5 1 :: R) a_66_0 l_70_1 9 b_20 A_67_1 n_68_1 c_69_1 x_71_1  st_103 (hn_72_1) hx_73_1 a_107_0 l_111_1 l_119 a_123 hr_104) ?_
  rintro _ w_124 ⟨T_105, A_108_1, n_109_1, c_110_1, x_112_1, A_116, n_117, c_118, hs_106, hn_113_1, hx_114_1, hn_121, rfl, sc_126⟩
  have st_125 : St w w_124 (.cells b_20 (([.int .i64 a_107_0] : List Value) ++ ([.slice A_108_1 n_109_1 c_110_1] : List Value)) 57 :: .sl A_108_1 c_110_1 n_109_1 x_112_1 60 3 :: .sl A_116 c_118 n_117 (iv .u8 l_119) 5 1 :: .sl A_75 c_77 n_76 (iv .u8 m_98) 5 1 :: .sl A_10 c_11 n_12 (iv .u8 m_57) 5 1 :: (T_105 ++ R)) := St.unhide (A := [_, _, _]) (B := [_, _]) (T := T_105) (R := R) sc_126
  refine ⟨_, rfl, ?_⟩
  refine WL.val Wanted.none (Runs.move rfl) ?_
  refine WL.val Wanted.none (Runs.extract rfl rfl) ?_
  refine WL.val Wanted.none (Runs.extract rfl rfl) ?_
  refine WL.val Wanted.none (Runs.assign rfl) ?_
  refine WL.val Wanted.none (Runs.assign rfl) ?_
  refine WL.nil ?_
  refine QW.then_n ?_
  refine CW.sub [(4, .bool false), (7, .string (strOfNums r_9)), (12, .slice A_116 n_117 c_118), (13, .bool a_123)] ⟨rfl, rfl, rfl, rfl, trivial⟩ ?_
  refine CW.seq ?_
  refine CW.region ?_
  refine WL.val Wanted.none (Runs.move rfl) ?_
  refine WL.val Wanted.none (Runs.move rfl) ?_
  obtain ⟨c_127, H⟩ := H
  have h_128 : a_123 = true := c_127
  refine WL.on ?_ ?_; exact Wanted.guard (dj := 56) (by rfl) (evb (by rfl) h_128) (by rfl)
  refine WL.val Wanted.none (Runs.move rfl) ?_
  refine WL.on ?_ ?_; exact Wanted.guard (dj := 56) (by rfl) (evb (by rfl) h_128) (by rfl)
  refine WL.val Wanted.none (Runs.bytes_str Try.underlying22 Try.underlying5 Try.underlying9 rfl (st_125.src_sl (k := 2) rfl) hn_121) ?_
  refine WL.on ?_ ?_; exact Wanted.guard (dj := 56) (by rfl) (evb (by rfl) h_128) (by rfl)
  refine WL.val Wanted.none (Runs.move rfl) ?_
  refine WL.on ?_ ?_; exact Wanted.guard (dj := 56) (by rfl) (evb (by rfl) h_128) (by rfl)
  refine WL.val Wanted.none (Runs.eqs rfl rfl rfl) ?_
  refine WL.val Wanted.none (Runs.pick_t (evb rfl h_128) rfl) ?_
  refine WL.val Wanted.none (Runs.assign rfl) ?_
  refine WL.nil ?_
  refine QW.then_n ?_
  refine CW.sub [(4, .bool ((strOfNums l_119).toList == (strOfNums r_9).toList))] ⟨rfl, trivial⟩ ?_
  refine CW.ret ?_
  have hz : ((strOfNums l_119).toList == (strOfNums r_9).toList) = true := (beq_iff_eq.mpr H)
  exact QW.ret1 rfl (evb rfl hz) ⟨rfl, st_125.ext⟩

/-! ### reliquarylaw15_BuffersLast: function 4 -/
def reliquarylaw15_BuffersLast.L3 (a0 : Int) (a2 : Int) (l_90 : List Int) : Nat → (List R60) → Int → Int → Prop
  | 0, _, _, _ => False
  | kL3 + 1, l_152, x_159, x_160 => (∃ x_164 : Int, x_164 = IntKind.i64.wrap ((IntKind.i64.wrap ((IntKind.i64.wrap (Int.tmod a0 8)) + 1)) - 1) ∧ ((x_160 < x_164 ∧ (∃ (r_172 : List Int), reliquarylaw15_full.rel ([] : List Int) false r_172 ∧ (∃ (a_183_0 : Int) (l_187_1 : List R60) (a_192 : Int), buffers_Cache_Put.rel x_159 l_152 (IntKind.u64.wrap (IntKind.i64.wrap (100 + x_160))) r_172 a_183_0 l_187_1 a_192 ∧ reliquarylaw15_BuffersLast.L3 a0 a2 l_90 kL3 l_187_1 a_183_0 (IntKind.i64.wrap (x_160 + 1))))) ∨ (¬ (x_160 < x_164) ∧ (∃ (a_200_0 : Int) (l_204_1 : List R60) (l_212 : List Int) (a_216 : Bool), buffers_Cache_Get.rel x_159 l_152 (gn l_90 ((Int.tmod (IntKind.i64.wrap a2) (l_90.length : Int)).toNat)) a_200_0 l_204_1 l_212 a_216 ∧ (a_216 = true ∧ ((0 ≤ (0 : Int) ∧ (0 : Int) < (l_212.length : Int)) ∧ (∃ x_226 : Int, x_226 = IntKind.u8.wrap (gn l_90 ((Int.tmod (IntKind.i64.wrap a2) (l_90.length : Int)).toNat)) ∧ (gn l_212 0) = x_226)))))))
def reliquarylaw15_BuffersLast.L2 (a0 : Int) (a1 : Int) (a2 : Int) (a_78_0 : Int) (l_82_1 : List R60) (l_90 : List Int) : Nat → Bool → Int → Prop
  | 0, _, _ => False
  | kL2 + 1, b_103, x_104 => ((x_104 < (l_90.length : Int) ∧ ((0 ≤ x_104 ∧ x_104 < (l_90.length : Int)) ∧ (∃ x_114 : Int, x_114 = IntKind.i64.wrap ((IntKind.i64.wrap ((IntKind.i64.wrap (Int.tmod a1 16)) - 1)) - x_104) ∧ (¬ ((gn l_90 ((x_104).toNat)) ≠ (IntKind.u64.wrap x_114)) ∧ reliquarylaw15_BuffersLast.L2 a0 a1 a2 a_78_0 l_82_1 l_90 kL2 b_103 (IntKind.i64.wrap (x_104 + 1)))))) ∨ (¬ (x_104 < (l_90.length : Int)) ∧ (((l_90.length : Int) < 2 ∧ True) ∨ (¬ ((l_90.length : Int) < 2) ∧ ((l_90.length : Int) ≠ 0 ∧ ((0 ≤ (Int.tmod (IntKind.i64.wrap a2) (l_90.length : Int)) ∧ (Int.tmod (IntKind.i64.wrap a2) (l_90.length : Int)) < (l_90.length : Int)) ∧ (∃ (a_129_0 : Int) (l_133_1 : List R60) (l_141 : List Int) (a_145 : Bool), buffers_Cache_Get.rel a_78_0 l_82_1 (gn l_90 ((Int.tmod (IntKind.i64.wrap a2) (l_90.length : Int)).toNat)) a_129_0 l_133_1 l_141 a_145 ∧ (∃ k_ : Nat, reliquarylaw15_BuffersLast.L3 a0 a2 l_90 k_ l_133_1 a_129_0 0))))))))
def reliquarylaw15_BuffersLast.L5 (a0 : Int) (a2 : Int) (l_90 : List Int) : Nat → (List R60) → Int → Int → Prop
  | 0, _, _, _ => False
  | kL5 + 1, l_282, x_289, x_290 => (∃ x_294 : Int, x_294 = IntKind.i64.wrap ((IntKind.i64.wrap ((IntKind.i64.wrap (Int.tmod a0 8)) + 1)) - 1) ∧ ((x_290 < x_294 ∧ (∃ (r_302 : List Int), reliquarylaw15_full.rel ([] : List Int) false r_302 ∧ (∃ (a_313_0 : Int) (l_317_1 : List R60) (a_322 : Int), buffers_Cache_Put.rel x_289 l_282 (IntKind.u64.wrap (IntKind.i64.wrap (100 + x_290))) r_302 a_313_0 l_317_1 a_322 ∧ reliquarylaw15_BuffersLast.L5 a0 a2 l_90 kL5 l_317_1 a_313_0 (IntKind.i64.wrap (x_290 + 1))))) ∨ (¬ (x_290 < x_294) ∧ (∃ (a_330_0 : Int) (l_334_1 : List R60) (l_342 : List Int) (a_346 : Bool), buffers_Cache_Get.rel x_289 l_282 (gn l_90 ((Int.tmod (IntKind.i64.wrap a2) (l_90.length : Int)).toNat)) a_330_0 l_334_1 l_342 a_346 ∧ (a_346 = true ∧ ((0 ≤ (0 : Int) ∧ (0 : Int) < (l_342.length : Int)) ∧ (∃ x_356 : Int, x_356 = IntKind.u8.wrap (gn l_90 ((Int.tmod (IntKind.i64.wrap a2) (l_90.length : Int)).toNat)) ∧ (gn l_342 0) = x_356)))))))
def reliquarylaw15_BuffersLast.L4 (a0 : Int) (a1 : Int) (a2 : Int) (a_78_0 : Int) (l_82_1 : List R60) (l_90 : List Int) : Nat → Bool → Int → Prop
  | 0, _, _ => False
  | kL4 + 1, b_233, x_234 => ((x_234 < (l_90.length : Int) ∧ ((0 ≤ x_234 ∧ x_234 < (l_90.length : Int)) ∧ (∃ x_244 : Int, x_244 = IntKind.i64.wrap ((IntKind.i64.wrap ((IntKind.i64.wrap (Int.tmod a1 16)) - 1)) - x_234) ∧ (¬ ((gn l_90 ((x_234).toNat)) ≠ (IntKind.u64.wrap x_244)) ∧ reliquarylaw15_BuffersLast.L4 a0 a1 a2 a_78_0 l_82_1 l_90 kL4 b_233 (IntKind.i64.wrap (x_234 + 1)))))) ∨ (¬ (x_234 < (l_90.length : Int)) ∧ (((l_90.length : Int) < 2 ∧ True) ∨ (¬ ((l_90.length : Int) < 2) ∧ ((l_90.length : Int) ≠ 0 ∧ ((0 ≤ (Int.tmod (IntKind.i64.wrap a2) (l_90.length : Int)) ∧ (Int.tmod (IntKind.i64.wrap a2) (l_90.length : Int)) < (l_90.length : Int)) ∧ (∃ (a_259_0 : Int) (l_263_1 : List R60) (l_271 : List Int) (a_275 : Bool), buffers_Cache_Get.rel a_78_0 l_82_1 (gn l_90 ((Int.tmod (IntKind.i64.wrap a2) (l_90.length : Int)).toNat)) a_259_0 l_263_1 l_271 a_275 ∧ (∃ k_ : Nat, reliquarylaw15_BuffersLast.L5 a0 a2 l_90 k_ l_263_1 a_259_0 0))))))))
def reliquarylaw15_BuffersLast.L1 (a0 : Int) (a1 : Int) (a2 : Int) : Nat → (List R60) → Int → Bool → Int → Prop
  | 0, _, _, _, _ => False
  | kL1 + 1, l_25, x_32, b_33, x_34 => ((x_34 < (IntKind.i64.wrap (Int.tmod a1 16)) ∧ (∃ (r_48 : List Int), reliquarylaw15_full.rel [IntKind.u8.wrap x_34] false r_48 ∧ (∃ (a_59_0 : Int) (l_63_1 : List R60) (a_68 : Int), buffers_Cache_Put.rel x_32 l_25 (IntKind.u64.wrap x_34) r_48 a_59_0 l_63_1 a_68 ∧ (¬ (a_68 ≠ 0) ∧ reliquarylaw15_BuffersLast.L1 a0 a1 a2 kL1 l_63_1 a_59_0 b_33 (IntKind.i64.wrap (x_34 + 1)))))) ∨ (¬ (x_34 < (IntKind.i64.wrap (Int.tmod a1 16))) ∧ (∃ (a_78_0 : Int) (l_82_1 : List R60) (l_90 : List Int), buffers_Cache_Blocks.rel x_32 l_25 a_78_0 l_82_1 l_90 ∧ (((IntKind.i64.wrap (Int.tmod a1 16)) > (IntKind.i64.wrap ((IntKind.i64.wrap (Int.tmod a0 8)) + 1)) ∧ (¬ ((l_90.length : Int) ≠ (IntKind.i64.wrap ((IntKind.i64.wrap (Int.tmod a0 8)) + 1))) ∧ (∃ k_ : Nat, reliquarylaw15_BuffersLast.L2 a0 a1 a2 a_78_0 l_82_1 l_90 k_ b_33 0))) ∨ (¬ ((IntKind.i64.wrap (Int.tmod a1 16)) > (IntKind.i64.wrap ((IntKind.i64.wrap (Int.tmod a0 8)) + 1))) ∧ (¬ ((l_90.length : Int) ≠ (IntKind.i64.wrap (Int.tmod a1 16))) ∧ (∃ k_ : Nat, reliquarylaw15_BuffersLast.L4 a0 a1 a2 a_78_0 l_82_1 l_90 k_ b_33 0)))))))
def reliquarylaw15_BuffersLast.rel (a0 : Int) (a1 : Int) (a2 : Int)  : Prop := (reliquarylaw15_awake.rel  ∧ (∃ (a_11_0 : Int) (l_15_1 : List R60), buffers_New.rel (IntKind.i64.wrap ((IntKind.i64.wrap (Int.tmod a0 8)) + 1)) a_11_0 l_15_1 ∧ (∃ k_ : Nat, reliquarylaw15_BuffersLast.L1 a0 a1 a2 k_ l_15_1 a_11_0 false 0)))
set_option maxHeartbeats 4000000 in
set_option maxRecDepth 100000 in
theorem reliquarylaw15_BuffersLast.calls (w : World) (a0 : Int) (a1 : Int) (a2 : Int)     (H : reliquarylaw15_BuffersLast.rel a0 a1 a2 ) :
    Calls Try.prog 4 #[.int .u8 a0, .int .u8 a1, .int .u8 a2] w fun e w' => e = .returned (.bool true) ∧ Below w.heap.size w w' := by
  refine CW.enter Try.func4 rfl (n := 113) rfl [.int .u8 a0, .int .u8 a1, .int .u8 a2] (Nat.le_of_ble_eq_true rfl) ?_
  refine CW.sub [(0, .int .u8 a0), (1, .int .u8 a1), (2, .int .u8 a2)] ⟨rfl, rfl, rfl, trivial⟩ ?_
  obtain ⟨T, R, hT, hR, st0⟩ := St.start w
  refine CW.seq ?_
  refine CW.region ?_
  refine WL.val Wanted.none (Runs.assign rfl) ?_
  refine WL.nil ?_
  refine QW.then_n ?_
  refine CW.seq ?_
  refine CW.region ?_
  obtain ⟨hr_1, H⟩ := H
  refine WL.call Wanted.none ent8 rfl (reliquarylaw15_awake.calls w hr_1) ?_
  rintro _ w_2 ⟨rfl, sc_4⟩
  have st_3 : St w w_2 ((T ++ R)) := st0.below sc_4
  refine ⟨_, rfl, ?_⟩
  refine WL.val Wanted.none (Runs.assign rfl) ?_
  refine WL.nil ?_
  refine QW.then_n ?_
  refine CW.seq ?_
  refine CW.seq ?_
  refine CW.region ?_
  refine WL.val Wanted.none (Runs.move rfl) ?_
  refine WL.val Wanted.none (Runs.not rfl rfl) ?_
  refine WL.nil ?_
  refine QW.then_n ?_
  refine CW.cf rfl rfl ?_
  refine CW.skip ?_
  refine QW.then_n ?_
  refine CW.seq ?_
  refine CW.region ?_
  refine WL.val Wanted.none (Runs.move rfl) ?_
  refine WL.val Wanted.none (Runs.rem rfl rfl (by decide) rfl) ?_
  refine WL.val Wanted.none (Runs.conv Try.underlying3 ⟨_, Try.underlying5⟩ rfl rfl) ?_
  refine WL.val Wanted.none (Runs.add rfl rfl rfl) ?_
  refine WL.val Wanted.none (Runs.assign rfl) ?_
  refine WL.nil ?_
  refine QW.then_n ?_
  refine CW.sub [(1, .int .u8 a1), (2, .int .u8 a2), (6, .bool false), (8, .int .i64 (IntKind.i64.wrap ((IntKind.i64.wrap (Int.tmod a0 8)) + 1)))] ⟨rfl, rfl, rfl, rfl, trivial⟩ ?_
  refine CW.seq ?_
  refine CW.region ?_
  refine WL.val Wanted.none (Runs.move rfl) ?_
  refine WL.val Wanted.none (Runs.rem rfl rfl (by decide) rfl) ?_
  refine WL.val Wanted.none (Runs.conv Try.underlying3 ⟨_, Try.underlying5⟩ rfl rfl) ?_
  refine WL.val Wanted.none (Runs.assign rfl) ?_
  refine WL.nil ?_
  refine QW.then_n ?_
  refine CW.seq ?_
  refine CW.region ?_
  refine WL.val Wanted.none (Runs.move rfl) ?_
  have st_5 : St w w_2 ((T ++ (R))) := St.hide (A := []) (B := []) (T := T) (R := R) st_3
  obtain ⟨a_11_0, l_15_1, hr_6, H⟩ := H
  refine WL.call Wanted.none ent10 rfl (buffers_New.calls w w_2 T (R) (IntKind.i64.wrap ((IntKind.i64.wrap (Int.tmod a0 8)) + 1))  st_5 a_11_0 l_15_1 hr_6) ?_
  rintro _ w_19 ⟨T_7, b_10, A_12_1, n_13_1, c_14_1, x_16_1, hs_8, hn_17_1, hx_18_1, rfl, sc_21⟩
  have st_20 : St w w_19 (.cells b_10 (([.int .i64 a_11_0] : List Value) ++ ([.slice A_12_1 n_13_1 c_14_1] : List Value)) 57 :: .sl A_12_1 c_14_1 n_13_1 x_16_1 60 3 :: (T_7 ++ R)) := St.unhide (A := [_, _]) (B := []) (T := T_7) (R := R) sc_21
  refine ⟨_, rfl, ?_⟩
  refine WL.val Wanted.none (Runs.assign rfl) ?_
  refine WL.nil ?_
  refine QW.then_n ?_
  refine CW.sub [(2, .int .u8 a2), (6, .bool false), (8, .int .i64 (IntKind.i64.wrap ((IntKind.i64.wrap (Int.tmod a0 8)) + 1))), (9, .int .i64 (IntKind.i64.wrap (Int.tmod a1 16))), (10, .pointer (some ⟨b_10, 0, none⟩))] ⟨rfl, rfl, rfl, rfl, rfl, trivial⟩ ?_
  refine CW.seq ?_
  refine CW.seq ?_
  refine CW.region ?_
  refine WL.val Wanted.none (Runs.assign rfl) ?_
  refine WL.nil ?_
  refine QW.then_n ?_
  refine CW.block ?_
  obtain ⟨k_22, H⟩ := H
  refine CW.sub [(2, .int .u8 a2), (6, .bool false), (8, .int .i64 (IntKind.i64.wrap ((IntKind.i64.wrap (Int.tmod a0 8)) + 1))), (9, .int .i64 (IntKind.i64.wrap (Int.tmod a1 16))), (10, .pointer (some ⟨b_10, 0, none⟩)), (11, .int .i64 0)] ⟨rfl, rfl, rfl, rfl, rfl, rfl, trivial⟩ ?_
  refine CW.loop (fun kL1 l_ w_ => ∃ (T_23 : Pool) (A_29 : Option Addr) (c_30 : Nat) (n_31 : Nat) (x_27 : Cells) (l_25 : List R60) (x_32 : Int) (b_33 : Bool) (x_34 : Int), l_ = [(2, .int .u8 a2), (6, .bool b_33), (8, .int .i64 (IntKind.i64.wrap ((IntKind.i64.wrap (Int.tmod a0 8)) + 1))), (9, .int .i64 (IntKind.i64.wrap (Int.tmod a1 16))), (10, .pointer (some ⟨b_10, 0, none⟩)), (11, .int .i64 x_34)] ∧ reliquarylaw15_BuffersLast.L1 a0 a1 a2 kL1 l_25 x_32 b_33 x_34 ∧ (Pl T_7 T_23) ∧ (n_31 = l_25.length) ∧ (HRs T_23 (f60 w) x_27 l_25) ∧ St w w_ (.cells b_10 (([.int .i64 x_32] : List Value) ++ ([.slice A_29 n_31 c_30] : List Value)) 57 :: .sl A_29 c_30 n_31 x_27 60 3 :: (T_23 ++ R))) (k := k_22) ⟨T_7, A_12_1, c_14_1, n_13_1, x_16_1, l_15_1, a_11_0, false, 0, rfl, H, Pl.refl, hn_17_1, hx_18_1, st_20⟩ (fun _ _ h => by obtain ⟨_, _, _, _, _, _, _, _, _, _, h, _⟩ := h; exact h.elim) ?_
  rintro kL1 l_37 w_35 ⟨T_23, A_29, c_30, n_31, x_27, l_25, x_32, b_33, x_34, rfl, H, hs_24, hn_26, hx_28, st_36⟩
  refine CW.seq ?_
  refine CW.seq ?_
  refine CW.region ?_
  refine WL.val Wanted.none (Runs.move rfl) ?_
  refine WL.val Wanted.none (Runs.move rfl) ?_
  refine WL.val Wanted.none (Runs.lss rfl rfl rfl) ?_
  refine WL.nil ?_
  refine QW.then_n ?_
  rcases H with ⟨c_38, H⟩ | ⟨c_38, H⟩
  · have h_39 : (decide (x_34 < (IntKind.i64.wrap (Int.tmod a1 16)))) = true := (decide_eq_true c_38)
    refine CW.ct rfl h_39 ?_
    refine CW.skip ?_
    refine QW.then_n ?_
    refine CW.seq ?_
    refine CW.block ?_
    refine CW.seq ?_
    refine CW.region ?_
    refine WL.val Wanted.none (Runs.move rfl) ?_
    refine WL.val Wanted.none (Runs.move rfl) ?_
    refine WL.val Wanted.none (Runs.conv Try.underlying29 ⟨_, Try.underlying3⟩ rfl rfl) ?_
    refine WL.val Wanted.none (Runs.move rfl) ?_
    refine WL.val Wanted.none (Runs.conv Try.underlying5 ⟨_, Try.underlying3⟩ rfl rfl) ?_
    refine WL.buildSl [.int .u8 (IntKind.u8.wrap x_34)] st_36 Try.underlying22 elem5 rfl rfl (by decide) (by decide) (by simp [Value.cells]) ?_
    intro B_40 w_41 st_42
    replace st_42 : St w w_41 (.sl (some ⟨B_40, 0, none⟩) 1 1 (iv .u8 [IntKind.u8.wrap x_34]) 5 1 :: .cells b_10 (([.int .i64 x_32] : List Value) ++ ([.slice A_29 n_31 c_30] : List Value)) 57 :: .sl A_29 c_30 n_31 x_27 60 3 :: (T_23 ++ R)) := st_42
    obtain ⟨r_48, hr_44, H⟩ := H
    refine WL.call Wanted.none ent9 rfl (reliquarylaw15_full.calls w_41 [IntKind.u8.wrap x_34] false (some ⟨B_40, 0, none⟩) 1 1 (st_42.src_sl (k := 0) rfl) (rfl) (st_42.cap (i := 0) rfl) r_48 hr_44) ?_
    rintro _ w_45 ⟨A_49, c_50, n_51, hn_52, rfl, sc_47⟩
    have st_46 : St w w_45 (.sl A_49 c_50 n_51 (iv .u8 r_48) 5 1 :: .sl (some ⟨B_40, 0, none⟩) 1 1 (iv .u8 [IntKind.u8.wrap x_34]) 5 1 :: .cells b_10 (([.int .i64 x_32] : List Value) ++ ([.slice A_29 n_31 c_30] : List Value)) 57 :: .sl A_29 c_30 n_31 x_27 60 3 :: (T_23 ++ R)) := st_42.call sc_47
    refine ⟨_, rfl, ?_⟩
    have st_54 := (St.pickT (L := [_, _, _, _]) st_46 [2, 3, 0, 1] (by decide))
    replace st_54 : St w w_45 (.cells b_10 (([.int .i64 x_32] : List Value) ++ ([.slice A_29 n_31 c_30] : List Value)) 57 :: .sl A_29 c_30 n_31 x_27 60 3 :: .sl A_49 c_50 n_51 (iv .u8 r_48) 5 1 :: .sl (some ⟨B_40, 0, none⟩) 1 1 (iv .u8 [IntKind.u8.wrap x_34]) 5 1 :: (T_23 ++ R)) := st_54
    have st_55 : St w w_45 (.cells b_10 (([.int .i64 x_32] : List Value) ++ ([.slice A_29 n_31 c_30] : List Value)) 57 :: .sl A_29 c_30 n_31 x_27 60 3 :: (T_23 ++ (.sl A_49 c_50 n_51 (iv .u8 r_48) 5 1 :: .sl (some ⟨B_40, 0, none⟩) 1 1 (iv .u8 [IntKind.u8.wrap x_34]) 5 1 :: R))) := St.hide (A := [_, _]) (B := [_, _]) (T := T_23) (R := R) st_54
    obtain ⟨a_59_0, l_63_1, a_68, hr_56, H⟩ := H
    refine WL.call Wanted.none ent11 rfl (buffers_Cache_Put.calls w w_45 T_23 (.sl A_49 c_50 n_51 (iv .u8 r_48) 5 1 :: .sl (some ⟨B_40, 0, none⟩) 1 1 (iv .u8 [IntKind.u8.wrap x_34]) 5 1 :: R) x_32 l_25 (IntKind.u64.wrap x_34) r_48 b_10 A_29 n_31 c_30 x_27 A_49 n_51 c_50 (hs_24.2 (hs_8.2 hT)) (show celly (.sl A_49 c_50 n_51 (iv .u8 r_48) 5 1 :: .sl (some ⟨B_40, 0, none⟩) 1 1 (iv .u8 [IntKind.u8.wrap x_34]) 5 1 :: R) = true from hR) st_55 (hn_26) hx_28 ⟨hn_52, st_54.cap (i := 2) rfl, fun W_ L_ st hT => st.src_mem (hT _ (List.mem_append_right _ (List.mem_of_getElem? (i := 0) rfl)))⟩ a_59_0 l_63_1 a_68 hr_56) ?_
    rintro _ w_69 ⟨T_57, A_60_1, n_61_1, c_62_1, x_64_1, hs_58, hn_65_1, hx_66_1, rfl, sc_71⟩
    have st_70 : St w w_69 (.cells b_10 (([.int .i64 a_59_0] : List Value) ++ ([.slice A_60_1 n_61_1 c_62_1] : List Value)) 57 :: .sl A_60_1 c_62_1 n_61_1 x_64_1 60 3 :: .sl A_49 c_50 n_51 (iv .u8 r_48) 5 1 :: .sl (some ⟨B_40, 0, none⟩) 1 1 (iv .u8 [IntKind.u8.wrap x_34]) 5 1 :: (T_57 ++ R)) := St.unhide (A := [_, _]) (B := [_, _]) (T := T_57) (R := R) sc_71
    refine ⟨_, rfl, ?_⟩
    refine WL.val Wanted.none (Runs.neq rfl rfl rfl) ?_
    refine WL.nil ?_
    refine QW.then_n ?_
    obtain ⟨c_72, H⟩ := H
    have h_73 : (a_68 != 0) = false := (bne_eq_false_iff_eq.mpr (Decidable.not_not.mp c_72))
    refine CW.cf rfl h_73 ?_
    refine CW.skip ?_
    refine QW.blk_n ?_
    refine QW.then_n ?_
    refine CW.region ?_
    refine WL.val Wanted.none (Runs.move rfl) ?_
    refine WL.val Wanted.none (Runs.add rfl rfl rfl) ?_
    refine WL.val Wanted.none (Runs.assign rfl) ?_
    refine WL.nil ?_
    have st_70' := (St.pickT (L := [_, _, _, _]) st_70 [0, 1] (by decide))
    exact QW.at [(2, .int .u8 a2), (6, .bool b_33), (8, .int .i64 (IntKind.i64.wrap ((IntKind.i64.wrap (Int.tmod a0 8)) + 1))), (9, .int .i64 (IntKind.i64.wrap (Int.tmod a1 16))), (10, .pointer (some ⟨b_10, 0, none⟩)), (11, .int .i64 (IntKind.i64.wrap (x_34 + 1)))] ⟨rfl, rfl, rfl, rfl, rfl, rfl, trivial⟩ ⟨T_57, A_60_1, c_62_1, n_61_1, x_64_1, l_63_1, a_59_0, b_33, IntKind.i64.wrap (x_34 + 1), rfl, H, (hs_24.trans hs_58), hn_65_1, hx_66_1, st_70'⟩
  · have h_39 : (decide (x_34 < (IntKind.i64.wrap (Int.tmod a1 16)))) = false := (decide_eq_false c_38)
    refine CW.cf rfl h_39 ?_
    refine CW.exit ?_
    refine QW.then_x ?_
    refine QW.then_x ?_
    refine QW.blk_x ?_
    refine QW.then_n ?_
    refine CW.seq ?_
    refine CW.region ?_
    refine WL.val Wanted.none (Runs.move rfl) ?_
    have st_74 : St w w_35 (.cells b_10 (([.int .i64 x_32] : List Value) ++ ([.slice A_29 n_31 c_30] : List Value)) 57 :: .sl A_29 c_30 n_31 x_27 60 3 :: (T_23 ++ (R))) := St.hide (A := [_, _]) (B := []) (T := T_23) (R := R) st_36
    obtain ⟨a_78_0, l_82_1, l_90, hr_75, H⟩ := H
    refine WL.call Wanted.none ent13 rfl (buffers_Cache_Blocks.calls w w_35 T_23 (R) x_32 l_25 b_10 A_29 n_31 c_30 x_27  st_74 (hn_26) hx_28 a_78_0 l_82_1 l_90 hr_75) ?_
    rintro _ w_93 ⟨T_76, A_79_1, n_80_1, c_81_1, x_83_1, A_87, n_88, c_89, hs_77, hn_84_1, hx_85_1, hn_92, rfl, sc_95⟩
    have st_94 : St w w_93 (.cells b_10 (([.int .i64 a_78_0] : List Value) ++ ([.slice A_79_1 n_80_1 c_81_1] : List Value)) 57 :: .sl A_79_1 c_81_1 n_80_1 x_83_1 60 3 :: .sl A_87 c_89 n_88 (iv .u64 l_90) 29 1 :: (T_76 ++ R)) := St.unhide (A := [_, _, _]) (B := []) (T := T_76) (R := R) sc_95
    refine ⟨_, rfl, ?_⟩
    refine WL.val Wanted.none (Runs.assign rfl) ?_
    refine WL.nil ?_
    refine QW.then_n ?_
    refine CW.sub [(2, .int .u8 a2), (6, .bool b_33), (8, .int .i64 (IntKind.i64.wrap ((IntKind.i64.wrap (Int.tmod a0 8)) + 1))), (9, .int .i64 (IntKind.i64.wrap (Int.tmod a1 16))), (10, .pointer (some ⟨b_10, 0, none⟩)), (12, .slice A_87 n_88 c_89)] ⟨rfl, rfl, rfl, rfl, rfl, rfl, trivial⟩ ?_
    refine CW.seq ?_
    refine CW.region ?_
    refine WL.val Wanted.none (Runs.move rfl) ?_
    refine WL.val Wanted.none (Runs.assign rfl) ?_
    refine WL.nil ?_
    refine QW.then_n ?_
    refine CW.seq ?_
    refine CW.seq ?_
    refine CW.region ?_
    refine WL.val Wanted.none (Runs.move rfl) ?_
    refine WL.val Wanted.none (Runs.move rfl) ?_
    refine WL.val Wanted.none (Runs.gtr rfl rfl rfl) ?_
    refine WL.nil ?_
    refine QW.then_n ?_
    rcases H with ⟨c_96, H⟩ | ⟨c_96, H⟩
    · have h_97 : (decide ((IntKind.i64.wrap (Int.tmod a1 16)) > (IntKind.i64.wrap ((IntKind.i64.wrap (Int.tmod a0 8)) + 1)))) = true := (decide_eq_true c_96)
      refine CW.ct rfl h_97 ?_
      refine CW.region ?_
      refine WL.val Wanted.none (Runs.move rfl) ?_
      refine WL.val Wanted.none (Runs.assign rfl) ?_
      refine WL.nil ?_
      refine QW.then_n ?_
      refine CW.seq ?_
      refine CW.seq ?_
      refine CW.region ?_
      refine WL.val Wanted.none (Runs.move rfl) ?_
      refine WL.val Wanted.none (Runs.len_sl Try.underlying33 rfl (by rw [hn_92])) ?_
      refine WL.val Wanted.none (Runs.move rfl) ?_
      refine WL.val Wanted.none (Runs.neq rfl rfl rfl) ?_
      refine WL.nil ?_
      refine QW.then_n ?_
      refine CW.sub [(2, .int .u8 a2), (6, .bool b_33), (8, .int .i64 (IntKind.i64.wrap ((IntKind.i64.wrap (Int.tmod a0 8)) + 1))), (9, .int .i64 (IntKind.i64.wrap (Int.tmod a1 16))), (10, .pointer (some ⟨b_10, 0, none⟩)), (12, .slice A_87 n_88 c_89), (55, .bool ((l_90.length : Int) != (IntKind.i64.wrap ((IntKind.i64.wrap (Int.tmod a0 8)) + 1))))] ⟨rfl, rfl, rfl, rfl, rfl, rfl, rfl, trivial⟩ ?_
      obtain ⟨c_98, H⟩ := H
      have h_99 : ((l_90.length : Int) != (IntKind.i64.wrap ((IntKind.i64.wrap (Int.tmod a0 8)) + 1))) = false := (bne_eq_false_iff_eq.mpr (Decidable.not_not.mp c_98))
      refine CW.cf rfl h_99 ?_
      refine CW.skip ?_
      refine QW.then_n ?_
      refine CW.seq ?_
      refine CW.seq ?_
      refine CW.region ?_
      refine WL.val Wanted.none (Runs.assign rfl) ?_
      refine WL.nil ?_
      refine QW.then_n ?_
      refine CW.block ?_
      obtain ⟨k_100, H⟩ := H
      refine CW.sub [(2, .int .u8 a2), (6, .bool b_33), (8, .int .i64 (IntKind.i64.wrap ((IntKind.i64.wrap (Int.tmod a0 8)) + 1))), (9, .int .i64 (IntKind.i64.wrap (Int.tmod a1 16))), (10, .pointer (some ⟨b_10, 0, none⟩)), (12, .slice A_87 n_88 c_89), (14, .int .i64 0)] ⟨rfl, rfl, rfl, rfl, rfl, rfl, rfl, trivial⟩ ?_
      refine CW.loop (fun kL2 l_ w_ => ∃ (T_101 : Pool) (b_103 : Bool) (x_104 : Int), l_ = [(2, .int .u8 a2), (6, .bool b_103), (8, .int .i64 (IntKind.i64.wrap ((IntKind.i64.wrap (Int.tmod a0 8)) + 1))), (9, .int .i64 (IntKind.i64.wrap (Int.tmod a1 16))), (10, .pointer (some ⟨b_10, 0, none⟩)), (12, .slice A_87 n_88 c_89), (14, .int .i64 x_104)] ∧ reliquarylaw15_BuffersLast.L2 a0 a1 a2 a_78_0 l_82_1 l_90 kL2 b_103 x_104 ∧ (Pl T_76 T_101) ∧ St w w_ (.cells b_10 (([.int .i64 a_78_0] : List Value) ++ ([.slice A_79_1 n_80_1 c_81_1] : List Value)) 57 :: .sl A_79_1 c_81_1 n_80_1 x_83_1 60 3 :: .sl A_87 c_89 n_88 (iv .u64 l_90) 29 1 :: (T_101 ++ R))) (k := k_100) ⟨T_76, b_33, 0, rfl, H, Pl.refl, st_94⟩ (fun _ _ h => by obtain ⟨_, _, _, _, h, _⟩ := h; exact h.elim) ?_
      rintro kL2 l_107 w_105 ⟨T_101, b_103, x_104, rfl, H, hs_102, st_106⟩
      refine CW.seq ?_
      refine CW.seq ?_
      refine CW.region ?_
      refine WL.val Wanted.none (Runs.move rfl) ?_
      refine WL.val Wanted.none (Runs.move rfl) ?_
      refine WL.val Wanted.none (Runs.len_sl Try.underlying33 rfl (by rw [hn_92])) ?_
      refine WL.val Wanted.none (Runs.lss rfl rfl rfl) ?_
      refine WL.nil ?_
      refine QW.then_n ?_
      rcases H with ⟨c_108, H⟩ | ⟨c_108, H⟩
      · have h_109 : (decide (x_104 < (l_90.length : Int))) = true := (decide_eq_true c_108)
        refine CW.ct rfl h_109 ?_
        refine CW.skip ?_
        refine QW.then_n ?_
        refine CW.seq ?_
        refine CW.block ?_
        refine CW.seq ?_
        refine CW.region ?_
        refine WL.val Wanted.none (Runs.move rfl) ?_
        refine WL.val Wanted.none (Runs.move rfl) ?_
        obtain ⟨⟨p_110, q_111⟩, H⟩ := H
        obtain ⟨a_112, e_113⟩ := (st_106.src_sl (k := 2) rfl).addr_iv ((x_104).toNat) (by omega)
        refine WL.val Wanted.none (Runs.indexAddr Try.underlying33 cells29 (by decide) rfl e_113 rfl p_110 (by rw [hn_92]; exact q_111) (o := (x_104).toNat) (by first | rfl | omega)) ?_
        refine WL.val Wanted.none (Runs.load nagg29 rfl ((st_106.src_sl (k := 2) rfl).cell_iv e_113 (by omega))) ?_
        refine WL.val Wanted.none (Runs.move rfl) ?_
        refine WL.val Wanted.none (Runs.sub rfl rfl rfl) ?_
        refine WL.val Wanted.none (Runs.move rfl) ?_
        obtain ⟨x_114, e_115, H⟩ := H
        refine WL.val Wanted.none (Runs.sub rfl rfl e_115) ?_
        refine WL.val Wanted.none (Runs.conv Try.underlying29 ⟨_, Try.underlying3⟩ rfl rfl) ?_
        refine WL.val Wanted.none (Runs.neq rfl rfl rfl) ?_
        refine WL.nil ?_
        refine QW.then_n ?_
        obtain ⟨c_116, H⟩ := H
        have h_117 : ((gn l_90 ((x_104).toNat)) != (IntKind.u64.wrap x_114)) = false := (bne_eq_false_iff_eq.mpr (Decidable.not_not.mp c_116))
        refine CW.cf rfl h_117 ?_
        refine CW.skip ?_
        refine QW.blk_n ?_
        refine QW.then_n ?_
        refine CW.region ?_
        refine WL.val Wanted.none (Runs.move rfl) ?_
        refine WL.val Wanted.none (Runs.add rfl rfl rfl) ?_
        refine WL.val Wanted.none (Runs.assign rfl) ?_
        refine WL.nil ?_
        exact QW.at [(2, .int .u8 a2), (6, .bool b_103), (8, .int .i64 (IntKind.i64.wrap ((IntKind.i64.wrap (Int.tmod a0 8)) + 1))), (9, .int .i64 (IntKind.i64.wrap (Int.tmod a1 16))), (10, .pointer (some ⟨b_10, 0, none⟩)), (12, .slice A_87 n_88 c_89), (14, .int .i64 (IntKind.i64.wrap (x_104 + 1)))] ⟨rfl, rfl, rfl, rfl, rfl, rfl, rfl, trivial⟩ ⟨T_101, b_103, IntKind.i64.wrap (x_104 + 1), rfl, H, hs_102, st_106⟩
      · have h_109 : (decide (x_104 < (l_90.length : Int))) = false := (decide_eq_false c_108)
        refine CW.cf rfl h_109 ?_
        refine CW.exit ?_
        refine QW.then_x ?_
        refine QW.then_x ?_
        refine QW.blk_x ?_
        refine QW.then_n ?_
        refine CW.sub [(2, .int .u8 a2), (6, .bool b_103), (8, .int .i64 (IntKind.i64.wrap ((IntKind.i64.wrap (Int.tmod a0 8)) + 1))), (10, .pointer (some ⟨b_10, 0, none⟩)), (12, .slice A_87 n_88 c_89)] ⟨rfl, rfl, rfl, rfl, rfl, trivial⟩ ?_
        refine CW.seq ?_
        refine CW.seq ?_
        refine CW.region ?_
        refine WL.val Wanted.none (Runs.move rfl) ?_
        refine WL.val Wanted.none (Runs.len_sl Try.underlying33 rfl (by rw [hn_92])) ?_
        refine WL.val Wanted.none (Runs.lss rfl rfl rfl) ?_
        refine WL.nil ?_
        refine QW.then_n ?_
        rcases H with ⟨c_118, H⟩ | ⟨c_118, H⟩
        · have h_119 : (decide ((l_90.length : Int) < 2)) = true := (decide_eq_true c_118)
          refine CW.ct rfl h_119 ?_
          refine CW.seq ?_
          refine CW.region ?_
          refine WL.val Wanted.none (Runs.assign rfl) ?_
          refine WL.nil ?_
          refine QW.then_n ?_
          refine CW.ret ?_
          refine QW.then_r ?_
          exact QW.ret1 rfl rfl ⟨rfl, st_106.ext⟩
        · have h_119 : (decide ((l_90.length : Int) < 2)) = false := (decide_eq_false c_118)
          refine CW.cf rfl h_119 ?_
          refine CW.skip ?_
          refine QW.then_n ?_
          refine CW.seq ?_
          refine CW.region ?_
          refine WL.val Wanted.none (Runs.move rfl) ?_
          refine WL.val Wanted.none (Runs.move rfl) ?_
          refine WL.val Wanted.none (Runs.conv Try.underlying3 ⟨_, Try.underlying5⟩ rfl rfl) ?_
          refine WL.val Wanted.none (Runs.move rfl) ?_
          refine WL.val Wanted.none (Runs.len_sl Try.underlying33 rfl (by rw [hn_92])) ?_
          obtain ⟨z_120, H⟩ := H
          refine WL.val Wanted.none (Runs.rem rfl rfl z_120 rfl) ?_
          obtain ⟨⟨p_121, q_122⟩, H⟩ := H
          obtain ⟨a_123, e_124⟩ := (st_106.src_sl (k := 2) rfl).addr_iv ((Int.tmod (IntKind.i64.wrap a2) (l_90.length : Int)).toNat) (by omega)
          refine WL.val Wanted.none (Runs.indexAddr Try.underlying33 cells29 (by decide) rfl e_124 rfl p_121 (by rw [hn_92]; exact q_122) (o := (Int.tmod (IntKind.i64.wrap a2) (l_90.length : Int)).toNat) (by first | rfl | omega)) ?_
          refine WL.val Wanted.none (Runs.load nagg29 rfl ((st_106.src_sl (k := 2) rfl).cell_iv e_124 (by omega))) ?_
          refine WL.val Wanted.none (Runs.assign rfl) ?_
          refine WL.nil ?_
          refine QW.then_n ?_
          refine CW.sub [(6, .bool b_103), (8, .int .i64 (IntKind.i64.wrap ((IntKind.i64.wrap (Int.tmod a0 8)) + 1))), (10, .pointer (some ⟨b_10, 0, none⟩)), (15, .int .u64 (gn l_90 ((Int.tmod (IntKind.i64.wrap a2) (l_90.length : Int)).toNat)))] ⟨rfl, rfl, rfl, rfl, trivial⟩ ?_
          refine CW.seq ?_
          refine CW.region ?_
          refine WL.val Wanted.none (Runs.move rfl) ?_
          refine WL.val Wanted.none (Runs.move rfl) ?_
          have st_125 : St w w_105 (.cells b_10 (([.int .i64 a_78_0] : List Value) ++ ([.slice A_79_1 n_80_1 c_81_1] : List Value)) 57 :: .sl A_79_1 c_81_1 n_80_1 x_83_1 60 3 :: (T_101 ++ (.sl A_87 c_89 n_88 (iv .u64 l_90) 29 1 :: R))) := St.hide (A := [_, _]) (B := [_]) (T := T_101) (R := R) st_106
          obtain ⟨a_129_0, l_133_1, l_141, a_145, hr_126, H⟩ := H
          refine WL.call Wanted.none ent12 rfl (buffers_Cache_Get.calls w w_105 T_101 (.sl A_87 c_89 n_88 (iv .u64 l_90) 29 1 :: R) a_78_0 l_82_1 (gn l_90 ((Int.tmod (IntKind.i64.wrap a2) (l_90.length : Int)).toNat)) b_10 A_79_1 n_80_1 c_81_1 x_83_1  st_125 (hn_84_1) (hx_85_1.mono (fun _ h_ => hs_102.1 _ h_)) a_129_0 l_133_1 l_141 a_145 hr_126) ?_
          rintro _ w_146 ⟨T_127, A_130_1, n_131_1, c_132_1, x_134_1, A_138, n_139, c_140, hs_128, hn_135_1, hx_136_1, hn_143, rfl, sc_148⟩
          have st_147 : St w w_146 (.cells b_10 (([.int .i64 a_129_0] : List Value) ++ ([.slice A_130_1 n_131_1 c_132_1] : List Value)) 57 :: .sl A_130_1 c_132_1 n_131_1 x_134_1 60 3 :: .sl A_138 c_140 n_139 (iv .u8 l_141) 5 1 :: .sl A_87 c_89 n_88 (iv .u64 l_90) 29 1 :: (T_127 ++ R)) := St.unhide (A := [_, _, _]) (B := [_]) (T := T_127) (R := R) sc_148
          refine ⟨_, rfl, ?_⟩
          refine WL.nil ?_
          refine QW.then_n ?_
          refine CW.seq ?_
          refine CW.seq ?_
          refine CW.region ?_
          refine WL.val Wanted.none (Runs.assign rfl) ?_
          refine WL.nil ?_
          refine QW.then_n ?_
          refine CW.block ?_
          obtain ⟨k_149, H⟩ := H
          refine CW.sub [(6, .bool b_103), (8, .int .i64 (IntKind.i64.wrap ((IntKind.i64.wrap (Int.tmod a0 8)) + 1))), (10, .pointer (some ⟨b_10, 0, none⟩)), (15, .int .u64 (gn l_90 ((Int.tmod (IntKind.i64.wrap a2) (l_90.length : Int)).toNat))), (16, .int .i64 0)] ⟨rfl, rfl, rfl, rfl, rfl, trivial⟩ ?_
          refine CW.loop (fun kL3 l_ w_ => ∃ (T_150 : Pool) (A_156 : Option Addr) (c_157 : Nat) (n_158 : Nat) (x_154 : Cells) (l_152 : List R60) (x_159 : Int) (x_160 : Int), l_ = [(6, .bool b_103), (8, .int .i64 (IntKind.i64.wrap ((IntKind.i64.wrap (Int.tmod a0 8)) + 1))), (10, .pointer (some ⟨b_10, 0, none⟩)), (15, .int .u64 (gn l_90 ((Int.tmod (IntKind.i64.wrap a2) (l_90.length : Int)).toNat))), (16, .int .i64 x_160)] ∧ reliquarylaw15_BuffersLast.L3 a0 a2 l_90 kL3 l_152 x_159 x_160 ∧ (Pl T_127 T_150) ∧ (n_158 = l_152.length) ∧ (HRs T_150 (f60 w) x_154 l_152) ∧ St w w_ (.cells b_10 (([.int .i64 x_159] : List Value) ++ ([.slice A_156 n_158 c_157] : List Value)) 57 :: .sl A_156 c_157 n_158 x_154 60 3 :: .sl A_138 c_140 n_139 (iv .u8 l_141) 5 1 :: .sl A_87 c_89 n_88 (iv .u64 l_90) 29 1 :: (T_150 ++ R))) (k := k_149) ⟨T_127, A_130_1, c_132_1, n_131_1, x_134_1, l_133_1, a_129_0, 0, rfl, H, Pl.refl, hn_135_1, hx_136_1, st_147⟩ (fun _ _ h => by obtain ⟨_, _, _, _, _, _, _, _, _, h, _⟩ := h; exact h.elim) ?_
          rintro kL3 l_163 w_161 ⟨T_150, A_156, c_157, n_158, x_154, l_152, x_159, x_160, rfl, H, hs_151, hn_153, hx_155, st_162⟩
          refine CW.seq ?_
          refine CW.seq ?_
          refine CW.region ?_
          refine WL.val Wanted.none (Runs.move rfl) ?_
          refine WL.val Wanted.none (Runs.move rfl) ?_
          obtain ⟨x_164, e_165, H⟩ := H
          refine WL.val Wanted.none (Runs.sub rfl rfl e_165) ?_
          refine WL.val Wanted.none (Runs.lss rfl rfl rfl) ?_
          refine WL.nil ?_
          refine QW.then_n ?_
          rcases H with ⟨c_166, H⟩ | ⟨c_166, H⟩
          · have h_167 : (decide (x_160 < x_164)) = true := (decide_eq_true c_166)
            refine CW.ct rfl h_167 ?_
            refine CW.skip ?_
            refine QW.then_n ?_
            refine CW.seq ?_
            refine CW.block ?_
            refine CW.region ?_
            refine WL.val Wanted.none (Runs.move rfl) ?_
            refine WL.val Wanted.none (Runs.move rfl) ?_
            refine WL.val Wanted.none (Runs.add rfl rfl rfl) ?_
            refine WL.val Wanted.none (Runs.conv Try.underlying29 ⟨_, Try.underlying3⟩ rfl rfl) ?_
            obtain ⟨r_172, hr_168, H⟩ := H
            refine WL.call Wanted.none ent9 rfl (reliquarylaw15_full.calls w_161 ([] : List Int) false none 0 0 (((HB.nil : HB w T_150 none 0 0 (iv .u8 ([] : List Int)) 0).2.2.at st_162 (mem_T (A := [_, _, _, _]) (fun _ h_ => h_)))) ((HB.nil : HB w T_150 none 0 0 (iv .u8 ([] : List Int)) 0).1) ((HB.nil : HB w T_150 none 0 0 (iv .u8 ([] : List Int)) 0).2.1) r_172 hr_168) ?_
            rintro _ w_169 ⟨A_173, c_174, n_175, hn_176, rfl, sc_171⟩
            have st_170 : St w w_169 (.sl A_173 c_174 n_175 (iv .u8 r_172) 5 1 :: .cells b_10 (([.int .i64 x_159] : List Value) ++ ([.slice A_156 n_158 c_157] : List Value)) 57 :: .sl A_156 c_157 n_158 x_154 60 3 :: .sl A_138 c_140 n_139 (iv .u8 l_141) 5 1 :: .sl A_87 c_89 n_88 (iv .u64 l_90) 29 1 :: (T_150 ++ R)) := st_162.call sc_171
            refine ⟨_, rfl, ?_⟩
            have st_178 := (St.pickT (L := [_, _, _, _, _]) st_170 [1, 2, 0, 3, 4] (by decide))
            replace st_178 : St w w_169 (.cells b_10 (([.int .i64 x_159] : List Value) ++ ([.slice A_156 n_158 c_157] : List Value)) 57 :: .sl A_156 c_157 n_158 x_154 60 3 :: .sl A_173 c_174 n_175 (iv .u8 r_172) 5 1 :: .sl A_138 c_140 n_139 (iv .u8 l_141) 5 1 :: .sl A_87 c_89 n_88 (iv .u64 l_90) 29 1 :: (T_150 ++ R)) := st_178
            have st_179 : St w w_169 (.cells b_10 (([.int .i64 x_159] : List Value) ++ ([.slice A_156 n_158 c_157] : List Value)) 57 :: .sl A_156 c_157 n_158 x_154 60 3 :: (T_150 ++ (.sl A_173 c_174 n_175 (iv .u8 r_172) 5 1 :: .sl A_138 c_140 n_139 (iv .u8 l_141) 5 1 :: .sl A_87 c_89 n_88 (iv .u64 l_90) 29 1 :: R))) := St.hide (A := [_, _]) (B := [_, _, _]) (T := T_150) (R := R) st_178
            obtain ⟨a_183_0, l_187_1, a_192, hr_180, H⟩ := H
            refine WL.call Wanted.none ent11 rfl (buffers_Cache_Put.calls w w_169 T_150 (.sl A_173 c_174 n_175 (iv .u8 r_172) 5 1 :: .sl A_138 c_140 n_139 (iv .u8 l_141) 5 1 :: .sl A_87 c_89 n_88 (iv .u64 l_90) 29 1 :: R) x_159 l_152 (IntKind.u64.wrap (IntKind.i64.wrap (100 + x_160))) r_172 b_10 A_156 n_158 c_157 x_154 A_173 n_175 c_174 (hs_151.2 (hs_128.2 (hs_102.2 (hs_77.2 (hs_24.2 (hs_8.2 hT)))))) (show celly (.sl A_173 c_174 n_175 (iv .u8 r_172) 5 1 :: .sl A_138 c_140 n_139 (iv .u8 l_141) 5 1 :: .sl A_87 c_89 n_88 (iv .u64 l_90) 29 1 :: R) = true from hR) st_179 (hn_153) hx_155 ⟨hn_176, st_178.cap (i := 2) rfl, fun W_ L_ st hT => st.src_mem (hT _ (List.mem_append_right _ (List.mem_of_getElem? (i := 0) rfl)))⟩ a_183_0 l_187_1 a_192 hr_180) ?_
            rintro _ w_193 ⟨T_181, A_184_1, n_185_1, c_186_1, x_188_1, hs_182, hn_189_1, hx_190_1, rfl, sc_195⟩
            have st_194 : St w w_193 (.cells b_10 (([.int .i64 a_183_0] : List Value) ++ ([.slice A_184_1 n_185_1 c_186_1] : List Value)) 57 :: .sl A_184_1 c_186_1 n_185_1 x_188_1 60 3 :: .sl A_173 c_174 n_175 (iv .u8 r_172) 5 1 :: .sl A_138 c_140 n_139 (iv .u8 l_141) 5 1 :: .sl A_87 c_89 n_88 (iv .u64 l_90) 29 1 :: (T_181 ++ R)) := St.unhide (A := [_, _]) (B := [_, _, _]) (T := T_181) (R := R) sc_195
            refine ⟨_, rfl, ?_⟩
            refine WL.nil ?_
            refine QW.blk_n ?_
            refine QW.then_n ?_
            refine CW.region ?_
            refine WL.val Wanted.none (Runs.move rfl) ?_
            refine WL.val Wanted.none (Runs.add rfl rfl rfl) ?_
            refine WL.val Wanted.none (Runs.assign rfl) ?_
            refine WL.nil ?_
            have st_194' := (St.pickT (L := [_, _, _, _, _]) st_194 [0, 1, 3, 4] (by decide))
            exact QW.at [(6, .bool b_103), (8, .int .i64 (IntKind.i64.wrap ((IntKind.i64.wrap (Int.tmod a0 8)) + 1))), (10, .pointer (some ⟨b_10, 0, none⟩)), (15, .int .u64 (gn l_90 ((Int.tmod (IntKind.i64.wrap a2) (l_90.length : Int)).toNat))), (16, .int .i64 (IntKind.i64.wrap (x_160 + 1)))] ⟨rfl, rfl, rfl, rfl, rfl, trivial⟩ ⟨T_181, A_184_1, c_186_1, n_185_1, x_188_1, l_187_1, a_183_0, IntKind.i64.wrap (x_160 + 1), rfl, H, (hs_151.trans hs_182), hn_189_1, hx_190_1, st_194'⟩
          · have h_167 : (decide (x_160 < x_164)) = false := (decide_eq_false c_166)
            refine CW.cf rfl h_167 ?_
            refine CW.exit ?_
            refine QW.then_x ?_
            refine QW.then_x ?_
            refine QW.blk_x ?_
            refine QW.then_n ?_
            refine CW.sub [(6, .bool b_103), (10, .pointer (some ⟨b_10, 0, none⟩)), (15, .int .u64 (gn l_90 ((Int.tmod (IntKind.i64.wrap a2) (l_90.length : Int)).toNat)))] ⟨rfl, rfl, rfl, trivial⟩ ?_
            refine CW.seq ?_
            refine CW.region ?_
            refine WL.val Wanted.none (Runs.move rfl) ?_
            refine WL.val Wanted.none (Runs.move rfl) ?_
            have st_196 : St w w_161 (.cells b_10 (([.int .i64 x_159] : List Value) ++ ([.slice A_156 n_158 c_157] : List Value)) 57 :: .sl A_156 c_157 n_158 x_154 60 3 :: (T_150 ++ (.sl A_138 c_140 n_139 (iv .u8 l_141) 5 1 :: .sl A_87 c_89 n_88 (iv .u64 l_90) 29 1 :: R))) := St.hide (A := [_, _]) (B := [_, _]) (T := T_150) (R := R) st_162
            obtain ⟨a_200_0, l_204_1, l_212, a_216, hr_197, H⟩ := H
            refine WL.call Wanted.none ent12 rfl (buffers_Cache_Get.calls w w_161 T_150 (.sl A_138 c_140 n_139 (iv .u8 l_141) 5 1 :: .sl A_87 c_89 n_88 (iv .u64 l_90) 29 1 :: R) x_159 l_152 (gn l_90 ((Int.tmod (IntKind.i64.wrap a2) (l_90.length : Int)).toNat)) b_10 A_156 n_158 c_157 x_154  st_196 (hn_153) hx_155 a_200_0 l_204_1 l_212 a_216 hr_197) ?_
            rintro _ w_217 ⟨T_198, A_201_1, n_202_1, c_203_1, x_205_1, A_209, n_210, c_211, hs_199, hn_206_1, hx_207_1, hn_214, rfl, sc_219⟩
            have st_218 : St w w_217 (.cells b_10 (([.int .i64 a_200_0] : List Value) ++ ([.slice A_201_1 n_202_1 c_203_1] : List Value)) 57 :: .sl A_201_1 c_203_1 n_202_1 x_205_1 60 3 :: .sl A_209 c_211 n_210 (iv .u8 l_212) 5 1 :: .sl A_138 c_140 n_139 (iv .u8 l_141) 5 1 :: .sl A_87 c_89 n_88 (iv .u64 l_90) 29 1 :: (T_198 ++ R)) := St.unhide (A := [_, _, _]) (B := [_, _]) (T := T_198) (R := R) sc_219
            refine ⟨_, rfl, ?_⟩
            refine WL.val Wanted.none (Runs.move rfl) ?_
            refine WL.val Wanted.none (Runs.extract rfl rfl) ?_
            refine WL.val Wanted.none (Runs.extract rfl rfl) ?_
            refine WL.val Wanted.none (Runs.assign rfl) ?_
            refine WL.val Wanted.none (Runs.assign rfl) ?_
            refine WL.nil ?_
            refine QW.then_n ?_
            refine CW.sub [(6, .bool b_103), (15, .int .u64 (gn l_90 ((Int.tmod (IntKind.i64.wrap a2) (l_90.length : Int)).toNat))), (17, .slice A_209 n_210 c_211), (18, .bool a_216)] ⟨rfl, rfl, rfl, rfl, trivial⟩ ?_
            refine CW.seq ?_
            refine CW.region ?_
            refine WL.val Wanted.none (Runs.move rfl) ?_
            refine WL.val Wanted.none (Runs.move rfl) ?_
            obtain ⟨c_220, H⟩ := H
            have h_221 : a_216 = true := c_220
            refine WL.on ?_ ?_; exact Wanted.guard (dj := 105) (by rfl) (evb (by rfl) h_221) (by rfl)
            refine WL.val Wanted.none (Runs.move rfl) ?_
            refine WL.on ?_ ?_; exact Wanted.guard (dj := 105) (by rfl) (evb (by rfl) h_221) (by rfl)
            obtain ⟨⟨p_222, q_223⟩, H⟩ := H
            obtain ⟨a_224, e_225⟩ := (st_218.src_sl (k := 2) rfl).addr_iv 0 (by omega)
            refine WL.val Wanted.none (Runs.indexAddr Try.underlying22 cells5 (by decide) rfl e_225 rfl p_222 (by rw [hn_214]; exact q_223) (o := 0) (by first | rfl | omega)) ?_
            refine WL.on ?_ ?_; exact Wanted.guard (dj := 105) (by rfl) (evb (by rfl) h_221) (by rfl)
            refine WL.val Wanted.none (Runs.load nagg5 rfl ((st_218.src_sl (k := 2) rfl).cell_iv e_225 (by omega))) ?_
            refine WL.on ?_ ?_; exact Wanted.guard (dj := 105) (by rfl) (evb (by rfl) h_221) (by rfl)
            refine WL.val Wanted.none (Runs.move rfl) ?_
            refine WL.on ?_ ?_; exact Wanted.guard (dj := 105) (by rfl) (evb (by rfl) h_221) (by rfl)
            obtain ⟨x_226, e_227, H⟩ := H
            refine WL.val Wanted.none (Runs.conv Try.underlying5 ⟨_, Try.underlying29⟩ rfl e_227) ?_
            refine WL.on ?_ ?_; exact Wanted.guard (dj := 105) (by rfl) (evb (by rfl) h_221) (by rfl)
            refine WL.val Wanted.none (Runs.eql rfl rfl rfl) ?_
            refine WL.val Wanted.none (Runs.pick_t (evb rfl h_221) rfl) ?_
            refine WL.val Wanted.none (Runs.assign rfl) ?_
            refine WL.nil ?_
            refine QW.then_n ?_
            refine CW.sub [(6, .bool ((gn l_212 0) == x_226))] ⟨rfl, trivial⟩ ?_
            refine CW.ret ?_
            have hz : ((gn l_212 0) == x_226) = true := (beq_iff_eq.mpr H)
            exact QW.ret1 rfl (evb rfl hz) ⟨rfl, st_218.ext⟩
    · have h_97 : (decide ((IntKind.i64.wrap (Int.tmod a1 16)) > (IntKind.i64.wrap ((IntKind.i64.wrap (Int.tmod a0 8)) + 1)))) = false := (decide_eq_false c_96)
      refine CW.cf rfl h_97 ?_
      refine CW.skip ?_
      refine QW.then_n ?_
      refine CW.seq ?_
      refine CW.seq ?_
      refine CW.region ?_
      refine WL.val Wanted.none (Runs.move rfl) ?_
      refine WL.val Wanted.none (Runs.len_sl Try.underlying33 rfl (by rw [hn_92])) ?_
      refine WL.val Wanted.none (Runs.move rfl) ?_
      refine WL.val Wanted.none (Runs.neq rfl rfl rfl) ?_
      refine WL.nil ?_
      refine QW.then_n ?_
      refine CW.sub [(2, .int .u8 a2), (6, .bool b_33), (8, .int .i64 (IntKind.i64.wrap ((IntKind.i64.wrap (Int.tmod a0 8)) + 1))), (9, .int .i64 (IntKind.i64.wrap (Int.tmod a1 16))), (10, .pointer (some ⟨b_10, 0, none⟩)), (12, .slice A_87 n_88 c_89), (55, .bool ((l_90.length : Int) != (IntKind.i64.wrap (Int.tmod a1 16))))] ⟨rfl, rfl, rfl, rfl, rfl, rfl, rfl, trivial⟩ ?_
      obtain ⟨c_228, H⟩ := H
      have h_229 : ((l_90.length : Int) != (IntKind.i64.wrap (Int.tmod a1 16))) = false := (bne_eq_false_iff_eq.mpr (Decidable.not_not.mp c_228))
      refine CW.cf rfl h_229 ?_
      refine CW.skip ?_
      refine QW.then_n ?_
      refine CW.seq ?_
      refine CW.seq ?_
      refine CW.region ?_
      refine WL.val Wanted.none (Runs.assign rfl) ?_
      refine WL.nil ?_
      refine QW.then_n ?_
      refine CW.block ?_
      obtain ⟨k_230, H⟩ := H
      refine CW.sub [(2, .int .u8 a2), (6, .bool b_33), (8, .int .i64 (IntKind.i64.wrap ((IntKind.i64.wrap (Int.tmod a0 8)) + 1))), (9, .int .i64 (IntKind.i64.wrap (Int.tmod a1 16))), (10, .pointer (some ⟨b_10, 0, none⟩)), (12, .slice A_87 n_88 c_89), (14, .int .i64 0)] ⟨rfl, rfl, rfl, rfl, rfl, rfl, rfl, trivial⟩ ?_
      refine CW.loop (fun kL4 l_ w_ => ∃ (T_231 : Pool) (b_233 : Bool) (x_234 : Int), l_ = [(2, .int .u8 a2), (6, .bool b_233), (8, .int .i64 (IntKind.i64.wrap ((IntKind.i64.wrap (Int.tmod a0 8)) + 1))), (9, .int .i64 (IntKind.i64.wrap (Int.tmod a1 16))), (10, .pointer (some ⟨b_10, 0, none⟩)), (12, .slice A_87 n_88 c_89), (14, .int .i64 x_234)] ∧ reliquarylaw15_BuffersLast.L4 a0 a1 a2 a_78_0 l_82_1 l_90 kL4 b_233 x_234 ∧ (Pl T_76 T_231) ∧ St w w_ (.cells b_10 (([.int .i64 a_78_0] : List Value) ++ ([.slice A_79_1 n_80_1 c_81_1] : List Value)) 57 :: .sl A_79_1 c_81_1 n_80_1 x_83_1 60 3 :: .sl A_87 c_89 n_88 (iv .u64 l_90) 29 1 :: (T_231 ++ R))) (k := k_230) ⟨T_76, b_33, 0, rfl, H, Pl.refl, st_94⟩ (fun _ _ h => by obtain ⟨_, _, _, _, h, _⟩ := h; exact h.elim) ?_
      rintro kL4 l_237 w_235 ⟨T_231, b_233, x_234, rfl, H, hs_232, st_236⟩
      refine CW.seq ?_
      refine CW.seq ?_
      refine CW.region ?_
      refine WL.val Wanted.none (Runs.move rfl) ?_
      refine WL.val Wanted.none (Runs.move rfl) ?_
      refine WL.val Wanted.none (Runs.len_sl Try.underlying33 rfl (by rw [hn_92])) ?_
      refine WL.val Wanted.none (Runs.lss rfl rfl rfl) ?_
      refine WL.nil ?_
      refine QW.then_n ?_
      rcases H with ⟨c_238, H⟩ | ⟨c_238, H⟩
      · have h_239 : (decide (x_234 < (l_90.length : Int))) = true := (decide_eq_true c_238)
        refine CW.ct rfl h_239 ?_
        refine CW.skip ?_
        refine QW.then_n ?_
        refine CW.seq ?_
        refine CW.block ?_
        refine CW.seq ?_
        refine CW.region ?_
        refine WL.val Wanted.none (Runs.move rfl) ?_
        refine WL.val Wanted.none (Runs.move rfl) ?_
        obtain ⟨⟨p_240, q_241⟩, H⟩ := H
        obtain ⟨a_242, e_243⟩ := (st_236.src_sl (k := 2) rfl).addr_iv ((x_234).toNat) (by omega)
        refine WL.val Wanted.none (Runs.indexAddr Try.underlying33 cells29 (by decide) rfl e_243 rfl p_240 (by rw [hn_92]; exact q_241) (o := (x_234).toNat) (by first | rfl | omega)) ?_
        refine WL.val Wanted.none (Runs.load nagg29 rfl ((st_236.src_sl (k := 2) rfl).cell_iv e_243 (by omega))) ?_
        refine WL.val Wanted.none (Runs.move rfl) ?_
        refine WL.val Wanted.none (Runs.sub rfl rfl rfl) ?_
        refine WL.val Wanted.none (Runs.move rfl) ?_
        obtain ⟨x_244, e_245, H⟩ := H
        refine WL.val Wanted.none (Runs.sub rfl rfl e_245) ?_
        refine WL.val Wanted.none (Runs.conv Try.underlying29 ⟨_, Try.underlying3⟩ rfl rfl) ?_
        refine WL.val Wanted.none (Runs.neq rfl rfl rfl) ?_
        refine WL.nil ?_
        refine QW.then_n ?_
        obtain ⟨c_246, H⟩ := H
        have h_247 : ((gn l_90 ((x_234).toNat)) != (IntKind.u64.wrap x_244)) = false := (bne_eq_false_iff_eq.mpr (Decidable.not_not.mp c_246))
        refine CW.cf rfl h_247 ?_
        refine CW.skip ?_
        refine QW.blk_n ?_
        refine QW.then_n ?_
        refine CW.region ?_
        refine WL.val Wanted.none (Runs.move rfl) ?_
        refine WL.val Wanted.none (Runs.add rfl rfl rfl) ?_
        refine WL.val Wanted.none (Runs.assign rfl) ?_
        refine WL.nil ?_
        exact QW.at [(2, .int .u8 a2), (6, .bool b_233), (8, .int .i64 (IntKind.i64.wrap ((IntKind.i64.wrap (Int.tmod a0 8)) + 1))), (9, .int .i64 (IntKind.i64.wrap (Int.tmod a1 16))), (10, .pointer (some ⟨b_10, 0, none⟩)), (12, .slice A_87 n_88 c_89), (14, .int .i64 (IntKind.i64.wrap (x_234 + 1)))] ⟨rfl, rfl, rfl, rfl, rfl, rfl, rfl, trivial⟩ ⟨T_231, b_233, IntKind.i64.wrap (x_234 + 1), rfl, H, hs_232, st_236⟩
      · have h_239 : (decide (x_234 < (l_90.length : Int))) = false := (decide_eq_false c_238)
        refine CW.cf rfl h_239 ?_
        refine CW.exit ?_
        refine QW.then_x ?_
        refine QW.then_x ?_
        refine QW.blk_x ?_
        refine QW.then_n ?_
        refine CW.sub [(2, .int .u8 a2), (6, .bool b_233), (8, .int .i64 (IntKind.i64.wrap ((IntKind.i64.wrap (Int.tmod a0 8)) + 1))), (10, .pointer (some ⟨b_10, 0, none⟩)), (12, .slice A_87 n_88 c_89)] ⟨rfl, rfl, rfl, rfl, rfl, trivial⟩ ?_
        refine CW.seq ?_
        refine CW.seq ?_
        refine CW.region ?_
        refine WL.val Wanted.none (Runs.move rfl) ?_
        refine WL.val Wanted.none (Runs.len_sl Try.underlying33 rfl (by rw [hn_92])) ?_
        refine WL.val Wanted.none (Runs.lss rfl rfl rfl) ?_
        refine WL.nil ?_
        refine QW.then_n ?_
        rcases H with ⟨c_248, H⟩ | ⟨c_248, H⟩
        · have h_249 : (decide ((l_90.length : Int) < 2)) = true := (decide_eq_true c_248)
          refine CW.ct rfl h_249 ?_
          refine CW.seq ?_
          refine CW.region ?_
          refine WL.val Wanted.none (Runs.assign rfl) ?_
          refine WL.nil ?_
          refine QW.then_n ?_
          refine CW.ret ?_
          refine QW.then_r ?_
          exact QW.ret1 rfl rfl ⟨rfl, st_236.ext⟩
        · have h_249 : (decide ((l_90.length : Int) < 2)) = false := (decide_eq_false c_248)
          refine CW.cf rfl h_249 ?_
          refine CW.skip ?_
          refine QW.then_n ?_
          refine CW.seq ?_
          refine CW.region ?_
          refine WL.val Wanted.none (Runs.move rfl) ?_
          refine WL.val Wanted.none (Runs.move rfl) ?_
          refine WL.val Wanted.none (Runs.conv Try.underlying3 ⟨_, Try.underlying5⟩ rfl rfl) ?_
          refine WL.val Wanted.none (Runs.move rfl) ?_
          refine WL.val Wanted.none (Runs.len_sl Try.underlying33 rfl (by rw [hn_92])) ?_
          obtain ⟨z_250, H⟩ := H
          refine WL.val Wanted.none (Runs.rem rfl rfl z_250 rfl) ?_
          obtain ⟨⟨p_251, q_252⟩, H⟩ := H
          obtain ⟨a_253, e_254⟩ := (st_236.src_sl (k := 2) rfl).addr_iv ((Int.tmod (IntKind.i64.wrap a2) (l_90.length : Int)).toNat) (by omega)
          refine WL.val Wanted.none (Runs.indexAddr Try.underlying33 cells29 (by decide) rfl e_254 rfl p_251 (by rw [hn_92]; exact q_252) (o := (Int.tmod (IntKind.i64.wrap a2) (l_90.length : Int)).toNat) (by first | rfl | omega)) ?_
          refine WL.val Wanted.none (Runs.load nagg29 rfl ((st_236.src_sl (k := 2) rfl).cell_iv e_254 (by omega))) ?_
          refine WL.val Wanted.none (Runs.assign rfl) ?_
          refine WL.nil ?_
          refine QW.then_n ?_
          refine CW.sub [(6, .bool b_233), (8, .int .i64 (IntKind.i64.wrap ((IntKind.i64.wrap (Int.tmod a0 8)) + 1))), (10, .pointer (some ⟨b_10, 0, none⟩)), (15, .int .u64 (gn l_90 ((Int.tmod (IntKind.i64.wrap a2) (l_90.length : Int)).toNat)))] ⟨rfl, rfl, rfl, rfl, trivial⟩ ?_
          refine CW.seq ?_
          refine CW.region ?_
          refine WL.val Wanted.none (Runs.move rfl) ?_
          refine WL.val Wanted.none (Runs.move rfl) ?_
          have st_255 : St w w_235 (.cells b_10 (([.int .i64 a_78_0] : List Value) ++ ([.slice A_79_1 n_80_1 c_81_1] : List Value)) 57 :: .sl A_79_1 c_81_1 n_80_1 x_83_1 60 3 :: (T_231 ++ (.sl A_87 c_89 n_88 (iv .u64 l_90) 29 1 :: R))) := St.hide (A := [_, _]) (B := [_]) (T := T_231) (R := R) st_236
          obtain ⟨a_259_0, l_263_1, l_271, a_275, hr_256, H⟩ := H
          refine WL.call Wanted.none ent12 rfl (buffers_Cache_Get.calls w w_235 T_231 (.sl A_87 c_89 n_88 (iv .u64 l_90) 29 1 :: R) a_78_0 l_82_1 (gn l_90 ((Int.tmod (IntKind.i64.wrap a2) (l_90.length : Int)).toNat)) b_10 A_79_1 n_80_1 c_81_1 x_83_1  st_255 (hn_84_1) (hx_85_1.mono (fun _ h_ => hs_232.1 _ h_)) a_259_0 l_263_1 l_271 a_275 hr_256) ?_
          rintro _ w_276 ⟨T_257, A_260_1, n_261_1, c_262_1, x_264_1, A_268, n_269, c_270, hs_258, hn_265_1, hx_266_1, hn_273, rfl, sc_278⟩
          have st_277 : St w w_276 (.cells b_10 (([.int .i64 a_259_0] : List Value) ++ ([.slice A_260_1 n_261_1 c_262_1] : List Value)) 57 :: .sl A_260_1 c_262_1 n_261_1 x_264_1 60 3 :: .sl A_268 c_270 n_269 (iv .u8 l_271) 5 1 :: .sl A_87 c_89 n_88 (iv .u64 l_90) 29 1 :: (T_257 ++ R)) := St.unhide (A := [_, _, _]) (B := [_]) (T := T_257) (R := R) sc_278
          refine ⟨_, rfl, ?_⟩
          refine WL.nil ?_
          refine QW.then_n ?_
          refine CW.seq ?_
          refine CW.seq ?_
          refine CW.region ?_
          refine WL.val Wanted.none (Runs.assign rfl) ?_
          refine WL.nil ?_
          refine QW.then_n ?_
          refine CW.block ?_
          obtain ⟨k_279, H⟩ := H
          refine CW.sub [(6, .bool b_233), (8, .int .i64 (IntKind.i64.wrap ((IntKind.i64.wrap (Int.tmod a0 8)) + 1))), (10, .pointer (some ⟨b_10, 0, none⟩)), (15, .int .u64 (gn l_90 ((Int.tmod (IntKind.i64.wrap a2) (l_90.length : Int)).toNat))), (16, .int .i64 0)] ⟨rfl, rfl, rfl, rfl, rfl, trivial⟩ ?_
          refine CW.loop (fun kL5 l_ w_ => ∃ (T_280 : Pool) (A_286 : Option Addr) (c_287 : Nat) (n_288 : Nat) (x_284 : Cells) (l_282 : List R60) (x_289 : Int) (x_290 : Int), l_ = [(6, .bool b_233), (8, .int .i64 (IntKind.i64.wrap ((IntKind.i64.wrap (Int.tmod a0 8)) + 1))), (10, .pointer (some ⟨b_10, 0, none⟩)), (15, .int .u64 (gn l_90 ((Int.tmod (IntKind.i64.wrap a2) (l_90.length : Int)).toNat))), (16, .int .i64 x_290)] ∧ reliquarylaw15_BuffersLast.L5 a0 a2 l_90 kL5 l_282 x_289 x_290 ∧ (Pl T_257 T_280) ∧ (n_288 = l_282.length) ∧ (HRs T_280 (f60 w) x_284 l_282) ∧ St w w_ (.cells b_10 (([.int .i64 x_289] : List Value) ++ ([.slice A_286 n_288 c_287] : List Value)) 57 :: .sl A_286 c_287 n_288 x_284 60 3 :: .sl A_268 c_270 n_269 (iv .u8 l_271) 5 1 :: .sl A_87 c_89 n_88 (iv .u64 l_90) 29 1 :: (T_280 ++ R))) (k := k_279) ⟨T_257, A_260_1, c_262_1, n_261_1, x_264_1, l_263_1, a_259_0, 0, rfl, H, Pl.refl, hn_265_1, hx_266_1, st_277⟩ (fun _ _ h => by obtain ⟨_, _, _, _, _, _, _, _, _, h, _⟩ := h; exact h.elim) ?_
          rintro kL5 l_293 w_291 ⟨T_280, A_286, c_287, n_288, x_284, l_282, x_289, x_290, rfl, H, hs_281, hn_283, hx_285, st_292⟩
          refine CW.seq ?_
          refine CW.seq ?_
          refine CW.region ?_
          refine WL.val Wanted.none (Runs.move rfl) ?_
          refine WL.val Wanted.none (Runs.move rfl) ?_
          obtain ⟨x_294, e_295, H⟩ := H
          refine WL.val Wanted.none (Runs.sub rfl rfl e_295) ?_
          refine WL.val Wanted.none (Runs.lss rfl rfl rfl) ?_
          refine WL.nil ?_
          refine QW.then_n ?_
          rcases H with ⟨c_296, H⟩ | ⟨c_296, H⟩
          · have h_297 : (decide (x_290 < x_294)) = true := (decide_eq_true c_296)
            refine CW.ct rfl h_297 ?_
            refine CW.skip ?_
            refine QW.then_n ?_
            refine CW.seq ?_
            refine CW.block ?_
            refine CW.region ?_
            refine WL.val Wanted.none (Runs.move rfl) ?_
            refine WL.val Wanted.none (Runs.move rfl) ?_
            refine WL.val Wanted.none (Runs.add rfl rfl rfl) ?_
            refine WL.val Wanted.none (Runs.conv Try.underlying29 ⟨_, Try.underlying3⟩ rfl rfl) ?_
            obtain ⟨r_302, hr_298, H⟩ := H
            refine WL.call Wanted.none ent9 rfl (reliquarylaw15_full.calls w_291 ([] : List Int) false none 0 0 (((HB.nil : HB w T_280 none 0 0 (iv .u8 ([] : List Int)) 0).2.2.at st_292 (mem_T (A := [_, _, _, _]) (fun _ h_ => h_)))) ((HB.nil : HB w T_280 none 0 0 (iv .u8 ([] : List Int)) 0).1) ((HB.nil : HB w T_280 none 0 0 (iv .u8 ([] : List Int)) 0).2.1) r_302 hr_298) ?_
            rintro _ w_299 ⟨A_303, c_304, n_305, hn_306, rfl, sc_301⟩
            have st_300 : St w w_299 (.sl A_303 c_304 n_305 (iv .u8 r_302) 5 1 :: .cells b_10 (([.int .i64 x_289] : List Value) ++ ([.slice A_286 n_288 c_287] : List Value)) 57 :: .sl A_286 c_287 n_288 x_284 60 3 :: .sl A_268 c_270 n_269 (iv .u8 l_271) 5 1 :: .sl A_87 c_89 n_88 (iv .u64 l_90) 29 1 :: (T_280 ++ R)) := st_292.call sc_301
            refine ⟨_, rfl, ?_⟩
            have st_308 := (St.pickT (L := [_, _, _, _, _]) st_300 [1, 2, 0, 3, 4] (by decide))
            replace st_308 : St w w_299 (.cells b_10 (([.int .i64 x_289] : List Value) ++ ([.slice A_286 n_288 c_287] : List Value)) 57 :: .sl A_286 c_287 n_288 x_284 60 3 :: .sl A_303 c_304 n_305 (iv .u8 r_302) 5 1 :: .sl A_268 c_270 n_269 (iv .u8 l_271) 5 1 :: .sl A_87 c_89 n_88 (iv .u64 l_90) 29 1 :: (T_280 ++ R)) := st_308
            have st_309 : St w w_299 (.cells b_10 (([.int .i64 x_289] : List Value) ++ ([.slice A_286 n_288 c_287] : List Value)) 57 :: .sl A_286 c_287 n_288 x_284 60 3 :: (T_280 ++ (.sl A_303 c_304 n_305 (iv .u8 r_302) 5 1 :: .sl A_268 c_270 n_269 (iv .u8 l_271) 5 1 :: .sl A_87 c_89 n_88 (iv .u64 l_90) 29 1 :: R))) := St.hide (A := [_, _]) (B := [_, _, _]) (T := T_280) (R := R) st_308
            obtain ⟨a_313_0, l_317_1, a_322, hr_310, H⟩ := H
            refine WL.call Wanted.none ent11 rfl (buffers_Cache_Put.calls w w_299 T_280 (.sl A_303 c_304 n_305 (iv .u8 r_302) 5 1 :: .sl A_268 c_270 n_269 (iv .u8 l_271) 5 1 :: .sl A_87 c_89 n_88 (iv .u64 l_90) 29 1 :: R) x_289 l_282 (IntKind.u64.wrap (IntKind.i64.wrap (100 + x_290))) r_302 b_10 A_286 n_288 c_287 x_284 A_303 n_305 c_304 (hs_281.2 (hs_258.2 (hs_232.2 (hs_77.2 (hs_24.2 (hs_8.2 hT)))))) (show celly (.sl A_303 c_304 n_305 (iv .u8 r_302) 5 1 :: .sl A_268 c_270 n_269 (iv .u8 l_271) 5 1 :: .sl A_87 c_89 n_88 (iv .u64 l_90) 29 1 :: R) = true from hR) st_309 (hn_283) hx_285 ⟨hn_306, st_308.cap (i := 2) rfl, fun W_ L_ st hT => st.src_mem (hT _ (List.mem_append_right _ (List.mem_of_getElem? (i := 0) rfl)))⟩ a_313_0 l_317_1 a_322 hr_310) ?_
            rintro _ w_323 ⟨T_311, A_314_1, n_315_1, c_316_1, x_318_1, hs_312, hn_319_1, hx_320_1, rfl, sc_325⟩
            have st_324 : St w w_323 (.cells b_10 (([.int .i64 a_313_0] : List Value) ++ ([.slice A_314_1 n_315_1 c_316_1] : List Value)) 57 :: .sl A_314_1 c_316_1 n_315_1 x_318_1 60 3 :: .sl A_303 c_304 n_305 (iv .u8 r_302) 5 1 :: .sl A_268 c_270 n_269 (iv .u8 l_271) 5 1 :: .sl A_87 c_89 n_88 (iv .u64 l_90) 29 1 :: (T_311 ++ R)) := St.unhide (A := [_, _]) (B := [_, _, _]) (T := T_311) (R := R) sc_325
            refine ⟨_, rfl, ?_⟩
            refine WL.nil ?_
            refine QW.blk_n ?_
            refine QW.then_n ?_
            refine CW.region ?_
            refine WL.val Wanted.none (Runs.move rfl) ?_
            refine WL.val Wanted.none (Runs.add rfl rfl rfl) ?_
            refine WL.val Wanted.none (Runs.assign rfl) ?_
            refine WL.nil ?_
            have st_324' := (St.pickT (L := [_, _, _, _, _]) st_324 [0, 1, 3, 4] (by decide))
            exact QW.at [(6, .bool b_233), (8, .int .i64 (IntKind.i64.wrap ((IntKind.i64.wrap (Int.tmod a0 8)) + 1))), (10, .pointer (some ⟨b_10, 0, none⟩)), (15, .int .u64 (gn l_90 ((Int.tmod (IntKind.i64.wrap a2) (l_90.length : Int)).toNat))), (16, .int .i64 (IntKind.i64.wrap (x_290 + 1)))] ⟨rfl, rfl, rfl, rfl, rfl, trivial⟩ ⟨T_311, A_314_1, c_316_1, n_315_1, x_318_1, l_317_1, a_313_0, IntKind.i64.wrap (x_290 + 1), rfl, H, (hs_281.trans hs_312), hn_319_1, hx_320_1, st_324'⟩
          · have h_297 : (decide (x_290 < x_294)) = false := (decide_eq_false c_296)
            refine CW.cf rfl h_297 ?_
            refine CW.exit ?_
            refine QW.then_x ?_
            refine QW.then_x ?_
            refine QW.blk_x ?_
            refine QW.then_n ?_
            refine CW.sub [(6, .bool b_233), (10, .pointer (some ⟨b_10, 0, none⟩)), (15, .int .u64 (gn l_90 ((Int.tmod (IntKind.i64.wrap a2) (l_90.length : Int)).toNat)))] ⟨rfl, rfl, rfl, trivial⟩ ?_
            refine CW.seq ?_
            refine CW.region ?_
            refine WL.val Wanted.none (Runs.move rfl) ?_
            refine WL.val Wanted.none (Runs.move rfl) ?_
            have st_326 : St w w_291 (.cells b_10 (([.int .i64 x_289] : List Value) ++ ([.slice A_286 n_288 c_287] : List Value)) 57 :: .sl A_286 c_287 n_288 x_284 60 3 :: (T_280 ++ (.sl A_268 c_270 n_269 (iv .u8 l_271) 5 1 :: .sl A_87 c_89 n_88 (iv .u64 l_90) 29 1 :: R))) := St.hide (A := [_, _]) (B := [_, _]) (T := T_280) (R := R) st_292
            obtain ⟨a_330_0, l_334_1, l_342, a_346, hr_327, H⟩ := H
            refine WL.call Wanted.none ent12 rfl (buffers_Cache_Get.calls w w_291 T_280 (.sl A_268 c_270 n_269 (iv .u8 l_271) 5 1 :: .sl A_87 c_89 n_88 (iv .u64 l_90) 29 1 :: R) x_289 l_282 (gn l_90 ((Int.tmod (IntKind.i64.wrap a2) (l_90.length : Int)).toNat)) b_10 A_286 n_288 c_287 x_284  st_326 (hn_283) hx_285 a_330_0 l_334_1 l_342 a_346 hr_327) ?_
            rintro _ w_347 ⟨T_328, A_331_1, n_332_1, c_333_1, x_335_1, A_339, n_340, c_341, hs_329, hn_336_1, hx_337_1, hn_344, rfl, sc_349⟩
            have st_348 : St w w_347 (.cells b_10 (([.int .i64 a_330_0] : List Value) ++ ([.slice A_331_1 n_332_1 c_333_1] : List Value)) 57 :: .sl A_331_1 c_333_1 n_332_1 x_335_1 60 3 :: .sl A_339 c_341 n_340 (iv .u8 l_342) 5 1 :: .sl A_268 c_270 n_269 (iv .u8 l_271) 5 1 :: .sl A_87 c_89 n_88 (iv .u64 l_90) 29 1 :: (T_328 ++ R)) := St.unhide (A := [_, _, _]) (B := [_, _]) (T := T_328) (R := R) sc_349
            refine ⟨_, rfl, ?_⟩
            refine WL.val Wanted.none (Runs.move rfl) ?_
            refine WL.val Wanted.none (Runs.extract rfl rfl) ?_
            refine WL.val Wanted.none (Runs.extract rfl rfl) ?_
            refine WL.val Wanted.none (Runs.assign rfl) ?_
            refine WL.val Wanted.none (Runs.assign rfl) ?_
            refine WL.nil ?_
            refine QW.then_n ?_
            refine CW.sub [(6, .bool b_233), (15, .int .u64 (gn l_90 ((Int.tmod (IntKind.i64.wrap a2) (l_90.length : Int)).toNat))), (17, .slice A_339 n_340 c_341), (18, .bool a_346)] ⟨rfl, rfl, rfl, rfl, trivial⟩ ?_
            refine CW.seq ?_
            refine CW.region ?_
            refine WL.val Wanted.none (Runs.move rfl) ?_
            refine WL.val Wanted.none (Runs.move rfl) ?_
            obtain ⟨c_350, H⟩ := H
            have h_351 : a_346 = true := c_350
            refine WL.on ?_ ?_; exact Wanted.guard (dj := 105) (by rfl) (evb (by rfl) h_351) (by rfl)
            refine WL.val Wanted.none (Runs.move rfl) ?_
            refine WL.on ?_ ?_; exact Wanted.guard (dj := 105) (by rfl) (evb (by rfl) h_351) (by rfl)
            obtain ⟨⟨p_352, q_353⟩, H⟩ := H
            obtain ⟨a_354, e_355⟩ := (st_348.src_sl (k := 2) rfl).addr_iv 0 (by omega)
            refine WL.val Wanted.none (Runs.indexAddr Try.underlying22 cells5 (by decide) rfl e_355 rfl p_352 (by rw [hn_344]; exact q_353) (o := 0) (by first | rfl | omega)) ?_
            refine WL.on ?_ ?_; exact Wanted.guard (dj := 105) (by rfl) (evb (by rfl) h_351) (by rfl)
            refine WL.val Wanted.none (Runs.load nagg5 rfl ((st_348.src_sl (k := 2) rfl).cell_iv e_355 (by omega))) ?_
            refine WL.on ?_ ?_; exact Wanted.guard (dj := 105) (by rfl) (evb (by rfl) h_351) (by rfl)
            refine WL.val Wanted.none (Runs.move rfl) ?_
            refine WL.on ?_ ?_; exact Wanted.guard (dj := 105) (by rfl) (evb (by rfl) h_351) (by rfl)
            obtain ⟨x_356, e_357, H⟩ := H
            refine WL.val Wanted.none (Runs.conv Try.underlying5 ⟨_, Try.underlying29⟩ rfl e_357) ?_
            refine WL.on ?_ ?_; exact Wanted.guard (dj := 105) (by rfl) (evb (by rfl) h_351) (by rfl)
            refine WL.val Wanted.none (Runs.eql rfl rfl rfl) ?_
            refine WL.val Wanted.none (Runs.pick_t (evb rfl h_351) rfl) ?_
            refine WL.val Wanted.none (Runs.assign rfl) ?_
            refine WL.nil ?_
            refine QW.then_n ?_
            refine CW.sub [(6, .bool ((gn l_342 0) == x_356))] ⟨rfl, trivial⟩ ?_
            refine CW.ret ?_
            have hz : ((gn l_342 0) == x_356) = true := (beq_iff_eq.mpr H)
            exact QW.ret1 rfl (evb rfl hz) ⟨rfl, st_348.ext⟩

/-! ### buffers_Cache_find_nil0: function 22 -/
def buffers_Cache_find_nil0.rel (a1 : Int) (ar0 : Int) : Prop := ar0 = -1
set_option maxHeartbeats 1000000 in
set_option maxRecDepth 100000 in
theorem buffers_Cache_find_nil0.calls (w w1 : World) (T R : Pool) (a1 : Int)  (st0 : St w w1 ((T ++ R)))  (ar0 : Int) (H : buffers_Cache_find_nil0.rel a1 ar0) :
    Calls Try.prog 22 #[.pointer none, .int .u64 a1] w1 fun e w' => ∃ T' , Pl T T' ∧ e = .returned (.int .i64 ar0) ∧ St w w' ((T' ++ R)) := by
  refine CW.enter Try.func22 rfl (n := 13) rfl [.pointer none, .int .u64 a1] (Nat.le_of_ble_eq_true rfl) ?_
  refine CW.sub [(0, .pointer none), (1, .int .u64 a1)] ⟨rfl, rfl, trivial⟩ ?_
  refine CW.seq ?_
  refine CW.region ?_
  refine WL.box st0 rfl rfl ?_
  intro B_1 w_2 st_3
  replace st_3 : St w w_2 (.cells B_1 [.int .u64 a1] 29 :: (T ++ R)) := st_3
  refine WL.val Wanted.none (Runs.assign rfl) ?_
  refine WL.nil ?_
  refine QW.then_n ?_
  refine CW.seq ?_
  refine CW.seq ?_
  refine CW.region ?_
  refine WL.val Wanted.none (Runs.move rfl) ?_
  refine WL.val Wanted.none (Runs.eql_ptr Try.underlying25 rfl rfl rfl) ?_
  refine WL.nil ?_
  refine QW.then_n ?_
  refine CW.ct rfl rfl ?_
  refine CW.seq ?_
  refine CW.region ?_
  refine WL.val Wanted.none (Runs.assign rfl) ?_
  refine WL.nil ?_
  refine QW.then_n ?_
  refine CW.ret ?_
  refine QW.then_r ?_
  obtain rfl := H
  exact QW.ret1 rfl rfl ⟨T, Pl.refl, rfl, (St.pickT (L := [_]) st_3 [] (by decide))⟩

/-! ### buffers_Cache_Get_nil0: function 12 -/
def buffers_Cache_Get_nil0.rel (a1 : Int) (lr0 : List Int) (ar1 : Bool) : Prop := (∃ (a_6 : Int), buffers_Cache_find_nil0.rel a1 a_6 ∧ (a_6 < 0 ∧ lr0 = ([] : List Int) ∧ ar1 = false))
set_option maxHeartbeats 1000000 in
set_option maxRecDepth 100000 in
theorem buffers_Cache_Get_nil0.calls (w w1 : World) (T R : Pool) (a1 : Int)  (st0 : St w w1 ((T ++ R)))  (lr0 : List Int) (ar1 : Bool) (H : buffers_Cache_Get_nil0.rel a1 lr0 ar1) :
    Calls Try.prog 12 #[.pointer none, .int .u64 a1] w1 fun e w' => ∃ T' Ar0 nr0 cr0, Pl T T' ∧ nr0 = lr0.length ∧ e = .returned (.tuple #[.slice Ar0 nr0 cr0, .bool ar1]) ∧ St w w' (.sl Ar0 cr0 nr0 (iv .u8 lr0) 5 1 :: (T' ++ R)) := by
  refine CW.enter Try.func12 rfl (n := 23) rfl [.pointer none, .int .u64 a1] (Nat.le_of_ble_eq_true rfl) ?_
  refine CW.sub [(0, .pointer none), (1, .int .u64 a1)] ⟨rfl, rfl, trivial⟩ ?_
  refine CW.seq ?_
  refine CW.region ?_
  refine WL.val Wanted.none (Runs.assign rfl) ?_
  refine WL.val Wanted.none (Runs.assign rfl) ?_
  refine WL.nil ?_
  refine QW.then_n ?_
  refine CW.seq ?_
  refine CW.region ?_
  refine WL.val Wanted.none (Runs.move rfl) ?_
  refine WL.val Wanted.none (Runs.move rfl) ?_
  have st_1 : St w w1 ((T ++ (R))) := St.hide (A := []) (B := []) (T := T) (R := R) st0
  obtain ⟨a_6, hr_2, H⟩ := H
  refine WL.call Wanted.none ent22 rfl (buffers_Cache_find_nil0.calls w w1 T (R) a1  st_1 a_6 hr_2) ?_
  rintro _ w_7 ⟨T_3, hs_4, rfl, sc_9⟩
  have st_8 : St w w_7 ((T_3 ++ R)) := St.unhide (A := []) (B := []) (T := T_3) (R := R) sc_9
  refine ⟨_, rfl, ?_⟩
  refine WL.val Wanted.none (Runs.assign rfl) ?_
  refine WL.nil ?_
  refine QW.then_n ?_
  refine CW.seq ?_
  refine CW.seq ?_
  refine CW.region ?_
  refine WL.val Wanted.none (Runs.move rfl) ?_
  refine WL.val Wanted.none (Runs.lss rfl rfl rfl) ?_
  refine WL.nil ?_
  refine QW.then_n ?_
  obtain ⟨c_10, H⟩ := H
  have h_11 : (decide (a_6 < 0)) = true := (decide_eq_true c_10)
  refine CW.ct rfl h_11 ?_
  refine CW.seq ?_
  refine CW.region ?_
  refine WL.val Wanted.none (Runs.assign rfl) ?_
  refine WL.val Wanted.none (Runs.assign rfl) ?_
  refine WL.nil ?_
  refine QW.then_n ?_
  refine CW.sub [(0, .pointer none), (4, .slice none 0 0), (5, .bool false), (6, .int .i64 a_6)] ⟨rfl, rfl, rfl, rfl, trivial⟩ ?_
  refine CW.ret ?_
  refine QW.then_r ?_
  have st_13 := st_8.nil_sl 5 1
  have st_13 : St w w_7 (.sl none 0 0 (iv .u8 ([] : List Int)) 5 1 :: (T_3 ++ R)) := st_13
  obtain ⟨rfl, rfl⟩ := H
  exact QW.ret2 rfl rfl rfl ⟨T_3, none, 0, 0, hs_4, rfl, rfl, (St.pickT (L := [_]) st_13 [0] (by decide))⟩

/-! ### buffers_Cache_Clear_nil0: function 21 -/
def buffers_Cache_Clear_nil0.rel   : Prop := True
set_option maxHeartbeats 1000000 in
set_option maxRecDepth 100000 in
theorem buffers_Cache_Clear_nil0.calls (w w1 : World) (T R : Pool)   (st0 : St w w1 ((T ++ R)))   (H : buffers_Cache_Clear_nil0.rel  ) :
    Calls Try.prog 21 #[.pointer none] w1 fun e w' => ∃ T' , Pl T T' ∧ e = .returned (.tuple #[]) ∧ St w w' ((T' ++ R)) := by
  refine CW.enter Try.func21 rfl (n := 7) rfl [.pointer none] (Nat.le_of_ble_eq_true rfl) ?_
  refine CW.sub [(0, .pointer none)] ⟨rfl, trivial⟩ ?_
  refine CW.seq ?_
  refine CW.region ?_
  refine WL.val Wanted.none (Runs.move rfl) ?_
  refine WL.val Wanted.none (Runs.neq_ptr Try.underlying25 rfl rfl rfl) ?_
  refine WL.nil ?_
  refine QW.then_n ?_
  refine CW.cf rfl rfl ?_
  refine CW.skip ?_
  exact QW.end0 rfl ⟨T, Pl.refl, rfl, (St.pickT (L := []) st0 [] (by decide))⟩

/-! ### buffers_Cache_Put_nil0: function 11 -/
def buffers_Cache_Put_nil0.rel (a1 : Int) (l2 : List Int) (ar0 : Int) : Prop := ar0 = 1
set_option maxHeartbeats 1000000 in
set_option maxRecDepth 100000 in
theorem buffers_Cache_Put_nil0.calls (w w1 : World) (T R : Pool) (a1 : Int) (l2 : List Int) (A2 : Option Addr) (n2 : Nat) (c2 : Nat) (st0 : St w w1 ((T ++ R))) (hb2 : HB w (T ++ R) A2 n2 c2 (iv .u8 l2) l2.length) (ar0 : Int) (H : buffers_Cache_Put_nil0.rel a1 l2 ar0) :
    Calls Try.prog 11 #[.pointer none, .int .u64 a1, .slice A2 n2 c2] w1 fun e w' => ∃ T' , Pl T T' ∧ e = .returned (.int .i64 ar0) ∧ St w w' ((T' ++ R)) := by
  refine CW.enter Try.func11 rfl (n := 52) rfl [.pointer none, .int .u64 a1, .slice A2 n2 c2] (Nat.le_of_ble_eq_true rfl) ?_
  refine CW.sub [(0, .pointer none), (1, .int .u64 a1), (2, .slice A2 n2 c2)] ⟨rfl, rfl, rfl, trivial⟩ ?_
  refine CW.seq ?_
  refine CW.region ?_
  refine WL.val Wanted.none (Runs.assign rfl) ?_
  refine WL.nil ?_
  refine QW.then_n ?_
  refine CW.seq ?_
  refine CW.seq ?_
  refine CW.region ?_
  refine WL.val Wanted.none (Runs.move rfl) ?_
  refine WL.val Wanted.none (Runs.eql_ptr Try.underlying25 rfl rfl rfl) ?_
  refine WL.val Wanted.none (Runs.move rfl) ?_
  refine WL.off ?_ ?_; exact Wanted.guard (dj := 10) (by rfl) (by rfl) (by rfl)
  refine WL.off ?_ ?_; exact Wanted.guard (dj := 10) (by rfl) (by rfl) (by rfl)
  refine WL.off ?_ ?_; exact Wanted.guard (dj := 10) (by rfl) (by rfl) (by rfl)
  refine WL.val Wanted.none (Runs.pick_t rfl rfl) ?_
  refine WL.nil ?_
  refine QW.then_n ?_
  refine CW.sub [(0, .pointer none), (1, .int .u64 a1), (2, .slice A2 n2 c2), (6, .int .i64 0), (14, .bool true)] ⟨rfl, rfl, rfl, rfl, rfl, trivial⟩ ?_
  refine CW.ct rfl rfl ?_
  refine CW.seq ?_
  refine CW.region ?_
  refine WL.val Wanted.none (Runs.assign rfl) ?_
  refine WL.nil ?_
  refine QW.then_n ?_
  refine CW.ret ?_
  refine QW.then_r ?_
  obtain rfl := H
  exact QW.ret1 rfl rfl ⟨T, Pl.refl, rfl, (St.pickT (L := []) st0 [] (by decide))⟩

/-! ### buffers_Cache_Pin_nil0: function 16 -/
def buffers_Cache_Pin_nil0.rel (a1 : Int) (ar0 : Bool) : Prop := (∃ (a_6 : Int), buffers_Cache_find_nil0.rel a1 a_6 ∧ (a_6 < 0 ∧ ar0 = false))
set_option maxHeartbeats 1000000 in
set_option maxRecDepth 100000 in
theorem buffers_Cache_Pin_nil0.calls (w w1 : World) (T R : Pool) (a1 : Int)  (st0 : St w w1 ((T ++ R)))  (ar0 : Bool) (H : buffers_Cache_Pin_nil0.rel a1 ar0) :
    Calls Try.prog 16 #[.pointer none, .int .u64 a1] w1 fun e w' => ∃ T' , Pl T T' ∧ e = .returned (.bool ar0) ∧ St w w' ((T' ++ R)) := by
  refine CW.enter Try.func16 rfl (n := 22) rfl [.pointer none, .int .u64 a1] (Nat.le_of_ble_eq_true rfl) ?_
  refine CW.sub [(0, .pointer none), (1, .int .u64 a1)] ⟨rfl, rfl, trivial⟩ ?_
  refine CW.seq ?_
  refine CW.region ?_
  refine WL.val Wanted.none (Runs.assign rfl) ?_
  refine WL.nil ?_
  refine QW.then_n ?_
  refine CW.seq ?_
  refine CW.region ?_
  refine WL.val Wanted.none (Runs.move rfl) ?_
  refine WL.val Wanted.none (Runs.move rfl) ?_
  have st_1 : St w w1 ((T ++ (R))) := St.hide (A := []) (B := []) (T := T) (R := R) st0
  obtain ⟨a_6, hr_2, H⟩ := H
  refine WL.call Wanted.none ent22 rfl (buffers_Cache_find_nil0.calls w w1 T (R) a1  st_1 a_6 hr_2) ?_
  rintro _ w_7 ⟨T_3, hs_4, rfl, sc_9⟩
  have st_8 : St w w_7 ((T_3 ++ R)) := St.unhide (A := []) (B := []) (T := T_3) (R := R) sc_9
  refine ⟨_, rfl, ?_⟩
  refine WL.val Wanted.none (Runs.assign rfl) ?_
  refine WL.nil ?_
  refine QW.then_n ?_
  refine CW.seq ?_
  refine CW.seq ?_
  refine CW.region ?_
  refine WL.val Wanted.none (Runs.move rfl) ?_
  refine WL.val Wanted.none (Runs.lss rfl rfl rfl) ?_
  refine WL.nil ?_
  refine QW.then_n ?_
  obtain ⟨c_10, H⟩ := H
  have h_11 : (decide (a_6 < 0)) = true := (decide_eq_true c_10)
  refine CW.ct rfl h_11 ?_
  refine CW.seq ?_
  refine CW.region ?_
  refine WL.val Wanted.none (Runs.assign rfl) ?_
  refine WL.nil ?_
  refine QW.then_n ?_
  refine CW.sub [(0, .pointer none), (4, .bool false), (5, .int .i64 a_6)] ⟨rfl, rfl, rfl, trivial⟩ ?_
  refine CW.ret ?_
  refine QW.then_r ?_
  obtain rfl := H
  exact QW.ret1 rfl rfl ⟨T_3, hs_4, rfl, (St.pickT (L := []) st_8 [] (by decide))⟩

/-! ### buffers_Cache_Unpin_nil0: function 18 -/
def buffers_Cache_Unpin_nil0.rel (a1 : Int) (ar0 : Bool) : Prop := (∃ (a_6 : Int), buffers_Cache_find_nil0.rel a1 a_6 ∧ (a_6 < 0 ∧ ar0 = false))
set_option maxHeartbeats 1000000 in
set_option maxRecDepth 100000 in
theorem buffers_Cache_Unpin_nil0.calls (w w1 : World) (T R : Pool) (a1 : Int)  (st0 : St w w1 ((T ++ R)))  (ar0 : Bool) (H : buffers_Cache_Unpin_nil0.rel a1 ar0) :
    Calls Try.prog 18 #[.pointer none, .int .u64 a1] w1 fun e w' => ∃ T' , Pl T T' ∧ e = .returned (.bool ar0) ∧ St w w' ((T' ++ R)) := by
  refine CW.enter Try.func18 rfl (n := 33) rfl [.pointer none, .int .u64 a1] (Nat.le_of_ble_eq_true rfl) ?_
  refine CW.sub [(0, .pointer none), (1, .int .u64 a1)] ⟨rfl, rfl, trivial⟩ ?_
  refine CW.seq ?_
  refine CW.region ?_
  refine WL.val Wanted.none (Runs.assign rfl) ?_
  refine WL.nil ?_
  refine QW.then_n ?_
  refine CW.seq ?_
  refine CW.region ?_
  refine WL.val Wanted.none (Runs.move rfl) ?_
  refine WL.val Wanted.none (Runs.move rfl) ?_
  have st_1 : St w w1 ((T ++ (R))) := St.hide (A := []) (B := []) (T := T) (R := R) st0
  obtain ⟨a_6, hr_2, H⟩ := H
  refine WL.call Wanted.none ent22 rfl (buffers_Cache_find_nil0.calls w w1 T (R) a1  st_1 a_6 hr_2) ?_
  rintro _ w_7 ⟨T_3, hs_4, rfl, sc_9⟩
  have st_8 : St w w_7 ((T_3 ++ R)) := St.unhide (A := []) (B := []) (T := T_3) (R := R) sc_9
  refine ⟨_, rfl, ?_⟩
  refine WL.val Wanted.none (Runs.assign rfl) ?_
  refine WL.nil ?_
  refine QW.then_n ?_
  refine CW.seq ?_
  refine CW.seq ?_
  refine CW.region ?_
  refine WL.val Wanted.none (Runs.move rfl) ?_
  refine WL.val Wanted.none (Runs.lss rfl rfl rfl) ?_
  refine WL.val Wanted.none (Runs.move rfl) ?_
  obtain ⟨c_10, H⟩ := H
  have h_11 : (decide (a_6 < 0)) = true := (decide_eq_true c_10)
  refine WL.off ?_ ?_; exact Wanted.guard (dj := 11) (by rfl) (evb (by rfl) h_11) (by rfl)
  refine WL.off ?_ ?_; exact Wanted.guard (dj := 11) (by rfl) (evb (by rfl) h_11) (by rfl)
  refine WL.off ?_ ?_; exact Wanted.guard (dj := 11) (by rfl) (evb (by rfl) h_11) (by rfl)
  refine WL.off ?_ ?_; exact Wanted.guard (dj := 11) (by rfl) (evb (by rfl) h_11) (by rfl)
  refine WL.off ?_ ?_; exact Wanted.guard (dj := 11) (by rfl) (evb (by rfl) h_11) (by rfl)
  refine WL.off ?_ ?_; exact Wanted.guard (dj := 11) (by rfl) (evb (by rfl) h_11) (by rfl)
  refine WL.off ?_ ?_; exact Wanted.guard (dj := 11) (by rfl) (evb (by rfl) h_11) (by rfl)
  refine WL.off ?_ ?_; exact Wanted.guard (dj := 11) (by rfl) (evb (by rfl) h_11) (by rfl)
  refine WL.off ?_ ?_; exact Wanted.guard (dj := 11) (by rfl) (evb (by rfl) h_11) (by rfl)
  refine WL.val Wanted.none (Runs.pick_t (evb rfl h_11) rfl) ?_
  refine WL.nil ?_
  refine QW.then_n ?_
  refine CW.sub [(0, .pointer none), (4, .bool false), (5, .int .i64 a_6), (21, .bool true)] ⟨rfl, rfl, rfl, rfl, trivial⟩ ?_
  refine CW.ct rfl rfl ?_
  refine CW.seq ?_
  refine CW.region ?_
  refine WL.val Wanted.none (Runs.assign rfl) ?_
  refine WL.nil ?_
  refine QW.then_n ?_
  refine CW.ret ?_
  refine QW.then_r ?_
  obtain rfl := H
  exact QW.ret1 rfl rfl ⟨T_3, hs_4, rfl, (St.pickT (L := []) st_8 [] (by decide))⟩

/-! ### buffers_Cache_Drop_nil0: function 19 -/
def buffers_Cache_Drop_nil0.rel (a1 : Int) (ar0 : Bool) : Prop := (∃ (a_6 : Int), buffers_Cache_find_nil0.rel a1 a_6 ∧ (a_6 < 0 ∧ ar0 = false))
set_option maxHeartbeats 1000000 in
set_option maxRecDepth 100000 in
theorem buffers_Cache_Drop_nil0.calls (w w1 : World) (T R : Pool) (a1 : Int)  (st0 : St w w1 ((T ++ R)))  (ar0 : Bool) (H : buffers_Cache_Drop_nil0.rel a1 ar0) :
    Calls Try.prog 19 #[.pointer none, .int .u64 a1] w1 fun e w' => ∃ T' , Pl T T' ∧ e = .returned (.bool ar0) ∧ St w w' ((T' ++ R)) := by
  refine CW.enter Try.func19 rfl (n := 33) rfl [.pointer none, .int .u64 a1] (Nat.le_of_ble_eq_true rfl) ?_
  refine CW.sub [(0, .pointer none), (1, .int .u64 a1)] ⟨rfl, rfl, trivial⟩ ?_
  refine CW.seq ?_
  refine CW.region ?_
  refine WL.val Wanted.none (Runs.assign rfl) ?_
  refine WL.nil ?_
  refine QW.then_n ?_
  refine CW.seq ?_
  refine CW.region ?_
  refine WL.val Wanted.none (Runs.move rfl) ?_
  refine WL.val Wanted.none (Runs.move rfl) ?_
  have st_1 : St w w1 ((T ++ (R))) := St.hide (A := []) (B := []) (T := T) (R := R) st0
  obtain ⟨a_6, hr_2, H⟩ := H
  refine WL.call Wanted.none ent22 rfl (buffers_Cache_find_nil0.calls w w1 T (R) a1  st_1 a_6 hr_2) ?_
  rintro _ w_7 ⟨T_3, hs_4, rfl, sc_9⟩
  have st_8 : St w w_7 ((T_3 ++ R)) := St.unhide (A := []) (B := []) (T := T_3) (R := R) sc_9
  refine ⟨_, rfl, ?_⟩
  refine WL.val Wanted.none (Runs.assign rfl) ?_
  refine WL.nil ?_
  refine QW.then_n ?_
  refine CW.seq ?_
  refine CW.seq ?_
  refine CW.region ?_
  refine WL.val Wanted.none (Runs.move rfl) ?_
  refine WL.val Wanted.none (Runs.lss rfl rfl rfl) ?_
  refine WL.val Wanted.none (Runs.move rfl) ?_
  obtain ⟨c_10, H⟩ := H
  have h_11 : (decide (a_6 < 0)) = true := (decide_eq_true c_10)
  refine WL.off ?_ ?_; exact Wanted.guard (dj := 11) (by rfl) (evb (by rfl) h_11) (by rfl)
  refine WL.off ?_ ?_; exact Wanted.guard (dj := 11) (by rfl) (evb (by rfl) h_11) (by rfl)
  refine WL.off ?_ ?_; exact Wanted.guard (dj := 11) (by rfl) (evb (by rfl) h_11) (by rfl)
  refine WL.off ?_ ?_; exact Wanted.guard (dj := 11) (by rfl) (evb (by rfl) h_11) (by rfl)
  refine WL.off ?_ ?_; exact Wanted.guard (dj := 11) (by rfl) (evb (by rfl) h_11) (by rfl)
  refine WL.off ?_ ?_; exact Wanted.guard (dj := 11) (by rfl) (evb (by rfl) h_11) (by rfl)
  refine WL.off ?_ ?_; exact Wanted.guard (dj := 11) (by rfl) (evb (by rfl) h_11) (by rfl)
  refine WL.off ?_ ?_; exact Wanted.guard (dj := 11) (by rfl) (evb (by rfl) h_11) (by rfl)
  refine WL.off ?_ ?_; exact Wanted.guard (dj := 11) (by rfl) (evb (by rfl) h_11) (by rfl)
  refine WL.val Wanted.none (Runs.pick_t (evb rfl h_11) rfl) ?_
  refine WL.nil ?_
  refine QW.then_n ?_
  refine CW.sub [(0, .pointer none), (4, .bool false), (5, .int .i64 a_6), (21, .bool true)] ⟨rfl, rfl, rfl, rfl, trivial⟩ ?_
  refine CW.ct rfl rfl ?_
  refine CW.seq ?_
  refine CW.region ?_
  refine WL.val Wanted.none (Runs.assign rfl) ?_
  refine WL.nil ?_
  refine QW.then_n ?_
  refine CW.ret ?_
  refine QW.then_r ?_
  obtain rfl := H
  exact QW.ret1 rfl rfl ⟨T_3, hs_4, rfl, (St.pickT (L := []) st_8 [] (by decide))⟩

/-! ### buffers_Cache_Blocks_nil0: function 13 -/
def buffers_Cache_Blocks_nil0.rel  (lr0 : List Int) : Prop := lr0 = ([] : List Int)
set_option maxHeartbeats 1000000 in
set_option maxRecDepth 100000 in
theorem buffers_Cache_Blocks_nil0.calls (w w1 : World) (T R : Pool)   (st0 : St w w1 ((T ++ R)))  (lr0 : List Int) (H : buffers_Cache_Blocks_nil0.rel  lr0) :
    Calls Try.prog 13 #[.pointer none] w1 fun e w' => ∃ T' Ar0 nr0 cr0, Pl T T' ∧ nr0 = lr0.length ∧ e = .returned (.slice Ar0 nr0 cr0) ∧ St w w' (.sl Ar0 cr0 nr0 (iv .u64 lr0) 29 1 :: (T' ++ R)) := by
  refine CW.enter Try.func13 rfl (n := 24) rfl [.pointer none] (Nat.le_of_ble_eq_true rfl) ?_
  refine CW.sub [(0, .pointer none)] ⟨rfl, trivial⟩ ?_
  refine CW.seq ?_
  refine CW.region ?_
  refine WL.val Wanted.none (Runs.assign rfl) ?_
  refine WL.nil ?_
  refine QW.then_n ?_
  refine CW.seq ?_
  refine CW.seq ?_
  refine CW.region ?_
  refine WL.val Wanted.none (Runs.move rfl) ?_
  refine WL.val Wanted.none (Runs.eql_ptr Try.underlying25 rfl rfl rfl) ?_
  refine WL.nil ?_
  refine QW.then_n ?_
  refine CW.ct rfl rfl ?_
  refine CW.seq ?_
  refine CW.region ?_
  refine WL.val Wanted.none (Runs.assign rfl) ?_
  refine WL.nil ?_
  refine QW.then_n ?_
  refine CW.ret ?_
  refine QW.then_r ?_
  have st_2 := st0.nil_sl 29 1
  have st_2 : St w w1 (.sl none 0 0 (iv .u64 ([] : List Int)) 29 1 :: (T ++ R)) := st_2
  obtain rfl := H
  exact QW.ret1 rfl rfl ⟨T, none, 0, 0, Pl.refl, rfl, rfl, (St.pickT (L := [_]) st_2 [0] (by decide))⟩

/-! ### buffers_Cache_Drop: function 19 -/
def buffers_Cache_Drop.rel (a0_0 : Int) (l0_1 : List R60) (a1 : Int) (as0_0 : Int) (ls0_1 : List R60) (ar0 : Bool) : Prop := (∃ (a_5_0 : Int) (l_9_1 : List R60) (a_14 : Int), buffers_Cache_find.rel a0_0 l0_1 a1 a_5_0 l_9_1 a_14 ∧ ((a_14 < 0 ∧ as0_0 = a_5_0 ∧ ls0_1 = l_9_1 ∧ ar0 = false) ∨ (¬ (a_14 < 0) ∧ ((0 ≤ a_14 ∧ a_14 < (l_9_1.length : Int)) ∧ ((((gx l_9_1 ((a_14).toNat)).2.2) > 0 ∧ as0_0 = a_5_0 ∧ ls0_1 = l_9_1 ∧ ar0 = false) ∨ (¬ (((gx l_9_1 ((a_14).toNat)).2.2) > 0) ∧ (∃ (l_43 : List R60), slices_Delete_s_buffers_buffer_buffers_buffer_own0.rel l_9_1 a_14 (IntKind.i64.wrap (a_14 + 1)) l_43 ∧ as0_0 = a_5_0 ∧ ls0_1 = l_43 ∧ ar0 = true)))))))
set_option maxHeartbeats 1000000 in
set_option maxRecDepth 100000 in
theorem buffers_Cache_Drop.calls (w w1 : World) (T R : Pool) (a0_0 : Int) (l0_1 : List R60) (a1 : Int) (b0 : Nat) (A0_1 : Option Addr) (n0_1 : Nat) (c0_1 : Nat) (x0_1 : Cells) (st0 : St w w1 (.cells b0 (([.int .i64 a0_0] : List Value) ++ ([.slice A0_1 n0_1 c0_1] : List Value)) 57 :: .sl A0_1 c0_1 n0_1 x0_1 60 3 :: (T ++ R))) (hn0_1 : n0_1 = l0_1.length) (hx0_1 : HRs T (f60 w) x0_1 l0_1) (as0_0 : Int) (ls0_1 : List R60) (ar0 : Bool) (H : buffers_Cache_Drop.rel a0_0 l0_1 a1 as0_0 ls0_1 ar0) :
    Calls Try.prog 19 #[.pointer (some ⟨b0, 0, none⟩), .int .u64 a1] w1 fun e w' => ∃ T' As0_1 ns0_1 cs0_1 xs0_1, Pl T T' ∧ ns0_1 = ls0_1.length ∧ HRs T' (f60 w) xs0_1 ls0_1 ∧ e = .returned (.bool ar0) ∧ St w w' (.cells b0 (([.int .i64 as0_0] : List Value) ++ ([.slice As0_1 ns0_1 cs0_1] : List Value)) 57 :: .sl As0_1 cs0_1 ns0_1 xs0_1 60 3 :: (T' ++ R)) := by
  refine CW.enter Try.func19 rfl (n := 33) rfl [.pointer (some ⟨b0, 0, none⟩), .int .u64 a1] (Nat.le_of_ble_eq_true rfl) ?_
  refine CW.sub [(0, .pointer (some ⟨b0, 0, none⟩)), (1, .int .u64 a1)] ⟨rfl, rfl, trivial⟩ ?_
  refine CW.seq ?_
  refine CW.region ?_
  refine WL.val Wanted.none (Runs.assign rfl) ?_
  refine WL.nil ?_
  refine QW.then_n ?_
  refine CW.seq ?_
  refine CW.region ?_
  refine WL.val Wanted.none (Runs.move rfl) ?_
  refine WL.val Wanted.none (Runs.move rfl) ?_
  have st_1 : St w w1 (.cells b0 (([.int .i64 a0_0] : List Value) ++ ([.slice A0_1 n0_1 c0_1] : List Value)) 57 :: .sl A0_1 c0_1 n0_1 x0_1 60 3 :: (T ++ (R))) := St.hide (A := [_, _]) (B := []) (T := T) (R := R) st0
  obtain ⟨a_5_0, l_9_1, a_14, hr_2, H⟩ := H
  refine WL.call Wanted.none ent22 rfl (buffers_Cache_find.calls w w1 T (R) a0_0 l0_1 a1 b0 A0_1 n0_1 c0_1 x0_1  st_1 (hn0_1) hx0_1 a_5_0 l_9_1 a_14 hr_2) ?_
  rintro _ w_15 ⟨T_3, A_6_1, n_7_1, c_8_1, x_10_1, hs_4, hn_11_1, hx_12_1, rfl, sc_17⟩
  have st_16 : St w w_15 (.cells b0 (([.int .i64 a_5_0] : List Value) ++ ([.slice A_6_1 n_7_1 c_8_1] : List Value)) 57 :: .sl A_6_1 c_8_1 n_7_1 x_10_1 60 3 :: (T_3 ++ R)) := St.unhide (A := [_, _]) (B := []) (T := T_3) (R := R) sc_17
  refine ⟨_, rfl, ?_⟩
  refine WL.val Wanted.none (Runs.assign rfl) ?_
  refine WL.nil ?_
  refine QW.then_n ?_
  refine CW.seq ?_
  refine CW.seq ?_
  refine CW.region ?_
  refine WL.val Wanted.none (Runs.move rfl) ?_
  refine WL.val Wanted.none (Runs.lss rfl rfl rfl) ?_
  refine WL.val Wanted.none (Runs.move rfl) ?_
  rcases H with ⟨c_18, H⟩ | ⟨c_18, H⟩
  · have h_19 : (decide (a_14 < 0)) = true := (decide_eq_true c_18)
    refine WL.off ?_ ?_; exact Wanted.guard (dj := 11) (by rfl) (evb (by rfl) h_19) (by rfl)
    refine WL.off ?_ ?_; exact Wanted.guard (dj := 11) (by rfl) (evb (by rfl) h_19) (by rfl)
    refine WL.off ?_ ?_; exact Wanted.guard (dj := 11) (by rfl) (evb (by rfl) h_19) (by rfl)
    refine WL.off ?_ ?_; exact Wanted.guard (dj := 11) (by rfl) (evb (by rfl) h_19) (by rfl)
    refine WL.off ?_ ?_; exact Wanted.guard (dj := 11) (by rfl) (evb (by rfl) h_19) (by rfl)
    refine WL.off ?_ ?_; exact Wanted.guard (dj := 11) (by rfl) (evb (by rfl) h_19) (by rfl)
    refine WL.off ?_ ?_; exact Wanted.guard (dj := 11) (by rfl) (evb (by rfl) h_19) (by rfl)
    refine WL.off ?_ ?_; exact Wanted.guard (dj := 11) (by rfl) (evb (by rfl) h_19) (by rfl)
    refine WL.off ?_ ?_; exact Wanted.guard (dj := 11) (by rfl) (evb (by rfl) h_19) (by rfl)
    refine WL.val Wanted.none (Runs.pick_t (evb rfl h_19) rfl) ?_
    refine WL.nil ?_
    refine QW.then_n ?_
    refine CW.sub [(0, .pointer (some ⟨b0, 0, none⟩)), (4, .bool false), (5, .int .i64 a_14), (21, .bool true)] ⟨rfl, rfl, rfl, rfl, trivial⟩ ?_
    refine CW.ct rfl rfl ?_
    refine CW.seq ?_
    refine CW.region ?_
    refine WL.val Wanted.none (Runs.assign rfl) ?_
    refine WL.nil ?_
    refine QW.then_n ?_
    refine CW.ret ?_
    refine QW.then_r ?_
    obtain ⟨rfl, rfl, rfl⟩ := H
    exact QW.ret1 rfl rfl ⟨T_3, A_6_1, n_7_1, c_8_1, x_10_1, hs_4, hn_11_1, hx_12_1, rfl, (St.pickT (L := [_, _]) st_16 [0, 1] (by decide))⟩
  · have h_19 : (decide (a_14 < 0)) = false := (decide_eq_false c_18)
    refine WL.on ?_ ?_; exact Wanted.guard (dj := 11) (by rfl) (evb (by rfl) h_19) (by rfl)
    refine WL.val Wanted.none (Runs.move rfl) ?_
    refine WL.on ?_ ?_; exact Wanted.guard (dj := 11) (by rfl) (evb (by rfl) h_19) (by rfl)
    refine WL.val Wanted.none (Runs.nilCheck rfl) ?_
    refine WL.on ?_ ?_; exact Wanted.guard (dj := 11) (by rfl) (evb (by rfl) h_19) (by rfl)
    refine WL.val Wanted.none (Runs.fieldAddr (off := 1) (p := 1) fld57_1 rfl rfl rfl) ?_
    refine WL.on ?_ ?_; exact Wanted.guard (dj := 11) (by rfl) (evb (by rfl) h_19) (by rfl)
    refine WL.val Wanted.none (Runs.load nagg55 rfl (st_16.cell (k := 0) rfl (part_one (u := .slice A_6_1 n_7_1 c_8_1) (pre := (([.int .i64 a_5_0] : List Value))) (post := (([] : List Value))) (by first | rfl | simp only [List.append_assoc, List.append_nil, List.nil_append, List.cons_append]) (by first | rfl | simp only [List.length_append, List.length_cons, List.length_nil, iv_length])))) ?_
    refine WL.on ?_ ?_; exact Wanted.guard (dj := 11) (by rfl) (evb (by rfl) h_19) (by rfl)
    refine WL.val Wanted.none (Runs.move rfl) ?_
    refine WL.on ?_ ?_; exact Wanted.guard (dj := 11) (by rfl) (evb (by rfl) h_19) (by rfl)
    obtain ⟨⟨p_20, q_21⟩, H⟩ := H
    obtain ⟨a_22, e_23, ms_24, hc_25, hm_26⟩ := el_get (i := (a_14).toNat) (st_16.src_sl (k := 1) rfl) hx_12_1 (fz60 w) (by decide) (by omega)
    obtain ⟨A_27, n_28, c_29, em_31, hb_30⟩ := inv60 hm_26
    replace em_31 : ms_24 = ([.int .u64 ((gx l_9_1 ((a_14).toNat)).1)] : List Value) ++ (([.slice A_27 n_28 c_29] : List Value) ++ ([.int .i64 ((gx l_9_1 ((a_14).toNat)).2.2)] : List Value)) := em_31
    subst em_31
    refine WL.val Wanted.none (Runs.indexAddr Try.underlying55 cells60 (by decide) rfl e_23 rfl p_20 (by rw [show n_7_1 = l_9_1.length from hn_11_1]; exact q_21) (o := ((a_14).toNat) * 3) (by first | rfl | omega)) ?_
    refine WL.on ?_ ?_; exact Wanted.guard (dj := 11) (by rfl) (evb (by rfl) h_19) (by rfl)
    refine WL.val Wanted.none (Runs.fieldAddrB (off := 2) fld60_2 rfl rfl rfl) ?_
    refine WL.on ?_ ?_; exact Wanted.guard (dj := 11) (by rfl) (evb (by rfl) h_19) (by rfl)
    refine WL.val Wanted.none (Runs.load nagg3 rfl (Src.cellAt (j := 2) (Src.cut (st_16.src_sl (k := 1) rfl) e_23 hc_25) rfl)) ?_
    refine WL.on ?_ ?_; exact Wanted.guard (dj := 11) (by rfl) (evb (by rfl) h_19) (by rfl)
    refine WL.val Wanted.none (Runs.gtr rfl rfl rfl) ?_
    refine WL.val Wanted.none (Runs.pick_f (evb rfl h_19) rfl) ?_
    refine WL.nil ?_
    refine QW.then_n ?_
    refine CW.sub [(0, .pointer (some ⟨b0, 0, none⟩)), (4, .bool false), (5, .int .i64 a_14), (21, .bool (decide (((gx l_9_1 ((a_14).toNat)).2.2) > 0)))] ⟨rfl, rfl, rfl, rfl, trivial⟩ ?_
    rcases H with ⟨c_32, H⟩ | ⟨c_32, H⟩
    · have h_33 : (decide (((gx l_9_1 ((a_14).toNat)).2.2) > 0)) = true := (decide_eq_true c_32)
      refine CW.ct rfl h_33 ?_
      refine CW.seq ?_
      refine CW.region ?_
      refine WL.val Wanted.none (Runs.assign rfl) ?_
      refine WL.nil ?_
      refine QW.then_n ?_
      refine CW.ret ?_
      refine QW.then_r ?_
      obtain ⟨rfl, rfl, rfl⟩ := H
      exact QW.ret1 rfl rfl ⟨T_3, A_6_1, n_7_1, c_8_1, x_10_1, hs_4, hn_11_1, hx_12_1, rfl, (St.pickT (L := [_, _]) st_16 [0, 1] (by decide))⟩
    · have h_33 : (decide (((gx l_9_1 ((a_14).toNat)).2.2) > 0)) = false := (decide_eq_false c_32)
      refine CW.cf rfl h_33 ?_
      refine CW.skip ?_
      refine QW.then_n ?_
      refine CW.seq ?_
      refine CW.region ?_
      refine WL.val Wanted.none (Runs.move rfl) ?_
      refine WL.val Wanted.none (Runs.move rfl) ?_
      refine WL.val Wanted.none (Runs.nilCheck rfl) ?_
      refine WL.val Wanted.none (Runs.fieldAddr (off := 1) (p := 1) fld57_1 rfl rfl rfl) ?_
      refine WL.val Wanted.none (Runs.load nagg55 rfl (st_16.cell (k := 0) rfl (part_one (u := .slice A_6_1 n_7_1 c_8_1) (pre := (([.int .i64 a_5_0] : List Value))) (post := (([] : List Value))) (by first | rfl | simp only [List.append_assoc, List.append_nil, List.nil_append, List.cons_append]) (by first | rfl | simp only [List.length_append, List.length_cons, List.length_nil, iv_length])))) ?_
      refine WL.val Wanted.none (Runs.move rfl) ?_
      refine WL.val Wanted.none (Runs.move rfl) ?_
      refine WL.val Wanted.none (Runs.add rfl rfl rfl) ?_
      have st_34 := (St.pickT (L := [_, _]) st_16 [1, 0] (by decide))
      replace st_34 : St w w_15 (.sl A_6_1 c_8_1 n_7_1 x_10_1 60 3 :: .cells b0 (([.int .i64 a_5_0] : List Value) ++ ([.slice A_6_1 n_7_1 c_8_1] : List Value)) 57 :: (T_3 ++ R)) := st_34
      have st_35 : St w w_15 (.sl A_6_1 c_8_1 n_7_1 x_10_1 60 3 :: (T_3 ++ (.cells b0 (([.int .i64 a_5_0] : List Value) ++ ([.slice A_6_1 n_7_1 c_8_1] : List Value)) 57 :: R))) := St.hide (A := [_]) (B := [_]) (T := T_3) (R := R) st_34
      obtain ⟨l_43, hr_36, H⟩ := H
      refine WL.call Wanted.none ent29 rfl (slices_Delete_s_buffers_buffer_buffers_buffer_own0.calls w w_15 T_3 (.cells b0 (([.int .i64 a_5_0] : List Value) ++ ([.slice A_6_1 n_7_1 c_8_1] : List Value)) 57 :: R) l_9_1 a_14 (IntKind.i64.wrap (a_14 + 1)) A_6_1 n_7_1 c_8_1 x_10_1  st_35 (hn_11_1) hx_12_1 l_43 hr_36) ?_
      rintro _ w_47 ⟨T_37, A_40, n_41, c_42, x_44, hs_38, hn_45, hx_46, rfl, sc_49⟩
      have st_48 : St w w_47 (.sl A_40 c_42 n_41 x_44 60 3 :: .cells b0 (([.int .i64 a_5_0] : List Value) ++ ([.slice A_6_1 n_7_1 c_8_1] : List Value)) 57 :: (T_37 ++ R)) := St.unhide (A := [_]) (B := [_]) (T := T_37) (R := R) sc_49
      refine ⟨_, rfl, ?_⟩
      refine WL.val Wanted.none (Runs.nilCheck rfl) ?_
      refine WL.val Wanted.none (Runs.fieldAddr (off := 1) (p := 1) fld57_1 rfl rfl rfl) ?_
      refine WL.store_one (i := 1) (u0 := .slice A_6_1 n_7_1 c_8_1) (pre := (([.int .i64 a_5_0] : List Value))) (post := (([] : List Value))) st_48 rfl cells55 (by first | rfl | simp only [List.append_assoc, List.append_nil, List.nil_append, List.cons_append]) (by first | rfl | simp only [List.length_append, List.length_cons, List.length_nil, iv_length]) rfl rfl rfl ?_
      intro w_50 st_51
      replace st_51 : St w w_50 (.sl A_40 c_42 n_41 x_44 60 3 :: .cells b0 (([.int .i64 a_5_0] : List Value) ++ ([.slice A_40 n_41 c_42] : List Value)) 57 :: (T_37 ++ R)) := by have e_ : (([.int .i64 a_5_0] : List Value) ++ ([.slice A_40 n_41 c_42] : List Value)) = (([.int .i64 a_5_0] : List Value)) ++ ((([.slice A_40 n_41 c_42] : List Value)) ++ (([] : List Value))) := (by first | rfl | simp only [List.append_assoc, List.append_nil, List.nil_append, List.cons_append]); have h_ : St w w_50 (.sl A_40 c_42 n_41 x_44 60 3 :: .cells b0 ((([.int .i64 a_5_0] : List Value)) ++ ((([.slice A_40 n_41 c_42] : List Value)) ++ (([] : List Value)))) 57 :: (T_37 ++ R)) := st_51; rw [← e_] at h_; exact h_
      refine WL.nil ?_
      refine QW.then_n ?_
      refine CW.sub [(4, .bool false)] ⟨rfl, trivial⟩ ?_
      refine CW.seq ?_
      refine CW.region ?_
      refine WL.val Wanted.none (Runs.assign rfl) ?_
      refine WL.nil ?_
      refine QW.then_n ?_
      refine CW.ret ?_
      obtain ⟨rfl, rfl, rfl⟩ := H
      exact QW.ret1 rfl rfl ⟨T_37, A_40, n_41, c_42, x_44, (hs_4.trans hs_38), hn_45, hx_46, rfl, (St.pickT (L := [_, _]) st_51 [1, 0] (by decide))⟩

/-! ### reliquarylaw15_BuffersHold: function 6 -/
def reliquarylaw15_BuffersHold.L1 (a0 : Int) (l1 : List Int) (a2 : Int) : Nat → (List R60) → Int → Bool → Int → Prop
  | 0, _, _, _, _ => False
  | kL1 + 1, l_192, x_199, b_200, x_201 => ((x_201 < (l1.length : Int) ∧ ((x_201 < 40 ∧ ((0 ≤ x_201 ∧ x_201 < (l1.length : Int)) ∧ (((gn l1 ((x_201).toNat)) = 7 ∧ reliquarylaw15_BuffersHold.L1 a0 l1 a2 kL1 l_192 x_199 b_200 (IntKind.i64.wrap (x_201 + 1))) ∨ (¬ ((gn l1 ((x_201).toNat)) = 7) ∧ ((0 ≤ x_201 ∧ x_201 < (l1.length : Int)) ∧ (∃ (r_226 : List Int), reliquarylaw15_full.rel ([] : List Int) false r_226 ∧ (∃ (a_237_0 : Int) (l_241_1 : List R60) (a_246 : Int), buffers_Cache_Put.rel x_199 l_192 (gn l1 ((x_201).toNat)) r_226 a_237_0 l_241_1 a_246 ∧ (¬ (a_246 ≠ 0) ∧ (∃ (a_256_0 : Int) (l_260_1 : List R60) (l_268 : List Int), buffers_Cache_Blocks.rel a_237_0 l_241_1 a_256_0 l_260_1 l_268 ∧ (¬ ((l_268.length : Int) > (IntKind.i64.wrap ((IntKind.i64.wrap (Int.tmod a0 8)) + 2))) ∧ ((0 ≤ x_201 ∧ x_201 < (l1.length : Int)) ∧ (∃ (a_284_0 : Int) (l_288_1 : List R60) (l_296 : List Int), buffers_Cache_Blocks.rel a_256_0 l_260_1 a_284_0 l_288_1 l_296 ∧ ((0 ≤ (0 : Int) ∧ (0 : Int) < (l_296.length : Int)) ∧ (¬ ((gn l_296 0) ≠ (gn l1 ((x_201).toNat))) ∧ reliquarylaw15_BuffersHold.L1 a0 l1 a2 kL1 l_288_1 a_284_0 b_200 (IntKind.i64.wrap (x_201 + 1)))))))))))))))) ∨ (¬ (x_201 < 40) ∧ (∃ (a_312_0 : Int) (l_316_1 : List R60) (l_324 : List Int) (a_328 : Bool), buffers_Cache_Get.rel x_199 l_192 7 a_312_0 l_316_1 l_324 a_328 ∧ (a_328 = true ∧ ((0 ≤ (0 : Int) ∧ (0 : Int) < (l_324.length : Int)) ∧ ((gn l_324 0) = a2 ∧ (∃ (a_344_0 : Int) (l_348_1 : List R60) (a_353 : Bool), buffers_Cache_Unpin.rel a_312_0 l_316_1 7 a_344_0 l_348_1 a_353 ∧ (a_353 = true ∧ (∃ (a_363_0 : Int) (l_367_1 : List R60) (a_372 : Bool), buffers_Cache_Drop.rel a_344_0 l_348_1 7 a_363_0 l_367_1 a_372 ∧ a_372 = true)))))))))) ∨ (¬ (x_201 < (l1.length : Int)) ∧ (∃ (a_380_0 : Int) (l_384_1 : List R60) (l_392 : List Int) (a_396 : Bool), buffers_Cache_Get.rel x_199 l_192 7 a_380_0 l_384_1 l_392 a_396 ∧ (a_396 = true ∧ ((0 ≤ (0 : Int) ∧ (0 : Int) < (l_392.length : Int)) ∧ ((gn l_392 0) = a2 ∧ (∃ (a_412_0 : Int) (l_416_1 : List R60) (a_421 : Bool), buffers_Cache_Unpin.rel a_380_0 l_384_1 7 a_412_0 l_416_1 a_421 ∧ (a_421 = true ∧ (∃ (a_431_0 : Int) (l_435_1 : List R60) (a_440 : Bool), buffers_Cache_Drop.rel a_412_0 l_416_1 7 a_431_0 l_435_1 a_440 ∧ a_440 = true)))))))))
def reliquarylaw15_BuffersHold.rel (a0 : Int) (l1 : List Int) (a2 : Int)  : Prop := (reliquarylaw15_awake.rel  ∧ (∃ (l_13 : List Int) (a_17 : Bool), buffers_Cache_Get_nil0.rel 1 l_13 a_17 ∧ (buffers_Cache_Clear_nil0.rel  ∧ (¬ (a_17 = true) ∧ (∃ (r_34 : List Int), reliquarylaw15_full.rel ([] : List Int) false r_34 ∧ (∃ (a_45 : Int), buffers_Cache_Put_nil0.rel 1 r_34 a_45 ∧ (¬ (a_45 ≠ 1) ∧ (∃ (a_56 : Bool), buffers_Cache_Pin_nil0.rel 1 a_56 ∧ (¬ (a_56 = true) ∧ (∃ (a_67 : Bool), buffers_Cache_Unpin_nil0.rel 1 a_67 ∧ (¬ (a_67 = true) ∧ (∃ (a_78 : Bool), buffers_Cache_Drop_nil0.rel 1 a_78 ∧ (¬ (a_78 = true) ∧ (∃ (l_92 : List Int), buffers_Cache_Blocks_nil0.rel  l_92 ∧ (¬ ((l_92.length : Int) > 0) ∧ (∃ (a_106_0 : Int) (l_110_1 : List R60), buffers_New.rel (IntKind.i64.wrap ((IntKind.i64.wrap (Int.tmod a0 8)) + 2)) a_106_0 l_110_1 ∧ (∃ (r_125 : List Int), reliquarylaw15_full.rel [a2] false r_125 ∧ (∃ (a_136_0 : Int) (l_140_1 : List R60) (a_145 : Int), buffers_Cache_Put.rel a_106_0 l_110_1 7 r_125 a_136_0 l_140_1 a_145 ∧ (∃ (a_153_0 : Int) (l_157_1 : List R60) (a_162 : Bool), buffers_Cache_Pin.rel a_136_0 l_140_1 7 a_153_0 l_157_1 a_162 ∧ (¬ (a_145 ≠ 0) ∧ (¬ (¬ (a_162 = true)) ∧ (∃ (a_174_0 : Int) (l_178_1 : List R60) (a_183 : Bool), buffers_Cache_Drop.rel a_153_0 l_157_1 7 a_174_0 l_178_1 a_183 ∧ (¬ (a_183 = true) ∧ (∃ k_ : Nat, reliquarylaw15_BuffersHold.L1 a0 l1 a2 k_ l_178_1 a_174_0 false 0))))))))))))))))))))))))
set_option maxHeartbeats 4000000 in
set_option maxRecDepth 100000 in
theorem reliquarylaw15_BuffersHold.calls (w : World) (a0 : Int) (l1 : List Int) (a2 : Int) (A1 : Option Addr) (n1 : Nat) (c1 : Nat)  (hs1 : Src w A1 (iv .u64 l1)) (hn1 : n1 = l1.length) (hc1 : n1 ≤ c1)  (H : reliquarylaw15_BuffersHold.rel a0 l1 a2 ) :
    Calls Try.prog 6 #[.int .u8 a0, .slice A1 n1 c1, .int .u8 a2] w fun e w' => e = .returned (.bool true) ∧ Below w.heap.size w w' := by
  refine CW.enter Try.func6 rfl (n := 138) rfl [.int .u8 a0, .slice A1 n1 c1, .int .u8 a2] (Nat.le_of_ble_eq_true rfl) ?_
  refine CW.sub [(0, .int .u8 a0), (1, .slice A1 n1 c1), (2, .int .u8 a2)] ⟨rfl, rfl, rfl, trivial⟩ ?_
  obtain ⟨T, R, hT, hR, st0⟩ := St.start w
  refine CW.seq ?_
  refine CW.region ?_
  refine WL.val Wanted.none (Runs.assign rfl) ?_
  refine WL.nil ?_
  refine QW.then_n ?_
  refine CW.seq ?_
  refine CW.region ?_
  obtain ⟨hr_1, H⟩ := H
  refine WL.call Wanted.none ent8 rfl (reliquarylaw15_awake.calls w hr_1) ?_
  rintro _ w_2 ⟨rfl, sc_4⟩
  have st_3 : St w w_2 ((T ++ R)) := st0.below sc_4
  refine ⟨_, rfl, ?_⟩
  refine WL.val Wanted.none (Runs.assign rfl) ?_
  refine WL.nil ?_
  refine QW.then_n ?_
  refine CW.seq ?_
  refine CW.seq ?_
  refine CW.region ?_
  refine WL.val Wanted.none (Runs.move rfl) ?_
  refine WL.val Wanted.none (Runs.not rfl rfl) ?_
  refine WL.nil ?_
  refine QW.then_n ?_
  refine CW.cf rfl rfl ?_
  refine CW.skip ?_
  refine QW.then_n ?_
  refine CW.seq ?_
  refine CW.region ?_
  refine WL.val Wanted.none (Runs.assign rfl) ?_
  refine WL.nil ?_
  refine QW.then_n ?_
  refine CW.seq ?_
  refine CW.region ?_
  refine WL.val Wanted.none (Runs.move rfl) ?_
  have st_5 : St w w_2 ((T ++ (R))) := St.hide (A := []) (B := []) (T := T) (R := R) st_3
  obtain ⟨l_13, a_17, hr_6, H⟩ := H
  refine WL.call Wanted.none ent12 rfl (buffers_Cache_Get_nil0.calls w w_2 T (R) 1  st_5 l_13 a_17 hr_6) ?_
  rintro _ w_18 ⟨T_7, A_10, n_11, c_12, hs_8, hn_15, rfl, sc_20⟩
  have st_19 : St w w_18 (.sl A_10 c_12 n_11 (iv .u8 l_13) 5 1 :: (T_7 ++ R)) := St.unhide (A := [_]) (B := []) (T := T_7) (R := R) sc_20
  refine ⟨_, rfl, ?_⟩
  refine WL.val Wanted.none (Runs.move rfl) ?_
  refine WL.val Wanted.none (Runs.extract rfl rfl) ?_
  refine WL.val Wanted.none (Runs.extract rfl rfl) ?_
  refine WL.val Wanted.none (Runs.assign rfl) ?_
  refine WL.val Wanted.none (Runs.assign rfl) ?_
  refine WL.nil ?_
  refine QW.then_n ?_
  refine CW.sub [(0, .int .u8 a0), (1, .slice A1 n1 c1), (2, .int .u8 a2), (6, .bool false), (8, .pointer none), (10, .bool a_17)] ⟨rfl, rfl, rfl, rfl, rfl, rfl, trivial⟩ ?_
  refine CW.seq ?_
  refine CW.region ?_
  refine WL.val Wanted.none (Runs.move rfl) ?_
  have st_21 : St w w_18 ((T_7 ++ (.sl A_10 c_12 n_11 (iv .u8 l_13) 5 1 :: R))) := St.hide (A := []) (B := [_]) (T := T_7) (R := R) st_19
  obtain ⟨hr_22, H⟩ := H
  refine WL.call Wanted.none ent21 rfl (buffers_Cache_Clear_nil0.calls w w_18 T_7 (.sl A_10 c_12 n_11 (iv .u8 l_13) 5 1 :: R)   st_21 hr_22) ?_
  rintro _ w_25 ⟨T_23, hs_24, rfl, sc_27⟩
  have st_26 : St w w_25 (.sl A_10 c_12 n_11 (iv .u8 l_13) 5 1 :: (T_23 ++ R)) := St.unhide (A := []) (B := [_]) (T := T_23) (R := R) sc_27
  refine ⟨_, rfl, ?_⟩
  refine WL.nil ?_
  refine QW.then_n ?_
  refine CW.seq ?_
  refine CW.seq ?_
  refine CW.region ?_
  refine WL.val Wanted.none (Runs.move rfl) ?_
  refine WL.val Wanted.none (Runs.move rfl) ?_
  obtain ⟨c_28, H⟩ := H
  have h_29 : a_17 = false := (Bool.eq_false_iff.mpr c_28)
  refine WL.on ?_ ?_; exact Wanted.guard (dj := 29) (by rfl) (evb (by rfl) h_29) (by rfl)
  refine WL.val Wanted.none (Runs.move rfl) ?_
  refine WL.on ?_ ?_; exact Wanted.guard (dj := 29) (by rfl) (evb (by rfl) h_29) (by rfl)
  obtain ⟨r_34, hr_30, H⟩ := H
  refine WL.call Wanted.none ent9 rfl (reliquarylaw15_full.calls w_25 ([] : List Int) false none 0 0 (((HB.nil : HB w T_23 none 0 0 (iv .u8 ([] : List Int)) 0).2.2.at st_26 (mem_T (A := [_]) (fun _ h_ => h_)))) ((HB.nil : HB w T_23 none 0 0 (iv .u8 ([] : List Int)) 0).1) ((HB.nil : HB w T_23 none 0 0 (iv .u8 ([] : List Int)) 0).2.1) r_34 hr_30) ?_
  rintro _ w_31 ⟨A_35, c_36, n_37, hn_38, rfl, sc_33⟩
  have st_32 : St w w_31 (.sl A_35 c_36 n_37 (iv .u8 r_34) 5 1 :: .sl A_10 c_12 n_11 (iv .u8 l_13) 5 1 :: (T_23 ++ R)) := st_26.call sc_33
  refine ⟨_, rfl, ?_⟩
  refine WL.on ?_ ?_; exact Wanted.guard (dj := 29) (by rfl) (evb (by rfl) h_29) (by rfl)
  have st_40 : St w w_31 ((T_23 ++ (.sl A_35 c_36 n_37 (iv .u8 r_34) 5 1 :: .sl A_10 c_12 n_11 (iv .u8 l_13) 5 1 :: R))) := St.hide (A := []) (B := [_, _]) (T := T_23) (R := R) st_32
  obtain ⟨a_45, hr_41, H⟩ := H
  refine WL.call Wanted.none ent11 rfl (buffers_Cache_Put_nil0.calls w w_31 T_23 (.sl A_35 c_36 n_37 (iv .u8 r_34) 5 1 :: .sl A_10 c_12 n_11 (iv .u8 l_13) 5 1 :: R) 1 r_34 A_35 n_37 c_36  st_40 ⟨hn_38, st_32.cap (i := 0) rfl, fun W_ L_ st hT => st.src_mem (hT _ (List.mem_append_right _ (List.mem_of_getElem? (i := 0) rfl)))⟩ a_45 hr_41) ?_
  rintro _ w_46 ⟨T_42, hs_43, rfl, sc_48⟩
  have st_47 : St w w_46 (.sl A_35 c_36 n_37 (iv .u8 r_34) 5 1 :: .sl A_10 c_12 n_11 (iv .u8 l_13) 5 1 :: (T_42 ++ R)) := St.unhide (A := []) (B := [_, _]) (T := T_42) (R := R) sc_48
  refine ⟨_, rfl, ?_⟩
  refine WL.on ?_ ?_; exact Wanted.guard (dj := 29) (by rfl) (evb (by rfl) h_29) (by rfl)
  refine WL.val Wanted.none (Runs.neq rfl rfl rfl) ?_
  refine WL.val Wanted.none (Runs.pick_f (evb rfl h_29) rfl) ?_
  refine WL.val Wanted.none (Runs.move rfl) ?_
  obtain ⟨c_49, H⟩ := H
  have h_50 : (a_45 != 1) = false := (bne_eq_false_iff_eq.mpr (Decidable.not_not.mp c_49))
  refine WL.on ?_ ?_; exact Wanted.guard (dj := 35) (by rfl) (evb (by rfl) h_50) (by rfl)
  refine WL.val Wanted.none (Runs.move rfl) ?_
  refine WL.on ?_ ?_; exact Wanted.guard (dj := 35) (by rfl) (evb (by rfl) h_50) (by rfl)
  have st_51 : St w w_46 ((T_42 ++ (.sl A_35 c_36 n_37 (iv .u8 r_34) 5 1 :: .sl A_10 c_12 n_11 (iv .u8 l_13) 5 1 :: R))) := St.hide (A := []) (B := [_, _]) (T := T_42) (R := R) st_47
  obtain ⟨a_56, hr_52, H⟩ := H
  refine WL.call Wanted.none ent16 rfl (buffers_Cache_Pin_nil0.calls w w_46 T_42 (.sl A_35 c_36 n_37 (iv .u8 r_34) 5 1 :: .sl A_10 c_12 n_11 (iv .u8 l_13) 5 1 :: R) 1  st_51 a_56 hr_52) ?_
  rintro _ w_57 ⟨T_53, hs_54, rfl, sc_59⟩
  have st_58 : St w w_57 (.sl A_35 c_36 n_37 (iv .u8 r_34) 5 1 :: .sl A_10 c_12 n_11 (iv .u8 l_13) 5 1 :: (T_53 ++ R)) := St.unhide (A := []) (B := [_, _]) (T := T_53) (R := R) sc_59
  refine ⟨_, rfl, ?_⟩
  refine WL.val Wanted.none (Runs.pick_f (evb rfl h_50) rfl) ?_
  refine WL.val Wanted.none (Runs.move rfl) ?_
  obtain ⟨c_60, H⟩ := H
  have h_61 : a_56 = false := (Bool.eq_false_iff.mpr c_60)
  refine WL.on ?_ ?_; exact Wanted.guard (dj := 39) (by rfl) (evb (by rfl) h_61) (by rfl)
  refine WL.val Wanted.none (Runs.move rfl) ?_
  refine WL.on ?_ ?_; exact Wanted.guard (dj := 39) (by rfl) (evb (by rfl) h_61) (by rfl)
  have st_62 : St w w_57 ((T_53 ++ (.sl A_35 c_36 n_37 (iv .u8 r_34) 5 1 :: .sl A_10 c_12 n_11 (iv .u8 l_13) 5 1 :: R))) := St.hide (A := []) (B := [_, _]) (T := T_53) (R := R) st_58
  obtain ⟨a_67, hr_63, H⟩ := H
  refine WL.call Wanted.none ent18 rfl (buffers_Cache_Unpin_nil0.calls w w_57 T_53 (.sl A_35 c_36 n_37 (iv .u8 r_34) 5 1 :: .sl A_10 c_12 n_11 (iv .u8 l_13) 5 1 :: R) 1  st_62 a_67 hr_63) ?_
  rintro _ w_68 ⟨T_64, hs_65, rfl, sc_70⟩
  have st_69 : St w w_68 (.sl A_35 c_36 n_37 (iv .u8 r_34) 5 1 :: .sl A_10 c_12 n_11 (iv .u8 l_13) 5 1 :: (T_64 ++ R)) := St.unhide (A := []) (B := [_, _]) (T := T_64) (R := R) sc_70
  refine ⟨_, rfl, ?_⟩
  refine WL.val Wanted.none (Runs.pick_f (evb rfl h_61) rfl) ?_
  refine WL.val Wanted.none (Runs.move rfl) ?_
  obtain ⟨c_71, H⟩ := H
  have h_72 : a_67 = false := (Bool.eq_false_iff.mpr c_71)
  refine WL.on ?_ ?_; exact Wanted.guard (dj := 43) (by rfl) (evb (by rfl) h_72) (by rfl)
  refine WL.val Wanted.none (Runs.move rfl) ?_
  refine WL.on ?_ ?_; exact Wanted.guard (dj := 43) (by rfl) (evb (by rfl) h_72) (by rfl)
  have st_73 : St w w_68 ((T_64 ++ (.sl A_35 c_36 n_37 (iv .u8 r_34) 5 1 :: .sl A_10 c_12 n_11 (iv .u8 l_13) 5 1 :: R))) := St.hide (A := []) (B := [_, _]) (T := T_64) (R := R) st_69
  obtain ⟨a_78, hr_74, H⟩ := H
  refine WL.call Wanted.none ent19 rfl (buffers_Cache_Drop_nil0.calls w w_68 T_64 (.sl A_35 c_36 n_37 (iv .u8 r_34) 5 1 :: .sl A_10 c_12 n_11 (iv .u8 l_13) 5 1 :: R) 1  st_73 a_78 hr_74) ?_
  rintro _ w_79 ⟨T_75, hs_76, rfl, sc_81⟩
  have st_80 : St w w_79 (.sl A_35 c_36 n_37 (iv .u8 r_34) 5 1 :: .sl A_10 c_12 n_11 (iv .u8 l_13) 5 1 :: (T_75 ++ R)) := St.unhide (A := []) (B := [_, _]) (T := T_75) (R := R) sc_81
  refine ⟨_, rfl, ?_⟩
  refine WL.val Wanted.none (Runs.pick_f (evb rfl h_72) rfl) ?_
  refine WL.val Wanted.none (Runs.move rfl) ?_
  obtain ⟨c_82, H⟩ := H
  have h_83 : a_78 = false := (Bool.eq_false_iff.mpr c_82)
  refine WL.on ?_ ?_; exact Wanted.guard (dj := 47) (by rfl) (evb (by rfl) h_83) (by rfl)
  refine WL.val Wanted.none (Runs.move rfl) ?_
  refine WL.on ?_ ?_; exact Wanted.guard (dj := 47) (by rfl) (evb (by rfl) h_83) (by rfl)
  have st_84 : St w w_79 ((T_75 ++ (.sl A_35 c_36 n_37 (iv .u8 r_34) 5 1 :: .sl A_10 c_12 n_11 (iv .u8 l_13) 5 1 :: R))) := St.hide (A := []) (B := [_, _]) (T := T_75) (R := R) st_80
  obtain ⟨l_92, hr_85, H⟩ := H
  refine WL.call Wanted.none ent13 rfl (buffers_Cache_Blocks_nil0.calls w w_79 T_75 (.sl A_35 c_36 n_37 (iv .u8 r_34) 5 1 :: .sl A_10 c_12 n_11 (iv .u8 l_13) 5 1 :: R)   st_84 l_92 hr_85) ?_
  rintro _ w_95 ⟨T_86, A_89, n_90, c_91, hs_87, hn_94, rfl, sc_97⟩
  have st_96 : St w w_95 (.sl A_89 c_91 n_90 (iv .u64 l_92) 29 1 :: .sl A_35 c_36 n_37 (iv .u8 r_34) 5 1 :: .sl A_10 c_12 n_11 (iv .u8 l_13) 5 1 :: (T_86 ++ R)) := St.unhide (A := [_]) (B := [_, _]) (T := T_86) (R := R) sc_97
  refine ⟨_, rfl, ?_⟩
  refine WL.on ?_ ?_; exact Wanted.guard (dj := 47) (by rfl) (evb (by rfl) h_83) (by rfl)
  refine WL.val Wanted.none (Runs.len_sl Try.underlying33 rfl (by rw [hn_94])) ?_
  refine WL.on ?_ ?_; exact Wanted.guard (dj := 47) (by rfl) (evb (by rfl) h_83) (by rfl)
  refine WL.val Wanted.none (Runs.gtr rfl rfl rfl) ?_
  refine WL.val Wanted.none (Runs.pick_f (evb rfl h_83) rfl) ?_
  refine WL.nil ?_
  refine QW.then_n ?_
  refine CW.sub [(0, .int .u8 a0), (1, .slice A1 n1 c1), (2, .int .u8 a2), (6, .bool false), (52, .bool (decide ((l_92.length : Int) > 0)))] ⟨rfl, rfl, rfl, rfl, rfl, trivial⟩ ?_
  obtain ⟨c_98, H⟩ := H
  have h_99 : (decide ((l_92.length : Int) > 0)) = false := (decide_eq_false c_98)
  refine CW.cf rfl h_99 ?_
  refine CW.skip ?_
  refine QW.then_n ?_
  refine CW.seq ?_
  refine CW.region ?_
  refine WL.val Wanted.none (Runs.move rfl) ?_
  refine WL.val Wanted.none (Runs.rem rfl rfl (by decide) rfl) ?_
  refine WL.val Wanted.none (Runs.conv Try.underlying3 ⟨_, Try.underlying5⟩ rfl rfl) ?_
  refine WL.val Wanted.none (Runs.add rfl rfl rfl) ?_
  refine WL.val Wanted.none (Runs.assign rfl) ?_
  refine WL.nil ?_
  refine QW.then_n ?_
  refine CW.sub [(1, .slice A1 n1 c1), (2, .int .u8 a2), (6, .bool false), (11, .int .i64 (IntKind.i64.wrap ((IntKind.i64.wrap (Int.tmod a0 8)) + 2)))] ⟨rfl, rfl, rfl, rfl, trivial⟩ ?_
  refine CW.seq ?_
  refine CW.region ?_
  refine WL.val Wanted.none (Runs.move rfl) ?_
  have st_100 : St w w_95 ((T_86 ++ (.sl A_89 c_91 n_90 (iv .u64 l_92) 29 1 :: .sl A_35 c_36 n_37 (iv .u8 r_34) 5 1 :: .sl A_10 c_12 n_11 (iv .u8 l_13) 5 1 :: R))) := St.hide (A := []) (B := [_, _, _]) (T := T_86) (R := R) st_96
  obtain ⟨a_106_0, l_110_1, hr_101, H⟩ := H
  refine WL.call Wanted.none ent10 rfl (buffers_New.calls w w_95 T_86 (.sl A_89 c_91 n_90 (iv .u64 l_92) 29 1 :: .sl A_35 c_36 n_37 (iv .u8 r_34) 5 1 :: .sl A_10 c_12 n_11 (iv .u8 l_13) 5 1 :: R) (IntKind.i64.wrap ((IntKind.i64.wrap (Int.tmod a0 8)) + 2))  st_100 a_106_0 l_110_1 hr_101) ?_
  rintro _ w_114 ⟨T_102, b_105, A_107_1, n_108_1, c_109_1, x_111_1, hs_103, hn_112_1, hx_113_1, rfl, sc_116⟩
  have st_115 : St w w_114 (.cells b_105 (([.int .i64 a_106_0] : List Value) ++ ([.slice A_107_1 n_108_1 c_109_1] : List Value)) 57 :: .sl A_107_1 c_109_1 n_108_1 x_111_1 60 3 :: .sl A_89 c_91 n_90 (iv .u64 l_92) 29 1 :: .sl A_35 c_36 n_37 (iv .u8 r_34) 5 1 :: .sl A_10 c_12 n_11 (iv .u8 l_13) 5 1 :: (T_102 ++ R)) := St.unhide (A := [_, _]) (B := [_, _, _]) (T := T_102) (R := R) sc_116
  refine ⟨_, rfl, ?_⟩
  refine WL.val Wanted.none (Runs.assign rfl) ?_
  refine WL.nil ?_
  refine QW.then_n ?_
  refine CW.seq ?_
  refine CW.region ?_
  refine WL.val Wanted.none (Runs.move rfl) ?_
  refine WL.val Wanted.none (Runs.move rfl) ?_
  refine WL.buildSl [.int .u8 a2] st_115 Try.underlying22 elem5 rfl rfl (by decide) (by decide) (by simp [Value.cells]) ?_
  intro B_117 w_118 st_119
  replace st_119 : St w w_118 (.sl (some ⟨B_117, 0, none⟩) 1 1 (iv .u8 [a2]) 5 1 :: .cells b_105 (([.int .i64 a_106_0] : List Value) ++ ([.slice A_107_1 n_108_1 c_109_1] : List Value)) 57 :: .sl A_107_1 c_109_1 n_108_1 x_111_1 60 3 :: .sl A_89 c_91 n_90 (iv .u64 l_92) 29 1 :: .sl A_35 c_36 n_37 (iv .u8 r_34) 5 1 :: .sl A_10 c_12 n_11 (iv .u8 l_13) 5 1 :: (T_102 ++ R)) := st_119
  obtain ⟨r_125, hr_121, H⟩ := H
  refine WL.call Wanted.none ent9 rfl (reliquarylaw15_full.calls w_118 [a2] false (some ⟨B_117, 0, none⟩) 1 1 (st_119.src_sl (k := 0) rfl) (rfl) (st_119.cap (i := 0) rfl) r_125 hr_121) ?_
  rintro _ w_122 ⟨A_126, c_127, n_128, hn_129, rfl, sc_124⟩
  have st_123 : St w w_122 (.sl A_126 c_127 n_128 (iv .u8 r_125) 5 1 :: .sl (some ⟨B_117, 0, none⟩) 1 1 (iv .u8 [a2]) 5 1 :: .cells b_105 (([.int .i64 a_106_0] : List Value) ++ ([.slice A_107_1 n_108_1 c_109_1] : List Value)) 57 :: .sl A_107_1 c_109_1 n_108_1 x_111_1 60 3 :: .sl A_89 c_91 n_90 (iv .u64 l_92) 29 1 :: .sl A_35 c_36 n_37 (iv .u8 r_34) 5 1 :: .sl A_10 c_12 n_11 (iv .u8 l_13) 5 1 :: (T_102 ++ R)) := st_119.call sc_124
  refine ⟨_, rfl, ?_⟩
  have st_131 := (St.pickT (L := [_, _, _, _, _, _, _]) st_123 [2, 3, 0, 1, 4, 5, 6] (by decide))
  replace st_131 : St w w_122 (.cells b_105 (([.int .i64 a_106_0] : List Value) ++ ([.slice A_107_1 n_108_1 c_109_1] : List Value)) 57 :: .sl A_107_1 c_109_1 n_108_1 x_111_1 60 3 :: .sl A_126 c_127 n_128 (iv .u8 r_125) 5 1 :: .sl (some ⟨B_117, 0, none⟩) 1 1 (iv .u8 [a2]) 5 1 :: .sl A_89 c_91 n_90 (iv .u64 l_92) 29 1 :: .sl A_35 c_36 n_37 (iv .u8 r_34) 5 1 :: .sl A_10 c_12 n_11 (iv .u8 l_13) 5 1 :: (T_102 ++ R)) := st_131
  have st_132 : St w w_122 (.cells b_105 (([.int .i64 a_106_0] : List Value) ++ ([.slice A_107_1 n_108_1 c_109_1] : List Value)) 57 :: .sl A_107_1 c_109_1 n_108_1 x_111_1 60 3 :: (T_102 ++ (.sl A_126 c_127 n_128 (iv .u8 r_125) 5 1 :: .sl (some ⟨B_117, 0, none⟩) 1 1 (iv .u8 [a2]) 5 1 :: .sl A_89 c_91 n_90 (iv .u64 l_92) 29 1 :: .sl A_35 c_36 n_37 (iv .u8 r_34) 5 1 :: .sl A_10 c_12 n_11 (iv .u8 l_13) 5 1 :: R))) := St.hide (A := [_, _]) (B := [_, _, _, _, _]) (T := T_102) (R := R) st_131
  obtain ⟨a_136_0, l_140_1, a_145, hr_133, H⟩ := H
  refine WL.call Wanted.none ent11 rfl (buffers_Cache_Put.calls w w_122 T_102 (.sl A_126 c_127 n_128 (iv .u8 r_125) 5 1 :: .sl (some ⟨B_117, 0, none⟩) 1 1 (iv .u8 [a2]) 5 1 :: .sl A_89 c_91 n_90 (iv .u64 l_92) 29 1 :: .sl A_35 c_36 n_37 (iv .u8 r_34) 5 1 :: .sl A_10 c_12 n_11 (iv .u8 l_13) 5 1 :: R) a_106_0 l_110_1 7 r_125 b_105 A_107_1 n_108_1 c_109_1 x_111_1 A_126 n_128 c_127 (hs_103.2 (hs_87.2 (hs_76.2 (hs_65.2 (hs_54.2 (hs_43.2 (hs_24.2 (hs_8.2 hT)))))))) (show celly (.sl A_126 c_127 n_128 (iv .u8 r_125) 5 1 :: .sl (some ⟨B_117, 0, none⟩) 1 1 (iv .u8 [a2]) 5 1 :: .sl A_89 c_91 n_90 (iv .u64 l_92) 29 1 :: .sl A_35 c_36 n_37 (iv .u8 r_34) 5 1 :: .sl A_10 c_12 n_11 (iv .u8 l_13) 5 1 :: R) = true from hR) st_132 (hn_112_1) hx_113_1 ⟨hn_129, st_131.cap (i := 2) rfl, fun W_ L_ st hT => st.src_mem (hT _ (List.mem_append_right _ (List.mem_of_getElem? (i := 0) rfl)))⟩ a_136_0 l_140_1 a_145 hr_133) ?_
  rintro _ w_146 ⟨T_134, A_137_1, n_138_1, c_139_1, x_141_1, hs_135, hn_142_1, hx_143_1, rfl, sc_148⟩
  have st_147 : St w w_146 (.cells b_105 (([.int .i64 a_136_0] : List Value) ++ ([.slice A_137_1 n_138_1 c_139_1] : List Value)) 57 :: .sl A_137_1 c_139_1 n_138_1 x_141_1 60 3 :: .sl A_126 c_127 n_128 (iv .u8 r_125) 5 1 :: .sl (some ⟨B_117, 0, none⟩) 1 1 (iv .u8 [a2]) 5 1 :: .sl A_89 c_91 n_90 (iv .u64 l_92) 29 1 :: .sl A_35 c_36 n_37 (iv .u8 r_34) 5 1 :: .sl A_10 c_12 n_11 (iv .u8 l_13) 5 1 :: (T_134 ++ R)) := St.unhide (A := [_, _]) (B := [_, _, _, _, _]) (T := T_134) (R := R) sc_148
  refine ⟨_, rfl, ?_⟩
  refine WL.val Wanted.none (Runs.assign rfl) ?_
  refine WL.nil ?_
  refine QW.then_n ?_
  refine CW.sub [(1, .slice A1 n1 c1), (2, .int .u8 a2), (6, .bool false), (11, .int .i64 (IntKind.i64.wrap ((IntKind.i64.wrap (Int.tmod a0 8)) + 2))), (12, .pointer (some ⟨b_105, 0, none⟩)), (13, .int .i64 a_145)] ⟨rfl, rfl, rfl, rfl, rfl, rfl, trivial⟩ ?_
  refine CW.seq ?_
  refine CW.region ?_
  refine WL.val Wanted.none (Runs.move rfl) ?_
  have st_149 : St w w_146 (.cells b_105 (([.int .i64 a_136_0] : List Value) ++ ([.slice A_137_1 n_138_1 c_139_1] : List Value)) 57 :: .sl A_137_1 c_139_1 n_138_1 x_141_1 60 3 :: (T_134 ++ (.sl A_126 c_127 n_128 (iv .u8 r_125) 5 1 :: .sl (some ⟨B_117, 0, none⟩) 1 1 (iv .u8 [a2]) 5 1 :: .sl A_89 c_91 n_90 (iv .u64 l_92) 29 1 :: .sl A_35 c_36 n_37 (iv .u8 r_34) 5 1 :: .sl A_10 c_12 n_11 (iv .u8 l_13) 5 1 :: R))) := St.hide (A := [_, _]) (B := [_, _, _, _, _]) (T := T_134) (R := R) st_147
  obtain ⟨a_153_0, l_157_1, a_162, hr_150, H⟩ := H
  refine WL.call Wanted.none ent16 rfl (buffers_Cache_Pin.calls w w_146 T_134 (.sl A_126 c_127 n_128 (iv .u8 r_125) 5 1 :: .sl (some ⟨B_117, 0, none⟩) 1 1 (iv .u8 [a2]) 5 1 :: .sl A_89 c_91 n_90 (iv .u64 l_92) 29 1 :: .sl A_35 c_36 n_37 (iv .u8 r_34) 5 1 :: .sl A_10 c_12 n_11 (iv .u8 l_13) 5 1 :: R) a_136_0 l_140_1 7 b_105 A_137_1 n_138_1 c_139_1 x_141_1  st_149 (hn_142_1) hx_143_1 a_153_0 l_157_1 a_162 hr_150) ?_
  rintro _ w_163 ⟨T_151, A_154_1, n_155_1, c_156_1, x_158_1, hs_152, hn_159_1, hx_160_1, rfl, sc_165⟩
  have st_164 : St w w_163 (.cells b_105 (([.int .i64 a_153_0] : List Value) ++ ([.slice A_154_1 n_155_1 c_156_1] : List Value)) 57 :: .sl A_154_1 c_156_1 n_155_1 x_158_1 60 3 :: .sl A_126 c_127 n_128 (iv .u8 r_125) 5 1 :: .sl (some ⟨B_117, 0, none⟩) 1 1 (iv .u8 [a2]) 5 1 :: .sl A_89 c_91 n_90 (iv .u64 l_92) 29 1 :: .sl A_35 c_36 n_37 (iv .u8 r_34) 5 1 :: .sl A_10 c_12 n_11 (iv .u8 l_13) 5 1 :: (T_151 ++ R)) := St.unhide (A := [_, _]) (B := [_, _, _, _, _]) (T := T_151) (R := R) sc_165
  refine ⟨_, rfl, ?_⟩
  refine WL.val Wanted.none (Runs.assign rfl) ?_
  refine WL.nil ?_
  refine QW.then_n ?_
  refine CW.seq ?_
  refine CW.seq ?_
  refine CW.region ?_
  refine WL.val Wanted.none (Runs.move rfl) ?_
  refine WL.val Wanted.none (Runs.neq rfl rfl rfl) ?_
  refine WL.val Wanted.none (Runs.move rfl) ?_
  obtain ⟨c_166, H⟩ := H
  have h_167 : (a_145 != 0) = false := (bne_eq_false_iff_eq.mpr (Decidable.not_not.mp c_166))
  refine WL.on ?_ ?_; exact Wanted.guard (dj := 68) (by rfl) (evb (by rfl) h_167) (by rfl)
  refine WL.val Wanted.none (Runs.move rfl) ?_
  refine WL.on ?_ ?_; exact Wanted.guard (dj := 68) (by rfl) (evb (by rfl) h_167) (by rfl)
  refine WL.val Wanted.none (Runs.not rfl rfl) ?_
  refine WL.val Wanted.none (Runs.pick_f (evb rfl h_167) rfl) ?_
  refine WL.val Wanted.none (Runs.move rfl) ?_
  obtain ⟨c_168, H⟩ := H
  have h_169 : (!a_162) = false := (not_f (Decidable.not_not.mp c_168))
  refine WL.on ?_ ?_; exact Wanted.guard (dj := 72) (by rfl) (evb (by rfl) h_169) (by rfl)
  refine WL.val Wanted.none (Runs.move rfl) ?_
  refine WL.on ?_ ?_; exact Wanted.guard (dj := 72) (by rfl) (evb (by rfl) h_169) (by rfl)
  have st_170 : St w w_163 (.cells b_105 (([.int .i64 a_153_0] : List Value) ++ ([.slice A_154_1 n_155_1 c_156_1] : List Value)) 57 :: .sl A_154_1 c_156_1 n_155_1 x_158_1 60 3 :: (T_151 ++ (.sl A_126 c_127 n_128 (iv .u8 r_125) 5 1 :: .sl (some ⟨B_117, 0, none⟩) 1 1 (iv .u8 [a2]) 5 1 :: .sl A_89 c_91 n_90 (iv .u64 l_92) 29 1 :: .sl A_35 c_36 n_37 (iv .u8 r_34) 5 1 :: .sl A_10 c_12 n_11 (iv .u8 l_13) 5 1 :: R))) := St.hide (A := [_, _]) (B := [_, _, _, _, _]) (T := T_151) (R := R) st_164
  obtain ⟨a_174_0, l_178_1, a_183, hr_171, H⟩ := H
  refine WL.call Wanted.none ent19 rfl (buffers_Cache_Drop.calls w w_163 T_151 (.sl A_126 c_127 n_128 (iv .u8 r_125) 5 1 :: .sl (some ⟨B_117, 0, none⟩) 1 1 (iv .u8 [a2]) 5 1 :: .sl A_89 c_91 n_90 (iv .u64 l_92) 29 1 :: .sl A_35 c_36 n_37 (iv .u8 r_34) 5 1 :: .sl A_10 c_12 n_11 (iv .u8 l_13) 5 1 :: R) a_153_0 l_157_1 7 b_105 A_154_1 n_155_1 c_156_1 x_158_1  st_170 (hn_159_1) hx_160_1 a_174_0 l_178_1 a_183 hr_171) ?_
  rintro _ w_184 ⟨T_172, A_175_1, n_176_1, c_177_1, x_179_1, hs_173, hn_180_1, hx_181_1, rfl, sc_186⟩
  have st_185 : St w w_184 (.cells b_105 (([.int .i64 a_174_0] : List Value) ++ ([.slice A_175_1 n_176_1 c_177_1] : List Value)) 57 :: .sl A_175_1 c_177_1 n_176_1 x_179_1 60 3 :: .sl A_126 c_127 n_128 (iv .u8 r_125) 5 1 :: .sl (some ⟨B_117, 0, none⟩) 1 1 (iv .u8 [a2]) 5 1 :: .sl A_89 c_91 n_90 (iv .u64 l_92) 29 1 :: .sl A_35 c_36 n_37 (iv .u8 r_34) 5 1 :: .sl A_10 c_12 n_11 (iv .u8 l_13) 5 1 :: (T_172 ++ R)) := St.unhide (A := [_, _]) (B := [_, _, _, _, _]) (T := T_172) (R := R) sc_186
  refine ⟨_, rfl, ?_⟩
  refine WL.val Wanted.none (Runs.pick_f (evb rfl h_169) rfl) ?_
  refine WL.nil ?_
  refine QW.then_n ?_
  refine CW.sub [(1, .slice A1 n1 c1), (2, .int .u8 a2), (6, .bool false), (11, .int .i64 (IntKind.i64.wrap ((IntKind.i64.wrap (Int.tmod a0 8)) + 2))), (12, .pointer (some ⟨b_105, 0, none⟩)), (75, .bool a_183)] ⟨rfl, rfl, rfl, rfl, rfl, rfl, trivial⟩ ?_
  obtain ⟨c_187, H⟩ := H
  have h_188 : a_183 = false := (Bool.eq_false_iff.mpr c_187)
  refine CW.cf rfl h_188 ?_
  refine CW.skip ?_
  refine QW.then_n ?_
  refine CW.seq ?_
  refine CW.seq ?_
  refine CW.region ?_
  refine WL.val Wanted.none (Runs.assign rfl) ?_
  refine WL.nil ?_
  refine QW.then_n ?_
  refine CW.block ?_
  obtain ⟨k_189, H⟩ := H
  refine CW.sub [(1, .slice A1 n1 c1), (2, .int .u8 a2), (6, .bool false), (11, .int .i64 (IntKind.i64.wrap ((IntKind.i64.wrap (Int.tmod a0 8)) + 2))), (12, .pointer (some ⟨b_105, 0, none⟩)), (15, .int .i64 0)] ⟨rfl, rfl, rfl, rfl, rfl, rfl, trivial⟩ ?_
  refine CW.loop (fun kL1 l_ w_ => ∃ (T_190 : Pool) (A_196 : Option Addr) (c_197 : Nat) (n_198 : Nat) (x_194 : Cells) (l_192 : List R60) (x_199 : Int) (b_200 : Bool) (x_201 : Int), l_ = [(1, .slice A1 n1 c1), (2, .int .u8 a2), (6, .bool b_200), (11, .int .i64 (IntKind.i64.wrap ((IntKind.i64.wrap (Int.tmod a0 8)) + 2))), (12, .pointer (some ⟨b_105, 0, none⟩)), (15, .int .i64 x_201)] ∧ reliquarylaw15_BuffersHold.L1 a0 l1 a2 kL1 l_192 x_199 b_200 x_201 ∧ (Pl T_172 T_190) ∧ (n_198 = l_192.length) ∧ (HRs T_190 (f60 w) x_194 l_192) ∧ St w w_ (.cells b_105 (([.int .i64 x_199] : List Value) ++ ([.slice A_196 n_198 c_197] : List Value)) 57 :: .sl A_196 c_197 n_198 x_194 60 3 :: .sl A_126 c_127 n_128 (iv .u8 r_125) 5 1 :: .sl (some ⟨B_117, 0, none⟩) 1 1 (iv .u8 [a2]) 5 1 :: .sl A_89 c_91 n_90 (iv .u64 l_92) 29 1 :: .sl A_35 c_36 n_37 (iv .u8 r_34) 5 1 :: .sl A_10 c_12 n_11 (iv .u8 l_13) 5 1 :: (T_190 ++ R))) (k := k_189) ⟨T_172, A_175_1, c_177_1, n_176_1, x_179_1, l_178_1, a_174_0, false, 0, rfl, H, Pl.refl, hn_180_1, hx_181_1, st_185⟩ (fun _ _ h => by obtain ⟨_, _, _, _, _, _, _, _, _, _, h, _⟩ := h; exact h.elim) ?_
  rintro kL1 l_204 w_202 ⟨T_190, A_196, c_197, n_198, x_194, l_192, x_199, b_200, x_201, rfl, H, hs_191, hn_193, hx_195, st_203⟩
  refine CW.seq ?_
  refine CW.seq ?_
  refine CW.region ?_
  refine WL.val Wanted.none (Runs.move rfl) ?_
  refine WL.val Wanted.none (Runs.move rfl) ?_
  refine WL.val Wanted.none (Runs.len_sl Try.underlying33 rfl (by rw [hn1])) ?_
  refine WL.val Wanted.none (Runs.lss rfl rfl rfl) ?_
  refine WL.val Wanted.none (Runs.move rfl) ?_
  rcases H with ⟨c_205, H⟩ | ⟨c_205, H⟩
  · have h_206 : (decide (x_201 < (l1.length : Int))) = true := (decide_eq_true c_205)
    refine WL.on ?_ ?_; exact Wanted.guard (dj := 80) (by rfl) (evb (by rfl) h_206) (by rfl)
    refine WL.val Wanted.none (Runs.move rfl) ?_
    refine WL.on ?_ ?_; exact Wanted.guard (dj := 80) (by rfl) (evb (by rfl) h_206) (by rfl)
    refine WL.val Wanted.none (Runs.lss rfl rfl rfl) ?_
    refine WL.val Wanted.none (Runs.pick_t (evb rfl h_206) rfl) ?_
    refine WL.nil ?_
    refine QW.then_n ?_
    rcases H with ⟨c_207, H⟩ | ⟨c_207, H⟩
    · have h_208 : (decide (x_201 < 40)) = true := (decide_eq_true c_207)
      refine CW.ct rfl h_208 ?_
      refine CW.skip ?_
      refine QW.then_n ?_
      refine CW.seq ?_
      refine CW.block ?_
      refine CW.seq ?_
      refine CW.seq ?_
      refine CW.region ?_
      refine WL.val Wanted.none (Runs.move rfl) ?_
      refine WL.val Wanted.none (Runs.move rfl) ?_
      obtain ⟨⟨p_209, q_210⟩, H⟩ := H
      obtain ⟨a_211, e_212⟩ := (hs1.ext st_203).addr_iv ((x_201).toNat) (by omega)
      refine WL.val Wanted.none (Runs.indexAddr Try.underlying33 cells29 (by decide) rfl e_212 rfl p_209 (by rw [hn1]; exact q_210) (o := (x_201).toNat) (by first | rfl | omega)) ?_
      refine WL.val Wanted.none (Runs.load nagg29 rfl ((hs1.ext st_203).cell_iv e_212 (by omega))) ?_
      refine WL.val Wanted.none (Runs.eql rfl rfl rfl) ?_
      refine WL.nil ?_
      refine QW.then_n ?_
      rcases H with ⟨c_213, H⟩ | ⟨c_213, H⟩
      · have h_214 : ((gn l1 ((x_201).toNat)) == 7) = true := (beq_iff_eq.mpr c_213)
        refine CW.ct rfl h_214 ?_
        refine CW.exit ?_
        refine QW.then_x ?_
        refine QW.blk_x ?_
        refine QW.then_n ?_
        refine CW.region ?_
        refine WL.val Wanted.none (Runs.move rfl) ?_
        refine WL.val Wanted.none (Runs.add rfl rfl rfl) ?_
        refine WL.val Wanted.none (Runs.assign rfl) ?_
        refine WL.nil ?_
        exact QW.at [(1, .slice A1 n1 c1), (2, .int .u8 a2), (6, .bool b_200), (11, .int .i64 (IntKind.i64.wrap ((IntKind.i64.wrap (Int.tmod a0 8)) + 2))), (12, .pointer (some ⟨b_105, 0, none⟩)), (15, .int .i64 (IntKind.i64.wrap (x_201 + 1)))] ⟨rfl, rfl, rfl, rfl, rfl, rfl, trivial⟩ ⟨T_190, A_196, c_197, n_198, x_194, l_192, x_199, b_200, IntKind.i64.wrap (x_201 + 1), rfl, H, hs_191, hn_193, hx_195, st_203⟩
      · have h_214 : ((gn l1 ((x_201).toNat)) == 7) = false := (beq_eq_false_iff_ne.mpr c_213)
        refine CW.cf rfl h_214 ?_
        refine CW.skip ?_
        refine QW.then_n ?_
        refine CW.seq ?_
        refine CW.region_awh (C := fun w_ => St w w_ (.sl A_126 c_127 n_128 (iv .u8 r_125) 5 1 :: .sl (some ⟨B_117, 0, none⟩) 1 1 (iv .u8 [a2]) 5 1 :: .sl A_89 c_91 n_90 (iv .u64 l_92) 29 1 :: .sl A_35 c_36 n_37 (iv .u8 r_34) 5 1 :: .sl A_10 c_12 n_11 (iv .u8 l_13) 5 1 :: (T_190 ++ R))) 24 wide (by kernel_rfl) st_203 (fun w_215 st_216 => ?_)
        have st_217 : St w w_215 (.sl A_126 c_127 n_128 (iv .u8 r_125) 5 1 :: .sl (some ⟨B_117, 0, none⟩) 1 1 (iv .u8 [a2]) 5 1 :: .sl A_89 c_91 n_90 (iv .u64 l_92) 29 1 :: .sl A_35 c_36 n_37 (iv .u8 r_34) 5 1 :: .sl A_10 c_12 n_11 (iv .u8 l_13) 5 1 :: (T_190 ++ R)) := (St.pickT (L := [_, _, _, _, _, _, _]) st_216 [2, 3, 4, 5, 6] (by decide))
        refine AWH.take 0 rfl (by decide) (by kernel_rfl) (by kernel_rfl) (St.subset st_217 st_216 (List.forall_mem_cons.2 ⟨List.mem_of_getElem? (i := 2) rfl, (List.forall_mem_cons.2 ⟨List.mem_of_getElem? (i := 3) rfl, (List.forall_mem_cons.2 ⟨List.mem_of_getElem? (i := 4) rfl, (List.forall_mem_cons.2 ⟨List.mem_of_getElem? (i := 5) rfl, (List.forall_mem_cons.2 ⟨List.mem_of_getElem? (i := 6) rfl, (mem_TR (A := [_, _, _, _, _, _, _]) (fun _ h_ => h_))⟩)⟩)⟩)⟩)⟩)) Wanted.none (fun wq sq => (Runs.move rfl)) ?_
        refine AWH.take 1 rfl (by decide) (by kernel_rfl) (by kernel_rfl) (St.subset st_217 st_216 (List.forall_mem_cons.2 ⟨List.mem_of_getElem? (i := 2) rfl, (List.forall_mem_cons.2 ⟨List.mem_of_getElem? (i := 3) rfl, (List.forall_mem_cons.2 ⟨List.mem_of_getElem? (i := 4) rfl, (List.forall_mem_cons.2 ⟨List.mem_of_getElem? (i := 5) rfl, (List.forall_mem_cons.2 ⟨List.mem_of_getElem? (i := 6) rfl, (mem_TR (A := [_, _, _, _, _, _, _]) (fun _ h_ => h_))⟩)⟩)⟩)⟩)⟩)) Wanted.none (fun wq sq => (Runs.move rfl)) ?_
        refine AWH.take 2 rfl (by decide) (by kernel_rfl) (by kernel_rfl) (St.subset st_217 st_216 (List.forall_mem_cons.2 ⟨List.mem_of_getElem? (i := 2) rfl, (List.forall_mem_cons.2 ⟨List.mem_of_getElem? (i := 3) rfl, (List.forall_mem_cons.2 ⟨List.mem_of_getElem? (i := 4) rfl, (List.forall_mem_cons.2 ⟨List.mem_of_getElem? (i := 5) rfl, (List.forall_mem_cons.2 ⟨List.mem_of_getElem? (i := 6) rfl, (mem_TR (A := [_, _, _, _, _, _, _]) (fun _ h_ => h_))⟩)⟩)⟩)⟩)⟩)) Wanted.none (fun wq sq => (Runs.move rfl)) ?_
        obtain ⟨⟨p_218, q_219⟩, H⟩ := H
        obtain ⟨a_220, e_221⟩ := (hs1.ext st_216).addr_iv ((x_201).toNat) (by omega)
        refine AWH.take 3 rfl (by decide) (by kernel_rfl) (by kernel_rfl) (St.subset st_217 st_216 (List.forall_mem_cons.2 ⟨List.mem_of_getElem? (i := 2) rfl, (List.forall_mem_cons.2 ⟨List.mem_of_getElem? (i := 3) rfl, (List.forall_mem_cons.2 ⟨List.mem_of_getElem? (i := 4) rfl, (List.forall_mem_cons.2 ⟨List.mem_of_getElem? (i := 5) rfl, (List.forall_mem_cons.2 ⟨List.mem_of_getElem? (i := 6) rfl, (mem_TR (A := [_, _, _, _, _, _, _]) (fun _ h_ => h_))⟩)⟩)⟩)⟩)⟩)) Wanted.none (fun wq sq => (Runs.indexAddr Try.underlying33 cells29 (by decide) rfl e_221 rfl p_218 (by rw [hn1]; exact q_219) (o := (x_201).toNat) (by first | rfl | omega))) ?_
        refine AWH.take 4 rfl (by decide) (by kernel_rfl) (by kernel_rfl) (St.subset st_217 st_216 (List.forall_mem_cons.2 ⟨List.mem_of_getElem? (i := 2) rfl, (List.forall_mem_cons.2 ⟨List.mem_of_getElem? (i := 3) rfl, (List.forall_mem_cons.2 ⟨List.mem_of_getElem? (i := 4) rfl, (List.forall_mem_cons.2 ⟨List.mem_of_getElem? (i := 5) rfl, (List.forall_mem_cons.2 ⟨List.mem_of_getElem? (i := 6) rfl, (mem_TR (A := [_, _, _, _, _, _, _]) (fun _ h_ => h_))⟩)⟩)⟩)⟩)⟩)) Wanted.none (fun wq sq => (Runs.load nagg29 rfl ((hs1.ext sq).cell_iv e_221 (by omega)))) ?_
        refine AWH.step 5 rfl (by decide) (by kernel_rfl) (fun inv_ hs_ hk_ hc_ hn_ => ?_)
        obtain ⟨r_226, hr_222, H⟩ := H
        refine WL.call Wanted.none ent9 rfl (reliquarylaw15_full.calls w_215 ([] : List Int) false none 0 0 (((HB.nil : HB w T_190 none 0 0 (iv .u8 ([] : List Int)) 0).2.2.at st_216 (mem_T (A := [_, _, _, _, _, _, _]) (fun _ h_ => h_)))) ((HB.nil : HB w T_190 none 0 0 (iv .u8 ([] : List Int)) 0).1) ((HB.nil : HB w T_190 none 0 0 (iv .u8 ([] : List Int)) 0).2.1) r_226 hr_222) ?_
        rintro _ w_223 ⟨A_227, c_228, n_229, hn_230, rfl, sc_225⟩
        have st_224 : St w w_223 (.sl A_227 c_228 n_229 (iv .u8 r_226) 5 1 :: .cells b_105 (([.int .i64 x_199] : List Value) ++ ([.slice A_196 n_198 c_197] : List Value)) 57 :: .sl A_196 c_197 n_198 x_194 60 3 :: .sl A_126 c_127 n_128 (iv .u8 r_125) 5 1 :: .sl (some ⟨B_117, 0, none⟩) 1 1 (iv .u8 [a2]) 5 1 :: .sl A_89 c_91 n_90 (iv .u64 l_92) 29 1 :: .sl A_35 c_36 n_37 (iv .u8 r_34) 5 1 :: .sl A_10 c_12 n_11 (iv .u8 l_13) 5 1 :: (T_190 ++ R)) := st_216.call sc_225
        refine ⟨_, rfl, ?_⟩
        refine WL.nil ?_
        refine AWH.back (St.subset st_217 st_224 (List.forall_mem_cons.2 ⟨List.mem_of_getElem? (i := 3) rfl, (List.forall_mem_cons.2 ⟨List.mem_of_getElem? (i := 4) rfl, (List.forall_mem_cons.2 ⟨List.mem_of_getElem? (i := 5) rfl, (List.forall_mem_cons.2 ⟨List.mem_of_getElem? (i := 6) rfl, (List.forall_mem_cons.2 ⟨List.mem_of_getElem? (i := 7) rfl, (mem_TR (A := [_, _, _, _, _, _, _, _]) (fun _ h_ => h_))⟩)⟩)⟩)⟩)⟩)) inv_ hs_ hk_ hc_ hn_ ?_
        refine AWH.step 6 rfl (by decide) (by kernel_rfl) (fun inv_ hs_ hk_ hc_ hn_ => ?_)
        have st_232 := (St.pickT (L := [_, _, _, _, _, _, _, _]) st_224 [1, 2, 0, 3, 4, 5, 6, 7] (by decide))
        replace st_232 : St w w_223 (.cells b_105 (([.int .i64 x_199] : List Value) ++ ([.slice A_196 n_198 c_197] : List Value)) 57 :: .sl A_196 c_197 n_198 x_194 60 3 :: .sl A_227 c_228 n_229 (iv .u8 r_226) 5 1 :: .sl A_126 c_127 n_128 (iv .u8 r_125) 5 1 :: .sl (some ⟨B_117, 0, none⟩) 1 1 (iv .u8 [a2]) 5 1 :: .sl A_89 c_91 n_90 (iv .u64 l_92) 29 1 :: .sl A_35 c_36 n_37 (iv .u8 r_34) 5 1 :: .sl A_10 c_12 n_11 (iv .u8 l_13) 5 1 :: (T_190 ++ R)) := st_232
        have st_233 : St w w_223 (.cells b_105 (([.int .i64 x_199] : List Value) ++ ([.slice A_196 n_198 c_197] : List Value)) 57 :: .sl A_196 c_197 n_198 x_194 60 3 :: (T_190 ++ (.sl A_227 c_228 n_229 (iv .u8 r_226) 5 1 :: .sl A_126 c_127 n_128 (iv .u8 r_125) 5 1 :: .sl (some ⟨B_117, 0, none⟩) 1 1 (iv .u8 [a2]) 5 1 :: .sl A_89 c_91 n_90 (iv .u64 l_92) 29 1 :: .sl A_35 c_36 n_37 (iv .u8 r_34) 5 1 :: .sl A_10 c_12 n_11 (iv .u8 l_13) 5 1 :: R))) := St.hide (A := [_, _]) (B := [_, _, _, _, _, _]) (T := T_190) (R := R) st_232
        obtain ⟨a_237_0, l_241_1, a_246, hr_234, H⟩ := H
        refine WL.call Wanted.none ent11 rfl (buffers_Cache_Put.calls w w_223 T_190 (.sl A_227 c_228 n_229 (iv .u8 r_226) 5 1 :: .sl A_126 c_127 n_128 (iv .u8 r_125) 5 1 :: .sl (some ⟨B_117, 0, none⟩) 1 1 (iv .u8 [a2]) 5 1 :: .sl A_89 c_91 n_90 (iv .u64 l_92) 29 1 :: .sl A_35 c_36 n_37 (iv .u8 r_34) 5 1 :: .sl A_10 c_12 n_11 (iv .u8 l_13) 5 1 :: R) x_199 l_192 (gn l1 ((x_201).toNat)) r_226 b_105 A_196 n_198 c_197 x_194 A_227 n_229 c_228 (hs_191.2 (hs_173.2 (hs_152.2 (hs_135.2 (hs_103.2 (hs_87.2 (hs_76.2 (hs_65.2 (hs_54.2 (hs_43.2 (hs_24.2 (hs_8.2 hT)))))))))))) (show celly (.sl A_227 c_228 n_229 (iv .u8 r_226) 5 1 :: .sl A_126 c_127 n_128 (iv .u8 r_125) 5 1 :: .sl (some ⟨B_117, 0, none⟩) 1 1 (iv .u8 [a2]) 5 1 :: .sl A_89 c_91 n_90 (iv .u64 l_92) 29 1 :: .sl A_35 c_36 n_37 (iv .u8 r_34) 5 1 :: .sl A_10 c_12 n_11 (iv .u8 l_13) 5 1 :: R) = true from hR) st_233 (hn_193) hx_195 ⟨hn_230, st_232.cap (i := 2) rfl, fun W_ L_ st hT => st.src_mem (hT _ (List.mem_append_right _ (List.mem_of_getElem? (i := 0) rfl)))⟩ a_237_0 l_241_1 a_246 hr_234) ?_
        rintro _ w_247 ⟨T_235, A_238_1, n_239_1, c_240_1, x_242_1, hs_236, hn_243_1, hx_244_1, rfl, sc_249⟩
        have st_248 : St w w_247 (.cells b_105 (([.int .i64 a_237_0] : List Value) ++ ([.slice A_238_1 n_239_1 c_240_1] : List Value)) 57 :: .sl A_238_1 c_240_1 n_239_1 x_242_1 60 3 :: .sl A_227 c_228 n_229 (iv .u8 r_226) 5 1 :: .sl A_126 c_127 n_128 (iv .u8 r_125) 5 1 :: .sl (some ⟨B_117, 0, none⟩) 1 1 (iv .u8 [a2]) 5 1 :: .sl A_89 c_91 n_90 (iv .u64 l_92) 29 1 :: .sl A_35 c_36 n_37 (iv .u8 r_34) 5 1 :: .sl A_10 c_12 n_11 (iv .u8 l_13) 5 1 :: (T_235 ++ R)) := St.unhide (A := [_, _]) (B := [_, _, _, _, _, _]) (T := T_235) (R := R) sc_249
        refine ⟨_, rfl, ?_⟩
        refine WL.nil ?_
        refine AWH.back (St.subset st_217 st_248 (List.forall_mem_cons.2 ⟨List.mem_of_getElem? (i := 3) rfl, (List.forall_mem_cons.2 ⟨List.mem_of_getElem? (i := 4) rfl, (List.forall_mem_cons.2 ⟨List.mem_of_getElem? (i := 5) rfl, (List.forall_mem_cons.2 ⟨List.mem_of_getElem? (i := 6) rfl, (List.forall_mem_cons.2 ⟨List.mem_of_getElem? (i := 7) rfl, (mem_TR (A := [_, _, _, _, _, _, _, _]) (fun _ h_ => hs_236.1 _ h_))⟩)⟩)⟩)⟩)⟩)) inv_ hs_ hk_ hc_ hn_ ?_
        refine AWH.take 7 rfl (by decide) (by kernel_rfl) (by kernel_rfl) (St.subset st_217 st_248 (List.forall_mem_cons.2 ⟨List.mem_of_getElem? (i := 3) rfl, (List.forall_mem_cons.2 ⟨List.mem_of_getElem? (i := 4) rfl, (List.forall_mem_cons.2 ⟨List.mem_of_getElem? (i := 5) rfl, (List.forall_mem_cons.2 ⟨List.mem_of_getElem? (i := 6) rfl, (List.forall_mem_cons.2 ⟨List.mem_of_getElem? (i := 7) rfl, (mem_TR (A := [_, _, _, _, _, _, _, _]) (fun _ h_ => hs_236.1 _ h_))⟩)⟩)⟩)⟩)⟩)) Wanted.none (fun wq sq => (Runs.neq rfl rfl rfl)) ?_
        refine AWH.take 8 rfl (by decide) (by kernel_rfl) (by kernel_rfl) (St.subset st_217 st_248 (List.forall_mem_cons.2 ⟨List.mem_of_getElem? (i := 3) rfl, (List.forall_mem_cons.2 ⟨List.mem_of_getElem? (i := 4) rfl, (List.forall_mem_cons.2 ⟨List.mem_of_getElem? (i := 5) rfl, (List.forall_mem_cons.2 ⟨List.mem_of_getElem? (i := 6) rfl, (List.forall_mem_cons.2 ⟨List.mem_of_getElem? (i := 7) rfl, (mem_TR (A := [_, _, _, _, _, _, _, _]) (fun _ h_ => hs_236.1 _ h_))⟩)⟩)⟩)⟩)⟩)) Wanted.none (fun wq sq => (Runs.move rfl)) ?_
        obtain ⟨c_250, H⟩ := H
        have h_251 : (a_246 != 0) = false := (bne_eq_false_iff_eq.mpr (Decidable.not_not.mp c_250))
        refine AWH.take 9 rfl (by decide) (by kernel_rfl) (by kernel_rfl) (St.subset st_217 st_248 (List.forall_mem_cons.2 ⟨List.mem_of_getElem? (i := 3) rfl, (List.forall_mem_cons.2 ⟨List.mem_of_getElem? (i := 4) rfl, (List.forall_mem_cons.2 ⟨List.mem_of_getElem? (i := 5) rfl, (List.forall_mem_cons.2 ⟨List.mem_of_getElem? (i := 6) rfl, (List.forall_mem_cons.2 ⟨List.mem_of_getElem? (i := 7) rfl, (mem_TR (A := [_, _, _, _, _, _, _, _]) (fun _ h_ => hs_236.1 _ h_))⟩)⟩)⟩)⟩)⟩)) ?_ (fun wq sq => (Runs.move rfl)) ?_; exact Wanted.guard (dj := 99) (by rfl) (evb (by rfl) h_251) (by rfl)
        refine AWH.take 12 rfl (by decide) (by kernel_rfl) (by kernel_rfl) (St.subset st_217 st_248 (List.forall_mem_cons.2 ⟨List.mem_of_getElem? (i := 3) rfl, (List.forall_mem_cons.2 ⟨List.mem_of_getElem? (i := 4) rfl, (List.forall_mem_cons.2 ⟨List.mem_of_getElem? (i := 5) rfl, (List.forall_mem_cons.2 ⟨List.mem_of_getElem? (i := 6) rfl, (List.forall_mem_cons.2 ⟨List.mem_of_getElem? (i := 7) rfl, (mem_TR (A := [_, _, _, _, _, _, _, _]) (fun _ h_ => hs_236.1 _ h_))⟩)⟩)⟩)⟩)⟩)) ?_ (fun wq sq => (Runs.move rfl)) ?_; exact Wanted.guard (dj := 99) (by rfl) (evb (by rfl) h_251) (by rfl)
        refine AWH.step 10 rfl (by decide) (by kernel_rfl) (fun inv_ hs_ hk_ hc_ hn_ => ?_); refine WL.on ?_ ?_; exact Wanted.guard (dj := 99) (by rfl) (evb (by rfl) h_251) (by rfl)
        have st_252 : St w w_247 (.cells b_105 (([.int .i64 a_237_0] : List Value) ++ ([.slice A_238_1 n_239_1 c_240_1] : List Value)) 57 :: .sl A_238_1 c_240_1 n_239_1 x_242_1 60 3 :: (T_235 ++ (.sl A_227 c_228 n_229 (iv .u8 r_226) 5 1 :: .sl A_126 c_127 n_128 (iv .u8 r_125) 5 1 :: .sl (some ⟨B_117, 0, none⟩) 1 1 (iv .u8 [a2]) 5 1 :: .sl A_89 c_91 n_90 (iv .u64 l_92) 29 1 :: .sl A_35 c_36 n_37 (iv .u8 r_34) 5 1 :: .sl A_10 c_12 n_11 (iv .u8 l_13) 5 1 :: R))) := St.hide (A := [_, _]) (B := [_, _, _, _, _, _]) (T := T_235) (R := R) st_248
        obtain ⟨a_256_0, l_260_1, l_268, hr_253, H⟩ := H
        refine WL.call Wanted.none ent13 rfl (buffers_Cache_Blocks.calls w w_247 T_235 (.sl A_227 c_228 n_229 (iv .u8 r_226) 5 1 :: .sl A_126 c_127 n_128 (iv .u8 r_125) 5 1 :: .sl (some ⟨B_117, 0, none⟩) 1 1 (iv .u8 [a2]) 5 1 :: .sl A_89 c_91 n_90 (iv .u64 l_92) 29 1 :: .sl A_35 c_36 n_37 (iv .u8 r_34) 5 1 :: .sl A_10 c_12 n_11 (iv .u8 l_13) 5 1 :: R) a_237_0 l_241_1 b_105 A_238_1 n_239_1 c_240_1 x_242_1  st_252 (hn_243_1) hx_244_1 a_256_0 l_260_1 l_268 hr_253) ?_
        rintro _ w_271 ⟨T_254, A_257_1, n_258_1, c_259_1, x_261_1, A_265, n_266, c_267, hs_255, hn_262_1, hx_263_1, hn_270, rfl, sc_273⟩
        have st_272 : St w w_271 (.cells b_105 (([.int .i64 a_256_0] : List Value) ++ ([.slice A_257_1 n_258_1 c_259_1] : List Value)) 57 :: .sl A_257_1 c_259_1 n_258_1 x_261_1 60 3 :: .sl A_265 c_267 n_266 (iv .u64 l_268) 29 1 :: .sl A_227 c_228 n_229 (iv .u8 r_226) 5 1 :: .sl A_126 c_127 n_128 (iv .u8 r_125) 5 1 :: .sl (some ⟨B_117, 0, none⟩) 1 1 (iv .u8 [a2]) 5 1 :: .sl A_89 c_91 n_90 (iv .u64 l_92) 29 1 :: .sl A_35 c_36 n_37 (iv .u8 r_34) 5 1 :: .sl A_10 c_12 n_11 (iv .u8 l_13) 5 1 :: (T_254 ++ R)) := St.unhide (A := [_, _, _]) (B := [_, _, _, _, _, _]) (T := T_254) (R := R) sc_273
        refine ⟨_, rfl, ?_⟩
        refine WL.nil ?_
        refine AWH.back (St.subset st_217 st_272 (List.forall_mem_cons.2 ⟨List.mem_of_getElem? (i := 4) rfl, (List.forall_mem_cons.2 ⟨List.mem_of_getElem? (i := 5) rfl, (List.forall_mem_cons.2 ⟨List.mem_of_getElem? (i := 6) rfl, (List.forall_mem_cons.2 ⟨List.mem_of_getElem? (i := 7) rfl, (List.forall_mem_cons.2 ⟨List.mem_of_getElem? (i := 8) rfl, (mem_TR (A := [_, _, _, _, _, _, _, _, _]) (fun _ h_ => hs_255.1 _ (hs_236.1 _ h_)))⟩)⟩)⟩)⟩)⟩)) inv_ hs_ hk_ hc_ hn_ ?_
        refine AWH.step 11 rfl (by decide) (by kernel_rfl) (fun inv_ hs_ hk_ hc_ hn_ => ?_); refine WL.on ?_ ?_; exact Wanted.guard (dj := 99) (by rfl) (evb (by rfl) h_251) (by rfl)
        refine WL.val Wanted.none (Runs.len_sl Try.underlying33 rfl (by rw [hn_270])) ?_
        refine WL.nil ?_
        refine AWH.back (St.subset st_217 st_272 (List.forall_mem_cons.2 ⟨List.mem_of_getElem? (i := 4) rfl, (List.forall_mem_cons.2 ⟨List.mem_of_getElem? (i := 5) rfl, (List.forall_mem_cons.2 ⟨List.mem_of_getElem? (i := 6) rfl, (List.forall_mem_cons.2 ⟨List.mem_of_getElem? (i := 7) rfl, (List.forall_mem_cons.2 ⟨List.mem_of_getElem? (i := 8) rfl, (mem_TR (A := [_, _, _, _, _, _, _, _, _]) (fun _ h_ => hs_255.1 _ (hs_236.1 _ h_)))⟩)⟩)⟩)⟩)⟩)) inv_ hs_ hk_ hc_ hn_ ?_
        refine AWH.take 13 rfl (by decide) (by kernel_rfl) (by kernel_rfl) (St.subset st_217 st_272 (List.forall_mem_cons.2 ⟨List.mem_of_getElem? (i := 4) rfl, (List.forall_mem_cons.2 ⟨List.mem_of_getElem? (i := 5) rfl, (List.forall_mem_cons.2 ⟨List.mem_of_getElem? (i := 6) rfl, (List.forall_mem_cons.2 ⟨List.mem_of_getElem? (i := 7) rfl, (List.forall_mem_cons.2 ⟨List.mem_of_getElem? (i := 8) rfl, (mem_TR (A := [_, _, _, _, _, _, _, _, _]) (fun _ h_ => hs_255.1 _ (hs_236.1 _ h_)))⟩)⟩)⟩)⟩)⟩)) ?_ (fun wq sq => (Runs.gtr rfl rfl rfl)) ?_; exact Wanted.guard (dj := 99) (by rfl) (evb (by rfl) h_251) (by rfl)
        refine AWH.take 14 rfl (by decide) (by kernel_rfl) (by kernel_rfl) (St.subset st_217 st_272 (List.forall_mem_cons.2 ⟨List.mem_of_getElem? (i := 4) rfl, (List.forall_mem_cons.2 ⟨List.mem_of_getElem? (i := 5) rfl, (List.forall_mem_cons.2 ⟨List.mem_of_getElem? (i := 6) rfl, (List.forall_mem_cons.2 ⟨List.mem_of_getElem? (i := 7) rfl, (List.forall_mem_cons.2 ⟨List.mem_of_getElem? (i := 8) rfl, (mem_TR (A := [_, _, _, _, _, _, _, _, _]) (fun _ h_ => hs_255.1 _ (hs_236.1 _ h_)))⟩)⟩)⟩)⟩)⟩)) Wanted.none (fun wq sq => (Runs.pick_f (evb rfl h_251) rfl)) ?_
        refine AWH.take 15 rfl (by decide) (by kernel_rfl) (by kernel_rfl) (St.subset st_217 st_272 (List.forall_mem_cons.2 ⟨List.mem_of_getElem? (i := 4) rfl, (List.forall_mem_cons.2 ⟨List.mem_of_getElem? (i := 5) rfl, (List.forall_mem_cons.2 ⟨List.mem_of_getElem? (i := 6) rfl, (List.forall_mem_cons.2 ⟨List.mem_of_getElem? (i := 7) rfl, (List.forall_mem_cons.2 ⟨List.mem_of_getElem? (i := 8) rfl, (mem_TR (A := [_, _, _, _, _, _, _, _, _]) (fun _ h_ => hs_255.1 _ (hs_236.1 _ h_)))⟩)⟩)⟩)⟩)⟩)) Wanted.none (fun wq sq => (Runs.move rfl)) ?_
        obtain ⟨c_274, H⟩ := H
        have h_275 : (decide ((l_268.length : Int) > (IntKind.i64.wrap ((IntKind.i64.wrap (Int.tmod a0 8)) + 2)))) = false := (decide_eq_false c_274)
        refine AWH.take 16 rfl (by decide) (by kernel_rfl) (by kernel_rfl) (St.subset st_217 st_272 (List.forall_mem_cons.2 ⟨List.mem_of_getElem? (i := 4) rfl, (List.forall_mem_cons.2 ⟨List.mem_of_getElem? (i := 5) rfl, (List.forall_mem_cons.2 ⟨List.mem_of_getElem? (i := 6) rfl, (List.forall_mem_cons.2 ⟨List.mem_of_getElem? (i := 7) rfl, (List.forall_mem_cons.2 ⟨List.mem_of_getElem? (i := 8) rfl, (mem_TR (A := [_, _, _, _, _, _, _, _, _]) (fun _ h_ => hs_255.1 _ (hs_236.1 _ h_)))⟩)⟩)⟩)⟩)⟩)) ?_ (fun wq sq => (Runs.move rfl)) ?_; exact Wanted.guard (dj := 106) (by rfl) (evb (by rfl) h_275) (by rfl)
        refine AWH.take 20 rfl (by decide) (by kernel_rfl) (by kernel_rfl) (St.subset st_217 st_272 (List.forall_mem_cons.2 ⟨List.mem_of_getElem? (i := 4) rfl, (List.forall_mem_cons.2 ⟨List.mem_of_getElem? (i := 5) rfl, (List.forall_mem_cons.2 ⟨List.mem_of_getElem? (i := 6) rfl, (List.forall_mem_cons.2 ⟨List.mem_of_getElem? (i := 7) rfl, (List.forall_mem_cons.2 ⟨List.mem_of_getElem? (i := 8) rfl, (mem_TR (A := [_, _, _, _, _, _, _, _, _]) (fun _ h_ => hs_255.1 _ (hs_236.1 _ h_)))⟩)⟩)⟩)⟩)⟩)) ?_ (fun wq sq => (Runs.move rfl)) ?_; exact Wanted.guard (dj := 106) (by rfl) (evb (by rfl) h_275) (by rfl)
        refine AWH.take 21 rfl (by decide) (by kernel_rfl) (by kernel_rfl) (St.subset st_217 st_272 (List.forall_mem_cons.2 ⟨List.mem_of_getElem? (i := 4) rfl, (List.forall_mem_cons.2 ⟨List.mem_of_getElem? (i := 5) rfl, (List.forall_mem_cons.2 ⟨List.mem_of_getElem? (i := 6) rfl, (List.forall_mem_cons.2 ⟨List.mem_of_getElem? (i := 7) rfl, (List.forall_mem_cons.2 ⟨List.mem_of_getElem? (i := 8) rfl, (mem_TR (A := [_, _, _, _, _, _, _, _, _]) (fun _ h_ => hs_255.1 _ (hs_236.1 _ h_)))⟩)⟩)⟩)⟩)⟩)) ?_ (fun wq sq => (Runs.move rfl)) ?_; exact Wanted.guard (dj := 106) (by rfl) (evb (by rfl) h_275) (by rfl)
        obtain ⟨⟨p_276, q_277⟩, H⟩ := H
        obtain ⟨a_278, e_279⟩ := (hs1.ext st_272).addr_iv ((x_201).toNat) (by omega)
        refine AWH.take 22 rfl (by decide) (by kernel_rfl) (by kernel_rfl) (St.subset st_217 st_272 (List.forall_mem_cons.2 ⟨List.mem_of_getElem? (i := 4) rfl, (List.forall_mem_cons.2 ⟨List.mem_of_getElem? (i := 5) rfl, (List.forall_mem_cons.2 ⟨List.mem_of_getElem? (i := 6) rfl, (List.forall_mem_cons.2 ⟨List.mem_of_getElem? (i := 7) rfl, (List.forall_mem_cons.2 ⟨List.mem_of_getElem? (i := 8) rfl, (mem_TR (A := [_, _, _, _, _, _, _, _, _]) (fun _ h_ => hs_255.1 _ (hs_236.1 _ h_)))⟩)⟩)⟩)⟩)⟩)) ?_ (fun wq sq => (Runs.indexAddr Try.underlying33 cells29 (by decide) rfl e_279 rfl p_276 (by rw [hn1]; exact q_277) (o := (x_201).toNat) (by first | rfl | omega))) ?_; exact Wanted.guard (dj := 106) (by rfl) (evb (by rfl) h_275) (by rfl)
        refine AWH.take 23 rfl (by decide) (by kernel_rfl) (by kernel_rfl) (St.subset st_217 st_272 (List.forall_mem_cons.2 ⟨List.mem_of_getElem? (i := 4) rfl, (List.forall_mem_cons.2 ⟨List.mem_of_getElem? (i := 5) rfl, (List.forall_mem_cons.2 ⟨List.mem_of_getElem? (i := 6) rfl, (List.forall_mem_cons.2 ⟨List.mem_of_getElem? (i := 7) rfl, (List.forall_mem_cons.2 ⟨List.mem_of_getElem? (i := 8) rfl, (mem_TR (A := [_, _, _, _, _, _, _, _, _]) (fun _ h_ => hs_255.1 _ (hs_236.1 _ h_)))⟩)⟩)⟩)⟩)⟩)) ?_ (fun wq sq => (Runs.load nagg29 rfl ((hs1.ext sq).cell_iv e_279 (by omega)))) ?_; exact Wanted.guard (dj := 106) (by rfl) (evb (by rfl) h_275) (by rfl)
        refine AWH.step 17 rfl (by decide) (by kernel_rfl) (fun inv_ hs_ hk_ hc_ hn_ => ?_); refine WL.on ?_ ?_; exact Wanted.guard (dj := 106) (by rfl) (evb (by rfl) h_275) (by rfl)
        have st_280 : St w w_271 (.cells b_105 (([.int .i64 a_256_0] : List Value) ++ ([.slice A_257_1 n_258_1 c_259_1] : List Value)) 57 :: .sl A_257_1 c_259_1 n_258_1 x_261_1 60 3 :: (T_254 ++ (.sl A_265 c_267 n_266 (iv .u64 l_268) 29 1 :: .sl A_227 c_228 n_229 (iv .u8 r_226) 5 1 :: .sl A_126 c_127 n_128 (iv .u8 r_125) 5 1 :: .sl (some ⟨B_117, 0, none⟩) 1 1 (iv .u8 [a2]) 5 1 :: .sl A_89 c_91 n_90 (iv .u64 l_92) 29 1 :: .sl A_35 c_36 n_37 (iv .u8 r_34) 5 1 :: .sl A_10 c_12 n_11 (iv .u8 l_13) 5 1 :: R))) := St.hide (A := [_, _]) (B := [_, _, _, _, _, _, _]) (T := T_254) (R := R) st_272
        obtain ⟨a_284_0, l_288_1, l_296, hr_281, H⟩ := H
        refine WL.call Wanted.none ent13 rfl (buffers_Cache_Blocks.calls w w_271 T_254 (.sl A_265 c_267 n_266 (iv .u64 l_268) 29 1 :: .sl A_227 c_228 n_229 (iv .u8 r_226) 5 1 :: .sl A_126 c_127 n_128 (iv .u8 r_125) 5 1 :: .sl (some ⟨B_117, 0, none⟩) 1 1 (iv .u8 [a2]) 5 1 :: .sl A_89 c_91 n_90 (iv .u64 l_92) 29 1 :: .sl A_35 c_36 n_37 (iv .u8 r_34) 5 1 :: .sl A_10 c_12 n_11 (iv .u8 l_13) 5 1 :: R) a_256_0 l_260_1 b_105 A_257_1 n_258_1 c_259_1 x_261_1  st_280 (hn_262_1) hx_263_1 a_284_0 l_288_1 l_296 hr_281) ?_
        rintro _ w_299 ⟨T_282, A_285_1, n_286_1, c_287_1, x_289_1, A_293, n_294, c_295, hs_283, hn_290_1, hx_291_1, hn_298, rfl, sc_301⟩
        have st_300 : St w w_299 (.cells b_105 (([.int .i64 a_284_0] : List Value) ++ ([.slice A_285_1 n_286_1 c_287_1] : List Value)) 57 :: .sl A_285_1 c_287_1 n_286_1 x_289_1 60 3 :: .sl A_293 c_295 n_294 (iv .u64 l_296) 29 1 :: .sl A_265 c_267 n_266 (iv .u64 l_268) 29 1 :: .sl A_227 c_228 n_229 (iv .u8 r_226) 5 1 :: .sl A_126 c_127 n_128 (iv .u8 r_125) 5 1 :: .sl (some ⟨B_117, 0, none⟩) 1 1 (iv .u8 [a2]) 5 1 :: .sl A_89 c_91 n_90 (iv .u64 l_92) 29 1 :: .sl A_35 c_36 n_37 (iv .u8 r_34) 5 1 :: .sl A_10 c_12 n_11 (iv .u8 l_13) 5 1 :: (T_282 ++ R)) := St.unhide (A := [_, _, _]) (B := [_, _, _, _, _, _, _]) (T := T_282) (R := R) sc_301
        refine ⟨_, rfl, ?_⟩
        refine WL.nil ?_
        refine AWH.back (St.subset st_217 st_300 (List.forall_mem_cons.2 ⟨List.mem_of_getElem? (i := 5) rfl, (List.forall_mem_cons.2 ⟨List.mem_of_getElem? (i := 6) rfl, (List.forall_mem_cons.2 ⟨List.mem_of_getElem? (i := 7) rfl, (List.forall_mem_cons.2 ⟨List.mem_of_getElem? (i := 8) rfl, (List.forall_mem_cons.2 ⟨List.mem_of_getElem? (i := 9) rfl, (mem_TR (A := [_, _, _, _, _, _, _, _, _, _]) (fun _ h_ => hs_283.1 _ (hs_255.1 _ (hs_236.1 _ h_))))⟩)⟩)⟩)⟩)⟩)) inv_ hs_ hk_ hc_ hn_ ?_
        refine AWH.step 18 rfl (by decide) (by kernel_rfl) (fun inv_ hs_ hk_ hc_ hn_ => ?_); refine WL.on ?_ ?_; exact Wanted.guard (dj := 106) (by rfl) (evb (by rfl) h_275) (by rfl)
        obtain ⟨⟨p_302, q_303⟩, H⟩ := H
        obtain ⟨a_304, e_305⟩ := (st_300.src_sl (k := 2) rfl).addr_iv 0 (by omega)
        refine WL.val Wanted.none (Runs.indexAddr Try.underlying33 cells29 (by decide) rfl e_305 rfl p_302 (by rw [hn_298]; exact q_303) (o := 0) (by first | rfl | omega)) ?_
        refine WL.nil ?_
        refine AWH.back (St.subset st_217 st_300 (List.forall_mem_cons.2 ⟨List.mem_of_getElem? (i := 5) rfl, (List.forall_mem_cons.2 ⟨List.mem_of_getElem? (i := 6) rfl, (List.forall_mem_cons.2 ⟨List.mem_of_getElem? (i := 7) rfl, (List.forall_mem_cons.2 ⟨List.mem_of_getElem? (i := 8) rfl, (List.forall_mem_cons.2 ⟨List.mem_of_getElem? (i := 9) rfl, (mem_TR (A := [_, _, _, _, _, _, _, _, _, _]) (fun _ h_ => hs_283.1 _ (hs_255.1 _ (hs_236.1 _ h_))))⟩)⟩)⟩)⟩)⟩)) inv_ hs_ hk_ hc_ hn_ ?_
        refine AWH.step 19 rfl (by decide) (by kernel_rfl) (fun inv_ hs_ hk_ hc_ hn_ => ?_); refine WL.on ?_ ?_; exact Wanted.guard (dj := 106) (by rfl) (evb (by rfl) h_275) (by rfl)
        refine WL.val Wanted.none (Runs.load nagg29 rfl ((st_300.src_sl (k := 2) rfl).cell_iv e_305 (by omega))) ?_
        refine WL.nil ?_
        refine AWH.back (St.subset st_217 st_300 (List.forall_mem_cons.2 ⟨List.mem_of_getElem? (i := 5) rfl, (List.forall_mem_cons.2 ⟨List.mem_of_getElem? (i := 6) rfl, (List.forall_mem_cons.2 ⟨List.mem_of_getElem? (i := 7) rfl, (List.forall_mem_cons.2 ⟨List.mem_of_getElem? (i := 8) rfl, (List.forall_mem_cons.2 ⟨List.mem_of_getElem? (i := 9) rfl, (mem_TR (A := [_, _, _, _, _, _, _, _, _, _]) (fun _ h_ => hs_283.1 _ (hs_255.1 _ (hs_236.1 _ h_))))⟩)⟩)⟩)⟩)⟩)) inv_ hs_ hk_ hc_ hn_ ?_
        refine AWH.tail (by kernel_rfl) ?_
        refine AW.take 24 rfl (by kernel_rfl) (by kernel_rfl) (by kernel_rfl) ?_ (fun _ => (Runs.neq rfl rfl rfl)) ?_; exact Wanted.guard (dj := 106) (by rfl) (evb (by rfl) h_275) (by rfl)
        refine AW.take 25 rfl (by kernel_rfl) (by kernel_rfl) (by kernel_rfl) Wanted.none (fun _ => (Runs.pick_f (evb rfl h_275) rfl)) ?_
        refine AW.done (by kernel_rfl) ?_
        refine QW.then_n ?_
        obtain ⟨c_306, H⟩ := H
        have h_307 : ((gn l_296 0) != (gn l1 ((x_201).toNat))) = false := (bne_eq_false_iff_eq.mpr (Decidable.not_not.mp c_306))
        refine CW.cf rfl h_307 ?_
        refine CW.skip ?_
        refine QW.blk_n ?_
        refine QW.then_n ?_
        refine CW.region ?_
        refine WL.val Wanted.none (Runs.move rfl) ?_
        refine WL.val Wanted.none (Runs.add rfl rfl rfl) ?_
        refine WL.val Wanted.none (Runs.assign rfl) ?_
        refine WL.nil ?_
        have st_300' := (St.pickT (L := [_, _, _, _, _, _, _, _, _, _]) st_300 [0, 1, 5, 6, 7, 8, 9] (by decide))
        exact QW.at [(1, .slice A1 n1 c1), (2, .int .u8 a2), (6, .bool b_200), (11, .int .i64 (IntKind.i64.wrap ((IntKind.i64.wrap (Int.tmod a0 8)) + 2))), (12, .pointer (some ⟨b_105, 0, none⟩)), (15, .int .i64 (IntKind.i64.wrap (x_201 + 1)))] ⟨rfl, rfl, rfl, rfl, rfl, rfl, trivial⟩ ⟨T_282, A_285_1, c_287_1, n_286_1, x_289_1, l_288_1, a_284_0, b_200, IntKind.i64.wrap (x_201 + 1), rfl, H, (((hs_191.trans hs_236).trans hs_255).trans hs_283), hn_290_1, hx_291_1, st_300'⟩
    · have h_208 : (decide (x_201 < 40)) = false := (decide_eq_false c_207)
      refine CW.cf rfl h_208 ?_
      refine CW.exit ?_
      refine QW.then_x ?_
      refine QW.then_x ?_
      refine QW.blk_x ?_
      refine QW.then_n ?_
      refine CW.sub [(2, .int .u8 a2), (6, .bool b_200), (12, .pointer (some ⟨b_105, 0, none⟩))] ⟨rfl, rfl, rfl, trivial⟩ ?_
      refine CW.seq ?_
      refine CW.region ?_
      refine WL.val Wanted.none (Runs.move rfl) ?_
      have st_308 : St w w_202 (.cells b_105 (([.int .i64 x_199] : List Value) ++ ([.slice A_196 n_198 c_197] : List Value)) 57 :: .sl A_196 c_197 n_198 x_194 60 3 :: (T_190 ++ (.sl A_126 c_127 n_128 (iv .u8 r_125) 5 1 :: .sl (some ⟨B_117, 0, none⟩) 1 1 (iv .u8 [a2]) 5 1 :: .sl A_89 c_91 n_90 (iv .u64 l_92) 29 1 :: .sl A_35 c_36 n_37 (iv .u8 r_34) 5 1 :: .sl A_10 c_12 n_11 (iv .u8 l_13) 5 1 :: R))) := St.hide (A := [_, _]) (B := [_, _, _, _, _]) (T := T_190) (R := R) st_203
      obtain ⟨a_312_0, l_316_1, l_324, a_328, hr_309, H⟩ := H
      refine WL.call Wanted.none ent12 rfl (buffers_Cache_Get.calls w w_202 T_190 (.sl A_126 c_127 n_128 (iv .u8 r_125) 5 1 :: .sl (some ⟨B_117, 0, none⟩) 1 1 (iv .u8 [a2]) 5 1 :: .sl A_89 c_91 n_90 (iv .u64 l_92) 29 1 :: .sl A_35 c_36 n_37 (iv .u8 r_34) 5 1 :: .sl A_10 c_12 n_11 (iv .u8 l_13) 5 1 :: R) x_199 l_192 7 b_105 A_196 n_198 c_197 x_194  st_308 (hn_193) hx_195 a_312_0 l_316_1 l_324 a_328 hr_309) ?_
      rintro _ w_329 ⟨T_310, A_313_1, n_314_1, c_315_1, x_317_1, A_321, n_322, c_323, hs_311, hn_318_1, hx_319_1, hn_326, rfl, sc_331⟩
      have st_330 : St w w_329 (.cells b_105 (([.int .i64 a_312_0] : List Value) ++ ([.slice A_313_1 n_314_1 c_315_1] : List Value)) 57 :: .sl A_313_1 c_315_1 n_314_1 x_317_1 60 3 :: .sl A_321 c_323 n_322 (iv .u8 l_324) 5 1 :: .sl A_126 c_127 n_128 (iv .u8 r_125) 5 1 :: .sl (some ⟨B_117, 0, none⟩) 1 1 (iv .u8 [a2]) 5 1 :: .sl A_89 c_91 n_90 (iv .u64 l_92) 29 1 :: .sl A_35 c_36 n_37 (iv .u8 r_34) 5 1 :: .sl A_10 c_12 n_11 (iv .u8 l_13) 5 1 :: (T_310 ++ R)) := St.unhide (A := [_, _, _]) (B := [_, _, _, _, _]) (T := T_310) (R := R) sc_331
      refine ⟨_, rfl, ?_⟩
      refine WL.val Wanted.none (Runs.move rfl) ?_
      refine WL.val Wanted.none (Runs.extract rfl rfl) ?_
      refine WL.val Wanted.none (Runs.extract rfl rfl) ?_
      refine WL.val Wanted.none (Runs.assign rfl) ?_
      refine WL.val Wanted.none (Runs.assign rfl) ?_
      refine WL.nil ?_
      refine QW.then_n ?_
      refine CW.seq ?_
      refine CW.region ?_
      refine WL.val Wanted.none (Runs.move rfl) ?_
      refine WL.val Wanted.none (Runs.move rfl) ?_
      obtain ⟨c_332, H⟩ := H
      have h_333 : a_328 = true := c_332
      refine WL.on ?_ ?_; exact Wanted.guard (dj := 123) (by rfl) (evb (by rfl) h_333) (by rfl)
      refine WL.val Wanted.none (Runs.move rfl) ?_
      refine WL.on ?_ ?_; exact Wanted.guard (dj := 123) (by rfl) (evb (by rfl) h_333) (by rfl)
      obtain ⟨⟨p_334, q_335⟩, H⟩ := H
      obtain ⟨a_336, e_337⟩ := (st_330.src_sl (k := 2) rfl).addr_iv 0 (by omega)
      refine WL.val Wanted.none (Runs.indexAddr Try.underlying22 cells5 (by decide) rfl e_337 rfl p_334 (by rw [hn_326]; exact q_335) (o := 0) (by first | rfl | omega)) ?_
      refine WL.on ?_ ?_; exact Wanted.guard (dj := 123) (by rfl) (evb (by rfl) h_333) (by rfl)
      refine WL.val Wanted.none (Runs.load nagg5 rfl ((st_330.src_sl (k := 2) rfl).cell_iv e_337 (by omega))) ?_
      refine WL.on ?_ ?_; exact Wanted.guard (dj := 123) (by rfl) (evb (by rfl) h_333) (by rfl)
      refine WL.val Wanted.none (Runs.move rfl) ?_
      refine WL.on ?_ ?_; exact Wanted.guard (dj := 123) (by rfl) (evb (by rfl) h_333) (by rfl)
      refine WL.val Wanted.none (Runs.eql rfl rfl rfl) ?_
      refine WL.val Wanted.none (Runs.pick_t (evb rfl h_333) rfl) ?_
      refine WL.val Wanted.none (Runs.move rfl) ?_
      obtain ⟨c_338, H⟩ := H
      have h_339 : ((gn l_324 0) == a2) = true := (beq_iff_eq.mpr c_338)
      refine WL.on ?_ ?_; exact Wanted.guard (dj := 130) (by rfl) (evb (by rfl) h_339) (by rfl)
      refine WL.val Wanted.none (Runs.move rfl) ?_
      refine WL.on ?_ ?_; exact Wanted.guard (dj := 130) (by rfl) (evb (by rfl) h_339) (by rfl)
      have st_340 : St w w_329 (.cells b_105 (([.int .i64 a_312_0] : List Value) ++ ([.slice A_313_1 n_314_1 c_315_1] : List Value)) 57 :: .sl A_313_1 c_315_1 n_314_1 x_317_1 60 3 :: (T_310 ++ (.sl A_321 c_323 n_322 (iv .u8 l_324) 5 1 :: .sl A_126 c_127 n_128 (iv .u8 r_125) 5 1 :: .sl (some ⟨B_117, 0, none⟩) 1 1 (iv .u8 [a2]) 5 1 :: .sl A_89 c_91 n_90 (iv .u64 l_92) 29 1 :: .sl A_35 c_36 n_37 (iv .u8 r_34) 5 1 :: .sl A_10 c_12 n_11 (iv .u8 l_13) 5 1 :: R))) := St.hide (A := [_, _]) (B := [_, _, _, _, _, _]) (T := T_310) (R := R) st_330
      obtain ⟨a_344_0, l_348_1, a_353, hr_341, H⟩ := H
      refine WL.call Wanted.none ent18 rfl (buffers_Cache_Unpin.calls w w_329 T_310 (.sl A_321 c_323 n_322 (iv .u8 l_324) 5 1 :: .sl A_126 c_127 n_128 (iv .u8 r_125) 5 1 :: .sl (some ⟨B_117, 0, none⟩) 1 1 (iv .u8 [a2]) 5 1 :: .sl A_89 c_91 n_90 (iv .u64 l_92) 29 1 :: .sl A_35 c_36 n_37 (iv .u8 r_34) 5 1 :: .sl A_10 c_12 n_11 (iv .u8 l_13) 5 1 :: R) a_312_0 l_316_1 7 b_105 A_313_1 n_314_1 c_315_1 x_317_1  st_340 (hn_318_1) hx_319_1 a_344_0 l_348_1 a_353 hr_341) ?_
      rintro _ w_354 ⟨T_342, A_345_1, n_346_1, c_347_1, x_349_1, hs_343, hn_350_1, hx_351_1, rfl, sc_356⟩
      have st_355 : St w w_354 (.cells b_105 (([.int .i64 a_344_0] : List Value) ++ ([.slice A_345_1 n_346_1 c_347_1] : List Value)) 57 :: .sl A_345_1 c_347_1 n_346_1 x_349_1 60 3 :: .sl A_321 c_323 n_322 (iv .u8 l_324) 5 1 :: .sl A_126 c_127 n_128 (iv .u8 r_125) 5 1 :: .sl (some ⟨B_117, 0, none⟩) 1 1 (iv .u8 [a2]) 5 1 :: .sl A_89 c_91 n_90 (iv .u64 l_92) 29 1 :: .sl A_35 c_36 n_37 (iv .u8 r_34) 5 1 :: .sl A_10 c_12 n_11 (iv .u8 l_13) 5 1 :: (T_342 ++ R)) := St.unhide (A := [_, _]) (B := [_, _, _, _, _, _]) (T := T_342) (R := R) sc_356
      refine ⟨_, rfl, ?_⟩
      refine WL.val Wanted.none (Runs.pick_t (evb rfl h_339) rfl) ?_
      refine WL.val Wanted.none (Runs.move rfl) ?_
      obtain ⟨c_357, H⟩ := H
      have h_358 : a_353 = true := c_357
      refine WL.on ?_ ?_; exact Wanted.guard (dj := 134) (by rfl) (evb (by rfl) h_358) (by rfl)
      refine WL.val Wanted.none (Runs.move rfl) ?_
      refine WL.on ?_ ?_; exact Wanted.guard (dj := 134) (by rfl) (evb (by rfl) h_358) (by rfl)
      have st_359 : St w w_354 (.cells b_105 (([.int .i64 a_344_0] : List Value) ++ ([.slice A_345_1 n_346_1 c_347_1] : List Value)) 57 :: .sl A_345_1 c_347_1 n_346_1 x_349_1 60 3 :: (T_342 ++ (.sl A_321 c_323 n_322 (iv .u8 l_324) 5 1 :: .sl A_126 c_127 n_128 (iv .u8 r_125) 5 1 :: .sl (some ⟨B_117, 0, none⟩) 1 1 (iv .u8 [a2]) 5 1 :: .sl A_89 c_91 n_90 (iv .u64 l_92) 29 1 :: .sl A_35 c_36 n_37 (iv .u8 r_34) 5 1 :: .sl A_10 c_12 n_11 (iv .u8 l_13) 5 1 :: R))) := St.hide (A := [_, _]) (B := [_, _, _, _, _, _]) (T := T_342) (R := R) st_355
      obtain ⟨a_363_0, l_367_1, a_372, hr_360, H⟩ := H
      refine WL.call Wanted.none ent19 rfl (buffers_Cache_Drop.calls w w_354 T_342 (.sl A_321 c_323 n_322 (iv .u8 l_324) 5 1 :: .sl A_126 c_127 n_128 (iv .u8 r_125) 5 1 :: .sl (some ⟨B_117, 0, none⟩) 1 1 (iv .u8 [a2]) 5 1 :: .sl A_89 c_91 n_90 (iv .u64 l_92) 29 1 :: .sl A_35 c_36 n_37 (iv .u8 r_34) 5 1 :: .sl A_10 c_12 n_11 (iv .u8 l_13) 5 1 :: R) a_344_0 l_348_1 7 b_105 A_345_1 n_346_1 c_347_1 x_349_1  st_359 (hn_350_1) hx_351_1 a_363_0 l_367_1 a_372 hr_360) ?_
      rintro _ w_373 ⟨T_361, A_364_1, n_365_1, c_366_1, x_368_1, hs_362, hn_369_1, hx_370_1, rfl, sc_375⟩
      have st_374 : St w w_373 (.cells b_105 (([.int .i64 a_363_0] : List Value) ++ ([.slice A_364_1 n_365_1 c_366_1] : List Value)) 57 :: .sl A_364_1 c_366_1 n_365_1 x_368_1 60 3 :: .sl A_321 c_323 n_322 (iv .u8 l_324) 5 1 :: .sl A_126 c_127 n_128 (iv .u8 r_125) 5 1 :: .sl (some ⟨B_117, 0, none⟩) 1 1 (iv .u8 [a2]) 5 1 :: .sl A_89 c_91 n_90 (iv .u64 l_92) 29 1 :: .sl A_35 c_36 n_37 (iv .u8 r_34) 5 1 :: .sl A_10 c_12 n_11 (iv .u8 l_13) 5 1 :: (T_361 ++ R)) := St.unhide (A := [_, _]) (B := [_, _, _, _, _, _]) (T := T_361) (R := R) sc_375
      refine ⟨_, rfl, ?_⟩
      refine WL.val Wanted.none (Runs.pick_t (evb rfl h_358) rfl) ?_
      refine WL.val Wanted.none (Runs.assign rfl) ?_
      refine WL.nil ?_
      refine QW.then_n ?_
      refine CW.sub [(6, .bool a_372)] ⟨rfl, trivial⟩ ?_
      refine CW.ret ?_
      have hz : a_372 = true := H
      exact QW.ret1 rfl (evb rfl hz) ⟨rfl, st_374.ext⟩
  · have h_206 : (decide (x_201 < (l1.length : Int))) = false := (decide_eq_false c_205)
    refine WL.off ?_ ?_; exact Wanted.guard (dj := 80) (by rfl) (evb (by rfl) h_206) (by rfl)
    refine WL.off ?_ ?_; exact Wanted.guard (dj := 80) (by rfl) (evb (by rfl) h_206) (by rfl)
    refine WL.val Wanted.none (Runs.pick_f (evb rfl h_206) rfl) ?_
    refine WL.nil ?_
    refine QW.then_n ?_
    refine CW.cf rfl rfl ?_
    refine CW.exit ?_
    refine QW.then_x ?_
    refine QW.then_x ?_
    refine QW.blk_x ?_
    refine QW.then_n ?_
    refine CW.sub [(2, .int .u8 a2), (6, .bool b_200), (12, .pointer (some ⟨b_105, 0, none⟩))] ⟨rfl, rfl, rfl, trivial⟩ ?_
    refine CW.seq ?_
    refine CW.region ?_
    refine WL.val Wanted.none (Runs.move rfl) ?_
    have st_376 : St w w_202 (.cells b_105 (([.int .i64 x_199] : List Value) ++ ([.slice A_196 n_198 c_197] : List Value)) 57 :: .sl A_196 c_197 n_198 x_194 60 3 :: (T_190 ++ (.sl A_126 c_127 n_128 (iv .u8 r_125) 5 1 :: .sl (some ⟨B_117, 0, none⟩) 1 1 (iv .u8 [a2]) 5 1 :: .sl A_89 c_91 n_90 (iv .u64 l_92) 29 1 :: .sl A_35 c_36 n_37 (iv .u8 r_34) 5 1 :: .sl A_10 c_12 n_11 (iv .u8 l_13) 5 1 :: R))) := St.hide (A := [_, _]) (B := [_, _, _, _, _]) (T := T_190) (R := R) st_203
    obtain ⟨a_380_0, l_384_1, l_392, a_396, hr_377, H⟩ := H
    refine WL.call Wanted.none ent12 rfl (buffers_Cache_Get.calls w w_202 T_190 (.sl A_126 c_127 n_128 (iv .u8 r_125) 5 1 :: .sl (some ⟨B_117, 0, none⟩) 1 1 (iv .u8 [a2]) 5 1 :: .sl A_89 c_91 n_90 (iv .u64 l_92) 29 1 :: .sl A_35 c_36 n_37 (iv .u8 r_34) 5 1 :: .sl A_10 c_12 n_11 (iv .u8 l_13) 5 1 :: R) x_199 l_192 7 b_105 A_196 n_198 c_197 x_194  st_376 (hn_193) hx_195 a_380_0 l_384_1 l_392 a_396 hr_377) ?_
    rintro _ w_397 ⟨T_378, A_381_1, n_382_1, c_383_1, x_385_1, A_389, n_390, c_391, hs_379, hn_386_1, hx_387_1, hn_394, rfl, sc_399⟩
    have st_398 : St w w_397 (.cells b_105 (([.int .i64 a_380_0] : List Value) ++ ([.slice A_381_1 n_382_1 c_383_1] : List Value)) 57 :: .sl A_381_1 c_383_1 n_382_1 x_385_1 60 3 :: .sl A_389 c_391 n_390 (iv .u8 l_392) 5 1 :: .sl A_126 c_127 n_128 (iv .u8 r_125) 5 1 :: .sl (some ⟨B_117, 0, none⟩) 1 1 (iv .u8 [a2]) 5 1 :: .sl A_89 c_91 n_90 (iv .u64 l_92) 29 1 :: .sl A_35 c_36 n_37 (iv .u8 r_34) 5 1 :: .sl A_10 c_12 n_11 (iv .u8 l_13) 5 1 :: (T_378 ++ R)) := St.unhide (A := [_, _, _]) (B := [_, _, _, _, _]) (T := T_378) (R := R) sc_399
    refine ⟨_, rfl, ?_⟩
    refine WL.val Wanted.none (Runs.move rfl) ?_
    refine WL.val Wanted.none (Runs.extract rfl rfl) ?_
    refine WL.val Wanted.none (Runs.extract rfl rfl) ?_
    refine WL.val Wanted.none (Runs.assign rfl) ?_
    refine WL.val Wanted.none (Runs.assign rfl) ?_
    refine WL.nil ?_
    refine QW.then_n ?_
    refine CW.seq ?_
    refine CW.region ?_
    refine WL.val Wanted.none (Runs.move rfl) ?_
    refine WL.val Wanted.none (Runs.move rfl) ?_
    obtain ⟨c_400, H⟩ := H
    have h_401 : a_396 = true := c_400
    refine WL.on ?_ ?_; exact Wanted.guard (dj := 123) (by rfl) (evb (by rfl) h_401) (by rfl)
    refine WL.val Wanted.none (Runs.move rfl) ?_
    refine WL.on ?_ ?_; exact Wanted.guard (dj := 123) (by rfl) (evb (by rfl) h_401) (by rfl)
    obtain ⟨⟨p_402, q_403⟩, H⟩ := H
    obtain ⟨a_404, e_405⟩ := (st_398.src_sl (k := 2) rfl).addr_iv 0 (by omega)
    refine WL.val Wanted.none (Runs.indexAddr Try.underlying22 cells5 (by decide) rfl e_405 rfl p_402 (by rw [hn_394]; exact q_403) (o := 0) (by first | rfl | omega)) ?_
    refine WL.on ?_ ?_; exact Wanted.guard (dj := 123) (by rfl) (evb (by rfl) h_401) (by rfl)
    refine WL.val Wanted.none (Runs.load nagg5 rfl ((st_398.src_sl (k := 2) rfl).cell_iv e_405 (by omega))) ?_
    refine WL.on ?_ ?_; exact Wanted.guard (dj := 123) (by rfl) (evb (by rfl) h_401) (by rfl)
    refine WL.val Wanted.none (Runs.move rfl) ?_
    refine WL.on ?_ ?_; exact Wanted.guard (dj := 123) (by rfl) (evb (by rfl) h_401) (by rfl)
    refine WL.val Wanted.none (Runs.eql rfl rfl rfl) ?_
    refine WL.val Wanted.none (Runs.pick_t (evb rfl h_401) rfl) ?_
    refine WL.val Wanted.none (Runs.move rfl) ?_
    obtain ⟨c_406, H⟩ := H
    have h_407 : ((gn l_392 0) == a2) = true := (beq_iff_eq.mpr c_406)
    refine WL.on ?_ ?_; exact Wanted.guard (dj := 130) (by rfl) (evb (by rfl) h_407) (by rfl)
    refine WL.val Wanted.none (Runs.move rfl) ?_
    refine WL.on ?_ ?_; exact Wanted.guard (dj := 130) (by rfl) (evb (by rfl) h_407) (by rfl)
    have st_408 : St w w_397 (.cells b_105 (([.int .i64 a_380_0] : List Value) ++ ([.slice A_381_1 n_382_1 c_383_1] : List Value)) 57 :: .sl A_381_1 c_383_1 n_382_1 x_385_1 60 3 :: (T_378 ++ (.sl A_389 c_391 n_390 (iv .u8 l_392) 5 1 :: .sl A_126 c_127 n_128 (iv .u8 r_125) 5 1 :: .sl (some ⟨B_117, 0, none⟩) 1 1 (iv .u8 [a2]) 5 1 :: .sl A_89 c_91 n_90 (iv .u64 l_92) 29 1 :: .sl A_35 c_36 n_37 (iv .u8 r_34) 5 1 :: .sl A_10 c_12 n_11 (iv .u8 l_13) 5 1 :: R))) := St.hide (A := [_, _]) (B := [_, _, _, _, _, _]) (T := T_378) (R := R) st_398
    obtain ⟨a_412_0, l_416_1, a_421, hr_409, H⟩ := H
    refine WL.call Wanted.none ent18 rfl (buffers_Cache_Unpin.calls w w_397 T_378 (.sl A_389 c_391 n_390 (iv .u8 l_392) 5 1 :: .sl A_126 c_127 n_128 (iv .u8 r_125) 5 1 :: .sl (some ⟨B_117, 0, none⟩) 1 1 (iv .u8 [a2]) 5 1 :: .sl A_89 c_91 n_90 (iv .u64 l_92) 29 1 :: .sl A_35 c_36 n_37 (iv .u8 r_34) 5 1 :: .sl A_10 c_12 n_11 (iv .u8 l_13) 5 1 :: R) a_380_0 l_384_1 7 b_105 A_381_1 n_382_1 c_383_1 x_385_1  st_408 (hn_386_1) hx_387_1 a_412_0 l_416_1 a_421 hr_409) ?_
    rintro _ w_422 ⟨T_410, A_413_1, n_414_1, c_415_1, x_417_1, hs_411, hn_418_1, hx_419_1, rfl, sc_424⟩
    have st_423 : St w w_422 (.cells b_105 (([.int .i64 a_412_0] : List Value) ++ ([.slice A_413_1 n_414_1 c_415_1] : List Value)) 57 :: .sl A_413_1 c_415_1 n_414_1 x_417_1 60 3 :: .sl A_389 c_391 n_390 (iv .u8 l_392) 5 1 :: .sl A_126 c_127 n_128 (iv .u8 r_125) 5 1 :: .sl (some ⟨B_117, 0, none⟩) 1 1 (iv .u8 [a2]) 5 1 :: .sl A_89 c_91 n_90 (iv .u64 l_92) 29 1 :: .sl A_35 c_36 n_37 (iv .u8 r_34) 5 1 :: .sl A_10 c_12 n_11 (iv .u8 l_13) 5 1 :: (T_410 ++ R)) := St.unhide (A := [_, _]) (B := [_, _, _, _, _, _]) (T := T_410) (R := R) sc_424
    refine ⟨_, rfl, ?_⟩
    refine WL.val Wanted.none (Runs.pick_t (evb rfl h_407) rfl) ?_
    refine WL.val Wanted.none (Runs.move rfl) ?_
    obtain ⟨c_425, H⟩ := H
    have h_426 : a_421 = true := c_425
    refine WL.on ?_ ?_; exact Wanted.guard (dj := 134) (by rfl) (evb (by rfl) h_426) (by rfl)
    refine WL.val Wanted.none (Runs.move rfl) ?_
    refine WL.on ?_ ?_; exact Wanted.guard (dj := 134) (by rfl) (evb (by rfl) h_426) (by rfl)
    have st_427 : St w w_422 (.cells b_105 (([.int .i64 a_412_0] : List Value) ++ ([.slice A_413_1 n_414_1 c_415_1] : List Value)) 57 :: .sl A_413_1 c_415_1 n_414_1 x_417_1 60 3 :: (T_410 ++ (.sl A_389 c_391 n_390 (iv .u8 l_392) 5 1 :: .sl A_126 c_127 n_128 (iv .u8 r_125) 5 1 :: .sl (some ⟨B_117, 0, none⟩) 1 1 (iv .u8 [a2]) 5 1 :: .sl A_89 c_91 n_90 (iv .u64 l_92) 29 1 :: .sl A_35 c_36 n_37 (iv .u8 r_34) 5 1 :: .sl A_10 c_12 n_11 (iv .u8 l_13) 5 1 :: R))) := St.hide (A := [_, _]) (B := [_, _, _, _, _, _]) (T := T_410) (R := R) st_423
    obtain ⟨a_431_0, l_435_1, a_440, hr_428, H⟩ := H
    refine WL.call Wanted.none ent19 rfl (buffers_Cache_Drop.calls w w_422 T_410 (.sl A_389 c_391 n_390 (iv .u8 l_392) 5 1 :: .sl A_126 c_127 n_128 (iv .u8 r_125) 5 1 :: .sl (some ⟨B_117, 0, none⟩) 1 1 (iv .u8 [a2]) 5 1 :: .sl A_89 c_91 n_90 (iv .u64 l_92) 29 1 :: .sl A_35 c_36 n_37 (iv .u8 r_34) 5 1 :: .sl A_10 c_12 n_11 (iv .u8 l_13) 5 1 :: R) a_412_0 l_416_1 7 b_105 A_413_1 n_414_1 c_415_1 x_417_1  st_427 (hn_418_1) hx_419_1 a_431_0 l_435_1 a_440 hr_428) ?_
    rintro _ w_441 ⟨T_429, A_432_1, n_433_1, c_434_1, x_436_1, hs_430, hn_437_1, hx_438_1, rfl, sc_443⟩
    have st_442 : St w w_441 (.cells b_105 (([.int .i64 a_431_0] : List Value) ++ ([.slice A_432_1 n_433_1 c_434_1] : List Value)) 57 :: .sl A_432_1 c_434_1 n_433_1 x_436_1 60 3 :: .sl A_389 c_391 n_390 (iv .u8 l_392) 5 1 :: .sl A_126 c_127 n_128 (iv .u8 r_125) 5 1 :: .sl (some ⟨B_117, 0, none⟩) 1 1 (iv .u8 [a2]) 5 1 :: .sl A_89 c_91 n_90 (iv .u64 l_92) 29 1 :: .sl A_35 c_36 n_37 (iv .u8 r_34) 5 1 :: .sl A_10 c_12 n_11 (iv .u8 l_13) 5 1 :: (T_429 ++ R)) := St.unhide (A := [_, _]) (B := [_, _, _, _, _, _]) (T := T_429) (R := R) sc_443
    refine ⟨_, rfl, ?_⟩
    refine WL.val Wanted.none (Runs.pick_t (evb rfl h_426) rfl) ?_
    refine WL.val Wanted.none (Runs.assign rfl) ?_
    refine WL.nil ?_
    refine QW.then_n ?_
    refine CW.sub [(6, .bool a_440)] ⟨rfl, trivial⟩ ?_
    refine CW.ret ?_
    have hz : a_440 = true := H
    exact QW.ret1 rfl (evb rfl hz) ⟨rfl, st_442.ext⟩

/-! ### buffers_Cache_Clear: function 21 -/
def buffers_Cache_Clear.rel (a0_0 : Int) (l0_1 : List R60) (as0_0 : Int) (ls0_1 : List R60) : Prop := as0_0 = a0_0 ∧ ls0_1 = ([] : List R60)
set_option maxHeartbeats 1000000 in
set_option maxRecDepth 100000 in
theorem buffers_Cache_Clear.calls (w w1 : World) (T R : Pool) (a0_0 : Int) (l0_1 : List R60) (b0 : Nat) (A0_1 : Option Addr) (n0_1 : Nat) (c0_1 : Nat) (x0_1 : Cells) (st0 : St w w1 (.cells b0 (([.int .i64 a0_0] : List Value) ++ ([.slice A0_1 n0_1 c0_1] : List Value)) 57 :: .sl A0_1 c0_1 n0_1 x0_1 60 3 :: (T ++ R))) (hn0_1 : n0_1 = l0_1.length) (hx0_1 : HRs T (f60 w) x0_1 l0_1) (as0_0 : Int) (ls0_1 : List R60) (H : buffers_Cache_Clear.rel a0_0 l0_1 as0_0 ls0_1) :
    Calls Try.prog 21 #[.pointer (some ⟨b0, 0, none⟩)] w1 fun e w' => ∃ T' As0_1 ns0_1 cs0_1 xs0_1, Pl T T' ∧ ns0_1 = ls0_1.length ∧ HRs T' (f60 w) xs0_1 ls0_1 ∧ e = .returned (.tuple #[]) ∧ St w w' (.cells b0 (([.int .i64 as0_0] : List Value) ++ ([.slice As0_1 ns0_1 cs0_1] : List Value)) 57 :: .sl As0_1 cs0_1 ns0_1 xs0_1 60 3 :: (T' ++ R)) := by
  refine CW.enter Try.func21 rfl (n := 7) rfl [.pointer (some ⟨b0, 0, none⟩)] (Nat.le_of_ble_eq_true rfl) ?_
  refine CW.sub [(0, .pointer (some ⟨b0, 0, none⟩))] ⟨rfl, trivial⟩ ?_
  refine CW.seq ?_
  refine CW.region ?_
  refine WL.val Wanted.none (Runs.move rfl) ?_
  refine WL.val Wanted.none (Runs.neq_ptr Try.underlying25 rfl rfl rfl) ?_
  refine WL.nil ?_
  refine QW.then_n ?_
  refine CW.ct rfl rfl ?_
  refine CW.region ?_
  refine WL.val Wanted.none (Runs.move rfl) ?_
  refine WL.val Wanted.none (Runs.nilCheck rfl) ?_
  refine WL.val Wanted.none (Runs.fieldAddr (off := 1) (p := 1) fld57_1 rfl rfl rfl) ?_
  refine WL.store_one (i := 0) (u0 := .slice A0_1 n0_1 c0_1) (pre := (([.int .i64 a0_0] : List Value))) (post := (([] : List Value))) st0 rfl cells55 (by first | rfl | simp only [List.append_assoc, List.append_nil, List.nil_append, List.cons_append]) (by first | rfl | simp only [List.length_append, List.length_cons, List.length_nil, iv_length]) rfl rfl rfl ?_
  intro w_1 st_2
  replace st_2 : St w w_1 (.cells b0 (([.int .i64 a0_0] : List Value) ++ ([.slice none 0 0] : List Value)) 57 :: .sl A0_1 c0_1 n0_1 x0_1 60 3 :: (T ++ R)) := by have e_ : (([.int .i64 a0_0] : List Value) ++ ([.slice none 0 0] : List Value)) = (([.int .i64 a0_0] : List Value)) ++ ((([.slice none 0 0] : List Value)) ++ (([] : List Value))) := (by first | rfl | simp only [List.append_assoc, List.append_nil, List.nil_append, List.cons_append]); have h_ : St w w_1 (.cells b0 ((([.int .i64 a0_0] : List Value)) ++ ((([.slice none 0 0] : List Value)) ++ (([] : List Value)))) 57 :: .sl A0_1 c0_1 n0_1 x0_1 60 3 :: (T ++ R)) := st_2; rw [← e_] at h_; exact h_
  refine WL.nil ?_
  have st_4 := st_2.nil_sl 60 3
  have st_4 : St w w_1 (.sl none 0 0 ([] : Cells) 60 3 :: .cells b0 (([.int .i64 a0_0] : List Value) ++ ([.slice none 0 0] : List Value)) 57 :: .sl A0_1 c0_1 n0_1 x0_1 60 3 :: (T ++ R)) := st_4
  obtain ⟨rfl, rfl⟩ := H
  exact QW.end0 rfl ⟨T, none, 0, 0, ([] : Cells), Pl.refl, rfl, (HRs.nil : HRs T (f60 w) [] []), rfl, (St.pickT (L := [_, _, _]) st_4 [1, 0] (by decide))⟩

end Go.Proofs.Ytjilndiemfhapaa
