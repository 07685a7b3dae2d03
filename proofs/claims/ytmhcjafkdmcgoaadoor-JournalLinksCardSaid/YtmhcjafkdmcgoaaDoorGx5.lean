/- Walks: each function computes what its relation says, and a call of it ends so. Printed by a program of this session (wip/gen). -/
import Derived.Test.YtmhcjafkdmcgoaaDoorGx4
namespace Go.Proofs.YtmhcjafkdmcgoaaDoor
open Go Go.Kr Go.RowKit
set_option linter.unusedVariables false
set_option linter.unusedSimpArgs false
/-! ### reliquarylaw13_awake: function 8 -/
def reliquarylaw13_awake.rel   : Prop := (∃ (o_3 : Option ((List R25) × (List R124) × Int × Bool × (List R48))) (a_7 : Int), disk_New.rel 4 o_3 a_7 ∧ ((∃ (l_42_0 : List R25) (l_42_1 : List R124) (a_46_2 : Int) (a_46_3 : Bool) (l_42_4 : List R48), o_3 = some (l_42_0, l_42_1, a_46_2, a_46_3, l_42_4) ∧ (∃ m_50 : List Int, m_50 = [1, 0, 0, 0, 0, 0, 0, 0, 0, 0, 0, 0, 0, 0, 0, 0, 0, 0, 0, 0, 0, 0, 0, 0, 0, 0, 0, 0, 0, 0, 0, 0] ∧ (∃ (o_54 : Option ((List Int) × Int × Int × Int × Int × (List Int) × Int × Int)) (l_60_0 : List R25) (l_60_1 : List R124) (a_64_2 : Int) (a_64_3 : Bool) (l_60_4 : List R48) (a_66 : Int), journal_New.rel l_42_0 l_42_1 a_46_2 a_46_3 l_42_4 m_50 1 2 0 0 (List.replicate 32 (0 : Int)) 1 100 l_60_0 l_60_1 a_64_2 a_64_3 l_60_4 o_54 a_66 ∧ ((∃ (l_72_1 : List Int) (a_74_2 : Int) (a_74_3 : Int) (a_74_4 : Int) (a_74_5 : Int) (l_72_6 : List Int) (a_74_7 : Int) (a_74_8 : Int), o_54 = some (l_72_1, a_74_2, a_74_3, a_74_4, a_74_5, l_72_6, a_74_7, a_74_8) ∧ (∃ (l_116_0_0 : List R25) (l_116_0_1 : List R124) (a_120_0_2 : Int) (a_120_0_3 : Bool) (l_116_0_4 : List R48) (l_116_1 : List Int) (a_120_2 : Int) (a_120_3 : Int) (a_120_4 : Int) (a_120_5 : Int) (l_116_6 : List Int) (a_120_7 : Int) (a_120_8 : Int) (a_123_0 : Int) (a_123_1 : Int) (l_124_2 : List Int) (a_127 : Int), journal_Journal_Append.rel l_60_0 l_60_1 a_64_2 a_64_3 l_60_4 l_72_1 a_74_2 a_74_3 a_74_4 a_74_5 l_72_6 a_74_7 a_74_8 ([(3, List.replicate 160 (0 : Int)), (3, List.replicate 160 (0 : Int)), (3, List.replicate 160 (0 : Int))] : List R42) l_116_0_0 l_116_0_1 a_120_0_2 a_120_0_3 l_116_0_4 l_116_1 a_120_2 a_120_3 a_120_4 a_120_5 l_116_6 a_120_7 a_120_8 a_123_0 a_123_1 l_124_2 a_127 ∧ (∃ (l_159_0_0 : List R25) (l_159_0_1 : List R124) (a_163_0_2 : Int) (a_163_0_3 : Bool) (l_159_0_4 : List R48) (l_159_1 : List Int) (a_163_2 : Int) (a_163_3 : Int) (a_163_4 : Int) (a_163_5 : Int) (l_159_6 : List Int) (a_163_7 : Int) (a_163_8 : Int) (a_166_0 : Int) (a_166_1 : Int) (l_167_2 : List Int) (a_170 : Int), journal_Journal_Append.rel l_116_0_0 l_116_0_1 a_120_0_2 a_120_0_3 l_116_0_4 l_116_1 a_120_2 a_120_3 a_120_4 a_120_5 l_116_6 a_120_7 a_120_8 ([(3, List.replicate 160 (0 : Int))] : List R42) l_159_0_0 l_159_0_1 a_163_0_2 a_163_0_3 l_159_0_4 l_159_1 a_163_2 a_163_3 a_163_4 a_163_5 l_159_6 a_163_7 a_163_8 a_166_0 a_166_1 l_167_2 a_170 ∧ (∃ (l_188_0_0 : List R25) (l_188_0_1 : List R124) (a_192_0_2 : Int) (a_192_0_3 : Bool) (l_188_0_4 : List R48) (l_188_1 : List Int) (a_192_2 : Int) (a_192_3 : Int) (a_192_4 : Int) (a_192_5 : Int) (l_188_6 : List Int) (a_192_7 : Int) (a_192_8 : Int), journal_Journal_Adopt.rel l_159_0_0 l_159_0_1 a_163_0_2 a_163_0_3 l_159_0_4 l_159_1 a_163_2 a_163_3 a_163_4 a_163_5 l_159_6 a_163_7 a_163_8 a_166_0 a_166_1 l_167_2 100 l_188_0_0 l_188_0_1 a_192_0_2 a_192_0_3 l_188_0_4 l_188_1 a_192_2 a_192_3 a_192_4 a_192_5 l_188_6 a_192_7 a_192_8 ∧ (∃ (l_204_0_0 : List R25) (l_204_0_1 : List R124) (a_208_0_2 : Int) (a_208_0_3 : Bool) (l_204_0_4 : List R48) (l_204_1 : List Int) (a_208_2 : Int) (a_208_3 : Int) (a_208_4 : Int) (a_208_5 : Int) (l_204_6 : List Int) (a_208_7 : Int) (a_208_8 : Int) (a_211_0 : Int) (a_211_1 : Int) (l_212_2 : List Int) (a_215 : Int), journal_Journal_State.rel l_188_0_0 l_188_0_1 a_192_0_2 a_192_0_3 l_188_0_4 l_188_1 a_192_2 a_192_3 a_192_4 a_192_5 l_188_6 a_192_7 a_192_8 l_204_0_0 l_204_0_1 a_208_0_2 a_208_0_3 l_204_0_4 l_204_1 a_208_2 a_208_3 a_208_4 a_208_5 l_204_6 a_208_7 a_208_8 a_211_0 a_211_1 l_212_2 a_215 ∧ (a_127 = 17 ∧ (a_170 = 0 ∧ (a_166_1 = 1 ∧ (((a_211_0 == a_166_0) && ((a_211_1 == a_166_1) && ((l_212_2 == l_167_2) && true))) = true ∧ (a_215 = 2 ∧ (∃ (l_243_0_0 : List R25) (l_243_0_1 : List R124) (a_247_0_2 : Int) (a_247_0_3 : Bool) (l_243_0_4 : List R48) (l_243_1 : List Int) (a_247_2 : Int) (a_247_3 : Int) (a_247_4 : Int) (a_247_5 : Int) (l_243_6 : List Int) (a_247_7 : Int) (a_247_8 : Int) (a_250 : Int), journal_Journal_Room.rel l_204_0_0 l_204_0_1 a_208_0_2 a_208_0_3 l_204_0_4 l_204_1 a_208_2 a_208_3 a_208_4 a_208_5 l_204_6 a_208_7 a_208_8 l_243_0_0 l_243_0_1 a_247_0_2 a_247_0_3 l_243_0_4 l_243_1 a_247_2 a_247_3 a_247_4 a_247_5 l_243_6 a_247_7 a_247_8 a_250 ∧ (a_250 = 1 ∧ (∃ (l_263_0_0 : List R25) (l_263_0_1 : List R124) (a_267_0_2 : Int) (a_267_0_3 : Bool) (l_263_0_4 : List R48) (l_263_1 : List Int) (a_267_2 : Int) (a_267_3 : Int) (a_267_4 : Int) (a_267_5 : Int) (l_263_6 : List Int) (a_267_7 : Int) (a_267_8 : Int) (a_270_0 : Int) (a_270_1 : Int) (l_271_2 : List Int), journal_Journal_Empty.rel l_243_0_0 l_243_0_1 a_247_0_2 a_247_0_3 l_243_0_4 l_243_1 a_247_2 a_247_3 a_247_4 a_247_5 l_243_6 a_247_7 a_247_8 l_263_0_0 l_263_0_1 a_267_0_2 a_267_0_3 l_263_0_4 l_263_1 a_267_2 a_267_3 a_267_4 a_267_5 l_263_6 a_267_7 a_267_8 a_270_0 a_270_1 l_271_2 ∧ (a_270_0 = 1 ∧ (∃ (l_286_0 : List R25) (l_286_1 : List R124) (a_290_2 : Int) (a_290_3 : Bool) (l_286_4 : List R48) (a_292 : Int), disk_Disk_Pending.rel l_263_0_0 l_263_0_1 a_267_0_2 a_267_0_3 l_263_0_4 l_286_0 l_286_1 a_290_2 a_290_3 l_286_4 a_292 ∧ (a_292 = 1 ∧ (∃ m_298 : List Int, m_298 = List.replicate 32 (0 : Int) ∧ (∃ (r_304 : List Int), journal_Link.rel m_298 0 ([] : List Int) r_304 ∧ (∃ m_306 : List Int, m_306 = List.replicate 32 (0 : Int) ∧ ¬ (r_304 = m_306))))))))))))))))))))))))))
set_option maxHeartbeats 4000000 in
set_option maxRecDepth 100000 in
theorem reliquarylaw13_awake.calls (w : World)    (hG0 : Src w (some ⟨0, 0, none⟩) (iv .u32 tab0)) (hG1 : Src w (some ⟨1, 0, none⟩) (iv .i64 tab1))  (H : reliquarylaw13_awake.rel  ) :
  Calls Tryd.prog 8 #[] w fun e w' => e = .returned (.bool true) ∧ Below w.heap.size w w' := by
 refine CW.enter Tryd.func8 rfl (n := 101) rfl [] (Nat.le_of_ble_eq_true rfl) ?_
 refine CW.sub [] trivial ?_
 obtain ⟨T, R, hT, hR, st0⟩ := St.start w
 refine CW.seq (CW.region ?_)
 refine WL.val Wanted.none (Runs.assign rfl) ?_
 refine WL.nil (QW.then_n ?_)
 refine CW.seq (CW.region ?_)
 have st_1 : St w w ((T ++ (R))) := St.hide (A := []) (B := []) (T := T) (R := R) st0
 obtain ⟨o_3, a_7, hr_2, H⟩ := H
 obtain ⟨l_42_0, l_42_1, a_46_2, a_46_3, l_42_4, rfl, H⟩ := H
 refine WL.call Wanted.none ent11 rfl (disk_New.calls_obj w w T (R) 4  st_1 l_42_0 l_42_1 a_46_2 a_46_3 l_42_4 a_7 (some (l_42_0, l_42_1, a_46_2, a_46_3, l_42_4)) rfl hr_2) ?_
 rintro _ w_47 ⟨T_4, b_38, A_39_0, n_40_0, c_41_0, x_43_0, A_39_1, n_40_1, c_41_1, x_43_1, A_39_4, n_40_4, c_41_4, x_43_4, hs_5, hn_44_0, hx_45_0, hn_44_1, hx_45_1, hn_44_4, hx_45_4, rfl, sc_49⟩
 have st_48 : St w w_47 (.cells b_38 (([.slice A_39_0 n_40_0 c_41_0] : Cs) ++ (([.slice A_39_1 n_40_1 c_41_1] : Cs) ++ (([.int .i64 a_46_2] : Cs) ++ (([.bool a_46_3] : Cs) ++ ([.slice A_39_4 n_40_4 c_41_4] : Cs))))) 95 :: .sl A_39_0 c_41_0 n_40_0 x_43_0 25 1 :: .sl A_39_1 c_41_1 n_40_1 x_43_1 124 2 :: .sl A_39_4 c_41_4 n_40_4 x_43_4 48 2 :: (T_4 ++ R)) := St.unhide (A := [_, _, _, _]) (B := []) (T := T_4) (R := R) sc_49
 refine ⟨_, rfl, ?_⟩
 refine WL.val Wanted.none (Runs.move rfl) ?_
 refine WL.val Wanted.none (Runs.extract rfl rfl) ?_
 refine WL.val Wanted.none (Runs.extract rfl rfl) ?_
 refine WL.val Wanted.none (Runs.assign rfl) ?_
 refine WL.val Wanted.none (Runs.assign rfl) ?_
 refine WL.nil (QW.then_n ?_)
 refine CW.seq (CW.region ?_)
 refine WL.val Wanted.none (Runs.move rfl) ?_
 obtain ⟨m_50, e_51, H⟩ := H
 refine WL.val Wanted.none (Runs.build_arr (xs := m_50) arr23 rfl rfl (by rw [e_51]; rfl)) ?_
 refine WL.val Wanted.none (Runs.build_struct (ps := [(0, 1), (1, 1), (2, 32)]) (cs := (([.int .u64 0] : Cs) ++ (([.int .u64 0] : Cs) ++ iv .u8 (List.replicate 32 (0 : Int))))) plc39 zero39 rfl Fills.nil) ?_
 have st_52 : St w w_47 (.cells b_38 (([.slice A_39_0 n_40_0 c_41_0] : Cs) ++ (([.slice A_39_1 n_40_1 c_41_1] : Cs) ++ (([.int .i64 a_46_2] : Cs) ++ (([.bool a_46_3] : Cs) ++ ([.slice A_39_4 n_40_4 c_41_4] : Cs))))) 95 :: .sl A_39_0 c_41_0 n_40_0 x_43_0 25 1 :: .sl A_39_1 c_41_1 n_40_1 x_43_1 124 2 :: .sl A_39_4 c_41_4 n_40_4 x_43_4 48 2 :: (T_4 ++ (R))) := St.hide (A := [_, _, _, _]) (B := []) (T := T_4) (R := R) st_48
 obtain ⟨o_54, l_60_0, l_60_1, a_64_2, a_64_3, l_60_4, a_66, hr_53, H⟩ := H
 obtain ⟨l_72_1, a_74_2, a_74_3, a_74_4, a_74_5, l_72_6, a_74_7, a_74_8, rfl, H⟩ := H
 refine WL.call Wanted.none ent12 rfl (journal_New.calls_obj w w_47 T_4 (R) l_42_0 l_42_1 a_46_2 a_46_3 l_42_4 m_50 1 2 0 0 (List.replicate 32 (0 : Int)) 1 100 b_38 A_39_0 n_40_0 c_41_0 x_43_0 A_39_1 n_40_1 c_41_1 x_43_1 A_39_4 n_40_4 c_41_4 x_43_4  st_52 (hn_44_0) hx_45_0 (hn_44_1) hx_45_1 (hn_44_4) hx_45_4 (by rw [e_51]; rfl) (List.length_replicate ..) l_60_0 l_60_1 a_64_2 a_64_3 l_60_4 l_72_1 a_74_2 a_74_3 a_74_4 a_74_5 l_72_6 a_74_7 a_74_8 a_66 (some (l_72_1, a_74_2, a_74_3, a_74_4, a_74_5, l_72_6, a_74_7, a_74_8)) rfl hr_53) ?_
 rintro _ w_75 ⟨T_55, A_57_0, n_58_0, c_59_0, x_61_0, A_57_1, n_58_1, c_59_1, x_61_1, A_57_4, n_58_4, c_59_4, x_61_4, b_71, hs_56, hn_62_0, hx_63_0, hn_62_1, hx_63_1, hn_62_4, hx_63_4, hl_73_1, hl_73_6, rfl, sc_77⟩
 have st_76 : St w w_75 (.cells b_38 (([.slice A_57_0 n_58_0 c_59_0] : Cs) ++ (([.slice A_57_1 n_58_1 c_59_1] : Cs) ++ (([.int .i64 a_64_2] : Cs) ++ (([.bool a_64_3] : Cs) ++ ([.slice A_57_4 n_58_4 c_59_4] : Cs))))) 95 :: .sl A_57_0 c_59_0 n_58_0 x_61_0 25 1 :: .sl A_57_1 c_59_1 n_58_1 x_61_1 124 2 :: .sl A_57_4 c_59_4 n_58_4 x_61_4 48 2 :: .cells b_71 (([.pointer (some ⟨b_38, 0, none⟩)] : Cs) ++ (iv .u8 l_72_1 ++ (([.int .i64 a_74_2] : Cs) ++ (([.int .u64 a_74_3] : Cs) ++ (([.int .u64 a_74_4] : Cs) ++ (([.int .u64 a_74_5] : Cs) ++ (iv .u8 l_72_6 ++ (([.int .u64 a_74_7] : Cs) ++ ([.int .u64 a_74_8] : Cs))))))))) 98 :: (T_55 ++ R)) := St.unhide (A := [_, _, _, _, _]) (B := []) (T := T_55) (R := R) sc_77
 refine ⟨_, rfl, ?_⟩
 refine WL.val Wanted.none (Runs.move rfl) ?_
 refine WL.val Wanted.none (Runs.extract rfl rfl) ?_
 refine WL.val Wanted.none (Runs.extract rfl rfl) ?_
 refine WL.val Wanted.none (Runs.assign rfl) ?_
 refine WL.val Wanted.none (Runs.assign rfl) ?_
 refine WL.nil (QW.then_n ?_)
 refine CW.sub [(0, .bool false), (1, .pointer (some ⟨b_38, 0, none⟩)), (2, .int .i64 0), (3, .pointer (some ⟨b_71, 0, none⟩)), (4, .int .i64 0)] ⟨rfl, rfl, rfl, rfl, rfl, trivial⟩ ?_
 refine CW.seq ?_
 refine CW.seq (CW.region ?_)
 refine WL.val Wanted.none (Runs.move rfl) ?_
 refine WL.val Wanted.none (Runs.neq (b := false) rfl rfl (by decide)) ?_
 refine WL.val Wanted.none (Runs.move rfl) ?_
 refine WL.on ?_ ?_; exact Wanted.guard (dj := 25) (by rfl) (by rfl) (by rfl)
 refine WL.val Wanted.none (Runs.move rfl) ?_
 refine WL.on ?_ ?_; exact Wanted.guard (dj := 25) (by rfl) (by rfl) (by rfl)
 refine WL.val Wanted.none (Runs.neq (b := false) rfl rfl (by decide)) ?_
 refine WL.val Wanted.none (Runs.pick_f rfl rfl) ?_
 refine WL.val Wanted.none (Runs.move rfl) ?_
 refine WL.on ?_ ?_; exact Wanted.guard (dj := 29) (by rfl) (by rfl) (by rfl)
 refine WL.val Wanted.none (Runs.move rfl) ?_
 refine WL.on ?_ ?_; exact Wanted.guard (dj := 29) (by rfl) (by rfl) (by rfl)
 refine WL.val Wanted.none (Runs.eql_ptr Tryd.underlying34 rfl rfl rfl) ?_
 refine WL.val Wanted.none (Runs.pick_f rfl rfl) ?_
 refine WL.nil (QW.then_n ?_)
 refine CW.sub [(0, .bool false), (1, .pointer (some ⟨b_38, 0, none⟩)), (3, .pointer (some ⟨b_71, 0, none⟩)), (32, .bool false)] ⟨rfl, rfl, rfl, rfl, trivial⟩ ?_
 refine CW.cf rfl rfl ?_
 refine CW.skip ?_
 refine QW.then_n ?_
 refine CW.seq (CW.region ?_)
 refine WL.make st_76 Tryd.underlying25 elem5 rfl rfl (by decide) (by decide) (by decide) (N := 160) rfl ?_
 intro B_78 w_79 st_80
 replace st_80 : St w w_79 (.sl (some ⟨B_78, 0, none⟩) 160 160 (iv .u8 (List.replicate 160 (0 : Int))) 5 1 :: .cells b_38 (([.slice A_57_0 n_58_0 c_59_0] : Cs) ++ (([.slice A_57_1 n_58_1 c_59_1] : Cs) ++ (([.int .i64 a_64_2] : Cs) ++ (([.bool a_64_3] : Cs) ++ ([.slice A_57_4 n_58_4 c_59_4] : Cs))))) 95 :: .sl A_57_0 c_59_0 n_58_0 x_61_0 25 1 :: .sl A_57_1 c_59_1 n_58_1 x_61_1 124 2 :: .sl A_57_4 c_59_4 n_58_4 x_61_4 48 2 :: .cells b_71 (([.pointer (some ⟨b_38, 0, none⟩)] : Cs) ++ (iv .u8 l_72_1 ++ (([.int .i64 a_74_2] : Cs) ++ (([.int .u64 a_74_3] : Cs) ++ (([.int .u64 a_74_4] : Cs) ++ (([.int .u64 a_74_5] : Cs) ++ (iv .u8 l_72_6 ++ (([.int .u64 a_74_7] : Cs) ++ ([.int .u64 a_74_8] : Cs))))))))) 98 :: (T_55 ++ R)) := by rw [iv_replicate] at st_80; exact st_80
 have hn_81 : 160 = (List.replicate 160 (0 : Int)).length := by simp
 refine WL.val Wanted.none (Runs.build_struct (ps := [(0, 1), (1, 1)]) (cs := (([.int .u64 3] : Cs) ++ ([.slice (some ⟨B_78, 0, none⟩) 160 160] : Cs))) plc42 zero42 rfl (by refine Fills.cons (o := 0) (ms := (([.int .u64 3] : Cs))) (show _ = some (0, (([.int .u64 3] : Cs)).length) by rw [show (([.int .u64 3] : Cs)).length = 1 from (by first | rfl | simp only [List.length_append, List.length_cons, List.length_nil, iv_length])] <;> rfl) rfl (by have h1_ : (([.int .u64 3] : Cs)).length = 1 := (by first | rfl | simp only [List.length_append, List.length_cons, List.length_nil, iv_length]); have h2_ : (([.int .u64 0] : Cs) ++ ([.slice none 0 0] : Cs)).length = 2 := (by first | rfl | simp only [List.length_append, List.length_cons, List.length_nil, iv_length]); ((try clear H); omega)) ?_; rw [show layV (([.int .u64 0] : Cs) ++ ([.slice none 0 0] : Cs)) 0 (([.int .u64 3] : Cs)) = (([.int .u64 3] : Cs) ++ ([.slice none 0 0] : Cs)) from (layV_mid (pre := (([] : Cs))) (mid := (([.int .u64 0] : Cs))) (post := (([.slice none 0 0] : Cs))) (by first | rfl | simp only [List.append_assoc, List.append_nil, List.nil_append, List.cons_append]) (by first | rfl | simp only [List.length_append, List.length_cons, List.length_nil, iv_length]) (Eq.trans (b := 1) (by first | rfl | simp only [List.length_append, List.length_cons, List.length_nil, iv_length]) (Eq.symm (by first | rfl | simp only [List.length_append, List.length_cons, List.length_nil, iv_length])))).trans (by first | rfl | simp only [List.append_assoc, List.append_nil, List.nil_append, List.cons_append])]; refine Fills.cons (o := 1) (ms := (([.slice (some ⟨B_78, 0, none⟩) 160 160] : Cs))) (show _ = some (1, (([.slice (some ⟨B_78, 0, none⟩) 160 160] : Cs)).length) by rw [show (([.slice (some ⟨B_78, 0, none⟩) 160 160] : Cs)).length = 1 from (by first | rfl | simp only [List.length_append, List.length_cons, List.length_nil, iv_length])] <;> rfl) rfl (by have h1_ : (([.slice (some ⟨B_78, 0, none⟩) 160 160] : Cs)).length = 1 := (by first | rfl | simp only [List.length_append, List.length_cons, List.length_nil, iv_length]); have h2_ : (([.int .u64 3] : Cs) ++ ([.slice none 0 0] : Cs)).length = 2 := (by first | rfl | simp only [List.length_append, List.length_cons, List.length_nil, iv_length]); ((try clear H); omega)) ?_; rw [show layV (([.int .u64 3] : Cs) ++ ([.slice none 0 0] : Cs)) 1 (([.slice (some ⟨B_78, 0, none⟩) 160 160] : Cs)) = (([.int .u64 3] : Cs) ++ ([.slice (some ⟨B_78, 0, none⟩) 160 160] : Cs)) from (layV_mid (pre := (([.int .u64 3] : Cs))) (mid := (([.slice none 0 0] : Cs))) (post := (([] : Cs))) (by first | rfl | simp only [List.append_assoc, List.append_nil, List.nil_append, List.cons_append]) (by first | rfl | simp only [List.length_append, List.length_cons, List.length_nil, iv_length]) (Eq.trans (b := 1) (by first | rfl | simp only [List.length_append, List.length_cons, List.length_nil, iv_length]) (Eq.symm (by first | rfl | simp only [List.length_append, List.length_cons, List.length_nil, iv_length])))).trans (by first | rfl | simp only [List.append_assoc, List.append_nil, List.nil_append, List.cons_append])]; exact Fills.nil)) ?_
 refine WL.alloc st_80 zero42 ?_
 intro B_83 w_84 st_85
 replace st_85 : St w w_84 (.cells B_83 (([.int .u64 0] : Cs) ++ ([.slice none 0 0] : Cs)) 42 :: .sl (some ⟨B_78, 0, none⟩) 160 160 (iv .u8 (List.replicate 160 (0 : Int))) 5 1 :: .cells b_38 (([.slice A_57_0 n_58_0 c_59_0] : Cs) ++ (([.slice A_57_1 n_58_1 c_59_1] : Cs) ++ (([.int .i64 a_64_2] : Cs) ++ (([.bool a_64_3] : Cs) ++ ([.slice A_57_4 n_58_4 c_59_4] : Cs))))) 95 :: .sl A_57_0 c_59_0 n_58_0 x_61_0 25 1 :: .sl A_57_1 c_59_1 n_58_1 x_61_1 124 2 :: .sl A_57_4 c_59_4 n_58_4 x_61_4 48 2 :: .cells b_71 (([.pointer (some ⟨b_38, 0, none⟩)] : Cs) ++ (iv .u8 l_72_1 ++ (([.int .i64 a_74_2] : Cs) ++ (([.int .u64 a_74_3] : Cs) ++ (([.int .u64 a_74_4] : Cs) ++ (([.int .u64 a_74_5] : Cs) ++ (iv .u8 l_72_6 ++ (([.int .u64 a_74_7] : Cs) ++ ([.int .u64 a_74_8] : Cs))))))))) 98 :: (T_55 ++ R)) := st_85
 refine WL.store_mid (i := 0) (pre := (([] : Cs))) (mid := (([.int .u64 0] : Cs) ++ ([.slice none 0 0] : Cs))) (post := (([] : Cs))) (ms := (([.int .u64 3] : Cs) ++ ([.slice (some ⟨B_78, 0, none⟩) 160 160] : Cs))) st_85 rfl row42 (by first | rfl | simp only [List.append_assoc, List.append_nil, List.nil_append, List.cons_append]) (by first | rfl | simp only [List.length_append, List.length_cons, List.length_nil, iv_length]) rfl rfl (by first | rfl | simp only [List.length_append, List.length_cons, List.length_nil, iv_length]) (by first | rfl | simp only [List.length_append, List.length_cons, List.length_nil, iv_length]) (by intro u hu; simp only [List.mem_append, List.mem_singleton] at hu; rcases hu with hu | hu <;> first | exact one_iv _ _ u hu | (subst hu; rfl)) ?_
 intro w_87 st_88
 replace st_88 : St w w_87 (.cells B_83 (([.int .u64 3] : Cs) ++ ([.slice (some ⟨B_78, 0, none⟩) 160 160] : Cs)) 42 :: .sl (some ⟨B_78, 0, none⟩) 160 160 (iv .u8 (List.replicate 160 (0 : Int))) 5 1 :: .cells b_38 (([.slice A_57_0 n_58_0 c_59_0] : Cs) ++ (([.slice A_57_1 n_58_1 c_59_1] : Cs) ++ (([.int .i64 a_64_2] : Cs) ++ (([.bool a_64_3] : Cs) ++ ([.slice A_57_4 n_58_4 c_59_4] : Cs))))) 95 :: .sl A_57_0 c_59_0 n_58_0 x_61_0 25 1 :: .sl A_57_1 c_59_1 n_58_1 x_61_1 124 2 :: .sl A_57_4 c_59_4 n_58_4 x_61_4 48 2 :: .cells b_71 (([.pointer (some ⟨b_38, 0, none⟩)] : Cs) ++ (iv .u8 l_72_1 ++ (([.int .i64 a_74_2] : Cs) ++ (([.int .u64 a_74_3] : Cs) ++ (([.int .u64 a_74_4] : Cs) ++ (([.int .u64 a_74_5] : Cs) ++ (iv .u8 l_72_6 ++ (([.int .u64 a_74_7] : Cs) ++ ([.int .u64 a_74_8] : Cs))))))))) 98 :: (T_55 ++ R)) := by have e_ : (([.int .u64 3] : Cs) ++ ([.slice (some ⟨B_78, 0, none⟩) 160 160] : Cs)) = (([] : Cs)) ++ ((([.int .u64 3] : Cs) ++ ([.slice (some ⟨B_78, 0, none⟩) 160 160] : Cs)) ++ (([] : Cs))) := (by first | rfl | simp only [List.append_assoc, List.append_nil, List.nil_append, List.cons_append]); have h_ : St w w_87 (.cells B_83 ((([] : Cs)) ++ ((([.int .u64 3] : Cs) ++ ([.slice (some ⟨B_78, 0, none⟩) 160 160] : Cs)) ++ (([] : Cs)))) 42 :: .sl (some ⟨B_78, 0, none⟩) 160 160 (iv .u8 (List.replicate 160 (0 : Int))) 5 1 :: .cells b_38 (([.slice A_57_0 n_58_0 c_59_0] : Cs) ++ (([.slice A_57_1 n_58_1 c_59_1] : Cs) ++ (([.int .i64 a_64_2] : Cs) ++ (([.bool a_64_3] : Cs) ++ ([.slice A_57_4 n_58_4 c_59_4] : Cs))))) 95 :: .sl A_57_0 c_59_0 n_58_0 x_61_0 25 1 :: .sl A_57_1 c_59_1 n_58_1 x_61_1 124 2 :: .sl A_57_4 c_59_4 n_58_4 x_61_4 48 2 :: .cells b_71 (([.pointer (some ⟨b_38, 0, none⟩)] : Cs) ++ (iv .u8 l_72_1 ++ (([.int .i64 a_74_2] : Cs) ++ (([.int .u64 a_74_3] : Cs) ++ (([.int .u64 a_74_4] : Cs) ++ (([.int .u64 a_74_5] : Cs) ++ (iv .u8 l_72_6 ++ (([.int .u64 a_74_7] : Cs) ++ ([.int .u64 a_74_8] : Cs))))))))) 98 :: (T_55 ++ R)) := st_88; rw [← e_] at h_; exact h_
 refine WL.nil (QW.then_n ?_)
 refine CW.seq (CW.region ?_)
 refine WL.val Wanted.none (Runs.move rfl) ?_
 refine WL.val Wanted.none (Runs.load_mid row42 rfl st_88 (i := 0) rfl (part_mid (pre := (([] : Cs))) (mid := (([.int .u64 3] : Cs) ++ ([.slice (some ⟨B_78, 0, none⟩) 160 160] : Cs))) (post := (([] : Cs))) (by first | rfl | simp only [List.append_assoc, List.append_nil, List.nil_append, List.cons_append]) (by first | rfl | simp only [List.length_append, List.length_cons, List.length_nil, iv_length]) (by first | rfl | simp only [List.length_append, List.length_cons, List.length_nil, iv_length])) (by first | rfl | simp only [List.length_append, List.length_cons, List.length_nil, iv_length])) ?_
 refine WL.val Wanted.none (Runs.load_mid row42 rfl st_88 (i := 0) rfl (part_mid (pre := (([] : Cs))) (mid := (([.int .u64 3] : Cs) ++ ([.slice (some ⟨B_78, 0, none⟩) 160 160] : Cs))) (post := (([] : Cs))) (by first | rfl | simp only [List.append_assoc, List.append_nil, List.nil_append, List.cons_append]) (by first | rfl | simp only [List.length_append, List.length_cons, List.length_nil, iv_length]) (by first | rfl | simp only [List.length_append, List.length_cons, List.length_nil, iv_length])) (by first | rfl | simp only [List.length_append, List.length_cons, List.length_nil, iv_length])) ?_
 refine WL.val Wanted.none (Runs.load_mid row42 rfl st_88 (i := 0) rfl (part_mid (pre := (([] : Cs))) (mid := (([.int .u64 3] : Cs) ++ ([.slice (some ⟨B_78, 0, none⟩) 160 160] : Cs))) (post := (([] : Cs))) (by first | rfl | simp only [List.append_assoc, List.append_nil, List.nil_append, List.cons_append]) (by first | rfl | simp only [List.length_append, List.length_cons, List.length_nil, iv_length]) (by first | rfl | simp only [List.length_append, List.length_cons, List.length_nil, iv_length])) (by first | rfl | simp only [List.length_append, List.length_cons, List.length_nil, iv_length])) ?_
 have hb_93c := st_88.cap (i := 1) rfl
 obtain ⟨T_89, hs_90, hm_91, st_92⟩ := St.freeze (A := [_]) (B := [_, _, _, _, _]) (T := T_55) (R := R) st_88
 have hb_93 : HB w T_89 (some ⟨B_78, 0, none⟩) 160 160 (iv .u8 (List.replicate 160 (0 : Int))) (List.replicate 160 (0 : Int)).length := ⟨hn_81, hb_93c, Hd.of_sl hm_91⟩
 replace st_92 : St w w_87 (.cells B_83 (([.int .u64 3] : Cs) ++ ([.slice (some ⟨B_78, 0, none⟩) 160 160] : Cs)) 42 :: .cells b_38 (([.slice A_57_0 n_58_0 c_59_0] : Cs) ++ (([.slice A_57_1 n_58_1 c_59_1] : Cs) ++ (([.int .i64 a_64_2] : Cs) ++ (([.bool a_64_3] : Cs) ++ ([.slice A_57_4 n_58_4 c_59_4] : Cs))))) 95 :: .sl A_57_0 c_59_0 n_58_0 x_61_0 25 1 :: .sl A_57_1 c_59_1 n_58_1 x_61_1 124 2 :: .sl A_57_4 c_59_4 n_58_4 x_61_4 48 2 :: .cells b_71 (([.pointer (some ⟨b_38, 0, none⟩)] : Cs) ++ (iv .u8 l_72_1 ++ (([.int .i64 a_74_2] : Cs) ++ (([.int .u64 a_74_3] : Cs) ++ (([.int .u64 a_74_4] : Cs) ++ (([.int .u64 a_74_5] : Cs) ++ (iv .u8 l_72_6 ++ (([.int .u64 a_74_7] : Cs) ++ ([.int .u64 a_74_8] : Cs))))))))) 98 :: (T_89 ++ R)) := st_92
 obtain ⟨ii_94, z_95, h_96, h_97, h_98, h_99⟩ := slr42_3
 refine WL.buildSlRows (sz := 2) (cs := (([.int .u64 3] : Cs) ++ (([.slice (some ⟨B_78, 0, none⟩) 160 160] : Cs) ++ (([.int .u64 3] : Cs) ++ (([.slice (some ⟨B_78, 0, none⟩) 160 160] : Cs) ++ (([.int .u64 3] : Cs) ++ ([.slice (some ⟨B_78, 0, none⟩) 160 160] : Cs))))))) st_92 Tryd.underlying40 h_96 h_97 h_98 (by decide) (by decide) h_99 rfl (by refine Fills.cons (o := 0) (ms := (([.int .u64 3] : Cs) ++ ([.slice (some ⟨B_78, 0, none⟩) 160 160] : Cs))) (show _ = some (0, (([.int .u64 3] : Cs) ++ ([.slice (some ⟨B_78, 0, none⟩) 160 160] : Cs)).length) by rw [show (([.int .u64 3] : Cs) ++ ([.slice (some ⟨B_78, 0, none⟩) 160 160] : Cs)).length = 2 from (by first | rfl | simp only [List.length_append, List.length_cons, List.length_nil, iv_length])] <;> rfl) rfl (by have h1_ : (([.int .u64 3] : Cs) ++ ([.slice (some ⟨B_78, 0, none⟩) 160 160] : Cs)).length = 2 := (by first | rfl | simp only [List.length_append, List.length_cons, List.length_nil, iv_length]); have h2_ : (([.int .u64 0] : Cs) ++ (([.slice none 0 0] : Cs) ++ (([.int .u64 0] : Cs) ++ (([.slice none 0 0] : Cs) ++ (([.int .u64 0] : Cs) ++ ([.slice none 0 0] : Cs)))))).length = 6 := (by first | rfl | simp only [List.length_append, List.length_cons, List.length_nil, iv_length]); ((try clear H); omega)) ?_; rw [show layV (([.int .u64 0] : Cs) ++ (([.slice none 0 0] : Cs) ++ (([.int .u64 0] : Cs) ++ (([.slice none 0 0] : Cs) ++ (([.int .u64 0] : Cs) ++ ([.slice none 0 0] : Cs)))))) 0 (([.int .u64 3] : Cs) ++ ([.slice (some ⟨B_78, 0, none⟩) 160 160] : Cs)) = (([.int .u64 3] : Cs) ++ (([.slice (some ⟨B_78, 0, none⟩) 160 160] : Cs) ++ (([.int .u64 0] : Cs) ++ (([.slice none 0 0] : Cs) ++ (([.int .u64 0] : Cs) ++ ([.slice none 0 0] : Cs)))))) from (layV_mid (pre := (([] : Cs))) (mid := (([.int .u64 0] : Cs) ++ ([.slice none 0 0] : Cs))) (post := (([.int .u64 0] : Cs) ++ (([.slice none 0 0] : Cs) ++ (([.int .u64 0] : Cs) ++ ([.slice none 0 0] : Cs))))) (by first | rfl | simp only [List.append_assoc, List.append_nil, List.nil_append, List.cons_append]) (by first | rfl | simp only [List.length_append, List.length_cons, List.length_nil, iv_length]) (Eq.trans (b := 2) (by first | rfl | simp only [List.length_append, List.length_cons, List.length_nil, iv_length]) (Eq.symm (by first | rfl | simp only [List.length_append, List.length_cons, List.length_nil, iv_length])))).trans (by first | rfl | simp only [List.append_assoc, List.append_nil, List.nil_append, List.cons_append])]; refine Fills.cons (o := 2) (ms := (([.int .u64 3] : Cs) ++ ([.slice (some ⟨B_78, 0, none⟩) 160 160] : Cs))) (show _ = some (2, (([.int .u64 3] : Cs) ++ ([.slice (some ⟨B_78, 0, none⟩) 160 160] : Cs)).length) by rw [show (([.int .u64 3] : Cs) ++ ([.slice (some ⟨B_78, 0, none⟩) 160 160] : Cs)).length = 2 from (by first | rfl | simp only [List.length_append, List.length_cons, List.length_nil, iv_length])] <;> rfl) rfl (by have h1_ : (([.int .u64 3] : Cs) ++ ([.slice (some ⟨B_78, 0, none⟩) 160 160] : Cs)).length = 2 := (by first | rfl | simp only [List.length_append, List.length_cons, List.length_nil, iv_length]); have h2_ : (([.int .u64 3] : Cs) ++ (([.slice (some ⟨B_78, 0, none⟩) 160 160] : Cs) ++ (([.int .u64 0] : Cs) ++ (([.slice none 0 0] : Cs) ++ (([.int .u64 0] : Cs) ++ ([.slice none 0 0] : Cs)))))).length = 6 := (by first | rfl | simp only [List.length_append, List.length_cons, List.length_nil, iv_length]); ((try clear H); omega)) ?_; rw [show layV (([.int .u64 3] : Cs) ++ (([.slice (some ⟨B_78, 0, none⟩) 160 160] : Cs) ++ (([.int .u64 0] : Cs) ++ (([.slice none 0 0] : Cs) ++ (([.int .u64 0] : Cs) ++ ([.slice none 0 0] : Cs)))))) 2 (([.int .u64 3] : Cs) ++ ([.slice (some ⟨B_78, 0, none⟩) 160 160] : Cs)) = (([.int .u64 3] : Cs) ++ (([.slice (some ⟨B_78, 0, none⟩) 160 160] : Cs) ++ (([.int .u64 3] : Cs) ++ (([.slice (some ⟨B_78, 0, none⟩) 160 160] : Cs) ++ (([.int .u64 0] : Cs) ++ ([.slice none 0 0] : Cs)))))) from (layV_mid (pre := (([.int .u64 3] : Cs) ++ ([.slice (some ⟨B_78, 0, none⟩) 160 160] : Cs))) (mid := (([.int .u64 0] : Cs) ++ ([.slice none 0 0] : Cs))) (post := (([.int .u64 0] : Cs) ++ ([.slice none 0 0] : Cs))) (by first | rfl | simp only [List.append_assoc, List.append_nil, List.nil_append, List.cons_append]) (by first | rfl | simp only [List.length_append, List.length_cons, List.length_nil, iv_length]) (Eq.trans (b := 2) (by first | rfl | simp only [List.length_append, List.length_cons, List.length_nil, iv_length]) (Eq.symm (by first | rfl | simp only [List.length_append, List.length_cons, List.length_nil, iv_length])))).trans (by first | rfl | simp only [List.append_assoc, List.append_nil, List.nil_append, List.cons_append])]; refine Fills.cons (o := 4) (ms := (([.int .u64 3] : Cs) ++ ([.slice (some ⟨B_78, 0, none⟩) 160 160] : Cs))) (show _ = some (4, (([.int .u64 3] : Cs) ++ ([.slice (some ⟨B_78, 0, none⟩) 160 160] : Cs)).length) by rw [show (([.int .u64 3] : Cs) ++ ([.slice (some ⟨B_78, 0, none⟩) 160 160] : Cs)).length = 2 from (by first | rfl | simp only [List.length_append, List.length_cons, List.length_nil, iv_length])] <;> rfl) rfl (by have h1_ : (([.int .u64 3] : Cs) ++ ([.slice (some ⟨B_78, 0, none⟩) 160 160] : Cs)).length = 2 := (by first | rfl | simp only [List.length_append, List.length_cons, List.length_nil, iv_length]); have h2_ : (([.int .u64 3] : Cs) ++ (([.slice (some ⟨B_78, 0, none⟩) 160 160] : Cs) ++ (([.int .u64 3] : Cs) ++ (([.slice (some ⟨B_78, 0, none⟩) 160 160] : Cs) ++ (([.int .u64 0] : Cs) ++ ([.slice none 0 0] : Cs)))))).length = 6 := (by first | rfl | simp only [List.length_append, List.length_cons, List.length_nil, iv_length]); ((try clear H); omega)) ?_; rw [show layV (([.int .u64 3] : Cs) ++ (([.slice (some ⟨B_78, 0, none⟩) 160 160] : Cs) ++ (([.int .u64 3] : Cs) ++ (([.slice (some ⟨B_78, 0, none⟩) 160 160] : Cs) ++ (([.int .u64 0] : Cs) ++ ([.slice none 0 0] : Cs)))))) 4 (([.int .u64 3] : Cs) ++ ([.slice (some ⟨B_78, 0, none⟩) 160 160] : Cs)) = (([.int .u64 3] : Cs) ++ (([.slice (some ⟨B_78, 0, none⟩) 160 160] : Cs) ++ (([.int .u64 3] : Cs) ++ (([.slice (some ⟨B_78, 0, none⟩) 160 160] : Cs) ++ (([.int .u64 3] : Cs) ++ ([.slice (some ⟨B_78, 0, none⟩) 160 160] : Cs)))))) from (layV_mid (pre := (([.int .u64 3] : Cs) ++ (([.slice (some ⟨B_78, 0, none⟩) 160 160] : Cs) ++ (([.int .u64 3] : Cs) ++ ([.slice (some ⟨B_78, 0, none⟩) 160 160] : Cs))))) (mid := (([.int .u64 0] : Cs) ++ ([.slice none 0 0] : Cs))) (post := (([] : Cs))) (by first | rfl | simp only [List.append_assoc, List.append_nil, List.nil_append, List.cons_append]) (by first | rfl | simp only [List.length_append, List.length_cons, List.length_nil, iv_length]) (Eq.trans (b := 2) (by first | rfl | simp only [List.length_append, List.length_cons, List.length_nil, iv_length]) (Eq.symm (by first | rfl | simp only [List.length_append, List.length_cons, List.length_nil, iv_length])))).trans (by first | rfl | simp only [List.append_assoc, List.append_nil, List.nil_append, List.cons_append])]; exact Fills.nil) ?_
 intro B_100 w_101 st_102
 replace st_102 : St w w_101 (.cells B_100 (([.int .u64 3] : Cs) ++ (([.slice (some ⟨B_78, 0, none⟩) 160 160] : Cs) ++ (([.int .u64 3] : Cs) ++ (([.slice (some ⟨B_78, 0, none⟩) 160 160] : Cs) ++ (([.int .u64 3] : Cs) ++ ([.slice (some ⟨B_78, 0, none⟩) 160 160] : Cs)))))) 42 :: .cells B_83 (([.int .u64 3] : Cs) ++ ([.slice (some ⟨B_78, 0, none⟩) 160 160] : Cs)) 42 :: .cells b_38 (([.slice A_57_0 n_58_0 c_59_0] : Cs) ++ (([.slice A_57_1 n_58_1 c_59_1] : Cs) ++ (([.int .i64 a_64_2] : Cs) ++ (([.bool a_64_3] : Cs) ++ ([.slice A_57_4 n_58_4 c_59_4] : Cs))))) 95 :: .sl A_57_0 c_59_0 n_58_0 x_61_0 25 1 :: .sl A_57_1 c_59_1 n_58_1 x_61_1 124 2 :: .sl A_57_4 c_59_4 n_58_4 x_61_4 48 2 :: .cells b_71 (([.pointer (some ⟨b_38, 0, none⟩)] : Cs) ++ (iv .u8 l_72_1 ++ (([.int .i64 a_74_2] : Cs) ++ (([.int .u64 a_74_3] : Cs) ++ (([.int .u64 a_74_4] : Cs) ++ (([.int .u64 a_74_5] : Cs) ++ (iv .u8 l_72_6 ++ (([.int .u64 a_74_7] : Cs) ++ ([.int .u64 a_74_8] : Cs))))))))) 98 :: (T_89 ++ R)) := st_102
 have st_104 := St.rows_sl (i := 0) (m := 3) (size := 2) st_102 rfl rfl (by decide)
 obtain ⟨x_105, e_106⟩ : ∃ x_ : Cs, x_ = ([.int .u64 3] : Cs) ++ (([.slice (some ⟨B_78, 0, none⟩) 160 160] : Cs) ++ (([.int .u64 3] : Cs) ++ (([.slice (some ⟨B_78, 0, none⟩) 160 160] : Cs) ++ (([.int .u64 3] : Cs) ++ ([.slice (some ⟨B_78, 0, none⟩) 160 160] : Cs))))) := ⟨_, rfl⟩
 have hx_107 : HRs T_89 (f42 w) x_105 ([(3, List.replicate 160 (0 : Int)), (3, List.replicate 160 (0 : Int)), (3, List.replicate 160 (0 : Int))] : List R42) := by rw [e_106]; exact (HRs.cons (ms := ([.int .u64 3] : Cs) ++ ([.slice (some ⟨B_78, 0, none⟩) 160 160] : Cs)) (.cons rfl (.cons ⟨_, _, _, rfl, hb_93⟩ .nil)) (HRs.cons (ms := ([.int .u64 3] : Cs) ++ ([.slice (some ⟨B_78, 0, none⟩) 160 160] : Cs)) (.cons rfl (.cons ⟨_, _, _, rfl, hb_93⟩ .nil)) (HRs.one (.cons rfl (.cons ⟨_, _, _, rfl, hb_93⟩ .nil)))))
 replace st_104 : St w w_101 (.sl (some ⟨B_100, 0, none⟩) 3 3 x_105 42 2 :: .cells B_83 (([.int .u64 3] : Cs) ++ ([.slice (some ⟨B_78, 0, none⟩) 160 160] : Cs)) 42 :: .cells b_38 (([.slice A_57_0 n_58_0 c_59_0] : Cs) ++ (([.slice A_57_1 n_58_1 c_59_1] : Cs) ++ (([.int .i64 a_64_2] : Cs) ++ (([.bool a_64_3] : Cs) ++ ([.slice A_57_4 n_58_4 c_59_4] : Cs))))) 95 :: .sl A_57_0 c_59_0 n_58_0 x_61_0 25 1 :: .sl A_57_1 c_59_1 n_58_1 x_61_1 124 2 :: .sl A_57_4 c_59_4 n_58_4 x_61_4 48 2 :: .cells b_71 (([.pointer (some ⟨b_38, 0, none⟩)] : Cs) ++ (iv .u8 l_72_1 ++ (([.int .i64 a_74_2] : Cs) ++ (([.int .u64 a_74_3] : Cs) ++ (([.int .u64 a_74_4] : Cs) ++ (([.int .u64 a_74_5] : Cs) ++ (iv .u8 l_72_6 ++ (([.int .u64 a_74_7] : Cs) ++ ([.int .u64 a_74_8] : Cs))))))))) 98 :: (T_89 ++ R)) := by rw [e_106]; exact st_104
 have st_108 := (St.pickT (L := [_, _, _, _, _, _, _]) st_104 [6, 2, 3, 4, 5, 0, 1] (by decide))
 replace st_108 : St w w_101 (.cells b_71 (([.pointer (some ⟨b_38, 0, none⟩)] : Cs) ++ (iv .u8 l_72_1 ++ (([.int .i64 a_74_2] : Cs) ++ (([.int .u64 a_74_3] : Cs) ++ (([.int .u64 a_74_4] : Cs) ++ (([.int .u64 a_74_5] : Cs) ++ (iv .u8 l_72_6 ++ (([.int .u64 a_74_7] : Cs) ++ ([.int .u64 a_74_8] : Cs))))))))) 98 :: .cells b_38 (([.slice A_57_0 n_58_0 c_59_0] : Cs) ++ (([.slice A_57_1 n_58_1 c_59_1] : Cs) ++ (([.int .i64 a_64_2] : Cs) ++ (([.bool a_64_3] : Cs) ++ ([.slice A_57_4 n_58_4 c_59_4] : Cs))))) 95 :: .sl A_57_0 c_59_0 n_58_0 x_61_0 25 1 :: .sl A_57_1 c_59_1 n_58_1 x_61_1 124 2 :: .sl A_57_4 c_59_4 n_58_4 x_61_4 48 2 :: .sl (some ⟨B_100, 0, none⟩) 3 3 x_105 42 2 :: .cells B_83 (([.int .u64 3] : Cs) ++ ([.slice (some ⟨B_78, 0, none⟩) 160 160] : Cs)) 42 :: (T_89 ++ R)) := st_108
 have st_109 : St w w_101 (.cells b_71 (([.pointer (some ⟨b_38, 0, none⟩)] : Cs) ++ (iv .u8 l_72_1 ++ (([.int .i64 a_74_2] : Cs) ++ (([.int .u64 a_74_3] : Cs) ++ (([.int .u64 a_74_4] : Cs) ++ (([.int .u64 a_74_5] : Cs) ++ (iv .u8 l_72_6 ++ (([.int .u64 a_74_7] : Cs) ++ ([.int .u64 a_74_8] : Cs))))))))) 98 :: .cells b_38 (([.slice A_57_0 n_58_0 c_59_0] : Cs) ++ (([.slice A_57_1 n_58_1 c_59_1] : Cs) ++ (([.int .i64 a_64_2] : Cs) ++ (([.bool a_64_3] : Cs) ++ ([.slice A_57_4 n_58_4 c_59_4] : Cs))))) 95 :: .sl A_57_0 c_59_0 n_58_0 x_61_0 25 1 :: .sl A_57_1 c_59_1 n_58_1 x_61_1 124 2 :: .sl A_57_4 c_59_4 n_58_4 x_61_4 48 2 :: (T_89 ++ (.sl (some ⟨B_100, 0, none⟩) 3 3 x_105 42 2 :: .cells B_83 (([.int .u64 3] : Cs) ++ ([.slice (some ⟨B_78, 0, none⟩) 160 160] : Cs)) 42 :: R))) := St.hide (A := [_, _, _, _, _]) (B := [_, _]) (T := T_89) (R := R) st_108
 obtain ⟨l_116_0_0, l_116_0_1, a_120_0_2, a_120_0_3, l_116_0_4, l_116_1, a_120_2, a_120_3, a_120_4, a_120_5, l_116_6, a_120_7, a_120_8, a_123_0, a_123_1, l_124_2, a_127, hr_110, H⟩ := H
 refine WL.call Wanted.none ent14 rfl (journal_Journal_Append.calls w w_101 T_89 (.sl (some ⟨B_100, 0, none⟩) 3 3 x_105 42 2 :: .cells B_83 (([.int .u64 3] : Cs) ++ ([.slice (some ⟨B_78, 0, none⟩) 160 160] : Cs)) 42 :: R) l_60_0 l_60_1 a_64_2 a_64_3 l_60_4 l_72_1 a_74_2 a_74_3 a_74_4 a_74_5 l_72_6 a_74_7 a_74_8 ([(3, List.replicate 160 (0 : Int)), (3, List.replicate 160 (0 : Int)), (3, List.replicate 160 (0 : Int))] : List R42) b_71 b_38 A_57_0 n_58_0 c_59_0 x_61_0 A_57_1 n_58_1 c_59_1 x_61_1 A_57_4 n_58_4 c_59_4 x_61_4 (some ⟨B_100, 0, none⟩) 3 3  st_109 hG0 hG1 (hn_62_0) (hx_63_0.mono (fun _ h_ => hs_90.1 _ h_)) (hn_62_1) (hx_63_1.mono (fun _ h_ => hs_90.1 _ h_)) (hn_62_4) (hx_63_4.mono (fun _ h_ => hs_90.1 _ h_)) hl_73_1 hl_73_6 (HS.mk rfl (st_108.cap (i := 5) rfl) (fun W_ L_ st hT => st.src_mem (hT _ (List.mem_append_right _ (List.mem_of_getElem? (i := 0) rfl)))) hx_107) l_116_0_0 l_116_0_1 a_120_0_2 a_120_0_3 l_116_0_4 l_116_1 a_120_2 a_120_3 a_120_4 a_120_5 l_116_6 a_120_7 a_120_8 a_123_0 a_123_1 l_124_2 a_127 hr_110) ?_
 rintro _ w_128 ⟨T_111, A_113_0_0, n_114_0_0, c_115_0_0, x_117_0_0, A_113_0_1, n_114_0_1, c_115_0_1, x_117_0_1, A_113_0_4, n_114_0_4, c_115_0_4, x_117_0_4, hs_112, hn_118_0_0, hx_119_0_0, hn_118_0_1, hx_119_0_1, hn_118_0_4, hx_119_0_4, hl_121_1, hl_121_6, hl_125_2, rfl, sc_130⟩
 have st_129 : St w w_128 (.cells b_71 (([.pointer (some ⟨b_38, 0, none⟩)] : Cs) ++ (iv .u8 l_116_1 ++ (([.int .i64 a_120_2] : Cs) ++ (([.int .u64 a_120_3] : Cs) ++ (([.int .u64 a_120_4] : Cs) ++ (([.int .u64 a_120_5] : Cs) ++ (iv .u8 l_116_6 ++ (([.int .u64 a_120_7] : Cs) ++ ([.int .u64 a_120_8] : Cs))))))))) 98 :: .cells b_38 (([.slice A_113_0_0 n_114_0_0 c_115_0_0] : Cs) ++ (([.slice A_113_0_1 n_114_0_1 c_115_0_1] : Cs) ++ (([.int .i64 a_120_0_2] : Cs) ++ (([.bool a_120_0_3] : Cs) ++ ([.slice A_113_0_4 n_114_0_4 c_115_0_4] : Cs))))) 95 :: .sl A_113_0_0 c_115_0_0 n_114_0_0 x_117_0_0 25 1 :: .sl A_113_0_1 c_115_0_1 n_114_0_1 x_117_0_1 124 2 :: .sl A_113_0_4 c_115_0_4 n_114_0_4 x_117_0_4 48 2 :: .sl (some ⟨B_100, 0, none⟩) 3 3 x_105 42 2 :: .cells B_83 (([.int .u64 3] : Cs) ++ ([.slice (some ⟨B_78, 0, none⟩) 160 160] : Cs)) 42 :: (T_111 ++ R)) := St.unhide (A := [_, _, _, _, _]) (B := [_, _]) (T := T_111) (R := R) sc_130
 refine ⟨_, rfl, ?_⟩
 refine WL.val Wanted.none (Runs.move rfl) ?_
 refine WL.val Wanted.none (Runs.extract rfl rfl) ?_
 refine WL.val Wanted.none (Runs.extract rfl rfl) ?_
 refine WL.alloc st_129 zero39 ?_
 intro B_131 w_132 st_133
 replace st_133 : St w w_132 (.cells B_131 (([.int .u64 0] : Cs) ++ (([.int .u64 0] : Cs) ++ iv .u8 (List.replicate 32 (0 : Int)))) 39 :: .cells b_71 (([.pointer (some ⟨b_38, 0, none⟩)] : Cs) ++ (iv .u8 l_116_1 ++ (([.int .i64 a_120_2] : Cs) ++ (([.int .u64 a_120_3] : Cs) ++ (([.int .u64 a_120_4] : Cs) ++ (([.int .u64 a_120_5] : Cs) ++ (iv .u8 l_116_6 ++ (([.int .u64 a_120_7] : Cs) ++ ([.int .u64 a_120_8] : Cs))))))))) 98 :: .cells b_38 (([.slice A_113_0_0 n_114_0_0 c_115_0_0] : Cs) ++ (([.slice A_113_0_1 n_114_0_1 c_115_0_1] : Cs) ++ (([.int .i64 a_120_0_2] : Cs) ++ (([.bool a_120_0_3] : Cs) ++ ([.slice A_113_0_4 n_114_0_4 c_115_0_4] : Cs))))) 95 :: .sl A_113_0_0 c_115_0_0 n_114_0_0 x_117_0_0 25 1 :: .sl A_113_0_1 c_115_0_1 n_114_0_1 x_117_0_1 124 2 :: .sl A_113_0_4 c_115_0_4 n_114_0_4 x_117_0_4 48 2 :: .sl (some ⟨B_100, 0, none⟩) 3 3 x_105 42 2 :: .cells B_83 (([.int .u64 3] : Cs) ++ ([.slice (some ⟨B_78, 0, none⟩) 160 160] : Cs)) 42 :: (T_111 ++ R)) := st_133
 refine WL.store_mid (i := 0) (pre := (([] : Cs))) (mid := (([.int .u64 0] : Cs) ++ (([.int .u64 0] : Cs) ++ iv .u8 (List.replicate 32 (0 : Int))))) (post := (([] : Cs))) (ms := (([.int .u64 a_123_0] : Cs) ++ (([.int .u64 a_123_1] : Cs) ++ iv .u8 l_124_2))) st_133 rfl row39 (by first | rfl | simp only [List.append_assoc, List.append_nil, List.nil_append, List.cons_append]) (by first | rfl | simp only [List.length_append, List.length_cons, List.length_nil, iv_length]) rfl rfl (by first | rfl | simp only [List.length_append, List.length_cons, List.length_nil, iv_length, hl_125_2]) (by first | rfl | simp only [List.length_append, List.length_cons, List.length_nil, iv_length, List.length_replicate]) (by intro u hu; simp only [List.mem_append, List.mem_singleton] at hu; rcases hu with hu | hu | hu <;> first | exact one_iv _ _ u hu | (subst hu; rfl)) ?_
 intro w_135 st_136
 replace st_136 : St w w_135 (.cells B_131 (([.int .u64 a_123_0] : Cs) ++ (([.int .u64 a_123_1] : Cs) ++ iv .u8 l_124_2)) 39 :: .cells b_71 (([.pointer (some ⟨b_38, 0, none⟩)] : Cs) ++ (iv .u8 l_116_1 ++ (([.int .i64 a_120_2] : Cs) ++ (([.int .u64 a_120_3] : Cs) ++ (([.int .u64 a_120_4] : Cs) ++ (([.int .u64 a_120_5] : Cs) ++ (iv .u8 l_116_6 ++ (([.int .u64 a_120_7] : Cs) ++ ([.int .u64 a_120_8] : Cs))))))))) 98 :: .cells b_38 (([.slice A_113_0_0 n_114_0_0 c_115_0_0] : Cs) ++ (([.slice A_113_0_1 n_114_0_1 c_115_0_1] : Cs) ++ (([.int .i64 a_120_0_2] : Cs) ++ (([.bool a_120_0_3] : Cs) ++ ([.slice A_113_0_4 n_114_0_4 c_115_0_4] : Cs))))) 95 :: .sl A_113_0_0 c_115_0_0 n_114_0_0 x_117_0_0 25 1 :: .sl A_113_0_1 c_115_0_1 n_114_0_1 x_117_0_1 124 2 :: .sl A_113_0_4 c_115_0_4 n_114_0_4 x_117_0_4 48 2 :: .sl (some ⟨B_100, 0, none⟩) 3 3 x_105 42 2 :: .cells B_83 (([.int .u64 3] : Cs) ++ ([.slice (some ⟨B_78, 0, none⟩) 160 160] : Cs)) 42 :: (T_111 ++ R)) := by have e_ : (([.int .u64 a_123_0] : Cs) ++ (([.int .u64 a_123_1] : Cs) ++ iv .u8 l_124_2)) = (([] : Cs)) ++ ((([.int .u64 a_123_0] : Cs) ++ (([.int .u64 a_123_1] : Cs) ++ iv .u8 l_124_2)) ++ (([] : Cs))) := (by first | rfl | simp only [List.append_assoc, List.append_nil, List.nil_append, List.cons_append]); have h_ : St w w_135 (.cells B_131 ((([] : Cs)) ++ ((([.int .u64 a_123_0] : Cs) ++ (([.int .u64 a_123_1] : Cs) ++ iv .u8 l_124_2)) ++ (([] : Cs)))) 39 :: .cells b_71 (([.pointer (some ⟨b_38, 0, none⟩)] : Cs) ++ (iv .u8 l_116_1 ++ (([.int .i64 a_120_2] : Cs) ++ (([.int .u64 a_120_3] : Cs) ++ (([.int .u64 a_120_4] : Cs) ++ (([.int .u64 a_120_5] : Cs) ++ (iv .u8 l_116_6 ++ (([.int .u64 a_120_7] : Cs) ++ ([.int .u64 a_120_8] : Cs))))))))) 98 :: .cells b_38 (([.slice A_113_0_0 n_114_0_0 c_115_0_0] : Cs) ++ (([.slice A_113_0_1 n_114_0_1 c_115_0_1] : Cs) ++ (([.int .i64 a_120_0_2] : Cs) ++ (([.bool a_120_0_3] : Cs) ++ ([.slice A_113_0_4 n_114_0_4 c_115_0_4] : Cs))))) 95 :: .sl A_113_0_0 c_115_0_0 n_114_0_0 x_117_0_0 25 1 :: .sl A_113_0_1 c_115_0_1 n_114_0_1 x_117_0_1 124 2 :: .sl A_113_0_4 c_115_0_4 n_114_0_4 x_117_0_4 48 2 :: .sl (some ⟨B_100, 0, none⟩) 3 3 x_105 42 2 :: .cells B_83 (([.int .u64 3] : Cs) ++ ([.slice (some ⟨B_78, 0, none⟩) 160 160] : Cs)) 42 :: (T_111 ++ R)) := st_136; rw [← e_] at h_; exact h_
 refine WL.val Wanted.none (Runs.assign rfl) ?_
 refine WL.nil (QW.then_n ?_)
 refine CW.sub [(0, .bool false), (1, .pointer (some ⟨b_38, 0, none⟩)), (3, .pointer (some ⟨b_71, 0, none⟩)), (5, .pointer (some ⟨B_83, 0, none⟩)), (7, .int .i64 a_127)] ⟨rfl, rfl, rfl, rfl, rfl, trivial⟩ ?_
 refine CW.seq (CW.region ?_)
 refine WL.val Wanted.none (Runs.move rfl) ?_
 refine WL.val Wanted.none (Runs.load_mid row42 rfl st_136 (i := 7) rfl (part_mid (pre := (([] : Cs))) (mid := (([.int .u64 3] : Cs) ++ ([.slice (some ⟨B_78, 0, none⟩) 160 160] : Cs))) (post := (([] : Cs))) (by first | rfl | simp only [List.append_assoc, List.append_nil, List.nil_append, List.cons_append]) (by first | rfl | simp only [List.length_append, List.length_cons, List.length_nil, iv_length]) (by first | rfl | simp only [List.length_append, List.length_cons, List.length_nil, iv_length])) (by first | rfl | simp only [List.length_append, List.length_cons, List.length_nil, iv_length])) ?_
 obtain ⟨ii_137, z_138, h_139, h_140, h_141, h_142⟩ := slr42_1
 refine WL.buildSlRows (sz := 2) (cs := (([.int .u64 3] : Cs) ++ ([.slice (some ⟨B_78, 0, none⟩) 160 160] : Cs))) st_136 Tryd.underlying40 h_139 h_140 h_141 (by decide) (by decide) h_142 rfl (by refine Fills.cons (o := 0) (ms := (([.int .u64 3] : Cs) ++ ([.slice (some ⟨B_78, 0, none⟩) 160 160] : Cs))) (show _ = some (0, (([.int .u64 3] : Cs) ++ ([.slice (some ⟨B_78, 0, none⟩) 160 160] : Cs)).length) by rw [show (([.int .u64 3] : Cs) ++ ([.slice (some ⟨B_78, 0, none⟩) 160 160] : Cs)).length = 2 from (by first | rfl | simp only [List.length_append, List.length_cons, List.length_nil, iv_length])] <;> rfl) rfl (by have h1_ : (([.int .u64 3] : Cs) ++ ([.slice (some ⟨B_78, 0, none⟩) 160 160] : Cs)).length = 2 := (by first | rfl | simp only [List.length_append, List.length_cons, List.length_nil, iv_length]); have h2_ : (([.int .u64 0] : Cs) ++ ([.slice none 0 0] : Cs)).length = 2 := (by first | rfl | simp only [List.length_append, List.length_cons, List.length_nil, iv_length]); ((try clear H); omega)) ?_; rw [show layV (([.int .u64 0] : Cs) ++ ([.slice none 0 0] : Cs)) 0 (([.int .u64 3] : Cs) ++ ([.slice (some ⟨B_78, 0, none⟩) 160 160] : Cs)) = (([.int .u64 3] : Cs) ++ ([.slice (some ⟨B_78, 0, none⟩) 160 160] : Cs)) from (layV_mid (pre := (([] : Cs))) (mid := (([.int .u64 0] : Cs) ++ ([.slice none 0 0] : Cs))) (post := (([] : Cs))) (by first | rfl | simp only [List.append_assoc, List.append_nil, List.nil_append, List.cons_append]) (by first | rfl | simp only [List.length_append, List.length_cons, List.length_nil, iv_length]) (Eq.trans (b := 2) (by first | rfl | simp only [List.length_append, List.length_cons, List.length_nil, iv_length]) (Eq.symm (by first | rfl | simp only [List.length_append, List.length_cons, List.length_nil, iv_length])))).trans (by first | rfl | simp only [List.append_assoc, List.append_nil, List.nil_append, List.cons_append])]; exact Fills.nil) ?_
 intro B_143 w_144 st_145
 replace st_145 : St w w_144 (.cells B_143 (([.int .u64 3] : Cs) ++ ([.slice (some ⟨B_78, 0, none⟩) 160 160] : Cs)) 42 :: .cells B_131 (([.int .u64 a_123_0] : Cs) ++ (([.int .u64 a_123_1] : Cs) ++ iv .u8 l_124_2)) 39 :: .cells b_71 (([.pointer (some ⟨b_38, 0, none⟩)] : Cs) ++ (iv .u8 l_116_1 ++ (([.int .i64 a_120_2] : Cs) ++ (([.int .u64 a_120_3] : Cs) ++ (([.int .u64 a_120_4] : Cs) ++ (([.int .u64 a_120_5] : Cs) ++ (iv .u8 l_116_6 ++ (([.int .u64 a_120_7] : Cs) ++ ([.int .u64 a_120_8] : Cs))))))))) 98 :: .cells b_38 (([.slice A_113_0_0 n_114_0_0 c_115_0_0] : Cs) ++ (([.slice A_113_0_1 n_114_0_1 c_115_0_1] : Cs) ++ (([.int .i64 a_120_0_2] : Cs) ++ (([.bool a_120_0_3] : Cs) ++ ([.slice A_113_0_4 n_114_0_4 c_115_0_4] : Cs))))) 95 :: .sl A_113_0_0 c_115_0_0 n_114_0_0 x_117_0_0 25 1 :: .sl A_113_0_1 c_115_0_1 n_114_0_1 x_117_0_1 124 2 :: .sl A_113_0_4 c_115_0_4 n_114_0_4 x_117_0_4 48 2 :: .sl (some ⟨B_100, 0, none⟩) 3 3 x_105 42 2 :: .cells B_83 (([.int .u64 3] : Cs) ++ ([.slice (some ⟨B_78, 0, none⟩) 160 160] : Cs)) 42 :: (T_111 ++ R)) := st_145
 have st_147 := St.rows_sl (i := 0) (m := 1) (size := 2) st_145 rfl rfl (by decide)
 obtain ⟨x_148, e_149⟩ : ∃ x_ : Cs, x_ = ([.int .u64 3] : Cs) ++ ([.slice (some ⟨B_78, 0, none⟩) 160 160] : Cs) := ⟨_, rfl⟩
 have hx_150 : HRs T_111 (f42 w) x_148 ([(3, List.replicate 160 (0 : Int))] : List R42) := by rw [e_149]; exact (HRs.one (.cons rfl (.cons ⟨_, _, _, rfl, (hb_93.mono (fun _ h_ => hs_112.1 _ h_))⟩ .nil)))
 replace st_147 : St w w_144 (.sl (some ⟨B_143, 0, none⟩) 1 1 x_148 42 2 :: .cells B_131 (([.int .u64 a_123_0] : Cs) ++ (([.int .u64 a_123_1] : Cs) ++ iv .u8 l_124_2)) 39 :: .cells b_71 (([.pointer (some ⟨b_38, 0, none⟩)] : Cs) ++ (iv .u8 l_116_1 ++ (([.int .i64 a_120_2] : Cs) ++ (([.int .u64 a_120_3] : Cs) ++ (([.int .u64 a_120_4] : Cs) ++ (([.int .u64 a_120_5] : Cs) ++ (iv .u8 l_116_6 ++ (([.int .u64 a_120_7] : Cs) ++ ([.int .u64 a_120_8] : Cs))))))))) 98 :: .cells b_38 (([.slice A_113_0_0 n_114_0_0 c_115_0_0] : Cs) ++ (([.slice A_113_0_1 n_114_0_1 c_115_0_1] : Cs) ++ (([.int .i64 a_120_0_2] : Cs) ++ (([.bool a_120_0_3] : Cs) ++ ([.slice A_113_0_4 n_114_0_4 c_115_0_4] : Cs))))) 95 :: .sl A_113_0_0 c_115_0_0 n_114_0_0 x_117_0_0 25 1 :: .sl A_113_0_1 c_115_0_1 n_114_0_1 x_117_0_1 124 2 :: .sl A_113_0_4 c_115_0_4 n_114_0_4 x_117_0_4 48 2 :: .sl (some ⟨B_100, 0, none⟩) 3 3 x_105 42 2 :: .cells B_83 (([.int .u64 3] : Cs) ++ ([.slice (some ⟨B_78, 0, none⟩) 160 160] : Cs)) 42 :: (T_111 ++ R)) := by rw [e_149]; exact st_147
 have st_151 := (St.pickT (L := [_, _, _, _, _, _, _, _, _]) st_147 [2, 3, 4, 5, 6, 0, 1, 7, 8] (by decide))
 replace st_151 : St w w_144 (.cells b_71 (([.pointer (some ⟨b_38, 0, none⟩)] : Cs) ++ (iv .u8 l_116_1 ++ (([.int .i64 a_120_2] : Cs) ++ (([.int .u64 a_120_3] : Cs) ++ (([.int .u64 a_120_4] : Cs) ++ (([.int .u64 a_120_5] : Cs) ++ (iv .u8 l_116_6 ++ (([.int .u64 a_120_7] : Cs) ++ ([.int .u64 a_120_8] : Cs))))))))) 98 :: .cells b_38 (([.slice A_113_0_0 n_114_0_0 c_115_0_0] : Cs) ++ (([.slice A_113_0_1 n_114_0_1 c_115_0_1] : Cs) ++ (([.int .i64 a_120_0_2] : Cs) ++ (([.bool a_120_0_3] : Cs) ++ ([.slice A_113_0_4 n_114_0_4 c_115_0_4] : Cs))))) 95 :: .sl A_113_0_0 c_115_0_0 n_114_0_0 x_117_0_0 25 1 :: .sl A_113_0_1 c_115_0_1 n_114_0_1 x_117_0_1 124 2 :: .sl A_113_0_4 c_115_0_4 n_114_0_4 x_117_0_4 48 2 :: .sl (some ⟨B_143, 0, none⟩) 1 1 x_148 42 2 :: .cells B_131 (([.int .u64 a_123_0] : Cs) ++ (([.int .u64 a_123_1] : Cs) ++ iv .u8 l_124_2)) 39 :: .sl (some ⟨B_100, 0, none⟩) 3 3 x_105 42 2 :: .cells B_83 (([.int .u64 3] : Cs) ++ ([.slice (some ⟨B_78, 0, none⟩) 160 160] : Cs)) 42 :: (T_111 ++ R)) := st_151
 have st_152 : St w w_144 (.cells b_71 (([.pointer (some ⟨b_38, 0, none⟩)] : Cs) ++ (iv .u8 l_116_1 ++ (([.int .i64 a_120_2] : Cs) ++ (([.int .u64 a_120_3] : Cs) ++ (([.int .u64 a_120_4] : Cs) ++ (([.int .u64 a_120_5] : Cs) ++ (iv .u8 l_116_6 ++ (([.int .u64 a_120_7] : Cs) ++ ([.int .u64 a_120_8] : Cs))))))))) 98 :: .cells b_38 (([.slice A_113_0_0 n_114_0_0 c_115_0_0] : Cs) ++ (([.slice A_113_0_1 n_114_0_1 c_115_0_1] : Cs) ++ (([.int .i64 a_120_0_2] : Cs) ++ (([.bool a_120_0_3] : Cs) ++ ([.slice A_113_0_4 n_114_0_4 c_115_0_4] : Cs))))) 95 :: .sl A_113_0_0 c_115_0_0 n_114_0_0 x_117_0_0 25 1 :: .sl A_113_0_1 c_115_0_1 n_114_0_1 x_117_0_1 124 2 :: .sl A_113_0_4 c_115_0_4 n_114_0_4 x_117_0_4 48 2 :: (T_111 ++ (.sl (some ⟨B_143, 0, none⟩) 1 1 x_148 42 2 :: .cells B_131 (([.int .u64 a_123_0] : Cs) ++ (([.int .u64 a_123_1] : Cs) ++ iv .u8 l_124_2)) 39 :: .sl (some ⟨B_100, 0, none⟩) 3 3 x_105 42 2 :: .cells B_83 (([.int .u64 3] : Cs) ++ ([.slice (some ⟨B_78, 0, none⟩) 160 160] : Cs)) 42 :: R))) := St.hide (A := [_, _, _, _, _]) (B := [_, _, _, _]) (T := T_111) (R := R) st_151
 obtain ⟨l_159_0_0, l_159_0_1, a_163_0_2, a_163_0_3, l_159_0_4, l_159_1, a_163_2, a_163_3, a_163_4, a_163_5, l_159_6, a_163_7, a_163_8, a_166_0, a_166_1, l_167_2, a_170, hr_153, H⟩ := H
 refine WL.call Wanted.none ent14 rfl (journal_Journal_Append.calls w w_144 T_111 (.sl (some ⟨B_143, 0, none⟩) 1 1 x_148 42 2 :: .cells B_131 (([.int .u64 a_123_0] : Cs) ++ (([.int .u64 a_123_1] : Cs) ++ iv .u8 l_124_2)) 39 :: .sl (some ⟨B_100, 0, none⟩) 3 3 x_105 42 2 :: .cells B_83 (([.int .u64 3] : Cs) ++ ([.slice (some ⟨B_78, 0, none⟩) 160 160] : Cs)) 42 :: R) l_116_0_0 l_116_0_1 a_120_0_2 a_120_0_3 l_116_0_4 l_116_1 a_120_2 a_120_3 a_120_4 a_120_5 l_116_6 a_120_7 a_120_8 ([(3, List.replicate 160 (0 : Int))] : List R42) b_71 b_38 A_113_0_0 n_114_0_0 c_115_0_0 x_117_0_0 A_113_0_1 n_114_0_1 c_115_0_1 x_117_0_1 A_113_0_4 n_114_0_4 c_115_0_4 x_117_0_4 (some ⟨B_143, 0, none⟩) 1 1  st_152 hG0 hG1 (hn_118_0_0) hx_119_0_0 (hn_118_0_1) hx_119_0_1 (hn_118_0_4) hx_119_0_4 hl_121_1 hl_121_6 (HS.mk rfl (st_151.cap (i := 5) rfl) (fun W_ L_ st hT => st.src_mem (hT _ (List.mem_append_right _ (List.mem_of_getElem? (i := 0) rfl)))) hx_150) l_159_0_0 l_159_0_1 a_163_0_2 a_163_0_3 l_159_0_4 l_159_1 a_163_2 a_163_3 a_163_4 a_163_5 l_159_6 a_163_7 a_163_8 a_166_0 a_166_1 l_167_2 a_170 hr_153) ?_
 rintro _ w_171 ⟨T_154, A_156_0_0, n_157_0_0, c_158_0_0, x_160_0_0, A_156_0_1, n_157_0_1, c_158_0_1, x_160_0_1, A_156_0_4, n_157_0_4, c_158_0_4, x_160_0_4, hs_155, hn_161_0_0, hx_162_0_0, hn_161_0_1, hx_162_0_1, hn_161_0_4, hx_162_0_4, hl_164_1, hl_164_6, hl_168_2, rfl, sc_173⟩
 have st_172 : St w w_171 (.cells b_71 (([.pointer (some ⟨b_38, 0, none⟩)] : Cs) ++ (iv .u8 l_159_1 ++ (([.int .i64 a_163_2] : Cs) ++ (([.int .u64 a_163_3] : Cs) ++ (([.int .u64 a_163_4] : Cs) ++ (([.int .u64 a_163_5] : Cs) ++ (iv .u8 l_159_6 ++ (([.int .u64 a_163_7] : Cs) ++ ([.int .u64 a_163_8] : Cs))))))))) 98 :: .cells b_38 (([.slice A_156_0_0 n_157_0_0 c_158_0_0] : Cs) ++ (([.slice A_156_0_1 n_157_0_1 c_158_0_1] : Cs) ++ (([.int .i64 a_163_0_2] : Cs) ++ (([.bool a_163_0_3] : Cs) ++ ([.slice A_156_0_4 n_157_0_4 c_158_0_4] : Cs))))) 95 :: .sl A_156_0_0 c_158_0_0 n_157_0_0 x_160_0_0 25 1 :: .sl A_156_0_1 c_158_0_1 n_157_0_1 x_160_0_1 124 2 :: .sl A_156_0_4 c_158_0_4 n_157_0_4 x_160_0_4 48 2 :: .sl (some ⟨B_143, 0, none⟩) 1 1 x_148 42 2 :: .cells B_131 (([.int .u64 a_123_0] : Cs) ++ (([.int .u64 a_123_1] : Cs) ++ iv .u8 l_124_2)) 39 :: .sl (some ⟨B_100, 0, none⟩) 3 3 x_105 42 2 :: .cells B_83 (([.int .u64 3] : Cs) ++ ([.slice (some ⟨B_78, 0, none⟩) 160 160] : Cs)) 42 :: (T_154 ++ R)) := St.unhide (A := [_, _, _, _, _]) (B := [_, _, _, _]) (T := T_154) (R := R) sc_173
 refine ⟨_, rfl, ?_⟩
 refine WL.val Wanted.none (Runs.move rfl) ?_
 refine WL.val Wanted.none (Runs.extract rfl rfl) ?_
 refine WL.val Wanted.none (Runs.extract rfl rfl) ?_
 refine WL.alloc st_172 zero39 ?_
 intro B_174 w_175 st_176
 replace st_176 : St w w_175 (.cells B_174 (([.int .u64 0] : Cs) ++ (([.int .u64 0] : Cs) ++ iv .u8 (List.replicate 32 (0 : Int)))) 39 :: .cells b_71 (([.pointer (some ⟨b_38, 0, none⟩)] : Cs) ++ (iv .u8 l_159_1 ++ (([.int .i64 a_163_2] : Cs) ++ (([.int .u64 a_163_3] : Cs) ++ (([.int .u64 a_163_4] : Cs) ++ (([.int .u64 a_163_5] : Cs) ++ (iv .u8 l_159_6 ++ (([.int .u64 a_163_7] : Cs) ++ ([.int .u64 a_163_8] : Cs))))))))) 98 :: .cells b_38 (([.slice A_156_0_0 n_157_0_0 c_158_0_0] : Cs) ++ (([.slice A_156_0_1 n_157_0_1 c_158_0_1] : Cs) ++ (([.int .i64 a_163_0_2] : Cs) ++ (([.bool a_163_0_3] : Cs) ++ ([.slice A_156_0_4 n_157_0_4 c_158_0_4] : Cs))))) 95 :: .sl A_156_0_0 c_158_0_0 n_157_0_0 x_160_0_0 25 1 :: .sl A_156_0_1 c_158_0_1 n_157_0_1 x_160_0_1 124 2 :: .sl A_156_0_4 c_158_0_4 n_157_0_4 x_160_0_4 48 2 :: .sl (some ⟨B_143, 0, none⟩) 1 1 x_148 42 2 :: .cells B_131 (([.int .u64 a_123_0] : Cs) ++ (([.int .u64 a_123_1] : Cs) ++ iv .u8 l_124_2)) 39 :: .sl (some ⟨B_100, 0, none⟩) 3 3 x_105 42 2 :: .cells B_83 (([.int .u64 3] : Cs) ++ ([.slice (some ⟨B_78, 0, none⟩) 160 160] : Cs)) 42 :: (T_154 ++ R)) := st_176
 refine WL.store_mid (i := 0) (pre := (([] : Cs))) (mid := (([.int .u64 0] : Cs) ++ (([.int .u64 0] : Cs) ++ iv .u8 (List.replicate 32 (0 : Int))))) (post := (([] : Cs))) (ms := (([.int .u64 a_166_0] : Cs) ++ (([.int .u64 a_166_1] : Cs) ++ iv .u8 l_167_2))) st_176 rfl row39 (by first | rfl | simp only [List.append_assoc, List.append_nil, List.nil_append, List.cons_append]) (by first | rfl | simp only [List.length_append, List.length_cons, List.length_nil, iv_length]) rfl rfl (by first | rfl | simp only [List.length_append, List.length_cons, List.length_nil, iv_length, hl_168_2]) (by first | rfl | simp only [List.length_append, List.length_cons, List.length_nil, iv_length, List.length_replicate]) (by intro u hu; simp only [List.mem_append, List.mem_singleton] at hu; rcases hu with hu | hu | hu <;> first | exact one_iv _ _ u hu | (subst hu; rfl)) ?_
 intro w_178 st_179
 replace st_179 : St w w_178 (.cells B_174 (([.int .u64 a_166_0] : Cs) ++ (([.int .u64 a_166_1] : Cs) ++ iv .u8 l_167_2)) 39 :: .cells b_71 (([.pointer (some ⟨b_38, 0, none⟩)] : Cs) ++ (iv .u8 l_159_1 ++ (([.int .i64 a_163_2] : Cs) ++ (([.int .u64 a_163_3] : Cs) ++ (([.int .u64 a_163_4] : Cs) ++ (([.int .u64 a_163_5] : Cs) ++ (iv .u8 l_159_6 ++ (([.int .u64 a_163_7] : Cs) ++ ([.int .u64 a_163_8] : Cs))))))))) 98 :: .cells b_38 (([.slice A_156_0_0 n_157_0_0 c_158_0_0] : Cs) ++ (([.slice A_156_0_1 n_157_0_1 c_158_0_1] : Cs) ++ (([.int .i64 a_163_0_2] : Cs) ++ (([.bool a_163_0_3] : Cs) ++ ([.slice A_156_0_4 n_157_0_4 c_158_0_4] : Cs))))) 95 :: .sl A_156_0_0 c_158_0_0 n_157_0_0 x_160_0_0 25 1 :: .sl A_156_0_1 c_158_0_1 n_157_0_1 x_160_0_1 124 2 :: .sl A_156_0_4 c_158_0_4 n_157_0_4 x_160_0_4 48 2 :: .sl (some ⟨B_143, 0, none⟩) 1 1 x_148 42 2 :: .cells B_131 (([.int .u64 a_123_0] : Cs) ++ (([.int .u64 a_123_1] : Cs) ++ iv .u8 l_124_2)) 39 :: .sl (some ⟨B_100, 0, none⟩) 3 3 x_105 42 2 :: .cells B_83 (([.int .u64 3] : Cs) ++ ([.slice (some ⟨B_78, 0, none⟩) 160 160] : Cs)) 42 :: (T_154 ++ R)) := by have e_ : (([.int .u64 a_166_0] : Cs) ++ (([.int .u64 a_166_1] : Cs) ++ iv .u8 l_167_2)) = (([] : Cs)) ++ ((([.int .u64 a_166_0] : Cs) ++ (([.int .u64 a_166_1] : Cs) ++ iv .u8 l_167_2)) ++ (([] : Cs))) := (by first | rfl | simp only [List.append_assoc, List.append_nil, List.nil_append, List.cons_append]); have h_ : St w w_178 (.cells B_174 ((([] : Cs)) ++ ((([.int .u64 a_166_0] : Cs) ++ (([.int .u64 a_166_1] : Cs) ++ iv .u8 l_167_2)) ++ (([] : Cs)))) 39 :: .cells b_71 (([.pointer (some ⟨b_38, 0, none⟩)] : Cs) ++ (iv .u8 l_159_1 ++ (([.int .i64 a_163_2] : Cs) ++ (([.int .u64 a_163_3] : Cs) ++ (([.int .u64 a_163_4] : Cs) ++ (([.int .u64 a_163_5] : Cs) ++ (iv .u8 l_159_6 ++ (([.int .u64 a_163_7] : Cs) ++ ([.int .u64 a_163_8] : Cs))))))))) 98 :: .cells b_38 (([.slice A_156_0_0 n_157_0_0 c_158_0_0] : Cs) ++ (([.slice A_156_0_1 n_157_0_1 c_158_0_1] : Cs) ++ (([.int .i64 a_163_0_2] : Cs) ++ (([.bool a_163_0_3] : Cs) ++ ([.slice A_156_0_4 n_157_0_4 c_158_0_4] : Cs))))) 95 :: .sl A_156_0_0 c_158_0_0 n_157_0_0 x_160_0_0 25 1 :: .sl A_156_0_1 c_158_0_1 n_157_0_1 x_160_0_1 124 2 :: .sl A_156_0_4 c_158_0_4 n_157_0_4 x_160_0_4 48 2 :: .sl (some ⟨B_143, 0, none⟩) 1 1 x_148 42 2 :: .cells B_131 (([.int .u64 a_123_0] : Cs) ++ (([.int .u64 a_123_1] : Cs) ++ iv .u8 l_124_2)) 39 :: .sl (some ⟨B_100, 0, none⟩) 3 3 x_105 42 2 :: .cells B_83 (([.int .u64 3] : Cs) ++ ([.slice (some ⟨B_78, 0, none⟩) 160 160] : Cs)) 42 :: (T_154 ++ R)) := st_179; rw [← e_] at h_; exact h_
 refine WL.val Wanted.none (Runs.assign rfl) ?_
 refine WL.nil (QW.then_n ?_)
 refine CW.sub [(0, .bool false), (1, .pointer (some ⟨b_38, 0, none⟩)), (3, .pointer (some ⟨b_71, 0, none⟩)), (7, .int .i64 a_127), (8, .pointer (some ⟨B_174, 0, none⟩)), (9, .int .i64 a_170)] (by repeat' constructor) ?_
 refine CW.seq (CW.region ?_)
 refine WL.val Wanted.none (Runs.move rfl) ?_
 refine WL.val Wanted.none (Runs.load_mid row39 rfl st_179 (i := 0) rfl (part_mid (pre := (([] : Cs))) (mid := (([.int .u64 a_166_0] : Cs) ++ (([.int .u64 a_166_1] : Cs) ++ iv .u8 l_167_2))) (post := (([] : Cs))) (by first | rfl | simp only [List.append_assoc, List.append_nil, List.nil_append, List.cons_append]) (by first | rfl | simp only [List.length_append, List.length_cons, List.length_nil, iv_length]) (by first | rfl | simp only [List.length_append, List.length_cons, List.length_nil, iv_length, hl_168_2])) (by first | rfl | simp only [List.length_append, List.length_cons, List.length_nil, iv_length, hl_168_2])) ?_
 have st_180 := (St.pickT (L := [_, _, _, _, _, _, _, _, _, _]) st_179 [1, 2, 3, 4, 5, 0, 6, 7, 8, 9] (by decide))
 replace st_180 : St w w_178 (.cells b_71 (([.pointer (some ⟨b_38, 0, none⟩)] : Cs) ++ (iv .u8 l_159_1 ++ (([.int .i64 a_163_2] : Cs) ++ (([.int .u64 a_163_3] : Cs) ++ (([.int .u64 a_163_4] : Cs) ++ (([.int .u64 a_163_5] : Cs) ++ (iv .u8 l_159_6 ++ (([.int .u64 a_163_7] : Cs) ++ ([.int .u64 a_163_8] : Cs))))))))) 98 :: .cells b_38 (([.slice A_156_0_0 n_157_0_0 c_158_0_0] : Cs) ++ (([.slice A_156_0_1 n_157_0_1 c_158_0_1] : Cs) ++ (([.int .i64 a_163_0_2] : Cs) ++ (([.bool a_163_0_3] : Cs) ++ ([.slice A_156_0_4 n_157_0_4 c_158_0_4] : Cs))))) 95 :: .sl A_156_0_0 c_158_0_0 n_157_0_0 x_160_0_0 25 1 :: .sl A_156_0_1 c_158_0_1 n_157_0_1 x_160_0_1 124 2 :: .sl A_156_0_4 c_158_0_4 n_157_0_4 x_160_0_4 48 2 :: .cells B_174 (([.int .u64 a_166_0] : Cs) ++ (([.int .u64 a_166_1] : Cs) ++ iv .u8 l_167_2)) 39 :: .sl (some ⟨B_143, 0, none⟩) 1 1 x_148 42 2 :: .cells B_131 (([.int .u64 a_123_0] : Cs) ++ (([.int .u64 a_123_1] : Cs) ++ iv .u8 l_124_2)) 39 :: .sl (some ⟨B_100, 0, none⟩) 3 3 x_105 42 2 :: .cells B_83 (([.int .u64 3] : Cs) ++ ([.slice (some ⟨B_78, 0, none⟩) 160 160] : Cs)) 42 :: (T_154 ++ R)) := st_180
 have st_181 : St w w_178 (.cells b_71 (([.pointer (some ⟨b_38, 0, none⟩)] : Cs) ++ (iv .u8 l_159_1 ++ (([.int .i64 a_163_2] : Cs) ++ (([.int .u64 a_163_3] : Cs) ++ (([.int .u64 a_163_4] : Cs) ++ (([.int .u64 a_163_5] : Cs) ++ (iv .u8 l_159_6 ++ (([.int .u64 a_163_7] : Cs) ++ ([.int .u64 a_163_8] : Cs))))))))) 98 :: .cells b_38 (([.slice A_156_0_0 n_157_0_0 c_158_0_0] : Cs) ++ (([.slice A_156_0_1 n_157_0_1 c_158_0_1] : Cs) ++ (([.int .i64 a_163_0_2] : Cs) ++ (([.bool a_163_0_3] : Cs) ++ ([.slice A_156_0_4 n_157_0_4 c_158_0_4] : Cs))))) 95 :: .sl A_156_0_0 c_158_0_0 n_157_0_0 x_160_0_0 25 1 :: .sl A_156_0_1 c_158_0_1 n_157_0_1 x_160_0_1 124 2 :: .sl A_156_0_4 c_158_0_4 n_157_0_4 x_160_0_4 48 2 :: (T_154 ++ (.cells B_174 (([.int .u64 a_166_0] : Cs) ++ (([.int .u64 a_166_1] : Cs) ++ iv .u8 l_167_2)) 39 :: .sl (some ⟨B_143, 0, none⟩) 1 1 x_148 42 2 :: .cells B_131 (([.int .u64 a_123_0] : Cs) ++ (([.int .u64 a_123_1] : Cs) ++ iv .u8 l_124_2)) 39 :: .sl (some ⟨B_100, 0, none⟩) 3 3 x_105 42 2 :: .cells B_83 (([.int .u64 3] : Cs) ++ ([.slice (some ⟨B_78, 0, none⟩) 160 160] : Cs)) 42 :: R))) := St.hide (A := [_, _, _, _, _]) (B := [_, _, _, _, _]) (T := T_154) (R := R) st_180
 obtain ⟨l_188_0_0, l_188_0_1, a_192_0_2, a_192_0_3, l_188_0_4, l_188_1, a_192_2, a_192_3, a_192_4, a_192_5, l_188_6, a_192_7, a_192_8, hr_182, H⟩ := H
 refine WL.call Wanted.none ent15 rfl (journal_Journal_Adopt.calls w w_178 T_154 (.cells B_174 (([.int .u64 a_166_0] : Cs) ++ (([.int .u64 a_166_1] : Cs) ++ iv .u8 l_167_2)) 39 :: .sl (some ⟨B_143, 0, none⟩) 1 1 x_148 42 2 :: .cells B_131 (([.int .u64 a_123_0] : Cs) ++ (([.int .u64 a_123_1] : Cs) ++ iv .u8 l_124_2)) 39 :: .sl (some ⟨B_100, 0, none⟩) 3 3 x_105 42 2 :: .cells B_83 (([.int .u64 3] : Cs) ++ ([.slice (some ⟨B_78, 0, none⟩) 160 160] : Cs)) 42 :: R) l_159_0_0 l_159_0_1 a_163_0_2 a_163_0_3 l_159_0_4 l_159_1 a_163_2 a_163_3 a_163_4 a_163_5 l_159_6 a_163_7 a_163_8 a_166_0 a_166_1 l_167_2 100 b_71 b_38 A_156_0_0 n_157_0_0 c_158_0_0 x_160_0_0 A_156_0_1 n_157_0_1 c_158_0_1 x_160_0_1 A_156_0_4 n_157_0_4 c_158_0_4 x_160_0_4  st_181 (hn_161_0_0) hx_162_0_0 (hn_161_0_1) hx_162_0_1 (hn_161_0_4) hx_162_0_4 hl_164_1 hl_164_6 hl_168_2 l_188_0_0 l_188_0_1 a_192_0_2 a_192_0_3 l_188_0_4 l_188_1 a_192_2 a_192_3 a_192_4 a_192_5 l_188_6 a_192_7 a_192_8 hr_182) ?_
 rintro _ w_194 ⟨T_183, A_185_0_0, n_186_0_0, c_187_0_0, x_189_0_0, A_185_0_1, n_186_0_1, c_187_0_1, x_189_0_1, A_185_0_4, n_186_0_4, c_187_0_4, x_189_0_4, hs_184, hn_190_0_0, hx_191_0_0, hn_190_0_1, hx_191_0_1, hn_190_0_4, hx_191_0_4, hl_193_1, hl_193_6, rfl, sc_196⟩
 have st_195 : St w w_194 (.cells b_71 (([.pointer (some ⟨b_38, 0, none⟩)] : Cs) ++ (iv .u8 l_188_1 ++ (([.int .i64 a_192_2] : Cs) ++ (([.int .u64 a_192_3] : Cs) ++ (([.int .u64 a_192_4] : Cs) ++ (([.int .u64 a_192_5] : Cs) ++ (iv .u8 l_188_6 ++ (([.int .u64 a_192_7] : Cs) ++ ([.int .u64 a_192_8] : Cs))))))))) 98 :: .cells b_38 (([.slice A_185_0_0 n_186_0_0 c_187_0_0] : Cs) ++ (([.slice A_185_0_1 n_186_0_1 c_187_0_1] : Cs) ++ (([.int .i64 a_192_0_2] : Cs) ++ (([.bool a_192_0_3] : Cs) ++ ([.slice A_185_0_4 n_186_0_4 c_187_0_4] : Cs))))) 95 :: .sl A_185_0_0 c_187_0_0 n_186_0_0 x_189_0_0 25 1 :: .sl A_185_0_1 c_187_0_1 n_186_0_1 x_189_0_1 124 2 :: .sl A_185_0_4 c_187_0_4 n_186_0_4 x_189_0_4 48 2 :: .cells B_174 (([.int .u64 a_166_0] : Cs) ++ (([.int .u64 a_166_1] : Cs) ++ iv .u8 l_167_2)) 39 :: .sl (some ⟨B_143, 0, none⟩) 1 1 x_148 42 2 :: .cells B_131 (([.int .u64 a_123_0] : Cs) ++ (([.int .u64 a_123_1] : Cs) ++ iv .u8 l_124_2)) 39 :: .sl (some ⟨B_100, 0, none⟩) 3 3 x_105 42 2 :: .cells B_83 (([.int .u64 3] : Cs) ++ ([.slice (some ⟨B_78, 0, none⟩) 160 160] : Cs)) 42 :: (T_183 ++ R)) := St.unhide (A := [_, _, _, _, _]) (B := [_, _, _, _, _]) (T := T_183) (R := R) sc_196
 refine ⟨_, rfl, ?_⟩
 refine WL.nil (QW.then_n ?_)
 refine CW.seq (CW.region ?_)
 refine WL.val Wanted.none (Runs.move rfl) ?_
 have st_197 : St w w_194 (.cells b_71 (([.pointer (some ⟨b_38, 0, none⟩)] : Cs) ++ (iv .u8 l_188_1 ++ (([.int .i64 a_192_2] : Cs) ++ (([.int .u64 a_192_3] : Cs) ++ (([.int .u64 a_192_4] : Cs) ++ (([.int .u64 a_192_5] : Cs) ++ (iv .u8 l_188_6 ++ (([.int .u64 a_192_7] : Cs) ++ ([.int .u64 a_192_8] : Cs))))))))) 98 :: .cells b_38 (([.slice A_185_0_0 n_186_0_0 c_187_0_0] : Cs) ++ (([.slice A_185_0_1 n_186_0_1 c_187_0_1] : Cs) ++ (([.int .i64 a_192_0_2] : Cs) ++ (([.bool a_192_0_3] : Cs) ++ ([.slice A_185_0_4 n_186_0_4 c_187_0_4] : Cs))))) 95 :: .sl A_185_0_0 c_187_0_0 n_186_0_0 x_189_0_0 25 1 :: .sl A_185_0_1 c_187_0_1 n_186_0_1 x_189_0_1 124 2 :: .sl A_185_0_4 c_187_0_4 n_186_0_4 x_189_0_4 48 2 :: (T_183 ++ (.cells B_174 (([.int .u64 a_166_0] : Cs) ++ (([.int .u64 a_166_1] : Cs) ++ iv .u8 l_167_2)) 39 :: .sl (some ⟨B_143, 0, none⟩) 1 1 x_148 42 2 :: .cells B_131 (([.int .u64 a_123_0] : Cs) ++ (([.int .u64 a_123_1] : Cs) ++ iv .u8 l_124_2)) 39 :: .sl (some ⟨B_100, 0, none⟩) 3 3 x_105 42 2 :: .cells B_83 (([.int .u64 3] : Cs) ++ ([.slice (some ⟨B_78, 0, none⟩) 160 160] : Cs)) 42 :: R))) := St.hide (A := [_, _, _, _, _]) (B := [_, _, _, _, _]) (T := T_183) (R := R) st_195
 obtain ⟨l_204_0_0, l_204_0_1, a_208_0_2, a_208_0_3, l_204_0_4, l_204_1, a_208_2, a_208_3, a_208_4, a_208_5, l_204_6, a_208_7, a_208_8, a_211_0, a_211_1, l_212_2, a_215, hr_198, H⟩ := H
 refine WL.call Wanted.none ent25 rfl (journal_Journal_State.calls w w_194 T_183 (.cells B_174 (([.int .u64 a_166_0] : Cs) ++ (([.int .u64 a_166_1] : Cs) ++ iv .u8 l_167_2)) 39 :: .sl (some ⟨B_143, 0, none⟩) 1 1 x_148 42 2 :: .cells B_131 (([.int .u64 a_123_0] : Cs) ++ (([.int .u64 a_123_1] : Cs) ++ iv .u8 l_124_2)) 39 :: .sl (some ⟨B_100, 0, none⟩) 3 3 x_105 42 2 :: .cells B_83 (([.int .u64 3] : Cs) ++ ([.slice (some ⟨B_78, 0, none⟩) 160 160] : Cs)) 42 :: R) l_188_0_0 l_188_0_1 a_192_0_2 a_192_0_3 l_188_0_4 l_188_1 a_192_2 a_192_3 a_192_4 a_192_5 l_188_6 a_192_7 a_192_8 b_71 b_38 A_185_0_0 n_186_0_0 c_187_0_0 x_189_0_0 A_185_0_1 n_186_0_1 c_187_0_1 x_189_0_1 A_185_0_4 n_186_0_4 c_187_0_4 x_189_0_4  st_197 (hn_190_0_0) hx_191_0_0 (hn_190_0_1) hx_191_0_1 (hn_190_0_4) hx_191_0_4 hl_193_1 hl_193_6 l_204_0_0 l_204_0_1 a_208_0_2 a_208_0_3 l_204_0_4 l_204_1 a_208_2 a_208_3 a_208_4 a_208_5 l_204_6 a_208_7 a_208_8 a_211_0 a_211_1 l_212_2 a_215 hr_198) ?_
 rintro _ w_216 ⟨T_199, A_201_0_0, n_202_0_0, c_203_0_0, x_205_0_0, A_201_0_1, n_202_0_1, c_203_0_1, x_205_0_1, A_201_0_4, n_202_0_4, c_203_0_4, x_205_0_4, hs_200, hn_206_0_0, hx_207_0_0, hn_206_0_1, hx_207_0_1, hn_206_0_4, hx_207_0_4, hl_209_1, hl_209_6, hl_213_2, rfl, sc_218⟩
 have st_217 : St w w_216 (.cells b_71 (([.pointer (some ⟨b_38, 0, none⟩)] : Cs) ++ (iv .u8 l_204_1 ++ (([.int .i64 a_208_2] : Cs) ++ (([.int .u64 a_208_3] : Cs) ++ (([.int .u64 a_208_4] : Cs) ++ (([.int .u64 a_208_5] : Cs) ++ (iv .u8 l_204_6 ++ (([.int .u64 a_208_7] : Cs) ++ ([.int .u64 a_208_8] : Cs))))))))) 98 :: .cells b_38 (([.slice A_201_0_0 n_202_0_0 c_203_0_0] : Cs) ++ (([.slice A_201_0_1 n_202_0_1 c_203_0_1] : Cs) ++ (([.int .i64 a_208_0_2] : Cs) ++ (([.bool a_208_0_3] : Cs) ++ ([.slice A_201_0_4 n_202_0_4 c_203_0_4] : Cs))))) 95 :: .sl A_201_0_0 c_203_0_0 n_202_0_0 x_205_0_0 25 1 :: .sl A_201_0_1 c_203_0_1 n_202_0_1 x_205_0_1 124 2 :: .sl A_201_0_4 c_203_0_4 n_202_0_4 x_205_0_4 48 2 :: .cells B_174 (([.int .u64 a_166_0] : Cs) ++ (([.int .u64 a_166_1] : Cs) ++ iv .u8 l_167_2)) 39 :: .sl (some ⟨B_143, 0, none⟩) 1 1 x_148 42 2 :: .cells B_131 (([.int .u64 a_123_0] : Cs) ++ (([.int .u64 a_123_1] : Cs) ++ iv .u8 l_124_2)) 39 :: .sl (some ⟨B_100, 0, none⟩) 3 3 x_105 42 2 :: .cells B_83 (([.int .u64 3] : Cs) ++ ([.slice (some ⟨B_78, 0, none⟩) 160 160] : Cs)) 42 :: (T_199 ++ R)) := St.unhide (A := [_, _, _, _, _]) (B := [_, _, _, _, _]) (T := T_199) (R := R) sc_218
 refine ⟨_, rfl, ?_⟩
 refine WL.val Wanted.none (Runs.move rfl) ?_
 refine WL.val Wanted.none (Runs.extract rfl rfl) ?_
 refine WL.val Wanted.none (Runs.extract rfl rfl) ?_
 refine WL.alloc st_217 zero39 ?_
 intro B_219 w_220 st_221
 replace st_221 : St w w_220 (.cells B_219 (([.int .u64 0] : Cs) ++ (([.int .u64 0] : Cs) ++ iv .u8 (List.replicate 32 (0 : Int)))) 39 :: .cells b_71 (([.pointer (some ⟨b_38, 0, none⟩)] : Cs) ++ (iv .u8 l_204_1 ++ (([.int .i64 a_208_2] : Cs) ++ (([.int .u64 a_208_3] : Cs) ++ (([.int .u64 a_208_4] : Cs) ++ (([.int .u64 a_208_5] : Cs) ++ (iv .u8 l_204_6 ++ (([.int .u64 a_208_7] : Cs) ++ ([.int .u64 a_208_8] : Cs))))))))) 98 :: .cells b_38 (([.slice A_201_0_0 n_202_0_0 c_203_0_0] : Cs) ++ (([.slice A_201_0_1 n_202_0_1 c_203_0_1] : Cs) ++ (([.int .i64 a_208_0_2] : Cs) ++ (([.bool a_208_0_3] : Cs) ++ ([.slice A_201_0_4 n_202_0_4 c_203_0_4] : Cs))))) 95 :: .sl A_201_0_0 c_203_0_0 n_202_0_0 x_205_0_0 25 1 :: .sl A_201_0_1 c_203_0_1 n_202_0_1 x_205_0_1 124 2 :: .sl A_201_0_4 c_203_0_4 n_202_0_4 x_205_0_4 48 2 :: .cells B_174 (([.int .u64 a_166_0] : Cs) ++ (([.int .u64 a_166_1] : Cs) ++ iv .u8 l_167_2)) 39 :: .sl (some ⟨B_143, 0, none⟩) 1 1 x_148 42 2 :: .cells B_131 (([.int .u64 a_123_0] : Cs) ++ (([.int .u64 a_123_1] : Cs) ++ iv .u8 l_124_2)) 39 :: .sl (some ⟨B_100, 0, none⟩) 3 3 x_105 42 2 :: .cells B_83 (([.int .u64 3] : Cs) ++ ([.slice (some ⟨B_78, 0, none⟩) 160 160] : Cs)) 42 :: (T_199 ++ R)) := st_221
 refine WL.store_mid (i := 0) (pre := (([] : Cs))) (mid := (([.int .u64 0] : Cs) ++ (([.int .u64 0] : Cs) ++ iv .u8 (List.replicate 32 (0 : Int))))) (post := (([] : Cs))) (ms := (([.int .u64 a_211_0] : Cs) ++ (([.int .u64 a_211_1] : Cs) ++ iv .u8 l_212_2))) st_221 rfl row39 (by first | rfl | simp only [List.append_assoc, List.append_nil, List.nil_append, List.cons_append]) (by first | rfl | simp only [List.length_append, List.length_cons, List.length_nil, iv_length]) rfl rfl (by first | rfl | simp only [List.length_append, List.length_cons, List.length_nil, iv_length, hl_213_2]) (by first | rfl | simp only [List.length_append, List.length_cons, List.length_nil, iv_length, List.length_replicate]) (by intro u hu; simp only [List.mem_append, List.mem_singleton] at hu; rcases hu with hu | hu | hu <;> first | exact one_iv _ _ u hu | (subst hu; rfl)) ?_
 intro w_223 st_224
 replace st_224 : St w w_223 (.cells B_219 (([.int .u64 a_211_0] : Cs) ++ (([.int .u64 a_211_1] : Cs) ++ iv .u8 l_212_2)) 39 :: .cells b_71 (([.pointer (some ⟨b_38, 0, none⟩)] : Cs) ++ (iv .u8 l_204_1 ++ (([.int .i64 a_208_2] : Cs) ++ (([.int .u64 a_208_3] : Cs) ++ (([.int .u64 a_208_4] : Cs) ++ (([.int .u64 a_208_5] : Cs) ++ (iv .u8 l_204_6 ++ (([.int .u64 a_208_7] : Cs) ++ ([.int .u64 a_208_8] : Cs))))))))) 98 :: .cells b_38 (([.slice A_201_0_0 n_202_0_0 c_203_0_0] : Cs) ++ (([.slice A_201_0_1 n_202_0_1 c_203_0_1] : Cs) ++ (([.int .i64 a_208_0_2] : Cs) ++ (([.bool a_208_0_3] : Cs) ++ ([.slice A_201_0_4 n_202_0_4 c_203_0_4] : Cs))))) 95 :: .sl A_201_0_0 c_203_0_0 n_202_0_0 x_205_0_0 25 1 :: .sl A_201_0_1 c_203_0_1 n_202_0_1 x_205_0_1 124 2 :: .sl A_201_0_4 c_203_0_4 n_202_0_4 x_205_0_4 48 2 :: .cells B_174 (([.int .u64 a_166_0] : Cs) ++ (([.int .u64 a_166_1] : Cs) ++ iv .u8 l_167_2)) 39 :: .sl (some ⟨B_143, 0, none⟩) 1 1 x_148 42 2 :: .cells B_131 (([.int .u64 a_123_0] : Cs) ++ (([.int .u64 a_123_1] : Cs) ++ iv .u8 l_124_2)) 39 :: .sl (some ⟨B_100, 0, none⟩) 3 3 x_105 42 2 :: .cells B_83 (([.int .u64 3] : Cs) ++ ([.slice (some ⟨B_78, 0, none⟩) 160 160] : Cs)) 42 :: (T_199 ++ R)) := by have e_ : (([.int .u64 a_211_0] : Cs) ++ (([.int .u64 a_211_1] : Cs) ++ iv .u8 l_212_2)) = (([] : Cs)) ++ ((([.int .u64 a_211_0] : Cs) ++ (([.int .u64 a_211_1] : Cs) ++ iv .u8 l_212_2)) ++ (([] : Cs))) := (by first | rfl | simp only [List.append_assoc, List.append_nil, List.nil_append, List.cons_append]); have h_ : St w w_223 (.cells B_219 ((([] : Cs)) ++ ((([.int .u64 a_211_0] : Cs) ++ (([.int .u64 a_211_1] : Cs) ++ iv .u8 l_212_2)) ++ (([] : Cs)))) 39 :: .cells b_71 (([.pointer (some ⟨b_38, 0, none⟩)] : Cs) ++ (iv .u8 l_204_1 ++ (([.int .i64 a_208_2] : Cs) ++ (([.int .u64 a_208_3] : Cs) ++ (([.int .u64 a_208_4] : Cs) ++ (([.int .u64 a_208_5] : Cs) ++ (iv .u8 l_204_6 ++ (([.int .u64 a_208_7] : Cs) ++ ([.int .u64 a_208_8] : Cs))))))))) 98 :: .cells b_38 (([.slice A_201_0_0 n_202_0_0 c_203_0_0] : Cs) ++ (([.slice A_201_0_1 n_202_0_1 c_203_0_1] : Cs) ++ (([.int .i64 a_208_0_2] : Cs) ++ (([.bool a_208_0_3] : Cs) ++ ([.slice A_201_0_4 n_202_0_4 c_203_0_4] : Cs))))) 95 :: .sl A_201_0_0 c_203_0_0 n_202_0_0 x_205_0_0 25 1 :: .sl A_201_0_1 c_203_0_1 n_202_0_1 x_205_0_1 124 2 :: .sl A_201_0_4 c_203_0_4 n_202_0_4 x_205_0_4 48 2 :: .cells B_174 (([.int .u64 a_166_0] : Cs) ++ (([.int .u64 a_166_1] : Cs) ++ iv .u8 l_167_2)) 39 :: .sl (some ⟨B_143, 0, none⟩) 1 1 x_148 42 2 :: .cells B_131 (([.int .u64 a_123_0] : Cs) ++ (([.int .u64 a_123_1] : Cs) ++ iv .u8 l_124_2)) 39 :: .sl (some ⟨B_100, 0, none⟩) 3 3 x_105 42 2 :: .cells B_83 (([.int .u64 3] : Cs) ++ ([.slice (some ⟨B_78, 0, none⟩) 160 160] : Cs)) 42 :: (T_199 ++ R)) := st_224; rw [← e_] at h_; exact h_
 refine WL.val Wanted.none (Runs.assign rfl) ?_
 refine WL.nil (QW.then_n ?_)
 refine CW.sub [(0, .bool false), (1, .pointer (some ⟨b_38, 0, none⟩)), (3, .pointer (some ⟨b_71, 0, none⟩)), (7, .int .i64 a_127), (8, .pointer (some ⟨B_174, 0, none⟩)), (9, .int .i64 a_170), (10, .pointer (some ⟨B_219, 0, none⟩)), (11, .int .u64 a_215)] (by repeat' constructor) ?_
 refine CW.seq (CW.region ?_)
 refine WL.val Wanted.none (Runs.move rfl) ?_
 refine WL.val Wanted.none (Runs.eql rfl rfl rfl) ?_
 refine WL.val Wanted.none (Runs.move rfl) ?_
 obtain ⟨c_225, H⟩ := H
 have h_226 : (a_127 == 17) = true := (beq_iff_eq.mpr c_225)
 refine WL.on ?_ ?_; exact Wanted.guard (dj := 61) (by rfl) (evb (by rfl) h_226) (by rfl)
 refine WL.val Wanted.none (Runs.move rfl) ?_
 refine WL.on ?_ ?_; exact Wanted.guard (dj := 61) (by rfl) (evb (by rfl) h_226) (by rfl)
 refine WL.val Wanted.none (Runs.eql rfl rfl rfl) ?_
 refine WL.val Wanted.none (Runs.pick_t (evb rfl h_226) rfl) ?_
 refine WL.val Wanted.none (Runs.move rfl) ?_
 obtain ⟨c_227, H⟩ := H
 have h_228 : (a_170 == 0) = true := (beq_iff_eq.mpr c_227)
 refine WL.on ?_ ?_; exact Wanted.guard (dj := 65) (by rfl) (evb (by rfl) h_228) (by rfl)
 refine WL.val Wanted.none (Runs.fieldAddr (off := 1) (p := 1) fld39_1 rfl rfl rfl) ?_
 refine WL.on ?_ ?_; exact Wanted.guard (dj := 65) (by rfl) (evb (by rfl) h_228) (by rfl)
 refine WL.val Wanted.none (Runs.load nagg37 rfl (st_224.cell (k := 6) rfl (part_one (u := .int .u64 a_166_1) (pre := (([.int .u64 a_166_0] : Cs))) (post := (iv .u8 l_167_2)) (by first | rfl | simp only [List.append_assoc, List.append_nil, List.nil_append, List.cons_append]) (by first | rfl | simp only [List.length_append, List.length_cons, List.length_nil, iv_length])))) ?_
 refine WL.on ?_ ?_; exact Wanted.guard (dj := 65) (by rfl) (evb (by rfl) h_228) (by rfl)
 refine WL.val Wanted.none (Runs.eql rfl rfl rfl) ?_
 refine WL.val Wanted.none (Runs.pick_t (evb rfl h_228) rfl) ?_
 refine WL.val Wanted.none (Runs.move rfl) ?_
 obtain ⟨c_229, H⟩ := H
 have h_230 : (a_166_1 == 1) = true := (beq_iff_eq.mpr c_229)
 refine WL.on ?_ ?_; exact Wanted.guard (dj := 70) (by rfl) (evb (by rfl) h_230) (by rfl)
 refine WL.val Wanted.none (Runs.load_mid row39 rfl st_224 (i := 0) rfl (part_mid (pre := (([] : Cs))) (mid := (([.int .u64 a_211_0] : Cs) ++ (([.int .u64 a_211_1] : Cs) ++ iv .u8 l_212_2))) (post := (([] : Cs))) (by first | rfl | simp only [List.append_assoc, List.append_nil, List.nil_append, List.cons_append]) (by first | rfl | simp only [List.length_append, List.length_cons, List.length_nil, iv_length]) (by first | rfl | simp only [List.length_append, List.length_cons, List.length_nil, iv_length, hl_213_2])) (by first | rfl | simp only [List.length_append, List.length_cons, List.length_nil, iv_length, hl_213_2])) ?_
 refine WL.on ?_ ?_; exact Wanted.guard (dj := 70) (by rfl) (evb (by rfl) h_230) (by rfl)
 refine WL.val Wanted.none (Runs.load_mid row39 rfl st_224 (i := 6) rfl (part_mid (pre := (([] : Cs))) (mid := (([.int .u64 a_166_0] : Cs) ++ (([.int .u64 a_166_1] : Cs) ++ iv .u8 l_167_2))) (post := (([] : Cs))) (by first | rfl | simp only [List.append_assoc, List.append_nil, List.nil_append, List.cons_append]) (by first | rfl | simp only [List.length_append, List.length_cons, List.length_nil, iv_length]) (by first | rfl | simp only [List.length_append, List.length_cons, List.length_nil, iv_length, hl_168_2])) (by first | rfl | simp only [List.length_append, List.length_cons, List.length_nil, iv_length, hl_168_2])) ?_
 refine WL.on ?_ ?_; exact Wanted.guard (dj := 70) (by rfl) (evb (by rfl) h_230) (by rfl)
 refine WL.val Wanted.none (Runs.eql_top (EqTop.struct eqs39 (EqFs.cons (part_mid' (pre := (([] : Cs))) (mid := (([.int .u64 a_211_0] : Cs))) (post := (([.int .u64 a_211_1] : Cs) ++ iv .u8 l_212_2)) (by first | rfl | simp only [List.append_assoc, List.append_nil, List.nil_append, List.cons_append]) (by first | rfl | simp only [List.length_append, List.length_cons, List.length_nil, iv_length])) (part_mid' (pre := (([] : Cs))) (mid := (([.int .u64 a_166_0] : Cs))) (post := (([.int .u64 a_166_1] : Cs) ++ iv .u8 l_167_2)) (by first | rfl | simp only [List.append_assoc, List.append_nil, List.nil_append, List.cons_append]) (by first | rfl | simp only [List.length_append, List.length_cons, List.length_nil, iv_length])) (EqPl.int Tryd.underlying37) (EqFs.cons (part_mid' (pre := (([.int .u64 a_211_0] : Cs))) (mid := (([.int .u64 a_211_1] : Cs))) (post := (iv .u8 l_212_2)) (by first | rfl | simp only [List.append_assoc, List.append_nil, List.nil_append, List.cons_append]) (by first | rfl | simp only [List.length_append, List.length_cons, List.length_nil, iv_length])) (part_mid' (pre := (([.int .u64 a_166_0] : Cs))) (mid := (([.int .u64 a_166_1] : Cs))) (post := (iv .u8 l_167_2)) (by first | rfl | simp only [List.append_assoc, List.append_nil, List.nil_append, List.cons_append]) (by first | rfl | simp only [List.length_append, List.length_cons, List.length_nil, iv_length])) (EqPl.int Tryd.underlying37) (EqFs.cons (part_mid' (pre := (([.int .u64 a_211_0] : Cs) ++ ([.int .u64 a_211_1] : Cs))) (mid := (iv .u8 l_212_2)) (post := (([] : Cs))) (by first | rfl | simp only [List.append_assoc, List.append_nil, List.nil_append, List.cons_append]) (by first | rfl | simp only [List.length_append, List.length_cons, List.length_nil, iv_length])) (part_mid' (pre := (([.int .u64 a_166_0] : Cs) ++ ([.int .u64 a_166_1] : Cs))) (mid := (iv .u8 l_167_2)) (post := (([] : Cs))) (by first | rfl | simp only [List.append_assoc, List.append_nil, List.nil_append, List.cons_append]) (by first | rfl | simp only [List.length_append, List.length_cons, List.length_nil, iv_length])) (EqTop.place (EqTop.arr arr23 hl_213_2 hl_168_2) row23 (by first | rfl | simp only [List.length_append, List.length_cons, List.length_nil, iv_length, hl_213_2]) (by first | rfl | simp only [List.length_append, List.length_cons, List.length_nil, iv_length, hl_168_2])) EqFs.nil)))) eqg39 rfl rfl) ?_
 refine WL.val Wanted.none (Runs.pick_t (evb rfl h_230) rfl) ?_
 refine WL.val Wanted.none (Runs.move rfl) ?_
 obtain ⟨c_231, H⟩ := H
 have h_232 : ((a_211_0 == a_166_0) && ((a_211_1 == a_166_1) && ((l_212_2 == l_167_2) && true))) = true := c_231
 refine WL.on ?_ ?_; exact Wanted.guard (dj := 75) (by rfl) (evb (by rfl) h_232) (by rfl)
 refine WL.val Wanted.none (Runs.move rfl) ?_
 refine WL.on ?_ ?_; exact Wanted.guard (dj := 75) (by rfl) (evb (by rfl) h_232) (by rfl)
 refine WL.val Wanted.none (Runs.eql rfl rfl rfl) ?_
 refine WL.val Wanted.none (Runs.pick_t (evb rfl h_232) rfl) ?_
 refine WL.val Wanted.none (Runs.move rfl) ?_
 obtain ⟨c_233, H⟩ := H
 have h_234 : (a_215 == 2) = true := (beq_iff_eq.mpr c_233)
 refine WL.on ?_ ?_; exact Wanted.guard (dj := 79) (by rfl) (evb (by rfl) h_234) (by rfl)
 refine WL.val Wanted.none (Runs.move rfl) ?_
 refine WL.on ?_ ?_; exact Wanted.guard (dj := 79) (by rfl) (evb (by rfl) h_234) (by rfl)
 have st_235 := (St.pickT (L := [_, _, _, _, _, _, _, _, _, _, _]) st_224 [1, 2, 3, 4, 5, 0, 6, 7, 8, 9, 10] (by decide))
 replace st_235 : St w w_223 (.cells b_71 (([.pointer (some ⟨b_38, 0, none⟩)] : Cs) ++ (iv .u8 l_204_1 ++ (([.int .i64 a_208_2] : Cs) ++ (([.int .u64 a_208_3] : Cs) ++ (([.int .u64 a_208_4] : Cs) ++ (([.int .u64 a_208_5] : Cs) ++ (iv .u8 l_204_6 ++ (([.int .u64 a_208_7] : Cs) ++ ([.int .u64 a_208_8] : Cs))))))))) 98 :: .cells b_38 (([.slice A_201_0_0 n_202_0_0 c_203_0_0] : Cs) ++ (([.slice A_201_0_1 n_202_0_1 c_203_0_1] : Cs) ++ (([.int .i64 a_208_0_2] : Cs) ++ (([.bool a_208_0_3] : Cs) ++ ([.slice A_201_0_4 n_202_0_4 c_203_0_4] : Cs))))) 95 :: .sl A_201_0_0 c_203_0_0 n_202_0_0 x_205_0_0 25 1 :: .sl A_201_0_1 c_203_0_1 n_202_0_1 x_205_0_1 124 2 :: .sl A_201_0_4 c_203_0_4 n_202_0_4 x_205_0_4 48 2 :: .cells B_219 (([.int .u64 a_211_0] : Cs) ++ (([.int .u64 a_211_1] : Cs) ++ iv .u8 l_212_2)) 39 :: .cells B_174 (([.int .u64 a_166_0] : Cs) ++ (([.int .u64 a_166_1] : Cs) ++ iv .u8 l_167_2)) 39 :: .sl (some ⟨B_143, 0, none⟩) 1 1 x_148 42 2 :: .cells B_131 (([.int .u64 a_123_0] : Cs) ++ (([.int .u64 a_123_1] : Cs) ++ iv .u8 l_124_2)) 39 :: .sl (some ⟨B_100, 0, none⟩) 3 3 x_105 42 2 :: .cells B_83 (([.int .u64 3] : Cs) ++ ([.slice (some ⟨B_78, 0, none⟩) 160 160] : Cs)) 42 :: (T_199 ++ R)) := st_235
 have st_236 : St w w_223 (.cells b_71 (([.pointer (some ⟨b_38, 0, none⟩)] : Cs) ++ (iv .u8 l_204_1 ++ (([.int .i64 a_208_2] : Cs) ++ (([.int .u64 a_208_3] : Cs) ++ (([.int .u64 a_208_4] : Cs) ++ (([.int .u64 a_208_5] : Cs) ++ (iv .u8 l_204_6 ++ (([.int .u64 a_208_7] : Cs) ++ ([.int .u64 a_208_8] : Cs))))))))) 98 :: .cells b_38 (([.slice A_201_0_0 n_202_0_0 c_203_0_0] : Cs) ++ (([.slice A_201_0_1 n_202_0_1 c_203_0_1] : Cs) ++ (([.int .i64 a_208_0_2] : Cs) ++ (([.bool a_208_0_3] : Cs) ++ ([.slice A_201_0_4 n_202_0_4 c_203_0_4] : Cs))))) 95 :: .sl A_201_0_0 c_203_0_0 n_202_0_0 x_205_0_0 25 1 :: .sl A_201_0_1 c_203_0_1 n_202_0_1 x_205_0_1 124 2 :: .sl A_201_0_4 c_203_0_4 n_202_0_4 x_205_0_4 48 2 :: (T_199 ++ (.cells B_219 (([.int .u64 a_211_0] : Cs) ++ (([.int .u64 a_211_1] : Cs) ++ iv .u8 l_212_2)) 39 :: .cells B_174 (([.int .u64 a_166_0] : Cs) ++ (([.int .u64 a_166_1] : Cs) ++ iv .u8 l_167_2)) 39 :: .sl (some ⟨B_143, 0, none⟩) 1 1 x_148 42 2 :: .cells B_131 (([.int .u64 a_123_0] : Cs) ++ (([.int .u64 a_123_1] : Cs) ++ iv .u8 l_124_2)) 39 :: .sl (some ⟨B_100, 0, none⟩) 3 3 x_105 42 2 :: .cells B_83 (([.int .u64 3] : Cs) ++ ([.slice (some ⟨B_78, 0, none⟩) 160 160] : Cs)) 42 :: R))) := St.hide (A := [_, _, _, _, _]) (B := [_, _, _, _, _, _]) (T := T_199) (R := R) st_235
 obtain ⟨l_243_0_0, l_243_0_1, a_247_0_2, a_247_0_3, l_243_0_4, l_243_1, a_247_2, a_247_3, a_247_4, a_247_5, l_243_6, a_247_7, a_247_8, a_250, hr_237, H⟩ := H
 refine WL.call Wanted.none ent16 rfl (journal_Journal_Room.calls w w_223 T_199 (.cells B_219 (([.int .u64 a_211_0] : Cs) ++ (([.int .u64 a_211_1] : Cs) ++ iv .u8 l_212_2)) 39 :: .cells B_174 (([.int .u64 a_166_0] : Cs) ++ (([.int .u64 a_166_1] : Cs) ++ iv .u8 l_167_2)) 39 :: .sl (some ⟨B_143, 0, none⟩) 1 1 x_148 42 2 :: .cells B_131 (([.int .u64 a_123_0] : Cs) ++ (([.int .u64 a_123_1] : Cs) ++ iv .u8 l_124_2)) 39 :: .sl (some ⟨B_100, 0, none⟩) 3 3 x_105 42 2 :: .cells B_83 (([.int .u64 3] : Cs) ++ ([.slice (some ⟨B_78, 0, none⟩) 160 160] : Cs)) 42 :: R) l_204_0_0 l_204_0_1 a_208_0_2 a_208_0_3 l_204_0_4 l_204_1 a_208_2 a_208_3 a_208_4 a_208_5 l_204_6 a_208_7 a_208_8 b_71 b_38 A_201_0_0 n_202_0_0 c_203_0_0 x_205_0_0 A_201_0_1 n_202_0_1 c_203_0_1 x_205_0_1 A_201_0_4 n_202_0_4 c_203_0_4 x_205_0_4  st_236 (hn_206_0_0) hx_207_0_0 (hn_206_0_1) hx_207_0_1 (hn_206_0_4) hx_207_0_4 hl_209_1 hl_209_6 l_243_0_0 l_243_0_1 a_247_0_2 a_247_0_3 l_243_0_4 l_243_1 a_247_2 a_247_3 a_247_4 a_247_5 l_243_6 a_247_7 a_247_8 a_250 hr_237) ?_
 rintro _ w_251 ⟨T_238, A_240_0_0, n_241_0_0, c_242_0_0, x_244_0_0, A_240_0_1, n_241_0_1, c_242_0_1, x_244_0_1, A_240_0_4, n_241_0_4, c_242_0_4, x_244_0_4, hs_239, hn_245_0_0, hx_246_0_0, hn_245_0_1, hx_246_0_1, hn_245_0_4, hx_246_0_4, hl_248_1, hl_248_6, rfl, sc_253⟩
 have st_252 : St w w_251 (.cells b_71 (([.pointer (some ⟨b_38, 0, none⟩)] : Cs) ++ (iv .u8 l_243_1 ++ (([.int .i64 a_247_2] : Cs) ++ (([.int .u64 a_247_3] : Cs) ++ (([.int .u64 a_247_4] : Cs) ++ (([.int .u64 a_247_5] : Cs) ++ (iv .u8 l_243_6 ++ (([.int .u64 a_247_7] : Cs) ++ ([.int .u64 a_247_8] : Cs))))))))) 98 :: .cells b_38 (([.slice A_240_0_0 n_241_0_0 c_242_0_0] : Cs) ++ (([.slice A_240_0_1 n_241_0_1 c_242_0_1] : Cs) ++ (([.int .i64 a_247_0_2] : Cs) ++ (([.bool a_247_0_3] : Cs) ++ ([.slice A_240_0_4 n_241_0_4 c_242_0_4] : Cs))))) 95 :: .sl A_240_0_0 c_242_0_0 n_241_0_0 x_244_0_0 25 1 :: .sl A_240_0_1 c_242_0_1 n_241_0_1 x_244_0_1 124 2 :: .sl A_240_0_4 c_242_0_4 n_241_0_4 x_244_0_4 48 2 :: .cells B_219 (([.int .u64 a_211_0] : Cs) ++ (([.int .u64 a_211_1] : Cs) ++ iv .u8 l_212_2)) 39 :: .cells B_174 (([.int .u64 a_166_0] : Cs) ++ (([.int .u64 a_166_1] : Cs) ++ iv .u8 l_167_2)) 39 :: .sl (some ⟨B_143, 0, none⟩) 1 1 x_148 42 2 :: .cells B_131 (([.int .u64 a_123_0] : Cs) ++ (([.int .u64 a_123_1] : Cs) ++ iv .u8 l_124_2)) 39 :: .sl (some ⟨B_100, 0, none⟩) 3 3 x_105 42 2 :: .cells B_83 (([.int .u64 3] : Cs) ++ ([.slice (some ⟨B_78, 0, none⟩) 160 160] : Cs)) 42 :: (T_238 ++ R)) := St.unhide (A := [_, _, _, _, _]) (B := [_, _, _, _, _, _]) (T := T_238) (R := R) sc_253
 refine ⟨_, rfl, ?_⟩
 refine WL.on ?_ ?_; exact Wanted.guard (dj := 79) (by rfl) (evb (by rfl) h_234) (by rfl)
 refine WL.val Wanted.none (Runs.eql rfl rfl rfl) ?_
 refine WL.val Wanted.none (Runs.pick_t (evb rfl h_234) rfl) ?_
 refine WL.val Wanted.none (Runs.move rfl) ?_
 obtain ⟨c_254, H⟩ := H
 have h_255 : (a_250 == 1) = true := (beq_iff_eq.mpr c_254)
 refine WL.on ?_ ?_; exact Wanted.guard (dj := 84) (by rfl) (evb (by rfl) h_255) (by rfl)
 refine WL.val Wanted.none (Runs.move rfl) ?_
 refine WL.on ?_ ?_; exact Wanted.guard (dj := 84) (by rfl) (evb (by rfl) h_255) (by rfl)
 have st_256 : St w w_251 (.cells b_71 (([.pointer (some ⟨b_38, 0, none⟩)] : Cs) ++ (iv .u8 l_243_1 ++ (([.int .i64 a_247_2] : Cs) ++ (([.int .u64 a_247_3] : Cs) ++ (([.int .u64 a_247_4] : Cs) ++ (([.int .u64 a_247_5] : Cs) ++ (iv .u8 l_243_6 ++ (([.int .u64 a_247_7] : Cs) ++ ([.int .u64 a_247_8] : Cs))))))))) 98 :: .cells b_38 (([.slice A_240_0_0 n_241_0_0 c_242_0_0] : Cs) ++ (([.slice A_240_0_1 n_241_0_1 c_242_0_1] : Cs) ++ (([.int .i64 a_247_0_2] : Cs) ++ (([.bool a_247_0_3] : Cs) ++ ([.slice A_240_0_4 n_241_0_4 c_242_0_4] : Cs))))) 95 :: .sl A_240_0_0 c_242_0_0 n_241_0_0 x_244_0_0 25 1 :: .sl A_240_0_1 c_242_0_1 n_241_0_1 x_244_0_1 124 2 :: .sl A_240_0_4 c_242_0_4 n_241_0_4 x_244_0_4 48 2 :: (T_238 ++ (.cells B_219 (([.int .u64 a_211_0] : Cs) ++ (([.int .u64 a_211_1] : Cs) ++ iv .u8 l_212_2)) 39 :: .cells B_174 (([.int .u64 a_166_0] : Cs) ++ (([.int .u64 a_166_1] : Cs) ++ iv .u8 l_167_2)) 39 :: .sl (some ⟨B_143, 0, none⟩) 1 1 x_148 42 2 :: .cells B_131 (([.int .u64 a_123_0] : Cs) ++ (([.int .u64 a_123_1] : Cs) ++ iv .u8 l_124_2)) 39 :: .sl (some ⟨B_100, 0, none⟩) 3 3 x_105 42 2 :: .cells B_83 (([.int .u64 3] : Cs) ++ ([.slice (some ⟨B_78, 0, none⟩) 160 160] : Cs)) 42 :: R))) := St.hide (A := [_, _, _, _, _]) (B := [_, _, _, _, _, _]) (T := T_238) (R := R) st_252
 obtain ⟨l_263_0_0, l_263_0_1, a_267_0_2, a_267_0_3, l_263_0_4, l_263_1, a_267_2, a_267_3, a_267_4, a_267_5, l_263_6, a_267_7, a_267_8, a_270_0, a_270_1, l_271_2, hr_257, H⟩ := H
 refine WL.call Wanted.none ent17 rfl (journal_Journal_Empty.calls w w_251 T_238 (.cells B_219 (([.int .u64 a_211_0] : Cs) ++ (([.int .u64 a_211_1] : Cs) ++ iv .u8 l_212_2)) 39 :: .cells B_174 (([.int .u64 a_166_0] : Cs) ++ (([.int .u64 a_166_1] : Cs) ++ iv .u8 l_167_2)) 39 :: .sl (some ⟨B_143, 0, none⟩) 1 1 x_148 42 2 :: .cells B_131 (([.int .u64 a_123_0] : Cs) ++ (([.int .u64 a_123_1] : Cs) ++ iv .u8 l_124_2)) 39 :: .sl (some ⟨B_100, 0, none⟩) 3 3 x_105 42 2 :: .cells B_83 (([.int .u64 3] : Cs) ++ ([.slice (some ⟨B_78, 0, none⟩) 160 160] : Cs)) 42 :: R) l_243_0_0 l_243_0_1 a_247_0_2 a_247_0_3 l_243_0_4 l_243_1 a_247_2 a_247_3 a_247_4 a_247_5 l_243_6 a_247_7 a_247_8 b_71 b_38 A_240_0_0 n_241_0_0 c_242_0_0 x_244_0_0 A_240_0_1 n_241_0_1 c_242_0_1 x_244_0_1 A_240_0_4 n_241_0_4 c_242_0_4 x_244_0_4  st_256 (hn_245_0_0) hx_246_0_0 (hn_245_0_1) hx_246_0_1 (hn_245_0_4) hx_246_0_4 hl_248_1 hl_248_6 l_263_0_0 l_263_0_1 a_267_0_2 a_267_0_3 l_263_0_4 l_263_1 a_267_2 a_267_3 a_267_4 a_267_5 l_263_6 a_267_7 a_267_8 a_270_0 a_270_1 l_271_2 hr_257) ?_
 rintro _ w_273 ⟨T_258, A_260_0_0, n_261_0_0, c_262_0_0, x_264_0_0, A_260_0_1, n_261_0_1, c_262_0_1, x_264_0_1, A_260_0_4, n_261_0_4, c_262_0_4, x_264_0_4, hs_259, hn_265_0_0, hx_266_0_0, hn_265_0_1, hx_266_0_1, hn_265_0_4, hx_266_0_4, hl_268_1, hl_268_6, hl_272_2, rfl, sc_275⟩
 have st_274 : St w w_273 (.cells b_71 (([.pointer (some ⟨b_38, 0, none⟩)] : Cs) ++ (iv .u8 l_263_1 ++ (([.int .i64 a_267_2] : Cs) ++ (([.int .u64 a_267_3] : Cs) ++ (([.int .u64 a_267_4] : Cs) ++ (([.int .u64 a_267_5] : Cs) ++ (iv .u8 l_263_6 ++ (([.int .u64 a_267_7] : Cs) ++ ([.int .u64 a_267_8] : Cs))))))))) 98 :: .cells b_38 (([.slice A_260_0_0 n_261_0_0 c_262_0_0] : Cs) ++ (([.slice A_260_0_1 n_261_0_1 c_262_0_1] : Cs) ++ (([.int .i64 a_267_0_2] : Cs) ++ (([.bool a_267_0_3] : Cs) ++ ([.slice A_260_0_4 n_261_0_4 c_262_0_4] : Cs))))) 95 :: .sl A_260_0_0 c_262_0_0 n_261_0_0 x_264_0_0 25 1 :: .sl A_260_0_1 c_262_0_1 n_261_0_1 x_264_0_1 124 2 :: .sl A_260_0_4 c_262_0_4 n_261_0_4 x_264_0_4 48 2 :: .cells B_219 (([.int .u64 a_211_0] : Cs) ++ (([.int .u64 a_211_1] : Cs) ++ iv .u8 l_212_2)) 39 :: .cells B_174 (([.int .u64 a_166_0] : Cs) ++ (([.int .u64 a_166_1] : Cs) ++ iv .u8 l_167_2)) 39 :: .sl (some ⟨B_143, 0, none⟩) 1 1 x_148 42 2 :: .cells B_131 (([.int .u64 a_123_0] : Cs) ++ (([.int .u64 a_123_1] : Cs) ++ iv .u8 l_124_2)) 39 :: .sl (some ⟨B_100, 0, none⟩) 3 3 x_105 42 2 :: .cells B_83 (([.int .u64 3] : Cs) ++ ([.slice (some ⟨B_78, 0, none⟩) 160 160] : Cs)) 42 :: (T_258 ++ R)) := St.unhide (A := [_, _, _, _, _]) (B := [_, _, _, _, _, _]) (T := T_258) (R := R) sc_275
 refine ⟨_, rfl, ?_⟩
 refine WL.on ?_ ?_; exact Wanted.guard (dj := 84) (by rfl) (evb (by rfl) h_255) (by rfl)
 refine WL.val Wanted.none (Runs.field_one fld39_0 nagg37 rfl (part_one (u := .int .u64 a_270_0) (pre := (([] : Cs))) (post := (([.int .u64 a_270_1] : Cs) ++ iv .u8 l_271_2)) (by first | rfl | simp only [List.append_assoc, List.append_nil, List.nil_append, List.cons_append]) (by first | rfl | simp only [List.length_append, List.length_cons, List.length_nil, iv_length]))) ?_
 refine WL.on ?_ ?_; exact Wanted.guard (dj := 84) (by rfl) (evb (by rfl) h_255) (by rfl)
 refine WL.val Wanted.none (Runs.eql rfl rfl rfl) ?_
 refine WL.val Wanted.none (Runs.pick_t (evb rfl h_255) rfl) ?_
 refine WL.val Wanted.none (Runs.move rfl) ?_
 obtain ⟨c_276, H⟩ := H
 have h_277 : (a_270_0 == 1) = true := (beq_iff_eq.mpr c_276)
 refine WL.on ?_ ?_; exact Wanted.guard (dj := 90) (by rfl) (evb (by rfl) h_277) (by rfl)
 refine WL.val Wanted.none (Runs.move rfl) ?_
 refine WL.on ?_ ?_; exact Wanted.guard (dj := 90) (by rfl) (evb (by rfl) h_277) (by rfl)
 have st_278 := (St.pickT (L := [_, _, _, _, _, _, _, _, _, _, _]) st_274 [1, 2, 3, 4, 0, 5, 6, 7, 8, 9, 10] (by decide))
 replace st_278 : St w w_273 (.cells b_38 (([.slice A_260_0_0 n_261_0_0 c_262_0_0] : Cs) ++ (([.slice A_260_0_1 n_261_0_1 c_262_0_1] : Cs) ++ (([.int .i64 a_267_0_2] : Cs) ++ (([.bool a_267_0_3] : Cs) ++ ([.slice A_260_0_4 n_261_0_4 c_262_0_4] : Cs))))) 95 :: .sl A_260_0_0 c_262_0_0 n_261_0_0 x_264_0_0 25 1 :: .sl A_260_0_1 c_262_0_1 n_261_0_1 x_264_0_1 124 2 :: .sl A_260_0_4 c_262_0_4 n_261_0_4 x_264_0_4 48 2 :: .cells b_71 (([.pointer (some ⟨b_38, 0, none⟩)] : Cs) ++ (iv .u8 l_263_1 ++ (([.int .i64 a_267_2] : Cs) ++ (([.int .u64 a_267_3] : Cs) ++ (([.int .u64 a_267_4] : Cs) ++ (([.int .u64 a_267_5] : Cs) ++ (iv .u8 l_263_6 ++ (([.int .u64 a_267_7] : Cs) ++ ([.int .u64 a_267_8] : Cs))))))))) 98 :: .cells B_219 (([.int .u64 a_211_0] : Cs) ++ (([.int .u64 a_211_1] : Cs) ++ iv .u8 l_212_2)) 39 :: .cells B_174 (([.int .u64 a_166_0] : Cs) ++ (([.int .u64 a_166_1] : Cs) ++ iv .u8 l_167_2)) 39 :: .sl (some ⟨B_143, 0, none⟩) 1 1 x_148 42 2 :: .cells B_131 (([.int .u64 a_123_0] : Cs) ++ (([.int .u64 a_123_1] : Cs) ++ iv .u8 l_124_2)) 39 :: .sl (some ⟨B_100, 0, none⟩) 3 3 x_105 42 2 :: .cells B_83 (([.int .u64 3] : Cs) ++ ([.slice (some ⟨B_78, 0, none⟩) 160 160] : Cs)) 42 :: (T_258 ++ R)) := st_278
 have st_279 : St w w_273 (.cells b_38 (([.slice A_260_0_0 n_261_0_0 c_262_0_0] : Cs) ++ (([.slice A_260_0_1 n_261_0_1 c_262_0_1] : Cs) ++ (([.int .i64 a_267_0_2] : Cs) ++ (([.bool a_267_0_3] : Cs) ++ ([.slice A_260_0_4 n_261_0_4 c_262_0_4] : Cs))))) 95 :: .sl A_260_0_0 c_262_0_0 n_261_0_0 x_264_0_0 25 1 :: .sl A_260_0_1 c_262_0_1 n_261_0_1 x_264_0_1 124 2 :: .sl A_260_0_4 c_262_0_4 n_261_0_4 x_264_0_4 48 2 :: (T_258 ++ (.cells b_71 (([.pointer (some ⟨b_38, 0, none⟩)] : Cs) ++ (iv .u8 l_263_1 ++ (([.int .i64 a_267_2] : Cs) ++ (([.int .u64 a_267_3] : Cs) ++ (([.int .u64 a_267_4] : Cs) ++ (([.int .u64 a_267_5] : Cs) ++ (iv .u8 l_263_6 ++ (([.int .u64 a_267_7] : Cs) ++ ([.int .u64 a_267_8] : Cs))))))))) 98 :: .cells B_219 (([.int .u64 a_211_0] : Cs) ++ (([.int .u64 a_211_1] : Cs) ++ iv .u8 l_212_2)) 39 :: .cells B_174 (([.int .u64 a_166_0] : Cs) ++ (([.int .u64 a_166_1] : Cs) ++ iv .u8 l_167_2)) 39 :: .sl (some ⟨B_143, 0, none⟩) 1 1 x_148 42 2 :: .cells B_131 (([.int .u64 a_123_0] : Cs) ++ (([.int .u64 a_123_1] : Cs) ++ iv .u8 l_124_2)) 39 :: .sl (some ⟨B_100, 0, none⟩) 3 3 x_105 42 2 :: .cells B_83 (([.int .u64 3] : Cs) ++ ([.slice (some ⟨B_78, 0, none⟩) 160 160] : Cs)) 42 :: R))) := St.hide (A := [_, _, _, _]) (B := [_, _, _, _, _, _, _]) (T := T_258) (R := R) st_278
 obtain ⟨l_286_0, l_286_1, a_290_2, a_290_3, l_286_4, a_292, hr_280, H⟩ := H
 refine WL.call Wanted.none ent30 rfl (disk_Disk_Pending.calls w w_273 T_258 (.cells b_71 (([.pointer (some ⟨b_38, 0, none⟩)] : Cs) ++ (iv .u8 l_263_1 ++ (([.int .i64 a_267_2] : Cs) ++ (([.int .u64 a_267_3] : Cs) ++ (([.int .u64 a_267_4] : Cs) ++ (([.int .u64 a_267_5] : Cs) ++ (iv .u8 l_263_6 ++ (([.int .u64 a_267_7] : Cs) ++ ([.int .u64 a_267_8] : Cs))))))))) 98 :: .cells B_219 (([.int .u64 a_211_0] : Cs) ++ (([.int .u64 a_211_1] : Cs) ++ iv .u8 l_212_2)) 39 :: .cells B_174 (([.int .u64 a_166_0] : Cs) ++ (([.int .u64 a_166_1] : Cs) ++ iv .u8 l_167_2)) 39 :: .sl (some ⟨B_143, 0, none⟩) 1 1 x_148 42 2 :: .cells B_131 (([.int .u64 a_123_0] : Cs) ++ (([.int .u64 a_123_1] : Cs) ++ iv .u8 l_124_2)) 39 :: .sl (some ⟨B_100, 0, none⟩) 3 3 x_105 42 2 :: .cells B_83 (([.int .u64 3] : Cs) ++ ([.slice (some ⟨B_78, 0, none⟩) 160 160] : Cs)) 42 :: R) l_263_0_0 l_263_0_1 a_267_0_2 a_267_0_3 l_263_0_4 b_38 A_260_0_0 n_261_0_0 c_262_0_0 x_264_0_0 A_260_0_1 n_261_0_1 c_262_0_1 x_264_0_1 A_260_0_4 n_261_0_4 c_262_0_4 x_264_0_4  st_279 (hn_265_0_0) hx_266_0_0 (hn_265_0_1) hx_266_0_1 (hn_265_0_4) hx_266_0_4 l_286_0 l_286_1 a_290_2 a_290_3 l_286_4 a_292 hr_280) ?_
 rintro _ w_293 ⟨T_281, A_283_0, n_284_0, c_285_0, x_287_0, A_283_1, n_284_1, c_285_1, x_287_1, A_283_4, n_284_4, c_285_4, x_287_4, hs_282, hn_288_0, hx_289_0, hn_288_1, hx_289_1, hn_288_4, hx_289_4, rfl, sc_295⟩
 have st_294 : St w w_293 (.cells b_38 (([.slice A_283_0 n_284_0 c_285_0] : Cs) ++ (([.slice A_283_1 n_284_1 c_285_1] : Cs) ++ (([.int .i64 a_290_2] : Cs) ++ (([.bool a_290_3] : Cs) ++ ([.slice A_283_4 n_284_4 c_285_4] : Cs))))) 95 :: .sl A_283_0 c_285_0 n_284_0 x_287_0 25 1 :: .sl A_283_1 c_285_1 n_284_1 x_287_1 124 2 :: .sl A_283_4 c_285_4 n_284_4 x_287_4 48 2 :: .cells b_71 (([.pointer (some ⟨b_38, 0, none⟩)] : Cs) ++ (iv .u8 l_263_1 ++ (([.int .i64 a_267_2] : Cs) ++ (([.int .u64 a_267_3] : Cs) ++ (([.int .u64 a_267_4] : Cs) ++ (([.int .u64 a_267_5] : Cs) ++ (iv .u8 l_263_6 ++ (([.int .u64 a_267_7] : Cs) ++ ([.int .u64 a_267_8] : Cs))))))))) 98 :: .cells B_219 (([.int .u64 a_211_0] : Cs) ++ (([.int .u64 a_211_1] : Cs) ++ iv .u8 l_212_2)) 39 :: .cells B_174 (([.int .u64 a_166_0] : Cs) ++ (([.int .u64 a_166_1] : Cs) ++ iv .u8 l_167_2)) 39 :: .sl (some ⟨B_143, 0, none⟩) 1 1 x_148 42 2 :: .cells B_131 (([.int .u64 a_123_0] : Cs) ++ (([.int .u64 a_123_1] : Cs) ++ iv .u8 l_124_2)) 39 :: .sl (some ⟨B_100, 0, none⟩) 3 3 x_105 42 2 :: .cells B_83 (([.int .u64 3] : Cs) ++ ([.slice (some ⟨B_78, 0, none⟩) 160 160] : Cs)) 42 :: (T_281 ++ R)) := St.unhide (A := [_, _, _, _]) (B := [_, _, _, _, _, _, _]) (T := T_281) (R := R) sc_295
 refine ⟨_, rfl, ?_⟩
 refine WL.on ?_ ?_; exact Wanted.guard (dj := 90) (by rfl) (evb (by rfl) h_277) (by rfl)
 refine WL.val Wanted.none (Runs.eql rfl rfl rfl) ?_
 refine WL.val Wanted.none (Runs.pick_t (evb rfl h_277) rfl) ?_
 refine WL.val Wanted.none (Runs.move rfl) ?_
 obtain ⟨c_296, H⟩ := H
 have h_297 : (a_292 == 1) = true := (beq_iff_eq.mpr c_296)
 refine WL.on ?_ ?_; exact Wanted.guard (dj := 95) (by rfl) (evb (by rfl) h_297) (by rfl)
 obtain ⟨m_298, e_299, H⟩ := H
 refine WL.val Wanted.none (Runs.build_arr (xs := m_298) arr23 rfl rfl (by rw [e_299]; rfl)) ?_
 refine WL.on ?_ ?_; exact Wanted.guard (dj := 95) (by rfl) (evb (by rfl) h_297) (by rfl)
 obtain ⟨r_304, hr_300, H⟩ := H
 refine WL.call Wanted.none ent9 rfl (journal_Link.calls w_293 m_298 0 ([] : List Int) none 0 0 (hG0.ext st_294) (by rw [e_299]; rfl) (((HB.nil : HB w T_281 none 0 0 (iv .u8 ([] : List Int)) 0).2.2.at st_294 (mem_T (A := [_, _, _, _, _, _, _, _, _, _, _]) (fun _ h_ => h_)))) ((HB.nil : HB w T_281 none 0 0 (iv .u8 ([] : List Int)) 0).1) ((HB.nil : HB w T_281 none 0 0 (iv .u8 ([] : List Int)) 0).2.1) r_304 hr_300) ?_
 rintro _ w_301 ⟨hl_305, rfl, sc_303⟩
 have st_302 : St w w_301 (.cells b_38 (([.slice A_283_0 n_284_0 c_285_0] : Cs) ++ (([.slice A_283_1 n_284_1 c_285_1] : Cs) ++ (([.int .i64 a_290_2] : Cs) ++ (([.bool a_290_3] : Cs) ++ ([.slice A_283_4 n_284_4 c_285_4] : Cs))))) 95 :: .sl A_283_0 c_285_0 n_284_0 x_287_0 25 1 :: .sl A_283_1 c_285_1 n_284_1 x_287_1 124 2 :: .sl A_283_4 c_285_4 n_284_4 x_287_4 48 2 :: .cells b_71 (([.pointer (some ⟨b_38, 0, none⟩)] : Cs) ++ (iv .u8 l_263_1 ++ (([.int .i64 a_267_2] : Cs) ++ (([.int .u64 a_267_3] : Cs) ++ (([.int .u64 a_267_4] : Cs) ++ (([.int .u64 a_267_5] : Cs) ++ (iv .u8 l_263_6 ++ (([.int .u64 a_267_7] : Cs) ++ ([.int .u64 a_267_8] : Cs))))))))) 98 :: .cells B_219 (([.int .u64 a_211_0] : Cs) ++ (([.int .u64 a_211_1] : Cs) ++ iv .u8 l_212_2)) 39 :: .cells B_174 (([.int .u64 a_166_0] : Cs) ++ (([.int .u64 a_166_1] : Cs) ++ iv .u8 l_167_2)) 39 :: .sl (some ⟨B_143, 0, none⟩) 1 1 x_148 42 2 :: .cells B_131 (([.int .u64 a_123_0] : Cs) ++ (([.int .u64 a_123_1] : Cs) ++ iv .u8 l_124_2)) 39 :: .sl (some ⟨B_100, 0, none⟩) 3 3 x_105 42 2 :: .cells B_83 (([.int .u64 3] : Cs) ++ ([.slice (some ⟨B_78, 0, none⟩) 160 160] : Cs)) 42 :: (T_281 ++ R)) := st_294.call sc_303
 refine ⟨_, rfl, ?_⟩
 refine WL.on ?_ ?_; exact Wanted.guard (dj := 95) (by rfl) (evb (by rfl) h_297) (by rfl)
 obtain ⟨m_306, e_307, H⟩ := H
 refine WL.val Wanted.none (Runs.build_arr (xs := m_306) arr23 rfl rfl (by rw [e_307]; rfl)) ?_
 refine WL.on ?_ ?_; exact Wanted.guard (dj := 95) (by rfl) (evb (by rfl) h_297) (by rfl)
 refine WL.val Wanted.none (Runs.neq_arr arr23 eqg23 rfl rfl hl_305 (by rw [e_307]; rfl) rfl) ?_
 refine WL.val Wanted.none (Runs.pick_t (evb rfl h_297) rfl) ?_
 refine WL.val Wanted.none (Runs.assign rfl) ?_
 refine WL.nil (QW.then_n ?_)
 refine CW.sub [(0, .bool (!(r_304 == m_306)))] ⟨rfl, trivial⟩ ?_
 refine CW.ret ?_
 have hz : (!(r_304 == m_306)) = true := (not_t (beq_eq_false_iff_ne.mpr H))
 exact QW.ret1 rfl (evb rfl hz) ⟨rfl, st_302.ext⟩

/-! ### reliquaryref01_Put: function 33 -/
def reliquaryref01_Put.L1 (a1 : Int) (r0 : List Int) : Nat → (List Int) → Int → Int → Prop
 | 0, _, _, _ => False
 | kL1 + 1, l_10, x_13, x_14 => ((x_14 < a1 ∧ (∃ m_24 : List Int, m_24 = l_10 ++ [IntKind.u8.wrap (Int.tmod x_13 256)] ∧ (m_24.length ≤ 1099511627776 ∧ reliquaryref01_Put.L1 a1 r0 kL1 m_24 (IntKind.u64.wrap (Int.tdiv x_13 256)) (IntKind.i64.wrap (x_14 + 1))))) ∨ (¬ (x_14 < a1) ∧ r0 = l_10))
def reliquaryref01_Put.rel (a0 : Int) (a1 : Int) (r0 : List Int) : Prop := ((a1 > 8 ∧ r0 = []) ∨ (¬ (a1 > 8) ∧ (∃ k_ : Nat, reliquaryref01_Put.L1 a1 r0 k_ ([] : List Int) a0 0)))
set_option maxHeartbeats 4000000 in
set_option maxRecDepth 100000 in
theorem reliquaryref01_Put.calls (w : World) (a0 : Int) (a1 : Int)    (r0 : List Int) (H : reliquaryref01_Put.rel a0 a1 r0) :
  Calls Tryd.prog 33 #[.int .u64 a0, .int .i64 a1] w fun e w' => ∃ B0 q0 z0, z0 = r0.length ∧ e = .returned (.slice B0 z0 q0) ∧ St w w' [.sl B0 q0 z0 (iv .u8 r0) 5 1] := by
 refine CW.enter Tryd.func33 rfl (n := 24) rfl [.int .u64 a0, .int .i64 a1] (Nat.le_of_ble_eq_true rfl) ?_
 refine CW.sub [(0, .int .u64 a0), (1, .int .i64 a1)] ⟨rfl, rfl, trivial⟩ ?_
 have st0 : St w w [] := St.refl w
 refine CW.seq (CW.region ?_)
 refine WL.val Wanted.none (Runs.assign rfl) ?_
 refine WL.nil (QW.then_n ?_)
 refine CW.seq (CW.region ?_)
 refine WL.val Wanted.none (Runs.assign rfl) ?_
 refine WL.nil (QW.then_n ?_)
 refine CW.seq ?_
 refine CW.seq (CW.region ?_)
 refine WL.val Wanted.none (Runs.move rfl) ?_
 refine WL.val Wanted.none (Runs.gtr rfl rfl rfl) ?_
 refine WL.nil (QW.then_n ?_)
 rcases H with ⟨c_1, H⟩ | ⟨c_1, H⟩
 ·have h_2 : (decide (a1 > 8)) = true := (decide_eq_true c_1)
  refine CW.ct rfl h_2 ?_
  refine CW.seq (CW.region ?_)
  refine WL.val Wanted.none (Runs.move rfl) ?_
  refine WL.val Wanted.none (Runs.assign rfl) ?_
  refine WL.nil (QW.then_n ?_)
  refine CW.ret ?_
  refine QW.then_r ?_
  have st_4 := st0.nil_sl 5 1
  have st_4 : St w w [.sl none 0 0 (iv .u8 ([] : List Int)) 5 1] := st_4
  obtain rfl := H
  exact QW.ret1 rfl rfl ⟨none, 0, 0, rfl, rfl, st_4.pick [0] (by decide)⟩
 ·have h_2 : (decide (a1 > 8)) = false := (decide_eq_false c_1)
  refine CW.cf rfl h_2 ?_
  refine CW.skip ?_
  refine QW.then_n ?_
  refine CW.seq ?_
  refine CW.seq (CW.region ?_)
  refine WL.val Wanted.none (Runs.assign rfl) ?_
  refine WL.nil (QW.then_n ?_)
  refine CW.block ?_
  have st_6 := st0.nil_sl 5 1
  have st_6 : St w w [.sl none 0 0 (iv .u8 ([] : List Int)) 5 1] := st_6
  obtain ⟨k_7, H⟩ := H
  refine CW.sub [(0, .int .u64 a0), (1, .int .i64 a1), (4, .slice none 0 0), (5, .slice none 0 0), (6, .int .i64 0)] ⟨rfl, rfl, rfl, rfl, rfl, trivial⟩ ?_
  refine CW.loop (fun kL1 l_ w_ => ∃ (A_8 : Option Addr) (c_9 : Nat) (n_11 : Nat) (l_10 : List Int) (x_13 : Int) (x_14 : Int), l_ = [(0, .int .u64 x_13), (1, .int .i64 a1), (4, .slice none 0 0), (5, .slice A_8 n_11 c_9), (6, .int .i64 x_14)] ∧ reliquaryref01_Put.L1 a1 r0 kL1 l_10 x_13 x_14 ∧ (n_11 = l_10.length) ∧ St w w_ [.sl A_8 c_9 n_11 (iv .u8 l_10) 5 1]) (k := k_7) ⟨none, 0, 0, ([] : List Int), a0, 0, rfl, H, rfl, st_6⟩ (fun _ _ h => by obtain ⟨_, _, _, _, _, _, _, h, _⟩ := h; exact h.elim) ?_
  rintro kL1 l_17 w_15 ⟨A_8, c_9, n_11, l_10, x_13, x_14, rfl, H, hn_12, st_16⟩
  refine CW.seq ?_
  refine CW.seq (CW.region ?_)
  refine WL.val Wanted.none (Runs.move rfl) ?_
  refine WL.val Wanted.none (Runs.move rfl) ?_
  refine WL.val Wanted.none (Runs.lss rfl rfl rfl) ?_
  refine WL.nil (QW.then_n ?_)
  rcases H with ⟨c_18, H⟩ | ⟨c_18, H⟩
  ·have h_19 : (decide (x_14 < a1)) = true := (decide_eq_true c_18)
   refine CW.ct rfl h_19 ?_
   refine CW.skip ?_
   refine QW.then_n ?_
   refine CW.seq ?_
   refine CW.block ?_
   refine CW.seq (CW.region ?_)
   refine WL.val Wanted.none (Runs.move rfl) ?_
   refine WL.val Wanted.none (Runs.move rfl) ?_
   refine WL.val Wanted.none (Runs.rem rfl rfl (by decide) rfl) ?_
   refine WL.val Wanted.none (Runs.conv Tryd.underlying5 ⟨_, Tryd.underlying37⟩ rfl rfl) ?_
   refine WL.buildSl [.int .u8 (IntKind.u8.wrap (Int.tmod x_13 256))] st_16 Tryd.underlying25 elem5 rfl rfl (by decide) (by decide) (by simp [Value.cells]) ?_
   intro B_20 w_21 st_22
   replace st_22 : St w w_21 [.sl (some ⟨B_20, 0, none⟩) 1 1 (iv .u8 [IntKind.u8.wrap (Int.tmod x_13 256)]) 5 1, .sl A_8 c_9 n_11 (iv .u8 l_10) 5 1] := st_22
   obtain ⟨m_24, e_25, H⟩ := H
   obtain ⟨z_26, H⟩ := H
   obtain ⟨n_29, hn_32⟩ : ∃ n_ : Nat, n_ = m_24.length := ⟨_, rfl⟩
   refine WL.append (i := 1) Wanted.none st_22 rfl Tryd.underlying25 elem5 rfl rfl (st_22.src_sl (k := 0) rfl) (by rw [iv_length]; exact (Eq.refl _).symm) (one_iv .u8 _) (by decide) (N := n_29) (by rw [hn_32, e_25, List.length_append]; exact congr (congrArg HAdd.hAdd (hn_12)) (rfl)) (by rw [hn_32]; exact z_26) ?_
   intro A_27 c_28 w_30 st_31
   have st_31' : St w w_30 [.sl (some ⟨B_20, 0, none⟩) 1 1 (iv .u8 [IntKind.u8.wrap (Int.tmod x_13 256)]) 5 1, .sl A_27 c_28 n_29 (iv .u8 m_24) 5 1] := by rw [e_25, ← iv_append .u8 l_10 [IntKind.u8.wrap (Int.tmod x_13 256)]]; exact st_31
   refine WL.val Wanted.none (Runs.assign rfl) ?_
   refine WL.nil (QW.then_n ?_)
   refine CW.region ?_
   refine WL.val Wanted.none (Runs.move rfl) ?_
   refine WL.val Wanted.none (Runs.quo rfl rfl (by decide) rfl) ?_
   refine WL.val Wanted.none (Runs.assign rfl) ?_
   refine WL.nil ?_
   refine QW.blk_n ?_
   refine QW.then_n ?_
   refine CW.region ?_
   refine WL.val Wanted.none (Runs.move rfl) ?_
   refine WL.val Wanted.none (Runs.add rfl rfl rfl) ?_
   refine WL.val Wanted.none (Runs.assign rfl) ?_
   refine WL.nil ?_
   have st_31'' := st_31'.pick [1] (by decide)
   exact QW.at _ (by repeat' constructor) ⟨A_27, c_28, n_29, m_24, IntKind.u64.wrap (Int.tdiv x_13 256), IntKind.i64.wrap (x_14 + 1), rfl, H, hn_32, st_31''⟩
  ·have h_19 : (decide (x_14 < a1)) = false := (decide_eq_false c_18)
   refine CW.cf rfl h_19 ?_
   refine CW.exit ?_
   refine QW.then_x ?_
   refine QW.then_x ?_
   refine QW.blk_x ?_
   refine QW.then_n ?_
   refine CW.sub [(4, .slice none 0 0), (5, .slice A_8 n_11 c_9)] ⟨rfl, rfl, trivial⟩ ?_
   refine CW.seq (CW.region ?_)
   refine WL.val Wanted.none (Runs.move rfl) ?_
   refine WL.val Wanted.none (Runs.assign rfl) ?_
   refine WL.nil (QW.then_n ?_)
   refine CW.ret ?_
   obtain rfl := H
   exact QW.ret1 rfl rfl ⟨A_8, c_9, n_11, hn_12, rfl, st_16.pick [0] (by decide)⟩

/-! ### reliquaryref02_right: function 75 -/
def reliquaryref02_right.rel (a0 : Int) (a1 : Int) (r0 : Int) : Prop := (0 ≤ a1 ∧ (0 ≤ (IntKind.u64.wrap (32 - a1)) ∧ (∃ x_3 : Int, x_3 = bits .or .u32 (shrI .u32 a0 a1) (shlI .u32 a0 (IntKind.u64.wrap (32 - a1))) ∧ r0 = x_3)))
set_option maxHeartbeats 4000000 in
set_option maxRecDepth 100000 in
theorem reliquaryref02_right.calls (w : World) (a0 : Int) (a1 : Int)    (r0 : Int) (H : reliquaryref02_right.rel a0 a1 r0) :
  Calls Tryd.prog 75 #[.int .u32 a0, .int .u64 a1] w fun e w' => e = .returned (.int .u32 r0) ∧ St w w' [] := by
 refine CW.enter Tryd.func75 rfl (n := 13) rfl [.int .u32 a0, .int .u64 a1] (Nat.le_of_ble_eq_true rfl) ?_
 refine CW.sub [(0, .int .u32 a0), (1, .int .u64 a1)] ⟨rfl, rfl, trivial⟩ ?_
 have st0 : St w w [] := St.refl w
 refine CW.seq (CW.region ?_)
 refine WL.val Wanted.none (Runs.assign rfl) ?_
 refine WL.nil (QW.then_n ?_)
 refine CW.seq (CW.region ?_)
 refine WL.val Wanted.none (Runs.move rfl) ?_
 refine WL.val Wanted.none (Runs.move rfl) ?_
 obtain ⟨z_1, H⟩ := H
 refine WL.val Wanted.none (Runs.shr rfl rfl z_1 rfl) ?_
 refine WL.val Wanted.none (Runs.move rfl) ?_
 refine WL.val Wanted.none (Runs.move rfl) ?_
 refine WL.val Wanted.none (Runs.sub rfl rfl rfl) ?_
 obtain ⟨z_2, H⟩ := H
 refine WL.val Wanted.none (Runs.shl rfl rfl z_2 rfl) ?_
 obtain ⟨x_3, e_4, H⟩ := H
 refine WL.val Wanted.none (Runs.bor rfl rfl e_4) ?_
 refine WL.val Wanted.none (Runs.assign rfl) ?_
 refine WL.nil (QW.then_n ?_)
 refine CW.sub [(4, .int .u32 x_3)] ⟨rfl, trivial⟩ ?_
 refine CW.ret ?_
 obtain rfl := H
 exact QW.ret1 rfl rfl ⟨rfl, st0.pick [] (by decide)⟩

/-! ### reliquaryref02_Rounds: function 76 -/
def reliquaryref02_Rounds.rel  (r0 : List Int) : Prop := (∃ m_5 : List Int, m_5 = [1116352408, 1899447441, 3049323471, 3921009573, 961987163, 1508970993, 2453635748, 2870763221, 3624381080, 310598401, 607225278, 1426881987, 1925078388, 2162078206, 2614888103, 3248222580, 3835390401, 4022224774, 264347078, 604807628, 770255983, 1249150122, 1555081692, 1996064986, 2554220882, 2821834349, 2952996808, 3210313671, 3336571891, 3584528711, 113926993, 338241895, 666307205, 773529912, 1294757372, 1396182291, 1695183700, 1986661051, 2177026350, 2456956037, 2730485921, 2820302411, 3259730800, 3345764771, 3516065817, 3600352804, 4094571909, 275423344, 430227734, 506948616, 659060556, 883997877, 958139571, 1322822218, 1537002063, 1747873779, 1955562222, 2024104815, 2227730452, 2361852424, 2428436474, 2756734187, 3204031479, 3329325298] ∧ r0 = m_5)
set_option maxHeartbeats 4000000 in
set_option maxRecDepth 100000 in
theorem reliquaryref02_Rounds.calls (w : World)     (r0 : List Int) (H : reliquaryref02_Rounds.rel  r0) :
  Calls Tryd.prog 76 #[] w fun e w' => r0.length = 64 ∧ e = .returned (.agg (iv .u32 r0).toArray) ∧ St w w' [] := by
 refine CW.enter Tryd.func76 rfl (n := 2) rfl [] (Nat.le_of_ble_eq_true rfl) ?_
 refine CW.sub [] trivial ?_
 have st0 : St w w [] := St.refl w
 refine CW.seq (CW.region ?_)
 refine WL.alloc st0 arr154.zero ?_
 intro B_1 w_2 st_3
 replace st_3 : St w w_2 [.cells B_1 (iv .u32 (List.replicate 64 (0 : Int))) 154] := st_3
 refine WL.nil (QW.then_n ?_)
 refine CW.seq (CW.region ?_)
 obtain ⟨m_5, e_6, H⟩ := H
 refine WL.val Wanted.none (Runs.build_arr (xs := m_5) arr154 rfl rfl (by rw [e_6]; rfl)) ?_
 refine WL.store_arr (i := 0) st_3 rfl arr154 rfl (by rw [iv_length]; exact (List.length_replicate ..)) (by rw [e_6]; rfl) rfl ?_
 intro w_7 st_8
 replace st_8 : St w w_7 [.cells B_1 (iv .u32 m_5) 154] := st_8
 refine WL.nil (QW.then_n ?_)
 refine CW.ret ?_
 obtain rfl := H
 exact QW.retc rfl arr154 rfl (st_8.blk (i := 0) rfl) (by rw [e_6]; rfl) ⟨(by rw [e_6]; rfl), rfl, st_8.pick [] (by decide)⟩

/-! ### reliquaryref02_block: function 57 -/
def reliquaryref02_block.L4 (m_62 : List Int) (x_150 : Int) (x_177 : Int) (r_187 : Int) (r_192 : Int) (r_197 : Int) (x_200 : Int) (K_L3 : (List Int) → Int → Prop) : Nat → (List Int) → Int → Prop
 | 0, _, _ => False
 | kL4 + 1, m_203, x_205 => ((x_205 > 0 ∧ ((0 ≤ (IntKind.i64.wrap (x_205 - 1)) ∧ (IntKind.i64.wrap (x_205 - 1)) < (8 : Int)) ∧ ((0 ≤ x_205 ∧ x_205 < (8 : Int)) ∧ (∃ m_215 : List Int, m_215 = List.set m_203 (x_205.toNat) (gn m_203 ((IntKind.i64.wrap (x_205 - 1)).toNat)) ∧ reliquaryref02_block.L4 m_62 x_150 x_177 r_187 r_192 r_197 x_200 K_L3 kL4 m_215 (IntKind.i64.wrap (x_205 - 1)))))) ∨ (¬ (x_205 > 0) ∧ (∃ x_220 : Int, x_220 = IntKind.u32.wrap ((gn m_203 4) + (IntKind.u32.wrap (x_177 + (gn m_62 (x_150.toNat))))) ∧ (∃ m_222 : List Int, m_222 = List.set m_203 4 x_220 ∧ (∃ x_227 : Int, x_227 = IntKind.u32.wrap ((IntKind.u32.wrap (x_177 + (gn m_62 (x_150.toNat)))) + (bits .xor .u32 (bits .xor .u32 r_187 r_192) r_197)) ∧ (∃ m_229 : List Int, m_229 = List.set m_222 0 (IntKind.u32.wrap (x_227 + x_200)) ∧ K_L3 m_229 (IntKind.i64.wrap (x_150 + 1))))))))
def reliquaryref02_block.L5 (l0 : List Int) (r0 : List Int) : Nat → (List Int) → Int → Prop
 | 0, _, _ => False
 | kL5 + 1, m_235, x_237 => ((x_237 < 8 ∧ ((0 ≤ x_237 ∧ x_237 < (8 : Int)) ∧ ((0 ≤ x_237 ∧ x_237 < (8 : Int)) ∧ (∃ x_247 : Int, x_247 = IntKind.u32.wrap ((gn m_235 (x_237.toNat)) + (gn l0 (x_237.toNat))) ∧ ((0 ≤ x_237 ∧ x_237 < (8 : Int)) ∧ (∃ m_253 : List Int, m_253 = List.set m_235 (x_237.toNat) x_247 ∧ reliquaryref02_block.L5 l0 r0 kL5 m_253 (IntKind.i64.wrap (x_237 + 1)))))))) ∨ (¬ (x_237 < 8) ∧ r0 = m_235))
def reliquaryref02_block.L3 (l0 : List Int) (r0 : List Int) (m_62 : List Int) (r_131 : List Int) : Nat → (List Int) → Int → Prop
 | 0, _, _ => False
 | kL3 + 1, m_148, x_150 => ((x_150 < 64 ∧ (∃ (r_160 : Int), reliquaryref02_right.rel (gn m_148 4) 6 r_160 ∧ (∃ (r_165 : Int), reliquaryref02_right.rel (gn m_148 4) 11 r_165 ∧ (∃ (r_170 : Int), reliquaryref02_right.rel (gn m_148 4) 25 r_170 ∧ (∃ x_171 : Int, x_171 = bits .xor .u32 (bits .and .u32 (gn m_148 4) (gn m_148 5)) (bits .and .u32 (notI .u32 (gn m_148 4)) (gn m_148 6)) ∧ (∃ x_173 : Int, x_173 = IntKind.u32.wrap ((gn m_148 7) + (bits .xor .u32 (bits .xor .u32 r_160 r_165) r_170)) ∧ ((0 ≤ x_150 ∧ x_150 < (64 : Int)) ∧ (∃ x_177 : Int, x_177 = IntKind.u32.wrap ((IntKind.u32.wrap (x_173 + x_171)) + (gn r_131 (x_150.toNat))) ∧ ((0 ≤ x_150 ∧ x_150 < (64 : Int)) ∧ (∃ (r_187 : Int), reliquaryref02_right.rel (gn m_148 0) 2 r_187 ∧ (∃ (r_192 : Int), reliquaryref02_right.rel (gn m_148 0) 13 r_192 ∧ (∃ (r_197 : Int), reliquaryref02_right.rel (gn m_148 0) 22 r_197 ∧ (∃ x_198 : Int, x_198 = bits .xor .u32 (bits .and .u32 (gn m_148 0) (gn m_148 1)) (bits .and .u32 (gn m_148 0) (gn m_148 2)) ∧ (∃ x_200 : Int, x_200 = bits .xor .u32 x_198 (bits .and .u32 (gn m_148 1) (gn m_148 2)) ∧ (∃ k_ : Nat, reliquaryref02_block.L4 m_62 x_150 x_177 r_187 r_192 r_197 x_200 (reliquaryref02_block.L3 l0 r0 m_62 r_131 kL3) k_ m_148 7))))))))))))))) ∨ (¬ (x_150 < 64) ∧ (∃ k_ : Nat, reliquaryref02_block.L5 l0 r0 k_ m_148 0)))
def reliquaryref02_block.L2 (l0 : List Int) (r0 : List Int) : Nat → (List Int) → Int → Prop
 | 0, _, _ => False
 | kL2 + 1, m_62, x_64 => ((x_64 < 64 ∧ ((0 ≤ (IntKind.i64.wrap (x_64 - 15)) ∧ (IntKind.i64.wrap (x_64 - 15)) < (64 : Int)) ∧ (∃ (r_76 : Int), reliquaryref02_right.rel (gn m_62 ((IntKind.i64.wrap (x_64 - 15)).toNat)) 7 r_76 ∧ ((0 ≤ (IntKind.i64.wrap (x_64 - 15)) ∧ (IntKind.i64.wrap (x_64 - 15)) < (64 : Int)) ∧ (∃ (r_83 : Int), reliquaryref02_right.rel (gn m_62 ((IntKind.i64.wrap (x_64 - 15)).toNat)) 18 r_83 ∧ ((0 ≤ (IntKind.i64.wrap (x_64 - 15)) ∧ (IntKind.i64.wrap (x_64 - 15)) < (64 : Int)) ∧ (∃ x_86 : Int, x_86 = bits .xor .u32 (bits .xor .u32 r_76 r_83) (shrI .u32 (gn m_62 ((IntKind.i64.wrap (x_64 - 15)).toNat)) 3) ∧ ((0 ≤ (IntKind.i64.wrap (x_64 - 2)) ∧ (IntKind.i64.wrap (x_64 - 2)) < (64 : Int)) ∧ (∃ (r_96 : Int), reliquaryref02_right.rel (gn m_62 ((IntKind.i64.wrap (x_64 - 2)).toNat)) 17 r_96 ∧ ((0 ≤ (IntKind.i64.wrap (x_64 - 2)) ∧ (IntKind.i64.wrap (x_64 - 2)) < (64 : Int)) ∧ (∃ (r_103 : Int), reliquaryref02_right.rel (gn m_62 ((IntKind.i64.wrap (x_64 - 2)).toNat)) 19 r_103 ∧ ((0 ≤ (IntKind.i64.wrap (x_64 - 2)) ∧ (IntKind.i64.wrap (x_64 - 2)) < (64 : Int)) ∧ (∃ x_106 : Int, x_106 = bits .xor .u32 (bits .xor .u32 r_96 r_103) (shrI .u32 (gn m_62 ((IntKind.i64.wrap (x_64 - 2)).toNat)) 10) ∧ ((0 ≤ (IntKind.i64.wrap (x_64 - 16)) ∧ (IntKind.i64.wrap (x_64 - 16)) < (64 : Int)) ∧ (∃ x_112 : Int, x_112 = IntKind.u32.wrap ((gn m_62 ((IntKind.i64.wrap (x_64 - 16)).toNat)) + x_86) ∧ ((0 ≤ (IntKind.i64.wrap (x_64 - 7)) ∧ (IntKind.i64.wrap (x_64 - 7)) < (64 : Int)) ∧ (∃ x_116 : Int, x_116 = IntKind.u32.wrap (x_112 + (gn m_62 ((IntKind.i64.wrap (x_64 - 7)).toNat))) ∧ ((0 ≤ x_64 ∧ x_64 < (64 : Int)) ∧ (∃ m_122 : List Int, m_122 = List.set m_62 (x_64.toNat) (IntKind.u32.wrap (x_116 + x_106)) ∧ reliquaryref02_block.L2 l0 r0 kL2 m_122 (IntKind.i64.wrap (x_64 + 1))))))))))))))))))))) ∨ (¬ (x_64 < 64) ∧ (∃ (r_131 : List Int), reliquaryref02_Rounds.rel  r_131 ∧ (∃ k_ : Nat, reliquaryref02_block.L3 l0 r0 m_62 r_131 k_ l0 0))))
def reliquaryref02_block.L1 (l0 : List Int) (l1 : List Int) (a2 : Int) (r0 : List Int) : Nat → (List Int) → Int → Prop
 | 0, _, _ => False
 | kL1 + 1, m_14, x_16 => ((x_16 < 16 ∧ ((0 ≤ (IntKind.i64.wrap (a2 + (IntKind.i64.wrap (4 * x_16)))) ∧ (IntKind.i64.wrap (a2 + (IntKind.i64.wrap (4 * x_16)))) < (l1.length : Int)) ∧ (∃ x_26 : Int, x_26 = IntKind.u32.wrap (gn l1 ((IntKind.i64.wrap (a2 + (IntKind.i64.wrap (4 * x_16)))).toNat)) ∧ (∃ x_28 : Int, x_28 = IntKind.i64.wrap ((IntKind.i64.wrap (a2 + (IntKind.i64.wrap (4 * x_16)))) + 1) ∧ ((0 ≤ x_28 ∧ x_28 < (l1.length : Int)) ∧ (∃ x_34 : Int, x_34 = IntKind.u32.wrap ((shlI .u32 x_26 24) + (shlI .u32 (IntKind.u32.wrap (gn l1 (x_28.toNat))) 16)) ∧ (∃ x_36 : Int, x_36 = IntKind.i64.wrap ((IntKind.i64.wrap (a2 + (IntKind.i64.wrap (4 * x_16)))) + 2) ∧ ((0 ≤ x_36 ∧ x_36 < (l1.length : Int)) ∧ (∃ x_42 : Int, x_42 = IntKind.u32.wrap (x_34 + (shlI .u32 (IntKind.u32.wrap (gn l1 (x_36.toNat))) 8)) ∧ (∃ x_44 : Int, x_44 = IntKind.i64.wrap ((IntKind.i64.wrap (a2 + (IntKind.i64.wrap (4 * x_16)))) + 3) ∧ ((0 ≤ x_44 ∧ x_44 < (l1.length : Int)) ∧ (∃ x_50 : Int, x_50 = IntKind.u32.wrap (x_42 + (IntKind.u32.wrap (gn l1 (x_44.toNat)))) ∧ ((0 ≤ x_16 ∧ x_16 < (64 : Int)) ∧ (∃ m_56 : List Int, m_56 = List.set m_14 (x_16.toNat) x_50 ∧ reliquaryref02_block.L1 l0 l1 a2 r0 kL1 m_56 (IntKind.i64.wrap (x_16 + 1)))))))))))))))) ∨ (¬ (x_16 < 16) ∧ (∃ k_ : Nat, reliquaryref02_block.L2 l0 r0 k_ m_14 16)))
def reliquaryref02_block.rel (l0 : List Int) (l1 : List Int) (a2 : Int) (r0 : List Int) : Prop := (∃ k_ : Nat, reliquaryref02_block.L1 l0 l1 a2 r0 k_ (List.replicate 64 (0 : Int)) 0)
set_option maxHeartbeats 4000000 in
set_option maxRecDepth 100000 in
theorem reliquaryref02_block.calls (w : World) (l0 : List Int) (l1 : List Int) (a2 : Int) (A1 : Option Addr) (n1 : Nat) (c1 : Nat)  (hl0 : l0.length = 8) (hs1 : Src w A1 (iv .u8 l1)) (hn1 : n1 = l1.length) (hc1 : n1 ≤ c1) (r0 : List Int) (H : reliquaryref02_block.rel l0 l1 a2 r0) :
  Calls Tryd.prog 57 #[.agg (iv .u32 l0).toArray, .slice A1 n1 c1, .int .i64 a2] w fun e w' => r0.length = 8 ∧ e = .returned (.agg (iv .u32 r0).toArray) ∧ St w w' [] := by
 refine CW.enter Tryd.func57 rfl (n := 223) rfl [.agg (iv .u32 l0).toArray, .slice A1 n1 c1, .int .i64 a2] (Nat.le_of_ble_eq_true rfl) ?_
 refine CW.sub [(0, .agg (iv .u32 l0).toArray), (1, .slice A1 n1 c1), (2, .int .i64 a2)] ⟨rfl, rfl, rfl, trivial⟩ ?_
 have st0 : St w w [] := St.refl w
 refine CW.seq (CW.region ?_)
 refine WL.box st0 rfl rfl ?_
 intro B_1 w_2 st_3
 replace st_3 : St w w_2 [.cells B_1 (iv .u32 l0) 134] := st_3
 refine WL.alloc st_3 arr134.zero ?_
 intro B_5 w_6 st_7
 replace st_7 : St w w_6 [.cells B_5 (iv .u32 (List.replicate 8 (0 : Int))) 134, .cells B_1 (iv .u32 l0) 134] := st_7
 refine WL.nil (QW.then_n ?_)
 refine CW.seq (CW.region ?_)
 refine WL.alloc st_7 arr154.zero ?_
 intro B_9 w_10 st_11
 replace st_11 : St w w_10 [.cells B_9 (iv .u32 (List.replicate 64 (0 : Int))) 154, .cells B_5 (iv .u32 (List.replicate 8 (0 : Int))) 134, .cells B_1 (iv .u32 l0) 134] := st_11
 refine WL.nil (QW.then_n ?_)
 refine CW.seq ?_
 refine CW.seq (CW.region ?_)
 refine WL.val Wanted.none (Runs.assign rfl) ?_
 refine WL.nil (QW.then_n ?_)
 refine CW.block ?_
 obtain ⟨k_13, H⟩ := H
 refine CW.sub [(1, .slice A1 n1 c1), (2, .int .i64 a2), (3, .pointer (some ⟨B_1, 0, none⟩)), (6, .pointer (some ⟨B_5, 0, none⟩)), (7, .pointer (some ⟨B_9, 0, none⟩)), (8, .int .i64 0)] (by repeat' constructor) ?_
 refine CW.loop (fun kL1 l_ w_ => ∃ (m_14 : List Int) (x_16 : Int), l_ = [(1, .slice A1 n1 c1), (2, .int .i64 a2), (3, .pointer (some ⟨B_1, 0, none⟩)), (6, .pointer (some ⟨B_5, 0, none⟩)), (7, .pointer (some ⟨B_9, 0, none⟩)), (8, .int .i64 x_16)] ∧ reliquaryref02_block.L1 l0 l1 a2 r0 kL1 m_14 x_16 ∧ (m_14.length = 64) ∧ St w w_ [.cells B_9 (iv .u32 m_14) 154, .cells B_5 (iv .u32 (List.replicate 8 (0 : Int))) 134, .cells B_1 (iv .u32 l0) 134]) (k := k_13) ⟨List.replicate 64 (0 : Int), 0, rfl, H, (List.length_replicate ..), st_11⟩ (fun _ _ h => by obtain ⟨_, _, _, h, _⟩ := h; exact h.elim) ?_
 rintro kL1 l_19 w_17 ⟨m_14, x_16, rfl, H, hl_15, st_18⟩
 refine CW.seq ?_
 refine CW.seq (CW.region ?_)
 refine WL.val Wanted.none (Runs.move rfl) ?_
 refine WL.val Wanted.none (Runs.lss rfl rfl rfl) ?_
 refine WL.nil (QW.then_n ?_)
 rcases H with ⟨c_20, H⟩ | ⟨c_20, H⟩
 ·have h_21 : (decide (x_16 < 16)) = true := (decide_eq_true c_20)
  refine CW.ct rfl h_21 ?_
  refine CW.skip ?_
  refine QW.then_n ?_
  refine CW.seq ?_
  refine CW.block ?_
  refine CW.region_qt 43 wide (by kernel_rfl) st_18 ?_
  refine HL.val Wanted.none (fun wq sq => (Runs.move rfl)) ?_
  refine HL.val Wanted.none (fun wq sq => (Runs.move rfl)) ?_
  refine HL.val Wanted.none (fun wq sq => (Runs.move rfl)) ?_
  refine HL.val Wanted.none (fun wq sq => (Runs.move rfl)) ?_
  refine HL.val Wanted.none (fun wq sq => (Runs.mul rfl rfl rfl)) ?_
  refine HL.val Wanted.none (fun wq sq => (Runs.add rfl rfl rfl)) ?_
  obtain ⟨⟨p_22, q_23⟩, H⟩ := H
  obtain ⟨a_24, e_25⟩ := (hs1.ext st_18).addr_iv ((IntKind.i64.wrap (a2 + (IntKind.i64.wrap (4 * x_16)))).toNat) (by omega)
  refine HL.val Wanted.none (fun wq sq => (Runs.indexAddr Tryd.underlying25 cells5 (by decide) rfl e_25 rfl p_22 (by rw [hn1]; exact q_23) (o := (IntKind.i64.wrap (a2 + (IntKind.i64.wrap (4 * x_16)))).toNat) (by first | rfl | omega))) ?_
  refine HL.val Wanted.none (fun wq sq => (Runs.load nagg5 rfl ((hs1.ext sq).cell_iv e_25 (by omega)))) ?_
  obtain ⟨x_26, e_27, H⟩ := H
  refine HL.val Wanted.none (fun wq sq => (Runs.conv Tryd.underlying24 ⟨_, Tryd.underlying5⟩ rfl e_27)) ?_
  refine HL.val Wanted.none (fun wq sq => (Runs.shl rfl rfl (by decide) rfl)) ?_
  refine HL.val Wanted.none (fun wq sq => (Runs.move rfl)) ?_
  refine HL.val Wanted.none (fun wq sq => (Runs.move rfl)) ?_
  refine HL.val Wanted.none (fun wq sq => (Runs.move rfl)) ?_
  refine HL.val Wanted.none (fun wq sq => (Runs.mul rfl rfl rfl)) ?_
  refine HL.val Wanted.none (fun wq sq => (Runs.add rfl rfl rfl)) ?_
  obtain ⟨x_28, e_29, H⟩ := H
  refine HL.val Wanted.none (fun wq sq => (Runs.add rfl rfl e_29)) ?_
  obtain ⟨⟨p_30, q_31⟩, H⟩ := H
  obtain ⟨a_32, e_33⟩ := (hs1.ext st_18).addr_iv (x_28.toNat) (by omega)
  refine HL.val Wanted.none (fun wq sq => (Runs.indexAddr Tryd.underlying25 cells5 (by decide) rfl e_33 rfl p_30 (by rw [hn1]; exact q_31) (o := (x_28).toNat) (by first | rfl | omega))) ?_
  refine HL.val Wanted.none (fun wq sq => (Runs.load nagg5 rfl ((hs1.ext sq).cell_iv e_33 (by omega)))) ?_
  refine HL.val Wanted.none (fun wq sq => (Runs.conv Tryd.underlying24 ⟨_, Tryd.underlying5⟩ rfl rfl)) ?_
  refine HL.val Wanted.none (fun wq sq => (Runs.shl rfl rfl (by decide) rfl)) ?_
  obtain ⟨x_34, e_35, H⟩ := H
  refine HL.val Wanted.none (fun wq sq => (Runs.add rfl rfl e_35)) ?_
  refine HL.val Wanted.none (fun wq sq => (Runs.move rfl)) ?_
  refine HL.val Wanted.none (fun wq sq => (Runs.move rfl)) ?_
  refine HL.val Wanted.none (fun wq sq => (Runs.move rfl)) ?_
  refine HL.val Wanted.none (fun wq sq => (Runs.mul rfl rfl rfl)) ?_
  refine HL.val Wanted.none (fun wq sq => (Runs.add rfl rfl rfl)) ?_
  obtain ⟨x_36, e_37, H⟩ := H
  refine HL.val Wanted.none (fun wq sq => (Runs.add rfl rfl e_37)) ?_
  obtain ⟨⟨p_38, q_39⟩, H⟩ := H
  obtain ⟨a_40, e_41⟩ := (hs1.ext st_18).addr_iv (x_36.toNat) (by omega)
  refine HL.val Wanted.none (fun wq sq => (Runs.indexAddr Tryd.underlying25 cells5 (by decide) rfl e_41 rfl p_38 (by rw [hn1]; exact q_39) (o := (x_36).toNat) (by first | rfl | omega))) ?_
  refine HL.val Wanted.none (fun wq sq => (Runs.load nagg5 rfl ((hs1.ext sq).cell_iv e_41 (by omega)))) ?_
  refine HL.val Wanted.none (fun wq sq => (Runs.conv Tryd.underlying24 ⟨_, Tryd.underlying5⟩ rfl rfl)) ?_
  refine HL.val Wanted.none (fun wq sq => (Runs.shl rfl rfl (by decide) rfl)) ?_
  obtain ⟨x_42, e_43, H⟩ := H
  refine HL.val Wanted.none (fun wq sq => (Runs.add rfl rfl e_43)) ?_
  refine HL.val Wanted.none (fun wq sq => (Runs.move rfl)) ?_
  refine HL.val Wanted.none (fun wq sq => (Runs.move rfl)) ?_
  refine HL.val Wanted.none (fun wq sq => (Runs.move rfl)) ?_
  refine HL.val Wanted.none (fun wq sq => (Runs.mul rfl rfl rfl)) ?_
  refine HL.val Wanted.none (fun wq sq => (Runs.add rfl rfl rfl)) ?_
  obtain ⟨x_44, e_45, H⟩ := H
  refine HL.val Wanted.none (fun wq sq => (Runs.add rfl rfl e_45)) ?_
  obtain ⟨⟨p_46, q_47⟩, H⟩ := H
  obtain ⟨a_48, e_49⟩ := (hs1.ext st_18).addr_iv (x_44.toNat) (by omega)
  refine HL.val Wanted.none (fun wq sq => (Runs.indexAddr Tryd.underlying25 cells5 (by decide) rfl e_49 rfl p_46 (by rw [hn1]; exact q_47) (o := (x_44).toNat) (by first | rfl | omega))) ?_
  refine HL.val Wanted.none (fun wq sq => (Runs.load nagg5 rfl ((hs1.ext sq).cell_iv e_49 (by omega)))) ?_
  refine HL.val Wanted.none (fun wq sq => (Runs.conv Tryd.underlying24 ⟨_, Tryd.underlying5⟩ rfl rfl)) ?_
  obtain ⟨x_50, e_51, H⟩ := H
  refine HL.val Wanted.none (fun wq sq => (Runs.add rfl rfl e_51)) ?_
  obtain ⟨⟨p_52, q_53⟩, H⟩ := H
  refine HL.val Wanted.none (fun wq sq => (Runs.indexAddr_blk arr154 rfl rfl p_52 q_53 (o := (x_16).toNat) (by first | rfl | omega))) ?_
  refine HL.nil (fun w_54 st_55 => ?_)
  obtain ⟨m_56, e_57, H⟩ := H
  have hl_60 : m_56.length = 64 := by rw [e_57, List.length_set]; exact hl_15
  refine WL.store_cells (i := 0) st_55 rfl cells24 rfl (by rw [iv_length]; have := hl_15; omega) rfl rfl ?_
  intro w_58 st_59
  have st_59' : St w w_58 [.cells B_9 (iv .u32 m_56) 154, .cells B_5 (iv .u32 (List.replicate 8 (0 : Int))) 134, .cells B_1 (iv .u32 l0) 134] := by rw [e_57, ← iv_set .u32 m_14 (x_16.toNat) x_50]; exact st_59
  refine WL.nil ?_
  refine QW.blk_n ?_
  refine QW.then_n ?_
  refine CW.region ?_
  refine WL.val Wanted.none (Runs.move rfl) ?_
  refine WL.val Wanted.none (Runs.add rfl rfl rfl) ?_
  refine WL.val Wanted.none (Runs.assign rfl) ?_
  refine WL.nil ?_
  exact QW.at _ (by repeat' constructor) ⟨m_56, IntKind.i64.wrap (x_16 + 1), rfl, H, hl_60, st_59'⟩
 ·have h_21 : (decide (x_16 < 16)) = false := (decide_eq_false c_20)
  refine CW.cf rfl h_21 ?_
  refine CW.exit ?_
  refine QW.then_x ?_
  refine QW.then_x ?_
  refine QW.blk_x ?_
  refine QW.then_n ?_
  refine CW.seq ?_
  refine CW.seq (CW.region ?_)
  refine WL.val Wanted.none (Runs.assign rfl) ?_
  refine WL.nil (QW.then_n ?_)
  refine CW.block ?_
  obtain ⟨k_61, H⟩ := H
  refine CW.sub [(3, .pointer (some ⟨B_1, 0, none⟩)), (6, .pointer (some ⟨B_5, 0, none⟩)), (7, .pointer (some ⟨B_9, 0, none⟩)), (9, .int .i64 16)] ⟨rfl, rfl, rfl, rfl, trivial⟩ ?_
  refine CW.loop (fun kL2 l_ w_ => ∃ (m_62 : List Int) (x_64 : Int), l_ = [(3, .pointer (some ⟨B_1, 0, none⟩)), (6, .pointer (some ⟨B_5, 0, none⟩)), (7, .pointer (some ⟨B_9, 0, none⟩)), (9, .int .i64 x_64)] ∧ reliquaryref02_block.L2 l0 r0 kL2 m_62 x_64 ∧ (m_62.length = 64) ∧ St w w_ [.cells B_9 (iv .u32 m_62) 154, .cells B_5 (iv .u32 (List.replicate 8 (0 : Int))) 134, .cells B_1 (iv .u32 l0) 134]) (k := k_61) ⟨m_14, 16, rfl, H, hl_15, st_18⟩ (fun _ _ h => by obtain ⟨_, _, _, h, _⟩ := h; exact h.elim) ?_
  rintro kL2 l_67 w_65 ⟨m_62, x_64, rfl, H, hl_63, st_66⟩
  refine CW.seq ?_
  refine CW.seq (CW.region ?_)
  refine WL.val Wanted.none (Runs.move rfl) ?_
  refine WL.val Wanted.none (Runs.lss rfl rfl rfl) ?_
  refine WL.nil (QW.then_n ?_)
  rcases H with ⟨c_68, H⟩ | ⟨c_68, H⟩
  ·have h_69 : (decide (x_64 < 64)) = true := (decide_eq_true c_68)
   refine CW.ct rfl h_69 ?_
   refine CW.skip ?_
   refine QW.then_n ?_
   refine CW.seq ?_
   refine CW.block ?_
   refine CW.seq ?_
   refine CW.region_qa wide (by kernel_rfl) st_66 ?_
   refine HL.val Wanted.none (fun wq sq => (Runs.move rfl)) ?_
   refine HL.val Wanted.none (fun wq sq => (Runs.sub rfl rfl rfl)) ?_
   obtain ⟨⟨p_70, q_71⟩, H⟩ := H
   refine HL.val Wanted.none (fun wq sq => (Runs.indexAddr_blk arr154 rfl rfl p_70 q_71 (o := (IntKind.i64.wrap (x_64 - 15)).toNat) (by first | rfl | omega))) ?_
   refine HL.val Wanted.none (fun wq sq => (Runs.load nagg24 rfl (sq.cell_iv (i := 0) rfl (by have := hl_63; omega)))) ?_
   obtain ⟨r_76, hr_72, H⟩ := H
   refine HL.call Wanted.none ent75 rfl (fun wq sq => (reliquaryref02_right.calls wq (gn m_62 ((IntKind.i64.wrap (x_64 - 15)).toNat)) 7 r_76 hr_72).mono (by rintro _ _ ⟨rfl, sc⟩; exact ⟨rfl, sq.call sc⟩)) ?_
   refine HL.val Wanted.none (fun wq sq => (Runs.move rfl)) ?_
   refine HL.val Wanted.none (fun wq sq => (Runs.sub rfl rfl rfl)) ?_
   obtain ⟨⟨p_77, q_78⟩, H⟩ := H
   refine HL.val Wanted.none (fun wq sq => (Runs.indexAddr_blk arr154 rfl rfl p_77 q_78 (o := (IntKind.i64.wrap (x_64 - 15)).toNat) (by first | rfl | omega))) ?_
   refine HL.val Wanted.none (fun wq sq => (Runs.load nagg24 rfl (sq.cell_iv (i := 0) rfl (by have := hl_63; omega)))) ?_
   obtain ⟨r_83, hr_79, H⟩ := H
   refine HL.call Wanted.none ent75 rfl (fun wq sq => (reliquaryref02_right.calls wq (gn m_62 ((IntKind.i64.wrap (x_64 - 15)).toNat)) 18 r_83 hr_79).mono (by rintro _ _ ⟨rfl, sc⟩; exact ⟨rfl, sq.call sc⟩)) ?_
   refine HL.val Wanted.none (fun wq sq => (Runs.bxor rfl rfl rfl)) ?_
   refine HL.val Wanted.none (fun wq sq => (Runs.move rfl)) ?_
   refine HL.val Wanted.none (fun wq sq => (Runs.sub rfl rfl rfl)) ?_
   obtain ⟨⟨p_84, q_85⟩, H⟩ := H
   refine HL.val Wanted.none (fun wq sq => (Runs.indexAddr_blk arr154 rfl rfl p_84 q_85 (o := (IntKind.i64.wrap (x_64 - 15)).toNat) (by first | rfl | omega))) ?_
   refine HL.val Wanted.none (fun wq sq => (Runs.load nagg24 rfl (sq.cell_iv (i := 0) rfl (by have := hl_63; omega)))) ?_
   refine HL.val Wanted.none (fun wq sq => (Runs.shr rfl rfl (by decide) rfl)) ?_
   obtain ⟨x_86, e_87, H⟩ := H
   refine HL.val Wanted.none (fun wq sq => (Runs.bxor rfl rfl e_87)) ?_
   refine HL.val Wanted.none (fun wq sq => (Runs.assign rfl)) ?_
   refine HL.nil (fun w_88 st_89 => ?_)
   refine WL.nil (QW.then_n ?_)
   refine CW.seq ?_
   refine CW.region_qa wide (by kernel_rfl) st_89 ?_
   refine HL.val Wanted.none (fun wq sq => (Runs.move rfl)) ?_
   refine HL.val Wanted.none (fun wq sq => (Runs.sub rfl rfl rfl)) ?_
   obtain ⟨⟨p_90, q_91⟩, H⟩ := H
   refine HL.val Wanted.none (fun wq sq => (Runs.indexAddr_blk arr154 rfl rfl p_90 q_91 (o := (IntKind.i64.wrap (x_64 - 2)).toNat) (by first | rfl | omega))) ?_
   refine HL.val Wanted.none (fun wq sq => (Runs.load nagg24 rfl (sq.cell_iv (i := 0) rfl (by have := hl_63; omega)))) ?_
   obtain ⟨r_96, hr_92, H⟩ := H
   refine HL.call Wanted.none ent75 rfl (fun wq sq => (reliquaryref02_right.calls wq (gn m_62 ((IntKind.i64.wrap (x_64 - 2)).toNat)) 17 r_96 hr_92).mono (by rintro _ _ ⟨rfl, sc⟩; exact ⟨rfl, sq.call sc⟩)) ?_
   refine HL.val Wanted.none (fun wq sq => (Runs.move rfl)) ?_
   refine HL.val Wanted.none (fun wq sq => (Runs.sub rfl rfl rfl)) ?_
   obtain ⟨⟨p_97, q_98⟩, H⟩ := H
   refine HL.val Wanted.none (fun wq sq => (Runs.indexAddr_blk arr154 rfl rfl p_97 q_98 (o := (IntKind.i64.wrap (x_64 - 2)).toNat) (by first | rfl | omega))) ?_
   refine HL.val Wanted.none (fun wq sq => (Runs.load nagg24 rfl (sq.cell_iv (i := 0) rfl (by have := hl_63; omega)))) ?_
   obtain ⟨r_103, hr_99, H⟩ := H
   refine HL.call Wanted.none ent75 rfl (fun wq sq => (reliquaryref02_right.calls wq (gn m_62 ((IntKind.i64.wrap (x_64 - 2)).toNat)) 19 r_103 hr_99).mono (by rintro _ _ ⟨rfl, sc⟩; exact ⟨rfl, sq.call sc⟩)) ?_
   refine HL.val Wanted.none (fun wq sq => (Runs.bxor rfl rfl rfl)) ?_
   refine HL.val Wanted.none (fun wq sq => (Runs.move rfl)) ?_
   refine HL.val Wanted.none (fun wq sq => (Runs.sub rfl rfl rfl)) ?_
   obtain ⟨⟨p_104, q_105⟩, H⟩ := H
   refine HL.val Wanted.none (fun wq sq => (Runs.indexAddr_blk arr154 rfl rfl p_104 q_105 (o := (IntKind.i64.wrap (x_64 - 2)).toNat) (by first | rfl | omega))) ?_
   refine HL.val Wanted.none (fun wq sq => (Runs.load nagg24 rfl (sq.cell_iv (i := 0) rfl (by have := hl_63; omega)))) ?_
   refine HL.val Wanted.none (fun wq sq => (Runs.shr rfl rfl (by decide) rfl)) ?_
   obtain ⟨x_106, e_107, H⟩ := H
   refine HL.val Wanted.none (fun wq sq => (Runs.bxor rfl rfl e_107)) ?_
   refine HL.val Wanted.none (fun wq sq => (Runs.assign rfl)) ?_
   refine HL.nil (fun w_108 st_109 => ?_)
   refine WL.nil (QW.then_n ?_)
   refine CW.region_qt 15 wide (by kernel_rfl) st_109 ?_
   refine HL.val Wanted.none (fun wq sq => (Runs.move rfl)) ?_
   refine HL.val Wanted.none (fun wq sq => (Runs.move rfl)) ?_
   refine HL.val Wanted.none (fun wq sq => (Runs.sub rfl rfl rfl)) ?_
   obtain ⟨⟨p_110, q_111⟩, H⟩ := H
   refine HL.val Wanted.none (fun wq sq => (Runs.indexAddr_blk arr154 rfl rfl p_110 q_111 (o := (IntKind.i64.wrap (x_64 - 16)).toNat) (by first | rfl | omega))) ?_
   refine HL.val Wanted.none (fun wq sq => (Runs.load nagg24 rfl (sq.cell_iv (i := 0) rfl (by have := hl_63; omega)))) ?_
   refine HL.val Wanted.none (fun wq sq => (Runs.move rfl)) ?_
   obtain ⟨x_112, e_113, H⟩ := H
   refine HL.val Wanted.none (fun wq sq => (Runs.add rfl rfl e_113)) ?_
   refine HL.val Wanted.none (fun wq sq => (Runs.move rfl)) ?_
   refine HL.val Wanted.none (fun wq sq => (Runs.sub rfl rfl rfl)) ?_
   obtain ⟨⟨p_114, q_115⟩, H⟩ := H
   refine HL.val Wanted.none (fun wq sq => (Runs.indexAddr_blk arr154 rfl rfl p_114 q_115 (o := (IntKind.i64.wrap (x_64 - 7)).toNat) (by first | rfl | omega))) ?_
   refine HL.val Wanted.none (fun wq sq => (Runs.load nagg24 rfl (sq.cell_iv (i := 0) rfl (by have := hl_63; omega)))) ?_
   obtain ⟨x_116, e_117, H⟩ := H
   refine HL.val Wanted.none (fun wq sq => (Runs.add rfl rfl e_117)) ?_
   refine HL.val Wanted.none (fun wq sq => (Runs.move rfl)) ?_
   refine HL.val Wanted.none (fun wq sq => (Runs.add rfl rfl rfl)) ?_
   obtain ⟨⟨p_118, q_119⟩, H⟩ := H
   refine HL.val Wanted.none (fun wq sq => (Runs.indexAddr_blk arr154 rfl rfl p_118 q_119 (o := (x_64).toNat) (by first | rfl | omega))) ?_
   refine HL.nil (fun w_120 st_121 => ?_)
   obtain ⟨m_122, e_123, H⟩ := H
   have hl_126 : m_122.length = 64 := by rw [e_123, List.length_set]; exact hl_63
   refine WL.store_cells (i := 0) st_121 rfl cells24 rfl (by rw [iv_length]; have := hl_63; omega) rfl rfl ?_
   intro w_124 st_125
   have st_125' : St w w_124 [.cells B_9 (iv .u32 m_122) 154, .cells B_5 (iv .u32 (List.replicate 8 (0 : Int))) 134, .cells B_1 (iv .u32 l0) 134] := by rw [e_123, ← iv_set .u32 m_62 (x_64.toNat) (IntKind.u32.wrap (x_116 + x_106))]; exact st_125
   refine WL.nil ?_
   refine QW.blk_n ?_
   refine QW.then_n ?_
   refine CW.region ?_
   refine WL.val Wanted.none (Runs.move rfl) ?_
   refine WL.val Wanted.none (Runs.add rfl rfl rfl) ?_
   refine WL.val Wanted.none (Runs.assign rfl) ?_
   refine WL.nil ?_
   exact QW.at _ (by repeat' constructor) ⟨m_122, IntKind.i64.wrap (x_64 + 1), rfl, H, hl_126, st_125'⟩
  ·have h_69 : (decide (x_64 < 64)) = false := (decide_eq_false c_68)
   refine CW.cf rfl h_69 ?_
   refine CW.exit ?_
   refine QW.then_x ?_
   refine QW.then_x ?_
   refine QW.blk_x ?_
   refine QW.then_n ?_
   refine CW.seq (CW.region ?_)
   obtain ⟨r_131, hr_127, H⟩ := H
   refine WL.call Wanted.none ent76 rfl (reliquaryref02_Rounds.calls w_65 r_131 hr_127) ?_
   rintro _ w_128 ⟨hl_132, rfl, sc_130⟩
   have st_129 : St w w_128 [.cells B_9 (iv .u32 m_62) 154, .cells B_5 (iv .u32 (List.replicate 8 (0 : Int))) 134, .cells B_1 (iv .u32 l0) 134] := st_66.call sc_130
   refine ⟨_, rfl, ?_⟩
   refine WL.alloc st_129 arr154.zero ?_
   intro B_133 w_134 st_135
   replace st_135 : St w w_134 [.cells B_133 (iv .u32 (List.replicate 64 (0 : Int))) 154, .cells B_9 (iv .u32 m_62) 154, .cells B_5 (iv .u32 (List.replicate 8 (0 : Int))) 134, .cells B_1 (iv .u32 l0) 134] := st_135
   refine WL.store_arr (i := 0) st_135 rfl arr154 rfl (by rw [iv_length]; exact (List.length_replicate ..)) hl_132 rfl ?_
   intro w_137 st_138
   replace st_138 : St w w_137 [.cells B_133 (iv .u32 r_131) 154, .cells B_9 (iv .u32 m_62) 154, .cells B_5 (iv .u32 (List.replicate 8 (0 : Int))) 134, .cells B_1 (iv .u32 l0) 134] := st_138
   refine WL.nil (QW.then_n ?_)
   refine CW.seq (CW.region ?_)
   refine WL.val Wanted.none (Runs.load_arr arr134 rfl (st_138.blk (i := 3) rfl) hl0) ?_
   refine WL.alloc st_138 arr134.zero ?_
   intro B_140 w_141 st_142
   replace st_142 : St w w_141 [.cells B_140 (iv .u32 (List.replicate 8 (0 : Int))) 134, .cells B_133 (iv .u32 r_131) 154, .cells B_9 (iv .u32 m_62) 154, .cells B_5 (iv .u32 (List.replicate 8 (0 : Int))) 134, .cells B_1 (iv .u32 l0) 134] := st_142
   refine WL.store_arr (i := 0) st_142 rfl arr134 rfl (by rw [iv_length]; exact (List.length_replicate ..)) hl0 rfl ?_
   intro w_144 st_145
   replace st_145 : St w w_144 [.cells B_140 (iv .u32 l0) 134, .cells B_133 (iv .u32 r_131) 154, .cells B_9 (iv .u32 m_62) 154, .cells B_5 (iv .u32 (List.replicate 8 (0 : Int))) 134, .cells B_1 (iv .u32 l0) 134] := st_145
   refine WL.nil (QW.then_n ?_)
   refine CW.seq ?_
   refine CW.seq (CW.region ?_)
   refine WL.val Wanted.none (Runs.assign rfl) ?_
   refine WL.nil (QW.then_n ?_)
   refine CW.block ?_
   obtain ⟨k_147, H⟩ := H
   refine CW.sub [(3, .pointer (some ⟨B_1, 0, none⟩)), (6, .pointer (some ⟨B_5, 0, none⟩)), (7, .pointer (some ⟨B_9, 0, none⟩)), (12, .pointer (some ⟨B_133, 0, none⟩)), (13, .pointer (some ⟨B_140, 0, none⟩)), (14, .int .i64 0)] (by repeat' constructor) ?_
   refine CW.loop (fun kL3 l_ w_ => ∃ (m_148 : List Int) (x_150 : Int), l_ = [(3, .pointer (some ⟨B_1, 0, none⟩)), (6, .pointer (some ⟨B_5, 0, none⟩)), (7, .pointer (some ⟨B_9, 0, none⟩)), (12, .pointer (some ⟨B_133, 0, none⟩)), (13, .pointer (some ⟨B_140, 0, none⟩)), (14, .int .i64 x_150)] ∧ reliquaryref02_block.L3 l0 r0 m_62 r_131 kL3 m_148 x_150 ∧ (m_148.length = 8) ∧ St w w_ [.cells B_140 (iv .u32 m_148) 134, .cells B_133 (iv .u32 r_131) 154, .cells B_9 (iv .u32 m_62) 154, .cells B_5 (iv .u32 (List.replicate 8 (0 : Int))) 134, .cells B_1 (iv .u32 l0) 134]) (k := k_147) ⟨l0, 0, rfl, H, hl0, st_145⟩ (fun _ _ h => by obtain ⟨_, _, _, h, _⟩ := h; exact h.elim) ?_
   rintro kL3 l_153 w_151 ⟨m_148, x_150, rfl, H, hl_149, st_152⟩
   refine CW.seq ?_
   refine CW.seq (CW.region ?_)
   refine WL.val Wanted.none (Runs.move rfl) ?_
   refine WL.val Wanted.none (Runs.lss rfl rfl rfl) ?_
   refine WL.nil (QW.then_n ?_)
   rcases H with ⟨c_154, H⟩ | ⟨c_154, H⟩
   ·have h_155 : (decide (x_150 < 64)) = true := (decide_eq_true c_154)
    refine CW.ct rfl h_155 ?_
    refine CW.skip ?_
    refine QW.then_n ?_
    refine CW.seq ?_
    refine CW.block ?_
    refine CW.seq (CW.region ?_)
    refine WL.val Wanted.none (Runs.indexAddr_blk arr134 rfl rfl (by decide) (by decide) (o := 4) (by first | rfl | omega)) ?_
    refine WL.val Wanted.none (Runs.load nagg24 rfl (st_152.cell_iv (i := 0) rfl (by have := hl_149; omega))) ?_
    refine WL.val Wanted.none (Runs.assign rfl) ?_
    refine WL.nil (QW.then_n ?_)
    refine CW.seq (CW.region ?_)
    refine WL.val Wanted.none (Runs.indexAddr_blk arr134 rfl rfl (by decide) (by decide) (o := 0) (by first | rfl | omega)) ?_
    refine WL.val Wanted.none (Runs.load nagg24 rfl (st_152.cell_iv (i := 0) rfl (by have := hl_149; omega))) ?_
    refine WL.val Wanted.none (Runs.assign rfl) ?_
    refine WL.nil (QW.then_n ?_)
    refine CW.seq (CW.region ?_)
    refine WL.val Wanted.none (Runs.move rfl) ?_
    obtain ⟨r_160, hr_156, H⟩ := H
    refine WL.call Wanted.none ent75 rfl (reliquaryref02_right.calls w_151 (gn m_148 4) 6 r_160 hr_156) ?_
    rintro _ w_157 ⟨rfl, sc_159⟩
    have st_158 : St w w_157 [.cells B_140 (iv .u32 m_148) 134, .cells B_133 (iv .u32 r_131) 154, .cells B_9 (iv .u32 m_62) 154, .cells B_5 (iv .u32 (List.replicate 8 (0 : Int))) 134, .cells B_1 (iv .u32 l0) 134] := st_152.call sc_159
    refine ⟨_, rfl, ?_⟩
    refine WL.val Wanted.none (Runs.move rfl) ?_
    obtain ⟨r_165, hr_161, H⟩ := H
    refine WL.call Wanted.none ent75 rfl (reliquaryref02_right.calls w_157 (gn m_148 4) 11 r_165 hr_161) ?_
    rintro _ w_162 ⟨rfl, sc_164⟩
    have st_163 : St w w_162 [.cells B_140 (iv .u32 m_148) 134, .cells B_133 (iv .u32 r_131) 154, .cells B_9 (iv .u32 m_62) 154, .cells B_5 (iv .u32 (List.replicate 8 (0 : Int))) 134, .cells B_1 (iv .u32 l0) 134] := st_158.call sc_164
    refine ⟨_, rfl, ?_⟩
    refine WL.val Wanted.none (Runs.bxor rfl rfl rfl) ?_
    refine WL.val Wanted.none (Runs.move rfl) ?_
    obtain ⟨r_170, hr_166, H⟩ := H
    refine WL.call Wanted.none ent75 rfl (reliquaryref02_right.calls w_162 (gn m_148 4) 25 r_170 hr_166) ?_
    rintro _ w_167 ⟨rfl, sc_169⟩
    have st_168 : St w w_167 [.cells B_140 (iv .u32 m_148) 134, .cells B_133 (iv .u32 r_131) 154, .cells B_9 (iv .u32 m_62) 154, .cells B_5 (iv .u32 (List.replicate 8 (0 : Int))) 134, .cells B_1 (iv .u32 l0) 134] := st_163.call sc_169
    refine ⟨_, rfl, ?_⟩
    refine WL.val Wanted.none (Runs.bxor rfl rfl rfl) ?_
    refine WL.val Wanted.none (Runs.assign rfl) ?_
    refine WL.nil (QW.then_n ?_)
    refine CW.seq (CW.region ?_)
    refine WL.val Wanted.none (Runs.move rfl) ?_
    refine WL.val Wanted.none (Runs.indexAddr_blk arr134 rfl rfl (by decide) (by decide) (o := 5) (by first | rfl | omega)) ?_
    refine WL.val Wanted.none (Runs.load nagg24 rfl (st_168.cell_iv (i := 0) rfl (by have := hl_149; omega))) ?_
    refine WL.val Wanted.none (Runs.band rfl rfl rfl) ?_
    refine WL.val Wanted.none (Runs.move rfl) ?_
    refine WL.val Wanted.none (Runs.compl rfl rfl) ?_
    refine WL.val Wanted.none (Runs.indexAddr_blk arr134 rfl rfl (by decide) (by decide) (o := 6) (by first | rfl | omega)) ?_
    refine WL.val Wanted.none (Runs.load nagg24 rfl (st_168.cell_iv (i := 0) rfl (by have := hl_149; omega))) ?_
    refine WL.val Wanted.none (Runs.band rfl rfl rfl) ?_
    obtain ⟨x_171, e_172, H⟩ := H
    refine WL.val Wanted.none (Runs.bxor rfl rfl e_172) ?_
    refine WL.val Wanted.none (Runs.assign rfl) ?_
    refine WL.nil (QW.then_n ?_)
    refine CW.seq ?_
    refine CW.region_qa wide (by kernel_rfl) st_168 ?_
    refine HL.val Wanted.none (fun wq sq => (Runs.indexAddr_blk arr134 rfl rfl (by decide) (by decide) (o := 7) (by first | rfl | omega))) ?_
    refine HL.val Wanted.none (fun wq sq => (Runs.load nagg24 rfl (sq.cell_iv (i := 0) rfl (by have := hl_149; omega)))) ?_
    refine HL.val Wanted.none (fun wq sq => (Runs.move rfl)) ?_
    obtain ⟨x_173, e_174, H⟩ := H
    refine HL.val Wanted.none (fun wq sq => (Runs.add rfl rfl e_174)) ?_
    refine HL.val Wanted.none (fun wq sq => (Runs.move rfl)) ?_
    refine HL.val Wanted.none (fun wq sq => (Runs.add rfl rfl rfl)) ?_
    refine HL.val Wanted.none (fun wq sq => (Runs.move rfl)) ?_
    obtain ⟨⟨p_175, q_176⟩, H⟩ := H
    refine HL.val Wanted.none (fun wq sq => (Runs.indexAddr_blk arr154 rfl rfl p_175 q_176 (o := (x_150).toNat) (by first | rfl | omega))) ?_
    refine HL.val Wanted.none (fun wq sq => (Runs.load nagg24 rfl (sq.cell_iv (i := 1) rfl (by have := hl_132; omega)))) ?_
    obtain ⟨x_177, e_178, H⟩ := H
    refine HL.val Wanted.none (fun wq sq => (Runs.add rfl rfl e_178)) ?_
    refine HL.val Wanted.none (fun wq sq => (Runs.move rfl)) ?_
    obtain ⟨⟨p_179, q_180⟩, H⟩ := H
    refine HL.val Wanted.none (fun wq sq => (Runs.indexAddr_blk arr154 rfl rfl p_179 q_180 (o := (x_150).toNat) (by first | rfl | omega))) ?_
    refine HL.val Wanted.none (fun wq sq => (Runs.load nagg24 rfl (sq.cell_iv (i := 2) rfl (by have := hl_63; omega)))) ?_
    refine HL.val Wanted.none (fun wq sq => (Runs.add rfl rfl rfl)) ?_
    refine HL.val Wanted.none (fun wq sq => (Runs.assign rfl)) ?_
    refine HL.nil (fun w_181 st_182 => ?_)
    refine WL.nil (QW.then_n ?_)
    refine CW.seq (CW.region ?_)
    refine WL.val Wanted.none (Runs.move rfl) ?_
    obtain ⟨r_187, hr_183, H⟩ := H
    refine WL.call Wanted.none ent75 rfl (reliquaryref02_right.calls w_181 (gn m_148 0) 2 r_187 hr_183) ?_
    rintro _ w_184 ⟨rfl, sc_186⟩
    have st_185 : St w w_184 [.cells B_140 (iv .u32 m_148) 134, .cells B_133 (iv .u32 r_131) 154, .cells B_9 (iv .u32 m_62) 154, .cells B_5 (iv .u32 (List.replicate 8 (0 : Int))) 134, .cells B_1 (iv .u32 l0) 134] := st_182.call sc_186
    refine ⟨_, rfl, ?_⟩
    refine WL.val Wanted.none (Runs.move rfl) ?_
    obtain ⟨r_192, hr_188, H⟩ := H
    refine WL.call Wanted.none ent75 rfl (reliquaryref02_right.calls w_184 (gn m_148 0) 13 r_192 hr_188) ?_
    rintro _ w_189 ⟨rfl, sc_191⟩
    have st_190 : St w w_189 [.cells B_140 (iv .u32 m_148) 134, .cells B_133 (iv .u32 r_131) 154, .cells B_9 (iv .u32 m_62) 154, .cells B_5 (iv .u32 (List.replicate 8 (0 : Int))) 134, .cells B_1 (iv .u32 l0) 134] := st_185.call sc_191
    refine ⟨_, rfl, ?_⟩
    refine WL.val Wanted.none (Runs.bxor rfl rfl rfl) ?_
    refine WL.val Wanted.none (Runs.move rfl) ?_
    obtain ⟨r_197, hr_193, H⟩ := H
    refine WL.call Wanted.none ent75 rfl (reliquaryref02_right.calls w_189 (gn m_148 0) 22 r_197 hr_193) ?_
    rintro _ w_194 ⟨rfl, sc_196⟩
    have st_195 : St w w_194 [.cells B_140 (iv .u32 m_148) 134, .cells B_133 (iv .u32 r_131) 154, .cells B_9 (iv .u32 m_62) 154, .cells B_5 (iv .u32 (List.replicate 8 (0 : Int))) 134, .cells B_1 (iv .u32 l0) 134] := st_190.call sc_196
    refine ⟨_, rfl, ?_⟩
    refine WL.val Wanted.none (Runs.bxor rfl rfl rfl) ?_
    refine WL.val Wanted.none (Runs.assign rfl) ?_
    refine WL.nil (QW.then_n ?_)
    refine CW.seq (CW.region ?_)
    refine WL.val Wanted.none (Runs.move rfl) ?_
    refine WL.val Wanted.none (Runs.indexAddr_blk arr134 rfl rfl (by decide) (by decide) (o := 1) (by first | rfl | omega)) ?_
    refine WL.val Wanted.none (Runs.load nagg24 rfl (st_195.cell_iv (i := 0) rfl (by have := hl_149; omega))) ?_
    refine WL.val Wanted.none (Runs.band rfl rfl rfl) ?_
    refine WL.val Wanted.none (Runs.move rfl) ?_
    refine WL.val Wanted.none (Runs.indexAddr_blk arr134 rfl rfl (by decide) (by decide) (o := 2) (by first | rfl | omega)) ?_
    refine WL.val Wanted.none (Runs.load nagg24 rfl (st_195.cell_iv (i := 0) rfl (by have := hl_149; omega))) ?_
    refine WL.val Wanted.none (Runs.band rfl rfl rfl) ?_
    obtain ⟨x_198, e_199, H⟩ := H
    refine WL.val Wanted.none (Runs.bxor rfl rfl e_199) ?_
    refine WL.val Wanted.none (Runs.indexAddr_blk arr134 rfl rfl (by decide) (by decide) (o := 1) (by first | rfl | omega)) ?_
    refine WL.val Wanted.none (Runs.load nagg24 rfl (st_195.cell_iv (i := 0) rfl (by have := hl_149; omega))) ?_
    refine WL.val Wanted.none (Runs.indexAddr_blk arr134 rfl rfl (by decide) (by decide) (o := 2) (by first | rfl | omega)) ?_
    refine WL.val Wanted.none (Runs.load nagg24 rfl (st_195.cell_iv (i := 0) rfl (by have := hl_149; omega))) ?_
    refine WL.val Wanted.none (Runs.band rfl rfl rfl) ?_
    obtain ⟨x_200, e_201, H⟩ := H
    refine WL.val Wanted.none (Runs.bxor rfl rfl e_201) ?_
    refine WL.val Wanted.none (Runs.assign rfl) ?_
    refine WL.nil (QW.then_n ?_)
    refine CW.seq ?_
    refine CW.seq (CW.region ?_)
    refine WL.val Wanted.none (Runs.assign rfl) ?_
    refine WL.nil (QW.then_n ?_)
    refine CW.block ?_
    obtain ⟨k_202, H⟩ := H
    refine CW.sub [(3, .pointer (some ⟨B_1, 0, none⟩)), (6, .pointer (some ⟨B_5, 0, none⟩)), (7, .pointer (some ⟨B_9, 0, none⟩)), (12, .pointer (some ⟨B_133, 0, none⟩)), (13, .pointer (some ⟨B_140, 0, none⟩)), (14, .int .i64 x_150), (126, .int .i64 x_150), (127, .bool (decide (x_150 < 64))), (130, .pointer (some ⟨B_140, 4, none⟩)), (131, .int .u32 (gn m_148 4)), (15, .int .u32 (gn m_148 4)), (132, .pointer (some ⟨B_140, 0, none⟩)), (133, .int .u32 (gn m_148 0)), (16, .int .u32 (gn m_148 0)), (134, .int .u32 (gn m_148 4)), (135, .int .u32 r_160), (136, .int .u32 (gn m_148 4)), (137, .int .u32 r_165), (138, .int .u32 (bits .xor .u32 r_160 r_165)), (139, .int .u32 (gn m_148 4)), (140, .int .u32 r_170), (141, .int .u32 (bits .xor .u32 (bits .xor .u32 r_160 r_165) r_170)), (17, .int .u32 (bits .xor .u32 (bits .xor .u32 r_160 r_165) r_170)), (142, .int .u32 (gn m_148 4)), (143, .pointer (some ⟨B_140, 5, none⟩)), (144, .int .u32 (gn m_148 5)), (145, .int .u32 (bits .and .u32 (gn m_148 4) (gn m_148 5))), (146, .int .u32 (gn m_148 4)), (147, .int .u32 (notI .u32 (gn m_148 4))), (148, .pointer (some ⟨B_140, 6, none⟩)), (149, .int .u32 (gn m_148 6)), (150, .int .u32 (bits .and .u32 (notI .u32 (gn m_148 4)) (gn m_148 6))), (151, .int .u32 x_171), (18, .int .u32 x_171), (152, .pointer (some ⟨B_140, 7, none⟩)), (153, .int .u32 (gn m_148 7)), (154, .int .u32 (bits .xor .u32 (bits .xor .u32 r_160 r_165) r_170)), (155, .int .u32 x_173), (156, .int .u32 x_171), (157, .int .u32 (IntKind.u32.wrap (x_173 + x_171))), (158, .int .i64 x_150), (159, .pointer (some ⟨B_133, (x_150).toNat, none⟩)), (160, .int .u32 (gn r_131 (x_150.toNat))), (161, .int .u32 x_177), (162, .int .i64 x_150), (163, .pointer (some ⟨B_9, (x_150).toNat, none⟩)), (164, .int .u32 (gn m_62 (x_150.toNat))), (165, .int .u32 (IntKind.u32.wrap (x_177 + (gn m_62 (x_150.toNat))))), (19, .int .u32 (IntKind.u32.wrap (x_177 + (gn m_62 (x_150.toNat))))), (166, .int .u32 (gn m_148 0)), (167, .int .u32 r_187), (168, .int .u32 (gn m_148 0)), (169, .int .u32 r_192), (170, .int .u32 (bits .xor .u32 r_187 r_192)), (171, .int .u32 (gn m_148 0)), (172, .int .u32 r_197), (173, .int .u32 (bits .xor .u32 (bits .xor .u32 r_187 r_192) r_197)), (20, .int .u32 (bits .xor .u32 (bits .xor .u32 r_187 r_192) r_197)), (174, .int .u32 (gn m_148 0)), (175, .pointer (some ⟨B_140, 1, none⟩)), (176, .int .u32 (gn m_148 1)), (177, .int .u32 (bits .and .u32 (gn m_148 0) (gn m_148 1))), (178, .int .u32 (gn m_148 0)), (179, .pointer (some ⟨B_140, 2, none⟩)), (180, .int .u32 (gn m_148 2)), (181, .int .u32 (bits .and .u32 (gn m_148 0) (gn m_148 2))), (182, .int .u32 x_198), (183, .pointer (some ⟨B_140, 1, none⟩)), (184, .int .u32 (gn m_148 1)), (185, .pointer (some ⟨B_140, 2, none⟩)), (186, .int .u32 (gn m_148 2)), (187, .int .u32 (bits .and .u32 (gn m_148 1) (gn m_148 2))), (188, .int .u32 x_200), (21, .int .u32 x_200), (22, .int .i64 7)] (by repeat' constructor) ?_
    refine CW.loop (fun kL4 l_ w_ => ∃ (m_203 : List Int) (x_205 : Int), l_ = [(3, .pointer (some ⟨B_1, 0, none⟩)), (6, .pointer (some ⟨B_5, 0, none⟩)), (7, .pointer (some ⟨B_9, 0, none⟩)), (12, .pointer (some ⟨B_133, 0, none⟩)), (13, .pointer (some ⟨B_140, 0, none⟩)), (14, .int .i64 x_150), (126, .int .i64 x_150), (127, .bool (decide (x_150 < 64))), (130, .pointer (some ⟨B_140, 4, none⟩)), (131, .int .u32 (gn m_148 4)), (15, .int .u32 (gn m_148 4)), (132, .pointer (some ⟨B_140, 0, none⟩)), (133, .int .u32 (gn m_148 0)), (16, .int .u32 (gn m_148 0)), (134, .int .u32 (gn m_148 4)), (135, .int .u32 r_160), (136, .int .u32 (gn m_148 4)), (137, .int .u32 r_165), (138, .int .u32 (bits .xor .u32 r_160 r_165)), (139, .int .u32 (gn m_148 4)), (140, .int .u32 r_170), (141, .int .u32 (bits .xor .u32 (bits .xor .u32 r_160 r_165) r_170)), (17, .int .u32 (bits .xor .u32 (bits .xor .u32 r_160 r_165) r_170)), (142, .int .u32 (gn m_148 4)), (143, .pointer (some ⟨B_140, 5, none⟩)), (144, .int .u32 (gn m_148 5)), (145, .int .u32 (bits .and .u32 (gn m_148 4) (gn m_148 5))), (146, .int .u32 (gn m_148 4)), (147, .int .u32 (notI .u32 (gn m_148 4))), (148, .pointer (some ⟨B_140, 6, none⟩)), (149, .int .u32 (gn m_148 6)), (150, .int .u32 (bits .and .u32 (notI .u32 (gn m_148 4)) (gn m_148 6))), (151, .int .u32 x_171), (18, .int .u32 x_171), (152, .pointer (some ⟨B_140, 7, none⟩)), (153, .int .u32 (gn m_148 7)), (154, .int .u32 (bits .xor .u32 (bits .xor .u32 r_160 r_165) r_170)), (155, .int .u32 x_173), (156, .int .u32 x_171), (157, .int .u32 (IntKind.u32.wrap (x_173 + x_171))), (158, .int .i64 x_150), (159, .pointer (some ⟨B_133, (x_150).toNat, none⟩)), (160, .int .u32 (gn r_131 (x_150.toNat))), (161, .int .u32 x_177), (162, .int .i64 x_150), (163, .pointer (some ⟨B_9, (x_150).toNat, none⟩)), (164, .int .u32 (gn m_62 (x_150.toNat))), (165, .int .u32 (IntKind.u32.wrap (x_177 + (gn m_62 (x_150.toNat))))), (19, .int .u32 (IntKind.u32.wrap (x_177 + (gn m_62 (x_150.toNat))))), (166, .int .u32 (gn m_148 0)), (167, .int .u32 r_187), (168, .int .u32 (gn m_148 0)), (169, .int .u32 r_192), (170, .int .u32 (bits .xor .u32 r_187 r_192)), (171, .int .u32 (gn m_148 0)), (172, .int .u32 r_197), (173, .int .u32 (bits .xor .u32 (bits .xor .u32 r_187 r_192) r_197)), (20, .int .u32 (bits .xor .u32 (bits .xor .u32 r_187 r_192) r_197)), (174, .int .u32 (gn m_148 0)), (175, .pointer (some ⟨B_140, 1, none⟩)), (176, .int .u32 (gn m_148 1)), (177, .int .u32 (bits .and .u32 (gn m_148 0) (gn m_148 1))), (178, .int .u32 (gn m_148 0)), (179, .pointer (some ⟨B_140, 2, none⟩)), (180, .int .u32 (gn m_148 2)), (181, .int .u32 (bits .and .u32 (gn m_148 0) (gn m_148 2))), (182, .int .u32 x_198), (183, .pointer (some ⟨B_140, 1, none⟩)), (184, .int .u32 (gn m_148 1)), (185, .pointer (some ⟨B_140, 2, none⟩)), (186, .int .u32 (gn m_148 2)), (187, .int .u32 (bits .and .u32 (gn m_148 1) (gn m_148 2))), (188, .int .u32 x_200), (21, .int .u32 x_200), (22, .int .i64 x_205)] ∧ reliquaryref02_block.L4 m_62 x_150 x_177 r_187 r_192 r_197 x_200 (reliquaryref02_block.L3 l0 r0 m_62 r_131 kL3) kL4 m_203 x_205 ∧ (m_203.length = 8) ∧ St w w_ [.cells B_140 (iv .u32 m_203) 134, .cells B_133 (iv .u32 r_131) 154, .cells B_9 (iv .u32 m_62) 154, .cells B_5 (iv .u32 (List.replicate 8 (0 : Int))) 134, .cells B_1 (iv .u32 l0) 134]) (k := k_202) ⟨m_148, 7, rfl, H, hl_149, st_195⟩ (fun _ _ h => by obtain ⟨_, _, _, h, _⟩ := h; exact h.elim) ?_
    rintro kL4 l_208 w_206 ⟨m_203, x_205, rfl, H, hl_204, st_207⟩
    refine CW.seq ?_
    refine CW.seq (CW.region ?_)
    refine WL.val Wanted.none (Runs.move rfl) ?_
    refine WL.val Wanted.none (Runs.gtr rfl rfl rfl) ?_
    refine WL.nil (QW.then_n ?_)
    rcases H with ⟨c_209, H⟩ | ⟨c_209, H⟩
    ·have h_210 : (decide (x_205 > 0)) = true := (decide_eq_true c_209)
     refine CW.ct rfl h_210 ?_
     refine CW.skip ?_
     refine QW.then_n ?_
     refine CW.seq ?_
     refine CW.block ?_
     refine CW.region ?_
     refine WL.val Wanted.none (Runs.move rfl) ?_
     refine WL.val Wanted.none (Runs.move rfl) ?_
     refine WL.val Wanted.none (Runs.sub rfl rfl rfl) ?_
     obtain ⟨⟨p_211, q_212⟩, H⟩ := H
     refine WL.val Wanted.none (Runs.indexAddr_blk arr134 rfl rfl p_211 q_212 (o := (IntKind.i64.wrap (x_205 - 1)).toNat) (by first | rfl | omega)) ?_
     refine WL.val Wanted.none (Runs.load nagg24 rfl (st_207.cell_iv (i := 0) rfl (by have := hl_204; omega))) ?_
     obtain ⟨⟨p_213, q_214⟩, H⟩ := H
     refine WL.val Wanted.none (Runs.indexAddr_blk arr134 rfl rfl p_213 q_214 (o := (x_205).toNat) (by first | rfl | omega)) ?_
     obtain ⟨m_215, e_216, H⟩ := H
     have hl_219 : m_215.length = 8 := by rw [e_216, List.length_set]; exact hl_204
     refine WL.store_cells (i := 0) st_207 rfl cells24 rfl (by rw [iv_length]; have := hl_204; omega) rfl rfl ?_
     intro w_217 st_218
     have st_218' : St w w_217 [.cells B_140 (iv .u32 m_215) 134, .cells B_133 (iv .u32 r_131) 154, .cells B_9 (iv .u32 m_62) 154, .cells B_5 (iv .u32 (List.replicate 8 (0 : Int))) 134, .cells B_1 (iv .u32 l0) 134] := by rw [e_216, ← iv_set .u32 m_203 (x_205.toNat) (gn m_203 ((IntKind.i64.wrap (x_205 - 1)).toNat))]; exact st_218
     refine WL.nil ?_
     refine QW.blk_n ?_
     refine QW.then_n ?_
     refine CW.region ?_
     refine WL.val Wanted.none (Runs.move rfl) ?_
     refine WL.val Wanted.none (Runs.sub rfl rfl rfl) ?_
     refine WL.val Wanted.none (Runs.assign rfl) ?_
     refine WL.nil ?_
     exact QW.at _ (by repeat' constructor) ⟨m_215, IntKind.i64.wrap (x_205 - 1), rfl, H, hl_219, st_218'⟩
    ·have h_210 : (decide (x_205 > 0)) = false := (decide_eq_false c_209)
     refine CW.cf rfl h_210 ?_
     refine CW.exit ?_
     refine QW.then_x ?_
     refine QW.then_x ?_
     refine QW.blk_x ?_
     refine QW.then_n ?_
     refine CW.seq (CW.region ?_)
     refine WL.val Wanted.none (Runs.indexAddr_blk arr134 rfl rfl (by decide) (by decide) (o := 4) (by first | rfl | omega)) ?_
     refine WL.val Wanted.none (Runs.load nagg24 rfl (st_207.cell_iv (i := 0) rfl (by have := hl_204; omega))) ?_
     refine WL.val Wanted.none (Runs.move rfl) ?_
     obtain ⟨x_220, e_221, H⟩ := H
     refine WL.val Wanted.none (Runs.add rfl rfl e_221) ?_
     refine WL.val Wanted.none (Runs.indexAddr_blk arr134 rfl rfl (by decide) (by decide) (o := 4) (by first | rfl | omega)) ?_
     obtain ⟨m_222, e_223, H⟩ := H
     have hl_226 : m_222.length = 8 := by rw [e_223, List.length_set]; exact hl_204
     refine WL.store_cells (i := 0) st_207 rfl cells24 rfl (by rw [iv_length]; have := hl_204; omega) rfl rfl ?_
     intro w_224 st_225
     have st_225' : St w w_224 [.cells B_140 (iv .u32 m_222) 134, .cells B_133 (iv .u32 r_131) 154, .cells B_9 (iv .u32 m_62) 154, .cells B_5 (iv .u32 (List.replicate 8 (0 : Int))) 134, .cells B_1 (iv .u32 l0) 134] := by rw [e_223, ← iv_set .u32 m_203 4 x_220]; exact st_225
     refine WL.nil (QW.then_n ?_)
     refine CW.region ?_
     refine WL.val Wanted.none (Runs.move rfl) ?_
     refine WL.val Wanted.none (Runs.move rfl) ?_
     obtain ⟨x_227, e_228, H⟩ := H
     refine WL.val Wanted.none (Runs.add rfl rfl e_228) ?_
     refine WL.val Wanted.none (Runs.move rfl) ?_
     refine WL.val Wanted.none (Runs.add rfl rfl rfl) ?_
     refine WL.val Wanted.none (Runs.indexAddr_blk arr134 rfl rfl (by decide) (by decide) (o := 0) (by first | rfl | omega)) ?_
     obtain ⟨m_229, e_230, H⟩ := H
     have hl_233 : m_229.length = 8 := by rw [e_230, List.length_set]; exact hl_226
     refine WL.store_cells (i := 0) st_225' rfl cells24 rfl (by rw [iv_length]; have := hl_226; omega) rfl rfl ?_
     intro w_231 st_232
     have st_232' : St w w_231 [.cells B_140 (iv .u32 m_229) 134, .cells B_133 (iv .u32 r_131) 154, .cells B_9 (iv .u32 m_62) 154, .cells B_5 (iv .u32 (List.replicate 8 (0 : Int))) 134, .cells B_1 (iv .u32 l0) 134] := by rw [e_230, ← iv_set .u32 m_222 0 (IntKind.u32.wrap (x_227 + x_200))]; exact st_232
     refine WL.nil ?_
     refine QW.blk_n ?_
     refine QW.then_n ?_
     refine CW.region ?_
     refine WL.val Wanted.none (Runs.move rfl) ?_
     refine WL.val Wanted.none (Runs.add rfl rfl rfl) ?_
     refine WL.val Wanted.none (Runs.assign rfl) ?_
     refine WL.nil ?_
     exact QW.at _ (by repeat' constructor) ⟨m_229, IntKind.i64.wrap (x_150 + 1), rfl, H, hl_233, st_232'⟩
   ·have h_155 : (decide (x_150 < 64)) = false := (decide_eq_false c_154)
    refine CW.cf rfl h_155 ?_
    refine CW.exit ?_
    refine QW.then_x ?_
    refine QW.then_x ?_
    refine QW.blk_x ?_
    refine QW.then_n ?_
    refine CW.seq ?_
    refine CW.seq (CW.region ?_)
    refine WL.val Wanted.none (Runs.assign rfl) ?_
    refine WL.nil (QW.then_n ?_)
    refine CW.block ?_
    obtain ⟨k_234, H⟩ := H
    refine CW.sub [(3, .pointer (some ⟨B_1, 0, none⟩)), (6, .pointer (some ⟨B_5, 0, none⟩)), (13, .pointer (some ⟨B_140, 0, none⟩)), (23, .int .i64 0)] ⟨rfl, rfl, rfl, rfl, trivial⟩ ?_
    refine CW.loop (fun kL5 l_ w_ => ∃ (m_235 : List Int) (x_237 : Int), l_ = [(3, .pointer (some ⟨B_1, 0, none⟩)), (6, .pointer (some ⟨B_5, 0, none⟩)), (13, .pointer (some ⟨B_140, 0, none⟩)), (23, .int .i64 x_237)] ∧ reliquaryref02_block.L5 l0 r0 kL5 m_235 x_237 ∧ (m_235.length = 8) ∧ St w w_ [.cells B_140 (iv .u32 m_235) 134, .cells B_133 (iv .u32 r_131) 154, .cells B_9 (iv .u32 m_62) 154, .cells B_5 (iv .u32 (List.replicate 8 (0 : Int))) 134, .cells B_1 (iv .u32 l0) 134]) (k := k_234) ⟨m_148, 0, rfl, H, hl_149, st_152⟩ (fun _ _ h => by obtain ⟨_, _, _, h, _⟩ := h; exact h.elim) ?_
    rintro kL5 l_240 w_238 ⟨m_235, x_237, rfl, H, hl_236, st_239⟩
    refine CW.seq ?_
    refine CW.seq (CW.region ?_)
    refine WL.val Wanted.none (Runs.move rfl) ?_
    refine WL.val Wanted.none (Runs.lss rfl rfl rfl) ?_
    refine WL.nil (QW.then_n ?_)
    rcases H with ⟨c_241, H⟩ | ⟨c_241, H⟩
    ·have h_242 : (decide (x_237 < 8)) = true := (decide_eq_true c_241)
     refine CW.ct rfl h_242 ?_
     refine CW.skip ?_
     refine QW.then_n ?_
     refine CW.seq ?_
     refine CW.block ?_
     refine CW.region_qt 8 wide (by kernel_rfl) st_239 ?_
     refine HL.val Wanted.none (fun wq sq => (Runs.move rfl)) ?_
     obtain ⟨⟨p_243, q_244⟩, H⟩ := H
     refine HL.val Wanted.none (fun wq sq => (Runs.indexAddr_blk arr134 rfl rfl p_243 q_244 (o := (x_237).toNat) (by first | rfl | omega))) ?_
     refine HL.val Wanted.none (fun wq sq => (Runs.load nagg24 rfl (sq.cell_iv (i := 0) rfl (by have := hl_236; omega)))) ?_
     refine HL.val Wanted.none (fun wq sq => (Runs.move rfl)) ?_
     obtain ⟨⟨p_245, q_246⟩, H⟩ := H
     refine HL.val Wanted.none (fun wq sq => (Runs.indexAddr_blk arr134 rfl rfl p_245 q_246 (o := (x_237).toNat) (by first | rfl | omega))) ?_
     refine HL.val Wanted.none (fun wq sq => (Runs.load nagg24 rfl (sq.cell_iv (i := 4) rfl (by have := hl0; omega)))) ?_
     obtain ⟨x_247, e_248, H⟩ := H
     refine HL.val Wanted.none (fun wq sq => (Runs.add rfl rfl e_248)) ?_
     obtain ⟨⟨p_249, q_250⟩, H⟩ := H
     refine HL.val Wanted.none (fun wq sq => (Runs.indexAddr_blk arr134 rfl rfl p_249 q_250 (o := (x_237).toNat) (by first | rfl | omega))) ?_
     refine HL.nil (fun w_251 st_252 => ?_)
     obtain ⟨m_253, e_254, H⟩ := H
     have hl_257 : m_253.length = 8 := by rw [e_254, List.length_set]; exact hl_236
     refine WL.store_cells (i := 0) st_252 rfl cells24 rfl (by rw [iv_length]; have := hl_236; omega) rfl rfl ?_
     intro w_255 st_256
     have st_256' : St w w_255 [.cells B_140 (iv .u32 m_253) 134, .cells B_133 (iv .u32 r_131) 154, .cells B_9 (iv .u32 m_62) 154, .cells B_5 (iv .u32 (List.replicate 8 (0 : Int))) 134, .cells B_1 (iv .u32 l0) 134] := by rw [e_254, ← iv_set .u32 m_235 (x_237.toNat) x_247]; exact st_256
     refine WL.nil ?_
     refine QW.blk_n ?_
     refine QW.then_n ?_
     refine CW.region ?_
     refine WL.val Wanted.none (Runs.move rfl) ?_
     refine WL.val Wanted.none (Runs.add rfl rfl rfl) ?_
     refine WL.val Wanted.none (Runs.assign rfl) ?_
     refine WL.nil ?_
     exact QW.at _ (by repeat' constructor) ⟨m_253, IntKind.i64.wrap (x_237 + 1), rfl, H, hl_257, st_256'⟩
    ·have h_242 : (decide (x_237 < 8)) = false := (decide_eq_false c_241)
     refine CW.cf rfl h_242 ?_
     refine CW.exit ?_
     refine QW.then_x ?_
     refine QW.then_x ?_
     refine QW.blk_x ?_
     refine QW.then_n ?_
     refine CW.seq (CW.region ?_)
     refine WL.val Wanted.none (Runs.load_arr arr134 rfl (st_239.blk (i := 0) rfl) hl_236) ?_
     refine WL.store_arr (i := 3) st_239 rfl arr134 rfl (by rw [iv_length]; exact (List.length_replicate ..)) hl_236 rfl ?_
     intro w_258 st_259
     replace st_259 : St w w_258 [.cells B_140 (iv .u32 m_235) 134, .cells B_133 (iv .u32 r_131) 154, .cells B_9 (iv .u32 m_62) 154, .cells B_5 (iv .u32 m_235) 134, .cells B_1 (iv .u32 l0) 134] := st_259
     refine WL.nil (QW.then_n ?_)
     refine CW.sub [(6, .pointer (some ⟨B_5, 0, none⟩))] ⟨rfl, trivial⟩ ?_
     refine CW.ret ?_
     obtain rfl := H
     exact QW.retc rfl arr134 rfl (st_259.blk (i := 3) rfl) hl_236 ⟨hl_236, rfl, st_259.pick [] (by decide)⟩

/-! ### reliquaryref02_Of: function 34 -/
def reliquaryref02_Of.L4 (r0 : List Int) (m_93 : List Int) : Nat → (List Int) → Int → Prop
 | 0, _, _ => False
 | kL4 + 1, m_115, x_117 => ((x_117 < 32 ∧ ((0 ≤ (IntKind.i64.wrap (Int.tdiv x_117 4)) ∧ (IntKind.i64.wrap (Int.tdiv x_117 4)) < (8 : Int)) ∧ (∃ x_125 : Int, x_125 = IntKind.i64.wrap (24 - (IntKind.i64.wrap (8 * (Int.tmod x_117 4)))) ∧ (0 ≤ (IntKind.u64.wrap x_125) ∧ (∃ x_128 : Int, x_128 = shrI .u32 (gn m_93 ((IntKind.i64.wrap (Int.tdiv x_117 4)).toNat)) (IntKind.u64.wrap x_125) ∧ ((0 ≤ x_117 ∧ x_117 < (32 : Int)) ∧ (∃ m_132 : List Int, m_132 = List.set m_115 (x_117.toNat) (IntKind.u8.wrap x_128) ∧ reliquaryref02_Of.L4 r0 m_93 kL4 m_132 (IntKind.i64.wrap (x_117 + 1))))))))) ∨ (¬ (x_117 < 32) ∧ r0 = m_115))
def reliquaryref02_Of.L3 (r0 : List Int) (l_56 : List Int) : Nat → (List Int) → Int → Prop
 | 0, _, _ => False
 | kL3 + 1, m_93, x_95 => ((x_95 < (l_56.length : Int) ∧ (∃ (r_105 : List Int), reliquaryref02_block.rel m_93 l_56 x_95 r_105 ∧ reliquaryref02_Of.L3 r0 l_56 kL3 r_105 (IntKind.i64.wrap (x_95 + 64)))) ∨ (¬ (x_95 < (l_56.length : Int)) ∧ (∃ k_ : Nat, reliquaryref02_Of.L4 r0 m_93 k_ (List.replicate 32 (0 : Int)) 0)))
def reliquaryref02_Of.L2 (l0 : List Int) (r0 : List Int) : Nat → (List Int) → Int → Prop
 | 0, _, _ => False
 | kL2 + 1, l_56, x_59 => ((x_59 < 8 ∧ (∃ x_65 : Int, x_65 = IntKind.u64.wrap (IntKind.i64.wrap (56 - (IntKind.i64.wrap (8 * x_59)))) ∧ (0 ≤ x_65 ∧ (∃ x_68 : Int, x_68 = shrI .u64 (IntKind.u64.wrap ((IntKind.u64.wrap (l0.length : Int)) * 8)) x_65 ∧ (∃ m_74 : List Int, m_74 = l_56 ++ [IntKind.u8.wrap x_68] ∧ (m_74.length ≤ 1099511627776 ∧ reliquaryref02_Of.L2 l0 r0 kL2 m_74 (IntKind.i64.wrap (x_59 + 1)))))))) ∨ (¬ (x_59 < 8) ∧ (∃ m_83 : List Int, m_83 = [1779033703, 3144134277, 1013904242, 2773480762, 1359893119, 2600822924, 528734635, 1541459225] ∧ (∃ k_ : Nat, reliquaryref02_Of.L3 r0 l_56 k_ m_83 0))))
def reliquaryref02_Of.L1 (l0 : List Int) (r0 : List Int) : Nat → (List Int) → Prop
 | 0, _ => False
 | kL1 + 1, l_32 => (((Int.tmod (l_32.length : Int) 64) ≠ 56 ∧ (∃ m_44 : List Int, m_44 = l_32 ++ [0] ∧ (m_44.length ≤ 1099511627776 ∧ reliquaryref02_Of.L1 l0 r0 kL1 m_44))) ∨ (¬ ((Int.tmod (l_32.length : Int) 64) ≠ 56) ∧ (∃ k_ : Nat, reliquaryref02_Of.L2 l0 r0 k_ l_32 0)))
def reliquaryref02_Of.rel (l0 : List Int) (r0 : List Int) : Prop := (∃ m_7 : List Int, m_7 = ([] : List Int) ++ l0 ∧ (m_7.length ≤ 1099511627776 ∧ (∃ m_20 : List Int, m_20 = m_7 ++ [128] ∧ (m_20.length ≤ 1099511627776 ∧ (∃ k_ : Nat, reliquaryref02_Of.L1 l0 r0 k_ m_20)))))
set_option maxHeartbeats 4000000 in
set_option maxRecDepth 100000 in
theorem reliquaryref02_Of.calls (w : World) (l0 : List Int) (A0 : Option Addr) (n0 : Nat) (c0 : Nat)  (hs0 : Src w A0 (iv .u8 l0)) (hn0 : n0 = l0.length) (hc0 : n0 ≤ c0) (r0 : List Int) (H : reliquaryref02_Of.rel l0 r0) :
  Calls Tryd.prog 34 #[.slice A0 n0 c0] w fun e w' => r0.length = 32 ∧ e = .returned (.agg (iv .u8 r0).toArray) ∧ St w w' [] := by
 refine CW.enter Tryd.func34 rfl (n := 70) rfl [.slice A0 n0 c0] (Nat.le_of_ble_eq_true rfl) ?_
 refine CW.sub [(0, .slice A0 n0 c0)] ⟨rfl, trivial⟩ ?_
 have st0 : St w w [] := St.refl w
 refine CW.seq (CW.region ?_)
 refine WL.alloc st0 arr23.zero ?_
 intro B_1 w_2 st_3
 replace st_3 : St w w_2 [.cells B_1 (iv .u8 (List.replicate 32 (0 : Int))) 23] := st_3
 refine WL.nil (QW.then_n ?_)
 refine CW.seq (CW.region ?_)
 refine WL.val Wanted.none (Runs.assign rfl) ?_
 refine WL.nil (QW.then_n ?_)
 refine CW.seq (CW.region ?_)
 refine WL.val Wanted.none (Runs.move rfl) ?_
 refine WL.val Wanted.none (Runs.move rfl) ?_
 have st_6 := st_3.nil_sl 5 1
 have st_6 : St w w_2 [.sl none 0 0 (iv .u8 ([] : List Int)) 5 1, .cells B_1 (iv .u8 (List.replicate 32 (0 : Int))) 23] := st_6
 obtain ⟨m_7, e_8, H⟩ := H
 obtain ⟨z_9, H⟩ := H
 obtain ⟨n_12, hn_15⟩ : ∃ n_ : Nat, n_ = m_7.length := ⟨_, rfl⟩
 refine WL.append (i := 0) Wanted.none st_6 rfl Tryd.underlying25 elem5 rfl rfl (hs0.ext st_6) (by rw [iv_length]; exact (hn0).symm) (one_iv .u8 _) (by decide) (N := n_12) (by rw [hn_15, e_8, List.length_append]; exact congr (congrArg HAdd.hAdd (rfl)) (hn0)) (by rw [hn_15]; exact z_9) ?_
 intro A_10 c_11 w_13 st_14
 have st_14' : St w w_13 [.sl A_10 c_11 n_12 (iv .u8 m_7) 5 1, .cells B_1 (iv .u8 (List.replicate 32 (0 : Int))) 23] := by rw [e_8, ← iv_append .u8 ([] : List Int) l0]; exact st_14
 refine WL.val Wanted.none (Runs.assign rfl) ?_
 refine WL.nil (QW.then_n ?_)
 refine CW.seq (CW.region ?_)
 refine WL.val Wanted.none (Runs.move rfl) ?_
 refine WL.buildSl [.int .u8 128] st_14' Tryd.underlying25 elem5 rfl rfl (by decide) (by decide) (by simp [Value.cells]) ?_
 intro B_16 w_17 st_18
 replace st_18 : St w w_17 [.sl (some ⟨B_16, 0, none⟩) 1 1 (iv .u8 [128]) 5 1, .sl A_10 c_11 n_12 (iv .u8 m_7) 5 1, .cells B_1 (iv .u8 (List.replicate 32 (0 : Int))) 23] := st_18
 obtain ⟨m_20, e_21, H⟩ := H
 obtain ⟨z_22, H⟩ := H
 obtain ⟨n_25, hn_28⟩ : ∃ n_ : Nat, n_ = m_20.length := ⟨_, rfl⟩
 refine WL.append (i := 1) Wanted.none st_18 rfl Tryd.underlying25 elem5 rfl rfl (st_18.src_sl (k := 0) rfl) (by rw [iv_length]; exact (Eq.refl _).symm) (one_iv .u8 _) (by decide) (N := n_25) (by rw [hn_28, e_21, List.length_append]; exact congr (congrArg HAdd.hAdd (hn_15)) (rfl)) (by rw [hn_28]; exact z_22) ?_
 intro A_23 c_24 w_26 st_27
 have st_27' : St w w_26 [.sl (some ⟨B_16, 0, none⟩) 1 1 (iv .u8 [128]) 5 1, .sl A_23 c_24 n_25 (iv .u8 m_20) 5 1, .cells B_1 (iv .u8 (List.replicate 32 (0 : Int))) 23] := by rw [e_21, ← iv_append .u8 m_7 [128]]; exact st_27
 refine WL.val Wanted.none (Runs.assign rfl) ?_
 refine WL.nil (QW.then_n ?_)
 refine CW.sub [(0, .slice A0 n0 c0), (2, .pointer (some ⟨B_1, 0, none⟩)), (3, .slice A_23 n_25 c_24)] ⟨rfl, rfl, rfl, trivial⟩ ?_
 refine CW.seq ?_
 refine CW.block ?_
 obtain ⟨k_29, H⟩ := H
 refine CW.sub [(0, .slice A0 n0 c0), (2, .pointer (some ⟨B_1, 0, none⟩)), (3, .slice A_23 n_25 c_24)] ⟨rfl, rfl, rfl, trivial⟩ ?_
 refine CW.loop (fun kL1 l_ w_ => ∃ (A_30 : Option Addr) (c_31 : Nat) (n_33 : Nat) (l_32 : List Int), l_ = [(0, .slice A0 n0 c0), (2, .pointer (some ⟨B_1, 0, none⟩)), (3, .slice A_30 n_33 c_31)] ∧ reliquaryref02_Of.L1 l0 r0 kL1 l_32 ∧ (n_33 = l_32.length) ∧ St w w_ [.sl (some ⟨B_16, 0, none⟩) 1 1 (iv .u8 [128]) 5 1, .sl A_30 c_31 n_33 (iv .u8 l_32) 5 1, .cells B_1 (iv .u8 (List.replicate 32 (0 : Int))) 23]) (k := k_29) ⟨A_23, c_24, n_25, m_20, rfl, H, hn_28, st_27'⟩ (fun _ _ h => by obtain ⟨_, _, _, _, _, h, _⟩ := h; exact h.elim) ?_
 rintro kL1 l_37 w_35 ⟨A_30, c_31, n_33, l_32, rfl, H, hn_34, st_36⟩
 refine CW.seq ?_
 refine CW.seq (CW.region ?_)
 refine WL.val Wanted.none (Runs.move rfl) ?_
 refine WL.val Wanted.none (Runs.len_sl Tryd.underlying25 rfl (by rw [hn_34])) ?_
 refine WL.val Wanted.none (Runs.rem rfl rfl (by decide) rfl) ?_
 refine WL.val Wanted.none (Runs.neq rfl rfl rfl) ?_
 refine WL.nil (QW.then_n ?_)
 rcases H with ⟨c_38, H⟩ | ⟨c_38, H⟩
 ·have h_39 : ((Int.tmod (l_32.length : Int) 64) != 56) = true := (bne_iff_ne.mpr c_38)
  refine CW.ct rfl h_39 ?_
  refine CW.skip ?_
  refine QW.then_n ?_
  refine CW.block ?_
  refine CW.region ?_
  refine WL.val Wanted.none (Runs.move rfl) ?_
  refine WL.buildSl [.int .u8 0] st_36 Tryd.underlying25 elem5 rfl rfl (by decide) (by decide) (by simp [Value.cells]) ?_
  intro B_40 w_41 st_42
  replace st_42 : St w w_41 [.sl (some ⟨B_40, 0, none⟩) 1 1 (iv .u8 [0]) 5 1, .sl (some ⟨B_16, 0, none⟩) 1 1 (iv .u8 [128]) 5 1, .sl A_30 c_31 n_33 (iv .u8 l_32) 5 1, .cells B_1 (iv .u8 (List.replicate 32 (0 : Int))) 23] := st_42
  obtain ⟨m_44, e_45, H⟩ := H
  obtain ⟨z_46, H⟩ := H
  obtain ⟨n_49, hn_52⟩ : ∃ n_ : Nat, n_ = m_44.length := ⟨_, rfl⟩
  refine WL.append (i := 2) Wanted.none st_42 rfl Tryd.underlying25 elem5 rfl rfl (st_42.src_sl (k := 0) rfl) (by rw [iv_length]; exact (Eq.refl _).symm) (one_iv .u8 _) (by decide) (N := n_49) (by rw [hn_52, e_45, List.length_append]; exact congr (congrArg HAdd.hAdd (hn_34)) (rfl)) (by rw [hn_52]; exact z_46) ?_
  intro A_47 c_48 w_50 st_51
  have st_51' : St w w_50 [.sl (some ⟨B_40, 0, none⟩) 1 1 (iv .u8 [0]) 5 1, .sl (some ⟨B_16, 0, none⟩) 1 1 (iv .u8 [128]) 5 1, .sl A_47 c_48 n_49 (iv .u8 m_44) 5 1, .cells B_1 (iv .u8 (List.replicate 32 (0 : Int))) 23] := by rw [e_45, ← iv_append .u8 l_32 [0]]; exact st_51
  refine WL.val Wanted.none (Runs.assign rfl) ?_
  refine WL.nil ?_
  refine QW.blk_n ?_
  have st_51'' := st_51'.pick [1, 2, 3] (by decide)
  exact QW.at _ (by repeat' constructor) ⟨A_47, c_48, n_49, m_44, rfl, H, hn_52, st_51''⟩
 ·have h_39 : ((Int.tmod (l_32.length : Int) 64) != 56) = false := (bne_eq_false_iff_eq.mpr (Decidable.not_not.mp c_38))
  refine CW.cf rfl h_39 ?_
  refine CW.exit ?_
  refine QW.then_x ?_
  refine QW.then_x ?_
  refine QW.blk_x ?_
  refine QW.then_n ?_
  refine CW.seq (CW.region ?_)
  refine WL.val Wanted.none (Runs.move rfl) ?_
  refine WL.val Wanted.none (Runs.len_sl Tryd.underlying25 rfl (by rw [hn0])) ?_
  refine WL.val Wanted.none (Runs.conv Tryd.underlying37 ⟨_, Tryd.underlying3⟩ rfl rfl) ?_
  refine WL.val Wanted.none (Runs.mul rfl rfl rfl) ?_
  refine WL.val Wanted.none (Runs.assign rfl) ?_
  refine WL.nil (QW.then_n ?_)
  refine CW.sub [(2, .pointer (some ⟨B_1, 0, none⟩)), (3, .slice A_30 n_33 c_31), (4, .int .u64 (IntKind.u64.wrap ((IntKind.u64.wrap (l0.length : Int)) * 8)))] ⟨rfl, rfl, rfl, trivial⟩ ?_
  refine CW.seq ?_
  refine CW.seq (CW.region ?_)
  refine WL.val Wanted.none (Runs.assign rfl) ?_
  refine WL.nil (QW.then_n ?_)
  refine CW.block ?_
  obtain ⟨k_53, H⟩ := H
  refine CW.sub [(2, .pointer (some ⟨B_1, 0, none⟩)), (3, .slice A_30 n_33 c_31), (4, .int .u64 (IntKind.u64.wrap ((IntKind.u64.wrap (l0.length : Int)) * 8))), (5, .int .i64 0)] ⟨rfl, rfl, rfl, rfl, trivial⟩ ?_
  refine CW.loop (fun kL2 l_ w_ => ∃ (A_54 : Option Addr) (c_55 : Nat) (n_57 : Nat) (l_56 : List Int) (x_59 : Int), l_ = [(2, .pointer (some ⟨B_1, 0, none⟩)), (3, .slice A_54 n_57 c_55), (4, .int .u64 (IntKind.u64.wrap ((IntKind.u64.wrap (l0.length : Int)) * 8))), (5, .int .i64 x_59)] ∧ reliquaryref02_Of.L2 l0 r0 kL2 l_56 x_59 ∧ (n_57 = l_56.length) ∧ St w w_ [.sl (some ⟨B_16, 0, none⟩) 1 1 (iv .u8 [128]) 5 1, .sl A_54 c_55 n_57 (iv .u8 l_56) 5 1, .cells B_1 (iv .u8 (List.replicate 32 (0 : Int))) 23]) (k := k_53) ⟨A_30, c_31, n_33, l_32, 0, rfl, H, hn_34, st_36⟩ (fun _ _ h => by obtain ⟨_, _, _, _, _, _, h, _⟩ := h; exact h.elim) ?_
  rintro kL2 l_62 w_60 ⟨A_54, c_55, n_57, l_56, x_59, rfl, H, hn_58, st_61⟩
  refine CW.seq ?_
  refine CW.seq (CW.region ?_)
  refine WL.val Wanted.none (Runs.move rfl) ?_
  refine WL.val Wanted.none (Runs.lss rfl rfl rfl) ?_
  refine WL.nil (QW.then_n ?_)
  rcases H with ⟨c_63, H⟩ | ⟨c_63, H⟩
  ·have h_64 : (decide (x_59 < 8)) = true := (decide_eq_true c_63)
   refine CW.ct rfl h_64 ?_
   refine CW.skip ?_
   refine QW.then_n ?_
   refine CW.seq ?_
   refine CW.block ?_
   refine CW.region ?_
   refine WL.val Wanted.none (Runs.move rfl) ?_
   refine WL.val Wanted.none (Runs.move rfl) ?_
   refine WL.val Wanted.none (Runs.move rfl) ?_
   refine WL.val Wanted.none (Runs.mul rfl rfl rfl) ?_
   refine WL.val Wanted.none (Runs.sub rfl rfl rfl) ?_
   obtain ⟨x_65, e_66, H⟩ := H
   refine WL.val Wanted.none (Runs.conv Tryd.underlying133 ⟨_, Tryd.underlying3⟩ rfl e_66) ?_
   obtain ⟨z_67, H⟩ := H
   obtain ⟨x_68, e_69, H⟩ := H
   refine WL.val Wanted.none (Runs.shr rfl rfl z_67 e_69) ?_
   refine WL.val Wanted.none (Runs.conv Tryd.underlying5 ⟨_, Tryd.underlying37⟩ rfl rfl) ?_
   refine WL.buildSl [.int .u8 (IntKind.u8.wrap x_68)] st_61 Tryd.underlying25 elem5 rfl rfl (by decide) (by decide) (by simp [Value.cells]) ?_
   intro B_70 w_71 st_72
   replace st_72 : St w w_71 [.sl (some ⟨B_70, 0, none⟩) 1 1 (iv .u8 [IntKind.u8.wrap x_68]) 5 1, .sl (some ⟨B_16, 0, none⟩) 1 1 (iv .u8 [128]) 5 1, .sl A_54 c_55 n_57 (iv .u8 l_56) 5 1, .cells B_1 (iv .u8 (List.replicate 32 (0 : Int))) 23] := st_72
   obtain ⟨m_74, e_75, H⟩ := H
   obtain ⟨z_76, H⟩ := H
   obtain ⟨n_79, hn_82⟩ : ∃ n_ : Nat, n_ = m_74.length := ⟨_, rfl⟩
   refine WL.append (i := 2) Wanted.none st_72 rfl Tryd.underlying25 elem5 rfl rfl (st_72.src_sl (k := 0) rfl) (by rw [iv_length]; exact (Eq.refl _).symm) (one_iv .u8 _) (by decide) (N := n_79) (by rw [hn_82, e_75, List.length_append]; exact congr (congrArg HAdd.hAdd (hn_58)) (rfl)) (by rw [hn_82]; exact z_76) ?_
   intro A_77 c_78 w_80 st_81
   have st_81' : St w w_80 [.sl (some ⟨B_70, 0, none⟩) 1 1 (iv .u8 [IntKind.u8.wrap x_68]) 5 1, .sl (some ⟨B_16, 0, none⟩) 1 1 (iv .u8 [128]) 5 1, .sl A_77 c_78 n_79 (iv .u8 m_74) 5 1, .cells B_1 (iv .u8 (List.replicate 32 (0 : Int))) 23] := by rw [e_75, ← iv_append .u8 l_56 [IntKind.u8.wrap x_68]]; exact st_81
   refine WL.val Wanted.none (Runs.assign rfl) ?_
   refine WL.nil ?_
   refine QW.blk_n ?_
   refine QW.then_n ?_
   refine CW.region ?_
   refine WL.val Wanted.none (Runs.move rfl) ?_
   refine WL.val Wanted.none (Runs.add rfl rfl rfl) ?_
   refine WL.val Wanted.none (Runs.assign rfl) ?_
   refine WL.nil ?_
   have st_81'' := st_81'.pick [1, 2, 3] (by decide)
   exact QW.at _ (by repeat' constructor) ⟨A_77, c_78, n_79, m_74, IntKind.i64.wrap (x_59 + 1), rfl, H, hn_82, st_81''⟩
  ·have h_64 : (decide (x_59 < 8)) = false := (decide_eq_false c_63)
   refine CW.cf rfl h_64 ?_
   refine CW.exit ?_
   refine QW.then_x ?_
   refine QW.then_x ?_
   refine QW.blk_x ?_
   refine QW.then_n ?_
   refine CW.seq (CW.region ?_)
   obtain ⟨m_83, e_84, H⟩ := H
   refine WL.val Wanted.none (Runs.build_arr (xs := m_83) arr134 rfl rfl (by rw [e_84]; rfl)) ?_
   refine WL.alloc st_61 arr134.zero ?_
   intro B_85 w_86 st_87
   replace st_87 : St w w_86 [.cells B_85 (iv .u32 (List.replicate 8 (0 : Int))) 134, .sl (some ⟨B_16, 0, none⟩) 1 1 (iv .u8 [128]) 5 1, .sl A_54 c_55 n_57 (iv .u8 l_56) 5 1, .cells B_1 (iv .u8 (List.replicate 32 (0 : Int))) 23] := st_87
   refine WL.store_arr (i := 0) st_87 rfl arr134 rfl (by rw [iv_length]; exact (List.length_replicate ..)) (by rw [e_84]; rfl) rfl ?_
   intro w_89 st_90
   replace st_90 : St w w_89 [.cells B_85 (iv .u32 m_83) 134, .sl (some ⟨B_16, 0, none⟩) 1 1 (iv .u8 [128]) 5 1, .sl A_54 c_55 n_57 (iv .u8 l_56) 5 1, .cells B_1 (iv .u8 (List.replicate 32 (0 : Int))) 23] := st_90
   refine WL.nil (QW.then_n ?_)
   refine CW.seq ?_
   refine CW.seq (CW.region ?_)
   refine WL.val Wanted.none (Runs.assign rfl) ?_
   refine WL.nil (QW.then_n ?_)
   refine CW.block ?_
   obtain ⟨k_92, H⟩ := H
   refine CW.sub [(2, .pointer (some ⟨B_1, 0, none⟩)), (3, .slice A_54 n_57 c_55), (6, .pointer (some ⟨B_85, 0, none⟩)), (7, .int .i64 0)] ⟨rfl, rfl, rfl, rfl, trivial⟩ ?_
   refine CW.loop (fun kL3 l_ w_ => ∃ (m_93 : List Int) (x_95 : Int), l_ = [(2, .pointer (some ⟨B_1, 0, none⟩)), (3, .slice A_54 n_57 c_55), (6, .pointer (some ⟨B_85, 0, none⟩)), (7, .int .i64 x_95)] ∧ reliquaryref02_Of.L3 r0 l_56 kL3 m_93 x_95 ∧ (m_93.length = 8) ∧ St w w_ [.cells B_85 (iv .u32 m_93) 134, .sl (some ⟨B_16, 0, none⟩) 1 1 (iv .u8 [128]) 5 1, .sl A_54 c_55 n_57 (iv .u8 l_56) 5 1, .cells B_1 (iv .u8 (List.replicate 32 (0 : Int))) 23]) (k := k_92) ⟨m_83, 0, rfl, H, (by rw [e_84]; rfl), st_90⟩ (fun _ _ h => by obtain ⟨_, _, _, h, _⟩ := h; exact h.elim) ?_
   rintro kL3 l_98 w_96 ⟨m_93, x_95, rfl, H, hl_94, st_97⟩
   refine CW.seq ?_
   refine CW.seq (CW.region ?_)
   refine WL.val Wanted.none (Runs.move rfl) ?_
   refine WL.val Wanted.none (Runs.move rfl) ?_
   refine WL.val Wanted.none (Runs.len_sl Tryd.underlying25 rfl (by rw [hn_58])) ?_
   refine WL.val Wanted.none (Runs.lss rfl rfl rfl) ?_
   refine WL.nil (QW.then_n ?_)
   rcases H with ⟨c_99, H⟩ | ⟨c_99, H⟩
   ·have h_100 : (decide (x_95 < (l_56.length : Int))) = true := (decide_eq_true c_99)
    refine CW.ct rfl h_100 ?_
    refine CW.skip ?_
    refine QW.then_n ?_
    refine CW.seq ?_
    refine CW.block ?_
    refine CW.region ?_
    refine WL.val Wanted.none (Runs.load_arr arr134 rfl (st_97.blk (i := 0) rfl) hl_94) ?_
    refine WL.val Wanted.none (Runs.move rfl) ?_
    refine WL.val Wanted.none (Runs.move rfl) ?_
    obtain ⟨r_105, hr_101, H⟩ := H
    refine WL.call Wanted.none ent57 rfl (reliquaryref02_block.calls w_96 m_93 l_56 x_95 A_54 n_57 c_55 hl_94 (st_97.src_sl (k := 2) rfl) (hn_58) (st_97.cap (i := 2) rfl) r_105 hr_101) ?_
    rintro _ w_102 ⟨hl_106, rfl, sc_104⟩
    have st_103 : St w w_102 [.cells B_85 (iv .u32 m_93) 134, .sl (some ⟨B_16, 0, none⟩) 1 1 (iv .u8 [128]) 5 1, .sl A_54 c_55 n_57 (iv .u8 l_56) 5 1, .cells B_1 (iv .u8 (List.replicate 32 (0 : Int))) 23] := st_97.call sc_104
    refine ⟨_, rfl, ?_⟩
    refine WL.store_arr (i := 0) st_103 rfl arr134 rfl (by rw [iv_length]; exact hl_94) hl_106 rfl ?_
    intro w_107 st_108
    replace st_108 : St w w_107 [.cells B_85 (iv .u32 r_105) 134, .sl (some ⟨B_16, 0, none⟩) 1 1 (iv .u8 [128]) 5 1, .sl A_54 c_55 n_57 (iv .u8 l_56) 5 1, .cells B_1 (iv .u8 (List.replicate 32 (0 : Int))) 23] := st_108
    refine WL.nil ?_
    refine QW.blk_n ?_
    refine QW.then_n ?_
    refine CW.region ?_
    refine WL.val Wanted.none (Runs.move rfl) ?_
    refine WL.val Wanted.none (Runs.add rfl rfl rfl) ?_
    refine WL.val Wanted.none (Runs.assign rfl) ?_
    refine WL.nil ?_
    exact QW.at _ (by repeat' constructor) ⟨r_105, IntKind.i64.wrap (x_95 + 64), rfl, H, hl_106, st_108⟩
   ·have h_100 : (decide (x_95 < (l_56.length : Int))) = false := (decide_eq_false c_99)
    refine CW.cf rfl h_100 ?_
    refine CW.exit ?_
    refine QW.then_x ?_
    refine QW.then_x ?_
    refine QW.blk_x ?_
    refine QW.then_n ?_
    refine CW.sub [(2, .pointer (some ⟨B_1, 0, none⟩)), (6, .pointer (some ⟨B_85, 0, none⟩))] ⟨rfl, rfl, trivial⟩ ?_
    refine CW.seq (CW.region ?_)
    refine WL.alloc st_97 arr23.zero ?_
    intro B_110 w_111 st_112
    replace st_112 : St w w_111 [.cells B_110 (iv .u8 (List.replicate 32 (0 : Int))) 23, .cells B_85 (iv .u32 m_93) 134, .sl (some ⟨B_16, 0, none⟩) 1 1 (iv .u8 [128]) 5 1, .sl A_54 c_55 n_57 (iv .u8 l_56) 5 1, .cells B_1 (iv .u8 (List.replicate 32 (0 : Int))) 23] := st_112
    refine WL.nil (QW.then_n ?_)
    refine CW.seq ?_
    refine CW.seq (CW.region ?_)
    refine WL.val Wanted.none (Runs.assign rfl) ?_
    refine WL.nil (QW.then_n ?_)
    refine CW.block ?_
    obtain ⟨k_114, H⟩ := H
    refine CW.sub [(2, .pointer (some ⟨B_1, 0, none⟩)), (6, .pointer (some ⟨B_85, 0, none⟩)), (8, .pointer (some ⟨B_110, 0, none⟩)), (9, .int .i64 0)] ⟨rfl, rfl, rfl, rfl, trivial⟩ ?_
    refine CW.loop (fun kL4 l_ w_ => ∃ (m_115 : List Int) (x_117 : Int), l_ = [(2, .pointer (some ⟨B_1, 0, none⟩)), (6, .pointer (some ⟨B_85, 0, none⟩)), (8, .pointer (some ⟨B_110, 0, none⟩)), (9, .int .i64 x_117)] ∧ reliquaryref02_Of.L4 r0 m_93 kL4 m_115 x_117 ∧ (m_115.length = 32) ∧ St w w_ [.cells B_110 (iv .u8 m_115) 23, .cells B_85 (iv .u32 m_93) 134, .sl (some ⟨B_16, 0, none⟩) 1 1 (iv .u8 [128]) 5 1, .sl A_54 c_55 n_57 (iv .u8 l_56) 5 1, .cells B_1 (iv .u8 (List.replicate 32 (0 : Int))) 23]) (k := k_114) ⟨List.replicate 32 (0 : Int), 0, rfl, H, (List.length_replicate ..), st_112⟩ (fun _ _ h => by obtain ⟨_, _, _, h, _⟩ := h; exact h.elim) ?_
    rintro kL4 l_120 w_118 ⟨m_115, x_117, rfl, H, hl_116, st_119⟩
    refine CW.seq ?_
    refine CW.seq (CW.region ?_)
    refine WL.val Wanted.none (Runs.move rfl) ?_
    refine WL.val Wanted.none (Runs.lss rfl rfl rfl) ?_
    refine WL.nil (QW.then_n ?_)
    rcases H with ⟨c_121, H⟩ | ⟨c_121, H⟩
    ·have h_122 : (decide (x_117 < 32)) = true := (decide_eq_true c_121)
     refine CW.ct rfl h_122 ?_
     refine CW.skip ?_
     refine QW.then_n ?_
     refine CW.seq ?_
     refine CW.block ?_
     refine CW.region ?_
     refine WL.val Wanted.none (Runs.move rfl) ?_
     refine WL.val Wanted.none (Runs.move rfl) ?_
     refine WL.val Wanted.none (Runs.quo rfl rfl (by decide) rfl) ?_
     obtain ⟨⟨p_123, q_124⟩, H⟩ := H
     refine WL.val Wanted.none (Runs.indexAddr_blk arr134 rfl rfl p_123 q_124 (o := (IntKind.i64.wrap (Int.tdiv x_117 4)).toNat) (by first | rfl | omega)) ?_
     refine WL.val Wanted.none (Runs.load nagg24 rfl (st_119.cell_iv (i := 1) rfl (by have := hl_94; omega))) ?_
     refine WL.val Wanted.none (Runs.move rfl) ?_
     refine WL.val Wanted.none (Runs.rem rfl rfl (by decide) rfl) ?_
     refine WL.val Wanted.none (Runs.mul rfl rfl rfl) ?_
     obtain ⟨x_125, e_126, H⟩ := H
     refine WL.val Wanted.none (Runs.sub rfl rfl e_126) ?_
     refine WL.val Wanted.none (Runs.conv Tryd.underlying133 ⟨_, Tryd.underlying3⟩ rfl rfl) ?_
     obtain ⟨z_127, H⟩ := H
     obtain ⟨x_128, e_129, H⟩ := H
     refine WL.val Wanted.none (Runs.shr rfl rfl z_127 e_129) ?_
     refine WL.val Wanted.none (Runs.conv Tryd.underlying5 ⟨_, Tryd.underlying24⟩ rfl rfl) ?_
     obtain ⟨⟨p_130, q_131⟩, H⟩ := H
     refine WL.val Wanted.none (Runs.indexAddr_blk arr23 rfl rfl p_130 q_131 (o := (x_117).toNat) (by first | rfl | omega)) ?_
     obtain ⟨m_132, e_133, H⟩ := H
     have hl_136 : m_132.length = 32 := by rw [e_133, List.length_set]; exact hl_116
     refine WL.store_cells (i := 0) st_119 rfl cells5 rfl (by rw [iv_length]; have := hl_116; omega) rfl rfl ?_
     intro w_134 st_135
     have st_135' : St w w_134 [.cells B_110 (iv .u8 m_132) 23, .cells B_85 (iv .u32 m_93) 134, .sl (some ⟨B_16, 0, none⟩) 1 1 (iv .u8 [128]) 5 1, .sl A_54 c_55 n_57 (iv .u8 l_56) 5 1, .cells B_1 (iv .u8 (List.replicate 32 (0 : Int))) 23] := by rw [e_133, ← iv_set .u8 m_115 (x_117.toNat) (IntKind.u8.wrap x_128)]; exact st_135
     refine WL.nil ?_
     refine QW.blk_n ?_
     refine QW.then_n ?_
     refine CW.region ?_
     refine WL.val Wanted.none (Runs.move rfl) ?_
     refine WL.val Wanted.none (Runs.add rfl rfl rfl) ?_
     refine WL.val Wanted.none (Runs.assign rfl) ?_
     refine WL.nil ?_
     exact QW.at _ (by repeat' constructor) ⟨m_132, IntKind.i64.wrap (x_117 + 1), rfl, H, hl_136, st_135'⟩
    ·have h_122 : (decide (x_117 < 32)) = false := (decide_eq_false c_121)
     refine CW.cf rfl h_122 ?_
     refine CW.exit ?_
     refine QW.then_x ?_
     refine QW.then_x ?_
     refine QW.blk_x ?_
     refine QW.then_n ?_
     refine CW.seq (CW.region ?_)
     refine WL.val Wanted.none (Runs.load_arr arr23 rfl (st_119.blk (i := 0) rfl) hl_116) ?_
     refine WL.store_arr (i := 4) st_119 rfl arr23 rfl (by rw [iv_length]; exact (List.length_replicate ..)) hl_116 rfl ?_
     intro w_137 st_138
     replace st_138 : St w w_137 [.cells B_110 (iv .u8 m_115) 23, .cells B_85 (iv .u32 m_93) 134, .sl (some ⟨B_16, 0, none⟩) 1 1 (iv .u8 [128]) 5 1, .sl A_54 c_55 n_57 (iv .u8 l_56) 5 1, .cells B_1 (iv .u8 m_115) 23] := st_138
     refine WL.nil (QW.then_n ?_)
     refine CW.sub [(2, .pointer (some ⟨B_1, 0, none⟩))] ⟨rfl, trivial⟩ ?_
     refine CW.ret ?_
     obtain rfl := H
     exact QW.retc rfl arr23 rfl (st_138.blk (i := 4) rfl) hl_116 ⟨hl_116, rfl, st_138.pick [] (by decide)⟩

/-! ### reliquaryref13_Link: function 10 -/
def reliquaryref13_Link.rel (l0 : List Int) (a1 : Int) (a2 : ByteArray) (r0 : List Int) : Prop := (∃ m_13 : List Int, m_13 = [255] ++ l0 ∧ (m_13.length ≤ 1099511627776 ∧ (∃ (r_26 : List Int), reliquaryref01_Put.rel (IntKind.u64.wrap a1) 4 r_26 ∧ (∃ m_32 : List Int, m_32 = m_13 ++ r_26 ∧ (m_32.length ≤ 1099511627776 ∧ (∃ m_41 : List Int, m_41 = m_32 ++ bl a2 ∧ (m_41.length ≤ 1099511627776 ∧ (∃ (r_54 : List Int), reliquaryref02_Of.rel m_41 r_54 ∧ r0 = r_54))))))))
set_option maxHeartbeats 4000000 in
set_option maxRecDepth 100000 in
theorem reliquaryref13_Link.calls (w : World) (l0 : List Int) (a1 : Int) (a2 : ByteArray)   (hl0 : l0.length = 32) (r0 : List Int) (H : reliquaryref13_Link.rel l0 a1 a2 r0) :
  Calls Tryd.prog 10 #[.agg (iv .u8 l0).toArray, .int .u32 a1, .string a2] w fun e w' => r0.length = 32 ∧ e = .returned (.agg (iv .u8 r0).toArray) ∧ St w w' [] := by
 refine CW.enter Tryd.func10 rfl (n := 22) rfl [.agg (iv .u8 l0).toArray, .int .u32 a1, .string a2] (Nat.le_of_ble_eq_true rfl) ?_
 refine CW.sub [(0, .agg (iv .u8 l0).toArray), (1, .int .u32 a1), (2, .string a2)] ⟨rfl, rfl, rfl, trivial⟩ ?_
 have st0 : St w w [] := St.refl w
 refine CW.seq (CW.region ?_)
 refine WL.box st0 rfl rfl ?_
 intro B_1 w_2 st_3
 replace st_3 : St w w_2 [.cells B_1 (iv .u8 l0) 23] := st_3
 refine WL.alloc st_3 arr23.zero ?_
 intro B_5 w_6 st_7
 replace st_7 : St w w_6 [.cells B_5 (iv .u8 (List.replicate 32 (0 : Int))) 23, .cells B_1 (iv .u8 l0) 23] := st_7
 refine WL.nil (QW.then_n ?_)
 refine CW.seq (CW.region ?_)
 refine WL.buildSl [.int .u8 255] st_7 Tryd.underlying25 elem5 rfl rfl (by decide) (by decide) (by simp [Value.cells]) ?_
 intro B_9 w_10 st_11
 replace st_11 : St w w_10 [.sl (some ⟨B_9, 0, none⟩) 1 1 (iv .u8 [255]) 5 1, .cells B_5 (iv .u8 (List.replicate 32 (0 : Int))) 23, .cells B_1 (iv .u8 l0) 23] := st_11
 refine WL.val Wanted.none (Runs.assign rfl) ?_
 refine WL.nil (QW.then_n ?_)
 refine CW.seq (CW.region ?_)
 refine WL.val Wanted.none (Runs.move rfl) ?_
 refine WL.val Wanted.none (Runs.slice_arr arr23 rfl (by decide)) ?_
 obtain ⟨m_13, e_14, H⟩ := H
 obtain ⟨z_15, H⟩ := H
 obtain ⟨n_18, hn_21⟩ : ∃ n_ : Nat, n_ = m_13.length := ⟨_, rfl⟩
 refine WL.append (i := 0) Wanted.none st_11 rfl Tryd.underlying25 elem5 rfl rfl (st_11.src_blk (i := 2) rfl) (by rw [iv_length]; exact ((hl0).symm).symm) (one_iv .u8 _) (by decide) (N := n_18) (by rw [hn_21, e_14, List.length_append]; exact congr (congrArg HAdd.hAdd (rfl)) ((hl0).symm)) (by rw [hn_21]; exact z_15) ?_
 intro A_16 c_17 w_19 st_20
 have st_20' : St w w_19 [.sl A_16 c_17 n_18 (iv .u8 m_13) 5 1, .cells B_5 (iv .u8 (List.replicate 32 (0 : Int))) 23, .cells B_1 (iv .u8 l0) 23] := by rw [e_14, ← iv_append .u8 [255] l0]; exact st_20
 refine WL.val Wanted.none (Runs.assign rfl) ?_
 refine WL.nil (QW.then_n ?_)
 refine CW.sub [(1, .int .u32 a1), (2, .string a2), (6, .pointer (some ⟨B_5, 0, none⟩)), (7, .slice A_16 n_18 c_17)] ⟨rfl, rfl, rfl, rfl, trivial⟩ ?_
 refine CW.seq (CW.region ?_)
 refine WL.val Wanted.none (Runs.move rfl) ?_
 refine WL.val Wanted.none (Runs.move rfl) ?_
 refine WL.val Wanted.none (Runs.conv Tryd.underlying37 ⟨_, Tryd.underlying24⟩ rfl rfl) ?_
 obtain ⟨r_26, hr_22, H⟩ := H
 refine WL.call Wanted.none ent33 rfl (reliquaryref01_Put.calls w_19 (IntKind.u64.wrap a1) 4 r_26 hr_22) ?_
 rintro _ w_23 ⟨A_27, c_28, n_29, hn_30, rfl, sc_25⟩
 have st_24 : St w w_23 [.sl A_27 c_28 n_29 (iv .u8 r_26) 5 1, .sl A_16 c_17 n_18 (iv .u8 m_13) 5 1, .cells B_5 (iv .u8 (List.replicate 32 (0 : Int))) 23, .cells B_1 (iv .u8 l0) 23] := st_20'.call sc_25
 refine ⟨_, rfl, ?_⟩
 obtain ⟨m_32, e_33, H⟩ := H
 obtain ⟨z_34, H⟩ := H
 obtain ⟨n_37, hn_40⟩ : ∃ n_ : Nat, n_ = m_32.length := ⟨_, rfl⟩
 refine WL.append (i := 1) Wanted.none st_24 rfl Tryd.underlying25 elem5 rfl rfl (st_24.src_sl (k := 0) rfl) (by rw [iv_length]; exact (hn_30).symm) (one_iv .u8 _) (by decide) (N := n_37) (by rw [hn_40, e_33, List.length_append]; exact congr (congrArg HAdd.hAdd (hn_21)) (hn_30)) (by rw [hn_40]; exact z_34) ?_
 intro A_35 c_36 w_38 st_39
 have st_39' : St w w_38 [.sl A_27 c_28 n_29 (iv .u8 r_26) 5 1, .sl A_35 c_36 n_37 (iv .u8 m_32) 5 1, .cells B_5 (iv .u8 (List.replicate 32 (0 : Int))) 23, .cells B_1 (iv .u8 l0) 23] := by rw [e_33, ← iv_append .u8 m_13 r_26]; exact st_39
 refine WL.val Wanted.none (Runs.assign rfl) ?_
 refine WL.nil (QW.then_n ?_)
 refine CW.sub [(2, .string a2), (6, .pointer (some ⟨B_5, 0, none⟩)), (7, .slice A_35 n_37 c_36)] ⟨rfl, rfl, rfl, trivial⟩ ?_
 refine CW.seq (CW.region ?_)
 refine WL.val Wanted.none (Runs.move rfl) ?_
 refine WL.val Wanted.none (Runs.move rfl) ?_
 obtain ⟨m_41, e_42, H⟩ := H
 obtain ⟨z_43, H⟩ := H
 obtain ⟨n_46, hn_49⟩ : ∃ n_ : Nat, n_ = m_41.length := ⟨_, rfl⟩
 refine WL.append_str (i := 1) Wanted.none st_39' rfl Tryd.underlying25 Tryd.underlying9 elem5 rfl rfl (N := n_46) (by rw [hn_49, e_42, List.length_append]; exact congr (congrArg HAdd.hAdd (hn_40)) (bl_length _)) (by rw [hn_49]; exact z_43) ?_
 intro A_44 c_45 w_47 st_48
 have st_48' : St w w_47 [.sl A_27 c_28 n_29 (iv .u8 r_26) 5 1, .sl A_44 c_45 n_46 (iv .u8 m_41) 5 1, .cells B_5 (iv .u8 (List.replicate 32 (0 : Int))) 23, .cells B_1 (iv .u8 l0) 23] := by rw [e_42, ← iv_append .u8 m_32 (bl a2)]; exact st_48
 refine WL.val Wanted.none (Runs.assign rfl) ?_
 refine WL.nil (QW.then_n ?_)
 refine CW.seq (CW.region ?_)
 refine WL.val Wanted.none (Runs.move rfl) ?_
 obtain ⟨r_54, hr_50, H⟩ := H
 refine WL.call Wanted.none ent34 rfl (reliquaryref02_Of.calls w_47 m_41 A_44 n_46 c_45 (st_48'.src_sl (k := 1) rfl) (hn_49) (st_48'.cap (i := 1) rfl) r_54 hr_50) ?_
 rintro _ w_51 ⟨hl_55, rfl, sc_53⟩
 have st_52 : St w w_51 [.sl A_27 c_28 n_29 (iv .u8 r_26) 5 1, .sl A_44 c_45 n_46 (iv .u8 m_41) 5 1, .cells B_5 (iv .u8 (List.replicate 32 (0 : Int))) 23, .cells B_1 (iv .u8 l0) 23] := st_48'.call sc_53
 refine ⟨_, rfl, ?_⟩
 refine WL.store_arr (i := 2) st_52 rfl arr23 rfl (by rw [iv_length]; exact (List.length_replicate ..)) hl_55 rfl ?_
 intro w_56 st_57
 replace st_57 : St w w_56 [.sl A_27 c_28 n_29 (iv .u8 r_26) 5 1, .sl A_44 c_45 n_46 (iv .u8 m_41) 5 1, .cells B_5 (iv .u8 r_54) 23, .cells B_1 (iv .u8 l0) 23] := st_57
 refine WL.nil (QW.then_n ?_)
 refine CW.sub [(6, .pointer (some ⟨B_5, 0, none⟩))] ⟨rfl, trivial⟩ ?_
 refine CW.ret ?_
 obtain rfl := H
 exact QW.retc rfl arr23 rfl (st_57.blk (i := 2) rfl) hl_55 ⟨hl_55, rfl, st_57.pick [] (by decide)⟩

/-! ### reliquarylaw13_JournalLinks: function 3 -/
def reliquarylaw13_JournalLinks.rel (l0 : List Int) (a1 : Int) (l2 : List Int)  : Prop := (reliquarylaw13_awake.rel  ∧ (((l2.length : Int) > 1000 ∧ True) ∨ (¬ ((l2.length : Int) > 1000) ∧ (∃ (r_15 : List Int), journal_Link.rel l0 a1 l2 r_15 ∧ (r_15.length = 32 ∧ (∃ (r_21 : List Int), reliquaryref13_Link.rel l0 a1 (strOfNums l2) r_21 ∧ (r_21.length = 32 ∧ r_15 = r_21)))))))
set_option maxHeartbeats 4000000 in
set_option maxRecDepth 100000 in
theorem reliquarylaw13_JournalLinks.calls (w : World) (l0 : List Int) (a1 : Int) (l2 : List Int) (A2 : Option Addr) (n2 : Nat) (c2 : Nat)  (hG0 : Src w (some ⟨0, 0, none⟩) (iv .u32 tab0)) (hG1 : Src w (some ⟨1, 0, none⟩) (iv .i64 tab1)) (hl0 : l0.length = 32) (hs2 : Src w A2 (iv .u8 l2)) (hn2 : n2 = l2.length) (hc2 : n2 ≤ c2)  (H : reliquarylaw13_JournalLinks.rel l0 a1 l2 ) :
  Calls Tryd.prog 3 #[.agg (iv .u8 l0).toArray, .int .u32 a1, .slice A2 n2 c2] w fun e w' => e = .returned (.bool true) ∧ Below w.heap.size w w' := by
 refine CW.enter Tryd.func3 rfl (n := 24) rfl [.agg (iv .u8 l0).toArray, .int .u32 a1, .slice A2 n2 c2] (Nat.le_of_ble_eq_true rfl) ?_
 refine CW.sub [(0, .agg (iv .u8 l0).toArray), (1, .int .u32 a1), (2, .slice A2 n2 c2)] ⟨rfl, rfl, rfl, trivial⟩ ?_
 have st0 : St w w [] := St.refl w
 refine CW.seq (CW.region ?_)
 refine WL.box st0 rfl rfl ?_
 intro B_1 w_2 st_3
 replace st_3 : St w w_2 [.cells B_1 (iv .u8 l0) 23] := st_3
 refine WL.val Wanted.none (Runs.assign rfl) ?_
 refine WL.nil (QW.then_n ?_)
 refine CW.seq (CW.region ?_)
 obtain ⟨hr_5, H⟩ := H
 refine WL.call Wanted.none ent8 rfl (reliquarylaw13_awake.calls w_2 (hG0.ext st_3) (hG1.ext st_3) hr_5) ?_
 rintro _ w_6 ⟨rfl, sc_8⟩
 have st_7 : St w w_6 [.cells B_1 (iv .u8 l0) 23] := st_3.below sc_8
 refine ⟨_, rfl, ?_⟩
 refine WL.val Wanted.none (Runs.assign rfl) ?_
 refine WL.nil (QW.then_n ?_)
 refine CW.seq ?_
 refine CW.seq (CW.region ?_)
 refine WL.val Wanted.none (Runs.move rfl) ?_
 refine WL.val Wanted.none (Runs.not rfl rfl) ?_
 refine WL.nil (QW.then_n ?_)
 refine CW.cf rfl rfl ?_
 refine CW.skip ?_
 refine QW.then_n ?_
 refine CW.seq ?_
 refine CW.seq (CW.region ?_)
 refine WL.val Wanted.none (Runs.move rfl) ?_
 refine WL.val Wanted.none (Runs.len_sl Tryd.underlying25 rfl (by rw [hn2])) ?_
 refine WL.val Wanted.none (Runs.gtr rfl rfl rfl) ?_
 refine WL.nil (QW.then_n ?_)
 refine CW.sub [(1, .int .u32 a1), (2, .slice A2 n2 c2), (3, .pointer (some ⟨B_1, 0, none⟩)), (6, .bool false), (13, .bool (decide ((l2.length : Int) > 1000)))] ⟨rfl, rfl, rfl, rfl, rfl, trivial⟩ ?_
 rcases H with ⟨c_9, H⟩ | ⟨c_9, H⟩
 ·have h_10 : (decide ((l2.length : Int) > 1000)) = true := (decide_eq_true c_9)
  refine CW.ct rfl h_10 ?_
  refine CW.seq (CW.region ?_)
  refine WL.val Wanted.none (Runs.assign rfl) ?_
  refine WL.nil (QW.then_n ?_)
  refine CW.ret ?_
  refine QW.then_r ?_
  exact QW.ret1 rfl rfl ⟨rfl, st_7.ext⟩
 ·have h_10 : (decide ((l2.length : Int) > 1000)) = false := (decide_eq_false c_9)
  refine CW.cf rfl h_10 ?_
  refine CW.skip ?_
  refine QW.then_n ?_
  refine CW.seq ?_
  refine CW.region_qa wide (by kernel_rfl) st_7 ?_
  refine HL.val Wanted.none (fun wq sq => (Runs.load_arr arr23 rfl (sq.blk (i := 0) rfl) hl0)) ?_
  refine HL.val Wanted.none (fun wq sq => (Runs.move rfl)) ?_
  refine HL.val Wanted.none (fun wq sq => (Runs.move rfl)) ?_
  obtain ⟨r_15, hr_11, H⟩ := H
  obtain ⟨hl_16, H⟩ := H
  refine HL.call Wanted.none ent9 rfl (fun wq sq => (journal_Link.calls wq l0 a1 l2 A2 n2 c2 (hG0.ext sq) hl0 (hs2.ext sq) (hn2) (hc2) r_15 hr_11).mono (by rintro _ _ ⟨_, rfl, sc⟩; exact ⟨rfl, sq.call sc⟩)) ?_
  refine HL.val Wanted.none (fun wq sq => (Runs.load_arr arr23 rfl (sq.blk (i := 0) rfl) hl0)) ?_
  refine HL.val Wanted.none (fun wq sq => (Runs.move rfl)) ?_
  refine HL.val Wanted.none (fun wq sq => (Runs.move rfl)) ?_
  refine HL.val Wanted.none (fun wq sq => (Runs.bytes_str Tryd.underlying25 Tryd.underlying5 Tryd.underlying9 rfl (hs2.ext sq) hn2)) ?_
  obtain ⟨r_21, hr_17, H⟩ := H
  obtain ⟨hl_22, H⟩ := H
  refine HL.call Wanted.none ent10 rfl (fun wq sq => (reliquaryref13_Link.calls wq l0 a1 (strOfNums l2) hl0 r_21 hr_17).mono (by rintro _ _ ⟨_, rfl, sc⟩; exact ⟨rfl, sq.call sc⟩)) ?_
  refine HL.val Wanted.none (fun wq sq => (Runs.eql_arr arr23 eqg23 rfl rfl hl_16 hl_22 rfl)) ?_
  refine HL.val Wanted.none (fun wq sq => (Runs.assign rfl)) ?_
  refine HL.nil (fun w_23 st_24 => ?_)
  refine WL.nil (QW.then_n ?_)
  refine CW.sub [(6, .bool (r_15 == r_21))] ⟨rfl, trivial⟩ ?_
  refine CW.ret ?_
  have hz : (r_15 == r_21) = true := (beq_iff_eq.mpr H)
  exact QW.ret1 rfl (evb rfl hz) ⟨rfl, st_24.ext⟩

end Go.Proofs.YtmhcjafkdmcgoaaDoor
