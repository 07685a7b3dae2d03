/- Walks: each function computes what its relation says, and a call of it ends so. Printed by a program of this session (wip/gen). -/
import Derived.Test.YtjlifbnkdfofhaaGx3
namespace Go.Proofs.Ytjlifbnkdfofhaa
open Go Go.Kr Go.RowKit
set_option linter.unusedVariables false
set_option linter.unusedSimpArgs false
/-! ### reliquarylaw06_DiskStops: function 8 -/
def reliquarylaw06_DiskStops.L1 (a0 : Int) (l_41 : List Int) : Nat → (List R22) → (List R69) → (List R71) → Int → Bool → Bool → Int → Prop
  | 0, _, _, _, _, _, _, _ => False
  | kL1 + 1, l_66, l_73, l_80, x_87, b_88, b_89, x_90 => ((x_90 < (IntKind.i64.wrap (Int.tmod a0 20)) ∧ (∃ (l_103_0 : List R22) (l_103_1 : List R69) (a_107_2 : Int) (a_107_3 : Bool) (l_103_4 : List R71) (a_109 : Int), disk_Disk_Write.rel l_66 l_73 x_87 b_88 l_80 (Int.tmod x_90 2) l_41 l_103_0 l_103_1 a_107_2 a_107_3 l_103_4 a_109 ∧ (¬ (a_109 ≠ 0) ∧ reliquarylaw06_DiskStops.L1 a0 l_41 kL1 l_103_0 l_103_1 l_103_4 a_107_2 a_107_3 b_89 (IntKind.i64.wrap (x_90 + 1))))) ∨ (¬ (x_90 < (IntKind.i64.wrap (Int.tmod a0 20))) ∧ (∃ (l_122_0 : List R22) (l_122_1 : List R69) (a_126_2 : Int) (a_126_3 : Bool) (l_122_4 : List R71) (a_128 : Int), disk_Disk_Write.rel l_66 l_73 x_87 b_88 l_80 0 l_41 l_122_0 l_122_1 a_126_2 a_126_3 l_122_4 a_128 ∧ (∃ (l_139_0 : List R22) (l_139_1 : List R69) (a_143_2 : Int) (a_143_3 : Bool) (l_139_4 : List R71) (l_148 : List Int) (a_152 : Int), disk_Disk_Read.rel l_122_0 l_122_1 a_126_2 a_126_3 l_122_4 0 l_139_0 l_139_1 a_143_2 a_143_3 l_139_4 l_148 a_152 ∧ (∃ (l_163_0 : List R22) (l_163_1 : List R69) (a_167_2 : Int) (a_167_3 : Bool) (l_163_4 : List R71) (a_169 : Int), disk_Disk_Flush.rel l_139_0 l_139_1 a_143_2 a_143_3 l_139_4 l_163_0 l_163_1 a_167_2 a_167_3 l_163_4 a_169 ∧ (∃ (l_180_0 : List R22) (l_180_1 : List R69) (a_184_2 : Int) (a_184_3 : Bool) (l_180_4 : List R71), disk_Disk_Crash.rel l_163_0 l_163_1 a_167_2 a_167_3 l_163_4 [] l_180_0 l_180_1 a_184_2 a_184_3 l_180_4 ∧ (∃ (l_195_0 : List R22) (l_195_1 : List R69) (a_199_2 : Int) (a_199_3 : Bool) (l_195_4 : List R71) (l_204 : List Int) (a_208 : Int), disk_Disk_Read.rel l_180_0 l_180_1 a_184_2 a_184_3 l_180_4 0 l_195_0 l_195_1 a_199_2 a_199_3 l_195_4 l_204 a_208 ∧ (∃ (l_220 : List Int) (a_224 : Int), disk_Disk_Read_nil0.rel 0 l_220 a_224 ∧ (disk_Disk_Stop_nil0.rel 1 ∧ (disk_Disk_Crash_nil0.rel [] ∧ (a_128 = 13 ∧ (a_152 = 13 ∧ (a_169 = 13 ∧ (a_208 = 0 ∧ (∃ (l_258_0 : List R22) (l_258_1 : List R69) (a_262_2 : Int) (a_262_3 : Bool) (l_258_4 : List R71) (a_264 : Int), disk_Disk_Write.rel l_195_0 l_195_1 a_199_2 a_199_3 l_195_4 1 l_41 l_258_0 l_258_1 a_262_2 a_262_3 l_258_4 a_264 ∧ (a_264 = 0 ∧ (a_224 = 1 ∧ (∃ (a_277 : Int), disk_Disk_Write_nil0.rel 0 l_41 a_277 ∧ (a_277 = 1 ∧ (∃ (a_288 : Int), disk_Disk_Flush_nil0.rel  a_288 ∧ (a_288 = 1 ∧ (∃ (a_299 : Int), disk_Disk_Tamper_nil0.rel 0 l_41 a_299 ∧ (a_299 = 1 ∧ (∃ (a_310 : Int), disk_Disk_Restore_nil0.rel [] a_310 ∧ (a_310 = 1 ∧ (∃ (a_321 : Int), disk_Disk_Size_nil0.rel  a_321 ∧ (∃ (a_330 : Int), disk_Disk_Pending_nil0.rel  a_330 ∧ (∃ (l_342 : List R22), disk_Disk_Image_nil0.rel  l_342 ∧ (∃ x_349 : Int, x_349 = IntKind.i64.wrap ((IntKind.i64.wrap (a_321 + a_330)) + (l_342.length : Int)) ∧ (∃ (l_359 : List R71), disk_Disk_Ops_nil0.rel  l_359 ∧ (IntKind.i64.wrap (x_349 + (l_359.length : Int))) = 0))))))))))))))))))))))))))))))
def reliquarylaw06_DiskStops.rel (a0 : Int) (l1 : List Int)  : Prop := (reliquarylaw06_awake.rel  ∧ (∃ (o_7 : Option ((List R22) × (List R69) × Int × Bool × (List R71))) (a_11 : Int), disk_New.rel 2 o_7 a_11 ∧ ((∃ (l_22_0 : List R22) (l_22_1 : List R69) (a_26_2 : Int) (a_26_3 : Bool) (l_22_4 : List R71), o_7 = some (l_22_0, l_22_1, a_26_2, a_26_3, l_22_4) ∧ (∃ (l_41 : List Int), reliquarylaw06_full.rel 0 0 l1 [] false l_41 ∧ (∃ (l_55_0 : List R22) (l_55_1 : List R69) (a_59_2 : Int) (a_59_3 : Bool) (l_55_4 : List R71), disk_Disk_Stop.rel l_22_0 l_22_1 a_26_2 a_26_3 l_22_4 (IntKind.i64.wrap (Int.tmod a0 20)) l_55_0 l_55_1 a_59_2 a_59_3 l_55_4 ∧ (∃ k_ : Nat, reliquarylaw06_DiskStops.L1 a0 l_41 k_ l_55_0 l_55_1 l_55_4 a_59_2 a_59_3 false 0)))))))
set_option maxHeartbeats 4000000 in
set_option maxRecDepth 100000 in
theorem reliquarylaw06_DiskStops.calls (w : World) (a0 : Int) (l1 : List Int) (A1 : Option Addr) (n1 : Nat) (c1 : Nat)  (hs1 : Src w A1 (iv .u8 l1)) (hn1 : n1 = l1.length) (hc1 : n1 ≤ c1)  (H : reliquarylaw06_DiskStops.rel a0 l1 ) :
    Calls Try.prog 8 #[.int .u8 a0, .slice A1 n1 c1] w fun e w' => e = .returned (.bool true) ∧ Below w.heap.size w w' := by
  refine CW.enter Try.func8 rfl (n := 137) rfl [.int .u8 a0, .slice A1 n1 c1] (Nat.le_of_ble_eq_true rfl) ?_
  refine CW.sub [(0, .int .u8 a0), (1, .slice A1 n1 c1)] ⟨rfl, rfl, trivial⟩ ?_
  obtain ⟨T, R, hT, hR, st0⟩ := St.start w
  refine CW.seq ?_
  refine CW.region ?_
  refine WL.val Wanted.none (Runs.assign rfl) ?_
  refine WL.nil ?_
  refine QW.then_n ?_
  refine CW.seq ?_
  refine CW.region ?_
  obtain ⟨hr_1, H⟩ := H
  refine WL.call Wanted.none ent9 rfl (reliquarylaw06_awake.calls w hr_1) ?_
  rintro _ w_2 ⟨rfl, sc_4⟩
  have st_3 : St w w_2 ((T ++ R)) := st0.below sc_4
  refine ⟨_, rfl, ?_⟩
  refine WL.val Wanted.none (Runs.assign rfl) ?_
  refine WL.nil ?_
  refine QW.then_n ?_
  refine CW.seq ?_
  refine CW.seq ?_
  refine CW.region ?_
  refine WL.val Wanted.none (Runs.move rfl) ?_
  refine WL.val Wanted.none (Runs.not rfl rfl) ?_
  refine WL.nil ?_
  refine QW.then_n ?_
  refine CW.cf rfl rfl ?_
  refine CW.skip ?_
  refine QW.then_n ?_
  refine CW.seq ?_
  refine CW.region ?_
  have st_5 : St w w_2 ((T ++ (R))) := St.hide (A := []) (B := []) (T := T) (R := R) st_3
  obtain ⟨o_7, a_11, hr_6, H⟩ := H
  obtain ⟨l_22_0, l_22_1, a_26_2, a_26_3, l_22_4, rfl, H⟩ := H
  refine WL.call Wanted.none ent10 rfl (disk_New.calls_obj w w_2 T (R) 2  st_5 l_22_0 l_22_1 a_26_2 a_26_3 l_22_4 a_11 (some (l_22_0, l_22_1, a_26_2, a_26_3, l_22_4)) rfl hr_6) ?_
  rintro _ w_29 ⟨T_15, b_18, A_19_0, n_20_0, c_21_0, x_23_0, A_19_1, n_20_1, c_21_1, x_23_1, A_19_4, n_20_4, c_21_4, x_23_4, hs_16, hn_24_0, hx_25_0, hn_24_1, hx_25_1, hn_24_4, hx_25_4, rfl, sc_31⟩
  have st_30 : St w w_29 (.cells b_18 (([.slice A_19_0 n_20_0 c_21_0] : List Value) ++ (([.slice A_19_1 n_20_1 c_21_1] : List Value) ++ (([.int .i64 a_26_2] : List Value) ++ (([.bool a_26_3] : List Value) ++ ([.slice A_19_4 n_20_4 c_21_4] : List Value))))) 66 :: .sl A_19_0 c_21_0 n_20_0 x_23_0 22 1 :: .sl A_19_1 c_21_1 n_20_1 x_23_1 69 2 :: .sl A_19_4 c_21_4 n_20_4 x_23_4 71 2 :: (T_15 ++ R)) := St.unhide (A := [_, _, _, _]) (B := []) (T := T_15) (R := R) sc_31
  refine ⟨_, rfl, ?_⟩
  refine WL.val Wanted.none (Runs.move rfl) ?_
  refine WL.val Wanted.none (Runs.extract rfl rfl) ?_
  refine WL.val Wanted.none (Runs.extract rfl rfl) ?_
  refine WL.val Wanted.none (Runs.assign rfl) ?_
  refine WL.val Wanted.none (Runs.assign rfl) ?_
  refine WL.nil ?_
  refine QW.then_n ?_
  refine CW.sub [(0, .int .u8 a0), (1, .slice A1 n1 c1), (4, .bool false), (6, .pointer (some ⟨b_18, 0, none⟩)), (7, .int .i64 0)] ⟨rfl, rfl, rfl, rfl, rfl, trivial⟩ ?_
  refine CW.seq ?_
  refine CW.seq ?_
  refine CW.region ?_
  refine WL.val Wanted.none (Runs.move rfl) ?_
  refine WL.val Wanted.none (Runs.neq (b := false) rfl rfl (by decide)) ?_
  refine WL.nil ?_
  refine QW.then_n ?_
  refine CW.cf rfl rfl ?_
  refine CW.skip ?_
  refine QW.then_n ?_
  refine CW.seq ?_
  refine CW.region ?_
  refine WL.val Wanted.none (Runs.move rfl) ?_
  refine WL.val Wanted.none (Runs.rem rfl rfl (by decide) rfl) ?_
  refine WL.val Wanted.none (Runs.conv Try.underlying3 ⟨_, Try.underlying5⟩ rfl rfl) ?_
  refine WL.val Wanted.none (Runs.assign rfl) ?_
  refine WL.nil ?_
  refine QW.then_n ?_
  refine CW.sub [(1, .slice A1 n1 c1), (4, .bool false), (6, .pointer (some ⟨b_18, 0, none⟩)), (8, .int .i64 (IntKind.i64.wrap (Int.tmod a0 20)))] ⟨rfl, rfl, rfl, rfl, trivial⟩ ?_
  refine CW.seq ?_
  refine CW.region ?_
  refine WL.val Wanted.none (Runs.move rfl) ?_
  refine WL.val Wanted.none (Runs.build_struct (ps := [(0, 1), (1, 1), (2, 1), (3, 1), (4, 1)]) (cs := (([.int .i64 0] : List Value) ++ (([.int .i64 0] : List Value) ++ (([.slice A1 n1 c1] : List Value) ++ (([.slice none 0 0] : List Value) ++ ([.bool false] : List Value)))))) plc33 zero33 rfl (by refine Fills.cons (o := 2) (ms := (([.slice A1 n1 c1] : List Value))) (show _ = some (2, (([.slice A1 n1 c1] : List Value)).length) by rw [show (([.slice A1 n1 c1] : List Value)).length = 1 from (by first | rfl | simp only [List.length_append, List.length_cons, List.length_nil, iv_length])] <;> rfl) rfl (by have h1_ : (([.slice A1 n1 c1] : List Value)).length = 1 := (by first | rfl | simp only [List.length_append, List.length_cons, List.length_nil, iv_length]); have h2_ : (([.int .i64 0] : List Value) ++ (([.int .i64 0] : List Value) ++ (([.slice none 0 0] : List Value) ++ (([.slice none 0 0] : List Value) ++ ([.bool false] : List Value))))).length = 5 := (by first | rfl | simp only [List.length_append, List.length_cons, List.length_nil, iv_length]); omega) ?_; rw [show layV (([.int .i64 0] : List Value) ++ (([.int .i64 0] : List Value) ++ (([.slice none 0 0] : List Value) ++ (([.slice none 0 0] : List Value) ++ ([.bool false] : List Value))))) 2 (([.slice A1 n1 c1] : List Value)) = (([.int .i64 0] : List Value) ++ (([.int .i64 0] : List Value) ++ (([.slice A1 n1 c1] : List Value) ++ (([.slice none 0 0] : List Value) ++ ([.bool false] : List Value))))) from (layV_mid (pre := (([.int .i64 0] : List Value) ++ ([.int .i64 0] : List Value))) (mid := (([.slice none 0 0] : List Value))) (post := (([.slice none 0 0] : List Value) ++ ([.bool false] : List Value))) (by first | rfl | simp only [List.append_assoc, List.append_nil, List.nil_append, List.cons_append]) (by first | rfl | simp only [List.length_append, List.length_cons, List.length_nil, iv_length]) (Eq.trans (b := 1) (by first | rfl | simp only [List.length_append, List.length_cons, List.length_nil, iv_length]) (Eq.symm (by first | rfl | simp only [List.length_append, List.length_cons, List.length_nil, iv_length])))).trans (by first | rfl | simp only [List.append_assoc, List.append_nil, List.nil_append, List.cons_append])]; exact Fills.nil)) ?_
  have hb_32 : HB w T_15 A1 n1 c1 (iv .u8 l1) l1.length := ⟨hn1, hc1, Hd.old hs1⟩
  have st_33 : St w w_29 ((T_15 ++ (.cells b_18 (([.slice A_19_0 n_20_0 c_21_0] : List Value) ++ (([.slice A_19_1 n_20_1 c_21_1] : List Value) ++ (([.int .i64 a_26_2] : List Value) ++ (([.bool a_26_3] : List Value) ++ ([.slice A_19_4 n_20_4 c_21_4] : List Value))))) 66 :: .sl A_19_0 c_21_0 n_20_0 x_23_0 22 1 :: .sl A_19_1 c_21_1 n_20_1 x_23_1 69 2 :: .sl A_19_4 c_21_4 n_20_4 x_23_4 71 2 :: R))) := St.hide (A := []) (B := [_, _, _, _]) (T := T_15) (R := R) st_30
  obtain ⟨l_41, hr_34, H⟩ := H
  refine WL.call Wanted.none ent12 rfl (reliquarylaw06_full.calls w w_29 T_15 (.cells b_18 (([.slice A_19_0 n_20_0 c_21_0] : List Value) ++ (([.slice A_19_1 n_20_1 c_21_1] : List Value) ++ (([.int .i64 a_26_2] : List Value) ++ (([.bool a_26_3] : List Value) ++ ([.slice A_19_4 n_20_4 c_21_4] : List Value))))) 66 :: .sl A_19_0 c_21_0 n_20_0 x_23_0 22 1 :: .sl A_19_1 c_21_1 n_20_1 x_23_1 69 2 :: .sl A_19_4 c_21_4 n_20_4 x_23_4 71 2 :: R) 0 0 l1 [] false A1 n1 c1 none 0 0  st_33 hb_32 HB.nil l_41 hr_34) ?_
  rintro _ w_44 ⟨T_35, A_38, n_39, c_40, hs_36, hn_43, rfl, sc_46⟩
  have st_45 : St w w_44 (.sl A_38 c_40 n_39 (iv .u8 l_41) 5 1 :: .cells b_18 (([.slice A_19_0 n_20_0 c_21_0] : List Value) ++ (([.slice A_19_1 n_20_1 c_21_1] : List Value) ++ (([.int .i64 a_26_2] : List Value) ++ (([.bool a_26_3] : List Value) ++ ([.slice A_19_4 n_20_4 c_21_4] : List Value))))) 66 :: .sl A_19_0 c_21_0 n_20_0 x_23_0 22 1 :: .sl A_19_1 c_21_1 n_20_1 x_23_1 69 2 :: .sl A_19_4 c_21_4 n_20_4 x_23_4 71 2 :: (T_35 ++ R)) := St.unhide (A := [_]) (B := [_, _, _, _]) (T := T_35) (R := R) sc_46
  refine ⟨_, rfl, ?_⟩
  refine WL.val Wanted.none (Runs.assign rfl) ?_
  refine WL.nil ?_
  refine QW.then_n ?_
  refine CW.seq ?_
  refine CW.region ?_
  refine WL.val Wanted.none (Runs.move rfl) ?_
  refine WL.val Wanted.none (Runs.move rfl) ?_
  have st_47 := (St.pickT (L := [_, _, _, _, _]) st_45 [1, 2, 3, 4, 0] (by decide))
  replace st_47 : St w w_44 (.cells b_18 (([.slice A_19_0 n_20_0 c_21_0] : List Value) ++ (([.slice A_19_1 n_20_1 c_21_1] : List Value) ++ (([.int .i64 a_26_2] : List Value) ++ (([.bool a_26_3] : List Value) ++ ([.slice A_19_4 n_20_4 c_21_4] : List Value))))) 66 :: .sl A_19_0 c_21_0 n_20_0 x_23_0 22 1 :: .sl A_19_1 c_21_1 n_20_1 x_23_1 69 2 :: .sl A_19_4 c_21_4 n_20_4 x_23_4 71 2 :: .sl A_38 c_40 n_39 (iv .u8 l_41) 5 1 :: (T_35 ++ R)) := st_47
  have st_48 : St w w_44 (.cells b_18 (([.slice A_19_0 n_20_0 c_21_0] : List Value) ++ (([.slice A_19_1 n_20_1 c_21_1] : List Value) ++ (([.int .i64 a_26_2] : List Value) ++ (([.bool a_26_3] : List Value) ++ ([.slice A_19_4 n_20_4 c_21_4] : List Value))))) 66 :: .sl A_19_0 c_21_0 n_20_0 x_23_0 22 1 :: .sl A_19_1 c_21_1 n_20_1 x_23_1 69 2 :: .sl A_19_4 c_21_4 n_20_4 x_23_4 71 2 :: (T_35 ++ (.sl A_38 c_40 n_39 (iv .u8 l_41) 5 1 :: R))) := St.hide (A := [_, _, _, _]) (B := [_]) (T := T_35) (R := R) st_47
  obtain ⟨l_55_0, l_55_1, a_59_2, a_59_3, l_55_4, hr_49, H⟩ := H
  refine WL.call Wanted.none ent24 rfl (disk_Disk_Stop.calls w w_44 T_35 (.sl A_38 c_40 n_39 (iv .u8 l_41) 5 1 :: R) l_22_0 l_22_1 a_26_2 a_26_3 l_22_4 (IntKind.i64.wrap (Int.tmod a0 20)) b_18 A_19_0 n_20_0 c_21_0 x_23_0 A_19_1 n_20_1 c_21_1 x_23_1 A_19_4 n_20_4 c_21_4 x_23_4  st_48 (hn_24_0) (hx_25_0.mono (fun _ h_ => hs_36.1 _ h_)) (hn_24_1) (hx_25_1.mono (fun _ h_ => hs_36.1 _ h_)) (hn_24_4) (hx_25_4.mono (fun _ h_ => hs_36.1 _ h_)) l_55_0 l_55_1 a_59_2 a_59_3 l_55_4 hr_49) ?_
  rintro _ w_60 ⟨T_50, A_52_0, n_53_0, c_54_0, x_56_0, A_52_1, n_53_1, c_54_1, x_56_1, A_52_4, n_53_4, c_54_4, x_56_4, hs_51, hn_57_0, hx_58_0, hn_57_1, hx_58_1, hn_57_4, hx_58_4, rfl, sc_62⟩
  have st_61 : St w w_60 (.cells b_18 (([.slice A_52_0 n_53_0 c_54_0] : List Value) ++ (([.slice A_52_1 n_53_1 c_54_1] : List Value) ++ (([.int .i64 a_59_2] : List Value) ++ (([.bool a_59_3] : List Value) ++ ([.slice A_52_4 n_53_4 c_54_4] : List Value))))) 66 :: .sl A_52_0 c_54_0 n_53_0 x_56_0 22 1 :: .sl A_52_1 c_54_1 n_53_1 x_56_1 69 2 :: .sl A_52_4 c_54_4 n_53_4 x_56_4 71 2 :: .sl A_38 c_40 n_39 (iv .u8 l_41) 5 1 :: (T_50 ++ R)) := St.unhide (A := [_, _, _, _]) (B := [_]) (T := T_50) (R := R) sc_62
  refine ⟨_, rfl, ?_⟩
  refine WL.nil ?_
  refine QW.then_n ?_
  refine CW.sub [(4, .bool false), (6, .pointer (some ⟨b_18, 0, none⟩)), (8, .int .i64 (IntKind.i64.wrap (Int.tmod a0 20))), (9, .slice A_38 n_39 c_40)] ⟨rfl, rfl, rfl, rfl, trivial⟩ ?_
  refine CW.seq ?_
  refine CW.seq ?_
  refine CW.region ?_
  refine WL.val Wanted.none (Runs.assign rfl) ?_
  refine WL.nil ?_
  refine QW.then_n ?_
  refine CW.block ?_
  obtain ⟨k_63, H⟩ := H
  refine CW.sub [(4, .bool false), (6, .pointer (some ⟨b_18, 0, none⟩)), (8, .int .i64 (IntKind.i64.wrap (Int.tmod a0 20))), (9, .slice A_38 n_39 c_40), (10, .int .i64 0)] ⟨rfl, rfl, rfl, rfl, rfl, trivial⟩ ?_
  refine CW.loop (fun kL1 l_ w_ => ∃ (T_64 : Pool) (A_70 : Option Addr) (c_71 : Nat) (n_72 : Nat) (x_68 : Cells) (l_66 : List R22) (A_77 : Option Addr) (c_78 : Nat) (n_79 : Nat) (x_75 : Cells) (l_73 : List R69) (A_84 : Option Addr) (c_85 : Nat) (n_86 : Nat) (x_82 : Cells) (l_80 : List R71) (x_87 : Int) (b_88 : Bool) (b_89 : Bool) (x_90 : Int), l_ = [(4, .bool b_89), (6, .pointer (some ⟨b_18, 0, none⟩)), (8, .int .i64 (IntKind.i64.wrap (Int.tmod a0 20))), (9, .slice A_38 n_39 c_40), (10, .int .i64 x_90)] ∧ reliquarylaw06_DiskStops.L1 a0 l_41 kL1 l_66 l_73 l_80 x_87 b_88 b_89 x_90 ∧ (Pl T_50 T_64) ∧ (n_72 = l_66.length) ∧ (HRs T_64 (f22 w) x_68 l_66) ∧ (n_79 = l_73.length) ∧ (HRs T_64 (f69 w) x_75 l_73) ∧ (n_86 = l_80.length) ∧ (HRs T_64 (f71 w) x_82 l_80) ∧ St w w_ (.cells b_18 (([.slice A_70 n_72 c_71] : List Value) ++ (([.slice A_77 n_79 c_78] : List Value) ++ (([.int .i64 x_87] : List Value) ++ (([.bool b_88] : List Value) ++ ([.slice A_84 n_86 c_85] : List Value))))) 66 :: .sl A_70 c_71 n_72 x_68 22 1 :: .sl A_77 c_78 n_79 x_75 69 2 :: .sl A_84 c_85 n_86 x_82 71 2 :: .sl A_38 c_40 n_39 (iv .u8 l_41) 5 1 :: (T_64 ++ R))) (k := k_63) ⟨T_50, A_52_0, c_54_0, n_53_0, x_56_0, l_55_0, A_52_1, c_54_1, n_53_1, x_56_1, l_55_1, A_52_4, c_54_4, n_53_4, x_56_4, l_55_4, a_59_2, a_59_3, false, 0, rfl, H, Pl.refl, hn_57_0, hx_58_0, hn_57_1, hx_58_1, hn_57_4, hx_58_4, st_61⟩ (fun _ _ h => by obtain ⟨_, _, _, _, _, _, _, _, _, _, _, _, _, _, _, _, _, _, _, _, _, h, _⟩ := h; exact h.elim) ?_
  rintro kL1 l_93 w_91 ⟨T_64, A_70, c_71, n_72, x_68, l_66, A_77, c_78, n_79, x_75, l_73, A_84, c_85, n_86, x_82, l_80, x_87, b_88, b_89, x_90, rfl, H, hs_65, hn_67, hx_69, hn_74, hx_76, hn_81, hx_83, st_92⟩
  refine CW.seq ?_
  refine CW.seq ?_
  refine CW.region ?_
  refine WL.val Wanted.none (Runs.move rfl) ?_
  refine WL.val Wanted.none (Runs.move rfl) ?_
  refine WL.val Wanted.none (Runs.lss rfl rfl rfl) ?_
  refine WL.nil ?_
  refine QW.then_n ?_
  rcases H with ⟨c_94, H⟩ | ⟨c_94, H⟩
  · have h_95 : (decide (x_90 < (IntKind.i64.wrap (Int.tmod a0 20)))) = true := (decide_eq_true c_94)
    refine CW.ct rfl h_95 ?_
    refine CW.skip ?_
    refine QW.then_n ?_
    refine CW.seq ?_
    refine CW.block ?_
    refine CW.seq ?_
    refine CW.region ?_
    refine WL.val Wanted.none (Runs.move rfl) ?_
    refine WL.val Wanted.none (Runs.move rfl) ?_
    refine WL.val Wanted.none (Runs.rem rfl rfl (by decide) rfl) ?_
    refine WL.val Wanted.none (Runs.move rfl) ?_
    have st_96 : St w w_91 (.cells b_18 (([.slice A_70 n_72 c_71] : List Value) ++ (([.slice A_77 n_79 c_78] : List Value) ++ (([.int .i64 x_87] : List Value) ++ (([.bool b_88] : List Value) ++ ([.slice A_84 n_86 c_85] : List Value))))) 66 :: .sl A_70 c_71 n_72 x_68 22 1 :: .sl A_77 c_78 n_79 x_75 69 2 :: .sl A_84 c_85 n_86 x_82 71 2 :: (T_64 ++ (.sl A_38 c_40 n_39 (iv .u8 l_41) 5 1 :: R))) := St.hide (A := [_, _, _, _]) (B := [_]) (T := T_64) (R := R) st_92
    obtain ⟨l_103_0, l_103_1, a_107_2, a_107_3, l_103_4, a_109, hr_97, H⟩ := H
    refine WL.call Wanted.none ent11 rfl (disk_Disk_Write.calls w w_91 T_64 (.sl A_38 c_40 n_39 (iv .u8 l_41) 5 1 :: R) l_66 l_73 x_87 b_88 l_80 (Int.tmod x_90 2) l_41 b_18 A_70 n_72 c_71 x_68 A_77 n_79 c_78 x_75 A_84 n_86 c_85 x_82 A_38 n_39 c_40  st_96 (hn_67) hx_69 (hn_74) hx_76 (hn_81) hx_83 ⟨hn_43, st_92.cap (i := 4) rfl, fun W_ L_ st hT => st.src_mem (hT _ (List.mem_append_right _ (List.mem_of_getElem? (i := 0) rfl)))⟩ l_103_0 l_103_1 a_107_2 a_107_3 l_103_4 a_109 hr_97) ?_
    rintro _ w_110 ⟨T_98, A_100_0, n_101_0, c_102_0, x_104_0, A_100_1, n_101_1, c_102_1, x_104_1, A_100_4, n_101_4, c_102_4, x_104_4, hs_99, hn_105_0, hx_106_0, hn_105_1, hx_106_1, hn_105_4, hx_106_4, rfl, sc_112⟩
    have st_111 : St w w_110 (.cells b_18 (([.slice A_100_0 n_101_0 c_102_0] : List Value) ++ (([.slice A_100_1 n_101_1 c_102_1] : List Value) ++ (([.int .i64 a_107_2] : List Value) ++ (([.bool a_107_3] : List Value) ++ ([.slice A_100_4 n_101_4 c_102_4] : List Value))))) 66 :: .sl A_100_0 c_102_0 n_101_0 x_104_0 22 1 :: .sl A_100_1 c_102_1 n_101_1 x_104_1 69 2 :: .sl A_100_4 c_102_4 n_101_4 x_104_4 71 2 :: .sl A_38 c_40 n_39 (iv .u8 l_41) 5 1 :: (T_98 ++ R)) := St.unhide (A := [_, _, _, _]) (B := [_]) (T := T_98) (R := R) sc_112
    refine ⟨_, rfl, ?_⟩
    refine WL.val Wanted.none (Runs.neq rfl rfl rfl) ?_
    refine WL.nil ?_
    refine QW.then_n ?_
    obtain ⟨c_113, H⟩ := H
    have h_114 : (a_109 != 0) = false := (bne_eq_false_iff_eq.mpr (Decidable.not_not.mp c_113))
    refine CW.cf rfl h_114 ?_
    refine CW.skip ?_
    refine QW.blk_n ?_
    refine QW.then_n ?_
    refine CW.region ?_
    refine WL.val Wanted.none (Runs.move rfl) ?_
    refine WL.val Wanted.none (Runs.add rfl rfl rfl) ?_
    refine WL.val Wanted.none (Runs.assign rfl) ?_
    refine WL.nil ?_
    exact QW.at [(4, .bool b_89), (6, .pointer (some ⟨b_18, 0, none⟩)), (8, .int .i64 (IntKind.i64.wrap (Int.tmod a0 20))), (9, .slice A_38 n_39 c_40), (10, .int .i64 (IntKind.i64.wrap (x_90 + 1)))] ⟨rfl, rfl, rfl, rfl, rfl, trivial⟩ ⟨T_98, A_100_0, c_102_0, n_101_0, x_104_0, l_103_0, A_100_1, c_102_1, n_101_1, x_104_1, l_103_1, A_100_4, c_102_4, n_101_4, x_104_4, l_103_4, a_107_2, a_107_3, b_89, IntKind.i64.wrap (x_90 + 1), rfl, H, (hs_65.trans hs_99), hn_105_0, hx_106_0, hn_105_1, hx_106_1, hn_105_4, hx_106_4, st_111⟩
  · have h_95 : (decide (x_90 < (IntKind.i64.wrap (Int.tmod a0 20)))) = false := (decide_eq_false c_94)
    refine CW.cf rfl h_95 ?_
    refine CW.exit ?_
    refine QW.then_x ?_
    refine QW.then_x ?_
    refine QW.blk_x ?_
    refine QW.then_n ?_
    refine CW.seq ?_
    refine CW.region ?_
    refine WL.val Wanted.none (Runs.move rfl) ?_
    refine WL.val Wanted.none (Runs.move rfl) ?_
    have st_115 : St w w_91 (.cells b_18 (([.slice A_70 n_72 c_71] : List Value) ++ (([.slice A_77 n_79 c_78] : List Value) ++ (([.int .i64 x_87] : List Value) ++ (([.bool b_88] : List Value) ++ ([.slice A_84 n_86 c_85] : List Value))))) 66 :: .sl A_70 c_71 n_72 x_68 22 1 :: .sl A_77 c_78 n_79 x_75 69 2 :: .sl A_84 c_85 n_86 x_82 71 2 :: (T_64 ++ (.sl A_38 c_40 n_39 (iv .u8 l_41) 5 1 :: R))) := St.hide (A := [_, _, _, _]) (B := [_]) (T := T_64) (R := R) st_92
    obtain ⟨l_122_0, l_122_1, a_126_2, a_126_3, l_122_4, a_128, hr_116, H⟩ := H
    refine WL.call Wanted.none ent11 rfl (disk_Disk_Write.calls w w_91 T_64 (.sl A_38 c_40 n_39 (iv .u8 l_41) 5 1 :: R) l_66 l_73 x_87 b_88 l_80 0 l_41 b_18 A_70 n_72 c_71 x_68 A_77 n_79 c_78 x_75 A_84 n_86 c_85 x_82 A_38 n_39 c_40  st_115 (hn_67) hx_69 (hn_74) hx_76 (hn_81) hx_83 ⟨hn_43, st_92.cap (i := 4) rfl, fun W_ L_ st hT => st.src_mem (hT _ (List.mem_append_right _ (List.mem_of_getElem? (i := 0) rfl)))⟩ l_122_0 l_122_1 a_126_2 a_126_3 l_122_4 a_128 hr_116) ?_
    rintro _ w_129 ⟨T_117, A_119_0, n_120_0, c_121_0, x_123_0, A_119_1, n_120_1, c_121_1, x_123_1, A_119_4, n_120_4, c_121_4, x_123_4, hs_118, hn_124_0, hx_125_0, hn_124_1, hx_125_1, hn_124_4, hx_125_4, rfl, sc_131⟩
    have st_130 : St w w_129 (.cells b_18 (([.slice A_119_0 n_120_0 c_121_0] : List Value) ++ (([.slice A_119_1 n_120_1 c_121_1] : List Value) ++ (([.int .i64 a_126_2] : List Value) ++ (([.bool a_126_3] : List Value) ++ ([.slice A_119_4 n_120_4 c_121_4] : List Value))))) 66 :: .sl A_119_0 c_121_0 n_120_0 x_123_0 22 1 :: .sl A_119_1 c_121_1 n_120_1 x_123_1 69 2 :: .sl A_119_4 c_121_4 n_120_4 x_123_4 71 2 :: .sl A_38 c_40 n_39 (iv .u8 l_41) 5 1 :: (T_117 ++ R)) := St.unhide (A := [_, _, _, _]) (B := [_]) (T := T_117) (R := R) sc_131
    refine ⟨_, rfl, ?_⟩
    refine WL.val Wanted.none (Runs.assign rfl) ?_
    refine WL.nil ?_
    refine QW.then_n ?_
    refine CW.sub [(4, .bool b_89), (6, .pointer (some ⟨b_18, 0, none⟩)), (9, .slice A_38 n_39 c_40), (11, .int .i64 a_128)] ⟨rfl, rfl, rfl, rfl, trivial⟩ ?_
    refine CW.seq ?_
    refine CW.region ?_
    refine WL.val Wanted.none (Runs.move rfl) ?_
    have st_132 : St w w_129 (.cells b_18 (([.slice A_119_0 n_120_0 c_121_0] : List Value) ++ (([.slice A_119_1 n_120_1 c_121_1] : List Value) ++ (([.int .i64 a_126_2] : List Value) ++ (([.bool a_126_3] : List Value) ++ ([.slice A_119_4 n_120_4 c_121_4] : List Value))))) 66 :: .sl A_119_0 c_121_0 n_120_0 x_123_0 22 1 :: .sl A_119_1 c_121_1 n_120_1 x_123_1 69 2 :: .sl A_119_4 c_121_4 n_120_4 x_123_4 71 2 :: (T_117 ++ (.sl A_38 c_40 n_39 (iv .u8 l_41) 5 1 :: R))) := St.hide (A := [_, _, _, _]) (B := [_]) (T := T_117) (R := R) st_130
    obtain ⟨l_139_0, l_139_1, a_143_2, a_143_3, l_139_4, l_148, a_152, hr_133, H⟩ := H
    refine WL.call Wanted.none ent15 rfl (disk_Disk_Read.calls w w_129 T_117 (.sl A_38 c_40 n_39 (iv .u8 l_41) 5 1 :: R) l_122_0 l_122_1 a_126_2 a_126_3 l_122_4 0 b_18 A_119_0 n_120_0 c_121_0 x_123_0 A_119_1 n_120_1 c_121_1 x_123_1 A_119_4 n_120_4 c_121_4 x_123_4 (hs_118.2 (hs_65.2 (hs_51.2 (hs_36.2 (hs_16.2 hT))))) (show celly (.sl A_38 c_40 n_39 (iv .u8 l_41) 5 1 :: R) = true from hR) st_132 (hn_124_0) hx_125_0 (hn_124_1) hx_125_1 (hn_124_4) hx_125_4 l_139_0 l_139_1 a_143_2 a_143_3 l_139_4 l_148 a_152 hr_133) ?_
    rintro _ w_153 ⟨T_134, A_136_0, n_137_0, c_138_0, x_140_0, A_136_1, n_137_1, c_138_1, x_140_1, A_136_4, n_137_4, c_138_4, x_140_4, A_145, n_146, c_147, hs_135, hn_141_0, hx_142_0, hn_141_1, hx_142_1, hn_141_4, hx_142_4, hn_150, rfl, sc_155⟩
    have st_154 : St w w_153 (.cells b_18 (([.slice A_136_0 n_137_0 c_138_0] : List Value) ++ (([.slice A_136_1 n_137_1 c_138_1] : List Value) ++ (([.int .i64 a_143_2] : List Value) ++ (([.bool a_143_3] : List Value) ++ ([.slice A_136_4 n_137_4 c_138_4] : List Value))))) 66 :: .sl A_136_0 c_138_0 n_137_0 x_140_0 22 1 :: .sl A_136_1 c_138_1 n_137_1 x_140_1 69 2 :: .sl A_136_4 c_138_4 n_137_4 x_140_4 71 2 :: .sl A_145 c_147 n_146 (iv .u8 l_148) 5 1 :: .sl A_38 c_40 n_39 (iv .u8 l_41) 5 1 :: (T_134 ++ R)) := St.unhide (A := [_, _, _, _, _]) (B := [_]) (T := T_134) (R := R) sc_155
    refine ⟨_, rfl, ?_⟩
    refine WL.val Wanted.none (Runs.move rfl) ?_
    refine WL.val Wanted.none (Runs.extract rfl rfl) ?_
    refine WL.val Wanted.none (Runs.extract rfl rfl) ?_
    refine WL.val Wanted.none (Runs.assign rfl) ?_
    refine WL.val Wanted.none (Runs.assign rfl) ?_
    refine WL.nil ?_
    refine QW.then_n ?_
    refine CW.sub [(4, .bool b_89), (6, .pointer (some ⟨b_18, 0, none⟩)), (9, .slice A_38 n_39 c_40), (11, .int .i64 a_128), (13, .int .i64 a_152)] ⟨rfl, rfl, rfl, rfl, rfl, trivial⟩ ?_
    refine CW.seq ?_
    refine CW.region ?_
    refine WL.val Wanted.none (Runs.move rfl) ?_
    have st_156 : St w w_153 (.cells b_18 (([.slice A_136_0 n_137_0 c_138_0] : List Value) ++ (([.slice A_136_1 n_137_1 c_138_1] : List Value) ++ (([.int .i64 a_143_2] : List Value) ++ (([.bool a_143_3] : List Value) ++ ([.slice A_136_4 n_137_4 c_138_4] : List Value))))) 66 :: .sl A_136_0 c_138_0 n_137_0 x_140_0 22 1 :: .sl A_136_1 c_138_1 n_137_1 x_140_1 69 2 :: .sl A_136_4 c_138_4 n_137_4 x_140_4 71 2 :: (T_134 ++ (.sl A_145 c_147 n_146 (iv .u8 l_148) 5 1 :: .sl A_38 c_40 n_39 (iv .u8 l_41) 5 1 :: R))) := St.hide (A := [_, _, _, _]) (B := [_, _]) (T := T_134) (R := R) st_154
    obtain ⟨l_163_0, l_163_1, a_167_2, a_167_3, l_163_4, a_169, hr_157, H⟩ := H
    refine WL.call Wanted.none ent16 rfl (disk_Disk_Flush.calls w w_153 T_134 (.sl A_145 c_147 n_146 (iv .u8 l_148) 5 1 :: .sl A_38 c_40 n_39 (iv .u8 l_41) 5 1 :: R) l_139_0 l_139_1 a_143_2 a_143_3 l_139_4 b_18 A_136_0 n_137_0 c_138_0 x_140_0 A_136_1 n_137_1 c_138_1 x_140_1 A_136_4 n_137_4 c_138_4 x_140_4  st_156 (hn_141_0) hx_142_0 (hn_141_1) hx_142_1 (hn_141_4) hx_142_4 l_163_0 l_163_1 a_167_2 a_167_3 l_163_4 a_169 hr_157) ?_
    rintro _ w_170 ⟨T_158, A_160_0, n_161_0, c_162_0, x_164_0, A_160_1, n_161_1, c_162_1, x_164_1, A_160_4, n_161_4, c_162_4, x_164_4, hs_159, hn_165_0, hx_166_0, hn_165_1, hx_166_1, hn_165_4, hx_166_4, rfl, sc_172⟩
    have st_171 : St w w_170 (.cells b_18 (([.slice A_160_0 n_161_0 c_162_0] : List Value) ++ (([.slice A_160_1 n_161_1 c_162_1] : List Value) ++ (([.int .i64 a_167_2] : List Value) ++ (([.bool a_167_3] : List Value) ++ ([.slice A_160_4 n_161_4 c_162_4] : List Value))))) 66 :: .sl A_160_0 c_162_0 n_161_0 x_164_0 22 1 :: .sl A_160_1 c_162_1 n_161_1 x_164_1 69 2 :: .sl A_160_4 c_162_4 n_161_4 x_164_4 71 2 :: .sl A_145 c_147 n_146 (iv .u8 l_148) 5 1 :: .sl A_38 c_40 n_39 (iv .u8 l_41) 5 1 :: (T_158 ++ R)) := St.unhide (A := [_, _, _, _]) (B := [_, _]) (T := T_158) (R := R) sc_172
    refine ⟨_, rfl, ?_⟩
    refine WL.val Wanted.none (Runs.assign rfl) ?_
    refine WL.nil ?_
    refine QW.then_n ?_
    refine CW.seq ?_
    refine CW.region ?_
    refine WL.val Wanted.none (Runs.move rfl) ?_
    have st_173 : St w w_170 (.cells b_18 (([.slice A_160_0 n_161_0 c_162_0] : List Value) ++ (([.slice A_160_1 n_161_1 c_162_1] : List Value) ++ (([.int .i64 a_167_2] : List Value) ++ (([.bool a_167_3] : List Value) ++ ([.slice A_160_4 n_161_4 c_162_4] : List Value))))) 66 :: .sl A_160_0 c_162_0 n_161_0 x_164_0 22 1 :: .sl A_160_1 c_162_1 n_161_1 x_164_1 69 2 :: .sl A_160_4 c_162_4 n_161_4 x_164_4 71 2 :: (T_158 ++ (.sl A_145 c_147 n_146 (iv .u8 l_148) 5 1 :: .sl A_38 c_40 n_39 (iv .u8 l_41) 5 1 :: R))) := St.hide (A := [_, _, _, _]) (B := [_, _]) (T := T_158) (R := R) st_171
    obtain ⟨l_180_0, l_180_1, a_184_2, a_184_3, l_180_4, hr_174, H⟩ := H
    refine WL.call Wanted.none ent14 rfl (disk_Disk_Crash.calls w w_170 T_158 (.sl A_145 c_147 n_146 (iv .u8 l_148) 5 1 :: .sl A_38 c_40 n_39 (iv .u8 l_41) 5 1 :: R) l_163_0 l_163_1 a_167_2 a_167_3 l_163_4 [] b_18 A_160_0 n_161_0 c_162_0 x_164_0 A_160_1 n_161_1 c_162_1 x_164_1 A_160_4 n_161_4 c_162_4 x_164_4 none 0 0  st_173 (hn_165_0) hx_166_0 (hn_165_1) hx_166_1 (hn_165_4) hx_166_4 HB.nil l_180_0 l_180_1 a_184_2 a_184_3 l_180_4 hr_174) ?_
    rintro _ w_185 ⟨T_175, A_177_0, n_178_0, c_179_0, x_181_0, A_177_1, n_178_1, c_179_1, x_181_1, A_177_4, n_178_4, c_179_4, x_181_4, hs_176, hn_182_0, hx_183_0, hn_182_1, hx_183_1, hn_182_4, hx_183_4, rfl, sc_187⟩
    have st_186 : St w w_185 (.cells b_18 (([.slice A_177_0 n_178_0 c_179_0] : List Value) ++ (([.slice A_177_1 n_178_1 c_179_1] : List Value) ++ (([.int .i64 a_184_2] : List Value) ++ (([.bool a_184_3] : List Value) ++ ([.slice A_177_4 n_178_4 c_179_4] : List Value))))) 66 :: .sl A_177_0 c_179_0 n_178_0 x_181_0 22 1 :: .sl A_177_1 c_179_1 n_178_1 x_181_1 69 2 :: .sl A_177_4 c_179_4 n_178_4 x_181_4 71 2 :: .sl A_145 c_147 n_146 (iv .u8 l_148) 5 1 :: .sl A_38 c_40 n_39 (iv .u8 l_41) 5 1 :: (T_175 ++ R)) := St.unhide (A := [_, _, _, _]) (B := [_, _]) (T := T_175) (R := R) sc_187
    refine ⟨_, rfl, ?_⟩
    refine WL.nil ?_
    refine QW.then_n ?_
    refine CW.seq ?_
    refine CW.region ?_
    refine WL.val Wanted.none (Runs.move rfl) ?_
    have st_188 : St w w_185 (.cells b_18 (([.slice A_177_0 n_178_0 c_179_0] : List Value) ++ (([.slice A_177_1 n_178_1 c_179_1] : List Value) ++ (([.int .i64 a_184_2] : List Value) ++ (([.bool a_184_3] : List Value) ++ ([.slice A_177_4 n_178_4 c_179_4] : List Value))))) 66 :: .sl A_177_0 c_179_0 n_178_0 x_181_0 22 1 :: .sl A_177_1 c_179_1 n_178_1 x_181_1 69 2 :: .sl A_177_4 c_179_4 n_178_4 x_181_4 71 2 :: (T_175 ++ (.sl A_145 c_147 n_146 (iv .u8 l_148) 5 1 :: .sl A_38 c_40 n_39 (iv .u8 l_41) 5 1 :: R))) := St.hide (A := [_, _, _, _]) (B := [_, _]) (T := T_175) (R := R) st_186
    obtain ⟨l_195_0, l_195_1, a_199_2, a_199_3, l_195_4, l_204, a_208, hr_189, H⟩ := H
    refine WL.call Wanted.none ent15 rfl (disk_Disk_Read.calls w w_185 T_175 (.sl A_145 c_147 n_146 (iv .u8 l_148) 5 1 :: .sl A_38 c_40 n_39 (iv .u8 l_41) 5 1 :: R) l_180_0 l_180_1 a_184_2 a_184_3 l_180_4 0 b_18 A_177_0 n_178_0 c_179_0 x_181_0 A_177_1 n_178_1 c_179_1 x_181_1 A_177_4 n_178_4 c_179_4 x_181_4 (hs_176.2 (hs_159.2 (hs_135.2 (hs_118.2 (hs_65.2 (hs_51.2 (hs_36.2 (hs_16.2 hT)))))))) (show celly (.sl A_145 c_147 n_146 (iv .u8 l_148) 5 1 :: .sl A_38 c_40 n_39 (iv .u8 l_41) 5 1 :: R) = true from hR) st_188 (hn_182_0) hx_183_0 (hn_182_1) hx_183_1 (hn_182_4) hx_183_4 l_195_0 l_195_1 a_199_2 a_199_3 l_195_4 l_204 a_208 hr_189) ?_
    rintro _ w_209 ⟨T_190, A_192_0, n_193_0, c_194_0, x_196_0, A_192_1, n_193_1, c_194_1, x_196_1, A_192_4, n_193_4, c_194_4, x_196_4, A_201, n_202, c_203, hs_191, hn_197_0, hx_198_0, hn_197_1, hx_198_1, hn_197_4, hx_198_4, hn_206, rfl, sc_211⟩
    have st_210 : St w w_209 (.cells b_18 (([.slice A_192_0 n_193_0 c_194_0] : List Value) ++ (([.slice A_192_1 n_193_1 c_194_1] : List Value) ++ (([.int .i64 a_199_2] : List Value) ++ (([.bool a_199_3] : List Value) ++ ([.slice A_192_4 n_193_4 c_194_4] : List Value))))) 66 :: .sl A_192_0 c_194_0 n_193_0 x_196_0 22 1 :: .sl A_192_1 c_194_1 n_193_1 x_196_1 69 2 :: .sl A_192_4 c_194_4 n_193_4 x_196_4 71 2 :: .sl A_201 c_203 n_202 (iv .u8 l_204) 5 1 :: .sl A_145 c_147 n_146 (iv .u8 l_148) 5 1 :: .sl A_38 c_40 n_39 (iv .u8 l_41) 5 1 :: (T_190 ++ R)) := St.unhide (A := [_, _, _, _, _]) (B := [_, _]) (T := T_190) (R := R) sc_211
    refine ⟨_, rfl, ?_⟩
    refine WL.val Wanted.none (Runs.move rfl) ?_
    refine WL.val Wanted.none (Runs.extract rfl rfl) ?_
    refine WL.val Wanted.none (Runs.extract rfl rfl) ?_
    refine WL.val Wanted.none (Runs.assign rfl) ?_
    refine WL.val Wanted.none (Runs.assign rfl) ?_
    refine WL.nil ?_
    refine QW.then_n ?_
    refine CW.sub [(4, .bool b_89), (6, .pointer (some ⟨b_18, 0, none⟩)), (9, .slice A_38 n_39 c_40), (11, .int .i64 a_128), (13, .int .i64 a_152), (14, .int .i64 a_169), (16, .int .i64 a_208)] ⟨rfl, rfl, rfl, rfl, rfl, rfl, rfl, trivial⟩ ?_
    refine CW.seq ?_
    refine CW.region ?_
    refine WL.val Wanted.none (Runs.assign rfl) ?_
    refine WL.nil ?_
    refine QW.then_n ?_
    refine CW.seq ?_
    refine CW.region ?_
    refine WL.val Wanted.none (Runs.move rfl) ?_
    have st_212 : St w w_209 ((T_190 ++ (.cells b_18 (([.slice A_192_0 n_193_0 c_194_0] : List Value) ++ (([.slice A_192_1 n_193_1 c_194_1] : List Value) ++ (([.int .i64 a_199_2] : List Value) ++ (([.bool a_199_3] : List Value) ++ ([.slice A_192_4 n_193_4 c_194_4] : List Value))))) 66 :: .sl A_192_0 c_194_0 n_193_0 x_196_0 22 1 :: .sl A_192_1 c_194_1 n_193_1 x_196_1 69 2 :: .sl A_192_4 c_194_4 n_193_4 x_196_4 71 2 :: .sl A_201 c_203 n_202 (iv .u8 l_204) 5 1 :: .sl A_145 c_147 n_146 (iv .u8 l_148) 5 1 :: .sl A_38 c_40 n_39 (iv .u8 l_41) 5 1 :: R))) := St.hide (A := []) (B := [_, _, _, _, _, _, _]) (T := T_190) (R := R) st_210
    obtain ⟨l_220, a_224, hr_213, H⟩ := H
    refine WL.call Wanted.none ent15 rfl (disk_Disk_Read_nil0.calls w w_209 T_190 (.cells b_18 (([.slice A_192_0 n_193_0 c_194_0] : List Value) ++ (([.slice A_192_1 n_193_1 c_194_1] : List Value) ++ (([.int .i64 a_199_2] : List Value) ++ (([.bool a_199_3] : List Value) ++ ([.slice A_192_4 n_193_4 c_194_4] : List Value))))) 66 :: .sl A_192_0 c_194_0 n_193_0 x_196_0 22 1 :: .sl A_192_1 c_194_1 n_193_1 x_196_1 69 2 :: .sl A_192_4 c_194_4 n_193_4 x_196_4 71 2 :: .sl A_201 c_203 n_202 (iv .u8 l_204) 5 1 :: .sl A_145 c_147 n_146 (iv .u8 l_148) 5 1 :: .sl A_38 c_40 n_39 (iv .u8 l_41) 5 1 :: R) 0  st_212 l_220 a_224 hr_213) ?_
    rintro _ w_225 ⟨T_214, A_217, n_218, c_219, hs_215, hn_222, rfl, sc_227⟩
    have st_226 : St w w_225 (.sl A_217 c_219 n_218 (iv .u8 l_220) 5 1 :: .cells b_18 (([.slice A_192_0 n_193_0 c_194_0] : List Value) ++ (([.slice A_192_1 n_193_1 c_194_1] : List Value) ++ (([.int .i64 a_199_2] : List Value) ++ (([.bool a_199_3] : List Value) ++ ([.slice A_192_4 n_193_4 c_194_4] : List Value))))) 66 :: .sl A_192_0 c_194_0 n_193_0 x_196_0 22 1 :: .sl A_192_1 c_194_1 n_193_1 x_196_1 69 2 :: .sl A_192_4 c_194_4 n_193_4 x_196_4 71 2 :: .sl A_201 c_203 n_202 (iv .u8 l_204) 5 1 :: .sl A_145 c_147 n_146 (iv .u8 l_148) 5 1 :: .sl A_38 c_40 n_39 (iv .u8 l_41) 5 1 :: (T_214 ++ R)) := St.unhide (A := [_]) (B := [_, _, _, _, _, _, _]) (T := T_214) (R := R) sc_227
    refine ⟨_, rfl, ?_⟩
    refine WL.val Wanted.none (Runs.move rfl) ?_
    refine WL.val Wanted.none (Runs.extract rfl rfl) ?_
    refine WL.val Wanted.none (Runs.extract rfl rfl) ?_
    refine WL.val Wanted.none (Runs.assign rfl) ?_
    refine WL.val Wanted.none (Runs.assign rfl) ?_
    refine WL.nil ?_
    refine QW.then_n ?_
    refine CW.sub [(4, .bool b_89), (6, .pointer (some ⟨b_18, 0, none⟩)), (9, .slice A_38 n_39 c_40), (11, .int .i64 a_128), (13, .int .i64 a_152), (14, .int .i64 a_169), (16, .int .i64 a_208), (17, .pointer none), (19, .int .i64 a_224)] ⟨rfl, rfl, rfl, rfl, rfl, rfl, rfl, rfl, rfl, trivial⟩ ?_
    refine CW.seq ?_
    refine CW.region ?_
    refine WL.val Wanted.none (Runs.move rfl) ?_
    have st_228 : St w w_225 ((T_214 ++ (.sl A_217 c_219 n_218 (iv .u8 l_220) 5 1 :: .cells b_18 (([.slice A_192_0 n_193_0 c_194_0] : List Value) ++ (([.slice A_192_1 n_193_1 c_194_1] : List Value) ++ (([.int .i64 a_199_2] : List Value) ++ (([.bool a_199_3] : List Value) ++ ([.slice A_192_4 n_193_4 c_194_4] : List Value))))) 66 :: .sl A_192_0 c_194_0 n_193_0 x_196_0 22 1 :: .sl A_192_1 c_194_1 n_193_1 x_196_1 69 2 :: .sl A_192_4 c_194_4 n_193_4 x_196_4 71 2 :: .sl A_201 c_203 n_202 (iv .u8 l_204) 5 1 :: .sl A_145 c_147 n_146 (iv .u8 l_148) 5 1 :: .sl A_38 c_40 n_39 (iv .u8 l_41) 5 1 :: R))) := St.hide (A := []) (B := [_, _, _, _, _, _, _, _]) (T := T_214) (R := R) st_226
    obtain ⟨hr_229, H⟩ := H
    refine WL.call Wanted.none ent24 rfl (disk_Disk_Stop_nil0.calls w w_225 T_214 (.sl A_217 c_219 n_218 (iv .u8 l_220) 5 1 :: .cells b_18 (([.slice A_192_0 n_193_0 c_194_0] : List Value) ++ (([.slice A_192_1 n_193_1 c_194_1] : List Value) ++ (([.int .i64 a_199_2] : List Value) ++ (([.bool a_199_3] : List Value) ++ ([.slice A_192_4 n_193_4 c_194_4] : List Value))))) 66 :: .sl A_192_0 c_194_0 n_193_0 x_196_0 22 1 :: .sl A_192_1 c_194_1 n_193_1 x_196_1 69 2 :: .sl A_192_4 c_194_4 n_193_4 x_196_4 71 2 :: .sl A_201 c_203 n_202 (iv .u8 l_204) 5 1 :: .sl A_145 c_147 n_146 (iv .u8 l_148) 5 1 :: .sl A_38 c_40 n_39 (iv .u8 l_41) 5 1 :: R) 1  st_228 hr_229) ?_
    rintro _ w_232 ⟨T_230, hs_231, rfl, sc_234⟩
    have st_233 : St w w_232 (.sl A_217 c_219 n_218 (iv .u8 l_220) 5 1 :: .cells b_18 (([.slice A_192_0 n_193_0 c_194_0] : List Value) ++ (([.slice A_192_1 n_193_1 c_194_1] : List Value) ++ (([.int .i64 a_199_2] : List Value) ++ (([.bool a_199_3] : List Value) ++ ([.slice A_192_4 n_193_4 c_194_4] : List Value))))) 66 :: .sl A_192_0 c_194_0 n_193_0 x_196_0 22 1 :: .sl A_192_1 c_194_1 n_193_1 x_196_1 69 2 :: .sl A_192_4 c_194_4 n_193_4 x_196_4 71 2 :: .sl A_201 c_203 n_202 (iv .u8 l_204) 5 1 :: .sl A_145 c_147 n_146 (iv .u8 l_148) 5 1 :: .sl A_38 c_40 n_39 (iv .u8 l_41) 5 1 :: (T_230 ++ R)) := St.unhide (A := []) (B := [_, _, _, _, _, _, _, _]) (T := T_230) (R := R) sc_234
    refine ⟨_, rfl, ?_⟩
    refine WL.nil ?_
    refine QW.then_n ?_
    refine CW.seq ?_
    refine CW.region ?_
    refine WL.val Wanted.none (Runs.move rfl) ?_
    have st_235 : St w w_232 ((T_230 ++ (.sl A_217 c_219 n_218 (iv .u8 l_220) 5 1 :: .cells b_18 (([.slice A_192_0 n_193_0 c_194_0] : List Value) ++ (([.slice A_192_1 n_193_1 c_194_1] : List Value) ++ (([.int .i64 a_199_2] : List Value) ++ (([.bool a_199_3] : List Value) ++ ([.slice A_192_4 n_193_4 c_194_4] : List Value))))) 66 :: .sl A_192_0 c_194_0 n_193_0 x_196_0 22 1 :: .sl A_192_1 c_194_1 n_193_1 x_196_1 69 2 :: .sl A_192_4 c_194_4 n_193_4 x_196_4 71 2 :: .sl A_201 c_203 n_202 (iv .u8 l_204) 5 1 :: .sl A_145 c_147 n_146 (iv .u8 l_148) 5 1 :: .sl A_38 c_40 n_39 (iv .u8 l_41) 5 1 :: R))) := St.hide (A := []) (B := [_, _, _, _, _, _, _, _]) (T := T_230) (R := R) st_233
    obtain ⟨hr_236, H⟩ := H
    refine WL.call Wanted.none ent14 rfl (disk_Disk_Crash_nil0.calls w w_232 T_230 (.sl A_217 c_219 n_218 (iv .u8 l_220) 5 1 :: .cells b_18 (([.slice A_192_0 n_193_0 c_194_0] : List Value) ++ (([.slice A_192_1 n_193_1 c_194_1] : List Value) ++ (([.int .i64 a_199_2] : List Value) ++ (([.bool a_199_3] : List Value) ++ ([.slice A_192_4 n_193_4 c_194_4] : List Value))))) 66 :: .sl A_192_0 c_194_0 n_193_0 x_196_0 22 1 :: .sl A_192_1 c_194_1 n_193_1 x_196_1 69 2 :: .sl A_192_4 c_194_4 n_193_4 x_196_4 71 2 :: .sl A_201 c_203 n_202 (iv .u8 l_204) 5 1 :: .sl A_145 c_147 n_146 (iv .u8 l_148) 5 1 :: .sl A_38 c_40 n_39 (iv .u8 l_41) 5 1 :: R) [] none 0 0  st_235 HB.nil hr_236) ?_
    rintro _ w_239 ⟨T_237, hs_238, rfl, sc_241⟩
    have st_240 : St w w_239 (.sl A_217 c_219 n_218 (iv .u8 l_220) 5 1 :: .cells b_18 (([.slice A_192_0 n_193_0 c_194_0] : List Value) ++ (([.slice A_192_1 n_193_1 c_194_1] : List Value) ++ (([.int .i64 a_199_2] : List Value) ++ (([.bool a_199_3] : List Value) ++ ([.slice A_192_4 n_193_4 c_194_4] : List Value))))) 66 :: .sl A_192_0 c_194_0 n_193_0 x_196_0 22 1 :: .sl A_192_1 c_194_1 n_193_1 x_196_1 69 2 :: .sl A_192_4 c_194_4 n_193_4 x_196_4 71 2 :: .sl A_201 c_203 n_202 (iv .u8 l_204) 5 1 :: .sl A_145 c_147 n_146 (iv .u8 l_148) 5 1 :: .sl A_38 c_40 n_39 (iv .u8 l_41) 5 1 :: (T_237 ++ R)) := St.unhide (A := []) (B := [_, _, _, _, _, _, _, _]) (T := T_237) (R := R) sc_241
    refine ⟨_, rfl, ?_⟩
    refine WL.nil ?_
    refine QW.then_n ?_
    refine CW.seq ?_
    refine CW.region ?_
    refine WL.val Wanted.none (Runs.move rfl) ?_
    refine WL.val Wanted.none (Runs.eql rfl rfl rfl) ?_
    refine WL.val Wanted.none (Runs.move rfl) ?_
    obtain ⟨c_242, H⟩ := H
    have h_243 : (a_128 == 13) = true := (beq_iff_eq.mpr c_242)
    refine WL.on ?_ ?_; exact Wanted.guard (dj := 77) (by rfl) (evb (by rfl) h_243) (by rfl)
    refine WL.val Wanted.none (Runs.move rfl) ?_
    refine WL.on ?_ ?_; exact Wanted.guard (dj := 77) (by rfl) (evb (by rfl) h_243) (by rfl)
    refine WL.val Wanted.none (Runs.eql rfl rfl rfl) ?_
    refine WL.val Wanted.none (Runs.pick_t (evb rfl h_243) rfl) ?_
    refine WL.val Wanted.none (Runs.move rfl) ?_
    obtain ⟨c_244, H⟩ := H
    have h_245 : (a_152 == 13) = true := (beq_iff_eq.mpr c_244)
    refine WL.on ?_ ?_; exact Wanted.guard (dj := 81) (by rfl) (evb (by rfl) h_245) (by rfl)
    refine WL.val Wanted.none (Runs.move rfl) ?_
    refine WL.on ?_ ?_; exact Wanted.guard (dj := 81) (by rfl) (evb (by rfl) h_245) (by rfl)
    refine WL.val Wanted.none (Runs.eql rfl rfl rfl) ?_
    refine WL.val Wanted.none (Runs.pick_t (evb rfl h_245) rfl) ?_
    refine WL.val Wanted.none (Runs.move rfl) ?_
    obtain ⟨c_246, H⟩ := H
    have h_247 : (a_169 == 13) = true := (beq_iff_eq.mpr c_246)
    refine WL.on ?_ ?_; exact Wanted.guard (dj := 85) (by rfl) (evb (by rfl) h_247) (by rfl)
    refine WL.val Wanted.none (Runs.move rfl) ?_
    refine WL.on ?_ ?_; exact Wanted.guard (dj := 85) (by rfl) (evb (by rfl) h_247) (by rfl)
    refine WL.val Wanted.none (Runs.eql rfl rfl rfl) ?_
    refine WL.val Wanted.none (Runs.pick_t (evb rfl h_247) rfl) ?_
    refine WL.val Wanted.none (Runs.move rfl) ?_
    obtain ⟨c_248, H⟩ := H
    have h_249 : (a_208 == 0) = true := (beq_iff_eq.mpr c_248)
    refine WL.on ?_ ?_; exact Wanted.guard (dj := 89) (by rfl) (evb (by rfl) h_249) (by rfl)
    refine WL.val Wanted.none (Runs.move rfl) ?_
    refine WL.on ?_ ?_; exact Wanted.guard (dj := 89) (by rfl) (evb (by rfl) h_249) (by rfl)
    refine WL.val Wanted.none (Runs.move rfl) ?_
    refine WL.on ?_ ?_; exact Wanted.guard (dj := 89) (by rfl) (evb (by rfl) h_249) (by rfl)
    have st_250 := (St.pickT (L := [_, _, _, _, _, _, _, _]) st_240 [1, 2, 3, 4, 0, 5, 6, 7] (by decide))
    replace st_250 : St w w_239 (.cells b_18 (([.slice A_192_0 n_193_0 c_194_0] : List Value) ++ (([.slice A_192_1 n_193_1 c_194_1] : List Value) ++ (([.int .i64 a_199_2] : List Value) ++ (([.bool a_199_3] : List Value) ++ ([.slice A_192_4 n_193_4 c_194_4] : List Value))))) 66 :: .sl A_192_0 c_194_0 n_193_0 x_196_0 22 1 :: .sl A_192_1 c_194_1 n_193_1 x_196_1 69 2 :: .sl A_192_4 c_194_4 n_193_4 x_196_4 71 2 :: .sl A_217 c_219 n_218 (iv .u8 l_220) 5 1 :: .sl A_201 c_203 n_202 (iv .u8 l_204) 5 1 :: .sl A_145 c_147 n_146 (iv .u8 l_148) 5 1 :: .sl A_38 c_40 n_39 (iv .u8 l_41) 5 1 :: (T_237 ++ R)) := st_250
    have st_251 : St w w_239 (.cells b_18 (([.slice A_192_0 n_193_0 c_194_0] : List Value) ++ (([.slice A_192_1 n_193_1 c_194_1] : List Value) ++ (([.int .i64 a_199_2] : List Value) ++ (([.bool a_199_3] : List Value) ++ ([.slice A_192_4 n_193_4 c_194_4] : List Value))))) 66 :: .sl A_192_0 c_194_0 n_193_0 x_196_0 22 1 :: .sl A_192_1 c_194_1 n_193_1 x_196_1 69 2 :: .sl A_192_4 c_194_4 n_193_4 x_196_4 71 2 :: (T_237 ++ (.sl A_217 c_219 n_218 (iv .u8 l_220) 5 1 :: .sl A_201 c_203 n_202 (iv .u8 l_204) 5 1 :: .sl A_145 c_147 n_146 (iv .u8 l_148) 5 1 :: .sl A_38 c_40 n_39 (iv .u8 l_41) 5 1 :: R))) := St.hide (A := [_, _, _, _]) (B := [_, _, _, _]) (T := T_237) (R := R) st_250
    obtain ⟨l_258_0, l_258_1, a_262_2, a_262_3, l_258_4, a_264, hr_252, H⟩ := H
    refine WL.call Wanted.none ent11 rfl (disk_Disk_Write.calls w w_239 T_237 (.sl A_217 c_219 n_218 (iv .u8 l_220) 5 1 :: .sl A_201 c_203 n_202 (iv .u8 l_204) 5 1 :: .sl A_145 c_147 n_146 (iv .u8 l_148) 5 1 :: .sl A_38 c_40 n_39 (iv .u8 l_41) 5 1 :: R) l_195_0 l_195_1 a_199_2 a_199_3 l_195_4 1 l_41 b_18 A_192_0 n_193_0 c_194_0 x_196_0 A_192_1 n_193_1 c_194_1 x_196_1 A_192_4 n_193_4 c_194_4 x_196_4 A_38 n_39 c_40  st_251 (hn_197_0) (hx_198_0.mono (fun _ h_ => hs_238.1 _ (hs_231.1 _ (hs_215.1 _ h_)))) (hn_197_1) (hx_198_1.mono (fun _ h_ => hs_238.1 _ (hs_231.1 _ (hs_215.1 _ h_)))) (hn_197_4) (hx_198_4.mono (fun _ h_ => hs_238.1 _ (hs_231.1 _ (hs_215.1 _ h_)))) ⟨hn_43, st_250.cap (i := 7) rfl, fun W_ L_ st hT => st.src_mem (hT _ (List.mem_append_right _ (List.mem_of_getElem? (i := 3) rfl)))⟩ l_258_0 l_258_1 a_262_2 a_262_3 l_258_4 a_264 hr_252) ?_
    rintro _ w_265 ⟨T_253, A_255_0, n_256_0, c_257_0, x_259_0, A_255_1, n_256_1, c_257_1, x_259_1, A_255_4, n_256_4, c_257_4, x_259_4, hs_254, hn_260_0, hx_261_0, hn_260_1, hx_261_1, hn_260_4, hx_261_4, rfl, sc_267⟩
    have st_266 : St w w_265 (.cells b_18 (([.slice A_255_0 n_256_0 c_257_0] : List Value) ++ (([.slice A_255_1 n_256_1 c_257_1] : List Value) ++ (([.int .i64 a_262_2] : List Value) ++ (([.bool a_262_3] : List Value) ++ ([.slice A_255_4 n_256_4 c_257_4] : List Value))))) 66 :: .sl A_255_0 c_257_0 n_256_0 x_259_0 22 1 :: .sl A_255_1 c_257_1 n_256_1 x_259_1 69 2 :: .sl A_255_4 c_257_4 n_256_4 x_259_4 71 2 :: .sl A_217 c_219 n_218 (iv .u8 l_220) 5 1 :: .sl A_201 c_203 n_202 (iv .u8 l_204) 5 1 :: .sl A_145 c_147 n_146 (iv .u8 l_148) 5 1 :: .sl A_38 c_40 n_39 (iv .u8 l_41) 5 1 :: (T_253 ++ R)) := St.unhide (A := [_, _, _, _]) (B := [_, _, _, _]) (T := T_253) (R := R) sc_267
    refine ⟨_, rfl, ?_⟩
    refine WL.on ?_ ?_; exact Wanted.guard (dj := 89) (by rfl) (evb (by rfl) h_249) (by rfl)
    refine WL.val Wanted.none (Runs.eql rfl rfl rfl) ?_
    refine WL.val Wanted.none (Runs.pick_t (evb rfl h_249) rfl) ?_
    refine WL.val Wanted.none (Runs.move rfl) ?_
    obtain ⟨c_268, H⟩ := H
    have h_269 : (a_264 == 0) = true := (beq_iff_eq.mpr c_268)
    refine WL.on ?_ ?_; exact Wanted.guard (dj := 95) (by rfl) (evb (by rfl) h_269) (by rfl)
    refine WL.val Wanted.none (Runs.move rfl) ?_
    refine WL.on ?_ ?_; exact Wanted.guard (dj := 95) (by rfl) (evb (by rfl) h_269) (by rfl)
    refine WL.val Wanted.none (Runs.eql rfl rfl rfl) ?_
    refine WL.val Wanted.none (Runs.pick_t (evb rfl h_269) rfl) ?_
    refine WL.val Wanted.none (Runs.move rfl) ?_
    obtain ⟨c_270, H⟩ := H
    have h_271 : (a_224 == 1) = true := (beq_iff_eq.mpr c_270)
    refine WL.on ?_ ?_; exact Wanted.guard (dj := 99) (by rfl) (evb (by rfl) h_271) (by rfl)
    refine WL.val Wanted.none (Runs.move rfl) ?_
    refine WL.on ?_ ?_; exact Wanted.guard (dj := 99) (by rfl) (evb (by rfl) h_271) (by rfl)
    refine WL.val Wanted.none (Runs.move rfl) ?_
    refine WL.on ?_ ?_; exact Wanted.guard (dj := 99) (by rfl) (evb (by rfl) h_271) (by rfl)
    have st_272 : St w w_265 ((T_253 ++ (.cells b_18 (([.slice A_255_0 n_256_0 c_257_0] : List Value) ++ (([.slice A_255_1 n_256_1 c_257_1] : List Value) ++ (([.int .i64 a_262_2] : List Value) ++ (([.bool a_262_3] : List Value) ++ ([.slice A_255_4 n_256_4 c_257_4] : List Value))))) 66 :: .sl A_255_0 c_257_0 n_256_0 x_259_0 22 1 :: .sl A_255_1 c_257_1 n_256_1 x_259_1 69 2 :: .sl A_255_4 c_257_4 n_256_4 x_259_4 71 2 :: .sl A_217 c_219 n_218 (iv .u8 l_220) 5 1 :: .sl A_201 c_203 n_202 (iv .u8 l_204) 5 1 :: .sl A_145 c_147 n_146 (iv .u8 l_148) 5 1 :: .sl A_38 c_40 n_39 (iv .u8 l_41) 5 1 :: R))) := St.hide (A := []) (B := [_, _, _, _, _, _, _, _]) (T := T_253) (R := R) st_266
    obtain ⟨a_277, hr_273, H⟩ := H
    refine WL.call Wanted.none ent11 rfl (disk_Disk_Write_nil0.calls w w_265 T_253 (.cells b_18 (([.slice A_255_0 n_256_0 c_257_0] : List Value) ++ (([.slice A_255_1 n_256_1 c_257_1] : List Value) ++ (([.int .i64 a_262_2] : List Value) ++ (([.bool a_262_3] : List Value) ++ ([.slice A_255_4 n_256_4 c_257_4] : List Value))))) 66 :: .sl A_255_0 c_257_0 n_256_0 x_259_0 22 1 :: .sl A_255_1 c_257_1 n_256_1 x_259_1 69 2 :: .sl A_255_4 c_257_4 n_256_4 x_259_4 71 2 :: .sl A_217 c_219 n_218 (iv .u8 l_220) 5 1 :: .sl A_201 c_203 n_202 (iv .u8 l_204) 5 1 :: .sl A_145 c_147 n_146 (iv .u8 l_148) 5 1 :: .sl A_38 c_40 n_39 (iv .u8 l_41) 5 1 :: R) 0 l_41 A_38 n_39 c_40  st_272 ⟨hn_43, st_266.cap (i := 7) rfl, fun W_ L_ st hT => st.src_mem (hT _ (List.mem_append_right _ (List.mem_of_getElem? (i := 7) rfl)))⟩ a_277 hr_273) ?_
    rintro _ w_278 ⟨T_274, hs_275, rfl, sc_280⟩
    have st_279 : St w w_278 (.cells b_18 (([.slice A_255_0 n_256_0 c_257_0] : List Value) ++ (([.slice A_255_1 n_256_1 c_257_1] : List Value) ++ (([.int .i64 a_262_2] : List Value) ++ (([.bool a_262_3] : List Value) ++ ([.slice A_255_4 n_256_4 c_257_4] : List Value))))) 66 :: .sl A_255_0 c_257_0 n_256_0 x_259_0 22 1 :: .sl A_255_1 c_257_1 n_256_1 x_259_1 69 2 :: .sl A_255_4 c_257_4 n_256_4 x_259_4 71 2 :: .sl A_217 c_219 n_218 (iv .u8 l_220) 5 1 :: .sl A_201 c_203 n_202 (iv .u8 l_204) 5 1 :: .sl A_145 c_147 n_146 (iv .u8 l_148) 5 1 :: .sl A_38 c_40 n_39 (iv .u8 l_41) 5 1 :: (T_274 ++ R)) := St.unhide (A := []) (B := [_, _, _, _, _, _, _, _]) (T := T_274) (R := R) sc_280
    refine ⟨_, rfl, ?_⟩
    refine WL.on ?_ ?_; exact Wanted.guard (dj := 99) (by rfl) (evb (by rfl) h_271) (by rfl)
    refine WL.val Wanted.none (Runs.eql rfl rfl rfl) ?_
    refine WL.val Wanted.none (Runs.pick_t (evb rfl h_271) rfl) ?_
    refine WL.val Wanted.none (Runs.move rfl) ?_
    obtain ⟨c_281, H⟩ := H
    have h_282 : (a_277 == 1) = true := (beq_iff_eq.mpr c_281)
    refine WL.on ?_ ?_; exact Wanted.guard (dj := 105) (by rfl) (evb (by rfl) h_282) (by rfl)
    refine WL.val Wanted.none (Runs.move rfl) ?_
    refine WL.on ?_ ?_; exact Wanted.guard (dj := 105) (by rfl) (evb (by rfl) h_282) (by rfl)
    have st_283 : St w w_278 ((T_274 ++ (.cells b_18 (([.slice A_255_0 n_256_0 c_257_0] : List Value) ++ (([.slice A_255_1 n_256_1 c_257_1] : List Value) ++ (([.int .i64 a_262_2] : List Value) ++ (([.bool a_262_3] : List Value) ++ ([.slice A_255_4 n_256_4 c_257_4] : List Value))))) 66 :: .sl A_255_0 c_257_0 n_256_0 x_259_0 22 1 :: .sl A_255_1 c_257_1 n_256_1 x_259_1 69 2 :: .sl A_255_4 c_257_4 n_256_4 x_259_4 71 2 :: .sl A_217 c_219 n_218 (iv .u8 l_220) 5 1 :: .sl A_201 c_203 n_202 (iv .u8 l_204) 5 1 :: .sl A_145 c_147 n_146 (iv .u8 l_148) 5 1 :: .sl A_38 c_40 n_39 (iv .u8 l_41) 5 1 :: R))) := St.hide (A := []) (B := [_, _, _, _, _, _, _, _]) (T := T_274) (R := R) st_279
    obtain ⟨a_288, hr_284, H⟩ := H
    refine WL.call Wanted.none ent16 rfl (disk_Disk_Flush_nil0.calls w w_278 T_274 (.cells b_18 (([.slice A_255_0 n_256_0 c_257_0] : List Value) ++ (([.slice A_255_1 n_256_1 c_257_1] : List Value) ++ (([.int .i64 a_262_2] : List Value) ++ (([.bool a_262_3] : List Value) ++ ([.slice A_255_4 n_256_4 c_257_4] : List Value))))) 66 :: .sl A_255_0 c_257_0 n_256_0 x_259_0 22 1 :: .sl A_255_1 c_257_1 n_256_1 x_259_1 69 2 :: .sl A_255_4 c_257_4 n_256_4 x_259_4 71 2 :: .sl A_217 c_219 n_218 (iv .u8 l_220) 5 1 :: .sl A_201 c_203 n_202 (iv .u8 l_204) 5 1 :: .sl A_145 c_147 n_146 (iv .u8 l_148) 5 1 :: .sl A_38 c_40 n_39 (iv .u8 l_41) 5 1 :: R)   st_283 a_288 hr_284) ?_
    rintro _ w_289 ⟨T_285, hs_286, rfl, sc_291⟩
    have st_290 : St w w_289 (.cells b_18 (([.slice A_255_0 n_256_0 c_257_0] : List Value) ++ (([.slice A_255_1 n_256_1 c_257_1] : List Value) ++ (([.int .i64 a_262_2] : List Value) ++ (([.bool a_262_3] : List Value) ++ ([.slice A_255_4 n_256_4 c_257_4] : List Value))))) 66 :: .sl A_255_0 c_257_0 n_256_0 x_259_0 22 1 :: .sl A_255_1 c_257_1 n_256_1 x_259_1 69 2 :: .sl A_255_4 c_257_4 n_256_4 x_259_4 71 2 :: .sl A_217 c_219 n_218 (iv .u8 l_220) 5 1 :: .sl A_201 c_203 n_202 (iv .u8 l_204) 5 1 :: .sl A_145 c_147 n_146 (iv .u8 l_148) 5 1 :: .sl A_38 c_40 n_39 (iv .u8 l_41) 5 1 :: (T_285 ++ R)) := St.unhide (A := []) (B := [_, _, _, _, _, _, _, _]) (T := T_285) (R := R) sc_291
    refine ⟨_, rfl, ?_⟩
    refine WL.on ?_ ?_; exact Wanted.guard (dj := 105) (by rfl) (evb (by rfl) h_282) (by rfl)
    refine WL.val Wanted.none (Runs.eql rfl rfl rfl) ?_
    refine WL.val Wanted.none (Runs.pick_t (evb rfl h_282) rfl) ?_
    refine WL.val Wanted.none (Runs.move rfl) ?_
    obtain ⟨c_292, H⟩ := H
    have h_293 : (a_288 == 1) = true := (beq_iff_eq.mpr c_292)
    refine WL.on ?_ ?_; exact Wanted.guard (dj := 110) (by rfl) (evb (by rfl) h_293) (by rfl)
    refine WL.val Wanted.none (Runs.move rfl) ?_
    refine WL.on ?_ ?_; exact Wanted.guard (dj := 110) (by rfl) (evb (by rfl) h_293) (by rfl)
    refine WL.val Wanted.none (Runs.move rfl) ?_
    refine WL.on ?_ ?_; exact Wanted.guard (dj := 110) (by rfl) (evb (by rfl) h_293) (by rfl)
    have st_294 : St w w_289 ((T_285 ++ (.cells b_18 (([.slice A_255_0 n_256_0 c_257_0] : List Value) ++ (([.slice A_255_1 n_256_1 c_257_1] : List Value) ++ (([.int .i64 a_262_2] : List Value) ++ (([.bool a_262_3] : List Value) ++ ([.slice A_255_4 n_256_4 c_257_4] : List Value))))) 66 :: .sl A_255_0 c_257_0 n_256_0 x_259_0 22 1 :: .sl A_255_1 c_257_1 n_256_1 x_259_1 69 2 :: .sl A_255_4 c_257_4 n_256_4 x_259_4 71 2 :: .sl A_217 c_219 n_218 (iv .u8 l_220) 5 1 :: .sl A_201 c_203 n_202 (iv .u8 l_204) 5 1 :: .sl A_145 c_147 n_146 (iv .u8 l_148) 5 1 :: .sl A_38 c_40 n_39 (iv .u8 l_41) 5 1 :: R))) := St.hide (A := []) (B := [_, _, _, _, _, _, _, _]) (T := T_285) (R := R) st_290
    obtain ⟨a_299, hr_295, H⟩ := H
    refine WL.call Wanted.none ent25 rfl (disk_Disk_Tamper_nil0.calls w w_289 T_285 (.cells b_18 (([.slice A_255_0 n_256_0 c_257_0] : List Value) ++ (([.slice A_255_1 n_256_1 c_257_1] : List Value) ++ (([.int .i64 a_262_2] : List Value) ++ (([.bool a_262_3] : List Value) ++ ([.slice A_255_4 n_256_4 c_257_4] : List Value))))) 66 :: .sl A_255_0 c_257_0 n_256_0 x_259_0 22 1 :: .sl A_255_1 c_257_1 n_256_1 x_259_1 69 2 :: .sl A_255_4 c_257_4 n_256_4 x_259_4 71 2 :: .sl A_217 c_219 n_218 (iv .u8 l_220) 5 1 :: .sl A_201 c_203 n_202 (iv .u8 l_204) 5 1 :: .sl A_145 c_147 n_146 (iv .u8 l_148) 5 1 :: .sl A_38 c_40 n_39 (iv .u8 l_41) 5 1 :: R) 0 l_41 A_38 n_39 c_40  st_294 ⟨hn_43, st_290.cap (i := 7) rfl, fun W_ L_ st hT => st.src_mem (hT _ (List.mem_append_right _ (List.mem_of_getElem? (i := 7) rfl)))⟩ a_299 hr_295) ?_
    rintro _ w_300 ⟨T_296, hs_297, rfl, sc_302⟩
    have st_301 : St w w_300 (.cells b_18 (([.slice A_255_0 n_256_0 c_257_0] : List Value) ++ (([.slice A_255_1 n_256_1 c_257_1] : List Value) ++ (([.int .i64 a_262_2] : List Value) ++ (([.bool a_262_3] : List Value) ++ ([.slice A_255_4 n_256_4 c_257_4] : List Value))))) 66 :: .sl A_255_0 c_257_0 n_256_0 x_259_0 22 1 :: .sl A_255_1 c_257_1 n_256_1 x_259_1 69 2 :: .sl A_255_4 c_257_4 n_256_4 x_259_4 71 2 :: .sl A_217 c_219 n_218 (iv .u8 l_220) 5 1 :: .sl A_201 c_203 n_202 (iv .u8 l_204) 5 1 :: .sl A_145 c_147 n_146 (iv .u8 l_148) 5 1 :: .sl A_38 c_40 n_39 (iv .u8 l_41) 5 1 :: (T_296 ++ R)) := St.unhide (A := []) (B := [_, _, _, _, _, _, _, _]) (T := T_296) (R := R) sc_302
    refine ⟨_, rfl, ?_⟩
    refine WL.on ?_ ?_; exact Wanted.guard (dj := 110) (by rfl) (evb (by rfl) h_293) (by rfl)
    refine WL.val Wanted.none (Runs.eql rfl rfl rfl) ?_
    refine WL.val Wanted.none (Runs.pick_t (evb rfl h_293) rfl) ?_
    refine WL.val Wanted.none (Runs.move rfl) ?_
    obtain ⟨c_303, H⟩ := H
    have h_304 : (a_299 == 1) = true := (beq_iff_eq.mpr c_303)
    refine WL.on ?_ ?_; exact Wanted.guard (dj := 116) (by rfl) (evb (by rfl) h_304) (by rfl)
    refine WL.val Wanted.none (Runs.move rfl) ?_
    refine WL.on ?_ ?_; exact Wanted.guard (dj := 116) (by rfl) (evb (by rfl) h_304) (by rfl)
    have st_305 : St w w_300 ((T_296 ++ (.cells b_18 (([.slice A_255_0 n_256_0 c_257_0] : List Value) ++ (([.slice A_255_1 n_256_1 c_257_1] : List Value) ++ (([.int .i64 a_262_2] : List Value) ++ (([.bool a_262_3] : List Value) ++ ([.slice A_255_4 n_256_4 c_257_4] : List Value))))) 66 :: .sl A_255_0 c_257_0 n_256_0 x_259_0 22 1 :: .sl A_255_1 c_257_1 n_256_1 x_259_1 69 2 :: .sl A_255_4 c_257_4 n_256_4 x_259_4 71 2 :: .sl A_217 c_219 n_218 (iv .u8 l_220) 5 1 :: .sl A_201 c_203 n_202 (iv .u8 l_204) 5 1 :: .sl A_145 c_147 n_146 (iv .u8 l_148) 5 1 :: .sl A_38 c_40 n_39 (iv .u8 l_41) 5 1 :: R))) := St.hide (A := []) (B := [_, _, _, _, _, _, _, _]) (T := T_296) (R := R) st_301
    obtain ⟨a_310, hr_306, H⟩ := H
    refine WL.call Wanted.none ent22 rfl (disk_Disk_Restore_nil0.calls w w_300 T_296 (.cells b_18 (([.slice A_255_0 n_256_0 c_257_0] : List Value) ++ (([.slice A_255_1 n_256_1 c_257_1] : List Value) ++ (([.int .i64 a_262_2] : List Value) ++ (([.bool a_262_3] : List Value) ++ ([.slice A_255_4 n_256_4 c_257_4] : List Value))))) 66 :: .sl A_255_0 c_257_0 n_256_0 x_259_0 22 1 :: .sl A_255_1 c_257_1 n_256_1 x_259_1 69 2 :: .sl A_255_4 c_257_4 n_256_4 x_259_4 71 2 :: .sl A_217 c_219 n_218 (iv .u8 l_220) 5 1 :: .sl A_201 c_203 n_202 (iv .u8 l_204) 5 1 :: .sl A_145 c_147 n_146 (iv .u8 l_148) 5 1 :: .sl A_38 c_40 n_39 (iv .u8 l_41) 5 1 :: R) [] none 0 0  st_305 HS.nil a_310 hr_306) ?_
    rintro _ w_311 ⟨T_307, hs_308, rfl, sc_313⟩
    have st_312 : St w w_311 (.cells b_18 (([.slice A_255_0 n_256_0 c_257_0] : List Value) ++ (([.slice A_255_1 n_256_1 c_257_1] : List Value) ++ (([.int .i64 a_262_2] : List Value) ++ (([.bool a_262_3] : List Value) ++ ([.slice A_255_4 n_256_4 c_257_4] : List Value))))) 66 :: .sl A_255_0 c_257_0 n_256_0 x_259_0 22 1 :: .sl A_255_1 c_257_1 n_256_1 x_259_1 69 2 :: .sl A_255_4 c_257_4 n_256_4 x_259_4 71 2 :: .sl A_217 c_219 n_218 (iv .u8 l_220) 5 1 :: .sl A_201 c_203 n_202 (iv .u8 l_204) 5 1 :: .sl A_145 c_147 n_146 (iv .u8 l_148) 5 1 :: .sl A_38 c_40 n_39 (iv .u8 l_41) 5 1 :: (T_307 ++ R)) := St.unhide (A := []) (B := [_, _, _, _, _, _, _, _]) (T := T_307) (R := R) sc_313
    refine ⟨_, rfl, ?_⟩
    refine WL.on ?_ ?_; exact Wanted.guard (dj := 116) (by rfl) (evb (by rfl) h_304) (by rfl)
    refine WL.val Wanted.none (Runs.eql rfl rfl rfl) ?_
    refine WL.val Wanted.none (Runs.pick_t (evb rfl h_304) rfl) ?_
    refine WL.val Wanted.none (Runs.move rfl) ?_
    obtain ⟨c_314, H⟩ := H
    have h_315 : (a_310 == 1) = true := (beq_iff_eq.mpr c_314)
    refine WL.on ?_ ?_; exact Wanted.guard (dj := 121) (by rfl) (evb (by rfl) h_315) (by rfl)
    refine WL.val Wanted.none (Runs.move rfl) ?_
    refine WL.on ?_ ?_; exact Wanted.guard (dj := 121) (by rfl) (evb (by rfl) h_315) (by rfl)
    have st_316 : St w w_311 ((T_307 ++ (.cells b_18 (([.slice A_255_0 n_256_0 c_257_0] : List Value) ++ (([.slice A_255_1 n_256_1 c_257_1] : List Value) ++ (([.int .i64 a_262_2] : List Value) ++ (([.bool a_262_3] : List Value) ++ ([.slice A_255_4 n_256_4 c_257_4] : List Value))))) 66 :: .sl A_255_0 c_257_0 n_256_0 x_259_0 22 1 :: .sl A_255_1 c_257_1 n_256_1 x_259_1 69 2 :: .sl A_255_4 c_257_4 n_256_4 x_259_4 71 2 :: .sl A_217 c_219 n_218 (iv .u8 l_220) 5 1 :: .sl A_201 c_203 n_202 (iv .u8 l_204) 5 1 :: .sl A_145 c_147 n_146 (iv .u8 l_148) 5 1 :: .sl A_38 c_40 n_39 (iv .u8 l_41) 5 1 :: R))) := St.hide (A := []) (B := [_, _, _, _, _, _, _, _]) (T := T_307) (R := R) st_312
    obtain ⟨a_321, hr_317, H⟩ := H
    refine WL.call Wanted.none ent26 rfl (disk_Disk_Size_nil0.calls w w_311 T_307 (.cells b_18 (([.slice A_255_0 n_256_0 c_257_0] : List Value) ++ (([.slice A_255_1 n_256_1 c_257_1] : List Value) ++ (([.int .i64 a_262_2] : List Value) ++ (([.bool a_262_3] : List Value) ++ ([.slice A_255_4 n_256_4 c_257_4] : List Value))))) 66 :: .sl A_255_0 c_257_0 n_256_0 x_259_0 22 1 :: .sl A_255_1 c_257_1 n_256_1 x_259_1 69 2 :: .sl A_255_4 c_257_4 n_256_4 x_259_4 71 2 :: .sl A_217 c_219 n_218 (iv .u8 l_220) 5 1 :: .sl A_201 c_203 n_202 (iv .u8 l_204) 5 1 :: .sl A_145 c_147 n_146 (iv .u8 l_148) 5 1 :: .sl A_38 c_40 n_39 (iv .u8 l_41) 5 1 :: R)   st_316 a_321 hr_317) ?_
    rintro _ w_322 ⟨T_318, hs_319, rfl, sc_324⟩
    have st_323 : St w w_322 (.cells b_18 (([.slice A_255_0 n_256_0 c_257_0] : List Value) ++ (([.slice A_255_1 n_256_1 c_257_1] : List Value) ++ (([.int .i64 a_262_2] : List Value) ++ (([.bool a_262_3] : List Value) ++ ([.slice A_255_4 n_256_4 c_257_4] : List Value))))) 66 :: .sl A_255_0 c_257_0 n_256_0 x_259_0 22 1 :: .sl A_255_1 c_257_1 n_256_1 x_259_1 69 2 :: .sl A_255_4 c_257_4 n_256_4 x_259_4 71 2 :: .sl A_217 c_219 n_218 (iv .u8 l_220) 5 1 :: .sl A_201 c_203 n_202 (iv .u8 l_204) 5 1 :: .sl A_145 c_147 n_146 (iv .u8 l_148) 5 1 :: .sl A_38 c_40 n_39 (iv .u8 l_41) 5 1 :: (T_318 ++ R)) := St.unhide (A := []) (B := [_, _, _, _, _, _, _, _]) (T := T_318) (R := R) sc_324
    refine ⟨_, rfl, ?_⟩
    refine WL.on ?_ ?_; exact Wanted.guard (dj := 121) (by rfl) (evb (by rfl) h_315) (by rfl)
    refine WL.val Wanted.none (Runs.move rfl) ?_
    refine WL.on ?_ ?_; exact Wanted.guard (dj := 121) (by rfl) (evb (by rfl) h_315) (by rfl)
    have st_325 : St w w_322 ((T_318 ++ (.cells b_18 (([.slice A_255_0 n_256_0 c_257_0] : List Value) ++ (([.slice A_255_1 n_256_1 c_257_1] : List Value) ++ (([.int .i64 a_262_2] : List Value) ++ (([.bool a_262_3] : List Value) ++ ([.slice A_255_4 n_256_4 c_257_4] : List Value))))) 66 :: .sl A_255_0 c_257_0 n_256_0 x_259_0 22 1 :: .sl A_255_1 c_257_1 n_256_1 x_259_1 69 2 :: .sl A_255_4 c_257_4 n_256_4 x_259_4 71 2 :: .sl A_217 c_219 n_218 (iv .u8 l_220) 5 1 :: .sl A_201 c_203 n_202 (iv .u8 l_204) 5 1 :: .sl A_145 c_147 n_146 (iv .u8 l_148) 5 1 :: .sl A_38 c_40 n_39 (iv .u8 l_41) 5 1 :: R))) := St.hide (A := []) (B := [_, _, _, _, _, _, _, _]) (T := T_318) (R := R) st_323
    obtain ⟨a_330, hr_326, H⟩ := H
    refine WL.call Wanted.none ent13 rfl (disk_Disk_Pending_nil0.calls w w_322 T_318 (.cells b_18 (([.slice A_255_0 n_256_0 c_257_0] : List Value) ++ (([.slice A_255_1 n_256_1 c_257_1] : List Value) ++ (([.int .i64 a_262_2] : List Value) ++ (([.bool a_262_3] : List Value) ++ ([.slice A_255_4 n_256_4 c_257_4] : List Value))))) 66 :: .sl A_255_0 c_257_0 n_256_0 x_259_0 22 1 :: .sl A_255_1 c_257_1 n_256_1 x_259_1 69 2 :: .sl A_255_4 c_257_4 n_256_4 x_259_4 71 2 :: .sl A_217 c_219 n_218 (iv .u8 l_220) 5 1 :: .sl A_201 c_203 n_202 (iv .u8 l_204) 5 1 :: .sl A_145 c_147 n_146 (iv .u8 l_148) 5 1 :: .sl A_38 c_40 n_39 (iv .u8 l_41) 5 1 :: R)   st_325 a_330 hr_326) ?_
    rintro _ w_331 ⟨T_327, hs_328, rfl, sc_333⟩
    have st_332 : St w w_331 (.cells b_18 (([.slice A_255_0 n_256_0 c_257_0] : List Value) ++ (([.slice A_255_1 n_256_1 c_257_1] : List Value) ++ (([.int .i64 a_262_2] : List Value) ++ (([.bool a_262_3] : List Value) ++ ([.slice A_255_4 n_256_4 c_257_4] : List Value))))) 66 :: .sl A_255_0 c_257_0 n_256_0 x_259_0 22 1 :: .sl A_255_1 c_257_1 n_256_1 x_259_1 69 2 :: .sl A_255_4 c_257_4 n_256_4 x_259_4 71 2 :: .sl A_217 c_219 n_218 (iv .u8 l_220) 5 1 :: .sl A_201 c_203 n_202 (iv .u8 l_204) 5 1 :: .sl A_145 c_147 n_146 (iv .u8 l_148) 5 1 :: .sl A_38 c_40 n_39 (iv .u8 l_41) 5 1 :: (T_327 ++ R)) := St.unhide (A := []) (B := [_, _, _, _, _, _, _, _]) (T := T_327) (R := R) sc_333
    refine ⟨_, rfl, ?_⟩
    refine WL.on ?_ ?_; exact Wanted.guard (dj := 121) (by rfl) (evb (by rfl) h_315) (by rfl)
    refine WL.val Wanted.none (Runs.add rfl rfl rfl) ?_
    refine WL.on ?_ ?_; exact Wanted.guard (dj := 121) (by rfl) (evb (by rfl) h_315) (by rfl)
    refine WL.val Wanted.none (Runs.move rfl) ?_
    refine WL.on ?_ ?_; exact Wanted.guard (dj := 121) (by rfl) (evb (by rfl) h_315) (by rfl)
    have st_334 : St w w_331 ((T_327 ++ (.cells b_18 (([.slice A_255_0 n_256_0 c_257_0] : List Value) ++ (([.slice A_255_1 n_256_1 c_257_1] : List Value) ++ (([.int .i64 a_262_2] : List Value) ++ (([.bool a_262_3] : List Value) ++ ([.slice A_255_4 n_256_4 c_257_4] : List Value))))) 66 :: .sl A_255_0 c_257_0 n_256_0 x_259_0 22 1 :: .sl A_255_1 c_257_1 n_256_1 x_259_1 69 2 :: .sl A_255_4 c_257_4 n_256_4 x_259_4 71 2 :: .sl A_217 c_219 n_218 (iv .u8 l_220) 5 1 :: .sl A_201 c_203 n_202 (iv .u8 l_204) 5 1 :: .sl A_145 c_147 n_146 (iv .u8 l_148) 5 1 :: .sl A_38 c_40 n_39 (iv .u8 l_41) 5 1 :: R))) := St.hide (A := []) (B := [_, _, _, _, _, _, _, _]) (T := T_327) (R := R) st_332
    obtain ⟨l_342, hr_335, H⟩ := H
    refine WL.call Wanted.none ent17 rfl (disk_Disk_Image_nil0.calls w w_331 T_327 (.cells b_18 (([.slice A_255_0 n_256_0 c_257_0] : List Value) ++ (([.slice A_255_1 n_256_1 c_257_1] : List Value) ++ (([.int .i64 a_262_2] : List Value) ++ (([.bool a_262_3] : List Value) ++ ([.slice A_255_4 n_256_4 c_257_4] : List Value))))) 66 :: .sl A_255_0 c_257_0 n_256_0 x_259_0 22 1 :: .sl A_255_1 c_257_1 n_256_1 x_259_1 69 2 :: .sl A_255_4 c_257_4 n_256_4 x_259_4 71 2 :: .sl A_217 c_219 n_218 (iv .u8 l_220) 5 1 :: .sl A_201 c_203 n_202 (iv .u8 l_204) 5 1 :: .sl A_145 c_147 n_146 (iv .u8 l_148) 5 1 :: .sl A_38 c_40 n_39 (iv .u8 l_41) 5 1 :: R)   st_334 l_342 hr_335) ?_
    rintro _ w_346 ⟨T_336, A_339, n_340, c_341, x_343, hs_337, hn_344, hx_345, rfl, sc_348⟩
    have st_347 : St w w_346 (.sl A_339 c_341 n_340 x_343 22 1 :: .cells b_18 (([.slice A_255_0 n_256_0 c_257_0] : List Value) ++ (([.slice A_255_1 n_256_1 c_257_1] : List Value) ++ (([.int .i64 a_262_2] : List Value) ++ (([.bool a_262_3] : List Value) ++ ([.slice A_255_4 n_256_4 c_257_4] : List Value))))) 66 :: .sl A_255_0 c_257_0 n_256_0 x_259_0 22 1 :: .sl A_255_1 c_257_1 n_256_1 x_259_1 69 2 :: .sl A_255_4 c_257_4 n_256_4 x_259_4 71 2 :: .sl A_217 c_219 n_218 (iv .u8 l_220) 5 1 :: .sl A_201 c_203 n_202 (iv .u8 l_204) 5 1 :: .sl A_145 c_147 n_146 (iv .u8 l_148) 5 1 :: .sl A_38 c_40 n_39 (iv .u8 l_41) 5 1 :: (T_336 ++ R)) := St.unhide (A := [_]) (B := [_, _, _, _, _, _, _, _]) (T := T_336) (R := R) sc_348
    refine ⟨_, rfl, ?_⟩
    refine WL.on ?_ ?_; exact Wanted.guard (dj := 121) (by rfl) (evb (by rfl) h_315) (by rfl)
    refine WL.val Wanted.none (Runs.len_sl Try.underlying41 rfl (by rw [hn_344])) ?_
    refine WL.on ?_ ?_; exact Wanted.guard (dj := 121) (by rfl) (evb (by rfl) h_315) (by rfl)
    obtain ⟨x_349, e_350, H⟩ := H
    refine WL.val Wanted.none (Runs.add rfl rfl e_350) ?_
    refine WL.on ?_ ?_; exact Wanted.guard (dj := 121) (by rfl) (evb (by rfl) h_315) (by rfl)
    refine WL.val Wanted.none (Runs.move rfl) ?_
    refine WL.on ?_ ?_; exact Wanted.guard (dj := 121) (by rfl) (evb (by rfl) h_315) (by rfl)
    have st_351 : St w w_346 ((T_336 ++ (.sl A_339 c_341 n_340 x_343 22 1 :: .cells b_18 (([.slice A_255_0 n_256_0 c_257_0] : List Value) ++ (([.slice A_255_1 n_256_1 c_257_1] : List Value) ++ (([.int .i64 a_262_2] : List Value) ++ (([.bool a_262_3] : List Value) ++ ([.slice A_255_4 n_256_4 c_257_4] : List Value))))) 66 :: .sl A_255_0 c_257_0 n_256_0 x_259_0 22 1 :: .sl A_255_1 c_257_1 n_256_1 x_259_1 69 2 :: .sl A_255_4 c_257_4 n_256_4 x_259_4 71 2 :: .sl A_217 c_219 n_218 (iv .u8 l_220) 5 1 :: .sl A_201 c_203 n_202 (iv .u8 l_204) 5 1 :: .sl A_145 c_147 n_146 (iv .u8 l_148) 5 1 :: .sl A_38 c_40 n_39 (iv .u8 l_41) 5 1 :: R))) := St.hide (A := []) (B := [_, _, _, _, _, _, _, _, _]) (T := T_336) (R := R) st_347
    obtain ⟨l_359, hr_352, H⟩ := H
    refine WL.call Wanted.none ent27 rfl (disk_Disk_Ops_nil0.calls w w_346 T_336 (.sl A_339 c_341 n_340 x_343 22 1 :: .cells b_18 (([.slice A_255_0 n_256_0 c_257_0] : List Value) ++ (([.slice A_255_1 n_256_1 c_257_1] : List Value) ++ (([.int .i64 a_262_2] : List Value) ++ (([.bool a_262_3] : List Value) ++ ([.slice A_255_4 n_256_4 c_257_4] : List Value))))) 66 :: .sl A_255_0 c_257_0 n_256_0 x_259_0 22 1 :: .sl A_255_1 c_257_1 n_256_1 x_259_1 69 2 :: .sl A_255_4 c_257_4 n_256_4 x_259_4 71 2 :: .sl A_217 c_219 n_218 (iv .u8 l_220) 5 1 :: .sl A_201 c_203 n_202 (iv .u8 l_204) 5 1 :: .sl A_145 c_147 n_146 (iv .u8 l_148) 5 1 :: .sl A_38 c_40 n_39 (iv .u8 l_41) 5 1 :: R)   st_351 l_359 hr_352) ?_
    rintro _ w_363 ⟨T_353, A_356, n_357, c_358, x_360, hs_354, hn_361, hx_362, rfl, sc_365⟩
    have st_364 : St w w_363 (.sl A_356 c_358 n_357 x_360 71 2 :: .sl A_339 c_341 n_340 x_343 22 1 :: .cells b_18 (([.slice A_255_0 n_256_0 c_257_0] : List Value) ++ (([.slice A_255_1 n_256_1 c_257_1] : List Value) ++ (([.int .i64 a_262_2] : List Value) ++ (([.bool a_262_3] : List Value) ++ ([.slice A_255_4 n_256_4 c_257_4] : List Value))))) 66 :: .sl A_255_0 c_257_0 n_256_0 x_259_0 22 1 :: .sl A_255_1 c_257_1 n_256_1 x_259_1 69 2 :: .sl A_255_4 c_257_4 n_256_4 x_259_4 71 2 :: .sl A_217 c_219 n_218 (iv .u8 l_220) 5 1 :: .sl A_201 c_203 n_202 (iv .u8 l_204) 5 1 :: .sl A_145 c_147 n_146 (iv .u8 l_148) 5 1 :: .sl A_38 c_40 n_39 (iv .u8 l_41) 5 1 :: (T_353 ++ R)) := St.unhide (A := [_]) (B := [_, _, _, _, _, _, _, _, _]) (T := T_353) (R := R) sc_365
    refine ⟨_, rfl, ?_⟩
    refine WL.on ?_ ?_; exact Wanted.guard (dj := 121) (by rfl) (evb (by rfl) h_315) (by rfl)
    refine WL.val Wanted.none (Runs.len_sl Try.underlying61 rfl (by rw [hn_361])) ?_
    refine WL.on ?_ ?_; exact Wanted.guard (dj := 121) (by rfl) (evb (by rfl) h_315) (by rfl)
    refine WL.val Wanted.none (Runs.add rfl rfl rfl) ?_
    refine WL.on ?_ ?_; exact Wanted.guard (dj := 121) (by rfl) (evb (by rfl) h_315) (by rfl)
    refine WL.val Wanted.none (Runs.eql rfl rfl rfl) ?_
    refine WL.val Wanted.none (Runs.pick_t (evb rfl h_315) rfl) ?_
    refine WL.val Wanted.none (Runs.assign rfl) ?_
    refine WL.nil ?_
    refine QW.then_n ?_
    refine CW.sub [(4, .bool ((IntKind.i64.wrap (x_349 + (l_359.length : Int))) == 0))] ⟨rfl, trivial⟩ ?_
    refine CW.ret ?_
    have hz : ((IntKind.i64.wrap (x_349 + (l_359.length : Int))) == 0) = true := (beq_iff_eq.mpr H)
    exact QW.ret1 rfl (evb rfl hz) ⟨rfl, st_364.ext⟩

end Go.Proofs.Ytjlifbnkdfofhaa
