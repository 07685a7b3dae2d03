/- Walks: each function computes what its relation says, and a call of it ends so. Printed by a program of this session (wip/gen). -/
import Derived.Test.YtjilndiemfhapaaGx2
namespace Go.Proofs.Ytjilndiemfhapaa
open Go Go.Kr Go.RowKit
set_option linter.unusedVariables false
set_option linter.unusedSimpArgs false
/-! ### reliquarylaw15_BuffersPins: function 7 -/
def reliquarylaw15_BuffersPins.L3 (a1 : Int) (a_147 : Int) : Nat → (List R60) → Int → Bool → Int → Prop
  | 0, _, _, _, _ => False
  | kL3 + 1, l_154, x_161, b_162, x_163 => ((x_163 < (IntKind.i64.wrap (Int.tmod a1 5)) ∧ (∃ (a_173_0 : Int) (l_177_1 : List R60) (a_182 : Bool), buffers_Cache_Unpin.rel x_161 l_154 0 a_173_0 l_177_1 a_182 ∧ (¬ (¬ (a_182 = true)) ∧ (∃ (a_192_0 : Int) (l_196_1 : List R60) (a_201 : Bool), buffers_Cache_Drop.rel a_173_0 l_177_1 0 a_192_0 l_196_1 a_201 ∧ (¬ (a_201 = true) ∧ reliquarylaw15_BuffersPins.L3 a1 a_147 kL3 l_196_1 a_192_0 b_162 (IntKind.i64.wrap (x_163 + 1))))))) ∨ (¬ (x_163 < (IntKind.i64.wrap (Int.tmod a1 5))) ∧ (∃ (r_211 : List Int), reliquarylaw15_full.rel ([] : List Int) false r_211 ∧ (∃ (a_222_0 : Int) (l_226_1 : List R60) (a_231 : Int), buffers_Cache_Put.rel x_161 l_154 99 r_211 a_222_0 l_226_1 a_231 ∧ (∃ (a_239_0 : Int) (l_243_1 : List R60) (a_248 : Bool), buffers_Cache_Unpin.rel a_222_0 l_226_1 0 a_239_0 l_243_1 a_248 ∧ (∃ (a_256_0 : Int) (l_260_1 : List R60) (a_265 : Bool), buffers_Cache_Unpin.rel a_239_0 l_243_1 0 a_256_0 l_260_1 a_265 ∧ (∃ (r_273 : List Int), reliquarylaw15_full.rel ([] : List Int) false r_273 ∧ (∃ (a_284_0 : Int) (l_288_1 : List R60) (a_293 : Int), buffers_Cache_Put.rel a_256_0 l_260_1 99 r_273 a_284_0 l_288_1 a_293 ∧ (∃ (a_301_0 : Int) (l_305_1 : List R60) (l_313 : List Int) (a_317 : Bool), buffers_Cache_Get.rel a_284_0 l_288_1 0 a_301_0 l_305_1 l_313 a_317 ∧ (∃ (a_325_0 : Int) (l_329_1 : List R60), buffers_Cache_Clear.rel a_301_0 l_305_1 a_325_0 l_329_1 ∧ (a_147 = 17 ∧ (a_231 = 17 ∧ (a_248 = true ∧ (¬ (a_265 = true) ∧ (a_293 = 0 ∧ (¬ (a_317 = true) ∧ (∃ (a_352_0 : Int) (l_356_1 : List R60) (l_364 : List Int), buffers_Cache_Blocks.rel a_325_0 l_329_1 a_352_0 l_356_1 l_364 ∧ (l_364.length : Int) = 0)))))))))))))))))
def reliquarylaw15_BuffersPins.L2 (a1 : Int) (b_33 : Bool) : Nat → (List R60) → Int → Int → Prop
  | 0, _, _, _ => False
  | kL2 + 1, l_92, x_99, x_100 => ((x_100 < (IntKind.i64.wrap (Int.tmod a1 5)) ∧ (∃ (a_110_0 : Int) (l_114_1 : List R60) (a_119 : Bool), buffers_Cache_Pin.rel x_99 l_92 0 a_110_0 l_114_1 a_119 ∧ reliquarylaw15_BuffersPins.L2 a1 b_33 kL2 l_114_1 a_110_0 (IntKind.i64.wrap (x_100 + 1)))) ∨ (¬ (x_100 < (IntKind.i64.wrap (Int.tmod a1 5))) ∧ (∃ (r_127 : List Int), reliquarylaw15_full.rel ([] : List Int) false r_127 ∧ (∃ (a_138_0 : Int) (l_142_1 : List R60) (a_147 : Int), buffers_Cache_Put.rel x_99 l_92 99 r_127 a_138_0 l_142_1 a_147 ∧ (∃ k_ : Nat, reliquarylaw15_BuffersPins.L3 a1 a_147 k_ l_142_1 a_138_0 b_33 0)))))
def reliquarylaw15_BuffersPins.L1 (a0 : Int) (a1 : Int) : Nat → (List R60) → Int → Bool → Int → Prop
  | 0, _, _, _, _ => False
  | kL1 + 1, l_25, x_32, b_33, x_34 => ((x_34 < (IntKind.i64.wrap ((IntKind.i64.wrap (Int.tmod a0 6)) + 1)) ∧ (∃ (r_44 : List Int), reliquarylaw15_full.rel ([] : List Int) false r_44 ∧ (∃ (a_55_0 : Int) (l_59_1 : List R60) (a_64 : Int), buffers_Cache_Put.rel x_32 l_25 (IntKind.u64.wrap x_34) r_44 a_55_0 l_59_1 a_64 ∧ (¬ (a_64 ≠ 0) ∧ (∃ (a_74_0 : Int) (l_78_1 : List R60) (a_83 : Bool), buffers_Cache_Pin.rel a_55_0 l_59_1 (IntKind.u64.wrap x_34) a_74_0 l_78_1 a_83 ∧ (¬ (¬ (a_83 = true)) ∧ reliquarylaw15_BuffersPins.L1 a0 a1 kL1 l_78_1 a_74_0 b_33 (IntKind.i64.wrap (x_34 + 1)))))))) ∨ (¬ (x_34 < (IntKind.i64.wrap ((IntKind.i64.wrap (Int.tmod a0 6)) + 1))) ∧ (∃ k_ : Nat, reliquarylaw15_BuffersPins.L2 a1 b_33 k_ l_25 x_32 0)))
def reliquarylaw15_BuffersPins.rel (a0 : Int) (a1 : Int)  : Prop := (reliquarylaw15_awake.rel  ∧ (∃ (a_11_0 : Int) (l_15_1 : List R60), buffers_New.rel (IntKind.i64.wrap ((IntKind.i64.wrap (Int.tmod a0 6)) + 1)) a_11_0 l_15_1 ∧ (∃ k_ : Nat, reliquarylaw15_BuffersPins.L1 a0 a1 k_ l_15_1 a_11_0 false 0)))
set_option maxHeartbeats 4000000 in
set_option maxRecDepth 100000 in
theorem reliquarylaw15_BuffersPins.calls (w : World) (a0 : Int) (a1 : Int)     (H : reliquarylaw15_BuffersPins.rel a0 a1 ) :
    Calls Try.prog 7 #[.int .u8 a0, .int .u8 a1] w fun e w' => e = .returned (.bool true) ∧ Below w.heap.size w w' := by
  refine CW.enter Try.func7 rfl (n := 115) rfl [.int .u8 a0, .int .u8 a1] (Nat.le_of_ble_eq_true rfl) ?_
  refine CW.sub [(0, .int .u8 a0), (1, .int .u8 a1)] ⟨rfl, rfl, trivial⟩ ?_
  obtain ⟨T, R, hT, hR, st0⟩ := St.start w
  refine CW.seq ?_
  refine CW.region ?_
  refine WL.val Wanted.none (Runs.assign rfl) ?_
  refine WL.nil ?_
  refine QW.then_n ?_
  refine CW.seq ?_
  refine CW.region ?_
  obtain ⟨hr_1, H⟩ := H
  refine WL.call Wanted.none ent8 rfl (reliquarylaw15_awake.calls w hr_1) ?_
  rintro _ w_2 ⟨rfl, sc_4⟩
  have st_3 : St w w_2 ((T ++ R)) := st0.below sc_4
  refine ⟨_, rfl, ?_⟩
  refine WL.val Wanted.none (Runs.assign rfl) ?_
  refine WL.nil ?_
  refine QW.then_n ?_
  refine CW.seq ?_
  refine CW.seq ?_
  refine CW.region ?_
  refine WL.val Wanted.none (Runs.move rfl) ?_
  refine WL.val Wanted.none (Runs.not rfl rfl) ?_
  refine WL.nil ?_
  refine QW.then_n ?_
  refine CW.cf rfl rfl ?_
  refine CW.skip ?_
  refine QW.then_n ?_
  refine CW.seq ?_
  refine CW.region ?_
  refine WL.val Wanted.none (Runs.move rfl) ?_
  refine WL.val Wanted.none (Runs.rem rfl rfl (by decide) rfl) ?_
  refine WL.val Wanted.none (Runs.conv Try.underlying3 ⟨_, Try.underlying5⟩ rfl rfl) ?_
  refine WL.val Wanted.none (Runs.add rfl rfl rfl) ?_
  refine WL.val Wanted.none (Runs.assign rfl) ?_
  refine WL.nil ?_
  refine QW.then_n ?_
  refine CW.sub [(1, .int .u8 a1), (4, .bool false), (6, .int .i64 (IntKind.i64.wrap ((IntKind.i64.wrap (Int.tmod a0 6)) + 1)))] ⟨rfl, rfl, rfl, trivial⟩ ?_
  refine CW.seq ?_
  refine CW.region ?_
  refine WL.val Wanted.none (Runs.move rfl) ?_
  have st_5 : St w w_2 ((T ++ (R))) := St.hide (A := []) (B := []) (T := T) (R := R) st_3
  obtain ⟨a_11_0, l_15_1, hr_6, H⟩ := H
  refine WL.call Wanted.none ent10 rfl (buffers_New.calls w w_2 T (R) (IntKind.i64.wrap ((IntKind.i64.wrap (Int.tmod a0 6)) + 1))  st_5 a_11_0 l_15_1 hr_6) ?_
  rintro _ w_19 ⟨T_7, b_10, A_12_1, n_13_1, c_14_1, x_16_1, hs_8, hn_17_1, hx_18_1, rfl, sc_21⟩
  have st_20 : St w w_19 (.cells b_10 (([.int .i64 a_11_0] : List Value) ++ ([.slice A_12_1 n_13_1 c_14_1] : List Value)) 57 :: .sl A_12_1 c_14_1 n_13_1 x_16_1 60 3 :: (T_7 ++ R)) := St.unhide (A := [_, _]) (B := []) (T := T_7) (R := R) sc_21
  refine ⟨_, rfl, ?_⟩
  refine WL.val Wanted.none (Runs.assign rfl) ?_
  refine WL.nil ?_
  refine QW.then_n ?_
  refine CW.seq ?_
  refine CW.seq ?_
  refine CW.region ?_
  refine WL.val Wanted.none (Runs.assign rfl) ?_
  refine WL.nil ?_
  refine QW.then_n ?_
  refine CW.block ?_
  obtain ⟨k_22, H⟩ := H
  refine CW.sub [(1, .int .u8 a1), (4, .bool false), (6, .int .i64 (IntKind.i64.wrap ((IntKind.i64.wrap (Int.tmod a0 6)) + 1))), (7, .pointer (some ⟨b_10, 0, none⟩)), (8, .int .i64 0)] ⟨rfl, rfl, rfl, rfl, rfl, trivial⟩ ?_
  refine CW.loop (fun kL1 l_ w_ => ∃ (T_23 : Pool) (A_29 : Option Addr) (c_30 : Nat) (n_31 : Nat) (x_27 : Cells) (l_25 : List R60) (x_32 : Int) (b_33 : Bool) (x_34 : Int), l_ = [(1, .int .u8 a1), (4, .bool b_33), (6, .int .i64 (IntKind.i64.wrap ((IntKind.i64.wrap (Int.tmod a0 6)) + 1))), (7, .pointer (some ⟨b_10, 0, none⟩)), (8, .int .i64 x_34)] ∧ reliquarylaw15_BuffersPins.L1 a0 a1 kL1 l_25 x_32 b_33 x_34 ∧ (Pl T_7 T_23) ∧ (n_31 = l_25.length) ∧ (HRs T_23 (f60 w) x_27 l_25) ∧ St w w_ (.cells b_10 (([.int .i64 x_32] : List Value) ++ ([.slice A_29 n_31 c_30] : List Value)) 57 :: .sl A_29 c_30 n_31 x_27 60 3 :: (T_23 ++ R))) (k := k_22) ⟨T_7, A_12_1, c_14_1, n_13_1, x_16_1, l_15_1, a_11_0, false, 0, rfl, H, Pl.refl, hn_17_1, hx_18_1, st_20⟩ (fun _ _ h => by obtain ⟨_, _, _, _, _, _, _, _, _, _, h, _⟩ := h; exact h.elim) ?_
  rintro kL1 l_37 w_35 ⟨T_23, A_29, c_30, n_31, x_27, l_25, x_32, b_33, x_34, rfl, H, hs_24, hn_26, hx_28, st_36⟩
  refine CW.seq ?_
  refine CW.seq ?_
  refine CW.region ?_
  refine WL.val Wanted.none (Runs.move rfl) ?_
  refine WL.val Wanted.none (Runs.move rfl) ?_
  refine WL.val Wanted.none (Runs.lss rfl rfl rfl) ?_
  refine WL.nil ?_
  refine QW.then_n ?_
  rcases H with ⟨c_38, H⟩ | ⟨c_38, H⟩
  · have h_39 : (decide (x_34 < (IntKind.i64.wrap ((IntKind.i64.wrap (Int.tmod a0 6)) + 1)))) = true := (decide_eq_true c_38)
    refine CW.ct rfl h_39 ?_
    refine CW.skip ?_
    refine QW.then_n ?_
    refine CW.seq ?_
    refine CW.block ?_
    refine CW.seq ?_
    refine CW.region ?_
    refine WL.val Wanted.none (Runs.move rfl) ?_
    refine WL.val Wanted.none (Runs.move rfl) ?_
    refine WL.val Wanted.none (Runs.conv Try.underlying29 ⟨_, Try.underlying3⟩ rfl rfl) ?_
    obtain ⟨r_44, hr_40, H⟩ := H
    refine WL.call Wanted.none ent9 rfl (reliquarylaw15_full.calls w_35 ([] : List Int) false none 0 0 (((HB.nil : HB w T_23 none 0 0 (iv .u8 ([] : List Int)) 0).2.2.at st_36 (mem_T (A := [_, _]) (fun _ h_ => h_)))) ((HB.nil : HB w T_23 none 0 0 (iv .u8 ([] : List Int)) 0).1) ((HB.nil : HB w T_23 none 0 0 (iv .u8 ([] : List Int)) 0).2.1) r_44 hr_40) ?_
    rintro _ w_41 ⟨A_45, c_46, n_47, hn_48, rfl, sc_43⟩
    have st_42 : St w w_41 (.sl A_45 c_46 n_47 (iv .u8 r_44) 5 1 :: .cells b_10 (([.int .i64 x_32] : List Value) ++ ([.slice A_29 n_31 c_30] : List Value)) 57 :: .sl A_29 c_30 n_31 x_27 60 3 :: (T_23 ++ R)) := st_36.call sc_43
    refine ⟨_, rfl, ?_⟩
    have st_50 := (St.pickT (L := [_, _, _]) st_42 [1, 2, 0] (by decide))
    replace st_50 : St w w_41 (.cells b_10 (([.int .i64 x_32] : List Value) ++ ([.slice A_29 n_31 c_30] : List Value)) 57 :: .sl A_29 c_30 n_31 x_27 60 3 :: .sl A_45 c_46 n_47 (iv .u8 r_44) 5 1 :: (T_23 ++ R)) := st_50
    have st_51 : St w w_41 (.cells b_10 (([.int .i64 x_32] : List Value) ++ ([.slice A_29 n_31 c_30] : List Value)) 57 :: .sl A_29 c_30 n_31 x_27 60 3 :: (T_23 ++ (.sl A_45 c_46 n_47 (iv .u8 r_44) 5 1 :: R))) := St.hide (A := [_, _]) (B := [_]) (T := T_23) (R := R) st_50
    obtain ⟨a_55_0, l_59_1, a_64, hr_52, H⟩ := H
    refine WL.call Wanted.none ent11 rfl (buffers_Cache_Put.calls w w_41 T_23 (.sl A_45 c_46 n_47 (iv .u8 r_44) 5 1 :: R) x_32 l_25 (IntKind.u64.wrap x_34) r_44 b_10 A_29 n_31 c_30 x_27 A_45 n_47 c_46 (hs_24.2 (hs_8.2 hT)) (show celly (.sl A_45 c_46 n_47 (iv .u8 r_44) 5 1 :: R) = true from hR) st_51 (hn_26) hx_28 ⟨hn_48, st_50.cap (i := 2) rfl, fun W_ L_ st hT => st.src_mem (hT _ (List.mem_append_right _ (List.mem_of_getElem? (i := 0) rfl)))⟩ a_55_0 l_59_1 a_64 hr_52) ?_
    rintro _ w_65 ⟨T_53, A_56_1, n_57_1, c_58_1, x_60_1, hs_54, hn_61_1, hx_62_1, rfl, sc_67⟩
    have st_66 : St w w_65 (.cells b_10 (([.int .i64 a_55_0] : List Value) ++ ([.slice A_56_1 n_57_1 c_58_1] : List Value)) 57 :: .sl A_56_1 c_58_1 n_57_1 x_60_1 60 3 :: .sl A_45 c_46 n_47 (iv .u8 r_44) 5 1 :: (T_53 ++ R)) := St.unhide (A := [_, _]) (B := [_]) (T := T_53) (R := R) sc_67
    refine ⟨_, rfl, ?_⟩
    refine WL.val Wanted.none (Runs.neq rfl rfl rfl) ?_
    refine WL.val Wanted.none (Runs.move rfl) ?_
    obtain ⟨c_68, H⟩ := H
    have h_69 : (a_64 != 0) = false := (bne_eq_false_iff_eq.mpr (Decidable.not_not.mp c_68))
    refine WL.on ?_ ?_; exact Wanted.guard (dj := 39) (by rfl) (evb (by rfl) h_69) (by rfl)
    refine WL.val Wanted.none (Runs.move rfl) ?_
    refine WL.on ?_ ?_; exact Wanted.guard (dj := 39) (by rfl) (evb (by rfl) h_69) (by rfl)
    refine WL.val Wanted.none (Runs.move rfl) ?_
    refine WL.on ?_ ?_; exact Wanted.guard (dj := 39) (by rfl) (evb (by rfl) h_69) (by rfl)
    refine WL.val Wanted.none (Runs.conv Try.underlying29 ⟨_, Try.underlying3⟩ rfl rfl) ?_
    refine WL.on ?_ ?_; exact Wanted.guard (dj := 39) (by rfl) (evb (by rfl) h_69) (by rfl)
    have st_70 : St w w_65 (.cells b_10 (([.int .i64 a_55_0] : List Value) ++ ([.slice A_56_1 n_57_1 c_58_1] : List Value)) 57 :: .sl A_56_1 c_58_1 n_57_1 x_60_1 60 3 :: (T_53 ++ (.sl A_45 c_46 n_47 (iv .u8 r_44) 5 1 :: R))) := St.hide (A := [_, _]) (B := [_]) (T := T_53) (R := R) st_66
    obtain ⟨a_74_0, l_78_1, a_83, hr_71, H⟩ := H
    refine WL.call Wanted.none ent16 rfl (buffers_Cache_Pin.calls w w_65 T_53 (.sl A_45 c_46 n_47 (iv .u8 r_44) 5 1 :: R) a_55_0 l_59_1 (IntKind.u64.wrap x_34) b_10 A_56_1 n_57_1 c_58_1 x_60_1  st_70 (hn_61_1) hx_62_1 a_74_0 l_78_1 a_83 hr_71) ?_
    rintro _ w_84 ⟨T_72, A_75_1, n_76_1, c_77_1, x_79_1, hs_73, hn_80_1, hx_81_1, rfl, sc_86⟩
    have st_85 : St w w_84 (.cells b_10 (([.int .i64 a_74_0] : List Value) ++ ([.slice A_75_1 n_76_1 c_77_1] : List Value)) 57 :: .sl A_75_1 c_77_1 n_76_1 x_79_1 60 3 :: .sl A_45 c_46 n_47 (iv .u8 r_44) 5 1 :: (T_72 ++ R)) := St.unhide (A := [_, _]) (B := [_]) (T := T_72) (R := R) sc_86
    refine ⟨_, rfl, ?_⟩
    refine WL.on ?_ ?_; exact Wanted.guard (dj := 39) (by rfl) (evb (by rfl) h_69) (by rfl)
    refine WL.val Wanted.none (Runs.not rfl rfl) ?_
    refine WL.val Wanted.none (Runs.pick_f (evb rfl h_69) rfl) ?_
    refine WL.nil ?_
    refine QW.then_n ?_
    obtain ⟨c_87, H⟩ := H
    have h_88 : (!a_83) = false := (not_f (Decidable.not_not.mp c_87))
    refine CW.cf rfl h_88 ?_
    refine CW.skip ?_
    refine QW.blk_n ?_
    refine QW.then_n ?_
    refine CW.region ?_
    refine WL.val Wanted.none (Runs.move rfl) ?_
    refine WL.val Wanted.none (Runs.add rfl rfl rfl) ?_
    refine WL.val Wanted.none (Runs.assign rfl) ?_
    refine WL.nil ?_
    have st_85' := (St.pickT (L := [_, _, _]) st_85 [0, 1] (by decide))
    exact QW.at [(1, .int .u8 a1), (4, .bool b_33), (6, .int .i64 (IntKind.i64.wrap ((IntKind.i64.wrap (Int.tmod a0 6)) + 1))), (7, .pointer (some ⟨b_10, 0, none⟩)), (8, .int .i64 (IntKind.i64.wrap (x_34 + 1)))] ⟨rfl, rfl, rfl, rfl, rfl, trivial⟩ ⟨T_72, A_75_1, c_77_1, n_76_1, x_79_1, l_78_1, a_74_0, b_33, IntKind.i64.wrap (x_34 + 1), rfl, H, ((hs_24.trans hs_54).trans hs_73), hn_80_1, hx_81_1, st_85'⟩
  · have h_39 : (decide (x_34 < (IntKind.i64.wrap ((IntKind.i64.wrap (Int.tmod a0 6)) + 1)))) = false := (decide_eq_false c_38)
    refine CW.cf rfl h_39 ?_
    refine CW.exit ?_
    refine QW.then_x ?_
    refine QW.then_x ?_
    refine QW.blk_x ?_
    refine QW.then_n ?_
    refine CW.seq ?_
    refine CW.region ?_
    refine WL.val Wanted.none (Runs.move rfl) ?_
    refine WL.val Wanted.none (Runs.rem rfl rfl (by decide) rfl) ?_
    refine WL.val Wanted.none (Runs.conv Try.underlying3 ⟨_, Try.underlying5⟩ rfl rfl) ?_
    refine WL.val Wanted.none (Runs.assign rfl) ?_
    refine WL.nil ?_
    refine QW.then_n ?_
    refine CW.sub [(4, .bool b_33), (7, .pointer (some ⟨b_10, 0, none⟩)), (9, .int .i64 (IntKind.i64.wrap (Int.tmod a1 5)))] ⟨rfl, rfl, rfl, trivial⟩ ?_
    refine CW.seq ?_
    refine CW.seq ?_
    refine CW.region ?_
    refine WL.val Wanted.none (Runs.assign rfl) ?_
    refine WL.nil ?_
    refine QW.then_n ?_
    refine CW.block ?_
    obtain ⟨k_89, H⟩ := H
    refine CW.sub [(4, .bool b_33), (7, .pointer (some ⟨b_10, 0, none⟩)), (9, .int .i64 (IntKind.i64.wrap (Int.tmod a1 5))), (10, .int .i64 0)] ⟨rfl, rfl, rfl, rfl, trivial⟩ ?_
    refine CW.loop (fun kL2 l_ w_ => ∃ (T_90 : Pool) (A_96 : Option Addr) (c_97 : Nat) (n_98 : Nat) (x_94 : Cells) (l_92 : List R60) (x_99 : Int) (x_100 : Int), l_ = [(4, .bool b_33), (7, .pointer (some ⟨b_10, 0, none⟩)), (9, .int .i64 (IntKind.i64.wrap (Int.tmod a1 5))), (10, .int .i64 x_100)] ∧ reliquarylaw15_BuffersPins.L2 a1 b_33 kL2 l_92 x_99 x_100 ∧ (Pl T_23 T_90) ∧ (n_98 = l_92.length) ∧ (HRs T_90 (f60 w) x_94 l_92) ∧ St w w_ (.cells b_10 (([.int .i64 x_99] : List Value) ++ ([.slice A_96 n_98 c_97] : List Value)) 57 :: .sl A_96 c_97 n_98 x_94 60 3 :: (T_90 ++ R))) (k := k_89) ⟨T_23, A_29, c_30, n_31, x_27, l_25, x_32, 0, rfl, H, Pl.refl, hn_26, hx_28, st_36⟩ (fun _ _ h => by obtain ⟨_, _, _, _, _, _, _, _, _, h, _⟩ := h; exact h.elim) ?_
    rintro kL2 l_103 w_101 ⟨T_90, A_96, c_97, n_98, x_94, l_92, x_99, x_100, rfl, H, hs_91, hn_93, hx_95, st_102⟩
    refine CW.seq ?_
    refine CW.seq ?_
    refine CW.region ?_
    refine WL.val Wanted.none (Runs.move rfl) ?_
    refine WL.val Wanted.none (Runs.move rfl) ?_
    refine WL.val Wanted.none (Runs.lss rfl rfl rfl) ?_
    refine WL.nil ?_
    refine QW.then_n ?_
    rcases H with ⟨c_104, H⟩ | ⟨c_104, H⟩
    · have h_105 : (decide (x_100 < (IntKind.i64.wrap (Int.tmod a1 5)))) = true := (decide_eq_true c_104)
      refine CW.ct rfl h_105 ?_
      refine CW.skip ?_
      refine QW.then_n ?_
      refine CW.seq ?_
      refine CW.block ?_
      refine CW.region ?_
      refine WL.val Wanted.none (Runs.move rfl) ?_
      have st_106 : St w w_101 (.cells b_10 (([.int .i64 x_99] : List Value) ++ ([.slice A_96 n_98 c_97] : List Value)) 57 :: .sl A_96 c_97 n_98 x_94 60 3 :: (T_90 ++ (R))) := St.hide (A := [_, _]) (B := []) (T := T_90) (R := R) st_102
      obtain ⟨a_110_0, l_114_1, a_119, hr_107, H⟩ := H
      refine WL.call Wanted.none ent16 rfl (buffers_Cache_Pin.calls w w_101 T_90 (R) x_99 l_92 0 b_10 A_96 n_98 c_97 x_94  st_106 (hn_93) hx_95 a_110_0 l_114_1 a_119 hr_107) ?_
      rintro _ w_120 ⟨T_108, A_111_1, n_112_1, c_113_1, x_115_1, hs_109, hn_116_1, hx_117_1, rfl, sc_122⟩
      have st_121 : St w w_120 (.cells b_10 (([.int .i64 a_110_0] : List Value) ++ ([.slice A_111_1 n_112_1 c_113_1] : List Value)) 57 :: .sl A_111_1 c_113_1 n_112_1 x_115_1 60 3 :: (T_108 ++ R)) := St.unhide (A := [_, _]) (B := []) (T := T_108) (R := R) sc_122
      refine ⟨_, rfl, ?_⟩
      refine WL.nil ?_
      refine QW.blk_n ?_
      refine QW.then_n ?_
      refine CW.region ?_
      refine WL.val Wanted.none (Runs.move rfl) ?_
      refine WL.val Wanted.none (Runs.add rfl rfl rfl) ?_
      refine WL.val Wanted.none (Runs.assign rfl) ?_
      refine WL.nil ?_
      exact QW.at [(4, .bool b_33), (7, .pointer (some ⟨b_10, 0, none⟩)), (9, .int .i64 (IntKind.i64.wrap (Int.tmod a1 5))), (10, .int .i64 (IntKind.i64.wrap (x_100 + 1)))] ⟨rfl, rfl, rfl, rfl, trivial⟩ ⟨T_108, A_111_1, c_113_1, n_112_1, x_115_1, l_114_1, a_110_0, IntKind.i64.wrap (x_100 + 1), rfl, H, (hs_91.trans hs_109), hn_116_1, hx_117_1, st_121⟩
    · have h_105 : (decide (x_100 < (IntKind.i64.wrap (Int.tmod a1 5)))) = false := (decide_eq_false c_104)
      refine CW.cf rfl h_105 ?_
      refine CW.exit ?_
      refine QW.then_x ?_
      refine QW.then_x ?_
      refine QW.blk_x ?_
      refine QW.then_n ?_
      refine CW.seq ?_
      refine CW.region ?_
      refine WL.val Wanted.none (Runs.move rfl) ?_
      obtain ⟨r_127, hr_123, H⟩ := H
      refine WL.call Wanted.none ent9 rfl (reliquarylaw15_full.calls w_101 ([] : List Int) false none 0 0 (((HB.nil : HB w T_90 none 0 0 (iv .u8 ([] : List Int)) 0).2.2.at st_102 (mem_T (A := [_, _]) (fun _ h_ => h_)))) ((HB.nil : HB w T_90 none 0 0 (iv .u8 ([] : List Int)) 0).1) ((HB.nil : HB w T_90 none 0 0 (iv .u8 ([] : List Int)) 0).2.1) r_127 hr_123) ?_
      rintro _ w_124 ⟨A_128, c_129, n_130, hn_131, rfl, sc_126⟩
      have st_125 : St w w_124 (.sl A_128 c_129 n_130 (iv .u8 r_127) 5 1 :: .cells b_10 (([.int .i64 x_99] : List Value) ++ ([.slice A_96 n_98 c_97] : List Value)) 57 :: .sl A_96 c_97 n_98 x_94 60 3 :: (T_90 ++ R)) := st_102.call sc_126
      refine ⟨_, rfl, ?_⟩
      have st_133 := (St.pickT (L := [_, _, _]) st_125 [1, 2, 0] (by decide))
      replace st_133 : St w w_124 (.cells b_10 (([.int .i64 x_99] : List Value) ++ ([.slice A_96 n_98 c_97] : List Value)) 57 :: .sl A_96 c_97 n_98 x_94 60 3 :: .sl A_128 c_129 n_130 (iv .u8 r_127) 5 1 :: (T_90 ++ R)) := st_133
      have st_134 : St w w_124 (.cells b_10 (([.int .i64 x_99] : List Value) ++ ([.slice A_96 n_98 c_97] : List Value)) 57 :: .sl A_96 c_97 n_98 x_94 60 3 :: (T_90 ++ (.sl A_128 c_129 n_130 (iv .u8 r_127) 5 1 :: R))) := St.hide (A := [_, _]) (B := [_]) (T := T_90) (R := R) st_133
      obtain ⟨a_138_0, l_142_1, a_147, hr_135, H⟩ := H
      refine WL.call Wanted.none ent11 rfl (buffers_Cache_Put.calls w w_124 T_90 (.sl A_128 c_129 n_130 (iv .u8 r_127) 5 1 :: R) x_99 l_92 99 r_127 b_10 A_96 n_98 c_97 x_94 A_128 n_130 c_129 (hs_91.2 (hs_24.2 (hs_8.2 hT))) (show celly (.sl A_128 c_129 n_130 (iv .u8 r_127) 5 1 :: R) = true from hR) st_134 (hn_93) hx_95 ⟨hn_131, st_133.cap (i := 2) rfl, fun W_ L_ st hT => st.src_mem (hT _ (List.mem_append_right _ (List.mem_of_getElem? (i := 0) rfl)))⟩ a_138_0 l_142_1 a_147 hr_135) ?_
      rintro _ w_148 ⟨T_136, A_139_1, n_140_1, c_141_1, x_143_1, hs_137, hn_144_1, hx_145_1, rfl, sc_150⟩
      have st_149 : St w w_148 (.cells b_10 (([.int .i64 a_138_0] : List Value) ++ ([.slice A_139_1 n_140_1 c_141_1] : List Value)) 57 :: .sl A_139_1 c_141_1 n_140_1 x_143_1 60 3 :: .sl A_128 c_129 n_130 (iv .u8 r_127) 5 1 :: (T_136 ++ R)) := St.unhide (A := [_, _]) (B := [_]) (T := T_136) (R := R) sc_150
      refine ⟨_, rfl, ?_⟩
      refine WL.val Wanted.none (Runs.assign rfl) ?_
      refine WL.nil ?_
      refine QW.then_n ?_
      refine CW.sub [(4, .bool b_33), (7, .pointer (some ⟨b_10, 0, none⟩)), (9, .int .i64 (IntKind.i64.wrap (Int.tmod a1 5))), (11, .int .i64 a_147)] ⟨rfl, rfl, rfl, rfl, trivial⟩ ?_
      refine CW.seq ?_
      refine CW.seq ?_
      refine CW.region ?_
      refine WL.val Wanted.none (Runs.assign rfl) ?_
      refine WL.nil ?_
      refine QW.then_n ?_
      refine CW.block ?_
      obtain ⟨k_151, H⟩ := H
      refine CW.sub [(4, .bool b_33), (7, .pointer (some ⟨b_10, 0, none⟩)), (9, .int .i64 (IntKind.i64.wrap (Int.tmod a1 5))), (11, .int .i64 a_147), (12, .int .i64 0)] ⟨rfl, rfl, rfl, rfl, rfl, trivial⟩ ?_
      refine CW.loop (fun kL3 l_ w_ => ∃ (T_152 : Pool) (A_158 : Option Addr) (c_159 : Nat) (n_160 : Nat) (x_156 : Cells) (l_154 : List R60) (x_161 : Int) (b_162 : Bool) (x_163 : Int), l_ = [(4, .bool b_162), (7, .pointer (some ⟨b_10, 0, none⟩)), (9, .int .i64 (IntKind.i64.wrap (Int.tmod a1 5))), (11, .int .i64 a_147), (12, .int .i64 x_163)] ∧ reliquarylaw15_BuffersPins.L3 a1 a_147 kL3 l_154 x_161 b_162 x_163 ∧ (Pl T_136 T_152) ∧ (n_160 = l_154.length) ∧ (HRs T_152 (f60 w) x_156 l_154) ∧ St w w_ (.cells b_10 (([.int .i64 x_161] : List Value) ++ ([.slice A_158 n_160 c_159] : List Value)) 57 :: .sl A_158 c_159 n_160 x_156 60 3 :: .sl A_128 c_129 n_130 (iv .u8 r_127) 5 1 :: (T_152 ++ R))) (k := k_151) ⟨T_136, A_139_1, c_141_1, n_140_1, x_143_1, l_142_1, a_138_0, b_33, 0, rfl, H, Pl.refl, hn_144_1, hx_145_1, st_149⟩ (fun _ _ h => by obtain ⟨_, _, _, _, _, _, _, _, _, _, h, _⟩ := h; exact h.elim) ?_
      rintro kL3 l_166 w_164 ⟨T_152, A_158, c_159, n_160, x_156, l_154, x_161, b_162, x_163, rfl, H, hs_153, hn_155, hx_157, st_165⟩
      refine CW.seq ?_
      refine CW.seq ?_
      refine CW.region ?_
      refine WL.val Wanted.none (Runs.move rfl) ?_
      refine WL.val Wanted.none (Runs.move rfl) ?_
      refine WL.val Wanted.none (Runs.lss rfl rfl rfl) ?_
      refine WL.nil ?_
      refine QW.then_n ?_
      rcases H with ⟨c_167, H⟩ | ⟨c_167, H⟩
      · have h_168 : (decide (x_163 < (IntKind.i64.wrap (Int.tmod a1 5)))) = true := (decide_eq_true c_167)
        refine CW.ct rfl h_168 ?_
        refine CW.skip ?_
        refine QW.then_n ?_
        refine CW.seq ?_
        refine CW.block ?_
        refine CW.seq ?_
        refine CW.region ?_
        refine WL.val Wanted.none (Runs.move rfl) ?_
        have st_169 : St w w_164 (.cells b_10 (([.int .i64 x_161] : List Value) ++ ([.slice A_158 n_160 c_159] : List Value)) 57 :: .sl A_158 c_159 n_160 x_156 60 3 :: (T_152 ++ (.sl A_128 c_129 n_130 (iv .u8 r_127) 5 1 :: R))) := St.hide (A := [_, _]) (B := [_]) (T := T_152) (R := R) st_165
        obtain ⟨a_173_0, l_177_1, a_182, hr_170, H⟩ := H
        refine WL.call Wanted.none ent18 rfl (buffers_Cache_Unpin.calls w w_164 T_152 (.sl A_128 c_129 n_130 (iv .u8 r_127) 5 1 :: R) x_161 l_154 0 b_10 A_158 n_160 c_159 x_156  st_169 (hn_155) hx_157 a_173_0 l_177_1 a_182 hr_170) ?_
        rintro _ w_183 ⟨T_171, A_174_1, n_175_1, c_176_1, x_178_1, hs_172, hn_179_1, hx_180_1, rfl, sc_185⟩
        have st_184 : St w w_183 (.cells b_10 (([.int .i64 a_173_0] : List Value) ++ ([.slice A_174_1 n_175_1 c_176_1] : List Value)) 57 :: .sl A_174_1 c_176_1 n_175_1 x_178_1 60 3 :: .sl A_128 c_129 n_130 (iv .u8 r_127) 5 1 :: (T_171 ++ R)) := St.unhide (A := [_, _]) (B := [_]) (T := T_171) (R := R) sc_185
        refine ⟨_, rfl, ?_⟩
        refine WL.val Wanted.none (Runs.not rfl rfl) ?_
        refine WL.val Wanted.none (Runs.move rfl) ?_
        obtain ⟨c_186, H⟩ := H
        have h_187 : (!a_182) = false := (not_f (Decidable.not_not.mp c_186))
        refine WL.on ?_ ?_; exact Wanted.guard (dj := 67) (by rfl) (evb (by rfl) h_187) (by rfl)
        refine WL.val Wanted.none (Runs.move rfl) ?_
        refine WL.on ?_ ?_; exact Wanted.guard (dj := 67) (by rfl) (evb (by rfl) h_187) (by rfl)
        have st_188 : St w w_183 (.cells b_10 (([.int .i64 a_173_0] : List Value) ++ ([.slice A_174_1 n_175_1 c_176_1] : List Value)) 57 :: .sl A_174_1 c_176_1 n_175_1 x_178_1 60 3 :: (T_171 ++ (.sl A_128 c_129 n_130 (iv .u8 r_127) 5 1 :: R))) := St.hide (A := [_, _]) (B := [_]) (T := T_171) (R := R) st_184
        obtain ⟨a_192_0, l_196_1, a_201, hr_189, H⟩ := H
        refine WL.call Wanted.none ent19 rfl (buffers_Cache_Drop.calls w w_183 T_171 (.sl A_128 c_129 n_130 (iv .u8 r_127) 5 1 :: R) a_173_0 l_177_1 0 b_10 A_174_1 n_175_1 c_176_1 x_178_1  st_188 (hn_179_1) hx_180_1 a_192_0 l_196_1 a_201 hr_189) ?_
        rintro _ w_202 ⟨T_190, A_193_1, n_194_1, c_195_1, x_197_1, hs_191, hn_198_1, hx_199_1, rfl, sc_204⟩
        have st_203 : St w w_202 (.cells b_10 (([.int .i64 a_192_0] : List Value) ++ ([.slice A_193_1 n_194_1 c_195_1] : List Value)) 57 :: .sl A_193_1 c_195_1 n_194_1 x_197_1 60 3 :: .sl A_128 c_129 n_130 (iv .u8 r_127) 5 1 :: (T_190 ++ R)) := St.unhide (A := [_, _]) (B := [_]) (T := T_190) (R := R) sc_204
        refine ⟨_, rfl, ?_⟩
        refine WL.val Wanted.none (Runs.pick_f (evb rfl h_187) rfl) ?_
        refine WL.nil ?_
        refine QW.then_n ?_
        obtain ⟨c_205, H⟩ := H
        have h_206 : a_201 = false := (Bool.eq_false_iff.mpr c_205)
        refine CW.cf rfl h_206 ?_
        refine CW.skip ?_
        refine QW.blk_n ?_
        refine QW.then_n ?_
        refine CW.region ?_
        refine WL.val Wanted.none (Runs.move rfl) ?_
        refine WL.val Wanted.none (Runs.add rfl rfl rfl) ?_
        refine WL.val Wanted.none (Runs.assign rfl) ?_
        refine WL.nil ?_
        exact QW.at [(4, .bool b_162), (7, .pointer (some ⟨b_10, 0, none⟩)), (9, .int .i64 (IntKind.i64.wrap (Int.tmod a1 5))), (11, .int .i64 a_147), (12, .int .i64 (IntKind.i64.wrap (x_163 + 1)))] ⟨rfl, rfl, rfl, rfl, rfl, trivial⟩ ⟨T_190, A_193_1, c_195_1, n_194_1, x_197_1, l_196_1, a_192_0, b_162, IntKind.i64.wrap (x_163 + 1), rfl, H, ((hs_153.trans hs_172).trans hs_191), hn_198_1, hx_199_1, st_203⟩
      · have h_168 : (decide (x_163 < (IntKind.i64.wrap (Int.tmod a1 5)))) = false := (decide_eq_false c_167)
        refine CW.cf rfl h_168 ?_
        refine CW.exit ?_
        refine QW.then_x ?_
        refine QW.then_x ?_
        refine QW.blk_x ?_
        refine QW.then_n ?_
        refine CW.seq ?_
        refine CW.region ?_
        refine WL.val Wanted.none (Runs.move rfl) ?_
        obtain ⟨r_211, hr_207, H⟩ := H
        refine WL.call Wanted.none ent9 rfl (reliquarylaw15_full.calls w_164 ([] : List Int) false none 0 0 (((HB.nil : HB w T_152 none 0 0 (iv .u8 ([] : List Int)) 0).2.2.at st_165 (mem_T (A := [_, _, _]) (fun _ h_ => h_)))) ((HB.nil : HB w T_152 none 0 0 (iv .u8 ([] : List Int)) 0).1) ((HB.nil : HB w T_152 none 0 0 (iv .u8 ([] : List Int)) 0).2.1) r_211 hr_207) ?_
        rintro _ w_208 ⟨A_212, c_213, n_214, hn_215, rfl, sc_210⟩
        have st_209 : St w w_208 (.sl A_212 c_213 n_214 (iv .u8 r_211) 5 1 :: .cells b_10 (([.int .i64 x_161] : List Value) ++ ([.slice A_158 n_160 c_159] : List Value)) 57 :: .sl A_158 c_159 n_160 x_156 60 3 :: .sl A_128 c_129 n_130 (iv .u8 r_127) 5 1 :: (T_152 ++ R)) := st_165.call sc_210
        refine ⟨_, rfl, ?_⟩
        have st_217 := (St.pickT (L := [_, _, _, _]) st_209 [1, 2, 0, 3] (by decide))
        replace st_217 : St w w_208 (.cells b_10 (([.int .i64 x_161] : List Value) ++ ([.slice A_158 n_160 c_159] : List Value)) 57 :: .sl A_158 c_159 n_160 x_156 60 3 :: .sl A_212 c_213 n_214 (iv .u8 r_211) 5 1 :: .sl A_128 c_129 n_130 (iv .u8 r_127) 5 1 :: (T_152 ++ R)) := st_217
        have st_218 : St w w_208 (.cells b_10 (([.int .i64 x_161] : List Value) ++ ([.slice A_158 n_160 c_159] : List Value)) 57 :: .sl A_158 c_159 n_160 x_156 60 3 :: (T_152 ++ (.sl A_212 c_213 n_214 (iv .u8 r_211) 5 1 :: .sl A_128 c_129 n_130 (iv .u8 r_127) 5 1 :: R))) := St.hide (A := [_, _]) (B := [_, _]) (T := T_152) (R := R) st_217
        obtain ⟨a_222_0, l_226_1, a_231, hr_219, H⟩ := H
        refine WL.call Wanted.none ent11 rfl (buffers_Cache_Put.calls w w_208 T_152 (.sl A_212 c_213 n_214 (iv .u8 r_211) 5 1 :: .sl A_128 c_129 n_130 (iv .u8 r_127) 5 1 :: R) x_161 l_154 99 r_211 b_10 A_158 n_160 c_159 x_156 A_212 n_214 c_213 (hs_153.2 (hs_137.2 (hs_91.2 (hs_24.2 (hs_8.2 hT))))) (show celly (.sl A_212 c_213 n_214 (iv .u8 r_211) 5 1 :: .sl A_128 c_129 n_130 (iv .u8 r_127) 5 1 :: R) = true from hR) st_218 (hn_155) hx_157 ⟨hn_215, st_217.cap (i := 2) rfl, fun W_ L_ st hT => st.src_mem (hT _ (List.mem_append_right _ (List.mem_of_getElem? (i := 0) rfl)))⟩ a_222_0 l_226_1 a_231 hr_219) ?_
        rintro _ w_232 ⟨T_220, A_223_1, n_224_1, c_225_1, x_227_1, hs_221, hn_228_1, hx_229_1, rfl, sc_234⟩
        have st_233 : St w w_232 (.cells b_10 (([.int .i64 a_222_0] : List Value) ++ ([.slice A_223_1 n_224_1 c_225_1] : List Value)) 57 :: .sl A_223_1 c_225_1 n_224_1 x_227_1 60 3 :: .sl A_212 c_213 n_214 (iv .u8 r_211) 5 1 :: .sl A_128 c_129 n_130 (iv .u8 r_127) 5 1 :: (T_220 ++ R)) := St.unhide (A := [_, _]) (B := [_, _]) (T := T_220) (R := R) sc_234
        refine ⟨_, rfl, ?_⟩
        refine WL.val Wanted.none (Runs.assign rfl) ?_
        refine WL.nil ?_
        refine QW.then_n ?_
        refine CW.sub [(4, .bool b_162), (7, .pointer (some ⟨b_10, 0, none⟩)), (11, .int .i64 a_147), (13, .int .i64 a_231)] ⟨rfl, rfl, rfl, rfl, trivial⟩ ?_
        refine CW.seq ?_
        refine CW.region ?_
        refine WL.val Wanted.none (Runs.move rfl) ?_
        have st_235 : St w w_232 (.cells b_10 (([.int .i64 a_222_0] : List Value) ++ ([.slice A_223_1 n_224_1 c_225_1] : List Value)) 57 :: .sl A_223_1 c_225_1 n_224_1 x_227_1 60 3 :: (T_220 ++ (.sl A_212 c_213 n_214 (iv .u8 r_211) 5 1 :: .sl A_128 c_129 n_130 (iv .u8 r_127) 5 1 :: R))) := St.hide (A := [_, _]) (B := [_, _]) (T := T_220) (R := R) st_233
        obtain ⟨a_239_0, l_243_1, a_248, hr_236, H⟩ := H
        refine WL.call Wanted.none ent18 rfl (buffers_Cache_Unpin.calls w w_232 T_220 (.sl A_212 c_213 n_214 (iv .u8 r_211) 5 1 :: .sl A_128 c_129 n_130 (iv .u8 r_127) 5 1 :: R) a_222_0 l_226_1 0 b_10 A_223_1 n_224_1 c_225_1 x_227_1  st_235 (hn_228_1) hx_229_1 a_239_0 l_243_1 a_248 hr_236) ?_
        rintro _ w_249 ⟨T_237, A_240_1, n_241_1, c_242_1, x_244_1, hs_238, hn_245_1, hx_246_1, rfl, sc_251⟩
        have st_250 : St w w_249 (.cells b_10 (([.int .i64 a_239_0] : List Value) ++ ([.slice A_240_1 n_241_1 c_242_1] : List Value)) 57 :: .sl A_240_1 c_242_1 n_241_1 x_244_1 60 3 :: .sl A_212 c_213 n_214 (iv .u8 r_211) 5 1 :: .sl A_128 c_129 n_130 (iv .u8 r_127) 5 1 :: (T_237 ++ R)) := St.unhide (A := [_, _]) (B := [_, _]) (T := T_237) (R := R) sc_251
        refine ⟨_, rfl, ?_⟩
        refine WL.val Wanted.none (Runs.assign rfl) ?_
        refine WL.nil ?_
        refine QW.then_n ?_
        refine CW.seq ?_
        refine CW.region ?_
        refine WL.val Wanted.none (Runs.move rfl) ?_
        have st_252 : St w w_249 (.cells b_10 (([.int .i64 a_239_0] : List Value) ++ ([.slice A_240_1 n_241_1 c_242_1] : List Value)) 57 :: .sl A_240_1 c_242_1 n_241_1 x_244_1 60 3 :: (T_237 ++ (.sl A_212 c_213 n_214 (iv .u8 r_211) 5 1 :: .sl A_128 c_129 n_130 (iv .u8 r_127) 5 1 :: R))) := St.hide (A := [_, _]) (B := [_, _]) (T := T_237) (R := R) st_250
        obtain ⟨a_256_0, l_260_1, a_265, hr_253, H⟩ := H
        refine WL.call Wanted.none ent18 rfl (buffers_Cache_Unpin.calls w w_249 T_237 (.sl A_212 c_213 n_214 (iv .u8 r_211) 5 1 :: .sl A_128 c_129 n_130 (iv .u8 r_127) 5 1 :: R) a_239_0 l_243_1 0 b_10 A_240_1 n_241_1 c_242_1 x_244_1  st_252 (hn_245_1) hx_246_1 a_256_0 l_260_1 a_265 hr_253) ?_
        rintro _ w_266 ⟨T_254, A_257_1, n_258_1, c_259_1, x_261_1, hs_255, hn_262_1, hx_263_1, rfl, sc_268⟩
        have st_267 : St w w_266 (.cells b_10 (([.int .i64 a_256_0] : List Value) ++ ([.slice A_257_1 n_258_1 c_259_1] : List Value)) 57 :: .sl A_257_1 c_259_1 n_258_1 x_261_1 60 3 :: .sl A_212 c_213 n_214 (iv .u8 r_211) 5 1 :: .sl A_128 c_129 n_130 (iv .u8 r_127) 5 1 :: (T_254 ++ R)) := St.unhide (A := [_, _]) (B := [_, _]) (T := T_254) (R := R) sc_268
        refine ⟨_, rfl, ?_⟩
        refine WL.val Wanted.none (Runs.assign rfl) ?_
        refine WL.nil ?_
        refine QW.then_n ?_
        refine CW.seq ?_
        refine CW.region ?_
        refine WL.val Wanted.none (Runs.move rfl) ?_
        obtain ⟨r_273, hr_269, H⟩ := H
        refine WL.call Wanted.none ent9 rfl (reliquarylaw15_full.calls w_266 ([] : List Int) false none 0 0 (((HB.nil : HB w T_254 none 0 0 (iv .u8 ([] : List Int)) 0).2.2.at st_267 (mem_T (A := [_, _, _, _]) (fun _ h_ => h_)))) ((HB.nil : HB w T_254 none 0 0 (iv .u8 ([] : List Int)) 0).1) ((HB.nil : HB w T_254 none 0 0 (iv .u8 ([] : List Int)) 0).2.1) r_273 hr_269) ?_
        rintro _ w_270 ⟨A_274, c_275, n_276, hn_277, rfl, sc_272⟩
        have st_271 : St w w_270 (.sl A_274 c_275 n_276 (iv .u8 r_273) 5 1 :: .cells b_10 (([.int .i64 a_256_0] : List Value) ++ ([.slice A_257_1 n_258_1 c_259_1] : List Value)) 57 :: .sl A_257_1 c_259_1 n_258_1 x_261_1 60 3 :: .sl A_212 c_213 n_214 (iv .u8 r_211) 5 1 :: .sl A_128 c_129 n_130 (iv .u8 r_127) 5 1 :: (T_254 ++ R)) := st_267.call sc_272
        refine ⟨_, rfl, ?_⟩
        have st_279 := (St.pickT (L := [_, _, _, _, _]) st_271 [1, 2, 0, 3, 4] (by decide))
        replace st_279 : St w w_270 (.cells b_10 (([.int .i64 a_256_0] : List Value) ++ ([.slice A_257_1 n_258_1 c_259_1] : List Value)) 57 :: .sl A_257_1 c_259_1 n_258_1 x_261_1 60 3 :: .sl A_274 c_275 n_276 (iv .u8 r_273) 5 1 :: .sl A_212 c_213 n_214 (iv .u8 r_211) 5 1 :: .sl A_128 c_129 n_130 (iv .u8 r_127) 5 1 :: (T_254 ++ R)) := st_279
        have st_280 : St w w_270 (.cells b_10 (([.int .i64 a_256_0] : List Value) ++ ([.slice A_257_1 n_258_1 c_259_1] : List Value)) 57 :: .sl A_257_1 c_259_1 n_258_1 x_261_1 60 3 :: (T_254 ++ (.sl A_274 c_275 n_276 (iv .u8 r_273) 5 1 :: .sl A_212 c_213 n_214 (iv .u8 r_211) 5 1 :: .sl A_128 c_129 n_130 (iv .u8 r_127) 5 1 :: R))) := St.hide (A := [_, _]) (B := [_, _, _]) (T := T_254) (R := R) st_279
        obtain ⟨a_284_0, l_288_1, a_293, hr_281, H⟩ := H
        refine WL.call Wanted.none ent11 rfl (buffers_Cache_Put.calls w w_270 T_254 (.sl A_274 c_275 n_276 (iv .u8 r_273) 5 1 :: .sl A_212 c_213 n_214 (iv .u8 r_211) 5 1 :: .sl A_128 c_129 n_130 (iv .u8 r_127) 5 1 :: R) a_256_0 l_260_1 99 r_273 b_10 A_257_1 n_258_1 c_259_1 x_261_1 A_274 n_276 c_275 (hs_255.2 (hs_238.2 (hs_221.2 (hs_153.2 (hs_137.2 (hs_91.2 (hs_24.2 (hs_8.2 hT)))))))) (show celly (.sl A_274 c_275 n_276 (iv .u8 r_273) 5 1 :: .sl A_212 c_213 n_214 (iv .u8 r_211) 5 1 :: .sl A_128 c_129 n_130 (iv .u8 r_127) 5 1 :: R) = true from hR) st_280 (hn_262_1) hx_263_1 ⟨hn_277, st_279.cap (i := 2) rfl, fun W_ L_ st hT => st.src_mem (hT _ (List.mem_append_right _ (List.mem_of_getElem? (i := 0) rfl)))⟩ a_284_0 l_288_1 a_293 hr_281) ?_
        rintro _ w_294 ⟨T_282, A_285_1, n_286_1, c_287_1, x_289_1, hs_283, hn_290_1, hx_291_1, rfl, sc_296⟩
        have st_295 : St w w_294 (.cells b_10 (([.int .i64 a_284_0] : List Value) ++ ([.slice A_285_1 n_286_1 c_287_1] : List Value)) 57 :: .sl A_285_1 c_287_1 n_286_1 x_289_1 60 3 :: .sl A_274 c_275 n_276 (iv .u8 r_273) 5 1 :: .sl A_212 c_213 n_214 (iv .u8 r_211) 5 1 :: .sl A_128 c_129 n_130 (iv .u8 r_127) 5 1 :: (T_282 ++ R)) := St.unhide (A := [_, _]) (B := [_, _, _]) (T := T_282) (R := R) sc_296
        refine ⟨_, rfl, ?_⟩
        refine WL.val Wanted.none (Runs.assign rfl) ?_
        refine WL.nil ?_
        refine QW.then_n ?_
        refine CW.sub [(4, .bool b_162), (7, .pointer (some ⟨b_10, 0, none⟩)), (11, .int .i64 a_147), (13, .int .i64 a_231), (14, .bool a_248), (15, .bool a_265), (16, .int .i64 a_293)] ⟨rfl, rfl, rfl, rfl, rfl, rfl, rfl, trivial⟩ ?_
        refine CW.seq ?_
        refine CW.region ?_
        refine WL.val Wanted.none (Runs.move rfl) ?_
        have st_297 : St w w_294 (.cells b_10 (([.int .i64 a_284_0] : List Value) ++ ([.slice A_285_1 n_286_1 c_287_1] : List Value)) 57 :: .sl A_285_1 c_287_1 n_286_1 x_289_1 60 3 :: (T_282 ++ (.sl A_274 c_275 n_276 (iv .u8 r_273) 5 1 :: .sl A_212 c_213 n_214 (iv .u8 r_211) 5 1 :: .sl A_128 c_129 n_130 (iv .u8 r_127) 5 1 :: R))) := St.hide (A := [_, _]) (B := [_, _, _]) (T := T_282) (R := R) st_295
        obtain ⟨a_301_0, l_305_1, l_313, a_317, hr_298, H⟩ := H
        refine WL.call Wanted.none ent12 rfl (buffers_Cache_Get.calls w w_294 T_282 (.sl A_274 c_275 n_276 (iv .u8 r_273) 5 1 :: .sl A_212 c_213 n_214 (iv .u8 r_211) 5 1 :: .sl A_128 c_129 n_130 (iv .u8 r_127) 5 1 :: R) a_284_0 l_288_1 0 b_10 A_285_1 n_286_1 c_287_1 x_289_1  st_297 (hn_290_1) hx_291_1 a_301_0 l_305_1 l_313 a_317 hr_298) ?_
        rintro _ w_318 ⟨T_299, A_302_1, n_303_1, c_304_1, x_306_1, A_310, n_311, c_312, hs_300, hn_307_1, hx_308_1, hn_315, rfl, sc_320⟩
        have st_319 : St w w_318 (.cells b_10 (([.int .i64 a_301_0] : List Value) ++ ([.slice A_302_1 n_303_1 c_304_1] : List Value)) 57 :: .sl A_302_1 c_304_1 n_303_1 x_306_1 60 3 :: .sl A_310 c_312 n_311 (iv .u8 l_313) 5 1 :: .sl A_274 c_275 n_276 (iv .u8 r_273) 5 1 :: .sl A_212 c_213 n_214 (iv .u8 r_211) 5 1 :: .sl A_128 c_129 n_130 (iv .u8 r_127) 5 1 :: (T_299 ++ R)) := St.unhide (A := [_, _, _]) (B := [_, _, _]) (T := T_299) (R := R) sc_320
        refine ⟨_, rfl, ?_⟩
        refine WL.val Wanted.none (Runs.move rfl) ?_
        refine WL.val Wanted.none (Runs.extract rfl rfl) ?_
        refine WL.val Wanted.none (Runs.extract rfl rfl) ?_
        refine WL.val Wanted.none (Runs.assign rfl) ?_
        refine WL.val Wanted.none (Runs.assign rfl) ?_
        refine WL.nil ?_
        refine QW.then_n ?_
        refine CW.sub [(4, .bool b_162), (7, .pointer (some ⟨b_10, 0, none⟩)), (11, .int .i64 a_147), (13, .int .i64 a_231), (14, .bool a_248), (15, .bool a_265), (16, .int .i64 a_293), (18, .bool a_317)] ⟨rfl, rfl, rfl, rfl, rfl, rfl, rfl, rfl, trivial⟩ ?_
        refine CW.seq ?_
        refine CW.region ?_
        refine WL.val Wanted.none (Runs.move rfl) ?_
        have st_321 : St w w_318 (.cells b_10 (([.int .i64 a_301_0] : List Value) ++ ([.slice A_302_1 n_303_1 c_304_1] : List Value)) 57 :: .sl A_302_1 c_304_1 n_303_1 x_306_1 60 3 :: (T_299 ++ (.sl A_310 c_312 n_311 (iv .u8 l_313) 5 1 :: .sl A_274 c_275 n_276 (iv .u8 r_273) 5 1 :: .sl A_212 c_213 n_214 (iv .u8 r_211) 5 1 :: .sl A_128 c_129 n_130 (iv .u8 r_127) 5 1 :: R))) := St.hide (A := [_, _]) (B := [_, _, _, _]) (T := T_299) (R := R) st_319
        obtain ⟨a_325_0, l_329_1, hr_322, H⟩ := H
        refine WL.call Wanted.none ent21 rfl (buffers_Cache_Clear.calls w w_318 T_299 (.sl A_310 c_312 n_311 (iv .u8 l_313) 5 1 :: .sl A_274 c_275 n_276 (iv .u8 r_273) 5 1 :: .sl A_212 c_213 n_214 (iv .u8 r_211) 5 1 :: .sl A_128 c_129 n_130 (iv .u8 r_127) 5 1 :: R) a_301_0 l_305_1 b_10 A_302_1 n_303_1 c_304_1 x_306_1  st_321 (hn_307_1) hx_308_1 a_325_0 l_329_1 hr_322) ?_
        rintro _ w_333 ⟨T_323, A_326_1, n_327_1, c_328_1, x_330_1, hs_324, hn_331_1, hx_332_1, rfl, sc_335⟩
        have st_334 : St w w_333 (.cells b_10 (([.int .i64 a_325_0] : List Value) ++ ([.slice A_326_1 n_327_1 c_328_1] : List Value)) 57 :: .sl A_326_1 c_328_1 n_327_1 x_330_1 60 3 :: .sl A_310 c_312 n_311 (iv .u8 l_313) 5 1 :: .sl A_274 c_275 n_276 (iv .u8 r_273) 5 1 :: .sl A_212 c_213 n_214 (iv .u8 r_211) 5 1 :: .sl A_128 c_129 n_130 (iv .u8 r_127) 5 1 :: (T_323 ++ R)) := St.unhide (A := [_, _]) (B := [_, _, _, _]) (T := T_323) (R := R) sc_335
        refine ⟨_, rfl, ?_⟩
        refine WL.nil ?_
        refine QW.then_n ?_
        refine CW.seq ?_
        refine CW.region ?_
        refine WL.val Wanted.none (Runs.move rfl) ?_
        refine WL.val Wanted.none (Runs.eql rfl rfl rfl) ?_
        refine WL.val Wanted.none (Runs.move rfl) ?_
        obtain ⟨c_336, H⟩ := H
        have h_337 : (a_147 == 17) = true := (beq_iff_eq.mpr c_336)
        refine WL.on ?_ ?_; exact Wanted.guard (dj := 90) (by rfl) (evb (by rfl) h_337) (by rfl)
        refine WL.val Wanted.none (Runs.move rfl) ?_
        refine WL.on ?_ ?_; exact Wanted.guard (dj := 90) (by rfl) (evb (by rfl) h_337) (by rfl)
        refine WL.val Wanted.none (Runs.eql rfl rfl rfl) ?_
        refine WL.val Wanted.none (Runs.pick_t (evb rfl h_337) rfl) ?_
        refine WL.val Wanted.none (Runs.move rfl) ?_
        obtain ⟨c_338, H⟩ := H
        have h_339 : (a_231 == 17) = true := (beq_iff_eq.mpr c_338)
        refine WL.on ?_ ?_; exact Wanted.guard (dj := 94) (by rfl) (evb (by rfl) h_339) (by rfl)
        refine WL.val Wanted.none (Runs.move rfl) ?_
        refine WL.val Wanted.none (Runs.pick_t (evb rfl h_339) rfl) ?_
        refine WL.val Wanted.none (Runs.move rfl) ?_
        obtain ⟨c_340, H⟩ := H
        have h_341 : a_248 = true := c_340
        refine WL.on ?_ ?_; exact Wanted.guard (dj := 97) (by rfl) (evb (by rfl) h_341) (by rfl)
        refine WL.val Wanted.none (Runs.move rfl) ?_
        refine WL.on ?_ ?_; exact Wanted.guard (dj := 97) (by rfl) (evb (by rfl) h_341) (by rfl)
        refine WL.val Wanted.none (Runs.not rfl rfl) ?_
        refine WL.val Wanted.none (Runs.pick_t (evb rfl h_341) rfl) ?_
        refine WL.val Wanted.none (Runs.move rfl) ?_
        obtain ⟨c_342, H⟩ := H
        have h_343 : (!a_265) = true := (not_t (Bool.eq_false_iff.mpr c_342))
        refine WL.on ?_ ?_; exact Wanted.guard (dj := 101) (by rfl) (evb (by rfl) h_343) (by rfl)
        refine WL.val Wanted.none (Runs.move rfl) ?_
        refine WL.on ?_ ?_; exact Wanted.guard (dj := 101) (by rfl) (evb (by rfl) h_343) (by rfl)
        refine WL.val Wanted.none (Runs.eql rfl rfl rfl) ?_
        refine WL.val Wanted.none (Runs.pick_t (evb rfl h_343) rfl) ?_
        refine WL.val Wanted.none (Runs.move rfl) ?_
        obtain ⟨c_344, H⟩ := H
        have h_345 : (a_293 == 0) = true := (beq_iff_eq.mpr c_344)
        refine WL.on ?_ ?_; exact Wanted.guard (dj := 105) (by rfl) (evb (by rfl) h_345) (by rfl)
        refine WL.val Wanted.none (Runs.move rfl) ?_
        refine WL.on ?_ ?_; exact Wanted.guard (dj := 105) (by rfl) (evb (by rfl) h_345) (by rfl)
        refine WL.val Wanted.none (Runs.not rfl rfl) ?_
        refine WL.val Wanted.none (Runs.pick_t (evb rfl h_345) rfl) ?_
        refine WL.val Wanted.none (Runs.move rfl) ?_
        obtain ⟨c_346, H⟩ := H
        have h_347 : (!a_317) = true := (not_t (Bool.eq_false_iff.mpr c_346))
        refine WL.on ?_ ?_; exact Wanted.guard (dj := 109) (by rfl) (evb (by rfl) h_347) (by rfl)
        refine WL.val Wanted.none (Runs.move rfl) ?_
        refine WL.on ?_ ?_; exact Wanted.guard (dj := 109) (by rfl) (evb (by rfl) h_347) (by rfl)
        have st_348 : St w w_333 (.cells b_10 (([.int .i64 a_325_0] : List Value) ++ ([.slice A_326_1 n_327_1 c_328_1] : List Value)) 57 :: .sl A_326_1 c_328_1 n_327_1 x_330_1 60 3 :: (T_323 ++ (.sl A_310 c_312 n_311 (iv .u8 l_313) 5 1 :: .sl A_274 c_275 n_276 (iv .u8 r_273) 5 1 :: .sl A_212 c_213 n_214 (iv .u8 r_211) 5 1 :: .sl A_128 c_129 n_130 (iv .u8 r_127) 5 1 :: R))) := St.hide (A := [_, _]) (B := [_, _, _, _]) (T := T_323) (R := R) st_334
        obtain ⟨a_352_0, l_356_1, l_364, hr_349, H⟩ := H
        refine WL.call Wanted.none ent13 rfl (buffers_Cache_Blocks.calls w w_333 T_323 (.sl A_310 c_312 n_311 (iv .u8 l_313) 5 1 :: .sl A_274 c_275 n_276 (iv .u8 r_273) 5 1 :: .sl A_212 c_213 n_214 (iv .u8 r_211) 5 1 :: .sl A_128 c_129 n_130 (iv .u8 r_127) 5 1 :: R) a_325_0 l_329_1 b_10 A_326_1 n_327_1 c_328_1 x_330_1  st_348 (hn_331_1) hx_332_1 a_352_0 l_356_1 l_364 hr_349) ?_
        rintro _ w_367 ⟨T_350, A_353_1, n_354_1, c_355_1, x_357_1, A_361, n_362, c_363, hs_351, hn_358_1, hx_359_1, hn_366, rfl, sc_369⟩
        have st_368 : St w w_367 (.cells b_10 (([.int .i64 a_352_0] : List Value) ++ ([.slice A_353_1 n_354_1 c_355_1] : List Value)) 57 :: .sl A_353_1 c_355_1 n_354_1 x_357_1 60 3 :: .sl A_361 c_363 n_362 (iv .u64 l_364) 29 1 :: .sl A_310 c_312 n_311 (iv .u8 l_313) 5 1 :: .sl A_274 c_275 n_276 (iv .u8 r_273) 5 1 :: .sl A_212 c_213 n_214 (iv .u8 r_211) 5 1 :: .sl A_128 c_129 n_130 (iv .u8 r_127) 5 1 :: (T_350 ++ R)) := St.unhide (A := [_, _, _]) (B := [_, _, _, _]) (T := T_350) (R := R) sc_369
        refine ⟨_, rfl, ?_⟩
        refine WL.on ?_ ?_; exact Wanted.guard (dj := 109) (by rfl) (evb (by rfl) h_347) (by rfl)
        refine WL.val Wanted.none (Runs.len_sl Try.underlying33 rfl (by rw [hn_366])) ?_
        refine WL.on ?_ ?_; exact Wanted.guard (dj := 109) (by rfl) (evb (by rfl) h_347) (by rfl)
        refine WL.val Wanted.none (Runs.eql rfl rfl rfl) ?_
        refine WL.val Wanted.none (Runs.pick_t (evb rfl h_347) rfl) ?_
        refine WL.val Wanted.none (Runs.assign rfl) ?_
        refine WL.nil ?_
        refine QW.then_n ?_
        refine CW.sub [(4, .bool ((l_364.length : Int) == 0))] ⟨rfl, trivial⟩ ?_
        refine CW.ret ?_
        have hz : ((l_364.length : Int) == 0) = true := (beq_iff_eq.mpr H)
        exact QW.ret1 rfl (evb rfl hz) ⟨rfl, st_368.ext⟩

end Go.Proofs.Ytjilndiemfhapaa
