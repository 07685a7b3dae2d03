/- Walks: each function computes what its relation says, and a call of it ends so. Printed by a program of this session (wip/gen). -/
import Derived.Test.YtekpnjhacnkgcaaDoorGx3
namespace Go.Proofs.YtekpnjhacnkgcaaDoor
open Go Go.Kr Go.RowKit
set_option linter.unusedVariables false
set_option linter.unusedSimpArgs false
/-! ### reliquarylaw10_TreeNodes: function 3 -/
def reliquarylaw10_TreeNodes.rel (l0_0 : List Int) (a0_1 : Int) (l0_2 : List Int) (a0_3 : Int) (l0_4 : List Int) (a0_5 : Int) (l0_6 : List Int) (a0_7 : Int) (l1 : List Int)  : Prop := (reliquarylaw10_awake.rel  ∧ (((l1.length : Int) > 300 ∧ True) ∨ (¬ ((l1.length : Int) > 300) ∧ (∃ (r_15 : List Int), tree_Put.rel l0_0 a0_1 l0_2 a0_3 l0_4 a0_5 l0_6 a0_7 r_15 ∧ (∃ (r_25 : List Int) (r_27 : Int) (r_28 : List Int) (r_30 : Int) (r_31 : List Int) (r_33 : Int) (r_34 : List Int) (r_36 : Int) (r_37 : Int), tree_Get.rel r_15 r_25 r_27 r_28 r_30 r_31 r_33 r_34 r_36 r_37 ∧ (∃ (r_48 : List Int) (r_50 : Int) (r_51 : List Int) (r_53 : Int) (r_54 : List Int) (r_56 : Int) (r_57 : List Int) (r_59 : Int) (r_60 : Int), tree_Get.rel l1 r_48 r_50 r_51 r_53 r_54 r_56 r_57 r_59 r_60 ∧ (∃ (r_71 : List Int) (r_73 : Int) (r_74 : List Int) (r_76 : Int) (r_77 : List Int) (r_79 : Int) (r_80 : List Int) (r_82 : Int) (r_83 : Int), reliquaryref10_Get.rel l1 r_71 r_73 r_74 r_76 r_77 r_79 r_80 r_82 r_83 ∧ (∃ (r_96 : List Int) (r_98 : Int) (r_99 : List Int) (r_101 : Int) (r_102 : List Int) (r_104 : Int) (r_105 : List Int) (r_107 : Int), reliquarylaw10_refs.rel l0_0 a0_1 l0_2 a0_3 l0_4 a0_5 l0_6 a0_7 r_96 r_98 r_99 r_101 r_102 r_104 r_105 r_107 ∧ (∃ (r_112 : List Int), reliquaryref10_Put.rel r_96 r_98 r_99 r_101 r_102 r_104 r_105 r_107 r_112 ∧ (¬ (¬ ((strOfNums r_15).toList = (strOfNums r_112).toList)) ∧ (¬ (¬ ((((r_25 == l0_0) && ((r_27 == a0_1) && true)) && (((r_28 == l0_2) && ((r_30 == a0_3) && true)) && (((r_31 == l0_4) && ((r_33 == a0_5) && true)) && (((r_34 == l0_6) && ((r_36 == a0_7) && true)) && true)))) = true)) ∧ (¬ (r_37 ≠ 0) ∧ (∃ (r_128 : List Int) (r_130 : Int) (r_131 : List Int) (r_133 : Int) (r_134 : List Int) (r_136 : Int) (r_137 : List Int) (r_139 : Int), reliquarylaw10_refs.rel r_48 r_50 r_51 r_53 r_54 r_56 r_57 r_59 r_128 r_130 r_131 r_133 r_134 r_136 r_137 r_139 ∧ (¬ (¬ ((((r_128 == r_71) && ((r_130 == r_73) && true)) && (((r_131 == r_74) && ((r_133 == r_76) && true)) && (((r_134 == r_77) && ((r_136 == r_79) && true)) && (((r_137 == r_80) && ((r_139 == r_82) && true)) && true)))) = true)) ∧ (¬ (r_60 ≠ r_83) ∧ ((r_60 ≠ 0 ∧ True) ∨ (¬ (r_60 ≠ 0) ∧ (∃ (r_152 : List Int), tree_Put.rel r_48 r_50 r_51 r_53 r_54 r_56 r_57 r_59 r_152 ∧ (strOfNums r_152).toList = (strOfNums l1).toList))))))))))))))))))
set_option maxHeartbeats 4000000 in
set_option maxRecDepth 100000 in
theorem reliquarylaw10_TreeNodes.calls (w : World) (l0_0 : List Int) (a0_1 : Int) (l0_2 : List Int) (a0_3 : Int) (l0_4 : List Int) (a0_5 : Int) (l0_6 : List Int) (a0_7 : Int) (l1 : List Int) (A1 : Option Addr) (n1 : Nat) (c1 : Nat)  (hG0 : Src w (some ⟨0, 0, none⟩) (iv .u32 tab0)) (hl0_0 : l0_0.length = 32) (hl0_2 : l0_2.length = 32) (hl0_4 : l0_4.length = 32) (hl0_6 : l0_6.length = 32) (hs1 : Src w A1 (iv .u8 l1)) (hn1 : n1 = l1.length) (hc1 : n1 ≤ c1)  (H : reliquarylaw10_TreeNodes.rel l0_0 a0_1 l0_2 a0_3 l0_4 a0_5 l0_6 a0_7 l1 ) :
    Calls Tryd.prog 3 #[.agg (iv .u8 l0_0 ++ (([.int .u64 a0_1] : List Value) ++ (iv .u8 l0_2 ++ (([.int .u64 a0_3] : List Value) ++ (iv .u8 l0_4 ++ (([.int .u64 a0_5] : List Value) ++ (iv .u8 l0_6 ++ ([.int .u64 a0_7] : List Value)))))))).toArray, .slice A1 n1 c1] w fun e w' => e = .returned (.bool true) ∧ Below w.heap.size w w' := by
  refine CW.enter Tryd.func3 rfl (n := 73) rfl [.agg (iv .u8 l0_0 ++ (([.int .u64 a0_1] : List Value) ++ (iv .u8 l0_2 ++ (([.int .u64 a0_3] : List Value) ++ (iv .u8 l0_4 ++ (([.int .u64 a0_5] : List Value) ++ (iv .u8 l0_6 ++ ([.int .u64 a0_7] : List Value)))))))).toArray, .slice A1 n1 c1] (Nat.le_of_ble_eq_true rfl) ?_
  refine CW.sub [(0, .agg (iv .u8 l0_0 ++ (([.int .u64 a0_1] : List Value) ++ (iv .u8 l0_2 ++ (([.int .u64 a0_3] : List Value) ++ (iv .u8 l0_4 ++ (([.int .u64 a0_5] : List Value) ++ (iv .u8 l0_6 ++ ([.int .u64 a0_7] : List Value)))))))).toArray), (1, .slice A1 n1 c1)] ⟨rfl, rfl, trivial⟩ ?_
  have st0 : St w w [] := St.refl w
  refine CW.seq ?_
  refine CW.region ?_
  refine WL.box st0 rfl rfl ?_
  intro B_1 w_2 st_3
  replace st_3 : St w w_2 [.cells B_1 (iv .u8 l0_0 ++ (([.int .u64 a0_1] : List Value) ++ (iv .u8 l0_2 ++ (([.int .u64 a0_3] : List Value) ++ (iv .u8 l0_4 ++ (([.int .u64 a0_5] : List Value) ++ (iv .u8 l0_6 ++ ([.int .u64 a0_7] : List Value)))))))) 28] := st_3
  refine WL.val Wanted.none (Runs.assign rfl) ?_
  refine WL.nil ?_
  refine QW.then_n ?_
  refine CW.seq ?_
  refine CW.region ?_
  obtain ⟨hr_5, H⟩ := H
  refine WL.call Wanted.none ent8 rfl (reliquarylaw10_awake.calls w_2 (hG0.ext st_3) hr_5) ?_
  rintro _ w_6 ⟨rfl, sc_8⟩
  have st_7 : St w w_6 [.cells B_1 (iv .u8 l0_0 ++ (([.int .u64 a0_1] : List Value) ++ (iv .u8 l0_2 ++ (([.int .u64 a0_3] : List Value) ++ (iv .u8 l0_4 ++ (([.int .u64 a0_5] : List Value) ++ (iv .u8 l0_6 ++ ([.int .u64 a0_7] : List Value)))))))) 28] := st_3.below sc_8
  refine ⟨_, rfl, ?_⟩
  refine WL.val Wanted.none (Runs.assign rfl) ?_
  refine WL.nil ?_
  refine QW.then_n ?_
  refine CW.seq ?_
  refine CW.seq ?_
  refine CW.region ?_
  refine WL.val Wanted.none (Runs.move rfl) ?_
  refine WL.val Wanted.none (Runs.not rfl rfl) ?_
  refine WL.nil ?_
  refine QW.then_n ?_
  refine CW.cf rfl rfl ?_
  refine CW.skip ?_
  refine QW.then_n ?_
  refine CW.seq ?_
  refine CW.seq ?_
  refine CW.region ?_
  refine WL.val Wanted.none (Runs.move rfl) ?_
  refine WL.val Wanted.none (Runs.len_sl Tryd.underlying29 rfl (by rw [hn1])) ?_
  refine WL.val Wanted.none (Runs.gtr rfl rfl rfl) ?_
  refine WL.nil ?_
  refine QW.then_n ?_
  refine CW.sub [(1, .slice A1 n1 c1), (2, .pointer (some ⟨B_1, 0, none⟩)), (4, .bool false), (18, .bool (decide ((l1.length : Int) > 300)))] ⟨rfl, rfl, rfl, rfl, trivial⟩ ?_
  rcases H with ⟨c_9, H⟩ | ⟨c_9, H⟩
  · have h_10 : (decide ((l1.length : Int) > 300)) = true := (decide_eq_true c_9)
    refine CW.ct rfl h_10 ?_
    refine CW.seq ?_
    refine CW.region ?_
    refine WL.val Wanted.none (Runs.assign rfl) ?_
    refine WL.nil ?_
    refine QW.then_n ?_
    refine CW.ret ?_
    refine QW.then_r ?_
    exact QW.ret1 rfl rfl ⟨rfl, st_7.ext⟩
  · have h_10 : (decide ((l1.length : Int) > 300)) = false := (decide_eq_false c_9)
    refine CW.cf rfl h_10 ?_
    refine CW.skip ?_
    refine QW.then_n ?_
    refine CW.seq ?_
    refine CW.region ?_
    refine WL.val Wanted.none (Runs.load_mid row28 rfl st_7 (i := 0) rfl (part_mid (pre := (([] : List Value))) (mid := (iv .u8 l0_0 ++ (([.int .u64 a0_1] : List Value) ++ (iv .u8 l0_2 ++ (([.int .u64 a0_3] : List Value) ++ (iv .u8 l0_4 ++ (([.int .u64 a0_5] : List Value) ++ (iv .u8 l0_6 ++ ([.int .u64 a0_7] : List Value))))))))) (post := (([] : List Value))) (by first | rfl | simp only [List.append_assoc, List.append_nil, List.nil_append, List.cons_append]) (by first | rfl | simp only [List.length_append, List.length_cons, List.length_nil, iv_length]) (by first | rfl | simp only [List.length_append, List.length_cons, List.length_nil, iv_length, hl0_0, hl0_2, hl0_4, hl0_6])) (by first | rfl | simp only [List.length_append, List.length_cons, List.length_nil, iv_length, hl0_0, hl0_2, hl0_4, hl0_6])) ?_
    obtain ⟨r_15, hr_11, H⟩ := H
    refine WL.call Wanted.none ent9 rfl (tree_Put.calls w_6 l0_0 a0_1 l0_2 a0_3 l0_4 a0_5 l0_6 a0_7 hl0_0 hl0_2 hl0_4 hl0_6 r_15 hr_11) ?_
    rintro _ w_12 ⟨A_16, c_17, n_18, hn_19, rfl, sc_14⟩
    have st_13 : St w w_12 [.sl A_16 c_17 n_18 (iv .u8 r_15) 5 1, .cells B_1 (iv .u8 l0_0 ++ (([.int .u64 a0_1] : List Value) ++ (iv .u8 l0_2 ++ (([.int .u64 a0_3] : List Value) ++ (iv .u8 l0_4 ++ (([.int .u64 a0_5] : List Value) ++ (iv .u8 l0_6 ++ ([.int .u64 a0_7] : List Value)))))))) 28] := st_7.call sc_14
    refine ⟨_, rfl, ?_⟩
    refine WL.val Wanted.none (Runs.assign rfl) ?_
    refine WL.nil ?_
    refine QW.then_n ?_
    refine CW.seq ?_
    refine CW.region ?_
    refine WL.val Wanted.none (Runs.move rfl) ?_
    obtain ⟨r_25, r_27, r_28, r_30, r_31, r_33, r_34, r_36, r_37, hr_21, H⟩ := H
    refine WL.call Wanted.none ent10 rfl (tree_Get.calls w_12 r_15 A_16 n_18 c_17 (st_13.src_sl (k := 0) rfl) (hn_19) (st_13.cap (i := 0) rfl) r_25 r_27 r_28 r_30 r_31 r_33 r_34 r_36 r_37 hr_21) ?_
    rintro _ w_22 ⟨hl_26, hl_29, hl_32, hl_35, rfl, sc_24⟩
    have st_23 : St w w_22 [.sl A_16 c_17 n_18 (iv .u8 r_15) 5 1, .cells B_1 (iv .u8 l0_0 ++ (([.int .u64 a0_1] : List Value) ++ (iv .u8 l0_2 ++ (([.int .u64 a0_3] : List Value) ++ (iv .u8 l0_4 ++ (([.int .u64 a0_5] : List Value) ++ (iv .u8 l0_6 ++ ([.int .u64 a0_7] : List Value)))))))) 28] := st_13.call sc_24
    refine ⟨_, rfl, ?_⟩
    refine WL.val Wanted.none (Runs.move rfl) ?_
    refine WL.val Wanted.none (Runs.extract rfl rfl) ?_
    refine WL.val Wanted.none (Runs.extract rfl rfl) ?_
    refine WL.alloc st_23 zero28 ?_
    intro B_38 w_39 st_40
    replace st_40 : St w w_39 [.cells B_38 (iv .u8 (List.replicate 32 (0 : Int)) ++ (([.int .u64 0] : List Value) ++ (iv .u8 (List.replicate 32 (0 : Int)) ++ (([.int .u64 0] : List Value) ++ (iv .u8 (List.replicate 32 (0 : Int)) ++ (([.int .u64 0] : List Value) ++ (iv .u8 (List.replicate 32 (0 : Int)) ++ ([.int .u64 0] : List Value)))))))) 28, .sl A_16 c_17 n_18 (iv .u8 r_15) 5 1, .cells B_1 (iv .u8 l0_0 ++ (([.int .u64 a0_1] : List Value) ++ (iv .u8 l0_2 ++ (([.int .u64 a0_3] : List Value) ++ (iv .u8 l0_4 ++ (([.int .u64 a0_5] : List Value) ++ (iv .u8 l0_6 ++ ([.int .u64 a0_7] : List Value)))))))) 28] := st_40
    refine WL.store_mid (i := 0) (pre := (([] : List Value))) (mid := (iv .u8 (List.replicate 32 (0 : Int)) ++ (([.int .u64 0] : List Value) ++ (iv .u8 (List.replicate 32 (0 : Int)) ++ (([.int .u64 0] : List Value) ++ (iv .u8 (List.replicate 32 (0 : Int)) ++ (([.int .u64 0] : List Value) ++ (iv .u8 (List.replicate 32 (0 : Int)) ++ ([.int .u64 0] : List Value))))))))) (post := (([] : List Value))) (ms := (iv .u8 r_25 ++ (([.int .u64 r_27] : List Value) ++ (iv .u8 r_28 ++ (([.int .u64 r_30] : List Value) ++ (iv .u8 r_31 ++ (([.int .u64 r_33] : List Value) ++ (iv .u8 r_34 ++ ([.int .u64 r_36] : List Value))))))))) st_40 rfl row28 (by first | rfl | simp only [List.append_assoc, List.append_nil, List.nil_append, List.cons_append]) (by first | rfl | simp only [List.length_append, List.length_cons, List.length_nil, iv_length]) rfl rfl (by first | rfl | simp only [List.length_append, List.length_cons, List.length_nil, iv_length, hl_26, hl_29, hl_32, hl_35]) (by first | rfl | simp only [List.length_append, List.length_cons, List.length_nil, iv_length, List.length_replicate]) (by intro u hu; simp only [List.mem_append, List.mem_singleton] at hu; rcases hu with hu | hu | hu | hu | hu | hu | hu | hu <;> first | exact one_iv _ _ u hu | (subst hu; rfl)) ?_
    intro w_42 st_43
    replace st_43 : St w w_42 [.cells B_38 (iv .u8 r_25 ++ (([.int .u64 r_27] : List Value) ++ (iv .u8 r_28 ++ (([.int .u64 r_30] : List Value) ++ (iv .u8 r_31 ++ (([.int .u64 r_33] : List Value) ++ (iv .u8 r_34 ++ ([.int .u64 r_36] : List Value)))))))) 28, .sl A_16 c_17 n_18 (iv .u8 r_15) 5 1, .cells B_1 (iv .u8 l0_0 ++ (([.int .u64 a0_1] : List Value) ++ (iv .u8 l0_2 ++ (([.int .u64 a0_3] : List Value) ++ (iv .u8 l0_4 ++ (([.int .u64 a0_5] : List Value) ++ (iv .u8 l0_6 ++ ([.int .u64 a0_7] : List Value)))))))) 28] := by have e_ : (iv .u8 r_25 ++ (([.int .u64 r_27] : List Value) ++ (iv .u8 r_28 ++ (([.int .u64 r_30] : List Value) ++ (iv .u8 r_31 ++ (([.int .u64 r_33] : List Value) ++ (iv .u8 r_34 ++ ([.int .u64 r_36] : List Value)))))))) = (([] : List Value)) ++ ((iv .u8 r_25 ++ (([.int .u64 r_27] : List Value) ++ (iv .u8 r_28 ++ (([.int .u64 r_30] : List Value) ++ (iv .u8 r_31 ++ (([.int .u64 r_33] : List Value) ++ (iv .u8 r_34 ++ ([.int .u64 r_36] : List Value)))))))) ++ (([] : List Value))) := (by first | rfl | simp only [List.append_assoc, List.append_nil, List.nil_append, List.cons_append]); have h_ : St w w_42 [.cells B_38 ((([] : List Value)) ++ ((iv .u8 r_25 ++ (([.int .u64 r_27] : List Value) ++ (iv .u8 r_28 ++ (([.int .u64 r_30] : List Value) ++ (iv .u8 r_31 ++ (([.int .u64 r_33] : List Value) ++ (iv .u8 r_34 ++ ([.int .u64 r_36] : List Value)))))))) ++ (([] : List Value)))) 28, .sl A_16 c_17 n_18 (iv .u8 r_15) 5 1, .cells B_1 (iv .u8 l0_0 ++ (([.int .u64 a0_1] : List Value) ++ (iv .u8 l0_2 ++ (([.int .u64 a0_3] : List Value) ++ (iv .u8 l0_4 ++ (([.int .u64 a0_5] : List Value) ++ (iv .u8 l0_6 ++ ([.int .u64 a0_7] : List Value)))))))) 28] := st_43; rw [← e_] at h_; exact h_
    refine WL.val Wanted.none (Runs.assign rfl) ?_
    refine WL.nil ?_
    refine QW.then_n ?_
    refine CW.sub [(1, .slice A1 n1 c1), (2, .pointer (some ⟨B_1, 0, none⟩)), (4, .bool false), (6, .slice A_16 n_18 c_17), (7, .pointer (some ⟨B_38, 0, none⟩)), (8, .int .i64 r_37)] ⟨rfl, rfl, rfl, rfl, rfl, rfl, trivial⟩ ?_
    refine CW.seq ?_
    refine CW.region ?_
    refine WL.val Wanted.none (Runs.move rfl) ?_
    obtain ⟨r_48, r_50, r_51, r_53, r_54, r_56, r_57, r_59, r_60, hr_44, H⟩ := H
    refine WL.call Wanted.none ent10 rfl (tree_Get.calls w_42 l1 A1 n1 c1 (hs1.ext st_43) (hn1) (hc1) r_48 r_50 r_51 r_53 r_54 r_56 r_57 r_59 r_60 hr_44) ?_
    rintro _ w_45 ⟨hl_49, hl_52, hl_55, hl_58, rfl, sc_47⟩
    have st_46 : St w w_45 [.cells B_38 (iv .u8 r_25 ++ (([.int .u64 r_27] : List Value) ++ (iv .u8 r_28 ++ (([.int .u64 r_30] : List Value) ++ (iv .u8 r_31 ++ (([.int .u64 r_33] : List Value) ++ (iv .u8 r_34 ++ ([.int .u64 r_36] : List Value)))))))) 28, .sl A_16 c_17 n_18 (iv .u8 r_15) 5 1, .cells B_1 (iv .u8 l0_0 ++ (([.int .u64 a0_1] : List Value) ++ (iv .u8 l0_2 ++ (([.int .u64 a0_3] : List Value) ++ (iv .u8 l0_4 ++ (([.int .u64 a0_5] : List Value) ++ (iv .u8 l0_6 ++ ([.int .u64 a0_7] : List Value)))))))) 28] := st_43.call sc_47
    refine ⟨_, rfl, ?_⟩
    refine WL.val Wanted.none (Runs.move rfl) ?_
    refine WL.val Wanted.none (Runs.extract rfl rfl) ?_
    refine WL.val Wanted.none (Runs.extract rfl rfl) ?_
    refine WL.alloc st_46 zero28 ?_
    intro B_61 w_62 st_63
    replace st_63 : St w w_62 [.cells B_61 (iv .u8 (List.replicate 32 (0 : Int)) ++ (([.int .u64 0] : List Value) ++ (iv .u8 (List.replicate 32 (0 : Int)) ++ (([.int .u64 0] : List Value) ++ (iv .u8 (List.replicate 32 (0 : Int)) ++ (([.int .u64 0] : List Value) ++ (iv .u8 (List.replicate 32 (0 : Int)) ++ ([.int .u64 0] : List Value)))))))) 28, .cells B_38 (iv .u8 r_25 ++ (([.int .u64 r_27] : List Value) ++ (iv .u8 r_28 ++ (([.int .u64 r_30] : List Value) ++ (iv .u8 r_31 ++ (([.int .u64 r_33] : List Value) ++ (iv .u8 r_34 ++ ([.int .u64 r_36] : List Value)))))))) 28, .sl A_16 c_17 n_18 (iv .u8 r_15) 5 1, .cells B_1 (iv .u8 l0_0 ++ (([.int .u64 a0_1] : List Value) ++ (iv .u8 l0_2 ++ (([.int .u64 a0_3] : List Value) ++ (iv .u8 l0_4 ++ (([.int .u64 a0_5] : List Value) ++ (iv .u8 l0_6 ++ ([.int .u64 a0_7] : List Value)))))))) 28] := st_63
    refine WL.store_mid (i := 0) (pre := (([] : List Value))) (mid := (iv .u8 (List.replicate 32 (0 : Int)) ++ (([.int .u64 0] : List Value) ++ (iv .u8 (List.replicate 32 (0 : Int)) ++ (([.int .u64 0] : List Value) ++ (iv .u8 (List.replicate 32 (0 : Int)) ++ (([.int .u64 0] : List Value) ++ (iv .u8 (List.replicate 32 (0 : Int)) ++ ([.int .u64 0] : List Value))))))))) (post := (([] : List Value))) (ms := (iv .u8 r_48 ++ (([.int .u64 r_50] : List Value) ++ (iv .u8 r_51 ++ (([.int .u64 r_53] : List Value) ++ (iv .u8 r_54 ++ (([.int .u64 r_56] : List Value) ++ (iv .u8 r_57 ++ ([.int .u64 r_59] : List Value))))))))) st_63 rfl row28 (by first | rfl | simp only [List.append_assoc, List.append_nil, List.nil_append, List.cons_append]) (by first | rfl | simp only [List.length_append, List.length_cons, List.length_nil, iv_length]) rfl rfl (by first | rfl | simp only [List.length_append, List.length_cons, List.length_nil, iv_length, hl_49, hl_52, hl_55, hl_58]) (by first | rfl | simp only [List.length_append, List.length_cons, List.length_nil, iv_length, List.length_replicate]) (by intro u hu; simp only [List.mem_append, List.mem_singleton] at hu; rcases hu with hu | hu | hu | hu | hu | hu | hu | hu <;> first | exact one_iv _ _ u hu | (subst hu; rfl)) ?_
    intro w_65 st_66
    replace st_66 : St w w_65 [.cells B_61 (iv .u8 r_48 ++ (([.int .u64 r_50] : List Value) ++ (iv .u8 r_51 ++ (([.int .u64 r_53] : List Value) ++ (iv .u8 r_54 ++ (([.int .u64 r_56] : List Value) ++ (iv .u8 r_57 ++ ([.int .u64 r_59] : List Value)))))))) 28, .cells B_38 (iv .u8 r_25 ++ (([.int .u64 r_27] : List Value) ++ (iv .u8 r_28 ++ (([.int .u64 r_30] : List Value) ++ (iv .u8 r_31 ++ (([.int .u64 r_33] : List Value) ++ (iv .u8 r_34 ++ ([.int .u64 r_36] : List Value)))))))) 28, .sl A_16 c_17 n_18 (iv .u8 r_15) 5 1, .cells B_1 (iv .u8 l0_0 ++ (([.int .u64 a0_1] : List Value) ++ (iv .u8 l0_2 ++ (([.int .u64 a0_3] : List Value) ++ (iv .u8 l0_4 ++ (([.int .u64 a0_5] : List Value) ++ (iv .u8 l0_6 ++ ([.int .u64 a0_7] : List Value)))))))) 28] := by have e_ : (iv .u8 r_48 ++ (([.int .u64 r_50] : List Value) ++ (iv .u8 r_51 ++ (([.int .u64 r_53] : List Value) ++ (iv .u8 r_54 ++ (([.int .u64 r_56] : List Value) ++ (iv .u8 r_57 ++ ([.int .u64 r_59] : List Value)))))))) = (([] : List Value)) ++ ((iv .u8 r_48 ++ (([.int .u64 r_50] : List Value) ++ (iv .u8 r_51 ++ (([.int .u64 r_53] : List Value) ++ (iv .u8 r_54 ++ (([.int .u64 r_56] : List Value) ++ (iv .u8 r_57 ++ ([.int .u64 r_59] : List Value)))))))) ++ (([] : List Value))) := (by first | rfl | simp only [List.append_assoc, List.append_nil, List.nil_append, List.cons_append]); have h_ : St w w_65 [.cells B_61 ((([] : List Value)) ++ ((iv .u8 r_48 ++ (([.int .u64 r_50] : List Value) ++ (iv .u8 r_51 ++ (([.int .u64 r_53] : List Value) ++ (iv .u8 r_54 ++ (([.int .u64 r_56] : List Value) ++ (iv .u8 r_57 ++ ([.int .u64 r_59] : List Value)))))))) ++ (([] : List Value)))) 28, .cells B_38 (iv .u8 r_25 ++ (([.int .u64 r_27] : List Value) ++ (iv .u8 r_28 ++ (([.int .u64 r_30] : List Value) ++ (iv .u8 r_31 ++ (([.int .u64 r_33] : List Value) ++ (iv .u8 r_34 ++ ([.int .u64 r_36] : List Value)))))))) 28, .sl A_16 c_17 n_18 (iv .u8 r_15) 5 1, .cells B_1 (iv .u8 l0_0 ++ (([.int .u64 a0_1] : List Value) ++ (iv .u8 l0_2 ++ (([.int .u64 a0_3] : List Value) ++ (iv .u8 l0_4 ++ (([.int .u64 a0_5] : List Value) ++ (iv .u8 l0_6 ++ ([.int .u64 a0_7] : List Value)))))))) 28] := st_66; rw [← e_] at h_; exact h_
    refine WL.val Wanted.none (Runs.assign rfl) ?_
    refine WL.nil ?_
    refine QW.then_n ?_
    refine CW.seq ?_
    refine CW.region ?_
    refine WL.val Wanted.none (Runs.move rfl) ?_
    obtain ⟨r_71, r_73, r_74, r_76, r_77, r_79, r_80, r_82, r_83, hr_67, H⟩ := H
    refine WL.call Wanted.none ent11 rfl (reliquaryref10_Get.calls w_65 l1 A1 n1 c1 (hs1.ext st_66) (hn1) (hc1) r_71 r_73 r_74 r_76 r_77 r_79 r_80 r_82 r_83 hr_67) ?_
    rintro _ w_68 ⟨hl_72, hl_75, hl_78, hl_81, rfl, sc_70⟩
    have st_69 : St w w_68 [.cells B_61 (iv .u8 r_48 ++ (([.int .u64 r_50] : List Value) ++ (iv .u8 r_51 ++ (([.int .u64 r_53] : List Value) ++ (iv .u8 r_54 ++ (([.int .u64 r_56] : List Value) ++ (iv .u8 r_57 ++ ([.int .u64 r_59] : List Value)))))))) 28, .cells B_38 (iv .u8 r_25 ++ (([.int .u64 r_27] : List Value) ++ (iv .u8 r_28 ++ (([.int .u64 r_30] : List Value) ++ (iv .u8 r_31 ++ (([.int .u64 r_33] : List Value) ++ (iv .u8 r_34 ++ ([.int .u64 r_36] : List Value)))))))) 28, .sl A_16 c_17 n_18 (iv .u8 r_15) 5 1, .cells B_1 (iv .u8 l0_0 ++ (([.int .u64 a0_1] : List Value) ++ (iv .u8 l0_2 ++ (([.int .u64 a0_3] : List Value) ++ (iv .u8 l0_4 ++ (([.int .u64 a0_5] : List Value) ++ (iv .u8 l0_6 ++ ([.int .u64 a0_7] : List Value)))))))) 28] := st_66.call sc_70
    refine ⟨_, rfl, ?_⟩
    refine WL.val Wanted.none (Runs.move rfl) ?_
    refine WL.val Wanted.none (Runs.extract rfl rfl) ?_
    refine WL.val Wanted.none (Runs.extract rfl rfl) ?_
    refine WL.alloc st_69 zero36 ?_
    intro B_84 w_85 st_86
    replace st_86 : St w w_85 [.cells B_84 (iv .u8 (List.replicate 32 (0 : Int)) ++ (([.int .u64 0] : List Value) ++ (iv .u8 (List.replicate 32 (0 : Int)) ++ (([.int .u64 0] : List Value) ++ (iv .u8 (List.replicate 32 (0 : Int)) ++ (([.int .u64 0] : List Value) ++ (iv .u8 (List.replicate 32 (0 : Int)) ++ ([.int .u64 0] : List Value)))))))) 36, .cells B_61 (iv .u8 r_48 ++ (([.int .u64 r_50] : List Value) ++ (iv .u8 r_51 ++ (([.int .u64 r_53] : List Value) ++ (iv .u8 r_54 ++ (([.int .u64 r_56] : List Value) ++ (iv .u8 r_57 ++ ([.int .u64 r_59] : List Value)))))))) 28, .cells B_38 (iv .u8 r_25 ++ (([.int .u64 r_27] : List Value) ++ (iv .u8 r_28 ++ (([.int .u64 r_30] : List Value) ++ (iv .u8 r_31 ++ (([.int .u64 r_33] : List Value) ++ (iv .u8 r_34 ++ ([.int .u64 r_36] : List Value)))))))) 28, .sl A_16 c_17 n_18 (iv .u8 r_15) 5 1, .cells B_1 (iv .u8 l0_0 ++ (([.int .u64 a0_1] : List Value) ++ (iv .u8 l0_2 ++ (([.int .u64 a0_3] : List Value) ++ (iv .u8 l0_4 ++ (([.int .u64 a0_5] : List Value) ++ (iv .u8 l0_6 ++ ([.int .u64 a0_7] : List Value)))))))) 28] := st_86
    refine WL.store_mid (i := 0) (pre := (([] : List Value))) (mid := (iv .u8 (List.replicate 32 (0 : Int)) ++ (([.int .u64 0] : List Value) ++ (iv .u8 (List.replicate 32 (0 : Int)) ++ (([.int .u64 0] : List Value) ++ (iv .u8 (List.replicate 32 (0 : Int)) ++ (([.int .u64 0] : List Value) ++ (iv .u8 (List.replicate 32 (0 : Int)) ++ ([.int .u64 0] : List Value))))))))) (post := (([] : List Value))) (ms := (iv .u8 r_71 ++ (([.int .u64 r_73] : List Value) ++ (iv .u8 r_74 ++ (([.int .u64 r_76] : List Value) ++ (iv .u8 r_77 ++ (([.int .u64 r_79] : List Value) ++ (iv .u8 r_80 ++ ([.int .u64 r_82] : List Value))))))))) st_86 rfl row36 (by first | rfl | simp only [List.append_assoc, List.append_nil, List.nil_append, List.cons_append]) (by first | rfl | simp only [List.length_append, List.length_cons, List.length_nil, iv_length]) rfl rfl (by first | rfl | simp only [List.length_append, List.length_cons, List.length_nil, iv_length, hl_72, hl_75, hl_78, hl_81]) (by first | rfl | simp only [List.length_append, List.length_cons, List.length_nil, iv_length, List.length_replicate]) (by intro u hu; simp only [List.mem_append, List.mem_singleton] at hu; rcases hu with hu | hu | hu | hu | hu | hu | hu | hu <;> first | exact one_iv _ _ u hu | (subst hu; rfl)) ?_
    intro w_88 st_89
    replace st_89 : St w w_88 [.cells B_84 (iv .u8 r_71 ++ (([.int .u64 r_73] : List Value) ++ (iv .u8 r_74 ++ (([.int .u64 r_76] : List Value) ++ (iv .u8 r_77 ++ (([.int .u64 r_79] : List Value) ++ (iv .u8 r_80 ++ ([.int .u64 r_82] : List Value)))))))) 36, .cells B_61 (iv .u8 r_48 ++ (([.int .u64 r_50] : List Value) ++ (iv .u8 r_51 ++ (([.int .u64 r_53] : List Value) ++ (iv .u8 r_54 ++ (([.int .u64 r_56] : List Value) ++ (iv .u8 r_57 ++ ([.int .u64 r_59] : List Value)))))))) 28, .cells B_38 (iv .u8 r_25 ++ (([.int .u64 r_27] : List Value) ++ (iv .u8 r_28 ++ (([.int .u64 r_30] : List Value) ++ (iv .u8 r_31 ++ (([.int .u64 r_33] : List Value) ++ (iv .u8 r_34 ++ ([.int .u64 r_36] : List Value)))))))) 28, .sl A_16 c_17 n_18 (iv .u8 r_15) 5 1, .cells B_1 (iv .u8 l0_0 ++ (([.int .u64 a0_1] : List Value) ++ (iv .u8 l0_2 ++ (([.int .u64 a0_3] : List Value) ++ (iv .u8 l0_4 ++ (([.int .u64 a0_5] : List Value) ++ (iv .u8 l0_6 ++ ([.int .u64 a0_7] : List Value)))))))) 28] := by have e_ : (iv .u8 r_71 ++ (([.int .u64 r_73] : List Value) ++ (iv .u8 r_74 ++ (([.int .u64 r_76] : List Value) ++ (iv .u8 r_77 ++ (([.int .u64 r_79] : List Value) ++ (iv .u8 r_80 ++ ([.int .u64 r_82] : List Value)))))))) = (([] : List Value)) ++ ((iv .u8 r_71 ++ (([.int .u64 r_73] : List Value) ++ (iv .u8 r_74 ++ (([.int .u64 r_76] : List Value) ++ (iv .u8 r_77 ++ (([.int .u64 r_79] : List Value) ++ (iv .u8 r_80 ++ ([.int .u64 r_82] : List Value)))))))) ++ (([] : List Value))) := (by first | rfl | simp only [List.append_assoc, List.append_nil, List.nil_append, List.cons_append]); have h_ : St w w_88 [.cells B_84 ((([] : List Value)) ++ ((iv .u8 r_71 ++ (([.int .u64 r_73] : List Value) ++ (iv .u8 r_74 ++ (([.int .u64 r_76] : List Value) ++ (iv .u8 r_77 ++ (([.int .u64 r_79] : List Value) ++ (iv .u8 r_80 ++ ([.int .u64 r_82] : List Value)))))))) ++ (([] : List Value)))) 36, .cells B_61 (iv .u8 r_48 ++ (([.int .u64 r_50] : List Value) ++ (iv .u8 r_51 ++ (([.int .u64 r_53] : List Value) ++ (iv .u8 r_54 ++ (([.int .u64 r_56] : List Value) ++ (iv .u8 r_57 ++ ([.int .u64 r_59] : List Value)))))))) 28, .cells B_38 (iv .u8 r_25 ++ (([.int .u64 r_27] : List Value) ++ (iv .u8 r_28 ++ (([.int .u64 r_30] : List Value) ++ (iv .u8 r_31 ++ (([.int .u64 r_33] : List Value) ++ (iv .u8 r_34 ++ ([.int .u64 r_36] : List Value)))))))) 28, .sl A_16 c_17 n_18 (iv .u8 r_15) 5 1, .cells B_1 (iv .u8 l0_0 ++ (([.int .u64 a0_1] : List Value) ++ (iv .u8 l0_2 ++ (([.int .u64 a0_3] : List Value) ++ (iv .u8 l0_4 ++ (([.int .u64 a0_5] : List Value) ++ (iv .u8 l0_6 ++ ([.int .u64 a0_7] : List Value)))))))) 28] := st_89; rw [← e_] at h_; exact h_
    refine WL.val Wanted.none (Runs.assign rfl) ?_
    refine WL.nil ?_
    refine QW.then_n ?_
    refine CW.sub [(1, .slice A1 n1 c1), (2, .pointer (some ⟨B_1, 0, none⟩)), (4, .bool false), (6, .slice A_16 n_18 c_17), (7, .pointer (some ⟨B_38, 0, none⟩)), (8, .int .i64 r_37), (9, .pointer (some ⟨B_61, 0, none⟩)), (10, .int .i64 r_60), (11, .pointer (some ⟨B_84, 0, none⟩)), (12, .int .i64 r_83)] ⟨rfl, rfl, rfl, rfl, rfl, rfl, rfl, rfl, rfl, rfl, trivial⟩ ?_
    refine CW.seq ?_
    refine CW.seq ?_
    refine CW.region_aw wide st_89 (fun w_90 st_91 => ?_)
    refine AWC.enter (C := fun w_ => St w w_ [.cells B_84 (iv .u8 r_71 ++ (([.int .u64 r_73] : List Value) ++ (iv .u8 r_74 ++ (([.int .u64 r_76] : List Value) ++ (iv .u8 r_77 ++ (([.int .u64 r_79] : List Value) ++ (iv .u8 r_80 ++ ([.int .u64 r_82] : List Value)))))))) 36, .cells B_61 (iv .u8 r_48 ++ (([.int .u64 r_50] : List Value) ++ (iv .u8 r_51 ++ (([.int .u64 r_53] : List Value) ++ (iv .u8 r_54 ++ (([.int .u64 r_56] : List Value) ++ (iv .u8 r_57 ++ ([.int .u64 r_59] : List Value)))))))) 28, .cells B_38 (iv .u8 r_25 ++ (([.int .u64 r_27] : List Value) ++ (iv .u8 r_28 ++ (([.int .u64 r_30] : List Value) ++ (iv .u8 r_31 ++ (([.int .u64 r_33] : List Value) ++ (iv .u8 r_34 ++ ([.int .u64 r_36] : List Value)))))))) 28, .sl A_16 c_17 n_18 (iv .u8 r_15) 5 1, .cells B_1 (iv .u8 l0_0 ++ (([.int .u64 a0_1] : List Value) ++ (iv .u8 l0_2 ++ (([.int .u64 a0_3] : List Value) ++ (iv .u8 l0_4 ++ (([.int .u64 a0_5] : List Value) ++ (iv .u8 l0_6 ++ ([.int .u64 a0_7] : List Value)))))))) 28]) ?_
    refine AWC.take 0 rfl (by kernel_rfl) (by kernel_rfl) (by kernel_rfl) st_91 Wanted.none (fun wq sq => (Runs.move rfl)) ?_
    refine AWC.take 1 rfl (by kernel_rfl) (by kernel_rfl) (by kernel_rfl) st_91 Wanted.none (fun wq sq => (Runs.bytes_str Tryd.underlying29 Tryd.underlying5 Tryd.underlying9 rfl (sq.src_sl (k := 3) rfl) hn_19)) ?_
    refine AWC.take 2 rfl (by kernel_rfl) (by kernel_rfl) (by kernel_rfl) st_91 Wanted.none (fun wq sq => (Runs.load_mid row28 rfl sq (i := 4) rfl (part_mid (pre := (([] : List Value))) (mid := (iv .u8 l0_0 ++ (([.int .u64 a0_1] : List Value) ++ (iv .u8 l0_2 ++ (([.int .u64 a0_3] : List Value) ++ (iv .u8 l0_4 ++ (([.int .u64 a0_5] : List Value) ++ (iv .u8 l0_6 ++ ([.int .u64 a0_7] : List Value))))))))) (post := (([] : List Value))) (by first | rfl | simp only [List.append_assoc, List.append_nil, List.nil_append, List.cons_append]) (by first | rfl | simp only [List.length_append, List.length_cons, List.length_nil, iv_length]) (by first | rfl | simp only [List.length_append, List.length_cons, List.length_nil, iv_length, hl0_0, hl0_2, hl0_4, hl0_6])) (by first | rfl | simp only [List.length_append, List.length_cons, List.length_nil, iv_length, hl0_0, hl0_2, hl0_4, hl0_6]))) ?_
    refine AWC.step 3 rfl (by kernel_rfl) ?_
    obtain ⟨r_96, r_98, r_99, r_101, r_102, r_104, r_105, r_107, hr_92, H⟩ := H
    refine WL.call Wanted.none ent13 rfl (reliquarylaw10_refs.calls w_90 l0_0 a0_1 l0_2 a0_3 l0_4 a0_5 l0_6 a0_7 hl0_0 hl0_2 hl0_4 hl0_6 r_96 r_98 r_99 r_101 r_102 r_104 r_105 r_107 hr_92) ?_
    rintro _ w_93 ⟨hl_97, hl_100, hl_103, hl_106, rfl, sc_95⟩
    have st_94 : St w w_93 [.cells B_84 (iv .u8 r_71 ++ (([.int .u64 r_73] : List Value) ++ (iv .u8 r_74 ++ (([.int .u64 r_76] : List Value) ++ (iv .u8 r_77 ++ (([.int .u64 r_79] : List Value) ++ (iv .u8 r_80 ++ ([.int .u64 r_82] : List Value)))))))) 36, .cells B_61 (iv .u8 r_48 ++ (([.int .u64 r_50] : List Value) ++ (iv .u8 r_51 ++ (([.int .u64 r_53] : List Value) ++ (iv .u8 r_54 ++ (([.int .u64 r_56] : List Value) ++ (iv .u8 r_57 ++ ([.int .u64 r_59] : List Value)))))))) 28, .cells B_38 (iv .u8 r_25 ++ (([.int .u64 r_27] : List Value) ++ (iv .u8 r_28 ++ (([.int .u64 r_30] : List Value) ++ (iv .u8 r_31 ++ (([.int .u64 r_33] : List Value) ++ (iv .u8 r_34 ++ ([.int .u64 r_36] : List Value)))))))) 28, .sl A_16 c_17 n_18 (iv .u8 r_15) 5 1, .cells B_1 (iv .u8 l0_0 ++ (([.int .u64 a0_1] : List Value) ++ (iv .u8 l0_2 ++ (([.int .u64 a0_3] : List Value) ++ (iv .u8 l0_4 ++ (([.int .u64 a0_5] : List Value) ++ (iv .u8 l0_6 ++ ([.int .u64 a0_7] : List Value)))))))) 28] := st_91.call sc_95
    refine ⟨_, rfl, ?_⟩
    refine WL.nil ?_
    refine AWC.back st_94 ?_
    refine AWC.step 4 rfl (by kernel_rfl) ?_
    obtain ⟨r_112, hr_108, H⟩ := H
    refine WL.call Wanted.none ent12 rfl (reliquaryref10_Put.calls w_93 r_96 r_98 r_99 r_101 r_102 r_104 r_105 r_107 hl_97 hl_100 hl_103 hl_106 r_112 hr_108) ?_
    rintro _ w_109 ⟨A_113, c_114, n_115, hn_116, rfl, sc_111⟩
    have st_110 : St w w_109 [.sl A_113 c_114 n_115 (iv .u8 r_112) 5 1, .cells B_84 (iv .u8 r_71 ++ (([.int .u64 r_73] : List Value) ++ (iv .u8 r_74 ++ (([.int .u64 r_76] : List Value) ++ (iv .u8 r_77 ++ (([.int .u64 r_79] : List Value) ++ (iv .u8 r_80 ++ ([.int .u64 r_82] : List Value)))))))) 36, .cells B_61 (iv .u8 r_48 ++ (([.int .u64 r_50] : List Value) ++ (iv .u8 r_51 ++ (([.int .u64 r_53] : List Value) ++ (iv .u8 r_54 ++ (([.int .u64 r_56] : List Value) ++ (iv .u8 r_57 ++ ([.int .u64 r_59] : List Value)))))))) 28, .cells B_38 (iv .u8 r_25 ++ (([.int .u64 r_27] : List Value) ++ (iv .u8 r_28 ++ (([.int .u64 r_30] : List Value) ++ (iv .u8 r_31 ++ (([.int .u64 r_33] : List Value) ++ (iv .u8 r_34 ++ ([.int .u64 r_36] : List Value)))))))) 28, .sl A_16 c_17 n_18 (iv .u8 r_15) 5 1, .cells B_1 (iv .u8 l0_0 ++ (([.int .u64 a0_1] : List Value) ++ (iv .u8 l0_2 ++ (([.int .u64 a0_3] : List Value) ++ (iv .u8 l0_4 ++ (([.int .u64 a0_5] : List Value) ++ (iv .u8 l0_6 ++ ([.int .u64 a0_7] : List Value)))))))) 28] := st_94.call sc_111
    refine ⟨_, rfl, ?_⟩
    refine WL.nil ?_
    refine AWC.back (st_110.pick [1, 2, 3, 4, 5] (by decide)) ?_
    refine AWC.step 5 rfl (by kernel_rfl) ?_
    refine WL.val Wanted.none (Runs.bytes_str Tryd.underlying29 Tryd.underlying5 Tryd.underlying9 rfl (st_110.src_sl (k := 0) rfl) hn_116) ?_
    refine WL.nil ?_
    refine AWC.back (st_110.pick [1, 2, 3, 4, 5] (by decide)) ?_
    refine AWC.take 6 rfl (by kernel_rfl) (by kernel_rfl) (by kernel_rfl) (st_110.pick [1, 2, 3, 4, 5] (by decide)) Wanted.none (fun wq sq => (Runs.nes rfl rfl rfl)) ?_
    refine AWC.take 7 rfl (by kernel_rfl) (by kernel_rfl) (by kernel_rfl) (st_110.pick [1, 2, 3, 4, 5] (by decide)) Wanted.none (fun wq sq => (Runs.move rfl)) ?_
    obtain ⟨c_118, H⟩ := H
    have h_119 : (!((strOfNums r_15).toList == (strOfNums r_112).toList)) = false := (not_f (beq_iff_eq.mpr (Decidable.not_not.mp c_118)))
    refine AWC.take 8 rfl (by kernel_rfl) (by kernel_rfl) (by kernel_rfl) (st_110.pick [1, 2, 3, 4, 5] (by decide)) ?_ (fun wq sq => (Runs.load_mid row28 rfl sq (i := 2) rfl (part_mid (pre := (([] : List Value))) (mid := (iv .u8 r_25 ++ (([.int .u64 r_27] : List Value) ++ (iv .u8 r_28 ++ (([.int .u64 r_30] : List Value) ++ (iv .u8 r_31 ++ (([.int .u64 r_33] : List Value) ++ (iv .u8 r_34 ++ ([.int .u64 r_36] : List Value))))))))) (post := (([] : List Value))) (by first | rfl | simp only [List.append_assoc, List.append_nil, List.nil_append, List.cons_append]) (by first | rfl | simp only [List.length_append, List.length_cons, List.length_nil, iv_length]) (by first | rfl | simp only [List.length_append, List.length_cons, List.length_nil, iv_length, hl_26, hl_29, hl_32, hl_35])) (by first | rfl | simp only [List.length_append, List.length_cons, List.length_nil, iv_length, hl_26, hl_29, hl_32, hl_35]))) ?_; exact Wanted.guard (dj := 43) (by rfl) (evb (by rfl) h_119) (by rfl)
    refine AWC.take 9 rfl (by kernel_rfl) (by kernel_rfl) (by kernel_rfl) (st_110.pick [1, 2, 3, 4, 5] (by decide)) ?_ (fun wq sq => (Runs.load_mid row28 rfl sq (i := 4) rfl (part_mid (pre := (([] : List Value))) (mid := (iv .u8 l0_0 ++ (([.int .u64 a0_1] : List Value) ++ (iv .u8 l0_2 ++ (([.int .u64 a0_3] : List Value) ++ (iv .u8 l0_4 ++ (([.int .u64 a0_5] : List Value) ++ (iv .u8 l0_6 ++ ([.int .u64 a0_7] : List Value))))))))) (post := (([] : List Value))) (by first | rfl | simp only [List.append_assoc, List.append_nil, List.nil_append, List.cons_append]) (by first | rfl | simp only [List.length_append, List.length_cons, List.length_nil, iv_length]) (by first | rfl | simp only [List.length_append, List.length_cons, List.length_nil, iv_length, hl0_0, hl0_2, hl0_4, hl0_6])) (by first | rfl | simp only [List.length_append, List.length_cons, List.length_nil, iv_length, hl0_0, hl0_2, hl0_4, hl0_6]))) ?_; exact Wanted.guard (dj := 43) (by rfl) (evb (by rfl) h_119) (by rfl)
    refine AWC.take 10 rfl (by kernel_rfl) (by kernel_rfl) (by kernel_rfl) (st_110.pick [1, 2, 3, 4, 5] (by decide)) ?_ (fun wq sq => (Runs.neq_top (EqTop.rows Tryd.underlying28 siz26 rfl (EqFs.cons (part_mid' (pre := (([] : List Value))) (mid := (iv .u8 r_25 ++ ([.int .u64 r_27] : List Value))) (post := (iv .u8 r_28 ++ (([.int .u64 r_30] : List Value) ++ (iv .u8 r_31 ++ (([.int .u64 r_33] : List Value) ++ (iv .u8 r_34 ++ ([.int .u64 r_36] : List Value))))))) (by first | rfl | simp only [List.append_assoc, List.append_nil, List.nil_append, List.cons_append]) (by first | rfl | simp only [List.length_append, List.length_cons, List.length_nil, iv_length])) (part_mid' (pre := (([] : List Value))) (mid := (iv .u8 l0_0 ++ ([.int .u64 a0_1] : List Value))) (post := (iv .u8 l0_2 ++ (([.int .u64 a0_3] : List Value) ++ (iv .u8 l0_4 ++ (([.int .u64 a0_5] : List Value) ++ (iv .u8 l0_6 ++ ([.int .u64 a0_7] : List Value))))))) (by first | rfl | simp only [List.append_assoc, List.append_nil, List.nil_append, List.cons_append]) (by first | rfl | simp only [List.length_append, List.length_cons, List.length_nil, iv_length])) (EqTop.place (EqTop.struct eqs26 (EqFs.cons (part_mid' (pre := (([] : List Value))) (mid := (iv .u8 r_25)) (post := (([.int .u64 r_27] : List Value))) (by first | rfl | simp only [List.append_assoc, List.append_nil, List.nil_append, List.cons_append]) (by first | rfl | simp only [List.length_append, List.length_cons, List.length_nil, iv_length])) (part_mid' (pre := (([] : List Value))) (mid := (iv .u8 l0_0)) (post := (([.int .u64 a0_1] : List Value))) (by first | rfl | simp only [List.append_assoc, List.append_nil, List.nil_append, List.cons_append]) (by first | rfl | simp only [List.length_append, List.length_cons, List.length_nil, iv_length])) (EqTop.place (EqTop.arr arr23 hl_26 hl0_0) row23 (by first | rfl | simp only [List.length_append, List.length_cons, List.length_nil, iv_length, hl_26]) (by first | rfl | simp only [List.length_append, List.length_cons, List.length_nil, iv_length, hl0_0])) (EqFs.cons (part_mid' (pre := (iv .u8 r_25)) (mid := (([.int .u64 r_27] : List Value))) (post := (([] : List Value))) (by first | rfl | simp only [List.append_assoc, List.append_nil, List.nil_append, List.cons_append]) (by first | rfl | simp only [List.length_append, List.length_cons, List.length_nil, iv_length, hl_26])) (part_mid' (pre := (iv .u8 l0_0)) (mid := (([.int .u64 a0_1] : List Value))) (post := (([] : List Value))) (by first | rfl | simp only [List.append_assoc, List.append_nil, List.nil_append, List.cons_append]) (by first | rfl | simp only [List.length_append, List.length_cons, List.length_nil, iv_length, hl0_0])) (EqPl.int Tryd.underlying24) EqFs.nil))) row26 (by first | rfl | simp only [List.length_append, List.length_cons, List.length_nil, iv_length, hl_26]) (by first | rfl | simp only [List.length_append, List.length_cons, List.length_nil, iv_length, hl0_0])) (EqFs.cons (part_mid' (pre := (iv .u8 r_25 ++ ([.int .u64 r_27] : List Value))) (mid := (iv .u8 r_28 ++ ([.int .u64 r_30] : List Value))) (post := (iv .u8 r_31 ++ (([.int .u64 r_33] : List Value) ++ (iv .u8 r_34 ++ ([.int .u64 r_36] : List Value))))) (by first | rfl | simp only [List.append_assoc, List.append_nil, List.nil_append, List.cons_append]) (by first | rfl | simp only [List.length_append, List.length_cons, List.length_nil, iv_length, hl_26])) (part_mid' (pre := (iv .u8 l0_0 ++ ([.int .u64 a0_1] : List Value))) (mid := (iv .u8 l0_2 ++ ([.int .u64 a0_3] : List Value))) (post := (iv .u8 l0_4 ++ (([.int .u64 a0_5] : List Value) ++ (iv .u8 l0_6 ++ ([.int .u64 a0_7] : List Value))))) (by first | rfl | simp only [List.append_assoc, List.append_nil, List.nil_append, List.cons_append]) (by first | rfl | simp only [List.length_append, List.length_cons, List.length_nil, iv_length, hl0_0])) (EqTop.place (EqTop.struct eqs26 (EqFs.cons (part_mid' (pre := (([] : List Value))) (mid := (iv .u8 r_28)) (post := (([.int .u64 r_30] : List Value))) (by first | rfl | simp only [List.append_assoc, List.append_nil, List.nil_append, List.cons_append]) (by first | rfl | simp only [List.length_append, List.length_cons, List.length_nil, iv_length])) (part_mid' (pre := (([] : List Value))) (mid := (iv .u8 l0_2)) (post := (([.int .u64 a0_3] : List Value))) (by first | rfl | simp only [List.append_assoc, List.append_nil, List.nil_append, List.cons_append]) (by first | rfl | simp only [List.length_append, List.length_cons, List.length_nil, iv_length])) (EqTop.place (EqTop.arr arr23 hl_29 hl0_2) row23 (by first | rfl | simp only [List.length_append, List.length_cons, List.length_nil, iv_length, hl_29]) (by first | rfl | simp only [List.length_append, List.length_cons, List.length_nil, iv_length, hl0_2])) (EqFs.cons (part_mid' (pre := (iv .u8 r_28)) (mid := (([.int .u64 r_30] : List Value))) (post := (([] : List Value))) (by first | rfl | simp only [List.append_assoc, List.append_nil, List.nil_append, List.cons_append]) (by first | rfl | simp only [List.length_append, List.length_cons, List.length_nil, iv_length, hl_29])) (part_mid' (pre := (iv .u8 l0_2)) (mid := (([.int .u64 a0_3] : List Value))) (post := (([] : List Value))) (by first | rfl | simp only [List.append_assoc, List.append_nil, List.nil_append, List.cons_append]) (by first | rfl | simp only [List.length_append, List.length_cons, List.length_nil, iv_length, hl0_2])) (EqPl.int Tryd.underlying24) EqFs.nil))) row26 (by first | rfl | simp only [List.length_append, List.length_cons, List.length_nil, iv_length, hl_29]) (by first | rfl | simp only [List.length_append, List.length_cons, List.length_nil, iv_length, hl0_2])) (EqFs.cons (part_mid' (pre := (iv .u8 r_25 ++ (([.int .u64 r_27] : List Value) ++ (iv .u8 r_28 ++ ([.int .u64 r_30] : List Value))))) (mid := (iv .u8 r_31 ++ ([.int .u64 r_33] : List Value))) (post := (iv .u8 r_34 ++ ([.int .u64 r_36] : List Value))) (by first | rfl | simp only [List.append_assoc, List.append_nil, List.nil_append, List.cons_append]) (by first | rfl | simp only [List.length_append, List.length_cons, List.length_nil, iv_length, hl_26, hl_29])) (part_mid' (pre := (iv .u8 l0_0 ++ (([.int .u64 a0_1] : List Value) ++ (iv .u8 l0_2 ++ ([.int .u64 a0_3] : List Value))))) (mid := (iv .u8 l0_4 ++ ([.int .u64 a0_5] : List Value))) (post := (iv .u8 l0_6 ++ ([.int .u64 a0_7] : List Value))) (by first | rfl | simp only [List.append_assoc, List.append_nil, List.nil_append, List.cons_append]) (by first | rfl | simp only [List.length_append, List.length_cons, List.length_nil, iv_length, hl0_0, hl0_2])) (EqTop.place (EqTop.struct eqs26 (EqFs.cons (part_mid' (pre := (([] : List Value))) (mid := (iv .u8 r_31)) (post := (([.int .u64 r_33] : List Value))) (by first | rfl | simp only [List.append_assoc, List.append_nil, List.nil_append, List.cons_append]) (by first | rfl | simp only [List.length_append, List.length_cons, List.length_nil, iv_length])) (part_mid' (pre := (([] : List Value))) (mid := (iv .u8 l0_4)) (post := (([.int .u64 a0_5] : List Value))) (by first | rfl | simp only [List.append_assoc, List.append_nil, List.nil_append, List.cons_append]) (by first | rfl | simp only [List.length_append, List.length_cons, List.length_nil, iv_length])) (EqTop.place (EqTop.arr arr23 hl_32 hl0_4) row23 (by first | rfl | simp only [List.length_append, List.length_cons, List.length_nil, iv_length, hl_32]) (by first | rfl | simp only [List.length_append, List.length_cons, List.length_nil, iv_length, hl0_4])) (EqFs.cons (part_mid' (pre := (iv .u8 r_31)) (mid := (([.int .u64 r_33] : List Value))) (post := (([] : List Value))) (by first | rfl | simp only [List.append_assoc, List.append_nil, List.nil_append, List.cons_append]) (by first | rfl | simp only [List.length_append, List.length_cons, List.length_nil, iv_length, hl_32])) (part_mid' (pre := (iv .u8 l0_4)) (mid := (([.int .u64 a0_5] : List Value))) (post := (([] : List Value))) (by first | rfl | simp only [List.append_assoc, List.append_nil, List.nil_append, List.cons_append]) (by first | rfl | simp only [List.length_append, List.length_cons, List.length_nil, iv_length, hl0_4])) (EqPl.int Tryd.underlying24) EqFs.nil))) row26 (by first | rfl | simp only [List.length_append, List.length_cons, List.length_nil, iv_length, hl_32]) (by first | rfl | simp only [List.length_append, List.length_cons, List.length_nil, iv_length, hl0_4])) (EqFs.cons (part_mid' (pre := (iv .u8 r_25 ++ (([.int .u64 r_27] : List Value) ++ (iv .u8 r_28 ++ (([.int .u64 r_30] : List Value) ++ (iv .u8 r_31 ++ ([.int .u64 r_33] : List Value))))))) (mid := (iv .u8 r_34 ++ ([.int .u64 r_36] : List Value))) (post := (([] : List Value))) (by first | rfl | simp only [List.append_assoc, List.append_nil, List.nil_append, List.cons_append]) (by first | rfl | simp only [List.length_append, List.length_cons, List.length_nil, iv_length, hl_26, hl_29, hl_32])) (part_mid' (pre := (iv .u8 l0_0 ++ (([.int .u64 a0_1] : List Value) ++ (iv .u8 l0_2 ++ (([.int .u64 a0_3] : List Value) ++ (iv .u8 l0_4 ++ ([.int .u64 a0_5] : List Value))))))) (mid := (iv .u8 l0_6 ++ ([.int .u64 a0_7] : List Value))) (post := (([] : List Value))) (by first | rfl | simp only [List.append_assoc, List.append_nil, List.nil_append, List.cons_append]) (by first | rfl | simp only [List.length_append, List.length_cons, List.length_nil, iv_length, hl0_0, hl0_2, hl0_4])) (EqTop.place (EqTop.struct eqs26 (EqFs.cons (part_mid' (pre := (([] : List Value))) (mid := (iv .u8 r_34)) (post := (([.int .u64 r_36] : List Value))) (by first | rfl | simp only [List.append_assoc, List.append_nil, List.nil_append, List.cons_append]) (by first | rfl | simp only [List.length_append, List.length_cons, List.length_nil, iv_length])) (part_mid' (pre := (([] : List Value))) (mid := (iv .u8 l0_6)) (post := (([.int .u64 a0_7] : List Value))) (by first | rfl | simp only [List.append_assoc, List.append_nil, List.nil_append, List.cons_append]) (by first | rfl | simp only [List.length_append, List.length_cons, List.length_nil, iv_length])) (EqTop.place (EqTop.arr arr23 hl_35 hl0_6) row23 (by first | rfl | simp only [List.length_append, List.length_cons, List.length_nil, iv_length, hl_35]) (by first | rfl | simp only [List.length_append, List.length_cons, List.length_nil, iv_length, hl0_6])) (EqFs.cons (part_mid' (pre := (iv .u8 r_34)) (mid := (([.int .u64 r_36] : List Value))) (post := (([] : List Value))) (by first | rfl | simp only [List.append_assoc, List.append_nil, List.nil_append, List.cons_append]) (by first | rfl | simp only [List.length_append, List.length_cons, List.length_nil, iv_length, hl_35])) (part_mid' (pre := (iv .u8 l0_6)) (mid := (([.int .u64 a0_7] : List Value))) (post := (([] : List Value))) (by first | rfl | simp only [List.append_assoc, List.append_nil, List.nil_append, List.cons_append]) (by first | rfl | simp only [List.length_append, List.length_cons, List.length_nil, iv_length, hl0_6])) (EqPl.int Tryd.underlying24) EqFs.nil))) row26 (by first | rfl | simp only [List.length_append, List.length_cons, List.length_nil, iv_length, hl_35]) (by first | rfl | simp only [List.length_append, List.length_cons, List.length_nil, iv_length, hl0_6])) EqFs.nil))))) eqg28 rfl rfl)) ?_; exact Wanted.guard (dj := 43) (by rfl) (evb (by rfl) h_119) (by rfl)
    refine AWC.take 11 rfl (by kernel_rfl) (by kernel_rfl) (by kernel_rfl) (st_110.pick [1, 2, 3, 4, 5] (by decide)) Wanted.none (fun wq sq => (Runs.pick_f (evb rfl h_119) rfl)) ?_
    refine AWC.take 12 rfl (by kernel_rfl) (by kernel_rfl) (by kernel_rfl) (st_110.pick [1, 2, 3, 4, 5] (by decide)) Wanted.none (fun wq sq => (Runs.move rfl)) ?_
    obtain ⟨c_120, H⟩ := H
    have h_121 : (!(((r_25 == l0_0) && ((r_27 == a0_1) && true)) && (((r_28 == l0_2) && ((r_30 == a0_3) && true)) && (((r_31 == l0_4) && ((r_33 == a0_5) && true)) && (((r_34 == l0_6) && ((r_36 == a0_7) && true)) && true))))) = false := (not_f (Decidable.not_not.mp c_120))
    refine AWC.take 13 rfl (by kernel_rfl) (by kernel_rfl) (by kernel_rfl) (st_110.pick [1, 2, 3, 4, 5] (by decide)) ?_ (fun wq sq => (Runs.move rfl)) ?_; exact Wanted.guard (dj := 48) (by rfl) (evb (by rfl) h_121) (by rfl)
    refine AWC.take 14 rfl (by kernel_rfl) (by kernel_rfl) (by kernel_rfl) (st_110.pick [1, 2, 3, 4, 5] (by decide)) ?_ (fun wq sq => (Runs.neq rfl rfl rfl)) ?_; exact Wanted.guard (dj := 48) (by rfl) (evb (by rfl) h_121) (by rfl)
    refine AWC.take 15 rfl (by kernel_rfl) (by kernel_rfl) (by kernel_rfl) (st_110.pick [1, 2, 3, 4, 5] (by decide)) Wanted.none (fun wq sq => (Runs.pick_f (evb rfl h_121) rfl)) ?_
    refine AWC.take 16 rfl (by kernel_rfl) (by kernel_rfl) (by kernel_rfl) (st_110.pick [1, 2, 3, 4, 5] (by decide)) Wanted.none (fun wq sq => (Runs.move rfl)) ?_
    obtain ⟨c_122, H⟩ := H
    have h_123 : (r_37 != 0) = false := (bne_eq_false_iff_eq.mpr (Decidable.not_not.mp c_122))
    refine AWC.take 17 rfl (by kernel_rfl) (by kernel_rfl) (by kernel_rfl) (st_110.pick [1, 2, 3, 4, 5] (by decide)) ?_ (fun wq sq => (Runs.load_mid row28 rfl sq (i := 1) rfl (part_mid (pre := (([] : List Value))) (mid := (iv .u8 r_48 ++ (([.int .u64 r_50] : List Value) ++ (iv .u8 r_51 ++ (([.int .u64 r_53] : List Value) ++ (iv .u8 r_54 ++ (([.int .u64 r_56] : List Value) ++ (iv .u8 r_57 ++ ([.int .u64 r_59] : List Value))))))))) (post := (([] : List Value))) (by first | rfl | simp only [List.append_assoc, List.append_nil, List.nil_append, List.cons_append]) (by first | rfl | simp only [List.length_append, List.length_cons, List.length_nil, iv_length]) (by first | rfl | simp only [List.length_append, List.length_cons, List.length_nil, iv_length, hl_49, hl_52, hl_55, hl_58])) (by first | rfl | simp only [List.length_append, List.length_cons, List.length_nil, iv_length, hl_49, hl_52, hl_55, hl_58]))) ?_; exact Wanted.guard (dj := 52) (by rfl) (evb (by rfl) h_123) (by rfl)
    refine AWC.take 19 rfl (by kernel_rfl) (by kernel_rfl) (by kernel_rfl) (st_110.pick [1, 2, 3, 4, 5] (by decide)) ?_ (fun wq sq => (Runs.load_mid row36 rfl sq (i := 0) rfl (part_mid (pre := (([] : List Value))) (mid := (iv .u8 r_71 ++ (([.int .u64 r_73] : List Value) ++ (iv .u8 r_74 ++ (([.int .u64 r_76] : List Value) ++ (iv .u8 r_77 ++ (([.int .u64 r_79] : List Value) ++ (iv .u8 r_80 ++ ([.int .u64 r_82] : List Value))))))))) (post := (([] : List Value))) (by first | rfl | simp only [List.append_assoc, List.append_nil, List.nil_append, List.cons_append]) (by first | rfl | simp only [List.length_append, List.length_cons, List.length_nil, iv_length]) (by first | rfl | simp only [List.length_append, List.length_cons, List.length_nil, iv_length, hl_72, hl_75, hl_78, hl_81])) (by first | rfl | simp only [List.length_append, List.length_cons, List.length_nil, iv_length, hl_72, hl_75, hl_78, hl_81]))) ?_; exact Wanted.guard (dj := 52) (by rfl) (evb (by rfl) h_123) (by rfl)
    refine AWC.step 18 rfl (by kernel_rfl) ?_; refine WL.on ?_ ?_; exact Wanted.guard (dj := 52) (by rfl) (evb (by rfl) h_123) (by rfl)
    obtain ⟨r_128, r_130, r_131, r_133, r_134, r_136, r_137, r_139, hr_124, H⟩ := H
    refine WL.call Wanted.none ent13 rfl (reliquarylaw10_refs.calls w_109 r_48 r_50 r_51 r_53 r_54 r_56 r_57 r_59 hl_49 hl_52 hl_55 hl_58 r_128 r_130 r_131 r_133 r_134 r_136 r_137 r_139 hr_124) ?_
    rintro _ w_125 ⟨hl_129, hl_132, hl_135, hl_138, rfl, sc_127⟩
    have st_126 : St w w_125 [.sl A_113 c_114 n_115 (iv .u8 r_112) 5 1, .cells B_84 (iv .u8 r_71 ++ (([.int .u64 r_73] : List Value) ++ (iv .u8 r_74 ++ (([.int .u64 r_76] : List Value) ++ (iv .u8 r_77 ++ (([.int .u64 r_79] : List Value) ++ (iv .u8 r_80 ++ ([.int .u64 r_82] : List Value)))))))) 36, .cells B_61 (iv .u8 r_48 ++ (([.int .u64 r_50] : List Value) ++ (iv .u8 r_51 ++ (([.int .u64 r_53] : List Value) ++ (iv .u8 r_54 ++ (([.int .u64 r_56] : List Value) ++ (iv .u8 r_57 ++ ([.int .u64 r_59] : List Value)))))))) 28, .cells B_38 (iv .u8 r_25 ++ (([.int .u64 r_27] : List Value) ++ (iv .u8 r_28 ++ (([.int .u64 r_30] : List Value) ++ (iv .u8 r_31 ++ (([.int .u64 r_33] : List Value) ++ (iv .u8 r_34 ++ ([.int .u64 r_36] : List Value)))))))) 28, .sl A_16 c_17 n_18 (iv .u8 r_15) 5 1, .cells B_1 (iv .u8 l0_0 ++ (([.int .u64 a0_1] : List Value) ++ (iv .u8 l0_2 ++ (([.int .u64 a0_3] : List Value) ++ (iv .u8 l0_4 ++ (([.int .u64 a0_5] : List Value) ++ (iv .u8 l0_6 ++ ([.int .u64 a0_7] : List Value)))))))) 28] := st_110.call sc_127
    refine ⟨_, rfl, ?_⟩
    refine WL.nil ?_
    refine AWC.back (st_126.pick [1, 2, 3, 4, 5] (by decide)) ?_
    refine AWC.take 20 rfl (by kernel_rfl) (by kernel_rfl) (by kernel_rfl) (st_126.pick [1, 2, 3, 4, 5] (by decide)) ?_ (fun wq sq => (Runs.neq_top (EqTop.rows Tryd.underlying36 siz35 rfl (EqFs.cons (part_mid' (pre := (([] : List Value))) (mid := (iv .u8 r_128 ++ ([.int .u64 r_130] : List Value))) (post := (iv .u8 r_131 ++ (([.int .u64 r_133] : List Value) ++ (iv .u8 r_134 ++ (([.int .u64 r_136] : List Value) ++ (iv .u8 r_137 ++ ([.int .u64 r_139] : List Value))))))) (by first | rfl | simp only [List.append_assoc, List.append_nil, List.nil_append, List.cons_append]) (by first | rfl | simp only [List.length_append, List.length_cons, List.length_nil, iv_length])) (part_mid' (pre := (([] : List Value))) (mid := (iv .u8 r_71 ++ ([.int .u64 r_73] : List Value))) (post := (iv .u8 r_74 ++ (([.int .u64 r_76] : List Value) ++ (iv .u8 r_77 ++ (([.int .u64 r_79] : List Value) ++ (iv .u8 r_80 ++ ([.int .u64 r_82] : List Value))))))) (by first | rfl | simp only [List.append_assoc, List.append_nil, List.nil_append, List.cons_append]) (by first | rfl | simp only [List.length_append, List.length_cons, List.length_nil, iv_length])) (EqTop.place (EqTop.struct eqs35 (EqFs.cons (part_mid' (pre := (([] : List Value))) (mid := (iv .u8 r_128)) (post := (([.int .u64 r_130] : List Value))) (by first | rfl | simp only [List.append_assoc, List.append_nil, List.nil_append, List.cons_append]) (by first | rfl | simp only [List.length_append, List.length_cons, List.length_nil, iv_length])) (part_mid' (pre := (([] : List Value))) (mid := (iv .u8 r_71)) (post := (([.int .u64 r_73] : List Value))) (by first | rfl | simp only [List.append_assoc, List.append_nil, List.nil_append, List.cons_append]) (by first | rfl | simp only [List.length_append, List.length_cons, List.length_nil, iv_length])) (EqTop.place (EqTop.arr arr23 hl_129 hl_72) row23 (by first | rfl | simp only [List.length_append, List.length_cons, List.length_nil, iv_length, hl_129]) (by first | rfl | simp only [List.length_append, List.length_cons, List.length_nil, iv_length, hl_72])) (EqFs.cons (part_mid' (pre := (iv .u8 r_128)) (mid := (([.int .u64 r_130] : List Value))) (post := (([] : List Value))) (by first | rfl | simp only [List.append_assoc, List.append_nil, List.nil_append, List.cons_append]) (by first | rfl | simp only [List.length_append, List.length_cons, List.length_nil, iv_length, hl_129])) (part_mid' (pre := (iv .u8 r_71)) (mid := (([.int .u64 r_73] : List Value))) (post := (([] : List Value))) (by first | rfl | simp only [List.append_assoc, List.append_nil, List.nil_append, List.cons_append]) (by first | rfl | simp only [List.length_append, List.length_cons, List.length_nil, iv_length, hl_72])) (EqPl.int Tryd.underlying24) EqFs.nil))) row35 (by first | rfl | simp only [List.length_append, List.length_cons, List.length_nil, iv_length, hl_129]) (by first | rfl | simp only [List.length_append, List.length_cons, List.length_nil, iv_length, hl_72])) (EqFs.cons (part_mid' (pre := (iv .u8 r_128 ++ ([.int .u64 r_130] : List Value))) (mid := (iv .u8 r_131 ++ ([.int .u64 r_133] : List Value))) (post := (iv .u8 r_134 ++ (([.int .u64 r_136] : List Value) ++ (iv .u8 r_137 ++ ([.int .u64 r_139] : List Value))))) (by first | rfl | simp only [List.append_assoc, List.append_nil, List.nil_append, List.cons_append]) (by first | rfl | simp only [List.length_append, List.length_cons, List.length_nil, iv_length, hl_129])) (part_mid' (pre := (iv .u8 r_71 ++ ([.int .u64 r_73] : List Value))) (mid := (iv .u8 r_74 ++ ([.int .u64 r_76] : List Value))) (post := (iv .u8 r_77 ++ (([.int .u64 r_79] : List Value) ++ (iv .u8 r_80 ++ ([.int .u64 r_82] : List Value))))) (by first | rfl | simp only [List.append_assoc, List.append_nil, List.nil_append, List.cons_append]) (by first | rfl | simp only [List.length_append, List.length_cons, List.length_nil, iv_length, hl_72])) (EqTop.place (EqTop.struct eqs35 (EqFs.cons (part_mid' (pre := (([] : List Value))) (mid := (iv .u8 r_131)) (post := (([.int .u64 r_133] : List Value))) (by first | rfl | simp only [List.append_assoc, List.append_nil, List.nil_append, List.cons_append]) (by first | rfl | simp only [List.length_append, List.length_cons, List.length_nil, iv_length])) (part_mid' (pre := (([] : List Value))) (mid := (iv .u8 r_74)) (post := (([.int .u64 r_76] : List Value))) (by first | rfl | simp only [List.append_assoc, List.append_nil, List.nil_append, List.cons_append]) (by first | rfl | simp only [List.length_append, List.length_cons, List.length_nil, iv_length])) (EqTop.place (EqTop.arr arr23 hl_132 hl_75) row23 (by first | rfl | simp only [List.length_append, List.length_cons, List.length_nil, iv_length, hl_132]) (by first | rfl | simp only [List.length_append, List.length_cons, List.length_nil, iv_length, hl_75])) (EqFs.cons (part_mid' (pre := (iv .u8 r_131)) (mid := (([.int .u64 r_133] : List Value))) (post := (([] : List Value))) (by first | rfl | simp only [List.append_assoc, List.append_nil, List.nil_append, List.cons_append]) (by first | rfl | simp only [List.length_append, List.length_cons, List.length_nil, iv_length, hl_132])) (part_mid' (pre := (iv .u8 r_74)) (mid := (([.int .u64 r_76] : List Value))) (post := (([] : List Value))) (by first | rfl | simp only [List.append_assoc, List.append_nil, List.nil_append, List.cons_append]) (by first | rfl | simp only [List.length_append, List.length_cons, List.length_nil, iv_length, hl_75])) (EqPl.int Tryd.underlying24) EqFs.nil))) row35 (by first | rfl | simp only [List.length_append, List.length_cons, List.length_nil, iv_length, hl_132]) (by first | rfl | simp only [List.length_append, List.length_cons, List.length_nil, iv_length, hl_75])) (EqFs.cons (part_mid' (pre := (iv .u8 r_128 ++ (([.int .u64 r_130] : List Value) ++ (iv .u8 r_131 ++ ([.int .u64 r_133] : List Value))))) (mid := (iv .u8 r_134 ++ ([.int .u64 r_136] : List Value))) (post := (iv .u8 r_137 ++ ([.int .u64 r_139] : List Value))) (by first | rfl | simp only [List.append_assoc, List.append_nil, List.nil_append, List.cons_append]) (by first | rfl | simp only [List.length_append, List.length_cons, List.length_nil, iv_length, hl_129, hl_132])) (part_mid' (pre := (iv .u8 r_71 ++ (([.int .u64 r_73] : List Value) ++ (iv .u8 r_74 ++ ([.int .u64 r_76] : List Value))))) (mid := (iv .u8 r_77 ++ ([.int .u64 r_79] : List Value))) (post := (iv .u8 r_80 ++ ([.int .u64 r_82] : List Value))) (by first | rfl | simp only [List.append_assoc, List.append_nil, List.nil_append, List.cons_append]) (by first | rfl | simp only [List.length_append, List.length_cons, List.length_nil, iv_length, hl_72, hl_75])) (EqTop.place (EqTop.struct eqs35 (EqFs.cons (part_mid' (pre := (([] : List Value))) (mid := (iv .u8 r_134)) (post := (([.int .u64 r_136] : List Value))) (by first | rfl | simp only [List.append_assoc, List.append_nil, List.nil_append, List.cons_append]) (by first | rfl | simp only [List.length_append, List.length_cons, List.length_nil, iv_length])) (part_mid' (pre := (([] : List Value))) (mid := (iv .u8 r_77)) (post := (([.int .u64 r_79] : List Value))) (by first | rfl | simp only [List.append_assoc, List.append_nil, List.nil_append, List.cons_append]) (by first | rfl | simp only [List.length_append, List.length_cons, List.length_nil, iv_length])) (EqTop.place (EqTop.arr arr23 hl_135 hl_78) row23 (by first | rfl | simp only [List.length_append, List.length_cons, List.length_nil, iv_length, hl_135]) (by first | rfl | simp only [List.length_append, List.length_cons, List.length_nil, iv_length, hl_78])) (EqFs.cons (part_mid' (pre := (iv .u8 r_134)) (mid := (([.int .u64 r_136] : List Value))) (post := (([] : List Value))) (by first | rfl | simp only [List.append_assoc, List.append_nil, List.nil_append, List.cons_append]) (by first | rfl | simp only [List.length_append, List.length_cons, List.length_nil, iv_length, hl_135])) (part_mid' (pre := (iv .u8 r_77)) (mid := (([.int .u64 r_79] : List Value))) (post := (([] : List Value))) (by first | rfl | simp only [List.append_assoc, List.append_nil, List.nil_append, List.cons_append]) (by first | rfl | simp only [List.length_append, List.length_cons, List.length_nil, iv_length, hl_78])) (EqPl.int Tryd.underlying24) EqFs.nil))) row35 (by first | rfl | simp only [List.length_append, List.length_cons, List.length_nil, iv_length, hl_135]) (by first | rfl | simp only [List.length_append, List.length_cons, List.length_nil, iv_length, hl_78])) (EqFs.cons (part_mid' (pre := (iv .u8 r_128 ++ (([.int .u64 r_130] : List Value) ++ (iv .u8 r_131 ++ (([.int .u64 r_133] : List Value) ++ (iv .u8 r_134 ++ ([.int .u64 r_136] : List Value))))))) (mid := (iv .u8 r_137 ++ ([.int .u64 r_139] : List Value))) (post := (([] : List Value))) (by first | rfl | simp only [List.append_assoc, List.append_nil, List.nil_append, List.cons_append]) (by first | rfl | simp only [List.length_append, List.length_cons, List.length_nil, iv_length, hl_129, hl_132, hl_135])) (part_mid' (pre := (iv .u8 r_71 ++ (([.int .u64 r_73] : List Value) ++ (iv .u8 r_74 ++ (([.int .u64 r_76] : List Value) ++ (iv .u8 r_77 ++ ([.int .u64 r_79] : List Value))))))) (mid := (iv .u8 r_80 ++ ([.int .u64 r_82] : List Value))) (post := (([] : List Value))) (by first | rfl | simp only [List.append_assoc, List.append_nil, List.nil_append, List.cons_append]) (by first | rfl | simp only [List.length_append, List.length_cons, List.length_nil, iv_length, hl_72, hl_75, hl_78])) (EqTop.place (EqTop.struct eqs35 (EqFs.cons (part_mid' (pre := (([] : List Value))) (mid := (iv .u8 r_137)) (post := (([.int .u64 r_139] : List Value))) (by first | rfl | simp only [List.append_assoc, List.append_nil, List.nil_append, List.cons_append]) (by first | rfl | simp only [List.length_append, List.length_cons, List.length_nil, iv_length])) (part_mid' (pre := (([] : List Value))) (mid := (iv .u8 r_80)) (post := (([.int .u64 r_82] : List Value))) (by first | rfl | simp only [List.append_assoc, List.append_nil, List.nil_append, List.cons_append]) (by first | rfl | simp only [List.length_append, List.length_cons, List.length_nil, iv_length])) (EqTop.place (EqTop.arr arr23 hl_138 hl_81) row23 (by first | rfl | simp only [List.length_append, List.length_cons, List.length_nil, iv_length, hl_138]) (by first | rfl | simp only [List.length_append, List.length_cons, List.length_nil, iv_length, hl_81])) (EqFs.cons (part_mid' (pre := (iv .u8 r_137)) (mid := (([.int .u64 r_139] : List Value))) (post := (([] : List Value))) (by first | rfl | simp only [List.append_assoc, List.append_nil, List.nil_append, List.cons_append]) (by first | rfl | simp only [List.length_append, List.length_cons, List.length_nil, iv_length, hl_138])) (part_mid' (pre := (iv .u8 r_80)) (mid := (([.int .u64 r_82] : List Value))) (post := (([] : List Value))) (by first | rfl | simp only [List.append_assoc, List.append_nil, List.nil_append, List.cons_append]) (by first | rfl | simp only [List.length_append, List.length_cons, List.length_nil, iv_length, hl_81])) (EqPl.int Tryd.underlying24) EqFs.nil))) row35 (by first | rfl | simp only [List.length_append, List.length_cons, List.length_nil, iv_length, hl_138]) (by first | rfl | simp only [List.length_append, List.length_cons, List.length_nil, iv_length, hl_81])) EqFs.nil))))) eqg36 rfl rfl)) ?_; exact Wanted.guard (dj := 52) (by rfl) (evb (by rfl) h_123) (by rfl)
    refine AWC.take 21 rfl (by kernel_rfl) (by kernel_rfl) (by kernel_rfl) (st_126.pick [1, 2, 3, 4, 5] (by decide)) Wanted.none (fun wq sq => (Runs.pick_f (evb rfl h_123) rfl)) ?_
    refine AWC.take 22 rfl (by kernel_rfl) (by kernel_rfl) (by kernel_rfl) (st_126.pick [1, 2, 3, 4, 5] (by decide)) Wanted.none (fun wq sq => (Runs.move rfl)) ?_
    obtain ⟨c_140, H⟩ := H
    have h_141 : (!(((r_128 == r_71) && ((r_130 == r_73) && true)) && (((r_131 == r_74) && ((r_133 == r_76) && true)) && (((r_134 == r_77) && ((r_136 == r_79) && true)) && (((r_137 == r_80) && ((r_139 == r_82) && true)) && true))))) = false := (not_f (Decidable.not_not.mp c_140))
    refine AWC.take 23 rfl (by kernel_rfl) (by kernel_rfl) (by kernel_rfl) (st_126.pick [1, 2, 3, 4, 5] (by decide)) ?_ (fun wq sq => (Runs.move rfl)) ?_; exact Wanted.guard (dj := 58) (by rfl) (evb (by rfl) h_141) (by rfl)
    refine AWC.take 24 rfl (by kernel_rfl) (by kernel_rfl) (by kernel_rfl) (st_126.pick [1, 2, 3, 4, 5] (by decide)) ?_ (fun wq sq => (Runs.move rfl)) ?_; exact Wanted.guard (dj := 58) (by rfl) (evb (by rfl) h_141) (by rfl)
    refine AWC.take 25 rfl (by kernel_rfl) (by kernel_rfl) (by kernel_rfl) (st_126.pick [1, 2, 3, 4, 5] (by decide)) ?_ (fun wq sq => (Runs.neq rfl rfl rfl)) ?_; exact Wanted.guard (dj := 58) (by rfl) (evb (by rfl) h_141) (by rfl)
    refine AWC.take 26 rfl (by kernel_rfl) (by kernel_rfl) (by kernel_rfl) (st_126.pick [1, 2, 3, 4, 5] (by decide)) Wanted.none (fun wq sq => (Runs.pick_f (evb rfl h_141) rfl)) ?_
    refine AWC.done (by kernel_rfl) ?_
    refine QW.then_n ?_
    refine CW.sub [(1, .slice A1 n1 c1), (4, .bool false), (9, .pointer (some ⟨B_61, 0, none⟩)), (10, .int .i64 r_60), (62, .bool (r_60 != r_83))] ⟨rfl, rfl, rfl, rfl, rfl, trivial⟩ ?_
    obtain ⟨c_142, H⟩ := H
    have h_143 : (r_60 != r_83) = false := (bne_eq_false_iff_eq.mpr (Decidable.not_not.mp c_142))
    refine CW.cf rfl h_143 ?_
    refine CW.skip ?_
    refine QW.then_n ?_
    refine CW.seq ?_
    refine CW.region_aw wide st_126 (fun w_144 st_145 => ?_)
    refine AWC.enter (C := fun w_ => St w w_ [.sl A_113 c_114 n_115 (iv .u8 r_112) 5 1, .cells B_84 (iv .u8 r_71 ++ (([.int .u64 r_73] : List Value) ++ (iv .u8 r_74 ++ (([.int .u64 r_76] : List Value) ++ (iv .u8 r_77 ++ (([.int .u64 r_79] : List Value) ++ (iv .u8 r_80 ++ ([.int .u64 r_82] : List Value)))))))) 36, .cells B_61 (iv .u8 r_48 ++ (([.int .u64 r_50] : List Value) ++ (iv .u8 r_51 ++ (([.int .u64 r_53] : List Value) ++ (iv .u8 r_54 ++ (([.int .u64 r_56] : List Value) ++ (iv .u8 r_57 ++ ([.int .u64 r_59] : List Value)))))))) 28, .cells B_38 (iv .u8 r_25 ++ (([.int .u64 r_27] : List Value) ++ (iv .u8 r_28 ++ (([.int .u64 r_30] : List Value) ++ (iv .u8 r_31 ++ (([.int .u64 r_33] : List Value) ++ (iv .u8 r_34 ++ ([.int .u64 r_36] : List Value)))))))) 28, .sl A_16 c_17 n_18 (iv .u8 r_15) 5 1, .cells B_1 (iv .u8 l0_0 ++ (([.int .u64 a0_1] : List Value) ++ (iv .u8 l0_2 ++ (([.int .u64 a0_3] : List Value) ++ (iv .u8 l0_4 ++ (([.int .u64 a0_5] : List Value) ++ (iv .u8 l0_6 ++ ([.int .u64 a0_7] : List Value)))))))) 28]) ?_
    refine AWC.take 0 rfl (by kernel_rfl) (by kernel_rfl) (by kernel_rfl) st_145 Wanted.none (fun wq sq => (Runs.move rfl)) ?_
    refine AWC.take 1 rfl (by kernel_rfl) (by kernel_rfl) (by kernel_rfl) st_145 Wanted.none (fun wq sq => (Runs.neq rfl rfl rfl)) ?_
    refine AWC.take 2 rfl (by kernel_rfl) (by kernel_rfl) (by kernel_rfl) st_145 Wanted.none (fun wq sq => (Runs.move rfl)) ?_
    rcases H with ⟨c_146, H⟩ | ⟨c_146, H⟩
    · have h_147 : (r_60 != 0) = true := (bne_iff_ne.mpr c_146)
      refine AWC.takeoff 3 rfl (by kernel_rfl) (by kernel_rfl) (by kernel_rfl) st_145 ?_ ?_; exact Wanted.guard (dj := 65) (by rfl) (evb (by rfl) h_147) (by rfl)
      refine AWC.takeoff 4 rfl (by kernel_rfl) (by kernel_rfl) (by kernel_rfl) st_145 ?_ ?_; exact Wanted.guard (dj := 65) (by rfl) (evb (by rfl) h_147) (by rfl)
      refine AWC.takeoff 5 rfl (by kernel_rfl) (by kernel_rfl) (by kernel_rfl) st_145 ?_ ?_; exact Wanted.guard (dj := 65) (by rfl) (evb (by rfl) h_147) (by rfl)
      refine AWC.takeoff 6 rfl (by kernel_rfl) (by kernel_rfl) (by kernel_rfl) st_145 ?_ ?_; exact Wanted.guard (dj := 65) (by rfl) (evb (by rfl) h_147) (by rfl)
      refine AWC.takeoff 7 rfl (by kernel_rfl) (by kernel_rfl) (by kernel_rfl) st_145 ?_ ?_; exact Wanted.guard (dj := 65) (by rfl) (evb (by rfl) h_147) (by rfl)
      refine AWC.takeoff 8 rfl (by kernel_rfl) (by kernel_rfl) (by kernel_rfl) st_145 ?_ ?_; exact Wanted.guard (dj := 65) (by rfl) (evb (by rfl) h_147) (by rfl)
      refine AWC.take 9 rfl (by kernel_rfl) (by kernel_rfl) (by kernel_rfl) st_145 Wanted.none (fun wq sq => (Runs.pick_t (evb rfl h_147) rfl)) ?_
      refine AWC.take 10 rfl (by kernel_rfl) (by kernel_rfl) (by kernel_rfl) st_145 Wanted.none (fun wq sq => (Runs.assign rfl)) ?_
      refine AWC.done (by kernel_rfl) ?_
      refine QW.then_n ?_
      refine CW.sub [(4, .bool true)] ⟨rfl, trivial⟩ ?_
      refine CW.ret ?_
      exact QW.ret1 rfl rfl ⟨rfl, st_145.ext⟩
    · have h_147 : (r_60 != 0) = false := (bne_eq_false_iff_eq.mpr (Decidable.not_not.mp c_146))
      refine AWC.take 3 rfl (by kernel_rfl) (by kernel_rfl) (by kernel_rfl) st_145 ?_ (fun wq sq => (Runs.load_mid row28 rfl sq (i := 2) rfl (part_mid (pre := (([] : List Value))) (mid := (iv .u8 r_48 ++ (([.int .u64 r_50] : List Value) ++ (iv .u8 r_51 ++ (([.int .u64 r_53] : List Value) ++ (iv .u8 r_54 ++ (([.int .u64 r_56] : List Value) ++ (iv .u8 r_57 ++ ([.int .u64 r_59] : List Value))))))))) (post := (([] : List Value))) (by first | rfl | simp only [List.append_assoc, List.append_nil, List.nil_append, List.cons_append]) (by first | rfl | simp only [List.length_append, List.length_cons, List.length_nil, iv_length]) (by first | rfl | simp only [List.length_append, List.length_cons, List.length_nil, iv_length, hl_49, hl_52, hl_55, hl_58])) (by first | rfl | simp only [List.length_append, List.length_cons, List.length_nil, iv_length, hl_49, hl_52, hl_55, hl_58]))) ?_; exact Wanted.guard (dj := 65) (by rfl) (evb (by rfl) h_147) (by rfl)
      refine AWC.take 6 rfl (by kernel_rfl) (by kernel_rfl) (by kernel_rfl) st_145 ?_ (fun wq sq => (Runs.move rfl)) ?_; exact Wanted.guard (dj := 65) (by rfl) (evb (by rfl) h_147) (by rfl)
      refine AWC.take 7 rfl (by kernel_rfl) (by kernel_rfl) (by kernel_rfl) st_145 ?_ (fun wq sq => (Runs.bytes_str Tryd.underlying29 Tryd.underlying5 Tryd.underlying9 rfl (hs1.ext sq) hn1)) ?_; exact Wanted.guard (dj := 65) (by rfl) (evb (by rfl) h_147) (by rfl)
      refine AWC.step 4 rfl (by kernel_rfl) ?_; refine WL.on ?_ ?_; exact Wanted.guard (dj := 65) (by rfl) (evb (by rfl) h_147) (by rfl)
      obtain ⟨r_152, hr_148, H⟩ := H
      refine WL.call Wanted.none ent9 rfl (tree_Put.calls w_144 r_48 r_50 r_51 r_53 r_54 r_56 r_57 r_59 hl_49 hl_52 hl_55 hl_58 r_152 hr_148) ?_
      rintro _ w_149 ⟨A_153, c_154, n_155, hn_156, rfl, sc_151⟩
      have st_150 : St w w_149 [.sl A_153 c_154 n_155 (iv .u8 r_152) 5 1, .sl A_113 c_114 n_115 (iv .u8 r_112) 5 1, .cells B_84 (iv .u8 r_71 ++ (([.int .u64 r_73] : List Value) ++ (iv .u8 r_74 ++ (([.int .u64 r_76] : List Value) ++ (iv .u8 r_77 ++ (([.int .u64 r_79] : List Value) ++ (iv .u8 r_80 ++ ([.int .u64 r_82] : List Value)))))))) 36, .cells B_61 (iv .u8 r_48 ++ (([.int .u64 r_50] : List Value) ++ (iv .u8 r_51 ++ (([.int .u64 r_53] : List Value) ++ (iv .u8 r_54 ++ (([.int .u64 r_56] : List Value) ++ (iv .u8 r_57 ++ ([.int .u64 r_59] : List Value)))))))) 28, .cells B_38 (iv .u8 r_25 ++ (([.int .u64 r_27] : List Value) ++ (iv .u8 r_28 ++ (([.int .u64 r_30] : List Value) ++ (iv .u8 r_31 ++ (([.int .u64 r_33] : List Value) ++ (iv .u8 r_34 ++ ([.int .u64 r_36] : List Value)))))))) 28, .sl A_16 c_17 n_18 (iv .u8 r_15) 5 1, .cells B_1 (iv .u8 l0_0 ++ (([.int .u64 a0_1] : List Value) ++ (iv .u8 l0_2 ++ (([.int .u64 a0_3] : List Value) ++ (iv .u8 l0_4 ++ (([.int .u64 a0_5] : List Value) ++ (iv .u8 l0_6 ++ ([.int .u64 a0_7] : List Value)))))))) 28] := st_145.call sc_151
      refine ⟨_, rfl, ?_⟩
      refine WL.nil ?_
      refine AWC.back (st_150.pick [1, 2, 3, 4, 5, 6] (by decide)) ?_
      refine AWC.step 5 rfl (by kernel_rfl) ?_; refine WL.on ?_ ?_; exact Wanted.guard (dj := 65) (by rfl) (evb (by rfl) h_147) (by rfl)
      refine WL.val Wanted.none (Runs.bytes_str Tryd.underlying29 Tryd.underlying5 Tryd.underlying9 rfl (st_150.src_sl (k := 0) rfl) hn_156) ?_
      refine WL.nil ?_
      refine AWC.back (st_150.pick [1, 2, 3, 4, 5, 6] (by decide)) ?_
      refine AWC.take 8 rfl (by kernel_rfl) (by kernel_rfl) (by kernel_rfl) (st_150.pick [1, 2, 3, 4, 5, 6] (by decide)) ?_ (fun wq sq => (Runs.eqs rfl rfl rfl)) ?_; exact Wanted.guard (dj := 65) (by rfl) (evb (by rfl) h_147) (by rfl)
      refine AWC.take 9 rfl (by kernel_rfl) (by kernel_rfl) (by kernel_rfl) (st_150.pick [1, 2, 3, 4, 5, 6] (by decide)) Wanted.none (fun wq sq => (Runs.pick_f (evb rfl h_147) rfl)) ?_
      refine AWC.take 10 rfl (by kernel_rfl) (by kernel_rfl) (by kernel_rfl) (st_150.pick [1, 2, 3, 4, 5, 6] (by decide)) Wanted.none (fun wq sq => (Runs.assign rfl)) ?_
      refine AWC.done (by kernel_rfl) ?_
      refine QW.then_n ?_
      refine CW.sub [(4, .bool ((strOfNums r_152).toList == (strOfNums l1).toList))] ⟨rfl, trivial⟩ ?_
      refine CW.ret ?_
      have hz : ((strOfNums r_152).toList == (strOfNums l1).toList) = true := (beq_iff_eq.mpr H)
      exact QW.ret1 rfl (evb rfl hz) ⟨rfl, st_150.ext⟩

/-! ### reliquaryref02_right: function 34 -/
def reliquaryref02_right.rel (a0 : Int) (a1 : Int) (r0 : Int) : Prop := (0 ≤ a1 ∧ (0 ≤ (IntKind.u64.wrap (32 - a1)) ∧ (∃ x_3 : Int, x_3 = bits .or .u32 (shrI .u32 a0 a1) (shlI .u32 a0 (IntKind.u64.wrap (32 - a1))) ∧ r0 = x_3)))
set_option maxHeartbeats 4000000 in
set_option maxRecDepth 100000 in
theorem reliquaryref02_right.calls (w : World) (a0 : Int) (a1 : Int)    (r0 : Int) (H : reliquaryref02_right.rel a0 a1 r0) :
    Calls Tryd.prog 34 #[.int .u32 a0, .int .u64 a1] w fun e w' => e = .returned (.int .u32 r0) ∧ St w w' [] := by
  refine CW.enter Tryd.func34 rfl (n := 13) rfl [.int .u32 a0, .int .u64 a1] (Nat.le_of_ble_eq_true rfl) ?_
  refine CW.sub [(0, .int .u32 a0), (1, .int .u64 a1)] ⟨rfl, rfl, trivial⟩ ?_
  have st0 : St w w [] := St.refl w
  refine CW.seq ?_
  refine CW.region ?_
  refine WL.val Wanted.none (Runs.assign rfl) ?_
  refine WL.nil ?_
  refine QW.then_n ?_
  refine CW.seq ?_
  refine CW.region ?_
  refine WL.val Wanted.none (Runs.move rfl) ?_
  refine WL.val Wanted.none (Runs.move rfl) ?_
  obtain ⟨z_1, H⟩ := H
  refine WL.val Wanted.none (Runs.shr rfl rfl z_1 rfl) ?_
  refine WL.val Wanted.none (Runs.move rfl) ?_
  refine WL.val Wanted.none (Runs.move rfl) ?_
  refine WL.val Wanted.none (Runs.sub rfl rfl rfl) ?_
  obtain ⟨z_2, H⟩ := H
  refine WL.val Wanted.none (Runs.shl rfl rfl z_2 rfl) ?_
  obtain ⟨x_3, e_4, H⟩ := H
  refine WL.val Wanted.none (Runs.bor rfl rfl e_4) ?_
  refine WL.val Wanted.none (Runs.assign rfl) ?_
  refine WL.nil ?_
  refine QW.then_n ?_
  refine CW.sub [(4, .int .u32 x_3)] ⟨rfl, trivial⟩ ?_
  refine CW.ret ?_
  obtain rfl := H
  exact QW.ret1 rfl rfl ⟨rfl, st0.pick [] (by decide)⟩

/-! ### reliquaryref02_Rounds: function 35 -/
def reliquaryref02_Rounds.rel  (r0 : List Int) : Prop := (∃ m_5 : List Int, m_5 = [1116352408, 1899447441, 3049323471, 3921009573, 961987163, 1508970993, 2453635748, 2870763221, 3624381080, 310598401, 607225278, 1426881987, 1925078388, 2162078206, 2614888103, 3248222580, 3835390401, 4022224774, 264347078, 604807628, 770255983, 1249150122, 1555081692, 1996064986, 2554220882, 2821834349, 2952996808, 3210313671, 3336571891, 3584528711, 113926993, 338241895, 666307205, 773529912, 1294757372, 1396182291, 1695183700, 1986661051, 2177026350, 2456956037, 2730485921, 2820302411, 3259730800, 3345764771, 3516065817, 3600352804, 4094571909, 275423344, 430227734, 506948616, 659060556, 883997877, 958139571, 1322822218, 1537002063, 1747873779, 1955562222, 2024104815, 2227730452, 2361852424, 2428436474, 2756734187, 3204031479, 3329325298] ∧ r0 = m_5)
set_option maxHeartbeats 4000000 in
set_option maxRecDepth 100000 in
theorem reliquaryref02_Rounds.calls (w : World)     (r0 : List Int) (H : reliquaryref02_Rounds.rel  r0) :
    Calls Tryd.prog 35 #[] w fun e w' => r0.length = 64 ∧ e = .returned (.agg (iv .u32 r0).toArray) ∧ St w w' [] := by
  refine CW.enter Tryd.func35 rfl (n := 2) rfl [] (Nat.le_of_ble_eq_true rfl) ?_
  refine CW.sub [] trivial ?_
  have st0 : St w w [] := St.refl w
  refine CW.seq ?_
  refine CW.region ?_
  refine WL.alloc st0 arr68.zero ?_
  intro B_1 w_2 st_3
  replace st_3 : St w w_2 [.cells B_1 (iv .u32 (List.replicate 64 (0 : Int))) 68] := st_3
  refine WL.nil ?_
  refine QW.then_n ?_
  refine CW.seq ?_
  refine CW.region ?_
  obtain ⟨m_5, e_6, H⟩ := H
  refine WL.val Wanted.none (Runs.build_arr (xs := m_5) arr68 rfl rfl (by rw [e_6]; rfl)) ?_
  refine WL.store_arr (i := 0) st_3 rfl arr68 rfl (by rw [iv_length]; exact (List.length_replicate ..)) (by rw [e_6]; rfl) rfl ?_
  intro w_7 st_8
  replace st_8 : St w w_7 [.cells B_1 (iv .u32 m_5) 68] := st_8
  refine WL.nil ?_
  refine QW.then_n ?_
  refine CW.ret ?_
  obtain rfl := H
  exact QW.retc rfl arr68 rfl (st_8.blk (i := 0) rfl) (by rw [e_6]; rfl) ⟨(by rw [e_6]; rfl), rfl, st_8.pick [] (by decide)⟩

/-! ### reliquaryref02_block: function 28 -/
def reliquaryref02_block.L4 (m_62 : List Int) (x_150 : Int) (x_177 : Int) (r_187 : Int) (r_192 : Int) (r_197 : Int) (x_200 : Int) (K_L3 : (List Int) → Int → Prop) : Nat → (List Int) → Int → Prop
  | 0, _, _ => False
  | kL4 + 1, m_203, x_205 => ((x_205 > 0 ∧ ((0 ≤ (IntKind.i64.wrap (x_205 - 1)) ∧ (IntKind.i64.wrap (x_205 - 1)) < (8 : Int)) ∧ ((0 ≤ x_205 ∧ x_205 < (8 : Int)) ∧ (∃ m_215 : List Int, m_215 = List.set m_203 ((x_205).toNat) (gn m_203 ((IntKind.i64.wrap (x_205 - 1)).toNat)) ∧ reliquaryref02_block.L4 m_62 x_150 x_177 r_187 r_192 r_197 x_200 K_L3 kL4 m_215 (IntKind.i64.wrap (x_205 - 1)))))) ∨ (¬ (x_205 > 0) ∧ (∃ x_220 : Int, x_220 = IntKind.u32.wrap ((gn m_203 4) + (IntKind.u32.wrap (x_177 + (gn m_62 ((x_150).toNat))))) ∧ (∃ m_222 : List Int, m_222 = List.set m_203 4 x_220 ∧ (∃ x_227 : Int, x_227 = IntKind.u32.wrap ((IntKind.u32.wrap (x_177 + (gn m_62 ((x_150).toNat)))) + (bits .xor .u32 (bits .xor .u32 r_187 r_192) r_197)) ∧ (∃ m_229 : List Int, m_229 = List.set m_222 0 (IntKind.u32.wrap (x_227 + x_200)) ∧ K_L3 m_229 (IntKind.i64.wrap (x_150 + 1))))))))
def reliquaryref02_block.L5 (l0 : List Int) (r0 : List Int) : Nat → (List Int) → Int → Prop
  | 0, _, _ => False
  | kL5 + 1, m_235, x_237 => ((x_237 < 8 ∧ ((0 ≤ x_237 ∧ x_237 < (8 : Int)) ∧ ((0 ≤ x_237 ∧ x_237 < (8 : Int)) ∧ (∃ x_247 : Int, x_247 = IntKind.u32.wrap ((gn m_235 ((x_237).toNat)) + (gn l0 ((x_237).toNat))) ∧ ((0 ≤ x_237 ∧ x_237 < (8 : Int)) ∧ (∃ m_253 : List Int, m_253 = List.set m_235 ((x_237).toNat) x_247 ∧ reliquaryref02_block.L5 l0 r0 kL5 m_253 (IntKind.i64.wrap (x_237 + 1)))))))) ∨ (¬ (x_237 < 8) ∧ r0 = m_235))
def reliquaryref02_block.L3 (l0 : List Int) (r0 : List Int) (m_62 : List Int) (r_131 : List Int) : Nat → (List Int) → Int → Prop
  | 0, _, _ => False
  | kL3 + 1, m_148, x_150 => ((x_150 < 64 ∧ (∃ (r_160 : Int), reliquaryref02_right.rel (gn m_148 4) 6 r_160 ∧ (∃ (r_165 : Int), reliquaryref02_right.rel (gn m_148 4) 11 r_165 ∧ (∃ (r_170 : Int), reliquaryref02_right.rel (gn m_148 4) 25 r_170 ∧ (∃ x_171 : Int, x_171 = bits .xor .u32 (bits .and .u32 (gn m_148 4) (gn m_148 5)) (bits .and .u32 (notI .u32 (gn m_148 4)) (gn m_148 6)) ∧ (∃ x_173 : Int, x_173 = IntKind.u32.wrap ((gn m_148 7) + (bits .xor .u32 (bits .xor .u32 r_160 r_165) r_170)) ∧ ((0 ≤ x_150 ∧ x_150 < (64 : Int)) ∧ (∃ x_177 : Int, x_177 = IntKind.u32.wrap ((IntKind.u32.wrap (x_173 + x_171)) + (gn r_131 ((x_150).toNat))) ∧ ((0 ≤ x_150 ∧ x_150 < (64 : Int)) ∧ (∃ (r_187 : Int), reliquaryref02_right.rel (gn m_148 0) 2 r_187 ∧ (∃ (r_192 : Int), reliquaryref02_right.rel (gn m_148 0) 13 r_192 ∧ (∃ (r_197 : Int), reliquaryref02_right.rel (gn m_148 0) 22 r_197 ∧ (∃ x_198 : Int, x_198 = bits .xor .u32 (bits .and .u32 (gn m_148 0) (gn m_148 1)) (bits .and .u32 (gn m_148 0) (gn m_148 2)) ∧ (∃ x_200 : Int, x_200 = bits .xor .u32 x_198 (bits .and .u32 (gn m_148 1) (gn m_148 2)) ∧ (∃ k_ : Nat, reliquaryref02_block.L4 m_62 x_150 x_177 r_187 r_192 r_197 x_200 (reliquaryref02_block.L3 l0 r0 m_62 r_131 kL3) k_ m_148 7))))))))))))))) ∨ (¬ (x_150 < 64) ∧ (∃ k_ : Nat, reliquaryref02_block.L5 l0 r0 k_ m_148 0)))
def reliquaryref02_block.L2 (l0 : List Int) (r0 : List Int) : Nat → (List Int) → Int → Prop
  | 0, _, _ => False
  | kL2 + 1, m_62, x_64 => ((x_64 < 64 ∧ ((0 ≤ (IntKind.i64.wrap (x_64 - 15)) ∧ (IntKind.i64.wrap (x_64 - 15)) < (64 : Int)) ∧ (∃ (r_76 : Int), reliquaryref02_right.rel (gn m_62 ((IntKind.i64.wrap (x_64 - 15)).toNat)) 7 r_76 ∧ ((0 ≤ (IntKind.i64.wrap (x_64 - 15)) ∧ (IntKind.i64.wrap (x_64 - 15)) < (64 : Int)) ∧ (∃ (r_83 : Int), reliquaryref02_right.rel (gn m_62 ((IntKind.i64.wrap (x_64 - 15)).toNat)) 18 r_83 ∧ ((0 ≤ (IntKind.i64.wrap (x_64 - 15)) ∧ (IntKind.i64.wrap (x_64 - 15)) < (64 : Int)) ∧ (∃ x_86 : Int, x_86 = bits .xor .u32 (bits .xor .u32 r_76 r_83) (shrI .u32 (gn m_62 ((IntKind.i64.wrap (x_64 - 15)).toNat)) 3) ∧ ((0 ≤ (IntKind.i64.wrap (x_64 - 2)) ∧ (IntKind.i64.wrap (x_64 - 2)) < (64 : Int)) ∧ (∃ (r_96 : Int), reliquaryref02_right.rel (gn m_62 ((IntKind.i64.wrap (x_64 - 2)).toNat)) 17 r_96 ∧ ((0 ≤ (IntKind.i64.wrap (x_64 - 2)) ∧ (IntKind.i64.wrap (x_64 - 2)) < (64 : Int)) ∧ (∃ (r_103 : Int), reliquaryref02_right.rel (gn m_62 ((IntKind.i64.wrap (x_64 - 2)).toNat)) 19 r_103 ∧ ((0 ≤ (IntKind.i64.wrap (x_64 - 2)) ∧ (IntKind.i64.wrap (x_64 - 2)) < (64 : Int)) ∧ (∃ x_106 : Int, x_106 = bits .xor .u32 (bits .xor .u32 r_96 r_103) (shrI .u32 (gn m_62 ((IntKind.i64.wrap (x_64 - 2)).toNat)) 10) ∧ ((0 ≤ (IntKind.i64.wrap (x_64 - 16)) ∧ (IntKind.i64.wrap (x_64 - 16)) < (64 : Int)) ∧ (∃ x_112 : Int, x_112 = IntKind.u32.wrap ((gn m_62 ((IntKind.i64.wrap (x_64 - 16)).toNat)) + x_86) ∧ ((0 ≤ (IntKind.i64.wrap (x_64 - 7)) ∧ (IntKind.i64.wrap (x_64 - 7)) < (64 : Int)) ∧ (∃ x_116 : Int, x_116 = IntKind.u32.wrap (x_112 + (gn m_62 ((IntKind.i64.wrap (x_64 - 7)).toNat))) ∧ ((0 ≤ x_64 ∧ x_64 < (64 : Int)) ∧ (∃ m_122 : List Int, m_122 = List.set m_62 ((x_64).toNat) (IntKind.u32.wrap (x_116 + x_106)) ∧ reliquaryref02_block.L2 l0 r0 kL2 m_122 (IntKind.i64.wrap (x_64 + 1))))))))))))))))))))) ∨ (¬ (x_64 < 64) ∧ (∃ (r_131 : List Int), reliquaryref02_Rounds.rel  r_131 ∧ (∃ k_ : Nat, reliquaryref02_block.L3 l0 r0 m_62 r_131 k_ l0 0))))
def reliquaryref02_block.L1 (l0 : List Int) (l1 : List Int) (a2 : Int) (r0 : List Int) : Nat → (List Int) → Int → Prop
  | 0, _, _ => False
  | kL1 + 1, m_14, x_16 => ((x_16 < 16 ∧ ((0 ≤ (IntKind.i64.wrap (a2 + (IntKind.i64.wrap (4 * x_16)))) ∧ (IntKind.i64.wrap (a2 + (IntKind.i64.wrap (4 * x_16)))) < (l1.length : Int)) ∧ (∃ x_26 : Int, x_26 = IntKind.u32.wrap (gn l1 ((IntKind.i64.wrap (a2 + (IntKind.i64.wrap (4 * x_16)))).toNat)) ∧ (∃ x_28 : Int, x_28 = IntKind.i64.wrap ((IntKind.i64.wrap (a2 + (IntKind.i64.wrap (4 * x_16)))) + 1) ∧ ((0 ≤ x_28 ∧ x_28 < (l1.length : Int)) ∧ (∃ x_34 : Int, x_34 = IntKind.u32.wrap ((shlI .u32 x_26 24) + (shlI .u32 (IntKind.u32.wrap (gn l1 ((x_28).toNat))) 16)) ∧ (∃ x_36 : Int, x_36 = IntKind.i64.wrap ((IntKind.i64.wrap (a2 + (IntKind.i64.wrap (4 * x_16)))) + 2) ∧ ((0 ≤ x_36 ∧ x_36 < (l1.length : Int)) ∧ (∃ x_42 : Int, x_42 = IntKind.u32.wrap (x_34 + (shlI .u32 (IntKind.u32.wrap (gn l1 ((x_36).toNat))) 8)) ∧ (∃ x_44 : Int, x_44 = IntKind.i64.wrap ((IntKind.i64.wrap (a2 + (IntKind.i64.wrap (4 * x_16)))) + 3) ∧ ((0 ≤ x_44 ∧ x_44 < (l1.length : Int)) ∧ (∃ x_50 : Int, x_50 = IntKind.u32.wrap (x_42 + (IntKind.u32.wrap (gn l1 ((x_44).toNat)))) ∧ ((0 ≤ x_16 ∧ x_16 < (64 : Int)) ∧ (∃ m_56 : List Int, m_56 = List.set m_14 ((x_16).toNat) x_50 ∧ reliquaryref02_block.L1 l0 l1 a2 r0 kL1 m_56 (IntKind.i64.wrap (x_16 + 1)))))))))))))))) ∨ (¬ (x_16 < 16) ∧ (∃ k_ : Nat, reliquaryref02_block.L2 l0 r0 k_ m_14 16)))
def reliquaryref02_block.rel (l0 : List Int) (l1 : List Int) (a2 : Int) (r0 : List Int) : Prop := (∃ k_ : Nat, reliquaryref02_block.L1 l0 l1 a2 r0 k_ (List.replicate 64 (0 : Int)) 0)
set_option maxHeartbeats 4000000 in
set_option maxRecDepth 100000 in
theorem reliquaryref02_block.calls (w : World) (l0 : List Int) (l1 : List Int) (a2 : Int) (A1 : Option Addr) (n1 : Nat) (c1 : Nat)  (hl0 : l0.length = 8) (hs1 : Src w A1 (iv .u8 l1)) (hn1 : n1 = l1.length) (hc1 : n1 ≤ c1) (r0 : List Int) (H : reliquaryref02_block.rel l0 l1 a2 r0) :
    Calls Tryd.prog 28 #[.agg (iv .u32 l0).toArray, .slice A1 n1 c1, .int .i64 a2] w fun e w' => r0.length = 8 ∧ e = .returned (.agg (iv .u32 r0).toArray) ∧ St w w' [] := by
  refine CW.enter Tryd.func28 rfl (n := 223) rfl [.agg (iv .u32 l0).toArray, .slice A1 n1 c1, .int .i64 a2] (Nat.le_of_ble_eq_true rfl) ?_
  refine CW.sub [(0, .agg (iv .u32 l0).toArray), (1, .slice A1 n1 c1), (2, .int .i64 a2)] ⟨rfl, rfl, rfl, trivial⟩ ?_
  have st0 : St w w [] := St.refl w
  refine CW.seq ?_
  refine CW.region ?_
  refine WL.box st0 rfl rfl ?_
  intro B_1 w_2 st_3
  replace st_3 : St w w_2 [.cells B_1 (iv .u32 l0) 61] := st_3
  refine WL.alloc st_3 arr61.zero ?_
  intro B_5 w_6 st_7
  replace st_7 : St w w_6 [.cells B_5 (iv .u32 (List.replicate 8 (0 : Int))) 61, .cells B_1 (iv .u32 l0) 61] := st_7
  refine WL.nil ?_
  refine QW.then_n ?_
  refine CW.seq ?_
  refine CW.region ?_
  refine WL.alloc st_7 arr68.zero ?_
  intro B_9 w_10 st_11
  replace st_11 : St w w_10 [.cells B_9 (iv .u32 (List.replicate 64 (0 : Int))) 68, .cells B_5 (iv .u32 (List.replicate 8 (0 : Int))) 61, .cells B_1 (iv .u32 l0) 61] := st_11
  refine WL.nil ?_
  refine QW.then_n ?_
  refine CW.seq ?_
  refine CW.seq ?_
  refine CW.region ?_
  refine WL.val Wanted.none (Runs.assign rfl) ?_
  refine WL.nil ?_
  refine QW.then_n ?_
  refine CW.block ?_
  obtain ⟨k_13, H⟩ := H
  refine CW.sub [(1, .slice A1 n1 c1), (2, .int .i64 a2), (3, .pointer (some ⟨B_1, 0, none⟩)), (6, .pointer (some ⟨B_5, 0, none⟩)), (7, .pointer (some ⟨B_9, 0, none⟩)), (8, .int .i64 0)] ⟨rfl, rfl, rfl, rfl, rfl, rfl, trivial⟩ ?_
  refine CW.loop (fun kL1 l_ w_ => ∃ (m_14 : List Int) (x_16 : Int), l_ = [(1, .slice A1 n1 c1), (2, .int .i64 a2), (3, .pointer (some ⟨B_1, 0, none⟩)), (6, .pointer (some ⟨B_5, 0, none⟩)), (7, .pointer (some ⟨B_9, 0, none⟩)), (8, .int .i64 x_16)] ∧ reliquaryref02_block.L1 l0 l1 a2 r0 kL1 m_14 x_16 ∧ (m_14.length = 64) ∧ St w w_ [.cells B_9 (iv .u32 m_14) 68, .cells B_5 (iv .u32 (List.replicate 8 (0 : Int))) 61, .cells B_1 (iv .u32 l0) 61]) (k := k_13) ⟨List.replicate 64 (0 : Int), 0, rfl, H, (List.length_replicate ..), st_11⟩ (fun _ _ h => by obtain ⟨_, _, _, h, _⟩ := h; exact h.elim) ?_
  rintro kL1 l_19 w_17 ⟨m_14, x_16, rfl, H, hl_15, st_18⟩
  refine CW.seq ?_
  refine CW.seq ?_
  refine CW.region ?_
  refine WL.val Wanted.none (Runs.move rfl) ?_
  refine WL.val Wanted.none (Runs.lss rfl rfl rfl) ?_
  refine WL.nil ?_
  refine QW.then_n ?_
  rcases H with ⟨c_20, H⟩ | ⟨c_20, H⟩
  · have h_21 : (decide (x_16 < 16)) = true := (decide_eq_true c_20)
    refine CW.ct rfl h_21 ?_
    refine CW.skip ?_
    refine QW.then_n ?_
    refine CW.seq ?_
    refine CW.block ?_
    refine CW.region_qt 43 wide (by kernel_rfl) st_18 ?_
    refine HL.val Wanted.none (fun wq sq => (Runs.move rfl)) ?_
    refine HL.val Wanted.none (fun wq sq => (Runs.move rfl)) ?_
    refine HL.val Wanted.none (fun wq sq => (Runs.move rfl)) ?_
    refine HL.val Wanted.none (fun wq sq => (Runs.move rfl)) ?_
    refine HL.val Wanted.none (fun wq sq => (Runs.mul rfl rfl rfl)) ?_
    refine HL.val Wanted.none (fun wq sq => (Runs.add rfl rfl rfl)) ?_
    obtain ⟨⟨p_22, q_23⟩, H⟩ := H
    obtain ⟨a_24, e_25⟩ := (hs1.ext st_18).addr_iv ((IntKind.i64.wrap (a2 + (IntKind.i64.wrap (4 * x_16)))).toNat) (by omega)
    refine HL.val Wanted.none (fun wq sq => (Runs.indexAddr Tryd.underlying29 cells5 (by decide) rfl e_25 rfl p_22 (by rw [hn1]; exact q_23) (o := (IntKind.i64.wrap (a2 + (IntKind.i64.wrap (4 * x_16)))).toNat) (by first | rfl | omega))) ?_
    refine HL.val Wanted.none (fun wq sq => (Runs.load nagg5 rfl ((hs1.ext sq).cell_iv e_25 (by omega)))) ?_
    obtain ⟨x_26, e_27, H⟩ := H
    refine HL.val Wanted.none (fun wq sq => (Runs.conv Tryd.underlying42 ⟨_, Tryd.underlying5⟩ rfl e_27)) ?_
    refine HL.val Wanted.none (fun wq sq => (Runs.shl rfl rfl (by decide) rfl)) ?_
    refine HL.val Wanted.none (fun wq sq => (Runs.move rfl)) ?_
    refine HL.val Wanted.none (fun wq sq => (Runs.move rfl)) ?_
    refine HL.val Wanted.none (fun wq sq => (Runs.move rfl)) ?_
    refine HL.val Wanted.none (fun wq sq => (Runs.mul rfl rfl rfl)) ?_
    refine HL.val Wanted.none (fun wq sq => (Runs.add rfl rfl rfl)) ?_
    obtain ⟨x_28, e_29, H⟩ := H
    refine HL.val Wanted.none (fun wq sq => (Runs.add rfl rfl e_29)) ?_
    obtain ⟨⟨p_30, q_31⟩, H⟩ := H
    obtain ⟨a_32, e_33⟩ := (hs1.ext st_18).addr_iv ((x_28).toNat) (by omega)
    refine HL.val Wanted.none (fun wq sq => (Runs.indexAddr Tryd.underlying29 cells5 (by decide) rfl e_33 rfl p_30 (by rw [hn1]; exact q_31) (o := (x_28).toNat) (by first | rfl | omega))) ?_
    refine HL.val Wanted.none (fun wq sq => (Runs.load nagg5 rfl ((hs1.ext sq).cell_iv e_33 (by omega)))) ?_
    refine HL.val Wanted.none (fun wq sq => (Runs.conv Tryd.underlying42 ⟨_, Tryd.underlying5⟩ rfl rfl)) ?_
    refine HL.val Wanted.none (fun wq sq => (Runs.shl rfl rfl (by decide) rfl)) ?_
    obtain ⟨x_34, e_35, H⟩ := H
    refine HL.val Wanted.none (fun wq sq => (Runs.add rfl rfl e_35)) ?_
    refine HL.val Wanted.none (fun wq sq => (Runs.move rfl)) ?_
    refine HL.val Wanted.none (fun wq sq => (Runs.move rfl)) ?_
    refine HL.val Wanted.none (fun wq sq => (Runs.move rfl)) ?_
    refine HL.val Wanted.none (fun wq sq => (Runs.mul rfl rfl rfl)) ?_
    refine HL.val Wanted.none (fun wq sq => (Runs.add rfl rfl rfl)) ?_
    obtain ⟨x_36, e_37, H⟩ := H
    refine HL.val Wanted.none (fun wq sq => (Runs.add rfl rfl e_37)) ?_
    obtain ⟨⟨p_38, q_39⟩, H⟩ := H
    obtain ⟨a_40, e_41⟩ := (hs1.ext st_18).addr_iv ((x_36).toNat) (by omega)
    refine HL.val Wanted.none (fun wq sq => (Runs.indexAddr Tryd.underlying29 cells5 (by decide) rfl e_41 rfl p_38 (by rw [hn1]; exact q_39) (o := (x_36).toNat) (by first | rfl | omega))) ?_
    refine HL.val Wanted.none (fun wq sq => (Runs.load nagg5 rfl ((hs1.ext sq).cell_iv e_41 (by omega)))) ?_
    refine HL.val Wanted.none (fun wq sq => (Runs.conv Tryd.underlying42 ⟨_, Tryd.underlying5⟩ rfl rfl)) ?_
    refine HL.val Wanted.none (fun wq sq => (Runs.shl rfl rfl (by decide) rfl)) ?_
    obtain ⟨x_42, e_43, H⟩ := H
    refine HL.val Wanted.none (fun wq sq => (Runs.add rfl rfl e_43)) ?_
    refine HL.val Wanted.none (fun wq sq => (Runs.move rfl)) ?_
    refine HL.val Wanted.none (fun wq sq => (Runs.move rfl)) ?_
    refine HL.val Wanted.none (fun wq sq => (Runs.move rfl)) ?_
    refine HL.val Wanted.none (fun wq sq => (Runs.mul rfl rfl rfl)) ?_
    refine HL.val Wanted.none (fun wq sq => (Runs.add rfl rfl rfl)) ?_
    obtain ⟨x_44, e_45, H⟩ := H
    refine HL.val Wanted.none (fun wq sq => (Runs.add rfl rfl e_45)) ?_
    obtain ⟨⟨p_46, q_47⟩, H⟩ := H
    obtain ⟨a_48, e_49⟩ := (hs1.ext st_18).addr_iv ((x_44).toNat) (by omega)
    refine HL.val Wanted.none (fun wq sq => (Runs.indexAddr Tryd.underlying29 cells5 (by decide) rfl e_49 rfl p_46 (by rw [hn1]; exact q_47) (o := (x_44).toNat) (by first | rfl | omega))) ?_
    refine HL.val Wanted.none (fun wq sq => (Runs.load nagg5 rfl ((hs1.ext sq).cell_iv e_49 (by omega)))) ?_
    refine HL.val Wanted.none (fun wq sq => (Runs.conv Tryd.underlying42 ⟨_, Tryd.underlying5⟩ rfl rfl)) ?_
    obtain ⟨x_50, e_51, H⟩ := H
    refine HL.val Wanted.none (fun wq sq => (Runs.add rfl rfl e_51)) ?_
    obtain ⟨⟨p_52, q_53⟩, H⟩ := H
    refine HL.val Wanted.none (fun wq sq => (Runs.indexAddr_blk arr68 rfl rfl p_52 q_53 (o := (x_16).toNat) (by first | rfl | omega))) ?_
    refine HL.nil (fun w_54 st_55 => ?_)
    obtain ⟨m_56, e_57, H⟩ := H
    have hl_60 : m_56.length = 64 := by rw [e_57, List.length_set]; exact hl_15
    refine WL.store_cells (i := 0) st_55 rfl cells42 rfl (by rw [iv_length]; have := hl_15; omega) rfl rfl ?_
    intro w_58 st_59
    have st_59' : St w w_58 [.cells B_9 (iv .u32 m_56) 68, .cells B_5 (iv .u32 (List.replicate 8 (0 : Int))) 61, .cells B_1 (iv .u32 l0) 61] := by rw [e_57, ← iv_set .u32 m_14 ((x_16).toNat) x_50]; exact st_59
    refine WL.nil ?_
    refine QW.blk_n ?_
    refine QW.then_n ?_
    refine CW.region ?_
    refine WL.val Wanted.none (Runs.move rfl) ?_
    refine WL.val Wanted.none (Runs.add rfl rfl rfl) ?_
    refine WL.val Wanted.none (Runs.assign rfl) ?_
    refine WL.nil ?_
    exact QW.at [(1, .slice A1 n1 c1), (2, .int .i64 a2), (3, .pointer (some ⟨B_1, 0, none⟩)), (6, .pointer (some ⟨B_5, 0, none⟩)), (7, .pointer (some ⟨B_9, 0, none⟩)), (8, .int .i64 (IntKind.i64.wrap (x_16 + 1)))] ⟨rfl, rfl, rfl, rfl, rfl, rfl, trivial⟩ ⟨m_56, IntKind.i64.wrap (x_16 + 1), rfl, H, hl_60, st_59'⟩
  · have h_21 : (decide (x_16 < 16)) = false := (decide_eq_false c_20)
    refine CW.cf rfl h_21 ?_
    refine CW.exit ?_
    refine QW.then_x ?_
    refine QW.then_x ?_
    refine QW.blk_x ?_
    refine QW.then_n ?_
    refine CW.seq ?_
    refine CW.seq ?_
    refine CW.region ?_
    refine WL.val Wanted.none (Runs.assign rfl) ?_
    refine WL.nil ?_
    refine QW.then_n ?_
    refine CW.block ?_
    obtain ⟨k_61, H⟩ := H
    refine CW.sub [(3, .pointer (some ⟨B_1, 0, none⟩)), (6, .pointer (some ⟨B_5, 0, none⟩)), (7, .pointer (some ⟨B_9, 0, none⟩)), (9, .int .i64 16)] ⟨rfl, rfl, rfl, rfl, trivial⟩ ?_
    refine CW.loop (fun kL2 l_ w_ => ∃ (m_62 : List Int) (x_64 : Int), l_ = [(3, .pointer (some ⟨B_1, 0, none⟩)), (6, .pointer (some ⟨B_5, 0, none⟩)), (7, .pointer (some ⟨B_9, 0, none⟩)), (9, .int .i64 x_64)] ∧ reliquaryref02_block.L2 l0 r0 kL2 m_62 x_64 ∧ (m_62.length = 64) ∧ St w w_ [.cells B_9 (iv .u32 m_62) 68, .cells B_5 (iv .u32 (List.replicate 8 (0 : Int))) 61, .cells B_1 (iv .u32 l0) 61]) (k := k_61) ⟨m_14, 16, rfl, H, hl_15, st_18⟩ (fun _ _ h => by obtain ⟨_, _, _, h, _⟩ := h; exact h.elim) ?_
    rintro kL2 l_67 w_65 ⟨m_62, x_64, rfl, H, hl_63, st_66⟩
    refine CW.seq ?_
    refine CW.seq ?_
    refine CW.region ?_
    refine WL.val Wanted.none (Runs.move rfl) ?_
    refine WL.val Wanted.none (Runs.lss rfl rfl rfl) ?_
    refine WL.nil ?_
    refine QW.then_n ?_
    rcases H with ⟨c_68, H⟩ | ⟨c_68, H⟩
    · have h_69 : (decide (x_64 < 64)) = true := (decide_eq_true c_68)
      refine CW.ct rfl h_69 ?_
      refine CW.skip ?_
      refine QW.then_n ?_
      refine CW.seq ?_
      refine CW.block ?_
      refine CW.seq ?_
      refine CW.region_qa wide (by kernel_rfl) st_66 ?_
      refine HL.val Wanted.none (fun wq sq => (Runs.move rfl)) ?_
      refine HL.val Wanted.none (fun wq sq => (Runs.sub rfl rfl rfl)) ?_
      obtain ⟨⟨p_70, q_71⟩, H⟩ := H
      refine HL.val Wanted.none (fun wq sq => (Runs.indexAddr_blk arr68 rfl rfl p_70 q_71 (o := (IntKind.i64.wrap (x_64 - 15)).toNat) (by first | rfl | omega))) ?_
      refine HL.val Wanted.none (fun wq sq => (Runs.load nagg42 rfl (sq.cell_iv (i := 0) rfl (by have := hl_63; omega)))) ?_
      obtain ⟨r_76, hr_72, H⟩ := H
      refine HL.call Wanted.none ent34 rfl (fun wq sq => (reliquaryref02_right.calls wq (gn m_62 ((IntKind.i64.wrap (x_64 - 15)).toNat)) 7 r_76 hr_72).mono (by rintro _ _ ⟨rfl, sc⟩; exact ⟨rfl, sq.call sc⟩)) ?_
      refine HL.val Wanted.none (fun wq sq => (Runs.move rfl)) ?_
      refine HL.val Wanted.none (fun wq sq => (Runs.sub rfl rfl rfl)) ?_
      obtain ⟨⟨p_77, q_78⟩, H⟩ := H
      refine HL.val Wanted.none (fun wq sq => (Runs.indexAddr_blk arr68 rfl rfl p_77 q_78 (o := (IntKind.i64.wrap (x_64 - 15)).toNat) (by first | rfl | omega))) ?_
      refine HL.val Wanted.none (fun wq sq => (Runs.load nagg42 rfl (sq.cell_iv (i := 0) rfl (by have := hl_63; omega)))) ?_
      obtain ⟨r_83, hr_79, H⟩ := H
      refine HL.call Wanted.none ent34 rfl (fun wq sq => (reliquaryref02_right.calls wq (gn m_62 ((IntKind.i64.wrap (x_64 - 15)).toNat)) 18 r_83 hr_79).mono (by rintro _ _ ⟨rfl, sc⟩; exact ⟨rfl, sq.call sc⟩)) ?_
      refine HL.val Wanted.none (fun wq sq => (Runs.bxor rfl rfl rfl)) ?_
      refine HL.val Wanted.none (fun wq sq => (Runs.move rfl)) ?_
      refine HL.val Wanted.none (fun wq sq => (Runs.sub rfl rfl rfl)) ?_
      obtain ⟨⟨p_84, q_85⟩, H⟩ := H
      refine HL.val Wanted.none (fun wq sq => (Runs.indexAddr_blk arr68 rfl rfl p_84 q_85 (o := (IntKind.i64.wrap (x_64 - 15)).toNat) (by first | rfl | omega))) ?_
      refine HL.val Wanted.none (fun wq sq => (Runs.load nagg42 rfl (sq.cell_iv (i := 0) rfl (by have := hl_63; omega)))) ?_
      refine HL.val Wanted.none (fun wq sq => (Runs.shr rfl rfl (by decide) rfl)) ?_
      obtain ⟨x_86, e_87, H⟩ := H
      refine HL.val Wanted.none (fun wq sq => (Runs.bxor rfl rfl e_87)) ?_
      refine HL.val Wanted.none (fun wq sq => (Runs.assign rfl)) ?_
      refine HL.nil (fun w_88 st_89 => ?_)
      refine WL.nil ?_
      refine QW.then_n ?_
      refine CW.seq ?_
      refine CW.region_qa wide (by kernel_rfl) st_89 ?_
      refine HL.val Wanted.none (fun wq sq => (Runs.move rfl)) ?_
      refine HL.val Wanted.none (fun wq sq => (Runs.sub rfl rfl rfl)) ?_
      obtain ⟨⟨p_90, q_91⟩, H⟩ := H
      refine HL.val Wanted.none (fun wq sq => (Runs.indexAddr_blk arr68 rfl rfl p_90 q_91 (o := (IntKind.i64.wrap (x_64 - 2)).toNat) (by first | rfl | omega))) ?_
      refine HL.val Wanted.none (fun wq sq => (Runs.load nagg42 rfl (sq.cell_iv (i := 0) rfl (by have := hl_63; omega)))) ?_
      obtain ⟨r_96, hr_92, H⟩ := H
      refine HL.call Wanted.none ent34 rfl (fun wq sq => (reliquaryref02_right.calls wq (gn m_62 ((IntKind.i64.wrap (x_64 - 2)).toNat)) 17 r_96 hr_92).mono (by rintro _ _ ⟨rfl, sc⟩; exact ⟨rfl, sq.call sc⟩)) ?_
      refine HL.val Wanted.none (fun wq sq => (Runs.move rfl)) ?_
      refine HL.val Wanted.none (fun wq sq => (Runs.sub rfl rfl rfl)) ?_
      obtain ⟨⟨p_97, q_98⟩, H⟩ := H
      refine HL.val Wanted.none (fun wq sq => (Runs.indexAddr_blk arr68 rfl rfl p_97 q_98 (o := (IntKind.i64.wrap (x_64 - 2)).toNat) (by first | rfl | omega))) ?_
      refine HL.val Wanted.none (fun wq sq => (Runs.load nagg42 rfl (sq.cell_iv (i := 0) rfl (by have := hl_63; omega)))) ?_
      obtain ⟨r_103, hr_99, H⟩ := H
      refine HL.call Wanted.none ent34 rfl (fun wq sq => (reliquaryref02_right.calls wq (gn m_62 ((IntKind.i64.wrap (x_64 - 2)).toNat)) 19 r_103 hr_99).mono (by rintro _ _ ⟨rfl, sc⟩; exact ⟨rfl, sq.call sc⟩)) ?_
      refine HL.val Wanted.none (fun wq sq => (Runs.bxor rfl rfl rfl)) ?_
      refine HL.val Wanted.none (fun wq sq => (Runs.move rfl)) ?_
      refine HL.val Wanted.none (fun wq sq => (Runs.sub rfl rfl rfl)) ?_
      obtain ⟨⟨p_104, q_105⟩, H⟩ := H
      refine HL.val Wanted.none (fun wq sq => (Runs.indexAddr_blk arr68 rfl rfl p_104 q_105 (o := (IntKind.i64.wrap (x_64 - 2)).toNat) (by first | rfl | omega))) ?_
      refine HL.val Wanted.none (fun wq sq => (Runs.load nagg42 rfl (sq.cell_iv (i := 0) rfl (by have := hl_63; omega)))) ?_
      refine HL.val Wanted.none (fun wq sq => (Runs.shr rfl rfl (by decide) rfl)) ?_
      obtain ⟨x_106, e_107, H⟩ := H
      refine HL.val Wanted.none (fun wq sq => (Runs.bxor rfl rfl e_107)) ?_
      refine HL.val Wanted.none (fun wq sq => (Runs.assign rfl)) ?_
      refine HL.nil (fun w_108 st_109 => ?_)
      refine WL.nil ?_
      refine QW.then_n ?_
      refine CW.region_qt 15 wide (by kernel_rfl) st_109 ?_
      refine HL.val Wanted.none (fun wq sq => (Runs.move rfl)) ?_
      refine HL.val Wanted.none (fun wq sq => (Runs.move rfl)) ?_
      refine HL.val Wanted.none (fun wq sq => (Runs.sub rfl rfl rfl)) ?_
      obtain ⟨⟨p_110, q_111⟩, H⟩ := H
      refine HL.val Wanted.none (fun wq sq => (Runs.indexAddr_blk arr68 rfl rfl p_110 q_111 (o := (IntKind.i64.wrap (x_64 - 16)).toNat) (by first | rfl | omega))) ?_
      refine HL.val Wanted.none (fun wq sq => (Runs.load nagg42 rfl (sq.cell_iv (i := 0) rfl (by have := hl_63; omega)))) ?_
      refine HL.val Wanted.none (fun wq sq => (Runs.move rfl)) ?_
      obtain ⟨x_112, e_113, H⟩ := H
      refine HL.val Wanted.none (fun wq sq => (Runs.add rfl rfl e_113)) ?_
      refine HL.val Wanted.none (fun wq sq => (Runs.move rfl)) ?_
      refine HL.val Wanted.none (fun wq sq => (Runs.sub rfl rfl rfl)) ?_
      obtain ⟨⟨p_114, q_115⟩, H⟩ := H
      refine HL.val Wanted.none (fun wq sq => (Runs.indexAddr_blk arr68 rfl rfl p_114 q_115 (o := (IntKind.i64.wrap (x_64 - 7)).toNat) (by first | rfl | omega))) ?_
      refine HL.val Wanted.none (fun wq sq => (Runs.load nagg42 rfl (sq.cell_iv (i := 0) rfl (by have := hl_63; omega)))) ?_
      obtain ⟨x_116, e_117, H⟩ := H
      refine HL.val Wanted.none (fun wq sq => (Runs.add rfl rfl e_117)) ?_
      refine HL.val Wanted.none (fun wq sq => (Runs.move rfl)) ?_
      refine HL.val Wanted.none (fun wq sq => (Runs.add rfl rfl rfl)) ?_
      obtain ⟨⟨p_118, q_119⟩, H⟩ := H
      refine HL.val Wanted.none (fun wq sq => (Runs.indexAddr_blk arr68 rfl rfl p_118 q_119 (o := (x_64).toNat) (by first | rfl | omega))) ?_
      refine HL.nil (fun w_120 st_121 => ?_)
      obtain ⟨m_122, e_123, H⟩ := H
      have hl_126 : m_122.length = 64 := by rw [e_123, List.length_set]; exact hl_63
      refine WL.store_cells (i := 0) st_121 rfl cells42 rfl (by rw [iv_length]; have := hl_63; omega) rfl rfl ?_
      intro w_124 st_125
      have st_125' : St w w_124 [.cells B_9 (iv .u32 m_122) 68, .cells B_5 (iv .u32 (List.replicate 8 (0 : Int))) 61, .cells B_1 (iv .u32 l0) 61] := by rw [e_123, ← iv_set .u32 m_62 ((x_64).toNat) (IntKind.u32.wrap (x_116 + x_106))]; exact st_125
      refine WL.nil ?_
      refine QW.blk_n ?_
      refine QW.then_n ?_
      refine CW.region ?_
      refine WL.val Wanted.none (Runs.move rfl) ?_
      refine WL.val Wanted.none (Runs.add rfl rfl rfl) ?_
      refine WL.val Wanted.none (Runs.assign rfl) ?_
      refine WL.nil ?_
      exact QW.at [(3, .pointer (some ⟨B_1, 0, none⟩)), (6, .pointer (some ⟨B_5, 0, none⟩)), (7, .pointer (some ⟨B_9, 0, none⟩)), (9, .int .i64 (IntKind.i64.wrap (x_64 + 1)))] ⟨rfl, rfl, rfl, rfl, trivial⟩ ⟨m_122, IntKind.i64.wrap (x_64 + 1), rfl, H, hl_126, st_125'⟩
    · have h_69 : (decide (x_64 < 64)) = false := (decide_eq_false c_68)
      refine CW.cf rfl h_69 ?_
      refine CW.exit ?_
      refine QW.then_x ?_
      refine QW.then_x ?_
      refine QW.blk_x ?_
      refine QW.then_n ?_
      refine CW.seq ?_
      refine CW.region ?_
      obtain ⟨r_131, hr_127, H⟩ := H
      refine WL.call Wanted.none ent35 rfl (reliquaryref02_Rounds.calls w_65 r_131 hr_127) ?_
      rintro _ w_128 ⟨hl_132, rfl, sc_130⟩
      have st_129 : St w w_128 [.cells B_9 (iv .u32 m_62) 68, .cells B_5 (iv .u32 (List.replicate 8 (0 : Int))) 61, .cells B_1 (iv .u32 l0) 61] := st_66.call sc_130
      refine ⟨_, rfl, ?_⟩
      refine WL.alloc st_129 arr68.zero ?_
      intro B_133 w_134 st_135
      replace st_135 : St w w_134 [.cells B_133 (iv .u32 (List.replicate 64 (0 : Int))) 68, .cells B_9 (iv .u32 m_62) 68, .cells B_5 (iv .u32 (List.replicate 8 (0 : Int))) 61, .cells B_1 (iv .u32 l0) 61] := st_135
      refine WL.store_arr (i := 0) st_135 rfl arr68 rfl (by rw [iv_length]; exact (List.length_replicate ..)) hl_132 rfl ?_
      intro w_137 st_138
      replace st_138 : St w w_137 [.cells B_133 (iv .u32 r_131) 68, .cells B_9 (iv .u32 m_62) 68, .cells B_5 (iv .u32 (List.replicate 8 (0 : Int))) 61, .cells B_1 (iv .u32 l0) 61] := st_138
      refine WL.nil ?_
      refine QW.then_n ?_
      refine CW.seq ?_
      refine CW.region ?_
      refine WL.val Wanted.none (Runs.load_arr arr61 rfl (st_138.blk (i := 3) rfl) hl0) ?_
      refine WL.alloc st_138 arr61.zero ?_
      intro B_140 w_141 st_142
      replace st_142 : St w w_141 [.cells B_140 (iv .u32 (List.replicate 8 (0 : Int))) 61, .cells B_133 (iv .u32 r_131) 68, .cells B_9 (iv .u32 m_62) 68, .cells B_5 (iv .u32 (List.replicate 8 (0 : Int))) 61, .cells B_1 (iv .u32 l0) 61] := st_142
      refine WL.store_arr (i := 0) st_142 rfl arr61 rfl (by rw [iv_length]; exact (List.length_replicate ..)) hl0 rfl ?_
      intro w_144 st_145
      replace st_145 : St w w_144 [.cells B_140 (iv .u32 l0) 61, .cells B_133 (iv .u32 r_131) 68, .cells B_9 (iv .u32 m_62) 68, .cells B_5 (iv .u32 (List.replicate 8 (0 : Int))) 61, .cells B_1 (iv .u32 l0) 61] := st_145
      refine WL.nil ?_
      refine QW.then_n ?_
      refine CW.seq ?_
      refine CW.seq ?_
      refine CW.region ?_
      refine WL.val Wanted.none (Runs.assign rfl) ?_
      refine WL.nil ?_
      refine QW.then_n ?_
      refine CW.block ?_
      obtain ⟨k_147, H⟩ := H
      refine CW.sub [(3, .pointer (some ⟨B_1, 0, none⟩)), (6, .pointer (some ⟨B_5, 0, none⟩)), (7, .pointer (some ⟨B_9, 0, none⟩)), (12, .pointer (some ⟨B_133, 0, none⟩)), (13, .pointer (some ⟨B_140, 0, none⟩)), (14, .int .i64 0)] ⟨rfl, rfl, rfl, rfl, rfl, rfl, trivial⟩ ?_
      refine CW.loop (fun kL3 l_ w_ => ∃ (m_148 : List Int) (x_150 : Int), l_ = [(3, .pointer (some ⟨B_1, 0, none⟩)), (6, .pointer (some ⟨B_5, 0, none⟩)), (7, .pointer (some ⟨B_9, 0, none⟩)), (12, .pointer (some ⟨B_133, 0, none⟩)), (13, .pointer (some ⟨B_140, 0, none⟩)), (14, .int .i64 x_150)] ∧ reliquaryref02_block.L3 l0 r0 m_62 r_131 kL3 m_148 x_150 ∧ (m_148.length = 8) ∧ St w w_ [.cells B_140 (iv .u32 m_148) 61, .cells B_133 (iv .u32 r_131) 68, .cells B_9 (iv .u32 m_62) 68, .cells B_5 (iv .u32 (List.replicate 8 (0 : Int))) 61, .cells B_1 (iv .u32 l0) 61]) (k := k_147) ⟨l0, 0, rfl, H, hl0, st_145⟩ (fun _ _ h => by obtain ⟨_, _, _, h, _⟩ := h; exact h.elim) ?_
      rintro kL3 l_153 w_151 ⟨m_148, x_150, rfl, H, hl_149, st_152⟩
      refine CW.seq ?_
      refine CW.seq ?_
      refine CW.region ?_
      refine WL.val Wanted.none (Runs.move rfl) ?_
      refine WL.val Wanted.none (Runs.lss rfl rfl rfl) ?_
      refine WL.nil ?_
      refine QW.then_n ?_
      rcases H with ⟨c_154, H⟩ | ⟨c_154, H⟩
      · have h_155 : (decide (x_150 < 64)) = true := (decide_eq_true c_154)
        refine CW.ct rfl h_155 ?_
        refine CW.skip ?_
        refine QW.then_n ?_
        refine CW.seq ?_
        refine CW.block ?_
        refine CW.seq ?_
        refine CW.region ?_
        refine WL.val Wanted.none (Runs.indexAddr_blk arr61 rfl rfl (by decide) (by decide) (o := 4) (by first | rfl | omega)) ?_
        refine WL.val Wanted.none (Runs.load nagg42 rfl (st_152.cell_iv (i := 0) rfl (by have := hl_149; omega))) ?_
        refine WL.val Wanted.none (Runs.assign rfl) ?_
        refine WL.nil ?_
        refine QW.then_n ?_
        refine CW.seq ?_
        refine CW.region ?_
        refine WL.val Wanted.none (Runs.indexAddr_blk arr61 rfl rfl (by decide) (by decide) (o := 0) (by first | rfl | omega)) ?_
        refine WL.val Wanted.none (Runs.load nagg42 rfl (st_152.cell_iv (i := 0) rfl (by have := hl_149; omega))) ?_
        refine WL.val Wanted.none (Runs.assign rfl) ?_
        refine WL.nil ?_
        refine QW.then_n ?_
        refine CW.seq ?_
        refine CW.region ?_
        refine WL.val Wanted.none (Runs.move rfl) ?_
        obtain ⟨r_160, hr_156, H⟩ := H
        refine WL.call Wanted.none ent34 rfl (reliquaryref02_right.calls w_151 (gn m_148 4) 6 r_160 hr_156) ?_
        rintro _ w_157 ⟨rfl, sc_159⟩
        have st_158 : St w w_157 [.cells B_140 (iv .u32 m_148) 61, .cells B_133 (iv .u32 r_131) 68, .cells B_9 (iv .u32 m_62) 68, .cells B_5 (iv .u32 (List.replicate 8 (0 : Int))) 61, .cells B_1 (iv .u32 l0) 61] := st_152.call sc_159
        refine ⟨_, rfl, ?_⟩
        refine WL.val Wanted.none (Runs.move rfl) ?_
        obtain ⟨r_165, hr_161, H⟩ := H
        refine WL.call Wanted.none ent34 rfl (reliquaryref02_right.calls w_157 (gn m_148 4) 11 r_165 hr_161) ?_
        rintro _ w_162 ⟨rfl, sc_164⟩
        have st_163 : St w w_162 [.cells B_140 (iv .u32 m_148) 61, .cells B_133 (iv .u32 r_131) 68, .cells B_9 (iv .u32 m_62) 68, .cells B_5 (iv .u32 (List.replicate 8 (0 : Int))) 61, .cells B_1 (iv .u32 l0) 61] := st_158.call sc_164
        refine ⟨_, rfl, ?_⟩
        refine WL.val Wanted.none (Runs.bxor rfl rfl rfl) ?_
        refine WL.val Wanted.none (Runs.move rfl) ?_
        obtain ⟨r_170, hr_166, H⟩ := H
        refine WL.call Wanted.none ent34 rfl (reliquaryref02_right.calls w_162 (gn m_148 4) 25 r_170 hr_166) ?_
        rintro _ w_167 ⟨rfl, sc_169⟩
        have st_168 : St w w_167 [.cells B_140 (iv .u32 m_148) 61, .cells B_133 (iv .u32 r_131) 68, .cells B_9 (iv .u32 m_62) 68, .cells B_5 (iv .u32 (List.replicate 8 (0 : Int))) 61, .cells B_1 (iv .u32 l0) 61] := st_163.call sc_169
        refine ⟨_, rfl, ?_⟩
        refine WL.val Wanted.none (Runs.bxor rfl rfl rfl) ?_
        refine WL.val Wanted.none (Runs.assign rfl) ?_
        refine WL.nil ?_
        refine QW.then_n ?_
        refine CW.seq ?_
        refine CW.region ?_
        refine WL.val Wanted.none (Runs.move rfl) ?_
        refine WL.val Wanted.none (Runs.indexAddr_blk arr61 rfl rfl (by decide) (by decide) (o := 5) (by first | rfl | omega)) ?_
        refine WL.val Wanted.none (Runs.load nagg42 rfl (st_168.cell_iv (i := 0) rfl (by have := hl_149; omega))) ?_
        refine WL.val Wanted.none (Runs.band rfl rfl rfl) ?_
        refine WL.val Wanted.none (Runs.move rfl) ?_
        refine WL.val Wanted.none (Runs.compl rfl rfl) ?_
        refine WL.val Wanted.none (Runs.indexAddr_blk arr61 rfl rfl (by decide) (by decide) (o := 6) (by first | rfl | omega)) ?_
        refine WL.val Wanted.none (Runs.load nagg42 rfl (st_168.cell_iv (i := 0) rfl (by have := hl_149; omega))) ?_
        refine WL.val Wanted.none (Runs.band rfl rfl rfl) ?_
        obtain ⟨x_171, e_172, H⟩ := H
        refine WL.val Wanted.none (Runs.bxor rfl rfl e_172) ?_
        refine WL.val Wanted.none (Runs.assign rfl) ?_
        refine WL.nil ?_
        refine QW.then_n ?_
        refine CW.seq ?_
        refine CW.region_qa wide (by kernel_rfl) st_168 ?_
        refine HL.val Wanted.none (fun wq sq => (Runs.indexAddr_blk arr61 rfl rfl (by decide) (by decide) (o := 7) (by first | rfl | omega))) ?_
        refine HL.val Wanted.none (fun wq sq => (Runs.load nagg42 rfl (sq.cell_iv (i := 0) rfl (by have := hl_149; omega)))) ?_
        refine HL.val Wanted.none (fun wq sq => (Runs.move rfl)) ?_
        obtain ⟨x_173, e_174, H⟩ := H
        refine HL.val Wanted.none (fun wq sq => (Runs.add rfl rfl e_174)) ?_
        refine HL.val Wanted.none (fun wq sq => (Runs.move rfl)) ?_
        refine HL.val Wanted.none (fun wq sq => (Runs.add rfl rfl rfl)) ?_
        refine HL.val Wanted.none (fun wq sq => (Runs.move rfl)) ?_
        obtain ⟨⟨p_175, q_176⟩, H⟩ := H
        refine HL.val Wanted.none (fun wq sq => (Runs.indexAddr_blk arr68 rfl rfl p_175 q_176 (o := (x_150).toNat) (by first | rfl | omega))) ?_
        refine HL.val Wanted.none (fun wq sq => (Runs.load nagg42 rfl (sq.cell_iv (i := 1) rfl (by have := hl_132; omega)))) ?_
        obtain ⟨x_177, e_178, H⟩ := H
        refine HL.val Wanted.none (fun wq sq => (Runs.add rfl rfl e_178)) ?_
        refine HL.val Wanted.none (fun wq sq => (Runs.move rfl)) ?_
        obtain ⟨⟨p_179, q_180⟩, H⟩ := H
        refine HL.val Wanted.none (fun wq sq => (Runs.indexAddr_blk arr68 rfl rfl p_179 q_180 (o := (x_150).toNat) (by first | rfl | omega))) ?_
        refine HL.val Wanted.none (fun wq sq => (Runs.load nagg42 rfl (sq.cell_iv (i := 2) rfl (by have := hl_63; omega)))) ?_
        refine HL.val Wanted.none (fun wq sq => (Runs.add rfl rfl rfl)) ?_
        refine HL.val Wanted.none (fun wq sq => (Runs.assign rfl)) ?_
        refine HL.nil (fun w_181 st_182 => ?_)
        refine WL.nil ?_
        refine QW.then_n ?_
        refine CW.seq ?_
        refine CW.region ?_
        refine WL.val Wanted.none (Runs.move rfl) ?_
        obtain ⟨r_187, hr_183, H⟩ := H
        refine WL.call Wanted.none ent34 rfl (reliquaryref02_right.calls w_181 (gn m_148 0) 2 r_187 hr_183) ?_
        rintro _ w_184 ⟨rfl, sc_186⟩
        have st_185 : St w w_184 [.cells B_140 (iv .u32 m_148) 61, .cells B_133 (iv .u32 r_131) 68, .cells B_9 (iv .u32 m_62) 68, .cells B_5 (iv .u32 (List.replicate 8 (0 : Int))) 61, .cells B_1 (iv .u32 l0) 61] := st_182.call sc_186
        refine ⟨_, rfl, ?_⟩
        refine WL.val Wanted.none (Runs.move rfl) ?_
        obtain ⟨r_192, hr_188, H⟩ := H
        refine WL.call Wanted.none ent34 rfl (reliquaryref02_right.calls w_184 (gn m_148 0) 13 r_192 hr_188) ?_
        rintro _ w_189 ⟨rfl, sc_191⟩
        have st_190 : St w w_189 [.cells B_140 (iv .u32 m_148) 61, .cells B_133 (iv .u32 r_131) 68, .cells B_9 (iv .u32 m_62) 68, .cells B_5 (iv .u32 (List.replicate 8 (0 : Int))) 61, .cells B_1 (iv .u32 l0) 61] := st_185.call sc_191
        refine ⟨_, rfl, ?_⟩
        refine WL.val Wanted.none (Runs.bxor rfl rfl rfl) ?_
        refine WL.val Wanted.none (Runs.move rfl) ?_
        obtain ⟨r_197, hr_193, H⟩ := H
        refine WL.call Wanted.none ent34 rfl (reliquaryref02_right.calls w_189 (gn m_148 0) 22 r_197 hr_193) ?_
        rintro _ w_194 ⟨rfl, sc_196⟩
        have st_195 : St w w_194 [.cells B_140 (iv .u32 m_148) 61, .cells B_133 (iv .u32 r_131) 68, .cells B_9 (iv .u32 m_62) 68, .cells B_5 (iv .u32 (List.replicate 8 (0 : Int))) 61, .cells B_1 (iv .u32 l0) 61] := st_190.call sc_196
        refine ⟨_, rfl, ?_⟩
        refine WL.val Wanted.none (Runs.bxor rfl rfl rfl) ?_
        refine WL.val Wanted.none (Runs.assign rfl) ?_
        refine WL.nil ?_
        refine QW.then_n ?_
        refine CW.seq ?_
        refine CW.region ?_
        refine WL.val Wanted.none (Runs.move rfl) ?_
        refine WL.val Wanted.none (Runs.indexAddr_blk arr61 rfl rfl (by decide) (by decide) (o := 1) (by first | rfl | omega)) ?_
        refine WL.val Wanted.none (Runs.load nagg42 rfl (st_195.cell_iv (i := 0) rfl (by have := hl_149; omega))) ?_
        refine WL.val Wanted.none (Runs.band rfl rfl rfl) ?_
        refine WL.val Wanted.none (Runs.move rfl) ?_
        refine WL.val Wanted.none (Runs.indexAddr_blk arr61 rfl rfl (by decide) (by decide) (o := 2) (by first | rfl | omega)) ?_
        refine WL.val Wanted.none (Runs.load nagg42 rfl (st_195.cell_iv (i := 0) rfl (by have := hl_149; omega))) ?_
        refine WL.val Wanted.none (Runs.band rfl rfl rfl) ?_
        obtain ⟨x_198, e_199, H⟩ := H
        refine WL.val Wanted.none (Runs.bxor rfl rfl e_199) ?_
        refine WL.val Wanted.none (Runs.indexAddr_blk arr61 rfl rfl (by decide) (by decide) (o := 1) (by first | rfl | omega)) ?_
        refine WL.val Wanted.none (Runs.load nagg42 rfl (st_195.cell_iv (i := 0) rfl (by have := hl_149; omega))) ?_
        refine WL.val Wanted.none (Runs.indexAddr_blk arr61 rfl rfl (by decide) (by decide) (o := 2) (by first | rfl | omega)) ?_
        refine WL.val Wanted.none (Runs.load nagg42 rfl (st_195.cell_iv (i := 0) rfl (by have := hl_149; omega))) ?_
        refine WL.val Wanted.none (Runs.band rfl rfl rfl) ?_
        obtain ⟨x_200, e_201, H⟩ := H
        refine WL.val Wanted.none (Runs.bxor rfl rfl e_201) ?_
        refine WL.val Wanted.none (Runs.assign rfl) ?_
        refine WL.nil ?_
        refine QW.then_n ?_
        refine CW.seq ?_
        refine CW.seq ?_
        refine CW.region ?_
        refine WL.val Wanted.none (Runs.assign rfl) ?_
        refine WL.nil ?_
        refine QW.then_n ?_
        refine CW.block ?_
        obtain ⟨k_202, H⟩ := H
        refine CW.sub [(3, .pointer (some ⟨B_1, 0, none⟩)), (6, .pointer (some ⟨B_5, 0, none⟩)), (7, .pointer (some ⟨B_9, 0, none⟩)), (12, .pointer (some ⟨B_133, 0, none⟩)), (13, .pointer (some ⟨B_140, 0, none⟩)), (14, .int .i64 x_150), (126, .int .i64 x_150), (127, .bool (decide (x_150 < 64))), (130, .pointer (some ⟨B_140, 4, none⟩)), (131, .int .u32 (gn m_148 4)), (15, .int .u32 (gn m_148 4)), (132, .pointer (some ⟨B_140, 0, none⟩)), (133, .int .u32 (gn m_148 0)), (16, .int .u32 (gn m_148 0)), (134, .int .u32 (gn m_148 4)), (135, .int .u32 r_160), (136, .int .u32 (gn m_148 4)), (137, .int .u32 r_165), (138, .int .u32 (bits .xor .u32 r_160 r_165)), (139, .int .u32 (gn m_148 4)), (140, .int .u32 r_170), (141, .int .u32 (bits .xor .u32 (bits .xor .u32 r_160 r_165) r_170)), (17, .int .u32 (bits .xor .u32 (bits .xor .u32 r_160 r_165) r_170)), (142, .int .u32 (gn m_148 4)), (143, .pointer (some ⟨B_140, 5, none⟩)), (144, .int .u32 (gn m_148 5)), (145, .int .u32 (bits .and .u32 (gn m_148 4) (gn m_148 5))), (146, .int .u32 (gn m_148 4)), (147, .int .u32 (notI .u32 (gn m_148 4))), (148, .pointer (some ⟨B_140, 6, none⟩)), (149, .int .u32 (gn m_148 6)), (150, .int .u32 (bits .and .u32 (notI .u32 (gn m_148 4)) (gn m_148 6))), (151, .int .u32 x_171), (18, .int .u32 x_171), (152, .pointer (some ⟨B_140, 7, none⟩)), (153, .int .u32 (gn m_148 7)), (154, .int .u32 (bits .xor .u32 (bits .xor .u32 r_160 r_165) r_170)), (155, .int .u32 x_173), (156, .int .u32 x_171), (157, .int .u32 (IntKind.u32.wrap (x_173 + x_171))), (158, .int .i64 x_150), (159, .pointer (some ⟨B_133, (x_150).toNat, none⟩)), (160, .int .u32 (gn r_131 ((x_150).toNat))), (161, .int .u32 x_177), (162, .int .i64 x_150), (163, .pointer (some ⟨B_9, (x_150).toNat, none⟩)), (164, .int .u32 (gn m_62 ((x_150).toNat))), (165, .int .u32 (IntKind.u32.wrap (x_177 + (gn m_62 ((x_150).toNat))))), (19, .int .u32 (IntKind.u32.wrap (x_177 + (gn m_62 ((x_150).toNat))))), (166, .int .u32 (gn m_148 0)), (167, .int .u32 r_187), (168, .int .u32 (gn m_148 0)), (169, .int .u32 r_192), (170, .int .u32 (bits .xor .u32 r_187 r_192)), (171, .int .u32 (gn m_148 0)), (172, .int .u32 r_197), (173, .int .u32 (bits .xor .u32 (bits .xor .u32 r_187 r_192) r_197)), (20, .int .u32 (bits .xor .u32 (bits .xor .u32 r_187 r_192) r_197)), (174, .int .u32 (gn m_148 0)), (175, .pointer (some ⟨B_140, 1, none⟩)), (176, .int .u32 (gn m_148 1)), (177, .int .u32 (bits .and .u32 (gn m_148 0) (gn m_148 1))), (178, .int .u32 (gn m_148 0)), (179, .pointer (some ⟨B_140, 2, none⟩)), (180, .int .u32 (gn m_148 2)), (181, .int .u32 (bits .and .u32 (gn m_148 0) (gn m_148 2))), (182, .int .u32 x_198), (183, .pointer (some ⟨B_140, 1, none⟩)), (184, .int .u32 (gn m_148 1)), (185, .pointer (some ⟨B_140, 2, none⟩)), (186, .int .u32 (gn m_148 2)), (187, .int .u32 (bits .and .u32 (gn m_148 1) (gn m_148 2))), (188, .int .u32 x_200), (21, .int .u32 x_200), (22, .int .i64 7)] ⟨rfl, rfl, rfl, rfl, rfl, rfl, rfl, rfl, rfl, rfl, rfl, rfl, rfl, rfl, rfl, rfl, rfl, rfl, rfl, rfl, rfl, rfl, rfl, rfl, rfl, rfl, rfl, rfl, rfl, rfl, rfl, rfl, rfl, rfl, rfl, rfl, rfl, rfl, rfl, rfl, rfl, rfl, rfl, rfl, rfl, rfl, rfl, rfl, rfl, rfl, rfl, rfl, rfl, rfl, rfl, rfl, rfl, rfl, rfl, rfl, rfl, rfl, rfl, rfl, rfl, rfl, rfl, rfl, rfl, rfl, rfl, rfl, rfl, rfl, rfl, trivial⟩ ?_
        refine CW.loop (fun kL4 l_ w_ => ∃ (m_203 : List Int) (x_205 : Int), l_ = [(3, .pointer (some ⟨B_1, 0, none⟩)), (6, .pointer (some ⟨B_5, 0, none⟩)), (7, .pointer (some ⟨B_9, 0, none⟩)), (12, .pointer (some ⟨B_133, 0, none⟩)), (13, .pointer (some ⟨B_140, 0, none⟩)), (14, .int .i64 x_150), (126, .int .i64 x_150), (127, .bool (decide (x_150 < 64))), (130, .pointer (some ⟨B_140, 4, none⟩)), (131, .int .u32 (gn m_148 4)), (15, .int .u32 (gn m_148 4)), (132, .pointer (some ⟨B_140, 0, none⟩)), (133, .int .u32 (gn m_148 0)), (16, .int .u32 (gn m_148 0)), (134, .int .u32 (gn m_148 4)), (135, .int .u32 r_160), (136, .int .u32 (gn m_148 4)), (137, .int .u32 r_165), (138, .int .u32 (bits .xor .u32 r_160 r_165)), (139, .int .u32 (gn m_148 4)), (140, .int .u32 r_170), (141, .int .u32 (bits .xor .u32 (bits .xor .u32 r_160 r_165) r_170)), (17, .int .u32 (bits .xor .u32 (bits .xor .u32 r_160 r_165) r_170)), (142, .int .u32 (gn m_148 4)), (143, .pointer (some ⟨B_140, 5, none⟩)), (144, .int .u32 (gn m_148 5)), (145, .int .u32 (bits .and .u32 (gn m_148 4) (gn m_148 5))), (146, .int .u32 (gn m_148 4)), (147, .int .u32 (notI .u32 (gn m_148 4))), (148, .pointer (some ⟨B_140, 6, none⟩)), (149, .int .u32 (gn m_148 6)), (150, .int .u32 (bits .and .u32 (notI .u32 (gn m_148 4)) (gn m_148 6))), (151, .int .u32 x_171), (18, .int .u32 x_171), (152, .pointer (some ⟨B_140, 7, none⟩)), (153, .int .u32 (gn m_148 7)), (154, .int .u32 (bits .xor .u32 (bits .xor .u32 r_160 r_165) r_170)), (155, .int .u32 x_173), (156, .int .u32 x_171), (157, .int .u32 (IntKind.u32.wrap (x_173 + x_171))), (158, .int .i64 x_150), (159, .pointer (some ⟨B_133, (x_150).toNat, none⟩)), (160, .int .u32 (gn r_131 ((x_150).toNat))), (161, .int .u32 x_177), (162, .int .i64 x_150), (163, .pointer (some ⟨B_9, (x_150).toNat, none⟩)), (164, .int .u32 (gn m_62 ((x_150).toNat))), (165, .int .u32 (IntKind.u32.wrap (x_177 + (gn m_62 ((x_150).toNat))))), (19, .int .u32 (IntKind.u32.wrap (x_177 + (gn m_62 ((x_150).toNat))))), (166, .int .u32 (gn m_148 0)), (167, .int .u32 r_187), (168, .int .u32 (gn m_148 0)), (169, .int .u32 r_192), (170, .int .u32 (bits .xor .u32 r_187 r_192)), (171, .int .u32 (gn m_148 0)), (172, .int .u32 r_197), (173, .int .u32 (bits .xor .u32 (bits .xor .u32 r_187 r_192) r_197)), (20, .int .u32 (bits .xor .u32 (bits .xor .u32 r_187 r_192) r_197)), (174, .int .u32 (gn m_148 0)), (175, .pointer (some ⟨B_140, 1, none⟩)), (176, .int .u32 (gn m_148 1)), (177, .int .u32 (bits .and .u32 (gn m_148 0) (gn m_148 1))), (178, .int .u32 (gn m_148 0)), (179, .pointer (some ⟨B_140, 2, none⟩)), (180, .int .u32 (gn m_148 2)), (181, .int .u32 (bits .and .u32 (gn m_148 0) (gn m_148 2))), (182, .int .u32 x_198), (183, .pointer (some ⟨B_140, 1, none⟩)), (184, .int .u32 (gn m_148 1)), (185, .pointer (some ⟨B_140, 2, none⟩)), (186, .int .u32 (gn m_148 2)), (187, .int .u32 (bits .and .u32 (gn m_148 1) (gn m_148 2))), (188, .int .u32 x_200), (21, .int .u32 x_200), (22, .int .i64 x_205)] ∧ reliquaryref02_block.L4 m_62 x_150 x_177 r_187 r_192 r_197 x_200 (reliquaryref02_block.L3 l0 r0 m_62 r_131 kL3) kL4 m_203 x_205 ∧ (m_203.length = 8) ∧ St w w_ [.cells B_140 (iv .u32 m_203) 61, .cells B_133 (iv .u32 r_131) 68, .cells B_9 (iv .u32 m_62) 68, .cells B_5 (iv .u32 (List.replicate 8 (0 : Int))) 61, .cells B_1 (iv .u32 l0) 61]) (k := k_202) ⟨m_148, 7, rfl, H, hl_149, st_195⟩ (fun _ _ h => by obtain ⟨_, _, _, h, _⟩ := h; exact h.elim) ?_
        rintro kL4 l_208 w_206 ⟨m_203, x_205, rfl, H, hl_204, st_207⟩
        refine CW.seq ?_
        refine CW.seq ?_
        refine CW.region ?_
        refine WL.val Wanted.none (Runs.move rfl) ?_
        refine WL.val Wanted.none (Runs.gtr rfl rfl rfl) ?_
        refine WL.nil ?_
        refine QW.then_n ?_
        rcases H with ⟨c_209, H⟩ | ⟨c_209, H⟩
        · have h_210 : (decide (x_205 > 0)) = true := (decide_eq_true c_209)
          refine CW.ct rfl h_210 ?_
          refine CW.skip ?_
          refine QW.then_n ?_
          refine CW.seq ?_
          refine CW.block ?_
          refine CW.region ?_
          refine WL.val Wanted.none (Runs.move rfl) ?_
          refine WL.val Wanted.none (Runs.move rfl) ?_
          refine WL.val Wanted.none (Runs.sub rfl rfl rfl) ?_
          obtain ⟨⟨p_211, q_212⟩, H⟩ := H
          refine WL.val Wanted.none (Runs.indexAddr_blk arr61 rfl rfl p_211 q_212 (o := (IntKind.i64.wrap (x_205 - 1)).toNat) (by first | rfl | omega)) ?_
          refine WL.val Wanted.none (Runs.load nagg42 rfl (st_207.cell_iv (i := 0) rfl (by have := hl_204; omega))) ?_
          obtain ⟨⟨p_213, q_214⟩, H⟩ := H
          refine WL.val Wanted.none (Runs.indexAddr_blk arr61 rfl rfl p_213 q_214 (o := (x_205).toNat) (by first | rfl | omega)) ?_
          obtain ⟨m_215, e_216, H⟩ := H
          have hl_219 : m_215.length = 8 := by rw [e_216, List.length_set]; exact hl_204
          refine WL.store_cells (i := 0) st_207 rfl cells42 rfl (by rw [iv_length]; have := hl_204; omega) rfl rfl ?_
          intro w_217 st_218
          have st_218' : St w w_217 [.cells B_140 (iv .u32 m_215) 61, .cells B_133 (iv .u32 r_131) 68, .cells B_9 (iv .u32 m_62) 68, .cells B_5 (iv .u32 (List.replicate 8 (0 : Int))) 61, .cells B_1 (iv .u32 l0) 61] := by rw [e_216, ← iv_set .u32 m_203 ((x_205).toNat) (gn m_203 ((IntKind.i64.wrap (x_205 - 1)).toNat))]; exact st_218
          refine WL.nil ?_
          refine QW.blk_n ?_
          refine QW.then_n ?_
          refine CW.region ?_
          refine WL.val Wanted.none (Runs.move rfl) ?_
          refine WL.val Wanted.none (Runs.sub rfl rfl rfl) ?_
          refine WL.val Wanted.none (Runs.assign rfl) ?_
          refine WL.nil ?_
          exact QW.at [(3, .pointer (some ⟨B_1, 0, none⟩)), (6, .pointer (some ⟨B_5, 0, none⟩)), (7, .pointer (some ⟨B_9, 0, none⟩)), (12, .pointer (some ⟨B_133, 0, none⟩)), (13, .pointer (some ⟨B_140, 0, none⟩)), (14, .int .i64 x_150), (126, .int .i64 x_150), (127, .bool (decide (x_150 < 64))), (130, .pointer (some ⟨B_140, 4, none⟩)), (131, .int .u32 (gn m_148 4)), (15, .int .u32 (gn m_148 4)), (132, .pointer (some ⟨B_140, 0, none⟩)), (133, .int .u32 (gn m_148 0)), (16, .int .u32 (gn m_148 0)), (134, .int .u32 (gn m_148 4)), (135, .int .u32 r_160), (136, .int .u32 (gn m_148 4)), (137, .int .u32 r_165), (138, .int .u32 (bits .xor .u32 r_160 r_165)), (139, .int .u32 (gn m_148 4)), (140, .int .u32 r_170), (141, .int .u32 (bits .xor .u32 (bits .xor .u32 r_160 r_165) r_170)), (17, .int .u32 (bits .xor .u32 (bits .xor .u32 r_160 r_165) r_170)), (142, .int .u32 (gn m_148 4)), (143, .pointer (some ⟨B_140, 5, none⟩)), (144, .int .u32 (gn m_148 5)), (145, .int .u32 (bits .and .u32 (gn m_148 4) (gn m_148 5))), (146, .int .u32 (gn m_148 4)), (147, .int .u32 (notI .u32 (gn m_148 4))), (148, .pointer (some ⟨B_140, 6, none⟩)), (149, .int .u32 (gn m_148 6)), (150, .int .u32 (bits .and .u32 (notI .u32 (gn m_148 4)) (gn m_148 6))), (151, .int .u32 x_171), (18, .int .u32 x_171), (152, .pointer (some ⟨B_140, 7, none⟩)), (153, .int .u32 (gn m_148 7)), (154, .int .u32 (bits .xor .u32 (bits .xor .u32 r_160 r_165) r_170)), (155, .int .u32 x_173), (156, .int .u32 x_171), (157, .int .u32 (IntKind.u32.wrap (x_173 + x_171))), (158, .int .i64 x_150), (159, .pointer (some ⟨B_133, (x_150).toNat, none⟩)), (160, .int .u32 (gn r_131 ((x_150).toNat))), (161, .int .u32 x_177), (162, .int .i64 x_150), (163, .pointer (some ⟨B_9, (x_150).toNat, none⟩)), (164, .int .u32 (gn m_62 ((x_150).toNat))), (165, .int .u32 (IntKind.u32.wrap (x_177 + (gn m_62 ((x_150).toNat))))), (19, .int .u32 (IntKind.u32.wrap (x_177 + (gn m_62 ((x_150).toNat))))), (166, .int .u32 (gn m_148 0)), (167, .int .u32 r_187), (168, .int .u32 (gn m_148 0)), (169, .int .u32 r_192), (170, .int .u32 (bits .xor .u32 r_187 r_192)), (171, .int .u32 (gn m_148 0)), (172, .int .u32 r_197), (173, .int .u32 (bits .xor .u32 (bits .xor .u32 r_187 r_192) r_197)), (20, .int .u32 (bits .xor .u32 (bits .xor .u32 r_187 r_192) r_197)), (174, .int .u32 (gn m_148 0)), (175, .pointer (some ⟨B_140, 1, none⟩)), (176, .int .u32 (gn m_148 1)), (177, .int .u32 (bits .and .u32 (gn m_148 0) (gn m_148 1))), (178, .int .u32 (gn m_148 0)), (179, .pointer (some ⟨B_140, 2, none⟩)), (180, .int .u32 (gn m_148 2)), (181, .int .u32 (bits .and .u32 (gn m_148 0) (gn m_148 2))), (182, .int .u32 x_198), (183, .pointer (some ⟨B_140, 1, none⟩)), (184, .int .u32 (gn m_148 1)), (185, .pointer (some ⟨B_140, 2, none⟩)), (186, .int .u32 (gn m_148 2)), (187, .int .u32 (bits .and .u32 (gn m_148 1) (gn m_148 2))), (188, .int .u32 x_200), (21, .int .u32 x_200), (22, .int .i64 (IntKind.i64.wrap (x_205 - 1)))] ⟨rfl, rfl, rfl, rfl, rfl, rfl, rfl, rfl, rfl, rfl, rfl, rfl, rfl, rfl, rfl, rfl, rfl, rfl, rfl, rfl, rfl, rfl, rfl, rfl, rfl, rfl, rfl, rfl, rfl, rfl, rfl, rfl, rfl, rfl, rfl, rfl, rfl, rfl, rfl, rfl, rfl, rfl, rfl, rfl, rfl, rfl, rfl, rfl, rfl, rfl, rfl, rfl, rfl, rfl, rfl, rfl, rfl, rfl, rfl, rfl, rfl, rfl, rfl, rfl, rfl, rfl, rfl, rfl, rfl, rfl, rfl, rfl, rfl, rfl, rfl, trivial⟩ ⟨m_215, IntKind.i64.wrap (x_205 - 1), rfl, H, hl_219, st_218'⟩
        · have h_210 : (decide (x_205 > 0)) = false := (decide_eq_false c_209)
          refine CW.cf rfl h_210 ?_
          refine CW.exit ?_
          refine QW.then_x ?_
          refine QW.then_x ?_
          refine QW.blk_x ?_
          refine QW.then_n ?_
          refine CW.seq ?_
          refine CW.region ?_
          refine WL.val Wanted.none (Runs.indexAddr_blk arr61 rfl rfl (by decide) (by decide) (o := 4) (by first | rfl | omega)) ?_
          refine WL.val Wanted.none (Runs.load nagg42 rfl (st_207.cell_iv (i := 0) rfl (by have := hl_204; omega))) ?_
          refine WL.val Wanted.none (Runs.move rfl) ?_
          obtain ⟨x_220, e_221, H⟩ := H
          refine WL.val Wanted.none (Runs.add rfl rfl e_221) ?_
          refine WL.val Wanted.none (Runs.indexAddr_blk arr61 rfl rfl (by decide) (by decide) (o := 4) (by first | rfl | omega)) ?_
          obtain ⟨m_222, e_223, H⟩ := H
          have hl_226 : m_222.length = 8 := by rw [e_223, List.length_set]; exact hl_204
          refine WL.store_cells (i := 0) st_207 rfl cells42 rfl (by rw [iv_length]; have := hl_204; omega) rfl rfl ?_
          intro w_224 st_225
          have st_225' : St w w_224 [.cells B_140 (iv .u32 m_222) 61, .cells B_133 (iv .u32 r_131) 68, .cells B_9 (iv .u32 m_62) 68, .cells B_5 (iv .u32 (List.replicate 8 (0 : Int))) 61, .cells B_1 (iv .u32 l0) 61] := by rw [e_223, ← iv_set .u32 m_203 4 x_220]; exact st_225
          refine WL.nil ?_
          refine QW.then_n ?_
          refine CW.region ?_
          refine WL.val Wanted.none (Runs.move rfl) ?_
          refine WL.val Wanted.none (Runs.move rfl) ?_
          obtain ⟨x_227, e_228, H⟩ := H
          refine WL.val Wanted.none (Runs.add rfl rfl e_228) ?_
          refine WL.val Wanted.none (Runs.move rfl) ?_
          refine WL.val Wanted.none (Runs.add rfl rfl rfl) ?_
          refine WL.val Wanted.none (Runs.indexAddr_blk arr61 rfl rfl (by decide) (by decide) (o := 0) (by first | rfl | omega)) ?_
          obtain ⟨m_229, e_230, H⟩ := H
          have hl_233 : m_229.length = 8 := by rw [e_230, List.length_set]; exact hl_226
          refine WL.store_cells (i := 0) st_225' rfl cells42 rfl (by rw [iv_length]; have := hl_226; omega) rfl rfl ?_
          intro w_231 st_232
          have st_232' : St w w_231 [.cells B_140 (iv .u32 m_229) 61, .cells B_133 (iv .u32 r_131) 68, .cells B_9 (iv .u32 m_62) 68, .cells B_5 (iv .u32 (List.replicate 8 (0 : Int))) 61, .cells B_1 (iv .u32 l0) 61] := by rw [e_230, ← iv_set .u32 m_222 0 (IntKind.u32.wrap (x_227 + x_200))]; exact st_232
          refine WL.nil ?_
          refine QW.blk_n ?_
          refine QW.then_n ?_
          refine CW.region ?_
          refine WL.val Wanted.none (Runs.move rfl) ?_
          refine WL.val Wanted.none (Runs.add rfl rfl rfl) ?_
          refine WL.val Wanted.none (Runs.assign rfl) ?_
          refine WL.nil ?_
          exact QW.at [(3, .pointer (some ⟨B_1, 0, none⟩)), (6, .pointer (some ⟨B_5, 0, none⟩)), (7, .pointer (some ⟨B_9, 0, none⟩)), (12, .pointer (some ⟨B_133, 0, none⟩)), (13, .pointer (some ⟨B_140, 0, none⟩)), (14, .int .i64 (IntKind.i64.wrap (x_150 + 1)))] ⟨rfl, rfl, rfl, rfl, rfl, rfl, trivial⟩ ⟨m_229, IntKind.i64.wrap (x_150 + 1), rfl, H, hl_233, st_232'⟩
      · have h_155 : (decide (x_150 < 64)) = false := (decide_eq_false c_154)
        refine CW.cf rfl h_155 ?_
        refine CW.exit ?_
        refine QW.then_x ?_
        refine QW.then_x ?_
        refine QW.blk_x ?_
        refine QW.then_n ?_
        refine CW.seq ?_
        refine CW.seq ?_
        refine CW.region ?_
        refine WL.val Wanted.none (Runs.assign rfl) ?_
        refine WL.nil ?_
        refine QW.then_n ?_
        refine CW.block ?_
        obtain ⟨k_234, H⟩ := H
        refine CW.sub [(3, .pointer (some ⟨B_1, 0, none⟩)), (6, .pointer (some ⟨B_5, 0, none⟩)), (13, .pointer (some ⟨B_140, 0, none⟩)), (23, .int .i64 0)] ⟨rfl, rfl, rfl, rfl, trivial⟩ ?_
        refine CW.loop (fun kL5 l_ w_ => ∃ (m_235 : List Int) (x_237 : Int), l_ = [(3, .pointer (some ⟨B_1, 0, none⟩)), (6, .pointer (some ⟨B_5, 0, none⟩)), (13, .pointer (some ⟨B_140, 0, none⟩)), (23, .int .i64 x_237)] ∧ reliquaryref02_block.L5 l0 r0 kL5 m_235 x_237 ∧ (m_235.length = 8) ∧ St w w_ [.cells B_140 (iv .u32 m_235) 61, .cells B_133 (iv .u32 r_131) 68, .cells B_9 (iv .u32 m_62) 68, .cells B_5 (iv .u32 (List.replicate 8 (0 : Int))) 61, .cells B_1 (iv .u32 l0) 61]) (k := k_234) ⟨m_148, 0, rfl, H, hl_149, st_152⟩ (fun _ _ h => by obtain ⟨_, _, _, h, _⟩ := h; exact h.elim) ?_
        rintro kL5 l_240 w_238 ⟨m_235, x_237, rfl, H, hl_236, st_239⟩
        refine CW.seq ?_
        refine CW.seq ?_
        refine CW.region ?_
        refine WL.val Wanted.none (Runs.move rfl) ?_
        refine WL.val Wanted.none (Runs.lss rfl rfl rfl) ?_
        refine WL.nil ?_
        refine QW.then_n ?_
        rcases H with ⟨c_241, H⟩ | ⟨c_241, H⟩
        · have h_242 : (decide (x_237 < 8)) = true := (decide_eq_true c_241)
          refine CW.ct rfl h_242 ?_
          refine CW.skip ?_
          refine QW.then_n ?_
          refine CW.seq ?_
          refine CW.block ?_
          refine CW.region_qt 8 wide (by kernel_rfl) st_239 ?_
          refine HL.val Wanted.none (fun wq sq => (Runs.move rfl)) ?_
          obtain ⟨⟨p_243, q_244⟩, H⟩ := H
          refine HL.val Wanted.none (fun wq sq => (Runs.indexAddr_blk arr61 rfl rfl p_243 q_244 (o := (x_237).toNat) (by first | rfl | omega))) ?_
          refine HL.val Wanted.none (fun wq sq => (Runs.load nagg42 rfl (sq.cell_iv (i := 0) rfl (by have := hl_236; omega)))) ?_
          refine HL.val Wanted.none (fun wq sq => (Runs.move rfl)) ?_
          obtain ⟨⟨p_245, q_246⟩, H⟩ := H
          refine HL.val Wanted.none (fun wq sq => (Runs.indexAddr_blk arr61 rfl rfl p_245 q_246 (o := (x_237).toNat) (by first | rfl | omega))) ?_
          refine HL.val Wanted.none (fun wq sq => (Runs.load nagg42 rfl (sq.cell_iv (i := 4) rfl (by have := hl0; omega)))) ?_
          obtain ⟨x_247, e_248, H⟩ := H
          refine HL.val Wanted.none (fun wq sq => (Runs.add rfl rfl e_248)) ?_
          obtain ⟨⟨p_249, q_250⟩, H⟩ := H
          refine HL.val Wanted.none (fun wq sq => (Runs.indexAddr_blk arr61 rfl rfl p_249 q_250 (o := (x_237).toNat) (by first | rfl | omega))) ?_
          refine HL.nil (fun w_251 st_252 => ?_)
          obtain ⟨m_253, e_254, H⟩ := H
          have hl_257 : m_253.length = 8 := by rw [e_254, List.length_set]; exact hl_236
          refine WL.store_cells (i := 0) st_252 rfl cells42 rfl (by rw [iv_length]; have := hl_236; omega) rfl rfl ?_
          intro w_255 st_256
          have st_256' : St w w_255 [.cells B_140 (iv .u32 m_253) 61, .cells B_133 (iv .u32 r_131) 68, .cells B_9 (iv .u32 m_62) 68, .cells B_5 (iv .u32 (List.replicate 8 (0 : Int))) 61, .cells B_1 (iv .u32 l0) 61] := by rw [e_254, ← iv_set .u32 m_235 ((x_237).toNat) x_247]; exact st_256
          refine WL.nil ?_
          refine QW.blk_n ?_
          refine QW.then_n ?_
          refine CW.region ?_
          refine WL.val Wanted.none (Runs.move rfl) ?_
          refine WL.val Wanted.none (Runs.add rfl rfl rfl) ?_
          refine WL.val Wanted.none (Runs.assign rfl) ?_
          refine WL.nil ?_
          exact QW.at [(3, .pointer (some ⟨B_1, 0, none⟩)), (6, .pointer (some ⟨B_5, 0, none⟩)), (13, .pointer (some ⟨B_140, 0, none⟩)), (23, .int .i64 (IntKind.i64.wrap (x_237 + 1)))] ⟨rfl, rfl, rfl, rfl, trivial⟩ ⟨m_253, IntKind.i64.wrap (x_237 + 1), rfl, H, hl_257, st_256'⟩
        · have h_242 : (decide (x_237 < 8)) = false := (decide_eq_false c_241)
          refine CW.cf rfl h_242 ?_
          refine CW.exit ?_
          refine QW.then_x ?_
          refine QW.then_x ?_
          refine QW.blk_x ?_
          refine QW.then_n ?_
          refine CW.seq ?_
          refine CW.region ?_
          refine WL.val Wanted.none (Runs.load_arr arr61 rfl (st_239.blk (i := 0) rfl) hl_236) ?_
          refine WL.store_arr (i := 3) st_239 rfl arr61 rfl (by rw [iv_length]; exact (List.length_replicate ..)) hl_236 rfl ?_
          intro w_258 st_259
          replace st_259 : St w w_258 [.cells B_140 (iv .u32 m_235) 61, .cells B_133 (iv .u32 r_131) 68, .cells B_9 (iv .u32 m_62) 68, .cells B_5 (iv .u32 m_235) 61, .cells B_1 (iv .u32 l0) 61] := st_259
          refine WL.nil ?_
          refine QW.then_n ?_
          refine CW.sub [(6, .pointer (some ⟨B_5, 0, none⟩))] ⟨rfl, trivial⟩ ?_
          refine CW.ret ?_
          obtain rfl := H
          exact QW.retc rfl arr61 rfl (st_259.blk (i := 3) rfl) hl_236 ⟨hl_236, rfl, st_259.pick [] (by decide)⟩

/-! ### reliquaryref02_Of: function 20 -/
def reliquaryref02_Of.L4 (r0 : List Int) (m_93 : List Int) : Nat → (List Int) → Int → Prop
  | 0, _, _ => False
  | kL4 + 1, m_115, x_117 => ((x_117 < 32 ∧ ((0 ≤ (IntKind.i64.wrap (Int.tdiv x_117 4)) ∧ (IntKind.i64.wrap (Int.tdiv x_117 4)) < (8 : Int)) ∧ (∃ x_125 : Int, x_125 = IntKind.i64.wrap (24 - (IntKind.i64.wrap (8 * (Int.tmod x_117 4)))) ∧ (0 ≤ (IntKind.u64.wrap x_125) ∧ (∃ x_128 : Int, x_128 = shrI .u32 (gn m_93 ((IntKind.i64.wrap (Int.tdiv x_117 4)).toNat)) (IntKind.u64.wrap x_125) ∧ ((0 ≤ x_117 ∧ x_117 < (32 : Int)) ∧ (∃ m_132 : List Int, m_132 = List.set m_115 ((x_117).toNat) (IntKind.u8.wrap x_128) ∧ reliquaryref02_Of.L4 r0 m_93 kL4 m_132 (IntKind.i64.wrap (x_117 + 1))))))))) ∨ (¬ (x_117 < 32) ∧ r0 = m_115))
def reliquaryref02_Of.L3 (r0 : List Int) (l_56 : List Int) : Nat → (List Int) → Int → Prop
  | 0, _, _ => False
  | kL3 + 1, m_93, x_95 => ((x_95 < (l_56.length : Int) ∧ (∃ (r_105 : List Int), reliquaryref02_block.rel m_93 l_56 x_95 r_105 ∧ reliquaryref02_Of.L3 r0 l_56 kL3 r_105 (IntKind.i64.wrap (x_95 + 64)))) ∨ (¬ (x_95 < (l_56.length : Int)) ∧ (∃ k_ : Nat, reliquaryref02_Of.L4 r0 m_93 k_ (List.replicate 32 (0 : Int)) 0)))
def reliquaryref02_Of.L2 (l0 : List Int) (r0 : List Int) : Nat → (List Int) → Int → Prop
  | 0, _, _ => False
  | kL2 + 1, l_56, x_59 => ((x_59 < 8 ∧ (∃ x_65 : Int, x_65 = IntKind.u64.wrap (IntKind.i64.wrap (56 - (IntKind.i64.wrap (8 * x_59)))) ∧ (0 ≤ x_65 ∧ (∃ x_68 : Int, x_68 = shrI .u64 (IntKind.u64.wrap ((IntKind.u64.wrap (l0.length : Int)) * 8)) x_65 ∧ (∃ m_74 : List Int, m_74 = l_56 ++ [IntKind.u8.wrap x_68] ∧ (m_74.length ≤ 1099511627776 ∧ reliquaryref02_Of.L2 l0 r0 kL2 m_74 (IntKind.i64.wrap (x_59 + 1)))))))) ∨ (¬ (x_59 < 8) ∧ (∃ m_83 : List Int, m_83 = [1779033703, 3144134277, 1013904242, 2773480762, 1359893119, 2600822924, 528734635, 1541459225] ∧ (∃ k_ : Nat, reliquaryref02_Of.L3 r0 l_56 k_ m_83 0))))
def reliquaryref02_Of.L1 (l0 : List Int) (r0 : List Int) : Nat → (List Int) → Prop
  | 0, _ => False
  | kL1 + 1, l_32 => (((Int.tmod (l_32.length : Int) 64) ≠ 56 ∧ (∃ m_44 : List Int, m_44 = l_32 ++ [0] ∧ (m_44.length ≤ 1099511627776 ∧ reliquaryref02_Of.L1 l0 r0 kL1 m_44))) ∨ (¬ ((Int.tmod (l_32.length : Int) 64) ≠ 56) ∧ (∃ k_ : Nat, reliquaryref02_Of.L2 l0 r0 k_ l_32 0)))
def reliquaryref02_Of.rel (l0 : List Int) (r0 : List Int) : Prop := (∃ m_7 : List Int, m_7 = ([] : List Int) ++ l0 ∧ (m_7.length ≤ 1099511627776 ∧ (∃ m_20 : List Int, m_20 = m_7 ++ [128] ∧ (m_20.length ≤ 1099511627776 ∧ (∃ k_ : Nat, reliquaryref02_Of.L1 l0 r0 k_ m_20)))))
set_option maxHeartbeats 4000000 in
set_option maxRecDepth 100000 in
theorem reliquaryref02_Of.calls (w : World) (l0 : List Int) (A0 : Option Addr) (n0 : Nat) (c0 : Nat)  (hs0 : Src w A0 (iv .u8 l0)) (hn0 : n0 = l0.length) (hc0 : n0 ≤ c0) (r0 : List Int) (H : reliquaryref02_Of.rel l0 r0) :
    Calls Tryd.prog 20 #[.slice A0 n0 c0] w fun e w' => r0.length = 32 ∧ e = .returned (.agg (iv .u8 r0).toArray) ∧ St w w' [] := by
  refine CW.enter Tryd.func20 rfl (n := 70) rfl [.slice A0 n0 c0] (Nat.le_of_ble_eq_true rfl) ?_
  refine CW.sub [(0, .slice A0 n0 c0)] ⟨rfl, trivial⟩ ?_
  have st0 : St w w [] := St.refl w
  refine CW.seq ?_
  refine CW.region ?_
  refine WL.alloc st0 arr23.zero ?_
  intro B_1 w_2 st_3
  replace st_3 : St w w_2 [.cells B_1 (iv .u8 (List.replicate 32 (0 : Int))) 23] := st_3
  refine WL.nil ?_
  refine QW.then_n ?_
  refine CW.seq ?_
  refine CW.region ?_
  refine WL.val Wanted.none (Runs.assign rfl) ?_
  refine WL.nil ?_
  refine QW.then_n ?_
  refine CW.seq ?_
  refine CW.region ?_
  refine WL.val Wanted.none (Runs.move rfl) ?_
  refine WL.val Wanted.none (Runs.move rfl) ?_
  have st_6 := st_3.nil_sl 5 1
  have st_6 : St w w_2 [.sl none 0 0 (iv .u8 ([] : List Int)) 5 1, .cells B_1 (iv .u8 (List.replicate 32 (0 : Int))) 23] := st_6
  obtain ⟨m_7, e_8, H⟩ := H
  obtain ⟨z_9, H⟩ := H
  obtain ⟨n_12, hn_15⟩ : ∃ n_ : Nat, n_ = m_7.length := ⟨_, rfl⟩
  refine WL.append (i := 0) Wanted.none st_6 rfl Tryd.underlying29 elem5 rfl rfl (hs0.ext st_6) (by rw [iv_length]; exact (hn0).symm) (one_iv .u8 _) (by decide) (N := n_12) (by rw [hn_15, e_8, List.length_append]; exact congr (congrArg HAdd.hAdd (rfl)) (hn0)) (by rw [hn_15]; exact z_9) ?_
  intro A_10 c_11 w_13 st_14
  have st_14' : St w w_13 [.sl A_10 c_11 n_12 (iv .u8 m_7) 5 1, .cells B_1 (iv .u8 (List.replicate 32 (0 : Int))) 23] := by rw [e_8, ← iv_append .u8 ([] : List Int) l0]; exact st_14
  refine WL.val Wanted.none (Runs.assign rfl) ?_
  refine WL.nil ?_
  refine QW.then_n ?_
  refine CW.seq ?_
  refine CW.region ?_
  refine WL.val Wanted.none (Runs.move rfl) ?_
  refine WL.buildSl [.int .u8 128] st_14' Tryd.underlying29 elem5 rfl rfl (by decide) (by decide) (by simp [Value.cells]) ?_
  intro B_16 w_17 st_18
  replace st_18 : St w w_17 [.sl (some ⟨B_16, 0, none⟩) 1 1 (iv .u8 [128]) 5 1, .sl A_10 c_11 n_12 (iv .u8 m_7) 5 1, .cells B_1 (iv .u8 (List.replicate 32 (0 : Int))) 23] := st_18
  obtain ⟨m_20, e_21, H⟩ := H
  obtain ⟨z_22, H⟩ := H
  obtain ⟨n_25, hn_28⟩ : ∃ n_ : Nat, n_ = m_20.length := ⟨_, rfl⟩
  refine WL.append (i := 1) Wanted.none st_18 rfl Tryd.underlying29 elem5 rfl rfl (st_18.src_sl (k := 0) rfl) (by rw [iv_length]; exact (Eq.refl _).symm) (one_iv .u8 _) (by decide) (N := n_25) (by rw [hn_28, e_21, List.length_append]; exact congr (congrArg HAdd.hAdd (hn_15)) (rfl)) (by rw [hn_28]; exact z_22) ?_
  intro A_23 c_24 w_26 st_27
  have st_27' : St w w_26 [.sl (some ⟨B_16, 0, none⟩) 1 1 (iv .u8 [128]) 5 1, .sl A_23 c_24 n_25 (iv .u8 m_20) 5 1, .cells B_1 (iv .u8 (List.replicate 32 (0 : Int))) 23] := by rw [e_21, ← iv_append .u8 m_7 [128]]; exact st_27
  refine WL.val Wanted.none (Runs.assign rfl) ?_
  refine WL.nil ?_
  refine QW.then_n ?_
  refine CW.sub [(0, .slice A0 n0 c0), (2, .pointer (some ⟨B_1, 0, none⟩)), (3, .slice A_23 n_25 c_24)] ⟨rfl, rfl, rfl, trivial⟩ ?_
  refine CW.seq ?_
  refine CW.block ?_
  obtain ⟨k_29, H⟩ := H
  refine CW.sub [(0, .slice A0 n0 c0), (2, .pointer (some ⟨B_1, 0, none⟩)), (3, .slice A_23 n_25 c_24)] ⟨rfl, rfl, rfl, trivial⟩ ?_
  refine CW.loop (fun kL1 l_ w_ => ∃ (A_30 : Option Addr) (c_31 : Nat) (n_33 : Nat) (l_32 : List Int), l_ = [(0, .slice A0 n0 c0), (2, .pointer (some ⟨B_1, 0, none⟩)), (3, .slice A_30 n_33 c_31)] ∧ reliquaryref02_Of.L1 l0 r0 kL1 l_32 ∧ (n_33 = l_32.length) ∧ St w w_ [.sl (some ⟨B_16, 0, none⟩) 1 1 (iv .u8 [128]) 5 1, .sl A_30 c_31 n_33 (iv .u8 l_32) 5 1, .cells B_1 (iv .u8 (List.replicate 32 (0 : Int))) 23]) (k := k_29) ⟨A_23, c_24, n_25, m_20, rfl, H, hn_28, st_27'⟩ (fun _ _ h => by obtain ⟨_, _, _, _, _, h, _⟩ := h; exact h.elim) ?_
  rintro kL1 l_37 w_35 ⟨A_30, c_31, n_33, l_32, rfl, H, hn_34, st_36⟩
  refine CW.seq ?_
  refine CW.seq ?_
  refine CW.region ?_
  refine WL.val Wanted.none (Runs.move rfl) ?_
  refine WL.val Wanted.none (Runs.len_sl Tryd.underlying29 rfl (by rw [hn_34])) ?_
  refine WL.val Wanted.none (Runs.rem rfl rfl (by decide) rfl) ?_
  refine WL.val Wanted.none (Runs.neq rfl rfl rfl) ?_
  refine WL.nil ?_
  refine QW.then_n ?_
  rcases H with ⟨c_38, H⟩ | ⟨c_38, H⟩
  · have h_39 : ((Int.tmod (l_32.length : Int) 64) != 56) = true := (bne_iff_ne.mpr c_38)
    refine CW.ct rfl h_39 ?_
    refine CW.skip ?_
    refine QW.then_n ?_
    refine CW.block ?_
    refine CW.region ?_
    refine WL.val Wanted.none (Runs.move rfl) ?_
    refine WL.buildSl [.int .u8 0] st_36 Tryd.underlying29 elem5 rfl rfl (by decide) (by decide) (by simp [Value.cells]) ?_
    intro B_40 w_41 st_42
    replace st_42 : St w w_41 [.sl (some ⟨B_40, 0, none⟩) 1 1 (iv .u8 [0]) 5 1, .sl (some ⟨B_16, 0, none⟩) 1 1 (iv .u8 [128]) 5 1, .sl A_30 c_31 n_33 (iv .u8 l_32) 5 1, .cells B_1 (iv .u8 (List.replicate 32 (0 : Int))) 23] := st_42
    obtain ⟨m_44, e_45, H⟩ := H
    obtain ⟨z_46, H⟩ := H
    obtain ⟨n_49, hn_52⟩ : ∃ n_ : Nat, n_ = m_44.length := ⟨_, rfl⟩
    refine WL.append (i := 2) Wanted.none st_42 rfl Tryd.underlying29 elem5 rfl rfl (st_42.src_sl (k := 0) rfl) (by rw [iv_length]; exact (Eq.refl _).symm) (one_iv .u8 _) (by decide) (N := n_49) (by rw [hn_52, e_45, List.length_append]; exact congr (congrArg HAdd.hAdd (hn_34)) (rfl)) (by rw [hn_52]; exact z_46) ?_
    intro A_47 c_48 w_50 st_51
    have st_51' : St w w_50 [.sl (some ⟨B_40, 0, none⟩) 1 1 (iv .u8 [0]) 5 1, .sl (some ⟨B_16, 0, none⟩) 1 1 (iv .u8 [128]) 5 1, .sl A_47 c_48 n_49 (iv .u8 m_44) 5 1, .cells B_1 (iv .u8 (List.replicate 32 (0 : Int))) 23] := by rw [e_45, ← iv_append .u8 l_32 [0]]; exact st_51
    refine WL.val Wanted.none (Runs.assign rfl) ?_
    refine WL.nil ?_
    refine QW.blk_n ?_
    have st_51'' := st_51'.pick [1, 2, 3] (by decide)
    exact QW.at [(0, .slice A0 n0 c0), (2, .pointer (some ⟨B_1, 0, none⟩)), (3, .slice A_47 n_49 c_48)] ⟨rfl, rfl, rfl, trivial⟩ ⟨A_47, c_48, n_49, m_44, rfl, H, hn_52, st_51''⟩
  · have h_39 : ((Int.tmod (l_32.length : Int) 64) != 56) = false := (bne_eq_false_iff_eq.mpr (Decidable.not_not.mp c_38))
    refine CW.cf rfl h_39 ?_
    refine CW.exit ?_
    refine QW.then_x ?_
    refine QW.then_x ?_
    refine QW.blk_x ?_
    refine QW.then_n ?_
    refine CW.seq ?_
    refine CW.region ?_
    refine WL.val Wanted.none (Runs.move rfl) ?_
    refine WL.val Wanted.none (Runs.len_sl Tryd.underlying29 rfl (by rw [hn0])) ?_
    refine WL.val Wanted.none (Runs.conv Tryd.underlying24 ⟨_, Tryd.underlying3⟩ rfl rfl) ?_
    refine WL.val Wanted.none (Runs.mul rfl rfl rfl) ?_
    refine WL.val Wanted.none (Runs.assign rfl) ?_
    refine WL.nil ?_
    refine QW.then_n ?_
    refine CW.sub [(2, .pointer (some ⟨B_1, 0, none⟩)), (3, .slice A_30 n_33 c_31), (4, .int .u64 (IntKind.u64.wrap ((IntKind.u64.wrap (l0.length : Int)) * 8)))] ⟨rfl, rfl, rfl, trivial⟩ ?_
    refine CW.seq ?_
    refine CW.seq ?_
    refine CW.region ?_
    refine WL.val Wanted.none (Runs.assign rfl) ?_
    refine WL.nil ?_
    refine QW.then_n ?_
    refine CW.block ?_
    obtain ⟨k_53, H⟩ := H
    refine CW.sub [(2, .pointer (some ⟨B_1, 0, none⟩)), (3, .slice A_30 n_33 c_31), (4, .int .u64 (IntKind.u64.wrap ((IntKind.u64.wrap (l0.length : Int)) * 8))), (5, .int .i64 0)] ⟨rfl, rfl, rfl, rfl, trivial⟩ ?_
    refine CW.loop (fun kL2 l_ w_ => ∃ (A_54 : Option Addr) (c_55 : Nat) (n_57 : Nat) (l_56 : List Int) (x_59 : Int), l_ = [(2, .pointer (some ⟨B_1, 0, none⟩)), (3, .slice A_54 n_57 c_55), (4, .int .u64 (IntKind.u64.wrap ((IntKind.u64.wrap (l0.length : Int)) * 8))), (5, .int .i64 x_59)] ∧ reliquaryref02_Of.L2 l0 r0 kL2 l_56 x_59 ∧ (n_57 = l_56.length) ∧ St w w_ [.sl (some ⟨B_16, 0, none⟩) 1 1 (iv .u8 [128]) 5 1, .sl A_54 c_55 n_57 (iv .u8 l_56) 5 1, .cells B_1 (iv .u8 (List.replicate 32 (0 : Int))) 23]) (k := k_53) ⟨A_30, c_31, n_33, l_32, 0, rfl, H, hn_34, st_36⟩ (fun _ _ h => by obtain ⟨_, _, _, _, _, _, h, _⟩ := h; exact h.elim) ?_
    rintro kL2 l_62 w_60 ⟨A_54, c_55, n_57, l_56, x_59, rfl, H, hn_58, st_61⟩
    refine CW.seq ?_
    refine CW.seq ?_
    refine CW.region ?_
    refine WL.val Wanted.none (Runs.move rfl) ?_
    refine WL.val Wanted.none (Runs.lss rfl rfl rfl) ?_
    refine WL.nil ?_
    refine QW.then_n ?_
    rcases H with ⟨c_63, H⟩ | ⟨c_63, H⟩
    · have h_64 : (decide (x_59 < 8)) = true := (decide_eq_true c_63)
      refine CW.ct rfl h_64 ?_
      refine CW.skip ?_
      refine QW.then_n ?_
      refine CW.seq ?_
      refine CW.block ?_
      refine CW.region ?_
      refine WL.val Wanted.none (Runs.move rfl) ?_
      refine WL.val Wanted.none (Runs.move rfl) ?_
      refine WL.val Wanted.none (Runs.move rfl) ?_
      refine WL.val Wanted.none (Runs.mul rfl rfl rfl) ?_
      refine WL.val Wanted.none (Runs.sub rfl rfl rfl) ?_
      obtain ⟨x_65, e_66, H⟩ := H
      refine WL.val Wanted.none (Runs.conv Tryd.underlying52 ⟨_, Tryd.underlying3⟩ rfl e_66) ?_
      obtain ⟨z_67, H⟩ := H
      obtain ⟨x_68, e_69, H⟩ := H
      refine WL.val Wanted.none (Runs.shr rfl rfl z_67 e_69) ?_
      refine WL.val Wanted.none (Runs.conv Tryd.underlying5 ⟨_, Tryd.underlying24⟩ rfl rfl) ?_
      refine WL.buildSl [.int .u8 (IntKind.u8.wrap x_68)] st_61 Tryd.underlying29 elem5 rfl rfl (by decide) (by decide) (by simp [Value.cells]) ?_
      intro B_70 w_71 st_72
      replace st_72 : St w w_71 [.sl (some ⟨B_70, 0, none⟩) 1 1 (iv .u8 [IntKind.u8.wrap x_68]) 5 1, .sl (some ⟨B_16, 0, none⟩) 1 1 (iv .u8 [128]) 5 1, .sl A_54 c_55 n_57 (iv .u8 l_56) 5 1, .cells B_1 (iv .u8 (List.replicate 32 (0 : Int))) 23] := st_72
      obtain ⟨m_74, e_75, H⟩ := H
      obtain ⟨z_76, H⟩ := H
      obtain ⟨n_79, hn_82⟩ : ∃ n_ : Nat, n_ = m_74.length := ⟨_, rfl⟩
      refine WL.append (i := 2) Wanted.none st_72 rfl Tryd.underlying29 elem5 rfl rfl (st_72.src_sl (k := 0) rfl) (by rw [iv_length]; exact (Eq.refl _).symm) (one_iv .u8 _) (by decide) (N := n_79) (by rw [hn_82, e_75, List.length_append]; exact congr (congrArg HAdd.hAdd (hn_58)) (rfl)) (by rw [hn_82]; exact z_76) ?_
      intro A_77 c_78 w_80 st_81
      have st_81' : St w w_80 [.sl (some ⟨B_70, 0, none⟩) 1 1 (iv .u8 [IntKind.u8.wrap x_68]) 5 1, .sl (some ⟨B_16, 0, none⟩) 1 1 (iv .u8 [128]) 5 1, .sl A_77 c_78 n_79 (iv .u8 m_74) 5 1, .cells B_1 (iv .u8 (List.replicate 32 (0 : Int))) 23] := by rw [e_75, ← iv_append .u8 l_56 [IntKind.u8.wrap x_68]]; exact st_81
      refine WL.val Wanted.none (Runs.assign rfl) ?_
      refine WL.nil ?_
      refine QW.blk_n ?_
      refine QW.then_n ?_
      refine CW.region ?_
      refine WL.val Wanted.none (Runs.move rfl) ?_
      refine WL.val Wanted.none (Runs.add rfl rfl rfl) ?_
      refine WL.val Wanted.none (Runs.assign rfl) ?_
      refine WL.nil ?_
      have st_81'' := st_81'.pick [1, 2, 3] (by decide)
      exact QW.at [(2, .pointer (some ⟨B_1, 0, none⟩)), (3, .slice A_77 n_79 c_78), (4, .int .u64 (IntKind.u64.wrap ((IntKind.u64.wrap (l0.length : Int)) * 8))), (5, .int .i64 (IntKind.i64.wrap (x_59 + 1)))] ⟨rfl, rfl, rfl, rfl, trivial⟩ ⟨A_77, c_78, n_79, m_74, IntKind.i64.wrap (x_59 + 1), rfl, H, hn_82, st_81''⟩
    · have h_64 : (decide (x_59 < 8)) = false := (decide_eq_false c_63)
      refine CW.cf rfl h_64 ?_
      refine CW.exit ?_
      refine QW.then_x ?_
      refine QW.then_x ?_
      refine QW.blk_x ?_
      refine QW.then_n ?_
      refine CW.seq ?_
      refine CW.region ?_
      obtain ⟨m_83, e_84, H⟩ := H
      refine WL.val Wanted.none (Runs.build_arr (xs := m_83) arr61 rfl rfl (by rw [e_84]; rfl)) ?_
      refine WL.alloc st_61 arr61.zero ?_
      intro B_85 w_86 st_87
      replace st_87 : St w w_86 [.cells B_85 (iv .u32 (List.replicate 8 (0 : Int))) 61, .sl (some ⟨B_16, 0, none⟩) 1 1 (iv .u8 [128]) 5 1, .sl A_54 c_55 n_57 (iv .u8 l_56) 5 1, .cells B_1 (iv .u8 (List.replicate 32 (0 : Int))) 23] := st_87
      refine WL.store_arr (i := 0) st_87 rfl arr61 rfl (by rw [iv_length]; exact (List.length_replicate ..)) (by rw [e_84]; rfl) rfl ?_
      intro w_89 st_90
      replace st_90 : St w w_89 [.cells B_85 (iv .u32 m_83) 61, .sl (some ⟨B_16, 0, none⟩) 1 1 (iv .u8 [128]) 5 1, .sl A_54 c_55 n_57 (iv .u8 l_56) 5 1, .cells B_1 (iv .u8 (List.replicate 32 (0 : Int))) 23] := st_90
      refine WL.nil ?_
      refine QW.then_n ?_
      refine CW.seq ?_
      refine CW.seq ?_
      refine CW.region ?_
      refine WL.val Wanted.none (Runs.assign rfl) ?_
      refine WL.nil ?_
      refine QW.then_n ?_
      refine CW.block ?_
      obtain ⟨k_92, H⟩ := H
      refine CW.sub [(2, .pointer (some ⟨B_1, 0, none⟩)), (3, .slice A_54 n_57 c_55), (6, .pointer (some ⟨B_85, 0, none⟩)), (7, .int .i64 0)] ⟨rfl, rfl, rfl, rfl, trivial⟩ ?_
      refine CW.loop (fun kL3 l_ w_ => ∃ (m_93 : List Int) (x_95 : Int), l_ = [(2, .pointer (some ⟨B_1, 0, none⟩)), (3, .slice A_54 n_57 c_55), (6, .pointer (some ⟨B_85, 0, none⟩)), (7, .int .i64 x_95)] ∧ reliquaryref02_Of.L3 r0 l_56 kL3 m_93 x_95 ∧ (m_93.length = 8) ∧ St w w_ [.cells B_85 (iv .u32 m_93) 61, .sl (some ⟨B_16, 0, none⟩) 1 1 (iv .u8 [128]) 5 1, .sl A_54 c_55 n_57 (iv .u8 l_56) 5 1, .cells B_1 (iv .u8 (List.replicate 32 (0 : Int))) 23]) (k := k_92) ⟨m_83, 0, rfl, H, (by rw [e_84]; rfl), st_90⟩ (fun _ _ h => by obtain ⟨_, _, _, h, _⟩ := h; exact h.elim) ?_
      rintro kL3 l_98 w_96 ⟨m_93, x_95, rfl, H, hl_94, st_97⟩
      refine CW.seq ?_
      refine CW.seq ?_
      refine CW.region ?_
      refine WL.val Wanted.none (Runs.move rfl) ?_
      refine WL.val Wanted.none (Runs.move rfl) ?_
      refine WL.val Wanted.none (Runs.len_sl Tryd.underlying29 rfl (by rw [hn_58])) ?_
      refine WL.val Wanted.none (Runs.lss rfl rfl rfl) ?_
      refine WL.nil ?_
      refine QW.then_n ?_
      rcases H with ⟨c_99, H⟩ | ⟨c_99, H⟩
      · have h_100 : (decide (x_95 < (l_56.length : Int))) = true := (decide_eq_true c_99)
        refine CW.ct rfl h_100 ?_
        refine CW.skip ?_
        refine QW.then_n ?_
        refine CW.seq ?_
        refine CW.block ?_
        refine CW.region ?_
        refine WL.val Wanted.none (Runs.load_arr arr61 rfl (st_97.blk (i := 0) rfl) hl_94) ?_
        refine WL.val Wanted.none (Runs.move rfl) ?_
        refine WL.val Wanted.none (Runs.move rfl) ?_
        obtain ⟨r_105, hr_101, H⟩ := H
        refine WL.call Wanted.none ent28 rfl (reliquaryref02_block.calls w_96 m_93 l_56 x_95 A_54 n_57 c_55 hl_94 (st_97.src_sl (k := 2) rfl) (hn_58) (st_97.cap (i := 2) rfl) r_105 hr_101) ?_
        rintro _ w_102 ⟨hl_106, rfl, sc_104⟩
        have st_103 : St w w_102 [.cells B_85 (iv .u32 m_93) 61, .sl (some ⟨B_16, 0, none⟩) 1 1 (iv .u8 [128]) 5 1, .sl A_54 c_55 n_57 (iv .u8 l_56) 5 1, .cells B_1 (iv .u8 (List.replicate 32 (0 : Int))) 23] := st_97.call sc_104
        refine ⟨_, rfl, ?_⟩
        refine WL.store_arr (i := 0) st_103 rfl arr61 rfl (by rw [iv_length]; exact hl_94) hl_106 rfl ?_
        intro w_107 st_108
        replace st_108 : St w w_107 [.cells B_85 (iv .u32 r_105) 61, .sl (some ⟨B_16, 0, none⟩) 1 1 (iv .u8 [128]) 5 1, .sl A_54 c_55 n_57 (iv .u8 l_56) 5 1, .cells B_1 (iv .u8 (List.replicate 32 (0 : Int))) 23] := st_108
        refine WL.nil ?_
        refine QW.blk_n ?_
        refine QW.then_n ?_
        refine CW.region ?_
        refine WL.val Wanted.none (Runs.move rfl) ?_
        refine WL.val Wanted.none (Runs.add rfl rfl rfl) ?_
        refine WL.val Wanted.none (Runs.assign rfl) ?_
        refine WL.nil ?_
        exact QW.at [(2, .pointer (some ⟨B_1, 0, none⟩)), (3, .slice A_54 n_57 c_55), (6, .pointer (some ⟨B_85, 0, none⟩)), (7, .int .i64 (IntKind.i64.wrap (x_95 + 64)))] ⟨rfl, rfl, rfl, rfl, trivial⟩ ⟨r_105, IntKind.i64.wrap (x_95 + 64), rfl, H, hl_106, st_108⟩
      · have h_100 : (decide (x_95 < (l_56.length : Int))) = false := (decide_eq_false c_99)
        refine CW.cf rfl h_100 ?_
        refine CW.exit ?_
        refine QW.then_x ?_
        refine QW.then_x ?_
        refine QW.blk_x ?_
        refine QW.then_n ?_
        refine CW.sub [(2, .pointer (some ⟨B_1, 0, none⟩)), (6, .pointer (some ⟨B_85, 0, none⟩))] ⟨rfl, rfl, trivial⟩ ?_
        refine CW.seq ?_
        refine CW.region ?_
        refine WL.alloc st_97 arr23.zero ?_
        intro B_110 w_111 st_112
        replace st_112 : St w w_111 [.cells B_110 (iv .u8 (List.replicate 32 (0 : Int))) 23, .cells B_85 (iv .u32 m_93) 61, .sl (some ⟨B_16, 0, none⟩) 1 1 (iv .u8 [128]) 5 1, .sl A_54 c_55 n_57 (iv .u8 l_56) 5 1, .cells B_1 (iv .u8 (List.replicate 32 (0 : Int))) 23] := st_112
        refine WL.nil ?_
        refine QW.then_n ?_
        refine CW.seq ?_
        refine CW.seq ?_
        refine CW.region ?_
        refine WL.val Wanted.none (Runs.assign rfl) ?_
        refine WL.nil ?_
        refine QW.then_n ?_
        refine CW.block ?_
        obtain ⟨k_114, H⟩ := H
        refine CW.sub [(2, .pointer (some ⟨B_1, 0, none⟩)), (6, .pointer (some ⟨B_85, 0, none⟩)), (8, .pointer (some ⟨B_110, 0, none⟩)), (9, .int .i64 0)] ⟨rfl, rfl, rfl, rfl, trivial⟩ ?_
        refine CW.loop (fun kL4 l_ w_ => ∃ (m_115 : List Int) (x_117 : Int), l_ = [(2, .pointer (some ⟨B_1, 0, none⟩)), (6, .pointer (some ⟨B_85, 0, none⟩)), (8, .pointer (some ⟨B_110, 0, none⟩)), (9, .int .i64 x_117)] ∧ reliquaryref02_Of.L4 r0 m_93 kL4 m_115 x_117 ∧ (m_115.length = 32) ∧ St w w_ [.cells B_110 (iv .u8 m_115) 23, .cells B_85 (iv .u32 m_93) 61, .sl (some ⟨B_16, 0, none⟩) 1 1 (iv .u8 [128]) 5 1, .sl A_54 c_55 n_57 (iv .u8 l_56) 5 1, .cells B_1 (iv .u8 (List.replicate 32 (0 : Int))) 23]) (k := k_114) ⟨List.replicate 32 (0 : Int), 0, rfl, H, (List.length_replicate ..), st_112⟩ (fun _ _ h => by obtain ⟨_, _, _, h, _⟩ := h; exact h.elim) ?_
        rintro kL4 l_120 w_118 ⟨m_115, x_117, rfl, H, hl_116, st_119⟩
        refine CW.seq ?_
        refine CW.seq ?_
        refine CW.region ?_
        refine WL.val Wanted.none (Runs.move rfl) ?_
        refine WL.val Wanted.none (Runs.lss rfl rfl rfl) ?_
        refine WL.nil ?_
        refine QW.then_n ?_
        rcases H with ⟨c_121, H⟩ | ⟨c_121, H⟩
        · have h_122 : (decide (x_117 < 32)) = true := (decide_eq_true c_121)
          refine CW.ct rfl h_122 ?_
          refine CW.skip ?_
          refine QW.then_n ?_
          refine CW.seq ?_
          refine CW.block ?_
          refine CW.region ?_
          refine WL.val Wanted.none (Runs.move rfl) ?_
          refine WL.val Wanted.none (Runs.move rfl) ?_
          refine WL.val Wanted.none (Runs.quo rfl rfl (by decide) rfl) ?_
          obtain ⟨⟨p_123, q_124⟩, H⟩ := H
          refine WL.val Wanted.none (Runs.indexAddr_blk arr61 rfl rfl p_123 q_124 (o := (IntKind.i64.wrap (Int.tdiv x_117 4)).toNat) (by first | rfl | omega)) ?_
          refine WL.val Wanted.none (Runs.load nagg42 rfl (st_119.cell_iv (i := 1) rfl (by have := hl_94; omega))) ?_
          refine WL.val Wanted.none (Runs.move rfl) ?_
          refine WL.val Wanted.none (Runs.rem rfl rfl (by decide) rfl) ?_
          refine WL.val Wanted.none (Runs.mul rfl rfl rfl) ?_
          obtain ⟨x_125, e_126, H⟩ := H
          refine WL.val Wanted.none (Runs.sub rfl rfl e_126) ?_
          refine WL.val Wanted.none (Runs.conv Tryd.underlying52 ⟨_, Tryd.underlying3⟩ rfl rfl) ?_
          obtain ⟨z_127, H⟩ := H
          obtain ⟨x_128, e_129, H⟩ := H
          refine WL.val Wanted.none (Runs.shr rfl rfl z_127 e_129) ?_
          refine WL.val Wanted.none (Runs.conv Tryd.underlying5 ⟨_, Tryd.underlying42⟩ rfl rfl) ?_
          obtain ⟨⟨p_130, q_131⟩, H⟩ := H
          refine WL.val Wanted.none (Runs.indexAddr_blk arr23 rfl rfl p_130 q_131 (o := (x_117).toNat) (by first | rfl | omega)) ?_
          obtain ⟨m_132, e_133, H⟩ := H
          have hl_136 : m_132.length = 32 := by rw [e_133, List.length_set]; exact hl_116
          refine WL.store_cells (i := 0) st_119 rfl cells5 rfl (by rw [iv_length]; have := hl_116; omega) rfl rfl ?_
          intro w_134 st_135
          have st_135' : St w w_134 [.cells B_110 (iv .u8 m_132) 23, .cells B_85 (iv .u32 m_93) 61, .sl (some ⟨B_16, 0, none⟩) 1 1 (iv .u8 [128]) 5 1, .sl A_54 c_55 n_57 (iv .u8 l_56) 5 1, .cells B_1 (iv .u8 (List.replicate 32 (0 : Int))) 23] := by rw [e_133, ← iv_set .u8 m_115 ((x_117).toNat) (IntKind.u8.wrap x_128)]; exact st_135
          refine WL.nil ?_
          refine QW.blk_n ?_
          refine QW.then_n ?_
          refine CW.region ?_
          refine WL.val Wanted.none (Runs.move rfl) ?_
          refine WL.val Wanted.none (Runs.add rfl rfl rfl) ?_
          refine WL.val Wanted.none (Runs.assign rfl) ?_
          refine WL.nil ?_
          exact QW.at [(2, .pointer (some ⟨B_1, 0, none⟩)), (6, .pointer (some ⟨B_85, 0, none⟩)), (8, .pointer (some ⟨B_110, 0, none⟩)), (9, .int .i64 (IntKind.i64.wrap (x_117 + 1)))] ⟨rfl, rfl, rfl, rfl, trivial⟩ ⟨m_132, IntKind.i64.wrap (x_117 + 1), rfl, H, hl_136, st_135'⟩
        · have h_122 : (decide (x_117 < 32)) = false := (decide_eq_false c_121)
          refine CW.cf rfl h_122 ?_
          refine CW.exit ?_
          refine QW.then_x ?_
          refine QW.then_x ?_
          refine QW.blk_x ?_
          refine QW.then_n ?_
          refine CW.seq ?_
          refine CW.region ?_
          refine WL.val Wanted.none (Runs.load_arr arr23 rfl (st_119.blk (i := 0) rfl) hl_116) ?_
          refine WL.store_arr (i := 4) st_119 rfl arr23 rfl (by rw [iv_length]; exact (List.length_replicate ..)) hl_116 rfl ?_
          intro w_137 st_138
          replace st_138 : St w w_137 [.cells B_110 (iv .u8 m_115) 23, .cells B_85 (iv .u32 m_93) 61, .sl (some ⟨B_16, 0, none⟩) 1 1 (iv .u8 [128]) 5 1, .sl A_54 c_55 n_57 (iv .u8 l_56) 5 1, .cells B_1 (iv .u8 m_115) 23] := st_138
          refine WL.nil ?_
          refine QW.then_n ?_
          refine CW.sub [(2, .pointer (some ⟨B_1, 0, none⟩))] ⟨rfl, trivial⟩ ?_
          refine CW.ret ?_
          obtain rfl := H
          exact QW.retc rfl arr23 rfl (st_138.blk (i := 4) rfl) hl_116 ⟨hl_116, rfl, st_138.pick [] (by decide)⟩

/-! ### reliquaryref10_Digest: function 15 -/
def reliquaryref10_Digest.rel (a0 : Int) (a1 : Int) (a2 : ByteArray) (r0 : List Int) : Prop := (∃ (r_13 : List Int), reliquaryref01_Put.rel (IntKind.u64.wrap a1) 4 r_13 ∧ (∃ m_19 : List Int, m_19 = [IntKind.u8.wrap a0] ++ r_13 ∧ (m_19.length ≤ 1099511627776 ∧ (∃ m_28 : List Int, m_28 = m_19 ++ bl a2 ∧ (m_28.length ≤ 1099511627776 ∧ (∃ (r_41 : List Int), reliquaryref02_Of.rel m_28 r_41 ∧ r0 = r_41))))))
set_option maxHeartbeats 4000000 in
set_option maxRecDepth 100000 in
theorem reliquaryref10_Digest.calls (w : World) (a0 : Int) (a1 : Int) (a2 : ByteArray)    (r0 : List Int) (H : reliquaryref10_Digest.rel a0 a1 a2 r0) :
    Calls Tryd.prog 15 #[.int .i64 a0, .int .u32 a1, .string a2] w fun e w' => r0.length = 32 ∧ e = .returned (.agg (iv .u8 r0).toArray) ∧ St w w' [] := by
  refine CW.enter Tryd.func15 rfl (n := 21) rfl [.int .i64 a0, .int .u32 a1, .string a2] (Nat.le_of_ble_eq_true rfl) ?_
  refine CW.sub [(0, .int .i64 a0), (1, .int .u32 a1), (2, .string a2)] ⟨rfl, rfl, rfl, trivial⟩ ?_
  have st0 : St w w [] := St.refl w
  refine CW.seq ?_
  refine CW.region ?_
  refine WL.alloc st0 arr23.zero ?_
  intro B_1 w_2 st_3
  replace st_3 : St w w_2 [.cells B_1 (iv .u8 (List.replicate 32 (0 : Int))) 23] := st_3
  refine WL.nil ?_
  refine QW.then_n ?_
  refine CW.seq ?_
  refine CW.region ?_
  refine WL.val Wanted.none (Runs.move rfl) ?_
  refine WL.val Wanted.none (Runs.conv Tryd.underlying5 ⟨_, Tryd.underlying3⟩ rfl rfl) ?_
  refine WL.buildSl [.int .u8 (IntKind.u8.wrap a0)] st_3 Tryd.underlying29 elem5 rfl rfl (by decide) (by decide) (by simp [Value.cells]) ?_
  intro B_5 w_6 st_7
  replace st_7 : St w w_6 [.sl (some ⟨B_5, 0, none⟩) 1 1 (iv .u8 [IntKind.u8.wrap a0]) 5 1, .cells B_1 (iv .u8 (List.replicate 32 (0 : Int))) 23] := st_7
  refine WL.val Wanted.none (Runs.assign rfl) ?_
  refine WL.nil ?_
  refine QW.then_n ?_
  refine CW.seq ?_
  refine CW.region ?_
  refine WL.val Wanted.none (Runs.move rfl) ?_
  refine WL.val Wanted.none (Runs.move rfl) ?_
  refine WL.val Wanted.none (Runs.conv Tryd.underlying24 ⟨_, Tryd.underlying42⟩ rfl rfl) ?_
  obtain ⟨r_13, hr_9, H⟩ := H
  refine WL.call Wanted.none ent25 rfl (reliquaryref01_Put.calls w_6 (IntKind.u64.wrap a1) 4 r_13 hr_9) ?_
  rintro _ w_10 ⟨A_14, c_15, n_16, hn_17, rfl, sc_12⟩
  have st_11 : St w w_10 [.sl A_14 c_15 n_16 (iv .u8 r_13) 5 1, .sl (some ⟨B_5, 0, none⟩) 1 1 (iv .u8 [IntKind.u8.wrap a0]) 5 1, .cells B_1 (iv .u8 (List.replicate 32 (0 : Int))) 23] := st_7.call sc_12
  refine ⟨_, rfl, ?_⟩
  obtain ⟨m_19, e_20, H⟩ := H
  obtain ⟨z_21, H⟩ := H
  obtain ⟨n_24, hn_27⟩ : ∃ n_ : Nat, n_ = m_19.length := ⟨_, rfl⟩
  refine WL.append (i := 1) Wanted.none st_11 rfl Tryd.underlying29 elem5 rfl rfl (st_11.src_sl (k := 0) rfl) (by rw [iv_length]; exact (hn_17).symm) (one_iv .u8 _) (by decide) (N := n_24) (by rw [hn_27, e_20, List.length_append]; exact congr (congrArg HAdd.hAdd (rfl)) (hn_17)) (by rw [hn_27]; exact z_21) ?_
  intro A_22 c_23 w_25 st_26
  have st_26' : St w w_25 [.sl A_14 c_15 n_16 (iv .u8 r_13) 5 1, .sl A_22 c_23 n_24 (iv .u8 m_19) 5 1, .cells B_1 (iv .u8 (List.replicate 32 (0 : Int))) 23] := by rw [e_20, ← iv_append .u8 [IntKind.u8.wrap a0] r_13]; exact st_26
  refine WL.val Wanted.none (Runs.assign rfl) ?_
  refine WL.nil ?_
  refine QW.then_n ?_
  refine CW.sub [(2, .string a2), (6, .pointer (some ⟨B_1, 0, none⟩)), (7, .slice A_22 n_24 c_23)] ⟨rfl, rfl, rfl, trivial⟩ ?_
  refine CW.seq ?_
  refine CW.region ?_
  refine WL.val Wanted.none (Runs.move rfl) ?_
  refine WL.val Wanted.none (Runs.move rfl) ?_
  obtain ⟨m_28, e_29, H⟩ := H
  obtain ⟨z_30, H⟩ := H
  obtain ⟨n_33, hn_36⟩ : ∃ n_ : Nat, n_ = m_28.length := ⟨_, rfl⟩
  refine WL.append_str (i := 1) Wanted.none st_26' rfl Tryd.underlying29 Tryd.underlying9 elem5 rfl rfl (N := n_33) (by rw [hn_36, e_29, List.length_append]; exact congr (congrArg HAdd.hAdd (hn_27)) (bl_length _)) (by rw [hn_36]; exact z_30) ?_
  intro A_31 c_32 w_34 st_35
  have st_35' : St w w_34 [.sl A_14 c_15 n_16 (iv .u8 r_13) 5 1, .sl A_31 c_32 n_33 (iv .u8 m_28) 5 1, .cells B_1 (iv .u8 (List.replicate 32 (0 : Int))) 23] := by rw [e_29, ← iv_append .u8 m_19 (bl a2)]; exact st_35
  refine WL.val Wanted.none (Runs.assign rfl) ?_
  refine WL.nil ?_
  refine QW.then_n ?_
  refine CW.seq ?_
  refine CW.region ?_
  refine WL.val Wanted.none (Runs.move rfl) ?_
  obtain ⟨r_41, hr_37, H⟩ := H
  refine WL.call Wanted.none ent20 rfl (reliquaryref02_Of.calls w_34 m_28 A_31 n_33 c_32 (st_35'.src_sl (k := 1) rfl) (hn_36) (st_35'.cap (i := 1) rfl) r_41 hr_37) ?_
  rintro _ w_38 ⟨hl_42, rfl, sc_40⟩
  have st_39 : St w w_38 [.sl A_14 c_15 n_16 (iv .u8 r_13) 5 1, .sl A_31 c_32 n_33 (iv .u8 m_28) 5 1, .cells B_1 (iv .u8 (List.replicate 32 (0 : Int))) 23] := st_35'.call sc_40
  refine ⟨_, rfl, ?_⟩
  refine WL.store_arr (i := 2) st_39 rfl arr23 rfl (by rw [iv_length]; exact (List.length_replicate ..)) hl_42 rfl ?_
  intro w_43 st_44
  replace st_44 : St w w_43 [.sl A_14 c_15 n_16 (iv .u8 r_13) 5 1, .sl A_31 c_32 n_33 (iv .u8 m_28) 5 1, .cells B_1 (iv .u8 r_41) 23] := st_44
  refine WL.nil ?_
  refine QW.then_n ?_
  refine CW.sub [(6, .pointer (some ⟨B_1, 0, none⟩))] ⟨rfl, trivial⟩ ?_
  refine CW.ret ?_
  obtain rfl := H
  exact QW.retc rfl arr23 rfl (st_44.blk (i := 2) rfl) hl_42 ⟨hl_42, rfl, st_44.pick [] (by decide)⟩

/-! ### reliquarylaw10_TreeDigests: function 4 -/
def reliquarylaw10_TreeDigests.rel (a0 : Int) (a1 : Int) (l2 : List Int) (l3 : List Int)  : Prop := (reliquarylaw10_awake.rel  ∧ (((l2.length : Int) > 1000 ∧ True) ∨ (¬ ((l2.length : Int) > 1000) ∧ (∃ (r_15 : List Int), tree_Digest.rel a0 a1 l2 r_15 ∧ (∃ (r_28 : List Int), reliquaryref10_Digest.rel a0 a1 (strOfNums l2) r_28 ∧ (r_15 = r_28 ∧ (∃ (r_43 : Bool), tree_Check.rel r_15 9 a0 a1 l2 r_43 ∧ (r_43 = true ∧ (∃ (r_50 : Bool), tree_Check.rel l3 0 a0 a1 l2 r_50 ∧ r_50 = (l3 == r_28))))))))))
set_option maxHeartbeats 4000000 in
set_option maxRecDepth 100000 in
theorem reliquarylaw10_TreeDigests.calls (w : World) (a0 : Int) (a1 : Int) (l2 : List Int) (l3 : List Int) (A2 : Option Addr) (n2 : Nat) (c2 : Nat)  (hG0 : Src w (some ⟨0, 0, none⟩) (iv .u32 tab0)) (hs2 : Src w A2 (iv .u8 l2)) (hn2 : n2 = l2.length) (hc2 : n2 ≤ c2) (hl3 : l3.length = 32)  (H : reliquarylaw10_TreeDigests.rel a0 a1 l2 l3 ) :
    Calls Tryd.prog 4 #[.int .i64 a0, .int .u32 a1, .slice A2 n2 c2, .agg (iv .u8 l3).toArray] w fun e w' => e = .returned (.bool true) ∧ Below w.heap.size w w' := by
  refine CW.enter Tryd.func4 rfl (n := 50) rfl [.int .i64 a0, .int .u32 a1, .slice A2 n2 c2, .agg (iv .u8 l3).toArray] (Nat.le_of_ble_eq_true rfl) ?_
  refine CW.sub [(0, .int .i64 a0), (1, .int .u32 a1), (2, .slice A2 n2 c2), (3, .agg (iv .u8 l3).toArray)] ⟨rfl, rfl, rfl, rfl, trivial⟩ ?_
  have st0 : St w w [] := St.refl w
  refine CW.seq ?_
  refine CW.region ?_
  refine WL.box st0 rfl rfl ?_
  intro B_1 w_2 st_3
  replace st_3 : St w w_2 [.cells B_1 (iv .u8 l3) 23] := st_3
  refine WL.val Wanted.none (Runs.assign rfl) ?_
  refine WL.nil ?_
  refine QW.then_n ?_
  refine CW.seq ?_
  refine CW.region ?_
  obtain ⟨hr_5, H⟩ := H
  refine WL.call Wanted.none ent8 rfl (reliquarylaw10_awake.calls w_2 (hG0.ext st_3) hr_5) ?_
  rintro _ w_6 ⟨rfl, sc_8⟩
  have st_7 : St w w_6 [.cells B_1 (iv .u8 l3) 23] := st_3.below sc_8
  refine ⟨_, rfl, ?_⟩
  refine WL.val Wanted.none (Runs.assign rfl) ?_
  refine WL.nil ?_
  refine QW.then_n ?_
  refine CW.seq ?_
  refine CW.seq ?_
  refine CW.region ?_
  refine WL.val Wanted.none (Runs.move rfl) ?_
  refine WL.val Wanted.none (Runs.not rfl rfl) ?_
  refine WL.nil ?_
  refine QW.then_n ?_
  refine CW.cf rfl rfl ?_
  refine CW.skip ?_
  refine QW.then_n ?_
  refine CW.seq ?_
  refine CW.seq ?_
  refine CW.region ?_
  refine WL.val Wanted.none (Runs.move rfl) ?_
  refine WL.val Wanted.none (Runs.len_sl Tryd.underlying29 rfl (by rw [hn2])) ?_
  refine WL.val Wanted.none (Runs.gtr rfl rfl rfl) ?_
  refine WL.nil ?_
  refine QW.then_n ?_
  refine CW.sub [(0, .int .i64 a0), (1, .int .u32 a1), (2, .slice A2 n2 c2), (7, .pointer (some ⟨B_1, 0, none⟩)), (8, .bool false), (17, .bool (decide ((l2.length : Int) > 1000)))] ⟨rfl, rfl, rfl, rfl, rfl, rfl, trivial⟩ ?_
  rcases H with ⟨c_9, H⟩ | ⟨c_9, H⟩
  · have h_10 : (decide ((l2.length : Int) > 1000)) = true := (decide_eq_true c_9)
    refine CW.ct rfl h_10 ?_
    refine CW.seq ?_
    refine CW.region ?_
    refine WL.val Wanted.none (Runs.assign rfl) ?_
    refine WL.nil ?_
    refine QW.then_n ?_
    refine CW.ret ?_
    refine QW.then_r ?_
    exact QW.ret1 rfl rfl ⟨rfl, st_7.ext⟩
  · have h_10 : (decide ((l2.length : Int) > 1000)) = false := (decide_eq_false c_9)
    refine CW.cf rfl h_10 ?_
    refine CW.skip ?_
    refine QW.then_n ?_
    refine CW.seq ?_
    refine CW.region ?_
    refine WL.val Wanted.none (Runs.move rfl) ?_
    refine WL.val Wanted.none (Runs.move rfl) ?_
    refine WL.val Wanted.none (Runs.move rfl) ?_
    obtain ⟨r_15, hr_11, H⟩ := H
    refine WL.call Wanted.none ent14 rfl (tree_Digest.calls w_6 a0 a1 l2 A2 n2 c2 (hG0.ext st_7) (hs2.ext st_7) (hn2) (hc2) r_15 hr_11) ?_
    rintro _ w_12 ⟨hl_16, rfl, sc_14⟩
    have st_13 : St w w_12 [.cells B_1 (iv .u8 l3) 23] := st_7.call sc_14
    refine ⟨_, rfl, ?_⟩
    refine WL.alloc st_13 arr23.zero ?_
    intro B_17 w_18 st_19
    replace st_19 : St w w_18 [.cells B_17 (iv .u8 (List.replicate 32 (0 : Int))) 23, .cells B_1 (iv .u8 l3) 23] := st_19
    refine WL.store_arr (i := 0) st_19 rfl arr23 rfl (by rw [iv_length]; exact (List.length_replicate ..)) hl_16 rfl ?_
    intro w_21 st_22
    replace st_22 : St w w_21 [.cells B_17 (iv .u8 r_15) 23, .cells B_1 (iv .u8 l3) 23] := st_22
    refine WL.nil ?_
    refine QW.then_n ?_
    refine CW.seq ?_
    refine CW.region ?_
    refine WL.val Wanted.none (Runs.move rfl) ?_
    refine WL.val Wanted.none (Runs.move rfl) ?_
    refine WL.val Wanted.none (Runs.move rfl) ?_
    refine WL.val Wanted.none (Runs.bytes_str Tryd.underlying29 Tryd.underlying5 Tryd.underlying9 rfl (hs2.ext st_22) hn2) ?_
    obtain ⟨r_28, hr_24, H⟩ := H
    refine WL.call Wanted.none ent15 rfl (reliquaryref10_Digest.calls w_21 a0 a1 (strOfNums l2) r_28 hr_24) ?_
    rintro _ w_25 ⟨hl_29, rfl, sc_27⟩
    have st_26 : St w w_25 [.cells B_17 (iv .u8 r_15) 23, .cells B_1 (iv .u8 l3) 23] := st_22.call sc_27
    refine ⟨_, rfl, ?_⟩
    refine WL.alloc st_26 arr23.zero ?_
    intro B_30 w_31 st_32
    replace st_32 : St w w_31 [.cells B_30 (iv .u8 (List.replicate 32 (0 : Int))) 23, .cells B_17 (iv .u8 r_15) 23, .cells B_1 (iv .u8 l3) 23] := st_32
    refine WL.store_arr (i := 0) st_32 rfl arr23 rfl (by rw [iv_length]; exact (List.length_replicate ..)) hl_29 rfl ?_
    intro w_34 st_35
    replace st_35 : St w w_34 [.cells B_30 (iv .u8 r_28) 23, .cells B_17 (iv .u8 r_15) 23, .cells B_1 (iv .u8 l3) 23] := st_35
    refine WL.nil ?_
    refine QW.then_n ?_
    refine CW.sub [(0, .int .i64 a0), (1, .int .u32 a1), (2, .slice A2 n2 c2), (7, .pointer (some ⟨B_1, 0, none⟩)), (8, .bool false), (10, .pointer (some ⟨B_17, 0, none⟩)), (11, .pointer (some ⟨B_30, 0, none⟩))] ⟨rfl, rfl, rfl, rfl, rfl, rfl, rfl, trivial⟩ ?_
    refine CW.seq ?_
    refine CW.region_qa wide (by kernel_rfl) st_35 ?_
    refine HL.val Wanted.none (fun wq sq => (Runs.load_arr arr23 rfl (sq.blk (i := 1) rfl) hl_16)) ?_
    refine HL.val Wanted.none (fun wq sq => (Runs.load_arr arr23 rfl (sq.blk (i := 0) rfl) hl_29)) ?_
    refine HL.val Wanted.none (fun wq sq => (Runs.eql_arr arr23 eqg23 rfl rfl hl_16 hl_29 rfl)) ?_
    refine HL.val Wanted.none (fun wq sq => (Runs.move rfl)) ?_
    obtain ⟨c_37, H⟩ := H
    have h_38 : (r_15 == r_28) = true := (beq_iff_eq.mpr c_37)
    refine HL.on ?_ ?_; exact Wanted.guard (dj := 30) (by rfl) (evb (by rfl) h_38) (by rfl)
    refine HL.val Wanted.none (fun wq sq => (Runs.load_arr arr23 rfl (sq.blk (i := 1) rfl) hl_16)) ?_
    refine HL.on ?_ ?_; exact Wanted.guard (dj := 30) (by rfl) (evb (by rfl) h_38) (by rfl)
    refine HL.val Wanted.none (fun wq sq => (Runs.build_struct (ps := [(0, 32), (32, 1)]) (cs := (iv .u8 r_15 ++ ([.int .u64 9] : List Value))) plc26 zero26 rfl (by refine Fills.cons (o := 0) (ms := (iv .u8 r_15)) (show _ = some (0, (iv .u8 r_15).length) by rw [show (iv .u8 r_15).length = 32 from (by first | rfl | simp only [List.length_append, List.length_cons, List.length_nil, iv_length, hl_16])] <;> rfl) rfl (by have h1_ : (iv .u8 r_15).length = 32 := (by first | rfl | simp only [List.length_append, List.length_cons, List.length_nil, iv_length, hl_16]); have h2_ : (iv .u8 (List.replicate 32 (0 : Int)) ++ ([.int .u64 0] : List Value)).length = 33 := (by first | rfl | simp only [List.length_append, List.length_cons, List.length_nil, iv_length, List.length_replicate]); omega) ?_; rw [show layV (iv .u8 (List.replicate 32 (0 : Int)) ++ ([.int .u64 0] : List Value)) 0 (iv .u8 r_15) = (iv .u8 r_15 ++ ([.int .u64 0] : List Value)) from (layV_mid (pre := (([] : List Value))) (mid := (iv .u8 (List.replicate 32 (0 : Int)))) (post := (([.int .u64 0] : List Value))) (by first | rfl | simp only [List.append_assoc, List.append_nil, List.nil_append, List.cons_append]) (by first | rfl | simp only [List.length_append, List.length_cons, List.length_nil, iv_length]) (Eq.trans (b := 32) (by first | rfl | simp only [List.length_append, List.length_cons, List.length_nil, iv_length, List.length_replicate]) (Eq.symm (by first | rfl | simp only [List.length_append, List.length_cons, List.length_nil, iv_length, hl_16])))).trans (by first | rfl | simp only [List.append_assoc, List.append_nil, List.nil_append, List.cons_append])]; refine Fills.cons (o := 32) (ms := (([.int .u64 9] : List Value))) (show _ = some (32, (([.int .u64 9] : List Value)).length) by rw [show (([.int .u64 9] : List Value)).length = 1 from (by first | rfl | simp only [List.length_append, List.length_cons, List.length_nil, iv_length])] <;> rfl) rfl (by have h1_ : (([.int .u64 9] : List Value)).length = 1 := (by first | rfl | simp only [List.length_append, List.length_cons, List.length_nil, iv_length]); have h2_ : (iv .u8 r_15 ++ ([.int .u64 0] : List Value)).length = 33 := (by first | rfl | simp only [List.length_append, List.length_cons, List.length_nil, iv_length, hl_16]); omega) ?_; rw [show layV (iv .u8 r_15 ++ ([.int .u64 0] : List Value)) 32 (([.int .u64 9] : List Value)) = (iv .u8 r_15 ++ ([.int .u64 9] : List Value)) from (layV_mid (pre := (iv .u8 r_15)) (mid := (([.int .u64 0] : List Value))) (post := (([] : List Value))) (by first | rfl | simp only [List.append_assoc, List.append_nil, List.nil_append, List.cons_append]) (by first | rfl | simp only [List.length_append, List.length_cons, List.length_nil, iv_length, hl_16]) (Eq.trans (b := 1) (by first | rfl | simp only [List.length_append, List.length_cons, List.length_nil, iv_length]) (Eq.symm (by first | rfl | simp only [List.length_append, List.length_cons, List.length_nil, iv_length])))).trans (by first | rfl | simp only [List.append_assoc, List.append_nil, List.nil_append, List.cons_append])]; exact Fills.nil))) ?_
    refine HL.on ?_ ?_; exact Wanted.guard (dj := 30) (by rfl) (evb (by rfl) h_38) (by rfl)
    refine HL.val Wanted.none (fun wq sq => (Runs.move rfl)) ?_
    refine HL.on ?_ ?_; exact Wanted.guard (dj := 30) (by rfl) (evb (by rfl) h_38) (by rfl)
    refine HL.val Wanted.none (fun wq sq => (Runs.move rfl)) ?_
    refine HL.on ?_ ?_; exact Wanted.guard (dj := 30) (by rfl) (evb (by rfl) h_38) (by rfl)
    refine HL.val Wanted.none (fun wq sq => (Runs.move rfl)) ?_
    refine HL.on ?_ ?_; exact Wanted.guard (dj := 30) (by rfl) (evb (by rfl) h_38) (by rfl)
    obtain ⟨r_43, hr_39, H⟩ := H
    refine HL.call Wanted.none ent16 rfl (fun wq sq => (tree_Check.calls wq r_15 9 a0 a1 l2 A2 n2 c2 (hG0.ext sq) hl_16 (hs2.ext sq) (hn2) (hc2) r_43 hr_39).mono (by rintro _ _ ⟨rfl, sc⟩; exact ⟨rfl, sq.call sc⟩)) ?_
    refine HL.val Wanted.none (fun wq sq => (Runs.pick_t (evb rfl h_38) rfl)) ?_
    refine HL.val Wanted.none (fun wq sq => (Runs.move rfl)) ?_
    obtain ⟨c_44, H⟩ := H
    have h_45 : r_43 = true := c_44
    refine HL.on ?_ ?_; exact Wanted.guard (dj := 38) (by rfl) (evb (by rfl) h_45) (by rfl)
    refine HL.val Wanted.none (fun wq sq => (Runs.load_arr arr23 rfl (sq.blk (i := 2) rfl) hl3)) ?_
    refine HL.on ?_ ?_; exact Wanted.guard (dj := 38) (by rfl) (evb (by rfl) h_45) (by rfl)
    refine HL.val Wanted.none (fun wq sq => (Runs.build_struct (ps := [(0, 32), (32, 1)]) (cs := (iv .u8 l3 ++ ([.int .u64 0] : List Value))) plc26 zero26 rfl (by refine Fills.cons (o := 0) (ms := (iv .u8 l3)) (show _ = some (0, (iv .u8 l3).length) by rw [show (iv .u8 l3).length = 32 from (by first | rfl | simp only [List.length_append, List.length_cons, List.length_nil, iv_length, hl3])] <;> rfl) rfl (by have h1_ : (iv .u8 l3).length = 32 := (by first | rfl | simp only [List.length_append, List.length_cons, List.length_nil, iv_length, hl3]); have h2_ : (iv .u8 (List.replicate 32 (0 : Int)) ++ ([.int .u64 0] : List Value)).length = 33 := (by first | rfl | simp only [List.length_append, List.length_cons, List.length_nil, iv_length, List.length_replicate]); omega) ?_; rw [show layV (iv .u8 (List.replicate 32 (0 : Int)) ++ ([.int .u64 0] : List Value)) 0 (iv .u8 l3) = (iv .u8 l3 ++ ([.int .u64 0] : List Value)) from (layV_mid (pre := (([] : List Value))) (mid := (iv .u8 (List.replicate 32 (0 : Int)))) (post := (([.int .u64 0] : List Value))) (by first | rfl | simp only [List.append_assoc, List.append_nil, List.nil_append, List.cons_append]) (by first | rfl | simp only [List.length_append, List.length_cons, List.length_nil, iv_length]) (Eq.trans (b := 32) (by first | rfl | simp only [List.length_append, List.length_cons, List.length_nil, iv_length, List.length_replicate]) (Eq.symm (by first | rfl | simp only [List.length_append, List.length_cons, List.length_nil, iv_length, hl3])))).trans (by first | rfl | simp only [List.append_assoc, List.append_nil, List.nil_append, List.cons_append])]; exact Fills.nil))) ?_
    refine HL.on ?_ ?_; exact Wanted.guard (dj := 38) (by rfl) (evb (by rfl) h_45) (by rfl)
    refine HL.val Wanted.none (fun wq sq => (Runs.move rfl)) ?_
    refine HL.on ?_ ?_; exact Wanted.guard (dj := 38) (by rfl) (evb (by rfl) h_45) (by rfl)
    refine HL.val Wanted.none (fun wq sq => (Runs.move rfl)) ?_
    refine HL.on ?_ ?_; exact Wanted.guard (dj := 38) (by rfl) (evb (by rfl) h_45) (by rfl)
    refine HL.val Wanted.none (fun wq sq => (Runs.move rfl)) ?_
    refine HL.on ?_ ?_; exact Wanted.guard (dj := 38) (by rfl) (evb (by rfl) h_45) (by rfl)
    obtain ⟨r_50, hr_46, H⟩ := H
    refine HL.call Wanted.none ent16 rfl (fun wq sq => (tree_Check.calls wq l3 0 a0 a1 l2 A2 n2 c2 (hG0.ext sq) hl3 (hs2.ext sq) (hn2) (hc2) r_50 hr_46).mono (by rintro _ _ ⟨rfl, sc⟩; exact ⟨rfl, sq.call sc⟩)) ?_
    refine HL.on ?_ ?_; exact Wanted.guard (dj := 38) (by rfl) (evb (by rfl) h_45) (by rfl)
    refine HL.val Wanted.none (fun wq sq => (Runs.load_arr arr23 rfl (sq.blk (i := 2) rfl) hl3)) ?_
    refine HL.on ?_ ?_; exact Wanted.guard (dj := 38) (by rfl) (evb (by rfl) h_45) (by rfl)
    refine HL.val Wanted.none (fun wq sq => (Runs.load_arr arr23 rfl (sq.blk (i := 0) rfl) hl_29)) ?_
    refine HL.on ?_ ?_; exact Wanted.guard (dj := 38) (by rfl) (evb (by rfl) h_45) (by rfl)
    refine HL.val Wanted.none (fun wq sq => (Runs.eql_arr arr23 eqg23 rfl rfl hl3 hl_29 rfl)) ?_
    refine HL.on ?_ ?_; exact Wanted.guard (dj := 38) (by rfl) (evb (by rfl) h_45) (by rfl)
    refine HL.val Wanted.none (fun wq sq => (Runs.eqb Tryd.underlying4 rfl rfl rfl)) ?_
    refine HL.val Wanted.none (fun wq sq => (Runs.pick_t (evb rfl h_45) rfl)) ?_
    refine HL.val Wanted.none (fun wq sq => (Runs.assign rfl)) ?_
    refine HL.nil (fun w_51 st_52 => ?_)
    refine WL.nil ?_
    refine QW.then_n ?_
    refine CW.sub [(8, .bool (r_50 == (l3 == r_28)))] ⟨rfl, trivial⟩ ?_
    refine CW.ret ?_
    have hz : (r_50 == (l3 == r_28)) = true := (beq_iff_eq.mpr H)
    exact QW.ret1 rfl (evb rfl hz) ⟨rfl, st_52.ext⟩

/-! ### reliquarylaw10_TreeStamps: function 5 -/
def reliquarylaw10_TreeStamps.rel (a0 : Int) (a1 : Int)  : Prop := (reliquarylaw10_awake.rel  ∧ (∃ (r_9 : Int) (r_10 : Int), tree_Stamp.rel a0 a1 r_9 r_10 ∧ ((a0 = 0 ∧ (r_10 = 1 ∧ r_9 = 0)) ∨ (¬ (a0 = 0) ∧ ((a0 ≥ 9223372036854775808 ∧ (r_10 = 1 ∧ r_9 = 0)) ∨ (¬ (a0 ≥ 9223372036854775808) ∧ ((a1 < 0 ∧ (r_10 = 1 ∧ r_9 = 0)) ∨ (¬ (a1 < 0) ∧ ((a1 > 1 ∧ (r_10 = 1 ∧ r_9 = 0)) ∨ (¬ (a1 > 1) ∧ (r_10 = 0 ∧ (∃ (r_33 : Int), tree_Version.rel r_9 r_33 ∧ (r_33 = a0 ∧ (∃ (r_40 : Int), tree_Side.rel r_9 r_40 ∧ (r_40 = a1 ∧ r_9 > 1)))))))))))))))
set_option maxHeartbeats 4000000 in
set_option maxRecDepth 100000 in
theorem reliquarylaw10_TreeStamps.calls (w : World) (a0 : Int) (a1 : Int)   (hG0 : Src w (some ⟨0, 0, none⟩) (iv .u32 tab0))  (H : reliquarylaw10_TreeStamps.rel a0 a1 ) :
    Calls Tryd.prog 5 #[.int .u64 a0, .int .i64 a1] w fun e w' => e = .returned (.bool true) ∧ Below w.heap.size w w' := by
  refine CW.enter Tryd.func5 rfl (n := 55) rfl [.int .u64 a0, .int .i64 a1] (Nat.le_of_ble_eq_true rfl) ?_
  refine CW.sub [(0, .int .u64 a0), (1, .int .i64 a1)] ⟨rfl, rfl, trivial⟩ ?_
  have st0 : St w w [] := St.refl w
  refine CW.seq ?_
  refine CW.region ?_
  refine WL.val Wanted.none (Runs.assign rfl) ?_
  refine WL.nil ?_
  refine QW.then_n ?_
  refine CW.seq ?_
  refine CW.region ?_
  obtain ⟨hr_1, H⟩ := H
  refine WL.call Wanted.none ent8 rfl (reliquarylaw10_awake.calls w (hG0.ext st0) hr_1) ?_
  rintro _ w_2 ⟨rfl, sc_4⟩
  have st_3 : St w w_2 [] := st0.below sc_4
  refine ⟨_, rfl, ?_⟩
  refine WL.val Wanted.none (Runs.assign rfl) ?_
  refine WL.nil ?_
  refine QW.then_n ?_
  refine CW.seq ?_
  refine CW.seq ?_
  refine CW.region ?_
  refine WL.val Wanted.none (Runs.move rfl) ?_
  refine WL.val Wanted.none (Runs.not rfl rfl) ?_
  refine WL.nil ?_
  refine QW.then_n ?_
  refine CW.cf rfl rfl ?_
  refine CW.skip ?_
  refine QW.then_n ?_
  refine CW.seq ?_
  refine CW.region ?_
  refine WL.val Wanted.none (Runs.move rfl) ?_
  refine WL.val Wanted.none (Runs.move rfl) ?_
  obtain ⟨r_9, r_10, hr_5, H⟩ := H
  refine WL.call Wanted.none ent17 rfl (tree_Stamp.calls w_2 a0 a1 r_9 r_10 hr_5) ?_
  rintro _ w_6 ⟨rfl, sc_8⟩
  have st_7 : St w w_6 [] := st_3.call sc_8
  refine ⟨_, rfl, ?_⟩
  refine WL.val Wanted.none (Runs.move rfl) ?_
  refine WL.val Wanted.none (Runs.extract rfl rfl) ?_
  refine WL.val Wanted.none (Runs.extract rfl rfl) ?_
  refine WL.val Wanted.none (Runs.assign rfl) ?_
  refine WL.val Wanted.none (Runs.assign rfl) ?_
  refine WL.nil ?_
  refine QW.then_n ?_
  refine CW.sub [(0, .int .u64 a0), (1, .int .i64 a1), (4, .bool false), (6, .int .u64 r_9), (7, .int .i64 r_10)] ⟨rfl, rfl, rfl, rfl, rfl, trivial⟩ ?_
  refine CW.seq ?_
  refine CW.seq ?_
  refine CW.region ?_
  refine WL.val Wanted.none (Runs.move rfl) ?_
  refine WL.val Wanted.none (Runs.eql rfl rfl rfl) ?_
  refine WL.val Wanted.none (Runs.move rfl) ?_
  rcases H with ⟨c_11, H⟩ | ⟨c_11, H⟩
  · have h_12 : (a0 == 0) = true := (beq_iff_eq.mpr c_11)
    refine WL.off ?_ ?_; exact Wanted.guard (dj := 19) (by rfl) (evb (by rfl) h_12) (by rfl)
    refine WL.off ?_ ?_; exact Wanted.guard (dj := 19) (by rfl) (evb (by rfl) h_12) (by rfl)
    refine WL.val Wanted.none (Runs.pick_t (evb rfl h_12) rfl) ?_
    refine WL.val Wanted.none (Runs.move rfl) ?_
    refine WL.off ?_ ?_; exact Wanted.guard (dj := 23) (by rfl) (by rfl) (by rfl)
    refine WL.off ?_ ?_; exact Wanted.guard (dj := 23) (by rfl) (by rfl) (by rfl)
    refine WL.val Wanted.none (Runs.pick_t rfl rfl) ?_
    refine WL.val Wanted.none (Runs.move rfl) ?_
    refine WL.off ?_ ?_; exact Wanted.guard (dj := 27) (by rfl) (by rfl) (by rfl)
    refine WL.off ?_ ?_; exact Wanted.guard (dj := 27) (by rfl) (by rfl) (by rfl)
    refine WL.val Wanted.none (Runs.pick_t rfl rfl) ?_
    refine WL.nil ?_
    refine QW.then_n ?_
    refine CW.sub [(0, .int .u64 a0), (1, .int .i64 a1), (4, .bool false), (6, .int .u64 r_9), (7, .int .i64 r_10), (30, .bool true)] ⟨rfl, rfl, rfl, rfl, rfl, rfl, trivial⟩ ?_
    refine CW.ct rfl rfl ?_
    refine CW.seq ?_
    refine CW.region ?_
    refine WL.val Wanted.none (Runs.move rfl) ?_
    refine WL.val Wanted.none (Runs.eql rfl rfl rfl) ?_
    refine WL.val Wanted.none (Runs.move rfl) ?_
    obtain ⟨c_13, H⟩ := H
    have h_14 : (r_10 == 1) = true := (beq_iff_eq.mpr c_13)
    refine WL.on ?_ ?_; exact Wanted.guard (dj := 33) (by rfl) (evb (by rfl) h_14) (by rfl)
    refine WL.val Wanted.none (Runs.move rfl) ?_
    refine WL.on ?_ ?_; exact Wanted.guard (dj := 33) (by rfl) (evb (by rfl) h_14) (by rfl)
    refine WL.val Wanted.none (Runs.eql rfl rfl rfl) ?_
    refine WL.val Wanted.none (Runs.pick_t (evb rfl h_14) rfl) ?_
    refine WL.val Wanted.none (Runs.assign rfl) ?_
    refine WL.nil ?_
    refine QW.then_n ?_
    refine CW.sub [(0, .int .u64 a0), (1, .int .i64 a1), (4, .bool (r_9 == 0)), (6, .int .u64 r_9), (7, .int .i64 r_10)] ⟨rfl, rfl, rfl, rfl, rfl, trivial⟩ ?_
    refine CW.ret ?_
    refine QW.then_r ?_
    have hz : (r_9 == 0) = true := (beq_iff_eq.mpr H)
    exact QW.ret1 rfl (evb rfl hz) ⟨rfl, st_7.ext⟩
  · have h_12 : (a0 == 0) = false := (beq_eq_false_iff_ne.mpr c_11)
    refine WL.on ?_ ?_; exact Wanted.guard (dj := 19) (by rfl) (evb (by rfl) h_12) (by rfl)
    refine WL.val Wanted.none (Runs.move rfl) ?_
    refine WL.on ?_ ?_; exact Wanted.guard (dj := 19) (by rfl) (evb (by rfl) h_12) (by rfl)
    refine WL.val Wanted.none (Runs.geq rfl rfl rfl) ?_
    refine WL.val Wanted.none (Runs.pick_f (evb rfl h_12) rfl) ?_
    refine WL.val Wanted.none (Runs.move rfl) ?_
    rcases H with ⟨c_15, H⟩ | ⟨c_15, H⟩
    · have h_16 : (decide (a0 ≥ 9223372036854775808)) = true := (decide_eq_true c_15)
      refine WL.off ?_ ?_; exact Wanted.guard (dj := 23) (by rfl) (evb (by rfl) h_16) (by rfl)
      refine WL.off ?_ ?_; exact Wanted.guard (dj := 23) (by rfl) (evb (by rfl) h_16) (by rfl)
      refine WL.val Wanted.none (Runs.pick_t (evb rfl h_16) rfl) ?_
      refine WL.val Wanted.none (Runs.move rfl) ?_
      refine WL.off ?_ ?_; exact Wanted.guard (dj := 27) (by rfl) (by rfl) (by rfl)
      refine WL.off ?_ ?_; exact Wanted.guard (dj := 27) (by rfl) (by rfl) (by rfl)
      refine WL.val Wanted.none (Runs.pick_t rfl rfl) ?_
      refine WL.nil ?_
      refine QW.then_n ?_
      refine CW.sub [(0, .int .u64 a0), (1, .int .i64 a1), (4, .bool false), (6, .int .u64 r_9), (7, .int .i64 r_10), (30, .bool true)] ⟨rfl, rfl, rfl, rfl, rfl, rfl, trivial⟩ ?_
      refine CW.ct rfl rfl ?_
      refine CW.seq ?_
      refine CW.region ?_
      refine WL.val Wanted.none (Runs.move rfl) ?_
      refine WL.val Wanted.none (Runs.eql rfl rfl rfl) ?_
      refine WL.val Wanted.none (Runs.move rfl) ?_
      obtain ⟨c_17, H⟩ := H
      have h_18 : (r_10 == 1) = true := (beq_iff_eq.mpr c_17)
      refine WL.on ?_ ?_; exact Wanted.guard (dj := 33) (by rfl) (evb (by rfl) h_18) (by rfl)
      refine WL.val Wanted.none (Runs.move rfl) ?_
      refine WL.on ?_ ?_; exact Wanted.guard (dj := 33) (by rfl) (evb (by rfl) h_18) (by rfl)
      refine WL.val Wanted.none (Runs.eql rfl rfl rfl) ?_
      refine WL.val Wanted.none (Runs.pick_t (evb rfl h_18) rfl) ?_
      refine WL.val Wanted.none (Runs.assign rfl) ?_
      refine WL.nil ?_
      refine QW.then_n ?_
      refine CW.sub [(0, .int .u64 a0), (1, .int .i64 a1), (4, .bool (r_9 == 0)), (6, .int .u64 r_9), (7, .int .i64 r_10)] ⟨rfl, rfl, rfl, rfl, rfl, trivial⟩ ?_
      refine CW.ret ?_
      refine QW.then_r ?_
      have hz : (r_9 == 0) = true := (beq_iff_eq.mpr H)
      exact QW.ret1 rfl (evb rfl hz) ⟨rfl, st_7.ext⟩
    · have h_16 : (decide (a0 ≥ 9223372036854775808)) = false := (decide_eq_false c_15)
      refine WL.on ?_ ?_; exact Wanted.guard (dj := 23) (by rfl) (evb (by rfl) h_16) (by rfl)
      refine WL.val Wanted.none (Runs.move rfl) ?_
      refine WL.on ?_ ?_; exact Wanted.guard (dj := 23) (by rfl) (evb (by rfl) h_16) (by rfl)
      refine WL.val Wanted.none (Runs.lss rfl rfl rfl) ?_
      refine WL.val Wanted.none (Runs.pick_f (evb rfl h_16) rfl) ?_
      refine WL.val Wanted.none (Runs.move rfl) ?_
      rcases H with ⟨c_19, H⟩ | ⟨c_19, H⟩
      · have h_20 : (decide (a1 < 0)) = true := (decide_eq_true c_19)
        refine WL.off ?_ ?_; exact Wanted.guard (dj := 27) (by rfl) (evb (by rfl) h_20) (by rfl)
        refine WL.off ?_ ?_; exact Wanted.guard (dj := 27) (by rfl) (evb (by rfl) h_20) (by rfl)
        refine WL.val Wanted.none (Runs.pick_t (evb rfl h_20) rfl) ?_
        refine WL.nil ?_
        refine QW.then_n ?_
        refine CW.sub [(0, .int .u64 a0), (1, .int .i64 a1), (4, .bool false), (6, .int .u64 r_9), (7, .int .i64 r_10), (30, .bool true)] ⟨rfl, rfl, rfl, rfl, rfl, rfl, trivial⟩ ?_
        refine CW.ct rfl rfl ?_
        refine CW.seq ?_
        refine CW.region ?_
        refine WL.val Wanted.none (Runs.move rfl) ?_
        refine WL.val Wanted.none (Runs.eql rfl rfl rfl) ?_
        refine WL.val Wanted.none (Runs.move rfl) ?_
        obtain ⟨c_21, H⟩ := H
        have h_22 : (r_10 == 1) = true := (beq_iff_eq.mpr c_21)
        refine WL.on ?_ ?_; exact Wanted.guard (dj := 33) (by rfl) (evb (by rfl) h_22) (by rfl)
        refine WL.val Wanted.none (Runs.move rfl) ?_
        refine WL.on ?_ ?_; exact Wanted.guard (dj := 33) (by rfl) (evb (by rfl) h_22) (by rfl)
        refine WL.val Wanted.none (Runs.eql rfl rfl rfl) ?_
        refine WL.val Wanted.none (Runs.pick_t (evb rfl h_22) rfl) ?_
        refine WL.val Wanted.none (Runs.assign rfl) ?_
        refine WL.nil ?_
        refine QW.then_n ?_
        refine CW.sub [(0, .int .u64 a0), (1, .int .i64 a1), (4, .bool (r_9 == 0)), (6, .int .u64 r_9), (7, .int .i64 r_10)] ⟨rfl, rfl, rfl, rfl, rfl, trivial⟩ ?_
        refine CW.ret ?_
        refine QW.then_r ?_
        have hz : (r_9 == 0) = true := (beq_iff_eq.mpr H)
        exact QW.ret1 rfl (evb rfl hz) ⟨rfl, st_7.ext⟩
      · have h_20 : (decide (a1 < 0)) = false := (decide_eq_false c_19)
        refine WL.on ?_ ?_; exact Wanted.guard (dj := 27) (by rfl) (evb (by rfl) h_20) (by rfl)
        refine WL.val Wanted.none (Runs.move rfl) ?_
        refine WL.on ?_ ?_; exact Wanted.guard (dj := 27) (by rfl) (evb (by rfl) h_20) (by rfl)
        refine WL.val Wanted.none (Runs.gtr rfl rfl rfl) ?_
        refine WL.val Wanted.none (Runs.pick_f (evb rfl h_20) rfl) ?_
        refine WL.nil ?_
        refine QW.then_n ?_
        refine CW.sub [(0, .int .u64 a0), (1, .int .i64 a1), (4, .bool false), (6, .int .u64 r_9), (7, .int .i64 r_10), (30, .bool (decide (a1 > 1)))] ⟨rfl, rfl, rfl, rfl, rfl, rfl, trivial⟩ ?_
        rcases H with ⟨c_23, H⟩ | ⟨c_23, H⟩
        · have h_24 : (decide (a1 > 1)) = true := (decide_eq_true c_23)
          refine CW.ct rfl h_24 ?_
          refine CW.seq ?_
          refine CW.region ?_
          refine WL.val Wanted.none (Runs.move rfl) ?_
          refine WL.val Wanted.none (Runs.eql rfl rfl rfl) ?_
          refine WL.val Wanted.none (Runs.move rfl) ?_
          obtain ⟨c_25, H⟩ := H
          have h_26 : (r_10 == 1) = true := (beq_iff_eq.mpr c_25)
          refine WL.on ?_ ?_; exact Wanted.guard (dj := 33) (by rfl) (evb (by rfl) h_26) (by rfl)
          refine WL.val Wanted.none (Runs.move rfl) ?_
          refine WL.on ?_ ?_; exact Wanted.guard (dj := 33) (by rfl) (evb (by rfl) h_26) (by rfl)
          refine WL.val Wanted.none (Runs.eql rfl rfl rfl) ?_
          refine WL.val Wanted.none (Runs.pick_t (evb rfl h_26) rfl) ?_
          refine WL.val Wanted.none (Runs.assign rfl) ?_
          refine WL.nil ?_
          refine QW.then_n ?_
          refine CW.sub [(0, .int .u64 a0), (1, .int .i64 a1), (4, .bool (r_9 == 0)), (6, .int .u64 r_9), (7, .int .i64 r_10)] ⟨rfl, rfl, rfl, rfl, rfl, trivial⟩ ?_
          refine CW.ret ?_
          refine QW.then_r ?_
          have hz : (r_9 == 0) = true := (beq_iff_eq.mpr H)
          exact QW.ret1 rfl (evb rfl hz) ⟨rfl, st_7.ext⟩
        · have h_24 : (decide (a1 > 1)) = false := (decide_eq_false c_23)
          refine CW.cf rfl h_24 ?_
          refine CW.skip ?_
          refine QW.then_n ?_
          refine CW.seq ?_
          refine CW.region ?_
          refine WL.val Wanted.none (Runs.move rfl) ?_
          refine WL.val Wanted.none (Runs.eql rfl rfl rfl) ?_
          refine WL.val Wanted.none (Runs.move rfl) ?_
          obtain ⟨c_27, H⟩ := H
          have h_28 : (r_10 == 0) = true := (beq_iff_eq.mpr c_27)
          refine WL.on ?_ ?_; exact Wanted.guard (dj := 39) (by rfl) (evb (by rfl) h_28) (by rfl)
          refine WL.val Wanted.none (Runs.move rfl) ?_
          refine WL.on ?_ ?_; exact Wanted.guard (dj := 39) (by rfl) (evb (by rfl) h_28) (by rfl)
          obtain ⟨r_33, hr_29, H⟩ := H
          refine WL.call Wanted.none ent18 rfl (tree_Version.calls w_6 r_9 r_33 hr_29) ?_
          rintro _ w_30 ⟨rfl, sc_32⟩
          have st_31 : St w w_30 [] := st_7.call sc_32
          refine ⟨_, rfl, ?_⟩
          refine WL.on ?_ ?_; exact Wanted.guard (dj := 39) (by rfl) (evb (by rfl) h_28) (by rfl)
          refine WL.val Wanted.none (Runs.move rfl) ?_
          refine WL.on ?_ ?_; exact Wanted.guard (dj := 39) (by rfl) (evb (by rfl) h_28) (by rfl)
          refine WL.val Wanted.none (Runs.eql rfl rfl rfl) ?_
          refine WL.val Wanted.none (Runs.pick_t (evb rfl h_28) rfl) ?_
          refine WL.val Wanted.none (Runs.move rfl) ?_
          obtain ⟨c_34, H⟩ := H
          have h_35 : (r_33 == a0) = true := (beq_iff_eq.mpr c_34)
          refine WL.on ?_ ?_; exact Wanted.guard (dj := 45) (by rfl) (evb (by rfl) h_35) (by rfl)
          refine WL.val Wanted.none (Runs.move rfl) ?_
          refine WL.on ?_ ?_; exact Wanted.guard (dj := 45) (by rfl) (evb (by rfl) h_35) (by rfl)
          obtain ⟨r_40, hr_36, H⟩ := H
          refine WL.call Wanted.none ent19 rfl (tree_Side.calls w_30 r_9 r_40 hr_36) ?_
          rintro _ w_37 ⟨rfl, sc_39⟩
          have st_38 : St w w_37 [] := st_31.call sc_39
          refine ⟨_, rfl, ?_⟩
          refine WL.on ?_ ?_; exact Wanted.guard (dj := 45) (by rfl) (evb (by rfl) h_35) (by rfl)
          refine WL.val Wanted.none (Runs.move rfl) ?_
          refine WL.on ?_ ?_; exact Wanted.guard (dj := 45) (by rfl) (evb (by rfl) h_35) (by rfl)
          refine WL.val Wanted.none (Runs.eql rfl rfl rfl) ?_
          refine WL.val Wanted.none (Runs.pick_t (evb rfl h_35) rfl) ?_
          refine WL.val Wanted.none (Runs.move rfl) ?_
          obtain ⟨c_41, H⟩ := H
          have h_42 : (r_40 == a1) = true := (beq_iff_eq.mpr c_41)
          refine WL.on ?_ ?_; exact Wanted.guard (dj := 51) (by rfl) (evb (by rfl) h_42) (by rfl)
          refine WL.val Wanted.none (Runs.move rfl) ?_
          refine WL.on ?_ ?_; exact Wanted.guard (dj := 51) (by rfl) (evb (by rfl) h_42) (by rfl)
          refine WL.val Wanted.none (Runs.gtr rfl rfl rfl) ?_
          refine WL.val Wanted.none (Runs.pick_t (evb rfl h_42) rfl) ?_
          refine WL.val Wanted.none (Runs.assign rfl) ?_
          refine WL.nil ?_
          refine QW.then_n ?_
          refine CW.sub [(4, .bool (decide (r_9 > 1)))] ⟨rfl, trivial⟩ ?_
          refine CW.ret ?_
          have hz : (decide (r_9 > 1)) = true := (decide_eq_true H)
          exact QW.ret1 rfl (evb rfl hz) ⟨rfl, st_38.ext⟩

end Go.Proofs.YtekpnjhacnkgcaaDoor
