/- Walks: each function computes what its relation says, and a call of it ends so. Printed by a program of this session (wip/gen). -/
import Derived.Test.YtlmbhggkahehjaaDoorGx2
namespace Go.Proofs.YtlmbhggkahehjaaDoor
open Go Go.Kr Go.RowKit
set_option linter.unusedVariables false
set_option linter.unusedSimpArgs false
/-! ### reliquaryref03_Mac: function 9 -/
def reliquaryref03_Mac.rel (l0 : List Int) (l1 : List Int) (r0 : List Int) : Prop := (∃ m_7 : List Int, m_7 = ([] : List Int) ++ l0 ∧ (m_7.length ≤ 1099511627776 ∧ (((l0.length : Int) > 64 ∧ (∃ (r_22 : List Int), reliquaryref02_Of.rel l0 r_22 ∧ (∃ (r_35 : List Int), reliquaryref03_over.rel r_22 54 r_35 ∧ (∃ m_41 : List Int, m_41 = r_35 ++ l1 ∧ (m_41.length ≤ 1099511627776 ∧ (∃ (r_54 : List Int), reliquaryref02_Of.rel m_41 r_54 ∧ (∃ (r_67 : List Int), reliquaryref03_over.rel r_22 92 r_67 ∧ (∃ m_73 : List Int, m_73 = r_67 ++ r_54 ∧ (m_73.length ≤ 1099511627776 ∧ (∃ (r_86 : List Int), reliquaryref02_Of.rel m_73 r_86 ∧ r0 = r_86)))))))))) ∨ (¬ ((l0.length : Int) > 64) ∧ (∃ (r_95 : List Int), reliquaryref03_over.rel m_7 54 r_95 ∧ (∃ m_101 : List Int, m_101 = r_95 ++ l1 ∧ (m_101.length ≤ 1099511627776 ∧ (∃ (r_114 : List Int), reliquaryref02_Of.rel m_101 r_114 ∧ (∃ (r_127 : List Int), reliquaryref03_over.rel m_7 92 r_127 ∧ (∃ m_133 : List Int, m_133 = r_127 ++ r_114 ∧ (m_133.length ≤ 1099511627776 ∧ (∃ (r_146 : List Int), reliquaryref02_Of.rel m_133 r_146 ∧ r0 = r_146))))))))))))
set_option maxHeartbeats 4000000 in
set_option maxRecDepth 100000 in
theorem reliquaryref03_Mac.calls (w : World) (l0 : List Int) (l1 : List Int) (A0 : Option Addr) (n0 : Nat) (c0 : Nat) (A1 : Option Addr) (n1 : Nat) (c1 : Nat)  (hs0 : Src w A0 (iv .u8 l0)) (hn0 : n0 = l0.length) (hc0 : n0 ≤ c0) (hs1 : Src w A1 (iv .u8 l1)) (hn1 : n1 = l1.length) (hc1 : n1 ≤ c1) (r0 : List Int) (H : reliquaryref03_Mac.rel l0 l1 r0) :
    Calls Tryd.prog 9 #[.slice A0 n0 c0, .slice A1 n1 c1] w fun e w' => r0.length = 32 ∧ e = .returned (.agg (iv .u8 r0).toArray) ∧ St w w' [] := by
  refine CW.enter Tryd.func9 rfl (n := 33) rfl [.slice A0 n0 c0, .slice A1 n1 c1] (Nat.le_of_ble_eq_true rfl) ?_
  refine CW.sub [(0, .slice A0 n0 c0), (1, .slice A1 n1 c1)] ⟨rfl, rfl, trivial⟩ ?_
  have st0 : St w w [] := St.refl w
  refine CW.seq ?_
  refine CW.region ?_
  refine WL.alloc st0 arr25.zero ?_
  intro B_1 w_2 st_3
  replace st_3 : St w w_2 [.cells B_1 (iv .u8 (List.replicate 32 (0 : Int))) 25] := st_3
  refine WL.nil ?_
  refine QW.then_n ?_
  refine CW.seq ?_
  refine CW.region ?_
  refine WL.val Wanted.none (Runs.assign rfl) ?_
  refine WL.nil ?_
  refine QW.then_n ?_
  refine CW.seq ?_
  refine CW.region ?_
  refine WL.val Wanted.none (Runs.move rfl) ?_
  refine WL.val Wanted.none (Runs.move rfl) ?_
  have st_6 := st_3.nil_sl 5 1
  have st_6 : St w w_2 [.sl none 0 0 (iv .u8 ([] : List Int)) 5 1, .cells B_1 (iv .u8 (List.replicate 32 (0 : Int))) 25] := st_6
  obtain ⟨m_7, e_8, H⟩ := H
  obtain ⟨z_9, H⟩ := H
  obtain ⟨n_12, hn_15⟩ : ∃ n_ : Nat, n_ = m_7.length := ⟨_, rfl⟩
  refine WL.append (i := 0) Wanted.none st_6 rfl Tryd.underlying22 elem5 rfl rfl (hs0.ext st_6) (by rw [iv_length]; exact (hn0).symm) (one_iv .u8 _) (by decide) (N := n_12) (by rw [hn_15, e_8, List.length_append]; exact congr (congrArg HAdd.hAdd (rfl)) (hn0)) (by rw [hn_15]; exact z_9) ?_
  intro A_10 c_11 w_13 st_14
  have st_14' : St w w_13 [.sl A_10 c_11 n_12 (iv .u8 m_7) 5 1, .cells B_1 (iv .u8 (List.replicate 32 (0 : Int))) 25] := by rw [e_8, ← iv_append .u8 ([] : List Int) l0]; exact st_14
  refine WL.val Wanted.none (Runs.assign rfl) ?_
  refine WL.nil ?_
  refine QW.then_n ?_
  refine CW.seq ?_
  refine CW.seq ?_
  refine CW.region ?_
  refine WL.val Wanted.none (Runs.move rfl) ?_
  refine WL.val Wanted.none (Runs.len_sl Tryd.underlying22 rfl (by rw [hn0])) ?_
  refine WL.val Wanted.none (Runs.gtr rfl rfl rfl) ?_
  refine WL.nil ?_
  refine QW.then_n ?_
  rcases H with ⟨c_16, H⟩ | ⟨c_16, H⟩
  · have h_17 : (decide ((l0.length : Int) > 64)) = true := (decide_eq_true c_16)
    refine CW.ct rfl h_17 ?_
    refine CW.seq ?_
    refine CW.region ?_
    refine WL.val Wanted.none (Runs.move rfl) ?_
    obtain ⟨r_22, hr_18, H⟩ := H
    refine WL.call Wanted.none ent13 rfl (reliquaryref02_Of.calls w_13 l0 A0 n0 c0 (hs0.ext st_14') (hn0) (hc0) r_22 hr_18) ?_
    rintro _ w_19 ⟨hl_23, rfl, sc_21⟩
    have st_20 : St w w_19 [.sl A_10 c_11 n_12 (iv .u8 m_7) 5 1, .cells B_1 (iv .u8 (List.replicate 32 (0 : Int))) 25] := st_14'.call sc_21
    refine ⟨_, rfl, ?_⟩
    refine WL.alloc st_20 arr25.zero ?_
    intro B_24 w_25 st_26
    replace st_26 : St w w_25 [.cells B_24 (iv .u8 (List.replicate 32 (0 : Int))) 25, .sl A_10 c_11 n_12 (iv .u8 m_7) 5 1, .cells B_1 (iv .u8 (List.replicate 32 (0 : Int))) 25] := st_26
    refine WL.store_arr (i := 0) st_26 rfl arr25 rfl (by rw [iv_length]; exact (List.length_replicate ..)) hl_23 rfl ?_
    intro w_28 st_29
    replace st_29 : St w w_28 [.cells B_24 (iv .u8 r_22) 25, .sl A_10 c_11 n_12 (iv .u8 m_7) 5 1, .cells B_1 (iv .u8 (List.replicate 32 (0 : Int))) 25] := st_29
    refine WL.nil ?_
    refine QW.then_n ?_
    refine CW.sub [(1, .slice A1 n1 c1), (4, .pointer (some ⟨B_1, 0, none⟩)), (5, .slice A_10 n_12 c_11), (6, .pointer (some ⟨B_24, 0, none⟩))] ⟨rfl, rfl, rfl, rfl, trivial⟩ ?_
    refine CW.region ?_
    refine WL.val Wanted.none (Runs.slice_arr arr25 rfl (by decide)) ?_
    refine WL.val Wanted.none (Runs.assign rfl) ?_
    refine WL.nil ?_
    refine QW.then_n ?_
    refine CW.seq ?_
    refine CW.region ?_
    refine WL.val Wanted.none (Runs.move rfl) ?_
    obtain ⟨r_35, hr_31, H⟩ := H
    refine WL.call Wanted.none ent17 rfl (reliquaryref03_over.calls w_28 r_22 54 (some ⟨B_24, 0, none⟩) 32 32 (st_29.src_blk (i := 0) rfl) ((hl_23).symm) (Nat.le_refl _) r_35 hr_31) ?_
    rintro _ w_32 ⟨A_36, c_37, n_38, hn_39, rfl, sc_34⟩
    have st_33 : St w w_32 [.sl A_36 c_37 n_38 (iv .u8 r_35) 5 1, .cells B_24 (iv .u8 r_22) 25, .sl A_10 c_11 n_12 (iv .u8 m_7) 5 1, .cells B_1 (iv .u8 (List.replicate 32 (0 : Int))) 25] := st_29.call sc_34
    refine ⟨_, rfl, ?_⟩
    refine WL.val Wanted.none (Runs.assign rfl) ?_
    refine WL.nil ?_
    refine QW.then_n ?_
    refine CW.seq ?_
    refine CW.region ?_
    refine WL.val Wanted.none (Runs.move rfl) ?_
    refine WL.val Wanted.none (Runs.move rfl) ?_
    obtain ⟨m_41, e_42, H⟩ := H
    obtain ⟨z_43, H⟩ := H
    obtain ⟨n_46, hn_49⟩ : ∃ n_ : Nat, n_ = m_41.length := ⟨_, rfl⟩
    refine WL.append (i := 0) Wanted.none st_33 rfl Tryd.underlying22 elem5 rfl rfl (hs1.ext st_33) (by rw [iv_length]; exact (hn1).symm) (one_iv .u8 _) (by decide) (N := n_46) (by rw [hn_49, e_42, List.length_append]; exact congr (congrArg HAdd.hAdd (hn_39)) (hn1)) (by rw [hn_49]; exact z_43) ?_
    intro A_44 c_45 w_47 st_48
    have st_48' : St w w_47 [.sl A_44 c_45 n_46 (iv .u8 m_41) 5 1, .cells B_24 (iv .u8 r_22) 25, .sl A_10 c_11 n_12 (iv .u8 m_7) 5 1, .cells B_1 (iv .u8 (List.replicate 32 (0 : Int))) 25] := by rw [e_42, ← iv_append .u8 r_35 l1]; exact st_48
    refine WL.val Wanted.none (Runs.assign rfl) ?_
    refine WL.nil ?_
    refine QW.then_n ?_
    refine CW.sub [(4, .pointer (some ⟨B_1, 0, none⟩)), (5, .slice (some ⟨B_24, 0, none⟩) 32 32), (7, .slice A_44 n_46 c_45)] ⟨rfl, rfl, rfl, trivial⟩ ?_
    refine CW.seq ?_
    refine CW.region ?_
    refine WL.val Wanted.none (Runs.move rfl) ?_
    obtain ⟨r_54, hr_50, H⟩ := H
    refine WL.call Wanted.none ent13 rfl (reliquaryref02_Of.calls w_47 m_41 A_44 n_46 c_45 (st_48'.src_sl (k := 0) rfl) (hn_49) (st_48'.cap (i := 0) rfl) r_54 hr_50) ?_
    rintro _ w_51 ⟨hl_55, rfl, sc_53⟩
    have st_52 : St w w_51 [.sl A_44 c_45 n_46 (iv .u8 m_41) 5 1, .cells B_24 (iv .u8 r_22) 25, .sl A_10 c_11 n_12 (iv .u8 m_7) 5 1, .cells B_1 (iv .u8 (List.replicate 32 (0 : Int))) 25] := st_48'.call sc_53
    refine ⟨_, rfl, ?_⟩
    refine WL.alloc st_52 arr25.zero ?_
    intro B_56 w_57 st_58
    replace st_58 : St w w_57 [.cells B_56 (iv .u8 (List.replicate 32 (0 : Int))) 25, .sl A_44 c_45 n_46 (iv .u8 m_41) 5 1, .cells B_24 (iv .u8 r_22) 25, .sl A_10 c_11 n_12 (iv .u8 m_7) 5 1, .cells B_1 (iv .u8 (List.replicate 32 (0 : Int))) 25] := st_58
    refine WL.store_arr (i := 0) st_58 rfl arr25 rfl (by rw [iv_length]; exact (List.length_replicate ..)) hl_55 rfl ?_
    intro w_60 st_61
    replace st_61 : St w w_60 [.cells B_56 (iv .u8 r_54) 25, .sl A_44 c_45 n_46 (iv .u8 m_41) 5 1, .cells B_24 (iv .u8 r_22) 25, .sl A_10 c_11 n_12 (iv .u8 m_7) 5 1, .cells B_1 (iv .u8 (List.replicate 32 (0 : Int))) 25] := st_61
    refine WL.nil ?_
    refine QW.then_n ?_
    refine CW.seq ?_
    refine CW.region ?_
    refine WL.val Wanted.none (Runs.move rfl) ?_
    obtain ⟨r_67, hr_63, H⟩ := H
    refine WL.call Wanted.none ent17 rfl (reliquaryref03_over.calls w_60 r_22 92 (some ⟨B_24, 0, none⟩) 32 32 (st_61.src_blk (i := 2) rfl) ((hl_23).symm) (Nat.le_refl _) r_67 hr_63) ?_
    rintro _ w_64 ⟨A_68, c_69, n_70, hn_71, rfl, sc_66⟩
    have st_65 : St w w_64 [.sl A_68 c_69 n_70 (iv .u8 r_67) 5 1, .cells B_56 (iv .u8 r_54) 25, .sl A_44 c_45 n_46 (iv .u8 m_41) 5 1, .cells B_24 (iv .u8 r_22) 25, .sl A_10 c_11 n_12 (iv .u8 m_7) 5 1, .cells B_1 (iv .u8 (List.replicate 32 (0 : Int))) 25] := st_61.call sc_66
    refine ⟨_, rfl, ?_⟩
    refine WL.val Wanted.none (Runs.assign rfl) ?_
    refine WL.nil ?_
    refine QW.then_n ?_
    refine CW.sub [(4, .pointer (some ⟨B_1, 0, none⟩)), (8, .pointer (some ⟨B_56, 0, none⟩)), (9, .slice A_68 n_70 c_69)] ⟨rfl, rfl, rfl, trivial⟩ ?_
    refine CW.seq ?_
    refine CW.region ?_
    refine WL.val Wanted.none (Runs.move rfl) ?_
    refine WL.val Wanted.none (Runs.slice_arr arr25 rfl (by decide)) ?_
    obtain ⟨m_73, e_74, H⟩ := H
    obtain ⟨z_75, H⟩ := H
    obtain ⟨n_78, hn_81⟩ : ∃ n_ : Nat, n_ = m_73.length := ⟨_, rfl⟩
    refine WL.append (i := 0) Wanted.none st_65 rfl Tryd.underlying22 elem5 rfl rfl (st_65.src_blk (i := 1) rfl) (by rw [iv_length]; exact ((hl_55).symm).symm) (one_iv .u8 _) (by decide) (N := n_78) (by rw [hn_81, e_74, List.length_append]; exact congr (congrArg HAdd.hAdd (hn_71)) ((hl_55).symm)) (by rw [hn_81]; exact z_75) ?_
    intro A_76 c_77 w_79 st_80
    have st_80' : St w w_79 [.sl A_76 c_77 n_78 (iv .u8 m_73) 5 1, .cells B_56 (iv .u8 r_54) 25, .sl A_44 c_45 n_46 (iv .u8 m_41) 5 1, .cells B_24 (iv .u8 r_22) 25, .sl A_10 c_11 n_12 (iv .u8 m_7) 5 1, .cells B_1 (iv .u8 (List.replicate 32 (0 : Int))) 25] := by rw [e_74, ← iv_append .u8 r_67 r_54]; exact st_80
    refine WL.val Wanted.none (Runs.assign rfl) ?_
    refine WL.nil ?_
    refine QW.then_n ?_
    refine CW.seq ?_
    refine CW.region ?_
    refine WL.val Wanted.none (Runs.move rfl) ?_
    obtain ⟨r_86, hr_82, H⟩ := H
    refine WL.call Wanted.none ent13 rfl (reliquaryref02_Of.calls w_79 m_73 A_76 n_78 c_77 (st_80'.src_sl (k := 0) rfl) (hn_81) (st_80'.cap (i := 0) rfl) r_86 hr_82) ?_
    rintro _ w_83 ⟨hl_87, rfl, sc_85⟩
    have st_84 : St w w_83 [.sl A_76 c_77 n_78 (iv .u8 m_73) 5 1, .cells B_56 (iv .u8 r_54) 25, .sl A_44 c_45 n_46 (iv .u8 m_41) 5 1, .cells B_24 (iv .u8 r_22) 25, .sl A_10 c_11 n_12 (iv .u8 m_7) 5 1, .cells B_1 (iv .u8 (List.replicate 32 (0 : Int))) 25] := st_80'.call sc_85
    refine ⟨_, rfl, ?_⟩
    refine WL.store_arr (i := 5) st_84 rfl arr25 rfl (by rw [iv_length]; exact (List.length_replicate ..)) hl_87 rfl ?_
    intro w_88 st_89
    replace st_89 : St w w_88 [.sl A_76 c_77 n_78 (iv .u8 m_73) 5 1, .cells B_56 (iv .u8 r_54) 25, .sl A_44 c_45 n_46 (iv .u8 m_41) 5 1, .cells B_24 (iv .u8 r_22) 25, .sl A_10 c_11 n_12 (iv .u8 m_7) 5 1, .cells B_1 (iv .u8 r_86) 25] := st_89
    refine WL.nil ?_
    refine QW.then_n ?_
    refine CW.sub [(4, .pointer (some ⟨B_1, 0, none⟩))] ⟨rfl, trivial⟩ ?_
    refine CW.ret ?_
    obtain rfl := H
    exact QW.retc rfl arr25 rfl (st_89.blk (i := 5) rfl) hl_87 ⟨hl_87, rfl, st_89.pick [] (by decide)⟩
  · have h_17 : (decide ((l0.length : Int) > 64)) = false := (decide_eq_false c_16)
    refine CW.cf rfl h_17 ?_
    refine CW.skip ?_
    refine QW.then_n ?_
    refine CW.sub [(1, .slice A1 n1 c1), (4, .pointer (some ⟨B_1, 0, none⟩)), (5, .slice A_10 n_12 c_11)] ⟨rfl, rfl, rfl, trivial⟩ ?_
    refine CW.seq ?_
    refine CW.region ?_
    refine WL.val Wanted.none (Runs.move rfl) ?_
    obtain ⟨r_95, hr_91, H⟩ := H
    refine WL.call Wanted.none ent17 rfl (reliquaryref03_over.calls w_13 m_7 54 A_10 n_12 c_11 (st_14'.src_sl (k := 0) rfl) (hn_15) (st_14'.cap (i := 0) rfl) r_95 hr_91) ?_
    rintro _ w_92 ⟨A_96, c_97, n_98, hn_99, rfl, sc_94⟩
    have st_93 : St w w_92 [.sl A_96 c_97 n_98 (iv .u8 r_95) 5 1, .sl A_10 c_11 n_12 (iv .u8 m_7) 5 1, .cells B_1 (iv .u8 (List.replicate 32 (0 : Int))) 25] := st_14'.call sc_94
    refine ⟨_, rfl, ?_⟩
    refine WL.val Wanted.none (Runs.assign rfl) ?_
    refine WL.nil ?_
    refine QW.then_n ?_
    refine CW.seq ?_
    refine CW.region ?_
    refine WL.val Wanted.none (Runs.move rfl) ?_
    refine WL.val Wanted.none (Runs.move rfl) ?_
    obtain ⟨m_101, e_102, H⟩ := H
    obtain ⟨z_103, H⟩ := H
    obtain ⟨n_106, hn_109⟩ : ∃ n_ : Nat, n_ = m_101.length := ⟨_, rfl⟩
    refine WL.append (i := 0) Wanted.none st_93 rfl Tryd.underlying22 elem5 rfl rfl (hs1.ext st_93) (by rw [iv_length]; exact (hn1).symm) (one_iv .u8 _) (by decide) (N := n_106) (by rw [hn_109, e_102, List.length_append]; exact congr (congrArg HAdd.hAdd (hn_99)) (hn1)) (by rw [hn_109]; exact z_103) ?_
    intro A_104 c_105 w_107 st_108
    have st_108' : St w w_107 [.sl A_104 c_105 n_106 (iv .u8 m_101) 5 1, .sl A_10 c_11 n_12 (iv .u8 m_7) 5 1, .cells B_1 (iv .u8 (List.replicate 32 (0 : Int))) 25] := by rw [e_102, ← iv_append .u8 r_95 l1]; exact st_108
    refine WL.val Wanted.none (Runs.assign rfl) ?_
    refine WL.nil ?_
    refine QW.then_n ?_
    refine CW.sub [(4, .pointer (some ⟨B_1, 0, none⟩)), (5, .slice A_10 n_12 c_11), (7, .slice A_104 n_106 c_105)] ⟨rfl, rfl, rfl, trivial⟩ ?_
    refine CW.seq ?_
    refine CW.region ?_
    refine WL.val Wanted.none (Runs.move rfl) ?_
    obtain ⟨r_114, hr_110, H⟩ := H
    refine WL.call Wanted.none ent13 rfl (reliquaryref02_Of.calls w_107 m_101 A_104 n_106 c_105 (st_108'.src_sl (k := 0) rfl) (hn_109) (st_108'.cap (i := 0) rfl) r_114 hr_110) ?_
    rintro _ w_111 ⟨hl_115, rfl, sc_113⟩
    have st_112 : St w w_111 [.sl A_104 c_105 n_106 (iv .u8 m_101) 5 1, .sl A_10 c_11 n_12 (iv .u8 m_7) 5 1, .cells B_1 (iv .u8 (List.replicate 32 (0 : Int))) 25] := st_108'.call sc_113
    refine ⟨_, rfl, ?_⟩
    refine WL.alloc st_112 arr25.zero ?_
    intro B_116 w_117 st_118
    replace st_118 : St w w_117 [.cells B_116 (iv .u8 (List.replicate 32 (0 : Int))) 25, .sl A_104 c_105 n_106 (iv .u8 m_101) 5 1, .sl A_10 c_11 n_12 (iv .u8 m_7) 5 1, .cells B_1 (iv .u8 (List.replicate 32 (0 : Int))) 25] := st_118
    refine WL.store_arr (i := 0) st_118 rfl arr25 rfl (by rw [iv_length]; exact (List.length_replicate ..)) hl_115 rfl ?_
    intro w_120 st_121
    replace st_121 : St w w_120 [.cells B_116 (iv .u8 r_114) 25, .sl A_104 c_105 n_106 (iv .u8 m_101) 5 1, .sl A_10 c_11 n_12 (iv .u8 m_7) 5 1, .cells B_1 (iv .u8 (List.replicate 32 (0 : Int))) 25] := st_121
    refine WL.nil ?_
    refine QW.then_n ?_
    refine CW.seq ?_
    refine CW.region ?_
    refine WL.val Wanted.none (Runs.move rfl) ?_
    obtain ⟨r_127, hr_123, H⟩ := H
    refine WL.call Wanted.none ent17 rfl (reliquaryref03_over.calls w_120 m_7 92 A_10 n_12 c_11 (st_121.src_sl (k := 2) rfl) (hn_15) (st_121.cap (i := 2) rfl) r_127 hr_123) ?_
    rintro _ w_124 ⟨A_128, c_129, n_130, hn_131, rfl, sc_126⟩
    have st_125 : St w w_124 [.sl A_128 c_129 n_130 (iv .u8 r_127) 5 1, .cells B_116 (iv .u8 r_114) 25, .sl A_104 c_105 n_106 (iv .u8 m_101) 5 1, .sl A_10 c_11 n_12 (iv .u8 m_7) 5 1, .cells B_1 (iv .u8 (List.replicate 32 (0 : Int))) 25] := st_121.call sc_126
    refine ⟨_, rfl, ?_⟩
    refine WL.val Wanted.none (Runs.assign rfl) ?_
    refine WL.nil ?_
    refine QW.then_n ?_
    refine CW.sub [(4, .pointer (some ⟨B_1, 0, none⟩)), (8, .pointer (some ⟨B_116, 0, none⟩)), (9, .slice A_128 n_130 c_129)] ⟨rfl, rfl, rfl, trivial⟩ ?_
    refine CW.seq ?_
    refine CW.region ?_
    refine WL.val Wanted.none (Runs.move rfl) ?_
    refine WL.val Wanted.none (Runs.slice_arr arr25 rfl (by decide)) ?_
    obtain ⟨m_133, e_134, H⟩ := H
    obtain ⟨z_135, H⟩ := H
    obtain ⟨n_138, hn_141⟩ : ∃ n_ : Nat, n_ = m_133.length := ⟨_, rfl⟩
    refine WL.append (i := 0) Wanted.none st_125 rfl Tryd.underlying22 elem5 rfl rfl (st_125.src_blk (i := 1) rfl) (by rw [iv_length]; exact ((hl_115).symm).symm) (one_iv .u8 _) (by decide) (N := n_138) (by rw [hn_141, e_134, List.length_append]; exact congr (congrArg HAdd.hAdd (hn_131)) ((hl_115).symm)) (by rw [hn_141]; exact z_135) ?_
    intro A_136 c_137 w_139 st_140
    have st_140' : St w w_139 [.sl A_136 c_137 n_138 (iv .u8 m_133) 5 1, .cells B_116 (iv .u8 r_114) 25, .sl A_104 c_105 n_106 (iv .u8 m_101) 5 1, .sl A_10 c_11 n_12 (iv .u8 m_7) 5 1, .cells B_1 (iv .u8 (List.replicate 32 (0 : Int))) 25] := by rw [e_134, ← iv_append .u8 r_127 r_114]; exact st_140
    refine WL.val Wanted.none (Runs.assign rfl) ?_
    refine WL.nil ?_
    refine QW.then_n ?_
    refine CW.seq ?_
    refine CW.region ?_
    refine WL.val Wanted.none (Runs.move rfl) ?_
    obtain ⟨r_146, hr_142, H⟩ := H
    refine WL.call Wanted.none ent13 rfl (reliquaryref02_Of.calls w_139 m_133 A_136 n_138 c_137 (st_140'.src_sl (k := 0) rfl) (hn_141) (st_140'.cap (i := 0) rfl) r_146 hr_142) ?_
    rintro _ w_143 ⟨hl_147, rfl, sc_145⟩
    have st_144 : St w w_143 [.sl A_136 c_137 n_138 (iv .u8 m_133) 5 1, .cells B_116 (iv .u8 r_114) 25, .sl A_104 c_105 n_106 (iv .u8 m_101) 5 1, .sl A_10 c_11 n_12 (iv .u8 m_7) 5 1, .cells B_1 (iv .u8 (List.replicate 32 (0 : Int))) 25] := st_140'.call sc_145
    refine ⟨_, rfl, ?_⟩
    refine WL.store_arr (i := 4) st_144 rfl arr25 rfl (by rw [iv_length]; exact (List.length_replicate ..)) hl_147 rfl ?_
    intro w_148 st_149
    replace st_149 : St w w_148 [.sl A_136 c_137 n_138 (iv .u8 m_133) 5 1, .cells B_116 (iv .u8 r_114) 25, .sl A_104 c_105 n_106 (iv .u8 m_101) 5 1, .sl A_10 c_11 n_12 (iv .u8 m_7) 5 1, .cells B_1 (iv .u8 r_146) 25] := st_149
    refine WL.nil ?_
    refine QW.then_n ?_
    refine CW.sub [(4, .pointer (some ⟨B_1, 0, none⟩))] ⟨rfl, trivial⟩ ?_
    refine CW.ret ?_
    obtain rfl := H
    exact QW.retc rfl arr25 rfl (st_149.blk (i := 4) rfl) hl_147 ⟨hl_147, rfl, st_149.pick [] (by decide)⟩

/-! ### reliquarylaw03_KeysMacs: function 3 -/
def reliquarylaw03_KeysMacs.rel (l0 : List Int) (l1 : List Int)  : Prop := (reliquarylaw03_awake.rel  ∧ (((l0.length : Int) > 500 ∧ True) ∨ (¬ ((l0.length : Int) > 500) ∧ (((l1.length : Int) > 2000 ∧ True) ∨ (¬ ((l1.length : Int) > 2000) ∧ (∃ (r_13 : List Int), keys_Mac.rel l0 l1 r_13 ∧ (∃ (r_19 : List Int), reliquaryref03_Mac.rel l0 l1 r_19 ∧ r_13 = r_19)))))))
set_option maxHeartbeats 4000000 in
set_option maxRecDepth 100000 in
theorem reliquarylaw03_KeysMacs.calls (w : World) (l0 : List Int) (l1 : List Int) (A0 : Option Addr) (n0 : Nat) (c0 : Nat) (A1 : Option Addr) (n1 : Nat) (c1 : Nat)  (hG0 : Src w (some ⟨0, 0, none⟩) (iv .u32 tab0)) (hs0 : Src w A0 (iv .u8 l0)) (hn0 : n0 = l0.length) (hc0 : n0 ≤ c0) (hs1 : Src w A1 (iv .u8 l1)) (hn1 : n1 = l1.length) (hc1 : n1 ≤ c1)  (H : reliquarylaw03_KeysMacs.rel l0 l1 ) :
    Calls Tryd.prog 3 #[.slice A0 n0 c0, .slice A1 n1 c1] w fun e w' => e = .returned (.bool true) ∧ Below w.heap.size w w' := by
  refine CW.enter Tryd.func3 rfl (n := 24) rfl [.slice A0 n0 c0, .slice A1 n1 c1] (Nat.le_of_ble_eq_true rfl) ?_
  refine CW.sub [(0, .slice A0 n0 c0), (1, .slice A1 n1 c1)] ⟨rfl, rfl, trivial⟩ ?_
  have st0 : St w w [] := St.refl w
  refine CW.seq ?_
  refine CW.region ?_
  refine WL.val Wanted.none (Runs.assign rfl) ?_
  refine WL.nil ?_
  refine QW.then_n ?_
  refine CW.seq ?_
  refine CW.region ?_
  obtain ⟨hr_1, H⟩ := H
  refine WL.call Wanted.none ent7 rfl (reliquarylaw03_awake.calls w (hG0.ext st0) hr_1) ?_
  rintro _ w_2 ⟨rfl, sc_4⟩
  have st_3 : St w w_2 [] := st0.below sc_4
  refine ⟨_, rfl, ?_⟩
  refine WL.val Wanted.none (Runs.assign rfl) ?_
  refine WL.nil ?_
  refine QW.then_n ?_
  refine CW.seq ?_
  refine CW.seq ?_
  refine CW.region ?_
  refine WL.val Wanted.none (Runs.move rfl) ?_
  refine WL.val Wanted.none (Runs.not rfl rfl) ?_
  refine WL.nil ?_
  refine QW.then_n ?_
  refine CW.cf rfl rfl ?_
  refine CW.skip ?_
  refine QW.then_n ?_
  refine CW.seq ?_
  refine CW.seq ?_
  refine CW.region ?_
  refine WL.val Wanted.none (Runs.move rfl) ?_
  refine WL.val Wanted.none (Runs.len_sl Tryd.underlying22 rfl (by rw [hn0])) ?_
  refine WL.val Wanted.none (Runs.gtr rfl rfl rfl) ?_
  refine WL.val Wanted.none (Runs.move rfl) ?_
  rcases H with ⟨c_5, H⟩ | ⟨c_5, H⟩
  · have h_6 : (decide ((l0.length : Int) > 500)) = true := (decide_eq_true c_5)
    refine WL.off ?_ ?_; exact Wanted.guard (dj := 12) (by rfl) (evb (by rfl) h_6) (by rfl)
    refine WL.off ?_ ?_; exact Wanted.guard (dj := 12) (by rfl) (evb (by rfl) h_6) (by rfl)
    refine WL.off ?_ ?_; exact Wanted.guard (dj := 12) (by rfl) (evb (by rfl) h_6) (by rfl)
    refine WL.val Wanted.none (Runs.pick_t (evb rfl h_6) rfl) ?_
    refine WL.nil ?_
    refine QW.then_n ?_
    refine CW.sub [(0, .slice A0 n0 c0), (1, .slice A1 n1 c1), (4, .bool false), (16, .bool true)] ⟨rfl, rfl, rfl, rfl, trivial⟩ ?_
    refine CW.ct rfl rfl ?_
    refine CW.seq ?_
    refine CW.region ?_
    refine WL.val Wanted.none (Runs.assign rfl) ?_
    refine WL.nil ?_
    refine QW.then_n ?_
    refine CW.ret ?_
    refine QW.then_r ?_
    exact QW.ret1 rfl rfl ⟨rfl, st_3.ext⟩
  · have h_6 : (decide ((l0.length : Int) > 500)) = false := (decide_eq_false c_5)
    refine WL.on ?_ ?_; exact Wanted.guard (dj := 12) (by rfl) (evb (by rfl) h_6) (by rfl)
    refine WL.val Wanted.none (Runs.move rfl) ?_
    refine WL.on ?_ ?_; exact Wanted.guard (dj := 12) (by rfl) (evb (by rfl) h_6) (by rfl)
    refine WL.val Wanted.none (Runs.len_sl Tryd.underlying22 rfl (by rw [hn1])) ?_
    refine WL.on ?_ ?_; exact Wanted.guard (dj := 12) (by rfl) (evb (by rfl) h_6) (by rfl)
    refine WL.val Wanted.none (Runs.gtr rfl rfl rfl) ?_
    refine WL.val Wanted.none (Runs.pick_f (evb rfl h_6) rfl) ?_
    refine WL.nil ?_
    refine QW.then_n ?_
    refine CW.sub [(0, .slice A0 n0 c0), (1, .slice A1 n1 c1), (4, .bool false), (16, .bool (decide ((l1.length : Int) > 2000)))] ⟨rfl, rfl, rfl, rfl, trivial⟩ ?_
    rcases H with ⟨c_7, H⟩ | ⟨c_7, H⟩
    · have h_8 : (decide ((l1.length : Int) > 2000)) = true := (decide_eq_true c_7)
      refine CW.ct rfl h_8 ?_
      refine CW.seq ?_
      refine CW.region ?_
      refine WL.val Wanted.none (Runs.assign rfl) ?_
      refine WL.nil ?_
      refine QW.then_n ?_
      refine CW.ret ?_
      refine QW.then_r ?_
      exact QW.ret1 rfl rfl ⟨rfl, st_3.ext⟩
    · have h_8 : (decide ((l1.length : Int) > 2000)) = false := (decide_eq_false c_7)
      refine CW.cf rfl h_8 ?_
      refine CW.skip ?_
      refine QW.then_n ?_
      refine CW.seq ?_
      refine CW.region ?_
      refine WL.val Wanted.none (Runs.move rfl) ?_
      refine WL.val Wanted.none (Runs.move rfl) ?_
      obtain ⟨r_13, hr_9, H⟩ := H
      refine WL.call Wanted.none ent8 rfl (keys_Mac.calls w_2 l0 l1 A0 n0 c0 A1 n1 c1 (hG0.ext st_3) (hs0.ext st_3) (hn0) (hc0) (hs1.ext st_3) (hn1) (hc1) r_13 hr_9) ?_
      rintro _ w_10 ⟨hl_14, rfl, sc_12⟩
      have st_11 : St w w_10 [] := st_3.call sc_12
      refine ⟨_, rfl, ?_⟩
      refine WL.val Wanted.none (Runs.move rfl) ?_
      refine WL.val Wanted.none (Runs.move rfl) ?_
      obtain ⟨r_19, hr_15, H⟩ := H
      refine WL.call Wanted.none ent9 rfl (reliquaryref03_Mac.calls w_10 l0 l1 A0 n0 c0 A1 n1 c1 (hs0.ext st_11) (hn0) (hc0) (hs1.ext st_11) (hn1) (hc1) r_19 hr_15) ?_
      rintro _ w_16 ⟨hl_20, rfl, sc_18⟩
      have st_17 : St w w_16 [] := st_11.call sc_18
      refine ⟨_, rfl, ?_⟩
      refine WL.val Wanted.none (Runs.eql_arr arr25 eqg25 rfl rfl hl_14 hl_20 rfl) ?_
      refine WL.val Wanted.none (Runs.assign rfl) ?_
      refine WL.nil ?_
      refine QW.then_n ?_
      refine CW.sub [(4, .bool (r_13 == r_19))] ⟨rfl, trivial⟩ ?_
      refine CW.ret ?_
      have hz : (r_13 == r_19) = true := (beq_iff_eq.mpr H)
      exact QW.ret1 rfl (evb rfl hz) ⟨rfl, st_17.ext⟩

/-! ### reliquaryref03_Derive: function 11 -/
def reliquaryref03_Derive.rel (l0 : List Int) (a1 : ByteArray) (r0 : List Int) (r1 : Int) : Prop := (((l0.length : Int) ≠ 32 ∧ (∃ m_7 : List Int, m_7 = List.replicate 32 (0 : Int) ∧ r0 = m_7 ∧ r1 = 1)) ∨ (¬ ((l0.length : Int) ≠ 32) ∧ ((a1.toList = (⟨#[]⟩ : ByteArray).toList ∧ (∃ m_14 : List Int, m_14 = List.replicate 32 (0 : Int) ∧ r0 = m_14 ∧ r1 = 1)) ∨ (¬ (a1.toList = (⟨#[]⟩ : ByteArray).toList) ∧ (((a1.size : Int) > 64 ∧ (∃ m_21 : List Int, m_21 = List.replicate 32 (0 : Int) ∧ r0 = m_21 ∧ r1 = 1)) ∨ (¬ ((a1.size : Int) > 64) ∧ (∃ m_39 : List Int, m_39 = (bl a1) ++ [1] ∧ (m_39.length ≤ 1099511627776 ∧ (∃ (r_58 : List Int), reliquaryref03_Mac.rel l0 m_39 r_58 ∧ r0 = r_58 ∧ r1 = 0)))))))))
set_option maxHeartbeats 4000000 in
set_option maxRecDepth 100000 in
theorem reliquaryref03_Derive.calls (w : World) (l0 : List Int) (a1 : ByteArray) (A0 : Option Addr) (n0 : Nat) (c0 : Nat)  (hs0 : Src w A0 (iv .u8 l0)) (hn0 : n0 = l0.length) (hc0 : n0 ≤ c0) (r0 : List Int) (r1 : Int) (H : reliquaryref03_Derive.rel l0 a1 r0 r1) :
    Calls Tryd.prog 11 #[.slice A0 n0 c0, .string a1] w fun e w' => r0.length = 32 ∧ e = .returned (.tuple #[.agg (iv .u8 r0).toArray, .int .i64 r1]) ∧ St w w' [] := by
  refine CW.enter Tryd.func11 rfl (n := 27) rfl [.slice A0 n0 c0, .string a1] (Nat.le_of_ble_eq_true rfl) ?_
  refine CW.sub [(0, .slice A0 n0 c0), (1, .string a1)] ⟨rfl, rfl, trivial⟩ ?_
  have st0 : St w w [] := St.refl w
  refine CW.seq ?_
  refine CW.region ?_
  refine WL.alloc st0 arr25.zero ?_
  intro B_1 w_2 st_3
  replace st_3 : St w w_2 [.cells B_1 (iv .u8 (List.replicate 32 (0 : Int))) 25] := st_3
  refine WL.val Wanted.none (Runs.assign rfl) ?_
  refine WL.nil ?_
  refine QW.then_n ?_
  refine CW.seq ?_
  refine CW.seq ?_
  refine CW.region ?_
  refine WL.val Wanted.none (Runs.move rfl) ?_
  refine WL.val Wanted.none (Runs.len_sl Tryd.underlying22 rfl (by rw [hn0])) ?_
  refine WL.val Wanted.none (Runs.neq rfl rfl rfl) ?_
  refine WL.val Wanted.none (Runs.move rfl) ?_
  rcases H with ⟨c_5, H⟩ | ⟨c_5, H⟩
  · have h_6 : ((l0.length : Int) != 32) = true := (bne_iff_ne.mpr c_5)
    refine WL.off ?_ ?_; exact Wanted.guard (dj := 10) (by rfl) (evb (by rfl) h_6) (by rfl)
    refine WL.off ?_ ?_; exact Wanted.guard (dj := 10) (by rfl) (evb (by rfl) h_6) (by rfl)
    refine WL.val Wanted.none (Runs.pick_t (evb rfl h_6) rfl) ?_
    refine WL.val Wanted.none (Runs.move rfl) ?_
    refine WL.off ?_ ?_; exact Wanted.guard (dj := 14) (by rfl) (by rfl) (by rfl)
    refine WL.off ?_ ?_; exact Wanted.guard (dj := 14) (by rfl) (by rfl) (by rfl)
    refine WL.off ?_ ?_; exact Wanted.guard (dj := 14) (by rfl) (by rfl) (by rfl)
    refine WL.val Wanted.none (Runs.pick_t rfl rfl) ?_
    refine WL.nil ?_
    refine QW.then_n ?_
    refine CW.sub [(0, .slice A0 n0 c0), (1, .string a1), (4, .pointer (some ⟨B_1, 0, none⟩)), (5, .int .i64 0), (18, .bool true)] ⟨rfl, rfl, rfl, rfl, rfl, trivial⟩ ?_
    refine CW.ct rfl rfl ?_
    refine CW.seq ?_
    refine CW.region ?_
    obtain ⟨m_7, e_8, H⟩ := H
    refine WL.val Wanted.none (Runs.build_arr (xs := m_7) arr25 rfl rfl (by rw [e_8]; rfl)) ?_
    refine WL.store_arr (i := 0) st_3 rfl arr25 rfl (by rw [iv_length]; exact (List.length_replicate ..)) (by rw [e_8]; rfl) rfl ?_
    intro w_9 st_10
    replace st_10 : St w w_9 [.cells B_1 (iv .u8 m_7) 25] := st_10
    refine WL.val Wanted.none (Runs.assign rfl) ?_
    refine WL.nil ?_
    refine QW.then_n ?_
    refine CW.ret ?_
    refine QW.then_r ?_
    obtain ⟨rfl, rfl⟩ := H
    exact QW.retc1 rfl arr25 rfl (st_10.blk (i := 0) rfl) (by rw [e_8]; rfl) rfl ⟨(by rw [e_8]; rfl), rfl, st_10.pick [] (by decide)⟩
  · have h_6 : ((l0.length : Int) != 32) = false := (bne_eq_false_iff_eq.mpr (Decidable.not_not.mp c_5))
    refine WL.on ?_ ?_; exact Wanted.guard (dj := 10) (by rfl) (evb (by rfl) h_6) (by rfl)
    refine WL.val Wanted.none (Runs.move rfl) ?_
    refine WL.on ?_ ?_; exact Wanted.guard (dj := 10) (by rfl) (evb (by rfl) h_6) (by rfl)
    refine WL.val Wanted.none (Runs.eqs rfl rfl rfl) ?_
    refine WL.val Wanted.none (Runs.pick_f (evb rfl h_6) rfl) ?_
    refine WL.val Wanted.none (Runs.move rfl) ?_
    rcases H with ⟨c_12, H⟩ | ⟨c_12, H⟩
    · have h_13 : (a1.toList == (⟨#[]⟩ : ByteArray).toList) = true := (beq_iff_eq.mpr c_12)
      refine WL.off ?_ ?_; exact Wanted.guard (dj := 14) (by rfl) (evb (by rfl) h_13) (by rfl)
      refine WL.off ?_ ?_; exact Wanted.guard (dj := 14) (by rfl) (evb (by rfl) h_13) (by rfl)
      refine WL.off ?_ ?_; exact Wanted.guard (dj := 14) (by rfl) (evb (by rfl) h_13) (by rfl)
      refine WL.val Wanted.none (Runs.pick_t (evb rfl h_13) rfl) ?_
      refine WL.nil ?_
      refine QW.then_n ?_
      refine CW.sub [(0, .slice A0 n0 c0), (1, .string a1), (4, .pointer (some ⟨B_1, 0, none⟩)), (5, .int .i64 0), (18, .bool true)] ⟨rfl, rfl, rfl, rfl, rfl, trivial⟩ ?_
      refine CW.ct rfl rfl ?_
      refine CW.seq ?_
      refine CW.region ?_
      obtain ⟨m_14, e_15, H⟩ := H
      refine WL.val Wanted.none (Runs.build_arr (xs := m_14) arr25 rfl rfl (by rw [e_15]; rfl)) ?_
      refine WL.store_arr (i := 0) st_3 rfl arr25 rfl (by rw [iv_length]; exact (List.length_replicate ..)) (by rw [e_15]; rfl) rfl ?_
      intro w_16 st_17
      replace st_17 : St w w_16 [.cells B_1 (iv .u8 m_14) 25] := st_17
      refine WL.val Wanted.none (Runs.assign rfl) ?_
      refine WL.nil ?_
      refine QW.then_n ?_
      refine CW.ret ?_
      refine QW.then_r ?_
      obtain ⟨rfl, rfl⟩ := H
      exact QW.retc1 rfl arr25 rfl (st_17.blk (i := 0) rfl) (by rw [e_15]; rfl) rfl ⟨(by rw [e_15]; rfl), rfl, st_17.pick [] (by decide)⟩
    · have h_13 : (a1.toList == (⟨#[]⟩ : ByteArray).toList) = false := (beq_eq_false_iff_ne.mpr c_12)
      refine WL.on ?_ ?_; exact Wanted.guard (dj := 14) (by rfl) (evb (by rfl) h_13) (by rfl)
      refine WL.val Wanted.none (Runs.move rfl) ?_
      refine WL.on ?_ ?_; exact Wanted.guard (dj := 14) (by rfl) (evb (by rfl) h_13) (by rfl)
      refine WL.val Wanted.none (Runs.len_str Tryd.underlying9 rfl) ?_
      refine WL.on ?_ ?_; exact Wanted.guard (dj := 14) (by rfl) (evb (by rfl) h_13) (by rfl)
      refine WL.val Wanted.none (Runs.gtr rfl rfl rfl) ?_
      refine WL.val Wanted.none (Runs.pick_f (evb rfl h_13) rfl) ?_
      refine WL.nil ?_
      refine QW.then_n ?_
      refine CW.sub [(0, .slice A0 n0 c0), (1, .string a1), (4, .pointer (some ⟨B_1, 0, none⟩)), (5, .int .i64 0), (18, .bool (decide ((a1.size : Int) > 64)))] ⟨rfl, rfl, rfl, rfl, rfl, trivial⟩ ?_
      rcases H with ⟨c_19, H⟩ | ⟨c_19, H⟩
      · have h_20 : (decide ((a1.size : Int) > 64)) = true := (decide_eq_true c_19)
        refine CW.ct rfl h_20 ?_
        refine CW.seq ?_
        refine CW.region ?_
        obtain ⟨m_21, e_22, H⟩ := H
        refine WL.val Wanted.none (Runs.build_arr (xs := m_21) arr25 rfl rfl (by rw [e_22]; rfl)) ?_
        refine WL.store_arr (i := 0) st_3 rfl arr25 rfl (by rw [iv_length]; exact (List.length_replicate ..)) (by rw [e_22]; rfl) rfl ?_
        intro w_23 st_24
        replace st_24 : St w w_23 [.cells B_1 (iv .u8 m_21) 25] := st_24
        refine WL.val Wanted.none (Runs.assign rfl) ?_
        refine WL.nil ?_
        refine QW.then_n ?_
        refine CW.ret ?_
        refine QW.then_r ?_
        obtain ⟨rfl, rfl⟩ := H
        exact QW.retc1 rfl arr25 rfl (st_24.blk (i := 0) rfl) (by rw [e_22]; rfl) rfl ⟨(by rw [e_22]; rfl), rfl, st_24.pick [] (by decide)⟩
      · have h_20 : (decide ((a1.size : Int) > 64)) = false := (decide_eq_false c_19)
        refine CW.cf rfl h_20 ?_
        refine CW.skip ?_
        refine QW.then_n ?_
        refine CW.seq ?_
        refine CW.region ?_
        refine WL.val Wanted.none (Runs.move rfl) ?_
        refine WL.bytes st_3 Tryd.underlying9 Tryd.underlying22 Tryd.underlying5 rfl ?_
        intro B_26 c_27 cs_28 w_29 h_30 h_31 h_32 st_33
        replace st_33 : St w w_29 [.obj B_26 (.cells cs_28.toArray 5 (c_27, c_27 + 1)), .cells B_1 (iv .u8 (List.replicate 32 (0 : Int))) 25] := st_33
        refine WL.val Wanted.none (Runs.assign rfl) ?_
        refine WL.nil ?_
        refine QW.then_n ?_
        refine CW.seq ?_
        refine CW.region ?_
        refine WL.val Wanted.none (Runs.move rfl) ?_
        refine WL.val Wanted.none (Runs.move rfl) ?_
        refine WL.buildSl [.int .u8 1] st_33 Tryd.underlying22 elem5 rfl rfl (by decide) (by decide) (by simp [Value.cells]) ?_
        intro B_35 w_36 st_37
        replace st_37 : St w w_36 [.sl (some ⟨B_35, 0, none⟩) 1 1 (iv .u8 [1]) 5 1, .obj B_26 (.cells cs_28.toArray 5 (c_27, c_27 + 1)), .cells B_1 (iv .u8 (List.replicate 32 (0 : Int))) 25] := st_37
        obtain ⟨m_39, e_40, H⟩ := H
        obtain ⟨z_41, H⟩ := H
        obtain ⟨n_42, hn_43⟩ : ∃ n_ : Nat, n_ = m_39.length := ⟨_, rfl⟩
        refine WL.append_obj (i := 1) (N := n_42) st_37 rfl Tryd.underlying22 elem5 rfl rfl (st_37.src_sl (k := 0) rfl) (by rw [iv_length]; exact (Eq.refl _).symm) (one_iv .u8 _) (by decide) (by rw [hn_43, e_40, List.length_append]; exact congr (congrArg HAdd.hAdd ((bl_length _))) (rfl)) (by rw [hn_43]; exact z_41) h_32 h_30 h_31 (.inr rfl) (List.cons_ne_nil _ _) ?_
        intro B_44 c_45 cs_46 fr_47 w_48 st_49 h_50 h_51 h_52 h_53
        have h_50' : cs_46.take n_42 = iv .u8 m_39 := by rw [h_50, e_40, ← iv_append]
        replace st_49 : St w w_48 [.sl (some ⟨B_35, 0, none⟩) 1 1 (iv .u8 [1]) 5 1, .obj B_44 (.cells cs_46.toArray 5 fr_47), .cells B_1 (iv .u8 (List.replicate 32 (0 : Int))) 25] := st_49
        obtain ⟨r_58, hr_54, H⟩ := H
        refine WL.call Wanted.none ent9 rfl (reliquaryref03_Mac.calls w_48 l0 m_39 A0 n0 c0 (some ⟨B_44, 0, none⟩) n_42 c_45 (hs0.ext st_49) (hn0) (hc0) (st_49.src_obj (i := 1) rfl h_50') (hn_43) (h_51) r_58 hr_54) ?_
        rintro _ w_55 ⟨hl_59, rfl, sc_57⟩
        have st_56 : St w w_55 [.sl (some ⟨B_35, 0, none⟩) 1 1 (iv .u8 [1]) 5 1, .obj B_44 (.cells cs_46.toArray 5 fr_47), .cells B_1 (iv .u8 (List.replicate 32 (0 : Int))) 25] := st_49.call sc_57
        refine ⟨_, rfl, ?_⟩
        refine WL.store_arr (i := 2) st_56 rfl arr25 rfl (by rw [iv_length]; exact (List.length_replicate ..)) hl_59 rfl ?_
        intro w_60 st_61
        replace st_61 : St w w_60 [.sl (some ⟨B_35, 0, none⟩) 1 1 (iv .u8 [1]) 5 1, .obj B_44 (.cells cs_46.toArray 5 fr_47), .cells B_1 (iv .u8 r_58) 25] := st_61
        refine WL.val Wanted.none (Runs.assign rfl) ?_
        refine WL.nil ?_
        refine QW.then_n ?_
        refine CW.sub [(4, .pointer (some ⟨B_1, 0, none⟩)), (5, .int .i64 0)] ⟨rfl, rfl, trivial⟩ ?_
        refine CW.ret ?_
        obtain ⟨rfl, rfl⟩ := H
        exact QW.retc1 rfl arr25 rfl (st_61.blk (i := 2) rfl) hl_59 rfl ⟨hl_59, rfl, st_61.pick [] (by decide)⟩

/-! ### reliquarylaw03_KeysDerives: function 4 -/
def reliquarylaw03_KeysDerives.rel (l0 : List Int) (a1 : ByteArray)  : Prop := (reliquarylaw03_awake.rel  ∧ (((l0.length : Int) > 500 ∧ True) ∨ (¬ ((l0.length : Int) > 500) ∧ (((a1.size : Int) > 500 ∧ True) ∨ (¬ ((a1.size : Int) > 500) ∧ (∃ (r_13 : List Int) (r_15 : Int), keys_Derive.rel l0 a1 r_13 r_15 ∧ (∃ (r_27 : List Int) (r_29 : Int), reliquaryref03_Derive.rel l0 a1 r_27 r_29 ∧ (∃ (r_41 : List Int) (r_43 : List Int) (r_45 : List Int) (r_47 : Int), keys_Of.rel l0 r_41 r_43 r_45 r_47 ∧ (∃ (r_58 : List Int) (r_60 : Int), reliquaryref03_Derive.rel l0 (⟨#[104, 111, 109, 101]⟩ : ByteArray) r_58 r_60 ∧ (∃ (r_72 : List Int) (r_74 : Int), reliquaryref03_Derive.rel l0 (⟨#[106, 111, 117, 114, 110, 97, 108]⟩ : ByteArray) r_72 r_74 ∧ (∃ (r_86 : List Int) (r_88 : Int), reliquaryref03_Derive.rel l0 (⟨#[99, 104, 101, 99, 107]⟩ : ByteArray) r_86 r_88 ∧ (r_13 = r_27 ∧ (r_15 = r_29 ∧ (r_47 = r_60 ∧ (r_41 = r_58 ∧ (r_43 = r_72 ∧ r_45 = r_86))))))))))))))))
set_option maxHeartbeats 4000000 in
set_option maxRecDepth 100000 in
theorem reliquarylaw03_KeysDerives.calls (w : World) (l0 : List Int) (a1 : ByteArray) (A0 : Option Addr) (n0 : Nat) (c0 : Nat)  (hG0 : Src w (some ⟨0, 0, none⟩) (iv .u32 tab0)) (hs0 : Src w A0 (iv .u8 l0)) (hn0 : n0 = l0.length) (hc0 : n0 ≤ c0)  (H : reliquarylaw03_KeysDerives.rel l0 a1 ) :
    Calls Tryd.prog 4 #[.slice A0 n0 c0, .string a1] w fun e w' => e = .returned (.bool true) ∧ Below w.heap.size w w' := by
  refine CW.enter Tryd.func4 rfl (n := 92) rfl [.slice A0 n0 c0, .string a1] (Nat.le_of_ble_eq_true rfl) ?_
  refine CW.sub [(0, .slice A0 n0 c0), (1, .string a1)] ⟨rfl, rfl, trivial⟩ ?_
  have st0 : St w w [] := St.refl w
  refine CW.seq ?_
  refine CW.region ?_
  refine WL.val Wanted.none (Runs.assign rfl) ?_
  refine WL.nil ?_
  refine QW.then_n ?_
  refine CW.seq ?_
  refine CW.region ?_
  obtain ⟨hr_1, H⟩ := H
  refine WL.call Wanted.none ent7 rfl (reliquarylaw03_awake.calls w (hG0.ext st0) hr_1) ?_
  rintro _ w_2 ⟨rfl, sc_4⟩
  have st_3 : St w w_2 [] := st0.below sc_4
  refine ⟨_, rfl, ?_⟩
  refine WL.val Wanted.none (Runs.assign rfl) ?_
  refine WL.nil ?_
  refine QW.then_n ?_
  refine CW.seq ?_
  refine CW.seq ?_
  refine CW.region ?_
  refine WL.val Wanted.none (Runs.move rfl) ?_
  refine WL.val Wanted.none (Runs.not rfl rfl) ?_
  refine WL.nil ?_
  refine QW.then_n ?_
  refine CW.cf rfl rfl ?_
  refine CW.skip ?_
  refine QW.then_n ?_
  refine CW.seq ?_
  refine CW.seq ?_
  refine CW.region ?_
  refine WL.val Wanted.none (Runs.move rfl) ?_
  refine WL.val Wanted.none (Runs.len_sl Tryd.underlying22 rfl (by rw [hn0])) ?_
  refine WL.val Wanted.none (Runs.gtr rfl rfl rfl) ?_
  refine WL.val Wanted.none (Runs.move rfl) ?_
  rcases H with ⟨c_5, H⟩ | ⟨c_5, H⟩
  · have h_6 : (decide ((l0.length : Int) > 500)) = true := (decide_eq_true c_5)
    refine WL.off ?_ ?_; exact Wanted.guard (dj := 24) (by rfl) (evb (by rfl) h_6) (by rfl)
    refine WL.off ?_ ?_; exact Wanted.guard (dj := 24) (by rfl) (evb (by rfl) h_6) (by rfl)
    refine WL.off ?_ ?_; exact Wanted.guard (dj := 24) (by rfl) (evb (by rfl) h_6) (by rfl)
    refine WL.val Wanted.none (Runs.pick_t (evb rfl h_6) rfl) ?_
    refine WL.nil ?_
    refine QW.then_n ?_
    refine CW.sub [(0, .slice A0 n0 c0), (1, .string a1), (4, .bool false), (28, .bool true)] ⟨rfl, rfl, rfl, rfl, trivial⟩ ?_
    refine CW.ct rfl rfl ?_
    refine CW.seq ?_
    refine CW.region ?_
    refine WL.val Wanted.none (Runs.assign rfl) ?_
    refine WL.nil ?_
    refine QW.then_n ?_
    refine CW.ret ?_
    refine QW.then_r ?_
    exact QW.ret1 rfl rfl ⟨rfl, st_3.ext⟩
  · have h_6 : (decide ((l0.length : Int) > 500)) = false := (decide_eq_false c_5)
    refine WL.on ?_ ?_; exact Wanted.guard (dj := 24) (by rfl) (evb (by rfl) h_6) (by rfl)
    refine WL.val Wanted.none (Runs.move rfl) ?_
    refine WL.on ?_ ?_; exact Wanted.guard (dj := 24) (by rfl) (evb (by rfl) h_6) (by rfl)
    refine WL.val Wanted.none (Runs.len_str Tryd.underlying9 rfl) ?_
    refine WL.on ?_ ?_; exact Wanted.guard (dj := 24) (by rfl) (evb (by rfl) h_6) (by rfl)
    refine WL.val Wanted.none (Runs.gtr rfl rfl rfl) ?_
    refine WL.val Wanted.none (Runs.pick_f (evb rfl h_6) rfl) ?_
    refine WL.nil ?_
    refine QW.then_n ?_
    refine CW.sub [(0, .slice A0 n0 c0), (1, .string a1), (4, .bool false), (28, .bool (decide ((a1.size : Int) > 500)))] ⟨rfl, rfl, rfl, rfl, trivial⟩ ?_
    rcases H with ⟨c_7, H⟩ | ⟨c_7, H⟩
    · have h_8 : (decide ((a1.size : Int) > 500)) = true := (decide_eq_true c_7)
      refine CW.ct rfl h_8 ?_
      refine CW.seq ?_
      refine CW.region ?_
      refine WL.val Wanted.none (Runs.assign rfl) ?_
      refine WL.nil ?_
      refine QW.then_n ?_
      refine CW.ret ?_
      refine QW.then_r ?_
      exact QW.ret1 rfl rfl ⟨rfl, st_3.ext⟩
    · have h_8 : (decide ((a1.size : Int) > 500)) = false := (decide_eq_false c_7)
      refine CW.cf rfl h_8 ?_
      refine CW.skip ?_
      refine QW.then_n ?_
      refine CW.seq ?_
      refine CW.region ?_
      refine WL.val Wanted.none (Runs.move rfl) ?_
      refine WL.val Wanted.none (Runs.move rfl) ?_
      obtain ⟨r_13, r_15, hr_9, H⟩ := H
      refine WL.call Wanted.none ent10 rfl (keys_Derive.calls w_2 l0 a1 A0 n0 c0 (hG0.ext st_3) (hs0.ext st_3) (hn0) (hc0) r_13 r_15 hr_9) ?_
      rintro _ w_10 ⟨hl_14, rfl, sc_12⟩
      have st_11 : St w w_10 [] := st_3.call sc_12
      refine ⟨_, rfl, ?_⟩
      refine WL.val Wanted.none (Runs.move rfl) ?_
      refine WL.val Wanted.none (Runs.extract rfl rfl) ?_
      refine WL.val Wanted.none (Runs.extract rfl rfl) ?_
      refine WL.alloc st_11 arr25.zero ?_
      intro B_16 w_17 st_18
      replace st_18 : St w w_17 [.cells B_16 (iv .u8 (List.replicate 32 (0 : Int))) 25] := st_18
      refine WL.store_arr (i := 0) st_18 rfl arr25 rfl (by rw [iv_length]; exact (List.length_replicate ..)) hl_14 rfl ?_
      intro w_20 st_21
      replace st_21 : St w w_20 [.cells B_16 (iv .u8 r_13) 25] := st_21
      refine WL.val Wanted.none (Runs.assign rfl) ?_
      refine WL.nil ?_
      refine QW.then_n ?_
      refine CW.sub [(0, .slice A0 n0 c0), (1, .string a1), (4, .bool false), (6, .pointer (some ⟨B_16, 0, none⟩)), (7, .int .i64 r_15)] ⟨rfl, rfl, rfl, rfl, rfl, trivial⟩ ?_
      refine CW.seq ?_
      refine CW.region ?_
      refine WL.val Wanted.none (Runs.move rfl) ?_
      refine WL.val Wanted.none (Runs.move rfl) ?_
      obtain ⟨r_27, r_29, hr_23, H⟩ := H
      refine WL.call Wanted.none ent11 rfl (reliquaryref03_Derive.calls w_20 l0 a1 A0 n0 c0 (hs0.ext st_21) (hn0) (hc0) r_27 r_29 hr_23) ?_
      rintro _ w_24 ⟨hl_28, rfl, sc_26⟩
      have st_25 : St w w_24 [.cells B_16 (iv .u8 r_13) 25] := st_21.call sc_26
      refine ⟨_, rfl, ?_⟩
      refine WL.val Wanted.none (Runs.move rfl) ?_
      refine WL.val Wanted.none (Runs.extract rfl rfl) ?_
      refine WL.val Wanted.none (Runs.extract rfl rfl) ?_
      refine WL.alloc st_25 arr25.zero ?_
      intro B_30 w_31 st_32
      replace st_32 : St w w_31 [.cells B_30 (iv .u8 (List.replicate 32 (0 : Int))) 25, .cells B_16 (iv .u8 r_13) 25] := st_32
      refine WL.store_arr (i := 0) st_32 rfl arr25 rfl (by rw [iv_length]; exact (List.length_replicate ..)) hl_28 rfl ?_
      intro w_34 st_35
      replace st_35 : St w w_34 [.cells B_30 (iv .u8 r_27) 25, .cells B_16 (iv .u8 r_13) 25] := st_35
      refine WL.val Wanted.none (Runs.assign rfl) ?_
      refine WL.nil ?_
      refine QW.then_n ?_
      refine CW.sub [(0, .slice A0 n0 c0), (4, .bool false), (6, .pointer (some ⟨B_16, 0, none⟩)), (7, .int .i64 r_15), (8, .pointer (some ⟨B_30, 0, none⟩)), (9, .int .i64 r_29)] ⟨rfl, rfl, rfl, rfl, rfl, rfl, trivial⟩ ?_
      refine CW.seq ?_
      refine CW.region ?_
      refine WL.val Wanted.none (Runs.move rfl) ?_
      obtain ⟨r_41, r_43, r_45, r_47, hr_37, H⟩ := H
      refine WL.call Wanted.none ent12 rfl (keys_Of.calls w_34 l0 A0 n0 c0 (hG0.ext st_35) (hs0.ext st_35) (hn0) (hc0) r_41 r_43 r_45 r_47 hr_37) ?_
      rintro _ w_38 ⟨hl_42, hl_44, hl_46, rfl, sc_40⟩
      have st_39 : St w w_38 [.cells B_30 (iv .u8 r_27) 25, .cells B_16 (iv .u8 r_13) 25] := st_35.call sc_40
      refine ⟨_, rfl, ?_⟩
      refine WL.val Wanted.none (Runs.move rfl) ?_
      refine WL.val Wanted.none (Runs.extract rfl rfl) ?_
      refine WL.val Wanted.none (Runs.extract rfl rfl) ?_
      refine WL.alloc st_39 zero32 ?_
      intro B_48 w_49 st_50
      replace st_50 : St w w_49 [.cells B_48 (iv .u8 (List.replicate 32 (0 : Int)) ++ (iv .u8 (List.replicate 32 (0 : Int)) ++ iv .u8 (List.replicate 32 (0 : Int)))) 32, .cells B_30 (iv .u8 r_27) 25, .cells B_16 (iv .u8 r_13) 25] := st_50
      refine WL.store_mid (i := 0) (pre := (([] : List Value))) (mid := (iv .u8 (List.replicate 32 (0 : Int)) ++ (iv .u8 (List.replicate 32 (0 : Int)) ++ iv .u8 (List.replicate 32 (0 : Int))))) (post := (([] : List Value))) (ms := (iv .u8 r_41 ++ (iv .u8 r_43 ++ iv .u8 r_45))) st_50 rfl row32 (by first | rfl | simp only [List.append_assoc, List.append_nil, List.nil_append, List.cons_append]) (by first | rfl | simp only [List.length_append, List.length_cons, List.length_nil, iv_length]) rfl rfl (by first | rfl | simp only [List.length_append, List.length_cons, List.length_nil, iv_length, hl_42, hl_44, hl_46]) (by first | rfl | simp only [List.length_append, List.length_cons, List.length_nil, iv_length, List.length_replicate]) (by intro u hu; simp only [List.mem_append, List.mem_singleton] at hu; rcases hu with hu | hu | hu <;> first | exact one_iv _ _ u hu | (subst hu; rfl)) ?_
      intro w_52 st_53
      replace st_53 : St w w_52 [.cells B_48 (iv .u8 r_41 ++ (iv .u8 r_43 ++ iv .u8 r_45)) 32, .cells B_30 (iv .u8 r_27) 25, .cells B_16 (iv .u8 r_13) 25] := by have e_ : (iv .u8 r_41 ++ (iv .u8 r_43 ++ iv .u8 r_45)) = (([] : List Value)) ++ ((iv .u8 r_41 ++ (iv .u8 r_43 ++ iv .u8 r_45)) ++ (([] : List Value))) := (by first | rfl | simp only [List.append_assoc, List.append_nil, List.nil_append, List.cons_append]); have h_ := st_53; rw [← e_] at h_; exact h_
      refine WL.val Wanted.none (Runs.assign rfl) ?_
      refine WL.nil ?_
      refine QW.then_n ?_
      refine CW.seq ?_
      refine CW.region ?_
      refine WL.val Wanted.none (Runs.move rfl) ?_
      obtain ⟨r_58, r_60, hr_54, H⟩ := H
      refine WL.call Wanted.none ent11 rfl (reliquaryref03_Derive.calls w_52 l0 (⟨#[104, 111, 109, 101]⟩ : ByteArray) A0 n0 c0 (hs0.ext st_53) (hn0) (hc0) r_58 r_60 hr_54) ?_
      rintro _ w_55 ⟨hl_59, rfl, sc_57⟩
      have st_56 : St w w_55 [.cells B_48 (iv .u8 r_41 ++ (iv .u8 r_43 ++ iv .u8 r_45)) 32, .cells B_30 (iv .u8 r_27) 25, .cells B_16 (iv .u8 r_13) 25] := st_53.call sc_57
      refine ⟨_, rfl, ?_⟩
      refine WL.val Wanted.none (Runs.move rfl) ?_
      refine WL.val Wanted.none (Runs.extract rfl rfl) ?_
      refine WL.val Wanted.none (Runs.extract rfl rfl) ?_
      refine WL.alloc st_56 arr25.zero ?_
      intro B_61 w_62 st_63
      replace st_63 : St w w_62 [.cells B_61 (iv .u8 (List.replicate 32 (0 : Int))) 25, .cells B_48 (iv .u8 r_41 ++ (iv .u8 r_43 ++ iv .u8 r_45)) 32, .cells B_30 (iv .u8 r_27) 25, .cells B_16 (iv .u8 r_13) 25] := st_63
      refine WL.store_arr (i := 0) st_63 rfl arr25 rfl (by rw [iv_length]; exact (List.length_replicate ..)) hl_59 rfl ?_
      intro w_65 st_66
      replace st_66 : St w w_65 [.cells B_61 (iv .u8 r_58) 25, .cells B_48 (iv .u8 r_41 ++ (iv .u8 r_43 ++ iv .u8 r_45)) 32, .cells B_30 (iv .u8 r_27) 25, .cells B_16 (iv .u8 r_13) 25] := st_66
      refine WL.val Wanted.none (Runs.assign rfl) ?_
      refine WL.nil ?_
      refine QW.then_n ?_
      refine CW.sub [(0, .slice A0 n0 c0), (4, .bool false), (6, .pointer (some ⟨B_16, 0, none⟩)), (7, .int .i64 r_15), (8, .pointer (some ⟨B_30, 0, none⟩)), (9, .int .i64 r_29), (10, .pointer (some ⟨B_48, 0, none⟩)), (11, .int .i64 r_47), (12, .pointer (some ⟨B_61, 0, none⟩)), (13, .int .i64 r_60)] ⟨rfl, rfl, rfl, rfl, rfl, rfl, rfl, rfl, rfl, rfl, trivial⟩ ?_
      refine CW.seq ?_
      refine CW.region ?_
      refine WL.val Wanted.none (Runs.move rfl) ?_
      obtain ⟨r_72, r_74, hr_68, H⟩ := H
      refine WL.call Wanted.none ent11 rfl (reliquaryref03_Derive.calls w_65 l0 (⟨#[106, 111, 117, 114, 110, 97, 108]⟩ : ByteArray) A0 n0 c0 (hs0.ext st_66) (hn0) (hc0) r_72 r_74 hr_68) ?_
      rintro _ w_69 ⟨hl_73, rfl, sc_71⟩
      have st_70 : St w w_69 [.cells B_61 (iv .u8 r_58) 25, .cells B_48 (iv .u8 r_41 ++ (iv .u8 r_43 ++ iv .u8 r_45)) 32, .cells B_30 (iv .u8 r_27) 25, .cells B_16 (iv .u8 r_13) 25] := st_66.call sc_71
      refine ⟨_, rfl, ?_⟩
      refine WL.val Wanted.none (Runs.move rfl) ?_
      refine WL.val Wanted.none (Runs.extract rfl rfl) ?_
      refine WL.val Wanted.none (Runs.extract rfl rfl) ?_
      refine WL.alloc st_70 arr25.zero ?_
      intro B_75 w_76 st_77
      replace st_77 : St w w_76 [.cells B_75 (iv .u8 (List.replicate 32 (0 : Int))) 25, .cells B_61 (iv .u8 r_58) 25, .cells B_48 (iv .u8 r_41 ++ (iv .u8 r_43 ++ iv .u8 r_45)) 32, .cells B_30 (iv .u8 r_27) 25, .cells B_16 (iv .u8 r_13) 25] := st_77
      refine WL.store_arr (i := 0) st_77 rfl arr25 rfl (by rw [iv_length]; exact (List.length_replicate ..)) hl_73 rfl ?_
      intro w_79 st_80
      replace st_80 : St w w_79 [.cells B_75 (iv .u8 r_72) 25, .cells B_61 (iv .u8 r_58) 25, .cells B_48 (iv .u8 r_41 ++ (iv .u8 r_43 ++ iv .u8 r_45)) 32, .cells B_30 (iv .u8 r_27) 25, .cells B_16 (iv .u8 r_13) 25] := st_80
      refine WL.val Wanted.none (Runs.assign rfl) ?_
      refine WL.nil ?_
      refine QW.then_n ?_
      refine CW.sub [(0, .slice A0 n0 c0), (4, .bool false), (6, .pointer (some ⟨B_16, 0, none⟩)), (7, .int .i64 r_15), (8, .pointer (some ⟨B_30, 0, none⟩)), (9, .int .i64 r_29), (10, .pointer (some ⟨B_48, 0, none⟩)), (11, .int .i64 r_47), (12, .pointer (some ⟨B_61, 0, none⟩)), (13, .int .i64 r_60), (14, .pointer (some ⟨B_75, 0, none⟩))] ⟨rfl, rfl, rfl, rfl, rfl, rfl, rfl, rfl, rfl, rfl, rfl, trivial⟩ ?_
      refine CW.seq ?_
      refine CW.region ?_
      refine WL.val Wanted.none (Runs.move rfl) ?_
      obtain ⟨r_86, r_88, hr_82, H⟩ := H
      refine WL.call Wanted.none ent11 rfl (reliquaryref03_Derive.calls w_79 l0 (⟨#[99, 104, 101, 99, 107]⟩ : ByteArray) A0 n0 c0 (hs0.ext st_80) (hn0) (hc0) r_86 r_88 hr_82) ?_
      rintro _ w_83 ⟨hl_87, rfl, sc_85⟩
      have st_84 : St w w_83 [.cells B_75 (iv .u8 r_72) 25, .cells B_61 (iv .u8 r_58) 25, .cells B_48 (iv .u8 r_41 ++ (iv .u8 r_43 ++ iv .u8 r_45)) 32, .cells B_30 (iv .u8 r_27) 25, .cells B_16 (iv .u8 r_13) 25] := st_80.call sc_85
      refine ⟨_, rfl, ?_⟩
      refine WL.val Wanted.none (Runs.move rfl) ?_
      refine WL.val Wanted.none (Runs.extract rfl rfl) ?_
      refine WL.val Wanted.none (Runs.extract rfl rfl) ?_
      refine WL.alloc st_84 arr25.zero ?_
      intro B_89 w_90 st_91
      replace st_91 : St w w_90 [.cells B_89 (iv .u8 (List.replicate 32 (0 : Int))) 25, .cells B_75 (iv .u8 r_72) 25, .cells B_61 (iv .u8 r_58) 25, .cells B_48 (iv .u8 r_41 ++ (iv .u8 r_43 ++ iv .u8 r_45)) 32, .cells B_30 (iv .u8 r_27) 25, .cells B_16 (iv .u8 r_13) 25] := st_91
      refine WL.store_arr (i := 0) st_91 rfl arr25 rfl (by rw [iv_length]; exact (List.length_replicate ..)) hl_87 rfl ?_
      intro w_93 st_94
      replace st_94 : St w w_93 [.cells B_89 (iv .u8 r_86) 25, .cells B_75 (iv .u8 r_72) 25, .cells B_61 (iv .u8 r_58) 25, .cells B_48 (iv .u8 r_41 ++ (iv .u8 r_43 ++ iv .u8 r_45)) 32, .cells B_30 (iv .u8 r_27) 25, .cells B_16 (iv .u8 r_13) 25] := st_94
      refine WL.val Wanted.none (Runs.assign rfl) ?_
      refine WL.nil ?_
      refine QW.then_n ?_
      refine CW.sub [(4, .bool false), (6, .pointer (some ⟨B_16, 0, none⟩)), (7, .int .i64 r_15), (8, .pointer (some ⟨B_30, 0, none⟩)), (9, .int .i64 r_29), (10, .pointer (some ⟨B_48, 0, none⟩)), (11, .int .i64 r_47), (12, .pointer (some ⟨B_61, 0, none⟩)), (13, .int .i64 r_60), (14, .pointer (some ⟨B_75, 0, none⟩)), (16, .pointer (some ⟨B_89, 0, none⟩))] ⟨rfl, rfl, rfl, rfl, rfl, rfl, rfl, rfl, rfl, rfl, rfl, trivial⟩ ?_
      refine CW.seq ?_
      refine CW.region ?_
      refine WL.val Wanted.none (Runs.load_arr arr25 rfl (st_94.blk (i := 5) rfl) hl_14) ?_
      refine WL.val Wanted.none (Runs.load_arr arr25 rfl (st_94.blk (i := 4) rfl) hl_28) ?_
      refine WL.val Wanted.none (Runs.eql_arr arr25 eqg25 rfl rfl hl_14 hl_28 rfl) ?_
      refine WL.val Wanted.none (Runs.move rfl) ?_
      obtain ⟨c_96, H⟩ := H
      have h_97 : (r_13 == r_27) = true := (beq_iff_eq.mpr c_96)
      refine WL.on ?_ ?_; exact Wanted.guard (dj := 64) (by rfl) (evb (by rfl) h_97) (by rfl)
      refine WL.val Wanted.none (Runs.move rfl) ?_
      refine WL.on ?_ ?_; exact Wanted.guard (dj := 64) (by rfl) (evb (by rfl) h_97) (by rfl)
      refine WL.val Wanted.none (Runs.move rfl) ?_
      refine WL.on ?_ ?_; exact Wanted.guard (dj := 64) (by rfl) (evb (by rfl) h_97) (by rfl)
      refine WL.val Wanted.none (Runs.eql rfl rfl rfl) ?_
      refine WL.val Wanted.none (Runs.pick_t (evb rfl h_97) rfl) ?_
      refine WL.val Wanted.none (Runs.move rfl) ?_
      obtain ⟨c_98, H⟩ := H
      have h_99 : (r_15 == r_29) = true := (beq_iff_eq.mpr c_98)
      refine WL.on ?_ ?_; exact Wanted.guard (dj := 69) (by rfl) (evb (by rfl) h_99) (by rfl)
      refine WL.val Wanted.none (Runs.move rfl) ?_
      refine WL.on ?_ ?_; exact Wanted.guard (dj := 69) (by rfl) (evb (by rfl) h_99) (by rfl)
      refine WL.val Wanted.none (Runs.move rfl) ?_
      refine WL.on ?_ ?_; exact Wanted.guard (dj := 69) (by rfl) (evb (by rfl) h_99) (by rfl)
      refine WL.val Wanted.none (Runs.eql rfl rfl rfl) ?_
      refine WL.val Wanted.none (Runs.pick_t (evb rfl h_99) rfl) ?_
      refine WL.val Wanted.none (Runs.move rfl) ?_
      obtain ⟨c_100, H⟩ := H
      have h_101 : (r_47 == r_60) = true := (beq_iff_eq.mpr c_100)
      refine WL.on ?_ ?_; exact Wanted.guard (dj := 74) (by rfl) (evb (by rfl) h_101) (by rfl)
      refine WL.val Wanted.none (Runs.fieldAddr (off := 0) fld32_0 rfl rfl rfl) ?_
      refine WL.on ?_ ?_; exact Wanted.guard (dj := 74) (by rfl) (evb (by rfl) h_101) (by rfl)
      refine WL.val Wanted.none (Runs.load_mid row25 rfl st_94 (i := 3) rfl (part_mid (pre := (([] : List Value))) (mid := (iv .u8 r_41)) (post := (iv .u8 r_43 ++ iv .u8 r_45)) (by first | rfl | simp only [List.append_assoc, List.append_nil, List.nil_append, List.cons_append]) (by first | rfl | simp only [List.length_append, List.length_cons, List.length_nil, iv_length]) (by first | rfl | simp only [List.length_append, List.length_cons, List.length_nil, iv_length, hl_42])) (by first | rfl | simp only [List.length_append, List.length_cons, List.length_nil, iv_length, hl_42])) ?_
      refine WL.on ?_ ?_; exact Wanted.guard (dj := 74) (by rfl) (evb (by rfl) h_101) (by rfl)
      refine WL.val Wanted.none (Runs.load_arr arr25 rfl (st_94.blk (i := 2) rfl) hl_59) ?_
      refine WL.on ?_ ?_; exact Wanted.guard (dj := 74) (by rfl) (evb (by rfl) h_101) (by rfl)
      refine WL.val Wanted.none (Runs.eql_arr arr25 eqg25 rfl rfl hl_42 hl_59 rfl) ?_
      refine WL.val Wanted.none (Runs.pick_t (evb rfl h_101) rfl) ?_
      refine WL.val Wanted.none (Runs.move rfl) ?_
      obtain ⟨c_102, H⟩ := H
      have h_103 : (r_41 == r_58) = true := (beq_iff_eq.mpr c_102)
      refine WL.on ?_ ?_; exact Wanted.guard (dj := 80) (by rfl) (evb (by rfl) h_103) (by rfl)
      refine WL.val Wanted.none (Runs.fieldAddr (off := 32) fld32_1 rfl rfl rfl) ?_
      refine WL.on ?_ ?_; exact Wanted.guard (dj := 80) (by rfl) (evb (by rfl) h_103) (by rfl)
      refine WL.val Wanted.none (Runs.load_mid row25 rfl st_94 (i := 3) rfl (part_mid (pre := (iv .u8 r_41)) (mid := (iv .u8 r_43)) (post := (iv .u8 r_45)) (by first | rfl | simp only [List.append_assoc, List.append_nil, List.nil_append, List.cons_append]) (by first | rfl | simp only [List.length_append, List.length_cons, List.length_nil, iv_length, hl_42]) (by first | rfl | simp only [List.length_append, List.length_cons, List.length_nil, iv_length, hl_44])) (by first | rfl | simp only [List.length_append, List.length_cons, List.length_nil, iv_length, hl_44])) ?_
      refine WL.on ?_ ?_; exact Wanted.guard (dj := 80) (by rfl) (evb (by rfl) h_103) (by rfl)
      refine WL.val Wanted.none (Runs.load_arr arr25 rfl (st_94.blk (i := 1) rfl) hl_73) ?_
      refine WL.on ?_ ?_; exact Wanted.guard (dj := 80) (by rfl) (evb (by rfl) h_103) (by rfl)
      refine WL.val Wanted.none (Runs.eql_arr arr25 eqg25 rfl rfl hl_44 hl_73 rfl) ?_
      refine WL.val Wanted.none (Runs.pick_t (evb rfl h_103) rfl) ?_
      refine WL.val Wanted.none (Runs.move rfl) ?_
      obtain ⟨c_104, H⟩ := H
      have h_105 : (r_43 == r_72) = true := (beq_iff_eq.mpr c_104)
      refine WL.on ?_ ?_; exact Wanted.guard (dj := 86) (by rfl) (evb (by rfl) h_105) (by rfl)
      refine WL.val Wanted.none (Runs.fieldAddr (off := 64) fld32_2 rfl rfl rfl) ?_
      refine WL.on ?_ ?_; exact Wanted.guard (dj := 86) (by rfl) (evb (by rfl) h_105) (by rfl)
      refine WL.val Wanted.none (Runs.load_mid row25 rfl st_94 (i := 3) rfl (part_mid (pre := (iv .u8 r_41 ++ iv .u8 r_43)) (mid := (iv .u8 r_45)) (post := (([] : List Value))) (by first | rfl | simp only [List.append_assoc, List.append_nil, List.nil_append, List.cons_append]) (by first | rfl | simp only [List.length_append, List.length_cons, List.length_nil, iv_length, hl_42, hl_44]) (by first | rfl | simp only [List.length_append, List.length_cons, List.length_nil, iv_length, hl_46])) (by first | rfl | simp only [List.length_append, List.length_cons, List.length_nil, iv_length, hl_46])) ?_
      refine WL.on ?_ ?_; exact Wanted.guard (dj := 86) (by rfl) (evb (by rfl) h_105) (by rfl)
      refine WL.val Wanted.none (Runs.load_arr arr25 rfl (st_94.blk (i := 0) rfl) hl_87) ?_
      refine WL.on ?_ ?_; exact Wanted.guard (dj := 86) (by rfl) (evb (by rfl) h_105) (by rfl)
      refine WL.val Wanted.none (Runs.eql_arr arr25 eqg25 rfl rfl hl_46 hl_87 rfl) ?_
      refine WL.val Wanted.none (Runs.pick_t (evb rfl h_105) rfl) ?_
      refine WL.val Wanted.none (Runs.assign rfl) ?_
      refine WL.nil ?_
      refine QW.then_n ?_
      refine CW.sub [(4, .bool (r_45 == r_86))] ⟨rfl, trivial⟩ ?_
      refine CW.ret ?_
      have hz : (r_45 == r_86) = true := (beq_iff_eq.mpr H)
      exact QW.ret1 rfl (evb rfl hz) ⟨rfl, st_94.ext⟩

/-! ### reliquarylaw03_KeysNoughts: function 5 -/
def reliquarylaw03_KeysNoughts.L1 (l0 : List Int) (a1 : Int) (l2 : List Int) : Nat → (List Int) → Int → Prop
  | 0, _, _ => False
  | kL1 + 1, l_23, x_26 => ((x_26 < (IntKind.i64.wrap (Int.tmod a1 65)) ∧ (((l_23.length : Int) < 64 ∧ (∃ m_38 : List Int, m_38 = l_23 ++ [0] ∧ (m_38.length ≤ 1099511627776 ∧ reliquarylaw03_KeysNoughts.L1 l0 a1 l2 kL1 m_38 (IntKind.i64.wrap (x_26 + 1))))) ∨ (¬ ((l_23.length : Int) < 64) ∧ (∃ (r_51 : List Int), keys_Mac.rel l0 l2 r_51 ∧ (∃ (r_57 : List Int), keys_Mac.rel l_23 l2 r_57 ∧ r_51 = r_57))))) ∨ (¬ (x_26 < (IntKind.i64.wrap (Int.tmod a1 65))) ∧ (∃ (r_63 : List Int), keys_Mac.rel l0 l2 r_63 ∧ (∃ (r_69 : List Int), keys_Mac.rel l_23 l2 r_69 ∧ r_63 = r_69))))
def reliquarylaw03_KeysNoughts.rel (l0 : List Int) (a1 : Int) (l2 : List Int)  : Prop := (reliquarylaw03_awake.rel  ∧ (((l0.length : Int) > 64 ∧ True) ∨ (¬ ((l0.length : Int) > 64) ∧ (((l2.length : Int) > 1000 ∧ True) ∨ (¬ ((l2.length : Int) > 1000) ∧ (∃ m_11 : List Int, m_11 = ([] : List Int) ++ l0 ∧ (m_11.length ≤ 1099511627776 ∧ (∃ k_ : Nat, reliquarylaw03_KeysNoughts.L1 l0 a1 l2 k_ m_11 0))))))))
set_option maxHeartbeats 4000000 in
set_option maxRecDepth 100000 in
theorem reliquarylaw03_KeysNoughts.calls (w : World) (l0 : List Int) (a1 : Int) (l2 : List Int) (A0 : Option Addr) (n0 : Nat) (c0 : Nat) (A2 : Option Addr) (n2 : Nat) (c2 : Nat)  (hG0 : Src w (some ⟨0, 0, none⟩) (iv .u32 tab0)) (hs0 : Src w A0 (iv .u8 l0)) (hn0 : n0 = l0.length) (hc0 : n0 ≤ c0) (hs2 : Src w A2 (iv .u8 l2)) (hn2 : n2 = l2.length) (hc2 : n2 ≤ c2)  (H : reliquarylaw03_KeysNoughts.rel l0 a1 l2 ) :
    Calls Tryd.prog 5 #[.slice A0 n0 c0, .int .u8 a1, .slice A2 n2 c2] w fun e w' => e = .returned (.bool true) ∧ Below w.heap.size w w' := by
  refine CW.enter Tryd.func5 rfl (n := 46) rfl [.slice A0 n0 c0, .int .u8 a1, .slice A2 n2 c2] (Nat.le_of_ble_eq_true rfl) ?_
  refine CW.sub [(0, .slice A0 n0 c0), (1, .int .u8 a1), (2, .slice A2 n2 c2)] ⟨rfl, rfl, rfl, trivial⟩ ?_
  have st0 : St w w [] := St.refl w
  refine CW.seq ?_
  refine CW.region ?_
  refine WL.val Wanted.none (Runs.assign rfl) ?_
  refine WL.nil ?_
  refine QW.then_n ?_
  refine CW.seq ?_
  refine CW.region ?_
  obtain ⟨hr_1, H⟩ := H
  refine WL.call Wanted.none ent7 rfl (reliquarylaw03_awake.calls w (hG0.ext st0) hr_1) ?_
  rintro _ w_2 ⟨rfl, sc_4⟩
  have st_3 : St w w_2 [] := st0.below sc_4
  refine ⟨_, rfl, ?_⟩
  refine WL.val Wanted.none (Runs.assign rfl) ?_
  refine WL.nil ?_
  refine QW.then_n ?_
  refine CW.seq ?_
  refine CW.seq ?_
  refine CW.region ?_
  refine WL.val Wanted.none (Runs.move rfl) ?_
  refine WL.val Wanted.none (Runs.not rfl rfl) ?_
  refine WL.nil ?_
  refine QW.then_n ?_
  refine CW.cf rfl rfl ?_
  refine CW.skip ?_
  refine QW.then_n ?_
  refine CW.seq ?_
  refine CW.seq ?_
  refine CW.region ?_
  refine WL.val Wanted.none (Runs.move rfl) ?_
  refine WL.val Wanted.none (Runs.len_sl Tryd.underlying22 rfl (by rw [hn0])) ?_
  refine WL.val Wanted.none (Runs.gtr rfl rfl rfl) ?_
  refine WL.val Wanted.none (Runs.move rfl) ?_
  rcases H with ⟨c_5, H⟩ | ⟨c_5, H⟩
  · have h_6 : (decide ((l0.length : Int) > 64)) = true := (decide_eq_true c_5)
    refine WL.off ?_ ?_; exact Wanted.guard (dj := 16) (by rfl) (evb (by rfl) h_6) (by rfl)
    refine WL.off ?_ ?_; exact Wanted.guard (dj := 16) (by rfl) (evb (by rfl) h_6) (by rfl)
    refine WL.off ?_ ?_; exact Wanted.guard (dj := 16) (by rfl) (evb (by rfl) h_6) (by rfl)
    refine WL.val Wanted.none (Runs.pick_t (evb rfl h_6) rfl) ?_
    refine WL.nil ?_
    refine QW.then_n ?_
    refine CW.sub [(0, .slice A0 n0 c0), (1, .int .u8 a1), (2, .slice A2 n2 c2), (6, .bool false), (20, .bool true)] ⟨rfl, rfl, rfl, rfl, rfl, trivial⟩ ?_
    refine CW.ct rfl rfl ?_
    refine CW.seq ?_
    refine CW.region ?_
    refine WL.val Wanted.none (Runs.assign rfl) ?_
    refine WL.nil ?_
    refine QW.then_n ?_
    refine CW.ret ?_
    refine QW.then_r ?_
    exact QW.ret1 rfl rfl ⟨rfl, st_3.ext⟩
  · have h_6 : (decide ((l0.length : Int) > 64)) = false := (decide_eq_false c_5)
    refine WL.on ?_ ?_; exact Wanted.guard (dj := 16) (by rfl) (evb (by rfl) h_6) (by rfl)
    refine WL.val Wanted.none (Runs.move rfl) ?_
    refine WL.on ?_ ?_; exact Wanted.guard (dj := 16) (by rfl) (evb (by rfl) h_6) (by rfl)
    refine WL.val Wanted.none (Runs.len_sl Tryd.underlying22 rfl (by rw [hn2])) ?_
    refine WL.on ?_ ?_; exact Wanted.guard (dj := 16) (by rfl) (evb (by rfl) h_6) (by rfl)
    refine WL.val Wanted.none (Runs.gtr rfl rfl rfl) ?_
    refine WL.val Wanted.none (Runs.pick_f (evb rfl h_6) rfl) ?_
    refine WL.nil ?_
    refine QW.then_n ?_
    refine CW.sub [(0, .slice A0 n0 c0), (1, .int .u8 a1), (2, .slice A2 n2 c2), (6, .bool false), (20, .bool (decide ((l2.length : Int) > 1000)))] ⟨rfl, rfl, rfl, rfl, rfl, trivial⟩ ?_
    rcases H with ⟨c_7, H⟩ | ⟨c_7, H⟩
    · have h_8 : (decide ((l2.length : Int) > 1000)) = true := (decide_eq_true c_7)
      refine CW.ct rfl h_8 ?_
      refine CW.seq ?_
      refine CW.region ?_
      refine WL.val Wanted.none (Runs.assign rfl) ?_
      refine WL.nil ?_
      refine QW.then_n ?_
      refine CW.ret ?_
      refine QW.then_r ?_
      exact QW.ret1 rfl rfl ⟨rfl, st_3.ext⟩
    · have h_8 : (decide ((l2.length : Int) > 1000)) = false := (decide_eq_false c_7)
      refine CW.cf rfl h_8 ?_
      refine CW.skip ?_
      refine QW.then_n ?_
      refine CW.seq ?_
      refine CW.region ?_
      refine WL.val Wanted.none (Runs.assign rfl) ?_
      refine WL.nil ?_
      refine QW.then_n ?_
      refine CW.seq ?_
      refine CW.region ?_
      refine WL.val Wanted.none (Runs.move rfl) ?_
      refine WL.val Wanted.none (Runs.move rfl) ?_
      have st_10 := st_3.nil_sl 5 1
      have st_10 : St w w_2 [.sl none 0 0 (iv .u8 ([] : List Int)) 5 1] := st_10
      obtain ⟨m_11, e_12, H⟩ := H
      obtain ⟨z_13, H⟩ := H
      obtain ⟨n_16, hn_19⟩ : ∃ n_ : Nat, n_ = m_11.length := ⟨_, rfl⟩
      refine WL.append (i := 0) Wanted.none st_10 rfl Tryd.underlying22 elem5 rfl rfl (hs0.ext st_10) (by rw [iv_length]; exact (hn0).symm) (one_iv .u8 _) (by decide) (N := n_16) (by rw [hn_19, e_12, List.length_append]; exact congr (congrArg HAdd.hAdd (rfl)) (hn0)) (by rw [hn_19]; exact z_13) ?_
      intro A_14 c_15 w_17 st_18
      have st_18' : St w w_17 [.sl A_14 c_15 n_16 (iv .u8 m_11) 5 1] := by rw [e_12, ← iv_append .u8 ([] : List Int) l0]; exact st_18
      refine WL.val Wanted.none (Runs.assign rfl) ?_
      refine WL.nil ?_
      refine QW.then_n ?_
      refine CW.seq ?_
      refine CW.seq ?_
      refine CW.region ?_
      refine WL.val Wanted.none (Runs.assign rfl) ?_
      refine WL.nil ?_
      refine QW.then_n ?_
      refine CW.block ?_
      obtain ⟨k_20, H⟩ := H
      refine CW.sub [(0, .slice A0 n0 c0), (1, .int .u8 a1), (2, .slice A2 n2 c2), (6, .bool false), (8, .slice A_14 n_16 c_15), (9, .int .i64 0)] ⟨rfl, rfl, rfl, rfl, rfl, rfl, trivial⟩ ?_
      refine CW.loop (fun kL1 l_ w_ => ∃ (A_21 : Option Addr) (c_22 : Nat) (n_24 : Nat) (l_23 : List Int) (x_26 : Int), l_ = [(0, .slice A0 n0 c0), (1, .int .u8 a1), (2, .slice A2 n2 c2), (6, .bool false), (8, .slice A_21 n_24 c_22), (9, .int .i64 x_26)] ∧ reliquarylaw03_KeysNoughts.L1 l0 a1 l2 kL1 l_23 x_26 ∧ (n_24 = l_23.length) ∧ St w w_ [.sl A_21 c_22 n_24 (iv .u8 l_23) 5 1]) (k := k_20) ⟨A_14, c_15, n_16, m_11, 0, rfl, H, hn_19, st_18'⟩ (fun _ _ h => by obtain ⟨_, _, _, _, _, _, h, _⟩ := h; exact h.elim) ?_
      rintro kL1 l_29 w_27 ⟨A_21, c_22, n_24, l_23, x_26, rfl, H, hn_25, st_28⟩
      refine CW.seq ?_
      refine CW.seq ?_
      refine CW.region ?_
      refine WL.val Wanted.none (Runs.move rfl) ?_
      refine WL.val Wanted.none (Runs.move rfl) ?_
      refine WL.val Wanted.none (Runs.rem rfl rfl (by decide) rfl) ?_
      refine WL.val Wanted.none (Runs.conv Tryd.underlying3 ⟨_, Tryd.underlying5⟩ rfl rfl) ?_
      refine WL.val Wanted.none (Runs.lss rfl rfl rfl) ?_
      refine WL.val Wanted.none (Runs.move rfl) ?_
      rcases H with ⟨c_30, H⟩ | ⟨c_30, H⟩
      · have h_31 : (decide (x_26 < (IntKind.i64.wrap (Int.tmod a1 65)))) = true := (decide_eq_true c_30)
        refine WL.on ?_ ?_; exact Wanted.guard (dj := 29) (by rfl) (evb (by rfl) h_31) (by rfl)
        refine WL.val Wanted.none (Runs.move rfl) ?_
        refine WL.on ?_ ?_; exact Wanted.guard (dj := 29) (by rfl) (evb (by rfl) h_31) (by rfl)
        refine WL.val Wanted.none (Runs.len_sl Tryd.underlying22 rfl (by rw [hn_25])) ?_
        refine WL.on ?_ ?_; exact Wanted.guard (dj := 29) (by rfl) (evb (by rfl) h_31) (by rfl)
        refine WL.val Wanted.none (Runs.lss rfl rfl rfl) ?_
        refine WL.val Wanted.none (Runs.pick_t (evb rfl h_31) rfl) ?_
        refine WL.nil ?_
        refine QW.then_n ?_
        rcases H with ⟨c_32, H⟩ | ⟨c_32, H⟩
        · have h_33 : (decide ((l_23.length : Int) < 64)) = true := (decide_eq_true c_32)
          refine CW.ct rfl h_33 ?_
          refine CW.skip ?_
          refine QW.then_n ?_
          refine CW.seq ?_
          refine CW.block ?_
          refine CW.region ?_
          refine WL.val Wanted.none (Runs.move rfl) ?_
          refine WL.buildSl [.int .u8 0] st_28 Tryd.underlying22 elem5 rfl rfl (by decide) (by decide) (by simp [Value.cells]) ?_
          intro B_34 w_35 st_36
          replace st_36 : St w w_35 [.sl (some ⟨B_34, 0, none⟩) 1 1 (iv .u8 [0]) 5 1, .sl A_21 c_22 n_24 (iv .u8 l_23) 5 1] := st_36
          obtain ⟨m_38, e_39, H⟩ := H
          obtain ⟨z_40, H⟩ := H
          obtain ⟨n_43, hn_46⟩ : ∃ n_ : Nat, n_ = m_38.length := ⟨_, rfl⟩
          refine WL.append (i := 1) Wanted.none st_36 rfl Tryd.underlying22 elem5 rfl rfl (st_36.src_sl (k := 0) rfl) (by rw [iv_length]; exact (Eq.refl _).symm) (one_iv .u8 _) (by decide) (N := n_43) (by rw [hn_46, e_39, List.length_append]; exact congr (congrArg HAdd.hAdd (hn_25)) (rfl)) (by rw [hn_46]; exact z_40) ?_
          intro A_41 c_42 w_44 st_45
          have st_45' : St w w_44 [.sl (some ⟨B_34, 0, none⟩) 1 1 (iv .u8 [0]) 5 1, .sl A_41 c_42 n_43 (iv .u8 m_38) 5 1] := by rw [e_39, ← iv_append .u8 l_23 [0]]; exact st_45
          refine WL.val Wanted.none (Runs.assign rfl) ?_
          refine WL.nil ?_
          refine QW.blk_n ?_
          refine QW.then_n ?_
          refine CW.region ?_
          refine WL.val Wanted.none (Runs.move rfl) ?_
          refine WL.val Wanted.none (Runs.add rfl rfl rfl) ?_
          refine WL.val Wanted.none (Runs.assign rfl) ?_
          refine WL.nil ?_
          have st_45'' := st_45'.pick [1] (by decide)
          exact QW.at [(0, .slice A0 n0 c0), (1, .int .u8 a1), (2, .slice A2 n2 c2), (6, .bool false), (8, .slice A_41 n_43 c_42), (9, .int .i64 (IntKind.i64.wrap (x_26 + 1)))] ⟨rfl, rfl, rfl, rfl, rfl, rfl, trivial⟩ ⟨A_41, c_42, n_43, m_38, IntKind.i64.wrap (x_26 + 1), rfl, H, hn_46, st_45''⟩
        · have h_33 : (decide ((l_23.length : Int) < 64)) = false := (decide_eq_false c_32)
          refine CW.cf rfl h_33 ?_
          refine CW.exit ?_
          refine QW.then_x ?_
          refine QW.then_x ?_
          refine QW.blk_x ?_
          refine QW.then_n ?_
          refine CW.sub [(0, .slice A0 n0 c0), (2, .slice A2 n2 c2), (6, .bool false), (8, .slice A_21 n_24 c_22)] ⟨rfl, rfl, rfl, rfl, trivial⟩ ?_
          refine CW.seq ?_
          refine CW.region ?_
          refine WL.val Wanted.none (Runs.move rfl) ?_
          refine WL.val Wanted.none (Runs.move rfl) ?_
          obtain ⟨r_51, hr_47, H⟩ := H
          refine WL.call Wanted.none ent8 rfl (keys_Mac.calls w_27 l0 l2 A0 n0 c0 A2 n2 c2 (hG0.ext st_28) (hs0.ext st_28) (hn0) (hc0) (hs2.ext st_28) (hn2) (hc2) r_51 hr_47) ?_
          rintro _ w_48 ⟨hl_52, rfl, sc_50⟩
          have st_49 : St w w_48 [.sl A_21 c_22 n_24 (iv .u8 l_23) 5 1] := st_28.call sc_50
          refine ⟨_, rfl, ?_⟩
          refine WL.val Wanted.none (Runs.move rfl) ?_
          refine WL.val Wanted.none (Runs.move rfl) ?_
          obtain ⟨r_57, hr_53, H⟩ := H
          refine WL.call Wanted.none ent8 rfl (keys_Mac.calls w_48 l_23 l2 A_21 n_24 c_22 A2 n2 c2 (hG0.ext st_49) (st_49.src_sl (k := 0) rfl) (hn_25) (st_49.cap (i := 0) rfl) (hs2.ext st_49) (hn2) (hc2) r_57 hr_53) ?_
          rintro _ w_54 ⟨hl_58, rfl, sc_56⟩
          have st_55 : St w w_54 [.sl A_21 c_22 n_24 (iv .u8 l_23) 5 1] := st_49.call sc_56
          refine ⟨_, rfl, ?_⟩
          refine WL.val Wanted.none (Runs.eql_arr arr25 eqg25 rfl rfl hl_52 hl_58 rfl) ?_
          refine WL.val Wanted.none (Runs.assign rfl) ?_
          refine WL.nil ?_
          refine QW.then_n ?_
          refine CW.sub [(6, .bool (r_51 == r_57))] ⟨rfl, trivial⟩ ?_
          refine CW.ret ?_
          have hz : (r_51 == r_57) = true := (beq_iff_eq.mpr H)
          exact QW.ret1 rfl (evb rfl hz) ⟨rfl, st_55.ext⟩
      · have h_31 : (decide (x_26 < (IntKind.i64.wrap (Int.tmod a1 65)))) = false := (decide_eq_false c_30)
        refine WL.off ?_ ?_; exact Wanted.guard (dj := 29) (by rfl) (evb (by rfl) h_31) (by rfl)
        refine WL.off ?_ ?_; exact Wanted.guard (dj := 29) (by rfl) (evb (by rfl) h_31) (by rfl)
        refine WL.off ?_ ?_; exact Wanted.guard (dj := 29) (by rfl) (evb (by rfl) h_31) (by rfl)
        refine WL.val Wanted.none (Runs.pick_f (evb rfl h_31) rfl) ?_
        refine WL.nil ?_
        refine QW.then_n ?_
        refine CW.cf rfl rfl ?_
        refine CW.exit ?_
        refine QW.then_x ?_
        refine QW.then_x ?_
        refine QW.blk_x ?_
        refine QW.then_n ?_
        refine CW.sub [(0, .slice A0 n0 c0), (2, .slice A2 n2 c2), (6, .bool false), (8, .slice A_21 n_24 c_22)] ⟨rfl, rfl, rfl, rfl, trivial⟩ ?_
        refine CW.seq ?_
        refine CW.region ?_
        refine WL.val Wanted.none (Runs.move rfl) ?_
        refine WL.val Wanted.none (Runs.move rfl) ?_
        obtain ⟨r_63, hr_59, H⟩ := H
        refine WL.call Wanted.none ent8 rfl (keys_Mac.calls w_27 l0 l2 A0 n0 c0 A2 n2 c2 (hG0.ext st_28) (hs0.ext st_28) (hn0) (hc0) (hs2.ext st_28) (hn2) (hc2) r_63 hr_59) ?_
        rintro _ w_60 ⟨hl_64, rfl, sc_62⟩
        have st_61 : St w w_60 [.sl A_21 c_22 n_24 (iv .u8 l_23) 5 1] := st_28.call sc_62
        refine ⟨_, rfl, ?_⟩
        refine WL.val Wanted.none (Runs.move rfl) ?_
        refine WL.val Wanted.none (Runs.move rfl) ?_
        obtain ⟨r_69, hr_65, H⟩ := H
        refine WL.call Wanted.none ent8 rfl (keys_Mac.calls w_60 l_23 l2 A_21 n_24 c_22 A2 n2 c2 (hG0.ext st_61) (st_61.src_sl (k := 0) rfl) (hn_25) (st_61.cap (i := 0) rfl) (hs2.ext st_61) (hn2) (hc2) r_69 hr_65) ?_
        rintro _ w_66 ⟨hl_70, rfl, sc_68⟩
        have st_67 : St w w_66 [.sl A_21 c_22 n_24 (iv .u8 l_23) 5 1] := st_61.call sc_68
        refine ⟨_, rfl, ?_⟩
        refine WL.val Wanted.none (Runs.eql_arr arr25 eqg25 rfl rfl hl_64 hl_70 rfl) ?_
        refine WL.val Wanted.none (Runs.assign rfl) ?_
        refine WL.nil ?_
        refine QW.then_n ?_
        refine CW.sub [(6, .bool (r_63 == r_69))] ⟨rfl, trivial⟩ ?_
        refine CW.ret ?_
        have hz : (r_63 == r_69) = true := (beq_iff_eq.mpr H)
        exact QW.ret1 rfl (evb rfl hz) ⟨rfl, st_67.ext⟩

/-! ### reliquarylaw03_KeysLong: function 6 -/
def reliquarylaw03_KeysLong.rel (l0 : List Int) (l1 : List Int)  : Prop := (reliquarylaw03_awake.rel  ∧ (((l0.length : Int) ≤ 64 ∧ True) ∨ (¬ ((l0.length : Int) ≤ 64) ∧ (((l0.length : Int) > 500 ∧ True) ∨ (¬ ((l0.length : Int) > 500) ∧ (((l1.length : Int) > 1000 ∧ True) ∨ (¬ ((l1.length : Int) > 1000) ∧ (∃ (r_15 : List Int), reliquaryref02_Of.rel l0 r_15 ∧ (∃ (r_28 : List Int), keys_Mac.rel l0 l1 r_28 ∧ (r_28.length = 32 ∧ (∃ (r_34 : List Int), keys_Mac.rel r_15 l1 r_34 ∧ (r_34.length = 32 ∧ r_28 = r_34))))))))))))
set_option maxHeartbeats 4000000 in
set_option maxRecDepth 100000 in
theorem reliquarylaw03_KeysLong.calls (w : World) (l0 : List Int) (l1 : List Int) (A0 : Option Addr) (n0 : Nat) (c0 : Nat) (A1 : Option Addr) (n1 : Nat) (c1 : Nat)  (hG0 : Src w (some ⟨0, 0, none⟩) (iv .u32 tab0)) (hs0 : Src w A0 (iv .u8 l0)) (hn0 : n0 = l0.length) (hc0 : n0 ≤ c0) (hs1 : Src w A1 (iv .u8 l1)) (hn1 : n1 = l1.length) (hc1 : n1 ≤ c1)  (H : reliquarylaw03_KeysLong.rel l0 l1 ) :
    Calls Tryd.prog 6 #[.slice A0 n0 c0, .slice A1 n1 c1] w fun e w' => e = .returned (.bool true) ∧ Below w.heap.size w w' := by
  refine CW.enter Tryd.func6 rfl (n := 32) rfl [.slice A0 n0 c0, .slice A1 n1 c1] (Nat.le_of_ble_eq_true rfl) ?_
  refine CW.sub [(0, .slice A0 n0 c0), (1, .slice A1 n1 c1)] ⟨rfl, rfl, trivial⟩ ?_
  have st0 : St w w [] := St.refl w
  refine CW.seq ?_
  refine CW.region ?_
  refine WL.val Wanted.none (Runs.assign rfl) ?_
  refine WL.nil ?_
  refine QW.then_n ?_
  refine CW.seq ?_
  refine CW.region ?_
  obtain ⟨hr_1, H⟩ := H
  refine WL.call Wanted.none ent7 rfl (reliquarylaw03_awake.calls w (hG0.ext st0) hr_1) ?_
  rintro _ w_2 ⟨rfl, sc_4⟩
  have st_3 : St w w_2 [] := st0.below sc_4
  refine ⟨_, rfl, ?_⟩
  refine WL.val Wanted.none (Runs.assign rfl) ?_
  refine WL.nil ?_
  refine QW.then_n ?_
  refine CW.seq ?_
  refine CW.seq ?_
  refine CW.region ?_
  refine WL.val Wanted.none (Runs.move rfl) ?_
  refine WL.val Wanted.none (Runs.not rfl rfl) ?_
  refine WL.nil ?_
  refine QW.then_n ?_
  refine CW.cf rfl rfl ?_
  refine CW.skip ?_
  refine QW.then_n ?_
  refine CW.seq ?_
  refine CW.seq ?_
  refine CW.region ?_
  refine WL.val Wanted.none (Runs.move rfl) ?_
  refine WL.val Wanted.none (Runs.len_sl Tryd.underlying22 rfl (by rw [hn0])) ?_
  refine WL.val Wanted.none (Runs.leq rfl rfl rfl) ?_
  refine WL.val Wanted.none (Runs.move rfl) ?_
  rcases H with ⟨c_5, H⟩ | ⟨c_5, H⟩
  · have h_6 : (decide ((l0.length : Int) ≤ 64)) = true := (decide_eq_true c_5)
    refine WL.off ?_ ?_; exact Wanted.guard (dj := 13) (by rfl) (evb (by rfl) h_6) (by rfl)
    refine WL.off ?_ ?_; exact Wanted.guard (dj := 13) (by rfl) (evb (by rfl) h_6) (by rfl)
    refine WL.off ?_ ?_; exact Wanted.guard (dj := 13) (by rfl) (evb (by rfl) h_6) (by rfl)
    refine WL.val Wanted.none (Runs.pick_t (evb rfl h_6) rfl) ?_
    refine WL.val Wanted.none (Runs.move rfl) ?_
    refine WL.off ?_ ?_; exact Wanted.guard (dj := 18) (by rfl) (by rfl) (by rfl)
    refine WL.off ?_ ?_; exact Wanted.guard (dj := 18) (by rfl) (by rfl) (by rfl)
    refine WL.off ?_ ?_; exact Wanted.guard (dj := 18) (by rfl) (by rfl) (by rfl)
    refine WL.val Wanted.none (Runs.pick_t rfl rfl) ?_
    refine WL.nil ?_
    refine QW.then_n ?_
    refine CW.sub [(0, .slice A0 n0 c0), (1, .slice A1 n1 c1), (4, .bool false), (22, .bool true)] ⟨rfl, rfl, rfl, rfl, trivial⟩ ?_
    refine CW.ct rfl rfl ?_
    refine CW.seq ?_
    refine CW.region ?_
    refine WL.val Wanted.none (Runs.assign rfl) ?_
    refine WL.nil ?_
    refine QW.then_n ?_
    refine CW.ret ?_
    refine QW.then_r ?_
    exact QW.ret1 rfl rfl ⟨rfl, st_3.ext⟩
  · have h_6 : (decide ((l0.length : Int) ≤ 64)) = false := (decide_eq_false c_5)
    refine WL.on ?_ ?_; exact Wanted.guard (dj := 13) (by rfl) (evb (by rfl) h_6) (by rfl)
    refine WL.val Wanted.none (Runs.move rfl) ?_
    refine WL.on ?_ ?_; exact Wanted.guard (dj := 13) (by rfl) (evb (by rfl) h_6) (by rfl)
    refine WL.val Wanted.none (Runs.len_sl Tryd.underlying22 rfl (by rw [hn0])) ?_
    refine WL.on ?_ ?_; exact Wanted.guard (dj := 13) (by rfl) (evb (by rfl) h_6) (by rfl)
    refine WL.val Wanted.none (Runs.gtr rfl rfl rfl) ?_
    refine WL.val Wanted.none (Runs.pick_f (evb rfl h_6) rfl) ?_
    refine WL.val Wanted.none (Runs.move rfl) ?_
    rcases H with ⟨c_7, H⟩ | ⟨c_7, H⟩
    · have h_8 : (decide ((l0.length : Int) > 500)) = true := (decide_eq_true c_7)
      refine WL.off ?_ ?_; exact Wanted.guard (dj := 18) (by rfl) (evb (by rfl) h_8) (by rfl)
      refine WL.off ?_ ?_; exact Wanted.guard (dj := 18) (by rfl) (evb (by rfl) h_8) (by rfl)
      refine WL.off ?_ ?_; exact Wanted.guard (dj := 18) (by rfl) (evb (by rfl) h_8) (by rfl)
      refine WL.val Wanted.none (Runs.pick_t (evb rfl h_8) rfl) ?_
      refine WL.nil ?_
      refine QW.then_n ?_
      refine CW.sub [(0, .slice A0 n0 c0), (1, .slice A1 n1 c1), (4, .bool false), (22, .bool true)] ⟨rfl, rfl, rfl, rfl, trivial⟩ ?_
      refine CW.ct rfl rfl ?_
      refine CW.seq ?_
      refine CW.region ?_
      refine WL.val Wanted.none (Runs.assign rfl) ?_
      refine WL.nil ?_
      refine QW.then_n ?_
      refine CW.ret ?_
      refine QW.then_r ?_
      exact QW.ret1 rfl rfl ⟨rfl, st_3.ext⟩
    · have h_8 : (decide ((l0.length : Int) > 500)) = false := (decide_eq_false c_7)
      refine WL.on ?_ ?_; exact Wanted.guard (dj := 18) (by rfl) (evb (by rfl) h_8) (by rfl)
      refine WL.val Wanted.none (Runs.move rfl) ?_
      refine WL.on ?_ ?_; exact Wanted.guard (dj := 18) (by rfl) (evb (by rfl) h_8) (by rfl)
      refine WL.val Wanted.none (Runs.len_sl Tryd.underlying22 rfl (by rw [hn1])) ?_
      refine WL.on ?_ ?_; exact Wanted.guard (dj := 18) (by rfl) (evb (by rfl) h_8) (by rfl)
      refine WL.val Wanted.none (Runs.gtr rfl rfl rfl) ?_
      refine WL.val Wanted.none (Runs.pick_f (evb rfl h_8) rfl) ?_
      refine WL.nil ?_
      refine QW.then_n ?_
      refine CW.sub [(0, .slice A0 n0 c0), (1, .slice A1 n1 c1), (4, .bool false), (22, .bool (decide ((l1.length : Int) > 1000)))] ⟨rfl, rfl, rfl, rfl, trivial⟩ ?_
      rcases H with ⟨c_9, H⟩ | ⟨c_9, H⟩
      · have h_10 : (decide ((l1.length : Int) > 1000)) = true := (decide_eq_true c_9)
        refine CW.ct rfl h_10 ?_
        refine CW.seq ?_
        refine CW.region ?_
        refine WL.val Wanted.none (Runs.assign rfl) ?_
        refine WL.nil ?_
        refine QW.then_n ?_
        refine CW.ret ?_
        refine QW.then_r ?_
        exact QW.ret1 rfl rfl ⟨rfl, st_3.ext⟩
      · have h_10 : (decide ((l1.length : Int) > 1000)) = false := (decide_eq_false c_9)
        refine CW.cf rfl h_10 ?_
        refine CW.skip ?_
        refine QW.then_n ?_
        refine CW.seq ?_
        refine CW.region ?_
        refine WL.val Wanted.none (Runs.move rfl) ?_
        obtain ⟨r_15, hr_11, H⟩ := H
        refine WL.call Wanted.none ent13 rfl (reliquaryref02_Of.calls w_2 l0 A0 n0 c0 (hs0.ext st_3) (hn0) (hc0) r_15 hr_11) ?_
        rintro _ w_12 ⟨hl_16, rfl, sc_14⟩
        have st_13 : St w w_12 [] := st_3.call sc_14
        refine ⟨_, rfl, ?_⟩
        refine WL.alloc st_13 arr25.zero ?_
        intro B_17 w_18 st_19
        replace st_19 : St w w_18 [.cells B_17 (iv .u8 (List.replicate 32 (0 : Int))) 25] := st_19
        refine WL.store_arr (i := 0) st_19 rfl arr25 rfl (by rw [iv_length]; exact (List.length_replicate ..)) hl_16 rfl ?_
        intro w_21 st_22
        replace st_22 : St w w_21 [.cells B_17 (iv .u8 r_15) 25] := st_22
        refine WL.nil ?_
        refine QW.then_n ?_
        refine CW.seq ?_
        refine CW.region_qa wide (by kernel_rfl) st_22 ?_
        refine HL.val Wanted.none (fun wq sq => (Runs.move rfl)) ?_
        refine HL.val Wanted.none (fun wq sq => (Runs.move rfl)) ?_
        obtain ⟨r_28, hr_24, H⟩ := H
        obtain ⟨hl_29, H⟩ := H
        refine HL.call Wanted.none ent8 rfl (fun wq sq => (keys_Mac.calls wq l0 l1 A0 n0 c0 A1 n1 c1 (hG0.ext sq) (hs0.ext sq) (hn0) (hc0) (hs1.ext sq) (hn1) (hc1) r_28 hr_24).mono (by rintro _ _ ⟨_, rfl, sc⟩; exact ⟨rfl, sq.call sc⟩)) ?_
        refine HL.val Wanted.none (fun wq sq => (Runs.slice_arr arr25 rfl (by decide))) ?_
        refine HL.val Wanted.none (fun wq sq => (Runs.move rfl)) ?_
        obtain ⟨r_34, hr_30, H⟩ := H
        obtain ⟨hl_35, H⟩ := H
        refine HL.call Wanted.none ent8 rfl (fun wq sq => (keys_Mac.calls wq r_15 l1 (some ⟨B_17, 0, none⟩) 32 32 A1 n1 c1 (hG0.ext sq) (sq.src_blk (i := 0) rfl) ((hl_16).symm) (Nat.le_refl _) (hs1.ext sq) (hn1) (hc1) r_34 hr_30).mono (by rintro _ _ ⟨_, rfl, sc⟩; exact ⟨rfl, sq.call sc⟩)) ?_
        refine HL.val Wanted.none (fun wq sq => (Runs.eql_arr arr25 eqg25 rfl rfl hl_29 hl_35 rfl)) ?_
        refine HL.val Wanted.none (fun wq sq => (Runs.assign rfl)) ?_
        refine HL.nil (fun w_36 st_37 => ?_)
        refine WL.nil ?_
        refine QW.then_n ?_
        refine CW.sub [(4, .bool (r_28 == r_34))] ⟨rfl, trivial⟩ ?_
        refine CW.ret ?_
        have hz : (r_28 == r_34) = true := (beq_iff_eq.mpr H)
        exact QW.ret1 rfl (evb rfl hz) ⟨rfl, st_37.ext⟩

end Go.Proofs.YtlmbhggkahehjaaDoor
