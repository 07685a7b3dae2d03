/- Walks: each function computes what its relation says, and a call of it ends so. Printed by a program of this session (wip/gen). -/
import Derived.Test.YtjlifbnkdfofhaaGx2
namespace Go.Proofs.Ytjlifbnkdfofhaa
open Go Go.Kr Go.RowKit
set_option linter.unusedVariables false
set_option linter.unusedSimpArgs false
/-! ### reliquarylaw06_DiskSome: function 3 -/
def reliquarylaw06_DiskSome.L2 (m_41 : List Int) : Nat → (List R22) → (List R69) → (List R71) → Int → Bool → Bool → Int → Prop
  | 0, _, _, _, _, _, _, _ => False
  | kL2 + 1, l_173, l_180, l_187, x_194, b_195, b_196, x_197 => ((x_197 < 4 ∧ (∃ (l_210_0 : List R22) (l_210_1 : List R69) (a_214_2 : Int) (a_214_3 : Bool) (l_210_4 : List R71) (l_219 : List Int) (a_223 : Int), disk_Disk_Read.rel l_173 l_180 x_194 b_195 l_187 x_197 l_210_0 l_210_1 a_214_2 a_214_3 l_210_4 l_219 a_223 ∧ (¬ (a_223 ≠ 0) ∧ ((0 ≤ (0 : Int) ∧ (0 : Int) < (l_219.length : Int)) ∧ ((0 ≤ x_197 ∧ x_197 < (4 : Int)) ∧ (¬ ((gn l_219 0) ≠ (gn m_41 ((x_197).toNat))) ∧ reliquarylaw06_DiskSome.L2 m_41 kL2 l_210_0 l_210_1 l_210_4 a_214_2 a_214_3 b_196 (IntKind.i64.wrap (x_197 + 1)))))))) ∨ (¬ (x_197 < 4) ∧ (∃ (l_248_0 : List R22) (l_248_1 : List R69) (a_252_2 : Int) (a_252_3 : Bool) (l_248_4 : List R71) (a_254 : Int), disk_Disk_Pending.rel l_173 l_180 x_194 b_195 l_187 l_248_0 l_248_1 a_252_2 a_252_3 l_248_4 a_254 ∧ a_254 = 0)))
def reliquarylaw06_DiskSome.L1 (l0 : List Int) (l1 : List Bool) : Nat → (List Int) → (List R22) → (List R69) → (List R71) → Int → Bool → Bool → Int → Prop
  | 0, _, _, _, _, _, _, _, _ => False
  | kL1 + 1, m_41, l_43, l_50, l_57, x_64, b_65, b_66, x_67 => ((x_67 < (l0.length : Int) ∧ ((0 ≤ x_67 ∧ x_67 < (l0.length : Int)) ∧ (∃ (l_94 : List Int), reliquarylaw06_full.rel 0 0 [IntKind.u8.wrap (IntKind.i64.wrap (x_67 + 1))] [] false l_94 ∧ (∃ (l_108_0 : List R22) (l_108_1 : List R69) (a_112_2 : Int) (a_112_3 : Bool) (l_108_4 : List R71) (a_114 : Int), disk_Disk_Write.rel l_43 l_50 x_64 b_65 l_57 (IntKind.i64.wrap (bits .and .u8 (gn l0 ((x_67).toNat)) 3)) l_94 l_108_0 l_108_1 a_112_2 a_112_3 l_108_4 a_114 ∧ (¬ (a_114 ≠ 0) ∧ ((x_67 < (l1.length : Int) ∧ ((0 ≤ x_67 ∧ x_67 < (l1.length : Int)) ∧ ((gb l1 ((x_67).toNat) = true ∧ ((0 ≤ (IntKind.i64.wrap (bits .and .u8 (gn l0 ((x_67).toNat)) 3)) ∧ (IntKind.i64.wrap (bits .and .u8 (gn l0 ((x_67).toNat)) 3)) < (4 : Int)) ∧ (∃ m_130 : List Int, m_130 = List.set m_41 ((IntKind.i64.wrap (bits .and .u8 (gn l0 ((x_67).toNat)) 3)).toNat) (IntKind.u8.wrap (IntKind.i64.wrap (x_67 + 1))) ∧ reliquarylaw06_DiskSome.L1 l0 l1 kL1 m_130 l_108_0 l_108_1 l_108_4 a_112_2 a_112_3 b_66 (IntKind.i64.wrap (x_67 + 1))))) ∨ (¬ (gb l1 ((x_67).toNat) = true) ∧ reliquarylaw06_DiskSome.L1 l0 l1 kL1 m_41 l_108_0 l_108_1 l_108_4 a_112_2 a_112_3 b_66 (IntKind.i64.wrap (x_67 + 1)))))) ∨ (¬ (x_67 < (l1.length : Int)) ∧ reliquarylaw06_DiskSome.L1 l0 l1 kL1 m_41 l_108_0 l_108_1 l_108_4 a_112_2 a_112_3 b_66 (IntKind.i64.wrap (x_67 + 1))))))))) ∨ (¬ (x_67 < (l0.length : Int)) ∧ (∃ (l_143_0 : List R22) (l_143_1 : List R69) (a_147_2 : Int) (a_147_3 : Bool) (l_143_4 : List R71) (a_149 : Int), disk_Disk_Pending.rel l_43 l_50 x_64 b_65 l_57 l_143_0 l_143_1 a_147_2 a_147_3 l_143_4 a_149 ∧ (¬ (a_149 ≠ (l0.length : Int)) ∧ (∃ (l_162_0 : List R22) (l_162_1 : List R69) (a_166_2 : Int) (a_166_3 : Bool) (l_162_4 : List R71), disk_Disk_Crash.rel l_143_0 l_143_1 a_147_2 a_147_3 l_143_4 l1 l_162_0 l_162_1 a_166_2 a_166_3 l_162_4 ∧ (∃ k_ : Nat, reliquarylaw06_DiskSome.L2 m_41 k_ l_162_0 l_162_1 l_162_4 a_166_2 a_166_3 b_66 0))))))
def reliquarylaw06_DiskSome.rel (l0 : List Int) (l1 : List Bool)  : Prop := (reliquarylaw06_awake.rel  ∧ (((l0.length : Int) > 40 ∧ True) ∨ (¬ ((l0.length : Int) > 40) ∧ (∃ (o_9 : Option ((List R22) × (List R69) × Int × Bool × (List R71))) (a_13 : Int), disk_New.rel 4 o_9 a_13 ∧ ((∃ (l_24_0 : List R22) (l_24_1 : List R69) (a_28_2 : Int) (a_28_3 : Bool) (l_24_4 : List R71), o_9 = some (l_24_0, l_24_1, a_28_2, a_28_3, l_24_4) ∧ (∃ k_ : Nat, reliquarylaw06_DiskSome.L1 l0 l1 k_ (List.replicate 4 (0 : Int)) l_24_0 l_24_1 l_24_4 a_28_2 a_28_3 false 0)))))))
set_option maxHeartbeats 4000000 in
set_option maxRecDepth 100000 in
theorem reliquarylaw06_DiskSome.calls (w : World) (l0 : List Int) (l1 : List Bool) (A0 : Option Addr) (n0 : Nat) (c0 : Nat) (A1 : Option Addr) (n1 : Nat) (c1 : Nat)  (hs0 : Src w A0 (iv .u8 l0)) (hn0 : n0 = l0.length) (hc0 : n0 ≤ c0) (hs1 : Src w A1 (bv l1)) (hn1 : n1 = l1.length) (hc1 : n1 ≤ c1)  (H : reliquarylaw06_DiskSome.rel l0 l1 ) :
    Calls Try.prog 3 #[.slice A0 n0 c0, .slice A1 n1 c1] w fun e w' => e = .returned (.bool true) ∧ Below w.heap.size w w' := by
  refine CW.enter Try.func3 rfl (n := 95) rfl [.slice A0 n0 c0, .slice A1 n1 c1] (Nat.le_of_ble_eq_true rfl) ?_
  refine CW.sub [(0, .slice A0 n0 c0), (1, .slice A1 n1 c1)] ⟨rfl, rfl, trivial⟩ ?_
  obtain ⟨T, R, hT, hR, st0⟩ := St.start w
  refine CW.seq ?_
  refine CW.region ?_
  refine WL.val Wanted.none (Runs.assign rfl) ?_
  refine WL.nil ?_
  refine QW.then_n ?_
  refine CW.seq ?_
  refine CW.region ?_
  obtain ⟨hr_1, H⟩ := H
  refine WL.call Wanted.none ent9 rfl (reliquarylaw06_awake.calls w hr_1) ?_
  rintro _ w_2 ⟨rfl, sc_4⟩
  have st_3 : St w w_2 ((T ++ R)) := st0.below sc_4
  refine ⟨_, rfl, ?_⟩
  refine WL.val Wanted.none (Runs.assign rfl) ?_
  refine WL.nil ?_
  refine QW.then_n ?_
  refine CW.seq ?_
  refine CW.seq ?_
  refine CW.region ?_
  refine WL.val Wanted.none (Runs.move rfl) ?_
  refine WL.val Wanted.none (Runs.not rfl rfl) ?_
  refine WL.nil ?_
  refine QW.then_n ?_
  refine CW.cf rfl rfl ?_
  refine CW.skip ?_
  refine QW.then_n ?_
  refine CW.seq ?_
  refine CW.seq ?_
  refine CW.region ?_
  refine WL.val Wanted.none (Runs.move rfl) ?_
  refine WL.val Wanted.none (Runs.len_sl Try.underlying22 rfl (by rw [hn0])) ?_
  refine WL.val Wanted.none (Runs.gtr rfl rfl rfl) ?_
  refine WL.nil ?_
  refine QW.then_n ?_
  refine CW.sub [(0, .slice A0 n0 c0), (1, .slice A1 n1 c1), (4, .bool false), (19, .bool (decide ((l0.length : Int) > 40)))] ⟨rfl, rfl, rfl, rfl, trivial⟩ ?_
  rcases H with ⟨c_5, H⟩ | ⟨c_5, H⟩
  · have h_6 : (decide ((l0.length : Int) > 40)) = true := (decide_eq_true c_5)
    refine CW.ct rfl h_6 ?_
    refine CW.seq ?_
    refine CW.region ?_
    refine WL.val Wanted.none (Runs.assign rfl) ?_
    refine WL.nil ?_
    refine QW.then_n ?_
    refine CW.ret ?_
    refine QW.then_r ?_
    exact QW.ret1 rfl rfl ⟨rfl, st_3.ext⟩
  · have h_6 : (decide ((l0.length : Int) > 40)) = false := (decide_eq_false c_5)
    refine CW.cf rfl h_6 ?_
    refine CW.skip ?_
    refine QW.then_n ?_
    refine CW.seq ?_
    refine CW.region ?_
    have st_7 : St w w_2 ((T ++ (R))) := St.hide (A := []) (B := []) (T := T) (R := R) st_3
    obtain ⟨o_9, a_13, hr_8, H⟩ := H
    obtain ⟨l_24_0, l_24_1, a_28_2, a_28_3, l_24_4, rfl, H⟩ := H
    refine WL.call Wanted.none ent10 rfl (disk_New.calls_obj w w_2 T (R) 4  st_7 l_24_0 l_24_1 a_28_2 a_28_3 l_24_4 a_13 (some (l_24_0, l_24_1, a_28_2, a_28_3, l_24_4)) rfl hr_8) ?_
    rintro _ w_31 ⟨T_17, b_20, A_21_0, n_22_0, c_23_0, x_25_0, A_21_1, n_22_1, c_23_1, x_25_1, A_21_4, n_22_4, c_23_4, x_25_4, hs_18, hn_26_0, hx_27_0, hn_26_1, hx_27_1, hn_26_4, hx_27_4, rfl, sc_33⟩
    have st_32 : St w w_31 (.cells b_20 (([.slice A_21_0 n_22_0 c_23_0] : List Value) ++ (([.slice A_21_1 n_22_1 c_23_1] : List Value) ++ (([.int .i64 a_28_2] : List Value) ++ (([.bool a_28_3] : List Value) ++ ([.slice A_21_4 n_22_4 c_23_4] : List Value))))) 66 :: .sl A_21_0 c_23_0 n_22_0 x_25_0 22 1 :: .sl A_21_1 c_23_1 n_22_1 x_25_1 69 2 :: .sl A_21_4 c_23_4 n_22_4 x_25_4 71 2 :: (T_17 ++ R)) := St.unhide (A := [_, _, _, _]) (B := []) (T := T_17) (R := R) sc_33
    refine ⟨_, rfl, ?_⟩
    refine WL.val Wanted.none (Runs.move rfl) ?_
    refine WL.val Wanted.none (Runs.extract rfl rfl) ?_
    refine WL.val Wanted.none (Runs.extract rfl rfl) ?_
    refine WL.val Wanted.none (Runs.assign rfl) ?_
    refine WL.val Wanted.none (Runs.assign rfl) ?_
    refine WL.nil ?_
    refine QW.then_n ?_
    refine CW.seq ?_
    refine CW.seq ?_
    refine CW.region ?_
    refine WL.val Wanted.none (Runs.move rfl) ?_
    refine WL.val Wanted.none (Runs.neq (b := false) rfl rfl (by decide)) ?_
    refine WL.nil ?_
    refine QW.then_n ?_
    refine CW.sub [(0, .slice A0 n0 c0), (1, .slice A1 n1 c1), (4, .bool false), (6, .pointer (some ⟨b_20, 0, none⟩)), (25, .bool false)] ⟨rfl, rfl, rfl, rfl, rfl, trivial⟩ ?_
    refine CW.cf rfl rfl ?_
    refine CW.skip ?_
    refine QW.then_n ?_
    refine CW.seq ?_
    refine CW.region ?_
    refine WL.alloc st_32 arr29.zero ?_
    intro B_34 w_35 st_36
    replace st_36 : St w w_35 (.cells B_34 (iv .u8 (List.replicate 4 (0 : Int))) 29 :: .cells b_20 (([.slice A_21_0 n_22_0 c_23_0] : List Value) ++ (([.slice A_21_1 n_22_1 c_23_1] : List Value) ++ (([.int .i64 a_28_2] : List Value) ++ (([.bool a_28_3] : List Value) ++ ([.slice A_21_4 n_22_4 c_23_4] : List Value))))) 66 :: .sl A_21_0 c_23_0 n_22_0 x_25_0 22 1 :: .sl A_21_1 c_23_1 n_22_1 x_25_1 69 2 :: .sl A_21_4 c_23_4 n_22_4 x_25_4 71 2 :: (T_17 ++ R)) := st_36
    refine WL.nil ?_
    refine QW.then_n ?_
    refine CW.seq ?_
    refine CW.seq ?_
    refine CW.region ?_
    refine WL.val Wanted.none (Runs.assign rfl) ?_
    refine WL.nil ?_
    refine QW.then_n ?_
    refine CW.block ?_
    obtain ⟨k_38, H⟩ := H
    refine CW.sub [(0, .slice A0 n0 c0), (1, .slice A1 n1 c1), (4, .bool false), (6, .pointer (some ⟨b_20, 0, none⟩)), (8, .pointer (some ⟨B_34, 0, none⟩)), (9, .int .i64 0)] ⟨rfl, rfl, rfl, rfl, rfl, rfl, trivial⟩ ?_
    refine CW.loop (fun kL1 l_ w_ => ∃ (T_39 : Pool) (m_41 : List Int) (A_47 : Option Addr) (c_48 : Nat) (n_49 : Nat) (x_45 : Cells) (l_43 : List R22) (A_54 : Option Addr) (c_55 : Nat) (n_56 : Nat) (x_52 : Cells) (l_50 : List R69) (A_61 : Option Addr) (c_62 : Nat) (n_63 : Nat) (x_59 : Cells) (l_57 : List R71) (x_64 : Int) (b_65 : Bool) (b_66 : Bool) (x_67 : Int), l_ = [(0, .slice A0 n0 c0), (1, .slice A1 n1 c1), (4, .bool b_66), (6, .pointer (some ⟨b_20, 0, none⟩)), (8, .pointer (some ⟨B_34, 0, none⟩)), (9, .int .i64 x_67)] ∧ reliquarylaw06_DiskSome.L1 l0 l1 kL1 m_41 l_43 l_50 l_57 x_64 b_65 b_66 x_67 ∧ (Pl T_17 T_39) ∧ (m_41.length = 4) ∧ (n_49 = l_43.length) ∧ (HRs T_39 (f22 w) x_45 l_43) ∧ (n_56 = l_50.length) ∧ (HRs T_39 (f69 w) x_52 l_50) ∧ (n_63 = l_57.length) ∧ (HRs T_39 (f71 w) x_59 l_57) ∧ St w w_ (.cells B_34 (iv .u8 m_41) 29 :: .cells b_20 (([.slice A_47 n_49 c_48] : List Value) ++ (([.slice A_54 n_56 c_55] : List Value) ++ (([.int .i64 x_64] : List Value) ++ (([.bool b_65] : List Value) ++ ([.slice A_61 n_63 c_62] : List Value))))) 66 :: .sl A_47 c_48 n_49 x_45 22 1 :: .sl A_54 c_55 n_56 x_52 69 2 :: .sl A_61 c_62 n_63 x_59 71 2 :: (T_39 ++ R))) (k := k_38) ⟨T_17, List.replicate 4 (0 : Int), A_21_0, c_23_0, n_22_0, x_25_0, l_24_0, A_21_1, c_23_1, n_22_1, x_25_1, l_24_1, A_21_4, c_23_4, n_22_4, x_25_4, l_24_4, a_28_2, a_28_3, false, 0, rfl, H, Pl.refl, (List.length_replicate ..), hn_26_0, hx_27_0, hn_26_1, hx_27_1, hn_26_4, hx_27_4, st_36⟩ (fun _ _ h => by obtain ⟨_, _, _, _, _, _, _, _, _, _, _, _, _, _, _, _, _, _, _, _, _, _, h, _⟩ := h; exact h.elim) ?_
    rintro kL1 l_70 w_68 ⟨T_39, m_41, A_47, c_48, n_49, x_45, l_43, A_54, c_55, n_56, x_52, l_50, A_61, c_62, n_63, x_59, l_57, x_64, b_65, b_66, x_67, rfl, H, hs_40, hl_42, hn_44, hx_46, hn_51, hx_53, hn_58, hx_60, st_69⟩
    refine CW.seq ?_
    refine CW.seq ?_
    refine CW.region ?_
    refine WL.val Wanted.none (Runs.move rfl) ?_
    refine WL.val Wanted.none (Runs.move rfl) ?_
    refine WL.val Wanted.none (Runs.len_sl Try.underlying22 rfl (by rw [hn0])) ?_
    refine WL.val Wanted.none (Runs.lss rfl rfl rfl) ?_
    refine WL.nil ?_
    refine QW.then_n ?_
    rcases H with ⟨c_71, H⟩ | ⟨c_71, H⟩
    · have h_72 : (decide (x_67 < (l0.length : Int))) = true := (decide_eq_true c_71)
      refine CW.ct rfl h_72 ?_
      refine CW.skip ?_
      refine QW.then_n ?_
      refine CW.seq ?_
      refine CW.block ?_
      refine CW.seq ?_
      refine CW.region ?_
      refine WL.val Wanted.none (Runs.move rfl) ?_
      refine WL.val Wanted.none (Runs.move rfl) ?_
      obtain ⟨⟨p_73, q_74⟩, H⟩ := H
      obtain ⟨a_75, e_76⟩ := (hs0.ext st_69).addr_iv ((x_67).toNat) (by omega)
      refine WL.val Wanted.none (Runs.indexAddr Try.underlying22 cells5 (by decide) rfl e_76 rfl p_73 (by rw [hn0]; exact q_74) (o := (x_67).toNat) (by first | rfl | omega)) ?_
      refine WL.val Wanted.none (Runs.load nagg5 rfl ((hs0.ext st_69).cell_iv e_76 (by omega))) ?_
      refine WL.val Wanted.none (Runs.band rfl rfl rfl) ?_
      refine WL.val Wanted.none (Runs.conv Try.underlying3 ⟨_, Try.underlying5⟩ rfl rfl) ?_
      refine WL.val Wanted.none (Runs.assign rfl) ?_
      refine WL.nil ?_
      refine QW.then_n ?_
      refine CW.seq ?_
      refine CW.seq ?_
      refine CW.region ?_
      refine WL.val Wanted.none (Runs.move rfl) ?_
      refine WL.val Wanted.none (Runs.move rfl) ?_
      refine WL.val Wanted.none (Runs.move rfl) ?_
      refine WL.val Wanted.none (Runs.add rfl rfl rfl) ?_
      refine WL.val Wanted.none (Runs.conv Try.underlying5 ⟨_, Try.underlying3⟩ rfl rfl) ?_
      refine WL.buildSl [.int .u8 (IntKind.u8.wrap (IntKind.i64.wrap (x_67 + 1)))] st_69 Try.underlying22 elem5 rfl rfl (by decide) (by decide) (by simp [Value.cells]) ?_
      intro B_77 w_78 st_79
      replace st_79 : St w w_78 (.sl (some ⟨B_77, 0, none⟩) 1 1 (iv .u8 [IntKind.u8.wrap (IntKind.i64.wrap (x_67 + 1))]) 5 1 :: .cells B_34 (iv .u8 m_41) 29 :: .cells b_20 (([.slice A_47 n_49 c_48] : List Value) ++ (([.slice A_54 n_56 c_55] : List Value) ++ (([.int .i64 x_64] : List Value) ++ (([.bool b_65] : List Value) ++ ([.slice A_61 n_63 c_62] : List Value))))) 66 :: .sl A_47 c_48 n_49 x_45 22 1 :: .sl A_54 c_55 n_56 x_52 69 2 :: .sl A_61 c_62 n_63 x_59 71 2 :: (T_39 ++ R)) := st_79
      refine WL.val Wanted.none (Runs.build_struct (ps := [(0, 1), (1, 1), (2, 1), (3, 1), (4, 1)]) (cs := (([.int .i64 0] : List Value) ++ (([.int .i64 0] : List Value) ++ (([.slice (some ⟨B_77, 0, none⟩) 1 1] : List Value) ++ (([.slice none 0 0] : List Value) ++ ([.bool false] : List Value)))))) plc33 zero33 rfl (by refine Fills.cons (o := 2) (ms := (([.slice (some ⟨B_77, 0, none⟩) 1 1] : List Value))) (show _ = some (2, (([.slice (some ⟨B_77, 0, none⟩) 1 1] : List Value)).length) by rw [show (([.slice (some ⟨B_77, 0, none⟩) 1 1] : List Value)).length = 1 from (by first | rfl | simp only [List.length_append, List.length_cons, List.length_nil, iv_length])] <;> rfl) rfl (by have h1_ : (([.slice (some ⟨B_77, 0, none⟩) 1 1] : List Value)).length = 1 := (by first | rfl | simp only [List.length_append, List.length_cons, List.length_nil, iv_length]); have h2_ : (([.int .i64 0] : List Value) ++ (([.int .i64 0] : List Value) ++ (([.slice none 0 0] : List Value) ++ (([.slice none 0 0] : List Value) ++ ([.bool false] : List Value))))).length = 5 := (by first | rfl | simp only [List.length_append, List.length_cons, List.length_nil, iv_length]); omega) ?_; rw [show layV (([.int .i64 0] : List Value) ++ (([.int .i64 0] : List Value) ++ (([.slice none 0 0] : List Value) ++ (([.slice none 0 0] : List Value) ++ ([.bool false] : List Value))))) 2 (([.slice (some ⟨B_77, 0, none⟩) 1 1] : List Value)) = (([.int .i64 0] : List Value) ++ (([.int .i64 0] : List Value) ++ (([.slice (some ⟨B_77, 0, none⟩) 1 1] : List Value) ++ (([.slice none 0 0] : List Value) ++ ([.bool false] : List Value))))) from (layV_mid (pre := (([.int .i64 0] : List Value) ++ ([.int .i64 0] : List Value))) (mid := (([.slice none 0 0] : List Value))) (post := (([.slice none 0 0] : List Value) ++ ([.bool false] : List Value))) (by first | rfl | simp only [List.append_assoc, List.append_nil, List.nil_append, List.cons_append]) (by first | rfl | simp only [List.length_append, List.length_cons, List.length_nil, iv_length]) (Eq.trans (b := 1) (by first | rfl | simp only [List.length_append, List.length_cons, List.length_nil, iv_length]) (Eq.symm (by first | rfl | simp only [List.length_append, List.length_cons, List.length_nil, iv_length])))).trans (by first | rfl | simp only [List.append_assoc, List.append_nil, List.nil_append, List.cons_append])]; exact Fills.nil)) ?_
      have hb_85c := st_79.cap (i := 0) rfl
      obtain ⟨T_81, hs_82, hm_83, st_84⟩ := St.freeze (A := []) (B := [_, _, _, _, _]) (T := T_39) (R := R) st_79
      have hb_85 : HB w T_81 (some ⟨B_77, 0, none⟩) 1 1 (iv .u8 [IntKind.u8.wrap (IntKind.i64.wrap (x_67 + 1))]) [IntKind.u8.wrap (IntKind.i64.wrap (x_67 + 1))].length := ⟨rfl, hb_85c, Hd.of_sl hm_83⟩
      replace st_84 : St w w_78 (.cells B_34 (iv .u8 m_41) 29 :: .cells b_20 (([.slice A_47 n_49 c_48] : List Value) ++ (([.slice A_54 n_56 c_55] : List Value) ++ (([.int .i64 x_64] : List Value) ++ (([.bool b_65] : List Value) ++ ([.slice A_61 n_63 c_62] : List Value))))) 66 :: .sl A_47 c_48 n_49 x_45 22 1 :: .sl A_54 c_55 n_56 x_52 69 2 :: .sl A_61 c_62 n_63 x_59 71 2 :: (T_81 ++ R)) := st_84
      have st_86 : St w w_78 ((T_81 ++ (.cells B_34 (iv .u8 m_41) 29 :: .cells b_20 (([.slice A_47 n_49 c_48] : List Value) ++ (([.slice A_54 n_56 c_55] : List Value) ++ (([.int .i64 x_64] : List Value) ++ (([.bool b_65] : List Value) ++ ([.slice A_61 n_63 c_62] : List Value))))) 66 :: .sl A_47 c_48 n_49 x_45 22 1 :: .sl A_54 c_55 n_56 x_52 69 2 :: .sl A_61 c_62 n_63 x_59 71 2 :: R))) := St.hide (A := []) (B := [_, _, _, _, _]) (T := T_81) (R := R) st_84
      obtain ⟨l_94, hr_87, H⟩ := H
      refine WL.call Wanted.none ent12 rfl (reliquarylaw06_full.calls w w_78 T_81 (.cells B_34 (iv .u8 m_41) 29 :: .cells b_20 (([.slice A_47 n_49 c_48] : List Value) ++ (([.slice A_54 n_56 c_55] : List Value) ++ (([.int .i64 x_64] : List Value) ++ (([.bool b_65] : List Value) ++ ([.slice A_61 n_63 c_62] : List Value))))) 66 :: .sl A_47 c_48 n_49 x_45 22 1 :: .sl A_54 c_55 n_56 x_52 69 2 :: .sl A_61 c_62 n_63 x_59 71 2 :: R) 0 0 [IntKind.u8.wrap (IntKind.i64.wrap (x_67 + 1))] [] false (some ⟨B_77, 0, none⟩) 1 1 none 0 0  st_86 hb_85 HB.nil l_94 hr_87) ?_
      rintro _ w_97 ⟨T_88, A_91, n_92, c_93, hs_89, hn_96, rfl, sc_99⟩
      have st_98 : St w w_97 (.sl A_91 c_93 n_92 (iv .u8 l_94) 5 1 :: .cells B_34 (iv .u8 m_41) 29 :: .cells b_20 (([.slice A_47 n_49 c_48] : List Value) ++ (([.slice A_54 n_56 c_55] : List Value) ++ (([.int .i64 x_64] : List Value) ++ (([.bool b_65] : List Value) ++ ([.slice A_61 n_63 c_62] : List Value))))) 66 :: .sl A_47 c_48 n_49 x_45 22 1 :: .sl A_54 c_55 n_56 x_52 69 2 :: .sl A_61 c_62 n_63 x_59 71 2 :: (T_88 ++ R)) := St.unhide (A := [_]) (B := [_, _, _, _, _]) (T := T_88) (R := R) sc_99
      refine ⟨_, rfl, ?_⟩
      have st_100 := (St.pickT (L := [_, _, _, _, _, _]) st_98 [2, 3, 4, 5, 0, 1] (by decide))
      replace st_100 : St w w_97 (.cells b_20 (([.slice A_47 n_49 c_48] : List Value) ++ (([.slice A_54 n_56 c_55] : List Value) ++ (([.int .i64 x_64] : List Value) ++ (([.bool b_65] : List Value) ++ ([.slice A_61 n_63 c_62] : List Value))))) 66 :: .sl A_47 c_48 n_49 x_45 22 1 :: .sl A_54 c_55 n_56 x_52 69 2 :: .sl A_61 c_62 n_63 x_59 71 2 :: .sl A_91 c_93 n_92 (iv .u8 l_94) 5 1 :: .cells B_34 (iv .u8 m_41) 29 :: (T_88 ++ R)) := st_100
      have st_101 : St w w_97 (.cells b_20 (([.slice A_47 n_49 c_48] : List Value) ++ (([.slice A_54 n_56 c_55] : List Value) ++ (([.int .i64 x_64] : List Value) ++ (([.bool b_65] : List Value) ++ ([.slice A_61 n_63 c_62] : List Value))))) 66 :: .sl A_47 c_48 n_49 x_45 22 1 :: .sl A_54 c_55 n_56 x_52 69 2 :: .sl A_61 c_62 n_63 x_59 71 2 :: (T_88 ++ (.sl A_91 c_93 n_92 (iv .u8 l_94) 5 1 :: .cells B_34 (iv .u8 m_41) 29 :: R))) := St.hide (A := [_, _, _, _]) (B := [_, _]) (T := T_88) (R := R) st_100
      obtain ⟨l_108_0, l_108_1, a_112_2, a_112_3, l_108_4, a_114, hr_102, H⟩ := H
      refine WL.call Wanted.none ent11 rfl (disk_Disk_Write.calls w w_97 T_88 (.sl A_91 c_93 n_92 (iv .u8 l_94) 5 1 :: .cells B_34 (iv .u8 m_41) 29 :: R) l_43 l_50 x_64 b_65 l_57 (IntKind.i64.wrap (bits .and .u8 (gn l0 ((x_67).toNat)) 3)) l_94 b_20 A_47 n_49 c_48 x_45 A_54 n_56 c_55 x_52 A_61 n_63 c_62 x_59 A_91 n_92 c_93  st_101 (hn_44) (hx_46.mono (fun _ h_ => hs_89.1 _ (hs_82.1 _ h_))) (hn_51) (hx_53.mono (fun _ h_ => hs_89.1 _ (hs_82.1 _ h_))) (hn_58) (hx_60.mono (fun _ h_ => hs_89.1 _ (hs_82.1 _ h_))) ⟨hn_96, st_100.cap (i := 4) rfl, fun W_ L_ st hT => st.src_mem (hT _ (List.mem_append_right _ (List.mem_of_getElem? (i := 0) rfl)))⟩ l_108_0 l_108_1 a_112_2 a_112_3 l_108_4 a_114 hr_102) ?_
      rintro _ w_115 ⟨T_103, A_105_0, n_106_0, c_107_0, x_109_0, A_105_1, n_106_1, c_107_1, x_109_1, A_105_4, n_106_4, c_107_4, x_109_4, hs_104, hn_110_0, hx_111_0, hn_110_1, hx_111_1, hn_110_4, hx_111_4, rfl, sc_117⟩
      have st_116 : St w w_115 (.cells b_20 (([.slice A_105_0 n_106_0 c_107_0] : List Value) ++ (([.slice A_105_1 n_106_1 c_107_1] : List Value) ++ (([.int .i64 a_112_2] : List Value) ++ (([.bool a_112_3] : List Value) ++ ([.slice A_105_4 n_106_4 c_107_4] : List Value))))) 66 :: .sl A_105_0 c_107_0 n_106_0 x_109_0 22 1 :: .sl A_105_1 c_107_1 n_106_1 x_109_1 69 2 :: .sl A_105_4 c_107_4 n_106_4 x_109_4 71 2 :: .sl A_91 c_93 n_92 (iv .u8 l_94) 5 1 :: .cells B_34 (iv .u8 m_41) 29 :: (T_103 ++ R)) := St.unhide (A := [_, _, _, _]) (B := [_, _]) (T := T_103) (R := R) sc_117
      refine ⟨_, rfl, ?_⟩
      refine WL.val Wanted.none (Runs.neq rfl rfl rfl) ?_
      refine WL.nil ?_
      refine QW.then_n ?_
      obtain ⟨c_118, H⟩ := H
      have h_119 : (a_114 != 0) = false := (bne_eq_false_iff_eq.mpr (Decidable.not_not.mp c_118))
      refine CW.cf rfl h_119 ?_
      refine CW.skip ?_
      refine QW.then_n ?_
      refine CW.seq ?_
      refine CW.region ?_
      refine WL.val Wanted.none (Runs.move rfl) ?_
      refine WL.val Wanted.none (Runs.move rfl) ?_
      refine WL.val Wanted.none (Runs.len_sl Try.underlying23 rfl (by rw [hn1])) ?_
      refine WL.val Wanted.none (Runs.lss rfl rfl rfl) ?_
      refine WL.val Wanted.none (Runs.move rfl) ?_
      rcases H with ⟨c_120, H⟩ | ⟨c_120, H⟩
      · have h_121 : (decide (x_67 < (l1.length : Int))) = true := (decide_eq_true c_120)
        refine WL.on ?_ ?_; exact Wanted.guard (dj := 52) (by rfl) (evb (by rfl) h_121) (by rfl)
        refine WL.val Wanted.none (Runs.move rfl) ?_
        refine WL.on ?_ ?_; exact Wanted.guard (dj := 52) (by rfl) (evb (by rfl) h_121) (by rfl)
        refine WL.val Wanted.none (Runs.move rfl) ?_
        refine WL.on ?_ ?_; exact Wanted.guard (dj := 52) (by rfl) (evb (by rfl) h_121) (by rfl)
        obtain ⟨⟨p_122, q_123⟩, H⟩ := H
        obtain ⟨a_124, e_125⟩ := (hs1.ext st_116).addr_bv ((x_67).toNat) (by omega)
        refine WL.val Wanted.none (Runs.indexAddr Try.underlying23 cells4 (by decide) rfl e_125 rfl p_122 (by rw [hn1]; exact q_123) (o := (x_67).toNat) (by first | rfl | omega)) ?_
        refine WL.on ?_ ?_; exact Wanted.guard (dj := 52) (by rfl) (evb (by rfl) h_121) (by rfl)
        refine WL.val Wanted.none (Runs.load nagg4 rfl ((hs1.ext st_116).cell_bv e_125 (by omega))) ?_
        refine WL.val Wanted.none (Runs.pick_t (evb rfl h_121) rfl) ?_
        refine WL.nil ?_
        refine QW.then_n ?_
        rcases H with ⟨c_126, H⟩ | ⟨c_126, H⟩
        · have h_127 : (gb l1 ((x_67).toNat)) = true := c_126
          refine CW.ct rfl h_127 ?_
          refine CW.region ?_
          refine WL.val Wanted.none (Runs.move rfl) ?_
          refine WL.val Wanted.none (Runs.move rfl) ?_
          refine WL.val Wanted.none (Runs.add rfl rfl rfl) ?_
          refine WL.val Wanted.none (Runs.conv Try.underlying5 ⟨_, Try.underlying3⟩ rfl rfl) ?_
          obtain ⟨⟨p_128, q_129⟩, H⟩ := H
          refine WL.val Wanted.none (Runs.indexAddr_blk arr29 rfl rfl p_128 q_129 (o := (IntKind.i64.wrap (bits .and .u8 (gn l0 ((x_67).toNat)) 3)).toNat) (by first | rfl | omega)) ?_
          obtain ⟨m_130, e_131, H⟩ := H
          have hl_134 : m_130.length = 4 := by rw [e_131, List.length_set]; exact hl_42
          refine WL.store_cells (i := 5) st_116 rfl cells5 rfl (by rw [iv_length]; have := hl_42; omega) rfl rfl ?_
          intro w_132 st_133
          have st_133' : St w w_132 (.cells b_20 (([.slice A_105_0 n_106_0 c_107_0] : List Value) ++ (([.slice A_105_1 n_106_1 c_107_1] : List Value) ++ (([.int .i64 a_112_2] : List Value) ++ (([.bool a_112_3] : List Value) ++ ([.slice A_105_4 n_106_4 c_107_4] : List Value))))) 66 :: .sl A_105_0 c_107_0 n_106_0 x_109_0 22 1 :: .sl A_105_1 c_107_1 n_106_1 x_109_1 69 2 :: .sl A_105_4 c_107_4 n_106_4 x_109_4 71 2 :: .sl A_91 c_93 n_92 (iv .u8 l_94) 5 1 :: .cells B_34 (iv .u8 m_130) 29 :: (T_103 ++ R)) := by rw [e_131, ← iv_set .u8 m_41 ((IntKind.i64.wrap (bits .and .u8 (gn l0 ((x_67).toNat)) 3)).toNat) (IntKind.u8.wrap (IntKind.i64.wrap (x_67 + 1)))]; exact st_133
          refine WL.nil ?_
          refine QW.blk_n ?_
          refine QW.then_n ?_
          refine CW.region ?_
          refine WL.val Wanted.none (Runs.move rfl) ?_
          refine WL.val Wanted.none (Runs.add rfl rfl rfl) ?_
          refine WL.val Wanted.none (Runs.assign rfl) ?_
          refine WL.nil ?_
          have st_133'' := (St.pickT (L := [_, _, _, _, _, _]) st_133' [5, 0, 1, 2, 3] (by decide))
          exact QW.at [(0, .slice A0 n0 c0), (1, .slice A1 n1 c1), (4, .bool b_66), (6, .pointer (some ⟨b_20, 0, none⟩)), (8, .pointer (some ⟨B_34, 0, none⟩)), (9, .int .i64 (IntKind.i64.wrap (x_67 + 1)))] ⟨rfl, rfl, rfl, rfl, rfl, rfl, trivial⟩ ⟨T_103, m_130, A_105_0, c_107_0, n_106_0, x_109_0, l_108_0, A_105_1, c_107_1, n_106_1, x_109_1, l_108_1, A_105_4, c_107_4, n_106_4, x_109_4, l_108_4, a_112_2, a_112_3, b_66, IntKind.i64.wrap (x_67 + 1), rfl, H, (((hs_40.trans hs_82).trans hs_89).trans hs_104), hl_134, hn_110_0, hx_111_0, hn_110_1, hx_111_1, hn_110_4, hx_111_4, st_133''⟩
        · have h_127 : (gb l1 ((x_67).toNat)) = false := (Bool.eq_false_iff.mpr c_126)
          refine CW.cf rfl h_127 ?_
          refine CW.skip ?_
          refine QW.blk_n ?_
          refine QW.then_n ?_
          refine CW.region ?_
          refine WL.val Wanted.none (Runs.move rfl) ?_
          refine WL.val Wanted.none (Runs.add rfl rfl rfl) ?_
          refine WL.val Wanted.none (Runs.assign rfl) ?_
          refine WL.nil ?_
          have st_116' := (St.pickT (L := [_, _, _, _, _, _]) st_116 [5, 0, 1, 2, 3] (by decide))
          exact QW.at [(0, .slice A0 n0 c0), (1, .slice A1 n1 c1), (4, .bool b_66), (6, .pointer (some ⟨b_20, 0, none⟩)), (8, .pointer (some ⟨B_34, 0, none⟩)), (9, .int .i64 (IntKind.i64.wrap (x_67 + 1)))] ⟨rfl, rfl, rfl, rfl, rfl, rfl, trivial⟩ ⟨T_103, m_41, A_105_0, c_107_0, n_106_0, x_109_0, l_108_0, A_105_1, c_107_1, n_106_1, x_109_1, l_108_1, A_105_4, c_107_4, n_106_4, x_109_4, l_108_4, a_112_2, a_112_3, b_66, IntKind.i64.wrap (x_67 + 1), rfl, H, (((hs_40.trans hs_82).trans hs_89).trans hs_104), hl_42, hn_110_0, hx_111_0, hn_110_1, hx_111_1, hn_110_4, hx_111_4, st_116'⟩
      · have h_121 : (decide (x_67 < (l1.length : Int))) = false := (decide_eq_false c_120)
        refine WL.off ?_ ?_; exact Wanted.guard (dj := 52) (by rfl) (evb (by rfl) h_121) (by rfl)
        refine WL.off ?_ ?_; exact Wanted.guard (dj := 52) (by rfl) (evb (by rfl) h_121) (by rfl)
        refine WL.off ?_ ?_; exact Wanted.guard (dj := 52) (by rfl) (evb (by rfl) h_121) (by rfl)
        refine WL.off ?_ ?_; exact Wanted.guard (dj := 52) (by rfl) (evb (by rfl) h_121) (by rfl)
        refine WL.val Wanted.none (Runs.pick_f (evb rfl h_121) rfl) ?_
        refine WL.nil ?_
        refine QW.then_n ?_
        refine CW.cf rfl rfl ?_
        refine CW.skip ?_
        refine QW.blk_n ?_
        refine QW.then_n ?_
        refine CW.region ?_
        refine WL.val Wanted.none (Runs.move rfl) ?_
        refine WL.val Wanted.none (Runs.add rfl rfl rfl) ?_
        refine WL.val Wanted.none (Runs.assign rfl) ?_
        refine WL.nil ?_
        have st_116' := (St.pickT (L := [_, _, _, _, _, _]) st_116 [5, 0, 1, 2, 3] (by decide))
        exact QW.at [(0, .slice A0 n0 c0), (1, .slice A1 n1 c1), (4, .bool b_66), (6, .pointer (some ⟨b_20, 0, none⟩)), (8, .pointer (some ⟨B_34, 0, none⟩)), (9, .int .i64 (IntKind.i64.wrap (x_67 + 1)))] ⟨rfl, rfl, rfl, rfl, rfl, rfl, trivial⟩ ⟨T_103, m_41, A_105_0, c_107_0, n_106_0, x_109_0, l_108_0, A_105_1, c_107_1, n_106_1, x_109_1, l_108_1, A_105_4, c_107_4, n_106_4, x_109_4, l_108_4, a_112_2, a_112_3, b_66, IntKind.i64.wrap (x_67 + 1), rfl, H, (((hs_40.trans hs_82).trans hs_89).trans hs_104), hl_42, hn_110_0, hx_111_0, hn_110_1, hx_111_1, hn_110_4, hx_111_4, st_116'⟩
    · have h_72 : (decide (x_67 < (l0.length : Int))) = false := (decide_eq_false c_71)
      refine CW.cf rfl h_72 ?_
      refine CW.exit ?_
      refine QW.then_x ?_
      refine QW.then_x ?_
      refine QW.blk_x ?_
      refine QW.then_n ?_
      refine CW.seq ?_
      refine CW.seq ?_
      refine CW.region ?_
      refine WL.val Wanted.none (Runs.move rfl) ?_
      have st_135 := (St.pickT (L := [_, _, _, _, _]) st_69 [1, 2, 3, 4, 0] (by decide))
      replace st_135 : St w w_68 (.cells b_20 (([.slice A_47 n_49 c_48] : List Value) ++ (([.slice A_54 n_56 c_55] : List Value) ++ (([.int .i64 x_64] : List Value) ++ (([.bool b_65] : List Value) ++ ([.slice A_61 n_63 c_62] : List Value))))) 66 :: .sl A_47 c_48 n_49 x_45 22 1 :: .sl A_54 c_55 n_56 x_52 69 2 :: .sl A_61 c_62 n_63 x_59 71 2 :: .cells B_34 (iv .u8 m_41) 29 :: (T_39 ++ R)) := st_135
      have st_136 : St w w_68 (.cells b_20 (([.slice A_47 n_49 c_48] : List Value) ++ (([.slice A_54 n_56 c_55] : List Value) ++ (([.int .i64 x_64] : List Value) ++ (([.bool b_65] : List Value) ++ ([.slice A_61 n_63 c_62] : List Value))))) 66 :: .sl A_47 c_48 n_49 x_45 22 1 :: .sl A_54 c_55 n_56 x_52 69 2 :: .sl A_61 c_62 n_63 x_59 71 2 :: (T_39 ++ (.cells B_34 (iv .u8 m_41) 29 :: R))) := St.hide (A := [_, _, _, _]) (B := [_]) (T := T_39) (R := R) st_135
      obtain ⟨l_143_0, l_143_1, a_147_2, a_147_3, l_143_4, a_149, hr_137, H⟩ := H
      refine WL.call Wanted.none ent13 rfl (disk_Disk_Pending.calls w w_68 T_39 (.cells B_34 (iv .u8 m_41) 29 :: R) l_43 l_50 x_64 b_65 l_57 b_20 A_47 n_49 c_48 x_45 A_54 n_56 c_55 x_52 A_61 n_63 c_62 x_59  st_136 (hn_44) hx_46 (hn_51) hx_53 (hn_58) hx_60 l_143_0 l_143_1 a_147_2 a_147_3 l_143_4 a_149 hr_137) ?_
      rintro _ w_150 ⟨T_138, A_140_0, n_141_0, c_142_0, x_144_0, A_140_1, n_141_1, c_142_1, x_144_1, A_140_4, n_141_4, c_142_4, x_144_4, hs_139, hn_145_0, hx_146_0, hn_145_1, hx_146_1, hn_145_4, hx_146_4, rfl, sc_152⟩
      have st_151 : St w w_150 (.cells b_20 (([.slice A_140_0 n_141_0 c_142_0] : List Value) ++ (([.slice A_140_1 n_141_1 c_142_1] : List Value) ++ (([.int .i64 a_147_2] : List Value) ++ (([.bool a_147_3] : List Value) ++ ([.slice A_140_4 n_141_4 c_142_4] : List Value))))) 66 :: .sl A_140_0 c_142_0 n_141_0 x_144_0 22 1 :: .sl A_140_1 c_142_1 n_141_1 x_144_1 69 2 :: .sl A_140_4 c_142_4 n_141_4 x_144_4 71 2 :: .cells B_34 (iv .u8 m_41) 29 :: (T_138 ++ R)) := St.unhide (A := [_, _, _, _]) (B := [_]) (T := T_138) (R := R) sc_152
      refine ⟨_, rfl, ?_⟩
      refine WL.val Wanted.none (Runs.move rfl) ?_
      refine WL.val Wanted.none (Runs.len_sl Try.underlying22 rfl (by rw [hn0])) ?_
      refine WL.val Wanted.none (Runs.neq rfl rfl rfl) ?_
      refine WL.nil ?_
      refine QW.then_n ?_
      refine CW.sub [(1, .slice A1 n1 c1), (4, .bool b_66), (6, .pointer (some ⟨b_20, 0, none⟩)), (8, .pointer (some ⟨B_34, 0, none⟩)), (67, .bool (a_149 != (l0.length : Int)))] ⟨rfl, rfl, rfl, rfl, rfl, trivial⟩ ?_
      obtain ⟨c_153, H⟩ := H
      have h_154 : (a_149 != (l0.length : Int)) = false := (bne_eq_false_iff_eq.mpr (Decidable.not_not.mp c_153))
      refine CW.cf rfl h_154 ?_
      refine CW.skip ?_
      refine QW.then_n ?_
      refine CW.seq ?_
      refine CW.region ?_
      refine WL.val Wanted.none (Runs.move rfl) ?_
      refine WL.val Wanted.none (Runs.move rfl) ?_
      have st_155 : St w w_150 (.cells b_20 (([.slice A_140_0 n_141_0 c_142_0] : List Value) ++ (([.slice A_140_1 n_141_1 c_142_1] : List Value) ++ (([.int .i64 a_147_2] : List Value) ++ (([.bool a_147_3] : List Value) ++ ([.slice A_140_4 n_141_4 c_142_4] : List Value))))) 66 :: .sl A_140_0 c_142_0 n_141_0 x_144_0 22 1 :: .sl A_140_1 c_142_1 n_141_1 x_144_1 69 2 :: .sl A_140_4 c_142_4 n_141_4 x_144_4 71 2 :: (T_138 ++ (.cells B_34 (iv .u8 m_41) 29 :: R))) := St.hide (A := [_, _, _, _]) (B := [_]) (T := T_138) (R := R) st_151
      obtain ⟨l_162_0, l_162_1, a_166_2, a_166_3, l_162_4, hr_156, H⟩ := H
      refine WL.call Wanted.none ent14 rfl (disk_Disk_Crash.calls w w_150 T_138 (.cells B_34 (iv .u8 m_41) 29 :: R) l_143_0 l_143_1 a_147_2 a_147_3 l_143_4 l1 b_20 A_140_0 n_141_0 c_142_0 x_144_0 A_140_1 n_141_1 c_142_1 x_144_1 A_140_4 n_141_4 c_142_4 x_144_4 A1 n1 c1  st_155 (hn_145_0) hx_146_0 (hn_145_1) hx_146_1 (hn_145_4) hx_146_4 ⟨hn1, hc1, fun W_ L_ st hT => hs1.ext st⟩ l_162_0 l_162_1 a_166_2 a_166_3 l_162_4 hr_156) ?_
      rintro _ w_167 ⟨T_157, A_159_0, n_160_0, c_161_0, x_163_0, A_159_1, n_160_1, c_161_1, x_163_1, A_159_4, n_160_4, c_161_4, x_163_4, hs_158, hn_164_0, hx_165_0, hn_164_1, hx_165_1, hn_164_4, hx_165_4, rfl, sc_169⟩
      have st_168 : St w w_167 (.cells b_20 (([.slice A_159_0 n_160_0 c_161_0] : List Value) ++ (([.slice A_159_1 n_160_1 c_161_1] : List Value) ++ (([.int .i64 a_166_2] : List Value) ++ (([.bool a_166_3] : List Value) ++ ([.slice A_159_4 n_160_4 c_161_4] : List Value))))) 66 :: .sl A_159_0 c_161_0 n_160_0 x_163_0 22 1 :: .sl A_159_1 c_161_1 n_160_1 x_163_1 69 2 :: .sl A_159_4 c_161_4 n_160_4 x_163_4 71 2 :: .cells B_34 (iv .u8 m_41) 29 :: (T_157 ++ R)) := St.unhide (A := [_, _, _, _]) (B := [_]) (T := T_157) (R := R) sc_169
      refine ⟨_, rfl, ?_⟩
      refine WL.nil ?_
      refine QW.then_n ?_
      refine CW.seq ?_
      refine CW.seq ?_
      refine CW.region ?_
      refine WL.val Wanted.none (Runs.assign rfl) ?_
      refine WL.nil ?_
      refine QW.then_n ?_
      refine CW.block ?_
      obtain ⟨k_170, H⟩ := H
      refine CW.sub [(4, .bool b_66), (6, .pointer (some ⟨b_20, 0, none⟩)), (8, .pointer (some ⟨B_34, 0, none⟩)), (11, .int .i64 0)] ⟨rfl, rfl, rfl, rfl, trivial⟩ ?_
      refine CW.loop (fun kL2 l_ w_ => ∃ (T_171 : Pool) (A_177 : Option Addr) (c_178 : Nat) (n_179 : Nat) (x_175 : Cells) (l_173 : List R22) (A_184 : Option Addr) (c_185 : Nat) (n_186 : Nat) (x_182 : Cells) (l_180 : List R69) (A_191 : Option Addr) (c_192 : Nat) (n_193 : Nat) (x_189 : Cells) (l_187 : List R71) (x_194 : Int) (b_195 : Bool) (b_196 : Bool) (x_197 : Int), l_ = [(4, .bool b_196), (6, .pointer (some ⟨b_20, 0, none⟩)), (8, .pointer (some ⟨B_34, 0, none⟩)), (11, .int .i64 x_197)] ∧ reliquarylaw06_DiskSome.L2 m_41 kL2 l_173 l_180 l_187 x_194 b_195 b_196 x_197 ∧ (Pl T_157 T_171) ∧ (n_179 = l_173.length) ∧ (HRs T_171 (f22 w) x_175 l_173) ∧ (n_186 = l_180.length) ∧ (HRs T_171 (f69 w) x_182 l_180) ∧ (n_193 = l_187.length) ∧ (HRs T_171 (f71 w) x_189 l_187) ∧ St w w_ (.cells b_20 (([.slice A_177 n_179 c_178] : List Value) ++ (([.slice A_184 n_186 c_185] : List Value) ++ (([.int .i64 x_194] : List Value) ++ (([.bool b_195] : List Value) ++ ([.slice A_191 n_193 c_192] : List Value))))) 66 :: .sl A_177 c_178 n_179 x_175 22 1 :: .sl A_184 c_185 n_186 x_182 69 2 :: .sl A_191 c_192 n_193 x_189 71 2 :: .cells B_34 (iv .u8 m_41) 29 :: (T_171 ++ R))) (k := k_170) ⟨T_157, A_159_0, c_161_0, n_160_0, x_163_0, l_162_0, A_159_1, c_161_1, n_160_1, x_163_1, l_162_1, A_159_4, c_161_4, n_160_4, x_163_4, l_162_4, a_166_2, a_166_3, b_66, 0, rfl, H, Pl.refl, hn_164_0, hx_165_0, hn_164_1, hx_165_1, hn_164_4, hx_165_4, st_168⟩ (fun _ _ h => by obtain ⟨_, _, _, _, _, _, _, _, _, _, _, _, _, _, _, _, _, _, _, _, _, h, _⟩ := h; exact h.elim) ?_
      rintro kL2 l_200 w_198 ⟨T_171, A_177, c_178, n_179, x_175, l_173, A_184, c_185, n_186, x_182, l_180, A_191, c_192, n_193, x_189, l_187, x_194, b_195, b_196, x_197, rfl, H, hs_172, hn_174, hx_176, hn_181, hx_183, hn_188, hx_190, st_199⟩
      refine CW.seq ?_
      refine CW.seq ?_
      refine CW.region ?_
      refine WL.val Wanted.none (Runs.move rfl) ?_
      refine WL.val Wanted.none (Runs.lss rfl rfl rfl) ?_
      refine WL.nil ?_
      refine QW.then_n ?_
      rcases H with ⟨c_201, H⟩ | ⟨c_201, H⟩
      · have h_202 : (decide (x_197 < 4)) = true := (decide_eq_true c_201)
        refine CW.ct rfl h_202 ?_
        refine CW.skip ?_
        refine QW.then_n ?_
        refine CW.seq ?_
        refine CW.block ?_
        refine CW.seq ?_
        refine CW.region ?_
        refine WL.val Wanted.none (Runs.move rfl) ?_
        refine WL.val Wanted.none (Runs.move rfl) ?_
        have st_203 : St w w_198 (.cells b_20 (([.slice A_177 n_179 c_178] : List Value) ++ (([.slice A_184 n_186 c_185] : List Value) ++ (([.int .i64 x_194] : List Value) ++ (([.bool b_195] : List Value) ++ ([.slice A_191 n_193 c_192] : List Value))))) 66 :: .sl A_177 c_178 n_179 x_175 22 1 :: .sl A_184 c_185 n_186 x_182 69 2 :: .sl A_191 c_192 n_193 x_189 71 2 :: (T_171 ++ (.cells B_34 (iv .u8 m_41) 29 :: R))) := St.hide (A := [_, _, _, _]) (B := [_]) (T := T_171) (R := R) st_199
        obtain ⟨l_210_0, l_210_1, a_214_2, a_214_3, l_210_4, l_219, a_223, hr_204, H⟩ := H
        refine WL.call Wanted.none ent15 rfl (disk_Disk_Read.calls w w_198 T_171 (.cells B_34 (iv .u8 m_41) 29 :: R) l_173 l_180 x_194 b_195 l_187 x_197 b_20 A_177 n_179 c_178 x_175 A_184 n_186 c_185 x_182 A_191 n_193 c_192 x_189 (hs_172.2 (hs_158.2 (hs_139.2 (hs_40.2 (hs_18.2 hT))))) (show celly (.cells B_34 (iv .u8 m_41) 29 :: R) = true from hR) st_203 (hn_174) hx_176 (hn_181) hx_183 (hn_188) hx_190 l_210_0 l_210_1 a_214_2 a_214_3 l_210_4 l_219 a_223 hr_204) ?_
        rintro _ w_224 ⟨T_205, A_207_0, n_208_0, c_209_0, x_211_0, A_207_1, n_208_1, c_209_1, x_211_1, A_207_4, n_208_4, c_209_4, x_211_4, A_216, n_217, c_218, hs_206, hn_212_0, hx_213_0, hn_212_1, hx_213_1, hn_212_4, hx_213_4, hn_221, rfl, sc_226⟩
        have st_225 : St w w_224 (.cells b_20 (([.slice A_207_0 n_208_0 c_209_0] : List Value) ++ (([.slice A_207_1 n_208_1 c_209_1] : List Value) ++ (([.int .i64 a_214_2] : List Value) ++ (([.bool a_214_3] : List Value) ++ ([.slice A_207_4 n_208_4 c_209_4] : List Value))))) 66 :: .sl A_207_0 c_209_0 n_208_0 x_211_0 22 1 :: .sl A_207_1 c_209_1 n_208_1 x_211_1 69 2 :: .sl A_207_4 c_209_4 n_208_4 x_211_4 71 2 :: .sl A_216 c_218 n_217 (iv .u8 l_219) 5 1 :: .cells B_34 (iv .u8 m_41) 29 :: (T_205 ++ R)) := St.unhide (A := [_, _, _, _, _]) (B := [_]) (T := T_205) (R := R) sc_226
        refine ⟨_, rfl, ?_⟩
        refine WL.val Wanted.none (Runs.move rfl) ?_
        refine WL.val Wanted.none (Runs.extract rfl rfl) ?_
        refine WL.val Wanted.none (Runs.extract rfl rfl) ?_
        refine WL.val Wanted.none (Runs.assign rfl) ?_
        refine WL.val Wanted.none (Runs.assign rfl) ?_
        refine WL.nil ?_
        refine QW.then_n ?_
        refine CW.seq ?_
        refine CW.region_qa wide (by kernel_rfl) st_225 ?_
        refine HL.val Wanted.none (fun wq sq => (Runs.move rfl)) ?_
        refine HL.val Wanted.none (fun wq sq => (Runs.neq rfl rfl rfl)) ?_
        refine HL.val Wanted.none (fun wq sq => (Runs.move rfl)) ?_
        obtain ⟨c_227, H⟩ := H
        have h_228 : (a_223 != 0) = false := (bne_eq_false_iff_eq.mpr (Decidable.not_not.mp c_227))
        refine HL.on ?_ ?_; exact Wanted.guard (dj := 83) (by rfl) (evb (by rfl) h_228) (by rfl)
        refine HL.val Wanted.none (fun wq sq => (Runs.move rfl)) ?_
        refine HL.on ?_ ?_; exact Wanted.guard (dj := 83) (by rfl) (evb (by rfl) h_228) (by rfl)
        obtain ⟨⟨p_231, q_232⟩, H⟩ := H
        obtain ⟨a_233, e_234⟩ := (st_225.src_sl (k := 4) rfl).addr_iv 0 (by omega)
        refine HL.val Wanted.none (fun wq sq => (Runs.indexAddr Try.underlying22 cells5 (by decide) rfl e_234 rfl p_231 (by rw [hn_221]; exact q_232) (o := 0) (by first | rfl | omega))) ?_
        refine HL.on ?_ ?_; exact Wanted.guard (dj := 83) (by rfl) (evb (by rfl) h_228) (by rfl)
        refine HL.val Wanted.none (fun wq sq => (Runs.load nagg5 rfl ((sq.src_sl (k := 4) rfl).cell_iv e_234 (by omega)))) ?_
        refine HL.on ?_ ?_; exact Wanted.guard (dj := 83) (by rfl) (evb (by rfl) h_228) (by rfl)
        refine HL.val Wanted.none (fun wq sq => (Runs.move rfl)) ?_
        refine HL.on ?_ ?_; exact Wanted.guard (dj := 83) (by rfl) (evb (by rfl) h_228) (by rfl)
        obtain ⟨⟨p_235, q_236⟩, H⟩ := H
        refine HL.val Wanted.none (fun wq sq => (Runs.indexAddr_blk arr29 rfl rfl p_235 q_236 (o := (x_197).toNat) (by first | rfl | omega))) ?_
        refine HL.on ?_ ?_; exact Wanted.guard (dj := 83) (by rfl) (evb (by rfl) h_228) (by rfl)
        refine HL.val Wanted.none (fun wq sq => (Runs.load nagg5 rfl (sq.cell_iv (i := 5) rfl (by have := hl_42; omega)))) ?_
        refine HL.on ?_ ?_; exact Wanted.guard (dj := 83) (by rfl) (evb (by rfl) h_228) (by rfl)
        refine HL.val Wanted.none (fun wq sq => (Runs.neq rfl rfl rfl)) ?_
        refine HL.val Wanted.none (fun wq sq => (Runs.pick_f (evb rfl h_228) rfl)) ?_
        refine HL.nil (fun w_237 st_238 => ?_)
        refine WL.nil ?_
        refine QW.then_n ?_
        obtain ⟨c_239, H⟩ := H
        have h_240 : ((gn l_219 0) != (gn m_41 ((x_197).toNat))) = false := (bne_eq_false_iff_eq.mpr (Decidable.not_not.mp c_239))
        refine CW.cf rfl h_240 ?_
        refine CW.skip ?_
        refine QW.blk_n ?_
        refine QW.then_n ?_
        refine CW.region ?_
        refine WL.val Wanted.none (Runs.move rfl) ?_
        refine WL.val Wanted.none (Runs.add rfl rfl rfl) ?_
        refine WL.val Wanted.none (Runs.assign rfl) ?_
        refine WL.nil ?_
        have st_238' := (St.pickT (L := [_, _, _, _, _, _]) st_238 [0, 1, 2, 3, 5] (by decide))
        exact QW.at [(4, .bool b_196), (6, .pointer (some ⟨b_20, 0, none⟩)), (8, .pointer (some ⟨B_34, 0, none⟩)), (11, .int .i64 (IntKind.i64.wrap (x_197 + 1)))] ⟨rfl, rfl, rfl, rfl, trivial⟩ ⟨T_205, A_207_0, c_209_0, n_208_0, x_211_0, l_210_0, A_207_1, c_209_1, n_208_1, x_211_1, l_210_1, A_207_4, c_209_4, n_208_4, x_211_4, l_210_4, a_214_2, a_214_3, b_196, IntKind.i64.wrap (x_197 + 1), rfl, H, (hs_172.trans hs_206), hn_212_0, hx_213_0, hn_212_1, hx_213_1, hn_212_4, hx_213_4, st_238'⟩
      · have h_202 : (decide (x_197 < 4)) = false := (decide_eq_false c_201)
        refine CW.cf rfl h_202 ?_
        refine CW.exit ?_
        refine QW.then_x ?_
        refine QW.then_x ?_
        refine QW.blk_x ?_
        refine QW.then_n ?_
        refine CW.seq ?_
        refine CW.region ?_
        refine WL.val Wanted.none (Runs.move rfl) ?_
        have st_241 : St w w_198 (.cells b_20 (([.slice A_177 n_179 c_178] : List Value) ++ (([.slice A_184 n_186 c_185] : List Value) ++ (([.int .i64 x_194] : List Value) ++ (([.bool b_195] : List Value) ++ ([.slice A_191 n_193 c_192] : List Value))))) 66 :: .sl A_177 c_178 n_179 x_175 22 1 :: .sl A_184 c_185 n_186 x_182 69 2 :: .sl A_191 c_192 n_193 x_189 71 2 :: (T_171 ++ (.cells B_34 (iv .u8 m_41) 29 :: R))) := St.hide (A := [_, _, _, _]) (B := [_]) (T := T_171) (R := R) st_199
        obtain ⟨l_248_0, l_248_1, a_252_2, a_252_3, l_248_4, a_254, hr_242, H⟩ := H
        refine WL.call Wanted.none ent13 rfl (disk_Disk_Pending.calls w w_198 T_171 (.cells B_34 (iv .u8 m_41) 29 :: R) l_173 l_180 x_194 b_195 l_187 b_20 A_177 n_179 c_178 x_175 A_184 n_186 c_185 x_182 A_191 n_193 c_192 x_189  st_241 (hn_174) hx_176 (hn_181) hx_183 (hn_188) hx_190 l_248_0 l_248_1 a_252_2 a_252_3 l_248_4 a_254 hr_242) ?_
        rintro _ w_255 ⟨T_243, A_245_0, n_246_0, c_247_0, x_249_0, A_245_1, n_246_1, c_247_1, x_249_1, A_245_4, n_246_4, c_247_4, x_249_4, hs_244, hn_250_0, hx_251_0, hn_250_1, hx_251_1, hn_250_4, hx_251_4, rfl, sc_257⟩
        have st_256 : St w w_255 (.cells b_20 (([.slice A_245_0 n_246_0 c_247_0] : List Value) ++ (([.slice A_245_1 n_246_1 c_247_1] : List Value) ++ (([.int .i64 a_252_2] : List Value) ++ (([.bool a_252_3] : List Value) ++ ([.slice A_245_4 n_246_4 c_247_4] : List Value))))) 66 :: .sl A_245_0 c_247_0 n_246_0 x_249_0 22 1 :: .sl A_245_1 c_247_1 n_246_1 x_249_1 69 2 :: .sl A_245_4 c_247_4 n_246_4 x_249_4 71 2 :: .cells B_34 (iv .u8 m_41) 29 :: (T_243 ++ R)) := St.unhide (A := [_, _, _, _]) (B := [_]) (T := T_243) (R := R) sc_257
        refine ⟨_, rfl, ?_⟩
        refine WL.val Wanted.none (Runs.eql rfl rfl rfl) ?_
        refine WL.val Wanted.none (Runs.assign rfl) ?_
        refine WL.nil ?_
        refine QW.then_n ?_
        refine CW.sub [(4, .bool (a_254 == 0))] ⟨rfl, trivial⟩ ?_
        refine CW.ret ?_
        have hz : (a_254 == 0) = true := (beq_iff_eq.mpr H)
        exact QW.ret1 rfl (evb rfl hz) ⟨rfl, st_256.ext⟩

/-! ### disk_Disk_Flush: function 16 -/
def disk_Disk_Flush.L1 (l0_1 : List R69) (a0_2 : Int) (a0_3 : Bool) (l0_4 : List R71) (ls0_0 : List R22) (ls0_1 : List R69) (as0_2 : Int) (as0_3 : Bool) (ls0_4 : List R71) (ar0 : Int) : Nat → (List R22) → Int → Prop
  | 0, _, _ => False
  | kL1 + 1, l_6, x_10 => ((x_10 < (l0_1.length : Int) ∧ ((0 ≤ x_10 ∧ x_10 < (l0_1.length : Int)) ∧ ((0 ≤ ((gx l0_1 ((x_10).toNat)).1) ∧ ((gx l0_1 ((x_10).toNat)).1) < (l_6.length : Int)) ∧ (∃ m_48 : List R22, m_48 = List.set l_6 (((gx l0_1 ((x_10).toNat)).1).toNat) (gx l0_1 ((x_10).toNat)).2 ∧ disk_Disk_Flush.L1 l0_1 a0_2 a0_3 l0_4 ls0_0 ls0_1 as0_2 as0_3 ls0_4 ar0 kL1 m_48 (IntKind.i64.wrap (x_10 + 1)))))) ∨ (¬ (x_10 < (l0_1.length : Int)) ∧ (∃ m_73 : List R71, m_73 = l0_4 ++ ([(3, 0)] : List R71) ∧ (m_73.length ≤ 1099511627776 ∧ ls0_0 = l_6 ∧ ls0_1 = ([] : List R69) ∧ as0_2 = a0_2 ∧ as0_3 = a0_3 ∧ ls0_4 = m_73 ∧ ar0 = 0))))
def disk_Disk_Flush.rel (l0_0 : List R22) (l0_1 : List R69) (a0_2 : Int) (a0_3 : Bool) (l0_4 : List R71) (ls0_0 : List R22) (ls0_1 : List R69) (as0_2 : Int) (as0_3 : Bool) (ls0_4 : List R71) (ar0 : Int) : Prop := ((a0_3 = true ∧ ls0_0 = l0_0 ∧ ls0_1 = l0_1 ∧ as0_2 = a0_2 ∧ as0_3 = a0_3 ∧ ls0_4 = l0_4 ∧ ar0 = 13) ∨ (¬ (a0_3 = true) ∧ (∃ k_ : Nat, disk_Disk_Flush.L1 l0_1 a0_2 a0_3 l0_4 ls0_0 ls0_1 as0_2 as0_3 ls0_4 ar0 k_ l0_0 0)))
set_option maxHeartbeats 1000000 in
set_option maxRecDepth 100000 in
theorem disk_Disk_Flush.calls (w w1 : World) (T R : Pool) (l0_0 : List R22) (l0_1 : List R69) (a0_2 : Int) (a0_3 : Bool) (l0_4 : List R71) (b0 : Nat) (A0_0 : Option Addr) (n0_0 : Nat) (c0_0 : Nat) (x0_0 : Cells) (A0_1 : Option Addr) (n0_1 : Nat) (c0_1 : Nat) (x0_1 : Cells) (A0_4 : Option Addr) (n0_4 : Nat) (c0_4 : Nat) (x0_4 : Cells) (st0 : St w w1 (.cells b0 (([.slice A0_0 n0_0 c0_0] : List Value) ++ (([.slice A0_1 n0_1 c0_1] : List Value) ++ (([.int .i64 a0_2] : List Value) ++ (([.bool a0_3] : List Value) ++ ([.slice A0_4 n0_4 c0_4] : List Value))))) 66 :: .sl A0_0 c0_0 n0_0 x0_0 22 1 :: .sl A0_1 c0_1 n0_1 x0_1 69 2 :: .sl A0_4 c0_4 n0_4 x0_4 71 2 :: (T ++ R))) (hn0_0 : n0_0 = l0_0.length) (hx0_0 : HRs T (f22 w) x0_0 l0_0) (hn0_1 : n0_1 = l0_1.length) (hx0_1 : HRs T (f69 w) x0_1 l0_1) (hn0_4 : n0_4 = l0_4.length) (hx0_4 : HRs T (f71 w) x0_4 l0_4) (ls0_0 : List R22) (ls0_1 : List R69) (as0_2 : Int) (as0_3 : Bool) (ls0_4 : List R71) (ar0 : Int) (H : disk_Disk_Flush.rel l0_0 l0_1 a0_2 a0_3 l0_4 ls0_0 ls0_1 as0_2 as0_3 ls0_4 ar0) :
    Calls Try.prog 16 #[.pointer (some ⟨b0, 0, none⟩)] w1 fun e w' => ∃ T' As0_0 ns0_0 cs0_0 xs0_0 As0_1 ns0_1 cs0_1 xs0_1 As0_4 ns0_4 cs0_4 xs0_4, Pl T T' ∧ ns0_0 = ls0_0.length ∧ HRs T' (f22 w) xs0_0 ls0_0 ∧ ns0_1 = ls0_1.length ∧ HRs T' (f69 w) xs0_1 ls0_1 ∧ ns0_4 = ls0_4.length ∧ HRs T' (f71 w) xs0_4 ls0_4 ∧ e = .returned (.int .i64 ar0) ∧ St w w' (.cells b0 (([.slice As0_0 ns0_0 cs0_0] : List Value) ++ (([.slice As0_1 ns0_1 cs0_1] : List Value) ++ (([.int .i64 as0_2] : List Value) ++ (([.bool as0_3] : List Value) ++ ([.slice As0_4 ns0_4 cs0_4] : List Value))))) 66 :: .sl As0_0 cs0_0 ns0_0 xs0_0 22 1 :: .sl As0_1 cs0_1 ns0_1 xs0_1 69 2 :: .sl As0_4 cs0_4 ns0_4 xs0_4 71 2 :: (T' ++ R)) := by
  refine CW.enter Try.func16 rfl (n := 45) rfl [.pointer (some ⟨b0, 0, none⟩)] (Nat.le_of_ble_eq_true rfl) ?_
  refine CW.sub [(0, .pointer (some ⟨b0, 0, none⟩))] ⟨rfl, trivial⟩ ?_
  refine CW.seq ?_
  refine CW.region ?_
  refine WL.val Wanted.none (Runs.assign rfl) ?_
  refine WL.nil ?_
  refine QW.then_n ?_
  refine CW.seq ?_
  refine CW.block ?_
  refine CW.seq ?_
  refine CW.region ?_
  refine WL.val Wanted.none (Runs.move rfl) ?_
  refine WL.val Wanted.none (Runs.eql_ptr Try.underlying25 rfl rfl rfl) ?_
  refine WL.val Wanted.none (Runs.assign rfl) ?_
  refine WL.nil ?_
  refine QW.then_n ?_
  refine CW.cf rfl rfl ?_
  refine CW.seq ?_
  refine CW.region ?_
  refine WL.val Wanted.none (Runs.move rfl) ?_
  refine WL.val Wanted.none (Runs.nilCheck rfl) ?_
  refine WL.val Wanted.none (Runs.fieldAddr (off := 3) (p := 3) fld66_3 rfl rfl rfl) ?_
  refine WL.val Wanted.none (Runs.load nagg4 rfl (st0.cell (k := 0) rfl (part_one (u := .bool a0_3) (pre := (([.slice A0_0 n0_0 c0_0] : List Value) ++ (([.slice A0_1 n0_1 c0_1] : List Value) ++ ([.int .i64 a0_2] : List Value)))) (post := (([.slice A0_4 n0_4 c0_4] : List Value))) (by first | rfl | simp only [List.append_assoc, List.append_nil, List.nil_append, List.cons_append]) (by first | rfl | simp only [List.length_append, List.length_cons, List.length_nil, iv_length])))) ?_
  refine WL.val Wanted.none (Runs.assign rfl) ?_
  refine WL.nil ?_
  refine QW.then_n ?_
  refine CW.sub [(0, .pointer (some ⟨b0, 0, none⟩)), (2, .int .i64 0), (8, .bool a0_3)] ⟨rfl, rfl, rfl, trivial⟩ ?_
  rcases H with ⟨c_1, H⟩ | ⟨c_1, H⟩
  · have h_2 : a0_3 = true := c_1
    refine CW.ct rfl h_2 ?_
    refine CW.seq ?_
    refine CW.region ?_
    refine WL.val Wanted.none (Runs.assign rfl) ?_
    refine WL.nil ?_
    refine QW.then_n ?_
    refine CW.ret ?_
    refine QW.blk_r ?_
    refine QW.then_r ?_
    obtain ⟨rfl, rfl, rfl, rfl, rfl, rfl⟩ := H
    exact QW.ret1 rfl rfl ⟨T, A0_0, n0_0, c0_0, x0_0, A0_1, n0_1, c0_1, x0_1, A0_4, n0_4, c0_4, x0_4, Pl.refl, hn0_0, hx0_0, hn0_1, hx0_1, hn0_4, hx0_4, rfl, (St.pickT (L := [_, _, _, _]) st0 [0, 1, 2, 3] (by decide))⟩
  · have h_2 : a0_3 = false := (Bool.eq_false_iff.mpr c_1)
    refine CW.cf rfl h_2 ?_
    refine CW.skip ?_
    refine QW.blk_n ?_
    refine QW.then_n ?_
    refine CW.seq ?_
    refine CW.seq ?_
    refine CW.region ?_
    refine WL.val Wanted.none (Runs.move rfl) ?_
    refine WL.val Wanted.none (Runs.nilCheck rfl) ?_
    refine WL.val Wanted.none (Runs.fieldAddr (off := 1) (p := 1) fld66_1 rfl rfl rfl) ?_
    refine WL.val Wanted.none (Runs.load nagg64 rfl (st0.cell (k := 0) rfl (part_one (u := .slice A0_1 n0_1 c0_1) (pre := (([.slice A0_0 n0_0 c0_0] : List Value))) (post := (([.int .i64 a0_2] : List Value) ++ (([.bool a0_3] : List Value) ++ ([.slice A0_4 n0_4 c0_4] : List Value)))) (by first | rfl | simp only [List.append_assoc, List.append_nil, List.nil_append, List.cons_append]) (by first | rfl | simp only [List.length_append, List.length_cons, List.length_nil, iv_length])))) ?_
    refine WL.val Wanted.none (Runs.len_sl Try.underlying64 rfl (by rw [hn0_1])) ?_
    refine WL.val Wanted.none (Runs.move rfl) ?_
    refine WL.nil ?_
    refine QW.then_n ?_
    refine CW.block ?_
    obtain ⟨k_3, H⟩ := H
    refine CW.sub [(0, .pointer (some ⟨b0, 0, none⟩)), (2, .int .i64 0), (16, .slice A0_1 n0_1 c0_1), (17, .int .i64 (l0_1.length : Int)), (18, .int .i64 0)] ⟨rfl, rfl, rfl, rfl, rfl, trivial⟩ ?_
    refine CW.loop (fun kL1 l_ w_ => ∃ (T_4 : Pool) (x_8 : Cells) (l_6 : List R22) (x_10 : Int), l_ = [(0, .pointer (some ⟨b0, 0, none⟩)), (2, .int .i64 0), (16, .slice A0_1 n0_1 c0_1), (17, .int .i64 (l0_1.length : Int)), (18, .int .i64 x_10)] ∧ disk_Disk_Flush.L1 l0_1 a0_2 a0_3 l0_4 ls0_0 ls0_1 as0_2 as0_3 ls0_4 ar0 kL1 l_6 x_10 ∧ (Pl T T_4) ∧ (n0_0 = l_6.length) ∧ (HRs T_4 (f22 w) x_8 l_6) ∧ St w w_ (.cells b0 (([.slice A0_0 n0_0 c0_0] : List Value) ++ (([.slice A0_1 n0_1 c0_1] : List Value) ++ (([.int .i64 a0_2] : List Value) ++ (([.bool a0_3] : List Value) ++ ([.slice A0_4 n0_4 c0_4] : List Value))))) 66 :: .sl A0_0 c0_0 n0_0 x_8 22 1 :: .sl A0_1 c0_1 n0_1 x0_1 69 2 :: .sl A0_4 c0_4 n0_4 x0_4 71 2 :: (T_4 ++ R))) (k := k_3) ⟨T, x0_0, l0_0, 0, rfl, H, Pl.refl, hn0_0, hx0_0, st0⟩ (fun _ _ h => by obtain ⟨_, _, _, _, _, h, _⟩ := h; exact h.elim) ?_
    rintro kL1 l_13 w_11 ⟨T_4, x_8, l_6, x_10, rfl, H, hs_5, hn_7, hx_9, st_12⟩
    refine CW.seq ?_
    refine CW.region ?_
    refine WL.val Wanted.none (Runs.lss rfl rfl rfl) ?_
    refine WL.nil ?_
    refine QW.then_n ?_
    refine CW.seq ?_
    rcases H with ⟨c_14, H⟩ | ⟨c_14, H⟩
    · have h_15 : (decide (x_10 < (l0_1.length : Int))) = true := (decide_eq_true c_14)
      refine CW.ct rfl h_15 ?_
      refine CW.skip ?_
      refine QW.then_n ?_
      refine CW.seq ?_
      refine CW.block ?_
      refine CW.seq ?_
      refine CW.region ?_
      obtain ⟨⟨p_16, q_17⟩, H⟩ := H
      obtain ⟨a_18, e_19, ms_20, hc_21, hm_22⟩ := el_get (i := (x_10).toNat) (st_12.src_sl (k := 2) rfl) (hx0_1.mono (fun _ h_ => hs_5.1 _ h_)) (fz69 w) (by decide) (by omega)
      obtain ⟨A_23, n_24, c_25, em_27, hb_26⟩ := inv69 hm_22
      replace em_27 : ms_20 = ([.int .i64 ((gx l0_1 ((x_10).toNat)).1)] : List Value) ++ ([.slice A_23 n_24 c_25] : List Value) := em_27
      subst em_27
      refine WL.val Wanted.none (Runs.indexAddr Try.underlying64 cells69 (by decide) rfl e_19 rfl p_16 (by rw [show n0_1 = l0_1.length from hn0_1]; exact q_17) (o := ((x_10).toNat) * 2) (by first | rfl | omega)) ?_
      refine WL.val Wanted.none (Runs.load_srcR row69 rfl (Src.cut (st_12.src_sl (k := 2) rfl) e_19 hc_21) rfl) ?_
      refine WL.alloc st_12 zero69 ?_
      intro B_28 w_29 st_30
      replace st_30 : St w w_29 (.cells B_28 (([.int .i64 0] : List Value) ++ ([.slice none 0 0] : List Value)) 69 :: .cells b0 (([.slice A0_0 n0_0 c0_0] : List Value) ++ (([.slice A0_1 n0_1 c0_1] : List Value) ++ (([.int .i64 a0_2] : List Value) ++ (([.bool a0_3] : List Value) ++ ([.slice A0_4 n0_4 c0_4] : List Value))))) 66 :: .sl A0_0 c0_0 n0_0 x_8 22 1 :: .sl A0_1 c0_1 n0_1 x0_1 69 2 :: .sl A0_4 c0_4 n0_4 x0_4 71 2 :: (T_4 ++ R)) := st_30
      refine WL.store_mid (i := 0) (pre := (([] : List Value))) (mid := (([.int .i64 0] : List Value) ++ ([.slice none 0 0] : List Value))) (post := (([] : List Value))) (ms := (([.int .i64 ((gx l0_1 ((x_10).toNat)).1)] : List Value) ++ ([.slice A_23 n_24 c_25] : List Value))) st_30 rfl row69 (by first | rfl | simp only [List.append_assoc, List.append_nil, List.nil_append, List.cons_append]) (by first | rfl | simp only [List.length_append, List.length_cons, List.length_nil, iv_length]) rfl rfl (by first | rfl | simp only [List.length_append, List.length_cons, List.length_nil, iv_length]) (by first | rfl | simp only [List.length_append, List.length_cons, List.length_nil, iv_length]) (by intro u hu; simp only [List.mem_append, List.mem_singleton] at hu; rcases hu with hu | hu <;> first | exact one_iv _ _ u hu | (subst hu; rfl)) ?_
      intro w_32 st_33
      replace st_33 : St w w_32 (.cells B_28 (([.int .i64 ((gx l0_1 ((x_10).toNat)).1)] : List Value) ++ ([.slice A_23 n_24 c_25] : List Value)) 69 :: .cells b0 (([.slice A0_0 n0_0 c0_0] : List Value) ++ (([.slice A0_1 n0_1 c0_1] : List Value) ++ (([.int .i64 a0_2] : List Value) ++ (([.bool a0_3] : List Value) ++ ([.slice A0_4 n0_4 c0_4] : List Value))))) 66 :: .sl A0_0 c0_0 n0_0 x_8 22 1 :: .sl A0_1 c0_1 n0_1 x0_1 69 2 :: .sl A0_4 c0_4 n0_4 x0_4 71 2 :: (T_4 ++ R)) := by have e_ : (([.int .i64 ((gx l0_1 ((x_10).toNat)).1)] : List Value) ++ ([.slice A_23 n_24 c_25] : List Value)) = (([] : List Value)) ++ ((([.int .i64 ((gx l0_1 ((x_10).toNat)).1)] : List Value) ++ ([.slice A_23 n_24 c_25] : List Value)) ++ (([] : List Value))) := (by first | rfl | simp only [List.append_assoc, List.append_nil, List.nil_append, List.cons_append]); have h_ : St w w_32 (.cells B_28 ((([] : List Value)) ++ ((([.int .i64 ((gx l0_1 ((x_10).toNat)).1)] : List Value) ++ ([.slice A_23 n_24 c_25] : List Value)) ++ (([] : List Value)))) 69 :: .cells b0 (([.slice A0_0 n0_0 c0_0] : List Value) ++ (([.slice A0_1 n0_1 c0_1] : List Value) ++ (([.int .i64 a0_2] : List Value) ++ (([.bool a0_3] : List Value) ++ ([.slice A0_4 n0_4 c0_4] : List Value))))) 66 :: .sl A0_0 c0_0 n0_0 x_8 22 1 :: .sl A0_1 c0_1 n0_1 x0_1 69 2 :: .sl A0_4 c0_4 n0_4 x0_4 71 2 :: (T_4 ++ R)) := st_33; rw [← e_] at h_; exact h_
      refine WL.nil ?_
      refine QW.then_n ?_
      refine CW.region_qt 9 wide (by kernel_rfl) st_33 ?_
      refine HL.val Wanted.none (fun wq sq => (Runs.move rfl)) ?_
      refine HL.val Wanted.none (fun wq sq => (Runs.nilCheck rfl)) ?_
      refine HL.val Wanted.none (fun wq sq => (Runs.fieldAddr (off := 0) (p := 0) fld66_0 rfl rfl rfl)) ?_
      refine HL.val Wanted.none (fun wq sq => (Runs.load nagg41 rfl (sq.cell (k := 1) rfl (part_one (u := .slice A0_0 n0_0 c0_0) (pre := (([] : List Value))) (post := (([.slice A0_1 n0_1 c0_1] : List Value) ++ (([.int .i64 a0_2] : List Value) ++ (([.bool a0_3] : List Value) ++ ([.slice A0_4 n0_4 c0_4] : List Value))))) (by first | rfl | simp only [List.append_assoc, List.append_nil, List.nil_append, List.cons_append]) (by first | rfl | simp only [List.length_append, List.length_cons, List.length_nil, iv_length]))))) ?_
      refine HL.val Wanted.none (fun wq sq => (Runs.fieldAddr (off := 0) (p := 0) fld69_0 rfl rfl rfl)) ?_
      refine HL.val Wanted.none (fun wq sq => (Runs.load nagg3 rfl (sq.cell (k := 0) rfl (part_one (u := .int .i64 ((gx l0_1 ((x_10).toNat)).1)) (pre := (([] : List Value))) (post := (([.slice A_23 n_24 c_25] : List Value))) (by first | rfl | simp only [List.append_assoc, List.append_nil, List.nil_append, List.cons_append]) (by first | rfl | simp only [List.length_append, List.length_cons, List.length_nil, iv_length]))))) ?_
      refine HL.val Wanted.none (fun wq sq => (Runs.fieldAddr (off := 1) (p := 1) fld69_1 rfl rfl rfl)) ?_
      refine HL.val Wanted.none (fun wq sq => (Runs.load nagg22 rfl (sq.cell (k := 0) rfl (part_one (u := .slice A_23 n_24 c_25) (pre := (([.int .i64 ((gx l0_1 ((x_10).toNat)).1)] : List Value))) (post := (([] : List Value))) (by first | rfl | simp only [List.append_assoc, List.append_nil, List.nil_append, List.cons_append]) (by first | rfl | simp only [List.length_append, List.length_cons, List.length_nil, iv_length]))))) ?_
      obtain ⟨⟨p_34, q_35⟩, H⟩ := H
      obtain ⟨a_36, e_37, ms_38, hc_39, hm_40⟩ := el_get (i := ((gx l0_1 ((x_10).toNat)).1).toNat) (st_33.src_sl (k := 2) rfl) hx_9 (fz22 w) (by decide) (by omega)
      obtain ⟨A_41, n_42, c_43, em_45, hb_44⟩ := inv22 hm_40
      replace em_45 : ms_38 = ([.slice A_41 n_42 c_43] : List Value) := em_45
      subst em_45
      refine HL.val Wanted.none (fun wq sq => (Runs.indexAddr Try.underlying41 cells22 (by decide) rfl e_37 rfl p_34 (by rw [show n0_0 = l_6.length from hn_7]; exact q_35) (o := (((gx l0_1 ((x_10).toNat)).1).toNat) * 1) (by first | rfl | omega))) ?_
      refine HL.nil (fun w_46 st_47 => ?_)
      obtain ⟨m_48, e_49, H⟩ := H
      have hl_56 := (hx_9).length (fz22 w)
      refine WL.storeF (i := 2) (o := (((gx l0_1 ((x_10).toNat)).1).toNat) * 1) (f := 0) st_47 rfl e_37 cells22 rfl rfl (by omega) rfl ?_
      intro w_50 st_51
      obtain ⟨x_53, e_54⟩ : ∃ x_ : Cells, x_ = List.set x_8 ((((gx l0_1 ((x_10).toNat)).1).toNat) * 1 + 0) (.slice A_23 n_24 c_25) := ⟨_, rfl⟩
      have hx_55 : HRs T_4 (f22 w) x_53 m_48 := by rw [e_54, e_49]; exact HRs.setF (j := 0) (u := .slice A_23 n_24 c_25) hx_9 (fz22 w) (by omega) (by decide) hc_39 (.cons ⟨_, _, _, rfl, hb_26⟩ .nil)
      have hn_52 : n0_0 = m_48.length := by rw [e_49, List.length_set]; exact hn_7
      replace st_51 : St w w_50 (.cells B_28 (([.int .i64 ((gx l0_1 ((x_10).toNat)).1)] : List Value) ++ ([.slice A_23 n_24 c_25] : List Value)) 69 :: .cells b0 (([.slice A0_0 n0_0 c0_0] : List Value) ++ (([.slice A0_1 n0_1 c0_1] : List Value) ++ (([.int .i64 a0_2] : List Value) ++ (([.bool a0_3] : List Value) ++ ([.slice A0_4 n0_4 c0_4] : List Value))))) 66 :: .sl A0_0 c0_0 n0_0 x_53 22 1 :: .sl A0_1 c0_1 n0_1 x0_1 69 2 :: .sl A0_4 c0_4 n0_4 x0_4 71 2 :: (T_4 ++ R)) := by rw [e_54]; exact st_51
      refine WL.nil ?_
      refine QW.blk_n ?_
      refine QW.then_n ?_
      refine CW.region ?_
      refine WL.val Wanted.none (Runs.add rfl rfl rfl) ?_
      refine WL.val Wanted.none (Runs.move rfl) ?_
      refine WL.nil ?_
      have st_51' := (St.pickT (L := [_, _, _, _, _]) st_51 [1, 2, 3, 4] (by decide))
      exact QW.at [(0, .pointer (some ⟨b0, 0, none⟩)), (2, .int .i64 0), (16, .slice A0_1 n0_1 c0_1), (17, .int .i64 (l0_1.length : Int)), (18, .int .i64 (IntKind.i64.wrap (x_10 + 1)))] ⟨rfl, rfl, rfl, rfl, rfl, trivial⟩ ⟨T_4, x_53, m_48, IntKind.i64.wrap (x_10 + 1), rfl, H, hs_5, hn_52, hx_55, st_51'⟩
    · have h_15 : (decide (x_10 < (l0_1.length : Int))) = false := (decide_eq_false c_14)
      refine CW.cf rfl h_15 ?_
      refine CW.exit ?_
      refine QW.then_x ?_
      refine QW.then_x ?_
      refine QW.blk_x ?_
      refine QW.then_n ?_
      refine CW.seq ?_
      refine CW.region ?_
      refine WL.val Wanted.none (Runs.move rfl) ?_
      refine WL.val Wanted.none (Runs.nilCheck rfl) ?_
      refine WL.val Wanted.none (Runs.fieldAddr (off := 1) (p := 1) fld66_1 rfl rfl rfl) ?_
      refine WL.store_one (i := 0) (u0 := .slice A0_1 n0_1 c0_1) (pre := (([.slice A0_0 n0_0 c0_0] : List Value))) (post := (([.int .i64 a0_2] : List Value) ++ (([.bool a0_3] : List Value) ++ ([.slice A0_4 n0_4 c0_4] : List Value)))) st_12 rfl cells64 (by first | rfl | simp only [List.append_assoc, List.append_nil, List.nil_append, List.cons_append]) (by first | rfl | simp only [List.length_append, List.length_cons, List.length_nil, iv_length]) rfl rfl rfl ?_
      intro w_57 st_58
      replace st_58 : St w w_57 (.cells b0 (([.slice A0_0 n0_0 c0_0] : List Value) ++ (([.slice none 0 0] : List Value) ++ (([.int .i64 a0_2] : List Value) ++ (([.bool a0_3] : List Value) ++ ([.slice A0_4 n0_4 c0_4] : List Value))))) 66 :: .sl A0_0 c0_0 n0_0 x_8 22 1 :: .sl A0_1 c0_1 n0_1 x0_1 69 2 :: .sl A0_4 c0_4 n0_4 x0_4 71 2 :: (T_4 ++ R)) := by have e_ : (([.slice A0_0 n0_0 c0_0] : List Value) ++ (([.slice none 0 0] : List Value) ++ (([.int .i64 a0_2] : List Value) ++ (([.bool a0_3] : List Value) ++ ([.slice A0_4 n0_4 c0_4] : List Value))))) = (([.slice A0_0 n0_0 c0_0] : List Value)) ++ ((([.slice none 0 0] : List Value)) ++ (([.int .i64 a0_2] : List Value) ++ (([.bool a0_3] : List Value) ++ ([.slice A0_4 n0_4 c0_4] : List Value)))) := (by first | rfl | simp only [List.append_assoc, List.append_nil, List.nil_append, List.cons_append]); have h_ : St w w_57 (.cells b0 ((([.slice A0_0 n0_0 c0_0] : List Value)) ++ ((([.slice none 0 0] : List Value)) ++ (([.int .i64 a0_2] : List Value) ++ (([.bool a0_3] : List Value) ++ ([.slice A0_4 n0_4 c0_4] : List Value))))) 66 :: .sl A0_0 c0_0 n0_0 x_8 22 1 :: .sl A0_1 c0_1 n0_1 x0_1 69 2 :: .sl A0_4 c0_4 n0_4 x0_4 71 2 :: (T_4 ++ R)) := st_58; rw [← e_] at h_; exact h_
      refine WL.nil ?_
      refine QW.then_n ?_
      refine CW.sub [(0, .pointer (some ⟨b0, 0, none⟩)), (2, .int .i64 0)] ⟨rfl, rfl, trivial⟩ ?_
      refine CW.seq ?_
      refine CW.region ?_
      refine WL.val Wanted.none (Runs.move rfl) ?_
      refine WL.val Wanted.none (Runs.move rfl) ?_
      refine WL.val Wanted.none (Runs.nilCheck rfl) ?_
      refine WL.val Wanted.none (Runs.fieldAddr (off := 4) (p := 4) fld66_4 rfl rfl rfl) ?_
      refine WL.val Wanted.none (Runs.load nagg61 rfl (st_58.cell (k := 0) rfl (part_one (u := .slice A0_4 n0_4 c0_4) (pre := (([.slice A0_0 n0_0 c0_0] : List Value) ++ (([.slice none 0 0] : List Value) ++ (([.int .i64 a0_2] : List Value) ++ ([.bool a0_3] : List Value))))) (post := (([] : List Value))) (by first | rfl | simp only [List.append_assoc, List.append_nil, List.nil_append, List.cons_append]) (by first | rfl | simp only [List.length_append, List.length_cons, List.length_nil, iv_length])))) ?_
      refine WL.val Wanted.none (Runs.build_struct (ps := [(0, 1), (1, 1)]) (cs := (([.int .i64 3] : List Value) ++ ([.int .i64 0] : List Value))) plc71 zero71 rfl (by refine Fills.cons (o := 0) (ms := (([.int .i64 3] : List Value))) (show _ = some (0, (([.int .i64 3] : List Value)).length) by rw [show (([.int .i64 3] : List Value)).length = 1 from (by first | rfl | simp only [List.length_append, List.length_cons, List.length_nil, iv_length])] <;> rfl) rfl (by have h1_ : (([.int .i64 3] : List Value)).length = 1 := (by first | rfl | simp only [List.length_append, List.length_cons, List.length_nil, iv_length]); have h2_ : (([.int .i64 0] : List Value) ++ ([.int .i64 0] : List Value)).length = 2 := (by first | rfl | simp only [List.length_append, List.length_cons, List.length_nil, iv_length]); omega) ?_; rw [show layV (([.int .i64 0] : List Value) ++ ([.int .i64 0] : List Value)) 0 (([.int .i64 3] : List Value)) = (([.int .i64 3] : List Value) ++ ([.int .i64 0] : List Value)) from (layV_mid (pre := (([] : List Value))) (mid := (([.int .i64 0] : List Value))) (post := (([.int .i64 0] : List Value))) (by first | rfl | simp only [List.append_assoc, List.append_nil, List.nil_append, List.cons_append]) (by first | rfl | simp only [List.length_append, List.length_cons, List.length_nil, iv_length]) (Eq.trans (b := 1) (by first | rfl | simp only [List.length_append, List.length_cons, List.length_nil, iv_length]) (Eq.symm (by first | rfl | simp only [List.length_append, List.length_cons, List.length_nil, iv_length])))).trans (by first | rfl | simp only [List.append_assoc, List.append_nil, List.nil_append, List.cons_append])]; exact Fills.nil)) ?_
      obtain ⟨ii_59, z_60, h_61, h_62, h_63, h_64⟩ := slr71_1
      refine WL.buildSlRows (sz := 2) (cs := (([.int .i64 3] : List Value) ++ ([.int .i64 0] : List Value))) st_58 Try.underlying61 h_61 h_62 h_63 (by decide) (by decide) h_64 rfl (by refine Fills.cons (o := 0) (ms := (([.int .i64 3] : List Value) ++ ([.int .i64 0] : List Value))) (show _ = some (0, (([.int .i64 3] : List Value) ++ ([.int .i64 0] : List Value)).length) by rw [show (([.int .i64 3] : List Value) ++ ([.int .i64 0] : List Value)).length = 2 from (by first | rfl | simp only [List.length_append, List.length_cons, List.length_nil, iv_length])] <;> rfl) rfl (by have h1_ : (([.int .i64 3] : List Value) ++ ([.int .i64 0] : List Value)).length = 2 := (by first | rfl | simp only [List.length_append, List.length_cons, List.length_nil, iv_length]); have h2_ : (([.int .i64 0] : List Value) ++ ([.int .i64 0] : List Value)).length = 2 := (by first | rfl | simp only [List.length_append, List.length_cons, List.length_nil, iv_length]); omega) ?_; rw [show layV (([.int .i64 0] : List Value) ++ ([.int .i64 0] : List Value)) 0 (([.int .i64 3] : List Value) ++ ([.int .i64 0] : List Value)) = (([.int .i64 3] : List Value) ++ ([.int .i64 0] : List Value)) from (layV_mid (pre := (([] : List Value))) (mid := (([.int .i64 0] : List Value) ++ ([.int .i64 0] : List Value))) (post := (([] : List Value))) (by first | rfl | simp only [List.append_assoc, List.append_nil, List.nil_append, List.cons_append]) (by first | rfl | simp only [List.length_append, List.length_cons, List.length_nil, iv_length]) (Eq.trans (b := 2) (by first | rfl | simp only [List.length_append, List.length_cons, List.length_nil, iv_length]) (Eq.symm (by first | rfl | simp only [List.length_append, List.length_cons, List.length_nil, iv_length])))).trans (by first | rfl | simp only [List.append_assoc, List.append_nil, List.nil_append, List.cons_append])]; exact Fills.nil) ?_
      intro B_65 w_66 st_67
      replace st_67 : St w w_66 (.cells B_65 (([.int .i64 3] : List Value) ++ ([.int .i64 0] : List Value)) 71 :: .cells b0 (([.slice A0_0 n0_0 c0_0] : List Value) ++ (([.slice none 0 0] : List Value) ++ (([.int .i64 a0_2] : List Value) ++ (([.bool a0_3] : List Value) ++ ([.slice A0_4 n0_4 c0_4] : List Value))))) 66 :: .sl A0_0 c0_0 n0_0 x_8 22 1 :: .sl A0_1 c0_1 n0_1 x0_1 69 2 :: .sl A0_4 c0_4 n0_4 x0_4 71 2 :: (T_4 ++ R)) := st_67
      have st_69 := St.rows_sl (i := 0) (m := 1) (size := 2) st_67 rfl rfl (by decide)
      obtain ⟨x_70, e_71⟩ : ∃ x_ : Cells, x_ = ([.int .i64 3] : List Value) ++ ([.int .i64 0] : List Value) := ⟨_, rfl⟩
      have hx_72 : HRs T_4 (f71 w) x_70 ([(3, 0)] : List R71) := by rw [e_71]; exact (HRs.one (.cons rfl (.cons rfl .nil)))
      replace st_69 : St w w_66 (.sl (some ⟨B_65, 0, none⟩) 1 1 x_70 71 2 :: .cells b0 (([.slice A0_0 n0_0 c0_0] : List Value) ++ (([.slice none 0 0] : List Value) ++ (([.int .i64 a0_2] : List Value) ++ (([.bool a0_3] : List Value) ++ ([.slice A0_4 n0_4 c0_4] : List Value))))) 66 :: .sl A0_0 c0_0 n0_0 x_8 22 1 :: .sl A0_1 c0_1 n0_1 x0_1 69 2 :: .sl A0_4 c0_4 n0_4 x0_4 71 2 :: (T_4 ++ R)) := by rw [e_71]; exact st_69
      obtain ⟨m_73, e_74, H⟩ := H
      obtain ⟨z_75, H⟩ := H
      obtain ⟨n_78, hn_81⟩ : ∃ n_ : Nat, n_ = m_73.length := ⟨_, rfl⟩
      refine WL.appendR (i := 4) (N := n_78) (news := x_70) Wanted.none st_69 rfl Try.underlying61 elemS71 rfl rfl (st_69.src_sl (k := 0) rfl) (by have h1_ := (hx_72).length (fz71 w); have h2_ : 1 = ([(3, 0)] : List R71).length := rfl; rw [h1_, h2_]) (HLs.one hx_72) (by decide) (by have h1_ : n0_4 = l0_4.length := hn0_4; have h2_ : 1 = ([(3, 0)] : List R71).length := rfl; rw [hn_81, e_74, List.length_append]; omega) (by rw [hn_81]; exact z_75) ?_
      intro A_76 c_77 w_79 st_80
      obtain ⟨x_82, e_83⟩ : ∃ x_ : Cells, x_ = x0_4 ++ x_70 := ⟨_, rfl⟩
      have hx_84 : HRs T_4 (f71 w) x_82 m_73 := by rw [e_83, e_74]; exact HRs.append (hx0_4.mono (fun _ h_ => hs_5.1 _ h_)) hx_72
      replace st_80 : St w w_79 (.sl (some ⟨B_65, 0, none⟩) 1 1 x_70 71 2 :: .cells b0 (([.slice A0_0 n0_0 c0_0] : List Value) ++ (([.slice none 0 0] : List Value) ++ (([.int .i64 a0_2] : List Value) ++ (([.bool a0_3] : List Value) ++ ([.slice A0_4 n0_4 c0_4] : List Value))))) 66 :: .sl A0_0 c0_0 n0_0 x_8 22 1 :: .sl A0_1 c0_1 n0_1 x0_1 69 2 :: .sl A_76 c_77 n_78 x_82 71 2 :: (T_4 ++ R)) := by rw [e_83]; exact st_80
      refine WL.val Wanted.none (Runs.nilCheck rfl) ?_
      refine WL.val Wanted.none (Runs.fieldAddr (off := 4) (p := 4) fld66_4 rfl rfl rfl) ?_
      refine WL.store_one (i := 1) (u0 := .slice A0_4 n0_4 c0_4) (pre := (([.slice A0_0 n0_0 c0_0] : List Value) ++ (([.slice none 0 0] : List Value) ++ (([.int .i64 a0_2] : List Value) ++ ([.bool a0_3] : List Value))))) (post := (([] : List Value))) st_80 rfl cells61 (by first | rfl | simp only [List.append_assoc, List.append_nil, List.nil_append, List.cons_append]) (by first | rfl | simp only [List.length_append, List.length_cons, List.length_nil, iv_length]) rfl rfl rfl ?_
      intro w_85 st_86
      replace st_86 : St w w_85 (.sl (some ⟨B_65, 0, none⟩) 1 1 x_70 71 2 :: .cells b0 (([.slice A0_0 n0_0 c0_0] : List Value) ++ (([.slice none 0 0] : List Value) ++ (([.int .i64 a0_2] : List Value) ++ (([.bool a0_3] : List Value) ++ ([.slice A_76 n_78 c_77] : List Value))))) 66 :: .sl A0_0 c0_0 n0_0 x_8 22 1 :: .sl A0_1 c0_1 n0_1 x0_1 69 2 :: .sl A_76 c_77 n_78 x_82 71 2 :: (T_4 ++ R)) := by have e_ : (([.slice A0_0 n0_0 c0_0] : List Value) ++ (([.slice none 0 0] : List Value) ++ (([.int .i64 a0_2] : List Value) ++ (([.bool a0_3] : List Value) ++ ([.slice A_76 n_78 c_77] : List Value))))) = (([.slice A0_0 n0_0 c0_0] : List Value) ++ (([.slice none 0 0] : List Value) ++ (([.int .i64 a0_2] : List Value) ++ ([.bool a0_3] : List Value)))) ++ ((([.slice A_76 n_78 c_77] : List Value)) ++ (([] : List Value))) := (by first | rfl | simp only [List.append_assoc, List.append_nil, List.nil_append, List.cons_append]); have h_ : St w w_85 (.sl (some ⟨B_65, 0, none⟩) 1 1 x_70 71 2 :: .cells b0 ((([.slice A0_0 n0_0 c0_0] : List Value) ++ (([.slice none 0 0] : List Value) ++ (([.int .i64 a0_2] : List Value) ++ ([.bool a0_3] : List Value)))) ++ ((([.slice A_76 n_78 c_77] : List Value)) ++ (([] : List Value)))) 66 :: .sl A0_0 c0_0 n0_0 x_8 22 1 :: .sl A0_1 c0_1 n0_1 x0_1 69 2 :: .sl A_76 c_77 n_78 x_82 71 2 :: (T_4 ++ R)) := st_86; rw [← e_] at h_; exact h_
      refine WL.nil ?_
      refine QW.then_n ?_
      refine CW.sub [(2, .int .i64 0)] ⟨rfl, trivial⟩ ?_
      refine CW.seq ?_
      refine CW.region ?_
      refine WL.val Wanted.none (Runs.assign rfl) ?_
      refine WL.nil ?_
      refine QW.then_n ?_
      refine CW.ret ?_
      have st_88 := st_86.nil_sl 69 2
      have st_88 : St w w_85 (.sl none 0 0 ([] : Cells) 69 2 :: .sl (some ⟨B_65, 0, none⟩) 1 1 x_70 71 2 :: .cells b0 (([.slice A0_0 n0_0 c0_0] : List Value) ++ (([.slice none 0 0] : List Value) ++ (([.int .i64 a0_2] : List Value) ++ (([.bool a0_3] : List Value) ++ ([.slice A_76 n_78 c_77] : List Value))))) 66 :: .sl A0_0 c0_0 n0_0 x_8 22 1 :: .sl A0_1 c0_1 n0_1 x0_1 69 2 :: .sl A_76 c_77 n_78 x_82 71 2 :: (T_4 ++ R)) := st_88
      obtain ⟨rfl, rfl, rfl, rfl, rfl, rfl⟩ := H
      exact QW.ret1 rfl rfl ⟨T_4, A0_0, n0_0, c0_0, x_8, none, 0, 0, ([] : Cells), A_76, n_78, c_77, x_82, hs_5, hn_7, hx_9, rfl, (HRs.nil : HRs T_4 (f69 w) [] []), hn_81, hx_84, rfl, (St.pickT (L := [_, _, _, _, _, _]) st_88 [2, 3, 0, 5] (by decide))⟩

/-! ### reliquarylaw06_DiskStays: function 4 -/
def reliquarylaw06_DiskStays.rel (a0 : Int) (a1 : Int) (a2 : Bool) (a3 : Bool)  : Prop := (reliquarylaw06_awake.rel  ∧ (∃ (o_7 : Option ((List R22) × (List R69) × Int × Bool × (List R71))) (a_11 : Int), disk_New.rel 1 o_7 a_11 ∧ ((∃ (l_22_0 : List R22) (l_22_1 : List R69) (a_26_2 : Int) (a_26_3 : Bool) (l_22_4 : List R71), o_7 = some (l_22_0, l_22_1, a_26_2, a_26_3, l_22_4) ∧ ((0 ≤ (5 : Int) ∧ (5 : Int) < ((List.replicate 192 (0 : Int)).length : Int)) ∧ (∃ m_46 : List Int, m_46 = List.set (List.replicate 192 (0 : Int)) 5 a0 ∧ ((0 ≤ (5 : Int) ∧ (5 : Int) < ((List.replicate 192 (0 : Int)).length : Int)) ∧ (∃ m_55 : List Int, m_55 = List.set (List.replicate 192 (0 : Int)) 5 a1 ∧ (∃ (l_68_0 : List R22) (l_68_1 : List R69) (a_72_2 : Int) (a_72_3 : Bool) (l_68_4 : List R71) (a_74 : Int), disk_Disk_Write.rel l_22_0 l_22_1 a_26_2 a_26_3 l_22_4 0 m_46 l_68_0 l_68_1 a_72_2 a_72_3 l_68_4 a_74 ∧ (∃ (l_85_0 : List R22) (l_85_1 : List R69) (a_89_2 : Int) (a_89_3 : Bool) (l_85_4 : List R71) (a_91 : Int), disk_Disk_Flush.rel l_68_0 l_68_1 a_72_2 a_72_3 l_68_4 l_85_0 l_85_1 a_89_2 a_89_3 l_85_4 a_91 ∧ (∃ (l_102_0 : List R22) (l_102_1 : List R69) (a_106_2 : Int) (a_106_3 : Bool) (l_102_4 : List R71) (a_108 : Int), disk_Disk_Write.rel l_85_0 l_85_1 a_89_2 a_89_3 l_85_4 0 m_55 l_102_0 l_102_1 a_106_2 a_106_3 l_102_4 a_108 ∧ ((a2 = true ∧ (∃ (l_121_0 : List R22) (l_121_1 : List R69) (a_125_2 : Int) (a_125_3 : Bool) (l_121_4 : List R71) (a_127 : Int), disk_Disk_Flush.rel l_102_0 l_102_1 a_106_2 a_106_3 l_102_4 l_121_0 l_121_1 a_125_2 a_125_3 l_121_4 a_127 ∧ (∃ (l_143_0 : List R22) (l_143_1 : List R69) (a_147_2 : Int) (a_147_3 : Bool) (l_143_4 : List R71), disk_Disk_Crash.rel l_121_0 l_121_1 a_125_2 a_125_3 l_121_4 [a3] l_143_0 l_143_1 a_147_2 a_147_3 l_143_4 ∧ (∃ (l_158_0 : List R22) (l_158_1 : List R69) (a_162_2 : Int) (a_162_3 : Bool) (l_158_4 : List R71) (l_167 : List Int) (a_171 : Int), disk_Disk_Read.rel l_143_0 l_143_1 a_147_2 a_147_3 l_143_4 0 l_158_0 l_158_1 a_162_2 a_162_3 l_158_4 l_167 a_171 ∧ (a_74 = 0 ∧ (a_91 = 0 ∧ (a_108 = 0 ∧ (a_171 = 0 ∧ ((0 ≤ (5 : Int) ∧ (5 : Int) < (l_167.length : Int)) ∧ (gn l_167 5) = a1))))))))) ∨ (¬ (a2 = true) ∧ (∃ (l_199_0 : List R22) (l_199_1 : List R69) (a_203_2 : Int) (a_203_3 : Bool) (l_199_4 : List R71), disk_Disk_Crash.rel l_102_0 l_102_1 a_106_2 a_106_3 l_102_4 [a3] l_199_0 l_199_1 a_203_2 a_203_3 l_199_4 ∧ (∃ (l_214_0 : List R22) (l_214_1 : List R69) (a_218_2 : Int) (a_218_3 : Bool) (l_214_4 : List R71) (l_223 : List Int) (a_227 : Int), disk_Disk_Read.rel l_199_0 l_199_1 a_203_2 a_203_3 l_199_4 0 l_214_0 l_214_1 a_218_2 a_218_3 l_214_4 l_223 a_227 ∧ ((a3 = true ∧ (a_74 = 0 ∧ (a_91 = 0 ∧ (a_108 = 0 ∧ (a_227 = 0 ∧ ((0 ≤ (5 : Int) ∧ (5 : Int) < (l_223.length : Int)) ∧ (gn l_223 5) = a1)))))) ∨ (¬ (a3 = true) ∧ (a_74 = 0 ∧ (a_91 = 0 ∧ (a_108 = 0 ∧ (a_227 = 0 ∧ ((0 ≤ (5 : Int) ∧ (5 : Int) < (l_223.length : Int)) ∧ (gn l_223 5) = a0))))))))))))))))))))))
set_option maxHeartbeats 4000000 in
set_option maxRecDepth 100000 in
theorem reliquarylaw06_DiskStays.calls (w : World) (a0 : Int) (a1 : Int) (a2 : Bool) (a3 : Bool)     (H : reliquarylaw06_DiskStays.rel a0 a1 a2 a3 ) :
    Calls Try.prog 4 #[.int .u8 a0, .int .u8 a1, .bool a2, .bool a3] w fun e w' => e = .returned (.bool true) ∧ Below w.heap.size w w' := by
  refine CW.enter Try.func4 rfl (n := 84) rfl [.int .u8 a0, .int .u8 a1, .bool a2, .bool a3] (Nat.le_of_ble_eq_true rfl) ?_
  refine CW.sub [(0, .int .u8 a0), (1, .int .u8 a1), (2, .bool a2), (3, .bool a3)] ⟨rfl, rfl, rfl, rfl, trivial⟩ ?_
  obtain ⟨T, R, hT, hR, st0⟩ := St.start w
  refine CW.seq ?_
  refine CW.region ?_
  refine WL.val Wanted.none (Runs.assign rfl) ?_
  refine WL.nil ?_
  refine QW.then_n ?_
  refine CW.seq ?_
  refine CW.region ?_
  obtain ⟨hr_1, H⟩ := H
  refine WL.call Wanted.none ent9 rfl (reliquarylaw06_awake.calls w hr_1) ?_
  rintro _ w_2 ⟨rfl, sc_4⟩
  have st_3 : St w w_2 ((T ++ R)) := st0.below sc_4
  refine ⟨_, rfl, ?_⟩
  refine WL.val Wanted.none (Runs.assign rfl) ?_
  refine WL.nil ?_
  refine QW.then_n ?_
  refine CW.seq ?_
  refine CW.seq ?_
  refine CW.region ?_
  refine WL.val Wanted.none (Runs.move rfl) ?_
  refine WL.val Wanted.none (Runs.not rfl rfl) ?_
  refine WL.nil ?_
  refine QW.then_n ?_
  refine CW.cf rfl rfl ?_
  refine CW.skip ?_
  refine QW.then_n ?_
  refine CW.seq ?_
  refine CW.region ?_
  have st_5 : St w w_2 ((T ++ (R))) := St.hide (A := []) (B := []) (T := T) (R := R) st_3
  obtain ⟨o_7, a_11, hr_6, H⟩ := H
  obtain ⟨l_22_0, l_22_1, a_26_2, a_26_3, l_22_4, rfl, H⟩ := H
  refine WL.call Wanted.none ent10 rfl (disk_New.calls_obj w w_2 T (R) 1  st_5 l_22_0 l_22_1 a_26_2 a_26_3 l_22_4 a_11 (some (l_22_0, l_22_1, a_26_2, a_26_3, l_22_4)) rfl hr_6) ?_
  rintro _ w_29 ⟨T_15, b_18, A_19_0, n_20_0, c_21_0, x_23_0, A_19_1, n_20_1, c_21_1, x_23_1, A_19_4, n_20_4, c_21_4, x_23_4, hs_16, hn_24_0, hx_25_0, hn_24_1, hx_25_1, hn_24_4, hx_25_4, rfl, sc_31⟩
  have st_30 : St w w_29 (.cells b_18 (([.slice A_19_0 n_20_0 c_21_0] : List Value) ++ (([.slice A_19_1 n_20_1 c_21_1] : List Value) ++ (([.int .i64 a_26_2] : List Value) ++ (([.bool a_26_3] : List Value) ++ ([.slice A_19_4 n_20_4 c_21_4] : List Value))))) 66 :: .sl A_19_0 c_21_0 n_20_0 x_23_0 22 1 :: .sl A_19_1 c_21_1 n_20_1 x_23_1 69 2 :: .sl A_19_4 c_21_4 n_20_4 x_23_4 71 2 :: (T_15 ++ R)) := St.unhide (A := [_, _, _, _]) (B := []) (T := T_15) (R := R) sc_31
  refine ⟨_, rfl, ?_⟩
  refine WL.val Wanted.none (Runs.move rfl) ?_
  refine WL.val Wanted.none (Runs.extract rfl rfl) ?_
  refine WL.val Wanted.none (Runs.extract rfl rfl) ?_
  refine WL.val Wanted.none (Runs.assign rfl) ?_
  refine WL.val Wanted.none (Runs.assign rfl) ?_
  refine WL.nil ?_
  refine QW.then_n ?_
  refine CW.sub [(0, .int .u8 a0), (1, .int .u8 a1), (2, .bool a2), (3, .bool a3), (8, .bool false), (10, .pointer (some ⟨b_18, 0, none⟩)), (11, .int .i64 0)] ⟨rfl, rfl, rfl, rfl, rfl, rfl, rfl, trivial⟩ ?_
  refine CW.seq ?_
  refine CW.seq ?_
  refine CW.region ?_
  refine WL.val Wanted.none (Runs.move rfl) ?_
  refine WL.val Wanted.none (Runs.neq (b := false) rfl rfl (by decide)) ?_
  refine WL.nil ?_
  refine QW.then_n ?_
  refine CW.cf rfl rfl ?_
  refine CW.skip ?_
  refine QW.then_n ?_
  refine CW.seq ?_
  refine CW.region ?_
  refine WL.make st_30 Try.underlying22 elem5 rfl rfl (by decide) (by decide) (by decide) (N := 192) rfl ?_
  intro B_32 w_33 st_34
  replace st_34 : St w w_33 (.sl (some ⟨B_32, 0, none⟩) 192 192 (iv .u8 (List.replicate 192 (0 : Int))) 5 1 :: .cells b_18 (([.slice A_19_0 n_20_0 c_21_0] : List Value) ++ (([.slice A_19_1 n_20_1 c_21_1] : List Value) ++ (([.int .i64 a_26_2] : List Value) ++ (([.bool a_26_3] : List Value) ++ ([.slice A_19_4 n_20_4 c_21_4] : List Value))))) 66 :: .sl A_19_0 c_21_0 n_20_0 x_23_0 22 1 :: .sl A_19_1 c_21_1 n_20_1 x_23_1 69 2 :: .sl A_19_4 c_21_4 n_20_4 x_23_4 71 2 :: (T_15 ++ R)) := by rw [iv_replicate] at st_34; exact st_34
  have hn_35 : 192 = (List.replicate 192 (0 : Int)).length := by simp
  refine WL.val Wanted.none (Runs.assign rfl) ?_
  refine WL.nil ?_
  refine QW.then_n ?_
  refine CW.seq ?_
  refine CW.region ?_
  refine WL.make st_34 Try.underlying22 elem5 rfl rfl (by decide) (by decide) (by decide) (N := 192) rfl ?_
  intro B_37 w_38 st_39
  replace st_39 : St w w_38 (.sl (some ⟨B_37, 0, none⟩) 192 192 (iv .u8 (List.replicate 192 (0 : Int))) 5 1 :: .sl (some ⟨B_32, 0, none⟩) 192 192 (iv .u8 (List.replicate 192 (0 : Int))) 5 1 :: .cells b_18 (([.slice A_19_0 n_20_0 c_21_0] : List Value) ++ (([.slice A_19_1 n_20_1 c_21_1] : List Value) ++ (([.int .i64 a_26_2] : List Value) ++ (([.bool a_26_3] : List Value) ++ ([.slice A_19_4 n_20_4 c_21_4] : List Value))))) 66 :: .sl A_19_0 c_21_0 n_20_0 x_23_0 22 1 :: .sl A_19_1 c_21_1 n_20_1 x_23_1 69 2 :: .sl A_19_4 c_21_4 n_20_4 x_23_4 71 2 :: (T_15 ++ R)) := by rw [iv_replicate] at st_39; exact st_39
  have hn_40 : 192 = (List.replicate 192 (0 : Int)).length := by simp
  refine WL.val Wanted.none (Runs.assign rfl) ?_
  refine WL.nil ?_
  refine QW.then_n ?_
  refine CW.seq ?_
  refine CW.region ?_
  refine WL.val Wanted.none (Runs.move rfl) ?_
  refine WL.val Wanted.none (Runs.move rfl) ?_
  obtain ⟨⟨p_42, q_43⟩, H⟩ := H
  obtain ⟨a_44, e_45⟩ := (st_39.src_sl (k := 1) rfl).addr_iv 5 (by omega)
  refine WL.val Wanted.none (Runs.indexAddr Try.underlying22 cells5 (by decide) rfl e_45 rfl p_42 (by rw [hn_35]; exact q_43) (o := 5) (by first | rfl | omega)) ?_
  obtain ⟨m_46, e_47, H⟩ := H
  refine WL.store_sl (i := 1) st_39 rfl cells5 rfl e_45 (by rw [iv_length]; omega) rfl rfl ?_
  intro w_48 st_49
  have hn_50 : 192 = m_46.length := by rw [e_47, List.length_set]; exact hn_35
  have st_49' : St w w_48 (.sl (some ⟨B_37, 0, none⟩) 192 192 (iv .u8 (List.replicate 192 (0 : Int))) 5 1 :: .sl (some ⟨B_32, 0, none⟩) 192 192 (iv .u8 m_46) 5 1 :: .cells b_18 (([.slice A_19_0 n_20_0 c_21_0] : List Value) ++ (([.slice A_19_1 n_20_1 c_21_1] : List Value) ++ (([.int .i64 a_26_2] : List Value) ++ (([.bool a_26_3] : List Value) ++ ([.slice A_19_4 n_20_4 c_21_4] : List Value))))) 66 :: .sl A_19_0 c_21_0 n_20_0 x_23_0 22 1 :: .sl A_19_1 c_21_1 n_20_1 x_23_1 69 2 :: .sl A_19_4 c_21_4 n_20_4 x_23_4 71 2 :: (T_15 ++ R)) := by rw [e_47, ← iv_set .u8 (List.replicate 192 (0 : Int)) 5 a0]; exact st_49
  refine WL.nil ?_
  refine QW.then_n ?_
  refine CW.sub [(0, .int .u8 a0), (1, .int .u8 a1), (2, .bool a2), (3, .bool a3), (8, .bool false), (10, .pointer (some ⟨b_18, 0, none⟩)), (12, .slice (some ⟨B_32, 0, none⟩) 192 192), (13, .slice (some ⟨B_37, 0, none⟩) 192 192)] ⟨rfl, rfl, rfl, rfl, rfl, rfl, rfl, rfl, trivial⟩ ?_
  refine CW.seq ?_
  refine CW.region ?_
  refine WL.val Wanted.none (Runs.move rfl) ?_
  refine WL.val Wanted.none (Runs.move rfl) ?_
  obtain ⟨⟨p_51, q_52⟩, H⟩ := H
  obtain ⟨a_53, e_54⟩ := (st_49'.src_sl (k := 0) rfl).addr_iv 5 (by omega)
  refine WL.val Wanted.none (Runs.indexAddr Try.underlying22 cells5 (by decide) rfl e_54 rfl p_51 (by rw [hn_40]; exact q_52) (o := 5) (by first | rfl | omega)) ?_
  obtain ⟨m_55, e_56, H⟩ := H
  refine WL.store_sl (i := 0) st_49' rfl cells5 rfl e_54 (by rw [iv_length]; omega) rfl rfl ?_
  intro w_57 st_58
  have hn_59 : 192 = m_55.length := by rw [e_56, List.length_set]; exact hn_40
  have st_58' : St w w_57 (.sl (some ⟨B_37, 0, none⟩) 192 192 (iv .u8 m_55) 5 1 :: .sl (some ⟨B_32, 0, none⟩) 192 192 (iv .u8 m_46) 5 1 :: .cells b_18 (([.slice A_19_0 n_20_0 c_21_0] : List Value) ++ (([.slice A_19_1 n_20_1 c_21_1] : List Value) ++ (([.int .i64 a_26_2] : List Value) ++ (([.bool a_26_3] : List Value) ++ ([.slice A_19_4 n_20_4 c_21_4] : List Value))))) 66 :: .sl A_19_0 c_21_0 n_20_0 x_23_0 22 1 :: .sl A_19_1 c_21_1 n_20_1 x_23_1 69 2 :: .sl A_19_4 c_21_4 n_20_4 x_23_4 71 2 :: (T_15 ++ R)) := by rw [e_56, ← iv_set .u8 (List.replicate 192 (0 : Int)) 5 a1]; exact st_58
  refine WL.nil ?_
  refine QW.then_n ?_
  refine CW.seq ?_
  refine CW.region ?_
  refine WL.val Wanted.none (Runs.move rfl) ?_
  refine WL.val Wanted.none (Runs.move rfl) ?_
  have st_60 := (St.pickT (L := [_, _, _, _, _, _]) st_58' [2, 3, 4, 5, 0, 1] (by decide))
  replace st_60 : St w w_57 (.cells b_18 (([.slice A_19_0 n_20_0 c_21_0] : List Value) ++ (([.slice A_19_1 n_20_1 c_21_1] : List Value) ++ (([.int .i64 a_26_2] : List Value) ++ (([.bool a_26_3] : List Value) ++ ([.slice A_19_4 n_20_4 c_21_4] : List Value))))) 66 :: .sl A_19_0 c_21_0 n_20_0 x_23_0 22 1 :: .sl A_19_1 c_21_1 n_20_1 x_23_1 69 2 :: .sl A_19_4 c_21_4 n_20_4 x_23_4 71 2 :: .sl (some ⟨B_37, 0, none⟩) 192 192 (iv .u8 m_55) 5 1 :: .sl (some ⟨B_32, 0, none⟩) 192 192 (iv .u8 m_46) 5 1 :: (T_15 ++ R)) := st_60
  have st_61 : St w w_57 (.cells b_18 (([.slice A_19_0 n_20_0 c_21_0] : List Value) ++ (([.slice A_19_1 n_20_1 c_21_1] : List Value) ++ (([.int .i64 a_26_2] : List Value) ++ (([.bool a_26_3] : List Value) ++ ([.slice A_19_4 n_20_4 c_21_4] : List Value))))) 66 :: .sl A_19_0 c_21_0 n_20_0 x_23_0 22 1 :: .sl A_19_1 c_21_1 n_20_1 x_23_1 69 2 :: .sl A_19_4 c_21_4 n_20_4 x_23_4 71 2 :: (T_15 ++ (.sl (some ⟨B_37, 0, none⟩) 192 192 (iv .u8 m_55) 5 1 :: .sl (some ⟨B_32, 0, none⟩) 192 192 (iv .u8 m_46) 5 1 :: R))) := St.hide (A := [_, _, _, _]) (B := [_, _]) (T := T_15) (R := R) st_60
  obtain ⟨l_68_0, l_68_1, a_72_2, a_72_3, l_68_4, a_74, hr_62, H⟩ := H
  refine WL.call Wanted.none ent11 rfl (disk_Disk_Write.calls w w_57 T_15 (.sl (some ⟨B_37, 0, none⟩) 192 192 (iv .u8 m_55) 5 1 :: .sl (some ⟨B_32, 0, none⟩) 192 192 (iv .u8 m_46) 5 1 :: R) l_22_0 l_22_1 a_26_2 a_26_3 l_22_4 0 m_46 b_18 A_19_0 n_20_0 c_21_0 x_23_0 A_19_1 n_20_1 c_21_1 x_23_1 A_19_4 n_20_4 c_21_4 x_23_4 (some ⟨B_32, 0, none⟩) 192 192  st_61 (hn_24_0) hx_25_0 (hn_24_1) hx_25_1 (hn_24_4) hx_25_4 ⟨hn_50, st_60.cap (i := 5) rfl, fun W_ L_ st hT => st.src_mem (hT _ (List.mem_append_right _ (List.mem_of_getElem? (i := 1) rfl)))⟩ l_68_0 l_68_1 a_72_2 a_72_3 l_68_4 a_74 hr_62) ?_
  rintro _ w_75 ⟨T_63, A_65_0, n_66_0, c_67_0, x_69_0, A_65_1, n_66_1, c_67_1, x_69_1, A_65_4, n_66_4, c_67_4, x_69_4, hs_64, hn_70_0, hx_71_0, hn_70_1, hx_71_1, hn_70_4, hx_71_4, rfl, sc_77⟩
  have st_76 : St w w_75 (.cells b_18 (([.slice A_65_0 n_66_0 c_67_0] : List Value) ++ (([.slice A_65_1 n_66_1 c_67_1] : List Value) ++ (([.int .i64 a_72_2] : List Value) ++ (([.bool a_72_3] : List Value) ++ ([.slice A_65_4 n_66_4 c_67_4] : List Value))))) 66 :: .sl A_65_0 c_67_0 n_66_0 x_69_0 22 1 :: .sl A_65_1 c_67_1 n_66_1 x_69_1 69 2 :: .sl A_65_4 c_67_4 n_66_4 x_69_4 71 2 :: .sl (some ⟨B_37, 0, none⟩) 192 192 (iv .u8 m_55) 5 1 :: .sl (some ⟨B_32, 0, none⟩) 192 192 (iv .u8 m_46) 5 1 :: (T_63 ++ R)) := St.unhide (A := [_, _, _, _]) (B := [_, _]) (T := T_63) (R := R) sc_77
  refine ⟨_, rfl, ?_⟩
  refine WL.val Wanted.none (Runs.assign rfl) ?_
  refine WL.nil ?_
  refine QW.then_n ?_
  refine CW.sub [(0, .int .u8 a0), (1, .int .u8 a1), (2, .bool a2), (3, .bool a3), (8, .bool false), (10, .pointer (some ⟨b_18, 0, none⟩)), (13, .slice (some ⟨B_37, 0, none⟩) 192 192), (14, .int .i64 a_74)] ⟨rfl, rfl, rfl, rfl, rfl, rfl, rfl, rfl, trivial⟩ ?_
  refine CW.seq ?_
  refine CW.region ?_
  refine WL.val Wanted.none (Runs.move rfl) ?_
  have st_78 : St w w_75 (.cells b_18 (([.slice A_65_0 n_66_0 c_67_0] : List Value) ++ (([.slice A_65_1 n_66_1 c_67_1] : List Value) ++ (([.int .i64 a_72_2] : List Value) ++ (([.bool a_72_3] : List Value) ++ ([.slice A_65_4 n_66_4 c_67_4] : List Value))))) 66 :: .sl A_65_0 c_67_0 n_66_0 x_69_0 22 1 :: .sl A_65_1 c_67_1 n_66_1 x_69_1 69 2 :: .sl A_65_4 c_67_4 n_66_4 x_69_4 71 2 :: (T_63 ++ (.sl (some ⟨B_37, 0, none⟩) 192 192 (iv .u8 m_55) 5 1 :: .sl (some ⟨B_32, 0, none⟩) 192 192 (iv .u8 m_46) 5 1 :: R))) := St.hide (A := [_, _, _, _]) (B := [_, _]) (T := T_63) (R := R) st_76
  obtain ⟨l_85_0, l_85_1, a_89_2, a_89_3, l_85_4, a_91, hr_79, H⟩ := H
  refine WL.call Wanted.none ent16 rfl (disk_Disk_Flush.calls w w_75 T_63 (.sl (some ⟨B_37, 0, none⟩) 192 192 (iv .u8 m_55) 5 1 :: .sl (some ⟨B_32, 0, none⟩) 192 192 (iv .u8 m_46) 5 1 :: R) l_68_0 l_68_1 a_72_2 a_72_3 l_68_4 b_18 A_65_0 n_66_0 c_67_0 x_69_0 A_65_1 n_66_1 c_67_1 x_69_1 A_65_4 n_66_4 c_67_4 x_69_4  st_78 (hn_70_0) hx_71_0 (hn_70_1) hx_71_1 (hn_70_4) hx_71_4 l_85_0 l_85_1 a_89_2 a_89_3 l_85_4 a_91 hr_79) ?_
  rintro _ w_92 ⟨T_80, A_82_0, n_83_0, c_84_0, x_86_0, A_82_1, n_83_1, c_84_1, x_86_1, A_82_4, n_83_4, c_84_4, x_86_4, hs_81, hn_87_0, hx_88_0, hn_87_1, hx_88_1, hn_87_4, hx_88_4, rfl, sc_94⟩
  have st_93 : St w w_92 (.cells b_18 (([.slice A_82_0 n_83_0 c_84_0] : List Value) ++ (([.slice A_82_1 n_83_1 c_84_1] : List Value) ++ (([.int .i64 a_89_2] : List Value) ++ (([.bool a_89_3] : List Value) ++ ([.slice A_82_4 n_83_4 c_84_4] : List Value))))) 66 :: .sl A_82_0 c_84_0 n_83_0 x_86_0 22 1 :: .sl A_82_1 c_84_1 n_83_1 x_86_1 69 2 :: .sl A_82_4 c_84_4 n_83_4 x_86_4 71 2 :: .sl (some ⟨B_37, 0, none⟩) 192 192 (iv .u8 m_55) 5 1 :: .sl (some ⟨B_32, 0, none⟩) 192 192 (iv .u8 m_46) 5 1 :: (T_80 ++ R)) := St.unhide (A := [_, _, _, _]) (B := [_, _]) (T := T_80) (R := R) sc_94
  refine ⟨_, rfl, ?_⟩
  refine WL.val Wanted.none (Runs.assign rfl) ?_
  refine WL.nil ?_
  refine QW.then_n ?_
  refine CW.seq ?_
  refine CW.region ?_
  refine WL.val Wanted.none (Runs.move rfl) ?_
  refine WL.val Wanted.none (Runs.move rfl) ?_
  have st_95 : St w w_92 (.cells b_18 (([.slice A_82_0 n_83_0 c_84_0] : List Value) ++ (([.slice A_82_1 n_83_1 c_84_1] : List Value) ++ (([.int .i64 a_89_2] : List Value) ++ (([.bool a_89_3] : List Value) ++ ([.slice A_82_4 n_83_4 c_84_4] : List Value))))) 66 :: .sl A_82_0 c_84_0 n_83_0 x_86_0 22 1 :: .sl A_82_1 c_84_1 n_83_1 x_86_1 69 2 :: .sl A_82_4 c_84_4 n_83_4 x_86_4 71 2 :: (T_80 ++ (.sl (some ⟨B_37, 0, none⟩) 192 192 (iv .u8 m_55) 5 1 :: .sl (some ⟨B_32, 0, none⟩) 192 192 (iv .u8 m_46) 5 1 :: R))) := St.hide (A := [_, _, _, _]) (B := [_, _]) (T := T_80) (R := R) st_93
  obtain ⟨l_102_0, l_102_1, a_106_2, a_106_3, l_102_4, a_108, hr_96, H⟩ := H
  refine WL.call Wanted.none ent11 rfl (disk_Disk_Write.calls w w_92 T_80 (.sl (some ⟨B_37, 0, none⟩) 192 192 (iv .u8 m_55) 5 1 :: .sl (some ⟨B_32, 0, none⟩) 192 192 (iv .u8 m_46) 5 1 :: R) l_85_0 l_85_1 a_89_2 a_89_3 l_85_4 0 m_55 b_18 A_82_0 n_83_0 c_84_0 x_86_0 A_82_1 n_83_1 c_84_1 x_86_1 A_82_4 n_83_4 c_84_4 x_86_4 (some ⟨B_37, 0, none⟩) 192 192  st_95 (hn_87_0) hx_88_0 (hn_87_1) hx_88_1 (hn_87_4) hx_88_4 ⟨hn_59, st_93.cap (i := 4) rfl, fun W_ L_ st hT => st.src_mem (hT _ (List.mem_append_right _ (List.mem_of_getElem? (i := 0) rfl)))⟩ l_102_0 l_102_1 a_106_2 a_106_3 l_102_4 a_108 hr_96) ?_
  rintro _ w_109 ⟨T_97, A_99_0, n_100_0, c_101_0, x_103_0, A_99_1, n_100_1, c_101_1, x_103_1, A_99_4, n_100_4, c_101_4, x_103_4, hs_98, hn_104_0, hx_105_0, hn_104_1, hx_105_1, hn_104_4, hx_105_4, rfl, sc_111⟩
  have st_110 : St w w_109 (.cells b_18 (([.slice A_99_0 n_100_0 c_101_0] : List Value) ++ (([.slice A_99_1 n_100_1 c_101_1] : List Value) ++ (([.int .i64 a_106_2] : List Value) ++ (([.bool a_106_3] : List Value) ++ ([.slice A_99_4 n_100_4 c_101_4] : List Value))))) 66 :: .sl A_99_0 c_101_0 n_100_0 x_103_0 22 1 :: .sl A_99_1 c_101_1 n_100_1 x_103_1 69 2 :: .sl A_99_4 c_101_4 n_100_4 x_103_4 71 2 :: .sl (some ⟨B_37, 0, none⟩) 192 192 (iv .u8 m_55) 5 1 :: .sl (some ⟨B_32, 0, none⟩) 192 192 (iv .u8 m_46) 5 1 :: (T_97 ++ R)) := St.unhide (A := [_, _, _, _]) (B := [_, _]) (T := T_97) (R := R) sc_111
  refine ⟨_, rfl, ?_⟩
  refine WL.val Wanted.none (Runs.assign rfl) ?_
  refine WL.nil ?_
  refine QW.then_n ?_
  refine CW.sub [(0, .int .u8 a0), (1, .int .u8 a1), (2, .bool a2), (3, .bool a3), (8, .bool false), (10, .pointer (some ⟨b_18, 0, none⟩)), (14, .int .i64 a_74), (15, .int .i64 a_91), (16, .int .i64 a_108)] ⟨rfl, rfl, rfl, rfl, rfl, rfl, rfl, rfl, rfl, trivial⟩ ?_
  refine CW.seq ?_
  refine CW.seq ?_
  refine CW.region ?_
  refine WL.val Wanted.none (Runs.move rfl) ?_
  refine WL.nil ?_
  refine QW.then_n ?_
  rcases H with ⟨c_112, H⟩ | ⟨c_112, H⟩
  · have h_113 : a2 = true := c_112
    refine CW.ct rfl h_113 ?_
    refine CW.region ?_
    refine WL.val Wanted.none (Runs.move rfl) ?_
    have st_114 : St w w_109 (.cells b_18 (([.slice A_99_0 n_100_0 c_101_0] : List Value) ++ (([.slice A_99_1 n_100_1 c_101_1] : List Value) ++ (([.int .i64 a_106_2] : List Value) ++ (([.bool a_106_3] : List Value) ++ ([.slice A_99_4 n_100_4 c_101_4] : List Value))))) 66 :: .sl A_99_0 c_101_0 n_100_0 x_103_0 22 1 :: .sl A_99_1 c_101_1 n_100_1 x_103_1 69 2 :: .sl A_99_4 c_101_4 n_100_4 x_103_4 71 2 :: (T_97 ++ (.sl (some ⟨B_37, 0, none⟩) 192 192 (iv .u8 m_55) 5 1 :: .sl (some ⟨B_32, 0, none⟩) 192 192 (iv .u8 m_46) 5 1 :: R))) := St.hide (A := [_, _, _, _]) (B := [_, _]) (T := T_97) (R := R) st_110
    obtain ⟨l_121_0, l_121_1, a_125_2, a_125_3, l_121_4, a_127, hr_115, H⟩ := H
    refine WL.call Wanted.none ent16 rfl (disk_Disk_Flush.calls w w_109 T_97 (.sl (some ⟨B_37, 0, none⟩) 192 192 (iv .u8 m_55) 5 1 :: .sl (some ⟨B_32, 0, none⟩) 192 192 (iv .u8 m_46) 5 1 :: R) l_102_0 l_102_1 a_106_2 a_106_3 l_102_4 b_18 A_99_0 n_100_0 c_101_0 x_103_0 A_99_1 n_100_1 c_101_1 x_103_1 A_99_4 n_100_4 c_101_4 x_103_4  st_114 (hn_104_0) hx_105_0 (hn_104_1) hx_105_1 (hn_104_4) hx_105_4 l_121_0 l_121_1 a_125_2 a_125_3 l_121_4 a_127 hr_115) ?_
    rintro _ w_128 ⟨T_116, A_118_0, n_119_0, c_120_0, x_122_0, A_118_1, n_119_1, c_120_1, x_122_1, A_118_4, n_119_4, c_120_4, x_122_4, hs_117, hn_123_0, hx_124_0, hn_123_1, hx_124_1, hn_123_4, hx_124_4, rfl, sc_130⟩
    have st_129 : St w w_128 (.cells b_18 (([.slice A_118_0 n_119_0 c_120_0] : List Value) ++ (([.slice A_118_1 n_119_1 c_120_1] : List Value) ++ (([.int .i64 a_125_2] : List Value) ++ (([.bool a_125_3] : List Value) ++ ([.slice A_118_4 n_119_4 c_120_4] : List Value))))) 66 :: .sl A_118_0 c_120_0 n_119_0 x_122_0 22 1 :: .sl A_118_1 c_120_1 n_119_1 x_122_1 69 2 :: .sl A_118_4 c_120_4 n_119_4 x_122_4 71 2 :: .sl (some ⟨B_37, 0, none⟩) 192 192 (iv .u8 m_55) 5 1 :: .sl (some ⟨B_32, 0, none⟩) 192 192 (iv .u8 m_46) 5 1 :: (T_116 ++ R)) := St.unhide (A := [_, _, _, _]) (B := [_, _]) (T := T_116) (R := R) sc_130
    refine ⟨_, rfl, ?_⟩
    refine WL.nil ?_
    refine QW.then_n ?_
    refine CW.seq ?_
    refine CW.region ?_
    refine WL.val Wanted.none (Runs.move rfl) ?_
    refine WL.val Wanted.none (Runs.move rfl) ?_
    refine WL.buildSl [.bool a3] st_129 Try.underlying23 elem4 rfl rfl (by decide) (by decide) (by simp [Value.cells]) ?_
    intro B_131 w_132 st_133
    replace st_133 : St w w_132 (.sl (some ⟨B_131, 0, none⟩) 1 1 (bv [a3]) 4 1 :: .cells b_18 (([.slice A_118_0 n_119_0 c_120_0] : List Value) ++ (([.slice A_118_1 n_119_1 c_120_1] : List Value) ++ (([.int .i64 a_125_2] : List Value) ++ (([.bool a_125_3] : List Value) ++ ([.slice A_118_4 n_119_4 c_120_4] : List Value))))) 66 :: .sl A_118_0 c_120_0 n_119_0 x_122_0 22 1 :: .sl A_118_1 c_120_1 n_119_1 x_122_1 69 2 :: .sl A_118_4 c_120_4 n_119_4 x_122_4 71 2 :: .sl (some ⟨B_37, 0, none⟩) 192 192 (iv .u8 m_55) 5 1 :: .sl (some ⟨B_32, 0, none⟩) 192 192 (iv .u8 m_46) 5 1 :: (T_116 ++ R)) := st_133
    have st_135 := (St.pickT (L := [_, _, _, _, _, _, _]) st_133 [1, 2, 3, 4, 0, 5, 6] (by decide))
    replace st_135 : St w w_132 (.cells b_18 (([.slice A_118_0 n_119_0 c_120_0] : List Value) ++ (([.slice A_118_1 n_119_1 c_120_1] : List Value) ++ (([.int .i64 a_125_2] : List Value) ++ (([.bool a_125_3] : List Value) ++ ([.slice A_118_4 n_119_4 c_120_4] : List Value))))) 66 :: .sl A_118_0 c_120_0 n_119_0 x_122_0 22 1 :: .sl A_118_1 c_120_1 n_119_1 x_122_1 69 2 :: .sl A_118_4 c_120_4 n_119_4 x_122_4 71 2 :: .sl (some ⟨B_131, 0, none⟩) 1 1 (bv [a3]) 4 1 :: .sl (some ⟨B_37, 0, none⟩) 192 192 (iv .u8 m_55) 5 1 :: .sl (some ⟨B_32, 0, none⟩) 192 192 (iv .u8 m_46) 5 1 :: (T_116 ++ R)) := st_135
    have st_136 : St w w_132 (.cells b_18 (([.slice A_118_0 n_119_0 c_120_0] : List Value) ++ (([.slice A_118_1 n_119_1 c_120_1] : List Value) ++ (([.int .i64 a_125_2] : List Value) ++ (([.bool a_125_3] : List Value) ++ ([.slice A_118_4 n_119_4 c_120_4] : List Value))))) 66 :: .sl A_118_0 c_120_0 n_119_0 x_122_0 22 1 :: .sl A_118_1 c_120_1 n_119_1 x_122_1 69 2 :: .sl A_118_4 c_120_4 n_119_4 x_122_4 71 2 :: (T_116 ++ (.sl (some ⟨B_131, 0, none⟩) 1 1 (bv [a3]) 4 1 :: .sl (some ⟨B_37, 0, none⟩) 192 192 (iv .u8 m_55) 5 1 :: .sl (some ⟨B_32, 0, none⟩) 192 192 (iv .u8 m_46) 5 1 :: R))) := St.hide (A := [_, _, _, _]) (B := [_, _, _]) (T := T_116) (R := R) st_135
    obtain ⟨l_143_0, l_143_1, a_147_2, a_147_3, l_143_4, hr_137, H⟩ := H
    refine WL.call Wanted.none ent14 rfl (disk_Disk_Crash.calls w w_132 T_116 (.sl (some ⟨B_131, 0, none⟩) 1 1 (bv [a3]) 4 1 :: .sl (some ⟨B_37, 0, none⟩) 192 192 (iv .u8 m_55) 5 1 :: .sl (some ⟨B_32, 0, none⟩) 192 192 (iv .u8 m_46) 5 1 :: R) l_121_0 l_121_1 a_125_2 a_125_3 l_121_4 [a3] b_18 A_118_0 n_119_0 c_120_0 x_122_0 A_118_1 n_119_1 c_120_1 x_122_1 A_118_4 n_119_4 c_120_4 x_122_4 (some ⟨B_131, 0, none⟩) 1 1  st_136 (hn_123_0) hx_124_0 (hn_123_1) hx_124_1 (hn_123_4) hx_124_4 ⟨rfl, st_135.cap (i := 4) rfl, fun W_ L_ st hT => st.src_mem (hT _ (List.mem_append_right _ (List.mem_of_getElem? (i := 0) rfl)))⟩ l_143_0 l_143_1 a_147_2 a_147_3 l_143_4 hr_137) ?_
    rintro _ w_148 ⟨T_138, A_140_0, n_141_0, c_142_0, x_144_0, A_140_1, n_141_1, c_142_1, x_144_1, A_140_4, n_141_4, c_142_4, x_144_4, hs_139, hn_145_0, hx_146_0, hn_145_1, hx_146_1, hn_145_4, hx_146_4, rfl, sc_150⟩
    have st_149 : St w w_148 (.cells b_18 (([.slice A_140_0 n_141_0 c_142_0] : List Value) ++ (([.slice A_140_1 n_141_1 c_142_1] : List Value) ++ (([.int .i64 a_147_2] : List Value) ++ (([.bool a_147_3] : List Value) ++ ([.slice A_140_4 n_141_4 c_142_4] : List Value))))) 66 :: .sl A_140_0 c_142_0 n_141_0 x_144_0 22 1 :: .sl A_140_1 c_142_1 n_141_1 x_144_1 69 2 :: .sl A_140_4 c_142_4 n_141_4 x_144_4 71 2 :: .sl (some ⟨B_131, 0, none⟩) 1 1 (bv [a3]) 4 1 :: .sl (some ⟨B_37, 0, none⟩) 192 192 (iv .u8 m_55) 5 1 :: .sl (some ⟨B_32, 0, none⟩) 192 192 (iv .u8 m_46) 5 1 :: (T_138 ++ R)) := St.unhide (A := [_, _, _, _]) (B := [_, _, _]) (T := T_138) (R := R) sc_150
    refine ⟨_, rfl, ?_⟩
    refine WL.nil ?_
    refine QW.then_n ?_
    refine CW.sub [(0, .int .u8 a0), (1, .int .u8 a1), (2, .bool a2), (3, .bool a3), (8, .bool false), (10, .pointer (some ⟨b_18, 0, none⟩)), (14, .int .i64 a_74), (15, .int .i64 a_91), (16, .int .i64 a_108)] ⟨rfl, rfl, rfl, rfl, rfl, rfl, rfl, rfl, rfl, trivial⟩ ?_
    refine CW.seq ?_
    refine CW.region ?_
    refine WL.val Wanted.none (Runs.move rfl) ?_
    have st_151 : St w w_148 (.cells b_18 (([.slice A_140_0 n_141_0 c_142_0] : List Value) ++ (([.slice A_140_1 n_141_1 c_142_1] : List Value) ++ (([.int .i64 a_147_2] : List Value) ++ (([.bool a_147_3] : List Value) ++ ([.slice A_140_4 n_141_4 c_142_4] : List Value))))) 66 :: .sl A_140_0 c_142_0 n_141_0 x_144_0 22 1 :: .sl A_140_1 c_142_1 n_141_1 x_144_1 69 2 :: .sl A_140_4 c_142_4 n_141_4 x_144_4 71 2 :: (T_138 ++ (.sl (some ⟨B_131, 0, none⟩) 1 1 (bv [a3]) 4 1 :: .sl (some ⟨B_37, 0, none⟩) 192 192 (iv .u8 m_55) 5 1 :: .sl (some ⟨B_32, 0, none⟩) 192 192 (iv .u8 m_46) 5 1 :: R))) := St.hide (A := [_, _, _, _]) (B := [_, _, _]) (T := T_138) (R := R) st_149
    obtain ⟨l_158_0, l_158_1, a_162_2, a_162_3, l_158_4, l_167, a_171, hr_152, H⟩ := H
    refine WL.call Wanted.none ent15 rfl (disk_Disk_Read.calls w w_148 T_138 (.sl (some ⟨B_131, 0, none⟩) 1 1 (bv [a3]) 4 1 :: .sl (some ⟨B_37, 0, none⟩) 192 192 (iv .u8 m_55) 5 1 :: .sl (some ⟨B_32, 0, none⟩) 192 192 (iv .u8 m_46) 5 1 :: R) l_143_0 l_143_1 a_147_2 a_147_3 l_143_4 0 b_18 A_140_0 n_141_0 c_142_0 x_144_0 A_140_1 n_141_1 c_142_1 x_144_1 A_140_4 n_141_4 c_142_4 x_144_4 (hs_139.2 (hs_117.2 (hs_98.2 (hs_81.2 (hs_64.2 (hs_16.2 hT)))))) (show celly (.sl (some ⟨B_131, 0, none⟩) 1 1 (bv [a3]) 4 1 :: .sl (some ⟨B_37, 0, none⟩) 192 192 (iv .u8 m_55) 5 1 :: .sl (some ⟨B_32, 0, none⟩) 192 192 (iv .u8 m_46) 5 1 :: R) = true from hR) st_151 (hn_145_0) hx_146_0 (hn_145_1) hx_146_1 (hn_145_4) hx_146_4 l_158_0 l_158_1 a_162_2 a_162_3 l_158_4 l_167 a_171 hr_152) ?_
    rintro _ w_172 ⟨T_153, A_155_0, n_156_0, c_157_0, x_159_0, A_155_1, n_156_1, c_157_1, x_159_1, A_155_4, n_156_4, c_157_4, x_159_4, A_164, n_165, c_166, hs_154, hn_160_0, hx_161_0, hn_160_1, hx_161_1, hn_160_4, hx_161_4, hn_169, rfl, sc_174⟩
    have st_173 : St w w_172 (.cells b_18 (([.slice A_155_0 n_156_0 c_157_0] : List Value) ++ (([.slice A_155_1 n_156_1 c_157_1] : List Value) ++ (([.int .i64 a_162_2] : List Value) ++ (([.bool a_162_3] : List Value) ++ ([.slice A_155_4 n_156_4 c_157_4] : List Value))))) 66 :: .sl A_155_0 c_157_0 n_156_0 x_159_0 22 1 :: .sl A_155_1 c_157_1 n_156_1 x_159_1 69 2 :: .sl A_155_4 c_157_4 n_156_4 x_159_4 71 2 :: .sl A_164 c_166 n_165 (iv .u8 l_167) 5 1 :: .sl (some ⟨B_131, 0, none⟩) 1 1 (bv [a3]) 4 1 :: .sl (some ⟨B_37, 0, none⟩) 192 192 (iv .u8 m_55) 5 1 :: .sl (some ⟨B_32, 0, none⟩) 192 192 (iv .u8 m_46) 5 1 :: (T_153 ++ R)) := St.unhide (A := [_, _, _, _, _]) (B := [_, _, _]) (T := T_153) (R := R) sc_174
    refine ⟨_, rfl, ?_⟩
    refine WL.val Wanted.none (Runs.move rfl) ?_
    refine WL.val Wanted.none (Runs.extract rfl rfl) ?_
    refine WL.val Wanted.none (Runs.extract rfl rfl) ?_
    refine WL.val Wanted.none (Runs.assign rfl) ?_
    refine WL.val Wanted.none (Runs.assign rfl) ?_
    refine WL.nil ?_
    refine QW.then_n ?_
    refine CW.sub [(0, .int .u8 a0), (1, .int .u8 a1), (2, .bool a2), (3, .bool a3), (8, .bool false), (14, .int .i64 a_74), (15, .int .i64 a_91), (16, .int .i64 a_108), (17, .slice A_164 n_165 c_166), (18, .int .i64 a_171)] ⟨rfl, rfl, rfl, rfl, rfl, rfl, rfl, rfl, rfl, rfl, trivial⟩ ?_
    refine CW.seq ?_
    refine CW.region ?_
    refine WL.val Wanted.none (Runs.move rfl) ?_
    refine WL.val Wanted.none (Runs.assign rfl) ?_
    refine WL.nil ?_
    refine QW.then_n ?_
    refine CW.seq ?_
    refine CW.seq ?_
    refine CW.region ?_
    refine WL.val Wanted.none (Runs.move rfl) ?_
    refine WL.val Wanted.none (Runs.move rfl) ?_
    refine WL.off ?_ ?_; exact Wanted.guard (dj := 59) (by rfl) (evb (by rfl) h_113) (by rfl)
    refine WL.val Wanted.none (Runs.pick_t (evb rfl h_113) rfl) ?_
    refine WL.nil ?_
    refine QW.then_n ?_
    refine CW.sub [(1, .int .u8 a1), (8, .bool false), (14, .int .i64 a_74), (15, .int .i64 a_91), (16, .int .i64 a_108), (17, .slice A_164 n_165 c_166), (18, .int .i64 a_171), (19, .int .u8 a0), (61, .bool true)] ⟨rfl, rfl, rfl, rfl, rfl, rfl, rfl, rfl, rfl, trivial⟩ ?_
    refine CW.ct rfl rfl ?_
    refine CW.region ?_
    refine WL.val Wanted.none (Runs.move rfl) ?_
    refine WL.val Wanted.none (Runs.assign rfl) ?_
    refine WL.nil ?_
    refine QW.then_n ?_
    refine CW.seq ?_
    refine CW.region ?_
    refine WL.val Wanted.none (Runs.move rfl) ?_
    refine WL.val Wanted.none (Runs.eql rfl rfl rfl) ?_
    refine WL.val Wanted.none (Runs.move rfl) ?_
    obtain ⟨c_175, H⟩ := H
    have h_176 : (a_74 == 0) = true := (beq_iff_eq.mpr c_175)
    refine WL.on ?_ ?_; exact Wanted.guard (dj := 65) (by rfl) (evb (by rfl) h_176) (by rfl)
    refine WL.val Wanted.none (Runs.move rfl) ?_
    refine WL.on ?_ ?_; exact Wanted.guard (dj := 65) (by rfl) (evb (by rfl) h_176) (by rfl)
    refine WL.val Wanted.none (Runs.eql rfl rfl rfl) ?_
    refine WL.val Wanted.none (Runs.pick_t (evb rfl h_176) rfl) ?_
    refine WL.val Wanted.none (Runs.move rfl) ?_
    obtain ⟨c_177, H⟩ := H
    have h_178 : (a_91 == 0) = true := (beq_iff_eq.mpr c_177)
    refine WL.on ?_ ?_; exact Wanted.guard (dj := 69) (by rfl) (evb (by rfl) h_178) (by rfl)
    refine WL.val Wanted.none (Runs.move rfl) ?_
    refine WL.on ?_ ?_; exact Wanted.guard (dj := 69) (by rfl) (evb (by rfl) h_178) (by rfl)
    refine WL.val Wanted.none (Runs.eql rfl rfl rfl) ?_
    refine WL.val Wanted.none (Runs.pick_t (evb rfl h_178) rfl) ?_
    refine WL.val Wanted.none (Runs.move rfl) ?_
    obtain ⟨c_179, H⟩ := H
    have h_180 : (a_108 == 0) = true := (beq_iff_eq.mpr c_179)
    refine WL.on ?_ ?_; exact Wanted.guard (dj := 73) (by rfl) (evb (by rfl) h_180) (by rfl)
    refine WL.val Wanted.none (Runs.move rfl) ?_
    refine WL.on ?_ ?_; exact Wanted.guard (dj := 73) (by rfl) (evb (by rfl) h_180) (by rfl)
    refine WL.val Wanted.none (Runs.eql rfl rfl rfl) ?_
    refine WL.val Wanted.none (Runs.pick_t (evb rfl h_180) rfl) ?_
    refine WL.val Wanted.none (Runs.move rfl) ?_
    obtain ⟨c_181, H⟩ := H
    have h_182 : (a_171 == 0) = true := (beq_iff_eq.mpr c_181)
    refine WL.on ?_ ?_; exact Wanted.guard (dj := 77) (by rfl) (evb (by rfl) h_182) (by rfl)
    refine WL.val Wanted.none (Runs.move rfl) ?_
    refine WL.on ?_ ?_; exact Wanted.guard (dj := 77) (by rfl) (evb (by rfl) h_182) (by rfl)
    obtain ⟨⟨p_183, q_184⟩, H⟩ := H
    obtain ⟨a_185, e_186⟩ := (st_173.src_sl (k := 4) rfl).addr_iv 5 (by omega)
    refine WL.val Wanted.none (Runs.indexAddr Try.underlying22 cells5 (by decide) rfl e_186 rfl p_183 (by rw [hn_169]; exact q_184) (o := 5) (by first | rfl | omega)) ?_
    refine WL.on ?_ ?_; exact Wanted.guard (dj := 77) (by rfl) (evb (by rfl) h_182) (by rfl)
    refine WL.val Wanted.none (Runs.load nagg5 rfl ((st_173.src_sl (k := 4) rfl).cell_iv e_186 (by omega))) ?_
    refine WL.on ?_ ?_; exact Wanted.guard (dj := 77) (by rfl) (evb (by rfl) h_182) (by rfl)
    refine WL.val Wanted.none (Runs.move rfl) ?_
    refine WL.on ?_ ?_; exact Wanted.guard (dj := 77) (by rfl) (evb (by rfl) h_182) (by rfl)
    refine WL.val Wanted.none (Runs.eql rfl rfl rfl) ?_
    refine WL.val Wanted.none (Runs.pick_t (evb rfl h_182) rfl) ?_
    refine WL.val Wanted.none (Runs.assign rfl) ?_
    refine WL.nil ?_
    refine QW.then_n ?_
    refine CW.sub [(8, .bool ((gn l_167 5) == a1))] ⟨rfl, trivial⟩ ?_
    refine CW.ret ?_
    have hz : ((gn l_167 5) == a1) = true := (beq_iff_eq.mpr H)
    exact QW.ret1 rfl (evb rfl hz) ⟨rfl, st_173.ext⟩
  · have h_113 : a2 = false := (Bool.eq_false_iff.mpr c_112)
    refine CW.cf rfl h_113 ?_
    refine CW.skip ?_
    refine QW.then_n ?_
    refine CW.seq ?_
    refine CW.region ?_
    refine WL.val Wanted.none (Runs.move rfl) ?_
    refine WL.val Wanted.none (Runs.move rfl) ?_
    refine WL.buildSl [.bool a3] st_110 Try.underlying23 elem4 rfl rfl (by decide) (by decide) (by simp [Value.cells]) ?_
    intro B_187 w_188 st_189
    replace st_189 : St w w_188 (.sl (some ⟨B_187, 0, none⟩) 1 1 (bv [a3]) 4 1 :: .cells b_18 (([.slice A_99_0 n_100_0 c_101_0] : List Value) ++ (([.slice A_99_1 n_100_1 c_101_1] : List Value) ++ (([.int .i64 a_106_2] : List Value) ++ (([.bool a_106_3] : List Value) ++ ([.slice A_99_4 n_100_4 c_101_4] : List Value))))) 66 :: .sl A_99_0 c_101_0 n_100_0 x_103_0 22 1 :: .sl A_99_1 c_101_1 n_100_1 x_103_1 69 2 :: .sl A_99_4 c_101_4 n_100_4 x_103_4 71 2 :: .sl (some ⟨B_37, 0, none⟩) 192 192 (iv .u8 m_55) 5 1 :: .sl (some ⟨B_32, 0, none⟩) 192 192 (iv .u8 m_46) 5 1 :: (T_97 ++ R)) := st_189
    have st_191 := (St.pickT (L := [_, _, _, _, _, _, _]) st_189 [1, 2, 3, 4, 0, 5, 6] (by decide))
    replace st_191 : St w w_188 (.cells b_18 (([.slice A_99_0 n_100_0 c_101_0] : List Value) ++ (([.slice A_99_1 n_100_1 c_101_1] : List Value) ++ (([.int .i64 a_106_2] : List Value) ++ (([.bool a_106_3] : List Value) ++ ([.slice A_99_4 n_100_4 c_101_4] : List Value))))) 66 :: .sl A_99_0 c_101_0 n_100_0 x_103_0 22 1 :: .sl A_99_1 c_101_1 n_100_1 x_103_1 69 2 :: .sl A_99_4 c_101_4 n_100_4 x_103_4 71 2 :: .sl (some ⟨B_187, 0, none⟩) 1 1 (bv [a3]) 4 1 :: .sl (some ⟨B_37, 0, none⟩) 192 192 (iv .u8 m_55) 5 1 :: .sl (some ⟨B_32, 0, none⟩) 192 192 (iv .u8 m_46) 5 1 :: (T_97 ++ R)) := st_191
    have st_192 : St w w_188 (.cells b_18 (([.slice A_99_0 n_100_0 c_101_0] : List Value) ++ (([.slice A_99_1 n_100_1 c_101_1] : List Value) ++ (([.int .i64 a_106_2] : List Value) ++ (([.bool a_106_3] : List Value) ++ ([.slice A_99_4 n_100_4 c_101_4] : List Value))))) 66 :: .sl A_99_0 c_101_0 n_100_0 x_103_0 22 1 :: .sl A_99_1 c_101_1 n_100_1 x_103_1 69 2 :: .sl A_99_4 c_101_4 n_100_4 x_103_4 71 2 :: (T_97 ++ (.sl (some ⟨B_187, 0, none⟩) 1 1 (bv [a3]) 4 1 :: .sl (some ⟨B_37, 0, none⟩) 192 192 (iv .u8 m_55) 5 1 :: .sl (some ⟨B_32, 0, none⟩) 192 192 (iv .u8 m_46) 5 1 :: R))) := St.hide (A := [_, _, _, _]) (B := [_, _, _]) (T := T_97) (R := R) st_191
    obtain ⟨l_199_0, l_199_1, a_203_2, a_203_3, l_199_4, hr_193, H⟩ := H
    refine WL.call Wanted.none ent14 rfl (disk_Disk_Crash.calls w w_188 T_97 (.sl (some ⟨B_187, 0, none⟩) 1 1 (bv [a3]) 4 1 :: .sl (some ⟨B_37, 0, none⟩) 192 192 (iv .u8 m_55) 5 1 :: .sl (some ⟨B_32, 0, none⟩) 192 192 (iv .u8 m_46) 5 1 :: R) l_102_0 l_102_1 a_106_2 a_106_3 l_102_4 [a3] b_18 A_99_0 n_100_0 c_101_0 x_103_0 A_99_1 n_100_1 c_101_1 x_103_1 A_99_4 n_100_4 c_101_4 x_103_4 (some ⟨B_187, 0, none⟩) 1 1  st_192 (hn_104_0) hx_105_0 (hn_104_1) hx_105_1 (hn_104_4) hx_105_4 ⟨rfl, st_191.cap (i := 4) rfl, fun W_ L_ st hT => st.src_mem (hT _ (List.mem_append_right _ (List.mem_of_getElem? (i := 0) rfl)))⟩ l_199_0 l_199_1 a_203_2 a_203_3 l_199_4 hr_193) ?_
    rintro _ w_204 ⟨T_194, A_196_0, n_197_0, c_198_0, x_200_0, A_196_1, n_197_1, c_198_1, x_200_1, A_196_4, n_197_4, c_198_4, x_200_4, hs_195, hn_201_0, hx_202_0, hn_201_1, hx_202_1, hn_201_4, hx_202_4, rfl, sc_206⟩
    have st_205 : St w w_204 (.cells b_18 (([.slice A_196_0 n_197_0 c_198_0] : List Value) ++ (([.slice A_196_1 n_197_1 c_198_1] : List Value) ++ (([.int .i64 a_203_2] : List Value) ++ (([.bool a_203_3] : List Value) ++ ([.slice A_196_4 n_197_4 c_198_4] : List Value))))) 66 :: .sl A_196_0 c_198_0 n_197_0 x_200_0 22 1 :: .sl A_196_1 c_198_1 n_197_1 x_200_1 69 2 :: .sl A_196_4 c_198_4 n_197_4 x_200_4 71 2 :: .sl (some ⟨B_187, 0, none⟩) 1 1 (bv [a3]) 4 1 :: .sl (some ⟨B_37, 0, none⟩) 192 192 (iv .u8 m_55) 5 1 :: .sl (some ⟨B_32, 0, none⟩) 192 192 (iv .u8 m_46) 5 1 :: (T_194 ++ R)) := St.unhide (A := [_, _, _, _]) (B := [_, _, _]) (T := T_194) (R := R) sc_206
    refine ⟨_, rfl, ?_⟩
    refine WL.nil ?_
    refine QW.then_n ?_
    refine CW.seq ?_
    refine CW.region ?_
    refine WL.val Wanted.none (Runs.move rfl) ?_
    have st_207 : St w w_204 (.cells b_18 (([.slice A_196_0 n_197_0 c_198_0] : List Value) ++ (([.slice A_196_1 n_197_1 c_198_1] : List Value) ++ (([.int .i64 a_203_2] : List Value) ++ (([.bool a_203_3] : List Value) ++ ([.slice A_196_4 n_197_4 c_198_4] : List Value))))) 66 :: .sl A_196_0 c_198_0 n_197_0 x_200_0 22 1 :: .sl A_196_1 c_198_1 n_197_1 x_200_1 69 2 :: .sl A_196_4 c_198_4 n_197_4 x_200_4 71 2 :: (T_194 ++ (.sl (some ⟨B_187, 0, none⟩) 1 1 (bv [a3]) 4 1 :: .sl (some ⟨B_37, 0, none⟩) 192 192 (iv .u8 m_55) 5 1 :: .sl (some ⟨B_32, 0, none⟩) 192 192 (iv .u8 m_46) 5 1 :: R))) := St.hide (A := [_, _, _, _]) (B := [_, _, _]) (T := T_194) (R := R) st_205
    obtain ⟨l_214_0, l_214_1, a_218_2, a_218_3, l_214_4, l_223, a_227, hr_208, H⟩ := H
    refine WL.call Wanted.none ent15 rfl (disk_Disk_Read.calls w w_204 T_194 (.sl (some ⟨B_187, 0, none⟩) 1 1 (bv [a3]) 4 1 :: .sl (some ⟨B_37, 0, none⟩) 192 192 (iv .u8 m_55) 5 1 :: .sl (some ⟨B_32, 0, none⟩) 192 192 (iv .u8 m_46) 5 1 :: R) l_199_0 l_199_1 a_203_2 a_203_3 l_199_4 0 b_18 A_196_0 n_197_0 c_198_0 x_200_0 A_196_1 n_197_1 c_198_1 x_200_1 A_196_4 n_197_4 c_198_4 x_200_4 (hs_195.2 (hs_98.2 (hs_81.2 (hs_64.2 (hs_16.2 hT))))) (show celly (.sl (some ⟨B_187, 0, none⟩) 1 1 (bv [a3]) 4 1 :: .sl (some ⟨B_37, 0, none⟩) 192 192 (iv .u8 m_55) 5 1 :: .sl (some ⟨B_32, 0, none⟩) 192 192 (iv .u8 m_46) 5 1 :: R) = true from hR) st_207 (hn_201_0) hx_202_0 (hn_201_1) hx_202_1 (hn_201_4) hx_202_4 l_214_0 l_214_1 a_218_2 a_218_3 l_214_4 l_223 a_227 hr_208) ?_
    rintro _ w_228 ⟨T_209, A_211_0, n_212_0, c_213_0, x_215_0, A_211_1, n_212_1, c_213_1, x_215_1, A_211_4, n_212_4, c_213_4, x_215_4, A_220, n_221, c_222, hs_210, hn_216_0, hx_217_0, hn_216_1, hx_217_1, hn_216_4, hx_217_4, hn_225, rfl, sc_230⟩
    have st_229 : St w w_228 (.cells b_18 (([.slice A_211_0 n_212_0 c_213_0] : List Value) ++ (([.slice A_211_1 n_212_1 c_213_1] : List Value) ++ (([.int .i64 a_218_2] : List Value) ++ (([.bool a_218_3] : List Value) ++ ([.slice A_211_4 n_212_4 c_213_4] : List Value))))) 66 :: .sl A_211_0 c_213_0 n_212_0 x_215_0 22 1 :: .sl A_211_1 c_213_1 n_212_1 x_215_1 69 2 :: .sl A_211_4 c_213_4 n_212_4 x_215_4 71 2 :: .sl A_220 c_222 n_221 (iv .u8 l_223) 5 1 :: .sl (some ⟨B_187, 0, none⟩) 1 1 (bv [a3]) 4 1 :: .sl (some ⟨B_37, 0, none⟩) 192 192 (iv .u8 m_55) 5 1 :: .sl (some ⟨B_32, 0, none⟩) 192 192 (iv .u8 m_46) 5 1 :: (T_209 ++ R)) := St.unhide (A := [_, _, _, _, _]) (B := [_, _, _]) (T := T_209) (R := R) sc_230
    refine ⟨_, rfl, ?_⟩
    refine WL.val Wanted.none (Runs.move rfl) ?_
    refine WL.val Wanted.none (Runs.extract rfl rfl) ?_
    refine WL.val Wanted.none (Runs.extract rfl rfl) ?_
    refine WL.val Wanted.none (Runs.assign rfl) ?_
    refine WL.val Wanted.none (Runs.assign rfl) ?_
    refine WL.nil ?_
    refine QW.then_n ?_
    refine CW.sub [(0, .int .u8 a0), (1, .int .u8 a1), (2, .bool a2), (3, .bool a3), (8, .bool false), (14, .int .i64 a_74), (15, .int .i64 a_91), (16, .int .i64 a_108), (17, .slice A_220 n_221 c_222), (18, .int .i64 a_227)] ⟨rfl, rfl, rfl, rfl, rfl, rfl, rfl, rfl, rfl, rfl, trivial⟩ ?_
    refine CW.seq ?_
    refine CW.region ?_
    refine WL.val Wanted.none (Runs.move rfl) ?_
    refine WL.val Wanted.none (Runs.assign rfl) ?_
    refine WL.nil ?_
    refine QW.then_n ?_
    refine CW.seq ?_
    refine CW.seq ?_
    refine CW.region ?_
    refine WL.val Wanted.none (Runs.move rfl) ?_
    refine WL.val Wanted.none (Runs.move rfl) ?_
    refine WL.on ?_ ?_; exact Wanted.guard (dj := 59) (by rfl) (evb (by rfl) h_113) (by rfl)
    refine WL.val Wanted.none (Runs.move rfl) ?_
    refine WL.val Wanted.none (Runs.pick_f (evb rfl h_113) rfl) ?_
    refine WL.nil ?_
    refine QW.then_n ?_
    refine CW.sub [(1, .int .u8 a1), (8, .bool false), (14, .int .i64 a_74), (15, .int .i64 a_91), (16, .int .i64 a_108), (17, .slice A_220 n_221 c_222), (18, .int .i64 a_227), (19, .int .u8 a0), (61, .bool a3)] ⟨rfl, rfl, rfl, rfl, rfl, rfl, rfl, rfl, rfl, trivial⟩ ?_
    rcases H with ⟨c_231, H⟩ | ⟨c_231, H⟩
    · have h_232 : a3 = true := c_231
      refine CW.ct rfl h_232 ?_
      refine CW.region ?_
      refine WL.val Wanted.none (Runs.move rfl) ?_
      refine WL.val Wanted.none (Runs.assign rfl) ?_
      refine WL.nil ?_
      refine QW.then_n ?_
      refine CW.seq ?_
      refine CW.region ?_
      refine WL.val Wanted.none (Runs.move rfl) ?_
      refine WL.val Wanted.none (Runs.eql rfl rfl rfl) ?_
      refine WL.val Wanted.none (Runs.move rfl) ?_
      obtain ⟨c_233, H⟩ := H
      have h_234 : (a_74 == 0) = true := (beq_iff_eq.mpr c_233)
      refine WL.on ?_ ?_; exact Wanted.guard (dj := 65) (by rfl) (evb (by rfl) h_234) (by rfl)
      refine WL.val Wanted.none (Runs.move rfl) ?_
      refine WL.on ?_ ?_; exact Wanted.guard (dj := 65) (by rfl) (evb (by rfl) h_234) (by rfl)
      refine WL.val Wanted.none (Runs.eql rfl rfl rfl) ?_
      refine WL.val Wanted.none (Runs.pick_t (evb rfl h_234) rfl) ?_
      refine WL.val Wanted.none (Runs.move rfl) ?_
      obtain ⟨c_235, H⟩ := H
      have h_236 : (a_91 == 0) = true := (beq_iff_eq.mpr c_235)
      refine WL.on ?_ ?_; exact Wanted.guard (dj := 69) (by rfl) (evb (by rfl) h_236) (by rfl)
      refine WL.val Wanted.none (Runs.move rfl) ?_
      refine WL.on ?_ ?_; exact Wanted.guard (dj := 69) (by rfl) (evb (by rfl) h_236) (by rfl)
      refine WL.val Wanted.none (Runs.eql rfl rfl rfl) ?_
      refine WL.val Wanted.none (Runs.pick_t (evb rfl h_236) rfl) ?_
      refine WL.val Wanted.none (Runs.move rfl) ?_
      obtain ⟨c_237, H⟩ := H
      have h_238 : (a_108 == 0) = true := (beq_iff_eq.mpr c_237)
      refine WL.on ?_ ?_; exact Wanted.guard (dj := 73) (by rfl) (evb (by rfl) h_238) (by rfl)
      refine WL.val Wanted.none (Runs.move rfl) ?_
      refine WL.on ?_ ?_; exact Wanted.guard (dj := 73) (by rfl) (evb (by rfl) h_238) (by rfl)
      refine WL.val Wanted.none (Runs.eql rfl rfl rfl) ?_
      refine WL.val Wanted.none (Runs.pick_t (evb rfl h_238) rfl) ?_
      refine WL.val Wanted.none (Runs.move rfl) ?_
      obtain ⟨c_239, H⟩ := H
      have h_240 : (a_227 == 0) = true := (beq_iff_eq.mpr c_239)
      refine WL.on ?_ ?_; exact Wanted.guard (dj := 77) (by rfl) (evb (by rfl) h_240) (by rfl)
      refine WL.val Wanted.none (Runs.move rfl) ?_
      refine WL.on ?_ ?_; exact Wanted.guard (dj := 77) (by rfl) (evb (by rfl) h_240) (by rfl)
      obtain ⟨⟨p_241, q_242⟩, H⟩ := H
      obtain ⟨a_243, e_244⟩ := (st_229.src_sl (k := 4) rfl).addr_iv 5 (by omega)
      refine WL.val Wanted.none (Runs.indexAddr Try.underlying22 cells5 (by decide) rfl e_244 rfl p_241 (by rw [hn_225]; exact q_242) (o := 5) (by first | rfl | omega)) ?_
      refine WL.on ?_ ?_; exact Wanted.guard (dj := 77) (by rfl) (evb (by rfl) h_240) (by rfl)
      refine WL.val Wanted.none (Runs.load nagg5 rfl ((st_229.src_sl (k := 4) rfl).cell_iv e_244 (by omega))) ?_
      refine WL.on ?_ ?_; exact Wanted.guard (dj := 77) (by rfl) (evb (by rfl) h_240) (by rfl)
      refine WL.val Wanted.none (Runs.move rfl) ?_
      refine WL.on ?_ ?_; exact Wanted.guard (dj := 77) (by rfl) (evb (by rfl) h_240) (by rfl)
      refine WL.val Wanted.none (Runs.eql rfl rfl rfl) ?_
      refine WL.val Wanted.none (Runs.pick_t (evb rfl h_240) rfl) ?_
      refine WL.val Wanted.none (Runs.assign rfl) ?_
      refine WL.nil ?_
      refine QW.then_n ?_
      refine CW.sub [(8, .bool ((gn l_223 5) == a1))] ⟨rfl, trivial⟩ ?_
      refine CW.ret ?_
      have hz : ((gn l_223 5) == a1) = true := (beq_iff_eq.mpr H)
      exact QW.ret1 rfl (evb rfl hz) ⟨rfl, st_229.ext⟩
    · have h_232 : a3 = false := (Bool.eq_false_iff.mpr c_231)
      refine CW.cf rfl h_232 ?_
      refine CW.skip ?_
      refine QW.then_n ?_
      refine CW.seq ?_
      refine CW.region ?_
      refine WL.val Wanted.none (Runs.move rfl) ?_
      refine WL.val Wanted.none (Runs.eql rfl rfl rfl) ?_
      refine WL.val Wanted.none (Runs.move rfl) ?_
      obtain ⟨c_245, H⟩ := H
      have h_246 : (a_74 == 0) = true := (beq_iff_eq.mpr c_245)
      refine WL.on ?_ ?_; exact Wanted.guard (dj := 65) (by rfl) (evb (by rfl) h_246) (by rfl)
      refine WL.val Wanted.none (Runs.move rfl) ?_
      refine WL.on ?_ ?_; exact Wanted.guard (dj := 65) (by rfl) (evb (by rfl) h_246) (by rfl)
      refine WL.val Wanted.none (Runs.eql rfl rfl rfl) ?_
      refine WL.val Wanted.none (Runs.pick_t (evb rfl h_246) rfl) ?_
      refine WL.val Wanted.none (Runs.move rfl) ?_
      obtain ⟨c_247, H⟩ := H
      have h_248 : (a_91 == 0) = true := (beq_iff_eq.mpr c_247)
      refine WL.on ?_ ?_; exact Wanted.guard (dj := 69) (by rfl) (evb (by rfl) h_248) (by rfl)
      refine WL.val Wanted.none (Runs.move rfl) ?_
      refine WL.on ?_ ?_; exact Wanted.guard (dj := 69) (by rfl) (evb (by rfl) h_248) (by rfl)
      refine WL.val Wanted.none (Runs.eql rfl rfl rfl) ?_
      refine WL.val Wanted.none (Runs.pick_t (evb rfl h_248) rfl) ?_
      refine WL.val Wanted.none (Runs.move rfl) ?_
      obtain ⟨c_249, H⟩ := H
      have h_250 : (a_108 == 0) = true := (beq_iff_eq.mpr c_249)
      refine WL.on ?_ ?_; exact Wanted.guard (dj := 73) (by rfl) (evb (by rfl) h_250) (by rfl)
      refine WL.val Wanted.none (Runs.move rfl) ?_
      refine WL.on ?_ ?_; exact Wanted.guard (dj := 73) (by rfl) (evb (by rfl) h_250) (by rfl)
      refine WL.val Wanted.none (Runs.eql rfl rfl rfl) ?_
      refine WL.val Wanted.none (Runs.pick_t (evb rfl h_250) rfl) ?_
      refine WL.val Wanted.none (Runs.move rfl) ?_
      obtain ⟨c_251, H⟩ := H
      have h_252 : (a_227 == 0) = true := (beq_iff_eq.mpr c_251)
      refine WL.on ?_ ?_; exact Wanted.guard (dj := 77) (by rfl) (evb (by rfl) h_252) (by rfl)
      refine WL.val Wanted.none (Runs.move rfl) ?_
      refine WL.on ?_ ?_; exact Wanted.guard (dj := 77) (by rfl) (evb (by rfl) h_252) (by rfl)
      obtain ⟨⟨p_253, q_254⟩, H⟩ := H
      obtain ⟨a_255, e_256⟩ := (st_229.src_sl (k := 4) rfl).addr_iv 5 (by omega)
      refine WL.val Wanted.none (Runs.indexAddr Try.underlying22 cells5 (by decide) rfl e_256 rfl p_253 (by rw [hn_225]; exact q_254) (o := 5) (by first | rfl | omega)) ?_
      refine WL.on ?_ ?_; exact Wanted.guard (dj := 77) (by rfl) (evb (by rfl) h_252) (by rfl)
      refine WL.val Wanted.none (Runs.load nagg5 rfl ((st_229.src_sl (k := 4) rfl).cell_iv e_256 (by omega))) ?_
      refine WL.on ?_ ?_; exact Wanted.guard (dj := 77) (by rfl) (evb (by rfl) h_252) (by rfl)
      refine WL.val Wanted.none (Runs.move rfl) ?_
      refine WL.on ?_ ?_; exact Wanted.guard (dj := 77) (by rfl) (evb (by rfl) h_252) (by rfl)
      refine WL.val Wanted.none (Runs.eql rfl rfl rfl) ?_
      refine WL.val Wanted.none (Runs.pick_t (evb rfl h_252) rfl) ?_
      refine WL.val Wanted.none (Runs.assign rfl) ?_
      refine WL.nil ?_
      refine QW.then_n ?_
      refine CW.sub [(8, .bool ((gn l_223 5) == a0))] ⟨rfl, trivial⟩ ?_
      refine CW.ret ?_
      have hz : ((gn l_223 5) == a0) = true := (beq_iff_eq.mpr H)
      exact QW.ret1 rfl (evb rfl hz) ⟨rfl, st_229.ext⟩

/-! ### disk_Disk_Stop: function 24 -/
def disk_Disk_Stop.rel (l0_0 : List R22) (l0_1 : List R69) (a0_2 : Int) (a0_3 : Bool) (l0_4 : List R71) (a1 : Int) (ls0_0 : List R22) (ls0_1 : List R69) (as0_2 : Int) (as0_3 : Bool) (ls0_4 : List R71) : Prop := ls0_0 = l0_0 ∧ ls0_1 = l0_1 ∧ as0_2 = maxI a1 (-1) ∧ as0_3 = a0_3 ∧ ls0_4 = l0_4
set_option maxHeartbeats 1000000 in
set_option maxRecDepth 100000 in
theorem disk_Disk_Stop.calls (w w1 : World) (T R : Pool) (l0_0 : List R22) (l0_1 : List R69) (a0_2 : Int) (a0_3 : Bool) (l0_4 : List R71) (a1 : Int) (b0 : Nat) (A0_0 : Option Addr) (n0_0 : Nat) (c0_0 : Nat) (x0_0 : Cells) (A0_1 : Option Addr) (n0_1 : Nat) (c0_1 : Nat) (x0_1 : Cells) (A0_4 : Option Addr) (n0_4 : Nat) (c0_4 : Nat) (x0_4 : Cells) (st0 : St w w1 (.cells b0 (([.slice A0_0 n0_0 c0_0] : List Value) ++ (([.slice A0_1 n0_1 c0_1] : List Value) ++ (([.int .i64 a0_2] : List Value) ++ (([.bool a0_3] : List Value) ++ ([.slice A0_4 n0_4 c0_4] : List Value))))) 66 :: .sl A0_0 c0_0 n0_0 x0_0 22 1 :: .sl A0_1 c0_1 n0_1 x0_1 69 2 :: .sl A0_4 c0_4 n0_4 x0_4 71 2 :: (T ++ R))) (hn0_0 : n0_0 = l0_0.length) (hx0_0 : HRs T (f22 w) x0_0 l0_0) (hn0_1 : n0_1 = l0_1.length) (hx0_1 : HRs T (f69 w) x0_1 l0_1) (hn0_4 : n0_4 = l0_4.length) (hx0_4 : HRs T (f71 w) x0_4 l0_4) (ls0_0 : List R22) (ls0_1 : List R69) (as0_2 : Int) (as0_3 : Bool) (ls0_4 : List R71) (H : disk_Disk_Stop.rel l0_0 l0_1 a0_2 a0_3 l0_4 a1 ls0_0 ls0_1 as0_2 as0_3 ls0_4) :
    Calls Try.prog 24 #[.pointer (some ⟨b0, 0, none⟩), .int .i64 a1] w1 fun e w' => ∃ T' As0_0 ns0_0 cs0_0 xs0_0 As0_1 ns0_1 cs0_1 xs0_1 As0_4 ns0_4 cs0_4 xs0_4, Pl T T' ∧ ns0_0 = ls0_0.length ∧ HRs T' (f22 w) xs0_0 ls0_0 ∧ ns0_1 = ls0_1.length ∧ HRs T' (f69 w) xs0_1 ls0_1 ∧ ns0_4 = ls0_4.length ∧ HRs T' (f71 w) xs0_4 ls0_4 ∧ e = .returned (.tuple #[]) ∧ St w w' (.cells b0 (([.slice As0_0 ns0_0 cs0_0] : List Value) ++ (([.slice As0_1 ns0_1 cs0_1] : List Value) ++ (([.int .i64 as0_2] : List Value) ++ (([.bool as0_3] : List Value) ++ ([.slice As0_4 ns0_4 cs0_4] : List Value))))) 66 :: .sl As0_0 cs0_0 ns0_0 xs0_0 22 1 :: .sl As0_1 cs0_1 ns0_1 xs0_1 69 2 :: .sl As0_4 cs0_4 ns0_4 xs0_4 71 2 :: (T' ++ R)) := by
  refine CW.enter Try.func24 rfl (n := 11) rfl [.pointer (some ⟨b0, 0, none⟩), .int .i64 a1] (Nat.le_of_ble_eq_true rfl) ?_
  refine CW.sub [(0, .pointer (some ⟨b0, 0, none⟩)), (1, .int .i64 a1)] ⟨rfl, rfl, trivial⟩ ?_
  refine CW.seq ?_
  refine CW.region ?_
  refine WL.val Wanted.none (Runs.move rfl) ?_
  refine WL.val Wanted.none (Runs.neq_ptr Try.underlying25 rfl rfl rfl) ?_
  refine WL.nil ?_
  refine QW.then_n ?_
  refine CW.ct rfl rfl ?_
  refine CW.region ?_
  refine WL.val Wanted.none (Runs.move rfl) ?_
  refine WL.val Wanted.none (Runs.move rfl) ?_
  refine WL.val Wanted.none (Runs.max2 rfl rfl rfl) ?_
  refine WL.val Wanted.none (Runs.nilCheck rfl) ?_
  refine WL.val Wanted.none (Runs.fieldAddr (off := 2) (p := 2) fld66_2 rfl rfl rfl) ?_
  refine WL.store_one (i := 0) (u0 := .int .i64 a0_2) (pre := (([.slice A0_0 n0_0 c0_0] : List Value) ++ ([.slice A0_1 n0_1 c0_1] : List Value))) (post := (([.bool a0_3] : List Value) ++ ([.slice A0_4 n0_4 c0_4] : List Value))) st0 rfl cells3 (by first | rfl | simp only [List.append_assoc, List.append_nil, List.nil_append, List.cons_append]) (by first | rfl | simp only [List.length_append, List.length_cons, List.length_nil, iv_length]) rfl rfl rfl ?_
  intro w_1 st_2
  replace st_2 : St w w_1 (.cells b0 (([.slice A0_0 n0_0 c0_0] : List Value) ++ (([.slice A0_1 n0_1 c0_1] : List Value) ++ (([.int .i64 (maxI a1 (-1))] : List Value) ++ (([.bool a0_3] : List Value) ++ ([.slice A0_4 n0_4 c0_4] : List Value))))) 66 :: .sl A0_0 c0_0 n0_0 x0_0 22 1 :: .sl A0_1 c0_1 n0_1 x0_1 69 2 :: .sl A0_4 c0_4 n0_4 x0_4 71 2 :: (T ++ R)) := by have e_ : (([.slice A0_0 n0_0 c0_0] : List Value) ++ (([.slice A0_1 n0_1 c0_1] : List Value) ++ (([.int .i64 (maxI a1 (-1))] : List Value) ++ (([.bool a0_3] : List Value) ++ ([.slice A0_4 n0_4 c0_4] : List Value))))) = (([.slice A0_0 n0_0 c0_0] : List Value) ++ ([.slice A0_1 n0_1 c0_1] : List Value)) ++ ((([.int .i64 (maxI a1 (-1))] : List Value)) ++ (([.bool a0_3] : List Value) ++ ([.slice A0_4 n0_4 c0_4] : List Value))) := (by first | rfl | simp only [List.append_assoc, List.append_nil, List.nil_append, List.cons_append]); have h_ : St w w_1 (.cells b0 ((([.slice A0_0 n0_0 c0_0] : List Value) ++ ([.slice A0_1 n0_1 c0_1] : List Value)) ++ ((([.int .i64 (maxI a1 (-1))] : List Value)) ++ (([.bool a0_3] : List Value) ++ ([.slice A0_4 n0_4 c0_4] : List Value)))) 66 :: .sl A0_0 c0_0 n0_0 x0_0 22 1 :: .sl A0_1 c0_1 n0_1 x0_1 69 2 :: .sl A0_4 c0_4 n0_4 x0_4 71 2 :: (T ++ R)) := st_2; rw [← e_] at h_; exact h_
  refine WL.nil ?_
  obtain ⟨rfl, rfl, rfl, rfl, rfl⟩ := H
  exact QW.end0 rfl ⟨T, A0_0, n0_0, c0_0, x0_0, A0_1, n0_1, c0_1, x0_1, A0_4, n0_4, c0_4, x0_4, Pl.refl, hn0_0, hx0_0, hn0_1, hx0_1, hn0_4, hx0_4, rfl, (St.pickT (L := [_, _, _, _]) st_2 [0, 1, 2, 3] (by decide))⟩

/-! ### disk_Disk_Read_nil0: function 15 -/
def disk_Disk_Read_nil0.rel (a1 : Int) (lr0 : List Int) (ar1 : Int) : Prop := lr0 = ([] : List Int) ∧ ar1 = 1
set_option maxHeartbeats 1000000 in
set_option maxRecDepth 100000 in
theorem disk_Disk_Read_nil0.calls (w w1 : World) (T R : Pool) (a1 : Int)  (st0 : St w w1 ((T ++ R)))  (lr0 : List Int) (ar1 : Int) (H : disk_Disk_Read_nil0.rel a1 lr0 ar1) :
    Calls Try.prog 15 #[.pointer none, .int .i64 a1] w1 fun e w' => ∃ T' Ar0 nr0 cr0, Pl T T' ∧ nr0 = lr0.length ∧ e = .returned (.tuple #[.slice Ar0 nr0 cr0, .int .i64 ar1]) ∧ St w w' (.sl Ar0 cr0 nr0 (iv .u8 lr0) 5 1 :: (T' ++ R)) := by
  refine CW.enterM Try.func15 rfl (n := 61) rfl [.pointer none, .int .i64 a1] (Nat.le_of_ble_eq_true rfl) ?_
  refine CW.sub [(0, .pointer none), (1, .int .i64 a1)] ⟨rfl, rfl, trivial⟩ ?_
  refine CW.seq ?_
  refine CW.region ?_
  refine WL.box st0 rfl rfl ?_
  intro B_1 w_2 st_3
  replace st_3 : St w w_2 (.cells B_1 [.int .i64 a1] 3 :: (T ++ R)) := st_3
  refine WL.alloc st_3 zero22 ?_
  intro B_5 w_6 st_7
  replace st_7 : St w w_6 (.cells B_5 [.slice none 0 0] 22 :: .cells B_1 [.int .i64 a1] 3 :: (T ++ R)) := st_7
  refine WL.alloc st_7 zero26 ?_
  intro B_9 w_10 st_11
  replace st_11 : St w w_10 (.cells B_9 [.int .i64 0] 26 :: .cells B_5 [.slice none 0 0] 22 :: .cells B_1 [.int .i64 a1] 3 :: (T ++ R)) := st_11
  refine WL.nil ?_
  refine QW.then_n ?_
  refine CW.seq ?_
  refine CW.block ?_
  refine CW.seq ?_
  refine CW.region ?_
  refine WL.val Wanted.none (Runs.move rfl) ?_
  refine WL.val Wanted.none (Runs.eql_ptr Try.underlying25 rfl rfl rfl) ?_
  refine WL.val Wanted.none (Runs.assign rfl) ?_
  refine WL.nil ?_
  refine QW.then_n ?_
  refine CW.ct rfl rfl ?_
  refine CW.seq ?_
  refine CW.region ?_
  refine WL.store_cells (i := 1) (j := 0) st_11 rfl cells22 rfl (Nat.zero_lt_succ _) rfl rfl ?_
  intro w_13 st_14
  replace st_14 : St w w_13 (.cells B_9 [.int .i64 0] 26 :: .cells B_5 [.slice none 0 0] 22 :: .cells B_1 [.int .i64 a1] 3 :: (T ++ R)) := st_14
  refine WL.store_cells (i := 0) (j := 0) st_14 rfl cells26 rfl (Nat.zero_lt_succ _) rfl rfl ?_
  intro w_15 st_16
  replace st_16 : St w w_15 (.cells B_9 [.int .i64 1] 26 :: .cells B_5 [.slice none 0 0] 22 :: .cells B_1 [.int .i64 a1] 3 :: (T ++ R)) := st_16
  refine WL.nil ?_
  refine QW.then_n ?_
  refine CW.ret ?_
  refine QW.blk_r ?_
  refine QW.then_r ?_
  have st_18 := st_16.nil_sl 5 1
  have st_18 : St w w_15 (.sl none 0 0 (iv .u8 ([] : List Int)) 5 1 :: .cells B_9 [.int .i64 1] 26 :: .cells B_5 [.slice none 0 0] 22 :: .cells B_1 [.int .i64 a1] 3 :: (T ++ R)) := st_18
  obtain ⟨rfl, rfl⟩ := H
  exact QW.retN2m rfl (Res.cell rfl nagg22 st_18 (i := 2) rfl) (Res.cell rfl nagg26 st_18 (i := 1) rfl) ⟨T, none, 0, 0, Pl.refl, rfl, rfl, (St.pickT (L := [_, _, _, _]) st_18 [0] (by decide))⟩

/-! ### disk_Disk_Stop_nil0: function 24 -/
def disk_Disk_Stop_nil0.rel (a1 : Int)  : Prop := True
set_option maxHeartbeats 1000000 in
set_option maxRecDepth 100000 in
theorem disk_Disk_Stop_nil0.calls (w w1 : World) (T R : Pool) (a1 : Int)  (st0 : St w w1 ((T ++ R)))   (H : disk_Disk_Stop_nil0.rel a1 ) :
    Calls Try.prog 24 #[.pointer none, .int .i64 a1] w1 fun e w' => ∃ T' , Pl T T' ∧ e = .returned (.tuple #[]) ∧ St w w' ((T' ++ R)) := by
  refine CW.enter Try.func24 rfl (n := 11) rfl [.pointer none, .int .i64 a1] (Nat.le_of_ble_eq_true rfl) ?_
  refine CW.sub [(0, .pointer none), (1, .int .i64 a1)] ⟨rfl, rfl, trivial⟩ ?_
  refine CW.seq ?_
  refine CW.region ?_
  refine WL.val Wanted.none (Runs.move rfl) ?_
  refine WL.val Wanted.none (Runs.neq_ptr Try.underlying25 rfl rfl rfl) ?_
  refine WL.nil ?_
  refine QW.then_n ?_
  refine CW.cf rfl rfl ?_
  refine CW.skip ?_
  exact QW.end0 rfl ⟨T, Pl.refl, rfl, (St.pickT (L := []) st0 [] (by decide))⟩

/-! ### disk_Disk_Crash_nil0: function 14 -/
def disk_Disk_Crash_nil0.rel (l1 : List Bool)  : Prop := True
set_option maxHeartbeats 1000000 in
set_option maxRecDepth 100000 in
theorem disk_Disk_Crash_nil0.calls (w w1 : World) (T R : Pool) (l1 : List Bool) (A1 : Option Addr) (n1 : Nat) (c1 : Nat) (st0 : St w w1 ((T ++ R))) (hb1 : HB w (T ++ R) A1 n1 c1 (bv l1) l1.length)  (H : disk_Disk_Crash_nil0.rel l1 ) :
    Calls Try.prog 14 #[.pointer none, .slice A1 n1 c1] w1 fun e w' => ∃ T' , Pl T T' ∧ e = .returned (.tuple #[]) ∧ St w w' ((T' ++ R)) := by
  refine CW.enter Try.func14 rfl (n := 47) rfl [.pointer none, .slice A1 n1 c1] (Nat.le_of_ble_eq_true rfl) ?_
  refine CW.sub [(0, .pointer none), (1, .slice A1 n1 c1)] ⟨rfl, rfl, trivial⟩ ?_
  refine CW.seq ?_
  refine CW.seq ?_
  refine CW.region ?_
  refine WL.val Wanted.none (Runs.move rfl) ?_
  refine WL.val Wanted.none (Runs.eql_ptr Try.underlying25 rfl rfl rfl) ?_
  refine WL.nil ?_
  refine QW.then_n ?_
  refine CW.ct rfl rfl ?_
  refine CW.ret ?_
  refine QW.then_r ?_
  exact QW.ret0 rfl ⟨T, Pl.refl, rfl, (St.pickT (L := []) st0 [] (by decide))⟩

/-! ### disk_Disk_Write_nil0: function 11 -/
def disk_Disk_Write_nil0.rel (a1 : Int) (l2 : List Int) (ar0 : Int) : Prop := ar0 = 1
set_option maxHeartbeats 1000000 in
set_option maxRecDepth 100000 in
theorem disk_Disk_Write_nil0.calls (w w1 : World) (T R : Pool) (a1 : Int) (l2 : List Int) (A2 : Option Addr) (n2 : Nat) (c2 : Nat) (st0 : St w w1 ((T ++ R))) (hb2 : HB w (T ++ R) A2 n2 c2 (iv .u8 l2) l2.length) (ar0 : Int) (H : disk_Disk_Write_nil0.rel a1 l2 ar0) :
    Calls Try.prog 11 #[.pointer none, .int .i64 a1, .slice A2 n2 c2] w1 fun e w' => ∃ T' , Pl T T' ∧ e = .returned (.int .i64 ar0) ∧ St w w' ((T' ++ R)) := by
  refine CW.enter Try.func11 rfl (n := 67) rfl [.pointer none, .int .i64 a1, .slice A2 n2 c2] (Nat.le_of_ble_eq_true rfl) ?_
  refine CW.sub [(0, .pointer none), (1, .int .i64 a1), (2, .slice A2 n2 c2)] ⟨rfl, rfl, rfl, trivial⟩ ?_
  refine CW.seq ?_
  refine CW.region ?_
  refine WL.val Wanted.none (Runs.assign rfl) ?_
  refine WL.nil ?_
  refine QW.then_n ?_
  refine CW.seq ?_
  refine CW.block ?_
  refine CW.seq ?_
  refine CW.region ?_
  refine WL.val Wanted.none (Runs.move rfl) ?_
  refine WL.val Wanted.none (Runs.eql_ptr Try.underlying25 rfl rfl rfl) ?_
  refine WL.val Wanted.none (Runs.assign rfl) ?_
  refine WL.nil ?_
  refine QW.then_n ?_
  refine CW.ct rfl rfl ?_
  refine CW.seq ?_
  refine CW.region ?_
  refine WL.val Wanted.none (Runs.assign rfl) ?_
  refine WL.nil ?_
  refine QW.then_n ?_
  refine CW.ret ?_
  refine QW.blk_r ?_
  refine QW.then_r ?_
  obtain rfl := H
  exact QW.ret1 rfl rfl ⟨T, Pl.refl, rfl, (St.pickT (L := []) st0 [] (by decide))⟩

/-! ### disk_Disk_Flush_nil0: function 16 -/
def disk_Disk_Flush_nil0.rel  (ar0 : Int) : Prop := ar0 = 1
set_option maxHeartbeats 1000000 in
set_option maxRecDepth 100000 in
theorem disk_Disk_Flush_nil0.calls (w w1 : World) (T R : Pool)   (st0 : St w w1 ((T ++ R)))  (ar0 : Int) (H : disk_Disk_Flush_nil0.rel  ar0) :
    Calls Try.prog 16 #[.pointer none] w1 fun e w' => ∃ T' , Pl T T' ∧ e = .returned (.int .i64 ar0) ∧ St w w' ((T' ++ R)) := by
  refine CW.enter Try.func16 rfl (n := 45) rfl [.pointer none] (Nat.le_of_ble_eq_true rfl) ?_
  refine CW.sub [(0, .pointer none)] ⟨rfl, trivial⟩ ?_
  refine CW.seq ?_
  refine CW.region ?_
  refine WL.val Wanted.none (Runs.assign rfl) ?_
  refine WL.nil ?_
  refine QW.then_n ?_
  refine CW.seq ?_
  refine CW.block ?_
  refine CW.seq ?_
  refine CW.region ?_
  refine WL.val Wanted.none (Runs.move rfl) ?_
  refine WL.val Wanted.none (Runs.eql_ptr Try.underlying25 rfl rfl rfl) ?_
  refine WL.val Wanted.none (Runs.assign rfl) ?_
  refine WL.nil ?_
  refine QW.then_n ?_
  refine CW.ct rfl rfl ?_
  refine CW.seq ?_
  refine CW.region ?_
  refine WL.val Wanted.none (Runs.assign rfl) ?_
  refine WL.nil ?_
  refine QW.then_n ?_
  refine CW.ret ?_
  refine QW.blk_r ?_
  refine QW.then_r ?_
  obtain rfl := H
  exact QW.ret1 rfl rfl ⟨T, Pl.refl, rfl, (St.pickT (L := []) st0 [] (by decide))⟩

/-! ### disk_Disk_Tamper_nil0: function 25 -/
def disk_Disk_Tamper_nil0.rel (a1 : Int) (l2 : List Int) (ar0 : Int) : Prop := ar0 = 1
set_option maxHeartbeats 1000000 in
set_option maxRecDepth 100000 in
theorem disk_Disk_Tamper_nil0.calls (w w1 : World) (T R : Pool) (a1 : Int) (l2 : List Int) (A2 : Option Addr) (n2 : Nat) (c2 : Nat) (st0 : St w w1 ((T ++ R))) (hb2 : HB w (T ++ R) A2 n2 c2 (iv .u8 l2) l2.length) (ar0 : Int) (H : disk_Disk_Tamper_nil0.rel a1 l2 ar0) :
    Calls Try.prog 25 #[.pointer none, .int .i64 a1, .slice A2 n2 c2] w1 fun e w' => ∃ T' , Pl T T' ∧ e = .returned (.int .i64 ar0) ∧ St w w' ((T' ++ R)) := by
  refine CW.enter Try.func25 rfl (n := 34) rfl [.pointer none, .int .i64 a1, .slice A2 n2 c2] (Nat.le_of_ble_eq_true rfl) ?_
  refine CW.sub [(0, .pointer none), (1, .int .i64 a1), (2, .slice A2 n2 c2)] ⟨rfl, rfl, rfl, trivial⟩ ?_
  refine CW.seq ?_
  refine CW.region ?_
  refine WL.box st0 rfl rfl ?_
  intro B_1 w_2 st_3
  replace st_3 : St w w_2 (.cells B_1 [.int .i64 a1] 3 :: (T ++ R)) := st_3
  refine WL.val Wanted.none (Runs.assign rfl) ?_
  refine WL.nil ?_
  refine QW.then_n ?_
  refine CW.seq ?_
  refine CW.seq ?_
  refine CW.region ?_
  refine WL.val Wanted.none (Runs.move rfl) ?_
  refine WL.val Wanted.none (Runs.eql_ptr Try.underlying25 rfl rfl rfl) ?_
  refine WL.nil ?_
  refine QW.then_n ?_
  refine CW.ct rfl rfl ?_
  refine CW.seq ?_
  refine CW.region ?_
  refine WL.val Wanted.none (Runs.assign rfl) ?_
  refine WL.nil ?_
  refine QW.then_n ?_
  refine CW.ret ?_
  refine QW.then_r ?_
  obtain rfl := H
  exact QW.ret1 rfl rfl ⟨T, Pl.refl, rfl, (St.pickT (L := [_]) st_3 [] (by decide))⟩

/-! ### disk_Disk_Restore_nil0: function 22 -/
def disk_Disk_Restore_nil0.rel (l1 : List R22) (ar0 : Int) : Prop := ar0 = 1
set_option maxHeartbeats 1000000 in
set_option maxRecDepth 100000 in
theorem disk_Disk_Restore_nil0.calls (w w1 : World) (T R : Pool) (l1 : List R22) (A1 : Option Addr) (n1 : Nat) (c1 : Nat) (st0 : St w w1 ((T ++ R))) (hb1 : HS w (T ++ R) T A1 n1 c1 (f22 w) l1) (ar0 : Int) (H : disk_Disk_Restore_nil0.rel l1 ar0) :
    Calls Try.prog 22 #[.pointer none, .slice A1 n1 c1] w1 fun e w' => ∃ T' , Pl T T' ∧ e = .returned (.int .i64 ar0) ∧ St w w' ((T' ++ R)) := by
  refine CW.enter Try.func22 rfl (n := 44) rfl [.pointer none, .slice A1 n1 c1] (Nat.le_of_ble_eq_true rfl) ?_
  refine CW.sub [(0, .pointer none), (1, .slice A1 n1 c1)] ⟨rfl, rfl, trivial⟩ ?_
  refine CW.seq ?_
  refine CW.region ?_
  refine WL.val Wanted.none (Runs.assign rfl) ?_
  refine WL.nil ?_
  refine QW.then_n ?_
  refine CW.seq ?_
  refine CW.region ?_
  refine WL.val Wanted.none (Runs.assign rfl) ?_
  refine WL.nil ?_
  refine QW.then_n ?_
  refine CW.seq ?_
  refine CW.seq ?_
  refine CW.region ?_
  refine WL.val Wanted.none (Runs.move rfl) ?_
  refine WL.val Wanted.none (Runs.eql_ptr Try.underlying25 rfl rfl rfl) ?_
  refine WL.val Wanted.none (Runs.move rfl) ?_
  refine WL.off ?_ ?_; exact Wanted.guard (dj := 10) (by rfl) (by rfl) (by rfl)
  refine WL.off ?_ ?_; exact Wanted.guard (dj := 10) (by rfl) (by rfl) (by rfl)
  refine WL.off ?_ ?_; exact Wanted.guard (dj := 10) (by rfl) (by rfl) (by rfl)
  refine WL.off ?_ ?_; exact Wanted.guard (dj := 10) (by rfl) (by rfl) (by rfl)
  refine WL.off ?_ ?_; exact Wanted.guard (dj := 10) (by rfl) (by rfl) (by rfl)
  refine WL.off ?_ ?_; exact Wanted.guard (dj := 10) (by rfl) (by rfl) (by rfl)
  refine WL.off ?_ ?_; exact Wanted.guard (dj := 10) (by rfl) (by rfl) (by rfl)
  refine WL.off ?_ ?_; exact Wanted.guard (dj := 10) (by rfl) (by rfl) (by rfl)
  refine WL.val Wanted.none (Runs.pick_t rfl rfl) ?_
  refine WL.val Wanted.none (Runs.move rfl) ?_
  refine WL.off ?_ ?_; exact Wanted.guard (dj := 20) (by rfl) (by rfl) (by rfl)
  refine WL.off ?_ ?_; exact Wanted.guard (dj := 20) (by rfl) (by rfl) (by rfl)
  refine WL.off ?_ ?_; exact Wanted.guard (dj := 20) (by rfl) (by rfl) (by rfl)
  refine WL.val Wanted.none (Runs.pick_t rfl rfl) ?_
  refine WL.nil ?_
  refine QW.then_n ?_
  refine CW.sub [(0, .pointer none), (1, .slice A1 n1 c1), (4, .int .i64 0), (24, .bool true)] ⟨rfl, rfl, rfl, rfl, trivial⟩ ?_
  refine CW.ct rfl rfl ?_
  refine CW.seq ?_
  refine CW.region ?_
  refine WL.val Wanted.none (Runs.assign rfl) ?_
  refine WL.nil ?_
  refine QW.then_n ?_
  refine CW.ret ?_
  refine QW.then_r ?_
  obtain rfl := H
  exact QW.ret1 rfl rfl ⟨T, Pl.refl, rfl, (St.pickT (L := []) st0 [] (by decide))⟩

/-! ### disk_Disk_Size_nil0: function 26 -/
def disk_Disk_Size_nil0.rel  (ar0 : Int) : Prop := ar0 = 0
set_option maxHeartbeats 1000000 in
set_option maxRecDepth 100000 in
theorem disk_Disk_Size_nil0.calls (w w1 : World) (T R : Pool)   (st0 : St w w1 ((T ++ R)))  (ar0 : Int) (H : disk_Disk_Size_nil0.rel  ar0) :
    Calls Try.prog 26 #[.pointer none] w1 fun e w' => ∃ T' , Pl T T' ∧ e = .returned (.int .i64 ar0) ∧ St w w' ((T' ++ R)) := by
  refine CW.enter Try.func26 rfl (n := 10) rfl [.pointer none] (Nat.le_of_ble_eq_true rfl) ?_
  refine CW.sub [(0, .pointer none)] ⟨rfl, trivial⟩ ?_
  refine CW.seq ?_
  refine CW.region ?_
  refine WL.val Wanted.none (Runs.assign rfl) ?_
  refine WL.nil ?_
  refine QW.then_n ?_
  refine CW.seq ?_
  refine CW.seq ?_
  refine CW.region ?_
  refine WL.val Wanted.none (Runs.move rfl) ?_
  refine WL.val Wanted.none (Runs.eql_ptr Try.underlying25 rfl rfl rfl) ?_
  refine WL.nil ?_
  refine QW.then_n ?_
  refine CW.ct rfl rfl ?_
  refine CW.seq ?_
  refine CW.region ?_
  refine WL.val Wanted.none (Runs.assign rfl) ?_
  refine WL.nil ?_
  refine QW.then_n ?_
  refine CW.ret ?_
  refine QW.then_r ?_
  obtain rfl := H
  exact QW.ret1 rfl rfl ⟨T, Pl.refl, rfl, (St.pickT (L := []) st0 [] (by decide))⟩

/-! ### disk_Disk_Pending_nil0: function 13 -/
def disk_Disk_Pending_nil0.rel  (ar0 : Int) : Prop := ar0 = 0
set_option maxHeartbeats 1000000 in
set_option maxRecDepth 100000 in
theorem disk_Disk_Pending_nil0.calls (w w1 : World) (T R : Pool)   (st0 : St w w1 ((T ++ R)))  (ar0 : Int) (H : disk_Disk_Pending_nil0.rel  ar0) :
    Calls Try.prog 13 #[.pointer none] w1 fun e w' => ∃ T' , Pl T T' ∧ e = .returned (.int .i64 ar0) ∧ St w w' ((T' ++ R)) := by
  refine CW.enter Try.func13 rfl (n := 10) rfl [.pointer none] (Nat.le_of_ble_eq_true rfl) ?_
  refine CW.sub [(0, .pointer none)] ⟨rfl, trivial⟩ ?_
  refine CW.seq ?_
  refine CW.region ?_
  refine WL.val Wanted.none (Runs.assign rfl) ?_
  refine WL.nil ?_
  refine QW.then_n ?_
  refine CW.seq ?_
  refine CW.seq ?_
  refine CW.region ?_
  refine WL.val Wanted.none (Runs.move rfl) ?_
  refine WL.val Wanted.none (Runs.eql_ptr Try.underlying25 rfl rfl rfl) ?_
  refine WL.nil ?_
  refine QW.then_n ?_
  refine CW.ct rfl rfl ?_
  refine CW.seq ?_
  refine CW.region ?_
  refine WL.val Wanted.none (Runs.assign rfl) ?_
  refine WL.nil ?_
  refine QW.then_n ?_
  refine CW.ret ?_
  refine QW.then_r ?_
  obtain rfl := H
  exact QW.ret1 rfl rfl ⟨T, Pl.refl, rfl, (St.pickT (L := []) st0 [] (by decide))⟩

/-! ### disk_Disk_Image_nil0: function 17 -/
def disk_Disk_Image_nil0.rel  (lr0 : List R22) : Prop := lr0 = ([] : List R22)
set_option maxHeartbeats 1000000 in
set_option maxRecDepth 100000 in
theorem disk_Disk_Image_nil0.calls (w w1 : World) (T R : Pool)   (st0 : St w w1 ((T ++ R)))  (lr0 : List R22) (H : disk_Disk_Image_nil0.rel  lr0) :
    Calls Try.prog 17 #[.pointer none] w1 fun e w' => ∃ T' Ar0 nr0 cr0 xr0, Pl T T' ∧ nr0 = lr0.length ∧ HRs T' (f22 w) xr0 lr0 ∧ e = .returned (.slice Ar0 nr0 cr0) ∧ St w w' (.sl Ar0 cr0 nr0 xr0 22 1 :: (T' ++ R)) := by
  refine CW.enter Try.func17 rfl (n := 24) rfl [.pointer none] (Nat.le_of_ble_eq_true rfl) ?_
  refine CW.sub [(0, .pointer none)] ⟨rfl, trivial⟩ ?_
  refine CW.seq ?_
  refine CW.region ?_
  refine WL.val Wanted.none (Runs.assign rfl) ?_
  refine WL.nil ?_
  refine QW.then_n ?_
  refine CW.seq ?_
  refine CW.seq ?_
  refine CW.region ?_
  refine WL.val Wanted.none (Runs.move rfl) ?_
  refine WL.val Wanted.none (Runs.eql_ptr Try.underlying25 rfl rfl rfl) ?_
  refine WL.nil ?_
  refine QW.then_n ?_
  refine CW.ct rfl rfl ?_
  refine CW.seq ?_
  refine CW.region ?_
  refine WL.val Wanted.none (Runs.assign rfl) ?_
  refine WL.nil ?_
  refine QW.then_n ?_
  refine CW.ret ?_
  refine QW.then_r ?_
  have st_2 := st0.nil_sl 22 1
  have st_2 : St w w1 (.sl none 0 0 ([] : Cells) 22 1 :: (T ++ R)) := st_2
  obtain rfl := H
  exact QW.ret1 rfl rfl ⟨T, none, 0, 0, ([] : Cells), Pl.refl, rfl, (HRs.nil : HRs T (f22 w) [] []), rfl, (St.pickT (L := [_]) st_2 [0] (by decide))⟩

/-! ### disk_Disk_Ops_nil0: function 27 -/
def disk_Disk_Ops_nil0.rel  (lr0 : List R71) : Prop := lr0 = ([] : List R71)
set_option maxHeartbeats 1000000 in
set_option maxRecDepth 100000 in
theorem disk_Disk_Ops_nil0.calls (w w1 : World) (T R : Pool)   (st0 : St w w1 ((T ++ R)))  (lr0 : List R71) (H : disk_Disk_Ops_nil0.rel  lr0) :
    Calls Try.prog 27 #[.pointer none] w1 fun e w' => ∃ T' Ar0 nr0 cr0 xr0, Pl T T' ∧ nr0 = lr0.length ∧ HRs T' (f71 w) xr0 lr0 ∧ e = .returned (.slice Ar0 nr0 cr0) ∧ St w w' (.sl Ar0 cr0 nr0 xr0 71 2 :: (T' ++ R)) := by
  refine CW.enter Try.func27 rfl (n := 10) rfl [.pointer none] (Nat.le_of_ble_eq_true rfl) ?_
  refine CW.sub [(0, .pointer none)] ⟨rfl, trivial⟩ ?_
  refine CW.seq ?_
  refine CW.region ?_
  refine WL.val Wanted.none (Runs.assign rfl) ?_
  refine WL.nil ?_
  refine QW.then_n ?_
  refine CW.seq ?_
  refine CW.seq ?_
  refine CW.region ?_
  refine WL.val Wanted.none (Runs.move rfl) ?_
  refine WL.val Wanted.none (Runs.eql_ptr Try.underlying25 rfl rfl rfl) ?_
  refine WL.nil ?_
  refine QW.then_n ?_
  refine CW.ct rfl rfl ?_
  refine CW.seq ?_
  refine CW.region ?_
  refine WL.val Wanted.none (Runs.assign rfl) ?_
  refine WL.nil ?_
  refine QW.then_n ?_
  refine CW.ret ?_
  refine QW.then_r ?_
  have st_2 := st0.nil_sl 71 2
  have st_2 : St w w1 (.sl none 0 0 ([] : Cells) 71 2 :: (T ++ R)) := st_2
  obtain rfl := H
  exact QW.ret1 rfl rfl ⟨T, none, 0, 0, ([] : Cells), Pl.refl, rfl, (HRs.nil : HRs T (f71 w) [] []), rfl, (St.pickT (L := [_]) st_2 [0] (by decide))⟩

end Go.Proofs.Ytjlifbnkdfofhaa
