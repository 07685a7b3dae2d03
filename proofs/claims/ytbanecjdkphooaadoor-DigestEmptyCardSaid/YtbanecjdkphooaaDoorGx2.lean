/- Walks: each function computes what its relation says, and a call of it ends so. Printed by a program of this session (wip/gen). -/
import Derived.Test.YtbanecjdkphooaaDoorGx1
namespace Go.Proofs.YtbanecjdkphooaaDoor
open Go Go.Kr Go.RowKit
set_option linter.unusedVariables false
set_option linter.unusedSimpArgs false
/-! ### reliquaryref02_Of: function 11 -/
def reliquaryref02_Of.L4 (r0 : List Int) (m_93 : List Int) : Nat → (List Int) → Int → Prop
  | 0, _, _ => False
  | kL4 + 1, m_115, x_117 => ((x_117 < 32 ∧ ((0 ≤ (IntKind.i64.wrap (Int.tdiv x_117 4)) ∧ (IntKind.i64.wrap (Int.tdiv x_117 4)) < (8 : Int)) ∧ (∃ x_125 : Int, x_125 = IntKind.i64.wrap (24 - (IntKind.i64.wrap (8 * (Int.tmod x_117 4)))) ∧ (0 ≤ (IntKind.u64.wrap x_125) ∧ (∃ x_128 : Int, x_128 = shrI .u32 (gn m_93 ((IntKind.i64.wrap (Int.tdiv x_117 4)).toNat)) (IntKind.u64.wrap x_125) ∧ ((0 ≤ x_117 ∧ x_117 < (32 : Int)) ∧ (∃ m_132 : List Int, m_132 = List.set m_115 ((x_117).toNat) (IntKind.u8.wrap x_128) ∧ reliquaryref02_Of.L4 r0 m_93 kL4 m_132 (IntKind.i64.wrap (x_117 + 1))))))))) ∨ (¬ (x_117 < 32) ∧ r0 = m_115))
def reliquaryref02_Of.L3 (r0 : List Int) (l_56 : List Int) : Nat → (List Int) → Int → Prop
  | 0, _, _ => False
  | kL3 + 1, m_93, x_95 => ((x_95 < (l_56.length : Int) ∧ (∃ (r_105 : List Int), reliquaryref02_block.rel m_93 l_56 x_95 r_105 ∧ reliquaryref02_Of.L3 r0 l_56 kL3 r_105 (IntKind.i64.wrap (x_95 + 64)))) ∨ (¬ (x_95 < (l_56.length : Int)) ∧ (∃ k_ : Nat, reliquaryref02_Of.L4 r0 m_93 k_ (List.replicate 32 (0 : Int)) 0)))
def reliquaryref02_Of.L2 (l0 : List Int) (r0 : List Int) : Nat → (List Int) → Int → Prop
  | 0, _, _ => False
  | kL2 + 1, l_56, x_59 => ((x_59 < 8 ∧ (∃ x_65 : Int, x_65 = IntKind.u64.wrap (IntKind.i64.wrap (56 - (IntKind.i64.wrap (8 * x_59)))) ∧ (0 ≤ x_65 ∧ (∃ x_68 : Int, x_68 = shrI .u64 (IntKind.u64.wrap ((IntKind.u64.wrap (l0.length : Int)) * 8)) x_65 ∧ (∃ m_74 : List Int, m_74 = l_56 ++ [IntKind.u8.wrap x_68] ∧ (m_74.length ≤ 1099511627776 ∧ reliquaryref02_Of.L2 l0 r0 kL2 m_74 (IntKind.i64.wrap (x_59 + 1)))))))) ∨ (¬ (x_59 < 8) ∧ (∃ m_83 : List Int, m_83 = [1779033703, 3144134277, 1013904242, 2773480762, 1359893119, 2600822924, 528734635, 1541459225] ∧ (∃ k_ : Nat, reliquaryref02_Of.L3 r0 l_56 k_ m_83 0))))
def reliquaryref02_Of.L1 (l0 : List Int) (r0 : List Int) : Nat → (List Int) → Prop
  | 0, _ => False
  | kL1 + 1, l_32 => (((Int.tmod (l_32.length : Int) 64) ≠ 56 ∧ (∃ m_44 : List Int, m_44 = l_32 ++ [0] ∧ (m_44.length ≤ 1099511627776 ∧ reliquaryref02_Of.L1 l0 r0 kL1 m_44))) ∨ (¬ ((Int.tmod (l_32.length : Int) 64) ≠ 56) ∧ (∃ k_ : Nat, reliquaryref02_Of.L2 l0 r0 k_ l_32 0)))
def reliquaryref02_Of.rel (l0 : List Int) (r0 : List Int) : Prop := (∃ m_7 : List Int, m_7 = ([] : List Int) ++ l0 ∧ (m_7.length ≤ 1099511627776 ∧ (∃ m_20 : List Int, m_20 = m_7 ++ [128] ∧ (m_20.length ≤ 1099511627776 ∧ (∃ k_ : Nat, reliquaryref02_Of.L1 l0 r0 k_ m_20)))))
set_option maxHeartbeats 4000000 in
set_option maxRecDepth 100000 in
theorem reliquaryref02_Of.calls (w : World) (l0 : List Int) (A0 : Option Addr) (n0 : Nat) (c0 : Nat)  (hs0 : Src w A0 (iv .u8 l0)) (hn0 : n0 = l0.length) (hc0 : n0 ≤ c0) (r0 : List Int) (H : reliquaryref02_Of.rel l0 r0) :
    Calls Tryd.prog 11 #[.slice A0 n0 c0] w fun e w' => r0.length = 32 ∧ e = .returned (.agg (iv .u8 r0).toArray) ∧ St w w' [] := by
  refine CW.enter Tryd.func11 rfl (n := 70) rfl [.slice A0 n0 c0] (Nat.le_of_ble_eq_true rfl) ?_
  refine CW.sub [(0, .slice A0 n0 c0)] ⟨rfl, trivial⟩ ?_
  have st0 : St w w [] := St.refl w
  refine CW.seq ?_
  refine CW.region ?_
  refine WL.alloc st0 arr25.zero ?_
  intro B_1 w_2 st_3
  replace st_3 : St w w_2 [.cells B_1 (iv .u8 (List.replicate 32 (0 : Int))) 25] := st_3
  refine WL.nil ?_
  refine QW.then_n ?_
  refine CW.seq ?_
  refine CW.region ?_
  refine WL.val Wanted.none (Runs.assign rfl) ?_
  refine WL.nil ?_
  refine QW.then_n ?_
  refine CW.seq ?_
  refine CW.region ?_
  refine WL.val Wanted.none (Runs.move rfl) ?_
  refine WL.val Wanted.none (Runs.move rfl) ?_
  have st_6 := st_3.nil_sl 5 1
  have st_6 : St w w_2 [.sl none 0 0 (iv .u8 ([] : List Int)) 5 1, .cells B_1 (iv .u8 (List.replicate 32 (0 : Int))) 25] := st_6
  obtain ⟨m_7, e_8, H⟩ := H
  obtain ⟨z_9, H⟩ := H
  obtain ⟨n_12, hn_15⟩ : ∃ n_ : Nat, n_ = m_7.length := ⟨_, rfl⟩
  refine WL.append (i := 0) Wanted.none st_6 rfl Tryd.underlying22 elem5 rfl rfl (hs0.ext st_6) (by rw [iv_length]; exact (hn0).symm) (one_iv .u8 _) (by decide) (N := n_12) (by rw [hn_15, e_8, List.length_append]; exact congr (congrArg HAdd.hAdd (rfl)) (hn0)) (by rw [hn_15]; exact z_9) ?_
  intro A_10 c_11 w_13 st_14
  have st_14' : St w w_13 [.sl A_10 c_11 n_12 (iv .u8 m_7) 5 1, .cells B_1 (iv .u8 (List.replicate 32 (0 : Int))) 25] := by rw [e_8, ← iv_append .u8 ([] : List Int) l0]; exact st_14
  refine WL.val Wanted.none (Runs.assign rfl) ?_
  refine WL.nil ?_
  refine QW.then_n ?_
  refine CW.seq ?_
  refine CW.region ?_
  refine WL.val Wanted.none (Runs.move rfl) ?_
  refine WL.buildSl [.int .u8 128] st_14' Tryd.underlying22 elem5 rfl rfl (by decide) (by decide) (by simp [Value.cells]) ?_
  intro B_16 w_17 st_18
  replace st_18 : St w w_17 [.sl (some ⟨B_16, 0, none⟩) 1 1 (iv .u8 [128]) 5 1, .sl A_10 c_11 n_12 (iv .u8 m_7) 5 1, .cells B_1 (iv .u8 (List.replicate 32 (0 : Int))) 25] := st_18
  obtain ⟨m_20, e_21, H⟩ := H
  obtain ⟨z_22, H⟩ := H
  obtain ⟨n_25, hn_28⟩ : ∃ n_ : Nat, n_ = m_20.length := ⟨_, rfl⟩
  refine WL.append (i := 1) Wanted.none st_18 rfl Tryd.underlying22 elem5 rfl rfl (st_18.src_sl (k := 0) rfl) (by rw [iv_length]; exact (Eq.refl _).symm) (one_iv .u8 _) (by decide) (N := n_25) (by rw [hn_28, e_21, List.length_append]; exact congr (congrArg HAdd.hAdd (hn_15)) (rfl)) (by rw [hn_28]; exact z_22) ?_
  intro A_23 c_24 w_26 st_27
  have st_27' : St w w_26 [.sl (some ⟨B_16, 0, none⟩) 1 1 (iv .u8 [128]) 5 1, .sl A_23 c_24 n_25 (iv .u8 m_20) 5 1, .cells B_1 (iv .u8 (List.replicate 32 (0 : Int))) 25] := by rw [e_21, ← iv_append .u8 m_7 [128]]; exact st_27
  refine WL.val Wanted.none (Runs.assign rfl) ?_
  refine WL.nil ?_
  refine QW.then_n ?_
  refine CW.sub [(0, .slice A0 n0 c0), (2, .pointer (some ⟨B_1, 0, none⟩)), (3, .slice A_23 n_25 c_24)] ⟨rfl, rfl, rfl, trivial⟩ ?_
  refine CW.seq ?_
  refine CW.block ?_
  obtain ⟨k_29, H⟩ := H
  refine CW.sub [(0, .slice A0 n0 c0), (2, .pointer (some ⟨B_1, 0, none⟩)), (3, .slice A_23 n_25 c_24)] ⟨rfl, rfl, rfl, trivial⟩ ?_
  refine CW.loop (fun kL1 l_ w_ => ∃ (A_30 : Option Addr) (c_31 : Nat) (n_33 : Nat) (l_32 : List Int), l_ = [(0, .slice A0 n0 c0), (2, .pointer (some ⟨B_1, 0, none⟩)), (3, .slice A_30 n_33 c_31)] ∧ reliquaryref02_Of.L1 l0 r0 kL1 l_32 ∧ (n_33 = l_32.length) ∧ St w w_ [.sl (some ⟨B_16, 0, none⟩) 1 1 (iv .u8 [128]) 5 1, .sl A_30 c_31 n_33 (iv .u8 l_32) 5 1, .cells B_1 (iv .u8 (List.replicate 32 (0 : Int))) 25]) (k := k_29) ⟨A_23, c_24, n_25, m_20, rfl, H, hn_28, st_27'⟩ (fun _ _ h => by obtain ⟨_, _, _, _, _, h, _⟩ := h; exact h.elim) ?_
  rintro kL1 l_37 w_35 ⟨A_30, c_31, n_33, l_32, rfl, H, hn_34, st_36⟩
  refine CW.seq ?_
  refine CW.seq ?_
  refine CW.region ?_
  refine WL.val Wanted.none (Runs.move rfl) ?_
  refine WL.val Wanted.none (Runs.len_sl Tryd.underlying22 rfl (by rw [hn_34])) ?_
  refine WL.val Wanted.none (Runs.rem rfl rfl (by decide) rfl) ?_
  refine WL.val Wanted.none (Runs.neq rfl rfl rfl) ?_
  refine WL.nil ?_
  refine QW.then_n ?_
  rcases H with ⟨c_38, H⟩ | ⟨c_38, H⟩
  · have h_39 : ((Int.tmod (l_32.length : Int) 64) != 56) = true := (bne_iff_ne.mpr c_38)
    refine CW.ct rfl h_39 ?_
    refine CW.skip ?_
    refine QW.then_n ?_
    refine CW.block ?_
    refine CW.region ?_
    refine WL.val Wanted.none (Runs.move rfl) ?_
    refine WL.buildSl [.int .u8 0] st_36 Tryd.underlying22 elem5 rfl rfl (by decide) (by decide) (by simp [Value.cells]) ?_
    intro B_40 w_41 st_42
    replace st_42 : St w w_41 [.sl (some ⟨B_40, 0, none⟩) 1 1 (iv .u8 [0]) 5 1, .sl (some ⟨B_16, 0, none⟩) 1 1 (iv .u8 [128]) 5 1, .sl A_30 c_31 n_33 (iv .u8 l_32) 5 1, .cells B_1 (iv .u8 (List.replicate 32 (0 : Int))) 25] := st_42
    obtain ⟨m_44, e_45, H⟩ := H
    obtain ⟨z_46, H⟩ := H
    obtain ⟨n_49, hn_52⟩ : ∃ n_ : Nat, n_ = m_44.length := ⟨_, rfl⟩
    refine WL.append (i := 2) Wanted.none st_42 rfl Tryd.underlying22 elem5 rfl rfl (st_42.src_sl (k := 0) rfl) (by rw [iv_length]; exact (Eq.refl _).symm) (one_iv .u8 _) (by decide) (N := n_49) (by rw [hn_52, e_45, List.length_append]; exact congr (congrArg HAdd.hAdd (hn_34)) (rfl)) (by rw [hn_52]; exact z_46) ?_
    intro A_47 c_48 w_50 st_51
    have st_51' : St w w_50 [.sl (some ⟨B_40, 0, none⟩) 1 1 (iv .u8 [0]) 5 1, .sl (some ⟨B_16, 0, none⟩) 1 1 (iv .u8 [128]) 5 1, .sl A_47 c_48 n_49 (iv .u8 m_44) 5 1, .cells B_1 (iv .u8 (List.replicate 32 (0 : Int))) 25] := by rw [e_45, ← iv_append .u8 l_32 [0]]; exact st_51
    refine WL.val Wanted.none (Runs.assign rfl) ?_
    refine WL.nil ?_
    refine QW.blk_n ?_
    have st_51'' := st_51'.pick [1, 2, 3] (by decide)
    exact QW.at [(0, .slice A0 n0 c0), (2, .pointer (some ⟨B_1, 0, none⟩)), (3, .slice A_47 n_49 c_48)] ⟨rfl, rfl, rfl, trivial⟩ ⟨A_47, c_48, n_49, m_44, rfl, H, hn_52, st_51''⟩
  · have h_39 : ((Int.tmod (l_32.length : Int) 64) != 56) = false := (bne_eq_false_iff_eq.mpr (Decidable.not_not.mp c_38))
    refine CW.cf rfl h_39 ?_
    refine CW.exit ?_
    refine QW.then_x ?_
    refine QW.then_x ?_
    refine QW.blk_x ?_
    refine QW.then_n ?_
    refine CW.seq ?_
    refine CW.region ?_
    refine WL.val Wanted.none (Runs.move rfl) ?_
    refine WL.val Wanted.none (Runs.len_sl Tryd.underlying22 rfl (by rw [hn0])) ?_
    refine WL.val Wanted.none (Runs.conv Tryd.underlying41 ⟨_, Tryd.underlying3⟩ rfl rfl) ?_
    refine WL.val Wanted.none (Runs.mul rfl rfl rfl) ?_
    refine WL.val Wanted.none (Runs.assign rfl) ?_
    refine WL.nil ?_
    refine QW.then_n ?_
    refine CW.sub [(2, .pointer (some ⟨B_1, 0, none⟩)), (3, .slice A_30 n_33 c_31), (4, .int .u64 (IntKind.u64.wrap ((IntKind.u64.wrap (l0.length : Int)) * 8)))] ⟨rfl, rfl, rfl, trivial⟩ ?_
    refine CW.seq ?_
    refine CW.seq ?_
    refine CW.region ?_
    refine WL.val Wanted.none (Runs.assign rfl) ?_
    refine WL.nil ?_
    refine QW.then_n ?_
    refine CW.block ?_
    obtain ⟨k_53, H⟩ := H
    refine CW.sub [(2, .pointer (some ⟨B_1, 0, none⟩)), (3, .slice A_30 n_33 c_31), (4, .int .u64 (IntKind.u64.wrap ((IntKind.u64.wrap (l0.length : Int)) * 8))), (5, .int .i64 0)] ⟨rfl, rfl, rfl, rfl, trivial⟩ ?_
    refine CW.loop (fun kL2 l_ w_ => ∃ (A_54 : Option Addr) (c_55 : Nat) (n_57 : Nat) (l_56 : List Int) (x_59 : Int), l_ = [(2, .pointer (some ⟨B_1, 0, none⟩)), (3, .slice A_54 n_57 c_55), (4, .int .u64 (IntKind.u64.wrap ((IntKind.u64.wrap (l0.length : Int)) * 8))), (5, .int .i64 x_59)] ∧ reliquaryref02_Of.L2 l0 r0 kL2 l_56 x_59 ∧ (n_57 = l_56.length) ∧ St w w_ [.sl (some ⟨B_16, 0, none⟩) 1 1 (iv .u8 [128]) 5 1, .sl A_54 c_55 n_57 (iv .u8 l_56) 5 1, .cells B_1 (iv .u8 (List.replicate 32 (0 : Int))) 25]) (k := k_53) ⟨A_30, c_31, n_33, l_32, 0, rfl, H, hn_34, st_36⟩ (fun _ _ h => by obtain ⟨_, _, _, _, _, _, h, _⟩ := h; exact h.elim) ?_
    rintro kL2 l_62 w_60 ⟨A_54, c_55, n_57, l_56, x_59, rfl, H, hn_58, st_61⟩
    refine CW.seq ?_
    refine CW.seq ?_
    refine CW.region ?_
    refine WL.val Wanted.none (Runs.move rfl) ?_
    refine WL.val Wanted.none (Runs.lss rfl rfl rfl) ?_
    refine WL.nil ?_
    refine QW.then_n ?_
    rcases H with ⟨c_63, H⟩ | ⟨c_63, H⟩
    · have h_64 : (decide (x_59 < 8)) = true := (decide_eq_true c_63)
      refine CW.ct rfl h_64 ?_
      refine CW.skip ?_
      refine QW.then_n ?_
      refine CW.seq ?_
      refine CW.block ?_
      refine CW.region ?_
      refine WL.val Wanted.none (Runs.move rfl) ?_
      refine WL.val Wanted.none (Runs.move rfl) ?_
      refine WL.val Wanted.none (Runs.move rfl) ?_
      refine WL.val Wanted.none (Runs.mul rfl rfl rfl) ?_
      refine WL.val Wanted.none (Runs.sub rfl rfl rfl) ?_
      obtain ⟨x_65, e_66, H⟩ := H
      refine WL.val Wanted.none (Runs.conv Tryd.underlying50 ⟨_, Tryd.underlying3⟩ rfl e_66) ?_
      obtain ⟨z_67, H⟩ := H
      obtain ⟨x_68, e_69, H⟩ := H
      refine WL.val Wanted.none (Runs.shr rfl rfl z_67 e_69) ?_
      refine WL.val Wanted.none (Runs.conv Tryd.underlying5 ⟨_, Tryd.underlying41⟩ rfl rfl) ?_
      refine WL.buildSl [.int .u8 (IntKind.u8.wrap x_68)] st_61 Tryd.underlying22 elem5 rfl rfl (by decide) (by decide) (by simp [Value.cells]) ?_
      intro B_70 w_71 st_72
      replace st_72 : St w w_71 [.sl (some ⟨B_70, 0, none⟩) 1 1 (iv .u8 [IntKind.u8.wrap x_68]) 5 1, .sl (some ⟨B_16, 0, none⟩) 1 1 (iv .u8 [128]) 5 1, .sl A_54 c_55 n_57 (iv .u8 l_56) 5 1, .cells B_1 (iv .u8 (List.replicate 32 (0 : Int))) 25] := st_72
      obtain ⟨m_74, e_75, H⟩ := H
      obtain ⟨z_76, H⟩ := H
      obtain ⟨n_79, hn_82⟩ : ∃ n_ : Nat, n_ = m_74.length := ⟨_, rfl⟩
      refine WL.append (i := 2) Wanted.none st_72 rfl Tryd.underlying22 elem5 rfl rfl (st_72.src_sl (k := 0) rfl) (by rw [iv_length]; exact (Eq.refl _).symm) (one_iv .u8 _) (by decide) (N := n_79) (by rw [hn_82, e_75, List.length_append]; exact congr (congrArg HAdd.hAdd (hn_58)) (rfl)) (by rw [hn_82]; exact z_76) ?_
      intro A_77 c_78 w_80 st_81
      have st_81' : St w w_80 [.sl (some ⟨B_70, 0, none⟩) 1 1 (iv .u8 [IntKind.u8.wrap x_68]) 5 1, .sl (some ⟨B_16, 0, none⟩) 1 1 (iv .u8 [128]) 5 1, .sl A_77 c_78 n_79 (iv .u8 m_74) 5 1, .cells B_1 (iv .u8 (List.replicate 32 (0 : Int))) 25] := by rw [e_75, ← iv_append .u8 l_56 [IntKind.u8.wrap x_68]]; exact st_81
      refine WL.val Wanted.none (Runs.assign rfl) ?_
      refine WL.nil ?_
      refine QW.blk_n ?_
      refine QW.then_n ?_
      refine CW.region ?_
      refine WL.val Wanted.none (Runs.move rfl) ?_
      refine WL.val Wanted.none (Runs.add rfl rfl rfl) ?_
      refine WL.val Wanted.none (Runs.assign rfl) ?_
      refine WL.nil ?_
      have st_81'' := st_81'.pick [1, 2, 3] (by decide)
      exact QW.at [(2, .pointer (some ⟨B_1, 0, none⟩)), (3, .slice A_77 n_79 c_78), (4, .int .u64 (IntKind.u64.wrap ((IntKind.u64.wrap (l0.length : Int)) * 8))), (5, .int .i64 (IntKind.i64.wrap (x_59 + 1)))] ⟨rfl, rfl, rfl, rfl, trivial⟩ ⟨A_77, c_78, n_79, m_74, IntKind.i64.wrap (x_59 + 1), rfl, H, hn_82, st_81''⟩
    · have h_64 : (decide (x_59 < 8)) = false := (decide_eq_false c_63)
      refine CW.cf rfl h_64 ?_
      refine CW.exit ?_
      refine QW.then_x ?_
      refine QW.then_x ?_
      refine QW.blk_x ?_
      refine QW.then_n ?_
      refine CW.seq ?_
      refine CW.region ?_
      obtain ⟨m_83, e_84, H⟩ := H
      refine WL.val Wanted.none (Runs.build_arr (xs := m_83) arr43 rfl rfl (by rw [e_84]; rfl)) ?_
      refine WL.alloc st_61 arr43.zero ?_
      intro B_85 w_86 st_87
      replace st_87 : St w w_86 [.cells B_85 (iv .u32 (List.replicate 8 (0 : Int))) 43, .sl (some ⟨B_16, 0, none⟩) 1 1 (iv .u8 [128]) 5 1, .sl A_54 c_55 n_57 (iv .u8 l_56) 5 1, .cells B_1 (iv .u8 (List.replicate 32 (0 : Int))) 25] := st_87
      refine WL.store_arr (i := 0) st_87 rfl arr43 rfl (by rw [iv_length]; exact (List.length_replicate ..)) (by rw [e_84]; rfl) rfl ?_
      intro w_89 st_90
      replace st_90 : St w w_89 [.cells B_85 (iv .u32 m_83) 43, .sl (some ⟨B_16, 0, none⟩) 1 1 (iv .u8 [128]) 5 1, .sl A_54 c_55 n_57 (iv .u8 l_56) 5 1, .cells B_1 (iv .u8 (List.replicate 32 (0 : Int))) 25] := st_90
      refine WL.nil ?_
      refine QW.then_n ?_
      refine CW.seq ?_
      refine CW.seq ?_
      refine CW.region ?_
      refine WL.val Wanted.none (Runs.assign rfl) ?_
      refine WL.nil ?_
      refine QW.then_n ?_
      refine CW.block ?_
      obtain ⟨k_92, H⟩ := H
      refine CW.sub [(2, .pointer (some ⟨B_1, 0, none⟩)), (3, .slice A_54 n_57 c_55), (6, .pointer (some ⟨B_85, 0, none⟩)), (7, .int .i64 0)] ⟨rfl, rfl, rfl, rfl, trivial⟩ ?_
      refine CW.loop (fun kL3 l_ w_ => ∃ (m_93 : List Int) (x_95 : Int), l_ = [(2, .pointer (some ⟨B_1, 0, none⟩)), (3, .slice A_54 n_57 c_55), (6, .pointer (some ⟨B_85, 0, none⟩)), (7, .int .i64 x_95)] ∧ reliquaryref02_Of.L3 r0 l_56 kL3 m_93 x_95 ∧ (m_93.length = 8) ∧ St w w_ [.cells B_85 (iv .u32 m_93) 43, .sl (some ⟨B_16, 0, none⟩) 1 1 (iv .u8 [128]) 5 1, .sl A_54 c_55 n_57 (iv .u8 l_56) 5 1, .cells B_1 (iv .u8 (List.replicate 32 (0 : Int))) 25]) (k := k_92) ⟨m_83, 0, rfl, H, (by rw [e_84]; rfl), st_90⟩ (fun _ _ h => by obtain ⟨_, _, _, h, _⟩ := h; exact h.elim) ?_
      rintro kL3 l_98 w_96 ⟨m_93, x_95, rfl, H, hl_94, st_97⟩
      refine CW.seq ?_
      refine CW.seq ?_
      refine CW.region ?_
      refine WL.val Wanted.none (Runs.move rfl) ?_
      refine WL.val Wanted.none (Runs.move rfl) ?_
      refine WL.val Wanted.none (Runs.len_sl Tryd.underlying22 rfl (by rw [hn_58])) ?_
      refine WL.val Wanted.none (Runs.lss rfl rfl rfl) ?_
      refine WL.nil ?_
      refine QW.then_n ?_
      rcases H with ⟨c_99, H⟩ | ⟨c_99, H⟩
      · have h_100 : (decide (x_95 < (l_56.length : Int))) = true := (decide_eq_true c_99)
        refine CW.ct rfl h_100 ?_
        refine CW.skip ?_
        refine QW.then_n ?_
        refine CW.seq ?_
        refine CW.block ?_
        refine CW.region ?_
        refine WL.val Wanted.none (Runs.load_arr arr43 rfl (st_97.blk (i := 0) rfl) hl_94) ?_
        refine WL.val Wanted.none (Runs.move rfl) ?_
        refine WL.val Wanted.none (Runs.move rfl) ?_
        obtain ⟨r_105, hr_101, H⟩ := H
        refine WL.call Wanted.none ent21 rfl (reliquaryref02_block.calls w_96 m_93 l_56 x_95 A_54 n_57 c_55 hl_94 (st_97.src_sl (k := 2) rfl) (hn_58) (st_97.cap (i := 2) rfl) r_105 hr_101) ?_
        rintro _ w_102 ⟨hl_106, rfl, sc_104⟩
        have st_103 : St w w_102 [.cells B_85 (iv .u32 m_93) 43, .sl (some ⟨B_16, 0, none⟩) 1 1 (iv .u8 [128]) 5 1, .sl A_54 c_55 n_57 (iv .u8 l_56) 5 1, .cells B_1 (iv .u8 (List.replicate 32 (0 : Int))) 25] := st_97.call sc_104
        refine ⟨_, rfl, ?_⟩
        refine WL.store_arr (i := 0) st_103 rfl arr43 rfl (by rw [iv_length]; exact hl_94) hl_106 rfl ?_
        intro w_107 st_108
        replace st_108 : St w w_107 [.cells B_85 (iv .u32 r_105) 43, .sl (some ⟨B_16, 0, none⟩) 1 1 (iv .u8 [128]) 5 1, .sl A_54 c_55 n_57 (iv .u8 l_56) 5 1, .cells B_1 (iv .u8 (List.replicate 32 (0 : Int))) 25] := st_108
        refine WL.nil ?_
        refine QW.blk_n ?_
        refine QW.then_n ?_
        refine CW.region ?_
        refine WL.val Wanted.none (Runs.move rfl) ?_
        refine WL.val Wanted.none (Runs.add rfl rfl rfl) ?_
        refine WL.val Wanted.none (Runs.assign rfl) ?_
        refine WL.nil ?_
        exact QW.at [(2, .pointer (some ⟨B_1, 0, none⟩)), (3, .slice A_54 n_57 c_55), (6, .pointer (some ⟨B_85, 0, none⟩)), (7, .int .i64 (IntKind.i64.wrap (x_95 + 64)))] ⟨rfl, rfl, rfl, rfl, trivial⟩ ⟨r_105, IntKind.i64.wrap (x_95 + 64), rfl, H, hl_106, st_108⟩
      · have h_100 : (decide (x_95 < (l_56.length : Int))) = false := (decide_eq_false c_99)
        refine CW.cf rfl h_100 ?_
        refine CW.exit ?_
        refine QW.then_x ?_
        refine QW.then_x ?_
        refine QW.blk_x ?_
        refine QW.then_n ?_
        refine CW.sub [(2, .pointer (some ⟨B_1, 0, none⟩)), (6, .pointer (some ⟨B_85, 0, none⟩))] ⟨rfl, rfl, trivial⟩ ?_
        refine CW.seq ?_
        refine CW.region ?_
        refine WL.alloc st_97 arr25.zero ?_
        intro B_110 w_111 st_112
        replace st_112 : St w w_111 [.cells B_110 (iv .u8 (List.replicate 32 (0 : Int))) 25, .cells B_85 (iv .u32 m_93) 43, .sl (some ⟨B_16, 0, none⟩) 1 1 (iv .u8 [128]) 5 1, .sl A_54 c_55 n_57 (iv .u8 l_56) 5 1, .cells B_1 (iv .u8 (List.replicate 32 (0 : Int))) 25] := st_112
        refine WL.nil ?_
        refine QW.then_n ?_
        refine CW.seq ?_
        refine CW.seq ?_
        refine CW.region ?_
        refine WL.val Wanted.none (Runs.assign rfl) ?_
        refine WL.nil ?_
        refine QW.then_n ?_
        refine CW.block ?_
        obtain ⟨k_114, H⟩ := H
        refine CW.sub [(2, .pointer (some ⟨B_1, 0, none⟩)), (6, .pointer (some ⟨B_85, 0, none⟩)), (8, .pointer (some ⟨B_110, 0, none⟩)), (9, .int .i64 0)] ⟨rfl, rfl, rfl, rfl, trivial⟩ ?_
        refine CW.loop (fun kL4 l_ w_ => ∃ (m_115 : List Int) (x_117 : Int), l_ = [(2, .pointer (some ⟨B_1, 0, none⟩)), (6, .pointer (some ⟨B_85, 0, none⟩)), (8, .pointer (some ⟨B_110, 0, none⟩)), (9, .int .i64 x_117)] ∧ reliquaryref02_Of.L4 r0 m_93 kL4 m_115 x_117 ∧ (m_115.length = 32) ∧ St w w_ [.cells B_110 (iv .u8 m_115) 25, .cells B_85 (iv .u32 m_93) 43, .sl (some ⟨B_16, 0, none⟩) 1 1 (iv .u8 [128]) 5 1, .sl A_54 c_55 n_57 (iv .u8 l_56) 5 1, .cells B_1 (iv .u8 (List.replicate 32 (0 : Int))) 25]) (k := k_114) ⟨List.replicate 32 (0 : Int), 0, rfl, H, (List.length_replicate ..), st_112⟩ (fun _ _ h => by obtain ⟨_, _, _, h, _⟩ := h; exact h.elim) ?_
        rintro kL4 l_120 w_118 ⟨m_115, x_117, rfl, H, hl_116, st_119⟩
        refine CW.seq ?_
        refine CW.seq ?_
        refine CW.region ?_
        refine WL.val Wanted.none (Runs.move rfl) ?_
        refine WL.val Wanted.none (Runs.lss rfl rfl rfl) ?_
        refine WL.nil ?_
        refine QW.then_n ?_
        rcases H with ⟨c_121, H⟩ | ⟨c_121, H⟩
        · have h_122 : (decide (x_117 < 32)) = true := (decide_eq_true c_121)
          refine CW.ct rfl h_122 ?_
          refine CW.skip ?_
          refine QW.then_n ?_
          refine CW.seq ?_
          refine CW.block ?_
          refine CW.region ?_
          refine WL.val Wanted.none (Runs.move rfl) ?_
          refine WL.val Wanted.none (Runs.move rfl) ?_
          refine WL.val Wanted.none (Runs.quo rfl rfl (by decide) rfl) ?_
          obtain ⟨⟨p_123, q_124⟩, H⟩ := H
          refine WL.val Wanted.none (Runs.indexAddr_blk arr43 rfl rfl p_123 q_124 (o := (IntKind.i64.wrap (Int.tdiv x_117 4)).toNat) (by first | rfl | omega)) ?_
          refine WL.val Wanted.none (Runs.load nagg42 rfl (st_119.cell_iv (i := 1) rfl (by have := hl_94; omega))) ?_
          refine WL.val Wanted.none (Runs.move rfl) ?_
          refine WL.val Wanted.none (Runs.rem rfl rfl (by decide) rfl) ?_
          refine WL.val Wanted.none (Runs.mul rfl rfl rfl) ?_
          obtain ⟨x_125, e_126, H⟩ := H
          refine WL.val Wanted.none (Runs.sub rfl rfl e_126) ?_
          refine WL.val Wanted.none (Runs.conv Tryd.underlying50 ⟨_, Tryd.underlying3⟩ rfl rfl) ?_
          obtain ⟨z_127, H⟩ := H
          obtain ⟨x_128, e_129, H⟩ := H
          refine WL.val Wanted.none (Runs.shr rfl rfl z_127 e_129) ?_
          refine WL.val Wanted.none (Runs.conv Tryd.underlying5 ⟨_, Tryd.underlying42⟩ rfl rfl) ?_
          obtain ⟨⟨p_130, q_131⟩, H⟩ := H
          refine WL.val Wanted.none (Runs.indexAddr_blk arr25 rfl rfl p_130 q_131 (o := (x_117).toNat) (by first | rfl | omega)) ?_
          obtain ⟨m_132, e_133, H⟩ := H
          have hl_136 : m_132.length = 32 := by rw [e_133, List.length_set]; exact hl_116
          refine WL.store_cells (i := 0) st_119 rfl cells5 rfl (by rw [iv_length]; have := hl_116; omega) rfl rfl ?_
          intro w_134 st_135
          have st_135' : St w w_134 [.cells B_110 (iv .u8 m_132) 25, .cells B_85 (iv .u32 m_93) 43, .sl (some ⟨B_16, 0, none⟩) 1 1 (iv .u8 [128]) 5 1, .sl A_54 c_55 n_57 (iv .u8 l_56) 5 1, .cells B_1 (iv .u8 (List.replicate 32 (0 : Int))) 25] := by rw [e_133, ← iv_set .u8 m_115 ((x_117).toNat) (IntKind.u8.wrap x_128)]; exact st_135
          refine WL.nil ?_
          refine QW.blk_n ?_
          refine QW.then_n ?_
          refine CW.region ?_
          refine WL.val Wanted.none (Runs.move rfl) ?_
          refine WL.val Wanted.none (Runs.add rfl rfl rfl) ?_
          refine WL.val Wanted.none (Runs.assign rfl) ?_
          refine WL.nil ?_
          exact QW.at [(2, .pointer (some ⟨B_1, 0, none⟩)), (6, .pointer (some ⟨B_85, 0, none⟩)), (8, .pointer (some ⟨B_110, 0, none⟩)), (9, .int .i64 (IntKind.i64.wrap (x_117 + 1)))] ⟨rfl, rfl, rfl, rfl, trivial⟩ ⟨m_132, IntKind.i64.wrap (x_117 + 1), rfl, H, hl_136, st_135'⟩
        · have h_122 : (decide (x_117 < 32)) = false := (decide_eq_false c_121)
          refine CW.cf rfl h_122 ?_
          refine CW.exit ?_
          refine QW.then_x ?_
          refine QW.then_x ?_
          refine QW.blk_x ?_
          refine QW.then_n ?_
          refine CW.seq ?_
          refine CW.region ?_
          refine WL.val Wanted.none (Runs.load_arr arr25 rfl (st_119.blk (i := 0) rfl) hl_116) ?_
          refine WL.store_arr (i := 4) st_119 rfl arr25 rfl (by rw [iv_length]; exact (List.length_replicate ..)) hl_116 rfl ?_
          intro w_137 st_138
          replace st_138 : St w w_137 [.cells B_110 (iv .u8 m_115) 25, .cells B_85 (iv .u32 m_93) 43, .sl (some ⟨B_16, 0, none⟩) 1 1 (iv .u8 [128]) 5 1, .sl A_54 c_55 n_57 (iv .u8 l_56) 5 1, .cells B_1 (iv .u8 m_115) 25] := st_138
          refine WL.nil ?_
          refine QW.then_n ?_
          refine CW.sub [(2, .pointer (some ⟨B_1, 0, none⟩))] ⟨rfl, trivial⟩ ?_
          refine CW.ret ?_
          obtain rfl := H
          exact QW.retc rfl arr25 rfl (st_138.blk (i := 4) rfl) hl_116 ⟨hl_116, rfl, st_138.pick [] (by decide)⟩

/-! ### reliquaryref02_Hex: function 13 -/
def reliquaryref02_Hex.L1 (l0 : List Int) (r0 : ByteArray) : Nat → ByteArray → Int → Prop
  | 0, _, _ => False
  | kL1 + 1, s_6, x_7 => ((x_7 < 32 ∧ ((0 ≤ x_7 ∧ x_7 < (32 : Int)) ∧ (∃ x_15 : Int, x_15 = IntKind.i64.wrap (Int.tdiv (IntKind.i64.wrap (gn l0 ((x_7).toNat))) 16) ∧ ((0 ≤ x_7 ∧ x_7 < (32 : Int)) ∧ ((0 ≤ x_15 ∧ x_15 ≤ (IntKind.i64.wrap (x_15 + 1)) ∧ (IntKind.i64.wrap (x_15 + 1)) ≤ ((⟨#[48, 49, 50, 51, 52, 53, 54, 55, 56, 57, 97, 98, 99, 100, 101, 102]⟩ : ByteArray).size : Int)) ∧ (∃ x_22 : Int, x_22 = IntKind.i64.wrap ((Int.tmod (IntKind.i64.wrap (gn l0 ((x_7).toNat))) 16) + 1) ∧ ((0 ≤ (Int.tmod (IntKind.i64.wrap (gn l0 ((x_7).toNat))) 16) ∧ (Int.tmod (IntKind.i64.wrap (gn l0 ((x_7).toNat))) 16) ≤ x_22 ∧ x_22 ≤ ((⟨#[48, 49, 50, 51, 52, 53, 54, 55, 56, 57, 97, 98, 99, 100, 101, 102]⟩ : ByteArray).size : Int)) ∧ (((sx (⟨#[48, 49, 50, 51, 52, 53, 54, 55, 56, 57, 97, 98, 99, 100, 101, 102]⟩ : ByteArray) x_15 (IntKind.i64.wrap (x_15 + 1))).size + (sx (⟨#[48, 49, 50, 51, 52, 53, 54, 55, 56, 57, 97, 98, 99, 100, 101, 102]⟩ : ByteArray) (Int.tmod (IntKind.i64.wrap (gn l0 ((x_7).toNat))) 16) x_22).size ≤ 1099511627776) ∧ (∃ x_28 : ByteArray, x_28 = (sx (⟨#[48, 49, 50, 51, 52, 53, 54, 55, 56, 57, 97, 98, 99, 100, 101, 102]⟩ : ByteArray) x_15 (IntKind.i64.wrap (x_15 + 1))) ++ (sx (⟨#[48, 49, 50, 51, 52, 53, 54, 55, 56, 57, 97, 98, 99, 100, 101, 102]⟩ : ByteArray) (Int.tmod (IntKind.i64.wrap (gn l0 ((x_7).toNat))) 16) x_22) ∧ ((s_6.size + x_28.size ≤ 1099511627776) ∧ reliquaryref02_Hex.L1 l0 r0 kL1 (s_6 ++ x_28) (IntKind.i64.wrap (x_7 + 1)))))))))))) ∨ (¬ (x_7 < 32) ∧ r0 = s_6))
def reliquaryref02_Hex.rel (l0 : List Int) (r0 : ByteArray) : Prop := (∃ k_ : Nat, reliquaryref02_Hex.L1 l0 r0 k_ (⟨#[]⟩ : ByteArray) 0)
set_option maxHeartbeats 4000000 in
set_option maxRecDepth 100000 in
theorem reliquaryref02_Hex.calls (w : World) (l0 : List Int)   (hl0 : l0.length = 32) (r0 : ByteArray) (H : reliquaryref02_Hex.rel l0 r0) :
    Calls Tryd.prog 13 #[.agg (iv .u8 l0).toArray] w fun e w' => e = .returned (.string r0) ∧ St w w' [] := by
  refine CW.enter Tryd.func13 rfl (n := 33) rfl [.agg (iv .u8 l0).toArray] (Nat.le_of_ble_eq_true rfl) ?_
  refine CW.sub [(0, .agg (iv .u8 l0).toArray)] ⟨rfl, trivial⟩ ?_
  have st0 : St w w [] := St.refl w
  refine CW.seq ?_
  refine CW.region ?_
  refine WL.box st0 rfl rfl ?_
  intro B_1 w_2 st_3
  replace st_3 : St w w_2 [.cells B_1 (iv .u8 l0) 25] := st_3
  refine WL.val Wanted.none (Runs.assign rfl) ?_
  refine WL.nil ?_
  refine QW.then_n ?_
  refine CW.seq ?_
  refine CW.region ?_
  refine WL.val Wanted.none (Runs.assign rfl) ?_
  refine WL.nil ?_
  refine QW.then_n ?_
  refine CW.seq ?_
  refine CW.seq ?_
  refine CW.region ?_
  refine WL.val Wanted.none (Runs.assign rfl) ?_
  refine WL.nil ?_
  refine QW.then_n ?_
  refine CW.block ?_
  obtain ⟨k_5, H⟩ := H
  refine CW.sub [(1, .pointer (some ⟨B_1, 0, none⟩)), (2, .string (⟨#[]⟩ : ByteArray)), (3, .string (⟨#[]⟩ : ByteArray)), (4, .int .i64 0)] ⟨rfl, rfl, rfl, rfl, trivial⟩ ?_
  refine CW.loop (fun kL1 l_ w_ => ∃ (s_6 : ByteArray) (x_7 : Int), l_ = [(1, .pointer (some ⟨B_1, 0, none⟩)), (2, .string (⟨#[]⟩ : ByteArray)), (3, .string s_6), (4, .int .i64 x_7)] ∧ reliquaryref02_Hex.L1 l0 r0 kL1 s_6 x_7 ∧ St w w_ [.cells B_1 (iv .u8 l0) 25]) (k := k_5) ⟨(⟨#[]⟩ : ByteArray), 0, rfl, H, st_3⟩ (fun _ _ h => by obtain ⟨_, _, _, h, _⟩ := h; exact h.elim) ?_
  rintro kL1 l_10 w_8 ⟨s_6, x_7, rfl, H, st_9⟩
  refine CW.seq ?_
  refine CW.seq ?_
  refine CW.region ?_
  refine WL.val Wanted.none (Runs.move rfl) ?_
  refine WL.val Wanted.none (Runs.lss rfl rfl rfl) ?_
  refine WL.nil ?_
  refine QW.then_n ?_
  rcases H with ⟨c_11, H⟩ | ⟨c_11, H⟩
  · have h_12 : (decide (x_7 < 32)) = true := (decide_eq_true c_11)
    refine CW.ct rfl h_12 ?_
    refine CW.skip ?_
    refine QW.then_n ?_
    refine CW.seq ?_
    refine CW.block ?_
    refine CW.seq ?_
    refine CW.region ?_
    refine WL.val Wanted.none (Runs.move rfl) ?_
    obtain ⟨⟨p_13, q_14⟩, H⟩ := H
    refine WL.val Wanted.none (Runs.indexAddr_blk arr25 rfl rfl p_13 q_14 (o := (x_7).toNat) (by first | rfl | omega)) ?_
    refine WL.val Wanted.none (Runs.load nagg5 rfl (st_9.cell_iv (i := 0) rfl (by have := hl0; omega))) ?_
    refine WL.val Wanted.none (Runs.conv Tryd.underlying3 ⟨_, Tryd.underlying5⟩ rfl rfl) ?_
    obtain ⟨x_15, e_16, H⟩ := H
    refine WL.val Wanted.none (Runs.quo rfl rfl (by decide) e_16) ?_
    refine WL.val Wanted.none (Runs.assign rfl) ?_
    refine WL.nil ?_
    refine QW.then_n ?_
    refine CW.seq ?_
    refine CW.region ?_
    refine WL.val Wanted.none (Runs.move rfl) ?_
    obtain ⟨⟨p_17, q_18⟩, H⟩ := H
    refine WL.val Wanted.none (Runs.indexAddr_blk arr25 rfl rfl p_17 q_18 (o := (x_7).toNat) (by first | rfl | omega)) ?_
    refine WL.val Wanted.none (Runs.load nagg5 rfl (st_9.cell_iv (i := 0) rfl (by have := hl0; omega))) ?_
    refine WL.val Wanted.none (Runs.conv Tryd.underlying3 ⟨_, Tryd.underlying5⟩ rfl rfl) ?_
    refine WL.val Wanted.none (Runs.rem rfl rfl (by decide) rfl) ?_
    refine WL.val Wanted.none (Runs.assign rfl) ?_
    refine WL.nil ?_
    refine QW.then_n ?_
    refine CW.region_qa wide (by kernel_rfl) st_9 ?_
    refine HL.val Wanted.none (fun wq sq => (Runs.move rfl)) ?_
    refine HL.val Wanted.none (fun wq sq => (Runs.move rfl)) ?_
    refine HL.val Wanted.none (fun wq sq => (Runs.move rfl)) ?_
    refine HL.val Wanted.none (fun wq sq => (Runs.add rfl rfl rfl)) ?_
    obtain ⟨⟨p_19, q_20, r_21⟩, H⟩ := H
    refine HL.val Wanted.none (fun wq sq => (Runs.str_lh Tryd.underlying9 rfl rfl rfl p_19 q_20 r_21)) ?_
    refine HL.val Wanted.none (fun wq sq => (Runs.move rfl)) ?_
    refine HL.val Wanted.none (fun wq sq => (Runs.move rfl)) ?_
    obtain ⟨x_22, e_23, H⟩ := H
    refine HL.val Wanted.none (fun wq sq => (Runs.add rfl rfl e_23)) ?_
    obtain ⟨⟨p_24, q_25, r_26⟩, H⟩ := H
    refine HL.val Wanted.none (fun wq sq => (Runs.str_lh Tryd.underlying9 rfl rfl rfl p_24 q_25 r_26)) ?_
    obtain ⟨z_27, H⟩ := H
    obtain ⟨x_28, e_29, H⟩ := H
    refine HL.val Wanted.none (fun wq sq => (Runs.adds rfl rfl z_27 e_29)) ?_
    obtain ⟨z_30, H⟩ := H
    refine HL.val Wanted.none (fun wq sq => (Runs.adds rfl rfl z_30 rfl)) ?_
    refine HL.val Wanted.none (fun wq sq => (Runs.assign rfl)) ?_
    refine HL.nil (fun w_31 st_32 => ?_)
    refine WL.nil ?_
    refine QW.blk_n ?_
    refine QW.then_n ?_
    refine CW.region ?_
    refine WL.val Wanted.none (Runs.move rfl) ?_
    refine WL.val Wanted.none (Runs.add rfl rfl rfl) ?_
    refine WL.val Wanted.none (Runs.assign rfl) ?_
    refine WL.nil ?_
    exact QW.at [(1, .pointer (some ⟨B_1, 0, none⟩)), (2, .string (⟨#[]⟩ : ByteArray)), (3, .string (s_6 ++ x_28)), (4, .int .i64 (IntKind.i64.wrap (x_7 + 1)))] ⟨rfl, rfl, rfl, rfl, trivial⟩ ⟨s_6 ++ x_28, IntKind.i64.wrap (x_7 + 1), rfl, H, st_32⟩
  · have h_12 : (decide (x_7 < 32)) = false := (decide_eq_false c_11)
    refine CW.cf rfl h_12 ?_
    refine CW.exit ?_
    refine QW.then_x ?_
    refine QW.then_x ?_
    refine QW.blk_x ?_
    refine QW.then_n ?_
    refine CW.seq ?_
    refine CW.region ?_
    refine WL.val Wanted.none (Runs.move rfl) ?_
    refine WL.val Wanted.none (Runs.assign rfl) ?_
    refine WL.nil ?_
    refine QW.then_n ?_
    refine CW.sub [(2, .string s_6)] ⟨rfl, trivial⟩ ?_
    refine CW.ret ?_
    obtain rfl := H
    exact QW.ret1 rfl rfl ⟨rfl, st_9.pick [] (by decide)⟩

/-! ### reliquarylaw02_DigestSums: function 3 -/
def reliquarylaw02_DigestSums.rel (l0 : List Int)  : Prop := (reliquarylaw02_awake.rel  ∧ (((l0.length : Int) > 3000 ∧ True) ∨ (¬ ((l0.length : Int) > 3000) ∧ (∃ (r_11 : List Int), digest_Of.rel l0 r_11 ∧ (∃ (r_24 : List Int), reliquaryref02_Of.rel l0 r_24 ∧ (r_24.length = 32 ∧ (r_11 = r_24 ∧ (∃ (r_32 : ByteArray), digest_Hex.rel r_11 r_32 ∧ (∃ (r_37 : ByteArray), reliquaryref02_Hex.rel r_11 r_37 ∧ r_32.toList = r_37.toList)))))))))
set_option maxHeartbeats 4000000 in
set_option maxRecDepth 100000 in
theorem reliquarylaw02_DigestSums.calls (w : World) (l0 : List Int) (A0 : Option Addr) (n0 : Nat) (c0 : Nat)  (hG0 : Src w (some ⟨0, 0, none⟩) (iv .u32 tab0)) (hs0 : Src w A0 (iv .u8 l0)) (hn0 : n0 = l0.length) (hc0 : n0 ≤ c0)  (H : reliquarylaw02_DigestSums.rel l0 ) :
    Calls Tryd.prog 3 #[.slice A0 n0 c0] w fun e w' => e = .returned (.bool true) ∧ Below w.heap.size w w' := by
  refine CW.enter Tryd.func3 rfl (n := 24) rfl [.slice A0 n0 c0] (Nat.le_of_ble_eq_true rfl) ?_
  refine CW.sub [(0, .slice A0 n0 c0)] ⟨rfl, trivial⟩ ?_
  have st0 : St w w [] := St.refl w
  refine CW.seq ?_
  refine CW.region ?_
  refine WL.val Wanted.none (Runs.assign rfl) ?_
  refine WL.nil ?_
  refine QW.then_n ?_
  refine CW.seq ?_
  refine CW.region ?_
  obtain ⟨hr_1, H⟩ := H
  refine WL.call Wanted.none ent9 rfl (reliquarylaw02_awake.calls w (hG0.ext st0) hr_1) ?_
  rintro _ w_2 ⟨rfl, sc_4⟩
  have st_3 : St w w_2 [] := st0.below sc_4
  refine ⟨_, rfl, ?_⟩
  refine WL.val Wanted.none (Runs.assign rfl) ?_
  refine WL.nil ?_
  refine QW.then_n ?_
  refine CW.seq ?_
  refine CW.seq ?_
  refine CW.region ?_
  refine WL.val Wanted.none (Runs.move rfl) ?_
  refine WL.val Wanted.none (Runs.not rfl rfl) ?_
  refine WL.nil ?_
  refine QW.then_n ?_
  refine CW.cf rfl rfl ?_
  refine CW.skip ?_
  refine QW.then_n ?_
  refine CW.seq ?_
  refine CW.seq ?_
  refine CW.region ?_
  refine WL.val Wanted.none (Runs.move rfl) ?_
  refine WL.val Wanted.none (Runs.len_sl Tryd.underlying22 rfl (by rw [hn0])) ?_
  refine WL.val Wanted.none (Runs.gtr rfl rfl rfl) ?_
  refine WL.nil ?_
  refine QW.then_n ?_
  refine CW.sub [(0, .slice A0 n0 c0), (2, .bool false), (10, .bool (decide ((l0.length : Int) > 3000)))] ⟨rfl, rfl, rfl, trivial⟩ ?_
  rcases H with ⟨c_5, H⟩ | ⟨c_5, H⟩
  · have h_6 : (decide ((l0.length : Int) > 3000)) = true := (decide_eq_true c_5)
    refine CW.ct rfl h_6 ?_
    refine CW.seq ?_
    refine CW.region ?_
    refine WL.val Wanted.none (Runs.assign rfl) ?_
    refine WL.nil ?_
    refine QW.then_n ?_
    refine CW.ret ?_
    refine QW.then_r ?_
    exact QW.ret1 rfl rfl ⟨rfl, st_3.ext⟩
  · have h_6 : (decide ((l0.length : Int) > 3000)) = false := (decide_eq_false c_5)
    refine CW.cf rfl h_6 ?_
    refine CW.skip ?_
    refine QW.then_n ?_
    refine CW.seq ?_
    refine CW.region ?_
    refine WL.val Wanted.none (Runs.move rfl) ?_
    obtain ⟨r_11, hr_7, H⟩ := H
    refine WL.call Wanted.none ent10 rfl (digest_Of.calls w_2 l0 A0 n0 c0 (hG0.ext st_3) (hs0.ext st_3) (hn0) (hc0) r_11 hr_7) ?_
    rintro _ w_8 ⟨hl_12, rfl, sc_10⟩
    have st_9 : St w w_8 [] := st_3.call sc_10
    refine ⟨_, rfl, ?_⟩
    refine WL.alloc st_9 arr25.zero ?_
    intro B_13 w_14 st_15
    replace st_15 : St w w_14 [.cells B_13 (iv .u8 (List.replicate 32 (0 : Int))) 25] := st_15
    refine WL.store_arr (i := 0) st_15 rfl arr25 rfl (by rw [iv_length]; exact (List.length_replicate ..)) hl_12 rfl ?_
    intro w_17 st_18
    replace st_18 : St w w_17 [.cells B_13 (iv .u8 r_11) 25] := st_18
    refine WL.nil ?_
    refine QW.then_n ?_
    refine CW.seq ?_
    refine CW.region_qa wide (by kernel_rfl) st_18 ?_
    refine HL.val Wanted.none (fun wq sq => (Runs.load_arr arr25 rfl (sq.blk (i := 0) rfl) hl_12)) ?_
    refine HL.val Wanted.none (fun wq sq => (Runs.move rfl)) ?_
    obtain ⟨r_24, hr_20, H⟩ := H
    obtain ⟨hl_25, H⟩ := H
    refine HL.call Wanted.none ent11 rfl (fun wq sq => (reliquaryref02_Of.calls wq l0 A0 n0 c0 (hs0.ext sq) (hn0) (hc0) r_24 hr_20).mono (by rintro _ _ ⟨_, rfl, sc⟩; exact ⟨rfl, sq.call sc⟩)) ?_
    refine HL.val Wanted.none (fun wq sq => (Runs.eql_arr arr25 eqg25 rfl rfl hl_12 hl_25 rfl)) ?_
    refine HL.val Wanted.none (fun wq sq => (Runs.move rfl)) ?_
    obtain ⟨c_26, H⟩ := H
    have h_27 : (r_11 == r_24) = true := (beq_iff_eq.mpr c_26)
    refine HL.on ?_ ?_; exact Wanted.guard (dj := 17) (by rfl) (evb (by rfl) h_27) (by rfl)
    refine HL.val Wanted.none (fun wq sq => (Runs.load_arr arr25 rfl (sq.blk (i := 0) rfl) hl_12)) ?_
    refine HL.on ?_ ?_; exact Wanted.guard (dj := 17) (by rfl) (evb (by rfl) h_27) (by rfl)
    obtain ⟨r_32, hr_28, H⟩ := H
    refine HL.call Wanted.none ent12 rfl (fun wq sq => (digest_Hex.calls wq r_11 hl_12 r_32 hr_28).mono (by rintro _ _ ⟨rfl, sc⟩; exact ⟨rfl, sq.call sc⟩)) ?_
    refine HL.on ?_ ?_; exact Wanted.guard (dj := 17) (by rfl) (evb (by rfl) h_27) (by rfl)
    refine HL.val Wanted.none (fun wq sq => (Runs.load_arr arr25 rfl (sq.blk (i := 0) rfl) hl_12)) ?_
    refine HL.on ?_ ?_; exact Wanted.guard (dj := 17) (by rfl) (evb (by rfl) h_27) (by rfl)
    obtain ⟨r_37, hr_33, H⟩ := H
    refine HL.call Wanted.none ent13 rfl (fun wq sq => (reliquaryref02_Hex.calls wq r_11 hl_12 r_37 hr_33).mono (by rintro _ _ ⟨rfl, sc⟩; exact ⟨rfl, sq.call sc⟩)) ?_
    refine HL.on ?_ ?_; exact Wanted.guard (dj := 17) (by rfl) (evb (by rfl) h_27) (by rfl)
    refine HL.val Wanted.none (fun wq sq => (Runs.eqs rfl rfl rfl)) ?_
    refine HL.val Wanted.none (fun wq sq => (Runs.pick_t (evb rfl h_27) rfl)) ?_
    refine HL.val Wanted.none (fun wq sq => (Runs.assign rfl)) ?_
    refine HL.nil (fun w_38 st_39 => ?_)
    refine WL.nil ?_
    refine QW.then_n ?_
    refine CW.sub [(2, .bool (r_32.toList == r_37.toList))] ⟨rfl, trivial⟩ ?_
    refine CW.ret ?_
    have hz : (r_32.toList == r_37.toList) = true := (beq_iff_eq.mpr H)
    exact QW.ret1 rfl (evb rfl hz) ⟨rfl, st_39.ext⟩

/-! ### reliquaryref02_digit: function 23 -/
def reliquaryref02_digit.L1 (a0 : Int) (r0 : Int) : Nat → Int → Int → Prop
  | 0, _, _ => False
  | kL1 + 1, x_2, x_3 => ((x_3 < 16 ∧ ((0 ≤ x_3 ∧ x_3 < ((⟨#[48, 49, 50, 51, 52, 53, 54, 55, 56, 57, 97, 98, 99, 100, 101, 102]⟩ : ByteArray).size : Int)) ∧ (((bn (⟨#[48, 49, 50, 51, 52, 53, 54, 55, 56, 57, 97, 98, 99, 100, 101, 102]⟩ : ByteArray) ((x_3).toNat)) = a0 ∧ r0 = x_3) ∨ (¬ ((bn (⟨#[48, 49, 50, 51, 52, 53, 54, 55, 56, 57, 97, 98, 99, 100, 101, 102]⟩ : ByteArray) ((x_3).toNat)) = a0) ∧ reliquaryref02_digit.L1 a0 r0 kL1 x_2 (IntKind.i64.wrap (x_3 + 1)))))) ∨ (¬ (x_3 < 16) ∧ r0 = -1))
def reliquaryref02_digit.rel (a0 : Int) (r0 : Int) : Prop := (∃ k_ : Nat, reliquaryref02_digit.L1 a0 r0 k_ 0 0)
set_option maxHeartbeats 4000000 in
set_option maxRecDepth 100000 in
theorem reliquaryref02_digit.calls (w : World) (a0 : Int)    (r0 : Int) (H : reliquaryref02_digit.rel a0 r0) :
    Calls Tryd.prog 23 #[.int .u8 a0] w fun e w' => e = .returned (.int .i64 r0) ∧ St w w' [] := by
  refine CW.enter Tryd.func23 rfl (n := 13) rfl [.int .u8 a0] (Nat.le_of_ble_eq_true rfl) ?_
  refine CW.sub [(0, .int .u8 a0)] ⟨rfl, trivial⟩ ?_
  have st0 : St w w [] := St.refl w
  refine CW.seq ?_
  refine CW.region ?_
  refine WL.val Wanted.none (Runs.assign rfl) ?_
  refine WL.nil ?_
  refine QW.then_n ?_
  refine CW.seq ?_
  refine CW.seq ?_
  refine CW.region ?_
  refine WL.val Wanted.none (Runs.assign rfl) ?_
  refine WL.nil ?_
  refine QW.then_n ?_
  refine CW.block ?_
  obtain ⟨k_1, H⟩ := H
  refine CW.sub [(0, .int .u8 a0), (2, .int .i64 0), (3, .int .i64 0)] ⟨rfl, rfl, rfl, trivial⟩ ?_
  refine CW.loop (fun kL1 l_ w_ => ∃ (x_2 : Int) (x_3 : Int), l_ = [(0, .int .u8 a0), (2, .int .i64 x_2), (3, .int .i64 x_3)] ∧ reliquaryref02_digit.L1 a0 r0 kL1 x_2 x_3 ∧ St w w_ []) (k := k_1) ⟨0, 0, rfl, H, st0⟩ (fun _ _ h => by obtain ⟨_, _, _, h, _⟩ := h; exact h.elim) ?_
  rintro kL1 l_6 w_4 ⟨x_2, x_3, rfl, H, st_5⟩
  refine CW.seq ?_
  refine CW.seq ?_
  refine CW.region ?_
  refine WL.val Wanted.none (Runs.move rfl) ?_
  refine WL.val Wanted.none (Runs.lss rfl rfl rfl) ?_
  refine WL.nil ?_
  refine QW.then_n ?_
  rcases H with ⟨c_7, H⟩ | ⟨c_7, H⟩
  · have h_8 : (decide (x_3 < 16)) = true := (decide_eq_true c_7)
    refine CW.ct rfl h_8 ?_
    refine CW.skip ?_
    refine QW.then_n ?_
    refine CW.seq ?_
    refine CW.block ?_
    refine CW.seq ?_
    refine CW.region ?_
    refine WL.val Wanted.none (Runs.move rfl) ?_
    obtain ⟨⟨p_9, q_10⟩, H⟩ := H
    refine WL.val Wanted.none (Runs.index_str Tryd.underlying9 rfl rfl p_9 q_10 (j := (x_3).toNat) (by first | rfl | omega)) ?_
    refine WL.val Wanted.none (Runs.move rfl) ?_
    refine WL.val Wanted.none (Runs.eql rfl rfl rfl) ?_
    refine WL.nil ?_
    refine QW.then_n ?_
    rcases H with ⟨c_11, H⟩ | ⟨c_11, H⟩
    · have h_12 : ((bn (⟨#[48, 49, 50, 51, 52, 53, 54, 55, 56, 57, 97, 98, 99, 100, 101, 102]⟩ : ByteArray) ((x_3).toNat)) == a0) = true := (beq_iff_eq.mpr c_11)
      refine CW.ct rfl h_12 ?_
      refine CW.seq ?_
      refine CW.region ?_
      refine WL.val Wanted.none (Runs.move rfl) ?_
      refine WL.val Wanted.none (Runs.assign rfl) ?_
      refine WL.nil ?_
      refine QW.then_n ?_
      refine CW.ret ?_
      refine QW.blk_r ?_
      refine QW.then_r ?_
      refine QW.then_r ?_
      refine QW.blk_r ?_
      refine QW.then_r ?_
      obtain rfl := H
      exact QW.ret1 rfl rfl ⟨rfl, st_5.pick [] (by decide)⟩
    · have h_12 : ((bn (⟨#[48, 49, 50, 51, 52, 53, 54, 55, 56, 57, 97, 98, 99, 100, 101, 102]⟩ : ByteArray) ((x_3).toNat)) == a0) = false := (beq_eq_false_iff_ne.mpr c_11)
      refine CW.cf rfl h_12 ?_
      refine CW.skip ?_
      refine QW.blk_n ?_
      refine QW.then_n ?_
      refine CW.region ?_
      refine WL.val Wanted.none (Runs.move rfl) ?_
      refine WL.val Wanted.none (Runs.add rfl rfl rfl) ?_
      refine WL.val Wanted.none (Runs.assign rfl) ?_
      refine WL.nil ?_
      exact QW.at [(0, .int .u8 a0), (2, .int .i64 x_2), (3, .int .i64 (IntKind.i64.wrap (x_3 + 1)))] ⟨rfl, rfl, rfl, trivial⟩ ⟨x_2, IntKind.i64.wrap (x_3 + 1), rfl, H, st_5⟩
  · have h_8 : (decide (x_3 < 16)) = false := (decide_eq_false c_7)
    refine CW.cf rfl h_8 ?_
    refine CW.exit ?_
    refine QW.then_x ?_
    refine QW.then_x ?_
    refine QW.blk_x ?_
    refine QW.then_n ?_
    refine CW.seq ?_
    refine CW.region ?_
    refine WL.val Wanted.none (Runs.assign rfl) ?_
    refine WL.nil ?_
    refine QW.then_n ?_
    refine CW.ret ?_
    obtain rfl := H
    exact QW.ret1 rfl rfl ⟨rfl, st_5.pick [] (by decide)⟩

/-! ### reliquaryref02_Read: function 15 -/
def reliquaryref02_Read.L1 (a0 : ByteArray) (r0 : List Int) (r1 : Int) : Nat → (List Int) → Int → Int → Prop
  | 0, _, _, _ => False
  | kL1 + 1, m_17, x_19, x_20 => ((x_20 < 32 ∧ ((0 ≤ (IntKind.i64.wrap (2 * x_20)) ∧ (IntKind.i64.wrap (2 * x_20)) < (a0.size : Int)) ∧ (∃ (r_32 : Int), reliquaryref02_digit.rel (bn a0 ((IntKind.i64.wrap (2 * x_20)).toNat)) r_32 ∧ ((0 ≤ (IntKind.i64.wrap ((IntKind.i64.wrap (2 * x_20)) + 1)) ∧ (IntKind.i64.wrap ((IntKind.i64.wrap (2 * x_20)) + 1)) < (a0.size : Int)) ∧ (∃ (r_39 : Int), reliquaryref02_digit.rel (bn a0 ((IntKind.i64.wrap ((IntKind.i64.wrap (2 * x_20)) + 1)).toNat)) r_39 ∧ ((r_32 < 0 ∧ (∃ m_42 : List Int, m_42 = List.replicate 32 (0 : Int) ∧ r0 = m_42 ∧ r1 = 11)) ∨ (¬ (r_32 < 0) ∧ ((r_39 < 0 ∧ (∃ m_49 : List Int, m_49 = List.replicate 32 (0 : Int) ∧ r0 = m_49 ∧ r1 = 11)) ∨ (¬ (r_39 < 0) ∧ (∃ x_54 : Int, x_54 = IntKind.u8.wrap (IntKind.i64.wrap ((IntKind.i64.wrap (16 * r_32)) + r_39)) ∧ ((0 ≤ x_20 ∧ x_20 < (32 : Int)) ∧ (∃ m_58 : List Int, m_58 = List.set m_17 ((x_20).toNat) x_54 ∧ reliquaryref02_Read.L1 a0 r0 r1 kL1 m_58 x_19 (IntKind.i64.wrap (x_20 + 1)))))))))))))) ∨ (¬ (x_20 < 32) ∧ r0 = m_17 ∧ r1 = 0))
def reliquaryref02_Read.rel (a0 : ByteArray) (r0 : List Int) (r1 : Int) : Prop := (((a0.size : Int) ≠ 64 ∧ (∃ m_11 : List Int, m_11 = List.replicate 32 (0 : Int) ∧ r0 = m_11 ∧ r1 = 11)) ∨ (¬ ((a0.size : Int) ≠ 64) ∧ (∃ k_ : Nat, reliquaryref02_Read.L1 a0 r0 r1 k_ (List.replicate 32 (0 : Int)) 0 0)))
set_option maxHeartbeats 4000000 in
set_option maxRecDepth 100000 in
theorem reliquaryref02_Read.calls (w : World) (a0 : ByteArray)    (r0 : List Int) (r1 : Int) (H : reliquaryref02_Read.rel a0 r0 r1) :
    Calls Tryd.prog 15 #[.string a0] w fun e w' => r0.length = 32 ∧ e = .returned (.tuple #[.agg (iv .u8 r0).toArray, .int .i64 r1]) ∧ St w w' [] := by
  refine CW.enter Tryd.func15 rfl (n := 42) rfl [.string a0] (Nat.le_of_ble_eq_true rfl) ?_
  refine CW.sub [(0, .string a0)] ⟨rfl, trivial⟩ ?_
  have st0 : St w w [] := St.refl w
  refine CW.seq ?_
  refine CW.region ?_
  refine WL.alloc st0 arr25.zero ?_
  intro B_1 w_2 st_3
  replace st_3 : St w w_2 [.cells B_1 (iv .u8 (List.replicate 32 (0 : Int))) 25] := st_3
  refine WL.val Wanted.none (Runs.assign rfl) ?_
  refine WL.nil ?_
  refine QW.then_n ?_
  refine CW.seq ?_
  refine CW.region ?_
  refine WL.alloc st_3 arr25.zero ?_
  intro B_5 w_6 st_7
  replace st_7 : St w w_6 [.cells B_5 (iv .u8 (List.replicate 32 (0 : Int))) 25, .cells B_1 (iv .u8 (List.replicate 32 (0 : Int))) 25] := st_7
  refine WL.nil ?_
  refine QW.then_n ?_
  refine CW.seq ?_
  refine CW.seq ?_
  refine CW.region ?_
  refine WL.val Wanted.none (Runs.move rfl) ?_
  refine WL.val Wanted.none (Runs.len_str Tryd.underlying9 rfl) ?_
  refine WL.val Wanted.none (Runs.neq rfl rfl rfl) ?_
  refine WL.nil ?_
  refine QW.then_n ?_
  rcases H with ⟨c_9, H⟩ | ⟨c_9, H⟩
  · have h_10 : ((a0.size : Int) != 64) = true := (bne_iff_ne.mpr c_9)
    refine CW.ct rfl h_10 ?_
    refine CW.seq ?_
    refine CW.region ?_
    obtain ⟨m_11, e_12, H⟩ := H
    refine WL.val Wanted.none (Runs.build_arr (xs := m_11) arr25 rfl rfl (by rw [e_12]; rfl)) ?_
    refine WL.store_arr (i := 1) st_7 rfl arr25 rfl (by rw [iv_length]; exact (List.length_replicate ..)) (by rw [e_12]; rfl) rfl ?_
    intro w_13 st_14
    replace st_14 : St w w_13 [.cells B_5 (iv .u8 (List.replicate 32 (0 : Int))) 25, .cells B_1 (iv .u8 m_11) 25] := st_14
    refine WL.val Wanted.none (Runs.assign rfl) ?_
    refine WL.nil ?_
    refine QW.then_n ?_
    refine CW.ret ?_
    refine QW.then_r ?_
    obtain ⟨rfl, rfl⟩ := H
    exact QW.retc1 rfl arr25 rfl (st_14.blk (i := 1) rfl) (by rw [e_12]; rfl) rfl ⟨(by rw [e_12]; rfl), rfl, st_14.pick [] (by decide)⟩
  · have h_10 : ((a0.size : Int) != 64) = false := (bne_eq_false_iff_eq.mpr (Decidable.not_not.mp c_9))
    refine CW.cf rfl h_10 ?_
    refine CW.skip ?_
    refine QW.then_n ?_
    refine CW.seq ?_
    refine CW.seq ?_
    refine CW.region ?_
    refine WL.val Wanted.none (Runs.assign rfl) ?_
    refine WL.nil ?_
    refine QW.then_n ?_
    refine CW.block ?_
    obtain ⟨k_16, H⟩ := H
    refine CW.sub [(0, .string a0), (2, .pointer (some ⟨B_1, 0, none⟩)), (3, .int .i64 0), (4, .pointer (some ⟨B_5, 0, none⟩)), (5, .int .i64 0)] ⟨rfl, rfl, rfl, rfl, rfl, trivial⟩ ?_
    refine CW.loop (fun kL1 l_ w_ => ∃ (m_17 : List Int) (x_19 : Int) (x_20 : Int), l_ = [(0, .string a0), (2, .pointer (some ⟨B_1, 0, none⟩)), (3, .int .i64 x_19), (4, .pointer (some ⟨B_5, 0, none⟩)), (5, .int .i64 x_20)] ∧ reliquaryref02_Read.L1 a0 r0 r1 kL1 m_17 x_19 x_20 ∧ (m_17.length = 32) ∧ St w w_ [.cells B_5 (iv .u8 m_17) 25, .cells B_1 (iv .u8 (List.replicate 32 (0 : Int))) 25]) (k := k_16) ⟨List.replicate 32 (0 : Int), 0, 0, rfl, H, (List.length_replicate ..), st_7⟩ (fun _ _ h => by obtain ⟨_, _, _, _, h, _⟩ := h; exact h.elim) ?_
    rintro kL1 l_23 w_21 ⟨m_17, x_19, x_20, rfl, H, hl_18, st_22⟩
    refine CW.seq ?_
    refine CW.seq ?_
    refine CW.region ?_
    refine WL.val Wanted.none (Runs.move rfl) ?_
    refine WL.val Wanted.none (Runs.lss rfl rfl rfl) ?_
    refine WL.nil ?_
    refine QW.then_n ?_
    rcases H with ⟨c_24, H⟩ | ⟨c_24, H⟩
    · have h_25 : (decide (x_20 < 32)) = true := (decide_eq_true c_24)
      refine CW.ct rfl h_25 ?_
      refine CW.skip ?_
      refine QW.then_n ?_
      refine CW.seq ?_
      refine CW.block ?_
      refine CW.seq ?_
      refine CW.region ?_
      refine WL.val Wanted.none (Runs.move rfl) ?_
      refine WL.val Wanted.none (Runs.move rfl) ?_
      refine WL.val Wanted.none (Runs.mul rfl rfl rfl) ?_
      obtain ⟨⟨p_26, q_27⟩, H⟩ := H
      refine WL.val Wanted.none (Runs.index_str Tryd.underlying9 rfl rfl p_26 q_27 (j := (IntKind.i64.wrap (2 * x_20)).toNat) (by first | rfl | omega)) ?_
      obtain ⟨r_32, hr_28, H⟩ := H
      refine WL.call Wanted.none ent23 rfl (reliquaryref02_digit.calls w_21 (bn a0 ((IntKind.i64.wrap (2 * x_20)).toNat)) r_32 hr_28) ?_
      rintro _ w_29 ⟨rfl, sc_31⟩
      have st_30 : St w w_29 [.cells B_5 (iv .u8 m_17) 25, .cells B_1 (iv .u8 (List.replicate 32 (0 : Int))) 25] := st_22.call sc_31
      refine ⟨_, rfl, ?_⟩
      refine WL.val Wanted.none (Runs.assign rfl) ?_
      refine WL.nil ?_
      refine QW.then_n ?_
      refine CW.seq ?_
      refine CW.region ?_
      refine WL.val Wanted.none (Runs.move rfl) ?_
      refine WL.val Wanted.none (Runs.move rfl) ?_
      refine WL.val Wanted.none (Runs.mul rfl rfl rfl) ?_
      refine WL.val Wanted.none (Runs.add rfl rfl rfl) ?_
      obtain ⟨⟨p_33, q_34⟩, H⟩ := H
      refine WL.val Wanted.none (Runs.index_str Tryd.underlying9 rfl rfl p_33 q_34 (j := (IntKind.i64.wrap ((IntKind.i64.wrap (2 * x_20)) + 1)).toNat) (by first | rfl | omega)) ?_
      obtain ⟨r_39, hr_35, H⟩ := H
      refine WL.call Wanted.none ent23 rfl (reliquaryref02_digit.calls w_29 (bn a0 ((IntKind.i64.wrap ((IntKind.i64.wrap (2 * x_20)) + 1)).toNat)) r_39 hr_35) ?_
      rintro _ w_36 ⟨rfl, sc_38⟩
      have st_37 : St w w_36 [.cells B_5 (iv .u8 m_17) 25, .cells B_1 (iv .u8 (List.replicate 32 (0 : Int))) 25] := st_30.call sc_38
      refine ⟨_, rfl, ?_⟩
      refine WL.val Wanted.none (Runs.assign rfl) ?_
      refine WL.nil ?_
      refine QW.then_n ?_
      refine CW.seq ?_
      refine CW.seq ?_
      refine CW.region ?_
      refine WL.val Wanted.none (Runs.move rfl) ?_
      refine WL.val Wanted.none (Runs.lss rfl rfl rfl) ?_
      refine WL.val Wanted.none (Runs.move rfl) ?_
      rcases H with ⟨c_40, H⟩ | ⟨c_40, H⟩
      · have h_41 : (decide (r_32 < 0)) = true := (decide_eq_true c_40)
        refine WL.off ?_ ?_; exact Wanted.guard (dj := 29) (by rfl) (evb (by rfl) h_41) (by rfl)
        refine WL.off ?_ ?_; exact Wanted.guard (dj := 29) (by rfl) (evb (by rfl) h_41) (by rfl)
        refine WL.val Wanted.none (Runs.pick_t (evb rfl h_41) rfl) ?_
        refine WL.nil ?_
        refine QW.then_n ?_
        refine CW.ct rfl rfl ?_
        refine CW.seq ?_
        refine CW.region ?_
        obtain ⟨m_42, e_43, H⟩ := H
        refine WL.val Wanted.none (Runs.build_arr (xs := m_42) arr25 rfl rfl (by rw [e_43]; rfl)) ?_
        refine WL.store_arr (i := 1) st_37 rfl arr25 rfl (by rw [iv_length]; exact (List.length_replicate ..)) (by rw [e_43]; rfl) rfl ?_
        intro w_44 st_45
        replace st_45 : St w w_44 [.cells B_5 (iv .u8 m_17) 25, .cells B_1 (iv .u8 m_42) 25] := st_45
        refine WL.val Wanted.none (Runs.assign rfl) ?_
        refine WL.nil ?_
        refine QW.then_n ?_
        refine CW.ret ?_
        refine QW.then_r ?_
        refine QW.blk_r ?_
        refine QW.then_r ?_
        refine QW.then_r ?_
        refine QW.blk_r ?_
        refine QW.then_r ?_
        obtain ⟨rfl, rfl⟩ := H
        exact QW.retc1 rfl arr25 rfl (st_45.blk (i := 1) rfl) (by rw [e_43]; rfl) rfl ⟨(by rw [e_43]; rfl), rfl, st_45.pick [] (by decide)⟩
      · have h_41 : (decide (r_32 < 0)) = false := (decide_eq_false c_40)
        refine WL.on ?_ ?_; exact Wanted.guard (dj := 29) (by rfl) (evb (by rfl) h_41) (by rfl)
        refine WL.val Wanted.none (Runs.move rfl) ?_
        refine WL.on ?_ ?_; exact Wanted.guard (dj := 29) (by rfl) (evb (by rfl) h_41) (by rfl)
        refine WL.val Wanted.none (Runs.lss rfl rfl rfl) ?_
        refine WL.val Wanted.none (Runs.pick_f (evb rfl h_41) rfl) ?_
        refine WL.nil ?_
        refine QW.then_n ?_
        rcases H with ⟨c_47, H⟩ | ⟨c_47, H⟩
        · have h_48 : (decide (r_39 < 0)) = true := (decide_eq_true c_47)
          refine CW.ct rfl h_48 ?_
          refine CW.seq ?_
          refine CW.region ?_
          obtain ⟨m_49, e_50, H⟩ := H
          refine WL.val Wanted.none (Runs.build_arr (xs := m_49) arr25 rfl rfl (by rw [e_50]; rfl)) ?_
          refine WL.store_arr (i := 1) st_37 rfl arr25 rfl (by rw [iv_length]; exact (List.length_replicate ..)) (by rw [e_50]; rfl) rfl ?_
          intro w_51 st_52
          replace st_52 : St w w_51 [.cells B_5 (iv .u8 m_17) 25, .cells B_1 (iv .u8 m_49) 25] := st_52
          refine WL.val Wanted.none (Runs.assign rfl) ?_
          refine WL.nil ?_
          refine QW.then_n ?_
          refine CW.ret ?_
          refine QW.then_r ?_
          refine QW.blk_r ?_
          refine QW.then_r ?_
          refine QW.then_r ?_
          refine QW.blk_r ?_
          refine QW.then_r ?_
          obtain ⟨rfl, rfl⟩ := H
          exact QW.retc1 rfl arr25 rfl (st_52.blk (i := 1) rfl) (by rw [e_50]; rfl) rfl ⟨(by rw [e_50]; rfl), rfl, st_52.pick [] (by decide)⟩
        · have h_48 : (decide (r_39 < 0)) = false := (decide_eq_false c_47)
          refine CW.cf rfl h_48 ?_
          refine CW.skip ?_
          refine QW.then_n ?_
          refine CW.region ?_
          refine WL.val Wanted.none (Runs.move rfl) ?_
          refine WL.val Wanted.none (Runs.move rfl) ?_
          refine WL.val Wanted.none (Runs.mul rfl rfl rfl) ?_
          refine WL.val Wanted.none (Runs.move rfl) ?_
          refine WL.val Wanted.none (Runs.add rfl rfl rfl) ?_
          obtain ⟨x_54, e_55, H⟩ := H
          refine WL.val Wanted.none (Runs.conv Tryd.underlying5 ⟨_, Tryd.underlying3⟩ rfl e_55) ?_
          obtain ⟨⟨p_56, q_57⟩, H⟩ := H
          refine WL.val Wanted.none (Runs.indexAddr_blk arr25 rfl rfl p_56 q_57 (o := (x_20).toNat) (by first | rfl | omega)) ?_
          obtain ⟨m_58, e_59, H⟩ := H
          have hl_62 : m_58.length = 32 := by rw [e_59, List.length_set]; exact hl_18
          refine WL.store_cells (i := 0) st_37 rfl cells5 rfl (by rw [iv_length]; have := hl_18; omega) rfl rfl ?_
          intro w_60 st_61
          have st_61' : St w w_60 [.cells B_5 (iv .u8 m_58) 25, .cells B_1 (iv .u8 (List.replicate 32 (0 : Int))) 25] := by rw [e_59, ← iv_set .u8 m_17 ((x_20).toNat) x_54]; exact st_61
          refine WL.nil ?_
          refine QW.blk_n ?_
          refine QW.then_n ?_
          refine CW.region ?_
          refine WL.val Wanted.none (Runs.move rfl) ?_
          refine WL.val Wanted.none (Runs.add rfl rfl rfl) ?_
          refine WL.val Wanted.none (Runs.assign rfl) ?_
          refine WL.nil ?_
          exact QW.at [(0, .string a0), (2, .pointer (some ⟨B_1, 0, none⟩)), (3, .int .i64 x_19), (4, .pointer (some ⟨B_5, 0, none⟩)), (5, .int .i64 (IntKind.i64.wrap (x_20 + 1)))] ⟨rfl, rfl, rfl, rfl, rfl, trivial⟩ ⟨m_58, x_19, IntKind.i64.wrap (x_20 + 1), rfl, H, hl_62, st_61'⟩
    · have h_25 : (decide (x_20 < 32)) = false := (decide_eq_false c_24)
      refine CW.cf rfl h_25 ?_
      refine CW.exit ?_
      refine QW.then_x ?_
      refine QW.then_x ?_
      refine QW.blk_x ?_
      refine QW.then_n ?_
      refine CW.seq ?_
      refine CW.region ?_
      refine WL.val Wanted.none (Runs.load_arr arr25 rfl (st_22.blk (i := 0) rfl) hl_18) ?_
      refine WL.store_arr (i := 1) st_22 rfl arr25 rfl (by rw [iv_length]; exact (List.length_replicate ..)) hl_18 rfl ?_
      intro w_63 st_64
      replace st_64 : St w w_63 [.cells B_5 (iv .u8 m_17) 25, .cells B_1 (iv .u8 m_17) 25] := st_64
      refine WL.val Wanted.none (Runs.assign rfl) ?_
      refine WL.nil ?_
      refine QW.then_n ?_
      refine CW.sub [(2, .pointer (some ⟨B_1, 0, none⟩)), (3, .int .i64 0)] ⟨rfl, rfl, trivial⟩ ?_
      refine CW.ret ?_
      obtain ⟨rfl, rfl⟩ := H
      exact QW.retc1 rfl arr25 rfl (st_64.blk (i := 1) rfl) hl_18 rfl ⟨hl_18, rfl, st_64.pick [] (by decide)⟩

/-! ### reliquarylaw02_DigestReads: function 4 -/
def reliquarylaw02_DigestReads.rel (a0 : ByteArray) (l1 : List Int)  : Prop := (reliquarylaw02_awake.rel  ∧ (((a0.size : Int) > 300 ∧ True) ∨ (¬ ((a0.size : Int) > 300) ∧ (∃ (r_15 : List Int) (r_17 : Int), digest_Read.rel a0 r_15 r_17 ∧ (∃ (r_29 : List Int) (r_31 : Int), reliquaryref02_Read.rel a0 r_29 r_31 ∧ (∃ (r_43 : ByteArray), digest_Hex.rel l1 r_43 ∧ (∃ (r_48 : List Int) (r_50 : Int), digest_Read.rel r_43 r_48 r_50 ∧ (r_15 = r_29 ∧ (r_17 = r_31 ∧ (r_48 = l1 ∧ r_50 = 0))))))))))
set_option maxHeartbeats 4000000 in
set_option maxRecDepth 100000 in
theorem reliquarylaw02_DigestReads.calls (w : World) (a0 : ByteArray) (l1 : List Int)   (hG0 : Src w (some ⟨0, 0, none⟩) (iv .u32 tab0)) (hl1 : l1.length = 32)  (H : reliquarylaw02_DigestReads.rel a0 l1 ) :
    Calls Tryd.prog 4 #[.string a0, .agg (iv .u8 l1).toArray] w fun e w' => e = .returned (.bool true) ∧ Below w.heap.size w w' := by
  refine CW.enter Tryd.func4 rfl (n := 51) rfl [.string a0, .agg (iv .u8 l1).toArray] (Nat.le_of_ble_eq_true rfl) ?_
  refine CW.sub [(0, .string a0), (1, .agg (iv .u8 l1).toArray)] ⟨rfl, rfl, trivial⟩ ?_
  have st0 : St w w [] := St.refl w
  refine CW.seq ?_
  refine CW.region ?_
  refine WL.box st0 rfl rfl ?_
  intro B_1 w_2 st_3
  replace st_3 : St w w_2 [.cells B_1 (iv .u8 l1) 25] := st_3
  refine WL.val Wanted.none (Runs.assign rfl) ?_
  refine WL.nil ?_
  refine QW.then_n ?_
  refine CW.seq ?_
  refine CW.region ?_
  obtain ⟨hr_5, H⟩ := H
  refine WL.call Wanted.none ent9 rfl (reliquarylaw02_awake.calls w_2 (hG0.ext st_3) hr_5) ?_
  rintro _ w_6 ⟨rfl, sc_8⟩
  have st_7 : St w w_6 [.cells B_1 (iv .u8 l1) 25] := st_3.below sc_8
  refine ⟨_, rfl, ?_⟩
  refine WL.val Wanted.none (Runs.assign rfl) ?_
  refine WL.nil ?_
  refine QW.then_n ?_
  refine CW.seq ?_
  refine CW.seq ?_
  refine CW.region ?_
  refine WL.val Wanted.none (Runs.move rfl) ?_
  refine WL.val Wanted.none (Runs.not rfl rfl) ?_
  refine WL.nil ?_
  refine QW.then_n ?_
  refine CW.cf rfl rfl ?_
  refine CW.skip ?_
  refine QW.then_n ?_
  refine CW.seq ?_
  refine CW.seq ?_
  refine CW.region ?_
  refine WL.val Wanted.none (Runs.move rfl) ?_
  refine WL.val Wanted.none (Runs.len_str Tryd.underlying9 rfl) ?_
  refine WL.val Wanted.none (Runs.gtr rfl rfl rfl) ?_
  refine WL.nil ?_
  refine QW.then_n ?_
  refine CW.sub [(0, .string a0), (3, .pointer (some ⟨B_1, 0, none⟩)), (4, .bool false), (17, .bool (decide ((a0.size : Int) > 300)))] ⟨rfl, rfl, rfl, rfl, trivial⟩ ?_
  rcases H with ⟨c_9, H⟩ | ⟨c_9, H⟩
  · have h_10 : (decide ((a0.size : Int) > 300)) = true := (decide_eq_true c_9)
    refine CW.ct rfl h_10 ?_
    refine CW.seq ?_
    refine CW.region ?_
    refine WL.val Wanted.none (Runs.assign rfl) ?_
    refine WL.nil ?_
    refine QW.then_n ?_
    refine CW.ret ?_
    refine QW.then_r ?_
    exact QW.ret1 rfl rfl ⟨rfl, st_7.ext⟩
  · have h_10 : (decide ((a0.size : Int) > 300)) = false := (decide_eq_false c_9)
    refine CW.cf rfl h_10 ?_
    refine CW.skip ?_
    refine QW.then_n ?_
    refine CW.seq ?_
    refine CW.region ?_
    refine WL.val Wanted.none (Runs.move rfl) ?_
    obtain ⟨r_15, r_17, hr_11, H⟩ := H
    refine WL.call Wanted.none ent14 rfl (digest_Read.calls w_6 a0 r_15 r_17 hr_11) ?_
    rintro _ w_12 ⟨hl_16, rfl, sc_14⟩
    have st_13 : St w w_12 [.cells B_1 (iv .u8 l1) 25] := st_7.call sc_14
    refine ⟨_, rfl, ?_⟩
    refine WL.val Wanted.none (Runs.move rfl) ?_
    refine WL.val Wanted.none (Runs.extract rfl rfl) ?_
    refine WL.val Wanted.none (Runs.extract rfl rfl) ?_
    refine WL.alloc st_13 arr25.zero ?_
    intro B_18 w_19 st_20
    replace st_20 : St w w_19 [.cells B_18 (iv .u8 (List.replicate 32 (0 : Int))) 25, .cells B_1 (iv .u8 l1) 25] := st_20
    refine WL.store_arr (i := 0) st_20 rfl arr25 rfl (by rw [iv_length]; exact (List.length_replicate ..)) hl_16 rfl ?_
    intro w_22 st_23
    replace st_23 : St w w_22 [.cells B_18 (iv .u8 r_15) 25, .cells B_1 (iv .u8 l1) 25] := st_23
    refine WL.val Wanted.none (Runs.assign rfl) ?_
    refine WL.nil ?_
    refine QW.then_n ?_
    refine CW.sub [(0, .string a0), (3, .pointer (some ⟨B_1, 0, none⟩)), (4, .bool false), (6, .pointer (some ⟨B_18, 0, none⟩)), (7, .int .i64 r_17)] ⟨rfl, rfl, rfl, rfl, rfl, trivial⟩ ?_
    refine CW.seq ?_
    refine CW.region ?_
    refine WL.val Wanted.none (Runs.move rfl) ?_
    obtain ⟨r_29, r_31, hr_25, H⟩ := H
    refine WL.call Wanted.none ent15 rfl (reliquaryref02_Read.calls w_22 a0 r_29 r_31 hr_25) ?_
    rintro _ w_26 ⟨hl_30, rfl, sc_28⟩
    have st_27 : St w w_26 [.cells B_18 (iv .u8 r_15) 25, .cells B_1 (iv .u8 l1) 25] := st_23.call sc_28
    refine ⟨_, rfl, ?_⟩
    refine WL.val Wanted.none (Runs.move rfl) ?_
    refine WL.val Wanted.none (Runs.extract rfl rfl) ?_
    refine WL.val Wanted.none (Runs.extract rfl rfl) ?_
    refine WL.alloc st_27 arr25.zero ?_
    intro B_32 w_33 st_34
    replace st_34 : St w w_33 [.cells B_32 (iv .u8 (List.replicate 32 (0 : Int))) 25, .cells B_18 (iv .u8 r_15) 25, .cells B_1 (iv .u8 l1) 25] := st_34
    refine WL.store_arr (i := 0) st_34 rfl arr25 rfl (by rw [iv_length]; exact (List.length_replicate ..)) hl_30 rfl ?_
    intro w_36 st_37
    replace st_37 : St w w_36 [.cells B_32 (iv .u8 r_29) 25, .cells B_18 (iv .u8 r_15) 25, .cells B_1 (iv .u8 l1) 25] := st_37
    refine WL.val Wanted.none (Runs.assign rfl) ?_
    refine WL.nil ?_
    refine QW.then_n ?_
    refine CW.sub [(3, .pointer (some ⟨B_1, 0, none⟩)), (4, .bool false), (6, .pointer (some ⟨B_18, 0, none⟩)), (7, .int .i64 r_17), (8, .pointer (some ⟨B_32, 0, none⟩)), (9, .int .i64 r_31)] ⟨rfl, rfl, rfl, rfl, rfl, rfl, trivial⟩ ?_
    refine CW.seq ?_
    refine CW.region ?_
    refine WL.val Wanted.none (Runs.load_arr arr25 rfl (st_37.blk (i := 2) rfl) hl1) ?_
    obtain ⟨r_43, hr_39, H⟩ := H
    refine WL.call Wanted.none ent12 rfl (digest_Hex.calls w_36 l1 hl1 r_43 hr_39) ?_
    rintro _ w_40 ⟨rfl, sc_42⟩
    have st_41 : St w w_40 [.cells B_32 (iv .u8 r_29) 25, .cells B_18 (iv .u8 r_15) 25, .cells B_1 (iv .u8 l1) 25] := st_37.call sc_42
    refine ⟨_, rfl, ?_⟩
    obtain ⟨r_48, r_50, hr_44, H⟩ := H
    refine WL.call Wanted.none ent14 rfl (digest_Read.calls w_40 r_43 r_48 r_50 hr_44) ?_
    rintro _ w_45 ⟨hl_49, rfl, sc_47⟩
    have st_46 : St w w_45 [.cells B_32 (iv .u8 r_29) 25, .cells B_18 (iv .u8 r_15) 25, .cells B_1 (iv .u8 l1) 25] := st_41.call sc_47
    refine ⟨_, rfl, ?_⟩
    refine WL.val Wanted.none (Runs.move rfl) ?_
    refine WL.val Wanted.none (Runs.extract rfl rfl) ?_
    refine WL.val Wanted.none (Runs.extract rfl rfl) ?_
    refine WL.alloc st_46 arr25.zero ?_
    intro B_51 w_52 st_53
    replace st_53 : St w w_52 [.cells B_51 (iv .u8 (List.replicate 32 (0 : Int))) 25, .cells B_32 (iv .u8 r_29) 25, .cells B_18 (iv .u8 r_15) 25, .cells B_1 (iv .u8 l1) 25] := st_53
    refine WL.store_arr (i := 0) st_53 rfl arr25 rfl (by rw [iv_length]; exact (List.length_replicate ..)) hl_49 rfl ?_
    intro w_55 st_56
    replace st_56 : St w w_55 [.cells B_51 (iv .u8 r_48) 25, .cells B_32 (iv .u8 r_29) 25, .cells B_18 (iv .u8 r_15) 25, .cells B_1 (iv .u8 l1) 25] := st_56
    refine WL.val Wanted.none (Runs.assign rfl) ?_
    refine WL.nil ?_
    refine QW.then_n ?_
    refine CW.sub [(3, .pointer (some ⟨B_1, 0, none⟩)), (4, .bool false), (6, .pointer (some ⟨B_18, 0, none⟩)), (7, .int .i64 r_17), (8, .pointer (some ⟨B_32, 0, none⟩)), (9, .int .i64 r_31), (10, .pointer (some ⟨B_51, 0, none⟩)), (11, .int .i64 r_50)] ⟨rfl, rfl, rfl, rfl, rfl, rfl, rfl, rfl, trivial⟩ ?_
    refine CW.seq ?_
    refine CW.region ?_
    refine WL.val Wanted.none (Runs.load_arr arr25 rfl (st_56.blk (i := 2) rfl) hl_16) ?_
    refine WL.val Wanted.none (Runs.load_arr arr25 rfl (st_56.blk (i := 1) rfl) hl_30) ?_
    refine WL.val Wanted.none (Runs.eql_arr arr25 eqg25 rfl rfl hl_16 hl_30 rfl) ?_
    refine WL.val Wanted.none (Runs.move rfl) ?_
    obtain ⟨c_58, H⟩ := H
    have h_59 : (r_15 == r_29) = true := (beq_iff_eq.mpr c_58)
    refine WL.on ?_ ?_; exact Wanted.guard (dj := 37) (by rfl) (evb (by rfl) h_59) (by rfl)
    refine WL.val Wanted.none (Runs.move rfl) ?_
    refine WL.on ?_ ?_; exact Wanted.guard (dj := 37) (by rfl) (evb (by rfl) h_59) (by rfl)
    refine WL.val Wanted.none (Runs.move rfl) ?_
    refine WL.on ?_ ?_; exact Wanted.guard (dj := 37) (by rfl) (evb (by rfl) h_59) (by rfl)
    refine WL.val Wanted.none (Runs.eql rfl rfl rfl) ?_
    refine WL.val Wanted.none (Runs.pick_t (evb rfl h_59) rfl) ?_
    refine WL.val Wanted.none (Runs.move rfl) ?_
    obtain ⟨c_60, H⟩ := H
    have h_61 : (r_17 == r_31) = true := (beq_iff_eq.mpr c_60)
    refine WL.on ?_ ?_; exact Wanted.guard (dj := 42) (by rfl) (evb (by rfl) h_61) (by rfl)
    refine WL.val Wanted.none (Runs.load_arr arr25 rfl (st_56.blk (i := 0) rfl) hl_49) ?_
    refine WL.on ?_ ?_; exact Wanted.guard (dj := 42) (by rfl) (evb (by rfl) h_61) (by rfl)
    refine WL.val Wanted.none (Runs.load_arr arr25 rfl (st_56.blk (i := 3) rfl) hl1) ?_
    refine WL.on ?_ ?_; exact Wanted.guard (dj := 42) (by rfl) (evb (by rfl) h_61) (by rfl)
    refine WL.val Wanted.none (Runs.eql_arr arr25 eqg25 rfl rfl hl_49 hl1 rfl) ?_
    refine WL.val Wanted.none (Runs.pick_t (evb rfl h_61) rfl) ?_
    refine WL.val Wanted.none (Runs.move rfl) ?_
    obtain ⟨c_62, H⟩ := H
    have h_63 : (r_48 == l1) = true := (beq_iff_eq.mpr c_62)
    refine WL.on ?_ ?_; exact Wanted.guard (dj := 47) (by rfl) (evb (by rfl) h_63) (by rfl)
    refine WL.val Wanted.none (Runs.move rfl) ?_
    refine WL.on ?_ ?_; exact Wanted.guard (dj := 47) (by rfl) (evb (by rfl) h_63) (by rfl)
    refine WL.val Wanted.none (Runs.eql rfl rfl rfl) ?_
    refine WL.val Wanted.none (Runs.pick_t (evb rfl h_63) rfl) ?_
    refine WL.val Wanted.none (Runs.assign rfl) ?_
    refine WL.nil ?_
    refine QW.then_n ?_
    refine CW.sub [(4, .bool (r_50 == 0))] ⟨rfl, trivial⟩ ?_
    refine CW.ret ?_
    have hz : (r_50 == 0) = true := (beq_iff_eq.mpr H)
    exact QW.ret1 rfl (evb rfl hz) ⟨rfl, st_56.ext⟩

/-! ### reliquarylaw02_DigestLengths: function 5 -/
def reliquarylaw02_DigestLengths.L1 (a0 : Int) (a1 : Int) : Nat → (List Int) → Int → Prop
  | 0, _, _ => False
  | kL1 + 1, l_10, x_13 => ((x_13 < (IntKind.i64.wrap (Int.tmod a0 300)) ∧ (∃ m_23 : List Int, m_23 = l_10 ++ [a1] ∧ (m_23.length ≤ 1099511627776 ∧ reliquarylaw02_DigestLengths.L1 a0 a1 kL1 m_23 (IntKind.i64.wrap (x_13 + 1))))) ∨ (¬ (x_13 < (IntKind.i64.wrap (Int.tmod a0 300))) ∧ (∃ (r_36 : List Int), digest_Of.rel l_10 r_36 ∧ (∃ (r_42 : List Int), reliquaryref02_Of.rel l_10 r_42 ∧ r_36 = r_42))))
def reliquarylaw02_DigestLengths.rel (a0 : Int) (a1 : Int)  : Prop := (reliquarylaw02_awake.rel  ∧ (∃ k_ : Nat, reliquarylaw02_DigestLengths.L1 a0 a1 k_ ([] : List Int) 0))
set_option maxHeartbeats 4000000 in
set_option maxRecDepth 100000 in
theorem reliquarylaw02_DigestLengths.calls (w : World) (a0 : Int) (a1 : Int)   (hG0 : Src w (some ⟨0, 0, none⟩) (iv .u32 tab0))  (H : reliquarylaw02_DigestLengths.rel a0 a1 ) :
    Calls Tryd.prog 5 #[.int .u16 a0, .int .u8 a1] w fun e w' => e = .returned (.bool true) ∧ Below w.heap.size w w' := by
  refine CW.enter Tryd.func5 rfl (n := 27) rfl [.int .u16 a0, .int .u8 a1] (Nat.le_of_ble_eq_true rfl) ?_
  refine CW.sub [(0, .int .u16 a0), (1, .int .u8 a1)] ⟨rfl, rfl, trivial⟩ ?_
  have st0 : St w w [] := St.refl w
  refine CW.seq ?_
  refine CW.region ?_
  refine WL.val Wanted.none (Runs.assign rfl) ?_
  refine WL.nil ?_
  refine QW.then_n ?_
  refine CW.seq ?_
  refine CW.region ?_
  obtain ⟨hr_1, H⟩ := H
  refine WL.call Wanted.none ent9 rfl (reliquarylaw02_awake.calls w (hG0.ext st0) hr_1) ?_
  rintro _ w_2 ⟨rfl, sc_4⟩
  have st_3 : St w w_2 [] := st0.below sc_4
  refine ⟨_, rfl, ?_⟩
  refine WL.val Wanted.none (Runs.assign rfl) ?_
  refine WL.nil ?_
  refine QW.then_n ?_
  refine CW.seq ?_
  refine CW.seq ?_
  refine CW.region ?_
  refine WL.val Wanted.none (Runs.move rfl) ?_
  refine WL.val Wanted.none (Runs.not rfl rfl) ?_
  refine WL.nil ?_
  refine QW.then_n ?_
  refine CW.cf rfl rfl ?_
  refine CW.skip ?_
  refine QW.then_n ?_
  refine CW.seq ?_
  refine CW.region ?_
  refine WL.val Wanted.none (Runs.assign rfl) ?_
  refine WL.nil ?_
  refine QW.then_n ?_
  refine CW.seq ?_
  refine CW.seq ?_
  refine CW.region ?_
  refine WL.val Wanted.none (Runs.assign rfl) ?_
  refine WL.nil ?_
  refine QW.then_n ?_
  refine CW.block ?_
  have st_6 := st_3.nil_sl 5 1
  have st_6 : St w w_2 [.sl none 0 0 (iv .u8 ([] : List Int)) 5 1] := st_6
  obtain ⟨k_7, H⟩ := H
  refine CW.sub [(0, .int .u16 a0), (1, .int .u8 a1), (4, .bool false), (6, .slice none 0 0), (7, .int .i64 0)] ⟨rfl, rfl, rfl, rfl, rfl, trivial⟩ ?_
  refine CW.loop (fun kL1 l_ w_ => ∃ (A_8 : Option Addr) (c_9 : Nat) (n_11 : Nat) (l_10 : List Int) (x_13 : Int), l_ = [(0, .int .u16 a0), (1, .int .u8 a1), (4, .bool false), (6, .slice A_8 n_11 c_9), (7, .int .i64 x_13)] ∧ reliquarylaw02_DigestLengths.L1 a0 a1 kL1 l_10 x_13 ∧ (n_11 = l_10.length) ∧ St w w_ [.sl A_8 c_9 n_11 (iv .u8 l_10) 5 1]) (k := k_7) ⟨none, 0, 0, ([] : List Int), 0, rfl, H, rfl, st_6⟩ (fun _ _ h => by obtain ⟨_, _, _, _, _, _, h, _⟩ := h; exact h.elim) ?_
  rintro kL1 l_16 w_14 ⟨A_8, c_9, n_11, l_10, x_13, rfl, H, hn_12, st_15⟩
  refine CW.seq ?_
  refine CW.seq ?_
  refine CW.region ?_
  refine WL.val Wanted.none (Runs.move rfl) ?_
  refine WL.val Wanted.none (Runs.move rfl) ?_
  refine WL.val Wanted.none (Runs.rem rfl rfl (by decide) rfl) ?_
  refine WL.val Wanted.none (Runs.conv Tryd.underlying3 ⟨_, Tryd.underlying33⟩ rfl rfl) ?_
  refine WL.val Wanted.none (Runs.lss rfl rfl rfl) ?_
  refine WL.nil ?_
  refine QW.then_n ?_
  rcases H with ⟨c_17, H⟩ | ⟨c_17, H⟩
  · have h_18 : (decide (x_13 < (IntKind.i64.wrap (Int.tmod a0 300)))) = true := (decide_eq_true c_17)
    refine CW.ct rfl h_18 ?_
    refine CW.skip ?_
    refine QW.then_n ?_
    refine CW.seq ?_
    refine CW.block ?_
    refine CW.region ?_
    refine WL.val Wanted.none (Runs.move rfl) ?_
    refine WL.val Wanted.none (Runs.move rfl) ?_
    refine WL.buildSl [.int .u8 a1] st_15 Tryd.underlying22 elem5 rfl rfl (by decide) (by decide) (by simp [Value.cells]) ?_
    intro B_19 w_20 st_21
    replace st_21 : St w w_20 [.sl (some ⟨B_19, 0, none⟩) 1 1 (iv .u8 [a1]) 5 1, .sl A_8 c_9 n_11 (iv .u8 l_10) 5 1] := st_21
    obtain ⟨m_23, e_24, H⟩ := H
    obtain ⟨z_25, H⟩ := H
    obtain ⟨n_28, hn_31⟩ : ∃ n_ : Nat, n_ = m_23.length := ⟨_, rfl⟩
    refine WL.append (i := 1) Wanted.none st_21 rfl Tryd.underlying22 elem5 rfl rfl (st_21.src_sl (k := 0) rfl) (by rw [iv_length]; exact (Eq.refl _).symm) (one_iv .u8 _) (by decide) (N := n_28) (by rw [hn_31, e_24, List.length_append]; exact congr (congrArg HAdd.hAdd (hn_12)) (rfl)) (by rw [hn_31]; exact z_25) ?_
    intro A_26 c_27 w_29 st_30
    have st_30' : St w w_29 [.sl (some ⟨B_19, 0, none⟩) 1 1 (iv .u8 [a1]) 5 1, .sl A_26 c_27 n_28 (iv .u8 m_23) 5 1] := by rw [e_24, ← iv_append .u8 l_10 [a1]]; exact st_30
    refine WL.val Wanted.none (Runs.assign rfl) ?_
    refine WL.nil ?_
    refine QW.blk_n ?_
    refine QW.then_n ?_
    refine CW.region ?_
    refine WL.val Wanted.none (Runs.move rfl) ?_
    refine WL.val Wanted.none (Runs.add rfl rfl rfl) ?_
    refine WL.val Wanted.none (Runs.assign rfl) ?_
    refine WL.nil ?_
    have st_30'' := st_30'.pick [1] (by decide)
    exact QW.at [(0, .int .u16 a0), (1, .int .u8 a1), (4, .bool false), (6, .slice A_26 n_28 c_27), (7, .int .i64 (IntKind.i64.wrap (x_13 + 1)))] ⟨rfl, rfl, rfl, rfl, rfl, trivial⟩ ⟨A_26, c_27, n_28, m_23, IntKind.i64.wrap (x_13 + 1), rfl, H, hn_31, st_30''⟩
  · have h_18 : (decide (x_13 < (IntKind.i64.wrap (Int.tmod a0 300)))) = false := (decide_eq_false c_17)
    refine CW.cf rfl h_18 ?_
    refine CW.exit ?_
    refine QW.then_x ?_
    refine QW.then_x ?_
    refine QW.blk_x ?_
    refine QW.then_n ?_
    refine CW.sub [(4, .bool false), (6, .slice A_8 n_11 c_9)] ⟨rfl, rfl, trivial⟩ ?_
    refine CW.seq ?_
    refine CW.region ?_
    refine WL.val Wanted.none (Runs.move rfl) ?_
    obtain ⟨r_36, hr_32, H⟩ := H
    refine WL.call Wanted.none ent10 rfl (digest_Of.calls w_14 l_10 A_8 n_11 c_9 (hG0.ext st_15) (st_15.src_sl (k := 0) rfl) (hn_12) (st_15.cap (i := 0) rfl) r_36 hr_32) ?_
    rintro _ w_33 ⟨hl_37, rfl, sc_35⟩
    have st_34 : St w w_33 [.sl A_8 c_9 n_11 (iv .u8 l_10) 5 1] := st_15.call sc_35
    refine ⟨_, rfl, ?_⟩
    refine WL.val Wanted.none (Runs.move rfl) ?_
    obtain ⟨r_42, hr_38, H⟩ := H
    refine WL.call Wanted.none ent11 rfl (reliquaryref02_Of.calls w_33 l_10 A_8 n_11 c_9 (st_34.src_sl (k := 0) rfl) (hn_12) (st_34.cap (i := 0) rfl) r_42 hr_38) ?_
    rintro _ w_39 ⟨hl_43, rfl, sc_41⟩
    have st_40 : St w w_39 [.sl A_8 c_9 n_11 (iv .u8 l_10) 5 1] := st_34.call sc_41
    refine ⟨_, rfl, ?_⟩
    refine WL.val Wanted.none (Runs.eql_arr arr25 eqg25 rfl rfl hl_37 hl_43 rfl) ?_
    refine WL.val Wanted.none (Runs.assign rfl) ?_
    refine WL.nil ?_
    refine QW.then_n ?_
    refine CW.sub [(4, .bool (r_36 == r_42))] ⟨rfl, trivial⟩ ?_
    refine CW.ret ?_
    have hz : (r_36 == r_42) = true := (beq_iff_eq.mpr H)
    exact QW.ret1 rfl (evb rfl hz) ⟨rfl, st_40.ext⟩

end Go.Proofs.YtbanecjdkphooaaDoor
