/- Walks: each function computes what its relation says, and a call of it ends so. Printed by a program of this session (wip/gen). -/
import Derived.Test.YtekpnjhacnkgcaaDoorGx2
namespace Go.Proofs.YtekpnjhacnkgcaaDoor
open Go Go.Kr Go.RowKit
set_option linter.unusedVariables false
set_option linter.unusedSimpArgs false
/-! ### reliquaryref02_Of: function 20 -/
def reliquaryref02_Of.L4 (r0 : List Int) (m_93 : List Int) : Nat → (List Int) → Int → Prop
  | 0, _, _ => False
  | kL4 + 1, m_115, x_117 => ((x_117 < 32 ∧ ((0 ≤ (IntKind.i64.wrap (Int.tdiv x_117 4)) ∧ (IntKind.i64.wrap (Int.tdiv x_117 4)) < (8 : Int)) ∧ (∃ x_125 : Int, x_125 = IntKind.i64.wrap (24 - (IntKind.i64.wrap (8 * (Int.tmod x_117 4)))) ∧ (0 ≤ (IntKind.u64.wrap x_125) ∧ (∃ x_128 : Int, x_128 = shrI .u32 (gn m_93 ((IntKind.i64.wrap (Int.tdiv x_117 4)).toNat)) (IntKind.u64.wrap x_125) ∧ ((0 ≤ x_117 ∧ x_117 < (32 : Int)) ∧ (∃ m_132 : List Int, m_132 = List.set m_115 ((x_117).toNat) (IntKind.u8.wrap x_128) ∧ reliquaryref02_Of.L4 r0 m_93 kL4 m_132 (IntKind.i64.wrap (x_117 + 1))))))))) ∨ (¬ (x_117 < 32) ∧ r0 = m_115))
def reliquaryref02_Of.L3 (r0 : List Int) (l_56 : List Int) : Nat → (List Int) → Int → Prop
  | 0, _, _ => False
  | kL3 + 1, m_93, x_95 => ((x_95 < (l_56.length : Int) ∧ (∃ (r_105 : List Int), reliquaryref02_block.rel m_93 l_56 x_95 r_105 ∧ reliquaryref02_Of.L3 r0 l_56 kL3 r_105 (IntKind.i64.wrap (x_95 + 64)))) ∨ (¬ (x_95 < (l_56.length : Int)) ∧ (∃ k_ : Nat, reliquaryref02_Of.L4 r0 m_93 k_ (List.replicate 32 (0 : Int)) 0)))
def reliquaryref02_Of.L2 (l0 : List Int) (r0 : List Int) : Nat → (List Int) → Int → Prop
  | 0, _, _ => False
  | kL2 + 1, l_56, x_59 => ((x_59 < 8 ∧ (∃ x_65 : Int, x_65 = IntKind.u64.wrap (IntKind.i64.wrap (56 - (IntKind.i64.wrap (8 * x_59)))) ∧ (0 ≤ x_65 ∧ (∃ x_68 : Int, x_68 = shrI .u64 (IntKind.u64.wrap ((IntKind.u64.wrap (l0.length : Int)) * 8)) x_65 ∧ (∃ m_74 : List Int, m_74 = l_56 ++ [IntKind.u8.wrap x_68] ∧ (m_74.length ≤ 1099511627776 ∧ reliquaryref02_Of.L2 l0 r0 kL2 m_74 (IntKind.i64.wrap (x_59 + 1)))))))) ∨ (¬ (x_59 < 8) ∧ (∃ m_83 : List Int, m_83 = [1779033703, 3144134277, 1013904242, 2773480762, 1359893119, 2600822924, 528734635, 1541459225] ∧ (∃ k_ : Nat, reliquaryref02_Of.L3 r0 l_56 k_ m_83 0))))
def reliquaryref02_Of.L1 (l0 : List Int) (r0 : List Int) : Nat → (List Int) → Prop
  | 0, _ => False
  | kL1 + 1, l_32 => (((Int.tmod (l_32.length : Int) 64) ≠ 56 ∧ (∃ m_44 : List Int, m_44 = l_32 ++ [0] ∧ (m_44.length ≤ 1099511627776 ∧ reliquaryref02_Of.L1 l0 r0 kL1 m_44))) ∨ (¬ ((Int.tmod (l_32.length : Int) 64) ≠ 56) ∧ (∃ k_ : Nat, reliquaryref02_Of.L2 l0 r0 k_ l_32 0)))
def reliquaryref02_Of.rel (l0 : List Int) (r0 : List Int) : Prop := (∃ m_7 : List Int, m_7 = ([] : List Int) ++ l0 ∧ (m_7.length ≤ 1099511627776 ∧ (∃ m_20 : List Int, m_20 = m_7 ++ [128] ∧ (m_20.length ≤ 1099511627776 ∧ (∃ k_ : Nat, reliquaryref02_Of.L1 l0 r0 k_ m_20)))))
set_option maxHeartbeats 4000000 in
set_option maxRecDepth 100000 in
theorem reliquaryref02_Of.calls (w : World) (l0 : List Int) (A0 : Option Addr) (n0 : Nat) (c0 : Nat)  (hs0 : Src w A0 (iv .u8 l0)) (hn0 : n0 = l0.length) (hc0 : n0 ≤ c0) (r0 : List Int) (H : reliquaryref02_Of.rel l0 r0) :
    Calls Tryd.prog 20 #[.slice A0 n0 c0] w fun e w' => r0.length = 32 ∧ e = .returned (.agg (iv .u8 r0).toArray) ∧ St w w' [] := by
  refine CW.enter Tryd.func20 rfl (n := 70) rfl [.slice A0 n0 c0] (Nat.le_of_ble_eq_true rfl) ?_
  refine CW.sub [(0, .slice A0 n0 c0)] ⟨rfl, trivial⟩ ?_
  have st0 : St w w [] := St.refl w
  refine CW.seq ?_
  refine CW.region ?_
  refine WL.alloc st0 arr23.zero ?_
  intro B_1 w_2 st_3
  replace st_3 : St w w_2 [.cells B_1 (iv .u8 (List.replicate 32 (0 : Int))) 23] := st_3
  refine WL.nil ?_
  refine QW.then_n ?_
  refine CW.seq ?_
  refine CW.region ?_
  refine WL.val Wanted.none (Runs.assign rfl) ?_
  refine WL.nil ?_
  refine QW.then_n ?_
  refine CW.seq ?_
  refine CW.region ?_
  refine WL.val Wanted.none (Runs.move rfl) ?_
  refine WL.val Wanted.none (Runs.move rfl) ?_
  have st_6 := st_3.nil_sl 5 1
  have st_6 : St w w_2 [.sl none 0 0 (iv .u8 ([] : List Int)) 5 1, .cells B_1 (iv .u8 (List.replicate 32 (0 : Int))) 23] := st_6
  obtain ⟨m_7, e_8, H⟩ := H
  obtain ⟨z_9, H⟩ := H
  obtain ⟨n_12, hn_15⟩ : ∃ n_ : Nat, n_ = m_7.length := ⟨_, rfl⟩
  refine WL.append (i := 0) Wanted.none st_6 rfl Tryd.underlying29 elem5 rfl rfl (hs0.ext st_6) (by rw [iv_length]; exact (hn0).symm) (one_iv .u8 _) (by decide) (N := n_12) (by rw [hn_15, e_8, List.length_append]; exact congr (congrArg HAdd.hAdd (rfl)) (hn0)) (by rw [hn_15]; exact z_9) ?_
  intro A_10 c_11 w_13 st_14
  have st_14' : St w w_13 [.sl A_10 c_11 n_12 (iv .u8 m_7) 5 1, .cells B_1 (iv .u8 (List.replicate 32 (0 : Int))) 23] := by rw [e_8, ← iv_append .u8 ([] : List Int) l0]; exact st_14
  refine WL.val Wanted.none (Runs.assign rfl) ?_
  refine WL.nil ?_
  refine QW.then_n ?_
  refine CW.seq ?_
  refine CW.region ?_
  refine WL.val Wanted.none (Runs.move rfl) ?_
  refine WL.buildSl [.int .u8 128] st_14' Tryd.underlying29 elem5 rfl rfl (by decide) (by decide) (by simp [Value.cells]) ?_
  intro B_16 w_17 st_18
  replace st_18 : St w w_17 [.sl (some ⟨B_16, 0, none⟩) 1 1 (iv .u8 [128]) 5 1, .sl A_10 c_11 n_12 (iv .u8 m_7) 5 1, .cells B_1 (iv .u8 (List.replicate 32 (0 : Int))) 23] := st_18
  obtain ⟨m_20, e_21, H⟩ := H
  obtain ⟨z_22, H⟩ := H
  obtain ⟨n_25, hn_28⟩ : ∃ n_ : Nat, n_ = m_20.length := ⟨_, rfl⟩
  refine WL.append (i := 1) Wanted.none st_18 rfl Tryd.underlying29 elem5 rfl rfl (st_18.src_sl (k := 0) rfl) (by rw [iv_length]; exact (Eq.refl _).symm) (one_iv .u8 _) (by decide) (N := n_25) (by rw [hn_28, e_21, List.length_append]; exact congr (congrArg HAdd.hAdd (hn_15)) (rfl)) (by rw [hn_28]; exact z_22) ?_
  intro A_23 c_24 w_26 st_27
  have st_27' : St w w_26 [.sl (some ⟨B_16, 0, none⟩) 1 1 (iv .u8 [128]) 5 1, .sl A_23 c_24 n_25 (iv .u8 m_20) 5 1, .cells B_1 (iv .u8 (List.replicate 32 (0 : Int))) 23] := by rw [e_21, ← iv_append .u8 m_7 [128]]; exact st_27
  refine WL.val Wanted.none (Runs.assign rfl) ?_
  refine WL.nil ?_
  refine QW.then_n ?_
  refine CW.sub [(0, .slice A0 n0 c0), (2, .pointer (some ⟨B_1, 0, none⟩)), (3, .slice A_23 n_25 c_24)] ⟨rfl, rfl, rfl, trivial⟩ ?_
  refine CW.seq ?_
  refine CW.block ?_
  obtain ⟨k_29, H⟩ := H
  refine CW.sub [(0, .slice A0 n0 c0), (2, .pointer (some ⟨B_1, 0, none⟩)), (3, .slice A_23 n_25 c_24)] ⟨rfl, rfl, rfl, trivial⟩ ?_
  refine CW.loop (fun kL1 l_ w_ => ∃ (A_30 : Option Addr) (c_31 : Nat) (n_33 : Nat) (l_32 : List Int), l_ = [(0, .slice A0 n0 c0), (2, .pointer (some ⟨B_1, 0, none⟩)), (3, .slice A_30 n_33 c_31)] ∧ reliquaryref02_Of.L1 l0 r0 kL1 l_32 ∧ (n_33 = l_32.length) ∧ St w w_ [.sl (some ⟨B_16, 0, none⟩) 1 1 (iv .u8 [128]) 5 1, .sl A_30 c_31 n_33 (iv .u8 l_32) 5 1, .cells B_1 (iv .u8 (List.replicate 32 (0 : Int))) 23]) (k := k_29) ⟨A_23, c_24, n_25, m_20, rfl, H, hn_28, st_27'⟩ (fun _ _ h => by obtain ⟨_, _, _, _, _, h, _⟩ := h; exact h.elim) ?_
  rintro kL1 l_37 w_35 ⟨A_30, c_31, n_33, l_32, rfl, H, hn_34, st_36⟩
  refine CW.seq ?_
  refine CW.seq ?_
  refine CW.region ?_
  refine WL.val Wanted.none (Runs.move rfl) ?_
  refine WL.val Wanted.none (Runs.len_sl Tryd.underlying29 rfl (by rw [hn_34])) ?_
  refine WL.val Wanted.none (Runs.rem rfl rfl (by decide) rfl) ?_
  refine WL.val Wanted.none (Runs.neq rfl rfl rfl) ?_
  refine WL.nil ?_
  refine QW.then_n ?_
  rcases H with ⟨c_38, H⟩ | ⟨c_38, H⟩
  · have h_39 : ((Int.tmod (l_32.length : Int) 64) != 56) = true := (bne_iff_ne.mpr c_38)
    refine CW.ct rfl h_39 ?_
    refine CW.skip ?_
    refine QW.then_n ?_
    refine CW.block ?_
    refine CW.region ?_
    refine WL.val Wanted.none (Runs.move rfl) ?_
    refine WL.buildSl [.int .u8 0] st_36 Tryd.underlying29 elem5 rfl rfl (by decide) (by decide) (by simp [Value.cells]) ?_
    intro B_40 w_41 st_42
    replace st_42 : St w w_41 [.sl (some ⟨B_40, 0, none⟩) 1 1 (iv .u8 [0]) 5 1, .sl (some ⟨B_16, 0, none⟩) 1 1 (iv .u8 [128]) 5 1, .sl A_30 c_31 n_33 (iv .u8 l_32) 5 1, .cells B_1 (iv .u8 (List.replicate 32 (0 : Int))) 23] := st_42
    obtain ⟨m_44, e_45, H⟩ := H
    obtain ⟨z_46, H⟩ := H
    obtain ⟨n_49, hn_52⟩ : ∃ n_ : Nat, n_ = m_44.length := ⟨_, rfl⟩
    refine WL.append (i := 2) Wanted.none st_42 rfl Tryd.underlying29 elem5 rfl rfl (st_42.src_sl (k := 0) rfl) (by rw [iv_length]; exact (Eq.refl _).symm) (one_iv .u8 _) (by decide) (N := n_49) (by rw [hn_52, e_45, List.length_append]; exact congr (congrArg HAdd.hAdd (hn_34)) (rfl)) (by rw [hn_52]; exact z_46) ?_
    intro A_47 c_48 w_50 st_51
    have st_51' : St w w_50 [.sl (some ⟨B_40, 0, none⟩) 1 1 (iv .u8 [0]) 5 1, .sl (some ⟨B_16, 0, none⟩) 1 1 (iv .u8 [128]) 5 1, .sl A_47 c_48 n_49 (iv .u8 m_44) 5 1, .cells B_1 (iv .u8 (List.replicate 32 (0 : Int))) 23] := by rw [e_45, ← iv_append .u8 l_32 [0]]; exact st_51
    refine WL.val Wanted.none (Runs.assign rfl) ?_
    refine WL.nil ?_
    refine QW.blk_n ?_
    have st_51'' := st_51'.pick [1, 2, 3] (by decide)
    exact QW.at [(0, .slice A0 n0 c0), (2, .pointer (some ⟨B_1, 0, none⟩)), (3, .slice A_47 n_49 c_48)] ⟨rfl, rfl, rfl, trivial⟩ ⟨A_47, c_48, n_49, m_44, rfl, H, hn_52, st_51''⟩
  · have h_39 : ((Int.tmod (l_32.length : Int) 64) != 56) = false := (bne_eq_false_iff_eq.mpr (Decidable.not_not.mp c_38))
    refine CW.cf rfl h_39 ?_
    refine CW.exit ?_
    refine QW.then_x ?_
    refine QW.then_x ?_
    refine QW.blk_x ?_
    refine QW.then_n ?_
    refine CW.seq ?_
    refine CW.region ?_
    refine WL.val Wanted.none (Runs.move rfl) ?_
    refine WL.val Wanted.none (Runs.len_sl Tryd.underlying29 rfl (by rw [hn0])) ?_
    refine WL.val Wanted.none (Runs.conv Tryd.underlying24 ⟨_, Tryd.underlying3⟩ rfl rfl) ?_
    refine WL.val Wanted.none (Runs.mul rfl rfl rfl) ?_
    refine WL.val Wanted.none (Runs.assign rfl) ?_
    refine WL.nil ?_
    refine QW.then_n ?_
    refine CW.sub [(2, .pointer (some ⟨B_1, 0, none⟩)), (3, .slice A_30 n_33 c_31), (4, .int .u64 (IntKind.u64.wrap ((IntKind.u64.wrap (l0.length : Int)) * 8)))] ⟨rfl, rfl, rfl, trivial⟩ ?_
    refine CW.seq ?_
    refine CW.seq ?_
    refine CW.region ?_
    refine WL.val Wanted.none (Runs.assign rfl) ?_
    refine WL.nil ?_
    refine QW.then_n ?_
    refine CW.block ?_
    obtain ⟨k_53, H⟩ := H
    refine CW.sub [(2, .pointer (some ⟨B_1, 0, none⟩)), (3, .slice A_30 n_33 c_31), (4, .int .u64 (IntKind.u64.wrap ((IntKind.u64.wrap (l0.length : Int)) * 8))), (5, .int .i64 0)] ⟨rfl, rfl, rfl, rfl, trivial⟩ ?_
    refine CW.loop (fun kL2 l_ w_ => ∃ (A_54 : Option Addr) (c_55 : Nat) (n_57 : Nat) (l_56 : List Int) (x_59 : Int), l_ = [(2, .pointer (some ⟨B_1, 0, none⟩)), (3, .slice A_54 n_57 c_55), (4, .int .u64 (IntKind.u64.wrap ((IntKind.u64.wrap (l0.length : Int)) * 8))), (5, .int .i64 x_59)] ∧ reliquaryref02_Of.L2 l0 r0 kL2 l_56 x_59 ∧ (n_57 = l_56.length) ∧ St w w_ [.sl (some ⟨B_16, 0, none⟩) 1 1 (iv .u8 [128]) 5 1, .sl A_54 c_55 n_57 (iv .u8 l_56) 5 1, .cells B_1 (iv .u8 (List.replicate 32 (0 : Int))) 23]) (k := k_53) ⟨A_30, c_31, n_33, l_32, 0, rfl, H, hn_34, st_36⟩ (fun _ _ h => by obtain ⟨_, _, _, _, _, _, h, _⟩ := h; exact h.elim) ?_
    rintro kL2 l_62 w_60 ⟨A_54, c_55, n_57, l_56, x_59, rfl, H, hn_58, st_61⟩
    refine CW.seq ?_
    refine CW.seq ?_
    refine CW.region ?_
    refine WL.val Wanted.none (Runs.move rfl) ?_
    refine WL.val Wanted.none (Runs.lss rfl rfl rfl) ?_
    refine WL.nil ?_
    refine QW.then_n ?_
    rcases H with ⟨c_63, H⟩ | ⟨c_63, H⟩
    · have h_64 : (decide (x_59 < 8)) = true := (decide_eq_true c_63)
      refine CW.ct rfl h_64 ?_
      refine CW.skip ?_
      refine QW.then_n ?_
      refine CW.seq ?_
      refine CW.block ?_
      refine CW.region ?_
      refine WL.val Wanted.none (Runs.move rfl) ?_
      refine WL.val Wanted.none (Runs.move rfl) ?_
      refine WL.val Wanted.none (Runs.move rfl) ?_
      refine WL.val Wanted.none (Runs.mul rfl rfl rfl) ?_
      refine WL.val Wanted.none (Runs.sub rfl rfl rfl) ?_
      obtain ⟨x_65, e_66, H⟩ := H
      refine WL.val Wanted.none (Runs.conv Tryd.underlying52 ⟨_, Tryd.underlying3⟩ rfl e_66) ?_
      obtain ⟨z_67, H⟩ := H
      obtain ⟨x_68, e_69, H⟩ := H
      refine WL.val Wanted.none (Runs.shr rfl rfl z_67 e_69) ?_
      refine WL.val Wanted.none (Runs.conv Tryd.underlying5 ⟨_, Tryd.underlying24⟩ rfl rfl) ?_
      refine WL.buildSl [.int .u8 (IntKind.u8.wrap x_68)] st_61 Tryd.underlying29 elem5 rfl rfl (by decide) (by decide) (by simp [Value.cells]) ?_
      intro B_70 w_71 st_72
      replace st_72 : St w w_71 [.sl (some ⟨B_70, 0, none⟩) 1 1 (iv .u8 [IntKind.u8.wrap x_68]) 5 1, .sl (some ⟨B_16, 0, none⟩) 1 1 (iv .u8 [128]) 5 1, .sl A_54 c_55 n_57 (iv .u8 l_56) 5 1, .cells B_1 (iv .u8 (List.replicate 32 (0 : Int))) 23] := st_72
      obtain ⟨m_74, e_75, H⟩ := H
      obtain ⟨z_76, H⟩ := H
      obtain ⟨n_79, hn_82⟩ : ∃ n_ : Nat, n_ = m_74.length := ⟨_, rfl⟩
      refine WL.append (i := 2) Wanted.none st_72 rfl Tryd.underlying29 elem5 rfl rfl (st_72.src_sl (k := 0) rfl) (by rw [iv_length]; exact (Eq.refl _).symm) (one_iv .u8 _) (by decide) (N := n_79) (by rw [hn_82, e_75, List.length_append]; exact congr (congrArg HAdd.hAdd (hn_58)) (rfl)) (by rw [hn_82]; exact z_76) ?_
      intro A_77 c_78 w_80 st_81
      have st_81' : St w w_80 [.sl (some ⟨B_70, 0, none⟩) 1 1 (iv .u8 [IntKind.u8.wrap x_68]) 5 1, .sl (some ⟨B_16, 0, none⟩) 1 1 (iv .u8 [128]) 5 1, .sl A_77 c_78 n_79 (iv .u8 m_74) 5 1, .cells B_1 (iv .u8 (List.replicate 32 (0 : Int))) 23] := by rw [e_75, ← iv_append .u8 l_56 [IntKind.u8.wrap x_68]]; exact st_81
      refine WL.val Wanted.none (Runs.assign rfl) ?_
      refine WL.nil ?_
      refine QW.blk_n ?_
      refine QW.then_n ?_
      refine CW.region ?_
      refine WL.val Wanted.none (Runs.move rfl) ?_
      refine WL.val Wanted.none (Runs.add rfl rfl rfl) ?_
      refine WL.val Wanted.none (Runs.assign rfl) ?_
      refine WL.nil ?_
      have st_81'' := st_81'.pick [1, 2, 3] (by decide)
      exact QW.at [(2, .pointer (some ⟨B_1, 0, none⟩)), (3, .slice A_77 n_79 c_78), (4, .int .u64 (IntKind.u64.wrap ((IntKind.u64.wrap (l0.length : Int)) * 8))), (5, .int .i64 (IntKind.i64.wrap (x_59 + 1)))] ⟨rfl, rfl, rfl, rfl, trivial⟩ ⟨A_77, c_78, n_79, m_74, IntKind.i64.wrap (x_59 + 1), rfl, H, hn_82, st_81''⟩
    · have h_64 : (decide (x_59 < 8)) = false := (decide_eq_false c_63)
      refine CW.cf rfl h_64 ?_
      refine CW.exit ?_
      refine QW.then_x ?_
      refine QW.then_x ?_
      refine QW.blk_x ?_
      refine QW.then_n ?_
      refine CW.seq ?_
      refine CW.region ?_
      obtain ⟨m_83, e_84, H⟩ := H
      refine WL.val Wanted.none (Runs.build_arr (xs := m_83) arr61 rfl rfl (by rw [e_84]; rfl)) ?_
      refine WL.alloc st_61 arr61.zero ?_
      intro B_85 w_86 st_87
      replace st_87 : St w w_86 [.cells B_85 (iv .u32 (List.replicate 8 (0 : Int))) 61, .sl (some ⟨B_16, 0, none⟩) 1 1 (iv .u8 [128]) 5 1, .sl A_54 c_55 n_57 (iv .u8 l_56) 5 1, .cells B_1 (iv .u8 (List.replicate 32 (0 : Int))) 23] := st_87
      refine WL.store_arr (i := 0) st_87 rfl arr61 rfl (by rw [iv_length]; exact (List.length_replicate ..)) (by rw [e_84]; rfl) rfl ?_
      intro w_89 st_90
      replace st_90 : St w w_89 [.cells B_85 (iv .u32 m_83) 61, .sl (some ⟨B_16, 0, none⟩) 1 1 (iv .u8 [128]) 5 1, .sl A_54 c_55 n_57 (iv .u8 l_56) 5 1, .cells B_1 (iv .u8 (List.replicate 32 (0 : Int))) 23] := st_90
      refine WL.nil ?_
      refine QW.then_n ?_
      refine CW.seq ?_
      refine CW.seq ?_
      refine CW.region ?_
      refine WL.val Wanted.none (Runs.assign rfl) ?_
      refine WL.nil ?_
      refine QW.then_n ?_
      refine CW.block ?_
      obtain ⟨k_92, H⟩ := H
      refine CW.sub [(2, .pointer (some ⟨B_1, 0, none⟩)), (3, .slice A_54 n_57 c_55), (6, .pointer (some ⟨B_85, 0, none⟩)), (7, .int .i64 0)] ⟨rfl, rfl, rfl, rfl, trivial⟩ ?_
      refine CW.loop (fun kL3 l_ w_ => ∃ (m_93 : List Int) (x_95 : Int), l_ = [(2, .pointer (some ⟨B_1, 0, none⟩)), (3, .slice A_54 n_57 c_55), (6, .pointer (some ⟨B_85, 0, none⟩)), (7, .int .i64 x_95)] ∧ reliquaryref02_Of.L3 r0 l_56 kL3 m_93 x_95 ∧ (m_93.length = 8) ∧ St w w_ [.cells B_85 (iv .u32 m_93) 61, .sl (some ⟨B_16, 0, none⟩) 1 1 (iv .u8 [128]) 5 1, .sl A_54 c_55 n_57 (iv .u8 l_56) 5 1, .cells B_1 (iv .u8 (List.replicate 32 (0 : Int))) 23]) (k := k_92) ⟨m_83, 0, rfl, H, (by rw [e_84]; rfl), st_90⟩ (fun _ _ h => by obtain ⟨_, _, _, h, _⟩ := h; exact h.elim) ?_
      rintro kL3 l_98 w_96 ⟨m_93, x_95, rfl, H, hl_94, st_97⟩
      refine CW.seq ?_
      refine CW.seq ?_
      refine CW.region ?_
      refine WL.val Wanted.none (Runs.move rfl) ?_
      refine WL.val Wanted.none (Runs.move rfl) ?_
      refine WL.val Wanted.none (Runs.len_sl Tryd.underlying29 rfl (by rw [hn_58])) ?_
      refine WL.val Wanted.none (Runs.lss rfl rfl rfl) ?_
      refine WL.nil ?_
      refine QW.then_n ?_
      rcases H with ⟨c_99, H⟩ | ⟨c_99, H⟩
      · have h_100 : (decide (x_95 < (l_56.length : Int))) = true := (decide_eq_true c_99)
        refine CW.ct rfl h_100 ?_
        refine CW.skip ?_
        refine QW.then_n ?_
        refine CW.seq ?_
        refine CW.block ?_
        refine CW.region ?_
        refine WL.val Wanted.none (Runs.load_arr arr61 rfl (st_97.blk (i := 0) rfl) hl_94) ?_
        refine WL.val Wanted.none (Runs.move rfl) ?_
        refine WL.val Wanted.none (Runs.move rfl) ?_
        obtain ⟨r_105, hr_101, H⟩ := H
        refine WL.call Wanted.none ent28 rfl (reliquaryref02_block.calls w_96 m_93 l_56 x_95 A_54 n_57 c_55 hl_94 (st_97.src_sl (k := 2) rfl) (hn_58) (st_97.cap (i := 2) rfl) r_105 hr_101) ?_
        rintro _ w_102 ⟨hl_106, rfl, sc_104⟩
        have st_103 : St w w_102 [.cells B_85 (iv .u32 m_93) 61, .sl (some ⟨B_16, 0, none⟩) 1 1 (iv .u8 [128]) 5 1, .sl A_54 c_55 n_57 (iv .u8 l_56) 5 1, .cells B_1 (iv .u8 (List.replicate 32 (0 : Int))) 23] := st_97.call sc_104
        refine ⟨_, rfl, ?_⟩
        refine WL.store_arr (i := 0) st_103 rfl arr61 rfl (by rw [iv_length]; exact hl_94) hl_106 rfl ?_
        intro w_107 st_108
        replace st_108 : St w w_107 [.cells B_85 (iv .u32 r_105) 61, .sl (some ⟨B_16, 0, none⟩) 1 1 (iv .u8 [128]) 5 1, .sl A_54 c_55 n_57 (iv .u8 l_56) 5 1, .cells B_1 (iv .u8 (List.replicate 32 (0 : Int))) 23] := st_108
        refine WL.nil ?_
        refine QW.blk_n ?_
        refine QW.then_n ?_
        refine CW.region ?_
        refine WL.val Wanted.none (Runs.move rfl) ?_
        refine WL.val Wanted.none (Runs.add rfl rfl rfl) ?_
        refine WL.val Wanted.none (Runs.assign rfl) ?_
        refine WL.nil ?_
        exact QW.at [(2, .pointer (some ⟨B_1, 0, none⟩)), (3, .slice A_54 n_57 c_55), (6, .pointer (some ⟨B_85, 0, none⟩)), (7, .int .i64 (IntKind.i64.wrap (x_95 + 64)))] ⟨rfl, rfl, rfl, rfl, trivial⟩ ⟨r_105, IntKind.i64.wrap (x_95 + 64), rfl, H, hl_106, st_108⟩
      · have h_100 : (decide (x_95 < (l_56.length : Int))) = false := (decide_eq_false c_99)
        refine CW.cf rfl h_100 ?_
        refine CW.exit ?_
        refine QW.then_x ?_
        refine QW.then_x ?_
        refine QW.blk_x ?_
        refine QW.then_n ?_
        refine CW.sub [(2, .pointer (some ⟨B_1, 0, none⟩)), (6, .pointer (some ⟨B_85, 0, none⟩))] ⟨rfl, rfl, trivial⟩ ?_
        refine CW.seq ?_
        refine CW.region ?_
        refine WL.alloc st_97 arr23.zero ?_
        intro B_110 w_111 st_112
        replace st_112 : St w w_111 [.cells B_110 (iv .u8 (List.replicate 32 (0 : Int))) 23, .cells B_85 (iv .u32 m_93) 61, .sl (some ⟨B_16, 0, none⟩) 1 1 (iv .u8 [128]) 5 1, .sl A_54 c_55 n_57 (iv .u8 l_56) 5 1, .cells B_1 (iv .u8 (List.replicate 32 (0 : Int))) 23] := st_112
        refine WL.nil ?_
        refine QW.then_n ?_
        refine CW.seq ?_
        refine CW.seq ?_
        refine CW.region ?_
        refine WL.val Wanted.none (Runs.assign rfl) ?_
        refine WL.nil ?_
        refine QW.then_n ?_
        refine CW.block ?_
        obtain ⟨k_114, H⟩ := H
        refine CW.sub [(2, .pointer (some ⟨B_1, 0, none⟩)), (6, .pointer (some ⟨B_85, 0, none⟩)), (8, .pointer (some ⟨B_110, 0, none⟩)), (9, .int .i64 0)] ⟨rfl, rfl, rfl, rfl, trivial⟩ ?_
        refine CW.loop (fun kL4 l_ w_ => ∃ (m_115 : List Int) (x_117 : Int), l_ = [(2, .pointer (some ⟨B_1, 0, none⟩)), (6, .pointer (some ⟨B_85, 0, none⟩)), (8, .pointer (some ⟨B_110, 0, none⟩)), (9, .int .i64 x_117)] ∧ reliquaryref02_Of.L4 r0 m_93 kL4 m_115 x_117 ∧ (m_115.length = 32) ∧ St w w_ [.cells B_110 (iv .u8 m_115) 23, .cells B_85 (iv .u32 m_93) 61, .sl (some ⟨B_16, 0, none⟩) 1 1 (iv .u8 [128]) 5 1, .sl A_54 c_55 n_57 (iv .u8 l_56) 5 1, .cells B_1 (iv .u8 (List.replicate 32 (0 : Int))) 23]) (k := k_114) ⟨List.replicate 32 (0 : Int), 0, rfl, H, (List.length_replicate ..), st_112⟩ (fun _ _ h => by obtain ⟨_, _, _, h, _⟩ := h; exact h.elim) ?_
        rintro kL4 l_120 w_118 ⟨m_115, x_117, rfl, H, hl_116, st_119⟩
        refine CW.seq ?_
        refine CW.seq ?_
        refine CW.region ?_
        refine WL.val Wanted.none (Runs.move rfl) ?_
        refine WL.val Wanted.none (Runs.lss rfl rfl rfl) ?_
        refine WL.nil ?_
        refine QW.then_n ?_
        rcases H with ⟨c_121, H⟩ | ⟨c_121, H⟩
        · have h_122 : (decide (x_117 < 32)) = true := (decide_eq_true c_121)
          refine CW.ct rfl h_122 ?_
          refine CW.skip ?_
          refine QW.then_n ?_
          refine CW.seq ?_
          refine CW.block ?_
          refine CW.region ?_
          refine WL.val Wanted.none (Runs.move rfl) ?_
          refine WL.val Wanted.none (Runs.move rfl) ?_
          refine WL.val Wanted.none (Runs.quo rfl rfl (by decide) rfl) ?_
          obtain ⟨⟨p_123, q_124⟩, H⟩ := H
          refine WL.val Wanted.none (Runs.indexAddr_blk arr61 rfl rfl p_123 q_124 (o := (IntKind.i64.wrap (Int.tdiv x_117 4)).toNat) (by first | rfl | omega)) ?_
          refine WL.val Wanted.none (Runs.load nagg42 rfl (st_119.cell_iv (i := 1) rfl (by have := hl_94; omega))) ?_
          refine WL.val Wanted.none (Runs.move rfl) ?_
          refine WL.val Wanted.none (Runs.rem rfl rfl (by decide) rfl) ?_
          refine WL.val Wanted.none (Runs.mul rfl rfl rfl) ?_
          obtain ⟨x_125, e_126, H⟩ := H
          refine WL.val Wanted.none (Runs.sub rfl rfl e_126) ?_
          refine WL.val Wanted.none (Runs.conv Tryd.underlying52 ⟨_, Tryd.underlying3⟩ rfl rfl) ?_
          obtain ⟨z_127, H⟩ := H
          obtain ⟨x_128, e_129, H⟩ := H
          refine WL.val Wanted.none (Runs.shr rfl rfl z_127 e_129) ?_
          refine WL.val Wanted.none (Runs.conv Tryd.underlying5 ⟨_, Tryd.underlying42⟩ rfl rfl) ?_
          obtain ⟨⟨p_130, q_131⟩, H⟩ := H
          refine WL.val Wanted.none (Runs.indexAddr_blk arr23 rfl rfl p_130 q_131 (o := (x_117).toNat) (by first | rfl | omega)) ?_
          obtain ⟨m_132, e_133, H⟩ := H
          have hl_136 : m_132.length = 32 := by rw [e_133, List.length_set]; exact hl_116
          refine WL.store_cells (i := 0) st_119 rfl cells5 rfl (by rw [iv_length]; have := hl_116; omega) rfl rfl ?_
          intro w_134 st_135
          have st_135' : St w w_134 [.cells B_110 (iv .u8 m_132) 23, .cells B_85 (iv .u32 m_93) 61, .sl (some ⟨B_16, 0, none⟩) 1 1 (iv .u8 [128]) 5 1, .sl A_54 c_55 n_57 (iv .u8 l_56) 5 1, .cells B_1 (iv .u8 (List.replicate 32 (0 : Int))) 23] := by rw [e_133, ← iv_set .u8 m_115 ((x_117).toNat) (IntKind.u8.wrap x_128)]; exact st_135
          refine WL.nil ?_
          refine QW.blk_n ?_
          refine QW.then_n ?_
          refine CW.region ?_
          refine WL.val Wanted.none (Runs.move rfl) ?_
          refine WL.val Wanted.none (Runs.add rfl rfl rfl) ?_
          refine WL.val Wanted.none (Runs.assign rfl) ?_
          refine WL.nil ?_
          exact QW.at [(2, .pointer (some ⟨B_1, 0, none⟩)), (6, .pointer (some ⟨B_85, 0, none⟩)), (8, .pointer (some ⟨B_110, 0, none⟩)), (9, .int .i64 (IntKind.i64.wrap (x_117 + 1)))] ⟨rfl, rfl, rfl, rfl, trivial⟩ ⟨m_132, IntKind.i64.wrap (x_117 + 1), rfl, H, hl_136, st_135'⟩
        · have h_122 : (decide (x_117 < 32)) = false := (decide_eq_false c_121)
          refine CW.cf rfl h_122 ?_
          refine CW.exit ?_
          refine QW.then_x ?_
          refine QW.then_x ?_
          refine QW.blk_x ?_
          refine QW.then_n ?_
          refine CW.seq ?_
          refine CW.region ?_
          refine WL.val Wanted.none (Runs.load_arr arr23 rfl (st_119.blk (i := 0) rfl) hl_116) ?_
          refine WL.store_arr (i := 4) st_119 rfl arr23 rfl (by rw [iv_length]; exact (List.length_replicate ..)) hl_116 rfl ?_
          intro w_137 st_138
          replace st_138 : St w w_137 [.cells B_110 (iv .u8 m_115) 23, .cells B_85 (iv .u32 m_93) 61, .sl (some ⟨B_16, 0, none⟩) 1 1 (iv .u8 [128]) 5 1, .sl A_54 c_55 n_57 (iv .u8 l_56) 5 1, .cells B_1 (iv .u8 m_115) 23] := st_138
          refine WL.nil ?_
          refine QW.then_n ?_
          refine CW.sub [(2, .pointer (some ⟨B_1, 0, none⟩))] ⟨rfl, trivial⟩ ?_
          refine CW.ret ?_
          obtain rfl := H
          exact QW.retc rfl arr23 rfl (st_138.blk (i := 4) rfl) hl_116 ⟨hl_116, rfl, st_138.pick [] (by decide)⟩

/-! ### reliquaryref10_Digest: function 15 -/
def reliquaryref10_Digest.rel (a0 : Int) (a1 : Int) (a2 : ByteArray) (r0 : List Int) : Prop := (∃ (r_13 : List Int), reliquaryref01_Put.rel (IntKind.u64.wrap a1) 4 r_13 ∧ (∃ m_19 : List Int, m_19 = [IntKind.u8.wrap a0] ++ r_13 ∧ (m_19.length ≤ 1099511627776 ∧ (∃ m_28 : List Int, m_28 = m_19 ++ bl a2 ∧ (m_28.length ≤ 1099511627776 ∧ (∃ (r_41 : List Int), reliquaryref02_Of.rel m_28 r_41 ∧ r0 = r_41))))))
set_option maxHeartbeats 4000000 in
set_option maxRecDepth 100000 in
theorem reliquaryref10_Digest.calls (w : World) (a0 : Int) (a1 : Int) (a2 : ByteArray)    (r0 : List Int) (H : reliquaryref10_Digest.rel a0 a1 a2 r0) :
    Calls Tryd.prog 15 #[.int .i64 a0, .int .u32 a1, .string a2] w fun e w' => r0.length = 32 ∧ e = .returned (.agg (iv .u8 r0).toArray) ∧ St w w' [] := by
  refine CW.enter Tryd.func15 rfl (n := 21) rfl [.int .i64 a0, .int .u32 a1, .string a2] (Nat.le_of_ble_eq_true rfl) ?_
  refine CW.sub [(0, .int .i64 a0), (1, .int .u32 a1), (2, .string a2)] ⟨rfl, rfl, rfl, trivial⟩ ?_
  have st0 : St w w [] := St.refl w
  refine CW.seq ?_
  refine CW.region ?_
  refine WL.alloc st0 arr23.zero ?_
  intro B_1 w_2 st_3
  replace st_3 : St w w_2 [.cells B_1 (iv .u8 (List.replicate 32 (0 : Int))) 23] := st_3
  refine WL.nil ?_
  refine QW.then_n ?_
  refine CW.seq ?_
  refine CW.region ?_
  refine WL.val Wanted.none (Runs.move rfl) ?_
  refine WL.val Wanted.none (Runs.conv Tryd.underlying5 ⟨_, Tryd.underlying3⟩ rfl rfl) ?_
  refine WL.buildSl [.int .u8 (IntKind.u8.wrap a0)] st_3 Tryd.underlying29 elem5 rfl rfl (by decide) (by decide) (by simp [Value.cells]) ?_
  intro B_5 w_6 st_7
  replace st_7 : St w w_6 [.sl (some ⟨B_5, 0, none⟩) 1 1 (iv .u8 [IntKind.u8.wrap a0]) 5 1, .cells B_1 (iv .u8 (List.replicate 32 (0 : Int))) 23] := st_7
  refine WL.val Wanted.none (Runs.assign rfl) ?_
  refine WL.nil ?_
  refine QW.then_n ?_
  refine CW.seq ?_
  refine CW.region ?_
  refine WL.val Wanted.none (Runs.move rfl) ?_
  refine WL.val Wanted.none (Runs.move rfl) ?_
  refine WL.val Wanted.none (Runs.conv Tryd.underlying24 ⟨_, Tryd.underlying42⟩ rfl rfl) ?_
  obtain ⟨r_13, hr_9, H⟩ := H
  refine WL.call Wanted.none ent25 rfl (reliquaryref01_Put.calls w_6 (IntKind.u64.wrap a1) 4 r_13 hr_9) ?_
  rintro _ w_10 ⟨A_14, c_15, n_16, hn_17, rfl, sc_12⟩
  have st_11 : St w w_10 [.sl A_14 c_15 n_16 (iv .u8 r_13) 5 1, .sl (some ⟨B_5, 0, none⟩) 1 1 (iv .u8 [IntKind.u8.wrap a0]) 5 1, .cells B_1 (iv .u8 (List.replicate 32 (0 : Int))) 23] := st_7.call sc_12
  refine ⟨_, rfl, ?_⟩
  obtain ⟨m_19, e_20, H⟩ := H
  obtain ⟨z_21, H⟩ := H
  obtain ⟨n_24, hn_27⟩ : ∃ n_ : Nat, n_ = m_19.length := ⟨_, rfl⟩
  refine WL.append (i := 1) Wanted.none st_11 rfl Tryd.underlying29 elem5 rfl rfl (st_11.src_sl (k := 0) rfl) (by rw [iv_length]; exact (hn_17).symm) (one_iv .u8 _) (by decide) (N := n_24) (by rw [hn_27, e_20, List.length_append]; exact congr (congrArg HAdd.hAdd (rfl)) (hn_17)) (by rw [hn_27]; exact z_21) ?_
  intro A_22 c_23 w_25 st_26
  have st_26' : St w w_25 [.sl A_14 c_15 n_16 (iv .u8 r_13) 5 1, .sl A_22 c_23 n_24 (iv .u8 m_19) 5 1, .cells B_1 (iv .u8 (List.replicate 32 (0 : Int))) 23] := by rw [e_20, ← iv_append .u8 [IntKind.u8.wrap a0] r_13]; exact st_26
  refine WL.val Wanted.none (Runs.assign rfl) ?_
  refine WL.nil ?_
  refine QW.then_n ?_
  refine CW.sub [(2, .string a2), (6, .pointer (some ⟨B_1, 0, none⟩)), (7, .slice A_22 n_24 c_23)] ⟨rfl, rfl, rfl, trivial⟩ ?_
  refine CW.seq ?_
  refine CW.region ?_
  refine WL.val Wanted.none (Runs.move rfl) ?_
  refine WL.val Wanted.none (Runs.move rfl) ?_
  obtain ⟨m_28, e_29, H⟩ := H
  obtain ⟨z_30, H⟩ := H
  obtain ⟨n_33, hn_36⟩ : ∃ n_ : Nat, n_ = m_28.length := ⟨_, rfl⟩
  refine WL.append_str (i := 1) Wanted.none st_26' rfl Tryd.underlying29 Tryd.underlying9 elem5 rfl rfl (N := n_33) (by rw [hn_36, e_29, List.length_append]; exact congr (congrArg HAdd.hAdd (hn_27)) (bl_length _)) (by rw [hn_36]; exact z_30) ?_
  intro A_31 c_32 w_34 st_35
  have st_35' : St w w_34 [.sl A_14 c_15 n_16 (iv .u8 r_13) 5 1, .sl A_31 c_32 n_33 (iv .u8 m_28) 5 1, .cells B_1 (iv .u8 (List.replicate 32 (0 : Int))) 23] := by rw [e_29, ← iv_append .u8 m_19 (bl a2)]; exact st_35
  refine WL.val Wanted.none (Runs.assign rfl) ?_
  refine WL.nil ?_
  refine QW.then_n ?_
  refine CW.seq ?_
  refine CW.region ?_
  refine WL.val Wanted.none (Runs.move rfl) ?_
  obtain ⟨r_41, hr_37, H⟩ := H
  refine WL.call Wanted.none ent20 rfl (reliquaryref02_Of.calls w_34 m_28 A_31 n_33 c_32 (st_35'.src_sl (k := 1) rfl) (hn_36) (st_35'.cap (i := 1) rfl) r_41 hr_37) ?_
  rintro _ w_38 ⟨hl_42, rfl, sc_40⟩
  have st_39 : St w w_38 [.sl A_14 c_15 n_16 (iv .u8 r_13) 5 1, .sl A_31 c_32 n_33 (iv .u8 m_28) 5 1, .cells B_1 (iv .u8 (List.replicate 32 (0 : Int))) 23] := st_35'.call sc_40
  refine ⟨_, rfl, ?_⟩
  refine WL.store_arr (i := 2) st_39 rfl arr23 rfl (by rw [iv_length]; exact (List.length_replicate ..)) hl_42 rfl ?_
  intro w_43 st_44
  replace st_44 : St w w_43 [.sl A_14 c_15 n_16 (iv .u8 r_13) 5 1, .sl A_31 c_32 n_33 (iv .u8 m_28) 5 1, .cells B_1 (iv .u8 r_41) 23] := st_44
  refine WL.nil ?_
  refine QW.then_n ?_
  refine CW.sub [(6, .pointer (some ⟨B_1, 0, none⟩))] ⟨rfl, trivial⟩ ?_
  refine CW.ret ?_
  obtain rfl := H
  exact QW.retc rfl arr23 rfl (st_44.blk (i := 2) rfl) hl_42 ⟨hl_42, rfl, st_44.pick [] (by decide)⟩

/-! ### reliquarylaw10_TreeDigests: function 4 -/
def reliquarylaw10_TreeDigests.rel (a0 : Int) (a1 : Int) (l2 : List Int) (l3 : List Int)  : Prop := (reliquarylaw10_awake.rel  ∧ (((l2.length : Int) > 1000 ∧ True) ∨ (¬ ((l2.length : Int) > 1000) ∧ (∃ (r_15 : List Int), tree_Digest.rel a0 a1 l2 r_15 ∧ (∃ (r_28 : List Int), reliquaryref10_Digest.rel a0 a1 (strOfNums l2) r_28 ∧ (r_15 = r_28 ∧ (∃ (r_43 : Bool), tree_Check.rel r_15 9 a0 a1 l2 r_43 ∧ (r_43 = true ∧ (∃ (r_50 : Bool), tree_Check.rel l3 0 a0 a1 l2 r_50 ∧ r_50 = (l3 == r_28))))))))))
set_option maxHeartbeats 4000000 in
set_option maxRecDepth 100000 in
theorem reliquarylaw10_TreeDigests.calls (w : World) (a0 : Int) (a1 : Int) (l2 : List Int) (l3 : List Int) (A2 : Option Addr) (n2 : Nat) (c2 : Nat)  (hG0 : Src w (some ⟨0, 0, none⟩) (iv .u32 tab0)) (hs2 : Src w A2 (iv .u8 l2)) (hn2 : n2 = l2.length) (hc2 : n2 ≤ c2) (hl3 : l3.length = 32)  (H : reliquarylaw10_TreeDigests.rel a0 a1 l2 l3 ) :
    Calls Tryd.prog 4 #[.int .i64 a0, .int .u32 a1, .slice A2 n2 c2, .agg (iv .u8 l3).toArray] w fun e w' => e = .returned (.bool true) ∧ Below w.heap.size w w' := by
  refine CW.enter Tryd.func4 rfl (n := 50) rfl [.int .i64 a0, .int .u32 a1, .slice A2 n2 c2, .agg (iv .u8 l3).toArray] (Nat.le_of_ble_eq_true rfl) ?_
  refine CW.sub [(0, .int .i64 a0), (1, .int .u32 a1), (2, .slice A2 n2 c2), (3, .agg (iv .u8 l3).toArray)] ⟨rfl, rfl, rfl, rfl, trivial⟩ ?_
  have st0 : St w w [] := St.refl w
  refine CW.seq ?_
  refine CW.region ?_
  refine WL.box st0 rfl rfl ?_
  intro B_1 w_2 st_3
  replace st_3 : St w w_2 [.cells B_1 (iv .u8 l3) 23] := st_3
  refine WL.val Wanted.none (Runs.assign rfl) ?_
  refine WL.nil ?_
  refine QW.then_n ?_
  refine CW.seq ?_
  refine CW.region ?_
  obtain ⟨hr_5, H⟩ := H
  refine WL.call Wanted.none ent8 rfl (reliquarylaw10_awake.calls w_2 (hG0.ext st_3) hr_5) ?_
  rintro _ w_6 ⟨rfl, sc_8⟩
  have st_7 : St w w_6 [.cells B_1 (iv .u8 l3) 23] := st_3.below sc_8
  refine ⟨_, rfl, ?_⟩
  refine WL.val Wanted.none (Runs.assign rfl) ?_
  refine WL.nil ?_
  refine QW.then_n ?_
  refine CW.seq ?_
  refine CW.seq ?_
  refine CW.region ?_
  refine WL.val Wanted.none (Runs.move rfl) ?_
  refine WL.val Wanted.none (Runs.not rfl rfl) ?_
  refine WL.nil ?_
  refine QW.then_n ?_
  refine CW.cf rfl rfl ?_
  refine CW.skip ?_
  refine QW.then_n ?_
  refine CW.seq ?_
  refine CW.seq ?_
  refine CW.region ?_
  refine WL.val Wanted.none (Runs.move rfl) ?_
  refine WL.val Wanted.none (Runs.len_sl Tryd.underlying29 rfl (by rw [hn2])) ?_
  refine WL.val Wanted.none (Runs.gtr rfl rfl rfl) ?_
  refine WL.nil ?_
  refine QW.then_n ?_
  refine CW.sub [(0, .int .i64 a0), (1, .int .u32 a1), (2, .slice A2 n2 c2), (7, .pointer (some ⟨B_1, 0, none⟩)), (8, .bool false), (17, .bool (decide ((l2.length : Int) > 1000)))] ⟨rfl, rfl, rfl, rfl, rfl, rfl, trivial⟩ ?_
  rcases H with ⟨c_9, H⟩ | ⟨c_9, H⟩
  · have h_10 : (decide ((l2.length : Int) > 1000)) = true := (decide_eq_true c_9)
    refine CW.ct rfl h_10 ?_
    refine CW.seq ?_
    refine CW.region ?_
    refine WL.val Wanted.none (Runs.assign rfl) ?_
    refine WL.nil ?_
    refine QW.then_n ?_
    refine CW.ret ?_
    refine QW.then_r ?_
    exact QW.ret1 rfl rfl ⟨rfl, st_7.ext⟩
  · have h_10 : (decide ((l2.length : Int) > 1000)) = false := (decide_eq_false c_9)
    refine CW.cf rfl h_10 ?_
    refine CW.skip ?_
    refine QW.then_n ?_
    refine CW.seq ?_
    refine CW.region ?_
    refine WL.val Wanted.none (Runs.move rfl) ?_
    refine WL.val Wanted.none (Runs.move rfl) ?_
    refine WL.val Wanted.none (Runs.move rfl) ?_
    obtain ⟨r_15, hr_11, H⟩ := H
    refine WL.call Wanted.none ent14 rfl (tree_Digest.calls w_6 a0 a1 l2 A2 n2 c2 (hG0.ext st_7) (hs2.ext st_7) (hn2) (hc2) r_15 hr_11) ?_
    rintro _ w_12 ⟨hl_16, rfl, sc_14⟩
    have st_13 : St w w_12 [.cells B_1 (iv .u8 l3) 23] := st_7.call sc_14
    refine ⟨_, rfl, ?_⟩
    refine WL.alloc st_13 arr23.zero ?_
    intro B_17 w_18 st_19
    replace st_19 : St w w_18 [.cells B_17 (iv .u8 (List.replicate 32 (0 : Int))) 23, .cells B_1 (iv .u8 l3) 23] := st_19
    refine WL.store_arr (i := 0) st_19 rfl arr23 rfl (by rw [iv_length]; exact (List.length_replicate ..)) hl_16 rfl ?_
    intro w_21 st_22
    replace st_22 : St w w_21 [.cells B_17 (iv .u8 r_15) 23, .cells B_1 (iv .u8 l3) 23] := st_22
    refine WL.nil ?_
    refine QW.then_n ?_
    refine CW.seq ?_
    refine CW.region ?_
    refine WL.val Wanted.none (Runs.move rfl) ?_
    refine WL.val Wanted.none (Runs.move rfl) ?_
    refine WL.val Wanted.none (Runs.move rfl) ?_
    refine WL.val Wanted.none (Runs.bytes_str Tryd.underlying29 Tryd.underlying5 Tryd.underlying9 rfl (hs2.ext st_22) hn2) ?_
    obtain ⟨r_28, hr_24, H⟩ := H
    refine WL.call Wanted.none ent15 rfl (reliquaryref10_Digest.calls w_21 a0 a1 (strOfNums l2) r_28 hr_24) ?_
    rintro _ w_25 ⟨hl_29, rfl, sc_27⟩
    have st_26 : St w w_25 [.cells B_17 (iv .u8 r_15) 23, .cells B_1 (iv .u8 l3) 23] := st_22.call sc_27
    refine ⟨_, rfl, ?_⟩
    refine WL.alloc st_26 arr23.zero ?_
    intro B_30 w_31 st_32
    replace st_32 : St w w_31 [.cells B_30 (iv .u8 (List.replicate 32 (0 : Int))) 23, .cells B_17 (iv .u8 r_15) 23, .cells B_1 (iv .u8 l3) 23] := st_32
    refine WL.store_arr (i := 0) st_32 rfl arr23 rfl (by rw [iv_length]; exact (List.length_replicate ..)) hl_29 rfl ?_
    intro w_34 st_35
    replace st_35 : St w w_34 [.cells B_30 (iv .u8 r_28) 23, .cells B_17 (iv .u8 r_15) 23, .cells B_1 (iv .u8 l3) 23] := st_35
    refine WL.nil ?_
    refine QW.then_n ?_
    refine CW.sub [(0, .int .i64 a0), (1, .int .u32 a1), (2, .slice A2 n2 c2), (7, .pointer (some ⟨B_1, 0, none⟩)), (8, .bool false), (10, .pointer (some ⟨B_17, 0, none⟩)), (11, .pointer (some ⟨B_30, 0, none⟩))] ⟨rfl, rfl, rfl, rfl, rfl, rfl, rfl, trivial⟩ ?_
    refine CW.seq ?_
    refine CW.region_qa wide (by kernel_rfl) st_35 ?_
    refine HL.val Wanted.none (fun wq sq => (Runs.load_arr arr23 rfl (sq.blk (i := 1) rfl) hl_16)) ?_
    refine HL.val Wanted.none (fun wq sq => (Runs.load_arr arr23 rfl (sq.blk (i := 0) rfl) hl_29)) ?_
    refine HL.val Wanted.none (fun wq sq => (Runs.eql_arr arr23 eqg23 rfl rfl hl_16 hl_29 rfl)) ?_
    refine HL.val Wanted.none (fun wq sq => (Runs.move rfl)) ?_
    obtain ⟨c_37, H⟩ := H
    have h_38 : (r_15 == r_28) = true := (beq_iff_eq.mpr c_37)
    refine HL.on ?_ ?_; exact Wanted.guard (dj := 30) (by rfl) (evb (by rfl) h_38) (by rfl)
    refine HL.val Wanted.none (fun wq sq => (Runs.load_arr arr23 rfl (sq.blk (i := 1) rfl) hl_16)) ?_
    refine HL.on ?_ ?_; exact Wanted.guard (dj := 30) (by rfl) (evb (by rfl) h_38) (by rfl)
    refine HL.val Wanted.none (fun wq sq => (Runs.build_struct (ps := [(0, 32), (32, 1)]) (cs := (iv .u8 r_15 ++ ([.int .u64 9] : List Value))) plc26 zero26 rfl (by refine Fills.cons (o := 0) (ms := (iv .u8 r_15)) (show _ = some (0, (iv .u8 r_15).length) by rw [show (iv .u8 r_15).length = 32 from (by first | rfl | simp only [List.length_append, List.length_cons, List.length_nil, iv_length, hl_16])] <;> rfl) rfl (by have h1_ : (iv .u8 r_15).length = 32 := (by first | rfl | simp only [List.length_append, List.length_cons, List.length_nil, iv_length, hl_16]); have h2_ : (iv .u8 (List.replicate 32 (0 : Int)) ++ ([.int .u64 0] : List Value)).length = 33 := (by first | rfl | simp only [List.length_append, List.length_cons, List.length_nil, iv_length, List.length_replicate]); omega) ?_; rw [show layV (iv .u8 (List.replicate 32 (0 : Int)) ++ ([.int .u64 0] : List Value)) 0 (iv .u8 r_15) = (iv .u8 r_15 ++ ([.int .u64 0] : List Value)) from (layV_mid (pre := (([] : List Value))) (mid := (iv .u8 (List.replicate 32 (0 : Int)))) (post := (([.int .u64 0] : List Value))) (by first | rfl | simp only [List.append_assoc, List.append_nil, List.nil_append, List.cons_append]) (by first | rfl | simp only [List.length_append, List.length_cons, List.length_nil, iv_length]) (Eq.trans (b := 32) (by first | rfl | simp only [List.length_append, List.length_cons, List.length_nil, iv_length, List.length_replicate]) (Eq.symm (by first | rfl | simp only [List.length_append, List.length_cons, List.length_nil, iv_length, hl_16])))).trans (by first | rfl | simp only [List.append_assoc, List.append_nil, List.nil_append, List.cons_append])]; refine Fills.cons (o := 32) (ms := (([.int .u64 9] : List Value))) (show _ = some (32, (([.int .u64 9] : List Value)).length) by rw [show (([.int .u64 9] : List Value)).length = 1 from (by first | rfl | simp only [List.length_append, List.length_cons, List.length_nil, iv_length])] <;> rfl) rfl (by have h1_ : (([.int .u64 9] : List Value)).length = 1 := (by first | rfl | simp only [List.length_append, List.length_cons, List.length_nil, iv_length]); have h2_ : (iv .u8 r_15 ++ ([.int .u64 0] : List Value)).length = 33 := (by first | rfl | simp only [List.length_append, List.length_cons, List.length_nil, iv_length, hl_16]); omega) ?_; rw [show layV (iv .u8 r_15 ++ ([.int .u64 0] : List Value)) 32 (([.int .u64 9] : List Value)) = (iv .u8 r_15 ++ ([.int .u64 9] : List Value)) from (layV_mid (pre := (iv .u8 r_15)) (mid := (([.int .u64 0] : List Value))) (post := (([] : List Value))) (by first | rfl | simp only [List.append_assoc, List.append_nil, List.nil_append, List.cons_append]) (by first | rfl | simp only [List.length_append, List.length_cons, List.length_nil, iv_length, hl_16]) (Eq.trans (b := 1) (by first | rfl | simp only [List.length_append, List.length_cons, List.length_nil, iv_length]) (Eq.symm (by first | rfl | simp only [List.length_append, List.length_cons, List.length_nil, iv_length])))).trans (by first | rfl | simp only [List.append_assoc, List.append_nil, List.nil_append, List.cons_append])]; exact Fills.nil))) ?_
    refine HL.on ?_ ?_; exact Wanted.guard (dj := 30) (by rfl) (evb (by rfl) h_38) (by rfl)
    refine HL.val Wanted.none (fun wq sq => (Runs.move rfl)) ?_
    refine HL.on ?_ ?_; exact Wanted.guard (dj := 30) (by rfl) (evb (by rfl) h_38) (by rfl)
    refine HL.val Wanted.none (fun wq sq => (Runs.move rfl)) ?_
    refine HL.on ?_ ?_; exact Wanted.guard (dj := 30) (by rfl) (evb (by rfl) h_38) (by rfl)
    refine HL.val Wanted.none (fun wq sq => (Runs.move rfl)) ?_
    refine HL.on ?_ ?_; exact Wanted.guard (dj := 30) (by rfl) (evb (by rfl) h_38) (by rfl)
    obtain ⟨r_43, hr_39, H⟩ := H
    refine HL.call Wanted.none ent16 rfl (fun wq sq => (tree_Check.calls wq r_15 9 a0 a1 l2 A2 n2 c2 (hG0.ext sq) hl_16 (hs2.ext sq) (hn2) (hc2) r_43 hr_39).mono (by rintro _ _ ⟨rfl, sc⟩; exact ⟨rfl, sq.call sc⟩)) ?_
    refine HL.val Wanted.none (fun wq sq => (Runs.pick_t (evb rfl h_38) rfl)) ?_
    refine HL.val Wanted.none (fun wq sq => (Runs.move rfl)) ?_
    obtain ⟨c_44, H⟩ := H
    have h_45 : r_43 = true := c_44
    refine HL.on ?_ ?_; exact Wanted.guard (dj := 38) (by rfl) (evb (by rfl) h_45) (by rfl)
    refine HL.val Wanted.none (fun wq sq => (Runs.load_arr arr23 rfl (sq.blk (i := 2) rfl) hl3)) ?_
    refine HL.on ?_ ?_; exact Wanted.guard (dj := 38) (by rfl) (evb (by rfl) h_45) (by rfl)
    refine HL.val Wanted.none (fun wq sq => (Runs.build_struct (ps := [(0, 32), (32, 1)]) (cs := (iv .u8 l3 ++ ([.int .u64 0] : List Value))) plc26 zero26 rfl (by refine Fills.cons (o := 0) (ms := (iv .u8 l3)) (show _ = some (0, (iv .u8 l3).length) by rw [show (iv .u8 l3).length = 32 from (by first | rfl | simp only [List.length_append, List.length_cons, List.length_nil, iv_length, hl3])] <;> rfl) rfl (by have h1_ : (iv .u8 l3).length = 32 := (by first | rfl | simp only [List.length_append, List.length_cons, List.length_nil, iv_length, hl3]); have h2_ : (iv .u8 (List.replicate 32 (0 : Int)) ++ ([.int .u64 0] : List Value)).length = 33 := (by first | rfl | simp only [List.length_append, List.length_cons, List.length_nil, iv_length, List.length_replicate]); omega) ?_; rw [show layV (iv .u8 (List.replicate 32 (0 : Int)) ++ ([.int .u64 0] : List Value)) 0 (iv .u8 l3) = (iv .u8 l3 ++ ([.int .u64 0] : List Value)) from (layV_mid (pre := (([] : List Value))) (mid := (iv .u8 (List.replicate 32 (0 : Int)))) (post := (([.int .u64 0] : List Value))) (by first | rfl | simp only [List.append_assoc, List.append_nil, List.nil_append, List.cons_append]) (by first | rfl | simp only [List.length_append, List.length_cons, List.length_nil, iv_length]) (Eq.trans (b := 32) (by first | rfl | simp only [List.length_append, List.length_cons, List.length_nil, iv_length, List.length_replicate]) (Eq.symm (by first | rfl | simp only [List.length_append, List.length_cons, List.length_nil, iv_length, hl3])))).trans (by first | rfl | simp only [List.append_assoc, List.append_nil, List.nil_append, List.cons_append])]; exact Fills.nil))) ?_
    refine HL.on ?_ ?_; exact Wanted.guard (dj := 38) (by rfl) (evb (by rfl) h_45) (by rfl)
    refine HL.val Wanted.none (fun wq sq => (Runs.move rfl)) ?_
    refine HL.on ?_ ?_; exact Wanted.guard (dj := 38) (by rfl) (evb (by rfl) h_45) (by rfl)
    refine HL.val Wanted.none (fun wq sq => (Runs.move rfl)) ?_
    refine HL.on ?_ ?_; exact Wanted.guard (dj := 38) (by rfl) (evb (by rfl) h_45) (by rfl)
    refine HL.val Wanted.none (fun wq sq => (Runs.move rfl)) ?_
    refine HL.on ?_ ?_; exact Wanted.guard (dj := 38) (by rfl) (evb (by rfl) h_45) (by rfl)
    obtain ⟨r_50, hr_46, H⟩ := H
    refine HL.call Wanted.none ent16 rfl (fun wq sq => (tree_Check.calls wq l3 0 a0 a1 l2 A2 n2 c2 (hG0.ext sq) hl3 (hs2.ext sq) (hn2) (hc2) r_50 hr_46).mono (by rintro _ _ ⟨rfl, sc⟩; exact ⟨rfl, sq.call sc⟩)) ?_
    refine HL.on ?_ ?_; exact Wanted.guard (dj := 38) (by rfl) (evb (by rfl) h_45) (by rfl)
    refine HL.val Wanted.none (fun wq sq => (Runs.load_arr arr23 rfl (sq.blk (i := 2) rfl) hl3)) ?_
    refine HL.on ?_ ?_; exact Wanted.guard (dj := 38) (by rfl) (evb (by rfl) h_45) (by rfl)
    refine HL.val Wanted.none (fun wq sq => (Runs.load_arr arr23 rfl (sq.blk (i := 0) rfl) hl_29)) ?_
    refine HL.on ?_ ?_; exact Wanted.guard (dj := 38) (by rfl) (evb (by rfl) h_45) (by rfl)
    refine HL.val Wanted.none (fun wq sq => (Runs.eql_arr arr23 eqg23 rfl rfl hl3 hl_29 rfl)) ?_
    refine HL.on ?_ ?_; exact Wanted.guard (dj := 38) (by rfl) (evb (by rfl) h_45) (by rfl)
    refine HL.val Wanted.none (fun wq sq => (Runs.eqb Tryd.underlying4 rfl rfl rfl)) ?_
    refine HL.val Wanted.none (fun wq sq => (Runs.pick_t (evb rfl h_45) rfl)) ?_
    refine HL.val Wanted.none (fun wq sq => (Runs.assign rfl)) ?_
    refine HL.nil (fun w_51 st_52 => ?_)
    refine WL.nil ?_
    refine QW.then_n ?_
    refine CW.sub [(8, .bool (r_50 == (l3 == r_28)))] ⟨rfl, trivial⟩ ?_
    refine CW.ret ?_
    have hz : (r_50 == (l3 == r_28)) = true := (beq_iff_eq.mpr H)
    exact QW.ret1 rfl (evb rfl hz) ⟨rfl, st_52.ext⟩

/-! ### reliquarylaw10_TreeStamps: function 5 -/
def reliquarylaw10_TreeStamps.rel (a0 : Int) (a1 : Int)  : Prop := (reliquarylaw10_awake.rel  ∧ (∃ (r_9 : Int) (r_10 : Int), tree_Stamp.rel a0 a1 r_9 r_10 ∧ ((a0 = 0 ∧ (r_10 = 1 ∧ r_9 = 0)) ∨ (¬ (a0 = 0) ∧ ((a0 ≥ 9223372036854775808 ∧ (r_10 = 1 ∧ r_9 = 0)) ∨ (¬ (a0 ≥ 9223372036854775808) ∧ ((a1 < 0 ∧ (r_10 = 1 ∧ r_9 = 0)) ∨ (¬ (a1 < 0) ∧ ((a1 > 1 ∧ (r_10 = 1 ∧ r_9 = 0)) ∨ (¬ (a1 > 1) ∧ (r_10 = 0 ∧ (∃ (r_33 : Int), tree_Version.rel r_9 r_33 ∧ (r_33 = a0 ∧ (∃ (r_40 : Int), tree_Side.rel r_9 r_40 ∧ (r_40 = a1 ∧ r_9 > 1)))))))))))))))
set_option maxHeartbeats 4000000 in
set_option maxRecDepth 100000 in
theorem reliquarylaw10_TreeStamps.calls (w : World) (a0 : Int) (a1 : Int)   (hG0 : Src w (some ⟨0, 0, none⟩) (iv .u32 tab0))  (H : reliquarylaw10_TreeStamps.rel a0 a1 ) :
    Calls Tryd.prog 5 #[.int .u64 a0, .int .i64 a1] w fun e w' => e = .returned (.bool true) ∧ Below w.heap.size w w' := by
  refine CW.enter Tryd.func5 rfl (n := 55) rfl [.int .u64 a0, .int .i64 a1] (Nat.le_of_ble_eq_true rfl) ?_
  refine CW.sub [(0, .int .u64 a0), (1, .int .i64 a1)] ⟨rfl, rfl, trivial⟩ ?_
  have st0 : St w w [] := St.refl w
  refine CW.seq ?_
  refine CW.region ?_
  refine WL.val Wanted.none (Runs.assign rfl) ?_
  refine WL.nil ?_
  refine QW.then_n ?_
  refine CW.seq ?_
  refine CW.region ?_
  obtain ⟨hr_1, H⟩ := H
  refine WL.call Wanted.none ent8 rfl (reliquarylaw10_awake.calls w (hG0.ext st0) hr_1) ?_
  rintro _ w_2 ⟨rfl, sc_4⟩
  have st_3 : St w w_2 [] := st0.below sc_4
  refine ⟨_, rfl, ?_⟩
  refine WL.val Wanted.none (Runs.assign rfl) ?_
  refine WL.nil ?_
  refine QW.then_n ?_
  refine CW.seq ?_
  refine CW.seq ?_
  refine CW.region ?_
  refine WL.val Wanted.none (Runs.move rfl) ?_
  refine WL.val Wanted.none (Runs.not rfl rfl) ?_
  refine WL.nil ?_
  refine QW.then_n ?_
  refine CW.cf rfl rfl ?_
  refine CW.skip ?_
  refine QW.then_n ?_
  refine CW.seq ?_
  refine CW.region ?_
  refine WL.val Wanted.none (Runs.move rfl) ?_
  refine WL.val Wanted.none (Runs.move rfl) ?_
  obtain ⟨r_9, r_10, hr_5, H⟩ := H
  refine WL.call Wanted.none ent17 rfl (tree_Stamp.calls w_2 a0 a1 r_9 r_10 hr_5) ?_
  rintro _ w_6 ⟨rfl, sc_8⟩
  have st_7 : St w w_6 [] := st_3.call sc_8
  refine ⟨_, rfl, ?_⟩
  refine WL.val Wanted.none (Runs.move rfl) ?_
  refine WL.val Wanted.none (Runs.extract rfl rfl) ?_
  refine WL.val Wanted.none (Runs.extract rfl rfl) ?_
  refine WL.val Wanted.none (Runs.assign rfl) ?_
  refine WL.val Wanted.none (Runs.assign rfl) ?_
  refine WL.nil ?_
  refine QW.then_n ?_
  refine CW.sub [(0, .int .u64 a0), (1, .int .i64 a1), (4, .bool false), (6, .int .u64 r_9), (7, .int .i64 r_10)] ⟨rfl, rfl, rfl, rfl, rfl, trivial⟩ ?_
  refine CW.seq ?_
  refine CW.seq ?_
  refine CW.region ?_
  refine WL.val Wanted.none (Runs.move rfl) ?_
  refine WL.val Wanted.none (Runs.eql rfl rfl rfl) ?_
  refine WL.val Wanted.none (Runs.move rfl) ?_
  rcases H with ⟨c_11, H⟩ | ⟨c_11, H⟩
  · have h_12 : (a0 == 0) = true := (beq_iff_eq.mpr c_11)
    refine WL.off ?_ ?_; exact Wanted.guard (dj := 19) (by rfl) (evb (by rfl) h_12) (by rfl)
    refine WL.off ?_ ?_; exact Wanted.guard (dj := 19) (by rfl) (evb (by rfl) h_12) (by rfl)
    refine WL.val Wanted.none (Runs.pick_t (evb rfl h_12) rfl) ?_
    refine WL.val Wanted.none (Runs.move rfl) ?_
    refine WL.off ?_ ?_; exact Wanted.guard (dj := 23) (by rfl) (by rfl) (by rfl)
    refine WL.off ?_ ?_; exact Wanted.guard (dj := 23) (by rfl) (by rfl) (by rfl)
    refine WL.val Wanted.none (Runs.pick_t rfl rfl) ?_
    refine WL.val Wanted.none (Runs.move rfl) ?_
    refine WL.off ?_ ?_; exact Wanted.guard (dj := 27) (by rfl) (by rfl) (by rfl)
    refine WL.off ?_ ?_; exact Wanted.guard (dj := 27) (by rfl) (by rfl) (by rfl)
    refine WL.val Wanted.none (Runs.pick_t rfl rfl) ?_
    refine WL.nil ?_
    refine QW.then_n ?_
    refine CW.sub [(0, .int .u64 a0), (1, .int .i64 a1), (4, .bool false), (6, .int .u64 r_9), (7, .int .i64 r_10), (30, .bool true)] ⟨rfl, rfl, rfl, rfl, rfl, rfl, trivial⟩ ?_
    refine CW.ct rfl rfl ?_
    refine CW.seq ?_
    refine CW.region ?_
    refine WL.val Wanted.none (Runs.move rfl) ?_
    refine WL.val Wanted.none (Runs.eql rfl rfl rfl) ?_
    refine WL.val Wanted.none (Runs.move rfl) ?_
    obtain ⟨c_13, H⟩ := H
    have h_14 : (r_10 == 1) = true := (beq_iff_eq.mpr c_13)
    refine WL.on ?_ ?_; exact Wanted.guard (dj := 33) (by rfl) (evb (by rfl) h_14) (by rfl)
    refine WL.val Wanted.none (Runs.move rfl) ?_
    refine WL.on ?_ ?_; exact Wanted.guard (dj := 33) (by rfl) (evb (by rfl) h_14) (by rfl)
    refine WL.val Wanted.none (Runs.eql rfl rfl rfl) ?_
    refine WL.val Wanted.none (Runs.pick_t (evb rfl h_14) rfl) ?_
    refine WL.val Wanted.none (Runs.assign rfl) ?_
    refine WL.nil ?_
    refine QW.then_n ?_
    refine CW.sub [(0, .int .u64 a0), (1, .int .i64 a1), (4, .bool (r_9 == 0)), (6, .int .u64 r_9), (7, .int .i64 r_10)] ⟨rfl, rfl, rfl, rfl, rfl, trivial⟩ ?_
    refine CW.ret ?_
    refine QW.then_r ?_
    have hz : (r_9 == 0) = true := (beq_iff_eq.mpr H)
    exact QW.ret1 rfl (evb rfl hz) ⟨rfl, st_7.ext⟩
  · have h_12 : (a0 == 0) = false := (beq_eq_false_iff_ne.mpr c_11)
    refine WL.on ?_ ?_; exact Wanted.guard (dj := 19) (by rfl) (evb (by rfl) h_12) (by rfl)
    refine WL.val Wanted.none (Runs.move rfl) ?_
    refine WL.on ?_ ?_; exact Wanted.guard (dj := 19) (by rfl) (evb (by rfl) h_12) (by rfl)
    refine WL.val Wanted.none (Runs.geq rfl rfl rfl) ?_
    refine WL.val Wanted.none (Runs.pick_f (evb rfl h_12) rfl) ?_
    refine WL.val Wanted.none (Runs.move rfl) ?_
    rcases H with ⟨c_15, H⟩ | ⟨c_15, H⟩
    · have h_16 : (decide (a0 ≥ 9223372036854775808)) = true := (decide_eq_true c_15)
      refine WL.off ?_ ?_; exact Wanted.guard (dj := 23) (by rfl) (evb (by rfl) h_16) (by rfl)
      refine WL.off ?_ ?_; exact Wanted.guard (dj := 23) (by rfl) (evb (by rfl) h_16) (by rfl)
      refine WL.val Wanted.none (Runs.pick_t (evb rfl h_16) rfl) ?_
      refine WL.val Wanted.none (Runs.move rfl) ?_
      refine WL.off ?_ ?_; exact Wanted.guard (dj := 27) (by rfl) (by rfl) (by rfl)
      refine WL.off ?_ ?_; exact Wanted.guard (dj := 27) (by rfl) (by rfl) (by rfl)
      refine WL.val Wanted.none (Runs.pick_t rfl rfl) ?_
      refine WL.nil ?_
      refine QW.then_n ?_
      refine CW.sub [(0, .int .u64 a0), (1, .int .i64 a1), (4, .bool false), (6, .int .u64 r_9), (7, .int .i64 r_10), (30, .bool true)] ⟨rfl, rfl, rfl, rfl, rfl, rfl, trivial⟩ ?_
      refine CW.ct rfl rfl ?_
      refine CW.seq ?_
      refine CW.region ?_
      refine WL.val Wanted.none (Runs.move rfl) ?_
      refine WL.val Wanted.none (Runs.eql rfl rfl rfl) ?_
      refine WL.val Wanted.none (Runs.move rfl) ?_
      obtain ⟨c_17, H⟩ := H
      have h_18 : (r_10 == 1) = true := (beq_iff_eq.mpr c_17)
      refine WL.on ?_ ?_; exact Wanted.guard (dj := 33) (by rfl) (evb (by rfl) h_18) (by rfl)
      refine WL.val Wanted.none (Runs.move rfl) ?_
      refine WL.on ?_ ?_; exact Wanted.guard (dj := 33) (by rfl) (evb (by rfl) h_18) (by rfl)
      refine WL.val Wanted.none (Runs.eql rfl rfl rfl) ?_
      refine WL.val Wanted.none (Runs.pick_t (evb rfl h_18) rfl) ?_
      refine WL.val Wanted.none (Runs.assign rfl) ?_
      refine WL.nil ?_
      refine QW.then_n ?_
      refine CW.sub [(0, .int .u64 a0), (1, .int .i64 a1), (4, .bool (r_9 == 0)), (6, .int .u64 r_9), (7, .int .i64 r_10)] ⟨rfl, rfl, rfl, rfl, rfl, trivial⟩ ?_
      refine CW.ret ?_
      refine QW.then_r ?_
      have hz : (r_9 == 0) = true := (beq_iff_eq.mpr H)
      exact QW.ret1 rfl (evb rfl hz) ⟨rfl, st_7.ext⟩
    · have h_16 : (decide (a0 ≥ 9223372036854775808)) = false := (decide_eq_false c_15)
      refine WL.on ?_ ?_; exact Wanted.guard (dj := 23) (by rfl) (evb (by rfl) h_16) (by rfl)
      refine WL.val Wanted.none (Runs.move rfl) ?_
      refine WL.on ?_ ?_; exact Wanted.guard (dj := 23) (by rfl) (evb (by rfl) h_16) (by rfl)
      refine WL.val Wanted.none (Runs.lss rfl rfl rfl) ?_
      refine WL.val Wanted.none (Runs.pick_f (evb rfl h_16) rfl) ?_
      refine WL.val Wanted.none (Runs.move rfl) ?_
      rcases H with ⟨c_19, H⟩ | ⟨c_19, H⟩
      · have h_20 : (decide (a1 < 0)) = true := (decide_eq_true c_19)
        refine WL.off ?_ ?_; exact Wanted.guard (dj := 27) (by rfl) (evb (by rfl) h_20) (by rfl)
        refine WL.off ?_ ?_; exact Wanted.guard (dj := 27) (by rfl) (evb (by rfl) h_20) (by rfl)
        refine WL.val Wanted.none (Runs.pick_t (evb rfl h_20) rfl) ?_
        refine WL.nil ?_
        refine QW.then_n ?_
        refine CW.sub [(0, .int .u64 a0), (1, .int .i64 a1), (4, .bool false), (6, .int .u64 r_9), (7, .int .i64 r_10), (30, .bool true)] ⟨rfl, rfl, rfl, rfl, rfl, rfl, trivial⟩ ?_
        refine CW.ct rfl rfl ?_
        refine CW.seq ?_
        refine CW.region ?_
        refine WL.val Wanted.none (Runs.move rfl) ?_
        refine WL.val Wanted.none (Runs.eql rfl rfl rfl) ?_
        refine WL.val Wanted.none (Runs.move rfl) ?_
        obtain ⟨c_21, H⟩ := H
        have h_22 : (r_10 == 1) = true := (beq_iff_eq.mpr c_21)
        refine WL.on ?_ ?_; exact Wanted.guard (dj := 33) (by rfl) (evb (by rfl) h_22) (by rfl)
        refine WL.val Wanted.none (Runs.move rfl) ?_
        refine WL.on ?_ ?_; exact Wanted.guard (dj := 33) (by rfl) (evb (by rfl) h_22) (by rfl)
        refine WL.val Wanted.none (Runs.eql rfl rfl rfl) ?_
        refine WL.val Wanted.none (Runs.pick_t (evb rfl h_22) rfl) ?_
        refine WL.val Wanted.none (Runs.assign rfl) ?_
        refine WL.nil ?_
        refine QW.then_n ?_
        refine CW.sub [(0, .int .u64 a0), (1, .int .i64 a1), (4, .bool (r_9 == 0)), (6, .int .u64 r_9), (7, .int .i64 r_10)] ⟨rfl, rfl, rfl, rfl, rfl, trivial⟩ ?_
        refine CW.ret ?_
        refine QW.then_r ?_
        have hz : (r_9 == 0) = true := (beq_iff_eq.mpr H)
        exact QW.ret1 rfl (evb rfl hz) ⟨rfl, st_7.ext⟩
      · have h_20 : (decide (a1 < 0)) = false := (decide_eq_false c_19)
        refine WL.on ?_ ?_; exact Wanted.guard (dj := 27) (by rfl) (evb (by rfl) h_20) (by rfl)
        refine WL.val Wanted.none (Runs.move rfl) ?_
        refine WL.on ?_ ?_; exact Wanted.guard (dj := 27) (by rfl) (evb (by rfl) h_20) (by rfl)
        refine WL.val Wanted.none (Runs.gtr rfl rfl rfl) ?_
        refine WL.val Wanted.none (Runs.pick_f (evb rfl h_20) rfl) ?_
        refine WL.nil ?_
        refine QW.then_n ?_
        refine CW.sub [(0, .int .u64 a0), (1, .int .i64 a1), (4, .bool false), (6, .int .u64 r_9), (7, .int .i64 r_10), (30, .bool (decide (a1 > 1)))] ⟨rfl, rfl, rfl, rfl, rfl, rfl, trivial⟩ ?_
        rcases H with ⟨c_23, H⟩ | ⟨c_23, H⟩
        · have h_24 : (decide (a1 > 1)) = true := (decide_eq_true c_23)
          refine CW.ct rfl h_24 ?_
          refine CW.seq ?_
          refine CW.region ?_
          refine WL.val Wanted.none (Runs.move rfl) ?_
          refine WL.val Wanted.none (Runs.eql rfl rfl rfl) ?_
          refine WL.val Wanted.none (Runs.move rfl) ?_
          obtain ⟨c_25, H⟩ := H
          have h_26 : (r_10 == 1) = true := (beq_iff_eq.mpr c_25)
          refine WL.on ?_ ?_; exact Wanted.guard (dj := 33) (by rfl) (evb (by rfl) h_26) (by rfl)
          refine WL.val Wanted.none (Runs.move rfl) ?_
          refine WL.on ?_ ?_; exact Wanted.guard (dj := 33) (by rfl) (evb (by rfl) h_26) (by rfl)
          refine WL.val Wanted.none (Runs.eql rfl rfl rfl) ?_
          refine WL.val Wanted.none (Runs.pick_t (evb rfl h_26) rfl) ?_
          refine WL.val Wanted.none (Runs.assign rfl) ?_
          refine WL.nil ?_
          refine QW.then_n ?_
          refine CW.sub [(0, .int .u64 a0), (1, .int .i64 a1), (4, .bool (r_9 == 0)), (6, .int .u64 r_9), (7, .int .i64 r_10)] ⟨rfl, rfl, rfl, rfl, rfl, trivial⟩ ?_
          refine CW.ret ?_
          refine QW.then_r ?_
          have hz : (r_9 == 0) = true := (beq_iff_eq.mpr H)
          exact QW.ret1 rfl (evb rfl hz) ⟨rfl, st_7.ext⟩
        · have h_24 : (decide (a1 > 1)) = false := (decide_eq_false c_23)
          refine CW.cf rfl h_24 ?_
          refine CW.skip ?_
          refine QW.then_n ?_
          refine CW.seq ?_
          refine CW.region ?_
          refine WL.val Wanted.none (Runs.move rfl) ?_
          refine WL.val Wanted.none (Runs.eql rfl rfl rfl) ?_
          refine WL.val Wanted.none (Runs.move rfl) ?_
          obtain ⟨c_27, H⟩ := H
          have h_28 : (r_10 == 0) = true := (beq_iff_eq.mpr c_27)
          refine WL.on ?_ ?_; exact Wanted.guard (dj := 39) (by rfl) (evb (by rfl) h_28) (by rfl)
          refine WL.val Wanted.none (Runs.move rfl) ?_
          refine WL.on ?_ ?_; exact Wanted.guard (dj := 39) (by rfl) (evb (by rfl) h_28) (by rfl)
          obtain ⟨r_33, hr_29, H⟩ := H
          refine WL.call Wanted.none ent18 rfl (tree_Version.calls w_6 r_9 r_33 hr_29) ?_
          rintro _ w_30 ⟨rfl, sc_32⟩
          have st_31 : St w w_30 [] := st_7.call sc_32
          refine ⟨_, rfl, ?_⟩
          refine WL.on ?_ ?_; exact Wanted.guard (dj := 39) (by rfl) (evb (by rfl) h_28) (by rfl)
          refine WL.val Wanted.none (Runs.move rfl) ?_
          refine WL.on ?_ ?_; exact Wanted.guard (dj := 39) (by rfl) (evb (by rfl) h_28) (by rfl)
          refine WL.val Wanted.none (Runs.eql rfl rfl rfl) ?_
          refine WL.val Wanted.none (Runs.pick_t (evb rfl h_28) rfl) ?_
          refine WL.val Wanted.none (Runs.move rfl) ?_
          obtain ⟨c_34, H⟩ := H
          have h_35 : (r_33 == a0) = true := (beq_iff_eq.mpr c_34)
          refine WL.on ?_ ?_; exact Wanted.guard (dj := 45) (by rfl) (evb (by rfl) h_35) (by rfl)
          refine WL.val Wanted.none (Runs.move rfl) ?_
          refine WL.on ?_ ?_; exact Wanted.guard (dj := 45) (by rfl) (evb (by rfl) h_35) (by rfl)
          obtain ⟨r_40, hr_36, H⟩ := H
          refine WL.call Wanted.none ent19 rfl (tree_Side.calls w_30 r_9 r_40 hr_36) ?_
          rintro _ w_37 ⟨rfl, sc_39⟩
          have st_38 : St w w_37 [] := st_31.call sc_39
          refine ⟨_, rfl, ?_⟩
          refine WL.on ?_ ?_; exact Wanted.guard (dj := 45) (by rfl) (evb (by rfl) h_35) (by rfl)
          refine WL.val Wanted.none (Runs.move rfl) ?_
          refine WL.on ?_ ?_; exact Wanted.guard (dj := 45) (by rfl) (evb (by rfl) h_35) (by rfl)
          refine WL.val Wanted.none (Runs.eql rfl rfl rfl) ?_
          refine WL.val Wanted.none (Runs.pick_t (evb rfl h_35) rfl) ?_
          refine WL.val Wanted.none (Runs.move rfl) ?_
          obtain ⟨c_41, H⟩ := H
          have h_42 : (r_40 == a1) = true := (beq_iff_eq.mpr c_41)
          refine WL.on ?_ ?_; exact Wanted.guard (dj := 51) (by rfl) (evb (by rfl) h_42) (by rfl)
          refine WL.val Wanted.none (Runs.move rfl) ?_
          refine WL.on ?_ ?_; exact Wanted.guard (dj := 51) (by rfl) (evb (by rfl) h_42) (by rfl)
          refine WL.val Wanted.none (Runs.gtr rfl rfl rfl) ?_
          refine WL.val Wanted.none (Runs.pick_t (evb rfl h_42) rfl) ?_
          refine WL.val Wanted.none (Runs.assign rfl) ?_
          refine WL.nil ?_
          refine QW.then_n ?_
          refine CW.sub [(4, .bool (decide (r_9 > 1)))] ⟨rfl, trivial⟩ ?_
          refine CW.ret ?_
          have hz : (decide (r_9 > 1)) = true := (decide_eq_true H)
          exact QW.ret1 rfl (evb rfl hz) ⟨rfl, st_38.ext⟩

/-! ### reliquarylaw10_TreeApart: function 6 -/
def reliquarylaw10_TreeApart.rel (a0 : Int) (a1 : Int) (l2 : List Int) (a3 : Int) (a4 : Int) (l5 : List Int)  : Prop := (reliquarylaw10_awake.rel  ∧ (((l2.length : Int) > 300 ∧ True) ∨ (¬ ((l2.length : Int) > 300) ∧ (((l5.length : Int) > 300 ∧ True) ∨ (¬ ((l5.length : Int) > 300) ∧ (∃ (r_13 : List Int), tree_Digest.rel (IntKind.i64.wrap a0) a1 l2 r_13 ∧ (∃ (r_26 : Bool), tree_Check.rel r_13 0 (IntKind.i64.wrap a3) a4 l5 r_26 ∧ ((¬ (r_26 = true) ∧ ((a0 ≠ a3 ∧ True) ∨ (¬ (a0 ≠ a3) ∧ ((a1 ≠ a4 ∧ True) ∨ (¬ (a1 ≠ a4) ∧ ¬ ((strOfNums l2).toList = (strOfNums l5).toList)))))) ∨ (¬ (¬ (r_26 = true)) ∧ ((a0 = a3 ∧ ((a1 = a4 ∧ (((strOfNums l2).toList = (strOfNums l5).toList ∧ True) ∨ (¬ ((strOfNums l2).toList = (strOfNums l5).toList) ∧ (∃ m_43 : List Int, m_43 = [a0, IntKind.u8.wrap a1, IntKind.u8.wrap (shrI .u32 a1 8), IntKind.u8.wrap (shrI .u32 a1 16), IntKind.u8.wrap (shrI .u32 a1 24)] ++ l2 ∧ (m_43.length ≤ 1099511627776 ∧ (∃ m_56 : List Int, m_56 = [a3, IntKind.u8.wrap a4, IntKind.u8.wrap (shrI .u32 a4 8), IntKind.u8.wrap (shrI .u32 a4 16), IntKind.u8.wrap (shrI .u32 a4 24)] ++ l5 ∧ (m_56.length ≤ 1099511627776 ∧ (¬ ((strOfNums m_43).toList = (strOfNums m_56).toList) ∧ (∃ (r_71 : List Int), reliquaryref02_Of.rel m_43 r_71 ∧ (∃ (r_77 : List Int), reliquaryref02_Of.rel m_56 r_77 ∧ r_71 = r_77)))))))))) ∨ (¬ (a1 = a4) ∧ (∃ m_83 : List Int, m_83 = [a0, IntKind.u8.wrap a1, IntKind.u8.wrap (shrI .u32 a1 8), IntKind.u8.wrap (shrI .u32 a1 16), IntKind.u8.wrap (shrI .u32 a1 24)] ++ l2 ∧ (m_83.length ≤ 1099511627776 ∧ (∃ m_96 : List Int, m_96 = [a3, IntKind.u8.wrap a4, IntKind.u8.wrap (shrI .u32 a4 8), IntKind.u8.wrap (shrI .u32 a4 16), IntKind.u8.wrap (shrI .u32 a4 24)] ++ l5 ∧ (m_96.length ≤ 1099511627776 ∧ (¬ ((strOfNums m_83).toList = (strOfNums m_96).toList) ∧ (∃ (r_111 : List Int), reliquaryref02_Of.rel m_83 r_111 ∧ (∃ (r_117 : List Int), reliquaryref02_Of.rel m_96 r_117 ∧ r_111 = r_117)))))))))) ∨ (¬ (a0 = a3) ∧ (∃ m_123 : List Int, m_123 = [a0, IntKind.u8.wrap a1, IntKind.u8.wrap (shrI .u32 a1 8), IntKind.u8.wrap (shrI .u32 a1 16), IntKind.u8.wrap (shrI .u32 a1 24)] ++ l2 ∧ (m_123.length ≤ 1099511627776 ∧ (∃ m_136 : List Int, m_136 = [a3, IntKind.u8.wrap a4, IntKind.u8.wrap (shrI .u32 a4 8), IntKind.u8.wrap (shrI .u32 a4 16), IntKind.u8.wrap (shrI .u32 a4 24)] ++ l5 ∧ (m_136.length ≤ 1099511627776 ∧ (¬ ((strOfNums m_123).toList = (strOfNums m_136).toList) ∧ (∃ (r_151 : List Int), reliquaryref02_Of.rel m_123 r_151 ∧ (∃ (r_157 : List Int), reliquaryref02_Of.rel m_136 r_157 ∧ r_151 = r_157))))))))))))))))))
set_option maxHeartbeats 4000000 in
set_option maxRecDepth 100000 in
theorem reliquarylaw10_TreeApart.calls (w : World) (a0 : Int) (a1 : Int) (l2 : List Int) (a3 : Int) (a4 : Int) (l5 : List Int) (A2 : Option Addr) (n2 : Nat) (c2 : Nat) (A5 : Option Addr) (n5 : Nat) (c5 : Nat)  (hG0 : Src w (some ⟨0, 0, none⟩) (iv .u32 tab0)) (hs2 : Src w A2 (iv .u8 l2)) (hn2 : n2 = l2.length) (hc2 : n2 ≤ c2) (hs5 : Src w A5 (iv .u8 l5)) (hn5 : n5 = l5.length) (hc5 : n5 ≤ c5)  (H : reliquarylaw10_TreeApart.rel a0 a1 l2 a3 a4 l5 ) :
    Calls Tryd.prog 6 #[.int .u8 a0, .int .u32 a1, .slice A2 n2 c2, .int .u8 a3, .int .u32 a4, .slice A5 n5 c5] w fun e w' => e = .returned (.bool true) ∧ Below w.heap.size w w' := by
  refine CW.enter Tryd.func6 rfl (n := 113) rfl [.int .u8 a0, .int .u32 a1, .slice A2 n2 c2, .int .u8 a3, .int .u32 a4, .slice A5 n5 c5] (Nat.le_of_ble_eq_true rfl) ?_
  refine CW.sub [(0, .int .u8 a0), (1, .int .u32 a1), (2, .slice A2 n2 c2), (3, .int .u8 a3), (4, .int .u32 a4), (5, .slice A5 n5 c5)] ⟨rfl, rfl, rfl, rfl, rfl, rfl, trivial⟩ ?_
  have st0 : St w w [] := St.refl w
  refine CW.seq ?_
  refine CW.region ?_
  refine WL.val Wanted.none (Runs.assign rfl) ?_
  refine WL.nil ?_
  refine QW.then_n ?_
  refine CW.seq ?_
  refine CW.region ?_
  obtain ⟨hr_1, H⟩ := H
  refine WL.call Wanted.none ent8 rfl (reliquarylaw10_awake.calls w (hG0.ext st0) hr_1) ?_
  rintro _ w_2 ⟨rfl, sc_4⟩
  have st_3 : St w w_2 [] := st0.below sc_4
  refine ⟨_, rfl, ?_⟩
  refine WL.val Wanted.none (Runs.assign rfl) ?_
  refine WL.nil ?_
  refine QW.then_n ?_
  refine CW.seq ?_
  refine CW.seq ?_
  refine CW.region ?_
  refine WL.val Wanted.none (Runs.move rfl) ?_
  refine WL.val Wanted.none (Runs.not rfl rfl) ?_
  refine WL.nil ?_
  refine QW.then_n ?_
  refine CW.cf rfl rfl ?_
  refine CW.skip ?_
  refine QW.then_n ?_
  refine CW.seq ?_
  refine CW.seq ?_
  refine CW.region ?_
  refine WL.val Wanted.none (Runs.move rfl) ?_
  refine WL.val Wanted.none (Runs.len_sl Tryd.underlying29 rfl (by rw [hn2])) ?_
  refine WL.val Wanted.none (Runs.gtr rfl rfl rfl) ?_
  refine WL.val Wanted.none (Runs.move rfl) ?_
  rcases H with ⟨c_5, H⟩ | ⟨c_5, H⟩
  · have h_6 : (decide ((l2.length : Int) > 300)) = true := (decide_eq_true c_5)
    refine WL.off ?_ ?_; exact Wanted.guard (dj := 23) (by rfl) (evb (by rfl) h_6) (by rfl)
    refine WL.off ?_ ?_; exact Wanted.guard (dj := 23) (by rfl) (evb (by rfl) h_6) (by rfl)
    refine WL.off ?_ ?_; exact Wanted.guard (dj := 23) (by rfl) (evb (by rfl) h_6) (by rfl)
    refine WL.val Wanted.none (Runs.pick_t (evb rfl h_6) rfl) ?_
    refine WL.nil ?_
    refine QW.then_n ?_
    refine CW.sub [(0, .int .u8 a0), (1, .int .u32 a1), (2, .slice A2 n2 c2), (3, .int .u8 a3), (4, .int .u32 a4), (5, .slice A5 n5 c5), (12, .bool false), (27, .bool true)] ⟨rfl, rfl, rfl, rfl, rfl, rfl, rfl, rfl, trivial⟩ ?_
    refine CW.ct rfl rfl ?_
    refine CW.seq ?_
    refine CW.region ?_
    refine WL.val Wanted.none (Runs.assign rfl) ?_
    refine WL.nil ?_
    refine QW.then_n ?_
    refine CW.ret ?_
    refine QW.then_r ?_
    exact QW.ret1 rfl rfl ⟨rfl, st_3.ext⟩
  · have h_6 : (decide ((l2.length : Int) > 300)) = false := (decide_eq_false c_5)
    refine WL.on ?_ ?_; exact Wanted.guard (dj := 23) (by rfl) (evb (by rfl) h_6) (by rfl)
    refine WL.val Wanted.none (Runs.move rfl) ?_
    refine WL.on ?_ ?_; exact Wanted.guard (dj := 23) (by rfl) (evb (by rfl) h_6) (by rfl)
    refine WL.val Wanted.none (Runs.len_sl Tryd.underlying29 rfl (by rw [hn5])) ?_
    refine WL.on ?_ ?_; exact Wanted.guard (dj := 23) (by rfl) (evb (by rfl) h_6) (by rfl)
    refine WL.val Wanted.none (Runs.gtr rfl rfl rfl) ?_
    refine WL.val Wanted.none (Runs.pick_f (evb rfl h_6) rfl) ?_
    refine WL.nil ?_
    refine QW.then_n ?_
    refine CW.sub [(0, .int .u8 a0), (1, .int .u32 a1), (2, .slice A2 n2 c2), (3, .int .u8 a3), (4, .int .u32 a4), (5, .slice A5 n5 c5), (12, .bool false), (27, .bool (decide ((l5.length : Int) > 300)))] ⟨rfl, rfl, rfl, rfl, rfl, rfl, rfl, rfl, trivial⟩ ?_
    rcases H with ⟨c_7, H⟩ | ⟨c_7, H⟩
    · have h_8 : (decide ((l5.length : Int) > 300)) = true := (decide_eq_true c_7)
      refine CW.ct rfl h_8 ?_
      refine CW.seq ?_
      refine CW.region ?_
      refine WL.val Wanted.none (Runs.assign rfl) ?_
      refine WL.nil ?_
      refine QW.then_n ?_
      refine CW.ret ?_
      refine QW.then_r ?_
      exact QW.ret1 rfl rfl ⟨rfl, st_3.ext⟩
    · have h_8 : (decide ((l5.length : Int) > 300)) = false := (decide_eq_false c_7)
      refine CW.cf rfl h_8 ?_
      refine CW.skip ?_
      refine QW.then_n ?_
      refine CW.seq ?_
      refine CW.region ?_
      refine WL.val Wanted.none (Runs.move rfl) ?_
      refine WL.val Wanted.none (Runs.conv Tryd.underlying3 ⟨_, Tryd.underlying5⟩ rfl rfl) ?_
      refine WL.val Wanted.none (Runs.move rfl) ?_
      refine WL.val Wanted.none (Runs.move rfl) ?_
      obtain ⟨r_13, hr_9, H⟩ := H
      refine WL.call Wanted.none ent14 rfl (tree_Digest.calls w_2 (IntKind.i64.wrap a0) a1 l2 A2 n2 c2 (hG0.ext st_3) (hs2.ext st_3) (hn2) (hc2) r_13 hr_9) ?_
      rintro _ w_10 ⟨hl_14, rfl, sc_12⟩
      have st_11 : St w w_10 [] := st_3.call sc_12
      refine ⟨_, rfl, ?_⟩
      refine WL.alloc st_11 arr23.zero ?_
      intro B_15 w_16 st_17
      replace st_17 : St w w_16 [.cells B_15 (iv .u8 (List.replicate 32 (0 : Int))) 23] := st_17
      refine WL.store_arr (i := 0) st_17 rfl arr23 rfl (by rw [iv_length]; exact (List.length_replicate ..)) hl_14 rfl ?_
      intro w_19 st_20
      replace st_20 : St w w_19 [.cells B_15 (iv .u8 r_13) 23] := st_20
      refine WL.nil ?_
      refine QW.then_n ?_
      refine CW.sub [(0, .int .u8 a0), (1, .int .u32 a1), (2, .slice A2 n2 c2), (3, .int .u8 a3), (4, .int .u32 a4), (5, .slice A5 n5 c5), (12, .bool false), (14, .pointer (some ⟨B_15, 0, none⟩))] ⟨rfl, rfl, rfl, rfl, rfl, rfl, rfl, rfl, trivial⟩ ?_
      refine CW.seq ?_
      refine CW.seq ?_
      refine CW.region ?_
      refine WL.val Wanted.none (Runs.load_arr arr23 rfl (st_20.blk (i := 0) rfl) hl_14) ?_
      refine WL.val Wanted.none (Runs.build_struct (ps := [(0, 32), (32, 1)]) (cs := (iv .u8 r_13 ++ ([.int .u64 0] : List Value))) plc26 zero26 rfl (by refine Fills.cons (o := 0) (ms := (iv .u8 r_13)) (show _ = some (0, (iv .u8 r_13).length) by rw [show (iv .u8 r_13).length = 32 from (by first | rfl | simp only [List.length_append, List.length_cons, List.length_nil, iv_length, hl_14])] <;> rfl) rfl (by have h1_ : (iv .u8 r_13).length = 32 := (by first | rfl | simp only [List.length_append, List.length_cons, List.length_nil, iv_length, hl_14]); have h2_ : (iv .u8 (List.replicate 32 (0 : Int)) ++ ([.int .u64 0] : List Value)).length = 33 := (by first | rfl | simp only [List.length_append, List.length_cons, List.length_nil, iv_length, List.length_replicate]); omega) ?_; rw [show layV (iv .u8 (List.replicate 32 (0 : Int)) ++ ([.int .u64 0] : List Value)) 0 (iv .u8 r_13) = (iv .u8 r_13 ++ ([.int .u64 0] : List Value)) from (layV_mid (pre := (([] : List Value))) (mid := (iv .u8 (List.replicate 32 (0 : Int)))) (post := (([.int .u64 0] : List Value))) (by first | rfl | simp only [List.append_assoc, List.append_nil, List.nil_append, List.cons_append]) (by first | rfl | simp only [List.length_append, List.length_cons, List.length_nil, iv_length]) (Eq.trans (b := 32) (by first | rfl | simp only [List.length_append, List.length_cons, List.length_nil, iv_length, List.length_replicate]) (Eq.symm (by first | rfl | simp only [List.length_append, List.length_cons, List.length_nil, iv_length, hl_14])))).trans (by first | rfl | simp only [List.append_assoc, List.append_nil, List.nil_append, List.cons_append])]; exact Fills.nil)) ?_
      refine WL.val Wanted.none (Runs.move rfl) ?_
      refine WL.val Wanted.none (Runs.conv Tryd.underlying3 ⟨_, Tryd.underlying5⟩ rfl rfl) ?_
      refine WL.val Wanted.none (Runs.move rfl) ?_
      refine WL.val Wanted.none (Runs.move rfl) ?_
      obtain ⟨r_26, hr_22, H⟩ := H
      refine WL.call Wanted.none ent16 rfl (tree_Check.calls w_19 r_13 0 (IntKind.i64.wrap a3) a4 l5 A5 n5 c5 (hG0.ext st_20) hl_14 (hs5.ext st_20) (hn5) (hc5) r_26 hr_22) ?_
      rintro _ w_23 ⟨rfl, sc_25⟩
      have st_24 : St w w_23 [.cells B_15 (iv .u8 r_13) 23] := st_20.call sc_25
      refine ⟨_, rfl, ?_⟩
      refine WL.val Wanted.none (Runs.not rfl rfl) ?_
      refine WL.nil ?_
      refine QW.then_n ?_
      refine CW.sub [(0, .int .u8 a0), (1, .int .u32 a1), (2, .slice A2 n2 c2), (3, .int .u8 a3), (4, .int .u32 a4), (5, .slice A5 n5 c5), (12, .bool false), (40, .bool (!r_26))] ⟨rfl, rfl, rfl, rfl, rfl, rfl, rfl, rfl, trivial⟩ ?_
      rcases H with ⟨c_27, H⟩ | ⟨c_27, H⟩
      · have h_28 : (!r_26) = true := (not_t (Bool.eq_false_iff.mpr c_27))
        refine CW.ct rfl h_28 ?_
        refine CW.seq ?_
        refine CW.region ?_
        refine WL.val Wanted.none (Runs.move rfl) ?_
        refine WL.val Wanted.none (Runs.move rfl) ?_
        refine WL.val Wanted.none (Runs.neq rfl rfl rfl) ?_
        refine WL.val Wanted.none (Runs.move rfl) ?_
        rcases H with ⟨c_29, H⟩ | ⟨c_29, H⟩
        · have h_30 : (a0 != a3) = true := (bne_iff_ne.mpr c_29)
          refine WL.off ?_ ?_; exact Wanted.guard (dj := 44) (by rfl) (evb (by rfl) h_30) (by rfl)
          refine WL.off ?_ ?_; exact Wanted.guard (dj := 44) (by rfl) (evb (by rfl) h_30) (by rfl)
          refine WL.off ?_ ?_; exact Wanted.guard (dj := 44) (by rfl) (evb (by rfl) h_30) (by rfl)
          refine WL.val Wanted.none (Runs.pick_t (evb rfl h_30) rfl) ?_
          refine WL.val Wanted.none (Runs.move rfl) ?_
          refine WL.off ?_ ?_; exact Wanted.guard (dj := 49) (by rfl) (by rfl) (by rfl)
          refine WL.off ?_ ?_; exact Wanted.guard (dj := 49) (by rfl) (by rfl) (by rfl)
          refine WL.off ?_ ?_; exact Wanted.guard (dj := 49) (by rfl) (by rfl) (by rfl)
          refine WL.off ?_ ?_; exact Wanted.guard (dj := 49) (by rfl) (by rfl) (by rfl)
          refine WL.off ?_ ?_; exact Wanted.guard (dj := 49) (by rfl) (by rfl) (by rfl)
          refine WL.val Wanted.none (Runs.pick_t rfl rfl) ?_
          refine WL.val Wanted.none (Runs.assign rfl) ?_
          refine WL.nil ?_
          refine QW.then_n ?_
          refine CW.sub [(0, .int .u8 a0), (1, .int .u32 a1), (2, .slice A2 n2 c2), (3, .int .u8 a3), (4, .int .u32 a4), (5, .slice A5 n5 c5), (12, .bool true)] ⟨rfl, rfl, rfl, rfl, rfl, rfl, rfl, trivial⟩ ?_
          refine CW.ret ?_
          refine QW.then_r ?_
          exact QW.ret1 rfl rfl ⟨rfl, st_24.ext⟩
        · have h_30 : (a0 != a3) = false := (bne_eq_false_iff_eq.mpr (Decidable.not_not.mp c_29))
          refine WL.on ?_ ?_; exact Wanted.guard (dj := 44) (by rfl) (evb (by rfl) h_30) (by rfl)
          refine WL.val Wanted.none (Runs.move rfl) ?_
          refine WL.on ?_ ?_; exact Wanted.guard (dj := 44) (by rfl) (evb (by rfl) h_30) (by rfl)
          refine WL.val Wanted.none (Runs.move rfl) ?_
          refine WL.on ?_ ?_; exact Wanted.guard (dj := 44) (by rfl) (evb (by rfl) h_30) (by rfl)
          refine WL.val Wanted.none (Runs.neq rfl rfl rfl) ?_
          refine WL.val Wanted.none (Runs.pick_f (evb rfl h_30) rfl) ?_
          refine WL.val Wanted.none (Runs.move rfl) ?_
          rcases H with ⟨c_31, H⟩ | ⟨c_31, H⟩
          · have h_32 : (a1 != a4) = true := (bne_iff_ne.mpr c_31)
            refine WL.off ?_ ?_; exact Wanted.guard (dj := 49) (by rfl) (evb (by rfl) h_32) (by rfl)
            refine WL.off ?_ ?_; exact Wanted.guard (dj := 49) (by rfl) (evb (by rfl) h_32) (by rfl)
            refine WL.off ?_ ?_; exact Wanted.guard (dj := 49) (by rfl) (evb (by rfl) h_32) (by rfl)
            refine WL.off ?_ ?_; exact Wanted.guard (dj := 49) (by rfl) (evb (by rfl) h_32) (by rfl)
            refine WL.off ?_ ?_; exact Wanted.guard (dj := 49) (by rfl) (evb (by rfl) h_32) (by rfl)
            refine WL.val Wanted.none (Runs.pick_t (evb rfl h_32) rfl) ?_
            refine WL.val Wanted.none (Runs.assign rfl) ?_
            refine WL.nil ?_
            refine QW.then_n ?_
            refine CW.sub [(0, .int .u8 a0), (1, .int .u32 a1), (2, .slice A2 n2 c2), (3, .int .u8 a3), (4, .int .u32 a4), (5, .slice A5 n5 c5), (12, .bool true)] ⟨rfl, rfl, rfl, rfl, rfl, rfl, rfl, trivial⟩ ?_
            refine CW.ret ?_
            refine QW.then_r ?_
            exact QW.ret1 rfl rfl ⟨rfl, st_24.ext⟩
          · have h_32 : (a1 != a4) = false := (bne_eq_false_iff_eq.mpr (Decidable.not_not.mp c_31))
            refine WL.on ?_ ?_; exact Wanted.guard (dj := 49) (by rfl) (evb (by rfl) h_32) (by rfl)
            refine WL.val Wanted.none (Runs.move rfl) ?_
            refine WL.on ?_ ?_; exact Wanted.guard (dj := 49) (by rfl) (evb (by rfl) h_32) (by rfl)
            refine WL.val Wanted.none (Runs.bytes_str Tryd.underlying29 Tryd.underlying5 Tryd.underlying9 rfl (hs2.ext st_24) hn2) ?_
            refine WL.on ?_ ?_; exact Wanted.guard (dj := 49) (by rfl) (evb (by rfl) h_32) (by rfl)
            refine WL.val Wanted.none (Runs.move rfl) ?_
            refine WL.on ?_ ?_; exact Wanted.guard (dj := 49) (by rfl) (evb (by rfl) h_32) (by rfl)
            refine WL.val Wanted.none (Runs.bytes_str Tryd.underlying29 Tryd.underlying5 Tryd.underlying9 rfl (hs5.ext st_24) hn5) ?_
            refine WL.on ?_ ?_; exact Wanted.guard (dj := 49) (by rfl) (evb (by rfl) h_32) (by rfl)
            refine WL.val Wanted.none (Runs.nes rfl rfl rfl) ?_
            refine WL.val Wanted.none (Runs.pick_f (evb rfl h_32) rfl) ?_
            refine WL.val Wanted.none (Runs.assign rfl) ?_
            refine WL.nil ?_
            refine QW.then_n ?_
            refine CW.sub [(0, .int .u8 a0), (1, .int .u32 a1), (2, .slice A2 n2 c2), (3, .int .u8 a3), (4, .int .u32 a4), (5, .slice A5 n5 c5), (12, .bool (!((strOfNums l2).toList == (strOfNums l5).toList)))] ⟨rfl, rfl, rfl, rfl, rfl, rfl, rfl, trivial⟩ ?_
            refine CW.ret ?_
            refine QW.then_r ?_
            have hz : (!((strOfNums l2).toList == (strOfNums l5).toList)) = true := (not_t (beq_eq_false_iff_ne.mpr H))
            exact QW.ret1 rfl (evb rfl hz) ⟨rfl, st_24.ext⟩
      · have h_28 : (!r_26) = false := (not_f (Decidable.not_not.mp c_27))
        refine CW.cf rfl h_28 ?_
        refine CW.skip ?_
        refine QW.then_n ?_
        refine CW.seq ?_
        refine CW.seq ?_
        refine CW.region ?_
        refine WL.val Wanted.none (Runs.move rfl) ?_
        refine WL.val Wanted.none (Runs.move rfl) ?_
        refine WL.val Wanted.none (Runs.eql rfl rfl rfl) ?_
        refine WL.val Wanted.none (Runs.move rfl) ?_
        rcases H with ⟨c_33, H⟩ | ⟨c_33, H⟩
        · have h_34 : (a0 == a3) = true := (beq_iff_eq.mpr c_33)
          refine WL.on ?_ ?_; exact Wanted.guard (dj := 59) (by rfl) (evb (by rfl) h_34) (by rfl)
          refine WL.val Wanted.none (Runs.move rfl) ?_
          refine WL.on ?_ ?_; exact Wanted.guard (dj := 59) (by rfl) (evb (by rfl) h_34) (by rfl)
          refine WL.val Wanted.none (Runs.move rfl) ?_
          refine WL.on ?_ ?_; exact Wanted.guard (dj := 59) (by rfl) (evb (by rfl) h_34) (by rfl)
          refine WL.val Wanted.none (Runs.eql rfl rfl rfl) ?_
          refine WL.val Wanted.none (Runs.pick_t (evb rfl h_34) rfl) ?_
          refine WL.val Wanted.none (Runs.move rfl) ?_
          rcases H with ⟨c_35, H⟩ | ⟨c_35, H⟩
          · have h_36 : (a1 == a4) = true := (beq_iff_eq.mpr c_35)
            refine WL.on ?_ ?_; exact Wanted.guard (dj := 64) (by rfl) (evb (by rfl) h_36) (by rfl)
            refine WL.val Wanted.none (Runs.move rfl) ?_
            refine WL.on ?_ ?_; exact Wanted.guard (dj := 64) (by rfl) (evb (by rfl) h_36) (by rfl)
            refine WL.val Wanted.none (Runs.bytes_str Tryd.underlying29 Tryd.underlying5 Tryd.underlying9 rfl (hs2.ext st_24) hn2) ?_
            refine WL.on ?_ ?_; exact Wanted.guard (dj := 64) (by rfl) (evb (by rfl) h_36) (by rfl)
            refine WL.val Wanted.none (Runs.move rfl) ?_
            refine WL.on ?_ ?_; exact Wanted.guard (dj := 64) (by rfl) (evb (by rfl) h_36) (by rfl)
            refine WL.val Wanted.none (Runs.bytes_str Tryd.underlying29 Tryd.underlying5 Tryd.underlying9 rfl (hs5.ext st_24) hn5) ?_
            refine WL.on ?_ ?_; exact Wanted.guard (dj := 64) (by rfl) (evb (by rfl) h_36) (by rfl)
            refine WL.val Wanted.none (Runs.eqs rfl rfl rfl) ?_
            refine WL.val Wanted.none (Runs.pick_t (evb rfl h_36) rfl) ?_
            refine WL.nil ?_
            refine QW.then_n ?_
            refine CW.sub [(0, .int .u8 a0), (1, .int .u32 a1), (2, .slice A2 n2 c2), (3, .int .u8 a3), (4, .int .u32 a4), (5, .slice A5 n5 c5), (12, .bool false), (70, .bool ((strOfNums l2).toList == (strOfNums l5).toList))] ⟨rfl, rfl, rfl, rfl, rfl, rfl, rfl, rfl, trivial⟩ ?_
            rcases H with ⟨c_37, H⟩ | ⟨c_37, H⟩
            · have h_38 : ((strOfNums l2).toList == (strOfNums l5).toList) = true := (beq_iff_eq.mpr c_37)
              refine CW.ct rfl h_38 ?_
              refine CW.seq ?_
              refine CW.region ?_
              refine WL.val Wanted.none (Runs.assign rfl) ?_
              refine WL.nil ?_
              refine QW.then_n ?_
              refine CW.ret ?_
              refine QW.then_r ?_
              exact QW.ret1 rfl rfl ⟨rfl, st_24.ext⟩
            · have h_38 : ((strOfNums l2).toList == (strOfNums l5).toList) = false := (beq_eq_false_iff_ne.mpr c_37)
              refine CW.cf rfl h_38 ?_
              refine CW.skip ?_
              refine QW.then_n ?_
              refine CW.seq ?_
              refine CW.region ?_
              refine WL.val Wanted.none (Runs.move rfl) ?_
              refine WL.val Wanted.none (Runs.move rfl) ?_
              refine WL.val Wanted.none (Runs.conv Tryd.underlying5 ⟨_, Tryd.underlying42⟩ rfl rfl) ?_
              refine WL.val Wanted.none (Runs.move rfl) ?_
              refine WL.val Wanted.none (Runs.shr rfl rfl (by decide) rfl) ?_
              refine WL.val Wanted.none (Runs.conv Tryd.underlying5 ⟨_, Tryd.underlying42⟩ rfl rfl) ?_
              refine WL.val Wanted.none (Runs.move rfl) ?_
              refine WL.val Wanted.none (Runs.shr rfl rfl (by decide) rfl) ?_
              refine WL.val Wanted.none (Runs.conv Tryd.underlying5 ⟨_, Tryd.underlying42⟩ rfl rfl) ?_
              refine WL.val Wanted.none (Runs.move rfl) ?_
              refine WL.val Wanted.none (Runs.shr rfl rfl (by decide) rfl) ?_
              refine WL.val Wanted.none (Runs.conv Tryd.underlying5 ⟨_, Tryd.underlying42⟩ rfl rfl) ?_
              refine WL.buildSl [.int .u8 a0, .int .u8 (IntKind.u8.wrap a1), .int .u8 (IntKind.u8.wrap (shrI .u32 a1 8)), .int .u8 (IntKind.u8.wrap (shrI .u32 a1 16)), .int .u8 (IntKind.u8.wrap (shrI .u32 a1 24))] st_24 Tryd.underlying29 elem5 rfl rfl (by decide) (by decide) (by simp [Value.cells]) ?_
              intro B_39 w_40 st_41
              replace st_41 : St w w_40 [.sl (some ⟨B_39, 0, none⟩) 5 5 (iv .u8 [a0, IntKind.u8.wrap a1, IntKind.u8.wrap (shrI .u32 a1 8), IntKind.u8.wrap (shrI .u32 a1 16), IntKind.u8.wrap (shrI .u32 a1 24)]) 5 1, .cells B_15 (iv .u8 r_13) 23] := st_41
              refine WL.val Wanted.none (Runs.move rfl) ?_
              obtain ⟨m_43, e_44, H⟩ := H
              obtain ⟨z_45, H⟩ := H
              obtain ⟨n_48, hn_51⟩ : ∃ n_ : Nat, n_ = m_43.length := ⟨_, rfl⟩
              refine WL.append (i := 0) Wanted.none st_41 rfl Tryd.underlying29 elem5 rfl rfl (hs2.ext st_41) (by rw [iv_length]; exact (hn2).symm) (one_iv .u8 _) (by decide) (N := n_48) (by rw [hn_51, e_44, List.length_append]; exact congr (congrArg HAdd.hAdd (rfl)) (hn2)) (by rw [hn_51]; exact z_45) ?_
              intro A_46 c_47 w_49 st_50
              have st_50' : St w w_49 [.sl A_46 c_47 n_48 (iv .u8 m_43) 5 1, .cells B_15 (iv .u8 r_13) 23] := by rw [e_44, ← iv_append .u8 [a0, IntKind.u8.wrap a1, IntKind.u8.wrap (shrI .u32 a1 8), IntKind.u8.wrap (shrI .u32 a1 16), IntKind.u8.wrap (shrI .u32 a1 24)] l2]; exact st_50
              refine WL.val Wanted.none (Runs.assign rfl) ?_
              refine WL.nil ?_
              refine QW.then_n ?_
              refine CW.sub [(3, .int .u8 a3), (4, .int .u32 a4), (5, .slice A5 n5 c5), (12, .bool false), (15, .slice A_46 n_48 c_47)] ⟨rfl, rfl, rfl, rfl, rfl, trivial⟩ ?_
              refine CW.seq ?_
              refine CW.region ?_
              refine WL.val Wanted.none (Runs.move rfl) ?_
              refine WL.val Wanted.none (Runs.move rfl) ?_
              refine WL.val Wanted.none (Runs.conv Tryd.underlying5 ⟨_, Tryd.underlying42⟩ rfl rfl) ?_
              refine WL.val Wanted.none (Runs.move rfl) ?_
              refine WL.val Wanted.none (Runs.shr rfl rfl (by decide) rfl) ?_
              refine WL.val Wanted.none (Runs.conv Tryd.underlying5 ⟨_, Tryd.underlying42⟩ rfl rfl) ?_
              refine WL.val Wanted.none (Runs.move rfl) ?_
              refine WL.val Wanted.none (Runs.shr rfl rfl (by decide) rfl) ?_
              refine WL.val Wanted.none (Runs.conv Tryd.underlying5 ⟨_, Tryd.underlying42⟩ rfl rfl) ?_
              refine WL.val Wanted.none (Runs.move rfl) ?_
              refine WL.val Wanted.none (Runs.shr rfl rfl (by decide) rfl) ?_
              refine WL.val Wanted.none (Runs.conv Tryd.underlying5 ⟨_, Tryd.underlying42⟩ rfl rfl) ?_
              refine WL.buildSl [.int .u8 a3, .int .u8 (IntKind.u8.wrap a4), .int .u8 (IntKind.u8.wrap (shrI .u32 a4 8)), .int .u8 (IntKind.u8.wrap (shrI .u32 a4 16)), .int .u8 (IntKind.u8.wrap (shrI .u32 a4 24))] st_50' Tryd.underlying29 elem5 rfl rfl (by decide) (by decide) (by simp [Value.cells]) ?_
              intro B_52 w_53 st_54
              replace st_54 : St w w_53 [.sl (some ⟨B_52, 0, none⟩) 5 5 (iv .u8 [a3, IntKind.u8.wrap a4, IntKind.u8.wrap (shrI .u32 a4 8), IntKind.u8.wrap (shrI .u32 a4 16), IntKind.u8.wrap (shrI .u32 a4 24)]) 5 1, .sl A_46 c_47 n_48 (iv .u8 m_43) 5 1, .cells B_15 (iv .u8 r_13) 23] := st_54
              refine WL.val Wanted.none (Runs.move rfl) ?_
              obtain ⟨m_56, e_57, H⟩ := H
              obtain ⟨z_58, H⟩ := H
              obtain ⟨n_61, hn_64⟩ : ∃ n_ : Nat, n_ = m_56.length := ⟨_, rfl⟩
              refine WL.append (i := 0) Wanted.none st_54 rfl Tryd.underlying29 elem5 rfl rfl (hs5.ext st_54) (by rw [iv_length]; exact (hn5).symm) (one_iv .u8 _) (by decide) (N := n_61) (by rw [hn_64, e_57, List.length_append]; exact congr (congrArg HAdd.hAdd (rfl)) (hn5)) (by rw [hn_64]; exact z_58) ?_
              intro A_59 c_60 w_62 st_63
              have st_63' : St w w_62 [.sl A_59 c_60 n_61 (iv .u8 m_56) 5 1, .sl A_46 c_47 n_48 (iv .u8 m_43) 5 1, .cells B_15 (iv .u8 r_13) 23] := by rw [e_57, ← iv_append .u8 [a3, IntKind.u8.wrap a4, IntKind.u8.wrap (shrI .u32 a4 8), IntKind.u8.wrap (shrI .u32 a4 16), IntKind.u8.wrap (shrI .u32 a4 24)] l5]; exact st_63
              refine WL.val Wanted.none (Runs.assign rfl) ?_
              refine WL.nil ?_
              refine QW.then_n ?_
              refine CW.sub [(12, .bool false), (15, .slice A_46 n_48 c_47), (16, .slice A_59 n_61 c_60)] ⟨rfl, rfl, rfl, trivial⟩ ?_
              refine CW.seq ?_
              refine CW.region ?_
              refine WL.val Wanted.none (Runs.move rfl) ?_
              refine WL.val Wanted.none (Runs.bytes_str Tryd.underlying29 Tryd.underlying5 Tryd.underlying9 rfl (st_63'.src_sl (k := 1) rfl) hn_51) ?_
              refine WL.val Wanted.none (Runs.move rfl) ?_
              refine WL.val Wanted.none (Runs.bytes_str Tryd.underlying29 Tryd.underlying5 Tryd.underlying9 rfl (st_63'.src_sl (k := 0) rfl) hn_64) ?_
              refine WL.val Wanted.none (Runs.nes rfl rfl rfl) ?_
              refine WL.val Wanted.none (Runs.move rfl) ?_
              obtain ⟨c_65, H⟩ := H
              have h_66 : (!((strOfNums m_43).toList == (strOfNums m_56).toList)) = true := (not_t (beq_eq_false_iff_ne.mpr c_65))
              refine WL.on ?_ ?_; exact Wanted.guard (dj := 106) (by rfl) (evb (by rfl) h_66) (by rfl)
              refine WL.val Wanted.none (Runs.move rfl) ?_
              refine WL.on ?_ ?_; exact Wanted.guard (dj := 106) (by rfl) (evb (by rfl) h_66) (by rfl)
              obtain ⟨r_71, hr_67, H⟩ := H
              refine WL.call Wanted.none ent20 rfl (reliquaryref02_Of.calls w_62 m_43 A_46 n_48 c_47 (st_63'.src_sl (k := 1) rfl) (hn_51) (st_63'.cap (i := 1) rfl) r_71 hr_67) ?_
              rintro _ w_68 ⟨hl_72, rfl, sc_70⟩
              have st_69 : St w w_68 [.sl A_59 c_60 n_61 (iv .u8 m_56) 5 1, .sl A_46 c_47 n_48 (iv .u8 m_43) 5 1, .cells B_15 (iv .u8 r_13) 23] := st_63'.call sc_70
              refine ⟨_, rfl, ?_⟩
              refine WL.on ?_ ?_; exact Wanted.guard (dj := 106) (by rfl) (evb (by rfl) h_66) (by rfl)
              refine WL.val Wanted.none (Runs.move rfl) ?_
              refine WL.on ?_ ?_; exact Wanted.guard (dj := 106) (by rfl) (evb (by rfl) h_66) (by rfl)
              obtain ⟨r_77, hr_73, H⟩ := H
              refine WL.call Wanted.none ent20 rfl (reliquaryref02_Of.calls w_68 m_56 A_59 n_61 c_60 (st_69.src_sl (k := 0) rfl) (hn_64) (st_69.cap (i := 0) rfl) r_77 hr_73) ?_
              rintro _ w_74 ⟨hl_78, rfl, sc_76⟩
              have st_75 : St w w_74 [.sl A_59 c_60 n_61 (iv .u8 m_56) 5 1, .sl A_46 c_47 n_48 (iv .u8 m_43) 5 1, .cells B_15 (iv .u8 r_13) 23] := st_69.call sc_76
              refine ⟨_, rfl, ?_⟩
              refine WL.on ?_ ?_; exact Wanted.guard (dj := 106) (by rfl) (evb (by rfl) h_66) (by rfl)
              refine WL.val Wanted.none (Runs.eql_arr arr23 eqg23 rfl rfl hl_72 hl_78 rfl) ?_
              refine WL.val Wanted.none (Runs.pick_t (evb rfl h_66) rfl) ?_
              refine WL.val Wanted.none (Runs.assign rfl) ?_
              refine WL.nil ?_
              refine QW.then_n ?_
              refine CW.sub [(12, .bool (r_71 == r_77))] ⟨rfl, trivial⟩ ?_
              refine CW.ret ?_
              have hz : (r_71 == r_77) = true := (beq_iff_eq.mpr H)
              exact QW.ret1 rfl (evb rfl hz) ⟨rfl, st_75.ext⟩
          · have h_36 : (a1 == a4) = false := (beq_eq_false_iff_ne.mpr c_35)
            refine WL.off ?_ ?_; exact Wanted.guard (dj := 64) (by rfl) (evb (by rfl) h_36) (by rfl)
            refine WL.off ?_ ?_; exact Wanted.guard (dj := 64) (by rfl) (evb (by rfl) h_36) (by rfl)
            refine WL.off ?_ ?_; exact Wanted.guard (dj := 64) (by rfl) (evb (by rfl) h_36) (by rfl)
            refine WL.off ?_ ?_; exact Wanted.guard (dj := 64) (by rfl) (evb (by rfl) h_36) (by rfl)
            refine WL.off ?_ ?_; exact Wanted.guard (dj := 64) (by rfl) (evb (by rfl) h_36) (by rfl)
            refine WL.val Wanted.none (Runs.pick_f (evb rfl h_36) rfl) ?_
            refine WL.nil ?_
            refine QW.then_n ?_
            refine CW.sub [(0, .int .u8 a0), (1, .int .u32 a1), (2, .slice A2 n2 c2), (3, .int .u8 a3), (4, .int .u32 a4), (5, .slice A5 n5 c5), (12, .bool false), (70, .bool false)] ⟨rfl, rfl, rfl, rfl, rfl, rfl, rfl, rfl, trivial⟩ ?_
            refine CW.cf rfl rfl ?_
            refine CW.skip ?_
            refine QW.then_n ?_
            refine CW.seq ?_
            refine CW.region ?_
            refine WL.val Wanted.none (Runs.move rfl) ?_
            refine WL.val Wanted.none (Runs.move rfl) ?_
            refine WL.val Wanted.none (Runs.conv Tryd.underlying5 ⟨_, Tryd.underlying42⟩ rfl rfl) ?_
            refine WL.val Wanted.none (Runs.move rfl) ?_
            refine WL.val Wanted.none (Runs.shr rfl rfl (by decide) rfl) ?_
            refine WL.val Wanted.none (Runs.conv Tryd.underlying5 ⟨_, Tryd.underlying42⟩ rfl rfl) ?_
            refine WL.val Wanted.none (Runs.move rfl) ?_
            refine WL.val Wanted.none (Runs.shr rfl rfl (by decide) rfl) ?_
            refine WL.val Wanted.none (Runs.conv Tryd.underlying5 ⟨_, Tryd.underlying42⟩ rfl rfl) ?_
            refine WL.val Wanted.none (Runs.move rfl) ?_
            refine WL.val Wanted.none (Runs.shr rfl rfl (by decide) rfl) ?_
            refine WL.val Wanted.none (Runs.conv Tryd.underlying5 ⟨_, Tryd.underlying42⟩ rfl rfl) ?_
            refine WL.buildSl [.int .u8 a0, .int .u8 (IntKind.u8.wrap a1), .int .u8 (IntKind.u8.wrap (shrI .u32 a1 8)), .int .u8 (IntKind.u8.wrap (shrI .u32 a1 16)), .int .u8 (IntKind.u8.wrap (shrI .u32 a1 24))] st_24 Tryd.underlying29 elem5 rfl rfl (by decide) (by decide) (by simp [Value.cells]) ?_
            intro B_79 w_80 st_81
            replace st_81 : St w w_80 [.sl (some ⟨B_79, 0, none⟩) 5 5 (iv .u8 [a0, IntKind.u8.wrap a1, IntKind.u8.wrap (shrI .u32 a1 8), IntKind.u8.wrap (shrI .u32 a1 16), IntKind.u8.wrap (shrI .u32 a1 24)]) 5 1, .cells B_15 (iv .u8 r_13) 23] := st_81
            refine WL.val Wanted.none (Runs.move rfl) ?_
            obtain ⟨m_83, e_84, H⟩ := H
            obtain ⟨z_85, H⟩ := H
            obtain ⟨n_88, hn_91⟩ : ∃ n_ : Nat, n_ = m_83.length := ⟨_, rfl⟩
            refine WL.append (i := 0) Wanted.none st_81 rfl Tryd.underlying29 elem5 rfl rfl (hs2.ext st_81) (by rw [iv_length]; exact (hn2).symm) (one_iv .u8 _) (by decide) (N := n_88) (by rw [hn_91, e_84, List.length_append]; exact congr (congrArg HAdd.hAdd (rfl)) (hn2)) (by rw [hn_91]; exact z_85) ?_
            intro A_86 c_87 w_89 st_90
            have st_90' : St w w_89 [.sl A_86 c_87 n_88 (iv .u8 m_83) 5 1, .cells B_15 (iv .u8 r_13) 23] := by rw [e_84, ← iv_append .u8 [a0, IntKind.u8.wrap a1, IntKind.u8.wrap (shrI .u32 a1 8), IntKind.u8.wrap (shrI .u32 a1 16), IntKind.u8.wrap (shrI .u32 a1 24)] l2]; exact st_90
            refine WL.val Wanted.none (Runs.assign rfl) ?_
            refine WL.nil ?_
            refine QW.then_n ?_
            refine CW.sub [(3, .int .u8 a3), (4, .int .u32 a4), (5, .slice A5 n5 c5), (12, .bool false), (15, .slice A_86 n_88 c_87)] ⟨rfl, rfl, rfl, rfl, rfl, trivial⟩ ?_
            refine CW.seq ?_
            refine CW.region ?_
            refine WL.val Wanted.none (Runs.move rfl) ?_
            refine WL.val Wanted.none (Runs.move rfl) ?_
            refine WL.val Wanted.none (Runs.conv Tryd.underlying5 ⟨_, Tryd.underlying42⟩ rfl rfl) ?_
            refine WL.val Wanted.none (Runs.move rfl) ?_
            refine WL.val Wanted.none (Runs.shr rfl rfl (by decide) rfl) ?_
            refine WL.val Wanted.none (Runs.conv Tryd.underlying5 ⟨_, Tryd.underlying42⟩ rfl rfl) ?_
            refine WL.val Wanted.none (Runs.move rfl) ?_
            refine WL.val Wanted.none (Runs.shr rfl rfl (by decide) rfl) ?_
            refine WL.val Wanted.none (Runs.conv Tryd.underlying5 ⟨_, Tryd.underlying42⟩ rfl rfl) ?_
            refine WL.val Wanted.none (Runs.move rfl) ?_
            refine WL.val Wanted.none (Runs.shr rfl rfl (by decide) rfl) ?_
            refine WL.val Wanted.none (Runs.conv Tryd.underlying5 ⟨_, Tryd.underlying42⟩ rfl rfl) ?_
            refine WL.buildSl [.int .u8 a3, .int .u8 (IntKind.u8.wrap a4), .int .u8 (IntKind.u8.wrap (shrI .u32 a4 8)), .int .u8 (IntKind.u8.wrap (shrI .u32 a4 16)), .int .u8 (IntKind.u8.wrap (shrI .u32 a4 24))] st_90' Tryd.underlying29 elem5 rfl rfl (by decide) (by decide) (by simp [Value.cells]) ?_
            intro B_92 w_93 st_94
            replace st_94 : St w w_93 [.sl (some ⟨B_92, 0, none⟩) 5 5 (iv .u8 [a3, IntKind.u8.wrap a4, IntKind.u8.wrap (shrI .u32 a4 8), IntKind.u8.wrap (shrI .u32 a4 16), IntKind.u8.wrap (shrI .u32 a4 24)]) 5 1, .sl A_86 c_87 n_88 (iv .u8 m_83) 5 1, .cells B_15 (iv .u8 r_13) 23] := st_94
            refine WL.val Wanted.none (Runs.move rfl) ?_
            obtain ⟨m_96, e_97, H⟩ := H
            obtain ⟨z_98, H⟩ := H
            obtain ⟨n_101, hn_104⟩ : ∃ n_ : Nat, n_ = m_96.length := ⟨_, rfl⟩
            refine WL.append (i := 0) Wanted.none st_94 rfl Tryd.underlying29 elem5 rfl rfl (hs5.ext st_94) (by rw [iv_length]; exact (hn5).symm) (one_iv .u8 _) (by decide) (N := n_101) (by rw [hn_104, e_97, List.length_append]; exact congr (congrArg HAdd.hAdd (rfl)) (hn5)) (by rw [hn_104]; exact z_98) ?_
            intro A_99 c_100 w_102 st_103
            have st_103' : St w w_102 [.sl A_99 c_100 n_101 (iv .u8 m_96) 5 1, .sl A_86 c_87 n_88 (iv .u8 m_83) 5 1, .cells B_15 (iv .u8 r_13) 23] := by rw [e_97, ← iv_append .u8 [a3, IntKind.u8.wrap a4, IntKind.u8.wrap (shrI .u32 a4 8), IntKind.u8.wrap (shrI .u32 a4 16), IntKind.u8.wrap (shrI .u32 a4 24)] l5]; exact st_103
            refine WL.val Wanted.none (Runs.assign rfl) ?_
            refine WL.nil ?_
            refine QW.then_n ?_
            refine CW.sub [(12, .bool false), (15, .slice A_86 n_88 c_87), (16, .slice A_99 n_101 c_100)] ⟨rfl, rfl, rfl, trivial⟩ ?_
            refine CW.seq ?_
            refine CW.region ?_
            refine WL.val Wanted.none (Runs.move rfl) ?_
            refine WL.val Wanted.none (Runs.bytes_str Tryd.underlying29 Tryd.underlying5 Tryd.underlying9 rfl (st_103'.src_sl (k := 1) rfl) hn_91) ?_
            refine WL.val Wanted.none (Runs.move rfl) ?_
            refine WL.val Wanted.none (Runs.bytes_str Tryd.underlying29 Tryd.underlying5 Tryd.underlying9 rfl (st_103'.src_sl (k := 0) rfl) hn_104) ?_
            refine WL.val Wanted.none (Runs.nes rfl rfl rfl) ?_
            refine WL.val Wanted.none (Runs.move rfl) ?_
            obtain ⟨c_105, H⟩ := H
            have h_106 : (!((strOfNums m_83).toList == (strOfNums m_96).toList)) = true := (not_t (beq_eq_false_iff_ne.mpr c_105))
            refine WL.on ?_ ?_; exact Wanted.guard (dj := 106) (by rfl) (evb (by rfl) h_106) (by rfl)
            refine WL.val Wanted.none (Runs.move rfl) ?_
            refine WL.on ?_ ?_; exact Wanted.guard (dj := 106) (by rfl) (evb (by rfl) h_106) (by rfl)
            obtain ⟨r_111, hr_107, H⟩ := H
            refine WL.call Wanted.none ent20 rfl (reliquaryref02_Of.calls w_102 m_83 A_86 n_88 c_87 (st_103'.src_sl (k := 1) rfl) (hn_91) (st_103'.cap (i := 1) rfl) r_111 hr_107) ?_
            rintro _ w_108 ⟨hl_112, rfl, sc_110⟩
            have st_109 : St w w_108 [.sl A_99 c_100 n_101 (iv .u8 m_96) 5 1, .sl A_86 c_87 n_88 (iv .u8 m_83) 5 1, .cells B_15 (iv .u8 r_13) 23] := st_103'.call sc_110
            refine ⟨_, rfl, ?_⟩
            refine WL.on ?_ ?_; exact Wanted.guard (dj := 106) (by rfl) (evb (by rfl) h_106) (by rfl)
            refine WL.val Wanted.none (Runs.move rfl) ?_
            refine WL.on ?_ ?_; exact Wanted.guard (dj := 106) (by rfl) (evb (by rfl) h_106) (by rfl)
            obtain ⟨r_117, hr_113, H⟩ := H
            refine WL.call Wanted.none ent20 rfl (reliquaryref02_Of.calls w_108 m_96 A_99 n_101 c_100 (st_109.src_sl (k := 0) rfl) (hn_104) (st_109.cap (i := 0) rfl) r_117 hr_113) ?_
            rintro _ w_114 ⟨hl_118, rfl, sc_116⟩
            have st_115 : St w w_114 [.sl A_99 c_100 n_101 (iv .u8 m_96) 5 1, .sl A_86 c_87 n_88 (iv .u8 m_83) 5 1, .cells B_15 (iv .u8 r_13) 23] := st_109.call sc_116
            refine ⟨_, rfl, ?_⟩
            refine WL.on ?_ ?_; exact Wanted.guard (dj := 106) (by rfl) (evb (by rfl) h_106) (by rfl)
            refine WL.val Wanted.none (Runs.eql_arr arr23 eqg23 rfl rfl hl_112 hl_118 rfl) ?_
            refine WL.val Wanted.none (Runs.pick_t (evb rfl h_106) rfl) ?_
            refine WL.val Wanted.none (Runs.assign rfl) ?_
            refine WL.nil ?_
            refine QW.then_n ?_
            refine CW.sub [(12, .bool (r_111 == r_117))] ⟨rfl, trivial⟩ ?_
            refine CW.ret ?_
            have hz : (r_111 == r_117) = true := (beq_iff_eq.mpr H)
            exact QW.ret1 rfl (evb rfl hz) ⟨rfl, st_115.ext⟩
        · have h_34 : (a0 == a3) = false := (beq_eq_false_iff_ne.mpr c_33)
          refine WL.off ?_ ?_; exact Wanted.guard (dj := 59) (by rfl) (evb (by rfl) h_34) (by rfl)
          refine WL.off ?_ ?_; exact Wanted.guard (dj := 59) (by rfl) (evb (by rfl) h_34) (by rfl)
          refine WL.off ?_ ?_; exact Wanted.guard (dj := 59) (by rfl) (evb (by rfl) h_34) (by rfl)
          refine WL.val Wanted.none (Runs.pick_f (evb rfl h_34) rfl) ?_
          refine WL.val Wanted.none (Runs.move rfl) ?_
          refine WL.off ?_ ?_; exact Wanted.guard (dj := 64) (by rfl) (by rfl) (by rfl)
          refine WL.off ?_ ?_; exact Wanted.guard (dj := 64) (by rfl) (by rfl) (by rfl)
          refine WL.off ?_ ?_; exact Wanted.guard (dj := 64) (by rfl) (by rfl) (by rfl)
          refine WL.off ?_ ?_; exact Wanted.guard (dj := 64) (by rfl) (by rfl) (by rfl)
          refine WL.off ?_ ?_; exact Wanted.guard (dj := 64) (by rfl) (by rfl) (by rfl)
          refine WL.val Wanted.none (Runs.pick_f rfl rfl) ?_
          refine WL.nil ?_
          refine QW.then_n ?_
          refine CW.sub [(0, .int .u8 a0), (1, .int .u32 a1), (2, .slice A2 n2 c2), (3, .int .u8 a3), (4, .int .u32 a4), (5, .slice A5 n5 c5), (12, .bool false), (70, .bool false)] ⟨rfl, rfl, rfl, rfl, rfl, rfl, rfl, rfl, trivial⟩ ?_
          refine CW.cf rfl rfl ?_
          refine CW.skip ?_
          refine QW.then_n ?_
          refine CW.seq ?_
          refine CW.region ?_
          refine WL.val Wanted.none (Runs.move rfl) ?_
          refine WL.val Wanted.none (Runs.move rfl) ?_
          refine WL.val Wanted.none (Runs.conv Tryd.underlying5 ⟨_, Tryd.underlying42⟩ rfl rfl) ?_
          refine WL.val Wanted.none (Runs.move rfl) ?_
          refine WL.val Wanted.none (Runs.shr rfl rfl (by decide) rfl) ?_
          refine WL.val Wanted.none (Runs.conv Tryd.underlying5 ⟨_, Tryd.underlying42⟩ rfl rfl) ?_
          refine WL.val Wanted.none (Runs.move rfl) ?_
          refine WL.val Wanted.none (Runs.shr rfl rfl (by decide) rfl) ?_
          refine WL.val Wanted.none (Runs.conv Tryd.underlying5 ⟨_, Tryd.underlying42⟩ rfl rfl) ?_
          refine WL.val Wanted.none (Runs.move rfl) ?_
          refine WL.val Wanted.none (Runs.shr rfl rfl (by decide) rfl) ?_
          refine WL.val Wanted.none (Runs.conv Tryd.underlying5 ⟨_, Tryd.underlying42⟩ rfl rfl) ?_
          refine WL.buildSl [.int .u8 a0, .int .u8 (IntKind.u8.wrap a1), .int .u8 (IntKind.u8.wrap (shrI .u32 a1 8)), .int .u8 (IntKind.u8.wrap (shrI .u32 a1 16)), .int .u8 (IntKind.u8.wrap (shrI .u32 a1 24))] st_24 Tryd.underlying29 elem5 rfl rfl (by decide) (by decide) (by simp [Value.cells]) ?_
          intro B_119 w_120 st_121
          replace st_121 : St w w_120 [.sl (some ⟨B_119, 0, none⟩) 5 5 (iv .u8 [a0, IntKind.u8.wrap a1, IntKind.u8.wrap (shrI .u32 a1 8), IntKind.u8.wrap (shrI .u32 a1 16), IntKind.u8.wrap (shrI .u32 a1 24)]) 5 1, .cells B_15 (iv .u8 r_13) 23] := st_121
          refine WL.val Wanted.none (Runs.move rfl) ?_
          obtain ⟨m_123, e_124, H⟩ := H
          obtain ⟨z_125, H⟩ := H
          obtain ⟨n_128, hn_131⟩ : ∃ n_ : Nat, n_ = m_123.length := ⟨_, rfl⟩
          refine WL.append (i := 0) Wanted.none st_121 rfl Tryd.underlying29 elem5 rfl rfl (hs2.ext st_121) (by rw [iv_length]; exact (hn2).symm) (one_iv .u8 _) (by decide) (N := n_128) (by rw [hn_131, e_124, List.length_append]; exact congr (congrArg HAdd.hAdd (rfl)) (hn2)) (by rw [hn_131]; exact z_125) ?_
          intro A_126 c_127 w_129 st_130
          have st_130' : St w w_129 [.sl A_126 c_127 n_128 (iv .u8 m_123) 5 1, .cells B_15 (iv .u8 r_13) 23] := by rw [e_124, ← iv_append .u8 [a0, IntKind.u8.wrap a1, IntKind.u8.wrap (shrI .u32 a1 8), IntKind.u8.wrap (shrI .u32 a1 16), IntKind.u8.wrap (shrI .u32 a1 24)] l2]; exact st_130
          refine WL.val Wanted.none (Runs.assign rfl) ?_
          refine WL.nil ?_
          refine QW.then_n ?_
          refine CW.sub [(3, .int .u8 a3), (4, .int .u32 a4), (5, .slice A5 n5 c5), (12, .bool false), (15, .slice A_126 n_128 c_127)] ⟨rfl, rfl, rfl, rfl, rfl, trivial⟩ ?_
          refine CW.seq ?_
          refine CW.region ?_
          refine WL.val Wanted.none (Runs.move rfl) ?_
          refine WL.val Wanted.none (Runs.move rfl) ?_
          refine WL.val Wanted.none (Runs.conv Tryd.underlying5 ⟨_, Tryd.underlying42⟩ rfl rfl) ?_
          refine WL.val Wanted.none (Runs.move rfl) ?_
          refine WL.val Wanted.none (Runs.shr rfl rfl (by decide) rfl) ?_
          refine WL.val Wanted.none (Runs.conv Tryd.underlying5 ⟨_, Tryd.underlying42⟩ rfl rfl) ?_
          refine WL.val Wanted.none (Runs.move rfl) ?_
          refine WL.val Wanted.none (Runs.shr rfl rfl (by decide) rfl) ?_
          refine WL.val Wanted.none (Runs.conv Tryd.underlying5 ⟨_, Tryd.underlying42⟩ rfl rfl) ?_
          refine WL.val Wanted.none (Runs.move rfl) ?_
          refine WL.val Wanted.none (Runs.shr rfl rfl (by decide) rfl) ?_
          refine WL.val Wanted.none (Runs.conv Tryd.underlying5 ⟨_, Tryd.underlying42⟩ rfl rfl) ?_
          refine WL.buildSl [.int .u8 a3, .int .u8 (IntKind.u8.wrap a4), .int .u8 (IntKind.u8.wrap (shrI .u32 a4 8)), .int .u8 (IntKind.u8.wrap (shrI .u32 a4 16)), .int .u8 (IntKind.u8.wrap (shrI .u32 a4 24))] st_130' Tryd.underlying29 elem5 rfl rfl (by decide) (by decide) (by simp [Value.cells]) ?_
          intro B_132 w_133 st_134
          replace st_134 : St w w_133 [.sl (some ⟨B_132, 0, none⟩) 5 5 (iv .u8 [a3, IntKind.u8.wrap a4, IntKind.u8.wrap (shrI .u32 a4 8), IntKind.u8.wrap (shrI .u32 a4 16), IntKind.u8.wrap (shrI .u32 a4 24)]) 5 1, .sl A_126 c_127 n_128 (iv .u8 m_123) 5 1, .cells B_15 (iv .u8 r_13) 23] := st_134
          refine WL.val Wanted.none (Runs.move rfl) ?_
          obtain ⟨m_136, e_137, H⟩ := H
          obtain ⟨z_138, H⟩ := H
          obtain ⟨n_141, hn_144⟩ : ∃ n_ : Nat, n_ = m_136.length := ⟨_, rfl⟩
          refine WL.append (i := 0) Wanted.none st_134 rfl Tryd.underlying29 elem5 rfl rfl (hs5.ext st_134) (by rw [iv_length]; exact (hn5).symm) (one_iv .u8 _) (by decide) (N := n_141) (by rw [hn_144, e_137, List.length_append]; exact congr (congrArg HAdd.hAdd (rfl)) (hn5)) (by rw [hn_144]; exact z_138) ?_
          intro A_139 c_140 w_142 st_143
          have st_143' : St w w_142 [.sl A_139 c_140 n_141 (iv .u8 m_136) 5 1, .sl A_126 c_127 n_128 (iv .u8 m_123) 5 1, .cells B_15 (iv .u8 r_13) 23] := by rw [e_137, ← iv_append .u8 [a3, IntKind.u8.wrap a4, IntKind.u8.wrap (shrI .u32 a4 8), IntKind.u8.wrap (shrI .u32 a4 16), IntKind.u8.wrap (shrI .u32 a4 24)] l5]; exact st_143
          refine WL.val Wanted.none (Runs.assign rfl) ?_
          refine WL.nil ?_
          refine QW.then_n ?_
          refine CW.sub [(12, .bool false), (15, .slice A_126 n_128 c_127), (16, .slice A_139 n_141 c_140)] ⟨rfl, rfl, rfl, trivial⟩ ?_
          refine CW.seq ?_
          refine CW.region ?_
          refine WL.val Wanted.none (Runs.move rfl) ?_
          refine WL.val Wanted.none (Runs.bytes_str Tryd.underlying29 Tryd.underlying5 Tryd.underlying9 rfl (st_143'.src_sl (k := 1) rfl) hn_131) ?_
          refine WL.val Wanted.none (Runs.move rfl) ?_
          refine WL.val Wanted.none (Runs.bytes_str Tryd.underlying29 Tryd.underlying5 Tryd.underlying9 rfl (st_143'.src_sl (k := 0) rfl) hn_144) ?_
          refine WL.val Wanted.none (Runs.nes rfl rfl rfl) ?_
          refine WL.val Wanted.none (Runs.move rfl) ?_
          obtain ⟨c_145, H⟩ := H
          have h_146 : (!((strOfNums m_123).toList == (strOfNums m_136).toList)) = true := (not_t (beq_eq_false_iff_ne.mpr c_145))
          refine WL.on ?_ ?_; exact Wanted.guard (dj := 106) (by rfl) (evb (by rfl) h_146) (by rfl)
          refine WL.val Wanted.none (Runs.move rfl) ?_
          refine WL.on ?_ ?_; exact Wanted.guard (dj := 106) (by rfl) (evb (by rfl) h_146) (by rfl)
          obtain ⟨r_151, hr_147, H⟩ := H
          refine WL.call Wanted.none ent20 rfl (reliquaryref02_Of.calls w_142 m_123 A_126 n_128 c_127 (st_143'.src_sl (k := 1) rfl) (hn_131) (st_143'.cap (i := 1) rfl) r_151 hr_147) ?_
          rintro _ w_148 ⟨hl_152, rfl, sc_150⟩
          have st_149 : St w w_148 [.sl A_139 c_140 n_141 (iv .u8 m_136) 5 1, .sl A_126 c_127 n_128 (iv .u8 m_123) 5 1, .cells B_15 (iv .u8 r_13) 23] := st_143'.call sc_150
          refine ⟨_, rfl, ?_⟩
          refine WL.on ?_ ?_; exact Wanted.guard (dj := 106) (by rfl) (evb (by rfl) h_146) (by rfl)
          refine WL.val Wanted.none (Runs.move rfl) ?_
          refine WL.on ?_ ?_; exact Wanted.guard (dj := 106) (by rfl) (evb (by rfl) h_146) (by rfl)
          obtain ⟨r_157, hr_153, H⟩ := H
          refine WL.call Wanted.none ent20 rfl (reliquaryref02_Of.calls w_148 m_136 A_139 n_141 c_140 (st_149.src_sl (k := 0) rfl) (hn_144) (st_149.cap (i := 0) rfl) r_157 hr_153) ?_
          rintro _ w_154 ⟨hl_158, rfl, sc_156⟩
          have st_155 : St w w_154 [.sl A_139 c_140 n_141 (iv .u8 m_136) 5 1, .sl A_126 c_127 n_128 (iv .u8 m_123) 5 1, .cells B_15 (iv .u8 r_13) 23] := st_149.call sc_156
          refine ⟨_, rfl, ?_⟩
          refine WL.on ?_ ?_; exact Wanted.guard (dj := 106) (by rfl) (evb (by rfl) h_146) (by rfl)
          refine WL.val Wanted.none (Runs.eql_arr arr23 eqg23 rfl rfl hl_152 hl_158 rfl) ?_
          refine WL.val Wanted.none (Runs.pick_t (evb rfl h_146) rfl) ?_
          refine WL.val Wanted.none (Runs.assign rfl) ?_
          refine WL.nil ?_
          refine QW.then_n ?_
          refine CW.sub [(12, .bool (r_151 == r_157))] ⟨rfl, trivial⟩ ?_
          refine CW.ret ?_
          have hz : (r_151 == r_157) = true := (beq_iff_eq.mpr H)
          exact QW.ret1 rfl (evb rfl hz) ⟨rfl, st_155.ext⟩

end Go.Proofs.YtekpnjhacnkgcaaDoor
