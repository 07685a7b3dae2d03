/- Walks: each function computes what its relation says, and a call of it ends so. Printed by a program of this session (wip/gen). -/
import Derived.Test.YtmhcjafkdmcgoaaDoorGx2
namespace Go.Proofs.YtmhcjafkdmcgoaaDoor
open Go Go.Kr Go.RowKit
set_option linter.unusedVariables false
set_option linter.unusedSimpArgs false
/-! ### digest_Of: function 54 -/
def digest_Of.L3 (r0 : List Int) (s_126 : List Int) : Nat → (List Int) → Int → Prop
 | 0, _, _ => False
 | kL3 + 1, m_137, x_139 => ((x_139 < 32 ∧ ((0 ≤ (IntKind.i64.wrap (Int.tdiv x_139 4)) ∧ (IntKind.i64.wrap (Int.tdiv x_139 4)) < (8 : Int)) ∧ (∃ x_147 : Int, x_147 = IntKind.i64.wrap (24 - (IntKind.i64.wrap ((Int.tmod x_139 4) * 8))) ∧ (0 ≤ x_147 ∧ (∃ x_150 : Int, x_150 = shrI .u32 (gn s_126 ((IntKind.i64.wrap (Int.tdiv x_139 4)).toNat)) x_147 ∧ ((0 ≤ x_139 ∧ x_139 < (32 : Int)) ∧ (∃ m_154 : List Int, m_154 = List.set m_137 (x_139.toNat) (IntKind.u8.wrap x_150) ∧ digest_Of.L3 r0 s_126 kL3 m_154 (IntKind.i64.wrap (x_139 + 1))))))))) ∨ (¬ (x_139 < 32) ∧ r0 = m_137))
def digest_Of.L2 (l0 : List Int) (r0 : List Int) : Nat → (List Int) → Int → Prop
 | 0, _, _ => False
 | kL2 + 1, l_55, x_58 => ((x_58 ≥ 0 ∧ (0 ≤ x_58 ∧ (∃ x_65 : Int, x_65 = shrI .u64 (IntKind.u64.wrap (8 * (IntKind.u64.wrap (l0.length : Int)))) x_58 ∧ (∃ m_71 : List Int, m_71 = l_55 ++ [IntKind.u8.wrap x_65] ∧ (m_71.length ≤ 1099511627776 ∧ digest_Of.L2 l0 r0 kL2 m_71 (IntKind.i64.wrap (x_58 - 8))))))) ∨ (¬ (x_58 ≥ 0) ∧ (∃ (r_84 : List Int), digest_first.rel  r_84 ∧ (∃ (q_100 : Nat), (l_55.length ≤ 64 * q_100 ∧ (∀ j : Nat, j < q_100 → 64 * j < l_55.length) ∧ l_55.length ≤ 1099511627776) ∧ ∃ (Inv_101 : List Int → Prop) (g_102 : Nat → List Int → List Int), Inv_101 r_84 ∧ (∀ (x_108 : Nat) (s_109 : List Int), x_108 < q_100 → Inv_101 s_109 → s_109.length = 8 → (∃ (r_119 : List Int), digest_state_mixed.rel s_109 (chl l_55 64 x_108) r_119 ∧ (Inv_101 r_119 ∧ r_119 = g_102 x_108 s_109))) ∧ ∃ s_126 : List Int, s_126 = (List.range q_100).foldl (fun s_ x_ => g_102 x_ s_) r_84 ∧ (∃ k_ : Nat, digest_Of.L3 r0 s_126 k_ (List.replicate 32 (0 : Int)) 0)))))
def digest_Of.L1 (l0 : List Int) (r0 : List Int) : Nat → (List Int) → Prop
 | 0, _ => False
 | kL1 + 1, l_31 => (((Int.tmod (l_31.length : Int) 64) ≠ 56 ∧ (∃ m_43 : List Int, m_43 = l_31 ++ [0] ∧ (m_43.length ≤ 1099511627776 ∧ digest_Of.L1 l0 r0 kL1 m_43))) ∨ (¬ ((Int.tmod (l_31.length : Int) 64) ≠ 56) ∧ (∃ k_ : Nat, digest_Of.L2 l0 r0 k_ l_31 56)))
def digest_Of.rel (l0 : List Int) (r0 : List Int) : Prop := (∃ (r_9 : List Int), slices_Clone_s_byte_byte.rel l0 r_9 ∧ (∃ m_19 : List Int, m_19 = r_9 ++ [128] ∧ (m_19.length ≤ 1099511627776 ∧ (∃ k_ : Nat, digest_Of.L1 l0 r0 k_ m_19))))
set_option maxHeartbeats 4000000 in
set_option maxRecDepth 100000 in
theorem digest_Of.calls (w : World) (l0 : List Int) (A0 : Option Addr) (n0 : Nat) (c0 : Nat)  (hG0 : Src w (some ⟨0, 0, none⟩) (iv .u32 tab0)) (hs0 : Src w A0 (iv .u8 l0)) (hn0 : n0 = l0.length) (hc0 : n0 ≤ c0) (r0 : List Int) (H : digest_Of.rel l0 r0) :
  Calls Tryd.prog 54 #[.slice A0 n0 c0] w fun e w' => r0.length = 32 ∧ e = .returned (.agg (iv .u8 r0).toArray) ∧ St w w' [] := by
 refine CW.enterM Tryd.func54 rfl (n := 58) rfl [.slice A0 n0 c0] (Nat.le_of_ble_eq_true rfl) ?_
 refine CW.sub [(0, .slice A0 n0 c0)] ⟨rfl, trivial⟩ ?_
 have st0 : St w w [] := St.refl w
 refine CW.seq (CW.region ?_)
 refine WL.alloc st0 arr23.zero ?_
 intro B_1 w_2 st_3
 replace st_3 : St w w_2 [.cells B_1 (iv .u8 (List.replicate 32 (0 : Int))) 23] := st_3
 refine WL.nil (QW.then_n ?_)
 refine CW.seq (CW.region ?_)
 refine WL.val Wanted.none (Runs.move rfl) ?_
 obtain ⟨r_9, hr_5, H⟩ := H
 refine WL.call Wanted.none ent48 rfl (slices_Clone_s_byte_byte.calls w_2 l0 A0 n0 c0 (hs0.ext st_3) (hn0) (hc0) r_9 hr_5) ?_
 rintro _ w_6 ⟨A_10, c_11, n_12, hn_13, rfl, sc_8⟩
 have st_7 : St w w_6 [.sl A_10 c_11 n_12 (iv .u8 r_9) 5 1, .cells B_1 (iv .u8 (List.replicate 32 (0 : Int))) 23] := st_3.call sc_8
 refine ⟨_, rfl, ?_⟩
 refine WL.buildSl [.int .u8 128] st_7 Tryd.underlying25 elem5 rfl rfl (by decide) (by decide) (by simp [Value.cells]) ?_
 intro B_15 w_16 st_17
 replace st_17 : St w w_16 [.sl (some ⟨B_15, 0, none⟩) 1 1 (iv .u8 [128]) 5 1, .sl A_10 c_11 n_12 (iv .u8 r_9) 5 1, .cells B_1 (iv .u8 (List.replicate 32 (0 : Int))) 23] := st_17
 obtain ⟨m_19, e_20, H⟩ := H
 obtain ⟨z_21, H⟩ := H
 obtain ⟨n_24, hn_27⟩ : ∃ n_ : Nat, n_ = m_19.length := ⟨_, rfl⟩
 refine WL.append (i := 1) Wanted.none st_17 rfl Tryd.underlying25 elem5 rfl rfl (st_17.src_sl (k := 0) rfl) (by rw [iv_length]; exact (Eq.refl _).symm) (one_iv .u8 _) (by decide) (N := n_24) (by rw [hn_27, e_20, List.length_append]; exact congr (congrArg HAdd.hAdd (hn_13)) (rfl)) (by rw [hn_27]; exact z_21) ?_
 intro A_22 c_23 w_25 st_26
 have st_26' : St w w_25 [.sl (some ⟨B_15, 0, none⟩) 1 1 (iv .u8 [128]) 5 1, .sl A_22 c_23 n_24 (iv .u8 m_19) 5 1, .cells B_1 (iv .u8 (List.replicate 32 (0 : Int))) 23] := by rw [e_20, ← iv_append .u8 r_9 [128]]; exact st_26
 refine WL.val Wanted.none (Runs.assign rfl) ?_
 refine WL.nil (QW.then_n ?_)
 refine CW.seq ?_
 refine CW.block ?_
 obtain ⟨k_28, H⟩ := H
 refine CW.sub [(0, .slice A0 n0 c0), (2, .pointer (some ⟨B_1, 0, none⟩)), (3, .slice A_22 n_24 c_23)] ⟨rfl, rfl, rfl, trivial⟩ ?_
 refine CW.loop (fun kL1 l_ w_ => ∃ (A_29 : Option Addr) (c_30 : Nat) (n_32 : Nat) (l_31 : List Int), l_ = [(0, .slice A0 n0 c0), (2, .pointer (some ⟨B_1, 0, none⟩)), (3, .slice A_29 n_32 c_30)] ∧ digest_Of.L1 l0 r0 kL1 l_31 ∧ (n_32 = l_31.length) ∧ St w w_ [.sl (some ⟨B_15, 0, none⟩) 1 1 (iv .u8 [128]) 5 1, .sl A_29 c_30 n_32 (iv .u8 l_31) 5 1, .cells B_1 (iv .u8 (List.replicate 32 (0 : Int))) 23]) (k := k_28) ⟨A_22, c_23, n_24, m_19, rfl, H, hn_27, st_26'⟩ (fun _ _ h => by obtain ⟨_, _, _, _, _, h, _⟩ := h; exact h.elim) ?_
 rintro kL1 l_36 w_34 ⟨A_29, c_30, n_32, l_31, rfl, H, hn_33, st_35⟩
 refine CW.seq ?_
 refine CW.seq (CW.region ?_)
 refine WL.val Wanted.none (Runs.move rfl) ?_
 refine WL.val Wanted.none (Runs.len_sl Tryd.underlying25 rfl (by rw [hn_33])) ?_
 refine WL.val Wanted.none (Runs.rem rfl rfl (by decide) rfl) ?_
 refine WL.val Wanted.none (Runs.neq rfl rfl rfl) ?_
 refine WL.nil (QW.then_n ?_)
 rcases H with ⟨c_37, H⟩ | ⟨c_37, H⟩
 ·have h_38 : ((Int.tmod (l_31.length : Int) 64) != 56) = true := (bne_iff_ne.mpr c_37)
  refine CW.ct rfl h_38 ?_
  refine CW.skip ?_
  refine QW.then_n ?_
  refine CW.block ?_
  refine CW.region ?_
  refine WL.val Wanted.none (Runs.move rfl) ?_
  refine WL.buildSl [.int .u8 0] st_35 Tryd.underlying25 elem5 rfl rfl (by decide) (by decide) (by simp [Value.cells]) ?_
  intro B_39 w_40 st_41
  replace st_41 : St w w_40 [.sl (some ⟨B_39, 0, none⟩) 1 1 (iv .u8 [0]) 5 1, .sl (some ⟨B_15, 0, none⟩) 1 1 (iv .u8 [128]) 5 1, .sl A_29 c_30 n_32 (iv .u8 l_31) 5 1, .cells B_1 (iv .u8 (List.replicate 32 (0 : Int))) 23] := st_41
  obtain ⟨m_43, e_44, H⟩ := H
  obtain ⟨z_45, H⟩ := H
  obtain ⟨n_48, hn_51⟩ : ∃ n_ : Nat, n_ = m_43.length := ⟨_, rfl⟩
  refine WL.append (i := 2) Wanted.none st_41 rfl Tryd.underlying25 elem5 rfl rfl (st_41.src_sl (k := 0) rfl) (by rw [iv_length]; exact (Eq.refl _).symm) (one_iv .u8 _) (by decide) (N := n_48) (by rw [hn_51, e_44, List.length_append]; exact congr (congrArg HAdd.hAdd (hn_33)) (rfl)) (by rw [hn_51]; exact z_45) ?_
  intro A_46 c_47 w_49 st_50
  have st_50' : St w w_49 [.sl (some ⟨B_39, 0, none⟩) 1 1 (iv .u8 [0]) 5 1, .sl (some ⟨B_15, 0, none⟩) 1 1 (iv .u8 [128]) 5 1, .sl A_46 c_47 n_48 (iv .u8 m_43) 5 1, .cells B_1 (iv .u8 (List.replicate 32 (0 : Int))) 23] := by rw [e_44, ← iv_append .u8 l_31 [0]]; exact st_50
  refine WL.val Wanted.none (Runs.assign rfl) ?_
  refine WL.nil ?_
  refine QW.blk_n ?_
  have st_50'' := st_50'.pick [1, 2, 3] (by decide)
  exact QW.at _ (by repeat' constructor) ⟨A_46, c_47, n_48, m_43, rfl, H, hn_51, st_50''⟩
 ·have h_38 : ((Int.tmod (l_31.length : Int) 64) != 56) = false := (bne_eq_false_iff_eq.mpr (Decidable.not_not.mp c_37))
  refine CW.cf rfl h_38 ?_
  refine CW.exit ?_
  refine QW.then_x ?_
  refine QW.then_x ?_
  refine QW.blk_x ?_
  refine QW.then_n ?_
  refine CW.seq ?_
  refine CW.seq (CW.region ?_)
  refine WL.val Wanted.none (Runs.assign rfl) ?_
  refine WL.nil (QW.then_n ?_)
  refine CW.block ?_
  obtain ⟨k_52, H⟩ := H
  refine CW.sub [(0, .slice A0 n0 c0), (2, .pointer (some ⟨B_1, 0, none⟩)), (3, .slice A_29 n_32 c_30), (4, .int .i64 56)] ⟨rfl, rfl, rfl, rfl, trivial⟩ ?_
  refine CW.loop (fun kL2 l_ w_ => ∃ (A_53 : Option Addr) (c_54 : Nat) (n_56 : Nat) (l_55 : List Int) (x_58 : Int), l_ = [(0, .slice A0 n0 c0), (2, .pointer (some ⟨B_1, 0, none⟩)), (3, .slice A_53 n_56 c_54), (4, .int .i64 x_58)] ∧ digest_Of.L2 l0 r0 kL2 l_55 x_58 ∧ (n_56 = l_55.length) ∧ St w w_ [.sl (some ⟨B_15, 0, none⟩) 1 1 (iv .u8 [128]) 5 1, .sl A_53 c_54 n_56 (iv .u8 l_55) 5 1, .cells B_1 (iv .u8 (List.replicate 32 (0 : Int))) 23]) (k := k_52) ⟨A_29, c_30, n_32, l_31, 56, rfl, H, hn_33, st_35⟩ (fun _ _ h => by obtain ⟨_, _, _, _, _, _, h, _⟩ := h; exact h.elim) ?_
  rintro kL2 l_61 w_59 ⟨A_53, c_54, n_56, l_55, x_58, rfl, H, hn_57, st_60⟩
  refine CW.seq ?_
  refine CW.seq (CW.region ?_)
  refine WL.val Wanted.none (Runs.move rfl) ?_
  refine WL.val Wanted.none (Runs.geq rfl rfl rfl) ?_
  refine WL.nil (QW.then_n ?_)
  rcases H with ⟨c_62, H⟩ | ⟨c_62, H⟩
  ·have h_63 : (decide (x_58 ≥ 0)) = true := (decide_eq_true c_62)
   refine CW.ct rfl h_63 ?_
   refine CW.skip ?_
   refine QW.then_n ?_
   refine CW.seq ?_
   refine CW.block ?_
   refine CW.region ?_
   refine WL.val Wanted.none (Runs.move rfl) ?_
   refine WL.val Wanted.none (Runs.move rfl) ?_
   refine WL.val Wanted.none (Runs.len_sl Tryd.underlying25 rfl (by rw [hn0])) ?_
   refine WL.val Wanted.none (Runs.conv Tryd.underlying37 ⟨_, Tryd.underlying3⟩ rfl rfl) ?_
   refine WL.val Wanted.none (Runs.mul rfl rfl rfl) ?_
   refine WL.val Wanted.none (Runs.move rfl) ?_
   obtain ⟨z_64, H⟩ := H
   obtain ⟨x_65, e_66, H⟩ := H
   refine WL.val Wanted.none (Runs.shr rfl rfl z_64 e_66) ?_
   refine WL.val Wanted.none (Runs.conv Tryd.underlying5 ⟨_, Tryd.underlying37⟩ rfl rfl) ?_
   refine WL.buildSl [.int .u8 (IntKind.u8.wrap x_65)] st_60 Tryd.underlying25 elem5 rfl rfl (by decide) (by decide) (by simp [Value.cells]) ?_
   intro B_67 w_68 st_69
   replace st_69 : St w w_68 [.sl (some ⟨B_67, 0, none⟩) 1 1 (iv .u8 [IntKind.u8.wrap x_65]) 5 1, .sl (some ⟨B_15, 0, none⟩) 1 1 (iv .u8 [128]) 5 1, .sl A_53 c_54 n_56 (iv .u8 l_55) 5 1, .cells B_1 (iv .u8 (List.replicate 32 (0 : Int))) 23] := st_69
   obtain ⟨m_71, e_72, H⟩ := H
   obtain ⟨z_73, H⟩ := H
   obtain ⟨n_76, hn_79⟩ : ∃ n_ : Nat, n_ = m_71.length := ⟨_, rfl⟩
   refine WL.append (i := 2) Wanted.none st_69 rfl Tryd.underlying25 elem5 rfl rfl (st_69.src_sl (k := 0) rfl) (by rw [iv_length]; exact (Eq.refl _).symm) (one_iv .u8 _) (by decide) (N := n_76) (by rw [hn_79, e_72, List.length_append]; exact congr (congrArg HAdd.hAdd (hn_57)) (rfl)) (by rw [hn_79]; exact z_73) ?_
   intro A_74 c_75 w_77 st_78
   have st_78' : St w w_77 [.sl (some ⟨B_67, 0, none⟩) 1 1 (iv .u8 [IntKind.u8.wrap x_65]) 5 1, .sl (some ⟨B_15, 0, none⟩) 1 1 (iv .u8 [128]) 5 1, .sl A_74 c_75 n_76 (iv .u8 m_71) 5 1, .cells B_1 (iv .u8 (List.replicate 32 (0 : Int))) 23] := by rw [e_72, ← iv_append .u8 l_55 [IntKind.u8.wrap x_65]]; exact st_78
   refine WL.val Wanted.none (Runs.assign rfl) ?_
   refine WL.nil ?_
   refine QW.blk_n ?_
   refine QW.then_n ?_
   refine CW.region ?_
   refine WL.val Wanted.none (Runs.move rfl) ?_
   refine WL.val Wanted.none (Runs.sub rfl rfl rfl) ?_
   refine WL.val Wanted.none (Runs.assign rfl) ?_
   refine WL.nil ?_
   have st_78'' := st_78'.pick [1, 2, 3] (by decide)
   exact QW.at _ (by repeat' constructor) ⟨A_74, c_75, n_76, m_71, IntKind.i64.wrap (x_58 - 8), rfl, H, hn_79, st_78''⟩
  ·have h_63 : (decide (x_58 ≥ 0)) = false := (decide_eq_false c_62)
   refine CW.cf rfl h_63 ?_
   refine CW.exit ?_
   refine QW.then_x ?_
   refine QW.then_x ?_
   refine QW.blk_x ?_
   refine QW.then_n ?_
   refine CW.seq (CW.region ?_)
   obtain ⟨r_84, hr_80, H⟩ := H
   refine WL.call Wanted.none ent71 rfl (digest_first.calls w_59 r_84 hr_80) ?_
   rintro _ w_81 ⟨hl_85, rfl, sc_83⟩
   have st_82 : St w w_81 [.sl (some ⟨B_15, 0, none⟩) 1 1 (iv .u8 [128]) 5 1, .sl A_53 c_54 n_56 (iv .u8 l_55) 5 1, .cells B_1 (iv .u8 (List.replicate 32 (0 : Int))) 23] := st_60.call sc_83
   refine ⟨_, rfl, ?_⟩
   refine WL.alloc st_82 arr148.zero ?_
   intro B_86 w_87 st_88
   replace st_88 : St w w_87 [.cells B_86 (iv .u32 (List.replicate 8 (0 : Int))) 148, .sl (some ⟨B_15, 0, none⟩) 1 1 (iv .u8 [128]) 5 1, .sl A_53 c_54 n_56 (iv .u8 l_55) 5 1, .cells B_1 (iv .u8 (List.replicate 32 (0 : Int))) 23] := st_88
   refine WL.store_arr (i := 0) st_88 rfl arr148 rfl (by rw [iv_length]; exact (List.length_replicate ..)) hl_85 rfl ?_
   intro w_90 st_91
   replace st_91 : St w w_90 [.cells B_86 (iv .u32 r_84) 148, .sl (some ⟨B_15, 0, none⟩) 1 1 (iv .u8 [128]) 5 1, .sl A_53 c_54 n_56 (iv .u8 l_55) 5 1, .cells B_1 (iv .u8 (List.replicate 32 (0 : Int))) 23] := st_91
   refine WL.nil (QW.then_n ?_)
   refine CW.seq ?_
   refine CW.seq (CW.region ?_)
   refine WL.val Wanted.none (Runs.move rfl) ?_
   refine WL.call Wanted.none ent72 rfl (slices_Chunk.calls w_90 A_53 n_56 c_54 64 (by decide)) ?_
   rintro _ w_95 ⟨B_93, B_94, rfl, sc_97⟩
   have st_96 : St w w_95 [.cells B_94 [.int .i64 ((64 : Nat) : Int)] 3, .cells B_93 [.slice A_53 n_56 c_54] 25, .cells B_86 (iv .u32 r_84) 148, .sl (some ⟨B_15, 0, none⟩) 1 1 (iv .u8 [128]) 5 1, .sl A_53 c_54 n_56 (iv .u8 l_55) 5 1, .cells B_1 (iv .u8 (List.replicate 32 (0 : Int))) 23] := st_91.call sc_97
   refine ⟨_, rfl, ?_⟩
   refine WL.nil (QW.then_n ?_)
   refine CW.sub [(2, .pointer (some ⟨B_1, 0, none⟩)), (5, .pointer (some ⟨B_86, 0, none⟩)), (36, .func (.func 81) #[] #[.pointer (some ⟨B_93, 0, none⟩), .pointer (some ⟨B_94, 0, none⟩)])] ⟨rfl, rfl, rfl, trivial⟩ ?_
   refine CW.block ?_
   obtain ⟨q_100, ⟨h_105, h_106, h_107⟩, Inv_101, g_102, hI_103, hB_104, s_126, e_127, H⟩ := H
   refine CW.sub [(2, .pointer (some ⟨B_1, 0, none⟩)), (5, .pointer (some ⟨B_86, 0, none⟩)), (36, .func (.func 81) #[] #[.pointer (some ⟨B_93, 0, none⟩), .pointer (some ⟨B_94, 0, none⟩)])] ⟨rfl, rfl, rfl, trivial⟩ ?_
   have hc1 := st_96.cell (k := 1) (i := 0) rfl rfl
   have hc2 := st_96.cell (k := 0) (i := 0) rfl rfl
   refine CW.range (α := Fin q_100) (σ := List Int) st_96 rfl ent81 (chunk_seq (c := 64) hc1 hc2 (st_96.cap (i := 4) rfl) (by decide) (by decide) (by rw [hn_57]; exact h_107) (by rw [hn_57]; exact h_105) (fun j hj => by rw [hn_57]; exact h_106 j hj)) (fun h k => h.trans k) (fun W j o o2 h1 h2 h3 => KpB.put (block_lt_of_cell hc1) (block_lt_of_cell hc2) W j o o2 h1 h2 h3) (fun pre s_ => s_ = pre.foldl (fun s_ x_ => g_102 x_.val s_) r_84 ∧ Inv_101 s_ ∧ s_.length = 8) (fun s_109 => [.cells B_94 [.int .i64 ((64 : Nat) : Int)] 3, .cells B_93 [.slice A_53 n_56 c_54] 25, .cells B_86 (iv .u32 s_109) 148, .sl (some ⟨B_15, 0, none⟩) 1 1 (iv .u8 [128]) 5 1, .sl A_53 c_54 n_56 (iv .u8 l_55) 5 1, .cells B_1 (iv .u8 (List.replicate 32 (0 : Int))) 23]) (fun _ => rfl) r_84 ⟨rfl, hI_103, hl_85⟩ rfl ?_ rfl ?_
   ·rintro j_ pre_ x_108 s_109 w_110 ⟨hs_112, hI_113, hl_114⟩ st_111 _ b hb hd
    refine wpIn_block ?_
    refine WL.round (n := 58) (.inr ⟨j_, rfl⟩) (fun ⟨a, w, h⟩ => h) rfl ?_ hb hd
    have H := hB_104 x_108.val s_109 x_108.isLt hI_113 hl_114
    refine WL.val Wanted.none (Runs.load_arr arr148 rfl (st_111.blk (i := 2) rfl) hl_114) ?_
    refine WL.val Wanted.none (Runs.move rfl) ?_
    obtain ⟨r_119, hr_115, H⟩ := H
    refine WL.call Wanted.none ent73 rfl (digest_state_mixed.calls w_110 s_109 (chl l_55 64 x_108.val) (A_53.map (·.add (64 * x_108.val))) (min 64 (n_56 - 64 * x_108.val)) (min 64 (n_56 - 64 * x_108.val)) (hG0.ext st_111) hl_114 ((st_111.src_sl (k := 4) rfl).chunk 64 x_108.val) ((by rw [hn_57]; exact chl_length _ _ _)) (Nat.le_refl _) r_119 hr_115) ?_
    rintro _ w_116 ⟨hl_120, rfl, sc_118⟩
    have kp_121 := keeps_of_below sc_118.ext
    have st_117 : St w w_116 [.cells B_94 [.int .i64 ((64 : Nat) : Int)] 3, .cells B_93 [.slice A_53 n_56 c_54] 25, .cells B_86 (iv .u32 s_109) 148, .sl (some ⟨B_15, 0, none⟩) 1 1 (iv .u8 [128]) 5 1, .sl A_53 c_54 n_56 (iv .u8 l_55) 5 1, .cells B_1 (iv .u8 (List.replicate 32 (0 : Int))) 23] := st_111.call sc_118
    refine ⟨_, rfl, ?_⟩
    refine WL.store_arrK (i := 2) st_117 rfl arr148 rfl (by rw [iv_length]; exact hl_114) hl_120 rfl ?_
    intro w_122 st_123 kp_124
    replace st_123 : St w w_122 [.cells B_94 [.int .i64 ((64 : Nat) : Int)] 3, .cells B_93 [.slice A_53 n_56 c_54] 25, .cells B_86 (iv .u32 r_119) 148, .sl (some ⟨B_15, 0, none⟩) 1 1 (iv .u8 [128]) 5 1, .sl A_53 c_54 n_56 (iv .u8 l_55) 5 1, .cells B_1 (iv .u8 (List.replicate 32 (0 : Int))) 23] := st_123
    refine WL.nil ?_
    refine QW.blk_n ?_
    obtain ⟨hI1, hg1⟩ := H
    exact fun b hb hd => ⟨(kp_121).trans kp_124, ⟨(st_123.cell (k := 1) rfl rfl).trans (st_111.cell (k := 1) rfl rfl).symm, (st_123.cell (k := 0) rfl rfl).trans (st_111.cell (k := 0) rfl rfl).symm⟩, r_119, ⟨by rw [List.foldl_append, ← hs_112]; exact hg1, hI1, hl_120⟩, st_123⟩
   ·rintro D_125 s_z w_128 ⟨rfl_, _, hl_130⟩ st_129
    rw [foldl_fin, ← e_127] at rfl_
    rw [rfl_] at st_129 hl_130
    have st_129 : St w w_128 [.obj D_125 (.deferred (some [])), .cells B_94 [.int .i64 ((64 : Nat) : Int)] 3, .cells B_93 [.slice A_53 n_56 c_54] 25, .cells B_86 (iv .u32 s_126) 148, .sl (some ⟨B_15, 0, none⟩) 1 1 (iv .u8 [128]) 5 1, .sl A_53 c_54 n_56 (iv .u8 l_55) 5 1, .cells B_1 (iv .u8 (List.replicate 32 (0 : Int))) 23] := st_129
    refine QW.blk_n ?_
    refine QW.then_n ?_
    refine CW.seq (CW.region ?_)
    refine WL.alloc st_129 arr23.zero ?_
    intro B_132 w_133 st_134
    replace st_134 : St w w_133 [.cells B_132 (iv .u8 (List.replicate 32 (0 : Int))) 23, .obj D_125 (.deferred (some [])), .cells B_94 [.int .i64 ((64 : Nat) : Int)] 3, .cells B_93 [.slice A_53 n_56 c_54] 25, .cells B_86 (iv .u32 s_126) 148, .sl (some ⟨B_15, 0, none⟩) 1 1 (iv .u8 [128]) 5 1, .sl A_53 c_54 n_56 (iv .u8 l_55) 5 1, .cells B_1 (iv .u8 (List.replicate 32 (0 : Int))) 23] := st_134
    refine WL.nil (QW.then_n ?_)
    refine CW.seq ?_
    refine CW.seq (CW.region ?_)
    refine WL.val Wanted.none (Runs.move rfl) ?_
    refine WL.nil (QW.then_n ?_)
    refine CW.block ?_
    obtain ⟨k_136, H⟩ := H
    refine CW.sub [(2, .pointer (some ⟨B_1, 0, none⟩)), (5, .pointer (some ⟨B_86, 0, none⟩)), (7, .pointer (some ⟨B_132, 0, none⟩)), (41, .int .i64 0)] ⟨rfl, rfl, rfl, rfl, trivial⟩ ?_
    refine CW.loop (fun kL3 l_ w_ => ∃ (m_137 : List Int) (x_139 : Int), l_ = [(2, .pointer (some ⟨B_1, 0, none⟩)), (5, .pointer (some ⟨B_86, 0, none⟩)), (7, .pointer (some ⟨B_132, 0, none⟩)), (41, .int .i64 x_139)] ∧ digest_Of.L3 r0 s_126 kL3 m_137 x_139 ∧ (m_137.length = 32) ∧ St w w_ [.cells B_132 (iv .u8 m_137) 23, .obj D_125 (.deferred (some [])), .cells B_94 [.int .i64 ((64 : Nat) : Int)] 3, .cells B_93 [.slice A_53 n_56 c_54] 25, .cells B_86 (iv .u32 s_126) 148, .sl (some ⟨B_15, 0, none⟩) 1 1 (iv .u8 [128]) 5 1, .sl A_53 c_54 n_56 (iv .u8 l_55) 5 1, .cells B_1 (iv .u8 (List.replicate 32 (0 : Int))) 23]) (k := k_136) ⟨List.replicate 32 (0 : Int), 0, rfl, H, (List.length_replicate ..), st_134⟩ (fun _ _ h => by obtain ⟨_, _, _, h, _⟩ := h; exact h.elim) ?_
    rintro kL3 l_142 w_140 ⟨m_137, x_139, rfl, H, hl_138, st_141⟩
    refine CW.seq (CW.region ?_)
    refine WL.val Wanted.none (Runs.lss rfl rfl rfl) ?_
    refine WL.nil (QW.then_n ?_)
    refine CW.seq ?_
    rcases H with ⟨c_143, H⟩ | ⟨c_143, H⟩
    ·have h_144 : (decide (x_139 < 32)) = true := (decide_eq_true c_143)
     refine CW.ct rfl h_144 ?_
     refine CW.skip ?_
     refine QW.then_n ?_
     refine CW.seq ?_
     refine CW.block ?_
     refine CW.seq (CW.region ?_)
     refine WL.val Wanted.none (Runs.move rfl) ?_
     refine WL.val Wanted.none (Runs.assign rfl) ?_
     refine WL.nil (QW.then_n ?_)
     refine CW.region ?_
     refine WL.val Wanted.none (Runs.move rfl) ?_
     refine WL.val Wanted.none (Runs.move rfl) ?_
     refine WL.val Wanted.none (Runs.quo rfl rfl (by decide) rfl) ?_
     obtain ⟨⟨p_145, q_146⟩, H⟩ := H
     refine WL.val Wanted.none (Runs.indexAddr_blk arr148 rfl rfl p_145 q_146 (o := (IntKind.i64.wrap (Int.tdiv x_139 4)).toNat) (by first | rfl | omega)) ?_
     refine WL.val Wanted.none (Runs.load nagg24 rfl (st_141.cell_iv (i := 4) rfl (by have := hl_130; omega))) ?_
     refine WL.val Wanted.none (Runs.move rfl) ?_
     refine WL.val Wanted.none (Runs.rem rfl rfl (by decide) rfl) ?_
     refine WL.val Wanted.none (Runs.mul rfl rfl rfl) ?_
     obtain ⟨x_147, e_148, H⟩ := H
     refine WL.val Wanted.none (Runs.sub rfl rfl e_148) ?_
     obtain ⟨z_149, H⟩ := H
     obtain ⟨x_150, e_151, H⟩ := H
     refine WL.val Wanted.none (Runs.shr rfl rfl z_149 e_151) ?_
     refine WL.val Wanted.none (Runs.conv Tryd.underlying5 ⟨_, Tryd.underlying24⟩ rfl rfl) ?_
     obtain ⟨⟨p_152, q_153⟩, H⟩ := H
     refine WL.val Wanted.none (Runs.indexAddr_blk arr23 rfl rfl p_152 q_153 (o := (x_139).toNat) (by first | rfl | omega)) ?_
     obtain ⟨m_154, e_155, H⟩ := H
     have hl_158 : m_154.length = 32 := by rw [e_155, List.length_set]; exact hl_138
     refine WL.store_cells (i := 0) st_141 rfl cells5 rfl (by rw [iv_length]; have := hl_138; omega) rfl rfl ?_
     intro w_156 st_157
     have st_157' : St w w_156 [.cells B_132 (iv .u8 m_154) 23, .obj D_125 (.deferred (some [])), .cells B_94 [.int .i64 ((64 : Nat) : Int)] 3, .cells B_93 [.slice A_53 n_56 c_54] 25, .cells B_86 (iv .u32 s_126) 148, .sl (some ⟨B_15, 0, none⟩) 1 1 (iv .u8 [128]) 5 1, .sl A_53 c_54 n_56 (iv .u8 l_55) 5 1, .cells B_1 (iv .u8 (List.replicate 32 (0 : Int))) 23] := by rw [e_155, ← iv_set .u8 m_137 (x_139.toNat) (IntKind.u8.wrap x_150)]; exact st_157
     refine WL.nil ?_
     refine QW.blk_n ?_
     refine QW.then_n ?_
     refine CW.region ?_
     refine WL.val Wanted.none (Runs.add rfl rfl rfl) ?_
     refine WL.val Wanted.none (Runs.move rfl) ?_
     refine WL.nil ?_
     exact QW.at _ (by repeat' constructor) ⟨m_154, IntKind.i64.wrap (x_139 + 1), rfl, H, hl_158, st_157'⟩
    ·have h_144 : (decide (x_139 < 32)) = false := (decide_eq_false c_143)
     refine CW.cf rfl h_144 ?_
     refine CW.exit ?_
     refine QW.then_x ?_
     refine QW.then_x ?_
     refine QW.blk_x ?_
     refine QW.then_n ?_
     refine CW.seq (CW.region ?_)
     refine WL.val Wanted.none (Runs.load_arr arr23 rfl (st_141.blk (i := 0) rfl) hl_138) ?_
     refine WL.store_arr (i := 7) st_141 rfl arr23 rfl (by rw [iv_length]; exact (List.length_replicate ..)) hl_138 rfl ?_
     intro w_159 st_160
     replace st_160 : St w w_159 [.cells B_132 (iv .u8 m_137) 23, .obj D_125 (.deferred (some [])), .cells B_94 [.int .i64 ((64 : Nat) : Int)] 3, .cells B_93 [.slice A_53 n_56 c_54] 25, .cells B_86 (iv .u32 s_126) 148, .sl (some ⟨B_15, 0, none⟩) 1 1 (iv .u8 [128]) 5 1, .sl A_53 c_54 n_56 (iv .u8 l_55) 5 1, .cells B_1 (iv .u8 m_137) 23] := st_160
     refine WL.nil (QW.then_n ?_)
     refine CW.ret ?_
     obtain rfl := H
     refine QW.retMc st_160 (i := 1) rfl rfl arr23 rfl (j := 7) (by decide) rfl hl_138 (fun wz stz => ?_)
     exact ⟨hl_138, rfl, stz.pick [] (by decide)⟩

/-! ### digest_Pieces: function 31 -/
def digest_Pieces.rel (l0 : List R25) (lr0 : List Int) : Prop := (∃ (l_13 : List Int), slices_Concat_s_byte_byte.rel l0 l_13 ∧ (∃ (r_23 : List Int), digest_Of.rel l_13 r_23 ∧ lr0 = r_23))
set_option maxHeartbeats 1000000 in
set_option maxRecDepth 100000 in
theorem digest_Pieces.calls (w w1 : World) (T R : Pool) (l0 : List R25) (A0 : Option Addr) (n0 : Nat) (c0 : Nat) (st0 : St w w1 ((T ++ R))) (hG0 : Src w (some ⟨0, 0, none⟩) (iv .u32 tab0)) (hb0 : HS w (T ++ R) T A0 n0 c0 (f25 w) l0) (lr0 : List Int) (H : digest_Pieces.rel l0 lr0) :
  Calls Tryd.prog 31 #[.slice A0 n0 c0] w1 fun e w' => ∃ T' , Pl T T' ∧ lr0.length = 32 ∧ e = .returned (.agg (iv .u8 lr0).toArray) ∧ St w w' ((T' ++ R)) := by
 refine CW.enter Tryd.func31 rfl (n := 6) rfl [.slice A0 n0 c0] (Nat.le_of_ble_eq_true rfl) ?_
 refine CW.sub [(0, .slice A0 n0 c0)] ⟨rfl, trivial⟩ ?_
 refine CW.seq (CW.region ?_)
 refine WL.alloc st0 arr23.zero ?_
 intro B_1 w_2 st_3
 replace st_3 : St w w_2 (.cells B_1 (iv .u8 (List.replicate 32 (0 : Int))) 23 :: (T ++ R)) := st_3
 refine WL.nil (QW.then_n ?_)
 refine CW.seq (CW.region ?_)
 refine WL.val Wanted.none (Runs.move rfl) ?_
 have st_5 : St w w_2 ((T ++ (.cells B_1 (iv .u8 (List.replicate 32 (0 : Int))) 23 :: R))) := St.hide (A := []) (B := [_]) (T := T) (R := R) st_3
 obtain ⟨l_13, hr_6, H⟩ := H
 refine WL.call Wanted.none ent55 rfl (slices_Concat_s_byte_byte.calls w w_2 T (.cells B_1 (iv .u8 (List.replicate 32 (0 : Int))) 23 :: R) l0 A0 n0 c0  st_5 (hb0.mono (memo_TR (B := [_]) (fun _ h_ => h_)) (fun _ h_ => h_)) l_13 hr_6) ?_
 rintro _ w_16 ⟨T_7, A_10, n_11, c_12, hs_8, hn_15, rfl, sc_18⟩
 have st_17 : St w w_16 (.sl A_10 c_12 n_11 (iv .u8 l_13) 5 1 :: .cells B_1 (iv .u8 (List.replicate 32 (0 : Int))) 23 :: (T_7 ++ R)) := St.unhide (A := [_]) (B := [_]) (T := T_7) (R := R) sc_18
 refine ⟨_, rfl, ?_⟩
 obtain ⟨r_23, hr_19, H⟩ := H
 refine WL.call Wanted.none ent54 rfl (digest_Of.calls w_16 l_13 A_10 n_11 c_12 (hG0.ext st_17) (st_17.src_sl (k := 0) rfl) (hn_15) (st_17.cap (i := 0) rfl) r_23 hr_19) ?_
 rintro _ w_20 ⟨hl_24, rfl, sc_22⟩
 have st_21 : St w w_20 (.sl A_10 c_12 n_11 (iv .u8 l_13) 5 1 :: .cells B_1 (iv .u8 (List.replicate 32 (0 : Int))) 23 :: (T_7 ++ R)) := st_17.call sc_22
 refine ⟨_, rfl, ?_⟩
 refine WL.store_arr (i := 1) st_21 rfl arr23 rfl (by rw [iv_length]; exact (List.length_replicate ..)) hl_24 rfl ?_
 intro w_25 st_26
 replace st_26 : St w w_25 (.sl A_10 c_12 n_11 (iv .u8 l_13) 5 1 :: .cells B_1 (iv .u8 r_23) 23 :: (T_7 ++ R)) := st_26
 refine WL.nil (QW.then_n ?_)
 refine CW.ret ?_
 obtain rfl := H
 exact QW.retN1 rfl (Res.row rfl row23 st_26 (i := 1) rfl (by rw [iv_length]; exact hl_24)) ⟨T_7, hs_8, hl_24, rfl, (St.pickT (L := [_, _]) st_26 [] (by decide))⟩

/-! ### journal_Link: function 9 -/
def journal_Link.rel (l0 : List Int) (a1 : Int) (l2 : List Int) (r0 : List Int) : Prop := (∃ (r_19 : List Int), word_Put.rel (IntKind.u64.wrap a1) 4 r_19 ∧ (∃ (l_53 : List Int), digest_Pieces.rel ([[255], l0, r_19, l2] : List R25) l_53 ∧ r0 = l_53))
set_option maxHeartbeats 4000000 in
set_option maxRecDepth 100000 in
theorem journal_Link.calls (w : World) (l0 : List Int) (a1 : Int) (l2 : List Int) (A2 : Option Addr) (n2 : Nat) (c2 : Nat)  (hG0 : Src w (some ⟨0, 0, none⟩) (iv .u32 tab0)) (hl0 : l0.length = 32) (hs2 : Src w A2 (iv .u8 l2)) (hn2 : n2 = l2.length) (hc2 : n2 ≤ c2) (r0 : List Int) (H : journal_Link.rel l0 a1 l2 r0) :
  Calls Tryd.prog 9 #[.agg (iv .u8 l0).toArray, .int .u32 a1, .slice A2 n2 c2] w fun e w' => r0.length = 32 ∧ e = .returned (.agg (iv .u8 r0).toArray) ∧ St w w' [] := by
 refine CW.enter Tryd.func9 rfl (n := 15) rfl [.agg (iv .u8 l0).toArray, .int .u32 a1, .slice A2 n2 c2] (Nat.le_of_ble_eq_true rfl) ?_
 refine CW.sub [(0, .agg (iv .u8 l0).toArray), (1, .int .u32 a1), (2, .slice A2 n2 c2)] ⟨rfl, rfl, rfl, trivial⟩ ?_
 obtain ⟨T, R, hT, hR, st0⟩ := St.start w
 refine CW.seq (CW.region ?_)
 refine WL.box st0 rfl rfl ?_
 intro B_1 w_2 st_3
 replace st_3 : St w w_2 (.cells B_1 (iv .u8 l0) 23 :: (T ++ R)) := st_3
 refine WL.alloc st_3 arr23.zero ?_
 intro B_5 w_6 st_7
 replace st_7 : St w w_6 (.cells B_5 (iv .u8 (List.replicate 32 (0 : Int))) 23 :: .cells B_1 (iv .u8 l0) 23 :: (T ++ R)) := st_7
 refine WL.nil (QW.then_n ?_)
 refine CW.seq ?_
 refine CW.region_aw wide st_7 (fun w_9 st_10 => ?_)
 refine AW.take 1 rfl (by kernel_rfl) (by kernel_rfl) (by kernel_rfl) Wanted.none (fun _ => (Runs.slice_arr arr23 rfl (by decide))) ?_
 refine AW.take 2 rfl (by kernel_rfl) (by kernel_rfl) (by kernel_rfl) Wanted.none (fun _ => (Runs.move rfl)) ?_
 refine AW.take 3 rfl (by kernel_rfl) (by kernel_rfl) (by kernel_rfl) Wanted.none (fun _ => (Runs.conv Tryd.underlying37 ⟨_, Tryd.underlying24⟩ rfl rfl)) ?_
 refine AW.take 5 rfl (by kernel_rfl) (by kernel_rfl) (by kernel_rfl) Wanted.none (fun _ => (Runs.move rfl)) ?_
 refine AW.step2 0 4 rfl rfl (by kernel_rfl) ?_ ?_
 ·refine WL.buildSl [.int .u8 255] st_10 Tryd.underlying25 elem5 rfl rfl (by decide) (by decide) (by simp [Value.cells]) ?_
  intro B_11 w_12 st_13
  replace st_13 : St w w_12 (.sl (some ⟨B_11, 0, none⟩) 1 1 (iv .u8 [255]) 5 1 :: .cells B_5 (iv .u8 (List.replicate 32 (0 : Int))) 23 :: .cells B_1 (iv .u8 l0) 23 :: (T ++ R)) := st_13
  refine WL.nil ?_
  refine AW.back ?_
  refine AW.step 4 rfl (by kernel_rfl) ?_
  obtain ⟨r_19, hr_15, H⟩ := H
  refine WL.call Wanted.none ent32 rfl (word_Put.calls w_12 (IntKind.u64.wrap a1) 4 r_19 hr_15) ?_
  rintro _ w_16 ⟨A_20, c_21, n_22, hn_23, rfl, sc_18⟩
  have st_17 : St w w_16 (.sl A_20 c_21 n_22 (iv .u8 r_19) 5 1 :: .sl (some ⟨B_11, 0, none⟩) 1 1 (iv .u8 [255]) 5 1 :: .cells B_5 (iv .u8 (List.replicate 32 (0 : Int))) 23 :: .cells B_1 (iv .u8 l0) 23 :: (T ++ R)) := st_13.call sc_18
  refine ⟨_, rfl, ?_⟩
  refine WL.nil ?_
  refine AW.back  ?_
  refine AW.step 6 rfl (by kernel_rfl) ?_
  have hb_29c := st_17.cap (i := 1) rfl
  obtain ⟨T_25, hs_26, hm_27, st_28⟩ := St.freeze (A := [_]) (B := [_, _]) (T := T) (R := R) st_17
  have hb_29 : HB w T_25 (some ⟨B_11, 0, none⟩) 1 1 (iv .u8 [255]) [255].length := ⟨rfl, hb_29c, Hd.of_sl hm_27⟩
  replace st_28 : St w w_16 (.sl A_20 c_21 n_22 (iv .u8 r_19) 5 1 :: .cells B_5 (iv .u8 (List.replicate 32 (0 : Int))) 23 :: .cells B_1 (iv .u8 l0) 23 :: (T_25 ++ R)) := st_28
  obtain ⟨T_30, hs_31, hm_32, st_33⟩ := St.freezeC (A := [_, _]) (B := []) (T := T_25) (R := R) st_28
  have hb_34 : HB w T_30 (some ⟨B_1, 0, none⟩) 32 32 (iv .u8 l0) l0.length := ⟨(hl0).symm, Nat.le_refl _, Hd.of_cells hm_32⟩
  replace st_33 : St w w_16 (.sl A_20 c_21 n_22 (iv .u8 r_19) 5 1 :: .cells B_5 (iv .u8 (List.replicate 32 (0 : Int))) 23 :: (T_30 ++ R)) := st_33
  have hb_39c := st_33.cap (i := 0) rfl
  obtain ⟨T_35, hs_36, hm_37, st_38⟩ := St.freeze (A := []) (B := [_]) (T := T_30) (R := R) st_33
  have hb_39 : HB w T_35 A_20 n_22 c_21 (iv .u8 r_19) r_19.length := ⟨hn_23, hb_39c, Hd.of_sl hm_37⟩
  replace st_38 : St w w_16 (.cells B_5 (iv .u8 (List.replicate 32 (0 : Int))) 23 :: (T_35 ++ R)) := st_38
  have hb_40 : HB w T_35 A2 n2 c2 (iv .u8 l2) l2.length := ⟨hn2, hc2, Hd.old hs2⟩
  refine WL.buildSl [.slice (some ⟨B_11, 0, none⟩) 1 1, .slice (some ⟨B_1, 0, none⟩) 32 32, .slice A_20 n_22 c_21, .slice A2 n2 c2] st_38 Tryd.underlying76 elem25 rfl rfl (by decide) (by decide) (by simp [Value.cells]) ?_
  intro B_41 w_42 st_43
  replace st_43 : St w w_42 (.sl (some ⟨B_41, 0, none⟩) 4 4 [.slice (some ⟨B_11, 0, none⟩) 1 1, .slice (some ⟨B_1, 0, none⟩) 32 32, .slice A_20 n_22 c_21, .slice A2 n2 c2] 25 1 :: .cells B_5 (iv .u8 (List.replicate 32 (0 : Int))) 23 :: (T_35 ++ R)) := st_43
  obtain ⟨x_45, e_46⟩ : ∃ x_ : Cs, x_ = [.slice (some ⟨B_11, 0, none⟩) 1 1, .slice (some ⟨B_1, 0, none⟩) 32 32, .slice A_20 n_22 c_21, .slice A2 n2 c2] := ⟨_, rfl⟩
  have hx_47 : HRs T_35 (f25 w) x_45 ([[255], l0, r_19, l2] : List R25) := by rw [e_46]; exact (HRs.cons (ms := ([.slice (some ⟨B_11, 0, none⟩) 1 1] : Cs)) (.cons ⟨_, _, _, rfl, (hb_29.mono (fun _ h_ => hs_36.1 _ (hs_31.1 _ h_)))⟩ .nil) (HRs.cons (ms := ([.slice (some ⟨B_1, 0, none⟩) 32 32] : Cs)) (.cons ⟨_, _, _, rfl, (hb_34.mono (fun _ h_ => hs_36.1 _ h_))⟩ .nil) (HRs.cons (ms := ([.slice A_20 n_22 c_21] : Cs)) (.cons ⟨_, _, _, rfl, hb_39⟩ .nil) (HRs.one (.cons ⟨_, _, _, rfl, hb_40⟩ .nil)))))
  replace st_43 : St w w_42 (.sl (some ⟨B_41, 0, none⟩) 4 4 x_45 25 1 :: .cells B_5 (iv .u8 (List.replicate 32 (0 : Int))) 23 :: (T_35 ++ R)) := by rw [e_46]; exact st_43
  refine WL.nil ?_
  refine AW.back  ?_
  refine AW.step 7 rfl (by kernel_rfl) ?_
  have st_48 : St w w_42 ((T_35 ++ (.sl (some ⟨B_41, 0, none⟩) 4 4 x_45 25 1 :: .cells B_5 (iv .u8 (List.replicate 32 (0 : Int))) 23 :: R))) := St.hide (A := []) (B := [_, _]) (T := T_35) (R := R) st_43
  obtain ⟨l_53, hr_49, H⟩ := H
  refine WL.call Wanted.none ent31 rfl (digest_Pieces.calls w w_42 T_35 (.sl (some ⟨B_41, 0, none⟩) 4 4 x_45 25 1 :: .cells B_5 (iv .u8 (List.replicate 32 (0 : Int))) 23 :: R) ([[255], l0, r_19, l2] : List R25) (some ⟨B_41, 0, none⟩) 4 4  st_48 hG0 (HS.mk rfl (st_43.cap (i := 0) rfl) (fun W_ L_ st hT => st.src_mem (hT _ (List.mem_append_right _ (List.mem_of_getElem? (i := 0) rfl)))) hx_47) l_53 hr_49) ?_
  rintro _ w_55 ⟨T_50, hs_51, hl_54, rfl, sc_57⟩
  have st_56 : St w w_55 (.sl (some ⟨B_41, 0, none⟩) 4 4 x_45 25 1 :: .cells B_5 (iv .u8 (List.replicate 32 (0 : Int))) 23 :: (T_50 ++ R)) := St.unhide (A := []) (B := [_, _]) (T := T_50) (R := R) sc_57
  refine ⟨_, rfl, ?_⟩
  refine WL.nil ?_
  refine AW.back  ?_
  refine AW.step 8 rfl (by kernel_rfl) ?_
  refine WL.store_arr (i := 1) st_56 rfl arr23 rfl (by rw [iv_length]; exact (List.length_replicate ..)) hl_54 rfl ?_
  intro w_58 st_59
  replace st_59 : St w w_58 (.sl (some ⟨B_41, 0, none⟩) 4 4 x_45 25 1 :: .cells B_5 (iv .u8 l_53) 23 :: (T_50 ++ R)) := st_59
  refine WL.nil ?_
  refine AW.back  ?_
  refine AW.done (by kernel_rfl) ?_
  refine QW.then_n ?_
  refine CW.sub [(6, .pointer (some ⟨B_5, 0, none⟩))] ⟨rfl, trivial⟩ ?_
  refine CW.ret ?_
  obtain rfl := H
  exact QW.retc rfl arr23 rfl (st_59.blk (i := 1) rfl) hl_54 ⟨hl_54, rfl, (St.front (A := []) (St.pickT (L := [_, _]) st_59 [] (by decide)))⟩
 ·obtain ⟨r_65, hr_61, H⟩ := H
  refine WL.call Wanted.none ent32 rfl (word_Put.calls w_9 (IntKind.u64.wrap a1) 4 r_65 hr_61) ?_
  rintro _ w_62 ⟨A_66, c_67, n_68, hn_69, rfl, sc_64⟩
  have st_63 : St w w_62 (.sl A_66 c_67 n_68 (iv .u8 r_65) 5 1 :: .cells B_5 (iv .u8 (List.replicate 32 (0 : Int))) 23 :: .cells B_1 (iv .u8 l0) 23 :: (T ++ R)) := st_10.call sc_64
  refine ⟨_, rfl, ?_⟩
  refine WL.nil ?_
  refine AW.back ?_
  refine AW.step 0 rfl (by kernel_rfl) ?_
  refine WL.buildSl [.int .u8 255] st_63 Tryd.underlying25 elem5 rfl rfl (by decide) (by decide) (by simp [Value.cells]) ?_
  intro B_71 w_72 st_73
  replace st_73 : St w w_72 (.sl (some ⟨B_71, 0, none⟩) 1 1 (iv .u8 [255]) 5 1 :: .sl A_66 c_67 n_68 (iv .u8 r_65) 5 1 :: .cells B_5 (iv .u8 (List.replicate 32 (0 : Int))) 23 :: .cells B_1 (iv .u8 l0) 23 :: (T ++ R)) := st_73
  refine WL.nil ?_
  refine AW.back  ?_
  refine AW.step 6 rfl (by kernel_rfl) ?_
  have hb_79c := st_73.cap (i := 0) rfl
  obtain ⟨T_75, hs_76, hm_77, st_78⟩ := St.freeze (A := []) (B := [_, _, _]) (T := T) (R := R) st_73
  have hb_79 : HB w T_75 (some ⟨B_71, 0, none⟩) 1 1 (iv .u8 [255]) [255].length := ⟨rfl, hb_79c, Hd.of_sl hm_77⟩
  replace st_78 : St w w_72 (.sl A_66 c_67 n_68 (iv .u8 r_65) 5 1 :: .cells B_5 (iv .u8 (List.replicate 32 (0 : Int))) 23 :: .cells B_1 (iv .u8 l0) 23 :: (T_75 ++ R)) := st_78
  obtain ⟨T_80, hs_81, hm_82, st_83⟩ := St.freezeC (A := [_, _]) (B := []) (T := T_75) (R := R) st_78
  have hb_84 : HB w T_80 (some ⟨B_1, 0, none⟩) 32 32 (iv .u8 l0) l0.length := ⟨(hl0).symm, Nat.le_refl _, Hd.of_cells hm_82⟩
  replace st_83 : St w w_72 (.sl A_66 c_67 n_68 (iv .u8 r_65) 5 1 :: .cells B_5 (iv .u8 (List.replicate 32 (0 : Int))) 23 :: (T_80 ++ R)) := st_83
  have hb_89c := st_83.cap (i := 0) rfl
  obtain ⟨T_85, hs_86, hm_87, st_88⟩ := St.freeze (A := []) (B := [_]) (T := T_80) (R := R) st_83
  have hb_89 : HB w T_85 A_66 n_68 c_67 (iv .u8 r_65) r_65.length := ⟨hn_69, hb_89c, Hd.of_sl hm_87⟩
  replace st_88 : St w w_72 (.cells B_5 (iv .u8 (List.replicate 32 (0 : Int))) 23 :: (T_85 ++ R)) := st_88
  have hb_90 : HB w T_85 A2 n2 c2 (iv .u8 l2) l2.length := ⟨hn2, hc2, Hd.old hs2⟩
  refine WL.buildSl [.slice (some ⟨B_71, 0, none⟩) 1 1, .slice (some ⟨B_1, 0, none⟩) 32 32, .slice A_66 n_68 c_67, .slice A2 n2 c2] st_88 Tryd.underlying76 elem25 rfl rfl (by decide) (by decide) (by simp [Value.cells]) ?_
  intro B_91 w_92 st_93
  replace st_93 : St w w_92 (.sl (some ⟨B_91, 0, none⟩) 4 4 [.slice (some ⟨B_71, 0, none⟩) 1 1, .slice (some ⟨B_1, 0, none⟩) 32 32, .slice A_66 n_68 c_67, .slice A2 n2 c2] 25 1 :: .cells B_5 (iv .u8 (List.replicate 32 (0 : Int))) 23 :: (T_85 ++ R)) := st_93
  obtain ⟨x_95, e_96⟩ : ∃ x_ : Cs, x_ = [.slice (some ⟨B_71, 0, none⟩) 1 1, .slice (some ⟨B_1, 0, none⟩) 32 32, .slice A_66 n_68 c_67, .slice A2 n2 c2] := ⟨_, rfl⟩
  have hx_97 : HRs T_85 (f25 w) x_95 ([[255], l0, r_65, l2] : List R25) := by rw [e_96]; exact (HRs.cons (ms := ([.slice (some ⟨B_71, 0, none⟩) 1 1] : Cs)) (.cons ⟨_, _, _, rfl, (hb_79.mono (fun _ h_ => hs_86.1 _ (hs_81.1 _ h_)))⟩ .nil) (HRs.cons (ms := ([.slice (some ⟨B_1, 0, none⟩) 32 32] : Cs)) (.cons ⟨_, _, _, rfl, (hb_84.mono (fun _ h_ => hs_86.1 _ h_))⟩ .nil) (HRs.cons (ms := ([.slice A_66 n_68 c_67] : Cs)) (.cons ⟨_, _, _, rfl, hb_89⟩ .nil) (HRs.one (.cons ⟨_, _, _, rfl, hb_90⟩ .nil)))))
  replace st_93 : St w w_92 (.sl (some ⟨B_91, 0, none⟩) 4 4 x_95 25 1 :: .cells B_5 (iv .u8 (List.replicate 32 (0 : Int))) 23 :: (T_85 ++ R)) := by rw [e_96]; exact st_93
  refine WL.nil ?_
  refine AW.back  ?_
  refine AW.step 7 rfl (by kernel_rfl) ?_
  have st_98 : St w w_92 ((T_85 ++ (.sl (some ⟨B_91, 0, none⟩) 4 4 x_95 25 1 :: .cells B_5 (iv .u8 (List.replicate 32 (0 : Int))) 23 :: R))) := St.hide (A := []) (B := [_, _]) (T := T_85) (R := R) st_93
  obtain ⟨l_103, hr_99, H⟩ := H
  refine WL.call Wanted.none ent31 rfl (digest_Pieces.calls w w_92 T_85 (.sl (some ⟨B_91, 0, none⟩) 4 4 x_95 25 1 :: .cells B_5 (iv .u8 (List.replicate 32 (0 : Int))) 23 :: R) ([[255], l0, r_65, l2] : List R25) (some ⟨B_91, 0, none⟩) 4 4  st_98 hG0 (HS.mk rfl (st_93.cap (i := 0) rfl) (fun W_ L_ st hT => st.src_mem (hT _ (List.mem_append_right _ (List.mem_of_getElem? (i := 0) rfl)))) hx_97) l_103 hr_99) ?_
  rintro _ w_105 ⟨T_100, hs_101, hl_104, rfl, sc_107⟩
  have st_106 : St w w_105 (.sl (some ⟨B_91, 0, none⟩) 4 4 x_95 25 1 :: .cells B_5 (iv .u8 (List.replicate 32 (0 : Int))) 23 :: (T_100 ++ R)) := St.unhide (A := []) (B := [_, _]) (T := T_100) (R := R) sc_107
  refine ⟨_, rfl, ?_⟩
  refine WL.nil ?_
  refine AW.back  ?_
  refine AW.step 8 rfl (by kernel_rfl) ?_
  refine WL.store_arr (i := 1) st_106 rfl arr23 rfl (by rw [iv_length]; exact (List.length_replicate ..)) hl_104 rfl ?_
  intro w_108 st_109
  replace st_109 : St w w_108 (.sl (some ⟨B_91, 0, none⟩) 4 4 x_95 25 1 :: .cells B_5 (iv .u8 l_103) 23 :: (T_100 ++ R)) := st_109
  refine WL.nil ?_
  refine AW.back  ?_
  refine AW.done (by kernel_rfl) ?_
  refine QW.then_n ?_
  refine CW.sub [(6, .pointer (some ⟨B_5, 0, none⟩))] ⟨rfl, trivial⟩ ?_
  refine CW.ret ?_
  obtain rfl := H
  exact QW.retc rfl arr23 rfl (st_109.blk (i := 1) rfl) hl_104 ⟨hl_104, rfl, (St.front (A := []) (St.pickT (L := [_, _]) st_109 [] (by decide)))⟩

/-! ### disk_Disk_fits: function 64 -/
def disk_Disk_fits.rel (l0_0 : List R25) (l0_1 : List R124) (a0_2 : Int) (a0_3 : Bool) (l0_4 : List R48) (a1 : Int) (l2 : List Int) (ls0_0 : List R25) (ls0_1 : List R124) (as0_2 : Int) (as0_3 : Bool) (ls0_4 : List R48) (ar0 : Int) : Prop := ((a1 < 0 ∧ ls0_0 = l0_0 ∧ ls0_1 = l0_1 ∧ as0_2 = a0_2 ∧ as0_3 = a0_3 ∧ ls0_4 = l0_4 ∧ ar0 = 12) ∨ (¬ (a1 < 0) ∧ ((a1 ≥ (l0_0.length : Int) ∧ ls0_0 = l0_0 ∧ ls0_1 = l0_1 ∧ as0_2 = a0_2 ∧ as0_3 = a0_3 ∧ ls0_4 = l0_4 ∧ ar0 = 12) ∨ (¬ (a1 ≥ (l0_0.length : Int)) ∧ (((l2.length : Int) ≠ 192 ∧ ls0_0 = l0_0 ∧ ls0_1 = l0_1 ∧ as0_2 = a0_2 ∧ as0_3 = a0_3 ∧ ls0_4 = l0_4 ∧ ar0 = 1) ∨ (¬ ((l2.length : Int) ≠ 192) ∧ ls0_0 = l0_0 ∧ ls0_1 = l0_1 ∧ as0_2 = a0_2 ∧ as0_3 = a0_3 ∧ ls0_4 = l0_4 ∧ ar0 = 0))))))
set_option maxHeartbeats 1000000 in
set_option maxRecDepth 100000 in
theorem disk_Disk_fits.calls (w w1 : World) (T R : Pool) (l0_0 : List R25) (l0_1 : List R124) (a0_2 : Int) (a0_3 : Bool) (l0_4 : List R48) (a1 : Int) (l2 : List Int) (b0 : Nat) (A0_0 : Option Addr) (n0_0 : Nat) (c0_0 : Nat) (x0_0 : Cs) (A0_1 : Option Addr) (n0_1 : Nat) (c0_1 : Nat) (x0_1 : Cs) (A0_4 : Option Addr) (n0_4 : Nat) (c0_4 : Nat) (x0_4 : Cs) (A2 : Option Addr) (n2 : Nat) (c2 : Nat) (st0 : St w w1 (.cells b0 (([.slice A0_0 n0_0 c0_0] : Cs) ++ (([.slice A0_1 n0_1 c0_1] : Cs) ++ (([.int .i64 a0_2] : Cs) ++ (([.bool a0_3] : Cs) ++ ([.slice A0_4 n0_4 c0_4] : Cs))))) 95 :: .sl A0_0 c0_0 n0_0 x0_0 25 1 :: .sl A0_1 c0_1 n0_1 x0_1 124 2 :: .sl A0_4 c0_4 n0_4 x0_4 48 2 :: (T ++ R))) (hn0_0 : n0_0 = l0_0.length) (hx0_0 : HRs T (f25 w) x0_0 l0_0) (hn0_1 : n0_1 = l0_1.length) (hx0_1 : HRs T (f124 w) x0_1 l0_1) (hn0_4 : n0_4 = l0_4.length) (hx0_4 : HRs T (f48 w) x0_4 l0_4) (hb2 : HB w (T ++ R) A2 n2 c2 (iv .u8 l2) l2.length) (ls0_0 : List R25) (ls0_1 : List R124) (as0_2 : Int) (as0_3 : Bool) (ls0_4 : List R48) (ar0 : Int) (H : disk_Disk_fits.rel l0_0 l0_1 a0_2 a0_3 l0_4 a1 l2 ls0_0 ls0_1 as0_2 as0_3 ls0_4 ar0) :
  Calls Tryd.prog 64 #[.pointer (some ⟨b0, 0, none⟩), .int .i64 a1, .slice A2 n2 c2] w1 fun e w' => ∃ T' As0_0 ns0_0 cs0_0 xs0_0 As0_1 ns0_1 cs0_1 xs0_1 As0_4 ns0_4 cs0_4 xs0_4, Pl T T' ∧ ns0_0 = ls0_0.length ∧ HRs T' (f25 w) xs0_0 ls0_0 ∧ ns0_1 = ls0_1.length ∧ HRs T' (f124 w) xs0_1 ls0_1 ∧ ns0_4 = ls0_4.length ∧ HRs T' (f48 w) xs0_4 ls0_4 ∧ e = .returned (.int .i64 ar0) ∧ St w w' (.cells b0 (([.slice As0_0 ns0_0 cs0_0] : Cs) ++ (([.slice As0_1 ns0_1 cs0_1] : Cs) ++ (([.int .i64 as0_2] : Cs) ++ (([.bool as0_3] : Cs) ++ ([.slice As0_4 ns0_4 cs0_4] : Cs))))) 95 :: .sl As0_0 cs0_0 ns0_0 xs0_0 25 1 :: .sl As0_1 cs0_1 ns0_1 xs0_1 124 2 :: .sl As0_4 cs0_4 ns0_4 xs0_4 48 2 :: (T' ++ R)) := by
 refine CW.enter Tryd.func64 rfl (n := 23) rfl [.pointer (some ⟨b0, 0, none⟩), .int .i64 a1, .slice A2 n2 c2] (Nat.le_of_ble_eq_true rfl) ?_
 refine CW.sub [(0, .pointer (some ⟨b0, 0, none⟩)), (1, .int .i64 a1), (2, .slice A2 n2 c2)] ⟨rfl, rfl, rfl, trivial⟩ ?_
 refine CW.seq (CW.region ?_)
 refine WL.val Wanted.none (Runs.assign rfl) ?_
 refine WL.nil (QW.then_n ?_)
 refine CW.seq ?_
 refine CW.block ?_
 refine CW.seq (CW.region ?_)
 refine WL.val Wanted.none (Runs.move rfl) ?_
 refine WL.val Wanted.none (Runs.lss rfl rfl rfl) ?_
 refine WL.val Wanted.none (Runs.move rfl) ?_
 rcases H with ⟨c_1, H⟩ | ⟨c_1, H⟩
 ·have h_2 : (decide (a1 < 0)) = true := (decide_eq_true c_1)
  refine WL.off ?_ ?_; exact Wanted.guard (dj := 10) (by rfl) (evb (by rfl) h_2) (by rfl)
  refine WL.off ?_ ?_; exact Wanted.guard (dj := 10) (by rfl) (evb (by rfl) h_2) (by rfl)
  refine WL.off ?_ ?_; exact Wanted.guard (dj := 10) (by rfl) (evb (by rfl) h_2) (by rfl)
  refine WL.off ?_ ?_; exact Wanted.guard (dj := 10) (by rfl) (evb (by rfl) h_2) (by rfl)
  refine WL.off ?_ ?_; exact Wanted.guard (dj := 10) (by rfl) (evb (by rfl) h_2) (by rfl)
  refine WL.off ?_ ?_; exact Wanted.guard (dj := 10) (by rfl) (evb (by rfl) h_2) (by rfl)
  refine WL.off ?_ ?_; exact Wanted.guard (dj := 10) (by rfl) (evb (by rfl) h_2) (by rfl)
  refine WL.val Wanted.none (Runs.pick_t (evb rfl h_2) rfl) ?_
  refine WL.val Wanted.none (Runs.assign rfl) ?_
  refine WL.nil (QW.then_n ?_)
  refine CW.sub [(2, .slice A2 n2 c2), (6, .int .i64 0), (7, .bool true)] ⟨rfl, rfl, rfl, trivial⟩ ?_
  refine CW.ct rfl rfl ?_
  refine CW.seq (CW.region ?_)
  refine WL.val Wanted.none (Runs.assign rfl) ?_
  refine WL.nil (QW.then_n ?_)
  refine CW.ret ?_
  refine QW.blk_r ?_
  refine QW.then_r ?_
  obtain ⟨rfl, rfl, rfl, rfl, rfl, rfl⟩ := H
  exact QW.ret1 rfl rfl ⟨T, A0_0, n0_0, c0_0, x0_0, A0_1, n0_1, c0_1, x0_1, A0_4, n0_4, c0_4, x0_4, Pl.refl, hn0_0, hx0_0, hn0_1, hx0_1, hn0_4, hx0_4, rfl, (St.pickT (L := [_, _, _, _]) st0 [0, 1, 2, 3] (by decide))⟩
 ·have h_2 : (decide (a1 < 0)) = false := (decide_eq_false c_1)
  refine WL.on ?_ ?_; exact Wanted.guard (dj := 10) (by rfl) (evb (by rfl) h_2) (by rfl)
  refine WL.val Wanted.none (Runs.move rfl) ?_
  refine WL.on ?_ ?_; exact Wanted.guard (dj := 10) (by rfl) (evb (by rfl) h_2) (by rfl)
  refine WL.val Wanted.none (Runs.move rfl) ?_
  refine WL.on ?_ ?_; exact Wanted.guard (dj := 10) (by rfl) (evb (by rfl) h_2) (by rfl)
  refine WL.val Wanted.none (Runs.nilCheck rfl) ?_
  refine WL.on ?_ ?_; exact Wanted.guard (dj := 10) (by rfl) (evb (by rfl) h_2) (by rfl)
  refine WL.val Wanted.none (Runs.fieldAddr (off := 0) (p := 0) fld95_0 rfl rfl rfl) ?_
  refine WL.on ?_ ?_; exact Wanted.guard (dj := 10) (by rfl) (evb (by rfl) h_2) (by rfl)
  refine WL.val Wanted.none (Runs.load nagg76 rfl (st0.cell (k := 0) rfl (part_one (u := .slice A0_0 n0_0 c0_0) (pre := (([] : Cs))) (post := (([.slice A0_1 n0_1 c0_1] : Cs) ++ (([.int .i64 a0_2] : Cs) ++ (([.bool a0_3] : Cs) ++ ([.slice A0_4 n0_4 c0_4] : Cs))))) (by first | rfl | simp only [List.append_assoc, List.append_nil, List.nil_append, List.cons_append]) (by first | rfl | simp only [List.length_append, List.length_cons, List.length_nil, iv_length])))) ?_
  refine WL.on ?_ ?_; exact Wanted.guard (dj := 10) (by rfl) (evb (by rfl) h_2) (by rfl)
  refine WL.val Wanted.none (Runs.len_sl Tryd.underlying76 rfl (by rw [hn0_0])) ?_
  refine WL.on ?_ ?_; exact Wanted.guard (dj := 10) (by rfl) (evb (by rfl) h_2) (by rfl)
  refine WL.val Wanted.none (Runs.geq rfl rfl rfl) ?_
  refine WL.val Wanted.none (Runs.pick_f (evb rfl h_2) rfl) ?_
  refine WL.val Wanted.none (Runs.assign rfl) ?_
  refine WL.nil (QW.then_n ?_)
  refine CW.sub [(2, .slice A2 n2 c2), (6, .int .i64 0), (7, .bool (decide (a1 ≥ (l0_0.length : Int))))] ⟨rfl, rfl, rfl, trivial⟩ ?_
  rcases H with ⟨c_3, H⟩ | ⟨c_3, H⟩
  ·have h_4 : (decide (a1 ≥ (l0_0.length : Int))) = true := (decide_eq_true c_3)
   refine CW.ct rfl h_4 ?_
   refine CW.seq (CW.region ?_)
   refine WL.val Wanted.none (Runs.assign rfl) ?_
   refine WL.nil (QW.then_n ?_)
   refine CW.ret ?_
   refine QW.blk_r ?_
   refine QW.then_r ?_
   obtain ⟨rfl, rfl, rfl, rfl, rfl, rfl⟩ := H
   exact QW.ret1 rfl rfl ⟨T, A0_0, n0_0, c0_0, x0_0, A0_1, n0_1, c0_1, x0_1, A0_4, n0_4, c0_4, x0_4, Pl.refl, hn0_0, hx0_0, hn0_1, hx0_1, hn0_4, hx0_4, rfl, (St.pickT (L := [_, _, _, _]) st0 [0, 1, 2, 3] (by decide))⟩
  ·have h_4 : (decide (a1 ≥ (l0_0.length : Int))) = false := (decide_eq_false c_3)
   refine CW.cf rfl h_4 ?_
   refine CW.seq (CW.region ?_)
   refine WL.val Wanted.none (Runs.move rfl) ?_
   refine WL.val Wanted.none (Runs.len_sl Tryd.underlying25 rfl (by rw [hb2.1])) ?_
   refine WL.val Wanted.none (Runs.neq rfl rfl rfl) ?_
   refine WL.val Wanted.none (Runs.assign rfl) ?_
   refine WL.nil (QW.then_n ?_)
   rcases H with ⟨c_5, H⟩ | ⟨c_5, H⟩
   ·have h_6 : ((l2.length : Int) != 192) = true := (bne_iff_ne.mpr c_5)
    refine CW.ct rfl h_6 ?_
    refine CW.seq (CW.region ?_)
    refine WL.val Wanted.none (Runs.assign rfl) ?_
    refine WL.nil (QW.then_n ?_)
    refine CW.sub [(6, .int .i64 1)] ⟨rfl, trivial⟩ ?_
    refine CW.ret ?_
    refine QW.blk_r ?_
    refine QW.then_r ?_
    obtain ⟨rfl, rfl, rfl, rfl, rfl, rfl⟩ := H
    exact QW.ret1 rfl rfl ⟨T, A0_0, n0_0, c0_0, x0_0, A0_1, n0_1, c0_1, x0_1, A0_4, n0_4, c0_4, x0_4, Pl.refl, hn0_0, hx0_0, hn0_1, hx0_1, hn0_4, hx0_4, rfl, (St.pickT (L := [_, _, _, _]) st0 [0, 1, 2, 3] (by decide))⟩
   ·have h_6 : ((l2.length : Int) != 192) = false := (bne_eq_false_iff_eq.mpr (Decidable.not_not.mp c_5))
    refine CW.cf rfl h_6 ?_
    refine CW.skip ?_
    refine QW.blk_n ?_
    refine QW.then_n ?_
    refine CW.sub [(6, .int .i64 0)] ⟨rfl, trivial⟩ ?_
    refine CW.seq (CW.region ?_)
    refine WL.val Wanted.none (Runs.assign rfl) ?_
    refine WL.nil (QW.then_n ?_)
    refine CW.ret ?_
    obtain ⟨rfl, rfl, rfl, rfl, rfl, rfl⟩ := H
    exact QW.ret1 rfl rfl ⟨T, A0_0, n0_0, c0_0, x0_0, A0_1, n0_1, c0_1, x0_1, A0_4, n0_4, c0_4, x0_4, Pl.refl, hn0_0, hx0_0, hn0_1, hx0_1, hn0_4, hx0_4, rfl, (St.pickT (L := [_, _, _, _]) st0 [0, 1, 2, 3] (by decide))⟩

/-! ### disk_Disk_Write: function 42 -/
def disk_Disk_Write.rel (l0_0 : List R25) (l0_1 : List R124) (a0_2 : Int) (a0_3 : Bool) (l0_4 : List R48) (a1 : Int) (l2 : List Int) (ls0_0 : List R25) (ls0_1 : List R124) (as0_2 : Int) (as0_3 : Bool) (ls0_4 : List R48) (ar0 : Int) : Prop := ((a0_3 = true ∧ ls0_0 = l0_0 ∧ ls0_1 = l0_1 ∧ as0_2 = a0_2 ∧ as0_3 = a0_3 ∧ ls0_4 = l0_4 ∧ ar0 = 13) ∨ (¬ (a0_3 = true) ∧ (∃ (l_10_0 : List R25) (l_10_1 : List R124) (a_14_2 : Int) (a_14_3 : Bool) (l_10_4 : List R48) (a_16 : Int), disk_Disk_fits.rel l0_0 l0_1 a0_2 a0_3 l0_4 a1 l2 l_10_0 l_10_1 a_14_2 a_14_3 l_10_4 a_16 ∧ ((a_16 ≠ 0 ∧ ls0_0 = l_10_0 ∧ ls0_1 = l_10_1 ∧ as0_2 = a_14_2 ∧ as0_3 = a_14_3 ∧ ls0_4 = l_10_4 ∧ ar0 = a_16) ∨ (¬ (a_16 ≠ 0) ∧ ((a_14_2 = 0 ∧ ls0_0 = l_10_0 ∧ ls0_1 = l_10_1 ∧ as0_2 = a_14_2 ∧ as0_3 = true ∧ ls0_4 = l_10_4 ∧ ar0 = 13) ∨ (¬ (a_14_2 = 0) ∧ ((a_14_2 > 0 ∧ (∃ (r_37 : List Int), slices_Clone_s_byte_byte.rel l2 r_37 ∧ (∃ m_62 : List R124, m_62 = l_10_1 ++ ([(a1, r_37)] : List R124) ∧ (m_62.length ≤ 1099511627776 ∧ (∃ m_90 : List R48, m_90 = l_10_4 ++ ([(2, a1)] : List R48) ∧ (m_90.length ≤ 1099511627776 ∧ ls0_0 = l_10_0 ∧ ls0_1 = m_62 ∧ as0_2 = IntKind.i64.wrap (a_14_2 - 1) ∧ as0_3 = a_14_3 ∧ ls0_4 = m_90 ∧ ar0 = 0)))))) ∨ (¬ (a_14_2 > 0) ∧ (∃ (r_111 : List Int), slices_Clone_s_byte_byte.rel l2 r_111 ∧ (∃ m_136 : List R124, m_136 = l_10_1 ++ ([(a1, r_111)] : List R124) ∧ (m_136.length ≤ 1099511627776 ∧ (∃ m_164 : List R48, m_164 = l_10_4 ++ ([(2, a1)] : List R48) ∧ (m_164.length ≤ 1099511627776 ∧ ls0_0 = l_10_0 ∧ ls0_1 = m_136 ∧ as0_2 = a_14_2 ∧ as0_3 = a_14_3 ∧ ls0_4 = m_164 ∧ ar0 = 0))))))))))))))
set_option maxHeartbeats 1000000 in
set_option maxRecDepth 100000 in
theorem disk_Disk_Write.calls (w w1 : World) (T R : Pool) (l0_0 : List R25) (l0_1 : List R124) (a0_2 : Int) (a0_3 : Bool) (l0_4 : List R48) (a1 : Int) (l2 : List Int) (b0 : Nat) (A0_0 : Option Addr) (n0_0 : Nat) (c0_0 : Nat) (x0_0 : Cs) (A0_1 : Option Addr) (n0_1 : Nat) (c0_1 : Nat) (x0_1 : Cs) (A0_4 : Option Addr) (n0_4 : Nat) (c0_4 : Nat) (x0_4 : Cs) (A2 : Option Addr) (n2 : Nat) (c2 : Nat) (st0 : St w w1 (.cells b0 (([.slice A0_0 n0_0 c0_0] : Cs) ++ (([.slice A0_1 n0_1 c0_1] : Cs) ++ (([.int .i64 a0_2] : Cs) ++ (([.bool a0_3] : Cs) ++ ([.slice A0_4 n0_4 c0_4] : Cs))))) 95 :: .sl A0_0 c0_0 n0_0 x0_0 25 1 :: .sl A0_1 c0_1 n0_1 x0_1 124 2 :: .sl A0_4 c0_4 n0_4 x0_4 48 2 :: (T ++ R))) (hn0_0 : n0_0 = l0_0.length) (hx0_0 : HRs T (f25 w) x0_0 l0_0) (hn0_1 : n0_1 = l0_1.length) (hx0_1 : HRs T (f124 w) x0_1 l0_1) (hn0_4 : n0_4 = l0_4.length) (hx0_4 : HRs T (f48 w) x0_4 l0_4) (hb2 : HB w (T ++ R) A2 n2 c2 (iv .u8 l2) l2.length) (ls0_0 : List R25) (ls0_1 : List R124) (as0_2 : Int) (as0_3 : Bool) (ls0_4 : List R48) (ar0 : Int) (H : disk_Disk_Write.rel l0_0 l0_1 a0_2 a0_3 l0_4 a1 l2 ls0_0 ls0_1 as0_2 as0_3 ls0_4 ar0) :
  Calls Tryd.prog 42 #[.pointer (some ⟨b0, 0, none⟩), .int .i64 a1, .slice A2 n2 c2] w1 fun e w' => ∃ T' As0_0 ns0_0 cs0_0 xs0_0 As0_1 ns0_1 cs0_1 xs0_1 As0_4 ns0_4 cs0_4 xs0_4, Pl T T' ∧ ns0_0 = ls0_0.length ∧ HRs T' (f25 w) xs0_0 ls0_0 ∧ ns0_1 = ls0_1.length ∧ HRs T' (f124 w) xs0_1 ls0_1 ∧ ns0_4 = ls0_4.length ∧ HRs T' (f48 w) xs0_4 ls0_4 ∧ e = .returned (.int .i64 ar0) ∧ St w w' (.cells b0 (([.slice As0_0 ns0_0 cs0_0] : Cs) ++ (([.slice As0_1 ns0_1 cs0_1] : Cs) ++ (([.int .i64 as0_2] : Cs) ++ (([.bool as0_3] : Cs) ++ ([.slice As0_4 ns0_4 cs0_4] : Cs))))) 95 :: .sl As0_0 cs0_0 ns0_0 xs0_0 25 1 :: .sl As0_1 cs0_1 ns0_1 xs0_1 124 2 :: .sl As0_4 cs0_4 ns0_4 xs0_4 48 2 :: (T' ++ R)) := by
 refine CW.enter Tryd.func42 rfl (n := 67) rfl [.pointer (some ⟨b0, 0, none⟩), .int .i64 a1, .slice A2 n2 c2] (Nat.le_of_ble_eq_true rfl) ?_
 refine CW.sub [(0, .pointer (some ⟨b0, 0, none⟩)), (1, .int .i64 a1), (2, .slice A2 n2 c2)] ⟨rfl, rfl, rfl, trivial⟩ ?_
 refine CW.seq (CW.region ?_)
 refine WL.val Wanted.none (Runs.assign rfl) ?_
 refine WL.nil (QW.then_n ?_)
 refine CW.seq ?_
 refine CW.block ?_
 refine CW.seq (CW.region ?_)
 refine WL.val Wanted.none (Runs.move rfl) ?_
 refine WL.val Wanted.none (Runs.eql_ptr Tryd.underlying30 rfl rfl rfl) ?_
 refine WL.val Wanted.none (Runs.assign rfl) ?_
 refine WL.nil (QW.then_n ?_)
 refine CW.cf rfl rfl ?_
 refine CW.seq (CW.region ?_)
 refine WL.val Wanted.none (Runs.move rfl) ?_
 refine WL.val Wanted.none (Runs.nilCheck rfl) ?_
 refine WL.val Wanted.none (Runs.fieldAddr (off := 3) (p := 3) fld95_3 rfl rfl rfl) ?_
 refine WL.val Wanted.none (Runs.load nagg4 rfl (st0.cell (k := 0) rfl (part_one (u := .bool a0_3) (pre := (([.slice A0_0 n0_0 c0_0] : Cs) ++ (([.slice A0_1 n0_1 c0_1] : Cs) ++ ([.int .i64 a0_2] : Cs)))) (post := (([.slice A0_4 n0_4 c0_4] : Cs))) (by first | rfl | simp only [List.append_assoc, List.append_nil, List.nil_append, List.cons_append]) (by first | rfl | simp only [List.length_append, List.length_cons, List.length_nil, iv_length])))) ?_
 refine WL.val Wanted.none (Runs.assign rfl) ?_
 refine WL.nil (QW.then_n ?_)
 refine CW.sub [(0, .pointer (some ⟨b0, 0, none⟩)), (1, .int .i64 a1), (2, .slice A2 n2 c2), (6, .int .i64 0), (11, .bool a0_3)] ⟨rfl, rfl, rfl, rfl, rfl, trivial⟩ ?_
 rcases H with ⟨c_1, H⟩ | ⟨c_1, H⟩
 ·have h_2 : a0_3 = true := c_1
  refine CW.ct rfl h_2 ?_
  refine CW.seq (CW.region ?_)
  refine WL.val Wanted.none (Runs.assign rfl) ?_
  refine WL.nil (QW.then_n ?_)
  refine CW.ret ?_
  refine QW.blk_r ?_
  refine QW.then_r ?_
  obtain ⟨rfl, rfl, rfl, rfl, rfl, rfl⟩ := H
  exact QW.ret1 rfl rfl ⟨T, A0_0, n0_0, c0_0, x0_0, A0_1, n0_1, c0_1, x0_1, A0_4, n0_4, c0_4, x0_4, Pl.refl, hn0_0, hx0_0, hn0_1, hx0_1, hn0_4, hx0_4, rfl, (St.pickT (L := [_, _, _, _]) st0 [0, 1, 2, 3] (by decide))⟩
 ·have h_2 : a0_3 = false := (Bool.eq_false_iff.mpr c_1)
  refine CW.cf rfl h_2 ?_
  refine CW.skip ?_
  refine QW.blk_n ?_
  refine QW.then_n ?_
  refine CW.seq ?_
  refine CW.seq (CW.region ?_)
  refine WL.val Wanted.none (Runs.move rfl) ?_
  refine WL.val Wanted.none (Runs.move rfl) ?_
  refine WL.val Wanted.none (Runs.move rfl) ?_
  have st_3 : St w w1 (.cells b0 (([.slice A0_0 n0_0 c0_0] : Cs) ++ (([.slice A0_1 n0_1 c0_1] : Cs) ++ (([.int .i64 a0_2] : Cs) ++ (([.bool a0_3] : Cs) ++ ([.slice A0_4 n0_4 c0_4] : Cs))))) 95 :: .sl A0_0 c0_0 n0_0 x0_0 25 1 :: .sl A0_1 c0_1 n0_1 x0_1 124 2 :: .sl A0_4 c0_4 n0_4 x0_4 48 2 :: (T ++ (R))) := St.hide (A := [_, _, _, _]) (B := []) (T := T) (R := R) st0
  obtain ⟨l_10_0, l_10_1, a_14_2, a_14_3, l_10_4, a_16, hr_4, H⟩ := H
  refine WL.call Wanted.none ent64 rfl (disk_Disk_fits.calls w w1 T (R) l0_0 l0_1 a0_2 a0_3 l0_4 a1 l2 b0 A0_0 n0_0 c0_0 x0_0 A0_1 n0_1 c0_1 x0_1 A0_4 n0_4 c0_4 x0_4 A2 n2 c2  st_3 (hn0_0) hx0_0 (hn0_1) hx0_1 (hn0_4) hx0_4 (hb2.mono (memo_TR (B := []) (fun _ h_ => h_))) l_10_0 l_10_1 a_14_2 a_14_3 l_10_4 a_16 hr_4) ?_
  rintro _ w_17 ⟨T_5, A_7_0, n_8_0, c_9_0, x_11_0, A_7_1, n_8_1, c_9_1, x_11_1, A_7_4, n_8_4, c_9_4, x_11_4, hs_6, hn_12_0, hx_13_0, hn_12_1, hx_13_1, hn_12_4, hx_13_4, rfl, sc_19⟩
  have st_18 : St w w_17 (.cells b0 (([.slice A_7_0 n_8_0 c_9_0] : Cs) ++ (([.slice A_7_1 n_8_1 c_9_1] : Cs) ++ (([.int .i64 a_14_2] : Cs) ++ (([.bool a_14_3] : Cs) ++ ([.slice A_7_4 n_8_4 c_9_4] : Cs))))) 95 :: .sl A_7_0 c_9_0 n_8_0 x_11_0 25 1 :: .sl A_7_1 c_9_1 n_8_1 x_11_1 124 2 :: .sl A_7_4 c_9_4 n_8_4 x_11_4 48 2 :: (T_5 ++ R)) := St.unhide (A := [_, _, _, _]) (B := []) (T := T_5) (R := R) sc_19
  refine ⟨_, rfl, ?_⟩
  refine WL.val Wanted.none (Runs.assign rfl) ?_
  refine WL.nil (QW.then_n ?_)
  refine CW.seq (CW.region ?_)
  refine WL.val Wanted.none (Runs.move rfl) ?_
  refine WL.val Wanted.none (Runs.neq rfl rfl rfl) ?_
  refine WL.nil (QW.then_n ?_)
  refine CW.sub [(0, .pointer (some ⟨b0, 0, none⟩)), (1, .int .i64 a1), (2, .slice A2 n2 c2), (6, .int .i64 0), (7, .int .i64 a_16), (21, .bool (a_16 != 0))] (by repeat' constructor) ?_
  rcases H with ⟨c_20, H⟩ | ⟨c_20, H⟩
  ·have h_21 : (a_16 != 0) = true := (bne_iff_ne.mpr c_20)
   refine CW.ct rfl h_21 ?_
   refine CW.seq (CW.region ?_)
   refine WL.val Wanted.none (Runs.move rfl) ?_
   refine WL.val Wanted.none (Runs.assign rfl) ?_
   refine WL.nil (QW.then_n ?_)
   refine CW.ret ?_
   refine QW.then_r ?_
   obtain ⟨rfl, rfl, rfl, rfl, rfl, rfl⟩ := H
   exact QW.ret1 rfl rfl ⟨T_5, A_7_0, n_8_0, c_9_0, x_11_0, A_7_1, n_8_1, c_9_1, x_11_1, A_7_4, n_8_4, c_9_4, x_11_4, hs_6, hn_12_0, hx_13_0, hn_12_1, hx_13_1, hn_12_4, hx_13_4, rfl, (St.pickT (L := [_, _, _, _]) st_18 [0, 1, 2, 3] (by decide))⟩
  ·have h_21 : (a_16 != 0) = false := (bne_eq_false_iff_eq.mpr (Decidable.not_not.mp c_20))
   refine CW.cf rfl h_21 ?_
   refine CW.skip ?_
   refine QW.then_n ?_
   refine CW.seq ?_
   refine CW.seq (CW.region ?_)
   refine WL.val Wanted.none (Runs.move rfl) ?_
   refine WL.val Wanted.none (Runs.nilCheck rfl) ?_
   refine WL.val Wanted.none (Runs.fieldAddr (off := 2) (p := 2) fld95_2 rfl rfl rfl) ?_
   refine WL.val Wanted.none (Runs.load nagg3 rfl (st_18.cell (k := 0) rfl (part_one (u := .int .i64 a_14_2) (pre := (([.slice A_7_0 n_8_0 c_9_0] : Cs) ++ ([.slice A_7_1 n_8_1 c_9_1] : Cs))) (post := (([.bool a_14_3] : Cs) ++ ([.slice A_7_4 n_8_4 c_9_4] : Cs))) (by first | rfl | simp only [List.append_assoc, List.append_nil, List.nil_append, List.cons_append]) (by first | rfl | simp only [List.length_append, List.length_cons, List.length_nil, iv_length])))) ?_
   refine WL.val Wanted.none (Runs.eql rfl rfl rfl) ?_
   refine WL.nil (QW.then_n ?_)
   refine CW.sub [(0, .pointer (some ⟨b0, 0, none⟩)), (1, .int .i64 a1), (2, .slice A2 n2 c2), (6, .int .i64 0), (27, .bool (a_14_2 == 0))] ⟨rfl, rfl, rfl, rfl, rfl, trivial⟩ ?_
   rcases H with ⟨c_22, H⟩ | ⟨c_22, H⟩
   ·have h_23 : (a_14_2 == 0) = true := (beq_iff_eq.mpr c_22)
    refine CW.ct rfl h_23 ?_
    refine CW.seq (CW.region ?_)
    refine WL.val Wanted.none (Runs.move rfl) ?_
    refine WL.val Wanted.none (Runs.nilCheck rfl) ?_
    refine WL.val Wanted.none (Runs.fieldAddr (off := 3) (p := 3) fld95_3 rfl rfl rfl) ?_
    refine WL.store_one (i := 0) (u0 := .bool a_14_3) (pre := (([.slice A_7_0 n_8_0 c_9_0] : Cs) ++ (([.slice A_7_1 n_8_1 c_9_1] : Cs) ++ ([.int .i64 a_14_2] : Cs)))) (post := (([.slice A_7_4 n_8_4 c_9_4] : Cs))) st_18 rfl cells4 (by first | rfl | simp only [List.append_assoc, List.append_nil, List.nil_append, List.cons_append]) (by first | rfl | simp only [List.length_append, List.length_cons, List.length_nil, iv_length]) rfl rfl rfl ?_
    intro w_24 st_25
    replace st_25 : St w w_24 (.cells b0 (([.slice A_7_0 n_8_0 c_9_0] : Cs) ++ (([.slice A_7_1 n_8_1 c_9_1] : Cs) ++ (([.int .i64 a_14_2] : Cs) ++ (([.bool true] : Cs) ++ ([.slice A_7_4 n_8_4 c_9_4] : Cs))))) 95 :: .sl A_7_0 c_9_0 n_8_0 x_11_0 25 1 :: .sl A_7_1 c_9_1 n_8_1 x_11_1 124 2 :: .sl A_7_4 c_9_4 n_8_4 x_11_4 48 2 :: (T_5 ++ R)) := by have e_ : (([.slice A_7_0 n_8_0 c_9_0] : Cs) ++ (([.slice A_7_1 n_8_1 c_9_1] : Cs) ++ (([.int .i64 a_14_2] : Cs) ++ (([.bool true] : Cs) ++ ([.slice A_7_4 n_8_4 c_9_4] : Cs))))) = (([.slice A_7_0 n_8_0 c_9_0] : Cs) ++ (([.slice A_7_1 n_8_1 c_9_1] : Cs) ++ ([.int .i64 a_14_2] : Cs))) ++ ((([.bool true] : Cs)) ++ (([.slice A_7_4 n_8_4 c_9_4] : Cs))) := (by first | rfl | simp only [List.append_assoc, List.append_nil, List.nil_append, List.cons_append]); have h_ : St w w_24 (.cells b0 ((([.slice A_7_0 n_8_0 c_9_0] : Cs) ++ (([.slice A_7_1 n_8_1 c_9_1] : Cs) ++ ([.int .i64 a_14_2] : Cs))) ++ ((([.bool true] : Cs)) ++ (([.slice A_7_4 n_8_4 c_9_4] : Cs)))) 95 :: .sl A_7_0 c_9_0 n_8_0 x_11_0 25 1 :: .sl A_7_1 c_9_1 n_8_1 x_11_1 124 2 :: .sl A_7_4 c_9_4 n_8_4 x_11_4 48 2 :: (T_5 ++ R)) := st_25; rw [← e_] at h_; exact h_
    refine WL.nil (QW.then_n ?_)
    refine CW.seq (CW.region ?_)
    refine WL.val Wanted.none (Runs.assign rfl) ?_
    refine WL.nil (QW.then_n ?_)
    refine CW.ret ?_
    refine QW.then_r ?_
    obtain ⟨rfl, rfl, rfl, rfl, rfl, rfl⟩ := H
    exact QW.ret1 rfl rfl ⟨T_5, A_7_0, n_8_0, c_9_0, x_11_0, A_7_1, n_8_1, c_9_1, x_11_1, A_7_4, n_8_4, c_9_4, x_11_4, hs_6, hn_12_0, hx_13_0, hn_12_1, hx_13_1, hn_12_4, hx_13_4, rfl, (St.pickT (L := [_, _, _, _]) st_25 [0, 1, 2, 3] (by decide))⟩
   ·have h_23 : (a_14_2 == 0) = false := (beq_eq_false_iff_ne.mpr c_22)
    refine CW.cf rfl h_23 ?_
    refine CW.skip ?_
    refine QW.then_n ?_
    refine CW.seq ?_
    refine CW.seq (CW.region ?_)
    refine WL.val Wanted.none (Runs.move rfl) ?_
    refine WL.val Wanted.none (Runs.nilCheck rfl) ?_
    refine WL.val Wanted.none (Runs.fieldAddr (off := 2) (p := 2) fld95_2 rfl rfl rfl) ?_
    refine WL.val Wanted.none (Runs.load nagg3 rfl (st_18.cell (k := 0) rfl (part_one (u := .int .i64 a_14_2) (pre := (([.slice A_7_0 n_8_0 c_9_0] : Cs) ++ ([.slice A_7_1 n_8_1 c_9_1] : Cs))) (post := (([.bool a_14_3] : Cs) ++ ([.slice A_7_4 n_8_4 c_9_4] : Cs))) (by first | rfl | simp only [List.append_assoc, List.append_nil, List.nil_append, List.cons_append]) (by first | rfl | simp only [List.length_append, List.length_cons, List.length_nil, iv_length])))) ?_
    refine WL.val Wanted.none (Runs.gtr rfl rfl rfl) ?_
    refine WL.nil (QW.then_n ?_)
    rcases H with ⟨c_26, H⟩ | ⟨c_26, H⟩
    ·have h_27 : (decide (a_14_2 > 0)) = true := (decide_eq_true c_26)
     refine CW.ct rfl h_27 ?_
     refine CW.region ?_
     refine WL.val Wanted.none (Runs.move rfl) ?_
     refine WL.val Wanted.none (Runs.nilCheck rfl) ?_
     refine WL.val Wanted.none (Runs.fieldAddr (off := 2) (p := 2) fld95_2 rfl rfl rfl) ?_
     refine WL.val Wanted.none (Runs.load nagg3 rfl (st_18.cell (k := 0) rfl (part_one (u := .int .i64 a_14_2) (pre := (([.slice A_7_0 n_8_0 c_9_0] : Cs) ++ ([.slice A_7_1 n_8_1 c_9_1] : Cs))) (post := (([.bool a_14_3] : Cs) ++ ([.slice A_7_4 n_8_4 c_9_4] : Cs))) (by first | rfl | simp only [List.append_assoc, List.append_nil, List.nil_append, List.cons_append]) (by first | rfl | simp only [List.length_append, List.length_cons, List.length_nil, iv_length])))) ?_
     refine WL.val Wanted.none (Runs.sub rfl rfl rfl) ?_
     refine WL.val Wanted.none (Runs.nilCheck rfl) ?_
     refine WL.val Wanted.none (Runs.fieldAddr (off := 2) (p := 2) fld95_2 rfl rfl rfl) ?_
     refine WL.store_one (i := 0) (u0 := .int .i64 a_14_2) (pre := (([.slice A_7_0 n_8_0 c_9_0] : Cs) ++ ([.slice A_7_1 n_8_1 c_9_1] : Cs))) (post := (([.bool a_14_3] : Cs) ++ ([.slice A_7_4 n_8_4 c_9_4] : Cs))) st_18 rfl cells3 (by first | rfl | simp only [List.append_assoc, List.append_nil, List.nil_append, List.cons_append]) (by first | rfl | simp only [List.length_append, List.length_cons, List.length_nil, iv_length]) rfl rfl rfl ?_
     intro w_28 st_29
     replace st_29 : St w w_28 (.cells b0 (([.slice A_7_0 n_8_0 c_9_0] : Cs) ++ (([.slice A_7_1 n_8_1 c_9_1] : Cs) ++ (([.int .i64 (IntKind.i64.wrap (a_14_2 - 1))] : Cs) ++ (([.bool a_14_3] : Cs) ++ ([.slice A_7_4 n_8_4 c_9_4] : Cs))))) 95 :: .sl A_7_0 c_9_0 n_8_0 x_11_0 25 1 :: .sl A_7_1 c_9_1 n_8_1 x_11_1 124 2 :: .sl A_7_4 c_9_4 n_8_4 x_11_4 48 2 :: (T_5 ++ R)) := by have e_ : (([.slice A_7_0 n_8_0 c_9_0] : Cs) ++ (([.slice A_7_1 n_8_1 c_9_1] : Cs) ++ (([.int .i64 (IntKind.i64.wrap (a_14_2 - 1))] : Cs) ++ (([.bool a_14_3] : Cs) ++ ([.slice A_7_4 n_8_4 c_9_4] : Cs))))) = (([.slice A_7_0 n_8_0 c_9_0] : Cs) ++ ([.slice A_7_1 n_8_1 c_9_1] : Cs)) ++ ((([.int .i64 (IntKind.i64.wrap (a_14_2 - 1))] : Cs)) ++ (([.bool a_14_3] : Cs) ++ ([.slice A_7_4 n_8_4 c_9_4] : Cs))) := (by first | rfl | simp only [List.append_assoc, List.append_nil, List.nil_append, List.cons_append]); have h_ : St w w_28 (.cells b0 ((([.slice A_7_0 n_8_0 c_9_0] : Cs) ++ ([.slice A_7_1 n_8_1 c_9_1] : Cs)) ++ ((([.int .i64 (IntKind.i64.wrap (a_14_2 - 1))] : Cs)) ++ (([.bool a_14_3] : Cs) ++ ([.slice A_7_4 n_8_4 c_9_4] : Cs)))) 95 :: .sl A_7_0 c_9_0 n_8_0 x_11_0 25 1 :: .sl A_7_1 c_9_1 n_8_1 x_11_1 124 2 :: .sl A_7_4 c_9_4 n_8_4 x_11_4 48 2 :: (T_5 ++ R)) := st_29; rw [← e_] at h_; exact h_
     refine WL.nil (QW.then_n ?_)
     refine CW.sub [(0, .pointer (some ⟨b0, 0, none⟩)), (1, .int .i64 a1), (2, .slice A2 n2 c2), (6, .int .i64 0)] ⟨rfl, rfl, rfl, rfl, trivial⟩ ?_
     refine CW.seq ?_
     refine CW.region_awh (C := fun w_ => St w w_ (.cells b0 (([.slice A_7_0 n_8_0 c_9_0] : Cs) ++ (([.slice A_7_1 n_8_1 c_9_1] : Cs) ++ (([.int .i64 (IntKind.i64.wrap (a_14_2 - 1))] : Cs) ++ (([.bool a_14_3] : Cs) ++ ([.slice A_7_4 n_8_4 c_9_4] : Cs))))) 95 :: .sl A_7_0 c_9_0 n_8_0 x_11_0 25 1 :: .sl A_7_4 c_9_4 n_8_4 x_11_4 48 2 :: (T_5 ++ R))) 11 wide (by kernel_rfl) st_29 (fun w_30 st_31 => ?_)
     have st_32 : St w w_30 (.cells b0 (([.slice A_7_0 n_8_0 c_9_0] : Cs) ++ (([.slice A_7_1 n_8_1 c_9_1] : Cs) ++ (([.int .i64 (IntKind.i64.wrap (a_14_2 - 1))] : Cs) ++ (([.bool a_14_3] : Cs) ++ ([.slice A_7_4 n_8_4 c_9_4] : Cs))))) 95 :: .sl A_7_0 c_9_0 n_8_0 x_11_0 25 1 :: .sl A_7_4 c_9_4 n_8_4 x_11_4 48 2 :: (T_5 ++ R)) := (St.pickT (L := [_, _, _, _]) st_31 [0, 1, 3] (by decide))
     refine AWH.take 0 rfl (by decide) (by kernel_rfl) (by kernel_rfl) (St.subset st_32 st_31 (List.forall_mem_cons.2 ⟨List.mem_of_getElem? (i := 0) rfl, (List.forall_mem_cons.2 ⟨List.mem_of_getElem? (i := 1) rfl, (List.forall_mem_cons.2 ⟨List.mem_of_getElem? (i := 3) rfl, (mem_TR (A := [_, _, _, _]) (fun _ h_ => h_))⟩)⟩)⟩)) Wanted.none (fun wq sq => (Runs.move rfl)) ?_
     refine AWH.take 1 rfl (by decide) (by kernel_rfl) (by kernel_rfl) (St.subset st_32 st_31 (List.forall_mem_cons.2 ⟨List.mem_of_getElem? (i := 0) rfl, (List.forall_mem_cons.2 ⟨List.mem_of_getElem? (i := 1) rfl, (List.forall_mem_cons.2 ⟨List.mem_of_getElem? (i := 3) rfl, (mem_TR (A := [_, _, _, _]) (fun _ h_ => h_))⟩)⟩)⟩)) Wanted.none (fun wq sq => (Runs.move rfl)) ?_
     refine AWH.take 2 rfl (by decide) (by kernel_rfl) (by kernel_rfl) (St.subset st_32 st_31 (List.forall_mem_cons.2 ⟨List.mem_of_getElem? (i := 0) rfl, (List.forall_mem_cons.2 ⟨List.mem_of_getElem? (i := 1) rfl, (List.forall_mem_cons.2 ⟨List.mem_of_getElem? (i := 3) rfl, (mem_TR (A := [_, _, _, _]) (fun _ h_ => h_))⟩)⟩)⟩)) Wanted.none (fun wq sq => (Runs.nilCheck rfl)) ?_
     refine AWH.take 3 rfl (by decide) (by kernel_rfl) (by kernel_rfl) (St.subset st_32 st_31 (List.forall_mem_cons.2 ⟨List.mem_of_getElem? (i := 0) rfl, (List.forall_mem_cons.2 ⟨List.mem_of_getElem? (i := 1) rfl, (List.forall_mem_cons.2 ⟨List.mem_of_getElem? (i := 3) rfl, (mem_TR (A := [_, _, _, _]) (fun _ h_ => h_))⟩)⟩)⟩)) Wanted.none (fun wq sq => (Runs.fieldAddr (off := 1) (p := 1) fld95_1 rfl rfl rfl)) ?_
     refine AWH.take 4 rfl (by decide) (by kernel_rfl) (by kernel_rfl) (St.subset st_32 st_31 (List.forall_mem_cons.2 ⟨List.mem_of_getElem? (i := 0) rfl, (List.forall_mem_cons.2 ⟨List.mem_of_getElem? (i := 1) rfl, (List.forall_mem_cons.2 ⟨List.mem_of_getElem? (i := 3) rfl, (mem_TR (A := [_, _, _, _]) (fun _ h_ => h_))⟩)⟩)⟩)) Wanted.none (fun wq sq => (Runs.load nagg93 rfl (sq.cell (k := 0) rfl (part_one (u := .slice A_7_1 n_8_1 c_9_1) (pre := (([.slice A_7_0 n_8_0 c_9_0] : Cs))) (post := (([.int .i64 (IntKind.i64.wrap (a_14_2 - 1))] : Cs) ++ (([.bool a_14_3] : Cs) ++ ([.slice A_7_4 n_8_4 c_9_4] : Cs)))) (by first | rfl | simp only [List.append_assoc, List.append_nil, List.nil_append, List.cons_append]) (by first | rfl | simp only [List.length_append, List.length_cons, List.length_nil, iv_length]))))) ?_
     refine AWH.take 5 rfl (by decide) (by kernel_rfl) (by kernel_rfl) (St.subset st_32 st_31 (List.forall_mem_cons.2 ⟨List.mem_of_getElem? (i := 0) rfl, (List.forall_mem_cons.2 ⟨List.mem_of_getElem? (i := 1) rfl, (List.forall_mem_cons.2 ⟨List.mem_of_getElem? (i := 3) rfl, (mem_TR (A := [_, _, _, _]) (fun _ h_ => h_))⟩)⟩)⟩)) Wanted.none (fun wq sq => (Runs.move rfl)) ?_
     refine AWH.take 6 rfl (by decide) (by kernel_rfl) (by kernel_rfl) (St.subset st_32 st_31 (List.forall_mem_cons.2 ⟨List.mem_of_getElem? (i := 0) rfl, (List.forall_mem_cons.2 ⟨List.mem_of_getElem? (i := 1) rfl, (List.forall_mem_cons.2 ⟨List.mem_of_getElem? (i := 3) rfl, (mem_TR (A := [_, _, _, _]) (fun _ h_ => h_))⟩)⟩)⟩)) Wanted.none (fun wq sq => (Runs.move rfl)) ?_
     refine AWH.step 7 rfl (by decide) (by kernel_rfl) (fun inv_ hs_ hk_ hc_ hn_ => ?_)
     obtain ⟨r_37, hr_33, H⟩ := H
     refine WL.call Wanted.none ent48 rfl (slices_Clone_s_byte_byte.calls w_30 l2 A2 n2 c2 ((hb2.2.2.at st_31 (mem_TR (A := [_, _, _, _]) (fun _ h_ => hs_6.1 _ h_)))) (hb2.1) (hb2.2.1) r_37 hr_33) ?_
     rintro _ w_34 ⟨A_38, c_39, n_40, hn_41, rfl, sc_36⟩
     have st_35 : St w w_34 (.sl A_38 c_39 n_40 (iv .u8 r_37) 5 1 :: .cells b0 (([.slice A_7_0 n_8_0 c_9_0] : Cs) ++ (([.slice A_7_1 n_8_1 c_9_1] : Cs) ++ (([.int .i64 (IntKind.i64.wrap (a_14_2 - 1))] : Cs) ++ (([.bool a_14_3] : Cs) ++ ([.slice A_7_4 n_8_4 c_9_4] : Cs))))) 95 :: .sl A_7_0 c_9_0 n_8_0 x_11_0 25 1 :: .sl A_7_1 c_9_1 n_8_1 x_11_1 124 2 :: .sl A_7_4 c_9_4 n_8_4 x_11_4 48 2 :: (T_5 ++ R)) := st_31.call sc_36
     refine ⟨_, rfl, ?_⟩
     refine WL.nil ?_
     refine AWH.back (St.subset st_32 st_35 (List.forall_mem_cons.2 ⟨List.mem_of_getElem? (i := 1) rfl, (List.forall_mem_cons.2 ⟨List.mem_of_getElem? (i := 2) rfl, (List.forall_mem_cons.2 ⟨List.mem_of_getElem? (i := 4) rfl, (mem_TR (A := [_, _, _, _, _]) (fun _ h_ => h_))⟩)⟩)⟩)) inv_ hs_ hk_ hc_ hn_ ?_
     refine AWH.take 8 rfl (by decide) (by kernel_rfl) (by kernel_rfl) (St.subset st_32 st_35 (List.forall_mem_cons.2 ⟨List.mem_of_getElem? (i := 1) rfl, (List.forall_mem_cons.2 ⟨List.mem_of_getElem? (i := 2) rfl, (List.forall_mem_cons.2 ⟨List.mem_of_getElem? (i := 4) rfl, (mem_TR (A := [_, _, _, _, _]) (fun _ h_ => h_))⟩)⟩)⟩)) Wanted.none (fun wq sq => (Runs.build_struct (ps := [(0, 1), (1, 1)]) (cs := (([.int .i64 a1] : Cs) ++ ([.slice A_38 n_40 c_39] : Cs))) plc124 zero124 rfl (by refine Fills.cons (o := 0) (ms := (([.int .i64 a1] : Cs))) (show _ = some (0, (([.int .i64 a1] : Cs)).length) by rw [show (([.int .i64 a1] : Cs)).length = 1 from (by first | rfl | simp only [List.length_append, List.length_cons, List.length_nil, iv_length])] <;> rfl) rfl (by have h1_ : (([.int .i64 a1] : Cs)).length = 1 := (by first | rfl | simp only [List.length_append, List.length_cons, List.length_nil, iv_length]); have h2_ : (([.int .i64 0] : Cs) ++ ([.slice none 0 0] : Cs)).length = 2 := (by first | rfl | simp only [List.length_append, List.length_cons, List.length_nil, iv_length]); omega) ?_; rw [show layV (([.int .i64 0] : Cs) ++ ([.slice none 0 0] : Cs)) 0 (([.int .i64 a1] : Cs)) = (([.int .i64 a1] : Cs) ++ ([.slice none 0 0] : Cs)) from (layV_mid (pre := (([] : Cs))) (mid := (([.int .i64 0] : Cs))) (post := (([.slice none 0 0] : Cs))) (by first | rfl | simp only [List.append_assoc, List.append_nil, List.nil_append, List.cons_append]) (by first | rfl | simp only [List.length_append, List.length_cons, List.length_nil, iv_length]) (Eq.trans (b := 1) (by first | rfl | simp only [List.length_append, List.length_cons, List.length_nil, iv_length]) (Eq.symm (by first | rfl | simp only [List.length_append, List.length_cons, List.length_nil, iv_length])))).trans (by first | rfl | simp only [List.append_assoc, List.append_nil, List.nil_append, List.cons_append])]; refine Fills.cons (o := 1) (ms := (([.slice A_38 n_40 c_39] : Cs))) (show _ = some (1, (([.slice A_38 n_40 c_39] : Cs)).length) by rw [show (([.slice A_38 n_40 c_39] : Cs)).length = 1 from (by first | rfl | simp only [List.length_append, List.length_cons, List.length_nil, iv_length])] <;> rfl) rfl (by have h1_ : (([.slice A_38 n_40 c_39] : Cs)).length = 1 := (by first | rfl | simp only [List.length_append, List.length_cons, List.length_nil, iv_length]); have h2_ : (([.int .i64 a1] : Cs) ++ ([.slice none 0 0] : Cs)).length = 2 := (by first | rfl | simp only [List.length_append, List.length_cons, List.length_nil, iv_length]); omega) ?_; rw [show layV (([.int .i64 a1] : Cs) ++ ([.slice none 0 0] : Cs)) 1 (([.slice A_38 n_40 c_39] : Cs)) = (([.int .i64 a1] : Cs) ++ ([.slice A_38 n_40 c_39] : Cs)) from (layV_mid (pre := (([.int .i64 a1] : Cs))) (mid := (([.slice none 0 0] : Cs))) (post := (([] : Cs))) (by first | rfl | simp only [List.append_assoc, List.append_nil, List.nil_append, List.cons_append]) (by first | rfl | simp only [List.length_append, List.length_cons, List.length_nil, iv_length]) (Eq.trans (b := 1) (by first | rfl | simp only [List.length_append, List.length_cons, List.length_nil, iv_length]) (Eq.symm (by first | rfl | simp only [List.length_append, List.length_cons, List.length_nil, iv_length])))).trans (by first | rfl | simp only [List.append_assoc, List.append_nil, List.nil_append, List.cons_append])]; exact Fills.nil))) ?_
     refine AWH.step 9 rfl (by decide) (by kernel_rfl) (fun inv_ hs_ hk_ hc_ hn_ => ?_)
     have hb_47c := st_35.cap (i := 0) rfl
     obtain ⟨T_43, hs_44, hm_45, st_46⟩ := St.freeze (A := []) (B := [_, _, _, _]) (T := T_5) (R := R) st_35
     have hb_47 : HB w T_43 A_38 n_40 c_39 (iv .u8 r_37) r_37.length := ⟨hn_41, hb_47c, Hd.of_sl hm_45⟩
     replace st_46 : St w w_34 (.cells b0 (([.slice A_7_0 n_8_0 c_9_0] : Cs) ++ (([.slice A_7_1 n_8_1 c_9_1] : Cs) ++ (([.int .i64 (IntKind.i64.wrap (a_14_2 - 1))] : Cs) ++ (([.bool a_14_3] : Cs) ++ ([.slice A_7_4 n_8_4 c_9_4] : Cs))))) 95 :: .sl A_7_0 c_9_0 n_8_0 x_11_0 25 1 :: .sl A_7_1 c_9_1 n_8_1 x_11_1 124 2 :: .sl A_7_4 c_9_4 n_8_4 x_11_4 48 2 :: (T_43 ++ R)) := st_46
     obtain ⟨ii_48, z_49, h_50, h_51, h_52, h_53⟩ := slr124_1
     refine WL.buildSlRows (sz := 2) (cs := (([.int .i64 a1] : Cs) ++ ([.slice A_38 n_40 c_39] : Cs))) st_46 Tryd.underlying93 h_50 h_51 h_52 (by decide) (by decide) h_53 rfl (by refine Fills.cons (o := 0) (ms := (([.int .i64 a1] : Cs) ++ ([.slice A_38 n_40 c_39] : Cs))) (show _ = some (0, (([.int .i64 a1] : Cs) ++ ([.slice A_38 n_40 c_39] : Cs)).length) by rw [show (([.int .i64 a1] : Cs) ++ ([.slice A_38 n_40 c_39] : Cs)).length = 2 from (by first | rfl | simp only [List.length_append, List.length_cons, List.length_nil, iv_length])] <;> rfl) rfl (by have h1_ : (([.int .i64 a1] : Cs) ++ ([.slice A_38 n_40 c_39] : Cs)).length = 2 := (by first | rfl | simp only [List.length_append, List.length_cons, List.length_nil, iv_length]); have h2_ : (([.int .i64 0] : Cs) ++ ([.slice none 0 0] : Cs)).length = 2 := (by first | rfl | simp only [List.length_append, List.length_cons, List.length_nil, iv_length]); omega) ?_; rw [show layV (([.int .i64 0] : Cs) ++ ([.slice none 0 0] : Cs)) 0 (([.int .i64 a1] : Cs) ++ ([.slice A_38 n_40 c_39] : Cs)) = (([.int .i64 a1] : Cs) ++ ([.slice A_38 n_40 c_39] : Cs)) from (layV_mid (pre := (([] : Cs))) (mid := (([.int .i64 0] : Cs) ++ ([.slice none 0 0] : Cs))) (post := (([] : Cs))) (by first | rfl | simp only [List.append_assoc, List.append_nil, List.nil_append, List.cons_append]) (by first | rfl | simp only [List.length_append, List.length_cons, List.length_nil, iv_length]) (Eq.trans (b := 2) (by first | rfl | simp only [List.length_append, List.length_cons, List.length_nil, iv_length]) (Eq.symm (by first | rfl | simp only [List.length_append, List.length_cons, List.length_nil, iv_length])))).trans (by first | rfl | simp only [List.append_assoc, List.append_nil, List.nil_append, List.cons_append])]; exact Fills.nil) ?_
     intro B_54 w_55 st_56
     replace st_56 : St w w_55 (.cells B_54 (([.int .i64 a1] : Cs) ++ ([.slice A_38 n_40 c_39] : Cs)) 124 :: .cells b0 (([.slice A_7_0 n_8_0 c_9_0] : Cs) ++ (([.slice A_7_1 n_8_1 c_9_1] : Cs) ++ (([.int .i64 (IntKind.i64.wrap (a_14_2 - 1))] : Cs) ++ (([.bool a_14_3] : Cs) ++ ([.slice A_7_4 n_8_4 c_9_4] : Cs))))) 95 :: .sl A_7_0 c_9_0 n_8_0 x_11_0 25 1 :: .sl A_7_1 c_9_1 n_8_1 x_11_1 124 2 :: .sl A_7_4 c_9_4 n_8_4 x_11_4 48 2 :: (T_43 ++ R)) := st_56
     have st_58 := St.rows_sl (i := 0) (m := 1) (size := 2) st_56 rfl rfl (by decide)
     obtain ⟨x_59, e_60⟩ : ∃ x_ : Cs, x_ = ([.int .i64 a1] : Cs) ++ ([.slice A_38 n_40 c_39] : Cs) := ⟨_, rfl⟩
     have hx_61 : HRs T_43 (f124 w) x_59 ([(a1, r_37)] : List R124) := by rw [e_60]; exact (HRs.one (.cons rfl (.cons ⟨_, _, _, rfl, hb_47⟩ .nil)))
     replace st_58 : St w w_55 (.sl (some ⟨B_54, 0, none⟩) 1 1 x_59 124 2 :: .cells b0 (([.slice A_7_0 n_8_0 c_9_0] : Cs) ++ (([.slice A_7_1 n_8_1 c_9_1] : Cs) ++ (([.int .i64 (IntKind.i64.wrap (a_14_2 - 1))] : Cs) ++ (([.bool a_14_3] : Cs) ++ ([.slice A_7_4 n_8_4 c_9_4] : Cs))))) 95 :: .sl A_7_0 c_9_0 n_8_0 x_11_0 25 1 :: .sl A_7_1 c_9_1 n_8_1 x_11_1 124 2 :: .sl A_7_4 c_9_4 n_8_4 x_11_4 48 2 :: (T_43 ++ R)) := by rw [e_60]; exact st_58
     refine WL.nil ?_
     refine AWH.back (St.subset st_32 st_58 (List.forall_mem_cons.2 ⟨List.mem_of_getElem? (i := 1) rfl, (List.forall_mem_cons.2 ⟨List.mem_of_getElem? (i := 2) rfl, (List.forall_mem_cons.2 ⟨List.mem_of_getElem? (i := 4) rfl, (mem_TR (A := [_, _, _, _, _]) (fun _ h_ => hs_44.1 _ h_))⟩)⟩)⟩)) inv_ hs_ hk_ hc_ hn_ ?_
     refine AWH.step 10 rfl (by decide) (by kernel_rfl) (fun inv_ hs_ hk_ hc_ hn_ => ?_)
     obtain ⟨m_62, e_63, H⟩ := H
     obtain ⟨z_64, H⟩ := H
     obtain ⟨n_67, hn_70⟩ : ∃ n_ : Nat, n_ = m_62.length := ⟨_, rfl⟩
     refine WL.appendR (i := 3) (N := n_67) (news := x_59) Wanted.none st_58 rfl Tryd.underlying93 elemS124 rfl rfl (st_58.src_sl (k := 0) rfl) (by have h1_ := (hx_61).length (fz124 w); have h2_ : 1 = ([(a1, r_37)] : List R124).length := rfl; rw [h1_, h2_]) (HLs.one hx_61) (by decide) (by have h1_ : n_8_1 = l_10_1.length := hn_12_1; have h2_ : 1 = ([(a1, r_37)] : List R124).length := rfl; rw [hn_70, e_63, List.length_append]; omega) (by rw [hn_70]; exact z_64) ?_
     intro A_65 c_66 w_68 st_69
     obtain ⟨x_71, e_72⟩ : ∃ x_ : Cs, x_ = x_11_1 ++ x_59 := ⟨_, rfl⟩
     have hx_73 : HRs T_43 (f124 w) x_71 m_62 := by rw [e_72, e_63]; exact HRs.append (hx_13_1.mono (fun _ h_ => hs_44.1 _ h_)) hx_61
     replace st_69 : St w w_68 (.sl (some ⟨B_54, 0, none⟩) 1 1 x_59 124 2 :: .cells b0 (([.slice A_7_0 n_8_0 c_9_0] : Cs) ++ (([.slice A_7_1 n_8_1 c_9_1] : Cs) ++ (([.int .i64 (IntKind.i64.wrap (a_14_2 - 1))] : Cs) ++ (([.bool a_14_3] : Cs) ++ ([.slice A_7_4 n_8_4 c_9_4] : Cs))))) 95 :: .sl A_7_0 c_9_0 n_8_0 x_11_0 25 1 :: .sl A_65 c_66 n_67 x_71 124 2 :: .sl A_7_4 c_9_4 n_8_4 x_11_4 48 2 :: (T_43 ++ R)) := by rw [e_72]; exact st_69
     refine WL.nil ?_
     refine AWH.back (St.subset st_32 st_69 (List.forall_mem_cons.2 ⟨List.mem_of_getElem? (i := 1) rfl, (List.forall_mem_cons.2 ⟨List.mem_of_getElem? (i := 2) rfl, (List.forall_mem_cons.2 ⟨List.mem_of_getElem? (i := 4) rfl, (mem_TR (A := [_, _, _, _, _]) (fun _ h_ => hs_44.1 _ h_))⟩)⟩)⟩)) inv_ hs_ hk_ hc_ hn_ ?_
     refine AWH.tail (by kernel_rfl) ?_
     refine AW.take 11 rfl (by kernel_rfl) (by kernel_rfl) (by kernel_rfl) Wanted.none (fun _ => (Runs.nilCheck rfl)) ?_
     refine AW.take 12 rfl (by kernel_rfl) (by kernel_rfl) (by kernel_rfl) Wanted.none (fun _ => (Runs.fieldAddr (off := 1) (p := 1) fld95_1 rfl rfl rfl)) ?_
     refine AW.step 13 rfl (by kernel_rfl) ?_
     refine WL.store_one (i := 1) (u0 := .slice A_7_1 n_8_1 c_9_1) (pre := (([.slice A_7_0 n_8_0 c_9_0] : Cs))) (post := (([.int .i64 (IntKind.i64.wrap (a_14_2 - 1))] : Cs) ++ (([.bool a_14_3] : Cs) ++ ([.slice A_7_4 n_8_4 c_9_4] : Cs)))) st_69 rfl cells93 (by first | rfl | simp only [List.append_assoc, List.append_nil, List.nil_append, List.cons_append]) (by first | rfl | simp only [List.length_append, List.length_cons, List.length_nil, iv_length]) rfl rfl rfl ?_
     intro w_74 st_75
     replace st_75 : St w w_74 (.sl (some ⟨B_54, 0, none⟩) 1 1 x_59 124 2 :: .cells b0 (([.slice A_7_0 n_8_0 c_9_0] : Cs) ++ (([.slice A_65 n_67 c_66] : Cs) ++ (([.int .i64 (IntKind.i64.wrap (a_14_2 - 1))] : Cs) ++ (([.bool a_14_3] : Cs) ++ ([.slice A_7_4 n_8_4 c_9_4] : Cs))))) 95 :: .sl A_7_0 c_9_0 n_8_0 x_11_0 25 1 :: .sl A_65 c_66 n_67 x_71 124 2 :: .sl A_7_4 c_9_4 n_8_4 x_11_4 48 2 :: (T_43 ++ R)) := by have e_ : (([.slice A_7_0 n_8_0 c_9_0] : Cs) ++ (([.slice A_65 n_67 c_66] : Cs) ++ (([.int .i64 (IntKind.i64.wrap (a_14_2 - 1))] : Cs) ++ (([.bool a_14_3] : Cs) ++ ([.slice A_7_4 n_8_4 c_9_4] : Cs))))) = (([.slice A_7_0 n_8_0 c_9_0] : Cs)) ++ ((([.slice A_65 n_67 c_66] : Cs)) ++ (([.int .i64 (IntKind.i64.wrap (a_14_2 - 1))] : Cs) ++ (([.bool a_14_3] : Cs) ++ ([.slice A_7_4 n_8_4 c_9_4] : Cs)))) := (by first | rfl | simp only [List.append_assoc, List.append_nil, List.nil_append, List.cons_append]); have h_ : St w w_74 (.sl (some ⟨B_54, 0, none⟩) 1 1 x_59 124 2 :: .cells b0 ((([.slice A_7_0 n_8_0 c_9_0] : Cs)) ++ ((([.slice A_65 n_67 c_66] : Cs)) ++ (([.int .i64 (IntKind.i64.wrap (a_14_2 - 1))] : Cs) ++ (([.bool a_14_3] : Cs) ++ ([.slice A_7_4 n_8_4 c_9_4] : Cs))))) 95 :: .sl A_7_0 c_9_0 n_8_0 x_11_0 25 1 :: .sl A_65 c_66 n_67 x_71 124 2 :: .sl A_7_4 c_9_4 n_8_4 x_11_4 48 2 :: (T_43 ++ R)) := st_75; rw [← e_] at h_; exact h_
     refine WL.nil ?_
     refine AW.back  ?_
     refine AW.done (by kernel_rfl) ?_
     refine QW.then_n ?_
     refine CW.sub [(0, .pointer (some ⟨b0, 0, none⟩)), (1, .int .i64 a1), (6, .int .i64 0)] ⟨rfl, rfl, rfl, trivial⟩ ?_
     refine CW.seq (CW.region ?_)
     refine WL.val Wanted.none (Runs.move rfl) ?_
     refine WL.val Wanted.none (Runs.move rfl) ?_
     refine WL.val Wanted.none (Runs.nilCheck rfl) ?_
     refine WL.val Wanted.none (Runs.fieldAddr (off := 4) (p := 4) fld95_4 rfl rfl rfl) ?_
     refine WL.val Wanted.none (Runs.load nagg43 rfl (st_75.cell (k := 1) rfl (part_one (u := .slice A_7_4 n_8_4 c_9_4) (pre := (([.slice A_7_0 n_8_0 c_9_0] : Cs) ++ (([.slice A_65 n_67 c_66] : Cs) ++ (([.int .i64 (IntKind.i64.wrap (a_14_2 - 1))] : Cs) ++ ([.bool a_14_3] : Cs))))) (post := (([] : Cs))) (by first | rfl | simp only [List.append_assoc, List.append_nil, List.nil_append, List.cons_append]) (by first | rfl | simp only [List.length_append, List.length_cons, List.length_nil, iv_length])))) ?_
     refine WL.val Wanted.none (Runs.move rfl) ?_
     refine WL.val Wanted.none (Runs.build_struct (ps := [(0, 1), (1, 1)]) (cs := (([.int .i64 2] : Cs) ++ ([.int .i64 a1] : Cs))) plc48 zero48 rfl (by refine Fills.cons (o := 0) (ms := (([.int .i64 2] : Cs))) (show _ = some (0, (([.int .i64 2] : Cs)).length) by rw [show (([.int .i64 2] : Cs)).length = 1 from (by first | rfl | simp only [List.length_append, List.length_cons, List.length_nil, iv_length])] <;> rfl) rfl (by have h1_ : (([.int .i64 2] : Cs)).length = 1 := (by first | rfl | simp only [List.length_append, List.length_cons, List.length_nil, iv_length]); have h2_ : (([.int .i64 0] : Cs) ++ ([.int .i64 0] : Cs)).length = 2 := (by first | rfl | simp only [List.length_append, List.length_cons, List.length_nil, iv_length]); omega) ?_; rw [show layV (([.int .i64 0] : Cs) ++ ([.int .i64 0] : Cs)) 0 (([.int .i64 2] : Cs)) = (([.int .i64 2] : Cs) ++ ([.int .i64 0] : Cs)) from (layV_mid (pre := (([] : Cs))) (mid := (([.int .i64 0] : Cs))) (post := (([.int .i64 0] : Cs))) (by first | rfl | simp only [List.append_assoc, List.append_nil, List.nil_append, List.cons_append]) (by first | rfl | simp only [List.length_append, List.length_cons, List.length_nil, iv_length]) (Eq.trans (b := 1) (by first | rfl | simp only [List.length_append, List.length_cons, List.length_nil, iv_length]) (Eq.symm (by first | rfl | simp only [List.length_append, List.length_cons, List.length_nil, iv_length])))).trans (by first | rfl | simp only [List.append_assoc, List.append_nil, List.nil_append, List.cons_append])]; refine Fills.cons (o := 1) (ms := (([.int .i64 a1] : Cs))) (show _ = some (1, (([.int .i64 a1] : Cs)).length) by rw [show (([.int .i64 a1] : Cs)).length = 1 from (by first | rfl | simp only [List.length_append, List.length_cons, List.length_nil, iv_length])] <;> rfl) rfl (by have h1_ : (([.int .i64 a1] : Cs)).length = 1 := (by first | rfl | simp only [List.length_append, List.length_cons, List.length_nil, iv_length]); have h2_ : (([.int .i64 2] : Cs) ++ ([.int .i64 0] : Cs)).length = 2 := (by first | rfl | simp only [List.length_append, List.length_cons, List.length_nil, iv_length]); omega) ?_; rw [show layV (([.int .i64 2] : Cs) ++ ([.int .i64 0] : Cs)) 1 (([.int .i64 a1] : Cs)) = (([.int .i64 2] : Cs) ++ ([.int .i64 a1] : Cs)) from (layV_mid (pre := (([.int .i64 2] : Cs))) (mid := (([.int .i64 0] : Cs))) (post := (([] : Cs))) (by first | rfl | simp only [List.append_assoc, List.append_nil, List.nil_append, List.cons_append]) (by first | rfl | simp only [List.length_append, List.length_cons, List.length_nil, iv_length]) (Eq.trans (b := 1) (by first | rfl | simp only [List.length_append, List.length_cons, List.length_nil, iv_length]) (Eq.symm (by first | rfl | simp only [List.length_append, List.length_cons, List.length_nil, iv_length])))).trans (by first | rfl | simp only [List.append_assoc, List.append_nil, List.nil_append, List.cons_append])]; exact Fills.nil)) ?_
     obtain ⟨ii_76, z_77, h_78, h_79, h_80, h_81⟩ := slr48_1
     refine WL.buildSlRows (sz := 2) (cs := (([.int .i64 2] : Cs) ++ ([.int .i64 a1] : Cs))) st_75 Tryd.underlying43 h_78 h_79 h_80 (by decide) (by decide) h_81 rfl (by refine Fills.cons (o := 0) (ms := (([.int .i64 2] : Cs) ++ ([.int .i64 a1] : Cs))) (show _ = some (0, (([.int .i64 2] : Cs) ++ ([.int .i64 a1] : Cs)).length) by rw [show (([.int .i64 2] : Cs) ++ ([.int .i64 a1] : Cs)).length = 2 from (by first | rfl | simp only [List.length_append, List.length_cons, List.length_nil, iv_length])] <;> rfl) rfl (by have h1_ : (([.int .i64 2] : Cs) ++ ([.int .i64 a1] : Cs)).length = 2 := (by first | rfl | simp only [List.length_append, List.length_cons, List.length_nil, iv_length]); have h2_ : (([.int .i64 0] : Cs) ++ ([.int .i64 0] : Cs)).length = 2 := (by first | rfl | simp only [List.length_append, List.length_cons, List.length_nil, iv_length]); omega) ?_; rw [show layV (([.int .i64 0] : Cs) ++ ([.int .i64 0] : Cs)) 0 (([.int .i64 2] : Cs) ++ ([.int .i64 a1] : Cs)) = (([.int .i64 2] : Cs) ++ ([.int .i64 a1] : Cs)) from (layV_mid (pre := (([] : Cs))) (mid := (([.int .i64 0] : Cs) ++ ([.int .i64 0] : Cs))) (post := (([] : Cs))) (by first | rfl | simp only [List.append_assoc, List.append_nil, List.nil_append, List.cons_append]) (by first | rfl | simp only [List.length_append, List.length_cons, List.length_nil, iv_length]) (Eq.trans (b := 2) (by first | rfl | simp only [List.length_append, List.length_cons, List.length_nil, iv_length]) (Eq.symm (by first | rfl | simp only [List.length_append, List.length_cons, List.length_nil, iv_length])))).trans (by first | rfl | simp only [List.append_assoc, List.append_nil, List.nil_append, List.cons_append])]; exact Fills.nil) ?_
     intro B_82 w_83 st_84
     replace st_84 : St w w_83 (.cells B_82 (([.int .i64 2] : Cs) ++ ([.int .i64 a1] : Cs)) 48 :: .sl (some ⟨B_54, 0, none⟩) 1 1 x_59 124 2 :: .cells b0 (([.slice A_7_0 n_8_0 c_9_0] : Cs) ++ (([.slice A_65 n_67 c_66] : Cs) ++ (([.int .i64 (IntKind.i64.wrap (a_14_2 - 1))] : Cs) ++ (([.bool a_14_3] : Cs) ++ ([.slice A_7_4 n_8_4 c_9_4] : Cs))))) 95 :: .sl A_7_0 c_9_0 n_8_0 x_11_0 25 1 :: .sl A_65 c_66 n_67 x_71 124 2 :: .sl A_7_4 c_9_4 n_8_4 x_11_4 48 2 :: (T_43 ++ R)) := st_84
     have st_86 := St.rows_sl (i := 0) (m := 1) (size := 2) st_84 rfl rfl (by decide)
     obtain ⟨x_87, e_88⟩ : ∃ x_ : Cs, x_ = ([.int .i64 2] : Cs) ++ ([.int .i64 a1] : Cs) := ⟨_, rfl⟩
     have hx_89 : HRs T_43 (f48 w) x_87 ([(2, a1)] : List R48) := by rw [e_88]; exact (HRs.one (.cons rfl (.cons rfl .nil)))
     replace st_86 : St w w_83 (.sl (some ⟨B_82, 0, none⟩) 1 1 x_87 48 2 :: .sl (some ⟨B_54, 0, none⟩) 1 1 x_59 124 2 :: .cells b0 (([.slice A_7_0 n_8_0 c_9_0] : Cs) ++ (([.slice A_65 n_67 c_66] : Cs) ++ (([.int .i64 (IntKind.i64.wrap (a_14_2 - 1))] : Cs) ++ (([.bool a_14_3] : Cs) ++ ([.slice A_7_4 n_8_4 c_9_4] : Cs))))) 95 :: .sl A_7_0 c_9_0 n_8_0 x_11_0 25 1 :: .sl A_65 c_66 n_67 x_71 124 2 :: .sl A_7_4 c_9_4 n_8_4 x_11_4 48 2 :: (T_43 ++ R)) := by rw [e_88]; exact st_86
     obtain ⟨m_90, e_91, H⟩ := H
     obtain ⟨z_92, H⟩ := H
     obtain ⟨n_95, hn_98⟩ : ∃ n_ : Nat, n_ = m_90.length := ⟨_, rfl⟩
     refine WL.appendR (i := 5) (N := n_95) (news := x_87) Wanted.none st_86 rfl Tryd.underlying43 elemS48 rfl rfl (st_86.src_sl (k := 0) rfl) (by have h1_ := (hx_89).length (fz48 w); have h2_ : 1 = ([(2, a1)] : List R48).length := rfl; rw [h1_, h2_]) (HLs.one hx_89) (by decide) (by have h1_ : n_8_4 = l_10_4.length := hn_12_4; have h2_ : 1 = ([(2, a1)] : List R48).length := rfl; rw [hn_98, e_91, List.length_append]; omega) (by rw [hn_98]; exact z_92) ?_
     intro A_93 c_94 w_96 st_97
     obtain ⟨x_99, e_100⟩ : ∃ x_ : Cs, x_ = x_11_4 ++ x_87 := ⟨_, rfl⟩
     have hx_101 : HRs T_43 (f48 w) x_99 m_90 := by rw [e_100, e_91]; exact HRs.append (hx_13_4.mono (fun _ h_ => hs_44.1 _ h_)) hx_89
     replace st_97 : St w w_96 (.sl (some ⟨B_82, 0, none⟩) 1 1 x_87 48 2 :: .sl (some ⟨B_54, 0, none⟩) 1 1 x_59 124 2 :: .cells b0 (([.slice A_7_0 n_8_0 c_9_0] : Cs) ++ (([.slice A_65 n_67 c_66] : Cs) ++ (([.int .i64 (IntKind.i64.wrap (a_14_2 - 1))] : Cs) ++ (([.bool a_14_3] : Cs) ++ ([.slice A_7_4 n_8_4 c_9_4] : Cs))))) 95 :: .sl A_7_0 c_9_0 n_8_0 x_11_0 25 1 :: .sl A_65 c_66 n_67 x_71 124 2 :: .sl A_93 c_94 n_95 x_99 48 2 :: (T_43 ++ R)) := by rw [e_100]; exact st_97
     refine WL.val Wanted.none (Runs.nilCheck rfl) ?_
     refine WL.val Wanted.none (Runs.fieldAddr (off := 4) (p := 4) fld95_4 rfl rfl rfl) ?_
     refine WL.store_one (i := 2) (u0 := .slice A_7_4 n_8_4 c_9_4) (pre := (([.slice A_7_0 n_8_0 c_9_0] : Cs) ++ (([.slice A_65 n_67 c_66] : Cs) ++ (([.int .i64 (IntKind.i64.wrap (a_14_2 - 1))] : Cs) ++ ([.bool a_14_3] : Cs))))) (post := (([] : Cs))) st_97 rfl cells43 (by first | rfl | simp only [List.append_assoc, List.append_nil, List.nil_append, List.cons_append]) (by first | rfl | simp only [List.length_append, List.length_cons, List.length_nil, iv_length]) rfl rfl rfl ?_
     intro w_102 st_103
     replace st_103 : St w w_102 (.sl (some ⟨B_82, 0, none⟩) 1 1 x_87 48 2 :: .sl (some ⟨B_54, 0, none⟩) 1 1 x_59 124 2 :: .cells b0 (([.slice A_7_0 n_8_0 c_9_0] : Cs) ++ (([.slice A_65 n_67 c_66] : Cs) ++ (([.int .i64 (IntKind.i64.wrap (a_14_2 - 1))] : Cs) ++ (([.bool a_14_3] : Cs) ++ ([.slice A_93 n_95 c_94] : Cs))))) 95 :: .sl A_7_0 c_9_0 n_8_0 x_11_0 25 1 :: .sl A_65 c_66 n_67 x_71 124 2 :: .sl A_93 c_94 n_95 x_99 48 2 :: (T_43 ++ R)) := by have e_ : (([.slice A_7_0 n_8_0 c_9_0] : Cs) ++ (([.slice A_65 n_67 c_66] : Cs) ++ (([.int .i64 (IntKind.i64.wrap (a_14_2 - 1))] : Cs) ++ (([.bool a_14_3] : Cs) ++ ([.slice A_93 n_95 c_94] : Cs))))) = (([.slice A_7_0 n_8_0 c_9_0] : Cs) ++ (([.slice A_65 n_67 c_66] : Cs) ++ (([.int .i64 (IntKind.i64.wrap (a_14_2 - 1))] : Cs) ++ ([.bool a_14_3] : Cs)))) ++ ((([.slice A_93 n_95 c_94] : Cs)) ++ (([] : Cs))) := (by first | rfl | simp only [List.append_assoc, List.append_nil, List.nil_append, List.cons_append]); have h_ : St w w_102 (.sl (some ⟨B_82, 0, none⟩) 1 1 x_87 48 2 :: .sl (some ⟨B_54, 0, none⟩) 1 1 x_59 124 2 :: .cells b0 ((([.slice A_7_0 n_8_0 c_9_0] : Cs) ++ (([.slice A_65 n_67 c_66] : Cs) ++ (([.int .i64 (IntKind.i64.wrap (a_14_2 - 1))] : Cs) ++ ([.bool a_14_3] : Cs)))) ++ ((([.slice A_93 n_95 c_94] : Cs)) ++ (([] : Cs)))) 95 :: .sl A_7_0 c_9_0 n_8_0 x_11_0 25 1 :: .sl A_65 c_66 n_67 x_71 124 2 :: .sl A_93 c_94 n_95 x_99 48 2 :: (T_43 ++ R)) := st_103; rw [← e_] at h_; exact h_
     refine WL.nil (QW.then_n ?_)
     refine CW.sub [(6, .int .i64 0)] ⟨rfl, trivial⟩ ?_
     refine CW.seq (CW.region ?_)
     refine WL.val Wanted.none (Runs.assign rfl) ?_
     refine WL.nil (QW.then_n ?_)
     refine CW.ret ?_
     obtain ⟨rfl, rfl, rfl, rfl, rfl, rfl⟩ := H
     exact QW.ret1 rfl rfl ⟨T_43, A_7_0, n_8_0, c_9_0, x_11_0, A_65, n_67, c_66, x_71, A_93, n_95, c_94, x_99, (hs_6.trans hs_44), hn_12_0, (hx_13_0.mono (fun _ h_ => hs_44.1 _ h_)), hn_70, hx_73, hn_98, hx_101, rfl, (St.pickT (L := [_, _, _, _, _, _]) st_103 [2, 3, 4, 5] (by decide))⟩
    ·have h_27 : (decide (a_14_2 > 0)) = false := (decide_eq_false c_26)
     refine CW.cf rfl h_27 ?_
     refine CW.skip ?_
     refine QW.then_n ?_
     refine CW.sub [(0, .pointer (some ⟨b0, 0, none⟩)), (1, .int .i64 a1), (2, .slice A2 n2 c2), (6, .int .i64 0)] ⟨rfl, rfl, rfl, rfl, trivial⟩ ?_
     refine CW.seq ?_
     refine CW.region_awh (C := fun w_ => St w w_ (.cells b0 (([.slice A_7_0 n_8_0 c_9_0] : Cs) ++ (([.slice A_7_1 n_8_1 c_9_1] : Cs) ++ (([.int .i64 a_14_2] : Cs) ++ (([.bool a_14_3] : Cs) ++ ([.slice A_7_4 n_8_4 c_9_4] : Cs))))) 95 :: .sl A_7_0 c_9_0 n_8_0 x_11_0 25 1 :: .sl A_7_4 c_9_4 n_8_4 x_11_4 48 2 :: (T_5 ++ R))) 11 wide (by kernel_rfl) st_18 (fun w_104 st_105 => ?_)
     have st_106 : St w w_104 (.cells b0 (([.slice A_7_0 n_8_0 c_9_0] : Cs) ++ (([.slice A_7_1 n_8_1 c_9_1] : Cs) ++ (([.int .i64 a_14_2] : Cs) ++ (([.bool a_14_3] : Cs) ++ ([.slice A_7_4 n_8_4 c_9_4] : Cs))))) 95 :: .sl A_7_0 c_9_0 n_8_0 x_11_0 25 1 :: .sl A_7_4 c_9_4 n_8_4 x_11_4 48 2 :: (T_5 ++ R)) := (St.pickT (L := [_, _, _, _]) st_105 [0, 1, 3] (by decide))
     refine AWH.take 0 rfl (by decide) (by kernel_rfl) (by kernel_rfl) (St.subset st_106 st_105 (List.forall_mem_cons.2 ⟨List.mem_of_getElem? (i := 0) rfl, (List.forall_mem_cons.2 ⟨List.mem_of_getElem? (i := 1) rfl, (List.forall_mem_cons.2 ⟨List.mem_of_getElem? (i := 3) rfl, (mem_TR (A := [_, _, _, _]) (fun _ h_ => h_))⟩)⟩)⟩)) Wanted.none (fun wq sq => (Runs.move rfl)) ?_
     refine AWH.take 1 rfl (by decide) (by kernel_rfl) (by kernel_rfl) (St.subset st_106 st_105 (List.forall_mem_cons.2 ⟨List.mem_of_getElem? (i := 0) rfl, (List.forall_mem_cons.2 ⟨List.mem_of_getElem? (i := 1) rfl, (List.forall_mem_cons.2 ⟨List.mem_of_getElem? (i := 3) rfl, (mem_TR (A := [_, _, _, _]) (fun _ h_ => h_))⟩)⟩)⟩)) Wanted.none (fun wq sq => (Runs.move rfl)) ?_
     refine AWH.take 2 rfl (by decide) (by kernel_rfl) (by kernel_rfl) (St.subset st_106 st_105 (List.forall_mem_cons.2 ⟨List.mem_of_getElem? (i := 0) rfl, (List.forall_mem_cons.2 ⟨List.mem_of_getElem? (i := 1) rfl, (List.forall_mem_cons.2 ⟨List.mem_of_getElem? (i := 3) rfl, (mem_TR (A := [_, _, _, _]) (fun _ h_ => h_))⟩)⟩)⟩)) Wanted.none (fun wq sq => (Runs.nilCheck rfl)) ?_
     refine AWH.take 3 rfl (by decide) (by kernel_rfl) (by kernel_rfl) (St.subset st_106 st_105 (List.forall_mem_cons.2 ⟨List.mem_of_getElem? (i := 0) rfl, (List.forall_mem_cons.2 ⟨List.mem_of_getElem? (i := 1) rfl, (List.forall_mem_cons.2 ⟨List.mem_of_getElem? (i := 3) rfl, (mem_TR (A := [_, _, _, _]) (fun _ h_ => h_))⟩)⟩)⟩)) Wanted.none (fun wq sq => (Runs.fieldAddr (off := 1) (p := 1) fld95_1 rfl rfl rfl)) ?_
     refine AWH.take 4 rfl (by decide) (by kernel_rfl) (by kernel_rfl) (St.subset st_106 st_105 (List.forall_mem_cons.2 ⟨List.mem_of_getElem? (i := 0) rfl, (List.forall_mem_cons.2 ⟨List.mem_of_getElem? (i := 1) rfl, (List.forall_mem_cons.2 ⟨List.mem_of_getElem? (i := 3) rfl, (mem_TR (A := [_, _, _, _]) (fun _ h_ => h_))⟩)⟩)⟩)) Wanted.none (fun wq sq => (Runs.load nagg93 rfl (sq.cell (k := 0) rfl (part_one (u := .slice A_7_1 n_8_1 c_9_1) (pre := (([.slice A_7_0 n_8_0 c_9_0] : Cs))) (post := (([.int .i64 a_14_2] : Cs) ++ (([.bool a_14_3] : Cs) ++ ([.slice A_7_4 n_8_4 c_9_4] : Cs)))) (by first | rfl | simp only [List.append_assoc, List.append_nil, List.nil_append, List.cons_append]) (by first | rfl | simp only [List.length_append, List.length_cons, List.length_nil, iv_length]))))) ?_
     refine AWH.take 5 rfl (by decide) (by kernel_rfl) (by kernel_rfl) (St.subset st_106 st_105 (List.forall_mem_cons.2 ⟨List.mem_of_getElem? (i := 0) rfl, (List.forall_mem_cons.2 ⟨List.mem_of_getElem? (i := 1) rfl, (List.forall_mem_cons.2 ⟨List.mem_of_getElem? (i := 3) rfl, (mem_TR (A := [_, _, _, _]) (fun _ h_ => h_))⟩)⟩)⟩)) Wanted.none (fun wq sq => (Runs.move rfl)) ?_
     refine AWH.take 6 rfl (by decide) (by kernel_rfl) (by kernel_rfl) (St.subset st_106 st_105 (List.forall_mem_cons.2 ⟨List.mem_of_getElem? (i := 0) rfl, (List.forall_mem_cons.2 ⟨List.mem_of_getElem? (i := 1) rfl, (List.forall_mem_cons.2 ⟨List.mem_of_getElem? (i := 3) rfl, (mem_TR (A := [_, _, _, _]) (fun _ h_ => h_))⟩)⟩)⟩)) Wanted.none (fun wq sq => (Runs.move rfl)) ?_
     refine AWH.step 7 rfl (by decide) (by kernel_rfl) (fun inv_ hs_ hk_ hc_ hn_ => ?_)
     obtain ⟨r_111, hr_107, H⟩ := H
     refine WL.call Wanted.none ent48 rfl (slices_Clone_s_byte_byte.calls w_104 l2 A2 n2 c2 ((hb2.2.2.at st_105 (mem_TR (A := [_, _, _, _]) (fun _ h_ => hs_6.1 _ h_)))) (hb2.1) (hb2.2.1) r_111 hr_107) ?_
     rintro _ w_108 ⟨A_112, c_113, n_114, hn_115, rfl, sc_110⟩
     have st_109 : St w w_108 (.sl A_112 c_113 n_114 (iv .u8 r_111) 5 1 :: .cells b0 (([.slice A_7_0 n_8_0 c_9_0] : Cs) ++ (([.slice A_7_1 n_8_1 c_9_1] : Cs) ++ (([.int .i64 a_14_2] : Cs) ++ (([.bool a_14_3] : Cs) ++ ([.slice A_7_4 n_8_4 c_9_4] : Cs))))) 95 :: .sl A_7_0 c_9_0 n_8_0 x_11_0 25 1 :: .sl A_7_1 c_9_1 n_8_1 x_11_1 124 2 :: .sl A_7_4 c_9_4 n_8_4 x_11_4 48 2 :: (T_5 ++ R)) := st_105.call sc_110
     refine ⟨_, rfl, ?_⟩
     refine WL.nil ?_
     refine AWH.back (St.subset st_106 st_109 (List.forall_mem_cons.2 ⟨List.mem_of_getElem? (i := 1) rfl, (List.forall_mem_cons.2 ⟨List.mem_of_getElem? (i := 2) rfl, (List.forall_mem_cons.2 ⟨List.mem_of_getElem? (i := 4) rfl, (mem_TR (A := [_, _, _, _, _]) (fun _ h_ => h_))⟩)⟩)⟩)) inv_ hs_ hk_ hc_ hn_ ?_
     refine AWH.take 8 rfl (by decide) (by kernel_rfl) (by kernel_rfl) (St.subset st_106 st_109 (List.forall_mem_cons.2 ⟨List.mem_of_getElem? (i := 1) rfl, (List.forall_mem_cons.2 ⟨List.mem_of_getElem? (i := 2) rfl, (List.forall_mem_cons.2 ⟨List.mem_of_getElem? (i := 4) rfl, (mem_TR (A := [_, _, _, _, _]) (fun _ h_ => h_))⟩)⟩)⟩)) Wanted.none (fun wq sq => (Runs.build_struct (ps := [(0, 1), (1, 1)]) (cs := (([.int .i64 a1] : Cs) ++ ([.slice A_112 n_114 c_113] : Cs))) plc124 zero124 rfl (by refine Fills.cons (o := 0) (ms := (([.int .i64 a1] : Cs))) (show _ = some (0, (([.int .i64 a1] : Cs)).length) by rw [show (([.int .i64 a1] : Cs)).length = 1 from (by first | rfl | simp only [List.length_append, List.length_cons, List.length_nil, iv_length])] <;> rfl) rfl (by have h1_ : (([.int .i64 a1] : Cs)).length = 1 := (by first | rfl | simp only [List.length_append, List.length_cons, List.length_nil, iv_length]); have h2_ : (([.int .i64 0] : Cs) ++ ([.slice none 0 0] : Cs)).length = 2 := (by first | rfl | simp only [List.length_append, List.length_cons, List.length_nil, iv_length]); omega) ?_; rw [show layV (([.int .i64 0] : Cs) ++ ([.slice none 0 0] : Cs)) 0 (([.int .i64 a1] : Cs)) = (([.int .i64 a1] : Cs) ++ ([.slice none 0 0] : Cs)) from (layV_mid (pre := (([] : Cs))) (mid := (([.int .i64 0] : Cs))) (post := (([.slice none 0 0] : Cs))) (by first | rfl | simp only [List.append_assoc, List.append_nil, List.nil_append, List.cons_append]) (by first | rfl | simp only [List.length_append, List.length_cons, List.length_nil, iv_length]) (Eq.trans (b := 1) (by first | rfl | simp only [List.length_append, List.length_cons, List.length_nil, iv_length]) (Eq.symm (by first | rfl | simp only [List.length_append, List.length_cons, List.length_nil, iv_length])))).trans (by first | rfl | simp only [List.append_assoc, List.append_nil, List.nil_append, List.cons_append])]; refine Fills.cons (o := 1) (ms := (([.slice A_112 n_114 c_113] : Cs))) (show _ = some (1, (([.slice A_112 n_114 c_113] : Cs)).length) by rw [show (([.slice A_112 n_114 c_113] : Cs)).length = 1 from (by first | rfl | simp only [List.length_append, List.length_cons, List.length_nil, iv_length])] <;> rfl) rfl (by have h1_ : (([.slice A_112 n_114 c_113] : Cs)).length = 1 := (by first | rfl | simp only [List.length_append, List.length_cons, List.length_nil, iv_length]); have h2_ : (([.int .i64 a1] : Cs) ++ ([.slice none 0 0] : Cs)).length = 2 := (by first | rfl | simp only [List.length_append, List.length_cons, List.length_nil, iv_length]); omega) ?_; rw [show layV (([.int .i64 a1] : Cs) ++ ([.slice none 0 0] : Cs)) 1 (([.slice A_112 n_114 c_113] : Cs)) = (([.int .i64 a1] : Cs) ++ ([.slice A_112 n_114 c_113] : Cs)) from (layV_mid (pre := (([.int .i64 a1] : Cs))) (mid := (([.slice none 0 0] : Cs))) (post := (([] : Cs))) (by first | rfl | simp only [List.append_assoc, List.append_nil, List.nil_append, List.cons_append]) (by first | rfl | simp only [List.length_append, List.length_cons, List.length_nil, iv_length]) (Eq.trans (b := 1) (by first | rfl | simp only [List.length_append, List.length_cons, List.length_nil, iv_length]) (Eq.symm (by first | rfl | simp only [List.length_append, List.length_cons, List.length_nil, iv_length])))).trans (by first | rfl | simp only [List.append_assoc, List.append_nil, List.nil_append, List.cons_append])]; exact Fills.nil))) ?_
     refine AWH.step 9 rfl (by decide) (by kernel_rfl) (fun inv_ hs_ hk_ hc_ hn_ => ?_)
     have hb_121c := st_109.cap (i := 0) rfl
     obtain ⟨T_117, hs_118, hm_119, st_120⟩ := St.freeze (A := []) (B := [_, _, _, _]) (T := T_5) (R := R) st_109
     have hb_121 : HB w T_117 A_112 n_114 c_113 (iv .u8 r_111) r_111.length := ⟨hn_115, hb_121c, Hd.of_sl hm_119⟩
     replace st_120 : St w w_108 (.cells b0 (([.slice A_7_0 n_8_0 c_9_0] : Cs) ++ (([.slice A_7_1 n_8_1 c_9_1] : Cs) ++ (([.int .i64 a_14_2] : Cs) ++ (([.bool a_14_3] : Cs) ++ ([.slice A_7_4 n_8_4 c_9_4] : Cs))))) 95 :: .sl A_7_0 c_9_0 n_8_0 x_11_0 25 1 :: .sl A_7_1 c_9_1 n_8_1 x_11_1 124 2 :: .sl A_7_4 c_9_4 n_8_4 x_11_4 48 2 :: (T_117 ++ R)) := st_120
     obtain ⟨ii_122, z_123, h_124, h_125, h_126, h_127⟩ := slr124_1
     refine WL.buildSlRows (sz := 2) (cs := (([.int .i64 a1] : Cs) ++ ([.slice A_112 n_114 c_113] : Cs))) st_120 Tryd.underlying93 h_124 h_125 h_126 (by decide) (by decide) h_127 rfl (by refine Fills.cons (o := 0) (ms := (([.int .i64 a1] : Cs) ++ ([.slice A_112 n_114 c_113] : Cs))) (show _ = some (0, (([.int .i64 a1] : Cs) ++ ([.slice A_112 n_114 c_113] : Cs)).length) by rw [show (([.int .i64 a1] : Cs) ++ ([.slice A_112 n_114 c_113] : Cs)).length = 2 from (by first | rfl | simp only [List.length_append, List.length_cons, List.length_nil, iv_length])] <;> rfl) rfl (by have h1_ : (([.int .i64 a1] : Cs) ++ ([.slice A_112 n_114 c_113] : Cs)).length = 2 := (by first | rfl | simp only [List.length_append, List.length_cons, List.length_nil, iv_length]); have h2_ : (([.int .i64 0] : Cs) ++ ([.slice none 0 0] : Cs)).length = 2 := (by first | rfl | simp only [List.length_append, List.length_cons, List.length_nil, iv_length]); omega) ?_; rw [show layV (([.int .i64 0] : Cs) ++ ([.slice none 0 0] : Cs)) 0 (([.int .i64 a1] : Cs) ++ ([.slice A_112 n_114 c_113] : Cs)) = (([.int .i64 a1] : Cs) ++ ([.slice A_112 n_114 c_113] : Cs)) from (layV_mid (pre := (([] : Cs))) (mid := (([.int .i64 0] : Cs) ++ ([.slice none 0 0] : Cs))) (post := (([] : Cs))) (by first | rfl | simp only [List.append_assoc, List.append_nil, List.nil_append, List.cons_append]) (by first | rfl | simp only [List.length_append, List.length_cons, List.length_nil, iv_length]) (Eq.trans (b := 2) (by first | rfl | simp only [List.length_append, List.length_cons, List.length_nil, iv_length]) (Eq.symm (by first | rfl | simp only [List.length_append, List.length_cons, List.length_nil, iv_length])))).trans (by first | rfl | simp only [List.append_assoc, List.append_nil, List.nil_append, List.cons_append])]; exact Fills.nil) ?_
     intro B_128 w_129 st_130
     replace st_130 : St w w_129 (.cells B_128 (([.int .i64 a1] : Cs) ++ ([.slice A_112 n_114 c_113] : Cs)) 124 :: .cells b0 (([.slice A_7_0 n_8_0 c_9_0] : Cs) ++ (([.slice A_7_1 n_8_1 c_9_1] : Cs) ++ (([.int .i64 a_14_2] : Cs) ++ (([.bool a_14_3] : Cs) ++ ([.slice A_7_4 n_8_4 c_9_4] : Cs))))) 95 :: .sl A_7_0 c_9_0 n_8_0 x_11_0 25 1 :: .sl A_7_1 c_9_1 n_8_1 x_11_1 124 2 :: .sl A_7_4 c_9_4 n_8_4 x_11_4 48 2 :: (T_117 ++ R)) := st_130
     have st_132 := St.rows_sl (i := 0) (m := 1) (size := 2) st_130 rfl rfl (by decide)
     obtain ⟨x_133, e_134⟩ : ∃ x_ : Cs, x_ = ([.int .i64 a1] : Cs) ++ ([.slice A_112 n_114 c_113] : Cs) := ⟨_, rfl⟩
     have hx_135 : HRs T_117 (f124 w) x_133 ([(a1, r_111)] : List R124) := by rw [e_134]; exact (HRs.one (.cons rfl (.cons ⟨_, _, _, rfl, hb_121⟩ .nil)))
     replace st_132 : St w w_129 (.sl (some ⟨B_128, 0, none⟩) 1 1 x_133 124 2 :: .cells b0 (([.slice A_7_0 n_8_0 c_9_0] : Cs) ++ (([.slice A_7_1 n_8_1 c_9_1] : Cs) ++ (([.int .i64 a_14_2] : Cs) ++ (([.bool a_14_3] : Cs) ++ ([.slice A_7_4 n_8_4 c_9_4] : Cs))))) 95 :: .sl A_7_0 c_9_0 n_8_0 x_11_0 25 1 :: .sl A_7_1 c_9_1 n_8_1 x_11_1 124 2 :: .sl A_7_4 c_9_4 n_8_4 x_11_4 48 2 :: (T_117 ++ R)) := by rw [e_134]; exact st_132
     refine WL.nil ?_
     refine AWH.back (St.subset st_106 st_132 (List.forall_mem_cons.2 ⟨List.mem_of_getElem? (i := 1) rfl, (List.forall_mem_cons.2 ⟨List.mem_of_getElem? (i := 2) rfl, (List.forall_mem_cons.2 ⟨List.mem_of_getElem? (i := 4) rfl, (mem_TR (A := [_, _, _, _, _]) (fun _ h_ => hs_118.1 _ h_))⟩)⟩)⟩)) inv_ hs_ hk_ hc_ hn_ ?_
     refine AWH.step 10 rfl (by decide) (by kernel_rfl) (fun inv_ hs_ hk_ hc_ hn_ => ?_)
     obtain ⟨m_136, e_137, H⟩ := H
     obtain ⟨z_138, H⟩ := H
     obtain ⟨n_141, hn_144⟩ : ∃ n_ : Nat, n_ = m_136.length := ⟨_, rfl⟩
     refine WL.appendR (i := 3) (N := n_141) (news := x_133) Wanted.none st_132 rfl Tryd.underlying93 elemS124 rfl rfl (st_132.src_sl (k := 0) rfl) (by have h1_ := (hx_135).length (fz124 w); have h2_ : 1 = ([(a1, r_111)] : List R124).length := rfl; rw [h1_, h2_]) (HLs.one hx_135) (by decide) (by have h1_ : n_8_1 = l_10_1.length := hn_12_1; have h2_ : 1 = ([(a1, r_111)] : List R124).length := rfl; rw [hn_144, e_137, List.length_append]; omega) (by rw [hn_144]; exact z_138) ?_
     intro A_139 c_140 w_142 st_143
     obtain ⟨x_145, e_146⟩ : ∃ x_ : Cs, x_ = x_11_1 ++ x_133 := ⟨_, rfl⟩
     have hx_147 : HRs T_117 (f124 w) x_145 m_136 := by rw [e_146, e_137]; exact HRs.append (hx_13_1.mono (fun _ h_ => hs_118.1 _ h_)) hx_135
     replace st_143 : St w w_142 (.sl (some ⟨B_128, 0, none⟩) 1 1 x_133 124 2 :: .cells b0 (([.slice A_7_0 n_8_0 c_9_0] : Cs) ++ (([.slice A_7_1 n_8_1 c_9_1] : Cs) ++ (([.int .i64 a_14_2] : Cs) ++ (([.bool a_14_3] : Cs) ++ ([.slice A_7_4 n_8_4 c_9_4] : Cs))))) 95 :: .sl A_7_0 c_9_0 n_8_0 x_11_0 25 1 :: .sl A_139 c_140 n_141 x_145 124 2 :: .sl A_7_4 c_9_4 n_8_4 x_11_4 48 2 :: (T_117 ++ R)) := by rw [e_146]; exact st_143
     refine WL.nil ?_
     refine AWH.back (St.subset st_106 st_143 (List.forall_mem_cons.2 ⟨List.mem_of_getElem? (i := 1) rfl, (List.forall_mem_cons.2 ⟨List.mem_of_getElem? (i := 2) rfl, (List.forall_mem_cons.2 ⟨List.mem_of_getElem? (i := 4) rfl, (mem_TR (A := [_, _, _, _, _]) (fun _ h_ => hs_118.1 _ h_))⟩)⟩)⟩)) inv_ hs_ hk_ hc_ hn_ ?_
     refine AWH.tail (by kernel_rfl) ?_
     refine AW.take 11 rfl (by kernel_rfl) (by kernel_rfl) (by kernel_rfl) Wanted.none (fun _ => (Runs.nilCheck rfl)) ?_
     refine AW.take 12 rfl (by kernel_rfl) (by kernel_rfl) (by kernel_rfl) Wanted.none (fun _ => (Runs.fieldAddr (off := 1) (p := 1) fld95_1 rfl rfl rfl)) ?_
     refine AW.step 13 rfl (by kernel_rfl) ?_
     refine WL.store_one (i := 1) (u0 := .slice A_7_1 n_8_1 c_9_1) (pre := (([.slice A_7_0 n_8_0 c_9_0] : Cs))) (post := (([.int .i64 a_14_2] : Cs) ++ (([.bool a_14_3] : Cs) ++ ([.slice A_7_4 n_8_4 c_9_4] : Cs)))) st_143 rfl cells93 (by first | rfl | simp only [List.append_assoc, List.append_nil, List.nil_append, List.cons_append]) (by first | rfl | simp only [List.length_append, List.length_cons, List.length_nil, iv_length]) rfl rfl rfl ?_
     intro w_148 st_149
     replace st_149 : St w w_148 (.sl (some ⟨B_128, 0, none⟩) 1 1 x_133 124 2 :: .cells b0 (([.slice A_7_0 n_8_0 c_9_0] : Cs) ++ (([.slice A_139 n_141 c_140] : Cs) ++ (([.int .i64 a_14_2] : Cs) ++ (([.bool a_14_3] : Cs) ++ ([.slice A_7_4 n_8_4 c_9_4] : Cs))))) 95 :: .sl A_7_0 c_9_0 n_8_0 x_11_0 25 1 :: .sl A_139 c_140 n_141 x_145 124 2 :: .sl A_7_4 c_9_4 n_8_4 x_11_4 48 2 :: (T_117 ++ R)) := by have e_ : (([.slice A_7_0 n_8_0 c_9_0] : Cs) ++ (([.slice A_139 n_141 c_140] : Cs) ++ (([.int .i64 a_14_2] : Cs) ++ (([.bool a_14_3] : Cs) ++ ([.slice A_7_4 n_8_4 c_9_4] : Cs))))) = (([.slice A_7_0 n_8_0 c_9_0] : Cs)) ++ ((([.slice A_139 n_141 c_140] : Cs)) ++ (([.int .i64 a_14_2] : Cs) ++ (([.bool a_14_3] : Cs) ++ ([.slice A_7_4 n_8_4 c_9_4] : Cs)))) := (by first | rfl | simp only [List.append_assoc, List.append_nil, List.nil_append, List.cons_append]); have h_ : St w w_148 (.sl (some ⟨B_128, 0, none⟩) 1 1 x_133 124 2 :: .cells b0 ((([.slice A_7_0 n_8_0 c_9_0] : Cs)) ++ ((([.slice A_139 n_141 c_140] : Cs)) ++ (([.int .i64 a_14_2] : Cs) ++ (([.bool a_14_3] : Cs) ++ ([.slice A_7_4 n_8_4 c_9_4] : Cs))))) 95 :: .sl A_7_0 c_9_0 n_8_0 x_11_0 25 1 :: .sl A_139 c_140 n_141 x_145 124 2 :: .sl A_7_4 c_9_4 n_8_4 x_11_4 48 2 :: (T_117 ++ R)) := st_149; rw [← e_] at h_; exact h_
     refine WL.nil ?_
     refine AW.back  ?_
     refine AW.done (by kernel_rfl) ?_
     refine QW.then_n ?_
     refine CW.sub [(0, .pointer (some ⟨b0, 0, none⟩)), (1, .int .i64 a1), (6, .int .i64 0)] ⟨rfl, rfl, rfl, trivial⟩ ?_
     refine CW.seq (CW.region ?_)
     refine WL.val Wanted.none (Runs.move rfl) ?_
     refine WL.val Wanted.none (Runs.move rfl) ?_
     refine WL.val Wanted.none (Runs.nilCheck rfl) ?_
     refine WL.val Wanted.none (Runs.fieldAddr (off := 4) (p := 4) fld95_4 rfl rfl rfl) ?_
     refine WL.val Wanted.none (Runs.load nagg43 rfl (st_149.cell (k := 1) rfl (part_one (u := .slice A_7_4 n_8_4 c_9_4) (pre := (([.slice A_7_0 n_8_0 c_9_0] : Cs) ++ (([.slice A_139 n_141 c_140] : Cs) ++ (([.int .i64 a_14_2] : Cs) ++ ([.bool a_14_3] : Cs))))) (post := (([] : Cs))) (by first | rfl | simp only [List.append_assoc, List.append_nil, List.nil_append, List.cons_append]) (by first | rfl | simp only [List.length_append, List.length_cons, List.length_nil, iv_length])))) ?_
     refine WL.val Wanted.none (Runs.move rfl) ?_
     refine WL.val Wanted.none (Runs.build_struct (ps := [(0, 1), (1, 1)]) (cs := (([.int .i64 2] : Cs) ++ ([.int .i64 a1] : Cs))) plc48 zero48 rfl (by refine Fills.cons (o := 0) (ms := (([.int .i64 2] : Cs))) (show _ = some (0, (([.int .i64 2] : Cs)).length) by rw [show (([.int .i64 2] : Cs)).length = 1 from (by first | rfl | simp only [List.length_append, List.length_cons, List.length_nil, iv_length])] <;> rfl) rfl (by have h1_ : (([.int .i64 2] : Cs)).length = 1 := (by first | rfl | simp only [List.length_append, List.length_cons, List.length_nil, iv_length]); have h2_ : (([.int .i64 0] : Cs) ++ ([.int .i64 0] : Cs)).length = 2 := (by first | rfl | simp only [List.length_append, List.length_cons, List.length_nil, iv_length]); omega) ?_; rw [show layV (([.int .i64 0] : Cs) ++ ([.int .i64 0] : Cs)) 0 (([.int .i64 2] : Cs)) = (([.int .i64 2] : Cs) ++ ([.int .i64 0] : Cs)) from (layV_mid (pre := (([] : Cs))) (mid := (([.int .i64 0] : Cs))) (post := (([.int .i64 0] : Cs))) (by first | rfl | simp only [List.append_assoc, List.append_nil, List.nil_append, List.cons_append]) (by first | rfl | simp only [List.length_append, List.length_cons, List.length_nil, iv_length]) (Eq.trans (b := 1) (by first | rfl | simp only [List.length_append, List.length_cons, List.length_nil, iv_length]) (Eq.symm (by first | rfl | simp only [List.length_append, List.length_cons, List.length_nil, iv_length])))).trans (by first | rfl | simp only [List.append_assoc, List.append_nil, List.nil_append, List.cons_append])]; refine Fills.cons (o := 1) (ms := (([.int .i64 a1] : Cs))) (show _ = some (1, (([.int .i64 a1] : Cs)).length) by rw [show (([.int .i64 a1] : Cs)).length = 1 from (by first | rfl | simp only [List.length_append, List.length_cons, List.length_nil, iv_length])] <;> rfl) rfl (by have h1_ : (([.int .i64 a1] : Cs)).length = 1 := (by first | rfl | simp only [List.length_append, List.length_cons, List.length_nil, iv_length]); have h2_ : (([.int .i64 2] : Cs) ++ ([.int .i64 0] : Cs)).length = 2 := (by first | rfl | simp only [List.length_append, List.length_cons, List.length_nil, iv_length]); omega) ?_; rw [show layV (([.int .i64 2] : Cs) ++ ([.int .i64 0] : Cs)) 1 (([.int .i64 a1] : Cs)) = (([.int .i64 2] : Cs) ++ ([.int .i64 a1] : Cs)) from (layV_mid (pre := (([.int .i64 2] : Cs))) (mid := (([.int .i64 0] : Cs))) (post := (([] : Cs))) (by first | rfl | simp only [List.append_assoc, List.append_nil, List.nil_append, List.cons_append]) (by first | rfl | simp only [List.length_append, List.length_cons, List.length_nil, iv_length]) (Eq.trans (b := 1) (by first | rfl | simp only [List.length_append, List.length_cons, List.length_nil, iv_length]) (Eq.symm (by first | rfl | simp only [List.length_append, List.length_cons, List.length_nil, iv_length])))).trans (by first | rfl | simp only [List.append_assoc, List.append_nil, List.nil_append, List.cons_append])]; exact Fills.nil)) ?_
     obtain ⟨ii_150, z_151, h_152, h_153, h_154, h_155⟩ := slr48_1
     refine WL.buildSlRows (sz := 2) (cs := (([.int .i64 2] : Cs) ++ ([.int .i64 a1] : Cs))) st_149 Tryd.underlying43 h_152 h_153 h_154 (by decide) (by decide) h_155 rfl (by refine Fills.cons (o := 0) (ms := (([.int .i64 2] : Cs) ++ ([.int .i64 a1] : Cs))) (show _ = some (0, (([.int .i64 2] : Cs) ++ ([.int .i64 a1] : Cs)).length) by rw [show (([.int .i64 2] : Cs) ++ ([.int .i64 a1] : Cs)).length = 2 from (by first | rfl | simp only [List.length_append, List.length_cons, List.length_nil, iv_length])] <;> rfl) rfl (by have h1_ : (([.int .i64 2] : Cs) ++ ([.int .i64 a1] : Cs)).length = 2 := (by first | rfl | simp only [List.length_append, List.length_cons, List.length_nil, iv_length]); have h2_ : (([.int .i64 0] : Cs) ++ ([.int .i64 0] : Cs)).length = 2 := (by first | rfl | simp only [List.length_append, List.length_cons, List.length_nil, iv_length]); omega) ?_; rw [show layV (([.int .i64 0] : Cs) ++ ([.int .i64 0] : Cs)) 0 (([.int .i64 2] : Cs) ++ ([.int .i64 a1] : Cs)) = (([.int .i64 2] : Cs) ++ ([.int .i64 a1] : Cs)) from (layV_mid (pre := (([] : Cs))) (mid := (([.int .i64 0] : Cs) ++ ([.int .i64 0] : Cs))) (post := (([] : Cs))) (by first | rfl | simp only [List.append_assoc, List.append_nil, List.nil_append, List.cons_append]) (by first | rfl | simp only [List.length_append, List.length_cons, List.length_nil, iv_length]) (Eq.trans (b := 2) (by first | rfl | simp only [List.length_append, List.length_cons, List.length_nil, iv_length]) (Eq.symm (by first | rfl | simp only [List.length_append, List.length_cons, List.length_nil, iv_length])))).trans (by first | rfl | simp only [List.append_assoc, List.append_nil, List.nil_append, List.cons_append])]; exact Fills.nil) ?_
     intro B_156 w_157 st_158
     replace st_158 : St w w_157 (.cells B_156 (([.int .i64 2] : Cs) ++ ([.int .i64 a1] : Cs)) 48 :: .sl (some ⟨B_128, 0, none⟩) 1 1 x_133 124 2 :: .cells b0 (([.slice A_7_0 n_8_0 c_9_0] : Cs) ++ (([.slice A_139 n_141 c_140] : Cs) ++ (([.int .i64 a_14_2] : Cs) ++ (([.bool a_14_3] : Cs) ++ ([.slice A_7_4 n_8_4 c_9_4] : Cs))))) 95 :: .sl A_7_0 c_9_0 n_8_0 x_11_0 25 1 :: .sl A_139 c_140 n_141 x_145 124 2 :: .sl A_7_4 c_9_4 n_8_4 x_11_4 48 2 :: (T_117 ++ R)) := st_158
     have st_160 := St.rows_sl (i := 0) (m := 1) (size := 2) st_158 rfl rfl (by decide)
     obtain ⟨x_161, e_162⟩ : ∃ x_ : Cs, x_ = ([.int .i64 2] : Cs) ++ ([.int .i64 a1] : Cs) := ⟨_, rfl⟩
     have hx_163 : HRs T_117 (f48 w) x_161 ([(2, a1)] : List R48) := by rw [e_162]; exact (HRs.one (.cons rfl (.cons rfl .nil)))
     replace st_160 : St w w_157 (.sl (some ⟨B_156, 0, none⟩) 1 1 x_161 48 2 :: .sl (some ⟨B_128, 0, none⟩) 1 1 x_133 124 2 :: .cells b0 (([.slice A_7_0 n_8_0 c_9_0] : Cs) ++ (([.slice A_139 n_141 c_140] : Cs) ++ (([.int .i64 a_14_2] : Cs) ++ (([.bool a_14_3] : Cs) ++ ([.slice A_7_4 n_8_4 c_9_4] : Cs))))) 95 :: .sl A_7_0 c_9_0 n_8_0 x_11_0 25 1 :: .sl A_139 c_140 n_141 x_145 124 2 :: .sl A_7_4 c_9_4 n_8_4 x_11_4 48 2 :: (T_117 ++ R)) := by rw [e_162]; exact st_160
     obtain ⟨m_164, e_165, H⟩ := H
     obtain ⟨z_166, H⟩ := H
     obtain ⟨n_169, hn_172⟩ : ∃ n_ : Nat, n_ = m_164.length := ⟨_, rfl⟩
     refine WL.appendR (i := 5) (N := n_169) (news := x_161) Wanted.none st_160 rfl Tryd.underlying43 elemS48 rfl rfl (st_160.src_sl (k := 0) rfl) (by have h1_ := (hx_163).length (fz48 w); have h2_ : 1 = ([(2, a1)] : List R48).length := rfl; rw [h1_, h2_]) (HLs.one hx_163) (by decide) (by have h1_ : n_8_4 = l_10_4.length := hn_12_4; have h2_ : 1 = ([(2, a1)] : List R48).length := rfl; rw [hn_172, e_165, List.length_append]; omega) (by rw [hn_172]; exact z_166) ?_
     intro A_167 c_168 w_170 st_171
     obtain ⟨x_173, e_174⟩ : ∃ x_ : Cs, x_ = x_11_4 ++ x_161 := ⟨_, rfl⟩
     have hx_175 : HRs T_117 (f48 w) x_173 m_164 := by rw [e_174, e_165]; exact HRs.append (hx_13_4.mono (fun _ h_ => hs_118.1 _ h_)) hx_163
     replace st_171 : St w w_170 (.sl (some ⟨B_156, 0, none⟩) 1 1 x_161 48 2 :: .sl (some ⟨B_128, 0, none⟩) 1 1 x_133 124 2 :: .cells b0 (([.slice A_7_0 n_8_0 c_9_0] : Cs) ++ (([.slice A_139 n_141 c_140] : Cs) ++ (([.int .i64 a_14_2] : Cs) ++ (([.bool a_14_3] : Cs) ++ ([.slice A_7_4 n_8_4 c_9_4] : Cs))))) 95 :: .sl A_7_0 c_9_0 n_8_0 x_11_0 25 1 :: .sl A_139 c_140 n_141 x_145 124 2 :: .sl A_167 c_168 n_169 x_173 48 2 :: (T_117 ++ R)) := by rw [e_174]; exact st_171
     refine WL.val Wanted.none (Runs.nilCheck rfl) ?_
     refine WL.val Wanted.none (Runs.fieldAddr (off := 4) (p := 4) fld95_4 rfl rfl rfl) ?_
     refine WL.store_one (i := 2) (u0 := .slice A_7_4 n_8_4 c_9_4) (pre := (([.slice A_7_0 n_8_0 c_9_0] : Cs) ++ (([.slice A_139 n_141 c_140] : Cs) ++ (([.int .i64 a_14_2] : Cs) ++ ([.bool a_14_3] : Cs))))) (post := (([] : Cs))) st_171 rfl cells43 (by first | rfl | simp only [List.append_assoc, List.append_nil, List.nil_append, List.cons_append]) (by first | rfl | simp only [List.length_append, List.length_cons, List.length_nil, iv_length]) rfl rfl rfl ?_
     intro w_176 st_177
     replace st_177 : St w w_176 (.sl (some ⟨B_156, 0, none⟩) 1 1 x_161 48 2 :: .sl (some ⟨B_128, 0, none⟩) 1 1 x_133 124 2 :: .cells b0 (([.slice A_7_0 n_8_0 c_9_0] : Cs) ++ (([.slice A_139 n_141 c_140] : Cs) ++ (([.int .i64 a_14_2] : Cs) ++ (([.bool a_14_3] : Cs) ++ ([.slice A_167 n_169 c_168] : Cs))))) 95 :: .sl A_7_0 c_9_0 n_8_0 x_11_0 25 1 :: .sl A_139 c_140 n_141 x_145 124 2 :: .sl A_167 c_168 n_169 x_173 48 2 :: (T_117 ++ R)) := by have e_ : (([.slice A_7_0 n_8_0 c_9_0] : Cs) ++ (([.slice A_139 n_141 c_140] : Cs) ++ (([.int .i64 a_14_2] : Cs) ++ (([.bool a_14_3] : Cs) ++ ([.slice A_167 n_169 c_168] : Cs))))) = (([.slice A_7_0 n_8_0 c_9_0] : Cs) ++ (([.slice A_139 n_141 c_140] : Cs) ++ (([.int .i64 a_14_2] : Cs) ++ ([.bool a_14_3] : Cs)))) ++ ((([.slice A_167 n_169 c_168] : Cs)) ++ (([] : Cs))) := (by first | rfl | simp only [List.append_assoc, List.append_nil, List.nil_append, List.cons_append]); have h_ : St w w_176 (.sl (some ⟨B_156, 0, none⟩) 1 1 x_161 48 2 :: .sl (some ⟨B_128, 0, none⟩) 1 1 x_133 124 2 :: .cells b0 ((([.slice A_7_0 n_8_0 c_9_0] : Cs) ++ (([.slice A_139 n_141 c_140] : Cs) ++ (([.int .i64 a_14_2] : Cs) ++ ([.bool a_14_3] : Cs)))) ++ ((([.slice A_167 n_169 c_168] : Cs)) ++ (([] : Cs)))) 95 :: .sl A_7_0 c_9_0 n_8_0 x_11_0 25 1 :: .sl A_139 c_140 n_141 x_145 124 2 :: .sl A_167 c_168 n_169 x_173 48 2 :: (T_117 ++ R)) := st_177; rw [← e_] at h_; exact h_
     refine WL.nil (QW.then_n ?_)
     refine CW.sub [(6, .int .i64 0)] ⟨rfl, trivial⟩ ?_
     refine CW.seq (CW.region ?_)
     refine WL.val Wanted.none (Runs.assign rfl) ?_
     refine WL.nil (QW.then_n ?_)
     refine CW.ret ?_
     obtain ⟨rfl, rfl, rfl, rfl, rfl, rfl⟩ := H
     exact QW.ret1 rfl rfl ⟨T_117, A_7_0, n_8_0, c_9_0, x_11_0, A_139, n_141, c_140, x_145, A_167, n_169, c_168, x_173, (hs_6.trans hs_118), hn_12_0, (hx_13_0.mono (fun _ h_ => hs_118.1 _ h_)), hn_144, hx_147, hn_172, hx_175, rfl, (St.pickT (L := [_, _, _, _, _, _]) st_177 [2, 3, 4, 5] (by decide))⟩

/-! ### journal_Journal_Append_1: function 39 -/
def journal_Journal_Append_1.rel (a0_0 : Int) (l0_1 : List Int) (a0_2 : Bool) (l1_0_0 : List R25) (l1_0_1 : List R124) (a1_0_2 : Int) (a1_0_3 : Bool) (l1_0_4 : List R48) (l1_1 : List Int) (a1_2 : Int) (a1_3 : Int) (a1_4 : Int) (a1_5 : Int) (l1_6 : List Int) (a1_7 : Int) (a1_8 : Int) (a2_0 : Int) (a2_1 : Int) (l2_2 : List Int) (ls1_0_0 : List R25) (ls1_0_1 : List R124) (as1_0_2 : Int) (as1_0_3 : Bool) (ls1_0_4 : List R48) (ls1_1 : List Int) (as1_2 : Int) (as1_3 : Int) (as1_4 : Int) (as1_5 : Int) (ls1_6 : List Int) (as1_7 : Int) (as1_8 : Int) (as2_0 : Int) (as2_1 : Int) (ls2_2 : List Int) (ar0 : Int) : Prop := (a1_3 ≠ 0 ∧ (∃ x_6 : Int, x_6 = IntKind.i64.wrap (Int.tmod (IntKind.u64.wrap (a2_0 + a2_1)) a1_3) ∧ (∃ (l_18 : List Int) (a_22 : Int), record_Put.rel a0_0 l0_1 a0_2 l_18 a_22 ∧ ((a_22 ≠ 0 ∧ ls1_0_0 = l1_0_0 ∧ ls1_0_1 = l1_0_1 ∧ as1_0_2 = a1_0_2 ∧ as1_0_3 = a1_0_3 ∧ ls1_0_4 = l1_0_4 ∧ ls1_1 = l1_1 ∧ as1_2 = a1_2 ∧ as1_3 = a1_3 ∧ as1_4 = a1_4 ∧ as1_5 = a1_5 ∧ ls1_6 = l1_6 ∧ as1_7 = a1_7 ∧ as1_8 = a1_8 ∧ as2_0 = a2_0 ∧ as2_1 = a2_1 ∧ ls2_2 = l2_2 ∧ ar0 = a_22) ∨ (¬ (a_22 ≠ 0) ∧ (∃ (r_34 : List Int) (r_40 : Int), seal_Seal.rel l1_1 (IntKind.u32.wrap (IntKind.i64.wrap (a1_2 + x_6))) a1_7 l_18 r_34 r_40 ∧ ((r_40 ≠ 0 ∧ ls1_0_0 = l1_0_0 ∧ ls1_0_1 = l1_0_1 ∧ as1_0_2 = a1_0_2 ∧ as1_0_3 = a1_0_3 ∧ ls1_0_4 = l1_0_4 ∧ ls1_1 = l1_1 ∧ as1_2 = a1_2 ∧ as1_3 = a1_3 ∧ as1_4 = a1_4 ∧ as1_5 = a1_5 ∧ ls1_6 = l1_6 ∧ as1_7 = a1_7 ∧ as1_8 = a1_8 ∧ as2_0 = a2_0 ∧ as2_1 = a2_1 ∧ ls2_2 = l2_2 ∧ ar0 = r_40) ∨ (¬ (r_40 ≠ 0) ∧ (∃ (r_51 : List Int), journal_Link.rel l2_2 (IntKind.u32.wrap (IntKind.i64.wrap (a1_2 + x_6))) r_34 r_51 ∧ (∃ (l_63_0 : List R25) (l_63_1 : List R124) (a_67_2 : Int) (a_67_3 : Bool) (l_63_4 : List R48) (a_69 : Int), disk_Disk_Write.rel l1_0_0 l1_0_1 a1_0_2 a1_0_3 l1_0_4 (IntKind.i64.wrap (a1_2 + x_6)) r_34 l_63_0 l_63_1 a_67_2 a_67_3 l_63_4 a_69 ∧ ls1_0_0 = l_63_0 ∧ ls1_0_1 = l_63_1 ∧ as1_0_2 = a_67_2 ∧ as1_0_3 = a_67_3 ∧ ls1_0_4 = l_63_4 ∧ ls1_1 = l1_1 ∧ as1_2 = a1_2 ∧ as1_3 = a1_3 ∧ as1_4 = a1_4 ∧ as1_5 = a1_5 ∧ ls1_6 = l1_6 ∧ as1_7 = IntKind.u64.wrap (a1_7 + 1) ∧ as1_8 = a1_8 ∧ as2_0 = a2_0 ∧ as2_1 = IntKind.u64.wrap (a2_1 + 1) ∧ ls2_2 = r_51 ∧ ar0 = a_69))))))))))
set_option maxHeartbeats 1000000 in
set_option maxRecDepth 100000 in
theorem journal_Journal_Append_1.calls (w w1 : World) (T R : Pool) (a0_0 : Int) (l0_1 : List Int) (a0_2 : Bool) (l1_0_0 : List R25) (l1_0_1 : List R124) (a1_0_2 : Int) (a1_0_3 : Bool) (l1_0_4 : List R48) (l1_1 : List Int) (a1_2 : Int) (a1_3 : Int) (a1_4 : Int) (a1_5 : Int) (l1_6 : List Int) (a1_7 : Int) (a1_8 : Int) (a2_0 : Int) (a2_1 : Int) (l2_2 : List Int) (A0_1 : Option Addr) (n0_1 : Nat) (c0_1 : Nat) (bb1 : Nat) (b1 : Nat) (b1_0 : Nat) (A1_0_0 : Option Addr) (n1_0_0 : Nat) (c1_0_0 : Nat) (x1_0_0 : Cs) (A1_0_1 : Option Addr) (n1_0_1 : Nat) (c1_0_1 : Nat) (x1_0_1 : Cs) (A1_0_4 : Option Addr) (n1_0_4 : Nat) (c1_0_4 : Nat) (x1_0_4 : Cs) (b2 : Nat) (st0 : St w w1 (.cells b1 (([.pointer (some ⟨b1_0, 0, none⟩)] : Cs) ++ (iv .u8 l1_1 ++ (([.int .i64 a1_2] : Cs) ++ (([.int .u64 a1_3] : Cs) ++ (([.int .u64 a1_4] : Cs) ++ (([.int .u64 a1_5] : Cs) ++ (iv .u8 l1_6 ++ (([.int .u64 a1_7] : Cs) ++ ([.int .u64 a1_8] : Cs))))))))) 98 :: .cells b1_0 (([.slice A1_0_0 n1_0_0 c1_0_0] : Cs) ++ (([.slice A1_0_1 n1_0_1 c1_0_1] : Cs) ++ (([.int .i64 a1_0_2] : Cs) ++ (([.bool a1_0_3] : Cs) ++ ([.slice A1_0_4 n1_0_4 c1_0_4] : Cs))))) 95 :: .sl A1_0_0 c1_0_0 n1_0_0 x1_0_0 25 1 :: .sl A1_0_1 c1_0_1 n1_0_1 x1_0_1 124 2 :: .sl A1_0_4 c1_0_4 n1_0_4 x1_0_4 48 2 :: .cells b2 (([.int .u64 a2_0] : Cs) ++ (([.int .u64 a2_1] : Cs) ++ iv .u8 l2_2)) 39 :: (T ++ R))) (hG0 : Src w (some ⟨0, 0, none⟩) (iv .u32 tab0)) (hG1 : Src w (some ⟨1, 0, none⟩) (iv .i64 tab1)) (hb0_1 : HB w T A0_1 n0_1 c0_1 (iv .u8 l0_1) l0_1.length) (hn1_0_0 : n1_0_0 = l1_0_0.length) (hx1_0_0 : HRs T (f25 w) x1_0_0 l1_0_0) (hn1_0_1 : n1_0_1 = l1_0_1.length) (hx1_0_1 : HRs T (f124 w) x1_0_1 l1_0_1) (hn1_0_4 : n1_0_4 = l1_0_4.length) (hx1_0_4 : HRs T (f48 w) x1_0_4 l1_0_4) (hl1_1 : l1_1.length = 32) (hl1_6 : l1_6.length = 32) (hcell1 : Hd w (T ++ R) fun W_ => W_.cell? ⟨bb1, 0, none⟩ = some (.pointer (some ⟨b1, 0, none⟩))) (hl2_2 : l2_2.length = 32) (ls1_0_0 : List R25) (ls1_0_1 : List R124) (as1_0_2 : Int) (as1_0_3 : Bool) (ls1_0_4 : List R48) (ls1_1 : List Int) (as1_2 : Int) (as1_3 : Int) (as1_4 : Int) (as1_5 : Int) (ls1_6 : List Int) (as1_7 : Int) (as1_8 : Int) (as2_0 : Int) (as2_1 : Int) (ls2_2 : List Int) (ar0 : Int) (H : journal_Journal_Append_1.rel a0_0 l0_1 a0_2 l1_0_0 l1_0_1 a1_0_2 a1_0_3 l1_0_4 l1_1 a1_2 a1_3 a1_4 a1_5 l1_6 a1_7 a1_8 a2_0 a2_1 l2_2 ls1_0_0 ls1_0_1 as1_0_2 as1_0_3 ls1_0_4 ls1_1 as1_2 as1_3 as1_4 as1_5 ls1_6 as1_7 as1_8 as2_0 as2_1 ls2_2 ar0) :
  Calls Tryd.prog 39 #[.agg (([.int .u64 a0_0] : Cs) ++ (([.slice A0_1 n0_1 c0_1] : Cs) ++ ([.bool a0_2] : Cs))).toArray, .pointer (some ⟨bb1, 0, none⟩), .pointer (some ⟨b2, 0, none⟩)] w1 fun e w' => ∃ T' As1_0_0 ns1_0_0 cs1_0_0 xs1_0_0 As1_0_1 ns1_0_1 cs1_0_1 xs1_0_1 As1_0_4 ns1_0_4 cs1_0_4 xs1_0_4, Pl T T' ∧ ns1_0_0 = ls1_0_0.length ∧ HRs T' (f25 w) xs1_0_0 ls1_0_0 ∧ ns1_0_1 = ls1_0_1.length ∧ HRs T' (f124 w) xs1_0_1 ls1_0_1 ∧ ns1_0_4 = ls1_0_4.length ∧ HRs T' (f48 w) xs1_0_4 ls1_0_4 ∧ ls1_1.length = 32 ∧ ls1_6.length = 32 ∧ ls2_2.length = 32 ∧ e = .returned (.int .i64 ar0) ∧ St w w' (.cells b1 (([.pointer (some ⟨b1_0, 0, none⟩)] : Cs) ++ (iv .u8 ls1_1 ++ (([.int .i64 as1_2] : Cs) ++ (([.int .u64 as1_3] : Cs) ++ (([.int .u64 as1_4] : Cs) ++ (([.int .u64 as1_5] : Cs) ++ (iv .u8 ls1_6 ++ (([.int .u64 as1_7] : Cs) ++ ([.int .u64 as1_8] : Cs))))))))) 98 :: .cells b1_0 (([.slice As1_0_0 ns1_0_0 cs1_0_0] : Cs) ++ (([.slice As1_0_1 ns1_0_1 cs1_0_1] : Cs) ++ (([.int .i64 as1_0_2] : Cs) ++ (([.bool as1_0_3] : Cs) ++ ([.slice As1_0_4 ns1_0_4 cs1_0_4] : Cs))))) 95 :: .sl As1_0_0 cs1_0_0 ns1_0_0 xs1_0_0 25 1 :: .sl As1_0_1 cs1_0_1 ns1_0_1 xs1_0_1 124 2 :: .sl As1_0_4 cs1_0_4 ns1_0_4 xs1_0_4 48 2 :: .cells b2 (([.int .u64 as2_0] : Cs) ++ (([.int .u64 as2_1] : Cs) ++ iv .u8 ls2_2)) 39 :: (T' ++ R)) := by
 refine CW.enter Tryd.func39 rfl (n := 76) rfl [.agg (([.int .u64 a0_0] : Cs) ++ (([.slice A0_1 n0_1 c0_1] : Cs) ++ ([.bool a0_2] : Cs))).toArray, .pointer (some ⟨bb1, 0, none⟩), .pointer (some ⟨b2, 0, none⟩)] (Nat.le_of_ble_eq_true rfl) ?_
 refine CW.sub [(0, .agg (([.int .u64 a0_0] : Cs) ++ (([.slice A0_1 n0_1 c0_1] : Cs) ++ ([.bool a0_2] : Cs))).toArray), (1, .pointer (some ⟨bb1, 0, none⟩)), (2, .pointer (some ⟨b2, 0, none⟩))] ⟨rfl, rfl, rfl, trivial⟩ ?_
 refine CW.seq (CW.region ?_)
 refine WL.box st0 rfl rfl ?_
 intro B_1 w_2 st_3
 replace st_3 : St w w_2 (.cells B_1 (([.int .u64 a0_0] : Cs) ++ (([.slice A0_1 n0_1 c0_1] : Cs) ++ ([.bool a0_2] : Cs))) 104 :: .cells b1 (([.pointer (some ⟨b1_0, 0, none⟩)] : Cs) ++ (iv .u8 l1_1 ++ (([.int .i64 a1_2] : Cs) ++ (([.int .u64 a1_3] : Cs) ++ (([.int .u64 a1_4] : Cs) ++ (([.int .u64 a1_5] : Cs) ++ (iv .u8 l1_6 ++ (([.int .u64 a1_7] : Cs) ++ ([.int .u64 a1_8] : Cs))))))))) 98 :: .cells b1_0 (([.slice A1_0_0 n1_0_0 c1_0_0] : Cs) ++ (([.slice A1_0_1 n1_0_1 c1_0_1] : Cs) ++ (([.int .i64 a1_0_2] : Cs) ++ (([.bool a1_0_3] : Cs) ++ ([.slice A1_0_4 n1_0_4 c1_0_4] : Cs))))) 95 :: .sl A1_0_0 c1_0_0 n1_0_0 x1_0_0 25 1 :: .sl A1_0_1 c1_0_1 n1_0_1 x1_0_1 124 2 :: .sl A1_0_4 c1_0_4 n1_0_4 x1_0_4 48 2 :: .cells b2 (([.int .u64 a2_0] : Cs) ++ (([.int .u64 a2_1] : Cs) ++ iv .u8 l2_2)) 39 :: (T ++ R)) := st_3
 refine WL.val Wanted.none (Runs.assign rfl) ?_
 refine WL.nil (QW.then_n ?_)
 refine CW.seq ?_
 refine CW.region_qa wide (by kernel_rfl) st_3 ?_
 refine HL.val Wanted.none (fun wq sq => (Runs.load nagg34 rfl (hcell1.at sq (mem_TR (A := [_, _, _, _, _, _, _]) (fun _ h_ => h_))))) ?_
 refine HL.val Wanted.none (fun wq sq => (Runs.nilCheck rfl)) ?_
 refine HL.val Wanted.none (fun wq sq => (Runs.fieldAddr (off := 33) (p := 33) fld98_2 rfl rfl rfl)) ?_
 refine HL.val Wanted.none (fun wq sq => (Runs.load nagg3 rfl (sq.cell (k := 1) rfl (part_one (u := .int .i64 a1_2) (pre := (([.pointer (some ⟨b1_0, 0, none⟩)] : Cs) ++ iv .u8 l1_1)) (post := (([.int .u64 a1_3] : Cs) ++ (([.int .u64 a1_4] : Cs) ++ (([.int .u64 a1_5] : Cs) ++ (iv .u8 l1_6 ++ (([.int .u64 a1_7] : Cs) ++ ([.int .u64 a1_8] : Cs))))))) (by first | rfl | simp only [List.append_assoc, List.append_nil, List.nil_append, List.cons_append]) (by first | rfl | simp only [List.length_append, List.length_cons, List.length_nil, iv_length, hl1_1]))))) ?_
 refine HL.val Wanted.none (fun wq sq => (Runs.fieldAddr (off := 0) (p := 0) fld39_0 rfl rfl rfl)) ?_
 refine HL.val Wanted.none (fun wq sq => (Runs.load nagg37 rfl (sq.cell (k := 6) rfl (part_one (u := .int .u64 a2_0) (pre := (([] : Cs))) (post := (([.int .u64 a2_1] : Cs) ++ iv .u8 l2_2)) (by first | rfl | simp only [List.append_assoc, List.append_nil, List.nil_append, List.cons_append]) (by first | rfl | simp only [List.length_append, List.length_cons, List.length_nil, iv_length]))))) ?_
 refine HL.val Wanted.none (fun wq sq => (Runs.fieldAddr (off := 1) (p := 1) fld39_1 rfl rfl rfl)) ?_
 refine HL.val Wanted.none (fun wq sq => (Runs.load nagg37 rfl (sq.cell (k := 6) rfl (part_one (u := .int .u64 a2_1) (pre := (([.int .u64 a2_0] : Cs))) (post := (iv .u8 l2_2)) (by first | rfl | simp only [List.append_assoc, List.append_nil, List.nil_append, List.cons_append]) (by first | rfl | simp only [List.length_append, List.length_cons, List.length_nil, iv_length]))))) ?_
 refine HL.val Wanted.none (fun wq sq => (Runs.add rfl rfl rfl)) ?_
 refine HL.val Wanted.none (fun wq sq => (Runs.load nagg34 rfl (hcell1.at sq (mem_TR (A := [_, _, _, _, _, _, _]) (fun _ h_ => h_))))) ?_
 refine HL.val Wanted.none (fun wq sq => (Runs.nilCheck rfl)) ?_
 refine HL.val Wanted.none (fun wq sq => (Runs.fieldAddr (off := 34) (p := 34) fld98_3 rfl rfl rfl)) ?_
 refine HL.val Wanted.none (fun wq sq => (Runs.load nagg37 rfl (sq.cell (k := 1) rfl (part_one (u := .int .u64 a1_3) (pre := (([.pointer (some ⟨b1_0, 0, none⟩)] : Cs) ++ (iv .u8 l1_1 ++ ([.int .i64 a1_2] : Cs)))) (post := (([.int .u64 a1_4] : Cs) ++ (([.int .u64 a1_5] : Cs) ++ (iv .u8 l1_6 ++ (([.int .u64 a1_7] : Cs) ++ ([.int .u64 a1_8] : Cs)))))) (by first | rfl | simp only [List.append_assoc, List.append_nil, List.nil_append, List.cons_append]) (by first | rfl | simp only [List.length_append, List.length_cons, List.length_nil, iv_length, hl1_1]))))) ?_
 obtain ⟨z_5, H⟩ := H
 refine HL.val Wanted.none (fun wq sq => (Runs.rem rfl rfl z_5 rfl)) ?_
 obtain ⟨x_6, e_7, H⟩ := H
 refine HL.val Wanted.none (fun wq sq => (Runs.conv Tryd.underlying3 ⟨_, Tryd.underlying37⟩ rfl e_7)) ?_
 refine HL.val Wanted.none (fun wq sq => (Runs.add rfl rfl rfl)) ?_
 refine HL.val Wanted.none (fun wq sq => (Runs.assign rfl)) ?_
 refine HL.nil (fun w_8 st_9 => ?_)
 refine WL.nil (QW.then_n ?_)
 refine CW.sub [(1, .pointer (some ⟨bb1, 0, none⟩)), (2, .pointer (some ⟨b2, 0, none⟩)), (3, .pointer (some ⟨B_1, 0, none⟩)), (4, .int .i64 0), (5, .int .i64 (IntKind.i64.wrap (a1_2 + x_6)))] ⟨rfl, rfl, rfl, rfl, rfl, trivial⟩ ?_
 refine CW.seq (CW.region ?_)
 refine WL.val Wanted.none (Runs.load_mid row104 rfl st_9 (i := 0) rfl (part_mid (pre := (([] : Cs))) (mid := (([.int .u64 a0_0] : Cs) ++ (([.slice A0_1 n0_1 c0_1] : Cs) ++ ([.bool a0_2] : Cs)))) (post := (([] : Cs))) (by first | rfl | simp only [List.append_assoc, List.append_nil, List.nil_append, List.cons_append]) (by first | rfl | simp only [List.length_append, List.length_cons, List.length_nil, iv_length]) (by first | rfl | simp only [List.length_append, List.length_cons, List.length_nil, iv_length])) (by first | rfl | simp only [List.length_append, List.length_cons, List.length_nil, iv_length])) ?_
 have st_10 : St w w_8 ((T ++ (.cells B_1 (([.int .u64 a0_0] : Cs) ++ (([.slice A0_1 n0_1 c0_1] : Cs) ++ ([.bool a0_2] : Cs))) 104 :: .cells b1 (([.pointer (some ⟨b1_0, 0, none⟩)] : Cs) ++ (iv .u8 l1_1 ++ (([.int .i64 a1_2] : Cs) ++ (([.int .u64 a1_3] : Cs) ++ (([.int .u64 a1_4] : Cs) ++ (([.int .u64 a1_5] : Cs) ++ (iv .u8 l1_6 ++ (([.int .u64 a1_7] : Cs) ++ ([.int .u64 a1_8] : Cs))))))))) 98 :: .cells b1_0 (([.slice A1_0_0 n1_0_0 c1_0_0] : Cs) ++ (([.slice A1_0_1 n1_0_1 c1_0_1] : Cs) ++ (([.int .i64 a1_0_2] : Cs) ++ (([.bool a1_0_3] : Cs) ++ ([.slice A1_0_4 n1_0_4 c1_0_4] : Cs))))) 95 :: .sl A1_0_0 c1_0_0 n1_0_0 x1_0_0 25 1 :: .sl A1_0_1 c1_0_1 n1_0_1 x1_0_1 124 2 :: .sl A1_0_4 c1_0_4 n1_0_4 x1_0_4 48 2 :: .cells b2 (([.int .u64 a2_0] : Cs) ++ (([.int .u64 a2_1] : Cs) ++ iv .u8 l2_2)) 39 :: R))) := St.hide (A := []) (B := [_, _, _, _, _, _, _]) (T := T) (R := R) st_9
 obtain ⟨l_18, a_22, hr_11, H⟩ := H
 refine WL.call Wanted.none ent40 rfl (record_Put.calls w w_8 T (.cells B_1 (([.int .u64 a0_0] : Cs) ++ (([.slice A0_1 n0_1 c0_1] : Cs) ++ ([.bool a0_2] : Cs))) 104 :: .cells b1 (([.pointer (some ⟨b1_0, 0, none⟩)] : Cs) ++ (iv .u8 l1_1 ++ (([.int .i64 a1_2] : Cs) ++ (([.int .u64 a1_3] : Cs) ++ (([.int .u64 a1_4] : Cs) ++ (([.int .u64 a1_5] : Cs) ++ (iv .u8 l1_6 ++ (([.int .u64 a1_7] : Cs) ++ ([.int .u64 a1_8] : Cs))))))))) 98 :: .cells b1_0 (([.slice A1_0_0 n1_0_0 c1_0_0] : Cs) ++ (([.slice A1_0_1 n1_0_1 c1_0_1] : Cs) ++ (([.int .i64 a1_0_2] : Cs) ++ (([.bool a1_0_3] : Cs) ++ ([.slice A1_0_4 n1_0_4 c1_0_4] : Cs))))) 95 :: .sl A1_0_0 c1_0_0 n1_0_0 x1_0_0 25 1 :: .sl A1_0_1 c1_0_1 n1_0_1 x1_0_1 124 2 :: .sl A1_0_4 c1_0_4 n1_0_4 x1_0_4 48 2 :: .cells b2 (([.int .u64 a2_0] : Cs) ++ (([.int .u64 a2_1] : Cs) ++ iv .u8 l2_2)) 39 :: R) a0_0 l0_1 a0_2 A0_1 n0_1 c0_1  st_10 hb0_1 l_18 a_22 hr_11) ?_
 rintro _ w_23 ⟨T_12, A_15, n_16, c_17, hs_13, hn_20, rfl, sc_25⟩
 have st_24 : St w w_23 (.sl A_15 c_17 n_16 (iv .u8 l_18) 5 1 :: .cells B_1 (([.int .u64 a0_0] : Cs) ++ (([.slice A0_1 n0_1 c0_1] : Cs) ++ ([.bool a0_2] : Cs))) 104 :: .cells b1 (([.pointer (some ⟨b1_0, 0, none⟩)] : Cs) ++ (iv .u8 l1_1 ++ (([.int .i64 a1_2] : Cs) ++ (([.int .u64 a1_3] : Cs) ++ (([.int .u64 a1_4] : Cs) ++ (([.int .u64 a1_5] : Cs) ++ (iv .u8 l1_6 ++ (([.int .u64 a1_7] : Cs) ++ ([.int .u64 a1_8] : Cs))))))))) 98 :: .cells b1_0 (([.slice A1_0_0 n1_0_0 c1_0_0] : Cs) ++ (([.slice A1_0_1 n1_0_1 c1_0_1] : Cs) ++ (([.int .i64 a1_0_2] : Cs) ++ (([.bool a1_0_3] : Cs) ++ ([.slice A1_0_4 n1_0_4 c1_0_4] : Cs))))) 95 :: .sl A1_0_0 c1_0_0 n1_0_0 x1_0_0 25 1 :: .sl A1_0_1 c1_0_1 n1_0_1 x1_0_1 124 2 :: .sl A1_0_4 c1_0_4 n1_0_4 x1_0_4 48 2 :: .cells b2 (([.int .u64 a2_0] : Cs) ++ (([.int .u64 a2_1] : Cs) ++ iv .u8 l2_2)) 39 :: (T_12 ++ R)) := St.unhide (A := [_]) (B := [_, _, _, _, _, _, _]) (T := T_12) (R := R) sc_25
 refine ⟨_, rfl, ?_⟩
 refine WL.val Wanted.none (Runs.move rfl) ?_
 refine WL.val Wanted.none (Runs.extract rfl rfl) ?_
 refine WL.val Wanted.none (Runs.extract rfl rfl) ?_
 refine WL.val Wanted.none (Runs.assign rfl) ?_
 refine WL.val Wanted.none (Runs.assign rfl) ?_
 refine WL.nil (QW.then_n ?_)
 refine CW.sub [(1, .pointer (some ⟨bb1, 0, none⟩)), (2, .pointer (some ⟨b2, 0, none⟩)), (4, .int .i64 0), (5, .int .i64 (IntKind.i64.wrap (a1_2 + x_6))), (6, .slice A_15 n_16 c_17), (7, .int .i64 a_22)] (by repeat' constructor) ?_
 refine CW.seq ?_
 refine CW.seq (CW.region ?_)
 refine WL.val Wanted.none (Runs.move rfl) ?_
 refine WL.val Wanted.none (Runs.neq rfl rfl rfl) ?_
 refine WL.nil (QW.then_n ?_)
 rcases H with ⟨c_26, H⟩ | ⟨c_26, H⟩
 ·have h_27 : (a_22 != 0) = true := (bne_iff_ne.mpr c_26)
  refine CW.ct rfl h_27 ?_
  refine CW.seq (CW.region ?_)
  refine WL.val Wanted.none (Runs.move rfl) ?_
  refine WL.val Wanted.none (Runs.assign rfl) ?_
  refine WL.nil (QW.then_n ?_)
  refine CW.ret ?_
  refine QW.then_r ?_
  obtain ⟨rfl, rfl, rfl, rfl, rfl, rfl, rfl, rfl, rfl, rfl, rfl, rfl, rfl, rfl, rfl, rfl, rfl⟩ := H
  exact QW.ret1 rfl rfl ⟨T_12, A1_0_0, n1_0_0, c1_0_0, x1_0_0, A1_0_1, n1_0_1, c1_0_1, x1_0_1, A1_0_4, n1_0_4, c1_0_4, x1_0_4, hs_13, hn1_0_0, (hx1_0_0.mono (fun _ h_ => hs_13.1 _ h_)), hn1_0_1, (hx1_0_1.mono (fun _ h_ => hs_13.1 _ h_)), hn1_0_4, (hx1_0_4.mono (fun _ h_ => hs_13.1 _ h_)), hl1_1, hl1_6, hl2_2, rfl, (St.pickT (L := [_, _, _, _, _, _, _, _]) st_24 [2, 3, 4, 5, 6, 7] (by decide))⟩
 ·have h_27 : (a_22 != 0) = false := (bne_eq_false_iff_eq.mpr (Decidable.not_not.mp c_26))
  refine CW.cf rfl h_27 ?_
  refine CW.skip ?_
  refine QW.then_n ?_
  refine CW.seq ?_
  refine CW.region_awh (C := fun w_ => St w w_ (.sl A_15 c_17 n_16 (iv .u8 l_18) 5 1 :: .cells B_1 (([.int .u64 a0_0] : Cs) ++ (([.slice A0_1 n0_1 c0_1] : Cs) ++ ([.bool a0_2] : Cs))) 104 :: .cells b1 (([.pointer (some ⟨b1_0, 0, none⟩)] : Cs) ++ (iv .u8 l1_1 ++ (([.int .i64 a1_2] : Cs) ++ (([.int .u64 a1_3] : Cs) ++ (([.int .u64 a1_4] : Cs) ++ (([.int .u64 a1_5] : Cs) ++ (iv .u8 l1_6 ++ (([.int .u64 a1_7] : Cs) ++ ([.int .u64 a1_8] : Cs))))))))) 98 :: .cells b1_0 (([.slice A1_0_0 n1_0_0 c1_0_0] : Cs) ++ (([.slice A1_0_1 n1_0_1 c1_0_1] : Cs) ++ (([.int .i64 a1_0_2] : Cs) ++ (([.bool a1_0_3] : Cs) ++ ([.slice A1_0_4 n1_0_4 c1_0_4] : Cs))))) 95 :: .sl A1_0_0 c1_0_0 n1_0_0 x1_0_0 25 1 :: .sl A1_0_1 c1_0_1 n1_0_1 x1_0_1 124 2 :: .sl A1_0_4 c1_0_4 n1_0_4 x1_0_4 48 2 :: .cells b2 (([.int .u64 a2_0] : Cs) ++ (([.int .u64 a2_1] : Cs) ++ iv .u8 l2_2)) 39 :: (T_12 ++ R))) 16 wide (by kernel_rfl) st_24 (fun w_28 st_29 => ?_)
  refine AWH.take 0 rfl (by decide) (by kernel_rfl) (by kernel_rfl) st_29 Wanted.none (fun wq sq => (Runs.load nagg34 rfl (hcell1.at sq (mem_TR (A := [_, _, _, _, _, _, _, _]) (fun _ h_ => hs_13.1 _ h_))))) ?_
  refine AWH.take 1 rfl (by decide) (by kernel_rfl) (by kernel_rfl) st_29 Wanted.none (fun wq sq => (Runs.nilCheck rfl)) ?_
  refine AWH.take 2 rfl (by decide) (by kernel_rfl) (by kernel_rfl) st_29 Wanted.none (fun wq sq => (Runs.fieldAddr (off := 1) (p := 1) fld98_1 rfl rfl rfl)) ?_
  refine AWH.take 3 rfl (by decide) (by kernel_rfl) (by kernel_rfl) st_29 Wanted.none (fun wq sq => (Runs.load_mid row23 rfl sq (i := 2) rfl (part_mid (pre := (([.pointer (some ⟨b1_0, 0, none⟩)] : Cs))) (mid := (iv .u8 l1_1)) (post := (([.int .i64 a1_2] : Cs) ++ (([.int .u64 a1_3] : Cs) ++ (([.int .u64 a1_4] : Cs) ++ (([.int .u64 a1_5] : Cs) ++ (iv .u8 l1_6 ++ (([.int .u64 a1_7] : Cs) ++ ([.int .u64 a1_8] : Cs)))))))) (by first | rfl | simp only [List.append_assoc, List.append_nil, List.nil_append, List.cons_append]) (by first | rfl | simp only [List.length_append, List.length_cons, List.length_nil, iv_length]) (by first | rfl | simp only [List.length_append, List.length_cons, List.length_nil, iv_length, hl1_1])) (by first | rfl | simp only [List.length_append, List.length_cons, List.length_nil, iv_length, hl1_1]))) ?_
  refine AWH.take 4 rfl (by decide) (by kernel_rfl) (by kernel_rfl) st_29 Wanted.none (fun wq sq => (Runs.move rfl)) ?_
  refine AWH.take 5 rfl (by decide) (by kernel_rfl) (by kernel_rfl) st_29 Wanted.none (fun wq sq => (Runs.conv Tryd.underlying24 ⟨_, Tryd.underlying3⟩ rfl rfl)) ?_
  refine AWH.take 6 rfl (by decide) (by kernel_rfl) (by kernel_rfl) st_29 Wanted.none (fun wq sq => (Runs.load nagg34 rfl (hcell1.at sq (mem_TR (A := [_, _, _, _, _, _, _, _]) (fun _ h_ => hs_13.1 _ h_))))) ?_
  refine AWH.take 7 rfl (by decide) (by kernel_rfl) (by kernel_rfl) st_29 Wanted.none (fun wq sq => (Runs.nilCheck rfl)) ?_
  refine AWH.take 8 rfl (by decide) (by kernel_rfl) (by kernel_rfl) st_29 Wanted.none (fun wq sq => (Runs.fieldAddr (off := 69) (p := 69) fld98_5 rfl rfl rfl)) ?_
  refine AWH.take 9 rfl (by decide) (by kernel_rfl) (by kernel_rfl) st_29 Wanted.none (fun wq sq => (Runs.load nagg37 rfl (sq.cell (k := 2) rfl (part_one (u := .int .u64 a1_7) (pre := (([.pointer (some ⟨b1_0, 0, none⟩)] : Cs) ++ (iv .u8 l1_1 ++ (([.int .i64 a1_2] : Cs) ++ (([.int .u64 a1_3] : Cs) ++ (([.int .u64 a1_4] : Cs) ++ (([.int .u64 a1_5] : Cs) ++ iv .u8 l1_6))))))) (post := (([.int .u64 a1_8] : Cs))) (by first | rfl | simp only [List.append_assoc, List.append_nil, List.nil_append, List.cons_append]) (by first | rfl | simp only [List.length_append, List.length_cons, List.length_nil, iv_length, hl1_1, hl1_6]))))) ?_
  refine AWH.take 10 rfl (by decide) (by kernel_rfl) (by kernel_rfl) st_29 Wanted.none (fun wq sq => (Runs.move rfl)) ?_
  refine AWH.step 11 rfl (by decide) (by kernel_rfl) (fun inv_ hs_ hk_ hc_ hn_ => ?_)
  obtain ⟨r_34, r_40, hr_30, H⟩ := H
  refine WL.call Wanted.none ent41 rfl (seal_Seal.calls w_28 l1_1 (IntKind.u32.wrap (IntKind.i64.wrap (a1_2 + x_6))) a1_7 l_18 A_15 n_16 c_17 (hG1.ext st_29) hl1_1 (st_29.src_sl (k := 0) rfl) (hn_20) (st_29.cap (i := 0) rfl) r_34 r_40 hr_30) ?_
  rintro _ w_31 ⟨A_35, c_36, n_37, hn_38, rfl, sc_33⟩
  have st_32 : St w w_31 (.sl A_35 c_36 n_37 (iv .u8 r_34) 5 1 :: .sl A_15 c_17 n_16 (iv .u8 l_18) 5 1 :: .cells B_1 (([.int .u64 a0_0] : Cs) ++ (([.slice A0_1 n0_1 c0_1] : Cs) ++ ([.bool a0_2] : Cs))) 104 :: .cells b1 (([.pointer (some ⟨b1_0, 0, none⟩)] : Cs) ++ (iv .u8 l1_1 ++ (([.int .i64 a1_2] : Cs) ++ (([.int .u64 a1_3] : Cs) ++ (([.int .u64 a1_4] : Cs) ++ (([.int .u64 a1_5] : Cs) ++ (iv .u8 l1_6 ++ (([.int .u64 a1_7] : Cs) ++ ([.int .u64 a1_8] : Cs))))))))) 98 :: .cells b1_0 (([.slice A1_0_0 n1_0_0 c1_0_0] : Cs) ++ (([.slice A1_0_1 n1_0_1 c1_0_1] : Cs) ++ (([.int .i64 a1_0_2] : Cs) ++ (([.bool a1_0_3] : Cs) ++ ([.slice A1_0_4 n1_0_4 c1_0_4] : Cs))))) 95 :: .sl A1_0_0 c1_0_0 n1_0_0 x1_0_0 25 1 :: .sl A1_0_1 c1_0_1 n1_0_1 x1_0_1 124 2 :: .sl A1_0_4 c1_0_4 n1_0_4 x1_0_4 48 2 :: .cells b2 (([.int .u64 a2_0] : Cs) ++ (([.int .u64 a2_1] : Cs) ++ iv .u8 l2_2)) 39 :: (T_12 ++ R)) := st_29.call sc_33
  refine ⟨_, rfl, ?_⟩
  refine WL.nil ?_
  refine AWH.back (St.subset st_29 st_32 (List.forall_mem_cons.2 ⟨List.mem_of_getElem? (i := 1) rfl, (List.forall_mem_cons.2 ⟨List.mem_of_getElem? (i := 2) rfl, (List.forall_mem_cons.2 ⟨List.mem_of_getElem? (i := 3) rfl, (List.forall_mem_cons.2 ⟨List.mem_of_getElem? (i := 4) rfl, (List.forall_mem_cons.2 ⟨List.mem_of_getElem? (i := 5) rfl, (List.forall_mem_cons.2 ⟨List.mem_of_getElem? (i := 6) rfl, (List.forall_mem_cons.2 ⟨List.mem_of_getElem? (i := 7) rfl, (List.forall_mem_cons.2 ⟨List.mem_of_getElem? (i := 8) rfl, (mem_TR (A := [_, _, _, _, _, _, _, _, _]) (fun _ h_ => h_))⟩)⟩)⟩)⟩)⟩)⟩)⟩)⟩)) inv_ hs_ hk_ hc_ hn_ ?_
  refine AWH.take 12 rfl (by decide) (by kernel_rfl) (by kernel_rfl) (St.subset st_29 st_32 (List.forall_mem_cons.2 ⟨List.mem_of_getElem? (i := 1) rfl, (List.forall_mem_cons.2 ⟨List.mem_of_getElem? (i := 2) rfl, (List.forall_mem_cons.2 ⟨List.mem_of_getElem? (i := 3) rfl, (List.forall_mem_cons.2 ⟨List.mem_of_getElem? (i := 4) rfl, (List.forall_mem_cons.2 ⟨List.mem_of_getElem? (i := 5) rfl, (List.forall_mem_cons.2 ⟨List.mem_of_getElem? (i := 6) rfl, (List.forall_mem_cons.2 ⟨List.mem_of_getElem? (i := 7) rfl, (List.forall_mem_cons.2 ⟨List.mem_of_getElem? (i := 8) rfl, (mem_TR (A := [_, _, _, _, _, _, _, _, _]) (fun _ h_ => h_))⟩)⟩)⟩)⟩)⟩)⟩)⟩)⟩)) Wanted.none (fun wq sq => (Runs.move rfl)) ?_
  refine AWH.take 13 rfl (by decide) (by kernel_rfl) (by kernel_rfl) (St.subset st_29 st_32 (List.forall_mem_cons.2 ⟨List.mem_of_getElem? (i := 1) rfl, (List.forall_mem_cons.2 ⟨List.mem_of_getElem? (i := 2) rfl, (List.forall_mem_cons.2 ⟨List.mem_of_getElem? (i := 3) rfl, (List.forall_mem_cons.2 ⟨List.mem_of_getElem? (i := 4) rfl, (List.forall_mem_cons.2 ⟨List.mem_of_getElem? (i := 5) rfl, (List.forall_mem_cons.2 ⟨List.mem_of_getElem? (i := 6) rfl, (List.forall_mem_cons.2 ⟨List.mem_of_getElem? (i := 7) rfl, (List.forall_mem_cons.2 ⟨List.mem_of_getElem? (i := 8) rfl, (mem_TR (A := [_, _, _, _, _, _, _, _, _]) (fun _ h_ => h_))⟩)⟩)⟩)⟩)⟩)⟩)⟩)⟩)) Wanted.none (fun wq sq => (Runs.extract rfl rfl)) ?_
  refine AWH.take 14 rfl (by decide) (by kernel_rfl) (by kernel_rfl) (St.subset st_29 st_32 (List.forall_mem_cons.2 ⟨List.mem_of_getElem? (i := 1) rfl, (List.forall_mem_cons.2 ⟨List.mem_of_getElem? (i := 2) rfl, (List.forall_mem_cons.2 ⟨List.mem_of_getElem? (i := 3) rfl, (List.forall_mem_cons.2 ⟨List.mem_of_getElem? (i := 4) rfl, (List.forall_mem_cons.2 ⟨List.mem_of_getElem? (i := 5) rfl, (List.forall_mem_cons.2 ⟨List.mem_of_getElem? (i := 6) rfl, (List.forall_mem_cons.2 ⟨List.mem_of_getElem? (i := 7) rfl, (List.forall_mem_cons.2 ⟨List.mem_of_getElem? (i := 8) rfl, (mem_TR (A := [_, _, _, _, _, _, _, _, _]) (fun _ h_ => h_))⟩)⟩)⟩)⟩)⟩)⟩)⟩)⟩)) Wanted.none (fun wq sq => (Runs.extract rfl rfl)) ?_
  refine AWH.take 15 rfl (by decide) (by kernel_rfl) (by kernel_rfl) (St.subset st_29 st_32 (List.forall_mem_cons.2 ⟨List.mem_of_getElem? (i := 1) rfl, (List.forall_mem_cons.2 ⟨List.mem_of_getElem? (i := 2) rfl, (List.forall_mem_cons.2 ⟨List.mem_of_getElem? (i := 3) rfl, (List.forall_mem_cons.2 ⟨List.mem_of_getElem? (i := 4) rfl, (List.forall_mem_cons.2 ⟨List.mem_of_getElem? (i := 5) rfl, (List.forall_mem_cons.2 ⟨List.mem_of_getElem? (i := 6) rfl, (List.forall_mem_cons.2 ⟨List.mem_of_getElem? (i := 7) rfl, (List.forall_mem_cons.2 ⟨List.mem_of_getElem? (i := 8) rfl, (mem_TR (A := [_, _, _, _, _, _, _, _, _]) (fun _ h_ => h_))⟩)⟩)⟩)⟩)⟩)⟩)⟩)⟩)) Wanted.none (fun wq sq => (Runs.assign rfl)) ?_
  refine AWH.tail (by kernel_rfl) ?_
  refine AW.take 16 rfl (by kernel_rfl) (by kernel_rfl) (by kernel_rfl) Wanted.none (fun _ => (Runs.assign rfl)) ?_
  refine AW.done (by kernel_rfl) ?_
  refine QW.then_n ?_
  refine CW.sub [(1, .pointer (some ⟨bb1, 0, none⟩)), (2, .pointer (some ⟨b2, 0, none⟩)), (4, .int .i64 0), (5, .int .i64 (IntKind.i64.wrap (a1_2 + x_6))), (7, .int .i64 r_40), (8, .slice A_35 n_37 c_36)] (by repeat' constructor) ?_
  refine CW.seq ?_
  refine CW.seq (CW.region ?_)
  refine WL.val Wanted.none (Runs.move rfl) ?_
  refine WL.val Wanted.none (Runs.neq rfl rfl rfl) ?_
  refine WL.nil (QW.then_n ?_)
  rcases H with ⟨c_41, H⟩ | ⟨c_41, H⟩
  ·have h_42 : (r_40 != 0) = true := (bne_iff_ne.mpr c_41)
   refine CW.ct rfl h_42 ?_
   refine CW.seq (CW.region ?_)
   refine WL.val Wanted.none (Runs.move rfl) ?_
   refine WL.val Wanted.none (Runs.assign rfl) ?_
   refine WL.nil (QW.then_n ?_)
   refine CW.ret ?_
   refine QW.then_r ?_
   obtain ⟨rfl, rfl, rfl, rfl, rfl, rfl, rfl, rfl, rfl, rfl, rfl, rfl, rfl, rfl, rfl, rfl, rfl⟩ := H
   exact QW.ret1 rfl rfl ⟨T_12, A1_0_0, n1_0_0, c1_0_0, x1_0_0, A1_0_1, n1_0_1, c1_0_1, x1_0_1, A1_0_4, n1_0_4, c1_0_4, x1_0_4, hs_13, hn1_0_0, (hx1_0_0.mono (fun _ h_ => hs_13.1 _ h_)), hn1_0_1, (hx1_0_1.mono (fun _ h_ => hs_13.1 _ h_)), hn1_0_4, (hx1_0_4.mono (fun _ h_ => hs_13.1 _ h_)), hl1_1, hl1_6, hl2_2, rfl, (St.pickT (L := [_, _, _, _, _, _, _, _, _]) st_32 [3, 4, 5, 6, 7, 8] (by decide))⟩
  ·have h_42 : (r_40 != 0) = false := (bne_eq_false_iff_eq.mpr (Decidable.not_not.mp c_41))
   refine CW.cf rfl h_42 ?_
   refine CW.skip ?_
   refine QW.then_n ?_
   refine CW.seq (CW.region ?_)
   refine WL.val Wanted.none (Runs.load nagg34 rfl (hcell1.at st_32 (mem_TR (A := [_, _, _, _, _, _, _, _, _]) (fun _ h_ => hs_13.1 _ h_)))) ?_
   refine WL.val Wanted.none (Runs.nilCheck rfl) ?_
   refine WL.val Wanted.none (Runs.fieldAddr (off := 69) (p := 69) fld98_5 rfl rfl rfl) ?_
   refine WL.val Wanted.none (Runs.load nagg37 rfl (st_32.cell (k := 3) rfl (part_one (u := .int .u64 a1_7) (pre := (([.pointer (some ⟨b1_0, 0, none⟩)] : Cs) ++ (iv .u8 l1_1 ++ (([.int .i64 a1_2] : Cs) ++ (([.int .u64 a1_3] : Cs) ++ (([.int .u64 a1_4] : Cs) ++ (([.int .u64 a1_5] : Cs) ++ iv .u8 l1_6))))))) (post := (([.int .u64 a1_8] : Cs))) (by first | rfl | simp only [List.append_assoc, List.append_nil, List.nil_append, List.cons_append]) (by first | rfl | simp only [List.length_append, List.length_cons, List.length_nil, iv_length, hl1_1, hl1_6])))) ?_
   refine WL.val Wanted.none (Runs.add rfl rfl rfl) ?_
   refine WL.val Wanted.none (Runs.nilCheck rfl) ?_
   refine WL.val Wanted.none (Runs.fieldAddr (off := 69) (p := 69) fld98_5 rfl rfl rfl) ?_
   refine WL.store_one (i := 3) (u0 := .int .u64 a1_7) (pre := (([.pointer (some ⟨b1_0, 0, none⟩)] : Cs) ++ (iv .u8 l1_1 ++ (([.int .i64 a1_2] : Cs) ++ (([.int .u64 a1_3] : Cs) ++ (([.int .u64 a1_4] : Cs) ++ (([.int .u64 a1_5] : Cs) ++ iv .u8 l1_6))))))) (post := (([.int .u64 a1_8] : Cs))) st_32 rfl cells37 (by first | rfl | simp only [List.append_assoc, List.append_nil, List.nil_append, List.cons_append]) (by first | rfl | simp only [List.length_append, List.length_cons, List.length_nil, iv_length, hl1_1, hl1_6]) rfl rfl rfl ?_
   intro w_43 st_44
   replace st_44 : St w w_43 (.sl A_35 c_36 n_37 (iv .u8 r_34) 5 1 :: .sl A_15 c_17 n_16 (iv .u8 l_18) 5 1 :: .cells B_1 (([.int .u64 a0_0] : Cs) ++ (([.slice A0_1 n0_1 c0_1] : Cs) ++ ([.bool a0_2] : Cs))) 104 :: .cells b1 (([.pointer (some ⟨b1_0, 0, none⟩)] : Cs) ++ (iv .u8 l1_1 ++ (([.int .i64 a1_2] : Cs) ++ (([.int .u64 a1_3] : Cs) ++ (([.int .u64 a1_4] : Cs) ++ (([.int .u64 a1_5] : Cs) ++ (iv .u8 l1_6 ++ (([.int .u64 (IntKind.u64.wrap (a1_7 + 1))] : Cs) ++ ([.int .u64 a1_8] : Cs))))))))) 98 :: .cells b1_0 (([.slice A1_0_0 n1_0_0 c1_0_0] : Cs) ++ (([.slice A1_0_1 n1_0_1 c1_0_1] : Cs) ++ (([.int .i64 a1_0_2] : Cs) ++ (([.bool a1_0_3] : Cs) ++ ([.slice A1_0_4 n1_0_4 c1_0_4] : Cs))))) 95 :: .sl A1_0_0 c1_0_0 n1_0_0 x1_0_0 25 1 :: .sl A1_0_1 c1_0_1 n1_0_1 x1_0_1 124 2 :: .sl A1_0_4 c1_0_4 n1_0_4 x1_0_4 48 2 :: .cells b2 (([.int .u64 a2_0] : Cs) ++ (([.int .u64 a2_1] : Cs) ++ iv .u8 l2_2)) 39 :: (T_12 ++ R)) := by have e_ : (([.pointer (some ⟨b1_0, 0, none⟩)] : Cs) ++ (iv .u8 l1_1 ++ (([.int .i64 a1_2] : Cs) ++ (([.int .u64 a1_3] : Cs) ++ (([.int .u64 a1_4] : Cs) ++ (([.int .u64 a1_5] : Cs) ++ (iv .u8 l1_6 ++ (([.int .u64 (IntKind.u64.wrap (a1_7 + 1))] : Cs) ++ ([.int .u64 a1_8] : Cs))))))))) = (([.pointer (some ⟨b1_0, 0, none⟩)] : Cs) ++ (iv .u8 l1_1 ++ (([.int .i64 a1_2] : Cs) ++ (([.int .u64 a1_3] : Cs) ++ (([.int .u64 a1_4] : Cs) ++ (([.int .u64 a1_5] : Cs) ++ iv .u8 l1_6)))))) ++ ((([.int .u64 (IntKind.u64.wrap (a1_7 + 1))] : Cs)) ++ (([.int .u64 a1_8] : Cs))) := (by first | rfl | simp only [List.append_assoc, List.append_nil, List.nil_append, List.cons_append]); have h_ : St w w_43 (.sl A_35 c_36 n_37 (iv .u8 r_34) 5 1 :: .sl A_15 c_17 n_16 (iv .u8 l_18) 5 1 :: .cells B_1 (([.int .u64 a0_0] : Cs) ++ (([.slice A0_1 n0_1 c0_1] : Cs) ++ ([.bool a0_2] : Cs))) 104 :: .cells b1 ((([.pointer (some ⟨b1_0, 0, none⟩)] : Cs) ++ (iv .u8 l1_1 ++ (([.int .i64 a1_2] : Cs) ++ (([.int .u64 a1_3] : Cs) ++ (([.int .u64 a1_4] : Cs) ++ (([.int .u64 a1_5] : Cs) ++ iv .u8 l1_6)))))) ++ ((([.int .u64 (IntKind.u64.wrap (a1_7 + 1))] : Cs)) ++ (([.int .u64 a1_8] : Cs)))) 98 :: .cells b1_0 (([.slice A1_0_0 n1_0_0 c1_0_0] : Cs) ++ (([.slice A1_0_1 n1_0_1 c1_0_1] : Cs) ++ (([.int .i64 a1_0_2] : Cs) ++ (([.bool a1_0_3] : Cs) ++ ([.slice A1_0_4 n1_0_4 c1_0_4] : Cs))))) 95 :: .sl A1_0_0 c1_0_0 n1_0_0 x1_0_0 25 1 :: .sl A1_0_1 c1_0_1 n1_0_1 x1_0_1 124 2 :: .sl A1_0_4 c1_0_4 n1_0_4 x1_0_4 48 2 :: .cells b2 (([.int .u64 a2_0] : Cs) ++ (([.int .u64 a2_1] : Cs) ++ iv .u8 l2_2)) 39 :: (T_12 ++ R)) := st_44; rw [← e_] at h_; exact h_
   refine WL.nil (QW.then_n ?_)
   refine CW.sub [(1, .pointer (some ⟨bb1, 0, none⟩)), (2, .pointer (some ⟨b2, 0, none⟩)), (4, .int .i64 0), (5, .int .i64 (IntKind.i64.wrap (a1_2 + x_6))), (8, .slice A_35 n_37 c_36)] ⟨rfl, rfl, rfl, rfl, rfl, trivial⟩ ?_
   refine CW.seq (CW.region ?_)
   refine WL.val Wanted.none (Runs.fieldAddr (off := 1) (p := 1) fld39_1 rfl rfl rfl) ?_
   refine WL.val Wanted.none (Runs.load nagg37 rfl (st_44.cell (k := 8) rfl (part_one (u := .int .u64 a2_1) (pre := (([.int .u64 a2_0] : Cs))) (post := (iv .u8 l2_2)) (by first | rfl | simp only [List.append_assoc, List.append_nil, List.nil_append, List.cons_append]) (by first | rfl | simp only [List.length_append, List.length_cons, List.length_nil, iv_length])))) ?_
   refine WL.val Wanted.none (Runs.add rfl rfl rfl) ?_
   refine WL.val Wanted.none (Runs.fieldAddr (off := 1) (p := 1) fld39_1 rfl rfl rfl) ?_
   refine WL.store_one (i := 8) (u0 := .int .u64 a2_1) (pre := (([.int .u64 a2_0] : Cs))) (post := (iv .u8 l2_2)) st_44 rfl cells37 (by first | rfl | simp only [List.append_assoc, List.append_nil, List.nil_append, List.cons_append]) (by first | rfl | simp only [List.length_append, List.length_cons, List.length_nil, iv_length]) rfl rfl rfl ?_
   intro w_45 st_46
   replace st_46 : St w w_45 (.sl A_35 c_36 n_37 (iv .u8 r_34) 5 1 :: .sl A_15 c_17 n_16 (iv .u8 l_18) 5 1 :: .cells B_1 (([.int .u64 a0_0] : Cs) ++ (([.slice A0_1 n0_1 c0_1] : Cs) ++ ([.bool a0_2] : Cs))) 104 :: .cells b1 (([.pointer (some ⟨b1_0, 0, none⟩)] : Cs) ++ (iv .u8 l1_1 ++ (([.int .i64 a1_2] : Cs) ++ (([.int .u64 a1_3] : Cs) ++ (([.int .u64 a1_4] : Cs) ++ (([.int .u64 a1_5] : Cs) ++ (iv .u8 l1_6 ++ (([.int .u64 (IntKind.u64.wrap (a1_7 + 1))] : Cs) ++ ([.int .u64 a1_8] : Cs))))))))) 98 :: .cells b1_0 (([.slice A1_0_0 n1_0_0 c1_0_0] : Cs) ++ (([.slice A1_0_1 n1_0_1 c1_0_1] : Cs) ++ (([.int .i64 a1_0_2] : Cs) ++ (([.bool a1_0_3] : Cs) ++ ([.slice A1_0_4 n1_0_4 c1_0_4] : Cs))))) 95 :: .sl A1_0_0 c1_0_0 n1_0_0 x1_0_0 25 1 :: .sl A1_0_1 c1_0_1 n1_0_1 x1_0_1 124 2 :: .sl A1_0_4 c1_0_4 n1_0_4 x1_0_4 48 2 :: .cells b2 (([.int .u64 a2_0] : Cs) ++ (([.int .u64 (IntKind.u64.wrap (a2_1 + 1))] : Cs) ++ iv .u8 l2_2)) 39 :: (T_12 ++ R)) := by have e_ : (([.int .u64 a2_0] : Cs) ++ (([.int .u64 (IntKind.u64.wrap (a2_1 + 1))] : Cs) ++ iv .u8 l2_2)) = (([.int .u64 a2_0] : Cs)) ++ ((([.int .u64 (IntKind.u64.wrap (a2_1 + 1))] : Cs)) ++ (iv .u8 l2_2)) := (by first | rfl | simp only [List.append_assoc, List.append_nil, List.nil_append, List.cons_append]); have h_ : St w w_45 (.sl A_35 c_36 n_37 (iv .u8 r_34) 5 1 :: .sl A_15 c_17 n_16 (iv .u8 l_18) 5 1 :: .cells B_1 (([.int .u64 a0_0] : Cs) ++ (([.slice A0_1 n0_1 c0_1] : Cs) ++ ([.bool a0_2] : Cs))) 104 :: .cells b1 (([.pointer (some ⟨b1_0, 0, none⟩)] : Cs) ++ (iv .u8 l1_1 ++ (([.int .i64 a1_2] : Cs) ++ (([.int .u64 a1_3] : Cs) ++ (([.int .u64 a1_4] : Cs) ++ (([.int .u64 a1_5] : Cs) ++ (iv .u8 l1_6 ++ (([.int .u64 (IntKind.u64.wrap (a1_7 + 1))] : Cs) ++ ([.int .u64 a1_8] : Cs))))))))) 98 :: .cells b1_0 (([.slice A1_0_0 n1_0_0 c1_0_0] : Cs) ++ (([.slice A1_0_1 n1_0_1 c1_0_1] : Cs) ++ (([.int .i64 a1_0_2] : Cs) ++ (([.bool a1_0_3] : Cs) ++ ([.slice A1_0_4 n1_0_4 c1_0_4] : Cs))))) 95 :: .sl A1_0_0 c1_0_0 n1_0_0 x1_0_0 25 1 :: .sl A1_0_1 c1_0_1 n1_0_1 x1_0_1 124 2 :: .sl A1_0_4 c1_0_4 n1_0_4 x1_0_4 48 2 :: .cells b2 ((([.int .u64 a2_0] : Cs)) ++ ((([.int .u64 (IntKind.u64.wrap (a2_1 + 1))] : Cs)) ++ (iv .u8 l2_2))) 39 :: (T_12 ++ R)) := st_46; rw [← e_] at h_; exact h_
   refine WL.nil (QW.then_n ?_)
   refine CW.seq (CW.region ?_)
   refine WL.val Wanted.none (Runs.fieldAddr (off := 2) (p := 2) fld39_2 rfl rfl rfl) ?_
   refine WL.val Wanted.none (Runs.load_mid row23 rfl st_46 (i := 8) rfl (part_mid (pre := (([.int .u64 a2_0] : Cs) ++ ([.int .u64 (IntKind.u64.wrap (a2_1 + 1))] : Cs))) (mid := (iv .u8 l2_2)) (post := (([] : Cs))) (by first | rfl | simp only [List.append_assoc, List.append_nil, List.nil_append, List.cons_append]) (by first | rfl | simp only [List.length_append, List.length_cons, List.length_nil, iv_length]) (by first | rfl | simp only [List.length_append, List.length_cons, List.length_nil, iv_length, hl2_2])) (by first | rfl | simp only [List.length_append, List.length_cons, List.length_nil, iv_length, hl2_2])) ?_
   refine WL.val Wanted.none (Runs.move rfl) ?_
   refine WL.val Wanted.none (Runs.conv Tryd.underlying24 ⟨_, Tryd.underlying3⟩ rfl rfl) ?_
   refine WL.val Wanted.none (Runs.move rfl) ?_
   obtain ⟨r_51, hr_47, H⟩ := H
   refine WL.call Wanted.none ent9 rfl (journal_Link.calls w_45 l2_2 (IntKind.u32.wrap (IntKind.i64.wrap (a1_2 + x_6))) r_34 A_35 n_37 c_36 (hG0.ext st_46) hl2_2 (st_46.src_sl (k := 0) rfl) (hn_38) (st_46.cap (i := 0) rfl) r_51 hr_47) ?_
   rintro _ w_48 ⟨hl_52, rfl, sc_50⟩
   have st_49 : St w w_48 (.sl A_35 c_36 n_37 (iv .u8 r_34) 5 1 :: .sl A_15 c_17 n_16 (iv .u8 l_18) 5 1 :: .cells B_1 (([.int .u64 a0_0] : Cs) ++ (([.slice A0_1 n0_1 c0_1] : Cs) ++ ([.bool a0_2] : Cs))) 104 :: .cells b1 (([.pointer (some ⟨b1_0, 0, none⟩)] : Cs) ++ (iv .u8 l1_1 ++ (([.int .i64 a1_2] : Cs) ++ (([.int .u64 a1_3] : Cs) ++ (([.int .u64 a1_4] : Cs) ++ (([.int .u64 a1_5] : Cs) ++ (iv .u8 l1_6 ++ (([.int .u64 (IntKind.u64.wrap (a1_7 + 1))] : Cs) ++ ([.int .u64 a1_8] : Cs))))))))) 98 :: .cells b1_0 (([.slice A1_0_0 n1_0_0 c1_0_0] : Cs) ++ (([.slice A1_0_1 n1_0_1 c1_0_1] : Cs) ++ (([.int .i64 a1_0_2] : Cs) ++ (([.bool a1_0_3] : Cs) ++ ([.slice A1_0_4 n1_0_4 c1_0_4] : Cs))))) 95 :: .sl A1_0_0 c1_0_0 n1_0_0 x1_0_0 25 1 :: .sl A1_0_1 c1_0_1 n1_0_1 x1_0_1 124 2 :: .sl A1_0_4 c1_0_4 n1_0_4 x1_0_4 48 2 :: .cells b2 (([.int .u64 a2_0] : Cs) ++ (([.int .u64 (IntKind.u64.wrap (a2_1 + 1))] : Cs) ++ iv .u8 l2_2)) 39 :: (T_12 ++ R)) := st_46.call sc_50
   refine ⟨_, rfl, ?_⟩
   refine WL.val Wanted.none (Runs.fieldAddr (off := 2) (p := 2) fld39_2 rfl rfl rfl) ?_
   refine WL.store_mid (i := 8) (pre := (([.int .u64 a2_0] : Cs) ++ ([.int .u64 (IntKind.u64.wrap (a2_1 + 1))] : Cs))) (mid := (iv .u8 l2_2)) (post := (([] : Cs))) (ms := (iv .u8 r_51)) st_49 rfl row23 (by first | rfl | simp only [List.append_assoc, List.append_nil, List.nil_append, List.cons_append]) (by first | rfl | simp only [List.length_append, List.length_cons, List.length_nil, iv_length]) rfl rfl (by first | rfl | simp only [List.length_append, List.length_cons, List.length_nil, iv_length, hl_52]) (by first | rfl | simp only [List.length_append, List.length_cons, List.length_nil, iv_length, hl2_2]) (one_iv _ _) ?_
   intro w_53 st_54
   replace st_54 : St w w_53 (.sl A_35 c_36 n_37 (iv .u8 r_34) 5 1 :: .sl A_15 c_17 n_16 (iv .u8 l_18) 5 1 :: .cells B_1 (([.int .u64 a0_0] : Cs) ++ (([.slice A0_1 n0_1 c0_1] : Cs) ++ ([.bool a0_2] : Cs))) 104 :: .cells b1 (([.pointer (some ⟨b1_0, 0, none⟩)] : Cs) ++ (iv .u8 l1_1 ++ (([.int .i64 a1_2] : Cs) ++ (([.int .u64 a1_3] : Cs) ++ (([.int .u64 a1_4] : Cs) ++ (([.int .u64 a1_5] : Cs) ++ (iv .u8 l1_6 ++ (([.int .u64 (IntKind.u64.wrap (a1_7 + 1))] : Cs) ++ ([.int .u64 a1_8] : Cs))))))))) 98 :: .cells b1_0 (([.slice A1_0_0 n1_0_0 c1_0_0] : Cs) ++ (([.slice A1_0_1 n1_0_1 c1_0_1] : Cs) ++ (([.int .i64 a1_0_2] : Cs) ++ (([.bool a1_0_3] : Cs) ++ ([.slice A1_0_4 n1_0_4 c1_0_4] : Cs))))) 95 :: .sl A1_0_0 c1_0_0 n1_0_0 x1_0_0 25 1 :: .sl A1_0_1 c1_0_1 n1_0_1 x1_0_1 124 2 :: .sl A1_0_4 c1_0_4 n1_0_4 x1_0_4 48 2 :: .cells b2 (([.int .u64 a2_0] : Cs) ++ (([.int .u64 (IntKind.u64.wrap (a2_1 + 1))] : Cs) ++ iv .u8 r_51)) 39 :: (T_12 ++ R)) := by have e_ : (([.int .u64 a2_0] : Cs) ++ (([.int .u64 (IntKind.u64.wrap (a2_1 + 1))] : Cs) ++ iv .u8 r_51)) = (([.int .u64 a2_0] : Cs) ++ ([.int .u64 (IntKind.u64.wrap (a2_1 + 1))] : Cs)) ++ ((iv .u8 r_51) ++ (([] : Cs))) := (by first | rfl | simp only [List.append_assoc, List.append_nil, List.nil_append, List.cons_append]); have h_ : St w w_53 (.sl A_35 c_36 n_37 (iv .u8 r_34) 5 1 :: .sl A_15 c_17 n_16 (iv .u8 l_18) 5 1 :: .cells B_1 (([.int .u64 a0_0] : Cs) ++ (([.slice A0_1 n0_1 c0_1] : Cs) ++ ([.bool a0_2] : Cs))) 104 :: .cells b1 (([.pointer (some ⟨b1_0, 0, none⟩)] : Cs) ++ (iv .u8 l1_1 ++ (([.int .i64 a1_2] : Cs) ++ (([.int .u64 a1_3] : Cs) ++ (([.int .u64 a1_4] : Cs) ++ (([.int .u64 a1_5] : Cs) ++ (iv .u8 l1_6 ++ (([.int .u64 (IntKind.u64.wrap (a1_7 + 1))] : Cs) ++ ([.int .u64 a1_8] : Cs))))))))) 98 :: .cells b1_0 (([.slice A1_0_0 n1_0_0 c1_0_0] : Cs) ++ (([.slice A1_0_1 n1_0_1 c1_0_1] : Cs) ++ (([.int .i64 a1_0_2] : Cs) ++ (([.bool a1_0_3] : Cs) ++ ([.slice A1_0_4 n1_0_4 c1_0_4] : Cs))))) 95 :: .sl A1_0_0 c1_0_0 n1_0_0 x1_0_0 25 1 :: .sl A1_0_1 c1_0_1 n1_0_1 x1_0_1 124 2 :: .sl A1_0_4 c1_0_4 n1_0_4 x1_0_4 48 2 :: .cells b2 ((([.int .u64 a2_0] : Cs) ++ ([.int .u64 (IntKind.u64.wrap (a2_1 + 1))] : Cs)) ++ ((iv .u8 r_51) ++ (([] : Cs)))) 39 :: (T_12 ++ R)) := st_54; rw [← e_] at h_; exact h_
   refine WL.nil (QW.then_n ?_)
   refine CW.sub [(1, .pointer (some ⟨bb1, 0, none⟩)), (4, .int .i64 0), (5, .int .i64 (IntKind.i64.wrap (a1_2 + x_6))), (8, .slice A_35 n_37 c_36)] ⟨rfl, rfl, rfl, rfl, trivial⟩ ?_
   refine CW.seq (CW.region ?_)
   refine WL.val Wanted.none (Runs.load nagg34 rfl (hcell1.at st_54 (mem_TR (A := [_, _, _, _, _, _, _, _, _]) (fun _ h_ => hs_13.1 _ h_)))) ?_
   refine WL.val Wanted.none (Runs.nilCheck rfl) ?_
   refine WL.val Wanted.none (Runs.fieldAddr (off := 0) (p := 0) fld98_0 rfl rfl rfl) ?_
   refine WL.val Wanted.none (Runs.load nagg30 rfl (st_54.cell (k := 3) rfl (part_one (u := .pointer (some ⟨b1_0, 0, none⟩)) (pre := (([] : Cs))) (post := (iv .u8 l1_1 ++ (([.int .i64 a1_2] : Cs) ++ (([.int .u64 a1_3] : Cs) ++ (([.int .u64 a1_4] : Cs) ++ (([.int .u64 a1_5] : Cs) ++ (iv .u8 l1_6 ++ (([.int .u64 (IntKind.u64.wrap (a1_7 + 1))] : Cs) ++ ([.int .u64 a1_8] : Cs))))))))) (by first | rfl | simp only [List.append_assoc, List.append_nil, List.nil_append, List.cons_append]) (by first | rfl | simp only [List.length_append, List.length_cons, List.length_nil, iv_length])))) ?_
   refine WL.val Wanted.none (Runs.move rfl) ?_
   refine WL.val Wanted.none (Runs.move rfl) ?_
   have st_55 := (St.pickT (L := [_, _, _, _, _, _, _, _, _]) st_54 [4, 5, 6, 7, 0, 1, 2, 3, 8] (by decide))
   replace st_55 : St w w_53 (.cells b1_0 (([.slice A1_0_0 n1_0_0 c1_0_0] : Cs) ++ (([.slice A1_0_1 n1_0_1 c1_0_1] : Cs) ++ (([.int .i64 a1_0_2] : Cs) ++ (([.bool a1_0_3] : Cs) ++ ([.slice A1_0_4 n1_0_4 c1_0_4] : Cs))))) 95 :: .sl A1_0_0 c1_0_0 n1_0_0 x1_0_0 25 1 :: .sl A1_0_1 c1_0_1 n1_0_1 x1_0_1 124 2 :: .sl A1_0_4 c1_0_4 n1_0_4 x1_0_4 48 2 :: .sl A_35 c_36 n_37 (iv .u8 r_34) 5 1 :: .sl A_15 c_17 n_16 (iv .u8 l_18) 5 1 :: .cells B_1 (([.int .u64 a0_0] : Cs) ++ (([.slice A0_1 n0_1 c0_1] : Cs) ++ ([.bool a0_2] : Cs))) 104 :: .cells b1 (([.pointer (some ⟨b1_0, 0, none⟩)] : Cs) ++ (iv .u8 l1_1 ++ (([.int .i64 a1_2] : Cs) ++ (([.int .u64 a1_3] : Cs) ++ (([.int .u64 a1_4] : Cs) ++ (([.int .u64 a1_5] : Cs) ++ (iv .u8 l1_6 ++ (([.int .u64 (IntKind.u64.wrap (a1_7 + 1))] : Cs) ++ ([.int .u64 a1_8] : Cs))))))))) 98 :: .cells b2 (([.int .u64 a2_0] : Cs) ++ (([.int .u64 (IntKind.u64.wrap (a2_1 + 1))] : Cs) ++ iv .u8 r_51)) 39 :: (T_12 ++ R)) := st_55
   have st_56 : St w w_53 (.cells b1_0 (([.slice A1_0_0 n1_0_0 c1_0_0] : Cs) ++ (([.slice A1_0_1 n1_0_1 c1_0_1] : Cs) ++ (([.int .i64 a1_0_2] : Cs) ++ (([.bool a1_0_3] : Cs) ++ ([.slice A1_0_4 n1_0_4 c1_0_4] : Cs))))) 95 :: .sl A1_0_0 c1_0_0 n1_0_0 x1_0_0 25 1 :: .sl A1_0_1 c1_0_1 n1_0_1 x1_0_1 124 2 :: .sl A1_0_4 c1_0_4 n1_0_4 x1_0_4 48 2 :: (T_12 ++ (.sl A_35 c_36 n_37 (iv .u8 r_34) 5 1 :: .sl A_15 c_17 n_16 (iv .u8 l_18) 5 1 :: .cells B_1 (([.int .u64 a0_0] : Cs) ++ (([.slice A0_1 n0_1 c0_1] : Cs) ++ ([.bool a0_2] : Cs))) 104 :: .cells b1 (([.pointer (some ⟨b1_0, 0, none⟩)] : Cs) ++ (iv .u8 l1_1 ++ (([.int .i64 a1_2] : Cs) ++ (([.int .u64 a1_3] : Cs) ++ (([.int .u64 a1_4] : Cs) ++ (([.int .u64 a1_5] : Cs) ++ (iv .u8 l1_6 ++ (([.int .u64 (IntKind.u64.wrap (a1_7 + 1))] : Cs) ++ ([.int .u64 a1_8] : Cs))))))))) 98 :: .cells b2 (([.int .u64 a2_0] : Cs) ++ (([.int .u64 (IntKind.u64.wrap (a2_1 + 1))] : Cs) ++ iv .u8 r_51)) 39 :: R))) := St.hide (A := [_, _, _, _]) (B := [_, _, _, _, _]) (T := T_12) (R := R) st_55
   obtain ⟨l_63_0, l_63_1, a_67_2, a_67_3, l_63_4, a_69, hr_57, H⟩ := H
   refine WL.call Wanted.none ent42 rfl (disk_Disk_Write.calls w w_53 T_12 (.sl A_35 c_36 n_37 (iv .u8 r_34) 5 1 :: .sl A_15 c_17 n_16 (iv .u8 l_18) 5 1 :: .cells B_1 (([.int .u64 a0_0] : Cs) ++ (([.slice A0_1 n0_1 c0_1] : Cs) ++ ([.bool a0_2] : Cs))) 104 :: .cells b1 (([.pointer (some ⟨b1_0, 0, none⟩)] : Cs) ++ (iv .u8 l1_1 ++ (([.int .i64 a1_2] : Cs) ++ (([.int .u64 a1_3] : Cs) ++ (([.int .u64 a1_4] : Cs) ++ (([.int .u64 a1_5] : Cs) ++ (iv .u8 l1_6 ++ (([.int .u64 (IntKind.u64.wrap (a1_7 + 1))] : Cs) ++ ([.int .u64 a1_8] : Cs))))))))) 98 :: .cells b2 (([.int .u64 a2_0] : Cs) ++ (([.int .u64 (IntKind.u64.wrap (a2_1 + 1))] : Cs) ++ iv .u8 r_51)) 39 :: R) l1_0_0 l1_0_1 a1_0_2 a1_0_3 l1_0_4 (IntKind.i64.wrap (a1_2 + x_6)) r_34 b1_0 A1_0_0 n1_0_0 c1_0_0 x1_0_0 A1_0_1 n1_0_1 c1_0_1 x1_0_1 A1_0_4 n1_0_4 c1_0_4 x1_0_4 A_35 n_37 c_36  st_56 (hn1_0_0) (hx1_0_0.mono (fun _ h_ => hs_13.1 _ h_)) (hn1_0_1) (hx1_0_1.mono (fun _ h_ => hs_13.1 _ h_)) (hn1_0_4) (hx1_0_4.mono (fun _ h_ => hs_13.1 _ h_)) ⟨hn_38, st_55.cap (i := 4) rfl, fun W_ L_ st hT => st.src_mem (hT _ (List.mem_append_right _ (List.mem_of_getElem? (i := 0) rfl)))⟩ l_63_0 l_63_1 a_67_2 a_67_3 l_63_4 a_69 hr_57) ?_
   rintro _ w_70 ⟨T_58, A_60_0, n_61_0, c_62_0, x_64_0, A_60_1, n_61_1, c_62_1, x_64_1, A_60_4, n_61_4, c_62_4, x_64_4, hs_59, hn_65_0, hx_66_0, hn_65_1, hx_66_1, hn_65_4, hx_66_4, rfl, sc_72⟩
   have st_71 : St w w_70 (.cells b1_0 (([.slice A_60_0 n_61_0 c_62_0] : Cs) ++ (([.slice A_60_1 n_61_1 c_62_1] : Cs) ++ (([.int .i64 a_67_2] : Cs) ++ (([.bool a_67_3] : Cs) ++ ([.slice A_60_4 n_61_4 c_62_4] : Cs))))) 95 :: .sl A_60_0 c_62_0 n_61_0 x_64_0 25 1 :: .sl A_60_1 c_62_1 n_61_1 x_64_1 124 2 :: .sl A_60_4 c_62_4 n_61_4 x_64_4 48 2 :: .sl A_35 c_36 n_37 (iv .u8 r_34) 5 1 :: .sl A_15 c_17 n_16 (iv .u8 l_18) 5 1 :: .cells B_1 (([.int .u64 a0_0] : Cs) ++ (([.slice A0_1 n0_1 c0_1] : Cs) ++ ([.bool a0_2] : Cs))) 104 :: .cells b1 (([.pointer (some ⟨b1_0, 0, none⟩)] : Cs) ++ (iv .u8 l1_1 ++ (([.int .i64 a1_2] : Cs) ++ (([.int .u64 a1_3] : Cs) ++ (([.int .u64 a1_4] : Cs) ++ (([.int .u64 a1_5] : Cs) ++ (iv .u8 l1_6 ++ (([.int .u64 (IntKind.u64.wrap (a1_7 + 1))] : Cs) ++ ([.int .u64 a1_8] : Cs))))))))) 98 :: .cells b2 (([.int .u64 a2_0] : Cs) ++ (([.int .u64 (IntKind.u64.wrap (a2_1 + 1))] : Cs) ++ iv .u8 r_51)) 39 :: (T_58 ++ R)) := St.unhide (A := [_, _, _, _]) (B := [_, _, _, _, _]) (T := T_58) (R := R) sc_72
   refine ⟨_, rfl, ?_⟩
   refine WL.val Wanted.none (Runs.assign rfl) ?_
   refine WL.nil (QW.then_n ?_)
   refine CW.sub [(4, .int .i64 a_69)] ⟨rfl, trivial⟩ ?_
   refine CW.ret ?_
   obtain ⟨rfl, rfl, rfl, rfl, rfl, rfl, rfl, rfl, rfl, rfl, rfl, rfl, rfl, rfl, rfl, rfl, rfl⟩ := H
   exact QW.ret1 rfl rfl ⟨T_58, A_60_0, n_61_0, c_62_0, x_64_0, A_60_1, n_61_1, c_62_1, x_64_1, A_60_4, n_61_4, c_62_4, x_64_4, (hs_13.trans hs_59), hn_65_0, hx_66_0, hn_65_1, hx_66_1, hn_65_4, hx_66_4, hl1_1, hl1_6, hl_52, rfl, (St.pickT (L := [_, _, _, _, _, _, _, _, _]) st_71 [7, 0, 1, 2, 3, 8] (by decide))⟩

end Go.Proofs.YtmhcjafkdmcgoaaDoor
