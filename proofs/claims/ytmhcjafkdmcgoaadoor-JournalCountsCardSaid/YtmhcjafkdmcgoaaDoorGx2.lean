/- Walks: each function computes what its relation says, and a call of it ends so. Printed by a program of this session (wip/gen). -/
import Derived.Test.YtmhcjafkdmcgoaaDoorGx1
namespace Go.Proofs.YtmhcjafkdmcgoaaDoor
open Go Go.Kr Go.RowKit
set_option linter.unusedVariables false
set_option linter.unusedSimpArgs false
/-! ### word_Get: function 92 -/
def word_Get.L1 (l0 : List Int) (a1 : Int) (a2 : Int) (r0 : Int) (r1 : Int) : Nat → Int → Int → Prop
 | 0, _, _ => False
 | kL1 + 1, x_21, x_22 => ((x_22 < ((prt l0 a1 (IntKind.i64.wrap (a1 + a2))).length : Int) ∧ ((0 ≤ x_22 ∧ x_22 < ((prt l0 a1 (IntKind.i64.wrap (a1 + a2))).length : Int)) ∧ (∃ x_32 : Int, x_32 = IntKind.u64.wrap (gn (prt l0 a1 (IntKind.i64.wrap (a1 + a2))) (x_22.toNat)) ∧ (0 ≤ (IntKind.u64.wrap (IntKind.i64.wrap (8 * x_22))) ∧ (∃ x_35 : Int, x_35 = shlI .u64 x_32 (IntKind.u64.wrap (IntKind.i64.wrap (8 * x_22))) ∧ word_Get.L1 l0 a1 a2 r0 r1 kL1 (bits .or .u64 x_21 x_35) (IntKind.i64.wrap (x_22 + 1))))))) ∨ (¬ (x_22 < ((prt l0 a1 (IntKind.i64.wrap (a1 + a2))).length : Int)) ∧ r0 = x_21 ∧ r1 = 0))
def word_Get.rel (l0 : List Int) (a1 : Int) (a2 : Int) (r0 : Int) (r1 : Int) : Prop := (∃ (r_5 : Int), word_inside.rel l0 a1 a2 r_5 ∧ ((r_5 ≠ 0 ∧ r0 = 0 ∧ r1 = r_5) ∨ (¬ (r_5 ≠ 0) ∧ ((0 ≤ a1 ∧ a1 ≤ (IntKind.i64.wrap (a1 + a2)) ∧ (IntKind.i64.wrap (a1 + a2)) ≤ (l0.length : Int)) ∧ (∃ k_ : Nat, word_Get.L1 l0 a1 a2 r0 r1 k_ 0 0)))))
set_option maxHeartbeats 4000000 in
set_option maxRecDepth 100000 in
theorem word_Get.calls (w : World) (l0 : List Int) (a1 : Int) (a2 : Int) (A0 : Option Addr) (n0 : Nat) (c0 : Nat)  (hs0 : Src w A0 (iv .u8 l0)) (hn0 : n0 = l0.length) (hc0 : n0 ≤ c0) (r0 : Int) (r1 : Int) (H : word_Get.rel l0 a1 a2 r0 r1) :
  Calls Tryd.prog 92 #[.slice A0 n0 c0, .int .i64 a1, .int .i64 a2] w fun e w' => e = .returned (.tuple #[.int .u64 r0, .int .i64 r1]) ∧ St w w' [] := by
 refine CW.enter Tryd.func92 rfl (n := 41) rfl [.slice A0 n0 c0, .int .i64 a1, .int .i64 a2] (Nat.le_of_ble_eq_true rfl) ?_
 refine CW.sub [(0, .slice A0 n0 c0), (1, .int .i64 a1), (2, .int .i64 a2)] ⟨rfl, rfl, rfl, trivial⟩ ?_
 have st0 : St w w [] := St.refl w
 refine CW.seq (CW.region ?_)
 refine WL.val Wanted.none (Runs.assign rfl) ?_
 refine WL.val Wanted.none (Runs.assign rfl) ?_
 refine WL.nil (QW.then_n ?_)
 refine CW.seq ?_
 refine CW.seq (CW.region ?_)
 refine WL.val Wanted.none (Runs.move rfl) ?_
 refine WL.val Wanted.none (Runs.move rfl) ?_
 refine WL.val Wanted.none (Runs.move rfl) ?_
 obtain ⟨r_5, hr_1, H⟩ := H
 refine WL.call Wanted.none ent93 rfl (word_inside.calls w l0 a1 a2 A0 n0 c0 (hs0.ext st0) (hn0) (hc0) r_5 hr_1) ?_
 rintro _ w_2 ⟨rfl, sc_4⟩
 have st_3 : St w w_2 [] := st0.call sc_4
 refine ⟨_, rfl, ?_⟩
 refine WL.val Wanted.none (Runs.assign rfl) ?_
 refine WL.nil (QW.then_n ?_)
 refine CW.seq (CW.region ?_)
 refine WL.val Wanted.none (Runs.move rfl) ?_
 refine WL.val Wanted.none (Runs.neq rfl rfl rfl) ?_
 refine WL.nil (QW.then_n ?_)
 rcases H with ⟨c_6, H⟩ | ⟨c_6, H⟩
 ·have h_7 : (r_5 != 0) = true := (bne_iff_ne.mpr c_6)
  refine CW.ct rfl h_7 ?_
  refine CW.seq (CW.region ?_)
  refine WL.val Wanted.none (Runs.move rfl) ?_
  refine WL.val Wanted.none (Runs.assign rfl) ?_
  refine WL.val Wanted.none (Runs.assign rfl) ?_
  refine WL.nil (QW.then_n ?_)
  refine CW.sub [(0, .slice A0 n0 c0), (1, .int .i64 a1), (2, .int .i64 a2), (6, .int .u64 0), (7, .int .i64 r_5)] ⟨rfl, rfl, rfl, rfl, rfl, trivial⟩ ?_
  refine CW.ret ?_
  refine QW.then_r ?_
  obtain ⟨rfl, rfl⟩ := H
  exact QW.ret2 rfl rfl rfl ⟨rfl, st_3.pick [] (by decide)⟩
 ·have h_7 : (r_5 != 0) = false := (bne_eq_false_iff_eq.mpr (Decidable.not_not.mp c_6))
  refine CW.cf rfl h_7 ?_
  refine CW.skip ?_
  refine QW.then_n ?_
  refine CW.sub [(0, .slice A0 n0 c0), (1, .int .i64 a1), (2, .int .i64 a2), (6, .int .u64 0), (7, .int .i64 0)] ⟨rfl, rfl, rfl, rfl, rfl, trivial⟩ ?_
  refine CW.seq (CW.region ?_)
  refine WL.val Wanted.none (Runs.assign rfl) ?_
  refine WL.nil (QW.then_n ?_)
  refine CW.seq ?_
  refine CW.seq (CW.region ?_)
  refine WL.val Wanted.none (Runs.move rfl) ?_
  refine WL.val Wanted.none (Runs.move rfl) ?_
  refine WL.val Wanted.none (Runs.move rfl) ?_
  refine WL.val Wanted.none (Runs.move rfl) ?_
  refine WL.val Wanted.none (Runs.add rfl rfl rfl) ?_
  obtain ⟨⟨p_8, q_9, r_10⟩, H⟩ := H
  have h_17 : n0 ≤ c0 := hc0
  have h_18 : (IntKind.i64.wrap (a1 + a2)) ≤ (c0 : Int) := by have := hn0; omega
  obtain ⟨A_11, e_14⟩ : ∃ B_, B_ = subA A0 (a1).toNat c0 := ⟨_, rfl⟩
  obtain ⟨n_13, e_16⟩ : ∃ n_ : Nat, n_ = (prt l0 a1 (IntKind.i64.wrap (a1 + a2))).length := ⟨_, rfl⟩
  obtain ⟨c_12, e_15⟩ : ∃ c_ : Nat, c_ = c0 - (a1).toNat := ⟨_, rfl⟩
  have h_19 : n_13 ≤ c_12 := by rw [e_16, prt_length p_8 q_9 r_10]; rw [e_15]; omega
  refine WL.val Wanted.none (Runs.slice_lh Tryd.underlying25 cells5 rfl rfl rfl p_8 q_9 h_18 e_14 (N := n_13) (by rw [e_16, prt_length p_8 q_9 r_10]) e_15) ?_
  refine WL.val Wanted.none (Runs.len_sl Tryd.underlying25 rfl (by rw [e_16])) ?_
  refine WL.val Wanted.none (Runs.move rfl) ?_
  refine WL.nil (QW.then_n ?_)
  refine CW.sub [(6, .int .u64 0), (7, .int .i64 0), (9, .int .u64 0), (24, .slice A_11 n_13 c_12), (25, .int .i64 ((prt l0 a1 (IntKind.i64.wrap (a1 + a2))).length : Int)), (26, .int .i64 0)] (by repeat' constructor) ?_
  refine CW.block ?_
  obtain ⟨k_20, H⟩ := H
  refine CW.sub [(6, .int .u64 0), (7, .int .i64 0), (9, .int .u64 0), (24, .slice A_11 n_13 c_12), (25, .int .i64 ((prt l0 a1 (IntKind.i64.wrap (a1 + a2))).length : Int)), (26, .int .i64 0)] (by repeat' constructor) ?_
  refine CW.loop (fun kL1 l_ w_ => ∃ (x_21 : Int) (x_22 : Int), l_ = [(6, .int .u64 0), (7, .int .i64 0), (9, .int .u64 x_21), (24, .slice A_11 n_13 c_12), (25, .int .i64 ((prt l0 a1 (IntKind.i64.wrap (a1 + a2))).length : Int)), (26, .int .i64 x_22)] ∧ word_Get.L1 l0 a1 a2 r0 r1 kL1 x_21 x_22 ∧ St w w_ []) (k := k_20) ⟨0, 0, rfl, H, st_3⟩ (fun _ _ h => by obtain ⟨_, _, _, h, _⟩ := h; exact h.elim) ?_
  rintro kL1 l_25 w_23 ⟨x_21, x_22, rfl, H, st_24⟩
  refine CW.seq (CW.region ?_)
  refine WL.val Wanted.none (Runs.lss rfl rfl rfl) ?_
  refine WL.nil (QW.then_n ?_)
  refine CW.seq ?_
  rcases H with ⟨c_26, H⟩ | ⟨c_26, H⟩
  ·have h_27 : (decide (x_22 < ((prt l0 a1 (IntKind.i64.wrap (a1 + a2))).length : Int))) = true := (decide_eq_true c_26)
   refine CW.ct rfl h_27 ?_
   refine CW.skip ?_
   refine QW.then_n ?_
   refine CW.seq ?_
   refine CW.block ?_
   refine CW.seq (CW.region ?_)
   refine WL.val Wanted.none (Runs.move rfl) ?_
   obtain ⟨⟨p_28, q_29⟩, H⟩ := H
   obtain ⟨a_30, e_31⟩ := ((hs0.ext st_24).sub_iv p_8 q_9 h_18 e_14).addr_iv (x_22.toNat) (by omega)
   refine WL.val Wanted.none (Runs.indexAddr Tryd.underlying25 cells5 (by decide) rfl e_31 rfl p_28 (by rw [e_16]; exact q_29) (o := (x_22).toNat) (by first | rfl | omega)) ?_
   refine WL.val Wanted.none (Runs.load nagg5 rfl (((hs0.ext st_24).sub_iv p_8 q_9 h_18 e_14).cell_iv e_31 (by omega))) ?_
   refine WL.val Wanted.none (Runs.assign rfl) ?_
   refine WL.val Wanted.none (Runs.assign rfl) ?_
   refine WL.nil (QW.then_n ?_)
   refine CW.region ?_
   refine WL.val Wanted.none (Runs.move rfl) ?_
   refine WL.val Wanted.none (Runs.move rfl) ?_
   obtain ⟨x_32, e_33, H⟩ := H
   refine WL.val Wanted.none (Runs.conv Tryd.underlying37 ⟨_, Tryd.underlying5⟩ rfl e_33) ?_
   refine WL.val Wanted.none (Runs.move rfl) ?_
   refine WL.val Wanted.none (Runs.mul rfl rfl rfl) ?_
   refine WL.val Wanted.none (Runs.conv Tryd.underlying133 ⟨_, Tryd.underlying3⟩ rfl rfl) ?_
   obtain ⟨z_34, H⟩ := H
   obtain ⟨x_35, e_36, H⟩ := H
   refine WL.val Wanted.none (Runs.shl rfl rfl z_34 e_36) ?_
   refine WL.val Wanted.none (Runs.bor rfl rfl rfl) ?_
   refine WL.val Wanted.none (Runs.assign rfl) ?_
   refine WL.nil ?_
   refine QW.blk_n ?_
   refine QW.then_n ?_
   refine CW.region ?_
   refine WL.val Wanted.none (Runs.add rfl rfl rfl) ?_
   refine WL.val Wanted.none (Runs.move rfl) ?_
   refine WL.nil ?_
   exact QW.at _ (by repeat' constructor) ⟨bits .or .u64 x_21 x_35, IntKind.i64.wrap (x_22 + 1), rfl, H, st_24⟩
  ·have h_27 : (decide (x_22 < ((prt l0 a1 (IntKind.i64.wrap (a1 + a2))).length : Int))) = false := (decide_eq_false c_26)
   refine CW.cf rfl h_27 ?_
   refine CW.exit ?_
   refine QW.then_x ?_
   refine QW.then_x ?_
   refine QW.blk_x ?_
   refine QW.then_n ?_
   refine CW.seq (CW.region ?_)
   refine WL.val Wanted.none (Runs.move rfl) ?_
   refine WL.val Wanted.none (Runs.assign rfl) ?_
   refine WL.val Wanted.none (Runs.assign rfl) ?_
   refine WL.nil (QW.then_n ?_)
   refine CW.sub [(6, .int .u64 x_21), (7, .int .i64 0)] ⟨rfl, rfl, trivial⟩ ?_
   refine CW.ret ?_
   obtain ⟨rfl, rfl⟩ := H
   exact QW.ret2 rfl rfl rfl ⟨rfl, st_24.pick [] (by decide)⟩

/-! ### cipher_at: function 89 -/
def cipher_at.rel (l0 : List Int) (a1 : Int) (r0 : Int) : Prop := (∃ (r_5 : Int) (r_6 : Int), word_Get.rel l0 (IntKind.i64.wrap (4 * a1)) 4 r_5 r_6 ∧ r0 = IntKind.u32.wrap r_5)
set_option maxHeartbeats 4000000 in
set_option maxRecDepth 100000 in
theorem cipher_at.calls (w : World) (l0 : List Int) (a1 : Int) (A0 : Option Addr) (n0 : Nat) (c0 : Nat)  (hs0 : Src w A0 (iv .u8 l0)) (hn0 : n0 = l0.length) (hc0 : n0 ≤ c0) (r0 : Int) (H : cipher_at.rel l0 a1 r0) :
  Calls Tryd.prog 89 #[.slice A0 n0 c0, .int .i64 a1] w fun e w' => e = .returned (.int .u32 r0) ∧ St w w' [] := by
 refine CW.enter Tryd.func89 rfl (n := 16) rfl [.slice A0 n0 c0, .int .i64 a1] (Nat.le_of_ble_eq_true rfl) ?_
 refine CW.sub [(0, .slice A0 n0 c0), (1, .int .i64 a1)] ⟨rfl, rfl, trivial⟩ ?_
 have st0 : St w w [] := St.refl w
 refine CW.seq (CW.region ?_)
 refine WL.val Wanted.none (Runs.assign rfl) ?_
 refine WL.nil (QW.then_n ?_)
 refine CW.seq (CW.region ?_)
 refine WL.val Wanted.none (Runs.move rfl) ?_
 refine WL.val Wanted.none (Runs.move rfl) ?_
 refine WL.val Wanted.none (Runs.mul rfl rfl rfl) ?_
 obtain ⟨r_5, r_6, hr_1, H⟩ := H
 refine WL.call Wanted.none ent92 rfl (word_Get.calls w l0 (IntKind.i64.wrap (4 * a1)) 4 A0 n0 c0 (hs0.ext st0) (hn0) (hc0) r_5 r_6 hr_1) ?_
 rintro _ w_2 ⟨rfl, sc_4⟩
 have st_3 : St w w_2 [] := st0.call sc_4
 refine ⟨_, rfl, ?_⟩
 refine WL.val Wanted.none (Runs.move rfl) ?_
 refine WL.val Wanted.none (Runs.extract rfl rfl) ?_
 refine WL.val Wanted.none (Runs.extract rfl rfl) ?_
 refine WL.val Wanted.none (Runs.assign rfl) ?_
 refine WL.val Wanted.none (Runs.assign rfl) ?_
 refine WL.nil (QW.then_n ?_)
 refine CW.sub [(4, .int .u32 0), (5, .int .u64 r_5)] ⟨rfl, rfl, trivial⟩ ?_
 refine CW.seq (CW.region ?_)
 refine WL.val Wanted.none (Runs.move rfl) ?_
 refine WL.val Wanted.none (Runs.conv Tryd.underlying24 ⟨_, Tryd.underlying37⟩ rfl rfl) ?_
 refine WL.val Wanted.none (Runs.assign rfl) ?_
 refine WL.nil (QW.then_n ?_)
 refine CW.ret ?_
 obtain rfl := H
 exact QW.ret1 rfl rfl ⟨rfl, st_3.pick [] (by decide)⟩

/-! ### cipher_words: function 84 -/
def cipher_words.L2 (l2 : List Int) (r0 : List Int) : Nat → (List Int) → Int → Prop
 | 0, _, _ => False
 | kL2 + 1, m_49, x_51 => ((x_51 < 3 ∧ (∃ (r_61 : Int), cipher_at.rel l2 x_51 r_61 ∧ ((0 ≤ (IntKind.i64.wrap (13 + x_51)) ∧ (IntKind.i64.wrap (13 + x_51)) < (16 : Int)) ∧ (∃ m_64 : List Int, m_64 = List.set m_49 ((IntKind.i64.wrap (13 + x_51)).toNat) r_61 ∧ cipher_words.L2 l2 r0 kL2 m_64 (IntKind.i64.wrap (x_51 + 1)))))) ∨ (¬ (x_51 < 3) ∧ r0 = m_49))
def cipher_words.L1 (l0 : List Int) (a1 : Int) (l2 : List Int) (r0 : List Int) : Nat → (List Int) → Int → Prop
 | 0, _, _ => False
 | kL1 + 1, m_23, x_25 => ((x_25 < 8 ∧ (∃ (r_35 : Int), cipher_at.rel l0 x_25 r_35 ∧ ((0 ≤ (IntKind.i64.wrap (4 + x_25)) ∧ (IntKind.i64.wrap (4 + x_25)) < (16 : Int)) ∧ (∃ m_38 : List Int, m_38 = List.set m_23 ((IntKind.i64.wrap (4 + x_25)).toNat) r_35 ∧ cipher_words.L1 l0 a1 l2 r0 kL1 m_38 (IntKind.i64.wrap (x_25 + 1)))))) ∨ (¬ (x_25 < 8) ∧ (∃ m_43 : List Int, m_43 = List.set m_23 12 a1 ∧ (∃ k_ : Nat, cipher_words.L2 l2 r0 k_ m_43 0))))
def cipher_words.rel (l0 : List Int) (a1 : Int) (l2 : List Int) (r0 : List Int) : Prop := (∃ m_13 : List Int, m_13 = [1634760805, 857760878, 2036477234, 1797285236, 0, 0, 0, 0, 0, 0, 0, 0, 0, 0, 0, 0] ∧ (∃ k_ : Nat, cipher_words.L1 l0 a1 l2 r0 k_ m_13 0))
set_option maxHeartbeats 4000000 in
set_option maxRecDepth 100000 in
theorem cipher_words.calls (w : World) (l0 : List Int) (a1 : Int) (l2 : List Int)   (hl0 : l0.length = 32) (hl2 : l2.length = 12) (r0 : List Int) (H : cipher_words.rel l0 a1 l2 r0) :
  Calls Tryd.prog 84 #[.agg (iv .u8 l0).toArray, .int .u32 a1, .agg (iv .u8 l2).toArray] w fun e w' => r0.length = 16 ∧ e = .returned (.agg (iv .u32 r0).toArray) ∧ St w w' [] := by
 refine CW.enter Tryd.func84 rfl (n := 34) rfl [.agg (iv .u8 l0).toArray, .int .u32 a1, .agg (iv .u8 l2).toArray] (Nat.le_of_ble_eq_true rfl) ?_
 refine CW.sub [(0, .agg (iv .u8 l0).toArray), (1, .int .u32 a1), (2, .agg (iv .u8 l2).toArray)] ⟨rfl, rfl, rfl, trivial⟩ ?_
 have st0 : St w w [] := St.refl w
 refine CW.seq (CW.region ?_)
 refine WL.box st0 rfl rfl ?_
 intro B_1 w_2 st_3
 replace st_3 : St w w_2 [.cells B_1 (iv .u8 l0) 23] := st_3
 refine WL.box st_3 rfl rfl ?_
 intro B_5 w_6 st_7
 replace st_7 : St w w_6 [.cells B_5 (iv .u8 l2) 140, .cells B_1 (iv .u8 l0) 23] := st_7
 refine WL.alloc st_7 arr166.zero ?_
 intro B_9 w_10 st_11
 replace st_11 : St w w_10 [.cells B_9 (iv .u32 (List.replicate 16 (0 : Int))) 166, .cells B_5 (iv .u8 l2) 140, .cells B_1 (iv .u8 l0) 23] := st_11
 refine WL.nil (QW.then_n ?_)
 refine CW.seq (CW.region ?_)
 obtain ⟨m_13, e_14, H⟩ := H
 refine WL.val Wanted.none (Runs.build_arr (xs := m_13) arr166 rfl rfl (by rw [e_14]; rfl)) ?_
 refine WL.alloc st_11 arr166.zero ?_
 intro B_15 w_16 st_17
 replace st_17 : St w w_16 [.cells B_15 (iv .u32 (List.replicate 16 (0 : Int))) 166, .cells B_9 (iv .u32 (List.replicate 16 (0 : Int))) 166, .cells B_5 (iv .u8 l2) 140, .cells B_1 (iv .u8 l0) 23] := st_17
 refine WL.store_arr (i := 0) st_17 rfl arr166 rfl (by rw [iv_length]; exact (List.length_replicate ..)) (by rw [e_14]; rfl) rfl ?_
 intro w_19 st_20
 replace st_20 : St w w_19 [.cells B_15 (iv .u32 m_13) 166, .cells B_9 (iv .u32 (List.replicate 16 (0 : Int))) 166, .cells B_5 (iv .u8 l2) 140, .cells B_1 (iv .u8 l0) 23] := st_20
 refine WL.nil (QW.then_n ?_)
 refine CW.seq ?_
 refine CW.seq (CW.region ?_)
 refine WL.val Wanted.none (Runs.move rfl) ?_
 refine WL.nil (QW.then_n ?_)
 refine CW.block ?_
 obtain ⟨k_22, H⟩ := H
 refine CW.sub [(1, .int .u32 a1), (3, .pointer (some ⟨B_1, 0, none⟩)), (5, .pointer (some ⟨B_5, 0, none⟩)), (6, .pointer (some ⟨B_9, 0, none⟩)), (7, .pointer (some ⟨B_15, 0, none⟩)), (11, .int .i64 0)] (by repeat' constructor) ?_
 refine CW.loop (fun kL1 l_ w_ => ∃ (m_23 : List Int) (x_25 : Int), l_ = [(1, .int .u32 a1), (3, .pointer (some ⟨B_1, 0, none⟩)), (5, .pointer (some ⟨B_5, 0, none⟩)), (6, .pointer (some ⟨B_9, 0, none⟩)), (7, .pointer (some ⟨B_15, 0, none⟩)), (11, .int .i64 x_25)] ∧ cipher_words.L1 l0 a1 l2 r0 kL1 m_23 x_25 ∧ (m_23.length = 16) ∧ St w w_ [.cells B_15 (iv .u32 m_23) 166, .cells B_9 (iv .u32 (List.replicate 16 (0 : Int))) 166, .cells B_5 (iv .u8 l2) 140, .cells B_1 (iv .u8 l0) 23]) (k := k_22) ⟨m_13, 0, rfl, H, (by rw [e_14]; rfl), st_20⟩ (fun _ _ h => by obtain ⟨_, _, _, h, _⟩ := h; exact h.elim) ?_
 rintro kL1 l_28 w_26 ⟨m_23, x_25, rfl, H, hl_24, st_27⟩
 refine CW.seq (CW.region ?_)
 refine WL.val Wanted.none (Runs.lss rfl rfl rfl) ?_
 refine WL.nil (QW.then_n ?_)
 refine CW.seq ?_
 rcases H with ⟨c_29, H⟩ | ⟨c_29, H⟩
 ·have h_30 : (decide (x_25 < 8)) = true := (decide_eq_true c_29)
  refine CW.ct rfl h_30 ?_
  refine CW.skip ?_
  refine QW.then_n ?_
  refine CW.seq ?_
  refine CW.block ?_
  refine CW.seq (CW.region ?_)
  refine WL.val Wanted.none (Runs.move rfl) ?_
  refine WL.val Wanted.none (Runs.assign rfl) ?_
  refine WL.nil (QW.then_n ?_)
  refine CW.region ?_
  refine WL.val Wanted.none (Runs.move rfl) ?_
  refine WL.val Wanted.none (Runs.add rfl rfl rfl) ?_
  refine WL.val Wanted.none (Runs.slice_arr arr23 rfl (by decide)) ?_
  refine WL.val Wanted.none (Runs.move rfl) ?_
  obtain ⟨r_35, hr_31, H⟩ := H
  refine WL.call Wanted.none ent89 rfl (cipher_at.calls w_26 l0 x_25 (some ⟨B_1, 0, none⟩) 32 32 (st_27.src_blk (i := 3) rfl) ((hl0).symm) (Nat.le_refl _) r_35 hr_31) ?_
  rintro _ w_32 ⟨rfl, sc_34⟩
  have st_33 : St w w_32 [.cells B_15 (iv .u32 m_23) 166, .cells B_9 (iv .u32 (List.replicate 16 (0 : Int))) 166, .cells B_5 (iv .u8 l2) 140, .cells B_1 (iv .u8 l0) 23] := st_27.call sc_34
  refine ⟨_, rfl, ?_⟩
  obtain ⟨⟨p_36, q_37⟩, H⟩ := H
  refine WL.val Wanted.none (Runs.indexAddr_blk arr166 rfl rfl p_36 q_37 (o := (IntKind.i64.wrap (4 + x_25)).toNat) (by first | rfl | omega)) ?_
  obtain ⟨m_38, e_39, H⟩ := H
  have hl_42 : m_38.length = 16 := by rw [e_39, List.length_set]; exact hl_24
  refine WL.store_cells (i := 0) st_33 rfl cells24 rfl (by rw [iv_length]; have := hl_24; omega) rfl rfl ?_
  intro w_40 st_41
  have st_41' : St w w_40 [.cells B_15 (iv .u32 m_38) 166, .cells B_9 (iv .u32 (List.replicate 16 (0 : Int))) 166, .cells B_5 (iv .u8 l2) 140, .cells B_1 (iv .u8 l0) 23] := by rw [e_39, ← iv_set .u32 m_23 ((IntKind.i64.wrap (4 + x_25)).toNat) r_35]; exact st_41
  refine WL.nil ?_
  refine QW.blk_n ?_
  refine QW.then_n ?_
  refine CW.region ?_
  refine WL.val Wanted.none (Runs.add rfl rfl rfl) ?_
  refine WL.val Wanted.none (Runs.move rfl) ?_
  refine WL.nil ?_
  exact QW.at _ (by repeat' constructor) ⟨m_38, IntKind.i64.wrap (x_25 + 1), rfl, H, hl_42, st_41'⟩
 ·have h_30 : (decide (x_25 < 8)) = false := (decide_eq_false c_29)
  refine CW.cf rfl h_30 ?_
  refine CW.exit ?_
  refine QW.then_x ?_
  refine QW.then_x ?_
  refine QW.blk_x ?_
  refine QW.then_n ?_
  refine CW.seq (CW.region ?_)
  refine WL.val Wanted.none (Runs.move rfl) ?_
  refine WL.val Wanted.none (Runs.indexAddr_blk arr166 rfl rfl (by decide) (by decide) (o := 12) (by first | rfl | omega)) ?_
  obtain ⟨m_43, e_44, H⟩ := H
  have hl_47 : m_43.length = 16 := by rw [e_44, List.length_set]; exact hl_24
  refine WL.store_cells (i := 0) st_27 rfl cells24 rfl (by rw [iv_length]; have := hl_24; omega) rfl rfl ?_
  intro w_45 st_46
  have st_46' : St w w_45 [.cells B_15 (iv .u32 m_43) 166, .cells B_9 (iv .u32 (List.replicate 16 (0 : Int))) 166, .cells B_5 (iv .u8 l2) 140, .cells B_1 (iv .u8 l0) 23] := by rw [e_44, ← iv_set .u32 m_23 12 a1]; exact st_46
  refine WL.nil (QW.then_n ?_)
  refine CW.sub [(5, .pointer (some ⟨B_5, 0, none⟩)), (6, .pointer (some ⟨B_9, 0, none⟩)), (7, .pointer (some ⟨B_15, 0, none⟩))] ⟨rfl, rfl, rfl, trivial⟩ ?_
  refine CW.seq ?_
  refine CW.seq (CW.region ?_)
  refine WL.val Wanted.none (Runs.move rfl) ?_
  refine WL.nil (QW.then_n ?_)
  refine CW.block ?_
  obtain ⟨k_48, H⟩ := H
  refine CW.sub [(5, .pointer (some ⟨B_5, 0, none⟩)), (6, .pointer (some ⟨B_9, 0, none⟩)), (7, .pointer (some ⟨B_15, 0, none⟩)), (23, .int .i64 0)] ⟨rfl, rfl, rfl, rfl, trivial⟩ ?_
  refine CW.loop (fun kL2 l_ w_ => ∃ (m_49 : List Int) (x_51 : Int), l_ = [(5, .pointer (some ⟨B_5, 0, none⟩)), (6, .pointer (some ⟨B_9, 0, none⟩)), (7, .pointer (some ⟨B_15, 0, none⟩)), (23, .int .i64 x_51)] ∧ cipher_words.L2 l2 r0 kL2 m_49 x_51 ∧ (m_49.length = 16) ∧ St w w_ [.cells B_15 (iv .u32 m_49) 166, .cells B_9 (iv .u32 (List.replicate 16 (0 : Int))) 166, .cells B_5 (iv .u8 l2) 140, .cells B_1 (iv .u8 l0) 23]) (k := k_48) ⟨m_43, 0, rfl, H, hl_47, st_46'⟩ (fun _ _ h => by obtain ⟨_, _, _, h, _⟩ := h; exact h.elim) ?_
  rintro kL2 l_54 w_52 ⟨m_49, x_51, rfl, H, hl_50, st_53⟩
  refine CW.seq (CW.region ?_)
  refine WL.val Wanted.none (Runs.lss rfl rfl rfl) ?_
  refine WL.nil (QW.then_n ?_)
  refine CW.seq ?_
  rcases H with ⟨c_55, H⟩ | ⟨c_55, H⟩
  ·have h_56 : (decide (x_51 < 3)) = true := (decide_eq_true c_55)
   refine CW.ct rfl h_56 ?_
   refine CW.skip ?_
   refine QW.then_n ?_
   refine CW.seq ?_
   refine CW.block ?_
   refine CW.seq (CW.region ?_)
   refine WL.val Wanted.none (Runs.move rfl) ?_
   refine WL.val Wanted.none (Runs.assign rfl) ?_
   refine WL.nil (QW.then_n ?_)
   refine CW.region ?_
   refine WL.val Wanted.none (Runs.move rfl) ?_
   refine WL.val Wanted.none (Runs.add rfl rfl rfl) ?_
   refine WL.val Wanted.none (Runs.slice_arr arr140 rfl (by decide)) ?_
   refine WL.val Wanted.none (Runs.move rfl) ?_
   obtain ⟨r_61, hr_57, H⟩ := H
   refine WL.call Wanted.none ent89 rfl (cipher_at.calls w_52 l2 x_51 (some ⟨B_5, 0, none⟩) 12 12 (st_53.src_blk (i := 2) rfl) ((hl2).symm) (Nat.le_refl _) r_61 hr_57) ?_
   rintro _ w_58 ⟨rfl, sc_60⟩
   have st_59 : St w w_58 [.cells B_15 (iv .u32 m_49) 166, .cells B_9 (iv .u32 (List.replicate 16 (0 : Int))) 166, .cells B_5 (iv .u8 l2) 140, .cells B_1 (iv .u8 l0) 23] := st_53.call sc_60
   refine ⟨_, rfl, ?_⟩
   obtain ⟨⟨p_62, q_63⟩, H⟩ := H
   refine WL.val Wanted.none (Runs.indexAddr_blk arr166 rfl rfl p_62 q_63 (o := (IntKind.i64.wrap (13 + x_51)).toNat) (by first | rfl | omega)) ?_
   obtain ⟨m_64, e_65, H⟩ := H
   have hl_68 : m_64.length = 16 := by rw [e_65, List.length_set]; exact hl_50
   refine WL.store_cells (i := 0) st_59 rfl cells24 rfl (by rw [iv_length]; have := hl_50; omega) rfl rfl ?_
   intro w_66 st_67
   have st_67' : St w w_66 [.cells B_15 (iv .u32 m_64) 166, .cells B_9 (iv .u32 (List.replicate 16 (0 : Int))) 166, .cells B_5 (iv .u8 l2) 140, .cells B_1 (iv .u8 l0) 23] := by rw [e_65, ← iv_set .u32 m_49 ((IntKind.i64.wrap (13 + x_51)).toNat) r_61]; exact st_67
   refine WL.nil ?_
   refine QW.blk_n ?_
   refine QW.then_n ?_
   refine CW.region ?_
   refine WL.val Wanted.none (Runs.add rfl rfl rfl) ?_
   refine WL.val Wanted.none (Runs.move rfl) ?_
   refine WL.nil ?_
   exact QW.at _ (by repeat' constructor) ⟨m_64, IntKind.i64.wrap (x_51 + 1), rfl, H, hl_68, st_67'⟩
  ·have h_56 : (decide (x_51 < 3)) = false := (decide_eq_false c_55)
   refine CW.cf rfl h_56 ?_
   refine CW.exit ?_
   refine QW.then_x ?_
   refine QW.then_x ?_
   refine QW.blk_x ?_
   refine QW.then_n ?_
   refine CW.seq (CW.region ?_)
   refine WL.val Wanted.none (Runs.load_arr arr166 rfl (st_53.blk (i := 0) rfl) hl_50) ?_
   refine WL.store_arr (i := 1) st_53 rfl arr166 rfl (by rw [iv_length]; exact (List.length_replicate ..)) hl_50 rfl ?_
   intro w_69 st_70
   replace st_70 : St w w_69 [.cells B_15 (iv .u32 m_49) 166, .cells B_9 (iv .u32 m_49) 166, .cells B_5 (iv .u8 l2) 140, .cells B_1 (iv .u8 l0) 23] := st_70
   refine WL.nil (QW.then_n ?_)
   refine CW.ret ?_
   obtain rfl := H
   exact QW.retc rfl arr166 rfl (st_70.blk (i := 1) rfl) hl_50 ⟨hl_50, rfl, st_70.pick [] (by decide)⟩

/-! ### bits_RotateLeft32: function 86 -/
def bits_RotateLeft32.rel (a0 : Int) (a1 : Int) (r0 : Int) : Prop := (0 ≤ (bits .and .u64 (IntKind.u64.wrap a1) 31) ∧ (∃ x_2 : Int, x_2 = IntKind.u64.wrap (32 - (bits .and .u64 (IntKind.u64.wrap a1) 31)) ∧ (0 ≤ x_2 ∧ (∃ x_5 : Int, x_5 = bits .or .u32 (shlI .u32 a0 (bits .and .u64 (IntKind.u64.wrap a1) 31)) (shrI .u32 a0 x_2) ∧ r0 = x_5))))
set_option maxHeartbeats 4000000 in
set_option maxRecDepth 100000 in
theorem bits_RotateLeft32.calls (w : World) (a0 : Int) (a1 : Int)    (r0 : Int) (H : bits_RotateLeft32.rel a0 a1 r0) :
  Calls Tryd.prog 86 #[.int .u32 a0, .int .i64 a1] w fun e w' => e = .returned (.int .u32 r0) ∧ St w w' [] := by
 refine CW.enter Tryd.func86 rfl (n := 17) rfl [.int .u32 a0, .int .i64 a1] (Nat.le_of_ble_eq_true rfl) ?_
 refine CW.sub [(0, .int .u32 a0), (1, .int .i64 a1)] ⟨rfl, rfl, trivial⟩ ?_
 have st0 : St w w [] := St.refl w
 refine CW.seq (CW.region ?_)
 refine WL.val Wanted.none (Runs.assign rfl) ?_
 refine WL.nil (QW.then_n ?_)
 refine CW.seq (CW.region ?_)
 refine WL.val Wanted.none (Runs.move rfl) ?_
 refine WL.val Wanted.none (Runs.conv Tryd.underlying133 ⟨_, Tryd.underlying3⟩ rfl rfl) ?_
 refine WL.val Wanted.none (Runs.band rfl rfl rfl) ?_
 refine WL.val Wanted.none (Runs.assign rfl) ?_
 refine WL.nil (QW.then_n ?_)
 refine CW.seq (CW.region ?_)
 refine WL.val Wanted.none (Runs.move rfl) ?_
 refine WL.val Wanted.none (Runs.move rfl) ?_
 obtain ⟨z_1, H⟩ := H
 refine WL.val Wanted.none (Runs.shl rfl rfl z_1 rfl) ?_
 refine WL.val Wanted.none (Runs.move rfl) ?_
 refine WL.val Wanted.none (Runs.move rfl) ?_
 obtain ⟨x_2, e_3, H⟩ := H
 refine WL.val Wanted.none (Runs.sub rfl rfl e_3) ?_
 obtain ⟨z_4, H⟩ := H
 refine WL.val Wanted.none (Runs.shr rfl rfl z_4 rfl) ?_
 obtain ⟨x_5, e_6, H⟩ := H
 refine WL.val Wanted.none (Runs.bor rfl rfl e_6) ?_
 refine WL.val Wanted.none (Runs.assign rfl) ?_
 refine WL.nil (QW.then_n ?_)
 refine CW.sub [(4, .int .u32 x_5)] ⟨rfl, trivial⟩ ?_
 refine CW.ret ?_
 obtain rfl := H
 exact QW.ret1 rfl rfl ⟨rfl, st0.pick [] (by decide)⟩

/-! ### cipher_Block_1: function 85 -/
def cipher_Block_1.rel (a0 : Int) (a1 : Int) (a2 : Int) (a3 : Int) (x0 : List Int) (s0 : List Int) : Prop := ((0 ≤ a0 ∧ a0 < (16 : Int)) ∧ ((0 ≤ a1 ∧ a1 < (16 : Int)) ∧ (∃ x_5 : Int, x_5 = IntKind.u32.wrap ((gn x0 (a0.toNat)) + (gn x0 (a1.toNat))) ∧ ((0 ≤ a0 ∧ a0 < (16 : Int)) ∧ (∃ m_11 : List Int, m_11 = List.set x0 (a0.toNat) x_5 ∧ ((0 ≤ a2 ∧ a2 < (16 : Int)) ∧ ((0 ≤ a0 ∧ a0 < (16 : Int)) ∧ (∃ (r_24 : Int), bits_RotateLeft32.rel (bits .xor .u32 (gn m_11 (a2.toNat)) (gn m_11 (a0.toNat))) a3 r_24 ∧ ((0 ≤ a2 ∧ a2 < (16 : Int)) ∧ (∃ m_29 : List Int, m_29 = List.set m_11 (a2.toNat) r_24 ∧ s0 = m_29))))))))))
set_option maxHeartbeats 4000000 in
set_option maxRecDepth 100000 in
theorem cipher_Block_1.calls (w w1 : World) (T : List En) (a0 : Int) (a1 : Int) (a2 : Int) (a3 : Int) (x0 : List Int) (b0 : Nat) (st0 : St w w1 (.cells b0 (iv .u32 x0) 166 :: T)) (hx0 : x0.length = 16) (s0 : List Int) (H : cipher_Block_1.rel a0 a1 a2 a3 x0 s0) :
  Calls Tryd.prog 85 #[.int .i64 a0, .int .i64 a1, .int .i64 a2, .int .i64 a3, .pointer (some ⟨b0, 0, none⟩)] w1 fun e w' => s0.length = 16 ∧ e = .returned (.tuple #[]) ∧ St w w' (.cells b0 (iv .u32 s0) 166 :: T) := by
 refine CW.enter Tryd.func85 rfl (n := 28) rfl [.int .i64 a0, .int .i64 a1, .int .i64 a2, .int .i64 a3, .pointer (some ⟨b0, 0, none⟩)] (Nat.le_of_ble_eq_true rfl) ?_
 refine CW.sub [(0, .int .i64 a0), (1, .int .i64 a1), (2, .int .i64 a2), (3, .int .i64 a3), (4, .pointer (some ⟨b0, 0, none⟩))] ⟨rfl, rfl, rfl, rfl, rfl, trivial⟩ ?_
 refine CW.seq ?_
 refine CW.region_qt 8 wide (by kernel_rfl) st0 ?_
 refine HL.val Wanted.none (fun wq sq => (Runs.move rfl)) ?_
 obtain ⟨⟨p_1, q_2⟩, H⟩ := H
 refine HL.val Wanted.none (fun wq sq => (Runs.indexAddr_blk arr166 rfl rfl p_1 q_2 (o := (a0).toNat) (by first | rfl | omega))) ?_
 refine HL.val Wanted.none (fun wq sq => (Runs.load nagg24 rfl (sq.cell_iv (i := 0) rfl (by have := hx0; omega)))) ?_
 refine HL.val Wanted.none (fun wq sq => (Runs.move rfl)) ?_
 obtain ⟨⟨p_3, q_4⟩, H⟩ := H
 refine HL.val Wanted.none (fun wq sq => (Runs.indexAddr_blk arr166 rfl rfl p_3 q_4 (o := (a1).toNat) (by first | rfl | omega))) ?_
 refine HL.val Wanted.none (fun wq sq => (Runs.load nagg24 rfl (sq.cell_iv (i := 0) rfl (by have := hx0; omega)))) ?_
 obtain ⟨x_5, e_6, H⟩ := H
 refine HL.val Wanted.none (fun wq sq => (Runs.add rfl rfl e_6)) ?_
 obtain ⟨⟨p_7, q_8⟩, H⟩ := H
 refine HL.val Wanted.none (fun wq sq => (Runs.indexAddr_blk arr166 rfl rfl p_7 q_8 (o := (a0).toNat) (by first | rfl | omega))) ?_
 refine HL.nil (fun w_9 st_10 => ?_)
 obtain ⟨m_11, e_12, H⟩ := H
 have hl_15 : m_11.length = 16 := by rw [e_12, List.length_set]; exact hx0
 refine WL.store_cells (i := 0) st_10 rfl cells24 rfl (by rw [iv_length]; have := hx0; omega) rfl rfl ?_
 intro w_13 st_14
 have st_14' : St w w_13 (.cells b0 (iv .u32 m_11) 166 :: T) := by rw [e_12, ← iv_set .u32 x0 (a0.toNat) x_5]; exact st_14
 refine WL.nil (QW.then_n ?_)
 refine CW.sub [(0, .int .i64 a0), (2, .int .i64 a2), (3, .int .i64 a3), (4, .pointer (some ⟨b0, 0, none⟩))] ⟨rfl, rfl, rfl, rfl, trivial⟩ ?_
 refine CW.region_qt 11 wide (by kernel_rfl) st_14' ?_
 refine HL.val Wanted.none (fun wq sq => (Runs.move rfl)) ?_
 refine HL.val Wanted.none (fun wq sq => (Runs.move rfl)) ?_
 obtain ⟨⟨p_16, q_17⟩, H⟩ := H
 refine HL.val Wanted.none (fun wq sq => (Runs.indexAddr_blk arr166 rfl rfl p_16 q_17 (o := (a2).toNat) (by first | rfl | omega))) ?_
 refine HL.val Wanted.none (fun wq sq => (Runs.load nagg24 rfl (sq.cell_iv (i := 0) rfl (by have := hl_15; omega)))) ?_
 refine HL.val Wanted.none (fun wq sq => (Runs.move rfl)) ?_
 obtain ⟨⟨p_18, q_19⟩, H⟩ := H
 refine HL.val Wanted.none (fun wq sq => (Runs.indexAddr_blk arr166 rfl rfl p_18 q_19 (o := (a0).toNat) (by first | rfl | omega))) ?_
 refine HL.val Wanted.none (fun wq sq => (Runs.load nagg24 rfl (sq.cell_iv (i := 0) rfl (by have := hl_15; omega)))) ?_
 refine HL.val Wanted.none (fun wq sq => (Runs.bxor rfl rfl rfl)) ?_
 refine HL.val Wanted.none (fun wq sq => (Runs.move rfl)) ?_
 obtain ⟨r_24, hr_20, H⟩ := H
 refine HL.call Wanted.none ent86 rfl (fun wq sq => (bits_RotateLeft32.calls wq (bits .xor .u32 (gn m_11 (a2.toNat)) (gn m_11 (a0.toNat))) a3 r_24 hr_20).mono (by rintro _ _ ⟨rfl, sc⟩; exact ⟨rfl, sq.call sc⟩)) ?_
 obtain ⟨⟨p_25, q_26⟩, H⟩ := H
 refine HL.val Wanted.none (fun wq sq => (Runs.indexAddr_blk arr166 rfl rfl p_25 q_26 (o := (a2).toNat) (by first | rfl | omega))) ?_
 refine HL.nil (fun w_27 st_28 => ?_)
 obtain ⟨m_29, e_30, H⟩ := H
 have hl_33 : m_29.length = 16 := by rw [e_30, List.length_set]; exact hl_15
 refine WL.store_cells (i := 0) st_28 rfl cells24 rfl (by rw [iv_length]; have := hl_15; omega) rfl rfl ?_
 intro w_31 st_32
 have st_32' : St w w_31 (.cells b0 (iv .u32 m_29) 166 :: T) := by rw [e_30, ← iv_set .u32 m_11 (a2.toNat) r_24]; exact st_32
 refine WL.nil ?_
 obtain rfl := H
 exact QW.end0 rfl ⟨hl_33, rfl, (St.pickT (L := [_]) st_32' [0] (by decide))⟩

/-! ### cipher_Block: function 78 -/
def cipher_Block.L2 (x_36 : Int) (K_L1 : (List Int) → Int → Prop) : Nat → (List Int) → Int → Prop
 | 0, _, _ => False
 | kL2 + 1, m_43, x_45 => ((x_45 < 8 ∧ ((0 ≤ x_45 ∧ x_45 < (8 : Int)) ∧ (∃ m_53 : List Int, m_53 = List.take 4 (List.drop ((x_45).toNat * 4) tab1) ∧ (∃ (s_68 : List Int), cipher_Block_1.rel (gn m_53 0) (gn m_53 1) (gn m_53 3) 16 m_43 s_68 ∧ (∃ (s_74 : List Int), cipher_Block_1.rel (gn m_53 2) (gn m_53 3) (gn m_53 1) 12 s_68 s_74 ∧ (∃ (s_80 : List Int), cipher_Block_1.rel (gn m_53 0) (gn m_53 1) (gn m_53 3) 8 s_74 s_80 ∧ (∃ (s_86 : List Int), cipher_Block_1.rel (gn m_53 2) (gn m_53 3) (gn m_53 1) 7 s_80 s_86 ∧ cipher_Block.L2 x_36 K_L1 kL2 s_86 (IntKind.i64.wrap (x_45 + 1))))))))) ∨ (¬ (x_45 < 8) ∧ K_L1 m_43 (IntKind.i64.wrap (x_36 + 1))))
def cipher_Block.L3 (r0 : List Int) (r_17 : List Int) (m_34 : List Int) : Nat → (List Int) → Int → Prop
 | 0, _, _ => False
 | kL3 + 1, m_93, x_95 => ((x_95 < 16 ∧ ((0 ≤ x_95 ∧ x_95 < (16 : Int)) ∧ ((0 ≤ (IntKind.i64.wrap (4 * x_95)) ∧ (IntKind.i64.wrap (4 * x_95)) ≤ (64 : Int) ∧ (64 : Int) ≤ (64 : Int)) ∧ ((0 ≤ x_95 ∧ x_95 < (16 : Int)) ∧ (∃ x_119 : Int, x_119 = IntKind.u32.wrap ((gn m_34 (x_95.toNat)) + (gn r_17 (x_95.toNat))) ∧ (∃ (r_125 : List Int), word_Put.rel (IntKind.u64.wrap x_119) 4 r_125 ∧ (∃ m_131 : List Int, m_131 = cpy m_93 (0 + (IntKind.i64.wrap (4 * x_95)).toNat) ((prt m_93 (IntKind.i64.wrap (4 * x_95)) (64 : Int)).length) r_125 ∧ cipher_Block.L3 r0 r_17 m_34 kL3 m_131 (IntKind.i64.wrap (x_95 + 1))))))))) ∨ (¬ (x_95 < 16) ∧ r0 = m_93))
def cipher_Block.L1 (r0 : List Int) (r_17 : List Int) : Nat → (List Int) → Int → Prop
 | 0, _, _ => False
 | kL1 + 1, m_34, x_36 => ((x_36 < 10 ∧ (∃ k_ : Nat, cipher_Block.L2 x_36 (cipher_Block.L1 r0 r_17 kL1) k_ m_34 0)) ∨ (¬ (x_36 < 10) ∧ (∃ k_ : Nat, cipher_Block.L3 r0 r_17 m_34 k_ (List.replicate 64 (0 : Int)) 0)))
def cipher_Block.rel (l0 : List Int) (a1 : Int) (l2 : List Int) (r0 : List Int) : Prop := (∃ (r_17 : List Int), cipher_words.rel l0 a1 l2 r_17 ∧ (∃ k_ : Nat, cipher_Block.L1 r0 r_17 k_ r_17 0))
set_option maxHeartbeats 4000000 in
set_option maxRecDepth 100000 in
theorem cipher_Block.calls (w : World) (l0 : List Int) (a1 : Int) (l2 : List Int)   (hG1 : Src w (some ⟨1, 0, none⟩) (iv .i64 tab1)) (hl0 : l0.length = 32) (hl2 : l2.length = 12) (r0 : List Int) (H : cipher_Block.rel l0 a1 l2 r0) :
  Calls Tryd.prog 78 #[.agg (iv .u8 l0).toArray, .int .u32 a1, .agg (iv .u8 l2).toArray] w fun e w' => r0.length = 64 ∧ e = .returned (.agg (iv .u8 r0).toArray) ∧ St w w' [] := by
 refine CW.enter Tryd.func78 rfl (n := 79) rfl [.agg (iv .u8 l0).toArray, .int .u32 a1, .agg (iv .u8 l2).toArray] (Nat.le_of_ble_eq_true rfl) ?_
 refine CW.sub [(0, .agg (iv .u8 l0).toArray), (1, .int .u32 a1), (2, .agg (iv .u8 l2).toArray)] ⟨rfl, rfl, rfl, trivial⟩ ?_
 have st0 : St w w [] := St.refl w
 refine CW.seq (CW.region ?_)
 refine WL.box st0 rfl rfl ?_
 intro B_1 w_2 st_3
 replace st_3 : St w w_2 [.cells B_1 (iv .u8 l0) 23] := st_3
 refine WL.box st_3 rfl rfl ?_
 intro B_5 w_6 st_7
 replace st_7 : St w w_6 [.cells B_5 (iv .u8 l2) 140, .cells B_1 (iv .u8 l0) 23] := st_7
 refine WL.alloc st_7 arr158.zero ?_
 intro B_9 w_10 st_11
 replace st_11 : St w w_10 [.cells B_9 (iv .u8 (List.replicate 64 (0 : Int))) 158, .cells B_5 (iv .u8 l2) 140, .cells B_1 (iv .u8 l0) 23] := st_11
 refine WL.nil (QW.then_n ?_)
 refine CW.seq (CW.region ?_)
 refine WL.val Wanted.none (Runs.load_arr arr23 rfl (st_11.blk (i := 2) rfl) hl0) ?_
 refine WL.val Wanted.none (Runs.move rfl) ?_
 refine WL.val Wanted.none (Runs.load_arr arr140 rfl (st_11.blk (i := 1) rfl) hl2) ?_
 obtain ⟨r_17, hr_13, H⟩ := H
 refine WL.call Wanted.none ent84 rfl (cipher_words.calls w_10 l0 a1 l2 hl0 hl2 r_17 hr_13) ?_
 rintro _ w_14 ⟨hl_18, rfl, sc_16⟩
 have st_15 : St w w_14 [.cells B_9 (iv .u8 (List.replicate 64 (0 : Int))) 158, .cells B_5 (iv .u8 l2) 140, .cells B_1 (iv .u8 l0) 23] := st_11.call sc_16
 refine ⟨_, rfl, ?_⟩
 refine WL.alloc st_15 arr166.zero ?_
 intro B_19 w_20 st_21
 replace st_21 : St w w_20 [.cells B_19 (iv .u32 (List.replicate 16 (0 : Int))) 166, .cells B_9 (iv .u8 (List.replicate 64 (0 : Int))) 158, .cells B_5 (iv .u8 l2) 140, .cells B_1 (iv .u8 l0) 23] := st_21
 refine WL.store_arr (i := 0) st_21 rfl arr166 rfl (by rw [iv_length]; exact (List.length_replicate ..)) hl_18 rfl ?_
 intro w_23 st_24
 replace st_24 : St w w_23 [.cells B_19 (iv .u32 r_17) 166, .cells B_9 (iv .u8 (List.replicate 64 (0 : Int))) 158, .cells B_5 (iv .u8 l2) 140, .cells B_1 (iv .u8 l0) 23] := st_24
 refine WL.nil (QW.then_n ?_)
 refine CW.sub [(6, .pointer (some ⟨B_9, 0, none⟩)), (7, .pointer (some ⟨B_19, 0, none⟩))] ⟨rfl, rfl, trivial⟩ ?_
 refine CW.seq (CW.region ?_)
 refine WL.val Wanted.none (Runs.load_arr arr166 rfl (st_24.blk (i := 0) rfl) hl_18) ?_
 refine WL.alloc st_24 arr166.zero ?_
 intro B_26 w_27 st_28
 replace st_28 : St w w_27 [.cells B_26 (iv .u32 (List.replicate 16 (0 : Int))) 166, .cells B_19 (iv .u32 r_17) 166, .cells B_9 (iv .u8 (List.replicate 64 (0 : Int))) 158, .cells B_5 (iv .u8 l2) 140, .cells B_1 (iv .u8 l0) 23] := st_28
 refine WL.store_arr (i := 0) st_28 rfl arr166 rfl (by rw [iv_length]; exact (List.length_replicate ..)) hl_18 rfl ?_
 intro w_30 st_31
 replace st_31 : St w w_30 [.cells B_26 (iv .u32 r_17) 166, .cells B_19 (iv .u32 r_17) 166, .cells B_9 (iv .u8 (List.replicate 64 (0 : Int))) 158, .cells B_5 (iv .u8 l2) 140, .cells B_1 (iv .u8 l0) 23] := st_31
 refine WL.nil (QW.then_n ?_)
 refine CW.seq (CW.region ?_)
 refine WL.val Wanted.none (Runs.makeFunc rfl) ?_
 refine WL.val Wanted.none (Runs.assign rfl) ?_
 refine WL.nil (QW.then_n ?_)
 refine CW.seq ?_
 refine CW.seq (CW.region ?_)
 refine WL.val Wanted.none (Runs.move rfl) ?_
 refine WL.nil (QW.then_n ?_)
 refine CW.block ?_
 obtain ⟨k_33, H⟩ := H
 refine CW.sub [(6, .pointer (some ⟨B_9, 0, none⟩)), (7, .pointer (some ⟨B_19, 0, none⟩)), (8, .pointer (some ⟨B_26, 0, none⟩)), (9, .func (.func 85) #[] #[.pointer (some ⟨B_26, 0, none⟩)]), (21, .int .i64 0)] ⟨rfl, rfl, rfl, rfl, rfl, trivial⟩ ?_
 refine CW.loop (fun kL1 l_ w_ => ∃ (m_34 : List Int) (x_36 : Int), l_ = [(6, .pointer (some ⟨B_9, 0, none⟩)), (7, .pointer (some ⟨B_19, 0, none⟩)), (8, .pointer (some ⟨B_26, 0, none⟩)), (9, .func (.func 85) #[] #[.pointer (some ⟨B_26, 0, none⟩)]), (21, .int .i64 x_36)] ∧ cipher_Block.L1 r0 r_17 kL1 m_34 x_36 ∧ (m_34.length = 16) ∧ St w w_ [.cells B_26 (iv .u32 m_34) 166, .cells B_19 (iv .u32 r_17) 166, .cells B_9 (iv .u8 (List.replicate 64 (0 : Int))) 158, .cells B_5 (iv .u8 l2) 140, .cells B_1 (iv .u8 l0) 23]) (k := k_33) ⟨r_17, 0, rfl, H, hl_18, st_31⟩ (fun _ _ h => by obtain ⟨_, _, _, h, _⟩ := h; exact h.elim) ?_
 rintro kL1 l_39 w_37 ⟨m_34, x_36, rfl, H, hl_35, st_38⟩
 refine CW.seq (CW.region ?_)
 refine WL.val Wanted.none (Runs.lss rfl rfl rfl) ?_
 refine WL.nil (QW.then_n ?_)
 refine CW.seq ?_
 rcases H with ⟨c_40, H⟩ | ⟨c_40, H⟩
 ·have h_41 : (decide (x_36 < 10)) = true := (decide_eq_true c_40)
  refine CW.ct rfl h_41 ?_
  refine CW.skip ?_
  refine QW.then_n ?_
  refine CW.seq ?_
  refine CW.block ?_
  refine CW.seq (CW.region ?_)
  refine WL.val Wanted.none (Runs.load_srcR row170 rfl (hG1.ext st_38) (by rw [iv_length]; exact tab1_len)) ?_
  refine WL.val Wanted.none (Runs.move rfl) ?_
  refine WL.nil (QW.then_n ?_)
  refine CW.block ?_
  obtain ⟨k_42, H⟩ := H
  refine CW.sub [(6, .pointer (some ⟨B_9, 0, none⟩)), (7, .pointer (some ⟨B_19, 0, none⟩)), (8, .pointer (some ⟨B_26, 0, none⟩)), (9, .func (.func 85) #[] #[.pointer (some ⟨B_26, 0, none⟩)]), (21, .int .i64 x_36), (22, .bool (decide (x_36 < 10))), (23, .agg (iv .i64 tab1).toArray), (24, .int .i64 0)] (by repeat' constructor) ?_
  refine CW.loop (fun kL2 l_ w_ => ∃ (m_43 : List Int) (x_45 : Int), l_ = [(6, .pointer (some ⟨B_9, 0, none⟩)), (7, .pointer (some ⟨B_19, 0, none⟩)), (8, .pointer (some ⟨B_26, 0, none⟩)), (9, .func (.func 85) #[] #[.pointer (some ⟨B_26, 0, none⟩)]), (21, .int .i64 x_36), (22, .bool (decide (x_36 < 10))), (23, .agg (iv .i64 tab1).toArray), (24, .int .i64 x_45)] ∧ cipher_Block.L2 x_36 (cipher_Block.L1 r0 r_17 kL1) kL2 m_43 x_45 ∧ (m_43.length = 16) ∧ St w w_ [.cells B_26 (iv .u32 m_43) 166, .cells B_19 (iv .u32 r_17) 166, .cells B_9 (iv .u8 (List.replicate 64 (0 : Int))) 158, .cells B_5 (iv .u8 l2) 140, .cells B_1 (iv .u8 l0) 23]) (k := k_42) ⟨m_34, 0, rfl, H, hl_35, st_38⟩ (fun _ _ h => by obtain ⟨_, _, _, h, _⟩ := h; exact h.elim) ?_
  rintro kL2 l_48 w_46 ⟨m_43, x_45, rfl, H, hl_44, st_47⟩
  refine CW.seq (CW.region ?_)
  refine WL.val Wanted.none (Runs.lss rfl rfl rfl) ?_
  refine WL.nil (QW.then_n ?_)
  refine CW.seq ?_
  rcases H with ⟨c_49, H⟩ | ⟨c_49, H⟩
  ·have h_50 : (decide (x_45 < 8)) = true := (decide_eq_true c_49)
   refine CW.ct rfl h_50 ?_
   refine CW.skip ?_
   refine QW.then_n ?_
   refine CW.seq ?_
   refine CW.block ?_
   refine CW.seq (CW.region ?_)
   obtain ⟨⟨p_51, q_52⟩, H⟩ := H
   obtain ⟨m_53, e_54, H⟩ := H
   have hl_55 : m_53.length = 4 := by rw [e_54, List.length_take, List.length_drop, tab1_len]; omega
   refine WL.val Wanted.none (Runs.index_row Tryd.underlying170 row169 rfl rfl p_51 q_52 rfl (by rw [iv_part, ← e_54])) ?_
   refine WL.alloc st_47 arr169.zero ?_
   intro B_56 w_57 st_58
   replace st_58 : St w w_57 [.cells B_56 (iv .i64 (List.replicate 4 (0 : Int))) 169, .cells B_26 (iv .u32 m_43) 166, .cells B_19 (iv .u32 r_17) 166, .cells B_9 (iv .u8 (List.replicate 64 (0 : Int))) 158, .cells B_5 (iv .u8 l2) 140, .cells B_1 (iv .u8 l0) 23] := st_58
   refine WL.store_arr (i := 0) st_58 rfl arr169 rfl (by rw [iv_length]; exact (List.length_replicate ..)) hl_55 rfl ?_
   intro w_60 st_61
   replace st_61 : St w w_60 [.cells B_56 (iv .i64 m_53) 169, .cells B_26 (iv .u32 m_43) 166, .cells B_19 (iv .u32 r_17) 166, .cells B_9 (iv .u8 (List.replicate 64 (0 : Int))) 158, .cells B_5 (iv .u8 l2) 140, .cells B_1 (iv .u8 l0) 23] := st_61
   refine WL.nil (QW.then_n ?_)
   refine CW.seq (CW.region ?_)
   refine WL.val Wanted.none (Runs.move rfl) ?_
   refine WL.val Wanted.none (Runs.indexAddr_blk arr169 rfl rfl (by decide) (by decide) (o := 0) (by first | rfl | omega)) ?_
   refine WL.val Wanted.none (Runs.load nagg3 rfl (st_61.cell_iv (i := 0) rfl (by have := hl_55; omega))) ?_
   refine WL.val Wanted.none (Runs.indexAddr_blk arr169 rfl rfl (by decide) (by decide) (o := 1) (by first | rfl | omega)) ?_
   refine WL.val Wanted.none (Runs.load nagg3 rfl (st_61.cell_iv (i := 0) rfl (by have := hl_55; omega))) ?_
   refine WL.val Wanted.none (Runs.indexAddr_blk arr169 rfl rfl (by decide) (by decide) (o := 3) (by first | rfl | omega)) ?_
   refine WL.val Wanted.none (Runs.load nagg3 rfl (st_61.cell_iv (i := 0) rfl (by have := hl_55; omega))) ?_
   have st_63 := st_61.pick [1, 0, 2, 3, 4, 5] (by decide)
   replace st_63 : St w w_60 [.cells B_26 (iv .u32 m_43) 166, .cells B_56 (iv .i64 m_53) 169, .cells B_19 (iv .u32 r_17) 166, .cells B_9 (iv .u8 (List.replicate 64 (0 : Int))) 158, .cells B_5 (iv .u8 l2) 140, .cells B_1 (iv .u8 l0) 23] := st_63
   obtain ⟨s_68, hr_64, H⟩ := H
   refine WL.callv Wanted.none ent85 rfl rfl (cipher_Block_1.calls w w_60 [.cells B_56 (iv .i64 m_53) 169, .cells B_19 (iv .u32 r_17) 166, .cells B_9 (iv .u8 (List.replicate 64 (0 : Int))) 158, .cells B_5 (iv .u8 l2) 140, .cells B_1 (iv .u8 l0) 23] (gn m_53 0) (gn m_53 1) (gn m_53 3) 16 m_43 B_26 st_63 hl_44 s_68 hr_64) ?_
   rintro _ w_65 ⟨hl_69, rfl, sc_67⟩
   have st_66 : St w w_65 [.cells B_26 (iv .u32 s_68) 166, .cells B_56 (iv .i64 m_53) 169, .cells B_19 (iv .u32 r_17) 166, .cells B_9 (iv .u8 (List.replicate 64 (0 : Int))) 158, .cells B_5 (iv .u8 l2) 140, .cells B_1 (iv .u8 l0) 23] := sc_67
   refine ⟨_, rfl, ?_⟩
   refine WL.nil (QW.then_n ?_)
   refine CW.seq (CW.region ?_)
   refine WL.val Wanted.none (Runs.move rfl) ?_
   refine WL.val Wanted.none (Runs.indexAddr_blk arr169 rfl rfl (by decide) (by decide) (o := 2) (by first | rfl | omega)) ?_
   refine WL.val Wanted.none (Runs.load nagg3 rfl (st_66.cell_iv (i := 1) rfl (by have := hl_55; omega))) ?_
   refine WL.val Wanted.none (Runs.indexAddr_blk arr169 rfl rfl (by decide) (by decide) (o := 3) (by first | rfl | omega)) ?_
   refine WL.val Wanted.none (Runs.load nagg3 rfl (st_66.cell_iv (i := 1) rfl (by have := hl_55; omega))) ?_
   refine WL.val Wanted.none (Runs.indexAddr_blk arr169 rfl rfl (by decide) (by decide) (o := 1) (by first | rfl | omega)) ?_
   refine WL.val Wanted.none (Runs.load nagg3 rfl (st_66.cell_iv (i := 1) rfl (by have := hl_55; omega))) ?_
   obtain ⟨s_74, hr_70, H⟩ := H
   refine WL.callv Wanted.none ent85 rfl rfl (cipher_Block_1.calls w w_65 [.cells B_56 (iv .i64 m_53) 169, .cells B_19 (iv .u32 r_17) 166, .cells B_9 (iv .u8 (List.replicate 64 (0 : Int))) 158, .cells B_5 (iv .u8 l2) 140, .cells B_1 (iv .u8 l0) 23] (gn m_53 2) (gn m_53 3) (gn m_53 1) 12 s_68 B_26 st_66 hl_69 s_74 hr_70) ?_
   rintro _ w_71 ⟨hl_75, rfl, sc_73⟩
   have st_72 : St w w_71 [.cells B_26 (iv .u32 s_74) 166, .cells B_56 (iv .i64 m_53) 169, .cells B_19 (iv .u32 r_17) 166, .cells B_9 (iv .u8 (List.replicate 64 (0 : Int))) 158, .cells B_5 (iv .u8 l2) 140, .cells B_1 (iv .u8 l0) 23] := sc_73
   refine ⟨_, rfl, ?_⟩
   refine WL.nil (QW.then_n ?_)
   refine CW.seq (CW.region ?_)
   refine WL.val Wanted.none (Runs.move rfl) ?_
   refine WL.val Wanted.none (Runs.indexAddr_blk arr169 rfl rfl (by decide) (by decide) (o := 0) (by first | rfl | omega)) ?_
   refine WL.val Wanted.none (Runs.load nagg3 rfl (st_72.cell_iv (i := 1) rfl (by have := hl_55; omega))) ?_
   refine WL.val Wanted.none (Runs.indexAddr_blk arr169 rfl rfl (by decide) (by decide) (o := 1) (by first | rfl | omega)) ?_
   refine WL.val Wanted.none (Runs.load nagg3 rfl (st_72.cell_iv (i := 1) rfl (by have := hl_55; omega))) ?_
   refine WL.val Wanted.none (Runs.indexAddr_blk arr169 rfl rfl (by decide) (by decide) (o := 3) (by first | rfl | omega)) ?_
   refine WL.val Wanted.none (Runs.load nagg3 rfl (st_72.cell_iv (i := 1) rfl (by have := hl_55; omega))) ?_
   obtain ⟨s_80, hr_76, H⟩ := H
   refine WL.callv Wanted.none ent85 rfl rfl (cipher_Block_1.calls w w_71 [.cells B_56 (iv .i64 m_53) 169, .cells B_19 (iv .u32 r_17) 166, .cells B_9 (iv .u8 (List.replicate 64 (0 : Int))) 158, .cells B_5 (iv .u8 l2) 140, .cells B_1 (iv .u8 l0) 23] (gn m_53 0) (gn m_53 1) (gn m_53 3) 8 s_74 B_26 st_72 hl_75 s_80 hr_76) ?_
   rintro _ w_77 ⟨hl_81, rfl, sc_79⟩
   have st_78 : St w w_77 [.cells B_26 (iv .u32 s_80) 166, .cells B_56 (iv .i64 m_53) 169, .cells B_19 (iv .u32 r_17) 166, .cells B_9 (iv .u8 (List.replicate 64 (0 : Int))) 158, .cells B_5 (iv .u8 l2) 140, .cells B_1 (iv .u8 l0) 23] := sc_79
   refine ⟨_, rfl, ?_⟩
   refine WL.nil (QW.then_n ?_)
   refine CW.region ?_
   refine WL.val Wanted.none (Runs.move rfl) ?_
   refine WL.val Wanted.none (Runs.indexAddr_blk arr169 rfl rfl (by decide) (by decide) (o := 2) (by first | rfl | omega)) ?_
   refine WL.val Wanted.none (Runs.load nagg3 rfl (st_78.cell_iv (i := 1) rfl (by have := hl_55; omega))) ?_
   refine WL.val Wanted.none (Runs.indexAddr_blk arr169 rfl rfl (by decide) (by decide) (o := 3) (by first | rfl | omega)) ?_
   refine WL.val Wanted.none (Runs.load nagg3 rfl (st_78.cell_iv (i := 1) rfl (by have := hl_55; omega))) ?_
   refine WL.val Wanted.none (Runs.indexAddr_blk arr169 rfl rfl (by decide) (by decide) (o := 1) (by first | rfl | omega)) ?_
   refine WL.val Wanted.none (Runs.load nagg3 rfl (st_78.cell_iv (i := 1) rfl (by have := hl_55; omega))) ?_
   obtain ⟨s_86, hr_82, H⟩ := H
   refine WL.callv Wanted.none ent85 rfl rfl (cipher_Block_1.calls w w_77 [.cells B_56 (iv .i64 m_53) 169, .cells B_19 (iv .u32 r_17) 166, .cells B_9 (iv .u8 (List.replicate 64 (0 : Int))) 158, .cells B_5 (iv .u8 l2) 140, .cells B_1 (iv .u8 l0) 23] (gn m_53 2) (gn m_53 3) (gn m_53 1) 7 s_80 B_26 st_78 hl_81 s_86 hr_82) ?_
   rintro _ w_83 ⟨hl_87, rfl, sc_85⟩
   have st_84 : St w w_83 [.cells B_26 (iv .u32 s_86) 166, .cells B_56 (iv .i64 m_53) 169, .cells B_19 (iv .u32 r_17) 166, .cells B_9 (iv .u8 (List.replicate 64 (0 : Int))) 158, .cells B_5 (iv .u8 l2) 140, .cells B_1 (iv .u8 l0) 23] := sc_85
   refine ⟨_, rfl, ?_⟩
   refine WL.nil ?_
   refine QW.blk_n ?_
   refine QW.then_n ?_
   refine CW.region ?_
   refine WL.val Wanted.none (Runs.add rfl rfl rfl) ?_
   refine WL.val Wanted.none (Runs.move rfl) ?_
   refine WL.nil ?_
   have st_84' := st_84.pick [0, 2, 3, 4, 5] (by decide)
   exact QW.at _ (by repeat' constructor) ⟨s_86, IntKind.i64.wrap (x_45 + 1), rfl, H, hl_87, st_84'⟩
  ·have h_50 : (decide (x_45 < 8)) = false := (decide_eq_false c_49)
   refine CW.cf rfl h_50 ?_
   refine CW.exit ?_
   refine QW.then_x ?_
   refine QW.then_x ?_
   refine QW.blk_x ?_
   refine QW.blk_n ?_
   refine QW.then_n ?_
   refine CW.region ?_
   refine WL.val Wanted.none (Runs.add rfl rfl rfl) ?_
   refine WL.val Wanted.none (Runs.move rfl) ?_
   refine WL.nil ?_
   exact QW.at _ (by repeat' constructor) ⟨m_43, IntKind.i64.wrap (x_36 + 1), rfl, H, hl_44, st_47⟩
 ·have h_41 : (decide (x_36 < 10)) = false := (decide_eq_false c_40)
  refine CW.cf rfl h_41 ?_
  refine CW.exit ?_
  refine QW.then_x ?_
  refine QW.then_x ?_
  refine QW.blk_x ?_
  refine QW.then_n ?_
  refine CW.seq (CW.region ?_)
  refine WL.alloc st_38 arr158.zero ?_
  intro B_88 w_89 st_90
  replace st_90 : St w w_89 [.cells B_88 (iv .u8 (List.replicate 64 (0 : Int))) 158, .cells B_26 (iv .u32 m_34) 166, .cells B_19 (iv .u32 r_17) 166, .cells B_9 (iv .u8 (List.replicate 64 (0 : Int))) 158, .cells B_5 (iv .u8 l2) 140, .cells B_1 (iv .u8 l0) 23] := st_90
  refine WL.nil (QW.then_n ?_)
  refine CW.seq ?_
  refine CW.seq (CW.region ?_)
  refine WL.val Wanted.none (Runs.load_arr arr166 rfl (st_90.blk (i := 1) rfl) hl_35) ?_
  refine WL.val Wanted.none (Runs.move rfl) ?_
  refine WL.nil (QW.then_n ?_)
  refine CW.block ?_
  obtain ⟨k_92, H⟩ := H
  refine CW.sub [(6, .pointer (some ⟨B_9, 0, none⟩)), (7, .pointer (some ⟨B_19, 0, none⟩)), (12, .pointer (some ⟨B_88, 0, none⟩)), (61, .agg (iv .u32 m_34).toArray), (62, .int .i64 0)] ⟨rfl, rfl, rfl, rfl, rfl, trivial⟩ ?_
  refine CW.loop (fun kL3 l_ w_ => ∃ (m_93 : List Int) (x_95 : Int), l_ = [(6, .pointer (some ⟨B_9, 0, none⟩)), (7, .pointer (some ⟨B_19, 0, none⟩)), (12, .pointer (some ⟨B_88, 0, none⟩)), (61, .agg (iv .u32 m_34).toArray), (62, .int .i64 x_95)] ∧ cipher_Block.L3 r0 r_17 m_34 kL3 m_93 x_95 ∧ (m_93.length = 64) ∧ St w w_ [.cells B_88 (iv .u8 m_93) 158, .cells B_26 (iv .u32 m_34) 166, .cells B_19 (iv .u32 r_17) 166, .cells B_9 (iv .u8 (List.replicate 64 (0 : Int))) 158, .cells B_5 (iv .u8 l2) 140, .cells B_1 (iv .u8 l0) 23]) (k := k_92) ⟨List.replicate 64 (0 : Int), 0, rfl, H, (List.length_replicate ..), st_90⟩ (fun _ _ h => by obtain ⟨_, _, _, h, _⟩ := h; exact h.elim) ?_
  rintro kL3 l_98 w_96 ⟨m_93, x_95, rfl, H, hl_94, st_97⟩
  refine CW.seq (CW.region ?_)
  refine WL.val Wanted.none (Runs.lss rfl rfl rfl) ?_
  refine WL.nil (QW.then_n ?_)
  refine CW.seq ?_
  rcases H with ⟨c_99, H⟩ | ⟨c_99, H⟩
  ·have h_100 : (decide (x_95 < 16)) = true := (decide_eq_true c_99)
   refine CW.ct rfl h_100 ?_
   refine CW.skip ?_
   refine QW.then_n ?_
   refine CW.seq ?_
   refine CW.block ?_
   refine CW.seq (CW.region ?_)
   refine WL.val Wanted.none (Runs.move rfl) ?_
   obtain ⟨⟨p_101, q_102⟩, H⟩ := H
   refine WL.val Wanted.none (Runs.index_arr arr166 rfl hl_35 rfl p_101 q_102 (j := (x_95).toNat) (by first | rfl | omega)) ?_
   refine WL.val Wanted.none (Runs.assign rfl) ?_
   refine WL.val Wanted.none (Runs.assign rfl) ?_
   refine WL.nil (QW.then_n ?_)
   refine CW.region_awh (C := fun w_ => St w w_ [.cells B_88 (iv .u8 m_93) 158, .cells B_26 (iv .u32 m_34) 166, .cells B_19 (iv .u32 r_17) 166, .cells B_9 (iv .u8 (List.replicate 64 (0 : Int))) 158, .cells B_5 (iv .u8 l2) 140, .cells B_1 (iv .u8 l0) 23]) 10 wide (by kernel_rfl) st_97 (fun w_103 st_104 => ?_)
   refine AWH.take 0 rfl (by decide) (by kernel_rfl) (by kernel_rfl) st_104 Wanted.none (fun wq sq => (Runs.move rfl)) ?_
   refine AWH.take 1 rfl (by decide) (by kernel_rfl) (by kernel_rfl) st_104 Wanted.none (fun wq sq => (Runs.mul rfl rfl rfl)) ?_
   obtain ⟨⟨p_105, q_106, r_107⟩, H⟩ := H
   have r_116 : (64 : Int) ≤ (m_93.length : Int) := by rw [hl_94]; exact r_107
   obtain ⟨A_108, e_111⟩ : ∃ B_, B_ = subA (some ⟨B_88, 0, none⟩) (IntKind.i64.wrap (4 * x_95)).toNat 64 := ⟨_, rfl⟩
   obtain ⟨n_109, e_112⟩ : ∃ n_ : Nat, n_ = (prt m_93 (IntKind.i64.wrap (4 * x_95)) (64 : Int)).length := ⟨_, rfl⟩
   obtain ⟨c_110, e_113⟩ : ∃ c_ : Nat, c_ = 64 - (IntKind.i64.wrap (4 * x_95)).toNat := ⟨_, rfl⟩
   have h_115 : n_109 ≤ c_110 := by rw [e_112, prt_length p_105 q_106 r_116]; rw [e_113]; omega
   refine AWH.take 2 rfl (by decide) (by kernel_rfl) (by kernel_rfl) st_104 Wanted.none (fun wq sq => (Runs.slice_arr_l arr158 rfl rfl p_105 (by omega) e_111 (N := n_109) (by rw [e_112, prt_length p_105 q_106 r_116]; omega) e_113)) ?_
   refine AWH.take 3 rfl (by decide) (by kernel_rfl) (by kernel_rfl) st_104 Wanted.none (fun wq sq => (Runs.move rfl)) ?_
   refine AWH.take 4 rfl (by decide) (by kernel_rfl) (by kernel_rfl) st_104 Wanted.none (fun wq sq => (Runs.move rfl)) ?_
   obtain ⟨⟨p_117, q_118⟩, H⟩ := H
   refine AWH.take 5 rfl (by decide) (by kernel_rfl) (by kernel_rfl) st_104 Wanted.none (fun wq sq => (Runs.indexAddr_blk arr166 rfl rfl p_117 q_118 (o := (x_95).toNat) (by first | rfl | omega))) ?_
   refine AWH.take 6 rfl (by decide) (by kernel_rfl) (by kernel_rfl) st_104 Wanted.none (fun wq sq => (Runs.load nagg24 rfl (sq.cell_iv (i := 2) rfl (by have := hl_18; omega)))) ?_
   obtain ⟨x_119, e_120, H⟩ := H
   refine AWH.take 7 rfl (by decide) (by kernel_rfl) (by kernel_rfl) st_104 Wanted.none (fun wq sq => (Runs.add rfl rfl e_120)) ?_
   refine AWH.take 8 rfl (by decide) (by kernel_rfl) (by kernel_rfl) st_104 Wanted.none (fun wq sq => (Runs.conv Tryd.underlying37 ⟨_, Tryd.underlying24⟩ rfl rfl)) ?_
   refine AWH.step 9 rfl (by decide) (by kernel_rfl) (fun inv_ hs_ hk_ hc_ hn_ => ?_)
   obtain ⟨r_125, hr_121, H⟩ := H
   refine WL.call Wanted.none ent32 rfl (word_Put.calls w_103 (IntKind.u64.wrap x_119) 4 r_125 hr_121) ?_
   rintro _ w_122 ⟨A_126, c_127, n_128, hn_129, rfl, sc_124⟩
   have st_123 : St w w_122 [.sl A_126 c_127 n_128 (iv .u8 r_125) 5 1, .cells B_88 (iv .u8 m_93) 158, .cells B_26 (iv .u32 m_34) 166, .cells B_19 (iv .u32 r_17) 166, .cells B_9 (iv .u8 (List.replicate 64 (0 : Int))) 158, .cells B_5 (iv .u8 l2) 140, .cells B_1 (iv .u8 l0) 23] := st_104.call sc_124
   refine ⟨_, rfl, ?_⟩
   refine WL.nil ?_
   refine AWH.back (St.subset st_104 st_123 (List.forall_mem_cons.2 ⟨List.mem_of_getElem? (i := 1) rfl, (List.forall_mem_cons.2 ⟨List.mem_of_getElem? (i := 2) rfl, (List.forall_mem_cons.2 ⟨List.mem_of_getElem? (i := 3) rfl, (List.forall_mem_cons.2 ⟨List.mem_of_getElem? (i := 4) rfl, (List.forall_mem_cons.2 ⟨List.mem_of_getElem? (i := 5) rfl, (List.forall_mem_cons.2 ⟨List.mem_of_getElem? (i := 6) rfl, (fun x_ h_ => by cases h_)⟩)⟩)⟩)⟩)⟩)⟩)) inv_ hs_ hk_ hc_ hn_ ?_
   refine AWH.tail (by kernel_rfl) ?_
   refine AW.step 10 rfl (by kernel_rfl) ?_
   obtain ⟨m_131, e_132, H⟩ := H
   have hfit_ : 0 + (IntKind.i64.wrap (4 * x_95)).toNat + n_109 ≤ m_93.length := by have := hl_94; have := (hl_94).symm; have := prt_length p_105 q_106 r_116; have := e_112; omega
   refine WL.copy_cells (i := 1) (o := 0 + (IntKind.i64.wrap (4 * x_95)).toNat) st_123 rfl Tryd.underlying25 cells5 rfl rfl (subA_map (N' := 1) (fun _ => map_add_zero) e_111 (fun _ => by have := (hl_94).symm; have := prt_length p_105 q_106 r_116; have := e_112; have := h_115; have := e_113; omega)) (by rw [iv_length]; exact hfit_) (st_123.src_sl (k := 0) rfl) (hn_129.trans (iv_length .u8 _).symm) (one_iv .u8 _) ?_
   intro w_133 st_134
   have hn_135 : m_131.length = m_93.length := by rw [e_132]; exact cpy_length (by have := (show n_109 = (prt m_93 (IntKind.i64.wrap (4 * x_95)) (64 : Int)).length from e_112); omega)
   have st_134' : St w w_133 [.sl A_126 c_127 n_128 (iv .u8 r_125) 5 1, .cells B_88 (iv .u8 m_131) 158, .cells B_26 (iv .u32 m_34) 166, .cells B_19 (iv .u32 r_17) 166, .cells B_9 (iv .u8 (List.replicate 64 (0 : Int))) 158, .cells B_5 (iv .u8 l2) 140, .cells B_1 (iv .u8 l0) 23] := by rw [e_132, ← (show n_109 = (prt m_93 (IntKind.i64.wrap (4 * x_95)) (64 : Int)).length from e_112), ← cpy_iv .u8]; exact st_134
   have z_136 := iv_length .u8 r_125
   refine WL.nil ?_
   refine AW.back  ?_
   refine AW.done (by kernel_rfl) ?_
   refine QW.blk_n ?_
   refine QW.then_n ?_
   refine CW.region ?_
   refine WL.val Wanted.none (Runs.add rfl rfl rfl) ?_
   refine WL.val Wanted.none (Runs.move rfl) ?_
   refine WL.nil ?_
   have st_134'' := st_134'.pick [1, 2, 3, 4, 5, 6] (by decide)
   exact QW.at _ (by repeat' constructor) ⟨m_131, IntKind.i64.wrap (x_95 + 1), rfl, H, (hn_135.trans hl_94), st_134''⟩
  ·have h_100 : (decide (x_95 < 16)) = false := (decide_eq_false c_99)
   refine CW.cf rfl h_100 ?_
   refine CW.exit ?_
   refine QW.then_x ?_
   refine QW.then_x ?_
   refine QW.blk_x ?_
   refine QW.then_n ?_
   refine CW.seq (CW.region ?_)
   refine WL.val Wanted.none (Runs.load_arr arr158 rfl (st_97.blk (i := 0) rfl) hl_94) ?_
   refine WL.store_arr (i := 3) st_97 rfl arr158 rfl (by rw [iv_length]; exact (List.length_replicate ..)) hl_94 rfl ?_
   intro w_137 st_138
   replace st_138 : St w w_137 [.cells B_88 (iv .u8 m_93) 158, .cells B_26 (iv .u32 m_34) 166, .cells B_19 (iv .u32 r_17) 166, .cells B_9 (iv .u8 m_93) 158, .cells B_5 (iv .u8 l2) 140, .cells B_1 (iv .u8 l0) 23] := st_138
   refine WL.nil (QW.then_n ?_)
   refine CW.sub [(6, .pointer (some ⟨B_9, 0, none⟩))] ⟨rfl, trivial⟩ ?_
   refine CW.ret ?_
   obtain rfl := H
   exact QW.retc rfl arr158 rfl (st_138.blk (i := 3) rfl) hl_94 ⟨hl_94, rfl, st_138.pick [] (by decide)⟩

/-! ### cipher_Crypt: function 62 -/
def cipher_Crypt.L1 (l_52 : List Int) (x_54 : Int) (x_46 : Nat) (Inv_39 : (List Int) → Int → Prop) (g_40 : Nat → ((List Int) × Int) → (List Int) × Int) (r_60 : List Int) : Nat → (List Int) → Int → Prop
 | 0, _, _ => False
 | kL1 + 1, l_70, x_72 => ((x_72 < ((chl l_52 64 x_46).length : Int) ∧ ((0 ≤ x_72 ∧ x_72 < ((chl l_70 64 x_46).length : Int)) ∧ ((0 ≤ x_72 ∧ x_72 < (64 : Int)) ∧ (∃ x_84 : Int, x_84 = bits .xor .u8 (gn (chl l_70 64 x_46) (x_72.toNat)) (gn r_60 (x_72.toNat)) ∧ ((0 ≤ x_72 ∧ x_72 < ((chl l_70 64 x_46).length : Int)) ∧ (∃ m_92 : List Int, m_92 = List.set l_70 (64 * x_46 + (x_72.toNat)) x_84 ∧ cipher_Crypt.L1 l_52 x_54 x_46 Inv_39 g_40 r_60 kL1 m_92 (IntKind.i64.wrap (x_72 + 1)))))))) ∨ (¬ (x_72 < ((chl l_52 64 x_46).length : Int)) ∧ (Inv_39 l_70 (IntKind.u32.wrap (x_54 + 1)) ∧ (l_70, IntKind.u32.wrap (x_54 + 1)) = g_40 x_46 (l_52, x_54))))
def cipher_Crypt.rel (l0 : List Int) (a1 : Int) (l2 : List Int) (l3 : List Int) (r0 : List Int) (r1 : Int) : Prop := (∃ x_13 : Int, x_13 = IntKind.u64.wrap ((IntKind.u64.wrap ((IntKind.u64.wrap (l3.length : Int)) + 64)) - 1) ∧ (∃ x_15 : Int, x_15 = IntKind.u64.wrap ((IntKind.u64.wrap a1) + (IntKind.u64.wrap (Int.tdiv x_13 64))) ∧ ((x_15 > 4294967296 ∧ r0 = [] ∧ r1 = 1) ∨ (¬ (x_15 > 4294967296) ∧ (∃ (r_25 : List Int), slices_Clone_s_byte_byte.rel l3 r_25 ∧ (∃ (q_38 : Nat), (r_25.length ≤ 64 * q_38 ∧ (∀ j : Nat, j < q_38 → 64 * j < r_25.length) ∧ r_25.length ≤ 1099511627776) ∧ ∃ (Inv_39 : (List Int) → Int → Prop) (g_40 : Nat → ((List Int) × Int) → ((List Int) × Int)), Inv_39 r_25 a1 ∧ (∀ (x_46 : Nat) (l_52 : List Int) (x_54 : Int), x_46 < q_38 → Inv_39 l_52 x_54 → l_52.length = r_25.length → (∃ (r_60 : List Int), cipher_Block.rel l0 x_54 l2 r_60 ∧ (∃ k_ : Nat, cipher_Crypt.L1 l_52 x_54 x_46 Inv_39 g_40 r_60 k_ l_52 0))) ∧ ∃ (l_103 : List Int) (x_105 : Int), (l_103, x_105) = (List.range q_38).foldl (fun s_ x_ => g_40 x_ s_) (r_25, a1) ∧ r0 = l_103 ∧ r1 = 0))))))
set_option maxHeartbeats 4000000 in
set_option maxRecDepth 100000 in
theorem cipher_Crypt.calls (w : World) (l0 : List Int) (a1 : Int) (l2 : List Int) (l3 : List Int) (A3 : Option Addr) (n3 : Nat) (c3 : Nat)  (hG1 : Src w (some ⟨1, 0, none⟩) (iv .i64 tab1)) (hl0 : l0.length = 32) (hl2 : l2.length = 12) (hs3 : Src w A3 (iv .u8 l3)) (hn3 : n3 = l3.length) (hc3 : n3 ≤ c3) (r0 : List Int) (r1 : Int) (H : cipher_Crypt.rel l0 a1 l2 l3 r0 r1) :
  Calls Tryd.prog 62 #[.agg (iv .u8 l0).toArray, .int .u32 a1, .agg (iv .u8 l2).toArray, .slice A3 n3 c3] w fun e w' => ∃ B0 q0 z0, z0 = r0.length ∧ e = .returned (.tuple #[.slice B0 z0 q0, .int .i64 r1]) ∧ St w w' [.sl B0 q0 z0 (iv .u8 r0) 5 1] := by
 refine CW.enterM Tryd.func62 rfl (n := 53) rfl [.agg (iv .u8 l0).toArray, .int .u32 a1, .agg (iv .u8 l2).toArray, .slice A3 n3 c3] (Nat.le_of_ble_eq_true rfl) ?_
 refine CW.sub [(0, .agg (iv .u8 l0).toArray), (1, .int .u32 a1), (2, .agg (iv .u8 l2).toArray), (3, .slice A3 n3 c3)] ⟨rfl, rfl, rfl, rfl, trivial⟩ ?_
 have st0 : St w w [] := St.refl w
 refine CW.seq (CW.region ?_)
 refine WL.box st0 rfl rfl ?_
 intro B_1 w_2 st_3
 replace st_3 : St w w_2 [.cells B_1 (iv .u8 l0) 23] := st_3
 refine WL.box st_3 rfl rfl ?_
 intro B_5 w_6 st_7
 replace st_7 : St w w_6 [.cells B_5 [.int .u32 a1] 24, .cells B_1 (iv .u8 l0) 23] := st_7
 refine WL.box st_7 rfl rfl ?_
 intro B_9 w_10 st_11
 replace st_11 : St w w_10 [.cells B_9 (iv .u8 l2) 140, .cells B_5 [.int .u32 a1] 24, .cells B_1 (iv .u8 l0) 23] := st_11
 refine WL.val Wanted.none (Runs.assign rfl) ?_
 refine WL.val Wanted.none (Runs.assign rfl) ?_
 refine WL.nil (QW.then_n ?_)
 refine CW.seq (CW.region ?_)
 refine WL.val Wanted.none (Runs.move rfl) ?_
 refine WL.val Wanted.none (Runs.len_sl Tryd.underlying25 rfl (by rw [hn3])) ?_
 refine WL.val Wanted.none (Runs.conv Tryd.underlying37 ⟨_, Tryd.underlying3⟩ rfl rfl) ?_
 refine WL.val Wanted.none (Runs.add rfl rfl rfl) ?_
 obtain ⟨x_13, e_14, H⟩ := H
 refine WL.val Wanted.none (Runs.sub rfl rfl e_14) ?_
 refine WL.val Wanted.none (Runs.quo rfl rfl (by decide) rfl) ?_
 refine WL.val Wanted.none (Runs.assign rfl) ?_
 refine WL.nil (QW.then_n ?_)
 refine CW.sub [(3, .slice A3 n3 c3), (4, .pointer (some ⟨B_1, 0, none⟩)), (5, .pointer (some ⟨B_5, 0, none⟩)), (6, .pointer (some ⟨B_9, 0, none⟩)), (8, .slice none 0 0), (9, .int .i64 0), (10, .int .u64 (IntKind.u64.wrap (Int.tdiv x_13 64)))] (by repeat' constructor) ?_
 refine CW.seq ?_
 refine CW.seq (CW.region ?_)
 refine WL.val Wanted.none (Runs.load nagg24 rfl (st_11.cell (k := 1) rfl rfl)) ?_
 refine WL.val Wanted.none (Runs.conv Tryd.underlying37 ⟨_, Tryd.underlying24⟩ rfl rfl) ?_
 refine WL.val Wanted.none (Runs.move rfl) ?_
 obtain ⟨x_15, e_16, H⟩ := H
 refine WL.val Wanted.none (Runs.add rfl rfl e_16) ?_
 refine WL.val Wanted.none (Runs.gtr rfl rfl rfl) ?_
 refine WL.nil (QW.then_n ?_)
 rcases H with ⟨c_17, H⟩ | ⟨c_17, H⟩
 ·have h_18 : (decide (x_15 > 4294967296)) = true := (decide_eq_true c_17)
  refine CW.ct rfl h_18 ?_
  refine CW.seq (CW.region ?_)
  refine WL.val Wanted.none (Runs.assign rfl) ?_
  refine WL.val Wanted.none (Runs.assign rfl) ?_
  refine WL.nil (QW.then_n ?_)
  refine CW.sub [(3, .slice A3 n3 c3), (4, .pointer (some ⟨B_1, 0, none⟩)), (5, .pointer (some ⟨B_5, 0, none⟩)), (6, .pointer (some ⟨B_9, 0, none⟩)), (8, .slice none 0 0), (9, .int .i64 1)] (by repeat' constructor) ?_
  refine CW.ret ?_
  refine QW.then_r ?_
  have st_20 := st_11.nil_sl 5 1
  have st_20 : St w w_10 [.sl none 0 0 (iv .u8 ([] : List Int)) 5 1, .cells B_9 (iv .u8 l2) 140, .cells B_5 [.int .u32 a1] 24, .cells B_1 (iv .u8 l0) 23] := st_20
  obtain ⟨rfl, rfl⟩ := H
  exact QW.ret2m rfl rfl rfl ⟨none, 0, 0, rfl, rfl, st_20.pick [0] (by decide)⟩
 ·have h_18 : (decide (x_15 > 4294967296)) = false := (decide_eq_false c_17)
  refine CW.cf rfl h_18 ?_
  refine CW.skip ?_
  refine QW.then_n ?_
  refine CW.sub [(3, .slice A3 n3 c3), (4, .pointer (some ⟨B_1, 0, none⟩)), (5, .pointer (some ⟨B_5, 0, none⟩)), (6, .pointer (some ⟨B_9, 0, none⟩)), (8, .slice none 0 0), (9, .int .i64 0)] (by repeat' constructor) ?_
  refine CW.seq (CW.region ?_)
  refine WL.val Wanted.none (Runs.move rfl) ?_
  obtain ⟨r_25, hr_21, H⟩ := H
  refine WL.call Wanted.none ent48 rfl (slices_Clone_s_byte_byte.calls w_10 l3 A3 n3 c3 (hs3.ext st_11) (hn3) (hc3) r_25 hr_21) ?_
  rintro _ w_22 ⟨A_26, c_27, n_28, hn_29, rfl, sc_24⟩
  have st_23 : St w w_22 [.sl A_26 c_27 n_28 (iv .u8 r_25) 5 1, .cells B_9 (iv .u8 l2) 140, .cells B_5 [.int .u32 a1] 24, .cells B_1 (iv .u8 l0) 23] := st_11.call sc_24
  refine ⟨_, rfl, ?_⟩
  refine WL.val Wanted.none (Runs.assign rfl) ?_
  refine WL.nil (QW.then_n ?_)
  refine CW.seq ?_
  refine CW.seq (CW.region ?_)
  refine WL.val Wanted.none (Runs.move rfl) ?_
  refine WL.call Wanted.none ent72 rfl (slices_Chunk.calls w_22 A_26 n_28 c_27 64 (by decide)) ?_
  rintro _ w_33 ⟨B_31, B_32, rfl, sc_35⟩
  have st_34 : St w w_33 [.cells B_32 [.int .i64 ((64 : Nat) : Int)] 3, .cells B_31 [.slice A_26 n_28 c_27] 25, .sl A_26 c_27 n_28 (iv .u8 r_25) 5 1, .cells B_9 (iv .u8 l2) 140, .cells B_5 [.int .u32 a1] 24, .cells B_1 (iv .u8 l0) 23] := st_23.call sc_35
  refine ⟨_, rfl, ?_⟩
  refine WL.nil (QW.then_n ?_)
  refine CW.block ?_
  obtain ⟨q_38, ⟨h_43, h_44, h_45⟩, Inv_39, g_40, hI_41, hB_42, l_103, x_105, e_100, H⟩ := H
  refine CW.sub [(4, .pointer (some ⟨B_1, 0, none⟩)), (5, .pointer (some ⟨B_5, 0, none⟩)), (6, .pointer (some ⟨B_9, 0, none⟩)), (8, .slice none 0 0), (9, .int .i64 0), (11, .slice A_26 n_28 c_27), (29, .func (.func 81) #[] #[.pointer (some ⟨B_31, 0, none⟩), .pointer (some ⟨B_32, 0, none⟩)])] (by repeat' constructor) ?_
  have hc1 := st_34.cell (k := 1) (i := 0) rfl rfl
  have hc2 := st_34.cell (k := 0) (i := 0) rfl rfl
  refine CW.range2 (α := Fin q_38) (σ := (List Int) × Int) st_34 rfl ent81 (chunk_seq (c := 64) hc1 hc2 (st_34.cap (i := 2) rfl) (by decide) (by decide) (by rw [hn_29]; exact h_45) (by rw [hn_29]; exact h_43) (fun j hj => by rw [hn_29]; exact h_44 j hj)) (fun h k => h.trans k) (fun W j o o2 h1 h2 h3 => KpB.put (block_lt_of_cell hc1) (block_lt_of_cell hc2) W j o o2 h1 h2 h3) (fun pre_ (s_ : (List Int) × Int) => s_ = pre_.foldl (fun s_ x_ => g_40 x_.val s_) (r_25, a1) ∧ Inv_39 (s_.1) (s_.2) ∧ n_28 = (s_.1).length) (fun (s_ : (List Int) × Int) => [.cells B_32 [.int .i64 ((64 : Nat) : Int)] 3, .cells B_31 [.slice A_26 n_28 c_27] 25, .sl A_26 c_27 n_28 (iv .u8 (s_.1)) 5 1, .cells B_9 (iv .u8 l2) 140, .cells B_5 [.int .u32 (s_.2)] 24, .cells B_1 (iv .u8 l0) 23]) (fun _ => rfl) (fun s_ t_ _ h_ => blk_of_map (L1 := (fun (s_ : (List Int) × Int) => [.cells B_32 [.int .i64 ((64 : Nat) : Int)] 3, .cells B_31 [.slice A_26 n_28 c_27] 25, .sl A_26 c_27 n_28 (iv .u8 (s_.1)) 5 1, .cells B_9 (iv .u8 l2) 140, .cells B_5 [.int .u32 (s_.2)] 24, .cells B_1 (iv .u8 l0) 23]) s_) (L2 := (fun (s_ : (List Int) × Int) => [.cells B_32 [.int .i64 ((64 : Nat) : Int)] 3, .cells B_31 [.slice A_26 n_28 c_27] 25, .sl A_26 c_27 n_28 (iv .u8 (s_.1)) 5 1, .cells B_9 (iv .u8 l2) 140, .cells B_5 [.int .u32 (s_.2)] 24, .cells B_1 (iv .u8 l0) 23]) t_) rfl h_) (fun _ _ _ _ sa sb => ⟨(sb.cell (k := 1) rfl rfl).trans (sa.cell (k := 1) rfl rfl).symm, (sb.cell (k := 0) rfl rfl).trans (sa.cell (k := 0) rfl rfl).symm⟩) (r_25, a1) ⟨rfl, hI_41, hn_29⟩ rfl ?_ rfl ?_
  ·rintro j_ pre_ x_46 ⟨l_52, x_54⟩ w_49 T_51 ⟨hs_47, hI_48, hn_53⟩ st_50
   replace st_50 : St w w_49 (.cells B_32 [.int .i64 ((64 : Nat) : Int)] 3 :: .cells B_31 [.slice A_26 n_28 c_27] 25 :: .sl A_26 c_27 n_28 (iv .u8 l_52) 5 1 :: .cells B_9 (iv .u8 l2) 140 :: .cells B_5 [.int .u32 x_54] 24 :: .cells B_1 (iv .u8 l0) 23 :: T_51) := st_50
   have hx_55 : 64 * x_46.val < n_28 := by have := h_44 x_46.val x_46.isLt; have := hn_29; omega
   have H := hB_42 x_46.val l_52 x_54 x_46.isLt hI_48 (hn_53.symm.trans hn_29)
   refine CF.block ?_
   refine CF.seq ?_
   refine CF.region (.inr ⟨j_, rfl⟩) (fun ⟨a, w, h⟩ => h) rfl ?_
   refine WL.val Wanted.none (Runs.load_arr arr23 rfl (st_50.blk (i := 5) rfl) hl0) ?_
   refine WL.val Wanted.none (Runs.load nagg24 rfl (st_50.cell (k := 4) rfl rfl)) ?_
   refine WL.val Wanted.none (Runs.load_arr arr140 rfl (st_50.blk (i := 3) rfl) hl2) ?_
   obtain ⟨r_60, hr_56, H⟩ := H
   refine WL.call Wanted.none ent78 rfl (cipher_Block.calls w_49 l0 x_54 l2 (hG1.ext st_50) hl0 hl2 r_60 hr_56) ?_
   rintro _ w_57 ⟨hl_61, rfl, sc_59⟩
   have st_58 : St w w_57 (.cells B_32 [.int .i64 ((64 : Nat) : Int)] 3 :: .cells B_31 [.slice A_26 n_28 c_27] 25 :: .sl A_26 c_27 n_28 (iv .u8 l_52) 5 1 :: .cells B_9 (iv .u8 l2) 140 :: .cells B_5 [.int .u32 x_54] 24 :: .cells B_1 (iv .u8 l0) 23 :: T_51) := st_50.call sc_59
   refine ⟨_, rfl, ?_⟩
   refine WL.alloc st_58 arr158.zero ?_
   intro B_62 w_63 st_64
   replace st_64 : St w w_63 (.cells B_62 (iv .u8 (List.replicate 64 (0 : Int))) 158 :: .cells B_32 [.int .i64 ((64 : Nat) : Int)] 3 :: .cells B_31 [.slice A_26 n_28 c_27] 25 :: .sl A_26 c_27 n_28 (iv .u8 l_52) 5 1 :: .cells B_9 (iv .u8 l2) 140 :: .cells B_5 [.int .u32 x_54] 24 :: .cells B_1 (iv .u8 l0) 23 :: T_51) := st_64
   refine WL.store_arr (i := 0) st_64 rfl arr158 rfl (by rw [iv_length]; exact (List.length_replicate ..)) hl_61 rfl ?_
   intro w_66 st_67
   replace st_67 : St w w_66 (.cells B_62 (iv .u8 r_60) 158 :: .cells B_32 [.int .i64 ((64 : Nat) : Int)] 3 :: .cells B_31 [.slice A_26 n_28 c_27] 25 :: .sl A_26 c_27 n_28 (iv .u8 l_52) 5 1 :: .cells B_9 (iv .u8 l2) 140 :: .cells B_5 [.int .u32 x_54] 24 :: .cells B_1 (iv .u8 l0) 23 :: T_51) := st_67
   refine WL.nil ?_
   refine QW.fthen_n ?_
   refine CF.seq ?_
   refine CF.seq ?_
   refine CF.region (.inr ⟨j_, rfl⟩) (fun ⟨a, w, h⟩ => h) rfl ?_
   refine WL.val Wanted.none (Runs.move rfl) ?_
   refine WL.val Wanted.none (Runs.len_sl Tryd.underlying25 rfl (by rw [show (min 64 (n_28 - 64 * x_46.val)) = (chl l_52 64 x_46.val).length from (show (min 64 (n_28 - 64 * x_46.val)) = (chl l_52 64 x_46.val).length from (by rw [hn_53]; exact chl_length _ _ _))])) ?_
   refine WL.val Wanted.none (Runs.move rfl) ?_
   refine WL.nil ?_
   refine QW.fthen_n ?_
   refine CF.block ?_
   obtain ⟨k_69, H⟩ := H
   refine CF.sub [(4, .pointer (some ⟨B_1, 0, none⟩)), (5, .pointer (some ⟨B_5, 0, none⟩)), (6, .pointer (some ⟨B_9, 0, none⟩)), (8, .slice none 0 0), (9, .int .i64 0), (11, .slice A_26 n_28 c_27), (12, .slice (A_26.map (·.add (64 * x_46.val))) (min 64 (n_28 - 64 * x_46.val)) (min 64 (n_28 - 64 * x_46.val))), (31, .agg (iv .u8 l0).toArray), (32, .int .u32 x_54), (33, .agg (iv .u8 l2).toArray), (34, .agg (iv .u8 r_60).toArray), (13, .pointer (some ⟨B_62, 0, none⟩)), (35, .slice (A_26.map (·.add (64 * x_46.val))) (min 64 (n_28 - 64 * x_46.val)) (min 64 (n_28 - 64 * x_46.val))), (36, .int .i64 ((chl l_52 64 x_46.val).length : Int)), (37, .int .i64 0)] (by repeat' constructor) ?_
   refine CF.loop (fun kL1 l_ w_ => ∃ (l_70 : List Int) (x_72 : Int), l_ = [(4, .pointer (some ⟨B_1, 0, none⟩)), (5, .pointer (some ⟨B_5, 0, none⟩)), (6, .pointer (some ⟨B_9, 0, none⟩)), (8, .slice none 0 0), (9, .int .i64 0), (11, .slice A_26 n_28 c_27), (12, .slice (A_26.map (·.add (64 * x_46.val))) (min 64 (n_28 - 64 * x_46.val)) (min 64 (n_28 - 64 * x_46.val))), (31, .agg (iv .u8 l0).toArray), (32, .int .u32 x_54), (33, .agg (iv .u8 l2).toArray), (34, .agg (iv .u8 r_60).toArray), (13, .pointer (some ⟨B_62, 0, none⟩)), (35, .slice (A_26.map (·.add (64 * x_46.val))) (min 64 (n_28 - 64 * x_46.val)) (min 64 (n_28 - 64 * x_46.val))), (36, .int .i64 ((chl l_52 64 x_46.val).length : Int)), (37, .int .i64 x_72)] ∧ cipher_Crypt.L1 l_52 x_54 x_46 Inv_39 g_40 r_60 kL1 l_70 x_72 ∧ (n_28 = l_70.length) ∧ St w w_ (.cells B_62 (iv .u8 r_60) 158 :: .cells B_32 [.int .i64 ((64 : Nat) : Int)] 3 :: .cells B_31 [.slice A_26 n_28 c_27] 25 :: .sl A_26 c_27 n_28 (iv .u8 l_70) 5 1 :: .cells B_9 (iv .u8 l2) 140 :: .cells B_5 [.int .u32 x_54] 24 :: .cells B_1 (iv .u8 l0) 23 :: T_51)) (k := k_69) ⟨l_52, 0, rfl, H, hn_53, st_67⟩ (fun _ _ h => by obtain ⟨_, _, _, h, _⟩ := h; exact h.elim) ?_
   rintro kL1 l_75 w_73 ⟨l_70, x_72, rfl, H, hn_71, st_74⟩
   refine CF.seq ?_
   refine CF.region (.inr ⟨j_, rfl⟩) (fun ⟨a, w, h⟩ => h) rfl ?_
   refine WL.val Wanted.none (Runs.lss rfl rfl rfl) ?_
   refine WL.nil ?_
   refine QW.fthen_n ?_
   refine CF.seq ?_
   rcases H with ⟨c_76, H⟩ | ⟨c_76, H⟩
   ·have h_77 : (decide (x_72 < ((chl l_52 64 x_46.val).length : Int))) = true := (decide_eq_true c_76)
    refine CF.ct rfl h_77 ?_
    refine CF.skip ?_
    refine QW.fthen_n ?_
    refine CF.seq ?_
    refine CF.block ?_
    refine CF.seq ?_
    refine CF.region (.inr ⟨j_, rfl⟩) (fun ⟨a, w, h⟩ => h) rfl ?_
    refine WL.val Wanted.none (Runs.move rfl) ?_
    refine WL.val Wanted.none (Runs.assign rfl) ?_
    refine WL.nil ?_
    refine QW.fthen_n ?_
    refine CF.region_qt 9 (.inr ⟨j_, rfl⟩) (fun ⟨a, w, h⟩ => h) rfl wide (by kernel_rfl) st_74 ?_
    refine HL.val Wanted.none (fun wq sq => (Runs.move rfl)) ?_
    refine HL.val Wanted.none (fun wq sq => (Runs.move rfl)) ?_
    obtain ⟨⟨p_78, q_79⟩, H⟩ := H
    obtain ⟨a_80, e_81⟩ := ((st_74.src_sl (k := 3) rfl).chunk 64 x_46.val).addr_iv (x_72.toNat) (by omega)
    refine HL.val Wanted.none (fun wq sq => (Runs.indexAddr Tryd.underlying25 cells5 (by decide) rfl e_81 rfl p_78 (by rw [(show (min 64 (n_28 - 64 * x_46.val)) = (chl l_70 64 x_46.val).length from (by rw [hn_71]; exact chl_length _ _ _))]; exact q_79) (o := (x_72).toNat) (by first | rfl | omega))) ?_
    refine HL.val Wanted.none (fun wq sq => (Runs.load nagg5 rfl (((sq.src_sl (k := 3) rfl).chunk 64 x_46.val).cell_iv e_81 (by omega)))) ?_
    refine HL.val Wanted.none (fun wq sq => (Runs.move rfl)) ?_
    obtain ⟨⟨p_82, q_83⟩, H⟩ := H
    refine HL.val Wanted.none (fun wq sq => (Runs.indexAddr_blk arr158 rfl rfl p_82 q_83 (o := (x_72).toNat) (by first | rfl | omega))) ?_
    refine HL.val Wanted.none (fun wq sq => (Runs.load nagg5 rfl (sq.cell_iv (i := 0) rfl (by have := hl_61; omega)))) ?_
    obtain ⟨x_84, e_85, H⟩ := H
    refine HL.val Wanted.none (fun wq sq => (Runs.bxor rfl rfl e_85)) ?_
    obtain ⟨⟨p_86, q_87⟩, H⟩ := H
    obtain ⟨a_88, e_89⟩ := ((st_74.src_sl (k := 3) rfl).chunk 64 x_46.val).addr_iv (x_72.toNat) (by omega)
    refine HL.val Wanted.none (fun wq sq => (Runs.indexAddr Tryd.underlying25 cells5 (by decide) rfl e_89 rfl p_86 (by rw [(show (min 64 (n_28 - 64 * x_46.val)) = (chl l_70 64 x_46.val).length from (by rw [hn_71]; exact chl_length _ _ _))]; exact q_87) (o := (x_72).toNat) (by first | rfl | omega))) ?_
    refine HL.nil (fun w_90 st_91 => ?_)
    obtain ⟨m_92, e_93, H⟩ := H
    have hj_ : (x_72).toNat < (min 64 (n_28 - 64 * x_46.val)) := by have := (show (min 64 (n_28 - 64 * x_46.val)) = (chl l_70 64 x_46.val).length from (by rw [hn_71]; exact chl_length _ _ _)); omega
    refine WL.store_sub (i := 3) (o := 64 * x_46.val) (N := (min 64 (n_28 - 64 * x_46.val))) st_91 rfl cells5 rfl e_89 (fun _ => rfl) hj_ (by rw [iv_length]; have := hn_71; have := hx_55; omega) rfl rfl ?_
    intro w_94 st_95
    have hn_96 : n_28 = m_92.length := by rw [e_93, List.length_set]; exact hn_71
    have st_95' : St w w_94 (.cells B_62 (iv .u8 r_60) 158 :: .cells B_32 [.int .i64 ((64 : Nat) : Int)] 3 :: .cells B_31 [.slice A_26 n_28 c_27] 25 :: .sl A_26 c_27 n_28 (iv .u8 m_92) 5 1 :: .cells B_9 (iv .u8 l2) 140 :: .cells B_5 [.int .u32 x_54] 24 :: .cells B_1 (iv .u8 l0) 23 :: T_51) := by rw [e_93, ← iv_set .u8 l_70 (64 * x_46.val + (x_72.toNat)) x_84]; exact st_95
    refine WL.nil ?_
    refine QW.blk_n ?_
    refine QW.fthen_n ?_
    refine CF.region (.inr ⟨j_, rfl⟩) (fun ⟨a, w, h⟩ => h) rfl ?_
    refine WL.val Wanted.none (Runs.add rfl rfl rfl) ?_
    refine WL.val Wanted.none (Runs.move rfl) ?_
    refine WL.nil ?_
    exact QW.at _ (by repeat' constructor) ⟨m_92, IntKind.i64.wrap (x_72 + 1), rfl, H, hn_96, st_95'⟩
   ·have h_77 : (decide (x_72 < ((chl l_52 64 x_46.val).length : Int))) = false := (decide_eq_false c_76)
    refine CF.cf rfl h_77 ?_
    refine CF.exit ?_
    refine QW.then_x ?_
    refine QW.then_x ?_
    refine QW.blk_x ?_
    refine QW.fthen_n ?_
    refine CF.region (.inr ⟨j_, rfl⟩) (fun ⟨a, w, h⟩ => h) rfl ?_
    refine WL.val Wanted.none (Runs.load nagg24 rfl (st_74.cell (k := 5) rfl rfl)) ?_
    refine WL.val Wanted.none (Runs.add rfl rfl rfl) ?_
    refine WL.store_cells (i := 5) (j := 0) st_74 rfl cells24 rfl (Nat.zero_lt_succ _) rfl rfl ?_
    intro w_97 st_98
    replace st_98 : St w w_97 (.cells B_62 (iv .u8 r_60) 158 :: .cells B_32 [.int .i64 ((64 : Nat) : Int)] 3 :: .cells B_31 [.slice A_26 n_28 c_27] 25 :: .sl A_26 c_27 n_28 (iv .u8 l_70) 5 1 :: .cells B_9 (iv .u8 l2) 140 :: .cells B_5 [.int .u32 (IntKind.u32.wrap (x_54 + 1))] 24 :: .cells B_1 (iv .u8 l0) 23 :: T_51) := st_98
    refine WL.nil ?_
    refine QW.blk_n ?_
    obtain ⟨hI1, hg1⟩ := H
    have st_98' := (St.pickT (L := [_, _, _, _, _, _, _]) st_98 [1, 2, 3, 4, 5, 6] (by decide))
    exact fun b hb hd => ⟨(l_70, IntKind.u32.wrap (x_54 + 1)), ⟨by rw [List.foldl_append, ← hs_47]; exact hg1, hI1, hn_71⟩, st_98'⟩
  ·rintro D_99 ⟨z_0, z_1⟩ w_101 ⟨rfl_, _, hn_104⟩ st_102
   rw [foldl_fin, ← e_100] at rfl_
   simp only [Prod.mk.injEq] at rfl_
   obtain ⟨e_0, e_1⟩ := rfl_
   replace e_0 := e_0.symm
   subst e_0
   replace e_1 := e_1.symm
   subst e_1
   have st_102 : St w w_101 [.obj D_99 (.deferred (some [])), .cells B_32 [.int .i64 ((64 : Nat) : Int)] 3, .cells B_31 [.slice A_26 n_28 c_27] 25, .sl A_26 c_27 n_28 (iv .u8 l_103) 5 1, .cells B_9 (iv .u8 l2) 140, .cells B_5 [.int .u32 x_105] 24, .cells B_1 (iv .u8 l0) 23] := st_102
   refine QW.blk_n ?_
   refine QW.then_n ?_
   refine CW.seq (CW.region ?_)
   refine WL.val Wanted.none (Runs.move rfl) ?_
   refine WL.val Wanted.none (Runs.assign rfl) ?_
   refine WL.val Wanted.none (Runs.assign rfl) ?_
   refine WL.nil (QW.then_n ?_)
   refine CW.sub [(8, .slice A_26 n_28 c_27), (9, .int .i64 0)] ⟨rfl, rfl, trivial⟩ ?_
   refine CW.ret ?_
   obtain ⟨rfl, rfl⟩ := H
   refine QW.retM2 st_102 (i := 0) rfl rfl rfl rfl (fun wz stz => ?_)
   exact ⟨A_26, c_27, n_28, hn_104, rfl, stz.pick [3] (by decide)⟩

/-! ### seal_Seal: function 41 -/
def seal_Seal.rel (l0 : List Int) (a1 : Int) (a2 : Int) (l3 : List Int) (r0 : List Int) (r1 : Int) : Prop := (∃ (r_9 : Bool), seal_size.rel (l3.length : Int) r_9 ∧ ((¬ (r_9 = true) ∧ r0 = [] ∧ r1 = 1) ∨ (¬ (¬ (r_9 = true)) ∧ ((a2 = 0 ∧ r0 = [] ∧ r1 = 1) ∨ (¬ (a2 = 0) ∧ ((a2 = 18446744073709551615 ∧ r0 = [] ∧ r1 = 15) ∨ (¬ (a2 = 18446744073709551615) ∧ (∃ (r_28 : List Int), cipher_Nonce.rel a1 a2 r_28 ∧ (∃ (r_34 : List Int) (r_40 : Int), cipher_Crypt.rel l0 0 r_28 l3 r_34 r_40 ∧ ((r_40 ≠ 0 ∧ r0 = [] ∧ r1 = r_40) ∨ (¬ (r_40 ≠ 0) ∧ (∃ (r_49 : List Int), word_Put.rel a2 8 r_49 ∧ (∃ (l_80 : List Int), slices_Concat_s_byte_byte.rel ([r_49, r_34] : List R25) l_80 ∧ (∃ (r_90 : List Int), word_Pad.rel l_80 192 r_90 ∧ r0 = r_90 ∧ r1 = 0))))))))))))))
set_option maxHeartbeats 4000000 in
set_option maxRecDepth 100000 in
theorem seal_Seal.calls (w : World) (l0 : List Int) (a1 : Int) (a2 : Int) (l3 : List Int) (A3 : Option Addr) (n3 : Nat) (c3 : Nat)  (hG1 : Src w (some ⟨1, 0, none⟩) (iv .i64 tab1)) (hl0 : l0.length = 32) (hs3 : Src w A3 (iv .u8 l3)) (hn3 : n3 = l3.length) (hc3 : n3 ≤ c3) (r0 : List Int) (r1 : Int) (H : seal_Seal.rel l0 a1 a2 l3 r0 r1) :
  Calls Tryd.prog 41 #[.agg (iv .u8 l0).toArray, .int .u32 a1, .int .u64 a2, .slice A3 n3 c3] w fun e w' => ∃ B0 q0 z0, z0 = r0.length ∧ e = .returned (.tuple #[.slice B0 z0 q0, .int .i64 r1]) ∧ St w w' [.sl B0 q0 z0 (iv .u8 r0) 5 1] := by
 refine CW.enter Tryd.func41 rfl (n := 42) rfl [.agg (iv .u8 l0).toArray, .int .u32 a1, .int .u64 a2, .slice A3 n3 c3] (Nat.le_of_ble_eq_true rfl) ?_
 refine CW.sub [(0, .agg (iv .u8 l0).toArray), (1, .int .u32 a1), (2, .int .u64 a2), (3, .slice A3 n3 c3)] ⟨rfl, rfl, rfl, rfl, trivial⟩ ?_
 obtain ⟨T, R, hT, hR, st0⟩ := St.start w
 refine CW.seq (CW.region ?_)
 refine WL.box st0 rfl rfl ?_
 intro B_1 w_2 st_3
 replace st_3 : St w w_2 (.cells B_1 (iv .u8 l0) 23 :: (T ++ R)) := st_3
 refine WL.val Wanted.none (Runs.assign rfl) ?_
 refine WL.val Wanted.none (Runs.assign rfl) ?_
 refine WL.nil (QW.then_n ?_)
 refine CW.seq ?_
 refine CW.block ?_
 refine CW.seq (CW.region ?_)
 refine WL.val Wanted.none (Runs.move rfl) ?_
 refine WL.val Wanted.none (Runs.len_sl Tryd.underlying25 rfl (by rw [hn3])) ?_
 obtain ⟨r_9, hr_5, H⟩ := H
 refine WL.call Wanted.none ent61 rfl (seal_size.calls w_2 (l3.length : Int) r_9 hr_5) ?_
 rintro _ w_6 ⟨rfl, sc_8⟩
 have st_7 : St w w_6 (.cells B_1 (iv .u8 l0) 23 :: (T ++ R)) := st_3.call sc_8
 refine ⟨_, rfl, ?_⟩
 refine WL.val Wanted.none (Runs.not rfl rfl) ?_
 refine WL.val Wanted.none (Runs.move rfl) ?_
 rcases H with ⟨c_10, H⟩ | ⟨c_10, H⟩
 ·have h_11 : (!r_9) = true := (not_t (Bool.eq_false_iff.mpr c_10))
  refine WL.off ?_ ?_; exact Wanted.guard (dj := 17) (by rfl) (evb (by rfl) h_11) (by rfl)
  refine WL.off ?_ ?_; exact Wanted.guard (dj := 17) (by rfl) (evb (by rfl) h_11) (by rfl)
  refine WL.val Wanted.none (Runs.pick_t (evb rfl h_11) rfl) ?_
  refine WL.val Wanted.none (Runs.assign rfl) ?_
  refine WL.nil (QW.then_n ?_)
  refine CW.sub [(1, .int .u32 a1), (2, .int .u64 a2), (3, .slice A3 n3 c3), (4, .pointer (some ⟨B_1, 0, none⟩)), (8, .slice none 0 0), (9, .int .i64 0), (12, .bool true)] (by repeat' constructor) ?_
  refine CW.ct rfl rfl ?_
  refine CW.seq (CW.region ?_)
  refine WL.val Wanted.none (Runs.assign rfl) ?_
  refine WL.val Wanted.none (Runs.assign rfl) ?_
  refine WL.nil (QW.then_n ?_)
  refine CW.ret ?_
  refine QW.blk_r ?_
  refine QW.then_r ?_
  have st_13 := st_7.nil_sl 5 1
  have st_13 : St w w_6 (.sl none 0 0 (iv .u8 ([] : List Int)) 5 1 :: .cells B_1 (iv .u8 l0) 23 :: (T ++ R)) := st_13
  obtain ⟨rfl, rfl⟩ := H
  exact QW.ret2 rfl rfl rfl ⟨none, 0, 0, rfl, rfl, (St.front (A := [_]) (St.pickT (L := [_, _]) st_13 [0] (by decide)))⟩
 ·have h_11 : (!r_9) = false := (not_f (Decidable.not_not.mp c_10))
  refine WL.on ?_ ?_; exact Wanted.guard (dj := 17) (by rfl) (evb (by rfl) h_11) (by rfl)
  refine WL.val Wanted.none (Runs.move rfl) ?_
  refine WL.on ?_ ?_; exact Wanted.guard (dj := 17) (by rfl) (evb (by rfl) h_11) (by rfl)
  refine WL.val Wanted.none (Runs.eql rfl rfl rfl) ?_
  refine WL.val Wanted.none (Runs.pick_f (evb rfl h_11) rfl) ?_
  refine WL.val Wanted.none (Runs.assign rfl) ?_
  refine WL.nil (QW.then_n ?_)
  refine CW.sub [(1, .int .u32 a1), (2, .int .u64 a2), (3, .slice A3 n3 c3), (4, .pointer (some ⟨B_1, 0, none⟩)), (8, .slice none 0 0), (9, .int .i64 0), (12, .bool (a2 == 0))] (by repeat' constructor) ?_
  rcases H with ⟨c_14, H⟩ | ⟨c_14, H⟩
  ·have h_15 : (a2 == 0) = true := (beq_iff_eq.mpr c_14)
   refine CW.ct rfl h_15 ?_
   refine CW.seq (CW.region ?_)
   refine WL.val Wanted.none (Runs.assign rfl) ?_
   refine WL.val Wanted.none (Runs.assign rfl) ?_
   refine WL.nil (QW.then_n ?_)
   refine CW.ret ?_
   refine QW.blk_r ?_
   refine QW.then_r ?_
   have st_17 := st_7.nil_sl 5 1
   have st_17 : St w w_6 (.sl none 0 0 (iv .u8 ([] : List Int)) 5 1 :: .cells B_1 (iv .u8 l0) 23 :: (T ++ R)) := st_17
   obtain ⟨rfl, rfl⟩ := H
   exact QW.ret2 rfl rfl rfl ⟨none, 0, 0, rfl, rfl, (St.front (A := [_]) (St.pickT (L := [_, _]) st_17 [0] (by decide)))⟩
  ·have h_15 : (a2 == 0) = false := (beq_eq_false_iff_ne.mpr c_14)
   refine CW.cf rfl h_15 ?_
   refine CW.seq (CW.region ?_)
   refine WL.val Wanted.none (Runs.move rfl) ?_
   refine WL.val Wanted.none (Runs.eql rfl rfl rfl) ?_
   refine WL.val Wanted.none (Runs.assign rfl) ?_
   refine WL.nil (QW.then_n ?_)
   rcases H with ⟨c_18, H⟩ | ⟨c_18, H⟩
   ·have h_19 : (a2 == 18446744073709551615) = true := (beq_iff_eq.mpr c_18)
    refine CW.ct rfl h_19 ?_
    refine CW.seq (CW.region ?_)
    refine WL.val Wanted.none (Runs.assign rfl) ?_
    refine WL.val Wanted.none (Runs.assign rfl) ?_
    refine WL.nil (QW.then_n ?_)
    refine CW.ret ?_
    refine QW.blk_r ?_
    refine QW.then_r ?_
    have st_21 := st_7.nil_sl 5 1
    have st_21 : St w w_6 (.sl none 0 0 (iv .u8 ([] : List Int)) 5 1 :: .cells B_1 (iv .u8 l0) 23 :: (T ++ R)) := st_21
    obtain ⟨rfl, rfl⟩ := H
    exact QW.ret2 rfl rfl rfl ⟨none, 0, 0, rfl, rfl, (St.front (A := [_]) (St.pickT (L := [_, _]) st_21 [0] (by decide)))⟩
   ·have h_19 : (a2 == 18446744073709551615) = false := (beq_eq_false_iff_ne.mpr c_18)
    refine CW.cf rfl h_19 ?_
    refine CW.skip ?_
    refine QW.blk_n ?_
    refine QW.then_n ?_
    refine CW.seq ?_
    refine CW.region_awh (C := fun w_ => St w w_ (.cells B_1 (iv .u8 l0) 23 :: (T ++ R))) 10 wide (by kernel_rfl) st_7 (fun w_22 st_23 => ?_)
    refine AWH.take 0 rfl (by decide) (by kernel_rfl) (by kernel_rfl) st_23 Wanted.none (fun wq sq => (Runs.load_arr arr23 rfl (sq.blk (i := 0) rfl) hl0)) ?_
    refine AWH.take 1 rfl (by decide) (by kernel_rfl) (by kernel_rfl) st_23 Wanted.none (fun wq sq => (Runs.move rfl)) ?_
    refine AWH.take 2 rfl (by decide) (by kernel_rfl) (by kernel_rfl) st_23 Wanted.none (fun wq sq => (Runs.move rfl)) ?_
    refine AWH.take 4 rfl (by decide) (by kernel_rfl) (by kernel_rfl) st_23 Wanted.none (fun wq sq => (Runs.move rfl)) ?_
    refine AWH.step 3 rfl (by decide) (by kernel_rfl) (fun inv_ hs_ hk_ hc_ hn_ => ?_)
    obtain ⟨r_28, hr_24, H⟩ := H
    refine WL.call Wanted.none ent63 rfl (cipher_Nonce.calls w_22 a1 a2 r_28 hr_24) ?_
    rintro _ w_25 ⟨hl_29, rfl, sc_27⟩
    have st_26 : St w w_25 (.cells B_1 (iv .u8 l0) 23 :: (T ++ R)) := st_23.call sc_27
    refine ⟨_, rfl, ?_⟩
    refine WL.nil ?_
    refine AWH.back st_26 inv_ hs_ hk_ hc_ hn_ ?_
    refine AWH.step 5 rfl (by decide) (by kernel_rfl) (fun inv_ hs_ hk_ hc_ hn_ => ?_)
    obtain ⟨r_34, r_40, hr_30, H⟩ := H
    refine WL.call Wanted.none ent62 rfl (cipher_Crypt.calls w_25 l0 0 r_28 l3 A3 n3 c3 (hG1.ext st_26) hl0 hl_29 (hs3.ext st_26) (hn3) (hc3) r_34 r_40 hr_30) ?_
    rintro _ w_31 ⟨A_35, c_36, n_37, hn_38, rfl, sc_33⟩
    have st_32 : St w w_31 (.sl A_35 c_36 n_37 (iv .u8 r_34) 5 1 :: .cells B_1 (iv .u8 l0) 23 :: (T ++ R)) := st_26.call sc_33
    refine ⟨_, rfl, ?_⟩
    refine WL.nil ?_
    refine AWH.back (St.subset st_23 st_32 (List.forall_mem_cons.2 ⟨List.mem_of_getElem? (i := 1) rfl, (mem_TR (A := [_, _]) (fun _ h_ => h_))⟩)) inv_ hs_ hk_ hc_ hn_ ?_
    refine AWH.take 6 rfl (by decide) (by kernel_rfl) (by kernel_rfl) (St.subset st_23 st_32 (List.forall_mem_cons.2 ⟨List.mem_of_getElem? (i := 1) rfl, (mem_TR (A := [_, _]) (fun _ h_ => h_))⟩)) Wanted.none (fun wq sq => (Runs.move rfl)) ?_
    refine AWH.take 7 rfl (by decide) (by kernel_rfl) (by kernel_rfl) (St.subset st_23 st_32 (List.forall_mem_cons.2 ⟨List.mem_of_getElem? (i := 1) rfl, (mem_TR (A := [_, _]) (fun _ h_ => h_))⟩)) Wanted.none (fun wq sq => (Runs.extract rfl rfl)) ?_
    refine AWH.take 8 rfl (by decide) (by kernel_rfl) (by kernel_rfl) (St.subset st_23 st_32 (List.forall_mem_cons.2 ⟨List.mem_of_getElem? (i := 1) rfl, (mem_TR (A := [_, _]) (fun _ h_ => h_))⟩)) Wanted.none (fun wq sq => (Runs.extract rfl rfl)) ?_
    refine AWH.take 9 rfl (by decide) (by kernel_rfl) (by kernel_rfl) (St.subset st_23 st_32 (List.forall_mem_cons.2 ⟨List.mem_of_getElem? (i := 1) rfl, (mem_TR (A := [_, _]) (fun _ h_ => h_))⟩)) Wanted.none (fun wq sq => (Runs.assign rfl)) ?_
    refine AWH.tail (by kernel_rfl) ?_
    refine AW.take 10 rfl (by kernel_rfl) (by kernel_rfl) (by kernel_rfl) Wanted.none (fun _ => (Runs.assign rfl)) ?_
    refine AW.done (by kernel_rfl) ?_
    refine QW.then_n ?_
    refine CW.sub [(2, .int .u64 a2), (8, .slice none 0 0), (9, .int .i64 0), (10, .slice A_35 n_37 c_36), (11, .int .i64 r_40)] ⟨rfl, rfl, rfl, rfl, rfl, trivial⟩ ?_
    refine CW.seq ?_
    refine CW.seq (CW.region ?_)
    refine WL.val Wanted.none (Runs.move rfl) ?_
    refine WL.val Wanted.none (Runs.neq rfl rfl rfl) ?_
    refine WL.nil (QW.then_n ?_)
    rcases H with ⟨c_41, H⟩ | ⟨c_41, H⟩
    ·have h_42 : (r_40 != 0) = true := (bne_iff_ne.mpr c_41)
     refine CW.ct rfl h_42 ?_
     refine CW.seq (CW.region ?_)
     refine WL.val Wanted.none (Runs.move rfl) ?_
     refine WL.val Wanted.none (Runs.assign rfl) ?_
     refine WL.val Wanted.none (Runs.assign rfl) ?_
     refine WL.nil (QW.then_n ?_)
     refine CW.ret ?_
     refine QW.then_r ?_
     have st_44 := st_32.nil_sl 5 1
     have st_44 : St w w_31 (.sl none 0 0 (iv .u8 ([] : List Int)) 5 1 :: .sl A_35 c_36 n_37 (iv .u8 r_34) 5 1 :: .cells B_1 (iv .u8 l0) 23 :: (T ++ R)) := st_44
     obtain ⟨rfl, rfl⟩ := H
     exact QW.ret2 rfl rfl rfl ⟨none, 0, 0, rfl, rfl, (St.front (A := [_]) (St.pickT (L := [_, _, _]) st_44 [0] (by decide)))⟩
    ·have h_42 : (r_40 != 0) = false := (bne_eq_false_iff_eq.mpr (Decidable.not_not.mp c_41))
     refine CW.cf rfl h_42 ?_
     refine CW.skip ?_
     refine QW.then_n ?_
     refine CW.seq (CW.region ?_)
     refine WL.val Wanted.none (Runs.move rfl) ?_
     obtain ⟨r_49, hr_45, H⟩ := H
     refine WL.call Wanted.none ent32 rfl (word_Put.calls w_31 a2 8 r_49 hr_45) ?_
     rintro _ w_46 ⟨A_50, c_51, n_52, hn_53, rfl, sc_48⟩
     have st_47 : St w w_46 (.sl A_50 c_51 n_52 (iv .u8 r_49) 5 1 :: .sl A_35 c_36 n_37 (iv .u8 r_34) 5 1 :: .cells B_1 (iv .u8 l0) 23 :: (T ++ R)) := st_32.call sc_48
     refine ⟨_, rfl, ?_⟩
     refine WL.val Wanted.none (Runs.move rfl) ?_
     have hb_59c := st_47.cap (i := 0) rfl
     obtain ⟨T_55, hs_56, hm_57, st_58⟩ := St.freeze (A := []) (B := [_, _]) (T := T) (R := R) st_47
     have hb_59 : HB w T_55 A_50 n_52 c_51 (iv .u8 r_49) r_49.length := ⟨hn_53, hb_59c, Hd.of_sl hm_57⟩
     replace st_58 : St w w_46 (.sl A_35 c_36 n_37 (iv .u8 r_34) 5 1 :: .cells B_1 (iv .u8 l0) 23 :: (T_55 ++ R)) := st_58
     have hb_64c := st_58.cap (i := 0) rfl
     obtain ⟨T_60, hs_61, hm_62, st_63⟩ := St.freeze (A := []) (B := [_]) (T := T_55) (R := R) st_58
     have hb_64 : HB w T_60 A_35 n_37 c_36 (iv .u8 r_34) r_34.length := ⟨hn_38, hb_64c, Hd.of_sl hm_62⟩
     replace st_63 : St w w_46 (.cells B_1 (iv .u8 l0) 23 :: (T_60 ++ R)) := st_63
     refine WL.buildSl [.slice A_50 n_52 c_51, .slice A_35 n_37 c_36] st_63 Tryd.underlying76 elem25 rfl rfl (by decide) (by decide) (by simp [Value.cells]) ?_
     intro B_65 w_66 st_67
     replace st_67 : St w w_66 (.sl (some ⟨B_65, 0, none⟩) 2 2 [.slice A_50 n_52 c_51, .slice A_35 n_37 c_36] 25 1 :: .cells B_1 (iv .u8 l0) 23 :: (T_60 ++ R)) := st_67
     obtain ⟨x_69, e_70⟩ : ∃ x_ : Cs, x_ = [.slice A_50 n_52 c_51, .slice A_35 n_37 c_36] := ⟨_, rfl⟩
     have hx_71 : HRs T_60 (f25 w) x_69 ([r_49, r_34] : List R25) := by rw [e_70]; exact (HRs.cons (ms := ([.slice A_50 n_52 c_51] : Cs)) (.cons ⟨_, _, _, rfl, (hb_59.mono (fun _ h_ => hs_61.1 _ h_))⟩ .nil) (HRs.one (.cons ⟨_, _, _, rfl, hb_64⟩ .nil)))
     replace st_67 : St w w_66 (.sl (some ⟨B_65, 0, none⟩) 2 2 x_69 25 1 :: .cells B_1 (iv .u8 l0) 23 :: (T_60 ++ R)) := by rw [e_70]; exact st_67
     have st_72 : St w w_66 ((T_60 ++ (.sl (some ⟨B_65, 0, none⟩) 2 2 x_69 25 1 :: .cells B_1 (iv .u8 l0) 23 :: R))) := St.hide (A := []) (B := [_, _]) (T := T_60) (R := R) st_67
     obtain ⟨l_80, hr_73, H⟩ := H
     refine WL.call Wanted.none ent55 rfl (slices_Concat_s_byte_byte.calls w w_66 T_60 (.sl (some ⟨B_65, 0, none⟩) 2 2 x_69 25 1 :: .cells B_1 (iv .u8 l0) 23 :: R) ([r_49, r_34] : List R25) (some ⟨B_65, 0, none⟩) 2 2  st_72 (HS.mk rfl (st_67.cap (i := 0) rfl) (fun W_ L_ st hT => st.src_mem (hT _ (List.mem_append_right _ (List.mem_of_getElem? (i := 0) rfl)))) hx_71) l_80 hr_73) ?_
     rintro _ w_83 ⟨T_74, A_77, n_78, c_79, hs_75, hn_82, rfl, sc_85⟩
     have st_84 : St w w_83 (.sl A_77 c_79 n_78 (iv .u8 l_80) 5 1 :: .sl (some ⟨B_65, 0, none⟩) 2 2 x_69 25 1 :: .cells B_1 (iv .u8 l0) 23 :: (T_74 ++ R)) := St.unhide (A := [_]) (B := [_, _]) (T := T_74) (R := R) sc_85
     refine ⟨_, rfl, ?_⟩
     obtain ⟨r_90, hr_86, H⟩ := H
     refine WL.call Wanted.none ent60 rfl (word_Pad.calls w_83 l_80 192 A_77 n_78 c_79 (st_84.src_sl (k := 0) rfl) (hn_82) (st_84.cap (i := 0) rfl) r_90 hr_86) ?_
     rintro _ w_87 ⟨A_91, c_92, n_93, hn_94, rfl, sc_89⟩
     have st_88 : St w w_87 (.sl A_91 c_92 n_93 (iv .u8 r_90) 5 1 :: .sl A_77 c_79 n_78 (iv .u8 l_80) 5 1 :: .sl (some ⟨B_65, 0, none⟩) 2 2 x_69 25 1 :: .cells B_1 (iv .u8 l0) 23 :: (T_74 ++ R)) := st_84.call sc_89
     refine ⟨_, rfl, ?_⟩
     refine WL.val Wanted.none (Runs.assign rfl) ?_
     refine WL.val Wanted.none (Runs.assign rfl) ?_
     refine WL.nil (QW.then_n ?_)
     refine CW.sub [(8, .slice A_91 n_93 c_92), (9, .int .i64 0)] ⟨rfl, rfl, trivial⟩ ?_
     refine CW.ret ?_
     obtain ⟨rfl, rfl⟩ := H
     exact QW.ret2 rfl rfl rfl ⟨A_91, c_92, n_93, hn_94, rfl, (St.front (A := [_]) (St.pickT (L := [_, _, _, _]) st_88 [0] (by decide)))⟩

/-! ### digest_first: function 71 -/
def digest_first.rel  (r0 : List Int) : Prop := (∃ m_5 : List Int, m_5 = [1779033703, 3144134277, 1013904242, 2773480762, 1359893119, 2600822924, 528734635, 1541459225] ∧ r0 = m_5)
set_option maxHeartbeats 4000000 in
set_option maxRecDepth 100000 in
theorem digest_first.calls (w : World)     (r0 : List Int) (H : digest_first.rel  r0) :
  Calls Tryd.prog 71 #[] w fun e w' => r0.length = 8 ∧ e = .returned (.agg (iv .u32 r0).toArray) ∧ St w w' [] := by
 refine CW.enter Tryd.func71 rfl (n := 2) rfl [] (Nat.le_of_ble_eq_true rfl) ?_
 refine CW.sub [] trivial ?_
 have st0 : St w w [] := St.refl w
 refine CW.seq (CW.region ?_)
 refine WL.alloc st0 arr148.zero ?_
 intro B_1 w_2 st_3
 replace st_3 : St w w_2 [.cells B_1 (iv .u32 (List.replicate 8 (0 : Int))) 148] := st_3
 refine WL.nil (QW.then_n ?_)
 refine CW.seq (CW.region ?_)
 obtain ⟨m_5, e_6, H⟩ := H
 refine WL.val Wanted.none (Runs.build_arr (xs := m_5) arr148 rfl rfl (by rw [e_6]; rfl)) ?_
 refine WL.store_arr (i := 0) st_3 rfl arr148 rfl (by rw [iv_length]; exact (List.length_replicate ..)) (by rw [e_6]; rfl) rfl ?_
 intro w_7 st_8
 replace st_8 : St w w_7 [.cells B_1 (iv .u32 m_5) 148] := st_8
 refine WL.nil (QW.then_n ?_)
 refine CW.ret ?_
 obtain rfl := H
 exact QW.retc rfl arr148 rfl (st_8.blk (i := 0) rfl) (by rw [e_6]; rfl) ⟨(by rw [e_6]; rfl), rfl, st_8.pick [] (by decide)⟩

/-! ### digest_right: function 83 -/
def digest_right.rel (a0 : Int) (a1 : Int) (r0 : Int) : Prop := (∃ (r_5 : Int), bits_RotateLeft32.rel a0 (IntKind.i64.wrap (0 - a1)) r_5 ∧ r0 = r_5)
set_option maxHeartbeats 4000000 in
set_option maxRecDepth 100000 in
theorem digest_right.calls (w : World) (a0 : Int) (a1 : Int)    (r0 : Int) (H : digest_right.rel a0 a1 r0) :
  Calls Tryd.prog 83 #[.int .u32 a0, .int .i64 a1] w fun e w' => e = .returned (.int .u32 r0) ∧ St w w' [] := by
 refine CW.enter Tryd.func83 rfl (n := 9) rfl [.int .u32 a0, .int .i64 a1] (Nat.le_of_ble_eq_true rfl) ?_
 refine CW.sub [(0, .int .u32 a0), (1, .int .i64 a1)] ⟨rfl, rfl, trivial⟩ ?_
 have st0 : St w w [] := St.refl w
 refine CW.seq (CW.region ?_)
 refine WL.val Wanted.none (Runs.assign rfl) ?_
 refine WL.nil (QW.then_n ?_)
 refine CW.seq (CW.region ?_)
 refine WL.val Wanted.none (Runs.move rfl) ?_
 refine WL.val Wanted.none (Runs.move rfl) ?_
 refine WL.val Wanted.none (Runs.neg rfl rfl) ?_
 obtain ⟨r_5, hr_1, H⟩ := H
 refine WL.call Wanted.none ent86 rfl (bits_RotateLeft32.calls w a0 (IntKind.i64.wrap (0 - a1)) r_5 hr_1) ?_
 rintro _ w_2 ⟨rfl, sc_4⟩
 have st_3 : St w w_2 [] := st0.call sc_4
 refine ⟨_, rfl, ?_⟩
 refine WL.val Wanted.none (Runs.assign rfl) ?_
 refine WL.nil (QW.then_n ?_)
 refine CW.sub [(4, .int .u32 r_5)] ⟨rfl, trivial⟩ ?_
 refine CW.ret ?_
 obtain rfl := H
 exact QW.ret1 rfl rfl ⟨rfl, st_3.pick [] (by decide)⟩

/-! ### digest_words: function 82 -/
def digest_words.L2 (l0 : List Int) (x_12 : Int) (K_L1 : (List Int) → Int → Prop) : Nat → (List Int) → Int → Prop
 | 0, _, _ => False
 | kL2 + 1, m_31, x_33 => ((x_33 < ((prt l0 (IntKind.i64.wrap (4 * x_12)) (IntKind.i64.wrap ((IntKind.i64.wrap (4 * x_12)) + 4))).length : Int) ∧ ((0 ≤ x_33 ∧ x_33 < ((prt l0 (IntKind.i64.wrap (4 * x_12)) (IntKind.i64.wrap ((IntKind.i64.wrap (4 * x_12)) + 4))).length : Int)) ∧ ((0 ≤ x_12 ∧ x_12 < (64 : Int)) ∧ (∃ x_45 : Int, x_45 = IntKind.u32.wrap (gn (prt l0 (IntKind.i64.wrap (4 * x_12)) (IntKind.i64.wrap ((IntKind.i64.wrap (4 * x_12)) + 4))) (x_33.toNat)) ∧ ((0 ≤ x_12 ∧ x_12 < (64 : Int)) ∧ (∃ m_49 : List Int, m_49 = List.set m_31 (x_12.toNat) (bits .or .u32 (shlI .u32 (gn m_31 (x_12.toNat)) 8) x_45) ∧ digest_words.L2 l0 x_12 K_L1 kL2 m_49 (IntKind.i64.wrap (x_33 + 1)))))))) ∨ (¬ (x_33 < ((prt l0 (IntKind.i64.wrap (4 * x_12)) (IntKind.i64.wrap ((IntKind.i64.wrap (4 * x_12)) + 4))).length : Int)) ∧ K_L1 m_31 (IntKind.i64.wrap (x_12 + 1))))
def digest_words.L3 (r0 : List Int) : Nat → (List Int) → Int → Prop
 | 0, _, _ => False
 | kL3 + 1, m_55, x_57 => ((x_57 < 64 ∧ ((0 ≤ (IntKind.i64.wrap (x_57 - 15)) ∧ (IntKind.i64.wrap (x_57 - 15)) < (64 : Int)) ∧ ((0 ≤ (IntKind.i64.wrap (x_57 - 2)) ∧ (IntKind.i64.wrap (x_57 - 2)) < (64 : Int)) ∧ ((0 ≤ (IntKind.i64.wrap (x_57 - 16)) ∧ (IntKind.i64.wrap (x_57 - 16)) < (64 : Int)) ∧ (∃ (r_75 : Int), digest_right.rel (gn m_55 ((IntKind.i64.wrap (x_57 - 15)).toNat)) 7 r_75 ∧ (∃ (r_80 : Int), digest_right.rel (gn m_55 ((IntKind.i64.wrap (x_57 - 15)).toNat)) 18 r_80 ∧ (∃ x_81 : Int, x_81 = bits .xor .u32 (bits .xor .u32 r_75 r_80) (shrI .u32 (gn m_55 ((IntKind.i64.wrap (x_57 - 15)).toNat)) 3) ∧ (∃ x_83 : Int, x_83 = IntKind.u32.wrap ((gn m_55 ((IntKind.i64.wrap (x_57 - 16)).toNat)) + x_81) ∧ ((0 ≤ (IntKind.i64.wrap (x_57 - 7)) ∧ (IntKind.i64.wrap (x_57 - 7)) < (64 : Int)) ∧ (∃ x_87 : Int, x_87 = IntKind.u32.wrap (x_83 + (gn m_55 ((IntKind.i64.wrap (x_57 - 7)).toNat))) ∧ (∃ (r_93 : Int), digest_right.rel (gn m_55 ((IntKind.i64.wrap (x_57 - 2)).toNat)) 17 r_93 ∧ (∃ (r_98 : Int), digest_right.rel (gn m_55 ((IntKind.i64.wrap (x_57 - 2)).toNat)) 19 r_98 ∧ (∃ x_99 : Int, x_99 = bits .xor .u32 (bits .xor .u32 r_93 r_98) (shrI .u32 (gn m_55 ((IntKind.i64.wrap (x_57 - 2)).toNat)) 10) ∧ ((0 ≤ x_57 ∧ x_57 < (64 : Int)) ∧ (∃ m_105 : List Int, m_105 = List.set m_55 (x_57.toNat) (IntKind.u32.wrap (x_87 + x_99)) ∧ digest_words.L3 r0 kL3 m_105 (IntKind.i64.wrap (x_57 + 1))))))))))))))))) ∨ (¬ (x_57 < 64) ∧ r0 = m_55))
def digest_words.L1 (l0 : List Int) (r0 : List Int) : Nat → (List Int) → Int → Prop
 | 0, _, _ => False
 | kL1 + 1, m_10, x_12 => ((x_12 < 16 ∧ ((0 ≤ (IntKind.i64.wrap (4 * x_12)) ∧ (IntKind.i64.wrap (4 * x_12)) ≤ (IntKind.i64.wrap ((IntKind.i64.wrap (4 * x_12)) + 4)) ∧ (IntKind.i64.wrap ((IntKind.i64.wrap (4 * x_12)) + 4)) ≤ (l0.length : Int)) ∧ (∃ k_ : Nat, digest_words.L2 l0 x_12 (digest_words.L1 l0 r0 kL1) k_ m_10 0))) ∨ (¬ (x_12 < 16) ∧ (∃ k_ : Nat, digest_words.L3 r0 k_ m_10 16)))
def digest_words.rel (l0 : List Int) (r0 : List Int) : Prop := (∃ k_ : Nat, digest_words.L1 l0 r0 k_ (List.replicate 64 (0 : Int)) 0)
set_option maxHeartbeats 4000000 in
set_option maxRecDepth 100000 in
theorem digest_words.calls (w : World) (l0 : List Int) (A0 : Option Addr) (n0 : Nat) (c0 : Nat)  (hs0 : Src w A0 (iv .u8 l0)) (hn0 : n0 = l0.length) (hc0 : n0 ≤ c0) (r0 : List Int) (H : digest_words.rel l0 r0) :
  Calls Tryd.prog 82 #[.slice A0 n0 c0] w fun e w' => r0.length = 64 ∧ e = .returned (.agg (iv .u32 r0).toArray) ∧ St w w' [] := by
 refine CW.enter Tryd.func82 rfl (n := 78) rfl [.slice A0 n0 c0] (Nat.le_of_ble_eq_true rfl) ?_
 refine CW.sub [(0, .slice A0 n0 c0)] ⟨rfl, trivial⟩ ?_
 have st0 : St w w [] := St.refl w
 refine CW.seq (CW.region ?_)
 refine WL.alloc st0 arr154.zero ?_
 intro B_1 w_2 st_3
 replace st_3 : St w w_2 [.cells B_1 (iv .u32 (List.replicate 64 (0 : Int))) 154] := st_3
 refine WL.nil (QW.then_n ?_)
 refine CW.seq (CW.region ?_)
 refine WL.alloc st_3 arr154.zero ?_
 intro B_5 w_6 st_7
 replace st_7 : St w w_6 [.cells B_5 (iv .u32 (List.replicate 64 (0 : Int))) 154, .cells B_1 (iv .u32 (List.replicate 64 (0 : Int))) 154] := st_7
 refine WL.nil (QW.then_n ?_)
 refine CW.seq ?_
 refine CW.seq (CW.region ?_)
 refine WL.val Wanted.none (Runs.move rfl) ?_
 refine WL.nil (QW.then_n ?_)
 refine CW.block ?_
 obtain ⟨k_9, H⟩ := H
 refine CW.sub [(0, .slice A0 n0 c0), (2, .pointer (some ⟨B_1, 0, none⟩)), (3, .pointer (some ⟨B_5, 0, none⟩)), (10, .int .i64 0)] ⟨rfl, rfl, rfl, rfl, trivial⟩ ?_
 refine CW.loop (fun kL1 l_ w_ => ∃ (m_10 : List Int) (x_12 : Int), l_ = [(0, .slice A0 n0 c0), (2, .pointer (some ⟨B_1, 0, none⟩)), (3, .pointer (some ⟨B_5, 0, none⟩)), (10, .int .i64 x_12)] ∧ digest_words.L1 l0 r0 kL1 m_10 x_12 ∧ (m_10.length = 64) ∧ St w w_ [.cells B_5 (iv .u32 m_10) 154, .cells B_1 (iv .u32 (List.replicate 64 (0 : Int))) 154]) (k := k_9) ⟨List.replicate 64 (0 : Int), 0, rfl, H, (List.length_replicate ..), st_7⟩ (fun _ _ h => by obtain ⟨_, _, _, h, _⟩ := h; exact h.elim) ?_
 rintro kL1 l_15 w_13 ⟨m_10, x_12, rfl, H, hl_11, st_14⟩
 refine CW.seq (CW.region ?_)
 refine WL.val Wanted.none (Runs.lss rfl rfl rfl) ?_
 refine WL.nil (QW.then_n ?_)
 refine CW.seq ?_
 rcases H with ⟨c_16, H⟩ | ⟨c_16, H⟩
 ·have h_17 : (decide (x_12 < 16)) = true := (decide_eq_true c_16)
  refine CW.ct rfl h_17 ?_
  refine CW.skip ?_
  refine QW.then_n ?_
  refine CW.seq ?_
  refine CW.block ?_
  refine CW.seq (CW.region ?_)
  refine WL.val Wanted.none (Runs.move rfl) ?_
  refine WL.val Wanted.none (Runs.assign rfl) ?_
  refine WL.nil (QW.then_n ?_)
  refine CW.seq (CW.region ?_)
  refine WL.val Wanted.none (Runs.move rfl) ?_
  refine WL.val Wanted.none (Runs.move rfl) ?_
  refine WL.val Wanted.none (Runs.mul rfl rfl rfl) ?_
  refine WL.val Wanted.none (Runs.move rfl) ?_
  refine WL.val Wanted.none (Runs.mul rfl rfl rfl) ?_
  refine WL.val Wanted.none (Runs.add rfl rfl rfl) ?_
  obtain ⟨⟨p_18, q_19, r_20⟩, H⟩ := H
  have h_27 : n0 ≤ c0 := hc0
  have h_28 : (IntKind.i64.wrap ((IntKind.i64.wrap (4 * x_12)) + 4)) ≤ (c0 : Int) := by have := hn0; omega
  obtain ⟨A_21, e_24⟩ : ∃ B_, B_ = subA A0 (IntKind.i64.wrap (4 * x_12)).toNat c0 := ⟨_, rfl⟩
  obtain ⟨n_23, e_26⟩ : ∃ n_ : Nat, n_ = (prt l0 (IntKind.i64.wrap (4 * x_12)) (IntKind.i64.wrap ((IntKind.i64.wrap (4 * x_12)) + 4))).length := ⟨_, rfl⟩
  obtain ⟨c_22, e_25⟩ : ∃ c_ : Nat, c_ = c0 - (IntKind.i64.wrap (4 * x_12)).toNat := ⟨_, rfl⟩
  have h_29 : n_23 ≤ c_22 := by rw [e_26, prt_length p_18 q_19 r_20]; rw [e_25]; omega
  refine WL.val Wanted.none (Runs.slice_lh Tryd.underlying25 cells5 rfl rfl rfl p_18 q_19 h_28 e_24 (N := n_23) (by rw [e_26, prt_length p_18 q_19 r_20]) e_25) ?_
  refine WL.val Wanted.none (Runs.len_sl Tryd.underlying25 rfl (by rw [e_26])) ?_
  refine WL.val Wanted.none (Runs.move rfl) ?_
  refine WL.nil (QW.then_n ?_)
  refine CW.block ?_
  obtain ⟨k_30, H⟩ := H
  refine CW.sub [(0, .slice A0 n0 c0), (2, .pointer (some ⟨B_1, 0, none⟩)), (3, .pointer (some ⟨B_5, 0, none⟩)), (10, .int .i64 x_12), (11, .bool (decide (x_12 < 16))), (12, .int .i64 x_12), (4, .int .i64 x_12), (13, .slice A0 n0 c0), (14, .int .i64 x_12), (15, .int .i64 (IntKind.i64.wrap (4 * x_12))), (16, .int .i64 x_12), (17, .int .i64 (IntKind.i64.wrap (4 * x_12))), (18, .int .i64 (IntKind.i64.wrap ((IntKind.i64.wrap (4 * x_12)) + 4))), (19, .slice A_21 n_23 c_22), (20, .int .i64 ((prt l0 (IntKind.i64.wrap (4 * x_12)) (IntKind.i64.wrap ((IntKind.i64.wrap (4 * x_12)) + 4))).length : Int)), (21, .int .i64 0)] (by repeat' constructor) ?_
  refine CW.loop (fun kL2 l_ w_ => ∃ (m_31 : List Int) (x_33 : Int), l_ = [(0, .slice A0 n0 c0), (2, .pointer (some ⟨B_1, 0, none⟩)), (3, .pointer (some ⟨B_5, 0, none⟩)), (10, .int .i64 x_12), (11, .bool (decide (x_12 < 16))), (12, .int .i64 x_12), (4, .int .i64 x_12), (13, .slice A0 n0 c0), (14, .int .i64 x_12), (15, .int .i64 (IntKind.i64.wrap (4 * x_12))), (16, .int .i64 x_12), (17, .int .i64 (IntKind.i64.wrap (4 * x_12))), (18, .int .i64 (IntKind.i64.wrap ((IntKind.i64.wrap (4 * x_12)) + 4))), (19, .slice A_21 n_23 c_22), (20, .int .i64 ((prt l0 (IntKind.i64.wrap (4 * x_12)) (IntKind.i64.wrap ((IntKind.i64.wrap (4 * x_12)) + 4))).length : Int)), (21, .int .i64 x_33)] ∧ digest_words.L2 l0 x_12 (digest_words.L1 l0 r0 kL1) kL2 m_31 x_33 ∧ (m_31.length = 64) ∧ St w w_ [.cells B_5 (iv .u32 m_31) 154, .cells B_1 (iv .u32 (List.replicate 64 (0 : Int))) 154]) (k := k_30) ⟨m_10, 0, rfl, H, hl_11, st_14⟩ (fun _ _ h => by obtain ⟨_, _, _, h, _⟩ := h; exact h.elim) ?_
  rintro kL2 l_36 w_34 ⟨m_31, x_33, rfl, H, hl_32, st_35⟩
  refine CW.seq (CW.region ?_)
  refine WL.val Wanted.none (Runs.lss rfl rfl rfl) ?_
  refine WL.nil (QW.then_n ?_)
  refine CW.seq ?_
  rcases H with ⟨c_37, H⟩ | ⟨c_37, H⟩
  ·have h_38 : (decide (x_33 < ((prt l0 (IntKind.i64.wrap (4 * x_12)) (IntKind.i64.wrap ((IntKind.i64.wrap (4 * x_12)) + 4))).length : Int))) = true := (decide_eq_true c_37)
   refine CW.ct rfl h_38 ?_
   refine CW.skip ?_
   refine QW.then_n ?_
   refine CW.seq ?_
   refine CW.block ?_
   refine CW.seq (CW.region ?_)
   obtain ⟨⟨p_39, q_40⟩, H⟩ := H
   obtain ⟨a_41, e_42⟩ := ((hs0.ext st_35).sub_iv p_18 q_19 h_28 e_24).addr_iv (x_33.toNat) (by omega)
   refine WL.val Wanted.none (Runs.indexAddr Tryd.underlying25 cells5 (by decide) rfl e_42 rfl p_39 (by rw [e_26]; exact q_40) (o := (x_33).toNat) (by first | rfl | omega)) ?_
   refine WL.val Wanted.none (Runs.load nagg5 rfl (((hs0.ext st_35).sub_iv p_18 q_19 h_28 e_24).cell_iv e_42 (by omega))) ?_
   refine WL.val Wanted.none (Runs.assign rfl) ?_
   refine WL.nil (QW.then_n ?_)
   refine CW.region ?_
   refine WL.val Wanted.none (Runs.move rfl) ?_
   refine WL.val Wanted.none (Runs.move rfl) ?_
   obtain ⟨⟨p_43, q_44⟩, H⟩ := H
   refine WL.val Wanted.none (Runs.indexAddr_blk arr154 rfl rfl p_43 q_44 (o := (x_12).toNat) (by first | rfl | omega)) ?_
   refine WL.val Wanted.none (Runs.load nagg24 rfl (st_35.cell_iv (i := 0) rfl (by have := hl_32; omega))) ?_
   refine WL.val Wanted.none (Runs.shl rfl rfl (by decide) rfl) ?_
   refine WL.val Wanted.none (Runs.move rfl) ?_
   obtain ⟨x_45, e_46, H⟩ := H
   refine WL.val Wanted.none (Runs.conv Tryd.underlying24 ⟨_, Tryd.underlying5⟩ rfl e_46) ?_
   refine WL.val Wanted.none (Runs.bor rfl rfl rfl) ?_
   obtain ⟨⟨p_47, q_48⟩, H⟩ := H
   refine WL.val Wanted.none (Runs.indexAddr_blk arr154 rfl rfl p_47 q_48 (o := (x_12).toNat) (by first | rfl | omega)) ?_
   obtain ⟨m_49, e_50, H⟩ := H
   have hl_53 : m_49.length = 64 := by rw [e_50, List.length_set]; exact hl_32
   refine WL.store_cells (i := 0) st_35 rfl cells24 rfl (by rw [iv_length]; have := hl_32; omega) rfl rfl ?_
   intro w_51 st_52
   have st_52' : St w w_51 [.cells B_5 (iv .u32 m_49) 154, .cells B_1 (iv .u32 (List.replicate 64 (0 : Int))) 154] := by rw [e_50, ← iv_set .u32 m_31 (x_12.toNat) (bits .or .u32 (shlI .u32 (gn m_31 (x_12.toNat)) 8) x_45)]; exact st_52
   refine WL.nil ?_
   refine QW.blk_n ?_
   refine QW.then_n ?_
   refine CW.region ?_
   refine WL.val Wanted.none (Runs.add rfl rfl rfl) ?_
   refine WL.val Wanted.none (Runs.move rfl) ?_
   refine WL.nil ?_
   exact QW.at _ (by repeat' constructor) ⟨m_49, IntKind.i64.wrap (x_33 + 1), rfl, H, hl_53, st_52'⟩
  ·have h_38 : (decide (x_33 < ((prt l0 (IntKind.i64.wrap (4 * x_12)) (IntKind.i64.wrap ((IntKind.i64.wrap (4 * x_12)) + 4))).length : Int))) = false := (decide_eq_false c_37)
   refine CW.cf rfl h_38 ?_
   refine CW.exit ?_
   refine QW.then_x ?_
   refine QW.then_x ?_
   refine QW.blk_x ?_
   refine QW.blk_n ?_
   refine QW.then_n ?_
   refine CW.region ?_
   refine WL.val Wanted.none (Runs.add rfl rfl rfl) ?_
   refine WL.val Wanted.none (Runs.move rfl) ?_
   refine WL.nil ?_
   exact QW.at _ (by repeat' constructor) ⟨m_31, IntKind.i64.wrap (x_12 + 1), rfl, H, hl_32, st_35⟩
 ·have h_17 : (decide (x_12 < 16)) = false := (decide_eq_false c_16)
  refine CW.cf rfl h_17 ?_
  refine CW.exit ?_
  refine QW.then_x ?_
  refine QW.then_x ?_
  refine QW.blk_x ?_
  refine QW.then_n ?_
  refine CW.seq ?_
  refine CW.seq (CW.region ?_)
  refine WL.val Wanted.none (Runs.assign rfl) ?_
  refine WL.nil (QW.then_n ?_)
  refine CW.block ?_
  obtain ⟨k_54, H⟩ := H
  refine CW.sub [(2, .pointer (some ⟨B_1, 0, none⟩)), (3, .pointer (some ⟨B_5, 0, none⟩)), (7, .int .i64 16)] ⟨rfl, rfl, rfl, trivial⟩ ?_
  refine CW.loop (fun kL3 l_ w_ => ∃ (m_55 : List Int) (x_57 : Int), l_ = [(2, .pointer (some ⟨B_1, 0, none⟩)), (3, .pointer (some ⟨B_5, 0, none⟩)), (7, .int .i64 x_57)] ∧ digest_words.L3 r0 kL3 m_55 x_57 ∧ (m_55.length = 64) ∧ St w w_ [.cells B_5 (iv .u32 m_55) 154, .cells B_1 (iv .u32 (List.replicate 64 (0 : Int))) 154]) (k := k_54) ⟨m_10, 16, rfl, H, hl_11, st_14⟩ (fun _ _ h => by obtain ⟨_, _, _, h, _⟩ := h; exact h.elim) ?_
  rintro kL3 l_60 w_58 ⟨m_55, x_57, rfl, H, hl_56, st_59⟩
  refine CW.seq ?_
  refine CW.seq (CW.region ?_)
  refine WL.val Wanted.none (Runs.move rfl) ?_
  refine WL.val Wanted.none (Runs.lss rfl rfl rfl) ?_
  refine WL.nil (QW.then_n ?_)
  rcases H with ⟨c_61, H⟩ | ⟨c_61, H⟩
  ·have h_62 : (decide (x_57 < 64)) = true := (decide_eq_true c_61)
   refine CW.ct rfl h_62 ?_
   refine CW.skip ?_
   refine QW.then_n ?_
   refine CW.seq ?_
   refine CW.block ?_
   refine CW.seq ?_
   refine CW.region_qa wide (by kernel_rfl) st_59 ?_
   refine HL.val Wanted.none (fun wq sq => (Runs.move rfl)) ?_
   refine HL.val Wanted.none (fun wq sq => (Runs.sub rfl rfl rfl)) ?_
   obtain ⟨⟨p_63, q_64⟩, H⟩ := H
   refine HL.val Wanted.none (fun wq sq => (Runs.indexAddr_blk arr154 rfl rfl p_63 q_64 (o := (IntKind.i64.wrap (x_57 - 15)).toNat) (by first | rfl | omega))) ?_
   refine HL.val Wanted.none (fun wq sq => (Runs.load nagg24 rfl (sq.cell_iv (i := 0) rfl (by have := hl_56; omega)))) ?_
   refine HL.val Wanted.none (fun wq sq => (Runs.move rfl)) ?_
   refine HL.val Wanted.none (fun wq sq => (Runs.sub rfl rfl rfl)) ?_
   obtain ⟨⟨p_65, q_66⟩, H⟩ := H
   refine HL.val Wanted.none (fun wq sq => (Runs.indexAddr_blk arr154 rfl rfl p_65 q_66 (o := (IntKind.i64.wrap (x_57 - 2)).toNat) (by first | rfl | omega))) ?_
   refine HL.val Wanted.none (fun wq sq => (Runs.load nagg24 rfl (sq.cell_iv (i := 0) rfl (by have := hl_56; omega)))) ?_
   refine HL.val Wanted.none (fun wq sq => (Runs.assign rfl)) ?_
   refine HL.val Wanted.none (fun wq sq => (Runs.assign rfl)) ?_
   refine HL.nil (fun w_67 st_68 => ?_)
   refine WL.nil (QW.then_n ?_)
   refine CW.region_qt 29 wide (by kernel_rfl) st_68 ?_
   refine HL.val Wanted.none (fun wq sq => (Runs.move rfl)) ?_
   refine HL.val Wanted.none (fun wq sq => (Runs.move rfl)) ?_
   refine HL.val Wanted.none (fun wq sq => (Runs.sub rfl rfl rfl)) ?_
   obtain ⟨⟨p_69, q_70⟩, H⟩ := H
   refine HL.val Wanted.none (fun wq sq => (Runs.indexAddr_blk arr154 rfl rfl p_69 q_70 (o := (IntKind.i64.wrap (x_57 - 16)).toNat) (by first | rfl | omega))) ?_
   refine HL.val Wanted.none (fun wq sq => (Runs.load nagg24 rfl (sq.cell_iv (i := 0) rfl (by have := hl_56; omega)))) ?_
   refine HL.val Wanted.none (fun wq sq => (Runs.move rfl)) ?_
   obtain ⟨r_75, hr_71, H⟩ := H
   refine HL.call Wanted.none ent83 rfl (fun wq sq => (digest_right.calls wq (gn m_55 ((IntKind.i64.wrap (x_57 - 15)).toNat)) 7 r_75 hr_71).mono (by rintro _ _ ⟨rfl, sc⟩; exact ⟨rfl, sq.call sc⟩)) ?_
   refine HL.val Wanted.none (fun wq sq => (Runs.move rfl)) ?_
   obtain ⟨r_80, hr_76, H⟩ := H
   refine HL.call Wanted.none ent83 rfl (fun wq sq => (digest_right.calls wq (gn m_55 ((IntKind.i64.wrap (x_57 - 15)).toNat)) 18 r_80 hr_76).mono (by rintro _ _ ⟨rfl, sc⟩; exact ⟨rfl, sq.call sc⟩)) ?_
   refine HL.val Wanted.none (fun wq sq => (Runs.bxor rfl rfl rfl)) ?_
   refine HL.val Wanted.none (fun wq sq => (Runs.move rfl)) ?_
   refine HL.val Wanted.none (fun wq sq => (Runs.shr rfl rfl (by decide) rfl)) ?_
   obtain ⟨x_81, e_82, H⟩ := H
   refine HL.val Wanted.none (fun wq sq => (Runs.bxor rfl rfl e_82)) ?_
   obtain ⟨x_83, e_84, H⟩ := H
   refine HL.val Wanted.none (fun wq sq => (Runs.add rfl rfl e_84)) ?_
   refine HL.val Wanted.none (fun wq sq => (Runs.move rfl)) ?_
   refine HL.val Wanted.none (fun wq sq => (Runs.sub rfl rfl rfl)) ?_
   obtain ⟨⟨p_85, q_86⟩, H⟩ := H
   refine HL.val Wanted.none (fun wq sq => (Runs.indexAddr_blk arr154 rfl rfl p_85 q_86 (o := (IntKind.i64.wrap (x_57 - 7)).toNat) (by first | rfl | omega))) ?_
   refine HL.val Wanted.none (fun wq sq => (Runs.load nagg24 rfl (sq.cell_iv (i := 0) rfl (by have := hl_56; omega)))) ?_
   obtain ⟨x_87, e_88, H⟩ := H
   refine HL.val Wanted.none (fun wq sq => (Runs.add rfl rfl e_88)) ?_
   refine HL.val Wanted.none (fun wq sq => (Runs.move rfl)) ?_
   obtain ⟨r_93, hr_89, H⟩ := H
   refine HL.call Wanted.none ent83 rfl (fun wq sq => (digest_right.calls wq (gn m_55 ((IntKind.i64.wrap (x_57 - 2)).toNat)) 17 r_93 hr_89).mono (by rintro _ _ ⟨rfl, sc⟩; exact ⟨rfl, sq.call sc⟩)) ?_
   refine HL.val Wanted.none (fun wq sq => (Runs.move rfl)) ?_
   obtain ⟨r_98, hr_94, H⟩ := H
   refine HL.call Wanted.none ent83 rfl (fun wq sq => (digest_right.calls wq (gn m_55 ((IntKind.i64.wrap (x_57 - 2)).toNat)) 19 r_98 hr_94).mono (by rintro _ _ ⟨rfl, sc⟩; exact ⟨rfl, sq.call sc⟩)) ?_
   refine HL.val Wanted.none (fun wq sq => (Runs.bxor rfl rfl rfl)) ?_
   refine HL.val Wanted.none (fun wq sq => (Runs.move rfl)) ?_
   refine HL.val Wanted.none (fun wq sq => (Runs.shr rfl rfl (by decide) rfl)) ?_
   obtain ⟨x_99, e_100, H⟩ := H
   refine HL.val Wanted.none (fun wq sq => (Runs.bxor rfl rfl e_100)) ?_
   refine HL.val Wanted.none (fun wq sq => (Runs.add rfl rfl rfl)) ?_
   obtain ⟨⟨p_101, q_102⟩, H⟩ := H
   refine HL.val Wanted.none (fun wq sq => (Runs.indexAddr_blk arr154 rfl rfl p_101 q_102 (o := (x_57).toNat) (by first | rfl | omega))) ?_
   refine HL.nil (fun w_103 st_104 => ?_)
   obtain ⟨m_105, e_106, H⟩ := H
   have hl_109 : m_105.length = 64 := by rw [e_106, List.length_set]; exact hl_56
   refine WL.store_cells (i := 0) st_104 rfl cells24 rfl (by rw [iv_length]; have := hl_56; omega) rfl rfl ?_
   intro w_107 st_108
   have st_108' : St w w_107 [.cells B_5 (iv .u32 m_105) 154, .cells B_1 (iv .u32 (List.replicate 64 (0 : Int))) 154] := by rw [e_106, ← iv_set .u32 m_55 (x_57.toNat) (IntKind.u32.wrap (x_87 + x_99))]; exact st_108
   refine WL.nil ?_
   refine QW.blk_n ?_
   refine QW.then_n ?_
   refine CW.region ?_
   refine WL.val Wanted.none (Runs.move rfl) ?_
   refine WL.val Wanted.none (Runs.add rfl rfl rfl) ?_
   refine WL.val Wanted.none (Runs.assign rfl) ?_
   refine WL.nil ?_
   exact QW.at _ (by repeat' constructor) ⟨m_105, IntKind.i64.wrap (x_57 + 1), rfl, H, hl_109, st_108'⟩
  ·have h_62 : (decide (x_57 < 64)) = false := (decide_eq_false c_61)
   refine CW.cf rfl h_62 ?_
   refine CW.exit ?_
   refine QW.then_x ?_
   refine QW.then_x ?_
   refine QW.blk_x ?_
   refine QW.then_n ?_
   refine CW.seq (CW.region ?_)
   refine WL.val Wanted.none (Runs.load_arr arr154 rfl (st_59.blk (i := 0) rfl) hl_56) ?_
   refine WL.store_arr (i := 1) st_59 rfl arr154 rfl (by rw [iv_length]; exact (List.length_replicate ..)) hl_56 rfl ?_
   intro w_110 st_111
   replace st_111 : St w w_110 [.cells B_5 (iv .u32 m_55) 154, .cells B_1 (iv .u32 m_55) 154] := st_111
   refine WL.nil (QW.then_n ?_)
   refine CW.ret ?_
   obtain rfl := H
   exact QW.retc rfl arr154 rfl (st_111.blk (i := 1) rfl) hl_56 ⟨hl_56, rfl, st_111.pick [] (by decide)⟩

/-! ### digest_state_mixed: function 73 -/
def digest_state_mixed.L2 (r0 : List Int) (m_82 : List Int) : Nat → (List Int) → Int → Prop
 | 0, _, _ => False
 | kL2 + 1, m_85, x_87 => ((x_87 < 8 ∧ ((0 ≤ x_87 ∧ x_87 < (8 : Int)) ∧ ((0 ≤ x_87 ∧ x_87 < (8 : Int)) ∧ (∃ x_97 : Int, x_97 = IntKind.u32.wrap ((gn m_85 (x_87.toNat)) + (gn m_82 (x_87.toNat))) ∧ ((0 ≤ x_87 ∧ x_87 < (8 : Int)) ∧ (∃ m_101 : List Int, m_101 = List.set m_85 (x_87.toNat) x_97 ∧ digest_state_mixed.L2 r0 m_82 kL2 m_101 (IntKind.i64.wrap (x_87 + 1)))))))) ∨ (¬ (x_87 < 8) ∧ r0 = m_85))
def digest_state_mixed.L1 (l0 : List Int) (r0 : List Int) (r_15 : List Int) : Nat → Int → Int → Int → Int → Int → Int → Int → Int → Int → Prop
 | 0, _, _, _, _, _, _, _, _, _ => False
 | kL1 + 1, x_18, x_19, x_20, x_21, x_22, x_23, x_24, x_25, x_26 => ((x_26 < 64 ∧ ((0 ≤ x_26 ∧ x_26 < (64 : Int)) ∧ (∃ (r_38 : Int), digest_right.rel x_22 6 r_38 ∧ (∃ (r_43 : Int), digest_right.rel x_22 11 r_43 ∧ (∃ (r_48 : Int), digest_right.rel x_22 25 r_48 ∧ (∃ x_49 : Int, x_49 = IntKind.u32.wrap (x_25 + (bits .xor .u32 (bits .xor .u32 r_38 r_43) r_48)) ∧ (∃ x_51 : Int, x_51 = bits .xor .u32 (bits .and .u32 x_22 x_23) (bits .and .u32 (notI .u32 x_22) x_24) ∧ ((0 ≤ x_26 ∧ x_26 < (64 : Int)) ∧ (∃ x_55 : Int, x_55 = IntKind.u32.wrap ((IntKind.u32.wrap (x_49 + x_51)) + (gn tab0 (x_26.toNat))) ∧ (∃ (r_63 : Int), digest_right.rel x_18 2 r_63 ∧ (∃ (r_68 : Int), digest_right.rel x_18 13 r_68 ∧ (∃ (r_73 : Int), digest_right.rel x_18 22 r_73 ∧ (∃ x_74 : Int, x_74 = bits .xor .u32 (bits .and .u32 x_18 x_19) (bits .and .u32 x_18 x_20) ∧ (∃ x_76 : Int, x_76 = IntKind.u32.wrap ((bits .xor .u32 (bits .xor .u32 r_63 r_68) r_73) + (bits .xor .u32 x_74 (bits .and .u32 x_19 x_20))) ∧ (∃ x_78 : Int, x_78 = IntKind.u32.wrap (x_21 + (IntKind.u32.wrap (x_55 + (gn r_15 (x_26.toNat))))) ∧ (∃ x_80 : Int, x_80 = IntKind.u32.wrap ((IntKind.u32.wrap (x_55 + (gn r_15 (x_26.toNat)))) + x_76) ∧ digest_state_mixed.L1 l0 r0 r_15 kL1 x_80 x_18 x_19 x_20 x_78 x_22 x_23 x_24 (IntKind.i64.wrap (x_26 + 1)))))))))))))))))) ∨ (¬ (x_26 < 64) ∧ (∃ m_82 : List Int, m_82 = [x_18, x_19, x_20, x_21, x_22, x_23, x_24, x_25] ∧ (∃ k_ : Nat, digest_state_mixed.L2 r0 m_82 k_ l0 0))))
def digest_state_mixed.rel (l0 : List Int) (l1 : List Int) (r0 : List Int) : Prop := (∃ (r_15 : List Int), digest_words.rel l1 r_15 ∧ (∃ k_ : Nat, digest_state_mixed.L1 l0 r0 r_15 k_ (gn l0 0) (gn l0 1) (gn l0 2) (gn l0 3) (gn l0 4) (gn l0 5) (gn l0 6) (gn l0 7) 0))
set_option maxHeartbeats 4000000 in
set_option maxRecDepth 100000 in
theorem digest_state_mixed.calls (w : World) (l0 : List Int) (l1 : List Int) (A1 : Option Addr) (n1 : Nat) (c1 : Nat)  (hG0 : Src w (some ⟨0, 0, none⟩) (iv .u32 tab0)) (hl0 : l0.length = 8) (hs1 : Src w A1 (iv .u8 l1)) (hn1 : n1 = l1.length) (hc1 : n1 ≤ c1) (r0 : List Int) (H : digest_state_mixed.rel l0 l1 r0) :
  Calls Tryd.prog 73 #[.agg (iv .u32 l0).toArray, .slice A1 n1 c1] w fun e w' => r0.length = 8 ∧ e = .returned (.agg (iv .u32 r0).toArray) ∧ St w w' [] := by
 refine CW.enter Tryd.func73 rfl (n := 120) rfl [.agg (iv .u32 l0).toArray, .slice A1 n1 c1] (Nat.le_of_ble_eq_true rfl) ?_
 refine CW.sub [(0, .agg (iv .u32 l0).toArray), (1, .slice A1 n1 c1)] ⟨rfl, rfl, trivial⟩ ?_
 have st0 : St w w [] := St.refl w
 refine CW.seq (CW.region ?_)
 refine WL.box st0 rfl rfl ?_
 intro B_1 w_2 st_3
 replace st_3 : St w w_2 [.cells B_1 (iv .u32 l0) 148] := st_3
 refine WL.alloc st_3 arr148.zero ?_
 intro B_5 w_6 st_7
 replace st_7 : St w w_6 [.cells B_5 (iv .u32 (List.replicate 8 (0 : Int))) 148, .cells B_1 (iv .u32 l0) 148] := st_7
 refine WL.nil (QW.then_n ?_)
 refine CW.seq ?_
 refine CW.region_qa wide (by kernel_rfl) st_7 ?_
 refine HL.val Wanted.none (fun wq sq => (Runs.indexAddr_blk arr148 rfl rfl (by decide) (by decide) (o := 0) (by first | rfl | omega))) ?_
 refine HL.val Wanted.none (fun wq sq => (Runs.load nagg24 rfl (sq.cell_iv (i := 1) rfl (by have := hl0; omega)))) ?_
 refine HL.val Wanted.none (fun wq sq => (Runs.indexAddr_blk arr148 rfl rfl (by decide) (by decide) (o := 1) (by first | rfl | omega))) ?_
 refine HL.val Wanted.none (fun wq sq => (Runs.load nagg24 rfl (sq.cell_iv (i := 1) rfl (by have := hl0; omega)))) ?_
 refine HL.val Wanted.none (fun wq sq => (Runs.indexAddr_blk arr148 rfl rfl (by decide) (by decide) (o := 2) (by first | rfl | omega))) ?_
 refine HL.val Wanted.none (fun wq sq => (Runs.load nagg24 rfl (sq.cell_iv (i := 1) rfl (by have := hl0; omega)))) ?_
 refine HL.val Wanted.none (fun wq sq => (Runs.indexAddr_blk arr148 rfl rfl (by decide) (by decide) (o := 3) (by first | rfl | omega))) ?_
 refine HL.val Wanted.none (fun wq sq => (Runs.load nagg24 rfl (sq.cell_iv (i := 1) rfl (by have := hl0; omega)))) ?_
 refine HL.val Wanted.none (fun wq sq => (Runs.indexAddr_blk arr148 rfl rfl (by decide) (by decide) (o := 4) (by first | rfl | omega))) ?_
 refine HL.val Wanted.none (fun wq sq => (Runs.load nagg24 rfl (sq.cell_iv (i := 1) rfl (by have := hl0; omega)))) ?_
 refine HL.val Wanted.none (fun wq sq => (Runs.indexAddr_blk arr148 rfl rfl (by decide) (by decide) (o := 5) (by first | rfl | omega))) ?_
 refine HL.val Wanted.none (fun wq sq => (Runs.load nagg24 rfl (sq.cell_iv (i := 1) rfl (by have := hl0; omega)))) ?_
 refine HL.val Wanted.none (fun wq sq => (Runs.indexAddr_blk arr148 rfl rfl (by decide) (by decide) (o := 6) (by first | rfl | omega))) ?_
 refine HL.val Wanted.none (fun wq sq => (Runs.load nagg24 rfl (sq.cell_iv (i := 1) rfl (by have := hl0; omega)))) ?_
 refine HL.val Wanted.none (fun wq sq => (Runs.indexAddr_blk arr148 rfl rfl (by decide) (by decide) (o := 7) (by first | rfl | omega))) ?_
 refine HL.val Wanted.none (fun wq sq => (Runs.load nagg24 rfl (sq.cell_iv (i := 1) rfl (by have := hl0; omega)))) ?_
 refine HL.val Wanted.none (fun wq sq => (Runs.assign rfl)) ?_
 refine HL.val Wanted.none (fun wq sq => (Runs.assign rfl)) ?_
 refine HL.val Wanted.none (fun wq sq => (Runs.assign rfl)) ?_
 refine HL.val Wanted.none (fun wq sq => (Runs.assign rfl)) ?_
 refine HL.val Wanted.none (fun wq sq => (Runs.assign rfl)) ?_
 refine HL.val Wanted.none (fun wq sq => (Runs.assign rfl)) ?_
 refine HL.val Wanted.none (fun wq sq => (Runs.assign rfl)) ?_
 refine HL.val Wanted.none (fun wq sq => (Runs.assign rfl)) ?_
 refine HL.nil (fun w_9 st_10 => ?_)
 refine WL.nil (QW.then_n ?_)
 refine CW.sub [(1, .slice A1 n1 c1), (2, .pointer (some ⟨B_1, 0, none⟩)), (4, .pointer (some ⟨B_5, 0, none⟩)), (5, .int .u32 (gn l0 0)), (6, .int .u32 (gn l0 1)), (7, .int .u32 (gn l0 2)), (8, .int .u32 (gn l0 3)), (9, .int .u32 (gn l0 4)), (10, .int .u32 (gn l0 5)), (11, .int .u32 (gn l0 6)), (12, .int .u32 (gn l0 7))] (by repeat' constructor) ?_
 refine CW.seq ?_
 refine CW.seq (CW.region ?_)
 refine WL.val Wanted.none (Runs.move rfl) ?_
 obtain ⟨r_15, hr_11, H⟩ := H
 refine WL.call Wanted.none ent82 rfl (digest_words.calls w_9 l1 A1 n1 c1 (hs1.ext st_10) (hn1) (hc1) r_15 hr_11) ?_
 rintro _ w_12 ⟨hl_16, rfl, sc_14⟩
 have st_13 : St w w_12 [.cells B_5 (iv .u32 (List.replicate 8 (0 : Int))) 148, .cells B_1 (iv .u32 l0) 148] := st_10.call sc_14
 refine ⟨_, rfl, ?_⟩
 refine WL.val Wanted.none (Runs.move rfl) ?_
 refine WL.nil (QW.then_n ?_)
 refine CW.block ?_
 obtain ⟨k_17, H⟩ := H
 refine CW.sub [(2, .pointer (some ⟨B_1, 0, none⟩)), (4, .pointer (some ⟨B_5, 0, none⟩)), (5, .int .u32 (gn l0 0)), (6, .int .u32 (gn l0 1)), (7, .int .u32 (gn l0 2)), (8, .int .u32 (gn l0 3)), (9, .int .u32 (gn l0 4)), (10, .int .u32 (gn l0 5)), (11, .int .u32 (gn l0 6)), (12, .int .u32 (gn l0 7)), (36, .agg (iv .u32 r_15).toArray), (37, .int .i64 0)] (by repeat' constructor) ?_
 refine CW.loop (fun kL1 l_ w_ => ∃ (x_18 : Int) (x_19 : Int) (x_20 : Int) (x_21 : Int) (x_22 : Int) (x_23 : Int) (x_24 : Int) (x_25 : Int) (x_26 : Int), l_ = [(2, .pointer (some ⟨B_1, 0, none⟩)), (4, .pointer (some ⟨B_5, 0, none⟩)), (5, .int .u32 x_18), (6, .int .u32 x_19), (7, .int .u32 x_20), (8, .int .u32 x_21), (9, .int .u32 x_22), (10, .int .u32 x_23), (11, .int .u32 x_24), (12, .int .u32 x_25), (36, .agg (iv .u32 r_15).toArray), (37, .int .i64 x_26)] ∧ digest_state_mixed.L1 l0 r0 r_15 kL1 x_18 x_19 x_20 x_21 x_22 x_23 x_24 x_25 x_26 ∧ St w w_ [.cells B_5 (iv .u32 (List.replicate 8 (0 : Int))) 148, .cells B_1 (iv .u32 l0) 148]) (k := k_17) ⟨gn l0 0, gn l0 1, gn l0 2, gn l0 3, gn l0 4, gn l0 5, gn l0 6, gn l0 7, 0, rfl, H, st_13⟩ (fun _ _ h => by obtain ⟨_, _, _, _, _, _, _, _, _, _, h, _⟩ := h; exact h.elim) ?_
 rintro kL1 l_29 w_27 ⟨x_18, x_19, x_20, x_21, x_22, x_23, x_24, x_25, x_26, rfl, H, st_28⟩
 refine CW.seq (CW.region ?_)
 refine WL.val Wanted.none (Runs.lss rfl rfl rfl) ?_
 refine WL.nil (QW.then_n ?_)
 refine CW.seq ?_
 rcases H with ⟨c_30, H⟩ | ⟨c_30, H⟩
 ·have h_31 : (decide (x_26 < 64)) = true := (decide_eq_true c_30)
  refine CW.ct rfl h_31 ?_
  refine CW.skip ?_
  refine QW.then_n ?_
  refine CW.seq ?_
  refine CW.block ?_
  refine CW.seq (CW.region ?_)
  refine WL.val Wanted.none (Runs.move rfl) ?_
  obtain ⟨⟨p_32, q_33⟩, H⟩ := H
  refine WL.val Wanted.none (Runs.index_arr arr154 rfl hl_16 rfl p_32 q_33 (j := (x_26).toNat) (by first | rfl | omega)) ?_
  refine WL.val Wanted.none (Runs.assign rfl) ?_
  refine WL.val Wanted.none (Runs.assign rfl) ?_
  refine WL.nil (QW.then_n ?_)
  refine CW.seq ?_
  refine CW.region_qa wide (by kernel_rfl) st_28 ?_
  refine HL.val Wanted.none (fun wq sq => (Runs.move rfl)) ?_
  refine HL.val Wanted.none (fun wq sq => (Runs.move rfl)) ?_
  obtain ⟨r_38, hr_34, H⟩ := H
  refine HL.call Wanted.none ent83 rfl (fun wq sq => (digest_right.calls wq x_22 6 r_38 hr_34).mono (by rintro _ _ ⟨rfl, sc⟩; exact ⟨rfl, sq.call sc⟩)) ?_
  refine HL.val Wanted.none (fun wq sq => (Runs.move rfl)) ?_
  obtain ⟨r_43, hr_39, H⟩ := H
  refine HL.call Wanted.none ent83 rfl (fun wq sq => (digest_right.calls wq x_22 11 r_43 hr_39).mono (by rintro _ _ ⟨rfl, sc⟩; exact ⟨rfl, sq.call sc⟩)) ?_
  refine HL.val Wanted.none (fun wq sq => (Runs.bxor rfl rfl rfl)) ?_
  refine HL.val Wanted.none (fun wq sq => (Runs.move rfl)) ?_
  obtain ⟨r_48, hr_44, H⟩ := H
  refine HL.call Wanted.none ent83 rfl (fun wq sq => (digest_right.calls wq x_22 25 r_48 hr_44).mono (by rintro _ _ ⟨rfl, sc⟩; exact ⟨rfl, sq.call sc⟩)) ?_
  refine HL.val Wanted.none (fun wq sq => (Runs.bxor rfl rfl rfl)) ?_
  obtain ⟨x_49, e_50, H⟩ := H
  refine HL.val Wanted.none (fun wq sq => (Runs.add rfl rfl e_50)) ?_
  refine HL.val Wanted.none (fun wq sq => (Runs.move rfl)) ?_
  refine HL.val Wanted.none (fun wq sq => (Runs.move rfl)) ?_
  refine HL.val Wanted.none (fun wq sq => (Runs.band rfl rfl rfl)) ?_
  refine HL.val Wanted.none (fun wq sq => (Runs.move rfl)) ?_
  refine HL.val Wanted.none (fun wq sq => (Runs.compl rfl rfl)) ?_
  refine HL.val Wanted.none (fun wq sq => (Runs.move rfl)) ?_
  refine HL.val Wanted.none (fun wq sq => (Runs.band rfl rfl rfl)) ?_
  obtain ⟨x_51, e_52, H⟩ := H
  refine HL.val Wanted.none (fun wq sq => (Runs.bxor rfl rfl e_52)) ?_
  refine HL.val Wanted.none (fun wq sq => (Runs.add rfl rfl rfl)) ?_
  refine HL.val Wanted.none (fun wq sq => (Runs.move rfl)) ?_
  obtain ⟨⟨p_53, q_54⟩, H⟩ := H
  refine HL.val Wanted.none (fun wq sq => (Runs.indexAddr_glob arr154 rfl p_53 q_54 (o := (x_26).toNat) (by first | rfl | omega))) ?_
  refine HL.val Wanted.none (fun wq sq => (Runs.load nagg24 rfl ((hG0.ext sq).cell_iv rfl (by rw [tab0_len]; omega)))) ?_
  obtain ⟨x_55, e_56, H⟩ := H
  refine HL.val Wanted.none (fun wq sq => (Runs.add rfl rfl e_56)) ?_
  refine HL.val Wanted.none (fun wq sq => (Runs.move rfl)) ?_
  refine HL.val Wanted.none (fun wq sq => (Runs.add rfl rfl rfl)) ?_
  refine HL.val Wanted.none (fun wq sq => (Runs.assign rfl)) ?_
  refine HL.nil (fun w_57 st_58 => ?_)
  refine WL.nil (QW.then_n ?_)
  refine CW.seq (CW.region ?_)
  refine WL.val Wanted.none (Runs.move rfl) ?_
  obtain ⟨r_63, hr_59, H⟩ := H
  refine WL.call Wanted.none ent83 rfl (digest_right.calls w_57 x_18 2 r_63 hr_59) ?_
  rintro _ w_60 ⟨rfl, sc_62⟩
  have st_61 : St w w_60 [.cells B_5 (iv .u32 (List.replicate 8 (0 : Int))) 148, .cells B_1 (iv .u32 l0) 148] := st_58.call sc_62
  refine ⟨_, rfl, ?_⟩
  refine WL.val Wanted.none (Runs.move rfl) ?_
  obtain ⟨r_68, hr_64, H⟩ := H
  refine WL.call Wanted.none ent83 rfl (digest_right.calls w_60 x_18 13 r_68 hr_64) ?_
  rintro _ w_65 ⟨rfl, sc_67⟩
  have st_66 : St w w_65 [.cells B_5 (iv .u32 (List.replicate 8 (0 : Int))) 148, .cells B_1 (iv .u32 l0) 148] := st_61.call sc_67
  refine ⟨_, rfl, ?_⟩
  refine WL.val Wanted.none (Runs.bxor rfl rfl rfl) ?_
  refine WL.val Wanted.none (Runs.move rfl) ?_
  obtain ⟨r_73, hr_69, H⟩ := H
  refine WL.call Wanted.none ent83 rfl (digest_right.calls w_65 x_18 22 r_73 hr_69) ?_
  rintro _ w_70 ⟨rfl, sc_72⟩
  have st_71 : St w w_70 [.cells B_5 (iv .u32 (List.replicate 8 (0 : Int))) 148, .cells B_1 (iv .u32 l0) 148] := st_66.call sc_72
  refine ⟨_, rfl, ?_⟩
  refine WL.val Wanted.none (Runs.bxor rfl rfl rfl) ?_
  refine WL.val Wanted.none (Runs.move rfl) ?_
  refine WL.val Wanted.none (Runs.move rfl) ?_
  refine WL.val Wanted.none (Runs.band rfl rfl rfl) ?_
  refine WL.val Wanted.none (Runs.move rfl) ?_
  refine WL.val Wanted.none (Runs.move rfl) ?_
  refine WL.val Wanted.none (Runs.band rfl rfl rfl) ?_
  obtain ⟨x_74, e_75, H⟩ := H
  refine WL.val Wanted.none (Runs.bxor rfl rfl e_75) ?_
  refine WL.val Wanted.none (Runs.move rfl) ?_
  refine WL.val Wanted.none (Runs.move rfl) ?_
  refine WL.val Wanted.none (Runs.band rfl rfl rfl) ?_
  refine WL.val Wanted.none (Runs.bxor rfl rfl rfl) ?_
  obtain ⟨x_76, e_77, H⟩ := H
  refine WL.val Wanted.none (Runs.add rfl rfl e_77) ?_
  refine WL.val Wanted.none (Runs.assign rfl) ?_
  refine WL.nil (QW.then_n ?_)
  refine CW.region ?_
  refine WL.val Wanted.none (Runs.move rfl) ?_
  refine WL.val Wanted.none (Runs.move rfl) ?_
  refine WL.val Wanted.none (Runs.move rfl) ?_
  refine WL.val Wanted.none (Runs.move rfl) ?_
  refine WL.val Wanted.none (Runs.move rfl) ?_
  obtain ⟨x_78, e_79, H⟩ := H
  refine WL.val Wanted.none (Runs.add rfl rfl e_79) ?_
  refine WL.val Wanted.none (Runs.move rfl) ?_
  refine WL.val Wanted.none (Runs.move rfl) ?_
  refine WL.val Wanted.none (Runs.move rfl) ?_
  refine WL.val Wanted.none (Runs.move rfl) ?_
  refine WL.val Wanted.none (Runs.move rfl) ?_
  obtain ⟨x_80, e_81, H⟩ := H
  refine WL.val Wanted.none (Runs.add rfl rfl e_81) ?_
  refine WL.val Wanted.none (Runs.assign rfl) ?_
  refine WL.val Wanted.none (Runs.assign rfl) ?_
  refine WL.val Wanted.none (Runs.assign rfl) ?_
  refine WL.val Wanted.none (Runs.assign rfl) ?_
  refine WL.val Wanted.none (Runs.assign rfl) ?_
  refine WL.val Wanted.none (Runs.assign rfl) ?_
  refine WL.val Wanted.none (Runs.assign rfl) ?_
  refine WL.val Wanted.none (Runs.assign rfl) ?_
  refine WL.nil ?_
  refine QW.blk_n ?_
  refine QW.then_n ?_
  refine CW.region ?_
  refine WL.val Wanted.none (Runs.add rfl rfl rfl) ?_
  refine WL.val Wanted.none (Runs.move rfl) ?_
  refine WL.nil ?_
  exact QW.at _ (by repeat' constructor) ⟨x_80, x_18, x_19, x_20, x_78, x_22, x_23, x_24, IntKind.i64.wrap (x_26 + 1), rfl, H, st_71⟩
 ·have h_31 : (decide (x_26 < 64)) = false := (decide_eq_false c_30)
  refine CW.cf rfl h_31 ?_
  refine CW.exit ?_
  refine QW.then_x ?_
  refine QW.then_x ?_
  refine QW.blk_x ?_
  refine QW.then_n ?_
  refine CW.seq ?_
  refine CW.seq (CW.region ?_)
  refine WL.val Wanted.none (Runs.move rfl) ?_
  refine WL.val Wanted.none (Runs.move rfl) ?_
  refine WL.val Wanted.none (Runs.move rfl) ?_
  refine WL.val Wanted.none (Runs.move rfl) ?_
  refine WL.val Wanted.none (Runs.move rfl) ?_
  refine WL.val Wanted.none (Runs.move rfl) ?_
  refine WL.val Wanted.none (Runs.move rfl) ?_
  refine WL.val Wanted.none (Runs.move rfl) ?_
  obtain ⟨m_82, e_83, H⟩ := H
  refine WL.val Wanted.none (Runs.build_arr (xs := m_82) arr134 rfl rfl (by rw [e_83]; rfl)) ?_
  refine WL.val Wanted.none (Runs.move rfl) ?_
  refine WL.nil (QW.then_n ?_)
  refine CW.sub [(2, .pointer (some ⟨B_1, 0, none⟩)), (4, .pointer (some ⟨B_5, 0, none⟩)), (107, .agg (iv .u32 m_82).toArray), (108, .int .i64 0)] ⟨rfl, rfl, rfl, rfl, trivial⟩ ?_
  refine CW.block ?_
  obtain ⟨k_84, H⟩ := H
  refine CW.sub [(2, .pointer (some ⟨B_1, 0, none⟩)), (4, .pointer (some ⟨B_5, 0, none⟩)), (107, .agg (iv .u32 m_82).toArray), (108, .int .i64 0)] ⟨rfl, rfl, rfl, rfl, trivial⟩ ?_
  refine CW.loop (fun kL2 l_ w_ => ∃ (m_85 : List Int) (x_87 : Int), l_ = [(2, .pointer (some ⟨B_1, 0, none⟩)), (4, .pointer (some ⟨B_5, 0, none⟩)), (107, .agg (iv .u32 m_82).toArray), (108, .int .i64 x_87)] ∧ digest_state_mixed.L2 r0 m_82 kL2 m_85 x_87 ∧ (m_85.length = 8) ∧ St w w_ [.cells B_5 (iv .u32 (List.replicate 8 (0 : Int))) 148, .cells B_1 (iv .u32 m_85) 148]) (k := k_84) ⟨l0, 0, rfl, H, hl0, st_28⟩ (fun _ _ h => by obtain ⟨_, _, _, h, _⟩ := h; exact h.elim) ?_
  rintro kL2 l_90 w_88 ⟨m_85, x_87, rfl, H, hl_86, st_89⟩
  refine CW.seq (CW.region ?_)
  refine WL.val Wanted.none (Runs.lss rfl rfl rfl) ?_
  refine WL.nil (QW.then_n ?_)
  refine CW.seq ?_
  rcases H with ⟨c_91, H⟩ | ⟨c_91, H⟩
  ·have h_92 : (decide (x_87 < 8)) = true := (decide_eq_true c_91)
   refine CW.ct rfl h_92 ?_
   refine CW.skip ?_
   refine QW.then_n ?_
   refine CW.seq ?_
   refine CW.block ?_
   refine CW.seq (CW.region ?_)
   refine WL.val Wanted.none (Runs.move rfl) ?_
   obtain ⟨⟨p_93, q_94⟩, H⟩ := H
   refine WL.val Wanted.none (Runs.index_arr arr134 rfl (by rw [e_83]; rfl) rfl p_93 q_94 (j := (x_87).toNat) (by first | rfl | omega)) ?_
   refine WL.val Wanted.none (Runs.assign rfl) ?_
   refine WL.val Wanted.none (Runs.assign rfl) ?_
   refine WL.nil (QW.then_n ?_)
   refine CW.region ?_
   refine WL.val Wanted.none (Runs.move rfl) ?_
   obtain ⟨⟨p_95, q_96⟩, H⟩ := H
   refine WL.val Wanted.none (Runs.indexAddr_blk arr148 rfl rfl p_95 q_96 (o := (x_87).toNat) (by first | rfl | omega)) ?_
   refine WL.val Wanted.none (Runs.load nagg24 rfl (st_89.cell_iv (i := 1) rfl (by have := hl_86; omega))) ?_
   refine WL.val Wanted.none (Runs.move rfl) ?_
   obtain ⟨x_97, e_98, H⟩ := H
   refine WL.val Wanted.none (Runs.add rfl rfl e_98) ?_
   obtain ⟨⟨p_99, q_100⟩, H⟩ := H
   refine WL.val Wanted.none (Runs.indexAddr_blk arr148 rfl rfl p_99 q_100 (o := (x_87).toNat) (by first | rfl | omega)) ?_
   obtain ⟨m_101, e_102, H⟩ := H
   have hl_105 : m_101.length = 8 := by rw [e_102, List.length_set]; exact hl_86
   refine WL.store_cells (i := 1) st_89 rfl cells24 rfl (by rw [iv_length]; have := hl_86; omega) rfl rfl ?_
   intro w_103 st_104
   have st_104' : St w w_103 [.cells B_5 (iv .u32 (List.replicate 8 (0 : Int))) 148, .cells B_1 (iv .u32 m_101) 148] := by rw [e_102, ← iv_set .u32 m_85 (x_87.toNat) x_97]; exact st_104
   refine WL.nil ?_
   refine QW.blk_n ?_
   refine QW.then_n ?_
   refine CW.region ?_
   refine WL.val Wanted.none (Runs.add rfl rfl rfl) ?_
   refine WL.val Wanted.none (Runs.move rfl) ?_
   refine WL.nil ?_
   exact QW.at _ (by repeat' constructor) ⟨m_101, IntKind.i64.wrap (x_87 + 1), rfl, H, hl_105, st_104'⟩
  ·have h_92 : (decide (x_87 < 8)) = false := (decide_eq_false c_91)
   refine CW.cf rfl h_92 ?_
   refine CW.exit ?_
   refine QW.then_x ?_
   refine QW.then_x ?_
   refine QW.blk_x ?_
   refine QW.then_n ?_
   refine CW.seq (CW.region ?_)
   refine WL.val Wanted.none (Runs.load_arr arr148 rfl (st_89.blk (i := 1) rfl) hl_86) ?_
   refine WL.store_arr (i := 0) st_89 rfl arr148 rfl (by rw [iv_length]; exact (List.length_replicate ..)) hl_86 rfl ?_
   intro w_106 st_107
   replace st_107 : St w w_106 [.cells B_5 (iv .u32 m_85) 148, .cells B_1 (iv .u32 m_85) 148] := st_107
   refine WL.nil (QW.then_n ?_)
   refine CW.ret ?_
   obtain rfl := H
   exact QW.retc rfl arr148 rfl (st_107.blk (i := 0) rfl) hl_86 ⟨hl_86, rfl, st_107.pick [] (by decide)⟩

/-! ### digest_Of: function 54 -/
def digest_Of.L3 (r0 : List Int) (s_126 : List Int) : Nat → (List Int) → Int → Prop
 | 0, _, _ => False
 | kL3 + 1, m_137, x_139 => ((x_139 < 32 ∧ ((0 ≤ (IntKind.i64.wrap (Int.tdiv x_139 4)) ∧ (IntKind.i64.wrap (Int.tdiv x_139 4)) < (8 : Int)) ∧ (∃ x_147 : Int, x_147 = IntKind.i64.wrap (24 - (IntKind.i64.wrap ((Int.tmod x_139 4) * 8))) ∧ (0 ≤ x_147 ∧ (∃ x_150 : Int, x_150 = shrI .u32 (gn s_126 ((IntKind.i64.wrap (Int.tdiv x_139 4)).toNat)) x_147 ∧ ((0 ≤ x_139 ∧ x_139 < (32 : Int)) ∧ (∃ m_154 : List Int, m_154 = List.set m_137 (x_139.toNat) (IntKind.u8.wrap x_150) ∧ digest_Of.L3 r0 s_126 kL3 m_154 (IntKind.i64.wrap (x_139 + 1))))))))) ∨ (¬ (x_139 < 32) ∧ r0 = m_137))
def digest_Of.L2 (l0 : List Int) (r0 : List Int) : Nat → (List Int) → Int → Prop
 | 0, _, _ => False
 | kL2 + 1, l_55, x_58 => ((x_58 ≥ 0 ∧ (0 ≤ x_58 ∧ (∃ x_65 : Int, x_65 = shrI .u64 (IntKind.u64.wrap (8 * (IntKind.u64.wrap (l0.length : Int)))) x_58 ∧ (∃ m_71 : List Int, m_71 = l_55 ++ [IntKind.u8.wrap x_65] ∧ (m_71.length ≤ 1099511627776 ∧ digest_Of.L2 l0 r0 kL2 m_71 (IntKind.i64.wrap (x_58 - 8))))))) ∨ (¬ (x_58 ≥ 0) ∧ (∃ (r_84 : List Int), digest_first.rel  r_84 ∧ (∃ (q_100 : Nat), (l_55.length ≤ 64 * q_100 ∧ (∀ j : Nat, j < q_100 → 64 * j < l_55.length) ∧ l_55.length ≤ 1099511627776) ∧ ∃ (Inv_101 : List Int → Prop) (g_102 : Nat → List Int → List Int), Inv_101 r_84 ∧ (∀ (x_108 : Nat) (s_109 : List Int), x_108 < q_100 → Inv_101 s_109 → s_109.length = 8 → (∃ (r_119 : List Int), digest_state_mixed.rel s_109 (chl l_55 64 x_108) r_119 ∧ (Inv_101 r_119 ∧ r_119 = g_102 x_108 s_109))) ∧ ∃ s_126 : List Int, s_126 = (List.range q_100).foldl (fun s_ x_ => g_102 x_ s_) r_84 ∧ (∃ k_ : Nat, digest_Of.L3 r0 s_126 k_ (List.replicate 32 (0 : Int)) 0)))))
def digest_Of.L1 (l0 : List Int) (r0 : List Int) : Nat → (List Int) → Prop
 | 0, _ => False
 | kL1 + 1, l_31 => (((Int.tmod (l_31.length : Int) 64) ≠ 56 ∧ (∃ m_43 : List Int, m_43 = l_31 ++ [0] ∧ (m_43.length ≤ 1099511627776 ∧ digest_Of.L1 l0 r0 kL1 m_43))) ∨ (¬ ((Int.tmod (l_31.length : Int) 64) ≠ 56) ∧ (∃ k_ : Nat, digest_Of.L2 l0 r0 k_ l_31 56)))
def digest_Of.rel (l0 : List Int) (r0 : List Int) : Prop := (∃ (r_9 : List Int), slices_Clone_s_byte_byte.rel l0 r_9 ∧ (∃ m_19 : List Int, m_19 = r_9 ++ [128] ∧ (m_19.length ≤ 1099511627776 ∧ (∃ k_ : Nat, digest_Of.L1 l0 r0 k_ m_19))))
set_option maxHeartbeats 4000000 in
set_option maxRecDepth 100000 in
theorem digest_Of.calls (w : World) (l0 : List Int) (A0 : Option Addr) (n0 : Nat) (c0 : Nat)  (hG0 : Src w (some ⟨0, 0, none⟩) (iv .u32 tab0)) (hs0 : Src w A0 (iv .u8 l0)) (hn0 : n0 = l0.length) (hc0 : n0 ≤ c0) (r0 : List Int) (H : digest_Of.rel l0 r0) :
  Calls Tryd.prog 54 #[.slice A0 n0 c0] w fun e w' => r0.length = 32 ∧ e = .returned (.agg (iv .u8 r0).toArray) ∧ St w w' [] := by
 refine CW.enterM Tryd.func54 rfl (n := 58) rfl [.slice A0 n0 c0] (Nat.le_of_ble_eq_true rfl) ?_
 refine CW.sub [(0, .slice A0 n0 c0)] ⟨rfl, trivial⟩ ?_
 have st0 : St w w [] := St.refl w
 refine CW.seq (CW.region ?_)
 refine WL.alloc st0 arr23.zero ?_
 intro B_1 w_2 st_3
 replace st_3 : St w w_2 [.cells B_1 (iv .u8 (List.replicate 32 (0 : Int))) 23] := st_3
 refine WL.nil (QW.then_n ?_)
 refine CW.seq (CW.region ?_)
 refine WL.val Wanted.none (Runs.move rfl) ?_
 obtain ⟨r_9, hr_5, H⟩ := H
 refine WL.call Wanted.none ent48 rfl (slices_Clone_s_byte_byte.calls w_2 l0 A0 n0 c0 (hs0.ext st_3) (hn0) (hc0) r_9 hr_5) ?_
 rintro _ w_6 ⟨A_10, c_11, n_12, hn_13, rfl, sc_8⟩
 have st_7 : St w w_6 [.sl A_10 c_11 n_12 (iv .u8 r_9) 5 1, .cells B_1 (iv .u8 (List.replicate 32 (0 : Int))) 23] := st_3.call sc_8
 refine ⟨_, rfl, ?_⟩
 refine WL.buildSl [.int .u8 128] st_7 Tryd.underlying25 elem5 rfl rfl (by decide) (by decide) (by simp [Value.cells]) ?_
 intro B_15 w_16 st_17
 replace st_17 : St w w_16 [.sl (some ⟨B_15, 0, none⟩) 1 1 (iv .u8 [128]) 5 1, .sl A_10 c_11 n_12 (iv .u8 r_9) 5 1, .cells B_1 (iv .u8 (List.replicate 32 (0 : Int))) 23] := st_17
 obtain ⟨m_19, e_20, H⟩ := H
 obtain ⟨z_21, H⟩ := H
 obtain ⟨n_24, hn_27⟩ : ∃ n_ : Nat, n_ = m_19.length := ⟨_, rfl⟩
 refine WL.append (i := 1) Wanted.none st_17 rfl Tryd.underlying25 elem5 rfl rfl (st_17.src_sl (k := 0) rfl) (by rw [iv_length]; exact (Eq.refl _).symm) (one_iv .u8 _) (by decide) (N := n_24) (by rw [hn_27, e_20, List.length_append]; exact congr (congrArg HAdd.hAdd (hn_13)) (rfl)) (by rw [hn_27]; exact z_21) ?_
 intro A_22 c_23 w_25 st_26
 have st_26' : St w w_25 [.sl (some ⟨B_15, 0, none⟩) 1 1 (iv .u8 [128]) 5 1, .sl A_22 c_23 n_24 (iv .u8 m_19) 5 1, .cells B_1 (iv .u8 (List.replicate 32 (0 : Int))) 23] := by rw [e_20, ← iv_append .u8 r_9 [128]]; exact st_26
 refine WL.val Wanted.none (Runs.assign rfl) ?_
 refine WL.nil (QW.then_n ?_)
 refine CW.seq ?_
 refine CW.block ?_
 obtain ⟨k_28, H⟩ := H
 refine CW.sub [(0, .slice A0 n0 c0), (2, .pointer (some ⟨B_1, 0, none⟩)), (3, .slice A_22 n_24 c_23)] ⟨rfl, rfl, rfl, trivial⟩ ?_
 refine CW.loop (fun kL1 l_ w_ => ∃ (A_29 : Option Addr) (c_30 : Nat) (n_32 : Nat) (l_31 : List Int), l_ = [(0, .slice A0 n0 c0), (2, .pointer (some ⟨B_1, 0, none⟩)), (3, .slice A_29 n_32 c_30)] ∧ digest_Of.L1 l0 r0 kL1 l_31 ∧ (n_32 = l_31.length) ∧ St w w_ [.sl (some ⟨B_15, 0, none⟩) 1 1 (iv .u8 [128]) 5 1, .sl A_29 c_30 n_32 (iv .u8 l_31) 5 1, .cells B_1 (iv .u8 (List.replicate 32 (0 : Int))) 23]) (k := k_28) ⟨A_22, c_23, n_24, m_19, rfl, H, hn_27, st_26'⟩ (fun _ _ h => by obtain ⟨_, _, _, _, _, h, _⟩ := h; exact h.elim) ?_
 rintro kL1 l_36 w_34 ⟨A_29, c_30, n_32, l_31, rfl, H, hn_33, st_35⟩
 refine CW.seq ?_
 refine CW.seq (CW.region ?_)
 refine WL.val Wanted.none (Runs.move rfl) ?_
 refine WL.val Wanted.none (Runs.len_sl Tryd.underlying25 rfl (by rw [hn_33])) ?_
 refine WL.val Wanted.none (Runs.rem rfl rfl (by decide) rfl) ?_
 refine WL.val Wanted.none (Runs.neq rfl rfl rfl) ?_
 refine WL.nil (QW.then_n ?_)
 rcases H with ⟨c_37, H⟩ | ⟨c_37, H⟩
 ·have h_38 : ((Int.tmod (l_31.length : Int) 64) != 56) = true := (bne_iff_ne.mpr c_37)
  refine CW.ct rfl h_38 ?_
  refine CW.skip ?_
  refine QW.then_n ?_
  refine CW.block ?_
  refine CW.region ?_
  refine WL.val Wanted.none (Runs.move rfl) ?_
  refine WL.buildSl [.int .u8 0] st_35 Tryd.underlying25 elem5 rfl rfl (by decide) (by decide) (by simp [Value.cells]) ?_
  intro B_39 w_40 st_41
  replace st_41 : St w w_40 [.sl (some ⟨B_39, 0, none⟩) 1 1 (iv .u8 [0]) 5 1, .sl (some ⟨B_15, 0, none⟩) 1 1 (iv .u8 [128]) 5 1, .sl A_29 c_30 n_32 (iv .u8 l_31) 5 1, .cells B_1 (iv .u8 (List.replicate 32 (0 : Int))) 23] := st_41
  obtain ⟨m_43, e_44, H⟩ := H
  obtain ⟨z_45, H⟩ := H
  obtain ⟨n_48, hn_51⟩ : ∃ n_ : Nat, n_ = m_43.length := ⟨_, rfl⟩
  refine WL.append (i := 2) Wanted.none st_41 rfl Tryd.underlying25 elem5 rfl rfl (st_41.src_sl (k := 0) rfl) (by rw [iv_length]; exact (Eq.refl _).symm) (one_iv .u8 _) (by decide) (N := n_48) (by rw [hn_51, e_44, List.length_append]; exact congr (congrArg HAdd.hAdd (hn_33)) (rfl)) (by rw [hn_51]; exact z_45) ?_
  intro A_46 c_47 w_49 st_50
  have st_50' : St w w_49 [.sl (some ⟨B_39, 0, none⟩) 1 1 (iv .u8 [0]) 5 1, .sl (some ⟨B_15, 0, none⟩) 1 1 (iv .u8 [128]) 5 1, .sl A_46 c_47 n_48 (iv .u8 m_43) 5 1, .cells B_1 (iv .u8 (List.replicate 32 (0 : Int))) 23] := by rw [e_44, ← iv_append .u8 l_31 [0]]; exact st_50
  refine WL.val Wanted.none (Runs.assign rfl) ?_
  refine WL.nil ?_
  refine QW.blk_n ?_
  have st_50'' := st_50'.pick [1, 2, 3] (by decide)
  exact QW.at _ (by repeat' constructor) ⟨A_46, c_47, n_48, m_43, rfl, H, hn_51, st_50''⟩
 ·have h_38 : ((Int.tmod (l_31.length : Int) 64) != 56) = false := (bne_eq_false_iff_eq.mpr (Decidable.not_not.mp c_37))
  refine CW.cf rfl h_38 ?_
  refine CW.exit ?_
  refine QW.then_x ?_
  refine QW.then_x ?_
  refine QW.blk_x ?_
  refine QW.then_n ?_
  refine CW.seq ?_
  refine CW.seq (CW.region ?_)
  refine WL.val Wanted.none (Runs.assign rfl) ?_
  refine WL.nil (QW.then_n ?_)
  refine CW.block ?_
  obtain ⟨k_52, H⟩ := H
  refine CW.sub [(0, .slice A0 n0 c0), (2, .pointer (some ⟨B_1, 0, none⟩)), (3, .slice A_29 n_32 c_30), (4, .int .i64 56)] ⟨rfl, rfl, rfl, rfl, trivial⟩ ?_
  refine CW.loop (fun kL2 l_ w_ => ∃ (A_53 : Option Addr) (c_54 : Nat) (n_56 : Nat) (l_55 : List Int) (x_58 : Int), l_ = [(0, .slice A0 n0 c0), (2, .pointer (some ⟨B_1, 0, none⟩)), (3, .slice A_53 n_56 c_54), (4, .int .i64 x_58)] ∧ digest_Of.L2 l0 r0 kL2 l_55 x_58 ∧ (n_56 = l_55.length) ∧ St w w_ [.sl (some ⟨B_15, 0, none⟩) 1 1 (iv .u8 [128]) 5 1, .sl A_53 c_54 n_56 (iv .u8 l_55) 5 1, .cells B_1 (iv .u8 (List.replicate 32 (0 : Int))) 23]) (k := k_52) ⟨A_29, c_30, n_32, l_31, 56, rfl, H, hn_33, st_35⟩ (fun _ _ h => by obtain ⟨_, _, _, _, _, _, h, _⟩ := h; exact h.elim) ?_
  rintro kL2 l_61 w_59 ⟨A_53, c_54, n_56, l_55, x_58, rfl, H, hn_57, st_60⟩
  refine CW.seq ?_
  refine CW.seq (CW.region ?_)
  refine WL.val Wanted.none (Runs.move rfl) ?_
  refine WL.val Wanted.none (Runs.geq rfl rfl rfl) ?_
  refine WL.nil (QW.then_n ?_)
  rcases H with ⟨c_62, H⟩ | ⟨c_62, H⟩
  ·have h_63 : (decide (x_58 ≥ 0)) = true := (decide_eq_true c_62)
   refine CW.ct rfl h_63 ?_
   refine CW.skip ?_
   refine QW.then_n ?_
   refine CW.seq ?_
   refine CW.block ?_
   refine CW.region ?_
   refine WL.val Wanted.none (Runs.move rfl) ?_
   refine WL.val Wanted.none (Runs.move rfl) ?_
   refine WL.val Wanted.none (Runs.len_sl Tryd.underlying25 rfl (by rw [hn0])) ?_
   refine WL.val Wanted.none (Runs.conv Tryd.underlying37 ⟨_, Tryd.underlying3⟩ rfl rfl) ?_
   refine WL.val Wanted.none (Runs.mul rfl rfl rfl) ?_
   refine WL.val Wanted.none (Runs.move rfl) ?_
   obtain ⟨z_64, H⟩ := H
   obtain ⟨x_65, e_66, H⟩ := H
   refine WL.val Wanted.none (Runs.shr rfl rfl z_64 e_66) ?_
   refine WL.val Wanted.none (Runs.conv Tryd.underlying5 ⟨_, Tryd.underlying37⟩ rfl rfl) ?_
   refine WL.buildSl [.int .u8 (IntKind.u8.wrap x_65)] st_60 Tryd.underlying25 elem5 rfl rfl (by decide) (by decide) (by simp [Value.cells]) ?_
   intro B_67 w_68 st_69
   replace st_69 : St w w_68 [.sl (some ⟨B_67, 0, none⟩) 1 1 (iv .u8 [IntKind.u8.wrap x_65]) 5 1, .sl (some ⟨B_15, 0, none⟩) 1 1 (iv .u8 [128]) 5 1, .sl A_53 c_54 n_56 (iv .u8 l_55) 5 1, .cells B_1 (iv .u8 (List.replicate 32 (0 : Int))) 23] := st_69
   obtain ⟨m_71, e_72, H⟩ := H
   obtain ⟨z_73, H⟩ := H
   obtain ⟨n_76, hn_79⟩ : ∃ n_ : Nat, n_ = m_71.length := ⟨_, rfl⟩
   refine WL.append (i := 2) Wanted.none st_69 rfl Tryd.underlying25 elem5 rfl rfl (st_69.src_sl (k := 0) rfl) (by rw [iv_length]; exact (Eq.refl _).symm) (one_iv .u8 _) (by decide) (N := n_76) (by rw [hn_79, e_72, List.length_append]; exact congr (congrArg HAdd.hAdd (hn_57)) (rfl)) (by rw [hn_79]; exact z_73) ?_
   intro A_74 c_75 w_77 st_78
   have st_78' : St w w_77 [.sl (some ⟨B_67, 0, none⟩) 1 1 (iv .u8 [IntKind.u8.wrap x_65]) 5 1, .sl (some ⟨B_15, 0, none⟩) 1 1 (iv .u8 [128]) 5 1, .sl A_74 c_75 n_76 (iv .u8 m_71) 5 1, .cells B_1 (iv .u8 (List.replicate 32 (0 : Int))) 23] := by rw [e_72, ← iv_append .u8 l_55 [IntKind.u8.wrap x_65]]; exact st_78
   refine WL.val Wanted.none (Runs.assign rfl) ?_
   refine WL.nil ?_
   refine QW.blk_n ?_
   refine QW.then_n ?_
   refine CW.region ?_
   refine WL.val Wanted.none (Runs.move rfl) ?_
   refine WL.val Wanted.none (Runs.sub rfl rfl rfl) ?_
   refine WL.val Wanted.none (Runs.assign rfl) ?_
   refine WL.nil ?_
   have st_78'' := st_78'.pick [1, 2, 3] (by decide)
   exact QW.at _ (by repeat' constructor) ⟨A_74, c_75, n_76, m_71, IntKind.i64.wrap (x_58 - 8), rfl, H, hn_79, st_78''⟩
  ·have h_63 : (decide (x_58 ≥ 0)) = false := (decide_eq_false c_62)
   refine CW.cf rfl h_63 ?_
   refine CW.exit ?_
   refine QW.then_x ?_
   refine QW.then_x ?_
   refine QW.blk_x ?_
   refine QW.then_n ?_
   refine CW.seq (CW.region ?_)
   obtain ⟨r_84, hr_80, H⟩ := H
   refine WL.call Wanted.none ent71 rfl (digest_first.calls w_59 r_84 hr_80) ?_
   rintro _ w_81 ⟨hl_85, rfl, sc_83⟩
   have st_82 : St w w_81 [.sl (some ⟨B_15, 0, none⟩) 1 1 (iv .u8 [128]) 5 1, .sl A_53 c_54 n_56 (iv .u8 l_55) 5 1, .cells B_1 (iv .u8 (List.replicate 32 (0 : Int))) 23] := st_60.call sc_83
   refine ⟨_, rfl, ?_⟩
   refine WL.alloc st_82 arr148.zero ?_
   intro B_86 w_87 st_88
   replace st_88 : St w w_87 [.cells B_86 (iv .u32 (List.replicate 8 (0 : Int))) 148, .sl (some ⟨B_15, 0, none⟩) 1 1 (iv .u8 [128]) 5 1, .sl A_53 c_54 n_56 (iv .u8 l_55) 5 1, .cells B_1 (iv .u8 (List.replicate 32 (0 : Int))) 23] := st_88
   refine WL.store_arr (i := 0) st_88 rfl arr148 rfl (by rw [iv_length]; exact (List.length_replicate ..)) hl_85 rfl ?_
   intro w_90 st_91
   replace st_91 : St w w_90 [.cells B_86 (iv .u32 r_84) 148, .sl (some ⟨B_15, 0, none⟩) 1 1 (iv .u8 [128]) 5 1, .sl A_53 c_54 n_56 (iv .u8 l_55) 5 1, .cells B_1 (iv .u8 (List.replicate 32 (0 : Int))) 23] := st_91
   refine WL.nil (QW.then_n ?_)
   refine CW.seq ?_
   refine CW.seq (CW.region ?_)
   refine WL.val Wanted.none (Runs.move rfl) ?_
   refine WL.call Wanted.none ent72 rfl (slices_Chunk.calls w_90 A_53 n_56 c_54 64 (by decide)) ?_
   rintro _ w_95 ⟨B_93, B_94, rfl, sc_97⟩
   have st_96 : St w w_95 [.cells B_94 [.int .i64 ((64 : Nat) : Int)] 3, .cells B_93 [.slice A_53 n_56 c_54] 25, .cells B_86 (iv .u32 r_84) 148, .sl (some ⟨B_15, 0, none⟩) 1 1 (iv .u8 [128]) 5 1, .sl A_53 c_54 n_56 (iv .u8 l_55) 5 1, .cells B_1 (iv .u8 (List.replicate 32 (0 : Int))) 23] := st_91.call sc_97
   refine ⟨_, rfl, ?_⟩
   refine WL.nil (QW.then_n ?_)
   refine CW.sub [(2, .pointer (some ⟨B_1, 0, none⟩)), (5, .pointer (some ⟨B_86, 0, none⟩)), (36, .func (.func 81) #[] #[.pointer (some ⟨B_93, 0, none⟩), .pointer (some ⟨B_94, 0, none⟩)])] ⟨rfl, rfl, rfl, trivial⟩ ?_
   refine CW.block ?_
   obtain ⟨q_100, ⟨h_105, h_106, h_107⟩, Inv_101, g_102, hI_103, hB_104, s_126, e_127, H⟩ := H
   refine CW.sub [(2, .pointer (some ⟨B_1, 0, none⟩)), (5, .pointer (some ⟨B_86, 0, none⟩)), (36, .func (.func 81) #[] #[.pointer (some ⟨B_93, 0, none⟩), .pointer (some ⟨B_94, 0, none⟩)])] ⟨rfl, rfl, rfl, trivial⟩ ?_
   have hc1 := st_96.cell (k := 1) (i := 0) rfl rfl
   have hc2 := st_96.cell (k := 0) (i := 0) rfl rfl
   refine CW.range (α := Fin q_100) (σ := List Int) st_96 rfl ent81 (chunk_seq (c := 64) hc1 hc2 (st_96.cap (i := 4) rfl) (by decide) (by decide) (by rw [hn_57]; exact h_107) (by rw [hn_57]; exact h_105) (fun j hj => by rw [hn_57]; exact h_106 j hj)) (fun h k => h.trans k) (fun W j o o2 h1 h2 h3 => KpB.put (block_lt_of_cell hc1) (block_lt_of_cell hc2) W j o o2 h1 h2 h3) (fun pre s_ => s_ = pre.foldl (fun s_ x_ => g_102 x_.val s_) r_84 ∧ Inv_101 s_ ∧ s_.length = 8) (fun s_109 => [.cells B_94 [.int .i64 ((64 : Nat) : Int)] 3, .cells B_93 [.slice A_53 n_56 c_54] 25, .cells B_86 (iv .u32 s_109) 148, .sl (some ⟨B_15, 0, none⟩) 1 1 (iv .u8 [128]) 5 1, .sl A_53 c_54 n_56 (iv .u8 l_55) 5 1, .cells B_1 (iv .u8 (List.replicate 32 (0 : Int))) 23]) (fun _ => rfl) r_84 ⟨rfl, hI_103, hl_85⟩ rfl ?_ rfl ?_
   ·rintro j_ pre_ x_108 s_109 w_110 ⟨hs_112, hI_113, hl_114⟩ st_111 _ b hb hd
    refine wpIn_block ?_
    refine WL.round (n := 58) (.inr ⟨j_, rfl⟩) (fun ⟨a, w, h⟩ => h) rfl ?_ hb hd
    have H := hB_104 x_108.val s_109 x_108.isLt hI_113 hl_114
    refine WL.val Wanted.none (Runs.load_arr arr148 rfl (st_111.blk (i := 2) rfl) hl_114) ?_
    refine WL.val Wanted.none (Runs.move rfl) ?_
    obtain ⟨r_119, hr_115, H⟩ := H
    refine WL.call Wanted.none ent73 rfl (digest_state_mixed.calls w_110 s_109 (chl l_55 64 x_108.val) (A_53.map (·.add (64 * x_108.val))) (min 64 (n_56 - 64 * x_108.val)) (min 64 (n_56 - 64 * x_108.val)) (hG0.ext st_111) hl_114 ((st_111.src_sl (k := 4) rfl).chunk 64 x_108.val) ((by rw [hn_57]; exact chl_length _ _ _)) (Nat.le_refl _) r_119 hr_115) ?_
    rintro _ w_116 ⟨hl_120, rfl, sc_118⟩
    have kp_121 := keeps_of_below sc_118.ext
    have st_117 : St w w_116 [.cells B_94 [.int .i64 ((64 : Nat) : Int)] 3, .cells B_93 [.slice A_53 n_56 c_54] 25, .cells B_86 (iv .u32 s_109) 148, .sl (some ⟨B_15, 0, none⟩) 1 1 (iv .u8 [128]) 5 1, .sl A_53 c_54 n_56 (iv .u8 l_55) 5 1, .cells B_1 (iv .u8 (List.replicate 32 (0 : Int))) 23] := st_111.call sc_118
    refine ⟨_, rfl, ?_⟩
    refine WL.store_arrK (i := 2) st_117 rfl arr148 rfl (by rw [iv_length]; exact hl_114) hl_120 rfl ?_
    intro w_122 st_123 kp_124
    replace st_123 : St w w_122 [.cells B_94 [.int .i64 ((64 : Nat) : Int)] 3, .cells B_93 [.slice A_53 n_56 c_54] 25, .cells B_86 (iv .u32 r_119) 148, .sl (some ⟨B_15, 0, none⟩) 1 1 (iv .u8 [128]) 5 1, .sl A_53 c_54 n_56 (iv .u8 l_55) 5 1, .cells B_1 (iv .u8 (List.replicate 32 (0 : Int))) 23] := st_123
    refine WL.nil ?_
    refine QW.blk_n ?_
    obtain ⟨hI1, hg1⟩ := H
    exact fun b hb hd => ⟨(kp_121).trans kp_124, ⟨(st_123.cell (k := 1) rfl rfl).trans (st_111.cell (k := 1) rfl rfl).symm, (st_123.cell (k := 0) rfl rfl).trans (st_111.cell (k := 0) rfl rfl).symm⟩, r_119, ⟨by rw [List.foldl_append, ← hs_112]; exact hg1, hI1, hl_120⟩, st_123⟩
   ·rintro D_125 s_z w_128 ⟨rfl_, _, hl_130⟩ st_129
    rw [foldl_fin, ← e_127] at rfl_
    rw [rfl_] at st_129 hl_130
    have st_129 : St w w_128 [.obj D_125 (.deferred (some [])), .cells B_94 [.int .i64 ((64 : Nat) : Int)] 3, .cells B_93 [.slice A_53 n_56 c_54] 25, .cells B_86 (iv .u32 s_126) 148, .sl (some ⟨B_15, 0, none⟩) 1 1 (iv .u8 [128]) 5 1, .sl A_53 c_54 n_56 (iv .u8 l_55) 5 1, .cells B_1 (iv .u8 (List.replicate 32 (0 : Int))) 23] := st_129
    refine QW.blk_n ?_
    refine QW.then_n ?_
    refine CW.seq (CW.region ?_)
    refine WL.alloc st_129 arr23.zero ?_
    intro B_132 w_133 st_134
    replace st_134 : St w w_133 [.cells B_132 (iv .u8 (List.replicate 32 (0 : Int))) 23, .obj D_125 (.deferred (some [])), .cells B_94 [.int .i64 ((64 : Nat) : Int)] 3, .cells B_93 [.slice A_53 n_56 c_54] 25, .cells B_86 (iv .u32 s_126) 148, .sl (some ⟨B_15, 0, none⟩) 1 1 (iv .u8 [128]) 5 1, .sl A_53 c_54 n_56 (iv .u8 l_55) 5 1, .cells B_1 (iv .u8 (List.replicate 32 (0 : Int))) 23] := st_134
    refine WL.nil (QW.then_n ?_)
    refine CW.seq ?_
    refine CW.seq (CW.region ?_)
    refine WL.val Wanted.none (Runs.move rfl) ?_
    refine WL.nil (QW.then_n ?_)
    refine CW.block ?_
    obtain ⟨k_136, H⟩ := H
    refine CW.sub [(2, .pointer (some ⟨B_1, 0, none⟩)), (5, .pointer (some ⟨B_86, 0, none⟩)), (7, .pointer (some ⟨B_132, 0, none⟩)), (41, .int .i64 0)] ⟨rfl, rfl, rfl, rfl, trivial⟩ ?_
    refine CW.loop (fun kL3 l_ w_ => ∃ (m_137 : List Int) (x_139 : Int), l_ = [(2, .pointer (some ⟨B_1, 0, none⟩)), (5, .pointer (some ⟨B_86, 0, none⟩)), (7, .pointer (some ⟨B_132, 0, none⟩)), (41, .int .i64 x_139)] ∧ digest_Of.L3 r0 s_126 kL3 m_137 x_139 ∧ (m_137.length = 32) ∧ St w w_ [.cells B_132 (iv .u8 m_137) 23, .obj D_125 (.deferred (some [])), .cells B_94 [.int .i64 ((64 : Nat) : Int)] 3, .cells B_93 [.slice A_53 n_56 c_54] 25, .cells B_86 (iv .u32 s_126) 148, .sl (some ⟨B_15, 0, none⟩) 1 1 (iv .u8 [128]) 5 1, .sl A_53 c_54 n_56 (iv .u8 l_55) 5 1, .cells B_1 (iv .u8 (List.replicate 32 (0 : Int))) 23]) (k := k_136) ⟨List.replicate 32 (0 : Int), 0, rfl, H, (List.length_replicate ..), st_134⟩ (fun _ _ h => by obtain ⟨_, _, _, h, _⟩ := h; exact h.elim) ?_
    rintro kL3 l_142 w_140 ⟨m_137, x_139, rfl, H, hl_138, st_141⟩
    refine CW.seq (CW.region ?_)
    refine WL.val Wanted.none (Runs.lss rfl rfl rfl) ?_
    refine WL.nil (QW.then_n ?_)
    refine CW.seq ?_
    rcases H with ⟨c_143, H⟩ | ⟨c_143, H⟩
    ·have h_144 : (decide (x_139 < 32)) = true := (decide_eq_true c_143)
     refine CW.ct rfl h_144 ?_
     refine CW.skip ?_
     refine QW.then_n ?_
     refine CW.seq ?_
     refine CW.block ?_
     refine CW.seq (CW.region ?_)
     refine WL.val Wanted.none (Runs.move rfl) ?_
     refine WL.val Wanted.none (Runs.assign rfl) ?_
     refine WL.nil (QW.then_n ?_)
     refine CW.region ?_
     refine WL.val Wanted.none (Runs.move rfl) ?_
     refine WL.val Wanted.none (Runs.move rfl) ?_
     refine WL.val Wanted.none (Runs.quo rfl rfl (by decide) rfl) ?_
     obtain ⟨⟨p_145, q_146⟩, H⟩ := H
     refine WL.val Wanted.none (Runs.indexAddr_blk arr148 rfl rfl p_145 q_146 (o := (IntKind.i64.wrap (Int.tdiv x_139 4)).toNat) (by first | rfl | omega)) ?_
     refine WL.val Wanted.none (Runs.load nagg24 rfl (st_141.cell_iv (i := 4) rfl (by have := hl_130; omega))) ?_
     refine WL.val Wanted.none (Runs.move rfl) ?_
     refine WL.val Wanted.none (Runs.rem rfl rfl (by decide) rfl) ?_
     refine WL.val Wanted.none (Runs.mul rfl rfl rfl) ?_
     obtain ⟨x_147, e_148, H⟩ := H
     refine WL.val Wanted.none (Runs.sub rfl rfl e_148) ?_
     obtain ⟨z_149, H⟩ := H
     obtain ⟨x_150, e_151, H⟩ := H
     refine WL.val Wanted.none (Runs.shr rfl rfl z_149 e_151) ?_
     refine WL.val Wanted.none (Runs.conv Tryd.underlying5 ⟨_, Tryd.underlying24⟩ rfl rfl) ?_
     obtain ⟨⟨p_152, q_153⟩, H⟩ := H
     refine WL.val Wanted.none (Runs.indexAddr_blk arr23 rfl rfl p_152 q_153 (o := (x_139).toNat) (by first | rfl | omega)) ?_
     obtain ⟨m_154, e_155, H⟩ := H
     have hl_158 : m_154.length = 32 := by rw [e_155, List.length_set]; exact hl_138
     refine WL.store_cells (i := 0) st_141 rfl cells5 rfl (by rw [iv_length]; have := hl_138; omega) rfl rfl ?_
     intro w_156 st_157
     have st_157' : St w w_156 [.cells B_132 (iv .u8 m_154) 23, .obj D_125 (.deferred (some [])), .cells B_94 [.int .i64 ((64 : Nat) : Int)] 3, .cells B_93 [.slice A_53 n_56 c_54] 25, .cells B_86 (iv .u32 s_126) 148, .sl (some ⟨B_15, 0, none⟩) 1 1 (iv .u8 [128]) 5 1, .sl A_53 c_54 n_56 (iv .u8 l_55) 5 1, .cells B_1 (iv .u8 (List.replicate 32 (0 : Int))) 23] := by rw [e_155, ← iv_set .u8 m_137 (x_139.toNat) (IntKind.u8.wrap x_150)]; exact st_157
     refine WL.nil ?_
     refine QW.blk_n ?_
     refine QW.then_n ?_
     refine CW.region ?_
     refine WL.val Wanted.none (Runs.add rfl rfl rfl) ?_
     refine WL.val Wanted.none (Runs.move rfl) ?_
     refine WL.nil ?_
     exact QW.at _ (by repeat' constructor) ⟨m_154, IntKind.i64.wrap (x_139 + 1), rfl, H, hl_158, st_157'⟩
    ·have h_144 : (decide (x_139 < 32)) = false := (decide_eq_false c_143)
     refine CW.cf rfl h_144 ?_
     refine CW.exit ?_
     refine QW.then_x ?_
     refine QW.then_x ?_
     refine QW.blk_x ?_
     refine QW.then_n ?_
     refine CW.seq (CW.region ?_)
     refine WL.val Wanted.none (Runs.load_arr arr23 rfl (st_141.blk (i := 0) rfl) hl_138) ?_
     refine WL.store_arr (i := 7) st_141 rfl arr23 rfl (by rw [iv_length]; exact (List.length_replicate ..)) hl_138 rfl ?_
     intro w_159 st_160
     replace st_160 : St w w_159 [.cells B_132 (iv .u8 m_137) 23, .obj D_125 (.deferred (some [])), .cells B_94 [.int .i64 ((64 : Nat) : Int)] 3, .cells B_93 [.slice A_53 n_56 c_54] 25, .cells B_86 (iv .u32 s_126) 148, .sl (some ⟨B_15, 0, none⟩) 1 1 (iv .u8 [128]) 5 1, .sl A_53 c_54 n_56 (iv .u8 l_55) 5 1, .cells B_1 (iv .u8 m_137) 23] := st_160
     refine WL.nil (QW.then_n ?_)
     refine CW.ret ?_
     obtain rfl := H
     refine QW.retMc st_160 (i := 1) rfl rfl arr23 rfl (j := 7) (by decide) rfl hl_138 (fun wz stz => ?_)
     exact ⟨hl_138, rfl, stz.pick [] (by decide)⟩

/-! ### digest_Pieces: function 31 -/
def digest_Pieces.rel (l0 : List R25) (lr0 : List Int) : Prop := (∃ (l_13 : List Int), slices_Concat_s_byte_byte.rel l0 l_13 ∧ (∃ (r_23 : List Int), digest_Of.rel l_13 r_23 ∧ lr0 = r_23))
set_option maxHeartbeats 1000000 in
set_option maxRecDepth 100000 in
theorem digest_Pieces.calls (w w1 : World) (T R : Pool) (l0 : List R25) (A0 : Option Addr) (n0 : Nat) (c0 : Nat) (st0 : St w w1 ((T ++ R))) (hG0 : Src w (some ⟨0, 0, none⟩) (iv .u32 tab0)) (hb0 : HS w (T ++ R) T A0 n0 c0 (f25 w) l0) (lr0 : List Int) (H : digest_Pieces.rel l0 lr0) :
  Calls Tryd.prog 31 #[.slice A0 n0 c0] w1 fun e w' => ∃ T' , Pl T T' ∧ lr0.length = 32 ∧ e = .returned (.agg (iv .u8 lr0).toArray) ∧ St w w' ((T' ++ R)) := by
 refine CW.enter Tryd.func31 rfl (n := 6) rfl [.slice A0 n0 c0] (Nat.le_of_ble_eq_true rfl) ?_
 refine CW.sub [(0, .slice A0 n0 c0)] ⟨rfl, trivial⟩ ?_
 refine CW.seq (CW.region ?_)
 refine WL.alloc st0 arr23.zero ?_
 intro B_1 w_2 st_3
 replace st_3 : St w w_2 (.cells B_1 (iv .u8 (List.replicate 32 (0 : Int))) 23 :: (T ++ R)) := st_3
 refine WL.nil (QW.then_n ?_)
 refine CW.seq (CW.region ?_)
 refine WL.val Wanted.none (Runs.move rfl) ?_
 have st_5 : St w w_2 ((T ++ (.cells B_1 (iv .u8 (List.replicate 32 (0 : Int))) 23 :: R))) := St.hide (A := []) (B := [_]) (T := T) (R := R) st_3
 obtain ⟨l_13, hr_6, H⟩ := H
 refine WL.call Wanted.none ent55 rfl (slices_Concat_s_byte_byte.calls w w_2 T (.cells B_1 (iv .u8 (List.replicate 32 (0 : Int))) 23 :: R) l0 A0 n0 c0  st_5 (hb0.mono (memo_TR (B := [_]) (fun _ h_ => h_)) (fun _ h_ => h_)) l_13 hr_6) ?_
 rintro _ w_16 ⟨T_7, A_10, n_11, c_12, hs_8, hn_15, rfl, sc_18⟩
 have st_17 : St w w_16 (.sl A_10 c_12 n_11 (iv .u8 l_13) 5 1 :: .cells B_1 (iv .u8 (List.replicate 32 (0 : Int))) 23 :: (T_7 ++ R)) := St.unhide (A := [_]) (B := [_]) (T := T_7) (R := R) sc_18
 refine ⟨_, rfl, ?_⟩
 obtain ⟨r_23, hr_19, H⟩ := H
 refine WL.call Wanted.none ent54 rfl (digest_Of.calls w_16 l_13 A_10 n_11 c_12 (hG0.ext st_17) (st_17.src_sl (k := 0) rfl) (hn_15) (st_17.cap (i := 0) rfl) r_23 hr_19) ?_
 rintro _ w_20 ⟨hl_24, rfl, sc_22⟩
 have st_21 : St w w_20 (.sl A_10 c_12 n_11 (iv .u8 l_13) 5 1 :: .cells B_1 (iv .u8 (List.replicate 32 (0 : Int))) 23 :: (T_7 ++ R)) := st_17.call sc_22
 refine ⟨_, rfl, ?_⟩
 refine WL.store_arr (i := 1) st_21 rfl arr23 rfl (by rw [iv_length]; exact (List.length_replicate ..)) hl_24 rfl ?_
 intro w_25 st_26
 replace st_26 : St w w_25 (.sl A_10 c_12 n_11 (iv .u8 l_13) 5 1 :: .cells B_1 (iv .u8 r_23) 23 :: (T_7 ++ R)) := st_26
 refine WL.nil (QW.then_n ?_)
 refine CW.ret ?_
 obtain rfl := H
 exact QW.retN1 rfl (Res.row rfl row23 st_26 (i := 1) rfl (by rw [iv_length]; exact hl_24)) ⟨T_7, hs_8, hl_24, rfl, (St.pickT (L := [_, _]) st_26 [] (by decide))⟩

/-! ### journal_Link: function 9 -/
def journal_Link.rel (l0 : List Int) (a1 : Int) (l2 : List Int) (r0 : List Int) : Prop := (∃ (r_19 : List Int), word_Put.rel (IntKind.u64.wrap a1) 4 r_19 ∧ (∃ (l_53 : List Int), digest_Pieces.rel ([[255], l0, r_19, l2] : List R25) l_53 ∧ r0 = l_53))
set_option maxHeartbeats 4000000 in
set_option maxRecDepth 100000 in
theorem journal_Link.calls (w : World) (l0 : List Int) (a1 : Int) (l2 : List Int) (A2 : Option Addr) (n2 : Nat) (c2 : Nat)  (hG0 : Src w (some ⟨0, 0, none⟩) (iv .u32 tab0)) (hl0 : l0.length = 32) (hs2 : Src w A2 (iv .u8 l2)) (hn2 : n2 = l2.length) (hc2 : n2 ≤ c2) (r0 : List Int) (H : journal_Link.rel l0 a1 l2 r0) :
  Calls Tryd.prog 9 #[.agg (iv .u8 l0).toArray, .int .u32 a1, .slice A2 n2 c2] w fun e w' => r0.length = 32 ∧ e = .returned (.agg (iv .u8 r0).toArray) ∧ St w w' [] := by
 refine CW.enter Tryd.func9 rfl (n := 15) rfl [.agg (iv .u8 l0).toArray, .int .u32 a1, .slice A2 n2 c2] (Nat.le_of_ble_eq_true rfl) ?_
 refine CW.sub [(0, .agg (iv .u8 l0).toArray), (1, .int .u32 a1), (2, .slice A2 n2 c2)] ⟨rfl, rfl, rfl, trivial⟩ ?_
 obtain ⟨T, R, hT, hR, st0⟩ := St.start w
 refine CW.seq (CW.region ?_)
 refine WL.box st0 rfl rfl ?_
 intro B_1 w_2 st_3
 replace st_3 : St w w_2 (.cells B_1 (iv .u8 l0) 23 :: (T ++ R)) := st_3
 refine WL.alloc st_3 arr23.zero ?_
 intro B_5 w_6 st_7
 replace st_7 : St w w_6 (.cells B_5 (iv .u8 (List.replicate 32 (0 : Int))) 23 :: .cells B_1 (iv .u8 l0) 23 :: (T ++ R)) := st_7
 refine WL.nil (QW.then_n ?_)
 refine CW.seq ?_
 refine CW.region_aw wide st_7 (fun w_9 st_10 => ?_)
 refine AW.take 1 rfl (by kernel_rfl) (by kernel_rfl) (by kernel_rfl) Wanted.none (fun _ => (Runs.slice_arr arr23 rfl (by decide))) ?_
 refine AW.take 2 rfl (by kernel_rfl) (by kernel_rfl) (by kernel_rfl) Wanted.none (fun _ => (Runs.move rfl)) ?_
 refine AW.take 3 rfl (by kernel_rfl) (by kernel_rfl) (by kernel_rfl) Wanted.none (fun _ => (Runs.conv Tryd.underlying37 ⟨_, Tryd.underlying24⟩ rfl rfl)) ?_
 refine AW.take 5 rfl (by kernel_rfl) (by kernel_rfl) (by kernel_rfl) Wanted.none (fun _ => (Runs.move rfl)) ?_
 refine AW.step2 0 4 rfl rfl (by kernel_rfl) ?_ ?_
 ·refine WL.buildSl [.int .u8 255] st_10 Tryd.underlying25 elem5 rfl rfl (by decide) (by decide) (by simp [Value.cells]) ?_
  intro B_11 w_12 st_13
  replace st_13 : St w w_12 (.sl (some ⟨B_11, 0, none⟩) 1 1 (iv .u8 [255]) 5 1 :: .cells B_5 (iv .u8 (List.replicate 32 (0 : Int))) 23 :: .cells B_1 (iv .u8 l0) 23 :: (T ++ R)) := st_13
  refine WL.nil ?_
  refine AW.back ?_
  refine AW.step 4 rfl (by kernel_rfl) ?_
  obtain ⟨r_19, hr_15, H⟩ := H
  refine WL.call Wanted.none ent32 rfl (word_Put.calls w_12 (IntKind.u64.wrap a1) 4 r_19 hr_15) ?_
  rintro _ w_16 ⟨A_20, c_21, n_22, hn_23, rfl, sc_18⟩
  have st_17 : St w w_16 (.sl A_20 c_21 n_22 (iv .u8 r_19) 5 1 :: .sl (some ⟨B_11, 0, none⟩) 1 1 (iv .u8 [255]) 5 1 :: .cells B_5 (iv .u8 (List.replicate 32 (0 : Int))) 23 :: .cells B_1 (iv .u8 l0) 23 :: (T ++ R)) := st_13.call sc_18
  refine ⟨_, rfl, ?_⟩
  refine WL.nil ?_
  refine AW.back  ?_
  refine AW.step 6 rfl (by kernel_rfl) ?_
  have hb_29c := st_17.cap (i := 1) rfl
  obtain ⟨T_25, hs_26, hm_27, st_28⟩ := St.freeze (A := [_]) (B := [_, _]) (T := T) (R := R) st_17
  have hb_29 : HB w T_25 (some ⟨B_11, 0, none⟩) 1 1 (iv .u8 [255]) [255].length := ⟨rfl, hb_29c, Hd.of_sl hm_27⟩
  replace st_28 : St w w_16 (.sl A_20 c_21 n_22 (iv .u8 r_19) 5 1 :: .cells B_5 (iv .u8 (List.replicate 32 (0 : Int))) 23 :: .cells B_1 (iv .u8 l0) 23 :: (T_25 ++ R)) := st_28
  obtain ⟨T_30, hs_31, hm_32, st_33⟩ := St.freezeC (A := [_, _]) (B := []) (T := T_25) (R := R) st_28
  have hb_34 : HB w T_30 (some ⟨B_1, 0, none⟩) 32 32 (iv .u8 l0) l0.length := ⟨(hl0).symm, Nat.le_refl _, Hd.of_cells hm_32⟩
  replace st_33 : St w w_16 (.sl A_20 c_21 n_22 (iv .u8 r_19) 5 1 :: .cells B_5 (iv .u8 (List.replicate 32 (0 : Int))) 23 :: (T_30 ++ R)) := st_33
  have hb_39c := st_33.cap (i := 0) rfl
  obtain ⟨T_35, hs_36, hm_37, st_38⟩ := St.freeze (A := []) (B := [_]) (T := T_30) (R := R) st_33
  have hb_39 : HB w T_35 A_20 n_22 c_21 (iv .u8 r_19) r_19.length := ⟨hn_23, hb_39c, Hd.of_sl hm_37⟩
  replace st_38 : St w w_16 (.cells B_5 (iv .u8 (List.replicate 32 (0 : Int))) 23 :: (T_35 ++ R)) := st_38
  have hb_40 : HB w T_35 A2 n2 c2 (iv .u8 l2) l2.length := ⟨hn2, hc2, Hd.old hs2⟩
  refine WL.buildSl [.slice (some ⟨B_11, 0, none⟩) 1 1, .slice (some ⟨B_1, 0, none⟩) 32 32, .slice A_20 n_22 c_21, .slice A2 n2 c2] st_38 Tryd.underlying76 elem25 rfl rfl (by decide) (by decide) (by simp [Value.cells]) ?_
  intro B_41 w_42 st_43
  replace st_43 : St w w_42 (.sl (some ⟨B_41, 0, none⟩) 4 4 [.slice (some ⟨B_11, 0, none⟩) 1 1, .slice (some ⟨B_1, 0, none⟩) 32 32, .slice A_20 n_22 c_21, .slice A2 n2 c2] 25 1 :: .cells B_5 (iv .u8 (List.replicate 32 (0 : Int))) 23 :: (T_35 ++ R)) := st_43
  obtain ⟨x_45, e_46⟩ : ∃ x_ : Cs, x_ = [.slice (some ⟨B_11, 0, none⟩) 1 1, .slice (some ⟨B_1, 0, none⟩) 32 32, .slice A_20 n_22 c_21, .slice A2 n2 c2] := ⟨_, rfl⟩
  have hx_47 : HRs T_35 (f25 w) x_45 ([[255], l0, r_19, l2] : List R25) := by rw [e_46]; exact (HRs.cons (ms := ([.slice (some ⟨B_11, 0, none⟩) 1 1] : Cs)) (.cons ⟨_, _, _, rfl, (hb_29.mono (fun _ h_ => hs_36.1 _ (hs_31.1 _ h_)))⟩ .nil) (HRs.cons (ms := ([.slice (some ⟨B_1, 0, none⟩) 32 32] : Cs)) (.cons ⟨_, _, _, rfl, (hb_34.mono (fun _ h_ => hs_36.1 _ h_))⟩ .nil) (HRs.cons (ms := ([.slice A_20 n_22 c_21] : Cs)) (.cons ⟨_, _, _, rfl, hb_39⟩ .nil) (HRs.one (.cons ⟨_, _, _, rfl, hb_40⟩ .nil)))))
  replace st_43 : St w w_42 (.sl (some ⟨B_41, 0, none⟩) 4 4 x_45 25 1 :: .cells B_5 (iv .u8 (List.replicate 32 (0 : Int))) 23 :: (T_35 ++ R)) := by rw [e_46]; exact st_43
  refine WL.nil ?_
  refine AW.back  ?_
  refine AW.step 7 rfl (by kernel_rfl) ?_
  have st_48 : St w w_42 ((T_35 ++ (.sl (some ⟨B_41, 0, none⟩) 4 4 x_45 25 1 :: .cells B_5 (iv .u8 (List.replicate 32 (0 : Int))) 23 :: R))) := St.hide (A := []) (B := [_, _]) (T := T_35) (R := R) st_43
  obtain ⟨l_53, hr_49, H⟩ := H
  refine WL.call Wanted.none ent31 rfl (digest_Pieces.calls w w_42 T_35 (.sl (some ⟨B_41, 0, none⟩) 4 4 x_45 25 1 :: .cells B_5 (iv .u8 (List.replicate 32 (0 : Int))) 23 :: R) ([[255], l0, r_19, l2] : List R25) (some ⟨B_41, 0, none⟩) 4 4  st_48 hG0 (HS.mk rfl (st_43.cap (i := 0) rfl) (fun W_ L_ st hT => st.src_mem (hT _ (List.mem_append_right _ (List.mem_of_getElem? (i := 0) rfl)))) hx_47) l_53 hr_49) ?_
  rintro _ w_55 ⟨T_50, hs_51, hl_54, rfl, sc_57⟩
  have st_56 : St w w_55 (.sl (some ⟨B_41, 0, none⟩) 4 4 x_45 25 1 :: .cells B_5 (iv .u8 (List.replicate 32 (0 : Int))) 23 :: (T_50 ++ R)) := St.unhide (A := []) (B := [_, _]) (T := T_50) (R := R) sc_57
  refine ⟨_, rfl, ?_⟩
  refine WL.nil ?_
  refine AW.back  ?_
  refine AW.step 8 rfl (by kernel_rfl) ?_
  refine WL.store_arr (i := 1) st_56 rfl arr23 rfl (by rw [iv_length]; exact (List.length_replicate ..)) hl_54 rfl ?_
  intro w_58 st_59
  replace st_59 : St w w_58 (.sl (some ⟨B_41, 0, none⟩) 4 4 x_45 25 1 :: .cells B_5 (iv .u8 l_53) 23 :: (T_50 ++ R)) := st_59
  refine WL.nil ?_
  refine AW.back  ?_
  refine AW.done (by kernel_rfl) ?_
  refine QW.then_n ?_
  refine CW.sub [(6, .pointer (some ⟨B_5, 0, none⟩))] ⟨rfl, trivial⟩ ?_
  refine CW.ret ?_
  obtain rfl := H
  exact QW.retc rfl arr23 rfl (st_59.blk (i := 1) rfl) hl_54 ⟨hl_54, rfl, (St.front (A := []) (St.pickT (L := [_, _]) st_59 [] (by decide)))⟩
 ·obtain ⟨r_65, hr_61, H⟩ := H
  refine WL.call Wanted.none ent32 rfl (word_Put.calls w_9 (IntKind.u64.wrap a1) 4 r_65 hr_61) ?_
  rintro _ w_62 ⟨A_66, c_67, n_68, hn_69, rfl, sc_64⟩
  have st_63 : St w w_62 (.sl A_66 c_67 n_68 (iv .u8 r_65) 5 1 :: .cells B_5 (iv .u8 (List.replicate 32 (0 : Int))) 23 :: .cells B_1 (iv .u8 l0) 23 :: (T ++ R)) := st_10.call sc_64
  refine ⟨_, rfl, ?_⟩
  refine WL.nil ?_
  refine AW.back ?_
  refine AW.step 0 rfl (by kernel_rfl) ?_
  refine WL.buildSl [.int .u8 255] st_63 Tryd.underlying25 elem5 rfl rfl (by decide) (by decide) (by simp [Value.cells]) ?_
  intro B_71 w_72 st_73
  replace st_73 : St w w_72 (.sl (some ⟨B_71, 0, none⟩) 1 1 (iv .u8 [255]) 5 1 :: .sl A_66 c_67 n_68 (iv .u8 r_65) 5 1 :: .cells B_5 (iv .u8 (List.replicate 32 (0 : Int))) 23 :: .cells B_1 (iv .u8 l0) 23 :: (T ++ R)) := st_73
  refine WL.nil ?_
  refine AW.back  ?_
  refine AW.step 6 rfl (by kernel_rfl) ?_
  have hb_79c := st_73.cap (i := 0) rfl
  obtain ⟨T_75, hs_76, hm_77, st_78⟩ := St.freeze (A := []) (B := [_, _, _]) (T := T) (R := R) st_73
  have hb_79 : HB w T_75 (some ⟨B_71, 0, none⟩) 1 1 (iv .u8 [255]) [255].length := ⟨rfl, hb_79c, Hd.of_sl hm_77⟩
  replace st_78 : St w w_72 (.sl A_66 c_67 n_68 (iv .u8 r_65) 5 1 :: .cells B_5 (iv .u8 (List.replicate 32 (0 : Int))) 23 :: .cells B_1 (iv .u8 l0) 23 :: (T_75 ++ R)) := st_78
  obtain ⟨T_80, hs_81, hm_82, st_83⟩ := St.freezeC (A := [_, _]) (B := []) (T := T_75) (R := R) st_78
  have hb_84 : HB w T_80 (some ⟨B_1, 0, none⟩) 32 32 (iv .u8 l0) l0.length := ⟨(hl0).symm, Nat.le_refl _, Hd.of_cells hm_82⟩
  replace st_83 : St w w_72 (.sl A_66 c_67 n_68 (iv .u8 r_65) 5 1 :: .cells B_5 (iv .u8 (List.replicate 32 (0 : Int))) 23 :: (T_80 ++ R)) := st_83
  have hb_89c := st_83.cap (i := 0) rfl
  obtain ⟨T_85, hs_86, hm_87, st_88⟩ := St.freeze (A := []) (B := [_]) (T := T_80) (R := R) st_83
  have hb_89 : HB w T_85 A_66 n_68 c_67 (iv .u8 r_65) r_65.length := ⟨hn_69, hb_89c, Hd.of_sl hm_87⟩
  replace st_88 : St w w_72 (.cells B_5 (iv .u8 (List.replicate 32 (0 : Int))) 23 :: (T_85 ++ R)) := st_88
  have hb_90 : HB w T_85 A2 n2 c2 (iv .u8 l2) l2.length := ⟨hn2, hc2, Hd.old hs2⟩
  refine WL.buildSl [.slice (some ⟨B_71, 0, none⟩) 1 1, .slice (some ⟨B_1, 0, none⟩) 32 32, .slice A_66 n_68 c_67, .slice A2 n2 c2] st_88 Tryd.underlying76 elem25 rfl rfl (by decide) (by decide) (by simp [Value.cells]) ?_
  intro B_91 w_92 st_93
  replace st_93 : St w w_92 (.sl (some ⟨B_91, 0, none⟩) 4 4 [.slice (some ⟨B_71, 0, none⟩) 1 1, .slice (some ⟨B_1, 0, none⟩) 32 32, .slice A_66 n_68 c_67, .slice A2 n2 c2] 25 1 :: .cells B_5 (iv .u8 (List.replicate 32 (0 : Int))) 23 :: (T_85 ++ R)) := st_93
  obtain ⟨x_95, e_96⟩ : ∃ x_ : Cs, x_ = [.slice (some ⟨B_71, 0, none⟩) 1 1, .slice (some ⟨B_1, 0, none⟩) 32 32, .slice A_66 n_68 c_67, .slice A2 n2 c2] := ⟨_, rfl⟩
  have hx_97 : HRs T_85 (f25 w) x_95 ([[255], l0, r_65, l2] : List R25) := by rw [e_96]; exact (HRs.cons (ms := ([.slice (some ⟨B_71, 0, none⟩) 1 1] : Cs)) (.cons ⟨_, _, _, rfl, (hb_79.mono (fun _ h_ => hs_86.1 _ (hs_81.1 _ h_)))⟩ .nil) (HRs.cons (ms := ([.slice (some ⟨B_1, 0, none⟩) 32 32] : Cs)) (.cons ⟨_, _, _, rfl, (hb_84.mono (fun _ h_ => hs_86.1 _ h_))⟩ .nil) (HRs.cons (ms := ([.slice A_66 n_68 c_67] : Cs)) (.cons ⟨_, _, _, rfl, hb_89⟩ .nil) (HRs.one (.cons ⟨_, _, _, rfl, hb_90⟩ .nil)))))
  replace st_93 : St w w_92 (.sl (some ⟨B_91, 0, none⟩) 4 4 x_95 25 1 :: .cells B_5 (iv .u8 (List.replicate 32 (0 : Int))) 23 :: (T_85 ++ R)) := by rw [e_96]; exact st_93
  refine WL.nil ?_
  refine AW.back  ?_
  refine AW.step 7 rfl (by kernel_rfl) ?_
  have st_98 : St w w_92 ((T_85 ++ (.sl (some ⟨B_91, 0, none⟩) 4 4 x_95 25 1 :: .cells B_5 (iv .u8 (List.replicate 32 (0 : Int))) 23 :: R))) := St.hide (A := []) (B := [_, _]) (T := T_85) (R := R) st_93
  obtain ⟨l_103, hr_99, H⟩ := H
  refine WL.call Wanted.none ent31 rfl (digest_Pieces.calls w w_92 T_85 (.sl (some ⟨B_91, 0, none⟩) 4 4 x_95 25 1 :: .cells B_5 (iv .u8 (List.replicate 32 (0 : Int))) 23 :: R) ([[255], l0, r_65, l2] : List R25) (some ⟨B_91, 0, none⟩) 4 4  st_98 hG0 (HS.mk rfl (st_93.cap (i := 0) rfl) (fun W_ L_ st hT => st.src_mem (hT _ (List.mem_append_right _ (List.mem_of_getElem? (i := 0) rfl)))) hx_97) l_103 hr_99) ?_
  rintro _ w_105 ⟨T_100, hs_101, hl_104, rfl, sc_107⟩
  have st_106 : St w w_105 (.sl (some ⟨B_91, 0, none⟩) 4 4 x_95 25 1 :: .cells B_5 (iv .u8 (List.replicate 32 (0 : Int))) 23 :: (T_100 ++ R)) := St.unhide (A := []) (B := [_, _]) (T := T_100) (R := R) sc_107
  refine ⟨_, rfl, ?_⟩
  refine WL.nil ?_
  refine AW.back  ?_
  refine AW.step 8 rfl (by kernel_rfl) ?_
  refine WL.store_arr (i := 1) st_106 rfl arr23 rfl (by rw [iv_length]; exact (List.length_replicate ..)) hl_104 rfl ?_
  intro w_108 st_109
  replace st_109 : St w w_108 (.sl (some ⟨B_91, 0, none⟩) 4 4 x_95 25 1 :: .cells B_5 (iv .u8 l_103) 23 :: (T_100 ++ R)) := st_109
  refine WL.nil ?_
  refine AW.back  ?_
  refine AW.done (by kernel_rfl) ?_
  refine QW.then_n ?_
  refine CW.sub [(6, .pointer (some ⟨B_5, 0, none⟩))] ⟨rfl, trivial⟩ ?_
  refine CW.ret ?_
  obtain rfl := H
  exact QW.retc rfl arr23 rfl (st_109.blk (i := 1) rfl) hl_104 ⟨hl_104, rfl, (St.front (A := []) (St.pickT (L := [_, _]) st_109 [] (by decide)))⟩

/-! ### disk_Disk_fits: function 64 -/
def disk_Disk_fits.rel (l0_0 : List R25) (l0_1 : List R124) (a0_2 : Int) (a0_3 : Bool) (l0_4 : List R48) (a1 : Int) (l2 : List Int) (ls0_0 : List R25) (ls0_1 : List R124) (as0_2 : Int) (as0_3 : Bool) (ls0_4 : List R48) (ar0 : Int) : Prop := ((a1 < 0 ∧ ls0_0 = l0_0 ∧ ls0_1 = l0_1 ∧ as0_2 = a0_2 ∧ as0_3 = a0_3 ∧ ls0_4 = l0_4 ∧ ar0 = 12) ∨ (¬ (a1 < 0) ∧ ((a1 ≥ (l0_0.length : Int) ∧ ls0_0 = l0_0 ∧ ls0_1 = l0_1 ∧ as0_2 = a0_2 ∧ as0_3 = a0_3 ∧ ls0_4 = l0_4 ∧ ar0 = 12) ∨ (¬ (a1 ≥ (l0_0.length : Int)) ∧ (((l2.length : Int) ≠ 192 ∧ ls0_0 = l0_0 ∧ ls0_1 = l0_1 ∧ as0_2 = a0_2 ∧ as0_3 = a0_3 ∧ ls0_4 = l0_4 ∧ ar0 = 1) ∨ (¬ ((l2.length : Int) ≠ 192) ∧ ls0_0 = l0_0 ∧ ls0_1 = l0_1 ∧ as0_2 = a0_2 ∧ as0_3 = a0_3 ∧ ls0_4 = l0_4 ∧ ar0 = 0))))))
set_option maxHeartbeats 1000000 in
set_option maxRecDepth 100000 in
theorem disk_Disk_fits.calls (w w1 : World) (T R : Pool) (l0_0 : List R25) (l0_1 : List R124) (a0_2 : Int) (a0_3 : Bool) (l0_4 : List R48) (a1 : Int) (l2 : List Int) (b0 : Nat) (A0_0 : Option Addr) (n0_0 : Nat) (c0_0 : Nat) (x0_0 : Cs) (A0_1 : Option Addr) (n0_1 : Nat) (c0_1 : Nat) (x0_1 : Cs) (A0_4 : Option Addr) (n0_4 : Nat) (c0_4 : Nat) (x0_4 : Cs) (A2 : Option Addr) (n2 : Nat) (c2 : Nat) (st0 : St w w1 (.cells b0 (([.slice A0_0 n0_0 c0_0] : Cs) ++ (([.slice A0_1 n0_1 c0_1] : Cs) ++ (([.int .i64 a0_2] : Cs) ++ (([.bool a0_3] : Cs) ++ ([.slice A0_4 n0_4 c0_4] : Cs))))) 95 :: .sl A0_0 c0_0 n0_0 x0_0 25 1 :: .sl A0_1 c0_1 n0_1 x0_1 124 2 :: .sl A0_4 c0_4 n0_4 x0_4 48 2 :: (T ++ R))) (hn0_0 : n0_0 = l0_0.length) (hx0_0 : HRs T (f25 w) x0_0 l0_0) (hn0_1 : n0_1 = l0_1.length) (hx0_1 : HRs T (f124 w) x0_1 l0_1) (hn0_4 : n0_4 = l0_4.length) (hx0_4 : HRs T (f48 w) x0_4 l0_4) (hb2 : HB w (T ++ R) A2 n2 c2 (iv .u8 l2) l2.length) (ls0_0 : List R25) (ls0_1 : List R124) (as0_2 : Int) (as0_3 : Bool) (ls0_4 : List R48) (ar0 : Int) (H : disk_Disk_fits.rel l0_0 l0_1 a0_2 a0_3 l0_4 a1 l2 ls0_0 ls0_1 as0_2 as0_3 ls0_4 ar0) :
  Calls Tryd.prog 64 #[.pointer (some ⟨b0, 0, none⟩), .int .i64 a1, .slice A2 n2 c2] w1 fun e w' => ∃ T' As0_0 ns0_0 cs0_0 xs0_0 As0_1 ns0_1 cs0_1 xs0_1 As0_4 ns0_4 cs0_4 xs0_4, Pl T T' ∧ ns0_0 = ls0_0.length ∧ HRs T' (f25 w) xs0_0 ls0_0 ∧ ns0_1 = ls0_1.length ∧ HRs T' (f124 w) xs0_1 ls0_1 ∧ ns0_4 = ls0_4.length ∧ HRs T' (f48 w) xs0_4 ls0_4 ∧ e = .returned (.int .i64 ar0) ∧ St w w' (.cells b0 (([.slice As0_0 ns0_0 cs0_0] : Cs) ++ (([.slice As0_1 ns0_1 cs0_1] : Cs) ++ (([.int .i64 as0_2] : Cs) ++ (([.bool as0_3] : Cs) ++ ([.slice As0_4 ns0_4 cs0_4] : Cs))))) 95 :: .sl As0_0 cs0_0 ns0_0 xs0_0 25 1 :: .sl As0_1 cs0_1 ns0_1 xs0_1 124 2 :: .sl As0_4 cs0_4 ns0_4 xs0_4 48 2 :: (T' ++ R)) := by
 refine CW.enter Tryd.func64 rfl (n := 23) rfl [.pointer (some ⟨b0, 0, none⟩), .int .i64 a1, .slice A2 n2 c2] (Nat.le_of_ble_eq_true rfl) ?_
 refine CW.sub [(0, .pointer (some ⟨b0, 0, none⟩)), (1, .int .i64 a1), (2, .slice A2 n2 c2)] ⟨rfl, rfl, rfl, trivial⟩ ?_
 refine CW.seq (CW.region ?_)
 refine WL.val Wanted.none (Runs.assign rfl) ?_
 refine WL.nil (QW.then_n ?_)
 refine CW.seq ?_
 refine CW.block ?_
 refine CW.seq (CW.region ?_)
 refine WL.val Wanted.none (Runs.move rfl) ?_
 refine WL.val Wanted.none (Runs.lss rfl rfl rfl) ?_
 refine WL.val Wanted.none (Runs.move rfl) ?_
 rcases H with ⟨c_1, H⟩ | ⟨c_1, H⟩
 ·have h_2 : (decide (a1 < 0)) = true := (decide_eq_true c_1)
  refine WL.off ?_ ?_; exact Wanted.guard (dj := 10) (by rfl) (evb (by rfl) h_2) (by rfl)
  refine WL.off ?_ ?_; exact Wanted.guard (dj := 10) (by rfl) (evb (by rfl) h_2) (by rfl)
  refine WL.off ?_ ?_; exact Wanted.guard (dj := 10) (by rfl) (evb (by rfl) h_2) (by rfl)
  refine WL.off ?_ ?_; exact Wanted.guard (dj := 10) (by rfl) (evb (by rfl) h_2) (by rfl)
  refine WL.off ?_ ?_; exact Wanted.guard (dj := 10) (by rfl) (evb (by rfl) h_2) (by rfl)
  refine WL.off ?_ ?_; exact Wanted.guard (dj := 10) (by rfl) (evb (by rfl) h_2) (by rfl)
  refine WL.off ?_ ?_; exact Wanted.guard (dj := 10) (by rfl) (evb (by rfl) h_2) (by rfl)
  refine WL.val Wanted.none (Runs.pick_t (evb rfl h_2) rfl) ?_
  refine WL.val Wanted.none (Runs.assign rfl) ?_
  refine WL.nil (QW.then_n ?_)
  refine CW.sub [(2, .slice A2 n2 c2), (6, .int .i64 0), (7, .bool true)] ⟨rfl, rfl, rfl, trivial⟩ ?_
  refine CW.ct rfl rfl ?_
  refine CW.seq (CW.region ?_)
  refine WL.val Wanted.none (Runs.assign rfl) ?_
  refine WL.nil (QW.then_n ?_)
  refine CW.ret ?_
  refine QW.blk_r ?_
  refine QW.then_r ?_
  obtain ⟨rfl, rfl, rfl, rfl, rfl, rfl⟩ := H
  exact QW.ret1 rfl rfl ⟨T, A0_0, n0_0, c0_0, x0_0, A0_1, n0_1, c0_1, x0_1, A0_4, n0_4, c0_4, x0_4, Pl.refl, hn0_0, hx0_0, hn0_1, hx0_1, hn0_4, hx0_4, rfl, (St.pickT (L := [_, _, _, _]) st0 [0, 1, 2, 3] (by decide))⟩
 ·have h_2 : (decide (a1 < 0)) = false := (decide_eq_false c_1)
  refine WL.on ?_ ?_; exact Wanted.guard (dj := 10) (by rfl) (evb (by rfl) h_2) (by rfl)
  refine WL.val Wanted.none (Runs.move rfl) ?_
  refine WL.on ?_ ?_; exact Wanted.guard (dj := 10) (by rfl) (evb (by rfl) h_2) (by rfl)
  refine WL.val Wanted.none (Runs.move rfl) ?_
  refine WL.on ?_ ?_; exact Wanted.guard (dj := 10) (by rfl) (evb (by rfl) h_2) (by rfl)
  refine WL.val Wanted.none (Runs.nilCheck rfl) ?_
  refine WL.on ?_ ?_; exact Wanted.guard (dj := 10) (by rfl) (evb (by rfl) h_2) (by rfl)
  refine WL.val Wanted.none (Runs.fieldAddr (off := 0) (p := 0) fld95_0 rfl rfl rfl) ?_
  refine WL.on ?_ ?_; exact Wanted.guard (dj := 10) (by rfl) (evb (by rfl) h_2) (by rfl)
  refine WL.val Wanted.none (Runs.load nagg76 rfl (st0.cell (k := 0) rfl (part_one (u := .slice A0_0 n0_0 c0_0) (pre := (([] : Cs))) (post := (([.slice A0_1 n0_1 c0_1] : Cs) ++ (([.int .i64 a0_2] : Cs) ++ (([.bool a0_3] : Cs) ++ ([.slice A0_4 n0_4 c0_4] : Cs))))) (by first | rfl | simp only [List.append_assoc, List.append_nil, List.nil_append, List.cons_append]) (by first | rfl | simp only [List.length_append, List.length_cons, List.length_nil, iv_length])))) ?_
  refine WL.on ?_ ?_; exact Wanted.guard (dj := 10) (by rfl) (evb (by rfl) h_2) (by rfl)
  refine WL.val Wanted.none (Runs.len_sl Tryd.underlying76 rfl (by rw [hn0_0])) ?_
  refine WL.on ?_ ?_; exact Wanted.guard (dj := 10) (by rfl) (evb (by rfl) h_2) (by rfl)
  refine WL.val Wanted.none (Runs.geq rfl rfl rfl) ?_
  refine WL.val Wanted.none (Runs.pick_f (evb rfl h_2) rfl) ?_
  refine WL.val Wanted.none (Runs.assign rfl) ?_
  refine WL.nil (QW.then_n ?_)
  refine CW.sub [(2, .slice A2 n2 c2), (6, .int .i64 0), (7, .bool (decide (a1 ≥ (l0_0.length : Int))))] ⟨rfl, rfl, rfl, trivial⟩ ?_
  rcases H with ⟨c_3, H⟩ | ⟨c_3, H⟩
  ·have h_4 : (decide (a1 ≥ (l0_0.length : Int))) = true := (decide_eq_true c_3)
   refine CW.ct rfl h_4 ?_
   refine CW.seq (CW.region ?_)
   refine WL.val Wanted.none (Runs.assign rfl) ?_
   refine WL.nil (QW.then_n ?_)
   refine CW.ret ?_
   refine QW.blk_r ?_
   refine QW.then_r ?_
   obtain ⟨rfl, rfl, rfl, rfl, rfl, rfl⟩ := H
   exact QW.ret1 rfl rfl ⟨T, A0_0, n0_0, c0_0, x0_0, A0_1, n0_1, c0_1, x0_1, A0_4, n0_4, c0_4, x0_4, Pl.refl, hn0_0, hx0_0, hn0_1, hx0_1, hn0_4, hx0_4, rfl, (St.pickT (L := [_, _, _, _]) st0 [0, 1, 2, 3] (by decide))⟩
  ·have h_4 : (decide (a1 ≥ (l0_0.length : Int))) = false := (decide_eq_false c_3)
   refine CW.cf rfl h_4 ?_
   refine CW.seq (CW.region ?_)
   refine WL.val Wanted.none (Runs.move rfl) ?_
   refine WL.val Wanted.none (Runs.len_sl Tryd.underlying25 rfl (by rw [hb2.1])) ?_
   refine WL.val Wanted.none (Runs.neq rfl rfl rfl) ?_
   refine WL.val Wanted.none (Runs.assign rfl) ?_
   refine WL.nil (QW.then_n ?_)
   rcases H with ⟨c_5, H⟩ | ⟨c_5, H⟩
   ·have h_6 : ((l2.length : Int) != 192) = true := (bne_iff_ne.mpr c_5)
    refine CW.ct rfl h_6 ?_
    refine CW.seq (CW.region ?_)
    refine WL.val Wanted.none (Runs.assign rfl) ?_
    refine WL.nil (QW.then_n ?_)
    refine CW.sub [(6, .int .i64 1)] ⟨rfl, trivial⟩ ?_
    refine CW.ret ?_
    refine QW.blk_r ?_
    refine QW.then_r ?_
    obtain ⟨rfl, rfl, rfl, rfl, rfl, rfl⟩ := H
    exact QW.ret1 rfl rfl ⟨T, A0_0, n0_0, c0_0, x0_0, A0_1, n0_1, c0_1, x0_1, A0_4, n0_4, c0_4, x0_4, Pl.refl, hn0_0, hx0_0, hn0_1, hx0_1, hn0_4, hx0_4, rfl, (St.pickT (L := [_, _, _, _]) st0 [0, 1, 2, 3] (by decide))⟩
   ·have h_6 : ((l2.length : Int) != 192) = false := (bne_eq_false_iff_eq.mpr (Decidable.not_not.mp c_5))
    refine CW.cf rfl h_6 ?_
    refine CW.skip ?_
    refine QW.blk_n ?_
    refine QW.then_n ?_
    refine CW.sub [(6, .int .i64 0)] ⟨rfl, trivial⟩ ?_
    refine CW.seq (CW.region ?_)
    refine WL.val Wanted.none (Runs.assign rfl) ?_
    refine WL.nil (QW.then_n ?_)
    refine CW.ret ?_
    obtain ⟨rfl, rfl, rfl, rfl, rfl, rfl⟩ := H
    exact QW.ret1 rfl rfl ⟨T, A0_0, n0_0, c0_0, x0_0, A0_1, n0_1, c0_1, x0_1, A0_4, n0_4, c0_4, x0_4, Pl.refl, hn0_0, hx0_0, hn0_1, hx0_1, hn0_4, hx0_4, rfl, (St.pickT (L := [_, _, _, _]) st0 [0, 1, 2, 3] (by decide))⟩

end Go.Proofs.YtmhcjafkdmcgoaaDoor
