/- Walks: each function computes what its relation says, and a call of it ends so. Printed by a program of this session (wip/gen). -/
import Derived.Test.YtekpnjhacnkgcaaDoorGx2
namespace Go.Proofs.YtekpnjhacnkgcaaDoor
open Go Go.Kr Go.RowKit
set_option linter.unusedVariables false
set_option linter.unusedSimpArgs false
/-! ### reliquaryref10_Get: function 11 -/
def reliquaryref10_Get.L4 (l0 : List Int) (r0_0 : List Int) (r0_1 : Int) (r0_2 : List Int) (r0_3 : Int) (r0_4 : List Int) (r0_5 : Int) (r0_6 : List Int) (r0_7 : Int) (r1 : Int) (r_45 : Int) (r_83 : Int) (r_121 : Int) : Nat → (List Int) → (List Int) → (List Int) → (List Int) → Int → Int → Bool → Prop
  | 0, _, _, _, _, _, _, _ => False
  | kL4 + 1, m_126, m_128, m_130, m_132, x_134, x_135, b_136 => ((x_134 < 32 ∧ ((0 ≤ (IntKind.i64.wrap (120 + x_134)) ∧ (IntKind.i64.wrap (120 + x_134)) < (l0.length : Int)) ∧ ((0 ≤ x_134 ∧ x_134 < (32 : Int)) ∧ (∃ m_150 : List Int, m_150 = List.set m_132 ((x_134).toNat) (gn l0 ((IntKind.i64.wrap (120 + x_134)).toNat)) ∧ reliquaryref10_Get.L4 l0 r0_0 r0_1 r0_2 r0_3 r0_4 r0_5 r0_6 r0_7 r1 r_45 r_83 r_121 kL4 m_126 m_128 m_130 m_150 (IntKind.i64.wrap (x_134 + 1)) x_134 (decide (x_134 < 32)))))) ∨ (¬ (x_134 < 32) ∧ (∃ (r_159 : Int) (r_160 : Int), reliquaryref01_Get.rel l0 152 8 r_159 r_160 ∧ r0_0 = m_126 ∧ r0_1 = r_45 ∧ r0_2 = m_128 ∧ r0_3 = r_83 ∧ r0_4 = m_130 ∧ r0_5 = r_121 ∧ r0_6 = m_132 ∧ r0_7 = r_159 ∧ r1 = 0)))
def reliquaryref10_Get.L3 (l0 : List Int) (r0_0 : List Int) (r0_1 : Int) (r0_2 : List Int) (r0_3 : Int) (r0_4 : List Int) (r0_5 : Int) (r0_6 : List Int) (r0_7 : Int) (r1 : Int) (r_45 : Int) (r_83 : Int) : Nat → (List Int) → (List Int) → (List Int) → (List Int) → Int → Int → Bool → Prop
  | 0, _, _, _, _, _, _, _ => False
  | kL3 + 1, m_88, m_90, m_92, m_94, x_96, x_97, b_98 => ((x_96 < 32 ∧ ((0 ≤ (IntKind.i64.wrap (80 + x_96)) ∧ (IntKind.i64.wrap (80 + x_96)) < (l0.length : Int)) ∧ ((0 ≤ x_96 ∧ x_96 < (32 : Int)) ∧ (∃ m_112 : List Int, m_112 = List.set m_92 ((x_96).toNat) (gn l0 ((IntKind.i64.wrap (80 + x_96)).toNat)) ∧ reliquaryref10_Get.L3 l0 r0_0 r0_1 r0_2 r0_3 r0_4 r0_5 r0_6 r0_7 r1 r_45 r_83 kL3 m_88 m_90 m_112 m_94 (IntKind.i64.wrap (x_96 + 1)) x_96 (decide (x_96 < 32)))))) ∨ (¬ (x_96 < 32) ∧ (∃ (r_121 : Int) (r_122 : Int), reliquaryref01_Get.rel l0 112 8 r_121 r_122 ∧ (∃ k_ : Nat, reliquaryref10_Get.L4 l0 r0_0 r0_1 r0_2 r0_3 r0_4 r0_5 r0_6 r0_7 r1 r_45 r_83 r_121 k_ m_88 m_90 m_92 m_94 0 x_96 (decide (x_96 < 32))))))
def reliquaryref10_Get.L2 (l0 : List Int) (r0_0 : List Int) (r0_1 : Int) (r0_2 : List Int) (r0_3 : Int) (r0_4 : List Int) (r0_5 : Int) (r0_6 : List Int) (r0_7 : Int) (r1 : Int) (r_45 : Int) : Nat → (List Int) → (List Int) → (List Int) → (List Int) → Int → Int → Bool → Prop
  | 0, _, _, _, _, _, _, _ => False
  | kL2 + 1, m_50, m_52, m_54, m_56, x_58, x_59, b_60 => ((x_58 < 32 ∧ ((0 ≤ (IntKind.i64.wrap (40 + x_58)) ∧ (IntKind.i64.wrap (40 + x_58)) < (l0.length : Int)) ∧ ((0 ≤ x_58 ∧ x_58 < (32 : Int)) ∧ (∃ m_74 : List Int, m_74 = List.set m_52 ((x_58).toNat) (gn l0 ((IntKind.i64.wrap (40 + x_58)).toNat)) ∧ reliquaryref10_Get.L2 l0 r0_0 r0_1 r0_2 r0_3 r0_4 r0_5 r0_6 r0_7 r1 r_45 kL2 m_50 m_74 m_54 m_56 (IntKind.i64.wrap (x_58 + 1)) x_58 (decide (x_58 < 32)))))) ∨ (¬ (x_58 < 32) ∧ (∃ (r_83 : Int) (r_84 : Int), reliquaryref01_Get.rel l0 72 8 r_83 r_84 ∧ (∃ k_ : Nat, reliquaryref10_Get.L3 l0 r0_0 r0_1 r0_2 r0_3 r0_4 r0_5 r0_6 r0_7 r1 r_45 r_83 k_ m_50 m_52 m_54 m_56 0 x_58 (decide (x_58 < 32))))))
def reliquaryref10_Get.L1 (l0 : List Int) (r0_0 : List Int) (r0_1 : Int) (r0_2 : List Int) (r0_3 : Int) (r0_4 : List Int) (r0_5 : Int) (r0_6 : List Int) (r0_7 : Int) (r1 : Int) : Nat → (List Int) → (List Int) → (List Int) → (List Int) → Int → Prop
  | 0, _, _, _, _, _ => False
  | kL1 + 1, m_14, m_16, m_18, m_20, x_22 => ((x_22 < 32 ∧ ((0 ≤ (IntKind.i64.wrap (0 + x_22)) ∧ (IntKind.i64.wrap (0 + x_22)) < (l0.length : Int)) ∧ ((0 ≤ x_22 ∧ x_22 < (32 : Int)) ∧ (∃ m_36 : List Int, m_36 = List.set m_14 ((x_22).toNat) (gn l0 ((IntKind.i64.wrap (0 + x_22)).toNat)) ∧ reliquaryref10_Get.L1 l0 r0_0 r0_1 r0_2 r0_3 r0_4 r0_5 r0_6 r0_7 r1 kL1 m_36 m_16 m_18 m_20 (IntKind.i64.wrap (x_22 + 1)))))) ∨ (¬ (x_22 < 32) ∧ (∃ (r_45 : Int) (r_46 : Int), reliquaryref01_Get.rel l0 32 8 r_45 r_46 ∧ (∃ k_ : Nat, reliquaryref10_Get.L2 l0 r0_0 r0_1 r0_2 r0_3 r0_4 r0_5 r0_6 r0_7 r1 r_45 k_ m_14 m_16 m_18 m_20 0 x_22 (decide (x_22 < 32))))))
def reliquaryref10_Get.rel (l0 : List Int) (r0_0 : List Int) (r0_1 : Int) (r0_2 : List Int) (r0_3 : Int) (r0_4 : List Int) (r0_5 : Int) (r0_6 : List Int) (r0_7 : Int) (r1 : Int) : Prop := (((l0.length : Int) ≠ 160 ∧ r0_0 = List.replicate 32 (0 : Int) ∧ r0_1 = 0 ∧ r0_2 = List.replicate 32 (0 : Int) ∧ r0_3 = 0 ∧ r0_4 = List.replicate 32 (0 : Int) ∧ r0_5 = 0 ∧ r0_6 = List.replicate 32 (0 : Int) ∧ r0_7 = 0 ∧ r1 = 11) ∨ (¬ ((l0.length : Int) ≠ 160) ∧ (∃ k_ : Nat, reliquaryref10_Get.L1 l0 r0_0 r0_1 r0_2 r0_3 r0_4 r0_5 r0_6 r0_7 r1 k_ (List.replicate 32 (0 : Int)) (List.replicate 32 (0 : Int)) (List.replicate 32 (0 : Int)) (List.replicate 32 (0 : Int)) 0)))
set_option maxHeartbeats 4000000 in
set_option maxRecDepth 100000 in
theorem reliquaryref10_Get.calls (w : World) (l0 : List Int) (A0 : Option Addr) (n0 : Nat) (c0 : Nat)  (hs0 : Src w A0 (iv .u8 l0)) (hn0 : n0 = l0.length) (hc0 : n0 ≤ c0) (r0_0 : List Int) (r0_1 : Int) (r0_2 : List Int) (r0_3 : Int) (r0_4 : List Int) (r0_5 : Int) (r0_6 : List Int) (r0_7 : Int) (r1 : Int) (H : reliquaryref10_Get.rel l0 r0_0 r0_1 r0_2 r0_3 r0_4 r0_5 r0_6 r0_7 r1) :
    Calls Tryd.prog 11 #[.slice A0 n0 c0] w fun e w' => r0_0.length = 32 ∧ r0_2.length = 32 ∧ r0_4.length = 32 ∧ r0_6.length = 32 ∧ e = .returned (.tuple #[.agg (iv .u8 r0_0 ++ (([.int .u64 r0_1] : List Value) ++ (iv .u8 r0_2 ++ (([.int .u64 r0_3] : List Value) ++ (iv .u8 r0_4 ++ (([.int .u64 r0_5] : List Value) ++ (iv .u8 r0_6 ++ ([.int .u64 r0_7] : List Value)))))))).toArray, .int .i64 r1]) ∧ St w w' [] := by
  refine CW.enter Tryd.func11 rfl (n := 43) rfl [.slice A0 n0 c0] (Nat.le_of_ble_eq_true rfl) ?_
  refine CW.sub [(0, .slice A0 n0 c0)] ⟨rfl, trivial⟩ ?_
  have st0 : St w w [] := St.refl w
  refine CW.seq ?_
  refine CW.region ?_
  refine WL.alloc st0 zero36 ?_
  intro B_1 w_2 st_3
  replace st_3 : St w w_2 [.cells B_1 (iv .u8 (List.replicate 32 (0 : Int)) ++ (([.int .u64 0] : List Value) ++ (iv .u8 (List.replicate 32 (0 : Int)) ++ (([.int .u64 0] : List Value) ++ (iv .u8 (List.replicate 32 (0 : Int)) ++ (([.int .u64 0] : List Value) ++ (iv .u8 (List.replicate 32 (0 : Int)) ++ ([.int .u64 0] : List Value)))))))) 36] := st_3
  refine WL.val Wanted.none (Runs.assign rfl) ?_
  refine WL.nil ?_
  refine QW.then_n ?_
  refine CW.seq ?_
  refine CW.region ?_
  refine WL.alloc st_3 zero36 ?_
  intro B_5 w_6 st_7
  replace st_7 : St w w_6 [.cells B_5 (iv .u8 (List.replicate 32 (0 : Int)) ++ (([.int .u64 0] : List Value) ++ (iv .u8 (List.replicate 32 (0 : Int)) ++ (([.int .u64 0] : List Value) ++ (iv .u8 (List.replicate 32 (0 : Int)) ++ (([.int .u64 0] : List Value) ++ (iv .u8 (List.replicate 32 (0 : Int)) ++ ([.int .u64 0] : List Value)))))))) 36, .cells B_1 (iv .u8 (List.replicate 32 (0 : Int)) ++ (([.int .u64 0] : List Value) ++ (iv .u8 (List.replicate 32 (0 : Int)) ++ (([.int .u64 0] : List Value) ++ (iv .u8 (List.replicate 32 (0 : Int)) ++ (([.int .u64 0] : List Value) ++ (iv .u8 (List.replicate 32 (0 : Int)) ++ ([.int .u64 0] : List Value)))))))) 36] := st_7
  refine WL.nil ?_
  refine QW.then_n ?_
  refine CW.seq ?_
  refine CW.seq ?_
  refine CW.region ?_
  refine WL.val Wanted.none (Runs.move rfl) ?_
  refine WL.val Wanted.none (Runs.len_sl Tryd.underlying29 rfl (by rw [hn0])) ?_
  refine WL.val Wanted.none (Runs.neq rfl rfl rfl) ?_
  refine WL.nil ?_
  refine QW.then_n ?_
  rcases H with ⟨c_9, H⟩ | ⟨c_9, H⟩
  · have h_10 : ((l0.length : Int) != 160) = true := (bne_iff_ne.mpr c_9)
    refine CW.ct rfl h_10 ?_
    refine CW.seq ?_
    refine CW.region ?_
    refine WL.val Wanted.none (Runs.load_mid row36 rfl st_7 (i := 0) rfl (part_mid (pre := (([] : List Value))) (mid := (iv .u8 (List.replicate 32 (0 : Int)) ++ (([.int .u64 0] : List Value) ++ (iv .u8 (List.replicate 32 (0 : Int)) ++ (([.int .u64 0] : List Value) ++ (iv .u8 (List.replicate 32 (0 : Int)) ++ (([.int .u64 0] : List Value) ++ (iv .u8 (List.replicate 32 (0 : Int)) ++ ([.int .u64 0] : List Value))))))))) (post := (([] : List Value))) (by first | rfl | simp only [List.append_assoc, List.append_nil, List.nil_append, List.cons_append]) (by first | rfl | simp only [List.length_append, List.length_cons, List.length_nil, iv_length]) (by first | rfl | simp only [List.length_append, List.length_cons, List.length_nil, iv_length, List.length_replicate])) (by first | rfl | simp only [List.length_append, List.length_cons, List.length_nil, iv_length, List.length_replicate])) ?_
    refine WL.store_mid (i := 1) (pre := (([] : List Value))) (mid := (iv .u8 (List.replicate 32 (0 : Int)) ++ (([.int .u64 0] : List Value) ++ (iv .u8 (List.replicate 32 (0 : Int)) ++ (([.int .u64 0] : List Value) ++ (iv .u8 (List.replicate 32 (0 : Int)) ++ (([.int .u64 0] : List Value) ++ (iv .u8 (List.replicate 32 (0 : Int)) ++ ([.int .u64 0] : List Value))))))))) (post := (([] : List Value))) (ms := (iv .u8 (List.replicate 32 (0 : Int)) ++ (([.int .u64 0] : List Value) ++ (iv .u8 (List.replicate 32 (0 : Int)) ++ (([.int .u64 0] : List Value) ++ (iv .u8 (List.replicate 32 (0 : Int)) ++ (([.int .u64 0] : List Value) ++ (iv .u8 (List.replicate 32 (0 : Int)) ++ ([.int .u64 0] : List Value))))))))) st_7 rfl row36 (by first | rfl | simp only [List.append_assoc, List.append_nil, List.nil_append, List.cons_append]) (by first | rfl | simp only [List.length_append, List.length_cons, List.length_nil, iv_length]) rfl rfl (by first | rfl | simp only [List.length_append, List.length_cons, List.length_nil, iv_length, List.length_replicate]) (by first | rfl | simp only [List.length_append, List.length_cons, List.length_nil, iv_length, List.length_replicate]) (by intro u hu; simp only [List.mem_append, List.mem_singleton] at hu; rcases hu with hu | hu | hu | hu | hu | hu | hu | hu <;> first | exact one_iv _ _ u hu | (subst hu; rfl)) ?_
    intro w_11 st_12
    replace st_12 : St w w_11 [.cells B_5 (iv .u8 (List.replicate 32 (0 : Int)) ++ (([.int .u64 0] : List Value) ++ (iv .u8 (List.replicate 32 (0 : Int)) ++ (([.int .u64 0] : List Value) ++ (iv .u8 (List.replicate 32 (0 : Int)) ++ (([.int .u64 0] : List Value) ++ (iv .u8 (List.replicate 32 (0 : Int)) ++ ([.int .u64 0] : List Value)))))))) 36, .cells B_1 (iv .u8 (List.replicate 32 (0 : Int)) ++ (([.int .u64 0] : List Value) ++ (iv .u8 (List.replicate 32 (0 : Int)) ++ (([.int .u64 0] : List Value) ++ (iv .u8 (List.replicate 32 (0 : Int)) ++ (([.int .u64 0] : List Value) ++ (iv .u8 (List.replicate 32 (0 : Int)) ++ ([.int .u64 0] : List Value)))))))) 36] := by have e_ : (iv .u8 (List.replicate 32 (0 : Int)) ++ (([.int .u64 0] : List Value) ++ (iv .u8 (List.replicate 32 (0 : Int)) ++ (([.int .u64 0] : List Value) ++ (iv .u8 (List.replicate 32 (0 : Int)) ++ (([.int .u64 0] : List Value) ++ (iv .u8 (List.replicate 32 (0 : Int)) ++ ([.int .u64 0] : List Value)))))))) = (([] : List Value)) ++ ((iv .u8 (List.replicate 32 (0 : Int)) ++ (([.int .u64 0] : List Value) ++ (iv .u8 (List.replicate 32 (0 : Int)) ++ (([.int .u64 0] : List Value) ++ (iv .u8 (List.replicate 32 (0 : Int)) ++ (([.int .u64 0] : List Value) ++ (iv .u8 (List.replicate 32 (0 : Int)) ++ ([.int .u64 0] : List Value)))))))) ++ (([] : List Value))) := (by first | rfl | simp only [List.append_assoc, List.append_nil, List.nil_append, List.cons_append]); have h_ : St w w_11 [.cells B_5 (iv .u8 (List.replicate 32 (0 : Int)) ++ (([.int .u64 0] : List Value) ++ (iv .u8 (List.replicate 32 (0 : Int)) ++ (([.int .u64 0] : List Value) ++ (iv .u8 (List.replicate 32 (0 : Int)) ++ (([.int .u64 0] : List Value) ++ (iv .u8 (List.replicate 32 (0 : Int)) ++ ([.int .u64 0] : List Value)))))))) 36, .cells B_1 ((([] : List Value)) ++ ((iv .u8 (List.replicate 32 (0 : Int)) ++ (([.int .u64 0] : List Value) ++ (iv .u8 (List.replicate 32 (0 : Int)) ++ (([.int .u64 0] : List Value) ++ (iv .u8 (List.replicate 32 (0 : Int)) ++ (([.int .u64 0] : List Value) ++ (iv .u8 (List.replicate 32 (0 : Int)) ++ ([.int .u64 0] : List Value)))))))) ++ (([] : List Value)))) 36] := st_12; rw [← e_] at h_; exact h_
    refine WL.val Wanted.none (Runs.assign rfl) ?_
    refine WL.nil ?_
    refine QW.then_n ?_
    refine CW.ret ?_
    refine QW.then_r ?_
    obtain ⟨rfl, rfl, rfl, rfl, rfl, rfl, rfl, rfl, rfl⟩ := H
    exact QW.retr1 rfl row36 rfl st_12 (i := 1) rfl (by first | rfl | simp only [List.length_append, List.length_cons, List.length_nil, iv_length, List.length_replicate]) rfl ⟨(List.length_replicate ..), (List.length_replicate ..), (List.length_replicate ..), (List.length_replicate ..), rfl, st_12.pick [] (by decide)⟩
  · have h_10 : ((l0.length : Int) != 160) = false := (bne_eq_false_iff_eq.mpr (Decidable.not_not.mp c_9))
    refine CW.cf rfl h_10 ?_
    refine CW.skip ?_
    refine QW.then_n ?_
    refine CW.seq ?_
    refine CW.seq ?_
    refine CW.region ?_
    refine WL.val Wanted.none (Runs.assign rfl) ?_
    refine WL.nil ?_
    refine QW.then_n ?_
    refine CW.block ?_
    refine CW.rounds 39 ?_
    refine CW.seq ?_
    refine CW.seq ?_
    refine CW.region ?_
    refine WL.val Wanted.none (Runs.move rfl) ?_
    refine WL.val Wanted.none (Runs.lss (b := true) rfl rfl (by decide)) ?_
    refine WL.nil ?_
    refine QW.then_n ?_
    refine CW.ct rfl rfl ?_
    refine CW.skip ?_
    refine QW.then_n ?_
    refine CW.seq ?_
    refine CW.block ?_
    refine CW.seq ?_
    refine CW.seq ?_
    refine CW.region ?_
    refine WL.val Wanted.none (Runs.assign rfl) ?_
    refine WL.nil ?_
    refine QW.then_n ?_
    refine CW.block ?_
    obtain ⟨k_13, H⟩ := H
    refine CW.sub [(0, .slice A0 n0 c0), (2, .pointer (some ⟨B_1, 0, none⟩)), (3, .int .i64 0), (4, .pointer (some ⟨B_5, 0, none⟩)), (5, .int .i64 0), (11, .int .i64 0), (12, .bool true), (6, .int .i64 0)] ⟨rfl, rfl, rfl, rfl, rfl, rfl, rfl, rfl, trivial⟩ ?_
    refine CW.loop (fun kL1 l_ w_ => ∃ (m_14 : List Int) (m_16 : List Int) (m_18 : List Int) (m_20 : List Int) (x_22 : Int), l_ = [(0, .slice A0 n0 c0), (2, .pointer (some ⟨B_1, 0, none⟩)), (3, .int .i64 0), (4, .pointer (some ⟨B_5, 0, none⟩)), (5, .int .i64 0), (11, .int .i64 0), (12, .bool true), (6, .int .i64 x_22)] ∧ reliquaryref10_Get.L1 l0 r0_0 r0_1 r0_2 r0_3 r0_4 r0_5 r0_6 r0_7 r1 kL1 m_14 m_16 m_18 m_20 x_22 ∧ (m_14.length = 32) ∧ (m_16.length = 32) ∧ (m_18.length = 32) ∧ (m_20.length = 32) ∧ St w w_ [.cells B_5 (iv .u8 m_14 ++ (([.int .u64 0] : List Value) ++ (iv .u8 m_16 ++ (([.int .u64 0] : List Value) ++ (iv .u8 m_18 ++ (([.int .u64 0] : List Value) ++ (iv .u8 m_20 ++ ([.int .u64 0] : List Value)))))))) 36, .cells B_1 (iv .u8 (List.replicate 32 (0 : Int)) ++ (([.int .u64 0] : List Value) ++ (iv .u8 (List.replicate 32 (0 : Int)) ++ (([.int .u64 0] : List Value) ++ (iv .u8 (List.replicate 32 (0 : Int)) ++ (([.int .u64 0] : List Value) ++ (iv .u8 (List.replicate 32 (0 : Int)) ++ ([.int .u64 0] : List Value)))))))) 36]) (k := k_13) ⟨List.replicate 32 (0 : Int), List.replicate 32 (0 : Int), List.replicate 32 (0 : Int), List.replicate 32 (0 : Int), 0, rfl, H, (List.length_replicate ..), (List.length_replicate ..), (List.length_replicate ..), (List.length_replicate ..), st_7⟩ (fun _ _ h => by obtain ⟨_, _, _, _, _, _, h, _⟩ := h; exact h.elim) ?_
    rintro kL1 l_25 w_23 ⟨m_14, m_16, m_18, m_20, x_22, rfl, H, hl_15, hl_17, hl_19, hl_21, st_24⟩
    refine CW.seq ?_
    refine CW.seq ?_
    refine CW.region ?_
    refine WL.val Wanted.none (Runs.move rfl) ?_
    refine WL.val Wanted.none (Runs.lss rfl rfl rfl) ?_
    refine WL.nil ?_
    refine QW.then_n ?_
    rcases H with ⟨c_26, H⟩ | ⟨c_26, H⟩
    · have h_27 : (decide (x_22 < 32)) = true := (decide_eq_true c_26)
      refine CW.ct rfl h_27 ?_
      refine CW.skip ?_
      refine QW.then_n ?_
      refine CW.seq ?_
      refine CW.block ?_
      refine CW.region_qt 12 wide (by kernel_rfl) st_24 ?_
      refine HL.val Wanted.none (fun wq sq => (Runs.move rfl)) ?_
      refine HL.val Wanted.none (fun wq sq => (Runs.move rfl)) ?_
      refine HL.val Wanted.none (fun wq sq => (Runs.move rfl)) ?_
      refine HL.val Wanted.none (fun wq sq => (Runs.move rfl)) ?_
      refine HL.val Wanted.none (fun wq sq => (Runs.mul (z := 0) rfl rfl (by decide))) ?_
      refine HL.val Wanted.none (fun wq sq => (Runs.move rfl)) ?_
      refine HL.val Wanted.none (fun wq sq => (Runs.add rfl rfl rfl)) ?_
      obtain ⟨⟨p_28, q_29⟩, H⟩ := H
      obtain ⟨a_30, e_31⟩ := (hs0.ext st_24).addr_iv ((IntKind.i64.wrap (0 + x_22)).toNat) (by omega)
      refine HL.val Wanted.none (fun wq sq => (Runs.indexAddr Tryd.underlying29 cells5 (by decide) rfl e_31 rfl p_28 (by rw [hn0]; exact q_29) (o := (IntKind.i64.wrap (0 + x_22)).toNat) (by first | rfl | omega))) ?_
      refine HL.val Wanted.none (fun wq sq => (Runs.load nagg5 rfl ((hs0.ext sq).cell_iv e_31 (by omega)))) ?_
      refine HL.val Wanted.none (fun wq sq => (Runs.indexAddr_row (p := 0) Tryd.underlying36 siz35 rfl rfl (by decide) (by decide) rfl)) ?_
      refine HL.val Wanted.none (fun wq sq => (Runs.fieldAddr (off := 0) (p := 0) fld35_0 rfl rfl rfl)) ?_
      obtain ⟨⟨p_32, q_33⟩, H⟩ := H
      refine HL.val Wanted.none (fun wq sq => (Runs.indexAddr_mid arr23 rfl rfl p_32 q_33 (j := ((x_22).toNat)) (by first | rfl | omega))) ?_
      refine HL.nil (fun w_34 st_35 => ?_)
      obtain ⟨m_36, e_37, H⟩ := H
      have hl_40 : m_36.length = 32 := by rw [e_37, List.length_set]; exact hl_15
      refine WL.store_cellM (i := 0) (pre := (([] : List Value))) (xs := m_14) (post := (([.int .u64 0] : List Value) ++ (iv .u8 m_16 ++ (([.int .u64 0] : List Value) ++ (iv .u8 m_18 ++ (([.int .u64 0] : List Value) ++ (iv .u8 m_20 ++ ([.int .u64 0] : List Value)))))))) st_35 rfl cells5 (by first | rfl | simp only [List.append_assoc, List.append_nil, List.nil_append, List.cons_append]) (by first | rfl | simp only [List.length_append, List.length_cons, List.length_nil, iv_length]) (by have := hl_15; omega) rfl rfl ?_
      intro w_38 st_39
      replace st_39 : St w w_38 [.cells B_5 (iv .u8 m_36 ++ (([.int .u64 0] : List Value) ++ (iv .u8 m_16 ++ (([.int .u64 0] : List Value) ++ (iv .u8 m_18 ++ (([.int .u64 0] : List Value) ++ (iv .u8 m_20 ++ ([.int .u64 0] : List Value)))))))) 36, .cells B_1 (iv .u8 (List.replicate 32 (0 : Int)) ++ (([.int .u64 0] : List Value) ++ (iv .u8 (List.replicate 32 (0 : Int)) ++ (([.int .u64 0] : List Value) ++ (iv .u8 (List.replicate 32 (0 : Int)) ++ (([.int .u64 0] : List Value) ++ (iv .u8 (List.replicate 32 (0 : Int)) ++ ([.int .u64 0] : List Value)))))))) 36] := by have e_ : (iv .u8 m_36 ++ (([.int .u64 0] : List Value) ++ (iv .u8 m_16 ++ (([.int .u64 0] : List Value) ++ (iv .u8 m_18 ++ (([.int .u64 0] : List Value) ++ (iv .u8 m_20 ++ ([.int .u64 0] : List Value)))))))) = (([] : List Value)) ++ (iv .u8 m_36 ++ (([.int .u64 0] : List Value) ++ (iv .u8 m_16 ++ (([.int .u64 0] : List Value) ++ (iv .u8 m_18 ++ (([.int .u64 0] : List Value) ++ (iv .u8 m_20 ++ ([.int .u64 0] : List Value)))))))) := (by first | rfl | simp only [List.append_assoc, List.append_nil, List.nil_append, List.cons_append]); have h_ : St w w_38 [.cells B_5 ((([] : List Value)) ++ (iv .u8 (List.set m_14 ((x_22).toNat) (gn l0 ((IntKind.i64.wrap (0 + x_22)).toNat))) ++ (([.int .u64 0] : List Value) ++ (iv .u8 m_16 ++ (([.int .u64 0] : List Value) ++ (iv .u8 m_18 ++ (([.int .u64 0] : List Value) ++ (iv .u8 m_20 ++ ([.int .u64 0] : List Value))))))))) 36, .cells B_1 (iv .u8 (List.replicate 32 (0 : Int)) ++ (([.int .u64 0] : List Value) ++ (iv .u8 (List.replicate 32 (0 : Int)) ++ (([.int .u64 0] : List Value) ++ (iv .u8 (List.replicate 32 (0 : Int)) ++ (([.int .u64 0] : List Value) ++ (iv .u8 (List.replicate 32 (0 : Int)) ++ ([.int .u64 0] : List Value)))))))) 36] := st_39; rw [← e_37, ← e_] at h_; exact h_
      refine WL.nil ?_
      refine QW.blk_n ?_
      refine QW.then_n ?_
      refine CW.region ?_
      refine WL.val Wanted.none (Runs.move rfl) ?_
      refine WL.val Wanted.none (Runs.add rfl rfl rfl) ?_
      refine WL.val Wanted.none (Runs.assign rfl) ?_
      refine WL.nil ?_
      exact QW.at [(0, .slice A0 n0 c0), (2, .pointer (some ⟨B_1, 0, none⟩)), (3, .int .i64 0), (4, .pointer (some ⟨B_5, 0, none⟩)), (5, .int .i64 0), (11, .int .i64 0), (12, .bool true), (6, .int .i64 (IntKind.i64.wrap (x_22 + 1)))] ⟨rfl, rfl, rfl, rfl, rfl, rfl, rfl, rfl, trivial⟩ ⟨m_36, m_16, m_18, m_20, IntKind.i64.wrap (x_22 + 1), rfl, H, hl_40, hl_17, hl_19, hl_21, st_39⟩
    · have h_27 : (decide (x_22 < 32)) = false := (decide_eq_false c_26)
      refine CW.cf rfl h_27 ?_
      refine CW.exit ?_
      refine QW.then_x ?_
      refine QW.then_x ?_
      refine QW.blk_x ?_
      refine QW.then_n ?_
      refine CW.region ?_
      refine WL.val Wanted.none (Runs.move rfl) ?_
      refine WL.val Wanted.none (Runs.move rfl) ?_
      refine WL.val Wanted.none (Runs.move rfl) ?_
      refine WL.val Wanted.none (Runs.mul (z := 0) rfl rfl (by decide)) ?_
      refine WL.val Wanted.none (Runs.add (z := 32) rfl rfl (by decide)) ?_
      obtain ⟨r_45, r_46, hr_41, H⟩ := H
      refine WL.call Wanted.none ent24 rfl (reliquaryref01_Get.calls w_23 l0 32 8 A0 n0 c0 (hs0.ext st_24) (hn0) (hc0) r_45 r_46 hr_41) ?_
      rintro _ w_42 ⟨rfl, sc_44⟩
      have st_43 : St w w_42 [.cells B_5 (iv .u8 m_14 ++ (([.int .u64 0] : List Value) ++ (iv .u8 m_16 ++ (([.int .u64 0] : List Value) ++ (iv .u8 m_18 ++ (([.int .u64 0] : List Value) ++ (iv .u8 m_20 ++ ([.int .u64 0] : List Value)))))))) 36, .cells B_1 (iv .u8 (List.replicate 32 (0 : Int)) ++ (([.int .u64 0] : List Value) ++ (iv .u8 (List.replicate 32 (0 : Int)) ++ (([.int .u64 0] : List Value) ++ (iv .u8 (List.replicate 32 (0 : Int)) ++ (([.int .u64 0] : List Value) ++ (iv .u8 (List.replicate 32 (0 : Int)) ++ ([.int .u64 0] : List Value)))))))) 36] := st_24.call sc_44
      refine ⟨_, rfl, ?_⟩
      refine WL.val Wanted.none (Runs.move rfl) ?_
      refine WL.val Wanted.none (Runs.extract rfl rfl) ?_
      refine WL.val Wanted.none (Runs.extract rfl rfl) ?_
      refine WL.val Wanted.none (Runs.indexAddr_row (p := 0) Tryd.underlying36 siz35 rfl rfl (by decide) (by decide) rfl) ?_
      refine WL.val Wanted.none (Runs.fieldAddr (off := 32) (p := 32) fld35_1 rfl rfl rfl) ?_
      refine WL.store_one (i := 0) (u0 := .int .u64 0) (pre := (iv .u8 m_14)) (post := (iv .u8 m_16 ++ (([.int .u64 0] : List Value) ++ (iv .u8 m_18 ++ (([.int .u64 0] : List Value) ++ (iv .u8 m_20 ++ ([.int .u64 0] : List Value))))))) st_43 rfl cells24 (by first | rfl | simp only [List.append_assoc, List.append_nil, List.nil_append, List.cons_append]) (by first | rfl | simp only [List.length_append, List.length_cons, List.length_nil, iv_length, hl_15]) rfl rfl rfl ?_
      intro w_47 st_48
      replace st_48 : St w w_47 [.cells B_5 (iv .u8 m_14 ++ (([.int .u64 r_45] : List Value) ++ (iv .u8 m_16 ++ (([.int .u64 0] : List Value) ++ (iv .u8 m_18 ++ (([.int .u64 0] : List Value) ++ (iv .u8 m_20 ++ ([.int .u64 0] : List Value)))))))) 36, .cells B_1 (iv .u8 (List.replicate 32 (0 : Int)) ++ (([.int .u64 0] : List Value) ++ (iv .u8 (List.replicate 32 (0 : Int)) ++ (([.int .u64 0] : List Value) ++ (iv .u8 (List.replicate 32 (0 : Int)) ++ (([.int .u64 0] : List Value) ++ (iv .u8 (List.replicate 32 (0 : Int)) ++ ([.int .u64 0] : List Value)))))))) 36] := by have e_ : (iv .u8 m_14 ++ (([.int .u64 r_45] : List Value) ++ (iv .u8 m_16 ++ (([.int .u64 0] : List Value) ++ (iv .u8 m_18 ++ (([.int .u64 0] : List Value) ++ (iv .u8 m_20 ++ ([.int .u64 0] : List Value)))))))) = (iv .u8 m_14) ++ ((([.int .u64 r_45] : List Value)) ++ (iv .u8 m_16 ++ (([.int .u64 0] : List Value) ++ (iv .u8 m_18 ++ (([.int .u64 0] : List Value) ++ (iv .u8 m_20 ++ ([.int .u64 0] : List Value))))))) := (by first | rfl | simp only [List.append_assoc, List.append_nil, List.nil_append, List.cons_append]); have h_ : St w w_47 [.cells B_5 ((iv .u8 m_14) ++ ((([.int .u64 r_45] : List Value)) ++ (iv .u8 m_16 ++ (([.int .u64 0] : List Value) ++ (iv .u8 m_18 ++ (([.int .u64 0] : List Value) ++ (iv .u8 m_20 ++ ([.int .u64 0] : List Value)))))))) 36, .cells B_1 (iv .u8 (List.replicate 32 (0 : Int)) ++ (([.int .u64 0] : List Value) ++ (iv .u8 (List.replicate 32 (0 : Int)) ++ (([.int .u64 0] : List Value) ++ (iv .u8 (List.replicate 32 (0 : Int)) ++ (([.int .u64 0] : List Value) ++ (iv .u8 (List.replicate 32 (0 : Int)) ++ ([.int .u64 0] : List Value)))))))) 36] := st_48; rw [← e_] at h_; exact h_
      refine WL.nil ?_
      refine QW.blk_n ?_
      refine QW.then_n ?_
      refine CW.region ?_
      refine WL.val Wanted.none (Runs.move rfl) ?_
      refine WL.val Wanted.none (Runs.add (z := 1) rfl rfl (by decide)) ?_
      refine WL.val Wanted.none (Runs.assign rfl) ?_
      refine WL.nil ?_
      refine QW.round ?_
      refine CW.seq ?_
      refine CW.seq ?_
      refine CW.region ?_
      refine WL.val Wanted.none (Runs.move rfl) ?_
      refine WL.val Wanted.none (Runs.lss (b := true) rfl rfl (by decide)) ?_
      refine WL.nil ?_
      refine QW.then_n ?_
      refine CW.ct rfl rfl ?_
      refine CW.skip ?_
      refine QW.then_n ?_
      refine CW.seq ?_
      refine CW.block ?_
      refine CW.seq ?_
      refine CW.seq ?_
      refine CW.region ?_
      refine WL.val Wanted.none (Runs.assign rfl) ?_
      refine WL.nil ?_
      refine QW.then_n ?_
      refine CW.block ?_
      obtain ⟨k_49, H⟩ := H
      refine CW.sub [(0, .slice A0 n0 c0), (2, .pointer (some ⟨B_1, 0, none⟩)), (3, .int .i64 0), (4, .pointer (some ⟨B_5, 0, none⟩)), (5, .int .i64 1), (11, .int .i64 1), (12, .bool true), (6, .int .i64 0), (15, .int .i64 x_22), (16, .bool (decide (x_22 < 32))), (32, .int .i64 0), (33, .slice A0 n0 c0), (34, .int .i64 0), (35, .int .i64 0), (36, .int .i64 32), (37, .tuple #[.int .u64 r_45, .int .i64 r_46]), (31, .tuple #[.int .u64 r_45, .int .i64 r_46]), (38, .int .u64 r_45), (40, .pointer (some ⟨B_5, 0, none⟩)), (41, .pointer (some ⟨B_5, 32, none⟩)), (13, .int .i64 0), (14, .int .i64 1)] ⟨rfl, rfl, rfl, rfl, rfl, rfl, rfl, rfl, rfl, rfl, rfl, rfl, rfl, rfl, rfl, rfl, rfl, rfl, rfl, rfl, rfl, rfl, trivial⟩ ?_
      refine CW.loop (fun kL2 l_ w_ => ∃ (m_50 : List Int) (m_52 : List Int) (m_54 : List Int) (m_56 : List Int) (x_58 : Int) (x_59 : Int) (b_60 : Bool), l_ = [(0, .slice A0 n0 c0), (2, .pointer (some ⟨B_1, 0, none⟩)), (3, .int .i64 0), (4, .pointer (some ⟨B_5, 0, none⟩)), (5, .int .i64 1), (11, .int .i64 1), (12, .bool true), (6, .int .i64 x_58), (15, .int .i64 x_59), (16, .bool b_60), (32, .int .i64 0), (33, .slice A0 n0 c0), (34, .int .i64 0), (35, .int .i64 0), (36, .int .i64 32), (37, .tuple #[.int .u64 r_45, .int .i64 r_46]), (31, .tuple #[.int .u64 r_45, .int .i64 r_46]), (38, .int .u64 r_45), (40, .pointer (some ⟨B_5, 0, none⟩)), (41, .pointer (some ⟨B_5, 32, none⟩)), (13, .int .i64 0), (14, .int .i64 1)] ∧ reliquaryref10_Get.L2 l0 r0_0 r0_1 r0_2 r0_3 r0_4 r0_5 r0_6 r0_7 r1 r_45 kL2 m_50 m_52 m_54 m_56 x_58 x_59 b_60 ∧ (m_50.length = 32) ∧ (m_52.length = 32) ∧ (m_54.length = 32) ∧ (m_56.length = 32) ∧ St w w_ [.cells B_5 (iv .u8 m_50 ++ (([.int .u64 r_45] : List Value) ++ (iv .u8 m_52 ++ (([.int .u64 0] : List Value) ++ (iv .u8 m_54 ++ (([.int .u64 0] : List Value) ++ (iv .u8 m_56 ++ ([.int .u64 0] : List Value)))))))) 36, .cells B_1 (iv .u8 (List.replicate 32 (0 : Int)) ++ (([.int .u64 0] : List Value) ++ (iv .u8 (List.replicate 32 (0 : Int)) ++ (([.int .u64 0] : List Value) ++ (iv .u8 (List.replicate 32 (0 : Int)) ++ (([.int .u64 0] : List Value) ++ (iv .u8 (List.replicate 32 (0 : Int)) ++ ([.int .u64 0] : List Value)))))))) 36]) (k := k_49) ⟨m_14, m_16, m_18, m_20, 0, x_22, decide (x_22 < 32), rfl, H, hl_15, hl_17, hl_19, hl_21, st_48⟩ (fun _ _ h => by obtain ⟨_, _, _, _, _, _, _, _, h, _⟩ := h; exact h.elim) ?_
      rintro kL2 l_63 w_61 ⟨m_50, m_52, m_54, m_56, x_58, x_59, b_60, rfl, H, hl_51, hl_53, hl_55, hl_57, st_62⟩
      refine CW.seq ?_
      refine CW.seq ?_
      refine CW.region ?_
      refine WL.val Wanted.none (Runs.move rfl) ?_
      refine WL.val Wanted.none (Runs.lss rfl rfl rfl) ?_
      refine WL.nil ?_
      refine QW.then_n ?_
      rcases H with ⟨c_64, H⟩ | ⟨c_64, H⟩
      · have h_65 : (decide (x_58 < 32)) = true := (decide_eq_true c_64)
        refine CW.ct rfl h_65 ?_
        refine CW.skip ?_
        refine QW.then_n ?_
        refine CW.seq ?_
        refine CW.block ?_
        refine CW.region_qt 12 wide (by kernel_rfl) st_62 ?_
        refine HL.val Wanted.none (fun wq sq => (Runs.move rfl)) ?_
        refine HL.val Wanted.none (fun wq sq => (Runs.move rfl)) ?_
        refine HL.val Wanted.none (fun wq sq => (Runs.move rfl)) ?_
        refine HL.val Wanted.none (fun wq sq => (Runs.move rfl)) ?_
        refine HL.val Wanted.none (fun wq sq => (Runs.mul (z := 40) rfl rfl (by decide))) ?_
        refine HL.val Wanted.none (fun wq sq => (Runs.move rfl)) ?_
        refine HL.val Wanted.none (fun wq sq => (Runs.add rfl rfl rfl)) ?_
        obtain ⟨⟨p_66, q_67⟩, H⟩ := H
        obtain ⟨a_68, e_69⟩ := (hs0.ext st_62).addr_iv ((IntKind.i64.wrap (40 + x_58)).toNat) (by omega)
        refine HL.val Wanted.none (fun wq sq => (Runs.indexAddr Tryd.underlying29 cells5 (by decide) rfl e_69 rfl p_66 (by rw [hn0]; exact q_67) (o := (IntKind.i64.wrap (40 + x_58)).toNat) (by first | rfl | omega))) ?_
        refine HL.val Wanted.none (fun wq sq => (Runs.load nagg5 rfl ((hs0.ext sq).cell_iv e_69 (by omega)))) ?_
        refine HL.val Wanted.none (fun wq sq => (Runs.indexAddr_row (p := 33) Tryd.underlying36 siz35 rfl rfl (by decide) (by decide) rfl)) ?_
        refine HL.val Wanted.none (fun wq sq => (Runs.fieldAddr (off := 0) (p := 33) fld35_0 rfl rfl rfl)) ?_
        obtain ⟨⟨p_70, q_71⟩, H⟩ := H
        refine HL.val Wanted.none (fun wq sq => (Runs.indexAddr_mid arr23 rfl rfl p_70 q_71 (j := ((x_58).toNat)) (by first | rfl | omega))) ?_
        refine HL.nil (fun w_72 st_73 => ?_)
        obtain ⟨m_74, e_75, H⟩ := H
        have hl_78 : m_74.length = 32 := by rw [e_75, List.length_set]; exact hl_53
        refine WL.store_cellM (i := 0) (pre := (iv .u8 m_50 ++ ([.int .u64 r_45] : List Value))) (xs := m_52) (post := (([.int .u64 0] : List Value) ++ (iv .u8 m_54 ++ (([.int .u64 0] : List Value) ++ (iv .u8 m_56 ++ ([.int .u64 0] : List Value)))))) st_73 rfl cells5 (by first | rfl | simp only [List.append_assoc, List.append_nil, List.nil_append, List.cons_append]) (by first | rfl | simp only [List.length_append, List.length_cons, List.length_nil, iv_length, hl_51]) (by have := hl_53; omega) rfl rfl ?_
        intro w_76 st_77
        replace st_77 : St w w_76 [.cells B_5 (iv .u8 m_50 ++ (([.int .u64 r_45] : List Value) ++ (iv .u8 m_74 ++ (([.int .u64 0] : List Value) ++ (iv .u8 m_54 ++ (([.int .u64 0] : List Value) ++ (iv .u8 m_56 ++ ([.int .u64 0] : List Value)))))))) 36, .cells B_1 (iv .u8 (List.replicate 32 (0 : Int)) ++ (([.int .u64 0] : List Value) ++ (iv .u8 (List.replicate 32 (0 : Int)) ++ (([.int .u64 0] : List Value) ++ (iv .u8 (List.replicate 32 (0 : Int)) ++ (([.int .u64 0] : List Value) ++ (iv .u8 (List.replicate 32 (0 : Int)) ++ ([.int .u64 0] : List Value)))))))) 36] := by have e_ : (iv .u8 m_50 ++ (([.int .u64 r_45] : List Value) ++ (iv .u8 m_74 ++ (([.int .u64 0] : List Value) ++ (iv .u8 m_54 ++ (([.int .u64 0] : List Value) ++ (iv .u8 m_56 ++ ([.int .u64 0] : List Value)))))))) = (iv .u8 m_50 ++ ([.int .u64 r_45] : List Value)) ++ (iv .u8 m_74 ++ (([.int .u64 0] : List Value) ++ (iv .u8 m_54 ++ (([.int .u64 0] : List Value) ++ (iv .u8 m_56 ++ ([.int .u64 0] : List Value)))))) := (by first | rfl | simp only [List.append_assoc, List.append_nil, List.nil_append, List.cons_append]); have h_ : St w w_76 [.cells B_5 ((iv .u8 m_50 ++ ([.int .u64 r_45] : List Value)) ++ (iv .u8 (List.set m_52 ((x_58).toNat) (gn l0 ((IntKind.i64.wrap (40 + x_58)).toNat))) ++ (([.int .u64 0] : List Value) ++ (iv .u8 m_54 ++ (([.int .u64 0] : List Value) ++ (iv .u8 m_56 ++ ([.int .u64 0] : List Value))))))) 36, .cells B_1 (iv .u8 (List.replicate 32 (0 : Int)) ++ (([.int .u64 0] : List Value) ++ (iv .u8 (List.replicate 32 (0 : Int)) ++ (([.int .u64 0] : List Value) ++ (iv .u8 (List.replicate 32 (0 : Int)) ++ (([.int .u64 0] : List Value) ++ (iv .u8 (List.replicate 32 (0 : Int)) ++ ([.int .u64 0] : List Value)))))))) 36] := st_77; rw [← e_75, ← e_] at h_; exact h_
        refine WL.nil ?_
        refine QW.blk_n ?_
        refine QW.then_n ?_
        refine CW.region ?_
        refine WL.val Wanted.none (Runs.move rfl) ?_
        refine WL.val Wanted.none (Runs.add rfl rfl rfl) ?_
        refine WL.val Wanted.none (Runs.assign rfl) ?_
        refine WL.nil ?_
        exact QW.at [(0, .slice A0 n0 c0), (2, .pointer (some ⟨B_1, 0, none⟩)), (3, .int .i64 0), (4, .pointer (some ⟨B_5, 0, none⟩)), (5, .int .i64 1), (11, .int .i64 1), (12, .bool true), (6, .int .i64 (IntKind.i64.wrap (x_58 + 1))), (15, .int .i64 x_58), (16, .bool (decide (x_58 < 32))), (32, .int .i64 0), (33, .slice A0 n0 c0), (34, .int .i64 0), (35, .int .i64 0), (36, .int .i64 32), (37, .tuple #[.int .u64 r_45, .int .i64 r_46]), (31, .tuple #[.int .u64 r_45, .int .i64 r_46]), (38, .int .u64 r_45), (40, .pointer (some ⟨B_5, 0, none⟩)), (41, .pointer (some ⟨B_5, 32, none⟩)), (13, .int .i64 0), (14, .int .i64 1)] ⟨rfl, rfl, rfl, rfl, rfl, rfl, rfl, rfl, rfl, rfl, rfl, rfl, rfl, rfl, rfl, rfl, rfl, rfl, rfl, rfl, rfl, rfl, trivial⟩ ⟨m_50, m_74, m_54, m_56, IntKind.i64.wrap (x_58 + 1), x_58, decide (x_58 < 32), rfl, H, hl_51, hl_78, hl_55, hl_57, st_77⟩
      · have h_65 : (decide (x_58 < 32)) = false := (decide_eq_false c_64)
        refine CW.cf rfl h_65 ?_
        refine CW.exit ?_
        refine QW.then_x ?_
        refine QW.then_x ?_
        refine QW.blk_x ?_
        refine QW.then_n ?_
        refine CW.region ?_
        refine WL.val Wanted.none (Runs.move rfl) ?_
        refine WL.val Wanted.none (Runs.move rfl) ?_
        refine WL.val Wanted.none (Runs.move rfl) ?_
        refine WL.val Wanted.none (Runs.mul (z := 40) rfl rfl (by decide)) ?_
        refine WL.val Wanted.none (Runs.add (z := 72) rfl rfl (by decide)) ?_
        obtain ⟨r_83, r_84, hr_79, H⟩ := H
        refine WL.call Wanted.none ent24 rfl (reliquaryref01_Get.calls w_61 l0 72 8 A0 n0 c0 (hs0.ext st_62) (hn0) (hc0) r_83 r_84 hr_79) ?_
        rintro _ w_80 ⟨rfl, sc_82⟩
        have st_81 : St w w_80 [.cells B_5 (iv .u8 m_50 ++ (([.int .u64 r_45] : List Value) ++ (iv .u8 m_52 ++ (([.int .u64 0] : List Value) ++ (iv .u8 m_54 ++ (([.int .u64 0] : List Value) ++ (iv .u8 m_56 ++ ([.int .u64 0] : List Value)))))))) 36, .cells B_1 (iv .u8 (List.replicate 32 (0 : Int)) ++ (([.int .u64 0] : List Value) ++ (iv .u8 (List.replicate 32 (0 : Int)) ++ (([.int .u64 0] : List Value) ++ (iv .u8 (List.replicate 32 (0 : Int)) ++ (([.int .u64 0] : List Value) ++ (iv .u8 (List.replicate 32 (0 : Int)) ++ ([.int .u64 0] : List Value)))))))) 36] := st_62.call sc_82
        refine ⟨_, rfl, ?_⟩
        refine WL.val Wanted.none (Runs.move rfl) ?_
        refine WL.val Wanted.none (Runs.extract rfl rfl) ?_
        refine WL.val Wanted.none (Runs.extract rfl rfl) ?_
        refine WL.val Wanted.none (Runs.indexAddr_row (p := 33) Tryd.underlying36 siz35 rfl rfl (by decide) (by decide) rfl) ?_
        refine WL.val Wanted.none (Runs.fieldAddr (off := 32) (p := 65) fld35_1 rfl rfl rfl) ?_
        refine WL.store_one (i := 0) (u0 := .int .u64 0) (pre := (iv .u8 m_50 ++ (([.int .u64 r_45] : List Value) ++ iv .u8 m_52))) (post := (iv .u8 m_54 ++ (([.int .u64 0] : List Value) ++ (iv .u8 m_56 ++ ([.int .u64 0] : List Value))))) st_81 rfl cells24 (by first | rfl | simp only [List.append_assoc, List.append_nil, List.nil_append, List.cons_append]) (by first | rfl | simp only [List.length_append, List.length_cons, List.length_nil, iv_length, hl_51, hl_53]) rfl rfl rfl ?_
        intro w_85 st_86
        replace st_86 : St w w_85 [.cells B_5 (iv .u8 m_50 ++ (([.int .u64 r_45] : List Value) ++ (iv .u8 m_52 ++ (([.int .u64 r_83] : List Value) ++ (iv .u8 m_54 ++ (([.int .u64 0] : List Value) ++ (iv .u8 m_56 ++ ([.int .u64 0] : List Value)))))))) 36, .cells B_1 (iv .u8 (List.replicate 32 (0 : Int)) ++ (([.int .u64 0] : List Value) ++ (iv .u8 (List.replicate 32 (0 : Int)) ++ (([.int .u64 0] : List Value) ++ (iv .u8 (List.replicate 32 (0 : Int)) ++ (([.int .u64 0] : List Value) ++ (iv .u8 (List.replicate 32 (0 : Int)) ++ ([.int .u64 0] : List Value)))))))) 36] := by have e_ : (iv .u8 m_50 ++ (([.int .u64 r_45] : List Value) ++ (iv .u8 m_52 ++ (([.int .u64 r_83] : List Value) ++ (iv .u8 m_54 ++ (([.int .u64 0] : List Value) ++ (iv .u8 m_56 ++ ([.int .u64 0] : List Value)))))))) = (iv .u8 m_50 ++ (([.int .u64 r_45] : List Value) ++ iv .u8 m_52)) ++ ((([.int .u64 r_83] : List Value)) ++ (iv .u8 m_54 ++ (([.int .u64 0] : List Value) ++ (iv .u8 m_56 ++ ([.int .u64 0] : List Value))))) := (by first | rfl | simp only [List.append_assoc, List.append_nil, List.nil_append, List.cons_append]); have h_ : St w w_85 [.cells B_5 ((iv .u8 m_50 ++ (([.int .u64 r_45] : List Value) ++ iv .u8 m_52)) ++ ((([.int .u64 r_83] : List Value)) ++ (iv .u8 m_54 ++ (([.int .u64 0] : List Value) ++ (iv .u8 m_56 ++ ([.int .u64 0] : List Value)))))) 36, .cells B_1 (iv .u8 (List.replicate 32 (0 : Int)) ++ (([.int .u64 0] : List Value) ++ (iv .u8 (List.replicate 32 (0 : Int)) ++ (([.int .u64 0] : List Value) ++ (iv .u8 (List.replicate 32 (0 : Int)) ++ (([.int .u64 0] : List Value) ++ (iv .u8 (List.replicate 32 (0 : Int)) ++ ([.int .u64 0] : List Value)))))))) 36] := st_86; rw [← e_] at h_; exact h_
        refine WL.nil ?_
        refine QW.blk_n ?_
        refine QW.then_n ?_
        refine CW.region ?_
        refine WL.val Wanted.none (Runs.move rfl) ?_
        refine WL.val Wanted.none (Runs.add (z := 2) rfl rfl (by decide)) ?_
        refine WL.val Wanted.none (Runs.assign rfl) ?_
        refine WL.nil ?_
        refine QW.round ?_
        refine CW.seq ?_
        refine CW.seq ?_
        refine CW.region ?_
        refine WL.val Wanted.none (Runs.move rfl) ?_
        refine WL.val Wanted.none (Runs.lss (b := true) rfl rfl (by decide)) ?_
        refine WL.nil ?_
        refine QW.then_n ?_
        refine CW.ct rfl rfl ?_
        refine CW.skip ?_
        refine QW.then_n ?_
        refine CW.seq ?_
        refine CW.block ?_
        refine CW.seq ?_
        refine CW.seq ?_
        refine CW.region ?_
        refine WL.val Wanted.none (Runs.assign rfl) ?_
        refine WL.nil ?_
        refine QW.then_n ?_
        refine CW.block ?_
        obtain ⟨k_87, H⟩ := H
        refine CW.sub [(0, .slice A0 n0 c0), (2, .pointer (some ⟨B_1, 0, none⟩)), (3, .int .i64 0), (4, .pointer (some ⟨B_5, 0, none⟩)), (5, .int .i64 2), (11, .int .i64 2), (12, .bool true), (6, .int .i64 0), (15, .int .i64 x_58), (16, .bool (decide (x_58 < 32))), (32, .int .i64 1), (33, .slice A0 n0 c0), (34, .int .i64 1), (35, .int .i64 40), (36, .int .i64 72), (37, .tuple #[.int .u64 r_83, .int .i64 r_84]), (31, .tuple #[.int .u64 r_83, .int .i64 r_84]), (38, .int .u64 r_83), (40, .pointer (some ⟨B_5, 33, none⟩)), (41, .pointer (some ⟨B_5, 65, none⟩)), (13, .int .i64 1), (14, .int .i64 2)] ⟨rfl, rfl, rfl, rfl, rfl, rfl, rfl, rfl, rfl, rfl, rfl, rfl, rfl, rfl, rfl, rfl, rfl, rfl, rfl, rfl, rfl, rfl, trivial⟩ ?_
        refine CW.loop (fun kL3 l_ w_ => ∃ (m_88 : List Int) (m_90 : List Int) (m_92 : List Int) (m_94 : List Int) (x_96 : Int) (x_97 : Int) (b_98 : Bool), l_ = [(0, .slice A0 n0 c0), (2, .pointer (some ⟨B_1, 0, none⟩)), (3, .int .i64 0), (4, .pointer (some ⟨B_5, 0, none⟩)), (5, .int .i64 2), (11, .int .i64 2), (12, .bool true), (6, .int .i64 x_96), (15, .int .i64 x_97), (16, .bool b_98), (32, .int .i64 1), (33, .slice A0 n0 c0), (34, .int .i64 1), (35, .int .i64 40), (36, .int .i64 72), (37, .tuple #[.int .u64 r_83, .int .i64 r_84]), (31, .tuple #[.int .u64 r_83, .int .i64 r_84]), (38, .int .u64 r_83), (40, .pointer (some ⟨B_5, 33, none⟩)), (41, .pointer (some ⟨B_5, 65, none⟩)), (13, .int .i64 1), (14, .int .i64 2)] ∧ reliquaryref10_Get.L3 l0 r0_0 r0_1 r0_2 r0_3 r0_4 r0_5 r0_6 r0_7 r1 r_45 r_83 kL3 m_88 m_90 m_92 m_94 x_96 x_97 b_98 ∧ (m_88.length = 32) ∧ (m_90.length = 32) ∧ (m_92.length = 32) ∧ (m_94.length = 32) ∧ St w w_ [.cells B_5 (iv .u8 m_88 ++ (([.int .u64 r_45] : List Value) ++ (iv .u8 m_90 ++ (([.int .u64 r_83] : List Value) ++ (iv .u8 m_92 ++ (([.int .u64 0] : List Value) ++ (iv .u8 m_94 ++ ([.int .u64 0] : List Value)))))))) 36, .cells B_1 (iv .u8 (List.replicate 32 (0 : Int)) ++ (([.int .u64 0] : List Value) ++ (iv .u8 (List.replicate 32 (0 : Int)) ++ (([.int .u64 0] : List Value) ++ (iv .u8 (List.replicate 32 (0 : Int)) ++ (([.int .u64 0] : List Value) ++ (iv .u8 (List.replicate 32 (0 : Int)) ++ ([.int .u64 0] : List Value)))))))) 36]) (k := k_87) ⟨m_50, m_52, m_54, m_56, 0, x_58, decide (x_58 < 32), rfl, H, hl_51, hl_53, hl_55, hl_57, st_86⟩ (fun _ _ h => by obtain ⟨_, _, _, _, _, _, _, _, h, _⟩ := h; exact h.elim) ?_
        rintro kL3 l_101 w_99 ⟨m_88, m_90, m_92, m_94, x_96, x_97, b_98, rfl, H, hl_89, hl_91, hl_93, hl_95, st_100⟩
        refine CW.seq ?_
        refine CW.seq ?_
        refine CW.region ?_
        refine WL.val Wanted.none (Runs.move rfl) ?_
        refine WL.val Wanted.none (Runs.lss rfl rfl rfl) ?_
        refine WL.nil ?_
        refine QW.then_n ?_
        rcases H with ⟨c_102, H⟩ | ⟨c_102, H⟩
        · have h_103 : (decide (x_96 < 32)) = true := (decide_eq_true c_102)
          refine CW.ct rfl h_103 ?_
          refine CW.skip ?_
          refine QW.then_n ?_
          refine CW.seq ?_
          refine CW.block ?_
          refine CW.region_qt 12 wide (by kernel_rfl) st_100 ?_
          refine HL.val Wanted.none (fun wq sq => (Runs.move rfl)) ?_
          refine HL.val Wanted.none (fun wq sq => (Runs.move rfl)) ?_
          refine HL.val Wanted.none (fun wq sq => (Runs.move rfl)) ?_
          refine HL.val Wanted.none (fun wq sq => (Runs.move rfl)) ?_
          refine HL.val Wanted.none (fun wq sq => (Runs.mul (z := 80) rfl rfl (by decide))) ?_
          refine HL.val Wanted.none (fun wq sq => (Runs.move rfl)) ?_
          refine HL.val Wanted.none (fun wq sq => (Runs.add rfl rfl rfl)) ?_
          obtain ⟨⟨p_104, q_105⟩, H⟩ := H
          obtain ⟨a_106, e_107⟩ := (hs0.ext st_100).addr_iv ((IntKind.i64.wrap (80 + x_96)).toNat) (by omega)
          refine HL.val Wanted.none (fun wq sq => (Runs.indexAddr Tryd.underlying29 cells5 (by decide) rfl e_107 rfl p_104 (by rw [hn0]; exact q_105) (o := (IntKind.i64.wrap (80 + x_96)).toNat) (by first | rfl | omega))) ?_
          refine HL.val Wanted.none (fun wq sq => (Runs.load nagg5 rfl ((hs0.ext sq).cell_iv e_107 (by omega)))) ?_
          refine HL.val Wanted.none (fun wq sq => (Runs.indexAddr_row (p := 66) Tryd.underlying36 siz35 rfl rfl (by decide) (by decide) rfl)) ?_
          refine HL.val Wanted.none (fun wq sq => (Runs.fieldAddr (off := 0) (p := 66) fld35_0 rfl rfl rfl)) ?_
          obtain ⟨⟨p_108, q_109⟩, H⟩ := H
          refine HL.val Wanted.none (fun wq sq => (Runs.indexAddr_mid arr23 rfl rfl p_108 q_109 (j := ((x_96).toNat)) (by first | rfl | omega))) ?_
          refine HL.nil (fun w_110 st_111 => ?_)
          obtain ⟨m_112, e_113, H⟩ := H
          have hl_116 : m_112.length = 32 := by rw [e_113, List.length_set]; exact hl_93
          refine WL.store_cellM (i := 0) (pre := (iv .u8 m_88 ++ (([.int .u64 r_45] : List Value) ++ (iv .u8 m_90 ++ ([.int .u64 r_83] : List Value))))) (xs := m_92) (post := (([.int .u64 0] : List Value) ++ (iv .u8 m_94 ++ ([.int .u64 0] : List Value)))) st_111 rfl cells5 (by first | rfl | simp only [List.append_assoc, List.append_nil, List.nil_append, List.cons_append]) (by first | rfl | simp only [List.length_append, List.length_cons, List.length_nil, iv_length, hl_89, hl_91]) (by have := hl_93; omega) rfl rfl ?_
          intro w_114 st_115
          replace st_115 : St w w_114 [.cells B_5 (iv .u8 m_88 ++ (([.int .u64 r_45] : List Value) ++ (iv .u8 m_90 ++ (([.int .u64 r_83] : List Value) ++ (iv .u8 m_112 ++ (([.int .u64 0] : List Value) ++ (iv .u8 m_94 ++ ([.int .u64 0] : List Value)))))))) 36, .cells B_1 (iv .u8 (List.replicate 32 (0 : Int)) ++ (([.int .u64 0] : List Value) ++ (iv .u8 (List.replicate 32 (0 : Int)) ++ (([.int .u64 0] : List Value) ++ (iv .u8 (List.replicate 32 (0 : Int)) ++ (([.int .u64 0] : List Value) ++ (iv .u8 (List.replicate 32 (0 : Int)) ++ ([.int .u64 0] : List Value)))))))) 36] := by have e_ : (iv .u8 m_88 ++ (([.int .u64 r_45] : List Value) ++ (iv .u8 m_90 ++ (([.int .u64 r_83] : List Value) ++ (iv .u8 m_112 ++ (([.int .u64 0] : List Value) ++ (iv .u8 m_94 ++ ([.int .u64 0] : List Value)))))))) = (iv .u8 m_88 ++ (([.int .u64 r_45] : List Value) ++ (iv .u8 m_90 ++ ([.int .u64 r_83] : List Value)))) ++ (iv .u8 m_112 ++ (([.int .u64 0] : List Value) ++ (iv .u8 m_94 ++ ([.int .u64 0] : List Value)))) := (by first | rfl | simp only [List.append_assoc, List.append_nil, List.nil_append, List.cons_append]); have h_ : St w w_114 [.cells B_5 ((iv .u8 m_88 ++ (([.int .u64 r_45] : List Value) ++ (iv .u8 m_90 ++ ([.int .u64 r_83] : List Value)))) ++ (iv .u8 (List.set m_92 ((x_96).toNat) (gn l0 ((IntKind.i64.wrap (80 + x_96)).toNat))) ++ (([.int .u64 0] : List Value) ++ (iv .u8 m_94 ++ ([.int .u64 0] : List Value))))) 36, .cells B_1 (iv .u8 (List.replicate 32 (0 : Int)) ++ (([.int .u64 0] : List Value) ++ (iv .u8 (List.replicate 32 (0 : Int)) ++ (([.int .u64 0] : List Value) ++ (iv .u8 (List.replicate 32 (0 : Int)) ++ (([.int .u64 0] : List Value) ++ (iv .u8 (List.replicate 32 (0 : Int)) ++ ([.int .u64 0] : List Value)))))))) 36] := st_115; rw [← e_113, ← e_] at h_; exact h_
          refine WL.nil ?_
          refine QW.blk_n ?_
          refine QW.then_n ?_
          refine CW.region ?_
          refine WL.val Wanted.none (Runs.move rfl) ?_
          refine WL.val Wanted.none (Runs.add rfl rfl rfl) ?_
          refine WL.val Wanted.none (Runs.assign rfl) ?_
          refine WL.nil ?_
          exact QW.at [(0, .slice A0 n0 c0), (2, .pointer (some ⟨B_1, 0, none⟩)), (3, .int .i64 0), (4, .pointer (some ⟨B_5, 0, none⟩)), (5, .int .i64 2), (11, .int .i64 2), (12, .bool true), (6, .int .i64 (IntKind.i64.wrap (x_96 + 1))), (15, .int .i64 x_96), (16, .bool (decide (x_96 < 32))), (32, .int .i64 1), (33, .slice A0 n0 c0), (34, .int .i64 1), (35, .int .i64 40), (36, .int .i64 72), (37, .tuple #[.int .u64 r_83, .int .i64 r_84]), (31, .tuple #[.int .u64 r_83, .int .i64 r_84]), (38, .int .u64 r_83), (40, .pointer (some ⟨B_5, 33, none⟩)), (41, .pointer (some ⟨B_5, 65, none⟩)), (13, .int .i64 1), (14, .int .i64 2)] ⟨rfl, rfl, rfl, rfl, rfl, rfl, rfl, rfl, rfl, rfl, rfl, rfl, rfl, rfl, rfl, rfl, rfl, rfl, rfl, rfl, rfl, rfl, trivial⟩ ⟨m_88, m_90, m_112, m_94, IntKind.i64.wrap (x_96 + 1), x_96, decide (x_96 < 32), rfl, H, hl_89, hl_91, hl_116, hl_95, st_115⟩
        · have h_103 : (decide (x_96 < 32)) = false := (decide_eq_false c_102)
          refine CW.cf rfl h_103 ?_
          refine CW.exit ?_
          refine QW.then_x ?_
          refine QW.then_x ?_
          refine QW.blk_x ?_
          refine QW.then_n ?_
          refine CW.region ?_
          refine WL.val Wanted.none (Runs.move rfl) ?_
          refine WL.val Wanted.none (Runs.move rfl) ?_
          refine WL.val Wanted.none (Runs.move rfl) ?_
          refine WL.val Wanted.none (Runs.mul (z := 80) rfl rfl (by decide)) ?_
          refine WL.val Wanted.none (Runs.add (z := 112) rfl rfl (by decide)) ?_
          obtain ⟨r_121, r_122, hr_117, H⟩ := H
          refine WL.call Wanted.none ent24 rfl (reliquaryref01_Get.calls w_99 l0 112 8 A0 n0 c0 (hs0.ext st_100) (hn0) (hc0) r_121 r_122 hr_117) ?_
          rintro _ w_118 ⟨rfl, sc_120⟩
          have st_119 : St w w_118 [.cells B_5 (iv .u8 m_88 ++ (([.int .u64 r_45] : List Value) ++ (iv .u8 m_90 ++ (([.int .u64 r_83] : List Value) ++ (iv .u8 m_92 ++ (([.int .u64 0] : List Value) ++ (iv .u8 m_94 ++ ([.int .u64 0] : List Value)))))))) 36, .cells B_1 (iv .u8 (List.replicate 32 (0 : Int)) ++ (([.int .u64 0] : List Value) ++ (iv .u8 (List.replicate 32 (0 : Int)) ++ (([.int .u64 0] : List Value) ++ (iv .u8 (List.replicate 32 (0 : Int)) ++ (([.int .u64 0] : List Value) ++ (iv .u8 (List.replicate 32 (0 : Int)) ++ ([.int .u64 0] : List Value)))))))) 36] := st_100.call sc_120
          refine ⟨_, rfl, ?_⟩
          refine WL.val Wanted.none (Runs.move rfl) ?_
          refine WL.val Wanted.none (Runs.extract rfl rfl) ?_
          refine WL.val Wanted.none (Runs.extract rfl rfl) ?_
          refine WL.val Wanted.none (Runs.indexAddr_row (p := 66) Tryd.underlying36 siz35 rfl rfl (by decide) (by decide) rfl) ?_
          refine WL.val Wanted.none (Runs.fieldAddr (off := 32) (p := 98) fld35_1 rfl rfl rfl) ?_
          refine WL.store_one (i := 0) (u0 := .int .u64 0) (pre := (iv .u8 m_88 ++ (([.int .u64 r_45] : List Value) ++ (iv .u8 m_90 ++ (([.int .u64 r_83] : List Value) ++ iv .u8 m_92))))) (post := (iv .u8 m_94 ++ ([.int .u64 0] : List Value))) st_119 rfl cells24 (by first | rfl | simp only [List.append_assoc, List.append_nil, List.nil_append, List.cons_append]) (by first | rfl | simp only [List.length_append, List.length_cons, List.length_nil, iv_length, hl_89, hl_91, hl_93]) rfl rfl rfl ?_
          intro w_123 st_124
          replace st_124 : St w w_123 [.cells B_5 (iv .u8 m_88 ++ (([.int .u64 r_45] : List Value) ++ (iv .u8 m_90 ++ (([.int .u64 r_83] : List Value) ++ (iv .u8 m_92 ++ (([.int .u64 r_121] : List Value) ++ (iv .u8 m_94 ++ ([.int .u64 0] : List Value)))))))) 36, .cells B_1 (iv .u8 (List.replicate 32 (0 : Int)) ++ (([.int .u64 0] : List Value) ++ (iv .u8 (List.replicate 32 (0 : Int)) ++ (([.int .u64 0] : List Value) ++ (iv .u8 (List.replicate 32 (0 : Int)) ++ (([.int .u64 0] : List Value) ++ (iv .u8 (List.replicate 32 (0 : Int)) ++ ([.int .u64 0] : List Value)))))))) 36] := by have e_ : (iv .u8 m_88 ++ (([.int .u64 r_45] : List Value) ++ (iv .u8 m_90 ++ (([.int .u64 r_83] : List Value) ++ (iv .u8 m_92 ++ (([.int .u64 r_121] : List Value) ++ (iv .u8 m_94 ++ ([.int .u64 0] : List Value)))))))) = (iv .u8 m_88 ++ (([.int .u64 r_45] : List Value) ++ (iv .u8 m_90 ++ (([.int .u64 r_83] : List Value) ++ iv .u8 m_92)))) ++ ((([.int .u64 r_121] : List Value)) ++ (iv .u8 m_94 ++ ([.int .u64 0] : List Value))) := (by first | rfl | simp only [List.append_assoc, List.append_nil, List.nil_append, List.cons_append]); have h_ : St w w_123 [.cells B_5 ((iv .u8 m_88 ++ (([.int .u64 r_45] : List Value) ++ (iv .u8 m_90 ++ (([.int .u64 r_83] : List Value) ++ iv .u8 m_92)))) ++ ((([.int .u64 r_121] : List Value)) ++ (iv .u8 m_94 ++ ([.int .u64 0] : List Value)))) 36, .cells B_1 (iv .u8 (List.replicate 32 (0 : Int)) ++ (([.int .u64 0] : List Value) ++ (iv .u8 (List.replicate 32 (0 : Int)) ++ (([.int .u64 0] : List Value) ++ (iv .u8 (List.replicate 32 (0 : Int)) ++ (([.int .u64 0] : List Value) ++ (iv .u8 (List.replicate 32 (0 : Int)) ++ ([.int .u64 0] : List Value)))))))) 36] := st_124; rw [← e_] at h_; exact h_
          refine WL.nil ?_
          refine QW.blk_n ?_
          refine QW.then_n ?_
          refine CW.region ?_
          refine WL.val Wanted.none (Runs.move rfl) ?_
          refine WL.val Wanted.none (Runs.add (z := 3) rfl rfl (by decide)) ?_
          refine WL.val Wanted.none (Runs.assign rfl) ?_
          refine WL.nil ?_
          refine QW.round ?_
          refine CW.seq ?_
          refine CW.seq ?_
          refine CW.region ?_
          refine WL.val Wanted.none (Runs.move rfl) ?_
          refine WL.val Wanted.none (Runs.lss (b := true) rfl rfl (by decide)) ?_
          refine WL.nil ?_
          refine QW.then_n ?_
          refine CW.ct rfl rfl ?_
          refine CW.skip ?_
          refine QW.then_n ?_
          refine CW.seq ?_
          refine CW.block ?_
          refine CW.seq ?_
          refine CW.seq ?_
          refine CW.region ?_
          refine WL.val Wanted.none (Runs.assign rfl) ?_
          refine WL.nil ?_
          refine QW.then_n ?_
          refine CW.block ?_
          obtain ⟨k_125, H⟩ := H
          refine CW.sub [(0, .slice A0 n0 c0), (2, .pointer (some ⟨B_1, 0, none⟩)), (3, .int .i64 0), (4, .pointer (some ⟨B_5, 0, none⟩)), (5, .int .i64 3), (11, .int .i64 3), (12, .bool true), (6, .int .i64 0), (15, .int .i64 x_96), (16, .bool (decide (x_96 < 32))), (32, .int .i64 2), (33, .slice A0 n0 c0), (34, .int .i64 2), (35, .int .i64 80), (36, .int .i64 112), (37, .tuple #[.int .u64 r_121, .int .i64 r_122]), (31, .tuple #[.int .u64 r_121, .int .i64 r_122]), (38, .int .u64 r_121), (40, .pointer (some ⟨B_5, 66, none⟩)), (41, .pointer (some ⟨B_5, 98, none⟩)), (13, .int .i64 2), (14, .int .i64 3)] ⟨rfl, rfl, rfl, rfl, rfl, rfl, rfl, rfl, rfl, rfl, rfl, rfl, rfl, rfl, rfl, rfl, rfl, rfl, rfl, rfl, rfl, rfl, trivial⟩ ?_
          refine CW.loop (fun kL4 l_ w_ => ∃ (m_126 : List Int) (m_128 : List Int) (m_130 : List Int) (m_132 : List Int) (x_134 : Int) (x_135 : Int) (b_136 : Bool), l_ = [(0, .slice A0 n0 c0), (2, .pointer (some ⟨B_1, 0, none⟩)), (3, .int .i64 0), (4, .pointer (some ⟨B_5, 0, none⟩)), (5, .int .i64 3), (11, .int .i64 3), (12, .bool true), (6, .int .i64 x_134), (15, .int .i64 x_135), (16, .bool b_136), (32, .int .i64 2), (33, .slice A0 n0 c0), (34, .int .i64 2), (35, .int .i64 80), (36, .int .i64 112), (37, .tuple #[.int .u64 r_121, .int .i64 r_122]), (31, .tuple #[.int .u64 r_121, .int .i64 r_122]), (38, .int .u64 r_121), (40, .pointer (some ⟨B_5, 66, none⟩)), (41, .pointer (some ⟨B_5, 98, none⟩)), (13, .int .i64 2), (14, .int .i64 3)] ∧ reliquaryref10_Get.L4 l0 r0_0 r0_1 r0_2 r0_3 r0_4 r0_5 r0_6 r0_7 r1 r_45 r_83 r_121 kL4 m_126 m_128 m_130 m_132 x_134 x_135 b_136 ∧ (m_126.length = 32) ∧ (m_128.length = 32) ∧ (m_130.length = 32) ∧ (m_132.length = 32) ∧ St w w_ [.cells B_5 (iv .u8 m_126 ++ (([.int .u64 r_45] : List Value) ++ (iv .u8 m_128 ++ (([.int .u64 r_83] : List Value) ++ (iv .u8 m_130 ++ (([.int .u64 r_121] : List Value) ++ (iv .u8 m_132 ++ ([.int .u64 0] : List Value)))))))) 36, .cells B_1 (iv .u8 (List.replicate 32 (0 : Int)) ++ (([.int .u64 0] : List Value) ++ (iv .u8 (List.replicate 32 (0 : Int)) ++ (([.int .u64 0] : List Value) ++ (iv .u8 (List.replicate 32 (0 : Int)) ++ (([.int .u64 0] : List Value) ++ (iv .u8 (List.replicate 32 (0 : Int)) ++ ([.int .u64 0] : List Value)))))))) 36]) (k := k_125) ⟨m_88, m_90, m_92, m_94, 0, x_96, decide (x_96 < 32), rfl, H, hl_89, hl_91, hl_93, hl_95, st_124⟩ (fun _ _ h => by obtain ⟨_, _, _, _, _, _, _, _, h, _⟩ := h; exact h.elim) ?_
          rintro kL4 l_139 w_137 ⟨m_126, m_128, m_130, m_132, x_134, x_135, b_136, rfl, H, hl_127, hl_129, hl_131, hl_133, st_138⟩
          refine CW.seq ?_
          refine CW.seq ?_
          refine CW.region ?_
          refine WL.val Wanted.none (Runs.move rfl) ?_
          refine WL.val Wanted.none (Runs.lss rfl rfl rfl) ?_
          refine WL.nil ?_
          refine QW.then_n ?_
          rcases H with ⟨c_140, H⟩ | ⟨c_140, H⟩
          · have h_141 : (decide (x_134 < 32)) = true := (decide_eq_true c_140)
            refine CW.ct rfl h_141 ?_
            refine CW.skip ?_
            refine QW.then_n ?_
            refine CW.seq ?_
            refine CW.block ?_
            refine CW.region_qt 12 wide (by kernel_rfl) st_138 ?_
            refine HL.val Wanted.none (fun wq sq => (Runs.move rfl)) ?_
            refine HL.val Wanted.none (fun wq sq => (Runs.move rfl)) ?_
            refine HL.val Wanted.none (fun wq sq => (Runs.move rfl)) ?_
            refine HL.val Wanted.none (fun wq sq => (Runs.move rfl)) ?_
            refine HL.val Wanted.none (fun wq sq => (Runs.mul (z := 120) rfl rfl (by decide))) ?_
            refine HL.val Wanted.none (fun wq sq => (Runs.move rfl)) ?_
            refine HL.val Wanted.none (fun wq sq => (Runs.add rfl rfl rfl)) ?_
            obtain ⟨⟨p_142, q_143⟩, H⟩ := H
            obtain ⟨a_144, e_145⟩ := (hs0.ext st_138).addr_iv ((IntKind.i64.wrap (120 + x_134)).toNat) (by omega)
            refine HL.val Wanted.none (fun wq sq => (Runs.indexAddr Tryd.underlying29 cells5 (by decide) rfl e_145 rfl p_142 (by rw [hn0]; exact q_143) (o := (IntKind.i64.wrap (120 + x_134)).toNat) (by first | rfl | omega))) ?_
            refine HL.val Wanted.none (fun wq sq => (Runs.load nagg5 rfl ((hs0.ext sq).cell_iv e_145 (by omega)))) ?_
            refine HL.val Wanted.none (fun wq sq => (Runs.indexAddr_row (p := 99) Tryd.underlying36 siz35 rfl rfl (by decide) (by decide) rfl)) ?_
            refine HL.val Wanted.none (fun wq sq => (Runs.fieldAddr (off := 0) (p := 99) fld35_0 rfl rfl rfl)) ?_
            obtain ⟨⟨p_146, q_147⟩, H⟩ := H
            refine HL.val Wanted.none (fun wq sq => (Runs.indexAddr_mid arr23 rfl rfl p_146 q_147 (j := ((x_134).toNat)) (by first | rfl | omega))) ?_
            refine HL.nil (fun w_148 st_149 => ?_)
            obtain ⟨m_150, e_151, H⟩ := H
            have hl_154 : m_150.length = 32 := by rw [e_151, List.length_set]; exact hl_133
            refine WL.store_cellM (i := 0) (pre := (iv .u8 m_126 ++ (([.int .u64 r_45] : List Value) ++ (iv .u8 m_128 ++ (([.int .u64 r_83] : List Value) ++ (iv .u8 m_130 ++ ([.int .u64 r_121] : List Value))))))) (xs := m_132) (post := (([.int .u64 0] : List Value))) st_149 rfl cells5 (by first | rfl | simp only [List.append_assoc, List.append_nil, List.nil_append, List.cons_append]) (by first | rfl | simp only [List.length_append, List.length_cons, List.length_nil, iv_length, hl_127, hl_129, hl_131]) (by have := hl_133; omega) rfl rfl ?_
            intro w_152 st_153
            replace st_153 : St w w_152 [.cells B_5 (iv .u8 m_126 ++ (([.int .u64 r_45] : List Value) ++ (iv .u8 m_128 ++ (([.int .u64 r_83] : List Value) ++ (iv .u8 m_130 ++ (([.int .u64 r_121] : List Value) ++ (iv .u8 m_150 ++ ([.int .u64 0] : List Value)))))))) 36, .cells B_1 (iv .u8 (List.replicate 32 (0 : Int)) ++ (([.int .u64 0] : List Value) ++ (iv .u8 (List.replicate 32 (0 : Int)) ++ (([.int .u64 0] : List Value) ++ (iv .u8 (List.replicate 32 (0 : Int)) ++ (([.int .u64 0] : List Value) ++ (iv .u8 (List.replicate 32 (0 : Int)) ++ ([.int .u64 0] : List Value)))))))) 36] := by have e_ : (iv .u8 m_126 ++ (([.int .u64 r_45] : List Value) ++ (iv .u8 m_128 ++ (([.int .u64 r_83] : List Value) ++ (iv .u8 m_130 ++ (([.int .u64 r_121] : List Value) ++ (iv .u8 m_150 ++ ([.int .u64 0] : List Value)))))))) = (iv .u8 m_126 ++ (([.int .u64 r_45] : List Value) ++ (iv .u8 m_128 ++ (([.int .u64 r_83] : List Value) ++ (iv .u8 m_130 ++ ([.int .u64 r_121] : List Value)))))) ++ (iv .u8 m_150 ++ (([.int .u64 0] : List Value))) := (by first | rfl | simp only [List.append_assoc, List.append_nil, List.nil_append, List.cons_append]); have h_ : St w w_152 [.cells B_5 ((iv .u8 m_126 ++ (([.int .u64 r_45] : List Value) ++ (iv .u8 m_128 ++ (([.int .u64 r_83] : List Value) ++ (iv .u8 m_130 ++ ([.int .u64 r_121] : List Value)))))) ++ (iv .u8 (List.set m_132 ((x_134).toNat) (gn l0 ((IntKind.i64.wrap (120 + x_134)).toNat))) ++ (([.int .u64 0] : List Value)))) 36, .cells B_1 (iv .u8 (List.replicate 32 (0 : Int)) ++ (([.int .u64 0] : List Value) ++ (iv .u8 (List.replicate 32 (0 : Int)) ++ (([.int .u64 0] : List Value) ++ (iv .u8 (List.replicate 32 (0 : Int)) ++ (([.int .u64 0] : List Value) ++ (iv .u8 (List.replicate 32 (0 : Int)) ++ ([.int .u64 0] : List Value)))))))) 36] := st_153; rw [← e_151, ← e_] at h_; exact h_
            refine WL.nil ?_
            refine QW.blk_n ?_
            refine QW.then_n ?_
            refine CW.region ?_
            refine WL.val Wanted.none (Runs.move rfl) ?_
            refine WL.val Wanted.none (Runs.add rfl rfl rfl) ?_
            refine WL.val Wanted.none (Runs.assign rfl) ?_
            refine WL.nil ?_
            exact QW.at [(0, .slice A0 n0 c0), (2, .pointer (some ⟨B_1, 0, none⟩)), (3, .int .i64 0), (4, .pointer (some ⟨B_5, 0, none⟩)), (5, .int .i64 3), (11, .int .i64 3), (12, .bool true), (6, .int .i64 (IntKind.i64.wrap (x_134 + 1))), (15, .int .i64 x_134), (16, .bool (decide (x_134 < 32))), (32, .int .i64 2), (33, .slice A0 n0 c0), (34, .int .i64 2), (35, .int .i64 80), (36, .int .i64 112), (37, .tuple #[.int .u64 r_121, .int .i64 r_122]), (31, .tuple #[.int .u64 r_121, .int .i64 r_122]), (38, .int .u64 r_121), (40, .pointer (some ⟨B_5, 66, none⟩)), (41, .pointer (some ⟨B_5, 98, none⟩)), (13, .int .i64 2), (14, .int .i64 3)] ⟨rfl, rfl, rfl, rfl, rfl, rfl, rfl, rfl, rfl, rfl, rfl, rfl, rfl, rfl, rfl, rfl, rfl, rfl, rfl, rfl, rfl, rfl, trivial⟩ ⟨m_126, m_128, m_130, m_150, IntKind.i64.wrap (x_134 + 1), x_134, decide (x_134 < 32), rfl, H, hl_127, hl_129, hl_131, hl_154, st_153⟩
          · have h_141 : (decide (x_134 < 32)) = false := (decide_eq_false c_140)
            refine CW.cf rfl h_141 ?_
            refine CW.exit ?_
            refine QW.then_x ?_
            refine QW.then_x ?_
            refine QW.blk_x ?_
            refine QW.then_n ?_
            refine CW.region ?_
            refine WL.val Wanted.none (Runs.move rfl) ?_
            refine WL.val Wanted.none (Runs.move rfl) ?_
            refine WL.val Wanted.none (Runs.move rfl) ?_
            refine WL.val Wanted.none (Runs.mul (z := 120) rfl rfl (by decide)) ?_
            refine WL.val Wanted.none (Runs.add (z := 152) rfl rfl (by decide)) ?_
            obtain ⟨r_159, r_160, hr_155, H⟩ := H
            refine WL.call Wanted.none ent24 rfl (reliquaryref01_Get.calls w_137 l0 152 8 A0 n0 c0 (hs0.ext st_138) (hn0) (hc0) r_159 r_160 hr_155) ?_
            rintro _ w_156 ⟨rfl, sc_158⟩
            have st_157 : St w w_156 [.cells B_5 (iv .u8 m_126 ++ (([.int .u64 r_45] : List Value) ++ (iv .u8 m_128 ++ (([.int .u64 r_83] : List Value) ++ (iv .u8 m_130 ++ (([.int .u64 r_121] : List Value) ++ (iv .u8 m_132 ++ ([.int .u64 0] : List Value)))))))) 36, .cells B_1 (iv .u8 (List.replicate 32 (0 : Int)) ++ (([.int .u64 0] : List Value) ++ (iv .u8 (List.replicate 32 (0 : Int)) ++ (([.int .u64 0] : List Value) ++ (iv .u8 (List.replicate 32 (0 : Int)) ++ (([.int .u64 0] : List Value) ++ (iv .u8 (List.replicate 32 (0 : Int)) ++ ([.int .u64 0] : List Value)))))))) 36] := st_138.call sc_158
            refine ⟨_, rfl, ?_⟩
            refine WL.val Wanted.none (Runs.move rfl) ?_
            refine WL.val Wanted.none (Runs.extract rfl rfl) ?_
            refine WL.val Wanted.none (Runs.extract rfl rfl) ?_
            refine WL.val Wanted.none (Runs.indexAddr_row (p := 99) Tryd.underlying36 siz35 rfl rfl (by decide) (by decide) rfl) ?_
            refine WL.val Wanted.none (Runs.fieldAddr (off := 32) (p := 131) fld35_1 rfl rfl rfl) ?_
            refine WL.store_one (i := 0) (u0 := .int .u64 0) (pre := (iv .u8 m_126 ++ (([.int .u64 r_45] : List Value) ++ (iv .u8 m_128 ++ (([.int .u64 r_83] : List Value) ++ (iv .u8 m_130 ++ (([.int .u64 r_121] : List Value) ++ iv .u8 m_132))))))) (post := (([] : List Value))) st_157 rfl cells24 (by first | rfl | simp only [List.append_assoc, List.append_nil, List.nil_append, List.cons_append]) (by first | rfl | simp only [List.length_append, List.length_cons, List.length_nil, iv_length, hl_127, hl_129, hl_131, hl_133]) rfl rfl rfl ?_
            intro w_161 st_162
            replace st_162 : St w w_161 [.cells B_5 (iv .u8 m_126 ++ (([.int .u64 r_45] : List Value) ++ (iv .u8 m_128 ++ (([.int .u64 r_83] : List Value) ++ (iv .u8 m_130 ++ (([.int .u64 r_121] : List Value) ++ (iv .u8 m_132 ++ ([.int .u64 r_159] : List Value)))))))) 36, .cells B_1 (iv .u8 (List.replicate 32 (0 : Int)) ++ (([.int .u64 0] : List Value) ++ (iv .u8 (List.replicate 32 (0 : Int)) ++ (([.int .u64 0] : List Value) ++ (iv .u8 (List.replicate 32 (0 : Int)) ++ (([.int .u64 0] : List Value) ++ (iv .u8 (List.replicate 32 (0 : Int)) ++ ([.int .u64 0] : List Value)))))))) 36] := by have e_ : (iv .u8 m_126 ++ (([.int .u64 r_45] : List Value) ++ (iv .u8 m_128 ++ (([.int .u64 r_83] : List Value) ++ (iv .u8 m_130 ++ (([.int .u64 r_121] : List Value) ++ (iv .u8 m_132 ++ ([.int .u64 r_159] : List Value)))))))) = (iv .u8 m_126 ++ (([.int .u64 r_45] : List Value) ++ (iv .u8 m_128 ++ (([.int .u64 r_83] : List Value) ++ (iv .u8 m_130 ++ (([.int .u64 r_121] : List Value) ++ iv .u8 m_132)))))) ++ ((([.int .u64 r_159] : List Value)) ++ (([] : List Value))) := (by first | rfl | simp only [List.append_assoc, List.append_nil, List.nil_append, List.cons_append]); have h_ : St w w_161 [.cells B_5 ((iv .u8 m_126 ++ (([.int .u64 r_45] : List Value) ++ (iv .u8 m_128 ++ (([.int .u64 r_83] : List Value) ++ (iv .u8 m_130 ++ (([.int .u64 r_121] : List Value) ++ iv .u8 m_132)))))) ++ ((([.int .u64 r_159] : List Value)) ++ (([] : List Value)))) 36, .cells B_1 (iv .u8 (List.replicate 32 (0 : Int)) ++ (([.int .u64 0] : List Value) ++ (iv .u8 (List.replicate 32 (0 : Int)) ++ (([.int .u64 0] : List Value) ++ (iv .u8 (List.replicate 32 (0 : Int)) ++ (([.int .u64 0] : List Value) ++ (iv .u8 (List.replicate 32 (0 : Int)) ++ ([.int .u64 0] : List Value)))))))) 36] := st_162; rw [← e_] at h_; exact h_
            refine WL.nil ?_
            refine QW.blk_n ?_
            refine QW.then_n ?_
            refine CW.region ?_
            refine WL.val Wanted.none (Runs.move rfl) ?_
            refine WL.val Wanted.none (Runs.add (z := 4) rfl rfl (by decide)) ?_
            refine WL.val Wanted.none (Runs.assign rfl) ?_
            refine WL.nil ?_
            refine QW.round ?_
            refine CW.seq ?_
            refine CW.seq ?_
            refine CW.region ?_
            refine WL.val Wanted.none (Runs.move rfl) ?_
            refine WL.val Wanted.none (Runs.lss (b := false) rfl rfl (by decide)) ?_
            refine WL.nil ?_
            refine QW.then_n ?_
            refine CW.cf rfl rfl ?_
            refine CW.exit ?_
            refine QW.then_x ?_
            refine QW.then_x ?_
            refine QW.blk_x ?_
            refine QW.then_n ?_
            refine CW.sub [(2, .pointer (some ⟨B_1, 0, none⟩)), (3, .int .i64 0), (4, .pointer (some ⟨B_5, 0, none⟩))] ⟨rfl, rfl, rfl, trivial⟩ ?_
            refine CW.seq ?_
            refine CW.region ?_
            refine WL.val Wanted.none (Runs.load_mid row36 rfl st_162 (i := 0) rfl (part_mid (pre := (([] : List Value))) (mid := (iv .u8 m_126 ++ (([.int .u64 r_45] : List Value) ++ (iv .u8 m_128 ++ (([.int .u64 r_83] : List Value) ++ (iv .u8 m_130 ++ (([.int .u64 r_121] : List Value) ++ (iv .u8 m_132 ++ ([.int .u64 r_159] : List Value))))))))) (post := (([] : List Value))) (by first | rfl | simp only [List.append_assoc, List.append_nil, List.nil_append, List.cons_append]) (by first | rfl | simp only [List.length_append, List.length_cons, List.length_nil, iv_length]) (by first | rfl | simp only [List.length_append, List.length_cons, List.length_nil, iv_length, hl_127, hl_129, hl_131, hl_133])) (by first | rfl | simp only [List.length_append, List.length_cons, List.length_nil, iv_length, hl_127, hl_129, hl_131, hl_133])) ?_
            refine WL.store_mid (i := 1) (pre := (([] : List Value))) (mid := (iv .u8 (List.replicate 32 (0 : Int)) ++ (([.int .u64 0] : List Value) ++ (iv .u8 (List.replicate 32 (0 : Int)) ++ (([.int .u64 0] : List Value) ++ (iv .u8 (List.replicate 32 (0 : Int)) ++ (([.int .u64 0] : List Value) ++ (iv .u8 (List.replicate 32 (0 : Int)) ++ ([.int .u64 0] : List Value))))))))) (post := (([] : List Value))) (ms := (iv .u8 m_126 ++ (([.int .u64 r_45] : List Value) ++ (iv .u8 m_128 ++ (([.int .u64 r_83] : List Value) ++ (iv .u8 m_130 ++ (([.int .u64 r_121] : List Value) ++ (iv .u8 m_132 ++ ([.int .u64 r_159] : List Value))))))))) st_162 rfl row36 (by first | rfl | simp only [List.append_assoc, List.append_nil, List.nil_append, List.cons_append]) (by first | rfl | simp only [List.length_append, List.length_cons, List.length_nil, iv_length]) rfl rfl (by first | rfl | simp only [List.length_append, List.length_cons, List.length_nil, iv_length, hl_127, hl_129, hl_131, hl_133]) (by first | rfl | simp only [List.length_append, List.length_cons, List.length_nil, iv_length, List.length_replicate]) (by intro u hu; simp only [List.mem_append, List.mem_singleton] at hu; rcases hu with hu | hu | hu | hu | hu | hu | hu | hu <;> first | exact one_iv _ _ u hu | (subst hu; rfl)) ?_
            intro w_163 st_164
            replace st_164 : St w w_163 [.cells B_5 (iv .u8 m_126 ++ (([.int .u64 r_45] : List Value) ++ (iv .u8 m_128 ++ (([.int .u64 r_83] : List Value) ++ (iv .u8 m_130 ++ (([.int .u64 r_121] : List Value) ++ (iv .u8 m_132 ++ ([.int .u64 r_159] : List Value)))))))) 36, .cells B_1 (iv .u8 m_126 ++ (([.int .u64 r_45] : List Value) ++ (iv .u8 m_128 ++ (([.int .u64 r_83] : List Value) ++ (iv .u8 m_130 ++ (([.int .u64 r_121] : List Value) ++ (iv .u8 m_132 ++ ([.int .u64 r_159] : List Value)))))))) 36] := by have e_ : (iv .u8 m_126 ++ (([.int .u64 r_45] : List Value) ++ (iv .u8 m_128 ++ (([.int .u64 r_83] : List Value) ++ (iv .u8 m_130 ++ (([.int .u64 r_121] : List Value) ++ (iv .u8 m_132 ++ ([.int .u64 r_159] : List Value)))))))) = (([] : List Value)) ++ ((iv .u8 m_126 ++ (([.int .u64 r_45] : List Value) ++ (iv .u8 m_128 ++ (([.int .u64 r_83] : List Value) ++ (iv .u8 m_130 ++ (([.int .u64 r_121] : List Value) ++ (iv .u8 m_132 ++ ([.int .u64 r_159] : List Value)))))))) ++ (([] : List Value))) := (by first | rfl | simp only [List.append_assoc, List.append_nil, List.nil_append, List.cons_append]); have h_ : St w w_163 [.cells B_5 (iv .u8 m_126 ++ (([.int .u64 r_45] : List Value) ++ (iv .u8 m_128 ++ (([.int .u64 r_83] : List Value) ++ (iv .u8 m_130 ++ (([.int .u64 r_121] : List Value) ++ (iv .u8 m_132 ++ ([.int .u64 r_159] : List Value)))))))) 36, .cells B_1 ((([] : List Value)) ++ ((iv .u8 m_126 ++ (([.int .u64 r_45] : List Value) ++ (iv .u8 m_128 ++ (([.int .u64 r_83] : List Value) ++ (iv .u8 m_130 ++ (([.int .u64 r_121] : List Value) ++ (iv .u8 m_132 ++ ([.int .u64 r_159] : List Value)))))))) ++ (([] : List Value)))) 36] := st_164; rw [← e_] at h_; exact h_
            refine WL.val Wanted.none (Runs.assign rfl) ?_
            refine WL.nil ?_
            refine QW.then_n ?_
            refine CW.ret ?_
            obtain ⟨rfl, rfl, rfl, rfl, rfl, rfl, rfl, rfl, rfl⟩ := H
            exact QW.retr1 rfl row36 rfl st_164 (i := 1) rfl (by first | rfl | simp only [List.length_append, List.length_cons, List.length_nil, iv_length, hl_127, hl_129, hl_131, hl_133]) rfl ⟨hl_127, hl_129, hl_131, hl_133, rfl, st_164.pick [] (by decide)⟩

/-! ### reliquarylaw10_refs: function 13 -/
def reliquarylaw10_refs.rel (l0_0 : List Int) (a0_1 : Int) (l0_2 : List Int) (a0_3 : Int) (l0_4 : List Int) (a0_5 : Int) (l0_6 : List Int) (a0_7 : Int) (r0_0 : List Int) (r0_1 : Int) (r0_2 : List Int) (r0_3 : Int) (r0_4 : List Int) (r0_5 : Int) (r0_6 : List Int) (r0_7 : Int) : Prop := r0_0 = l0_0 ∧ r0_1 = a0_1 ∧ r0_2 = l0_2 ∧ r0_3 = a0_3 ∧ r0_4 = l0_4 ∧ r0_5 = a0_5 ∧ r0_6 = l0_6 ∧ r0_7 = a0_7
set_option maxHeartbeats 4000000 in
set_option maxRecDepth 100000 in
theorem reliquarylaw10_refs.calls (w : World) (l0_0 : List Int) (a0_1 : Int) (l0_2 : List Int) (a0_3 : Int) (l0_4 : List Int) (a0_5 : Int) (l0_6 : List Int) (a0_7 : Int)   (hl0_0 : l0_0.length = 32) (hl0_2 : l0_2.length = 32) (hl0_4 : l0_4.length = 32) (hl0_6 : l0_6.length = 32) (r0_0 : List Int) (r0_1 : Int) (r0_2 : List Int) (r0_3 : Int) (r0_4 : List Int) (r0_5 : Int) (r0_6 : List Int) (r0_7 : Int) (H : reliquarylaw10_refs.rel l0_0 a0_1 l0_2 a0_3 l0_4 a0_5 l0_6 a0_7 r0_0 r0_1 r0_2 r0_3 r0_4 r0_5 r0_6 r0_7) :
    Calls Tryd.prog 13 #[.agg (iv .u8 l0_0 ++ (([.int .u64 a0_1] : List Value) ++ (iv .u8 l0_2 ++ (([.int .u64 a0_3] : List Value) ++ (iv .u8 l0_4 ++ (([.int .u64 a0_5] : List Value) ++ (iv .u8 l0_6 ++ ([.int .u64 a0_7] : List Value)))))))).toArray] w fun e w' => r0_0.length = 32 ∧ r0_2.length = 32 ∧ r0_4.length = 32 ∧ r0_6.length = 32 ∧ e = .returned (.agg (iv .u8 r0_0 ++ (([.int .u64 r0_1] : List Value) ++ (iv .u8 r0_2 ++ (([.int .u64 r0_3] : List Value) ++ (iv .u8 r0_4 ++ (([.int .u64 r0_5] : List Value) ++ (iv .u8 r0_6 ++ ([.int .u64 r0_7] : List Value)))))))).toArray) ∧ St w w' [] := by
  refine CW.enter Tryd.func13 rfl (n := 21) rfl [.agg (iv .u8 l0_0 ++ (([.int .u64 a0_1] : List Value) ++ (iv .u8 l0_2 ++ (([.int .u64 a0_3] : List Value) ++ (iv .u8 l0_4 ++ (([.int .u64 a0_5] : List Value) ++ (iv .u8 l0_6 ++ ([.int .u64 a0_7] : List Value)))))))).toArray] (Nat.le_of_ble_eq_true rfl) ?_
  refine CW.sub [(0, .agg (iv .u8 l0_0 ++ (([.int .u64 a0_1] : List Value) ++ (iv .u8 l0_2 ++ (([.int .u64 a0_3] : List Value) ++ (iv .u8 l0_4 ++ (([.int .u64 a0_5] : List Value) ++ (iv .u8 l0_6 ++ ([.int .u64 a0_7] : List Value)))))))).toArray)] ⟨rfl, trivial⟩ ?_
  have st0 : St w w [] := St.refl w
  refine CW.seq ?_
  refine CW.region ?_
  refine WL.box st0 rfl rfl ?_
  intro B_1 w_2 st_3
  replace st_3 : St w w_2 [.cells B_1 (iv .u8 l0_0 ++ (([.int .u64 a0_1] : List Value) ++ (iv .u8 l0_2 ++ (([.int .u64 a0_3] : List Value) ++ (iv .u8 l0_4 ++ (([.int .u64 a0_5] : List Value) ++ (iv .u8 l0_6 ++ ([.int .u64 a0_7] : List Value)))))))) 28] := st_3
  refine WL.alloc st_3 zero36 ?_
  intro B_5 w_6 st_7
  replace st_7 : St w w_6 [.cells B_5 (iv .u8 (List.replicate 32 (0 : Int)) ++ (([.int .u64 0] : List Value) ++ (iv .u8 (List.replicate 32 (0 : Int)) ++ (([.int .u64 0] : List Value) ++ (iv .u8 (List.replicate 32 (0 : Int)) ++ (([.int .u64 0] : List Value) ++ (iv .u8 (List.replicate 32 (0 : Int)) ++ ([.int .u64 0] : List Value)))))))) 36, .cells B_1 (iv .u8 l0_0 ++ (([.int .u64 a0_1] : List Value) ++ (iv .u8 l0_2 ++ (([.int .u64 a0_3] : List Value) ++ (iv .u8 l0_4 ++ (([.int .u64 a0_5] : List Value) ++ (iv .u8 l0_6 ++ ([.int .u64 a0_7] : List Value)))))))) 28] := st_7
  refine WL.nil ?_
  refine QW.then_n ?_
  refine CW.seq ?_
  refine CW.region ?_
  refine WL.alloc st_7 zero36 ?_
  intro B_9 w_10 st_11
  replace st_11 : St w w_10 [.cells B_9 (iv .u8 (List.replicate 32 (0 : Int)) ++ (([.int .u64 0] : List Value) ++ (iv .u8 (List.replicate 32 (0 : Int)) ++ (([.int .u64 0] : List Value) ++ (iv .u8 (List.replicate 32 (0 : Int)) ++ (([.int .u64 0] : List Value) ++ (iv .u8 (List.replicate 32 (0 : Int)) ++ ([.int .u64 0] : List Value)))))))) 36, .cells B_5 (iv .u8 (List.replicate 32 (0 : Int)) ++ (([.int .u64 0] : List Value) ++ (iv .u8 (List.replicate 32 (0 : Int)) ++ (([.int .u64 0] : List Value) ++ (iv .u8 (List.replicate 32 (0 : Int)) ++ (([.int .u64 0] : List Value) ++ (iv .u8 (List.replicate 32 (0 : Int)) ++ ([.int .u64 0] : List Value)))))))) 36, .cells B_1 (iv .u8 l0_0 ++ (([.int .u64 a0_1] : List Value) ++ (iv .u8 l0_2 ++ (([.int .u64 a0_3] : List Value) ++ (iv .u8 l0_4 ++ (([.int .u64 a0_5] : List Value) ++ (iv .u8 l0_6 ++ ([.int .u64 a0_7] : List Value)))))))) 28] := st_11
  refine WL.nil ?_
  refine QW.then_n ?_
  refine CW.seq ?_
  refine CW.seq ?_
  refine CW.region ?_
  refine WL.val Wanted.none (Runs.assign rfl) ?_
  refine WL.nil ?_
  refine QW.then_n ?_
  refine CW.block ?_
  refine CW.rounds 39 ?_
  refine CW.seq ?_
  refine CW.seq ?_
  refine CW.region ?_
  refine WL.val Wanted.none (Runs.move rfl) ?_
  refine WL.val Wanted.none (Runs.lss (b := true) rfl rfl (by decide)) ?_
  refine WL.nil ?_
  refine QW.then_n ?_
  refine CW.ct rfl rfl ?_
  refine CW.skip ?_
  refine QW.then_n ?_
  refine CW.seq ?_
  refine CW.block ?_
  refine CW.region_qt 11 wide (by kernel_rfl) st_11 ?_
  refine HL.val Wanted.none (fun wq sq => (Runs.move rfl)) ?_
  refine HL.val Wanted.none (fun wq sq => (Runs.move rfl)) ?_
  refine HL.val Wanted.none (fun wq sq => (Runs.indexAddr_row (p := 0) Tryd.underlying28 siz26 rfl rfl (by decide) (by decide) rfl)) ?_
  refine HL.val Wanted.none (fun wq sq => (Runs.fieldAddr (off := 0) (p := 0) fld26_0 rfl rfl rfl)) ?_
  refine HL.val Wanted.none (fun wq sq => (Runs.load_mid row23 rfl sq (i := 2) rfl (part_mid (pre := (([] : List Value))) (mid := (iv .u8 l0_0)) (post := (([.int .u64 a0_1] : List Value) ++ (iv .u8 l0_2 ++ (([.int .u64 a0_3] : List Value) ++ (iv .u8 l0_4 ++ (([.int .u64 a0_5] : List Value) ++ (iv .u8 l0_6 ++ ([.int .u64 a0_7] : List Value)))))))) (by first | rfl | simp only [List.append_assoc, List.append_nil, List.nil_append, List.cons_append]) (by first | rfl | simp only [List.length_append, List.length_cons, List.length_nil, iv_length]) (by first | rfl | simp only [List.length_append, List.length_cons, List.length_nil, iv_length, hl0_0])) (by first | rfl | simp only [List.length_append, List.length_cons, List.length_nil, iv_length, hl0_0]))) ?_
  refine HL.val Wanted.none (fun wq sq => (Runs.move rfl)) ?_
  refine HL.val Wanted.none (fun wq sq => (Runs.indexAddr_row (p := 0) Tryd.underlying28 siz26 rfl rfl (by decide) (by decide) rfl)) ?_
  refine HL.val Wanted.none (fun wq sq => (Runs.fieldAddr (off := 32) (p := 32) fld26_1 rfl rfl rfl)) ?_
  refine HL.val Wanted.none (fun wq sq => (Runs.load nagg24 rfl (sq.cell (k := 2) rfl (part_one (u := .int .u64 a0_1) (pre := (iv .u8 l0_0)) (post := (iv .u8 l0_2 ++ (([.int .u64 a0_3] : List Value) ++ (iv .u8 l0_4 ++ (([.int .u64 a0_5] : List Value) ++ (iv .u8 l0_6 ++ ([.int .u64 a0_7] : List Value))))))) (by first | rfl | simp only [List.append_assoc, List.append_nil, List.nil_append, List.cons_append]) (by first | rfl | simp only [List.length_append, List.length_cons, List.length_nil, iv_length, hl0_0]))))) ?_
  refine HL.val Wanted.none (fun wq sq => (Runs.build_struct (ps := [(0, 32), (32, 1)]) (cs := (iv .u8 l0_0 ++ ([.int .u64 a0_1] : List Value))) plc35 zero35 rfl (by refine Fills.cons (o := 0) (ms := (iv .u8 l0_0)) (show _ = some (0, (iv .u8 l0_0).length) by rw [show (iv .u8 l0_0).length = 32 from (by first | rfl | simp only [List.length_append, List.length_cons, List.length_nil, iv_length, hl0_0])] <;> rfl) rfl (by have h1_ : (iv .u8 l0_0).length = 32 := (by first | rfl | simp only [List.length_append, List.length_cons, List.length_nil, iv_length, hl0_0]); have h2_ : (iv .u8 (List.replicate 32 (0 : Int)) ++ ([.int .u64 0] : List Value)).length = 33 := (by first | rfl | simp only [List.length_append, List.length_cons, List.length_nil, iv_length, List.length_replicate]); omega) ?_; rw [show layV (iv .u8 (List.replicate 32 (0 : Int)) ++ ([.int .u64 0] : List Value)) 0 (iv .u8 l0_0) = (iv .u8 l0_0 ++ ([.int .u64 0] : List Value)) from (layV_mid (pre := (([] : List Value))) (mid := (iv .u8 (List.replicate 32 (0 : Int)))) (post := (([.int .u64 0] : List Value))) (by first | rfl | simp only [List.append_assoc, List.append_nil, List.nil_append, List.cons_append]) (by first | rfl | simp only [List.length_append, List.length_cons, List.length_nil, iv_length]) (Eq.trans (b := 32) (by first | rfl | simp only [List.length_append, List.length_cons, List.length_nil, iv_length, List.length_replicate]) (Eq.symm (by first | rfl | simp only [List.length_append, List.length_cons, List.length_nil, iv_length, hl0_0])))).trans (by first | rfl | simp only [List.append_assoc, List.append_nil, List.nil_append, List.cons_append])]; refine Fills.cons (o := 32) (ms := (([.int .u64 a0_1] : List Value))) (show _ = some (32, (([.int .u64 a0_1] : List Value)).length) by rw [show (([.int .u64 a0_1] : List Value)).length = 1 from (by first | rfl | simp only [List.length_append, List.length_cons, List.length_nil, iv_length])] <;> rfl) rfl (by have h1_ : (([.int .u64 a0_1] : List Value)).length = 1 := (by first | rfl | simp only [List.length_append, List.length_cons, List.length_nil, iv_length]); have h2_ : (iv .u8 l0_0 ++ ([.int .u64 0] : List Value)).length = 33 := (by first | rfl | simp only [List.length_append, List.length_cons, List.length_nil, iv_length, hl0_0]); omega) ?_; rw [show layV (iv .u8 l0_0 ++ ([.int .u64 0] : List Value)) 32 (([.int .u64 a0_1] : List Value)) = (iv .u8 l0_0 ++ ([.int .u64 a0_1] : List Value)) from (layV_mid (pre := (iv .u8 l0_0)) (mid := (([.int .u64 0] : List Value))) (post := (([] : List Value))) (by first | rfl | simp only [List.append_assoc, List.append_nil, List.nil_append, List.cons_append]) (by first | rfl | simp only [List.length_append, List.length_cons, List.length_nil, iv_length, hl0_0]) (Eq.trans (b := 1) (by first | rfl | simp only [List.length_append, List.length_cons, List.length_nil, iv_length]) (Eq.symm (by first | rfl | simp only [List.length_append, List.length_cons, List.length_nil, iv_length])))).trans (by first | rfl | simp only [List.append_assoc, List.append_nil, List.nil_append, List.cons_append])]; exact Fills.nil))) ?_
  refine HL.val Wanted.none (fun wq sq => (Runs.indexAddr_row (p := 0) Tryd.underlying36 siz35 rfl rfl (by decide) (by decide) rfl)) ?_
  refine HL.nil (fun w_13 st_14 => ?_)
  refine WL.store_mid (i := 0) (pre := (([] : List Value))) (mid := (iv .u8 (List.replicate 32 (0 : Int)) ++ ([.int .u64 0] : List Value))) (post := (iv .u8 (List.replicate 32 (0 : Int)) ++ (([.int .u64 0] : List Value) ++ (iv .u8 (List.replicate 32 (0 : Int)) ++ (([.int .u64 0] : List Value) ++ (iv .u8 (List.replicate 32 (0 : Int)) ++ ([.int .u64 0] : List Value))))))) (ms := (iv .u8 l0_0 ++ ([.int .u64 a0_1] : List Value))) st_14 rfl row35 (by first | rfl | simp only [List.append_assoc, List.append_nil, List.nil_append, List.cons_append]) (by first | rfl | simp only [List.length_append, List.length_cons, List.length_nil, iv_length]) rfl rfl (by first | rfl | simp only [List.length_append, List.length_cons, List.length_nil, iv_length, hl0_0]) (by first | rfl | simp only [List.length_append, List.length_cons, List.length_nil, iv_length, List.length_replicate]) (by intro u hu; simp only [List.mem_append, List.mem_singleton] at hu; rcases hu with hu | hu <;> first | exact one_iv _ _ u hu | (subst hu; rfl)) ?_
  intro w_15 st_16
  replace st_16 : St w w_15 [.cells B_9 (iv .u8 l0_0 ++ (([.int .u64 a0_1] : List Value) ++ (iv .u8 (List.replicate 32 (0 : Int)) ++ (([.int .u64 0] : List Value) ++ (iv .u8 (List.replicate 32 (0 : Int)) ++ (([.int .u64 0] : List Value) ++ (iv .u8 (List.replicate 32 (0 : Int)) ++ ([.int .u64 0] : List Value)))))))) 36, .cells B_5 (iv .u8 (List.replicate 32 (0 : Int)) ++ (([.int .u64 0] : List Value) ++ (iv .u8 (List.replicate 32 (0 : Int)) ++ (([.int .u64 0] : List Value) ++ (iv .u8 (List.replicate 32 (0 : Int)) ++ (([.int .u64 0] : List Value) ++ (iv .u8 (List.replicate 32 (0 : Int)) ++ ([.int .u64 0] : List Value)))))))) 36, .cells B_1 (iv .u8 l0_0 ++ (([.int .u64 a0_1] : List Value) ++ (iv .u8 l0_2 ++ (([.int .u64 a0_3] : List Value) ++ (iv .u8 l0_4 ++ (([.int .u64 a0_5] : List Value) ++ (iv .u8 l0_6 ++ ([.int .u64 a0_7] : List Value)))))))) 28] := by have e_ : (iv .u8 l0_0 ++ (([.int .u64 a0_1] : List Value) ++ (iv .u8 (List.replicate 32 (0 : Int)) ++ (([.int .u64 0] : List Value) ++ (iv .u8 (List.replicate 32 (0 : Int)) ++ (([.int .u64 0] : List Value) ++ (iv .u8 (List.replicate 32 (0 : Int)) ++ ([.int .u64 0] : List Value)))))))) = (([] : List Value)) ++ ((iv .u8 l0_0 ++ ([.int .u64 a0_1] : List Value)) ++ (iv .u8 (List.replicate 32 (0 : Int)) ++ (([.int .u64 0] : List Value) ++ (iv .u8 (List.replicate 32 (0 : Int)) ++ (([.int .u64 0] : List Value) ++ (iv .u8 (List.replicate 32 (0 : Int)) ++ ([.int .u64 0] : List Value))))))) := (by first | rfl | simp only [List.append_assoc, List.append_nil, List.nil_append, List.cons_append]); have h_ : St w w_15 [.cells B_9 ((([] : List Value)) ++ ((iv .u8 l0_0 ++ ([.int .u64 a0_1] : List Value)) ++ (iv .u8 (List.replicate 32 (0 : Int)) ++ (([.int .u64 0] : List Value) ++ (iv .u8 (List.replicate 32 (0 : Int)) ++ (([.int .u64 0] : List Value) ++ (iv .u8 (List.replicate 32 (0 : Int)) ++ ([.int .u64 0] : List Value)))))))) 36, .cells B_5 (iv .u8 (List.replicate 32 (0 : Int)) ++ (([.int .u64 0] : List Value) ++ (iv .u8 (List.replicate 32 (0 : Int)) ++ (([.int .u64 0] : List Value) ++ (iv .u8 (List.replicate 32 (0 : Int)) ++ (([.int .u64 0] : List Value) ++ (iv .u8 (List.replicate 32 (0 : Int)) ++ ([.int .u64 0] : List Value)))))))) 36, .cells B_1 (iv .u8 l0_0 ++ (([.int .u64 a0_1] : List Value) ++ (iv .u8 l0_2 ++ (([.int .u64 a0_3] : List Value) ++ (iv .u8 l0_4 ++ (([.int .u64 a0_5] : List Value) ++ (iv .u8 l0_6 ++ ([.int .u64 a0_7] : List Value)))))))) 28] := st_16; rw [← e_] at h_; exact h_
  refine WL.nil ?_
  refine QW.blk_n ?_
  refine QW.then_n ?_
  refine CW.region ?_
  refine WL.val Wanted.none (Runs.move rfl) ?_
  refine WL.val Wanted.none (Runs.add (z := 1) rfl rfl (by decide)) ?_
  refine WL.val Wanted.none (Runs.assign rfl) ?_
  refine WL.nil ?_
  refine QW.round ?_
  refine CW.seq ?_
  refine CW.seq ?_
  refine CW.region ?_
  refine WL.val Wanted.none (Runs.move rfl) ?_
  refine WL.val Wanted.none (Runs.lss (b := true) rfl rfl (by decide)) ?_
  refine WL.nil ?_
  refine QW.then_n ?_
  refine CW.ct rfl rfl ?_
  refine CW.skip ?_
  refine QW.then_n ?_
  refine CW.seq ?_
  refine CW.block ?_
  refine CW.region_qt 11 wide (by kernel_rfl) st_16 ?_
  refine HL.val Wanted.none (fun wq sq => (Runs.move rfl)) ?_
  refine HL.val Wanted.none (fun wq sq => (Runs.move rfl)) ?_
  refine HL.val Wanted.none (fun wq sq => (Runs.indexAddr_row (p := 33) Tryd.underlying28 siz26 rfl rfl (by decide) (by decide) rfl)) ?_
  refine HL.val Wanted.none (fun wq sq => (Runs.fieldAddr (off := 0) (p := 33) fld26_0 rfl rfl rfl)) ?_
  refine HL.val Wanted.none (fun wq sq => (Runs.load_mid row23 rfl sq (i := 2) rfl (part_mid (pre := (iv .u8 l0_0 ++ ([.int .u64 a0_1] : List Value))) (mid := (iv .u8 l0_2)) (post := (([.int .u64 a0_3] : List Value) ++ (iv .u8 l0_4 ++ (([.int .u64 a0_5] : List Value) ++ (iv .u8 l0_6 ++ ([.int .u64 a0_7] : List Value)))))) (by first | rfl | simp only [List.append_assoc, List.append_nil, List.nil_append, List.cons_append]) (by first | rfl | simp only [List.length_append, List.length_cons, List.length_nil, iv_length, hl0_0]) (by first | rfl | simp only [List.length_append, List.length_cons, List.length_nil, iv_length, hl0_2])) (by first | rfl | simp only [List.length_append, List.length_cons, List.length_nil, iv_length, hl0_2]))) ?_
  refine HL.val Wanted.none (fun wq sq => (Runs.move rfl)) ?_
  refine HL.val Wanted.none (fun wq sq => (Runs.indexAddr_row (p := 33) Tryd.underlying28 siz26 rfl rfl (by decide) (by decide) rfl)) ?_
  refine HL.val Wanted.none (fun wq sq => (Runs.fieldAddr (off := 32) (p := 65) fld26_1 rfl rfl rfl)) ?_
  refine HL.val Wanted.none (fun wq sq => (Runs.load nagg24 rfl (sq.cell (k := 2) rfl (part_one (u := .int .u64 a0_3) (pre := (iv .u8 l0_0 ++ (([.int .u64 a0_1] : List Value) ++ iv .u8 l0_2))) (post := (iv .u8 l0_4 ++ (([.int .u64 a0_5] : List Value) ++ (iv .u8 l0_6 ++ ([.int .u64 a0_7] : List Value))))) (by first | rfl | simp only [List.append_assoc, List.append_nil, List.nil_append, List.cons_append]) (by first | rfl | simp only [List.length_append, List.length_cons, List.length_nil, iv_length, hl0_0, hl0_2]))))) ?_
  refine HL.val Wanted.none (fun wq sq => (Runs.build_struct (ps := [(0, 32), (32, 1)]) (cs := (iv .u8 l0_2 ++ ([.int .u64 a0_3] : List Value))) plc35 zero35 rfl (by refine Fills.cons (o := 0) (ms := (iv .u8 l0_2)) (show _ = some (0, (iv .u8 l0_2).length) by rw [show (iv .u8 l0_2).length = 32 from (by first | rfl | simp only [List.length_append, List.length_cons, List.length_nil, iv_length, hl0_2])] <;> rfl) rfl (by have h1_ : (iv .u8 l0_2).length = 32 := (by first | rfl | simp only [List.length_append, List.length_cons, List.length_nil, iv_length, hl0_2]); have h2_ : (iv .u8 (List.replicate 32 (0 : Int)) ++ ([.int .u64 0] : List Value)).length = 33 := (by first | rfl | simp only [List.length_append, List.length_cons, List.length_nil, iv_length, List.length_replicate]); omega) ?_; rw [show layV (iv .u8 (List.replicate 32 (0 : Int)) ++ ([.int .u64 0] : List Value)) 0 (iv .u8 l0_2) = (iv .u8 l0_2 ++ ([.int .u64 0] : List Value)) from (layV_mid (pre := (([] : List Value))) (mid := (iv .u8 (List.replicate 32 (0 : Int)))) (post := (([.int .u64 0] : List Value))) (by first | rfl | simp only [List.append_assoc, List.append_nil, List.nil_append, List.cons_append]) (by first | rfl | simp only [List.length_append, List.length_cons, List.length_nil, iv_length]) (Eq.trans (b := 32) (by first | rfl | simp only [List.length_append, List.length_cons, List.length_nil, iv_length, List.length_replicate]) (Eq.symm (by first | rfl | simp only [List.length_append, List.length_cons, List.length_nil, iv_length, hl0_2])))).trans (by first | rfl | simp only [List.append_assoc, List.append_nil, List.nil_append, List.cons_append])]; refine Fills.cons (o := 32) (ms := (([.int .u64 a0_3] : List Value))) (show _ = some (32, (([.int .u64 a0_3] : List Value)).length) by rw [show (([.int .u64 a0_3] : List Value)).length = 1 from (by first | rfl | simp only [List.length_append, List.length_cons, List.length_nil, iv_length])] <;> rfl) rfl (by have h1_ : (([.int .u64 a0_3] : List Value)).length = 1 := (by first | rfl | simp only [List.length_append, List.length_cons, List.length_nil, iv_length]); have h2_ : (iv .u8 l0_2 ++ ([.int .u64 0] : List Value)).length = 33 := (by first | rfl | simp only [List.length_append, List.length_cons, List.length_nil, iv_length, hl0_2]); omega) ?_; rw [show layV (iv .u8 l0_2 ++ ([.int .u64 0] : List Value)) 32 (([.int .u64 a0_3] : List Value)) = (iv .u8 l0_2 ++ ([.int .u64 a0_3] : List Value)) from (layV_mid (pre := (iv .u8 l0_2)) (mid := (([.int .u64 0] : List Value))) (post := (([] : List Value))) (by first | rfl | simp only [List.append_assoc, List.append_nil, List.nil_append, List.cons_append]) (by first | rfl | simp only [List.length_append, List.length_cons, List.length_nil, iv_length, hl0_2]) (Eq.trans (b := 1) (by first | rfl | simp only [List.length_append, List.length_cons, List.length_nil, iv_length]) (Eq.symm (by first | rfl | simp only [List.length_append, List.length_cons, List.length_nil, iv_length])))).trans (by first | rfl | simp only [List.append_assoc, List.append_nil, List.nil_append, List.cons_append])]; exact Fills.nil))) ?_
  refine HL.val Wanted.none (fun wq sq => (Runs.indexAddr_row (p := 33) Tryd.underlying36 siz35 rfl rfl (by decide) (by decide) rfl)) ?_
  refine HL.nil (fun w_17 st_18 => ?_)
  refine WL.store_mid (i := 0) (pre := (iv .u8 l0_0 ++ ([.int .u64 a0_1] : List Value))) (mid := (iv .u8 (List.replicate 32 (0 : Int)) ++ ([.int .u64 0] : List Value))) (post := (iv .u8 (List.replicate 32 (0 : Int)) ++ (([.int .u64 0] : List Value) ++ (iv .u8 (List.replicate 32 (0 : Int)) ++ ([.int .u64 0] : List Value))))) (ms := (iv .u8 l0_2 ++ ([.int .u64 a0_3] : List Value))) st_18 rfl row35 (by first | rfl | simp only [List.append_assoc, List.append_nil, List.nil_append, List.cons_append]) (by first | rfl | simp only [List.length_append, List.length_cons, List.length_nil, iv_length, hl0_0]) rfl rfl (by first | rfl | simp only [List.length_append, List.length_cons, List.length_nil, iv_length, hl0_2]) (by first | rfl | simp only [List.length_append, List.length_cons, List.length_nil, iv_length, List.length_replicate]) (by intro u hu; simp only [List.mem_append, List.mem_singleton] at hu; rcases hu with hu | hu <;> first | exact one_iv _ _ u hu | (subst hu; rfl)) ?_
  intro w_19 st_20
  replace st_20 : St w w_19 [.cells B_9 (iv .u8 l0_0 ++ (([.int .u64 a0_1] : List Value) ++ (iv .u8 l0_2 ++ (([.int .u64 a0_3] : List Value) ++ (iv .u8 (List.replicate 32 (0 : Int)) ++ (([.int .u64 0] : List Value) ++ (iv .u8 (List.replicate 32 (0 : Int)) ++ ([.int .u64 0] : List Value)))))))) 36, .cells B_5 (iv .u8 (List.replicate 32 (0 : Int)) ++ (([.int .u64 0] : List Value) ++ (iv .u8 (List.replicate 32 (0 : Int)) ++ (([.int .u64 0] : List Value) ++ (iv .u8 (List.replicate 32 (0 : Int)) ++ (([.int .u64 0] : List Value) ++ (iv .u8 (List.replicate 32 (0 : Int)) ++ ([.int .u64 0] : List Value)))))))) 36, .cells B_1 (iv .u8 l0_0 ++ (([.int .u64 a0_1] : List Value) ++ (iv .u8 l0_2 ++ (([.int .u64 a0_3] : List Value) ++ (iv .u8 l0_4 ++ (([.int .u64 a0_5] : List Value) ++ (iv .u8 l0_6 ++ ([.int .u64 a0_7] : List Value)))))))) 28] := by have e_ : (iv .u8 l0_0 ++ (([.int .u64 a0_1] : List Value) ++ (iv .u8 l0_2 ++ (([.int .u64 a0_3] : List Value) ++ (iv .u8 (List.replicate 32 (0 : Int)) ++ (([.int .u64 0] : List Value) ++ (iv .u8 (List.replicate 32 (0 : Int)) ++ ([.int .u64 0] : List Value)))))))) = (iv .u8 l0_0 ++ ([.int .u64 a0_1] : List Value)) ++ ((iv .u8 l0_2 ++ ([.int .u64 a0_3] : List Value)) ++ (iv .u8 (List.replicate 32 (0 : Int)) ++ (([.int .u64 0] : List Value) ++ (iv .u8 (List.replicate 32 (0 : Int)) ++ ([.int .u64 0] : List Value))))) := (by first | rfl | simp only [List.append_assoc, List.append_nil, List.nil_append, List.cons_append]); have h_ : St w w_19 [.cells B_9 ((iv .u8 l0_0 ++ ([.int .u64 a0_1] : List Value)) ++ ((iv .u8 l0_2 ++ ([.int .u64 a0_3] : List Value)) ++ (iv .u8 (List.replicate 32 (0 : Int)) ++ (([.int .u64 0] : List Value) ++ (iv .u8 (List.replicate 32 (0 : Int)) ++ ([.int .u64 0] : List Value)))))) 36, .cells B_5 (iv .u8 (List.replicate 32 (0 : Int)) ++ (([.int .u64 0] : List Value) ++ (iv .u8 (List.replicate 32 (0 : Int)) ++ (([.int .u64 0] : List Value) ++ (iv .u8 (List.replicate 32 (0 : Int)) ++ (([.int .u64 0] : List Value) ++ (iv .u8 (List.replicate 32 (0 : Int)) ++ ([.int .u64 0] : List Value)))))))) 36, .cells B_1 (iv .u8 l0_0 ++ (([.int .u64 a0_1] : List Value) ++ (iv .u8 l0_2 ++ (([.int .u64 a0_3] : List Value) ++ (iv .u8 l0_4 ++ (([.int .u64 a0_5] : List Value) ++ (iv .u8 l0_6 ++ ([.int .u64 a0_7] : List Value)))))))) 28] := st_20; rw [← e_] at h_; exact h_
  refine WL.nil ?_
  refine QW.blk_n ?_
  refine QW.then_n ?_
  refine CW.region ?_
  refine WL.val Wanted.none (Runs.move rfl) ?_
  refine WL.val Wanted.none (Runs.add (z := 2) rfl rfl (by decide)) ?_
  refine WL.val Wanted.none (Runs.assign rfl) ?_
  refine WL.nil ?_
  refine QW.round ?_
  refine CW.seq ?_
  refine CW.seq ?_
  refine CW.region ?_
  refine WL.val Wanted.none (Runs.move rfl) ?_
  refine WL.val Wanted.none (Runs.lss (b := true) rfl rfl (by decide)) ?_
  refine WL.nil ?_
  refine QW.then_n ?_
  refine CW.ct rfl rfl ?_
  refine CW.skip ?_
  refine QW.then_n ?_
  refine CW.seq ?_
  refine CW.block ?_
  refine CW.region_qt 11 wide (by kernel_rfl) st_20 ?_
  refine HL.val Wanted.none (fun wq sq => (Runs.move rfl)) ?_
  refine HL.val Wanted.none (fun wq sq => (Runs.move rfl)) ?_
  refine HL.val Wanted.none (fun wq sq => (Runs.indexAddr_row (p := 66) Tryd.underlying28 siz26 rfl rfl (by decide) (by decide) rfl)) ?_
  refine HL.val Wanted.none (fun wq sq => (Runs.fieldAddr (off := 0) (p := 66) fld26_0 rfl rfl rfl)) ?_
  refine HL.val Wanted.none (fun wq sq => (Runs.load_mid row23 rfl sq (i := 2) rfl (part_mid (pre := (iv .u8 l0_0 ++ (([.int .u64 a0_1] : List Value) ++ (iv .u8 l0_2 ++ ([.int .u64 a0_3] : List Value))))) (mid := (iv .u8 l0_4)) (post := (([.int .u64 a0_5] : List Value) ++ (iv .u8 l0_6 ++ ([.int .u64 a0_7] : List Value)))) (by first | rfl | simp only [List.append_assoc, List.append_nil, List.nil_append, List.cons_append]) (by first | rfl | simp only [List.length_append, List.length_cons, List.length_nil, iv_length, hl0_0, hl0_2]) (by first | rfl | simp only [List.length_append, List.length_cons, List.length_nil, iv_length, hl0_4])) (by first | rfl | simp only [List.length_append, List.length_cons, List.length_nil, iv_length, hl0_4]))) ?_
  refine HL.val Wanted.none (fun wq sq => (Runs.move rfl)) ?_
  refine HL.val Wanted.none (fun wq sq => (Runs.indexAddr_row (p := 66) Tryd.underlying28 siz26 rfl rfl (by decide) (by decide) rfl)) ?_
  refine HL.val Wanted.none (fun wq sq => (Runs.fieldAddr (off := 32) (p := 98) fld26_1 rfl rfl rfl)) ?_
  refine HL.val Wanted.none (fun wq sq => (Runs.load nagg24 rfl (sq.cell (k := 2) rfl (part_one (u := .int .u64 a0_5) (pre := (iv .u8 l0_0 ++ (([.int .u64 a0_1] : List Value) ++ (iv .u8 l0_2 ++ (([.int .u64 a0_3] : List Value) ++ iv .u8 l0_4))))) (post := (iv .u8 l0_6 ++ ([.int .u64 a0_7] : List Value))) (by first | rfl | simp only [List.append_assoc, List.append_nil, List.nil_append, List.cons_append]) (by first | rfl | simp only [List.length_append, List.length_cons, List.length_nil, iv_length, hl0_0, hl0_2, hl0_4]))))) ?_
  refine HL.val Wanted.none (fun wq sq => (Runs.build_struct (ps := [(0, 32), (32, 1)]) (cs := (iv .u8 l0_4 ++ ([.int .u64 a0_5] : List Value))) plc35 zero35 rfl (by refine Fills.cons (o := 0) (ms := (iv .u8 l0_4)) (show _ = some (0, (iv .u8 l0_4).length) by rw [show (iv .u8 l0_4).length = 32 from (by first | rfl | simp only [List.length_append, List.length_cons, List.length_nil, iv_length, hl0_4])] <;> rfl) rfl (by have h1_ : (iv .u8 l0_4).length = 32 := (by first | rfl | simp only [List.length_append, List.length_cons, List.length_nil, iv_length, hl0_4]); have h2_ : (iv .u8 (List.replicate 32 (0 : Int)) ++ ([.int .u64 0] : List Value)).length = 33 := (by first | rfl | simp only [List.length_append, List.length_cons, List.length_nil, iv_length, List.length_replicate]); omega) ?_; rw [show layV (iv .u8 (List.replicate 32 (0 : Int)) ++ ([.int .u64 0] : List Value)) 0 (iv .u8 l0_4) = (iv .u8 l0_4 ++ ([.int .u64 0] : List Value)) from (layV_mid (pre := (([] : List Value))) (mid := (iv .u8 (List.replicate 32 (0 : Int)))) (post := (([.int .u64 0] : List Value))) (by first | rfl | simp only [List.append_assoc, List.append_nil, List.nil_append, List.cons_append]) (by first | rfl | simp only [List.length_append, List.length_cons, List.length_nil, iv_length]) (Eq.trans (b := 32) (by first | rfl | simp only [List.length_append, List.length_cons, List.length_nil, iv_length, List.length_replicate]) (Eq.symm (by first | rfl | simp only [List.length_append, List.length_cons, List.length_nil, iv_length, hl0_4])))).trans (by first | rfl | simp only [List.append_assoc, List.append_nil, List.nil_append, List.cons_append])]; refine Fills.cons (o := 32) (ms := (([.int .u64 a0_5] : List Value))) (show _ = some (32, (([.int .u64 a0_5] : List Value)).length) by rw [show (([.int .u64 a0_5] : List Value)).length = 1 from (by first | rfl | simp only [List.length_append, List.length_cons, List.length_nil, iv_length])] <;> rfl) rfl (by have h1_ : (([.int .u64 a0_5] : List Value)).length = 1 := (by first | rfl | simp only [List.length_append, List.length_cons, List.length_nil, iv_length]); have h2_ : (iv .u8 l0_4 ++ ([.int .u64 0] : List Value)).length = 33 := (by first | rfl | simp only [List.length_append, List.length_cons, List.length_nil, iv_length, hl0_4]); omega) ?_; rw [show layV (iv .u8 l0_4 ++ ([.int .u64 0] : List Value)) 32 (([.int .u64 a0_5] : List Value)) = (iv .u8 l0_4 ++ ([.int .u64 a0_5] : List Value)) from (layV_mid (pre := (iv .u8 l0_4)) (mid := (([.int .u64 0] : List Value))) (post := (([] : List Value))) (by first | rfl | simp only [List.append_assoc, List.append_nil, List.nil_append, List.cons_append]) (by first | rfl | simp only [List.length_append, List.length_cons, List.length_nil, iv_length, hl0_4]) (Eq.trans (b := 1) (by first | rfl | simp only [List.length_append, List.length_cons, List.length_nil, iv_length]) (Eq.symm (by first | rfl | simp only [List.length_append, List.length_cons, List.length_nil, iv_length])))).trans (by first | rfl | simp only [List.append_assoc, List.append_nil, List.nil_append, List.cons_append])]; exact Fills.nil))) ?_
  refine HL.val Wanted.none (fun wq sq => (Runs.indexAddr_row (p := 66) Tryd.underlying36 siz35 rfl rfl (by decide) (by decide) rfl)) ?_
  refine HL.nil (fun w_21 st_22 => ?_)
  refine WL.store_mid (i := 0) (pre := (iv .u8 l0_0 ++ (([.int .u64 a0_1] : List Value) ++ (iv .u8 l0_2 ++ ([.int .u64 a0_3] : List Value))))) (mid := (iv .u8 (List.replicate 32 (0 : Int)) ++ ([.int .u64 0] : List Value))) (post := (iv .u8 (List.replicate 32 (0 : Int)) ++ ([.int .u64 0] : List Value))) (ms := (iv .u8 l0_4 ++ ([.int .u64 a0_5] : List Value))) st_22 rfl row35 (by first | rfl | simp only [List.append_assoc, List.append_nil, List.nil_append, List.cons_append]) (by first | rfl | simp only [List.length_append, List.length_cons, List.length_nil, iv_length, hl0_0, hl0_2]) rfl rfl (by first | rfl | simp only [List.length_append, List.length_cons, List.length_nil, iv_length, hl0_4]) (by first | rfl | simp only [List.length_append, List.length_cons, List.length_nil, iv_length, List.length_replicate]) (by intro u hu; simp only [List.mem_append, List.mem_singleton] at hu; rcases hu with hu | hu <;> first | exact one_iv _ _ u hu | (subst hu; rfl)) ?_
  intro w_23 st_24
  replace st_24 : St w w_23 [.cells B_9 (iv .u8 l0_0 ++ (([.int .u64 a0_1] : List Value) ++ (iv .u8 l0_2 ++ (([.int .u64 a0_3] : List Value) ++ (iv .u8 l0_4 ++ (([.int .u64 a0_5] : List Value) ++ (iv .u8 (List.replicate 32 (0 : Int)) ++ ([.int .u64 0] : List Value)))))))) 36, .cells B_5 (iv .u8 (List.replicate 32 (0 : Int)) ++ (([.int .u64 0] : List Value) ++ (iv .u8 (List.replicate 32 (0 : Int)) ++ (([.int .u64 0] : List Value) ++ (iv .u8 (List.replicate 32 (0 : Int)) ++ (([.int .u64 0] : List Value) ++ (iv .u8 (List.replicate 32 (0 : Int)) ++ ([.int .u64 0] : List Value)))))))) 36, .cells B_1 (iv .u8 l0_0 ++ (([.int .u64 a0_1] : List Value) ++ (iv .u8 l0_2 ++ (([.int .u64 a0_3] : List Value) ++ (iv .u8 l0_4 ++ (([.int .u64 a0_5] : List Value) ++ (iv .u8 l0_6 ++ ([.int .u64 a0_7] : List Value)))))))) 28] := by have e_ : (iv .u8 l0_0 ++ (([.int .u64 a0_1] : List Value) ++ (iv .u8 l0_2 ++ (([.int .u64 a0_3] : List Value) ++ (iv .u8 l0_4 ++ (([.int .u64 a0_5] : List Value) ++ (iv .u8 (List.replicate 32 (0 : Int)) ++ ([.int .u64 0] : List Value)))))))) = (iv .u8 l0_0 ++ (([.int .u64 a0_1] : List Value) ++ (iv .u8 l0_2 ++ ([.int .u64 a0_3] : List Value)))) ++ ((iv .u8 l0_4 ++ ([.int .u64 a0_5] : List Value)) ++ (iv .u8 (List.replicate 32 (0 : Int)) ++ ([.int .u64 0] : List Value))) := (by first | rfl | simp only [List.append_assoc, List.append_nil, List.nil_append, List.cons_append]); have h_ : St w w_23 [.cells B_9 ((iv .u8 l0_0 ++ (([.int .u64 a0_1] : List Value) ++ (iv .u8 l0_2 ++ ([.int .u64 a0_3] : List Value)))) ++ ((iv .u8 l0_4 ++ ([.int .u64 a0_5] : List Value)) ++ (iv .u8 (List.replicate 32 (0 : Int)) ++ ([.int .u64 0] : List Value)))) 36, .cells B_5 (iv .u8 (List.replicate 32 (0 : Int)) ++ (([.int .u64 0] : List Value) ++ (iv .u8 (List.replicate 32 (0 : Int)) ++ (([.int .u64 0] : List Value) ++ (iv .u8 (List.replicate 32 (0 : Int)) ++ (([.int .u64 0] : List Value) ++ (iv .u8 (List.replicate 32 (0 : Int)) ++ ([.int .u64 0] : List Value)))))))) 36, .cells B_1 (iv .u8 l0_0 ++ (([.int .u64 a0_1] : List Value) ++ (iv .u8 l0_2 ++ (([.int .u64 a0_3] : List Value) ++ (iv .u8 l0_4 ++ (([.int .u64 a0_5] : List Value) ++ (iv .u8 l0_6 ++ ([.int .u64 a0_7] : List Value)))))))) 28] := st_24; rw [← e_] at h_; exact h_
  refine WL.nil ?_
  refine QW.blk_n ?_
  refine QW.then_n ?_
  refine CW.region ?_
  refine WL.val Wanted.none (Runs.move rfl) ?_
  refine WL.val Wanted.none (Runs.add (z := 3) rfl rfl (by decide)) ?_
  refine WL.val Wanted.none (Runs.assign rfl) ?_
  refine WL.nil ?_
  refine QW.round ?_
  refine CW.seq ?_
  refine CW.seq ?_
  refine CW.region ?_
  refine WL.val Wanted.none (Runs.move rfl) ?_
  refine WL.val Wanted.none (Runs.lss (b := true) rfl rfl (by decide)) ?_
  refine WL.nil ?_
  refine QW.then_n ?_
  refine CW.ct rfl rfl ?_
  refine CW.skip ?_
  refine QW.then_n ?_
  refine CW.seq ?_
  refine CW.block ?_
  refine CW.region_qt 11 wide (by kernel_rfl) st_24 ?_
  refine HL.val Wanted.none (fun wq sq => (Runs.move rfl)) ?_
  refine HL.val Wanted.none (fun wq sq => (Runs.move rfl)) ?_
  refine HL.val Wanted.none (fun wq sq => (Runs.indexAddr_row (p := 99) Tryd.underlying28 siz26 rfl rfl (by decide) (by decide) rfl)) ?_
  refine HL.val Wanted.none (fun wq sq => (Runs.fieldAddr (off := 0) (p := 99) fld26_0 rfl rfl rfl)) ?_
  refine HL.val Wanted.none (fun wq sq => (Runs.load_mid row23 rfl sq (i := 2) rfl (part_mid (pre := (iv .u8 l0_0 ++ (([.int .u64 a0_1] : List Value) ++ (iv .u8 l0_2 ++ (([.int .u64 a0_3] : List Value) ++ (iv .u8 l0_4 ++ ([.int .u64 a0_5] : List Value))))))) (mid := (iv .u8 l0_6)) (post := (([.int .u64 a0_7] : List Value))) (by first | rfl | simp only [List.append_assoc, List.append_nil, List.nil_append, List.cons_append]) (by first | rfl | simp only [List.length_append, List.length_cons, List.length_nil, iv_length, hl0_0, hl0_2, hl0_4]) (by first | rfl | simp only [List.length_append, List.length_cons, List.length_nil, iv_length, hl0_6])) (by first | rfl | simp only [List.length_append, List.length_cons, List.length_nil, iv_length, hl0_6]))) ?_
  refine HL.val Wanted.none (fun wq sq => (Runs.move rfl)) ?_
  refine HL.val Wanted.none (fun wq sq => (Runs.indexAddr_row (p := 99) Tryd.underlying28 siz26 rfl rfl (by decide) (by decide) rfl)) ?_
  refine HL.val Wanted.none (fun wq sq => (Runs.fieldAddr (off := 32) (p := 131) fld26_1 rfl rfl rfl)) ?_
  refine HL.val Wanted.none (fun wq sq => (Runs.load nagg24 rfl (sq.cell (k := 2) rfl (part_one (u := .int .u64 a0_7) (pre := (iv .u8 l0_0 ++ (([.int .u64 a0_1] : List Value) ++ (iv .u8 l0_2 ++ (([.int .u64 a0_3] : List Value) ++ (iv .u8 l0_4 ++ (([.int .u64 a0_5] : List Value) ++ iv .u8 l0_6))))))) (post := (([] : List Value))) (by first | rfl | simp only [List.append_assoc, List.append_nil, List.nil_append, List.cons_append]) (by first | rfl | simp only [List.length_append, List.length_cons, List.length_nil, iv_length, hl0_0, hl0_2, hl0_4, hl0_6]))))) ?_
  refine HL.val Wanted.none (fun wq sq => (Runs.build_struct (ps := [(0, 32), (32, 1)]) (cs := (iv .u8 l0_6 ++ ([.int .u64 a0_7] : List Value))) plc35 zero35 rfl (by refine Fills.cons (o := 0) (ms := (iv .u8 l0_6)) (show _ = some (0, (iv .u8 l0_6).length) by rw [show (iv .u8 l0_6).length = 32 from (by first | rfl | simp only [List.length_append, List.length_cons, List.length_nil, iv_length, hl0_6])] <;> rfl) rfl (by have h1_ : (iv .u8 l0_6).length = 32 := (by first | rfl | simp only [List.length_append, List.length_cons, List.length_nil, iv_length, hl0_6]); have h2_ : (iv .u8 (List.replicate 32 (0 : Int)) ++ ([.int .u64 0] : List Value)).length = 33 := (by first | rfl | simp only [List.length_append, List.length_cons, List.length_nil, iv_length, List.length_replicate]); omega) ?_; rw [show layV (iv .u8 (List.replicate 32 (0 : Int)) ++ ([.int .u64 0] : List Value)) 0 (iv .u8 l0_6) = (iv .u8 l0_6 ++ ([.int .u64 0] : List Value)) from (layV_mid (pre := (([] : List Value))) (mid := (iv .u8 (List.replicate 32 (0 : Int)))) (post := (([.int .u64 0] : List Value))) (by first | rfl | simp only [List.append_assoc, List.append_nil, List.nil_append, List.cons_append]) (by first | rfl | simp only [List.length_append, List.length_cons, List.length_nil, iv_length]) (Eq.trans (b := 32) (by first | rfl | simp only [List.length_append, List.length_cons, List.length_nil, iv_length, List.length_replicate]) (Eq.symm (by first | rfl | simp only [List.length_append, List.length_cons, List.length_nil, iv_length, hl0_6])))).trans (by first | rfl | simp only [List.append_assoc, List.append_nil, List.nil_append, List.cons_append])]; refine Fills.cons (o := 32) (ms := (([.int .u64 a0_7] : List Value))) (show _ = some (32, (([.int .u64 a0_7] : List Value)).length) by rw [show (([.int .u64 a0_7] : List Value)).length = 1 from (by first | rfl | simp only [List.length_append, List.length_cons, List.length_nil, iv_length])] <;> rfl) rfl (by have h1_ : (([.int .u64 a0_7] : List Value)).length = 1 := (by first | rfl | simp only [List.length_append, List.length_cons, List.length_nil, iv_length]); have h2_ : (iv .u8 l0_6 ++ ([.int .u64 0] : List Value)).length = 33 := (by first | rfl | simp only [List.length_append, List.length_cons, List.length_nil, iv_length, hl0_6]); omega) ?_; rw [show layV (iv .u8 l0_6 ++ ([.int .u64 0] : List Value)) 32 (([.int .u64 a0_7] : List Value)) = (iv .u8 l0_6 ++ ([.int .u64 a0_7] : List Value)) from (layV_mid (pre := (iv .u8 l0_6)) (mid := (([.int .u64 0] : List Value))) (post := (([] : List Value))) (by first | rfl | simp only [List.append_assoc, List.append_nil, List.nil_append, List.cons_append]) (by first | rfl | simp only [List.length_append, List.length_cons, List.length_nil, iv_length, hl0_6]) (Eq.trans (b := 1) (by first | rfl | simp only [List.length_append, List.length_cons, List.length_nil, iv_length]) (Eq.symm (by first | rfl | simp only [List.length_append, List.length_cons, List.length_nil, iv_length])))).trans (by first | rfl | simp only [List.append_assoc, List.append_nil, List.nil_append, List.cons_append])]; exact Fills.nil))) ?_
  refine HL.val Wanted.none (fun wq sq => (Runs.indexAddr_row (p := 99) Tryd.underlying36 siz35 rfl rfl (by decide) (by decide) rfl)) ?_
  refine HL.nil (fun w_25 st_26 => ?_)
  refine WL.store_mid (i := 0) (pre := (iv .u8 l0_0 ++ (([.int .u64 a0_1] : List Value) ++ (iv .u8 l0_2 ++ (([.int .u64 a0_3] : List Value) ++ (iv .u8 l0_4 ++ ([.int .u64 a0_5] : List Value))))))) (mid := (iv .u8 (List.replicate 32 (0 : Int)) ++ ([.int .u64 0] : List Value))) (post := (([] : List Value))) (ms := (iv .u8 l0_6 ++ ([.int .u64 a0_7] : List Value))) st_26 rfl row35 (by first | rfl | simp only [List.append_assoc, List.append_nil, List.nil_append, List.cons_append]) (by first | rfl | simp only [List.length_append, List.length_cons, List.length_nil, iv_length, hl0_0, hl0_2, hl0_4]) rfl rfl (by first | rfl | simp only [List.length_append, List.length_cons, List.length_nil, iv_length, hl0_6]) (by first | rfl | simp only [List.length_append, List.length_cons, List.length_nil, iv_length, List.length_replicate]) (by intro u hu; simp only [List.mem_append, List.mem_singleton] at hu; rcases hu with hu | hu <;> first | exact one_iv _ _ u hu | (subst hu; rfl)) ?_
  intro w_27 st_28
  replace st_28 : St w w_27 [.cells B_9 (iv .u8 l0_0 ++ (([.int .u64 a0_1] : List Value) ++ (iv .u8 l0_2 ++ (([.int .u64 a0_3] : List Value) ++ (iv .u8 l0_4 ++ (([.int .u64 a0_5] : List Value) ++ (iv .u8 l0_6 ++ ([.int .u64 a0_7] : List Value)))))))) 36, .cells B_5 (iv .u8 (List.replicate 32 (0 : Int)) ++ (([.int .u64 0] : List Value) ++ (iv .u8 (List.replicate 32 (0 : Int)) ++ (([.int .u64 0] : List Value) ++ (iv .u8 (List.replicate 32 (0 : Int)) ++ (([.int .u64 0] : List Value) ++ (iv .u8 (List.replicate 32 (0 : Int)) ++ ([.int .u64 0] : List Value)))))))) 36, .cells B_1 (iv .u8 l0_0 ++ (([.int .u64 a0_1] : List Value) ++ (iv .u8 l0_2 ++ (([.int .u64 a0_3] : List Value) ++ (iv .u8 l0_4 ++ (([.int .u64 a0_5] : List Value) ++ (iv .u8 l0_6 ++ ([.int .u64 a0_7] : List Value)))))))) 28] := by have e_ : (iv .u8 l0_0 ++ (([.int .u64 a0_1] : List Value) ++ (iv .u8 l0_2 ++ (([.int .u64 a0_3] : List Value) ++ (iv .u8 l0_4 ++ (([.int .u64 a0_5] : List Value) ++ (iv .u8 l0_6 ++ ([.int .u64 a0_7] : List Value)))))))) = (iv .u8 l0_0 ++ (([.int .u64 a0_1] : List Value) ++ (iv .u8 l0_2 ++ (([.int .u64 a0_3] : List Value) ++ (iv .u8 l0_4 ++ ([.int .u64 a0_5] : List Value)))))) ++ ((iv .u8 l0_6 ++ ([.int .u64 a0_7] : List Value)) ++ (([] : List Value))) := (by first | rfl | simp only [List.append_assoc, List.append_nil, List.nil_append, List.cons_append]); have h_ : St w w_27 [.cells B_9 ((iv .u8 l0_0 ++ (([.int .u64 a0_1] : List Value) ++ (iv .u8 l0_2 ++ (([.int .u64 a0_3] : List Value) ++ (iv .u8 l0_4 ++ ([.int .u64 a0_5] : List Value)))))) ++ ((iv .u8 l0_6 ++ ([.int .u64 a0_7] : List Value)) ++ (([] : List Value)))) 36, .cells B_5 (iv .u8 (List.replicate 32 (0 : Int)) ++ (([.int .u64 0] : List Value) ++ (iv .u8 (List.replicate 32 (0 : Int)) ++ (([.int .u64 0] : List Value) ++ (iv .u8 (List.replicate 32 (0 : Int)) ++ (([.int .u64 0] : List Value) ++ (iv .u8 (List.replicate 32 (0 : Int)) ++ ([.int .u64 0] : List Value)))))))) 36, .cells B_1 (iv .u8 l0_0 ++ (([.int .u64 a0_1] : List Value) ++ (iv .u8 l0_2 ++ (([.int .u64 a0_3] : List Value) ++ (iv .u8 l0_4 ++ (([.int .u64 a0_5] : List Value) ++ (iv .u8 l0_6 ++ ([.int .u64 a0_7] : List Value)))))))) 28] := st_28; rw [← e_] at h_; exact h_
  refine WL.nil ?_
  refine QW.blk_n ?_
  refine QW.then_n ?_
  refine CW.region ?_
  refine WL.val Wanted.none (Runs.move rfl) ?_
  refine WL.val Wanted.none (Runs.add (z := 4) rfl rfl (by decide)) ?_
  refine WL.val Wanted.none (Runs.assign rfl) ?_
  refine WL.nil ?_
  refine QW.round ?_
  refine CW.seq ?_
  refine CW.seq ?_
  refine CW.region ?_
  refine WL.val Wanted.none (Runs.move rfl) ?_
  refine WL.val Wanted.none (Runs.lss (b := false) rfl rfl (by decide)) ?_
  refine WL.nil ?_
  refine QW.then_n ?_
  refine CW.cf rfl rfl ?_
  refine CW.exit ?_
  refine QW.then_x ?_
  refine QW.then_x ?_
  refine QW.blk_x ?_
  refine QW.then_n ?_
  refine CW.sub [(2, .pointer (some ⟨B_5, 0, none⟩)), (3, .pointer (some ⟨B_9, 0, none⟩))] ⟨rfl, rfl, trivial⟩ ?_
  refine CW.seq ?_
  refine CW.region ?_
  refine WL.val Wanted.none (Runs.load_mid row36 rfl st_28 (i := 0) rfl (part_mid (pre := (([] : List Value))) (mid := (iv .u8 l0_0 ++ (([.int .u64 a0_1] : List Value) ++ (iv .u8 l0_2 ++ (([.int .u64 a0_3] : List Value) ++ (iv .u8 l0_4 ++ (([.int .u64 a0_5] : List Value) ++ (iv .u8 l0_6 ++ ([.int .u64 a0_7] : List Value))))))))) (post := (([] : List Value))) (by first | rfl | simp only [List.append_assoc, List.append_nil, List.nil_append, List.cons_append]) (by first | rfl | simp only [List.length_append, List.length_cons, List.length_nil, iv_length]) (by first | rfl | simp only [List.length_append, List.length_cons, List.length_nil, iv_length, hl0_0, hl0_2, hl0_4, hl0_6])) (by first | rfl | simp only [List.length_append, List.length_cons, List.length_nil, iv_length, hl0_0, hl0_2, hl0_4, hl0_6])) ?_
  refine WL.store_mid (i := 1) (pre := (([] : List Value))) (mid := (iv .u8 (List.replicate 32 (0 : Int)) ++ (([.int .u64 0] : List Value) ++ (iv .u8 (List.replicate 32 (0 : Int)) ++ (([.int .u64 0] : List Value) ++ (iv .u8 (List.replicate 32 (0 : Int)) ++ (([.int .u64 0] : List Value) ++ (iv .u8 (List.replicate 32 (0 : Int)) ++ ([.int .u64 0] : List Value))))))))) (post := (([] : List Value))) (ms := (iv .u8 l0_0 ++ (([.int .u64 a0_1] : List Value) ++ (iv .u8 l0_2 ++ (([.int .u64 a0_3] : List Value) ++ (iv .u8 l0_4 ++ (([.int .u64 a0_5] : List Value) ++ (iv .u8 l0_6 ++ ([.int .u64 a0_7] : List Value))))))))) st_28 rfl row36 (by first | rfl | simp only [List.append_assoc, List.append_nil, List.nil_append, List.cons_append]) (by first | rfl | simp only [List.length_append, List.length_cons, List.length_nil, iv_length]) rfl rfl (by first | rfl | simp only [List.length_append, List.length_cons, List.length_nil, iv_length, hl0_0, hl0_2, hl0_4, hl0_6]) (by first | rfl | simp only [List.length_append, List.length_cons, List.length_nil, iv_length, List.length_replicate]) (by intro u hu; simp only [List.mem_append, List.mem_singleton] at hu; rcases hu with hu | hu | hu | hu | hu | hu | hu | hu <;> first | exact one_iv _ _ u hu | (subst hu; rfl)) ?_
  intro w_29 st_30
  replace st_30 : St w w_29 [.cells B_9 (iv .u8 l0_0 ++ (([.int .u64 a0_1] : List Value) ++ (iv .u8 l0_2 ++ (([.int .u64 a0_3] : List Value) ++ (iv .u8 l0_4 ++ (([.int .u64 a0_5] : List Value) ++ (iv .u8 l0_6 ++ ([.int .u64 a0_7] : List Value)))))))) 36, .cells B_5 (iv .u8 l0_0 ++ (([.int .u64 a0_1] : List Value) ++ (iv .u8 l0_2 ++ (([.int .u64 a0_3] : List Value) ++ (iv .u8 l0_4 ++ (([.int .u64 a0_5] : List Value) ++ (iv .u8 l0_6 ++ ([.int .u64 a0_7] : List Value)))))))) 36, .cells B_1 (iv .u8 l0_0 ++ (([.int .u64 a0_1] : List Value) ++ (iv .u8 l0_2 ++ (([.int .u64 a0_3] : List Value) ++ (iv .u8 l0_4 ++ (([.int .u64 a0_5] : List Value) ++ (iv .u8 l0_6 ++ ([.int .u64 a0_7] : List Value)))))))) 28] := by have e_ : (iv .u8 l0_0 ++ (([.int .u64 a0_1] : List Value) ++ (iv .u8 l0_2 ++ (([.int .u64 a0_3] : List Value) ++ (iv .u8 l0_4 ++ (([.int .u64 a0_5] : List Value) ++ (iv .u8 l0_6 ++ ([.int .u64 a0_7] : List Value)))))))) = (([] : List Value)) ++ ((iv .u8 l0_0 ++ (([.int .u64 a0_1] : List Value) ++ (iv .u8 l0_2 ++ (([.int .u64 a0_3] : List Value) ++ (iv .u8 l0_4 ++ (([.int .u64 a0_5] : List Value) ++ (iv .u8 l0_6 ++ ([.int .u64 a0_7] : List Value)))))))) ++ (([] : List Value))) := (by first | rfl | simp only [List.append_assoc, List.append_nil, List.nil_append, List.cons_append]); have h_ : St w w_29 [.cells B_9 (iv .u8 l0_0 ++ (([.int .u64 a0_1] : List Value) ++ (iv .u8 l0_2 ++ (([.int .u64 a0_3] : List Value) ++ (iv .u8 l0_4 ++ (([.int .u64 a0_5] : List Value) ++ (iv .u8 l0_6 ++ ([.int .u64 a0_7] : List Value)))))))) 36, .cells B_5 ((([] : List Value)) ++ ((iv .u8 l0_0 ++ (([.int .u64 a0_1] : List Value) ++ (iv .u8 l0_2 ++ (([.int .u64 a0_3] : List Value) ++ (iv .u8 l0_4 ++ (([.int .u64 a0_5] : List Value) ++ (iv .u8 l0_6 ++ ([.int .u64 a0_7] : List Value)))))))) ++ (([] : List Value)))) 36, .cells B_1 (iv .u8 l0_0 ++ (([.int .u64 a0_1] : List Value) ++ (iv .u8 l0_2 ++ (([.int .u64 a0_3] : List Value) ++ (iv .u8 l0_4 ++ (([.int .u64 a0_5] : List Value) ++ (iv .u8 l0_6 ++ ([.int .u64 a0_7] : List Value)))))))) 28] := st_30; rw [← e_] at h_; exact h_
  refine WL.nil ?_
  refine QW.then_n ?_
  refine CW.ret ?_
  obtain ⟨rfl, rfl, rfl, rfl, rfl, rfl, rfl, rfl⟩ := H
  exact QW.retr rfl row36 rfl st_30 (i := 1) rfl (by first | rfl | simp only [List.length_append, List.length_cons, List.length_nil, iv_length, hl0_0, hl0_2, hl0_4, hl0_6]) ⟨hl0_0, hl0_2, hl0_4, hl0_6, rfl, st_30.pick [] (by decide)⟩

/-! ### reliquaryref01_Put: function 25 -/
def reliquaryref01_Put.L1 (a1 : Int) (r0 : List Int) : Nat → (List Int) → Int → Int → Prop
  | 0, _, _, _ => False
  | kL1 + 1, l_10, x_13, x_14 => ((x_14 < a1 ∧ (∃ m_24 : List Int, m_24 = l_10 ++ [IntKind.u8.wrap (Int.tmod x_13 256)] ∧ (m_24.length ≤ 1099511627776 ∧ reliquaryref01_Put.L1 a1 r0 kL1 m_24 (IntKind.u64.wrap (Int.tdiv x_13 256)) (IntKind.i64.wrap (x_14 + 1))))) ∨ (¬ (x_14 < a1) ∧ r0 = l_10))
def reliquaryref01_Put.rel (a0 : Int) (a1 : Int) (r0 : List Int) : Prop := ((a1 > 8 ∧ r0 = []) ∨ (¬ (a1 > 8) ∧ (∃ k_ : Nat, reliquaryref01_Put.L1 a1 r0 k_ ([] : List Int) a0 0)))
set_option maxHeartbeats 4000000 in
set_option maxRecDepth 100000 in
theorem reliquaryref01_Put.calls (w : World) (a0 : Int) (a1 : Int)    (r0 : List Int) (H : reliquaryref01_Put.rel a0 a1 r0) :
    Calls Tryd.prog 25 #[.int .u64 a0, .int .i64 a1] w fun e w' => ∃ B0 q0 z0, z0 = r0.length ∧ e = .returned (.slice B0 z0 q0) ∧ St w w' [.sl B0 q0 z0 (iv .u8 r0) 5 1] := by
  refine CW.enter Tryd.func25 rfl (n := 24) rfl [.int .u64 a0, .int .i64 a1] (Nat.le_of_ble_eq_true rfl) ?_
  refine CW.sub [(0, .int .u64 a0), (1, .int .i64 a1)] ⟨rfl, rfl, trivial⟩ ?_
  have st0 : St w w [] := St.refl w
  refine CW.seq ?_
  refine CW.region ?_
  refine WL.val Wanted.none (Runs.assign rfl) ?_
  refine WL.nil ?_
  refine QW.then_n ?_
  refine CW.seq ?_
  refine CW.region ?_
  refine WL.val Wanted.none (Runs.assign rfl) ?_
  refine WL.nil ?_
  refine QW.then_n ?_
  refine CW.seq ?_
  refine CW.seq ?_
  refine CW.region ?_
  refine WL.val Wanted.none (Runs.move rfl) ?_
  refine WL.val Wanted.none (Runs.gtr rfl rfl rfl) ?_
  refine WL.nil ?_
  refine QW.then_n ?_
  rcases H with ⟨c_1, H⟩ | ⟨c_1, H⟩
  · have h_2 : (decide (a1 > 8)) = true := (decide_eq_true c_1)
    refine CW.ct rfl h_2 ?_
    refine CW.seq ?_
    refine CW.region ?_
    refine WL.val Wanted.none (Runs.move rfl) ?_
    refine WL.val Wanted.none (Runs.assign rfl) ?_
    refine WL.nil ?_
    refine QW.then_n ?_
    refine CW.ret ?_
    refine QW.then_r ?_
    have st_4 := st0.nil_sl 5 1
    have st_4 : St w w [.sl none 0 0 (iv .u8 ([] : List Int)) 5 1] := st_4
    obtain rfl := H
    exact QW.ret1 rfl rfl ⟨none, 0, 0, rfl, rfl, st_4.pick [0] (by decide)⟩
  · have h_2 : (decide (a1 > 8)) = false := (decide_eq_false c_1)
    refine CW.cf rfl h_2 ?_
    refine CW.skip ?_
    refine QW.then_n ?_
    refine CW.seq ?_
    refine CW.seq ?_
    refine CW.region ?_
    refine WL.val Wanted.none (Runs.assign rfl) ?_
    refine WL.nil ?_
    refine QW.then_n ?_
    refine CW.block ?_
    have st_6 := st0.nil_sl 5 1
    have st_6 : St w w [.sl none 0 0 (iv .u8 ([] : List Int)) 5 1] := st_6
    obtain ⟨k_7, H⟩ := H
    refine CW.sub [(0, .int .u64 a0), (1, .int .i64 a1), (4, .slice none 0 0), (5, .slice none 0 0), (6, .int .i64 0)] ⟨rfl, rfl, rfl, rfl, rfl, trivial⟩ ?_
    refine CW.loop (fun kL1 l_ w_ => ∃ (A_8 : Option Addr) (c_9 : Nat) (n_11 : Nat) (l_10 : List Int) (x_13 : Int) (x_14 : Int), l_ = [(0, .int .u64 x_13), (1, .int .i64 a1), (4, .slice none 0 0), (5, .slice A_8 n_11 c_9), (6, .int .i64 x_14)] ∧ reliquaryref01_Put.L1 a1 r0 kL1 l_10 x_13 x_14 ∧ (n_11 = l_10.length) ∧ St w w_ [.sl A_8 c_9 n_11 (iv .u8 l_10) 5 1]) (k := k_7) ⟨none, 0, 0, ([] : List Int), a0, 0, rfl, H, rfl, st_6⟩ (fun _ _ h => by obtain ⟨_, _, _, _, _, _, _, h, _⟩ := h; exact h.elim) ?_
    rintro kL1 l_17 w_15 ⟨A_8, c_9, n_11, l_10, x_13, x_14, rfl, H, hn_12, st_16⟩
    refine CW.seq ?_
    refine CW.seq ?_
    refine CW.region ?_
    refine WL.val Wanted.none (Runs.move rfl) ?_
    refine WL.val Wanted.none (Runs.move rfl) ?_
    refine WL.val Wanted.none (Runs.lss rfl rfl rfl) ?_
    refine WL.nil ?_
    refine QW.then_n ?_
    rcases H with ⟨c_18, H⟩ | ⟨c_18, H⟩
    · have h_19 : (decide (x_14 < a1)) = true := (decide_eq_true c_18)
      refine CW.ct rfl h_19 ?_
      refine CW.skip ?_
      refine QW.then_n ?_
      refine CW.seq ?_
      refine CW.block ?_
      refine CW.seq ?_
      refine CW.region ?_
      refine WL.val Wanted.none (Runs.move rfl) ?_
      refine WL.val Wanted.none (Runs.move rfl) ?_
      refine WL.val Wanted.none (Runs.rem rfl rfl (by decide) rfl) ?_
      refine WL.val Wanted.none (Runs.conv Tryd.underlying5 ⟨_, Tryd.underlying24⟩ rfl rfl) ?_
      refine WL.buildSl [.int .u8 (IntKind.u8.wrap (Int.tmod x_13 256))] st_16 Tryd.underlying29 elem5 rfl rfl (by decide) (by decide) (by simp [Value.cells]) ?_
      intro B_20 w_21 st_22
      replace st_22 : St w w_21 [.sl (some ⟨B_20, 0, none⟩) 1 1 (iv .u8 [IntKind.u8.wrap (Int.tmod x_13 256)]) 5 1, .sl A_8 c_9 n_11 (iv .u8 l_10) 5 1] := st_22
      obtain ⟨m_24, e_25, H⟩ := H
      obtain ⟨z_26, H⟩ := H
      obtain ⟨n_29, hn_32⟩ : ∃ n_ : Nat, n_ = m_24.length := ⟨_, rfl⟩
      refine WL.append (i := 1) Wanted.none st_22 rfl Tryd.underlying29 elem5 rfl rfl (st_22.src_sl (k := 0) rfl) (by rw [iv_length]; exact (Eq.refl _).symm) (one_iv .u8 _) (by decide) (N := n_29) (by rw [hn_32, e_25, List.length_append]; exact congr (congrArg HAdd.hAdd (hn_12)) (rfl)) (by rw [hn_32]; exact z_26) ?_
      intro A_27 c_28 w_30 st_31
      have st_31' : St w w_30 [.sl (some ⟨B_20, 0, none⟩) 1 1 (iv .u8 [IntKind.u8.wrap (Int.tmod x_13 256)]) 5 1, .sl A_27 c_28 n_29 (iv .u8 m_24) 5 1] := by rw [e_25, ← iv_append .u8 l_10 [IntKind.u8.wrap (Int.tmod x_13 256)]]; exact st_31
      refine WL.val Wanted.none (Runs.assign rfl) ?_
      refine WL.nil ?_
      refine QW.then_n ?_
      refine CW.region ?_
      refine WL.val Wanted.none (Runs.move rfl) ?_
      refine WL.val Wanted.none (Runs.quo rfl rfl (by decide) rfl) ?_
      refine WL.val Wanted.none (Runs.assign rfl) ?_
      refine WL.nil ?_
      refine QW.blk_n ?_
      refine QW.then_n ?_
      refine CW.region ?_
      refine WL.val Wanted.none (Runs.move rfl) ?_
      refine WL.val Wanted.none (Runs.add rfl rfl rfl) ?_
      refine WL.val Wanted.none (Runs.assign rfl) ?_
      refine WL.nil ?_
      have st_31'' := st_31'.pick [1] (by decide)
      exact QW.at [(0, .int .u64 (IntKind.u64.wrap (Int.tdiv x_13 256))), (1, .int .i64 a1), (4, .slice none 0 0), (5, .slice A_27 n_29 c_28), (6, .int .i64 (IntKind.i64.wrap (x_14 + 1)))] ⟨rfl, rfl, rfl, rfl, rfl, trivial⟩ ⟨A_27, c_28, n_29, m_24, IntKind.u64.wrap (Int.tdiv x_13 256), IntKind.i64.wrap (x_14 + 1), rfl, H, hn_32, st_31''⟩
    · have h_19 : (decide (x_14 < a1)) = false := (decide_eq_false c_18)
      refine CW.cf rfl h_19 ?_
      refine CW.exit ?_
      refine QW.then_x ?_
      refine QW.then_x ?_
      refine QW.blk_x ?_
      refine QW.then_n ?_
      refine CW.sub [(4, .slice none 0 0), (5, .slice A_8 n_11 c_9)] ⟨rfl, rfl, trivial⟩ ?_
      refine CW.seq ?_
      refine CW.region ?_
      refine WL.val Wanted.none (Runs.move rfl) ?_
      refine WL.val Wanted.none (Runs.assign rfl) ?_
      refine WL.nil ?_
      refine QW.then_n ?_
      refine CW.ret ?_
      obtain rfl := H
      exact QW.ret1 rfl rfl ⟨A_8, c_9, n_11, hn_12, rfl, st_16.pick [0] (by decide)⟩

/-! ### reliquaryref10_Put: function 12 -/
def reliquaryref10_Put.L4 (l0_6 : List Int) (a0_7 : Int) (r0 : List Int) : Nat → (List Int) → Int → Int → Bool → Prop
  | 0, _, _, _, _ => False
  | kL4 + 1, l_152, x_155, x_156, b_157 => ((x_155 < 32 ∧ ((0 ≤ x_155 ∧ x_155 < (32 : Int)) ∧ (∃ m_169 : List Int, m_169 = l_152 ++ [gn l0_6 ((x_155).toNat)] ∧ (m_169.length ≤ 1099511627776 ∧ reliquaryref10_Put.L4 l0_6 a0_7 r0 kL4 m_169 (IntKind.i64.wrap (x_155 + 1)) x_155 (decide (x_155 < 32)))))) ∨ (¬ (x_155 < 32) ∧ (∃ (r_182 : List Int), reliquaryref01_Put.rel a0_7 8 r_182 ∧ (∃ m_188 : List Int, m_188 = l_152 ++ r_182 ∧ (m_188.length ≤ 1099511627776 ∧ r0 = m_188)))))
def reliquaryref10_Put.L3 (l0_4 : List Int) (a0_5 : Int) (l0_6 : List Int) (a0_7 : Int) (r0 : List Int) : Nat → (List Int) → Int → Int → Bool → Prop
  | 0, _, _, _, _ => False
  | kL3 + 1, l_104, x_107, x_108, b_109 => ((x_107 < 32 ∧ ((0 ≤ x_107 ∧ x_107 < (32 : Int)) ∧ (∃ m_121 : List Int, m_121 = l_104 ++ [gn l0_4 ((x_107).toNat)] ∧ (m_121.length ≤ 1099511627776 ∧ reliquaryref10_Put.L3 l0_4 a0_5 l0_6 a0_7 r0 kL3 m_121 (IntKind.i64.wrap (x_107 + 1)) x_107 (decide (x_107 < 32)))))) ∨ (¬ (x_107 < 32) ∧ (∃ (r_134 : List Int), reliquaryref01_Put.rel a0_5 8 r_134 ∧ (∃ m_140 : List Int, m_140 = l_104 ++ r_134 ∧ (m_140.length ≤ 1099511627776 ∧ (∃ k_ : Nat, reliquaryref10_Put.L4 l0_6 a0_7 r0 k_ m_140 0 x_107 (decide (x_107 < 32))))))))
def reliquaryref10_Put.L2 (l0_2 : List Int) (a0_3 : Int) (l0_4 : List Int) (a0_5 : Int) (l0_6 : List Int) (a0_7 : Int) (r0 : List Int) : Nat → (List Int) → Int → Int → Bool → Prop
  | 0, _, _, _, _ => False
  | kL2 + 1, l_56, x_59, x_60, b_61 => ((x_59 < 32 ∧ ((0 ≤ x_59 ∧ x_59 < (32 : Int)) ∧ (∃ m_73 : List Int, m_73 = l_56 ++ [gn l0_2 ((x_59).toNat)] ∧ (m_73.length ≤ 1099511627776 ∧ reliquaryref10_Put.L2 l0_2 a0_3 l0_4 a0_5 l0_6 a0_7 r0 kL2 m_73 (IntKind.i64.wrap (x_59 + 1)) x_59 (decide (x_59 < 32)))))) ∨ (¬ (x_59 < 32) ∧ (∃ (r_86 : List Int), reliquaryref01_Put.rel a0_3 8 r_86 ∧ (∃ m_92 : List Int, m_92 = l_56 ++ r_86 ∧ (m_92.length ≤ 1099511627776 ∧ (∃ k_ : Nat, reliquaryref10_Put.L3 l0_4 a0_5 l0_6 a0_7 r0 k_ m_92 0 x_59 (decide (x_59 < 32))))))))
def reliquaryref10_Put.L1 (l0_0 : List Int) (a0_1 : Int) (l0_2 : List Int) (a0_3 : Int) (l0_4 : List Int) (a0_5 : Int) (l0_6 : List Int) (a0_7 : Int) (r0 : List Int) : Nat → (List Int) → Int → Prop
  | 0, _, _ => False
  | kL1 + 1, l_10, x_13 => ((x_13 < 32 ∧ ((0 ≤ x_13 ∧ x_13 < (32 : Int)) ∧ (∃ m_25 : List Int, m_25 = l_10 ++ [gn l0_0 ((x_13).toNat)] ∧ (m_25.length ≤ 1099511627776 ∧ reliquaryref10_Put.L1 l0_0 a0_1 l0_2 a0_3 l0_4 a0_5 l0_6 a0_7 r0 kL1 m_25 (IntKind.i64.wrap (x_13 + 1)))))) ∨ (¬ (x_13 < 32) ∧ (∃ (r_38 : List Int), reliquaryref01_Put.rel a0_1 8 r_38 ∧ (∃ m_44 : List Int, m_44 = l_10 ++ r_38 ∧ (m_44.length ≤ 1099511627776 ∧ (∃ k_ : Nat, reliquaryref10_Put.L2 l0_2 a0_3 l0_4 a0_5 l0_6 a0_7 r0 k_ m_44 0 x_13 (decide (x_13 < 32))))))))
def reliquaryref10_Put.rel (l0_0 : List Int) (a0_1 : Int) (l0_2 : List Int) (a0_3 : Int) (l0_4 : List Int) (a0_5 : Int) (l0_6 : List Int) (a0_7 : Int) (r0 : List Int) : Prop := (∃ k_ : Nat, reliquaryref10_Put.L1 l0_0 a0_1 l0_2 a0_3 l0_4 a0_5 l0_6 a0_7 r0 k_ ([] : List Int) 0)
set_option maxHeartbeats 4000000 in
set_option maxRecDepth 100000 in
theorem reliquaryref10_Put.calls (w : World) (l0_0 : List Int) (a0_1 : Int) (l0_2 : List Int) (a0_3 : Int) (l0_4 : List Int) (a0_5 : Int) (l0_6 : List Int) (a0_7 : Int)   (hl0_0 : l0_0.length = 32) (hl0_2 : l0_2.length = 32) (hl0_4 : l0_4.length = 32) (hl0_6 : l0_6.length = 32) (r0 : List Int) (H : reliquaryref10_Put.rel l0_0 a0_1 l0_2 a0_3 l0_4 a0_5 l0_6 a0_7 r0) :
    Calls Tryd.prog 12 #[.agg (iv .u8 l0_0 ++ (([.int .u64 a0_1] : List Value) ++ (iv .u8 l0_2 ++ (([.int .u64 a0_3] : List Value) ++ (iv .u8 l0_4 ++ (([.int .u64 a0_5] : List Value) ++ (iv .u8 l0_6 ++ ([.int .u64 a0_7] : List Value)))))))).toArray] w fun e w' => ∃ B0 q0 z0, z0 = r0.length ∧ e = .returned (.slice B0 z0 q0) ∧ St w w' [.sl B0 q0 z0 (iv .u8 r0) 5 1] := by
  refine CW.enter Tryd.func12 rfl (n := 31) rfl [.agg (iv .u8 l0_0 ++ (([.int .u64 a0_1] : List Value) ++ (iv .u8 l0_2 ++ (([.int .u64 a0_3] : List Value) ++ (iv .u8 l0_4 ++ (([.int .u64 a0_5] : List Value) ++ (iv .u8 l0_6 ++ ([.int .u64 a0_7] : List Value)))))))).toArray] (Nat.le_of_ble_eq_true rfl) ?_
  refine CW.sub [(0, .agg (iv .u8 l0_0 ++ (([.int .u64 a0_1] : List Value) ++ (iv .u8 l0_2 ++ (([.int .u64 a0_3] : List Value) ++ (iv .u8 l0_4 ++ (([.int .u64 a0_5] : List Value) ++ (iv .u8 l0_6 ++ ([.int .u64 a0_7] : List Value)))))))).toArray)] ⟨rfl, trivial⟩ ?_
  have st0 : St w w [] := St.refl w
  refine CW.seq ?_
  refine CW.region ?_
  refine WL.box st0 rfl rfl ?_
  intro B_1 w_2 st_3
  replace st_3 : St w w_2 [.cells B_1 (iv .u8 l0_0 ++ (([.int .u64 a0_1] : List Value) ++ (iv .u8 l0_2 ++ (([.int .u64 a0_3] : List Value) ++ (iv .u8 l0_4 ++ (([.int .u64 a0_5] : List Value) ++ (iv .u8 l0_6 ++ ([.int .u64 a0_7] : List Value)))))))) 36] := st_3
  refine WL.val Wanted.none (Runs.assign rfl) ?_
  refine WL.nil ?_
  refine QW.then_n ?_
  refine CW.seq ?_
  refine CW.region ?_
  refine WL.val Wanted.none (Runs.assign rfl) ?_
  refine WL.nil ?_
  refine QW.then_n ?_
  refine CW.seq ?_
  refine CW.seq ?_
  refine CW.region ?_
  refine WL.val Wanted.none (Runs.assign rfl) ?_
  refine WL.nil ?_
  refine QW.then_n ?_
  refine CW.block ?_
  refine CW.rounds 39 ?_
  refine CW.seq ?_
  refine CW.seq ?_
  refine CW.region ?_
  refine WL.val Wanted.none (Runs.move rfl) ?_
  refine WL.val Wanted.none (Runs.lss (b := true) rfl rfl (by decide)) ?_
  refine WL.nil ?_
  refine QW.then_n ?_
  refine CW.ct rfl rfl ?_
  refine CW.skip ?_
  refine QW.then_n ?_
  refine CW.seq ?_
  refine CW.block ?_
  refine CW.seq ?_
  refine CW.seq ?_
  refine CW.region ?_
  refine WL.val Wanted.none (Runs.assign rfl) ?_
  refine WL.nil ?_
  refine QW.then_n ?_
  refine CW.block ?_
  have st_6 := st_3.nil_sl 5 1
  have st_6 : St w w_2 [.sl none 0 0 (iv .u8 ([] : List Int)) 5 1, .cells B_1 (iv .u8 l0_0 ++ (([.int .u64 a0_1] : List Value) ++ (iv .u8 l0_2 ++ (([.int .u64 a0_3] : List Value) ++ (iv .u8 l0_4 ++ (([.int .u64 a0_5] : List Value) ++ (iv .u8 l0_6 ++ ([.int .u64 a0_7] : List Value)))))))) 36] := st_6
  obtain ⟨k_7, H⟩ := H
  refine CW.sub [(1, .pointer (some ⟨B_1, 0, none⟩)), (2, .slice none 0 0), (3, .slice none 0 0), (4, .int .i64 0), (6, .int .i64 0), (7, .bool true), (5, .int .i64 0)] ⟨rfl, rfl, rfl, rfl, rfl, rfl, rfl, trivial⟩ ?_
  refine CW.loop (fun kL1 l_ w_ => ∃ (A_8 : Option Addr) (c_9 : Nat) (n_11 : Nat) (l_10 : List Int) (x_13 : Int), l_ = [(1, .pointer (some ⟨B_1, 0, none⟩)), (2, .slice none 0 0), (3, .slice A_8 n_11 c_9), (4, .int .i64 0), (6, .int .i64 0), (7, .bool true), (5, .int .i64 x_13)] ∧ reliquaryref10_Put.L1 l0_0 a0_1 l0_2 a0_3 l0_4 a0_5 l0_6 a0_7 r0 kL1 l_10 x_13 ∧ (n_11 = l_10.length) ∧ St w w_ [.sl A_8 c_9 n_11 (iv .u8 l_10) 5 1, .cells B_1 (iv .u8 l0_0 ++ (([.int .u64 a0_1] : List Value) ++ (iv .u8 l0_2 ++ (([.int .u64 a0_3] : List Value) ++ (iv .u8 l0_4 ++ (([.int .u64 a0_5] : List Value) ++ (iv .u8 l0_6 ++ ([.int .u64 a0_7] : List Value)))))))) 36]) (k := k_7) ⟨none, 0, 0, ([] : List Int), 0, rfl, H, rfl, st_6⟩ (fun _ _ h => by obtain ⟨_, _, _, _, _, _, h, _⟩ := h; exact h.elim) ?_
  rintro kL1 l_16 w_14 ⟨A_8, c_9, n_11, l_10, x_13, rfl, H, hn_12, st_15⟩
  refine CW.seq ?_
  refine CW.seq ?_
  refine CW.region ?_
  refine WL.val Wanted.none (Runs.move rfl) ?_
  refine WL.val Wanted.none (Runs.lss rfl rfl rfl) ?_
  refine WL.nil ?_
  refine QW.then_n ?_
  rcases H with ⟨c_17, H⟩ | ⟨c_17, H⟩
  · have h_18 : (decide (x_13 < 32)) = true := (decide_eq_true c_17)
    refine CW.ct rfl h_18 ?_
    refine CW.skip ?_
    refine QW.then_n ?_
    refine CW.seq ?_
    refine CW.block ?_
    refine CW.region ?_
    refine WL.val Wanted.none (Runs.move rfl) ?_
    refine WL.val Wanted.none (Runs.move rfl) ?_
    refine WL.val Wanted.none (Runs.move rfl) ?_
    refine WL.val Wanted.none (Runs.indexAddr_row (p := 0) Tryd.underlying36 siz35 rfl rfl (by decide) (by decide) rfl) ?_
    refine WL.val Wanted.none (Runs.fieldAddr (off := 0) (p := 0) fld35_0 rfl rfl rfl) ?_
    obtain ⟨⟨p_19, q_20⟩, H⟩ := H
    refine WL.val Wanted.none (Runs.indexAddr_mid arr23 rfl rfl p_19 q_20 (j := ((x_13).toNat)) (by first | rfl | omega)) ?_
    refine WL.val Wanted.none (Runs.load nagg5 rfl (st_15.cell (k := 1) rfl (mid_cell (k := .u8) (pre := (([] : List Value))) (xs := l0_0) (post := (([.int .u64 a0_1] : List Value) ++ (iv .u8 l0_2 ++ (([.int .u64 a0_3] : List Value) ++ (iv .u8 l0_4 ++ (([.int .u64 a0_5] : List Value) ++ (iv .u8 l0_6 ++ ([.int .u64 a0_7] : List Value)))))))) (by first | rfl | simp only [List.append_assoc, List.append_nil, List.nil_append, List.cons_append]) (by first | rfl | simp only [List.length_append, List.length_cons, List.length_nil, iv_length]) (by have := hl0_0; omega)))) ?_
    refine WL.buildSl [.int .u8 (gn l0_0 ((x_13).toNat))] st_15 Tryd.underlying29 elem5 rfl rfl (by decide) (by decide) (by simp [Value.cells]) ?_
    intro B_21 w_22 st_23
    replace st_23 : St w w_22 [.sl (some ⟨B_21, 0, none⟩) 1 1 (iv .u8 [gn l0_0 ((x_13).toNat)]) 5 1, .sl A_8 c_9 n_11 (iv .u8 l_10) 5 1, .cells B_1 (iv .u8 l0_0 ++ (([.int .u64 a0_1] : List Value) ++ (iv .u8 l0_2 ++ (([.int .u64 a0_3] : List Value) ++ (iv .u8 l0_4 ++ (([.int .u64 a0_5] : List Value) ++ (iv .u8 l0_6 ++ ([.int .u64 a0_7] : List Value)))))))) 36] := st_23
    obtain ⟨m_25, e_26, H⟩ := H
    obtain ⟨z_27, H⟩ := H
    obtain ⟨n_30, hn_33⟩ : ∃ n_ : Nat, n_ = m_25.length := ⟨_, rfl⟩
    refine WL.append (i := 1) Wanted.none st_23 rfl Tryd.underlying29 elem5 rfl rfl (st_23.src_sl (k := 0) rfl) (by rw [iv_length]; exact (Eq.refl _).symm) (one_iv .u8 _) (by decide) (N := n_30) (by rw [hn_33, e_26, List.length_append]; exact congr (congrArg HAdd.hAdd (hn_12)) (rfl)) (by rw [hn_33]; exact z_27) ?_
    intro A_28 c_29 w_31 st_32
    have st_32' : St w w_31 [.sl (some ⟨B_21, 0, none⟩) 1 1 (iv .u8 [gn l0_0 ((x_13).toNat)]) 5 1, .sl A_28 c_29 n_30 (iv .u8 m_25) 5 1, .cells B_1 (iv .u8 l0_0 ++ (([.int .u64 a0_1] : List Value) ++ (iv .u8 l0_2 ++ (([.int .u64 a0_3] : List Value) ++ (iv .u8 l0_4 ++ (([.int .u64 a0_5] : List Value) ++ (iv .u8 l0_6 ++ ([.int .u64 a0_7] : List Value)))))))) 36] := by rw [e_26, ← iv_append .u8 l_10 [gn l0_0 ((x_13).toNat)]]; exact st_32
    refine WL.val Wanted.none (Runs.assign rfl) ?_
    refine WL.nil ?_
    refine QW.blk_n ?_
    refine QW.then_n ?_
    refine CW.region ?_
    refine WL.val Wanted.none (Runs.move rfl) ?_
    refine WL.val Wanted.none (Runs.add rfl rfl rfl) ?_
    refine WL.val Wanted.none (Runs.assign rfl) ?_
    refine WL.nil ?_
    have st_32'' := st_32'.pick [1, 2] (by decide)
    exact QW.at [(1, .pointer (some ⟨B_1, 0, none⟩)), (2, .slice none 0 0), (3, .slice A_28 n_30 c_29), (4, .int .i64 0), (6, .int .i64 0), (7, .bool true), (5, .int .i64 (IntKind.i64.wrap (x_13 + 1)))] ⟨rfl, rfl, rfl, rfl, rfl, rfl, rfl, trivial⟩ ⟨A_28, c_29, n_30, m_25, IntKind.i64.wrap (x_13 + 1), rfl, H, hn_33, st_32''⟩
  · have h_18 : (decide (x_13 < 32)) = false := (decide_eq_false c_17)
    refine CW.cf rfl h_18 ?_
    refine CW.exit ?_
    refine QW.then_x ?_
    refine QW.then_x ?_
    refine QW.blk_x ?_
    refine QW.then_n ?_
    refine CW.region ?_
    refine WL.val Wanted.none (Runs.move rfl) ?_
    refine WL.val Wanted.none (Runs.move rfl) ?_
    refine WL.val Wanted.none (Runs.indexAddr_row (p := 0) Tryd.underlying36 siz35 rfl rfl (by decide) (by decide) rfl) ?_
    refine WL.val Wanted.none (Runs.fieldAddr (off := 32) (p := 32) fld35_1 rfl rfl rfl) ?_
    refine WL.val Wanted.none (Runs.load nagg24 rfl (st_15.cell (k := 1) rfl (part_one (u := .int .u64 a0_1) (pre := (iv .u8 l0_0)) (post := (iv .u8 l0_2 ++ (([.int .u64 a0_3] : List Value) ++ (iv .u8 l0_4 ++ (([.int .u64 a0_5] : List Value) ++ (iv .u8 l0_6 ++ ([.int .u64 a0_7] : List Value))))))) (by first | rfl | simp only [List.append_assoc, List.append_nil, List.nil_append, List.cons_append]) (by first | rfl | simp only [List.length_append, List.length_cons, List.length_nil, iv_length, hl0_0])))) ?_
    obtain ⟨r_38, hr_34, H⟩ := H
    refine WL.call Wanted.none ent25 rfl (reliquaryref01_Put.calls w_14 a0_1 8 r_38 hr_34) ?_
    rintro _ w_35 ⟨A_39, c_40, n_41, hn_42, rfl, sc_37⟩
    have st_36 : St w w_35 [.sl A_39 c_40 n_41 (iv .u8 r_38) 5 1, .sl A_8 c_9 n_11 (iv .u8 l_10) 5 1, .cells B_1 (iv .u8 l0_0 ++ (([.int .u64 a0_1] : List Value) ++ (iv .u8 l0_2 ++ (([.int .u64 a0_3] : List Value) ++ (iv .u8 l0_4 ++ (([.int .u64 a0_5] : List Value) ++ (iv .u8 l0_6 ++ ([.int .u64 a0_7] : List Value)))))))) 36] := st_15.call sc_37
    refine ⟨_, rfl, ?_⟩
    obtain ⟨m_44, e_45, H⟩ := H
    obtain ⟨z_46, H⟩ := H
    obtain ⟨n_49, hn_52⟩ : ∃ n_ : Nat, n_ = m_44.length := ⟨_, rfl⟩
    refine WL.append (i := 1) Wanted.none st_36 rfl Tryd.underlying29 elem5 rfl rfl (st_36.src_sl (k := 0) rfl) (by rw [iv_length]; exact (hn_42).symm) (one_iv .u8 _) (by decide) (N := n_49) (by rw [hn_52, e_45, List.length_append]; exact congr (congrArg HAdd.hAdd (hn_12)) (hn_42)) (by rw [hn_52]; exact z_46) ?_
    intro A_47 c_48 w_50 st_51
    have st_51' : St w w_50 [.sl A_39 c_40 n_41 (iv .u8 r_38) 5 1, .sl A_47 c_48 n_49 (iv .u8 m_44) 5 1, .cells B_1 (iv .u8 l0_0 ++ (([.int .u64 a0_1] : List Value) ++ (iv .u8 l0_2 ++ (([.int .u64 a0_3] : List Value) ++ (iv .u8 l0_4 ++ (([.int .u64 a0_5] : List Value) ++ (iv .u8 l0_6 ++ ([.int .u64 a0_7] : List Value)))))))) 36] := by rw [e_45, ← iv_append .u8 l_10 r_38]; exact st_51
    refine WL.val Wanted.none (Runs.assign rfl) ?_
    refine WL.nil ?_
    refine QW.blk_n ?_
    refine QW.then_n ?_
    refine CW.region ?_
    refine WL.val Wanted.none (Runs.move rfl) ?_
    refine WL.val Wanted.none (Runs.add (z := 1) rfl rfl (by decide)) ?_
    refine WL.val Wanted.none (Runs.assign rfl) ?_
    refine WL.nil ?_
    refine QW.round ?_
    refine CW.seq ?_
    refine CW.seq ?_
    refine CW.region ?_
    refine WL.val Wanted.none (Runs.move rfl) ?_
    refine WL.val Wanted.none (Runs.lss (b := true) rfl rfl (by decide)) ?_
    refine WL.nil ?_
    refine QW.then_n ?_
    refine CW.ct rfl rfl ?_
    refine CW.skip ?_
    refine QW.then_n ?_
    refine CW.seq ?_
    refine CW.block ?_
    refine CW.seq ?_
    refine CW.seq ?_
    refine CW.region ?_
    refine WL.val Wanted.none (Runs.assign rfl) ?_
    refine WL.nil ?_
    refine QW.then_n ?_
    refine CW.block ?_
    obtain ⟨k_53, H⟩ := H
    refine CW.sub [(1, .pointer (some ⟨B_1, 0, none⟩)), (2, .slice none 0 0), (3, .slice A_47 n_49 c_48), (4, .int .i64 1), (6, .int .i64 1), (7, .bool true), (5, .int .i64 0), (10, .int .i64 x_13), (11, .bool (decide (x_13 < 32))), (23, .slice A_8 n_11 c_9), (24, .int .i64 0), (25, .pointer (some ⟨B_1, 0, none⟩)), (26, .pointer (some ⟨B_1, 32, none⟩)), (27, .int .u64 a0_1), (28, .slice A_39 n_41 c_40), (29, .slice A_47 n_49 c_48), (8, .int .i64 0), (9, .int .i64 1)] ⟨rfl, rfl, rfl, rfl, rfl, rfl, rfl, rfl, rfl, rfl, rfl, rfl, rfl, rfl, rfl, rfl, rfl, rfl, trivial⟩ ?_
    refine CW.loop (fun kL2 l_ w_ => ∃ (A_54 : Option Addr) (c_55 : Nat) (n_57 : Nat) (l_56 : List Int) (x_59 : Int) (x_60 : Int) (b_61 : Bool), l_ = [(1, .pointer (some ⟨B_1, 0, none⟩)), (2, .slice none 0 0), (3, .slice A_54 n_57 c_55), (4, .int .i64 1), (6, .int .i64 1), (7, .bool true), (5, .int .i64 x_59), (10, .int .i64 x_60), (11, .bool b_61), (23, .slice A_8 n_11 c_9), (24, .int .i64 0), (25, .pointer (some ⟨B_1, 0, none⟩)), (26, .pointer (some ⟨B_1, 32, none⟩)), (27, .int .u64 a0_1), (28, .slice A_39 n_41 c_40), (29, .slice A_47 n_49 c_48), (8, .int .i64 0), (9, .int .i64 1)] ∧ reliquaryref10_Put.L2 l0_2 a0_3 l0_4 a0_5 l0_6 a0_7 r0 kL2 l_56 x_59 x_60 b_61 ∧ (n_57 = l_56.length) ∧ St w w_ [.sl A_39 c_40 n_41 (iv .u8 r_38) 5 1, .sl A_54 c_55 n_57 (iv .u8 l_56) 5 1, .cells B_1 (iv .u8 l0_0 ++ (([.int .u64 a0_1] : List Value) ++ (iv .u8 l0_2 ++ (([.int .u64 a0_3] : List Value) ++ (iv .u8 l0_4 ++ (([.int .u64 a0_5] : List Value) ++ (iv .u8 l0_6 ++ ([.int .u64 a0_7] : List Value)))))))) 36]) (k := k_53) ⟨A_47, c_48, n_49, m_44, 0, x_13, decide (x_13 < 32), rfl, H, hn_52, st_51'⟩ (fun _ _ h => by obtain ⟨_, _, _, _, _, _, _, _, h, _⟩ := h; exact h.elim) ?_
    rintro kL2 l_64 w_62 ⟨A_54, c_55, n_57, l_56, x_59, x_60, b_61, rfl, H, hn_58, st_63⟩
    refine CW.seq ?_
    refine CW.seq ?_
    refine CW.region ?_
    refine WL.val Wanted.none (Runs.move rfl) ?_
    refine WL.val Wanted.none (Runs.lss rfl rfl rfl) ?_
    refine WL.nil ?_
    refine QW.then_n ?_
    rcases H with ⟨c_65, H⟩ | ⟨c_65, H⟩
    · have h_66 : (decide (x_59 < 32)) = true := (decide_eq_true c_65)
      refine CW.ct rfl h_66 ?_
      refine CW.skip ?_
      refine QW.then_n ?_
      refine CW.seq ?_
      refine CW.block ?_
      refine CW.region ?_
      refine WL.val Wanted.none (Runs.move rfl) ?_
      refine WL.val Wanted.none (Runs.move rfl) ?_
      refine WL.val Wanted.none (Runs.move rfl) ?_
      refine WL.val Wanted.none (Runs.indexAddr_row (p := 33) Tryd.underlying36 siz35 rfl rfl (by decide) (by decide) rfl) ?_
      refine WL.val Wanted.none (Runs.fieldAddr (off := 0) (p := 33) fld35_0 rfl rfl rfl) ?_
      obtain ⟨⟨p_67, q_68⟩, H⟩ := H
      refine WL.val Wanted.none (Runs.indexAddr_mid arr23 rfl rfl p_67 q_68 (j := ((x_59).toNat)) (by first | rfl | omega)) ?_
      refine WL.val Wanted.none (Runs.load nagg5 rfl (st_63.cell (k := 2) rfl (mid_cell (k := .u8) (pre := (iv .u8 l0_0 ++ ([.int .u64 a0_1] : List Value))) (xs := l0_2) (post := (([.int .u64 a0_3] : List Value) ++ (iv .u8 l0_4 ++ (([.int .u64 a0_5] : List Value) ++ (iv .u8 l0_6 ++ ([.int .u64 a0_7] : List Value)))))) (by first | rfl | simp only [List.append_assoc, List.append_nil, List.nil_append, List.cons_append]) (by first | rfl | simp only [List.length_append, List.length_cons, List.length_nil, iv_length, hl0_0]) (by have := hl0_2; omega)))) ?_
      refine WL.buildSl [.int .u8 (gn l0_2 ((x_59).toNat))] st_63 Tryd.underlying29 elem5 rfl rfl (by decide) (by decide) (by simp [Value.cells]) ?_
      intro B_69 w_70 st_71
      replace st_71 : St w w_70 [.sl (some ⟨B_69, 0, none⟩) 1 1 (iv .u8 [gn l0_2 ((x_59).toNat)]) 5 1, .sl A_39 c_40 n_41 (iv .u8 r_38) 5 1, .sl A_54 c_55 n_57 (iv .u8 l_56) 5 1, .cells B_1 (iv .u8 l0_0 ++ (([.int .u64 a0_1] : List Value) ++ (iv .u8 l0_2 ++ (([.int .u64 a0_3] : List Value) ++ (iv .u8 l0_4 ++ (([.int .u64 a0_5] : List Value) ++ (iv .u8 l0_6 ++ ([.int .u64 a0_7] : List Value)))))))) 36] := st_71
      obtain ⟨m_73, e_74, H⟩ := H
      obtain ⟨z_75, H⟩ := H
      obtain ⟨n_78, hn_81⟩ : ∃ n_ : Nat, n_ = m_73.length := ⟨_, rfl⟩
      refine WL.append (i := 2) Wanted.none st_71 rfl Tryd.underlying29 elem5 rfl rfl (st_71.src_sl (k := 0) rfl) (by rw [iv_length]; exact (Eq.refl _).symm) (one_iv .u8 _) (by decide) (N := n_78) (by rw [hn_81, e_74, List.length_append]; exact congr (congrArg HAdd.hAdd (hn_58)) (rfl)) (by rw [hn_81]; exact z_75) ?_
      intro A_76 c_77 w_79 st_80
      have st_80' : St w w_79 [.sl (some ⟨B_69, 0, none⟩) 1 1 (iv .u8 [gn l0_2 ((x_59).toNat)]) 5 1, .sl A_39 c_40 n_41 (iv .u8 r_38) 5 1, .sl A_76 c_77 n_78 (iv .u8 m_73) 5 1, .cells B_1 (iv .u8 l0_0 ++ (([.int .u64 a0_1] : List Value) ++ (iv .u8 l0_2 ++ (([.int .u64 a0_3] : List Value) ++ (iv .u8 l0_4 ++ (([.int .u64 a0_5] : List Value) ++ (iv .u8 l0_6 ++ ([.int .u64 a0_7] : List Value)))))))) 36] := by rw [e_74, ← iv_append .u8 l_56 [gn l0_2 ((x_59).toNat)]]; exact st_80
      refine WL.val Wanted.none (Runs.assign rfl) ?_
      refine WL.nil ?_
      refine QW.blk_n ?_
      refine QW.then_n ?_
      refine CW.region ?_
      refine WL.val Wanted.none (Runs.move rfl) ?_
      refine WL.val Wanted.none (Runs.add rfl rfl rfl) ?_
      refine WL.val Wanted.none (Runs.assign rfl) ?_
      refine WL.nil ?_
      have st_80'' := st_80'.pick [1, 2, 3] (by decide)
      exact QW.at [(1, .pointer (some ⟨B_1, 0, none⟩)), (2, .slice none 0 0), (3, .slice A_76 n_78 c_77), (4, .int .i64 1), (6, .int .i64 1), (7, .bool true), (5, .int .i64 (IntKind.i64.wrap (x_59 + 1))), (10, .int .i64 x_59), (11, .bool (decide (x_59 < 32))), (23, .slice A_8 n_11 c_9), (24, .int .i64 0), (25, .pointer (some ⟨B_1, 0, none⟩)), (26, .pointer (some ⟨B_1, 32, none⟩)), (27, .int .u64 a0_1), (28, .slice A_39 n_41 c_40), (29, .slice A_47 n_49 c_48), (8, .int .i64 0), (9, .int .i64 1)] ⟨rfl, rfl, rfl, rfl, rfl, rfl, rfl, rfl, rfl, rfl, rfl, rfl, rfl, rfl, rfl, rfl, rfl, rfl, trivial⟩ ⟨A_76, c_77, n_78, m_73, IntKind.i64.wrap (x_59 + 1), x_59, decide (x_59 < 32), rfl, H, hn_81, st_80''⟩
    · have h_66 : (decide (x_59 < 32)) = false := (decide_eq_false c_65)
      refine CW.cf rfl h_66 ?_
      refine CW.exit ?_
      refine QW.then_x ?_
      refine QW.then_x ?_
      refine QW.blk_x ?_
      refine QW.then_n ?_
      refine CW.region ?_
      refine WL.val Wanted.none (Runs.move rfl) ?_
      refine WL.val Wanted.none (Runs.move rfl) ?_
      refine WL.val Wanted.none (Runs.indexAddr_row (p := 33) Tryd.underlying36 siz35 rfl rfl (by decide) (by decide) rfl) ?_
      refine WL.val Wanted.none (Runs.fieldAddr (off := 32) (p := 65) fld35_1 rfl rfl rfl) ?_
      refine WL.val Wanted.none (Runs.load nagg24 rfl (st_63.cell (k := 2) rfl (part_one (u := .int .u64 a0_3) (pre := (iv .u8 l0_0 ++ (([.int .u64 a0_1] : List Value) ++ iv .u8 l0_2))) (post := (iv .u8 l0_4 ++ (([.int .u64 a0_5] : List Value) ++ (iv .u8 l0_6 ++ ([.int .u64 a0_7] : List Value))))) (by first | rfl | simp only [List.append_assoc, List.append_nil, List.nil_append, List.cons_append]) (by first | rfl | simp only [List.length_append, List.length_cons, List.length_nil, iv_length, hl0_0, hl0_2])))) ?_
      obtain ⟨r_86, hr_82, H⟩ := H
      refine WL.call Wanted.none ent25 rfl (reliquaryref01_Put.calls w_62 a0_3 8 r_86 hr_82) ?_
      rintro _ w_83 ⟨A_87, c_88, n_89, hn_90, rfl, sc_85⟩
      have st_84 : St w w_83 [.sl A_87 c_88 n_89 (iv .u8 r_86) 5 1, .sl A_39 c_40 n_41 (iv .u8 r_38) 5 1, .sl A_54 c_55 n_57 (iv .u8 l_56) 5 1, .cells B_1 (iv .u8 l0_0 ++ (([.int .u64 a0_1] : List Value) ++ (iv .u8 l0_2 ++ (([.int .u64 a0_3] : List Value) ++ (iv .u8 l0_4 ++ (([.int .u64 a0_5] : List Value) ++ (iv .u8 l0_6 ++ ([.int .u64 a0_7] : List Value)))))))) 36] := st_63.call sc_85
      refine ⟨_, rfl, ?_⟩
      obtain ⟨m_92, e_93, H⟩ := H
      obtain ⟨z_94, H⟩ := H
      obtain ⟨n_97, hn_100⟩ : ∃ n_ : Nat, n_ = m_92.length := ⟨_, rfl⟩
      refine WL.append (i := 2) Wanted.none st_84 rfl Tryd.underlying29 elem5 rfl rfl (st_84.src_sl (k := 0) rfl) (by rw [iv_length]; exact (hn_90).symm) (one_iv .u8 _) (by decide) (N := n_97) (by rw [hn_100, e_93, List.length_append]; exact congr (congrArg HAdd.hAdd (hn_58)) (hn_90)) (by rw [hn_100]; exact z_94) ?_
      intro A_95 c_96 w_98 st_99
      have st_99' : St w w_98 [.sl A_87 c_88 n_89 (iv .u8 r_86) 5 1, .sl A_39 c_40 n_41 (iv .u8 r_38) 5 1, .sl A_95 c_96 n_97 (iv .u8 m_92) 5 1, .cells B_1 (iv .u8 l0_0 ++ (([.int .u64 a0_1] : List Value) ++ (iv .u8 l0_2 ++ (([.int .u64 a0_3] : List Value) ++ (iv .u8 l0_4 ++ (([.int .u64 a0_5] : List Value) ++ (iv .u8 l0_6 ++ ([.int .u64 a0_7] : List Value)))))))) 36] := by rw [e_93, ← iv_append .u8 l_56 r_86]; exact st_99
      refine WL.val Wanted.none (Runs.assign rfl) ?_
      refine WL.nil ?_
      refine QW.blk_n ?_
      refine QW.then_n ?_
      refine CW.region ?_
      refine WL.val Wanted.none (Runs.move rfl) ?_
      refine WL.val Wanted.none (Runs.add (z := 2) rfl rfl (by decide)) ?_
      refine WL.val Wanted.none (Runs.assign rfl) ?_
      refine WL.nil ?_
      refine QW.round ?_
      refine CW.seq ?_
      refine CW.seq ?_
      refine CW.region ?_
      refine WL.val Wanted.none (Runs.move rfl) ?_
      refine WL.val Wanted.none (Runs.lss (b := true) rfl rfl (by decide)) ?_
      refine WL.nil ?_
      refine QW.then_n ?_
      refine CW.ct rfl rfl ?_
      refine CW.skip ?_
      refine QW.then_n ?_
      refine CW.seq ?_
      refine CW.block ?_
      refine CW.seq ?_
      refine CW.seq ?_
      refine CW.region ?_
      refine WL.val Wanted.none (Runs.assign rfl) ?_
      refine WL.nil ?_
      refine QW.then_n ?_
      refine CW.block ?_
      obtain ⟨k_101, H⟩ := H
      refine CW.sub [(1, .pointer (some ⟨B_1, 0, none⟩)), (2, .slice none 0 0), (3, .slice A_95 n_97 c_96), (4, .int .i64 2), (6, .int .i64 2), (7, .bool true), (5, .int .i64 0), (10, .int .i64 x_59), (11, .bool (decide (x_59 < 32))), (23, .slice A_54 n_57 c_55), (24, .int .i64 1), (25, .pointer (some ⟨B_1, 33, none⟩)), (26, .pointer (some ⟨B_1, 65, none⟩)), (27, .int .u64 a0_3), (28, .slice A_87 n_89 c_88), (29, .slice A_95 n_97 c_96), (8, .int .i64 1), (9, .int .i64 2)] ⟨rfl, rfl, rfl, rfl, rfl, rfl, rfl, rfl, rfl, rfl, rfl, rfl, rfl, rfl, rfl, rfl, rfl, rfl, trivial⟩ ?_
      refine CW.loop (fun kL3 l_ w_ => ∃ (A_102 : Option Addr) (c_103 : Nat) (n_105 : Nat) (l_104 : List Int) (x_107 : Int) (x_108 : Int) (b_109 : Bool), l_ = [(1, .pointer (some ⟨B_1, 0, none⟩)), (2, .slice none 0 0), (3, .slice A_102 n_105 c_103), (4, .int .i64 2), (6, .int .i64 2), (7, .bool true), (5, .int .i64 x_107), (10, .int .i64 x_108), (11, .bool b_109), (23, .slice A_54 n_57 c_55), (24, .int .i64 1), (25, .pointer (some ⟨B_1, 33, none⟩)), (26, .pointer (some ⟨B_1, 65, none⟩)), (27, .int .u64 a0_3), (28, .slice A_87 n_89 c_88), (29, .slice A_95 n_97 c_96), (8, .int .i64 1), (9, .int .i64 2)] ∧ reliquaryref10_Put.L3 l0_4 a0_5 l0_6 a0_7 r0 kL3 l_104 x_107 x_108 b_109 ∧ (n_105 = l_104.length) ∧ St w w_ [.sl A_87 c_88 n_89 (iv .u8 r_86) 5 1, .sl A_39 c_40 n_41 (iv .u8 r_38) 5 1, .sl A_102 c_103 n_105 (iv .u8 l_104) 5 1, .cells B_1 (iv .u8 l0_0 ++ (([.int .u64 a0_1] : List Value) ++ (iv .u8 l0_2 ++ (([.int .u64 a0_3] : List Value) ++ (iv .u8 l0_4 ++ (([.int .u64 a0_5] : List Value) ++ (iv .u8 l0_6 ++ ([.int .u64 a0_7] : List Value)))))))) 36]) (k := k_101) ⟨A_95, c_96, n_97, m_92, 0, x_59, decide (x_59 < 32), rfl, H, hn_100, st_99'⟩ (fun _ _ h => by obtain ⟨_, _, _, _, _, _, _, _, h, _⟩ := h; exact h.elim) ?_
      rintro kL3 l_112 w_110 ⟨A_102, c_103, n_105, l_104, x_107, x_108, b_109, rfl, H, hn_106, st_111⟩
      refine CW.seq ?_
      refine CW.seq ?_
      refine CW.region ?_
      refine WL.val Wanted.none (Runs.move rfl) ?_
      refine WL.val Wanted.none (Runs.lss rfl rfl rfl) ?_
      refine WL.nil ?_
      refine QW.then_n ?_
      rcases H with ⟨c_113, H⟩ | ⟨c_113, H⟩
      · have h_114 : (decide (x_107 < 32)) = true := (decide_eq_true c_113)
        refine CW.ct rfl h_114 ?_
        refine CW.skip ?_
        refine QW.then_n ?_
        refine CW.seq ?_
        refine CW.block ?_
        refine CW.region ?_
        refine WL.val Wanted.none (Runs.move rfl) ?_
        refine WL.val Wanted.none (Runs.move rfl) ?_
        refine WL.val Wanted.none (Runs.move rfl) ?_
        refine WL.val Wanted.none (Runs.indexAddr_row (p := 66) Tryd.underlying36 siz35 rfl rfl (by decide) (by decide) rfl) ?_
        refine WL.val Wanted.none (Runs.fieldAddr (off := 0) (p := 66) fld35_0 rfl rfl rfl) ?_
        obtain ⟨⟨p_115, q_116⟩, H⟩ := H
        refine WL.val Wanted.none (Runs.indexAddr_mid arr23 rfl rfl p_115 q_116 (j := ((x_107).toNat)) (by first | rfl | omega)) ?_
        refine WL.val Wanted.none (Runs.load nagg5 rfl (st_111.cell (k := 3) rfl (mid_cell (k := .u8) (pre := (iv .u8 l0_0 ++ (([.int .u64 a0_1] : List Value) ++ (iv .u8 l0_2 ++ ([.int .u64 a0_3] : List Value))))) (xs := l0_4) (post := (([.int .u64 a0_5] : List Value) ++ (iv .u8 l0_6 ++ ([.int .u64 a0_7] : List Value)))) (by first | rfl | simp only [List.append_assoc, List.append_nil, List.nil_append, List.cons_append]) (by first | rfl | simp only [List.length_append, List.length_cons, List.length_nil, iv_length, hl0_0, hl0_2]) (by have := hl0_4; omega)))) ?_
        refine WL.buildSl [.int .u8 (gn l0_4 ((x_107).toNat))] st_111 Tryd.underlying29 elem5 rfl rfl (by decide) (by decide) (by simp [Value.cells]) ?_
        intro B_117 w_118 st_119
        replace st_119 : St w w_118 [.sl (some ⟨B_117, 0, none⟩) 1 1 (iv .u8 [gn l0_4 ((x_107).toNat)]) 5 1, .sl A_87 c_88 n_89 (iv .u8 r_86) 5 1, .sl A_39 c_40 n_41 (iv .u8 r_38) 5 1, .sl A_102 c_103 n_105 (iv .u8 l_104) 5 1, .cells B_1 (iv .u8 l0_0 ++ (([.int .u64 a0_1] : List Value) ++ (iv .u8 l0_2 ++ (([.int .u64 a0_3] : List Value) ++ (iv .u8 l0_4 ++ (([.int .u64 a0_5] : List Value) ++ (iv .u8 l0_6 ++ ([.int .u64 a0_7] : List Value)))))))) 36] := st_119
        obtain ⟨m_121, e_122, H⟩ := H
        obtain ⟨z_123, H⟩ := H
        obtain ⟨n_126, hn_129⟩ : ∃ n_ : Nat, n_ = m_121.length := ⟨_, rfl⟩
        refine WL.append (i := 3) Wanted.none st_119 rfl Tryd.underlying29 elem5 rfl rfl (st_119.src_sl (k := 0) rfl) (by rw [iv_length]; exact (Eq.refl _).symm) (one_iv .u8 _) (by decide) (N := n_126) (by rw [hn_129, e_122, List.length_append]; exact congr (congrArg HAdd.hAdd (hn_106)) (rfl)) (by rw [hn_129]; exact z_123) ?_
        intro A_124 c_125 w_127 st_128
        have st_128' : St w w_127 [.sl (some ⟨B_117, 0, none⟩) 1 1 (iv .u8 [gn l0_4 ((x_107).toNat)]) 5 1, .sl A_87 c_88 n_89 (iv .u8 r_86) 5 1, .sl A_39 c_40 n_41 (iv .u8 r_38) 5 1, .sl A_124 c_125 n_126 (iv .u8 m_121) 5 1, .cells B_1 (iv .u8 l0_0 ++ (([.int .u64 a0_1] : List Value) ++ (iv .u8 l0_2 ++ (([.int .u64 a0_3] : List Value) ++ (iv .u8 l0_4 ++ (([.int .u64 a0_5] : List Value) ++ (iv .u8 l0_6 ++ ([.int .u64 a0_7] : List Value)))))))) 36] := by rw [e_122, ← iv_append .u8 l_104 [gn l0_4 ((x_107).toNat)]]; exact st_128
        refine WL.val Wanted.none (Runs.assign rfl) ?_
        refine WL.nil ?_
        refine QW.blk_n ?_
        refine QW.then_n ?_
        refine CW.region ?_
        refine WL.val Wanted.none (Runs.move rfl) ?_
        refine WL.val Wanted.none (Runs.add rfl rfl rfl) ?_
        refine WL.val Wanted.none (Runs.assign rfl) ?_
        refine WL.nil ?_
        have st_128'' := st_128'.pick [1, 2, 3, 4] (by decide)
        exact QW.at [(1, .pointer (some ⟨B_1, 0, none⟩)), (2, .slice none 0 0), (3, .slice A_124 n_126 c_125), (4, .int .i64 2), (6, .int .i64 2), (7, .bool true), (5, .int .i64 (IntKind.i64.wrap (x_107 + 1))), (10, .int .i64 x_107), (11, .bool (decide (x_107 < 32))), (23, .slice A_54 n_57 c_55), (24, .int .i64 1), (25, .pointer (some ⟨B_1, 33, none⟩)), (26, .pointer (some ⟨B_1, 65, none⟩)), (27, .int .u64 a0_3), (28, .slice A_87 n_89 c_88), (29, .slice A_95 n_97 c_96), (8, .int .i64 1), (9, .int .i64 2)] ⟨rfl, rfl, rfl, rfl, rfl, rfl, rfl, rfl, rfl, rfl, rfl, rfl, rfl, rfl, rfl, rfl, rfl, rfl, trivial⟩ ⟨A_124, c_125, n_126, m_121, IntKind.i64.wrap (x_107 + 1), x_107, decide (x_107 < 32), rfl, H, hn_129, st_128''⟩
      · have h_114 : (decide (x_107 < 32)) = false := (decide_eq_false c_113)
        refine CW.cf rfl h_114 ?_
        refine CW.exit ?_
        refine QW.then_x ?_
        refine QW.then_x ?_
        refine QW.blk_x ?_
        refine QW.then_n ?_
        refine CW.region ?_
        refine WL.val Wanted.none (Runs.move rfl) ?_
        refine WL.val Wanted.none (Runs.move rfl) ?_
        refine WL.val Wanted.none (Runs.indexAddr_row (p := 66) Tryd.underlying36 siz35 rfl rfl (by decide) (by decide) rfl) ?_
        refine WL.val Wanted.none (Runs.fieldAddr (off := 32) (p := 98) fld35_1 rfl rfl rfl) ?_
        refine WL.val Wanted.none (Runs.load nagg24 rfl (st_111.cell (k := 3) rfl (part_one (u := .int .u64 a0_5) (pre := (iv .u8 l0_0 ++ (([.int .u64 a0_1] : List Value) ++ (iv .u8 l0_2 ++ (([.int .u64 a0_3] : List Value) ++ iv .u8 l0_4))))) (post := (iv .u8 l0_6 ++ ([.int .u64 a0_7] : List Value))) (by first | rfl | simp only [List.append_assoc, List.append_nil, List.nil_append, List.cons_append]) (by first | rfl | simp only [List.length_append, List.length_cons, List.length_nil, iv_length, hl0_0, hl0_2, hl0_4])))) ?_
        obtain ⟨r_134, hr_130, H⟩ := H
        refine WL.call Wanted.none ent25 rfl (reliquaryref01_Put.calls w_110 a0_5 8 r_134 hr_130) ?_
        rintro _ w_131 ⟨A_135, c_136, n_137, hn_138, rfl, sc_133⟩
        have st_132 : St w w_131 [.sl A_135 c_136 n_137 (iv .u8 r_134) 5 1, .sl A_87 c_88 n_89 (iv .u8 r_86) 5 1, .sl A_39 c_40 n_41 (iv .u8 r_38) 5 1, .sl A_102 c_103 n_105 (iv .u8 l_104) 5 1, .cells B_1 (iv .u8 l0_0 ++ (([.int .u64 a0_1] : List Value) ++ (iv .u8 l0_2 ++ (([.int .u64 a0_3] : List Value) ++ (iv .u8 l0_4 ++ (([.int .u64 a0_5] : List Value) ++ (iv .u8 l0_6 ++ ([.int .u64 a0_7] : List Value)))))))) 36] := st_111.call sc_133
        refine ⟨_, rfl, ?_⟩
        obtain ⟨m_140, e_141, H⟩ := H
        obtain ⟨z_142, H⟩ := H
        obtain ⟨n_145, hn_148⟩ : ∃ n_ : Nat, n_ = m_140.length := ⟨_, rfl⟩
        refine WL.append (i := 3) Wanted.none st_132 rfl Tryd.underlying29 elem5 rfl rfl (st_132.src_sl (k := 0) rfl) (by rw [iv_length]; exact (hn_138).symm) (one_iv .u8 _) (by decide) (N := n_145) (by rw [hn_148, e_141, List.length_append]; exact congr (congrArg HAdd.hAdd (hn_106)) (hn_138)) (by rw [hn_148]; exact z_142) ?_
        intro A_143 c_144 w_146 st_147
        have st_147' : St w w_146 [.sl A_135 c_136 n_137 (iv .u8 r_134) 5 1, .sl A_87 c_88 n_89 (iv .u8 r_86) 5 1, .sl A_39 c_40 n_41 (iv .u8 r_38) 5 1, .sl A_143 c_144 n_145 (iv .u8 m_140) 5 1, .cells B_1 (iv .u8 l0_0 ++ (([.int .u64 a0_1] : List Value) ++ (iv .u8 l0_2 ++ (([.int .u64 a0_3] : List Value) ++ (iv .u8 l0_4 ++ (([.int .u64 a0_5] : List Value) ++ (iv .u8 l0_6 ++ ([.int .u64 a0_7] : List Value)))))))) 36] := by rw [e_141, ← iv_append .u8 l_104 r_134]; exact st_147
        refine WL.val Wanted.none (Runs.assign rfl) ?_
        refine WL.nil ?_
        refine QW.blk_n ?_
        refine QW.then_n ?_
        refine CW.region ?_
        refine WL.val Wanted.none (Runs.move rfl) ?_
        refine WL.val Wanted.none (Runs.add (z := 3) rfl rfl (by decide)) ?_
        refine WL.val Wanted.none (Runs.assign rfl) ?_
        refine WL.nil ?_
        refine QW.round ?_
        refine CW.seq ?_
        refine CW.seq ?_
        refine CW.region ?_
        refine WL.val Wanted.none (Runs.move rfl) ?_
        refine WL.val Wanted.none (Runs.lss (b := true) rfl rfl (by decide)) ?_
        refine WL.nil ?_
        refine QW.then_n ?_
        refine CW.ct rfl rfl ?_
        refine CW.skip ?_
        refine QW.then_n ?_
        refine CW.seq ?_
        refine CW.block ?_
        refine CW.seq ?_
        refine CW.seq ?_
        refine CW.region ?_
        refine WL.val Wanted.none (Runs.assign rfl) ?_
        refine WL.nil ?_
        refine QW.then_n ?_
        refine CW.block ?_
        obtain ⟨k_149, H⟩ := H
        refine CW.sub [(1, .pointer (some ⟨B_1, 0, none⟩)), (2, .slice none 0 0), (3, .slice A_143 n_145 c_144), (4, .int .i64 3), (6, .int .i64 3), (7, .bool true), (5, .int .i64 0), (10, .int .i64 x_107), (11, .bool (decide (x_107 < 32))), (23, .slice A_102 n_105 c_103), (24, .int .i64 2), (25, .pointer (some ⟨B_1, 66, none⟩)), (26, .pointer (some ⟨B_1, 98, none⟩)), (27, .int .u64 a0_5), (28, .slice A_135 n_137 c_136), (29, .slice A_143 n_145 c_144), (8, .int .i64 2), (9, .int .i64 3)] ⟨rfl, rfl, rfl, rfl, rfl, rfl, rfl, rfl, rfl, rfl, rfl, rfl, rfl, rfl, rfl, rfl, rfl, rfl, trivial⟩ ?_
        refine CW.loop (fun kL4 l_ w_ => ∃ (A_150 : Option Addr) (c_151 : Nat) (n_153 : Nat) (l_152 : List Int) (x_155 : Int) (x_156 : Int) (b_157 : Bool), l_ = [(1, .pointer (some ⟨B_1, 0, none⟩)), (2, .slice none 0 0), (3, .slice A_150 n_153 c_151), (4, .int .i64 3), (6, .int .i64 3), (7, .bool true), (5, .int .i64 x_155), (10, .int .i64 x_156), (11, .bool b_157), (23, .slice A_102 n_105 c_103), (24, .int .i64 2), (25, .pointer (some ⟨B_1, 66, none⟩)), (26, .pointer (some ⟨B_1, 98, none⟩)), (27, .int .u64 a0_5), (28, .slice A_135 n_137 c_136), (29, .slice A_143 n_145 c_144), (8, .int .i64 2), (9, .int .i64 3)] ∧ reliquaryref10_Put.L4 l0_6 a0_7 r0 kL4 l_152 x_155 x_156 b_157 ∧ (n_153 = l_152.length) ∧ St w w_ [.sl A_135 c_136 n_137 (iv .u8 r_134) 5 1, .sl A_87 c_88 n_89 (iv .u8 r_86) 5 1, .sl A_39 c_40 n_41 (iv .u8 r_38) 5 1, .sl A_150 c_151 n_153 (iv .u8 l_152) 5 1, .cells B_1 (iv .u8 l0_0 ++ (([.int .u64 a0_1] : List Value) ++ (iv .u8 l0_2 ++ (([.int .u64 a0_3] : List Value) ++ (iv .u8 l0_4 ++ (([.int .u64 a0_5] : List Value) ++ (iv .u8 l0_6 ++ ([.int .u64 a0_7] : List Value)))))))) 36]) (k := k_149) ⟨A_143, c_144, n_145, m_140, 0, x_107, decide (x_107 < 32), rfl, H, hn_148, st_147'⟩ (fun _ _ h => by obtain ⟨_, _, _, _, _, _, _, _, h, _⟩ := h; exact h.elim) ?_
        rintro kL4 l_160 w_158 ⟨A_150, c_151, n_153, l_152, x_155, x_156, b_157, rfl, H, hn_154, st_159⟩
        refine CW.seq ?_
        refine CW.seq ?_
        refine CW.region ?_
        refine WL.val Wanted.none (Runs.move rfl) ?_
        refine WL.val Wanted.none (Runs.lss rfl rfl rfl) ?_
        refine WL.nil ?_
        refine QW.then_n ?_
        rcases H with ⟨c_161, H⟩ | ⟨c_161, H⟩
        · have h_162 : (decide (x_155 < 32)) = true := (decide_eq_true c_161)
          refine CW.ct rfl h_162 ?_
          refine CW.skip ?_
          refine QW.then_n ?_
          refine CW.seq ?_
          refine CW.block ?_
          refine CW.region ?_
          refine WL.val Wanted.none (Runs.move rfl) ?_
          refine WL.val Wanted.none (Runs.move rfl) ?_
          refine WL.val Wanted.none (Runs.move rfl) ?_
          refine WL.val Wanted.none (Runs.indexAddr_row (p := 99) Tryd.underlying36 siz35 rfl rfl (by decide) (by decide) rfl) ?_
          refine WL.val Wanted.none (Runs.fieldAddr (off := 0) (p := 99) fld35_0 rfl rfl rfl) ?_
          obtain ⟨⟨p_163, q_164⟩, H⟩ := H
          refine WL.val Wanted.none (Runs.indexAddr_mid arr23 rfl rfl p_163 q_164 (j := ((x_155).toNat)) (by first | rfl | omega)) ?_
          refine WL.val Wanted.none (Runs.load nagg5 rfl (st_159.cell (k := 4) rfl (mid_cell (k := .u8) (pre := (iv .u8 l0_0 ++ (([.int .u64 a0_1] : List Value) ++ (iv .u8 l0_2 ++ (([.int .u64 a0_3] : List Value) ++ (iv .u8 l0_4 ++ ([.int .u64 a0_5] : List Value))))))) (xs := l0_6) (post := (([.int .u64 a0_7] : List Value))) (by first | rfl | simp only [List.append_assoc, List.append_nil, List.nil_append, List.cons_append]) (by first | rfl | simp only [List.length_append, List.length_cons, List.length_nil, iv_length, hl0_0, hl0_2, hl0_4]) (by have := hl0_6; omega)))) ?_
          refine WL.buildSl [.int .u8 (gn l0_6 ((x_155).toNat))] st_159 Tryd.underlying29 elem5 rfl rfl (by decide) (by decide) (by simp [Value.cells]) ?_
          intro B_165 w_166 st_167
          replace st_167 : St w w_166 [.sl (some ⟨B_165, 0, none⟩) 1 1 (iv .u8 [gn l0_6 ((x_155).toNat)]) 5 1, .sl A_135 c_136 n_137 (iv .u8 r_134) 5 1, .sl A_87 c_88 n_89 (iv .u8 r_86) 5 1, .sl A_39 c_40 n_41 (iv .u8 r_38) 5 1, .sl A_150 c_151 n_153 (iv .u8 l_152) 5 1, .cells B_1 (iv .u8 l0_0 ++ (([.int .u64 a0_1] : List Value) ++ (iv .u8 l0_2 ++ (([.int .u64 a0_3] : List Value) ++ (iv .u8 l0_4 ++ (([.int .u64 a0_5] : List Value) ++ (iv .u8 l0_6 ++ ([.int .u64 a0_7] : List Value)))))))) 36] := st_167
          obtain ⟨m_169, e_170, H⟩ := H
          obtain ⟨z_171, H⟩ := H
          obtain ⟨n_174, hn_177⟩ : ∃ n_ : Nat, n_ = m_169.length := ⟨_, rfl⟩
          refine WL.append (i := 4) Wanted.none st_167 rfl Tryd.underlying29 elem5 rfl rfl (st_167.src_sl (k := 0) rfl) (by rw [iv_length]; exact (Eq.refl _).symm) (one_iv .u8 _) (by decide) (N := n_174) (by rw [hn_177, e_170, List.length_append]; exact congr (congrArg HAdd.hAdd (hn_154)) (rfl)) (by rw [hn_177]; exact z_171) ?_
          intro A_172 c_173 w_175 st_176
          have st_176' : St w w_175 [.sl (some ⟨B_165, 0, none⟩) 1 1 (iv .u8 [gn l0_6 ((x_155).toNat)]) 5 1, .sl A_135 c_136 n_137 (iv .u8 r_134) 5 1, .sl A_87 c_88 n_89 (iv .u8 r_86) 5 1, .sl A_39 c_40 n_41 (iv .u8 r_38) 5 1, .sl A_172 c_173 n_174 (iv .u8 m_169) 5 1, .cells B_1 (iv .u8 l0_0 ++ (([.int .u64 a0_1] : List Value) ++ (iv .u8 l0_2 ++ (([.int .u64 a0_3] : List Value) ++ (iv .u8 l0_4 ++ (([.int .u64 a0_5] : List Value) ++ (iv .u8 l0_6 ++ ([.int .u64 a0_7] : List Value)))))))) 36] := by rw [e_170, ← iv_append .u8 l_152 [gn l0_6 ((x_155).toNat)]]; exact st_176
          refine WL.val Wanted.none (Runs.assign rfl) ?_
          refine WL.nil ?_
          refine QW.blk_n ?_
          refine QW.then_n ?_
          refine CW.region ?_
          refine WL.val Wanted.none (Runs.move rfl) ?_
          refine WL.val Wanted.none (Runs.add rfl rfl rfl) ?_
          refine WL.val Wanted.none (Runs.assign rfl) ?_
          refine WL.nil ?_
          have st_176'' := st_176'.pick [1, 2, 3, 4, 5] (by decide)
          exact QW.at [(1, .pointer (some ⟨B_1, 0, none⟩)), (2, .slice none 0 0), (3, .slice A_172 n_174 c_173), (4, .int .i64 3), (6, .int .i64 3), (7, .bool true), (5, .int .i64 (IntKind.i64.wrap (x_155 + 1))), (10, .int .i64 x_155), (11, .bool (decide (x_155 < 32))), (23, .slice A_102 n_105 c_103), (24, .int .i64 2), (25, .pointer (some ⟨B_1, 66, none⟩)), (26, .pointer (some ⟨B_1, 98, none⟩)), (27, .int .u64 a0_5), (28, .slice A_135 n_137 c_136), (29, .slice A_143 n_145 c_144), (8, .int .i64 2), (9, .int .i64 3)] ⟨rfl, rfl, rfl, rfl, rfl, rfl, rfl, rfl, rfl, rfl, rfl, rfl, rfl, rfl, rfl, rfl, rfl, rfl, trivial⟩ ⟨A_172, c_173, n_174, m_169, IntKind.i64.wrap (x_155 + 1), x_155, decide (x_155 < 32), rfl, H, hn_177, st_176''⟩
        · have h_162 : (decide (x_155 < 32)) = false := (decide_eq_false c_161)
          refine CW.cf rfl h_162 ?_
          refine CW.exit ?_
          refine QW.then_x ?_
          refine QW.then_x ?_
          refine QW.blk_x ?_
          refine QW.then_n ?_
          refine CW.region ?_
          refine WL.val Wanted.none (Runs.move rfl) ?_
          refine WL.val Wanted.none (Runs.move rfl) ?_
          refine WL.val Wanted.none (Runs.indexAddr_row (p := 99) Tryd.underlying36 siz35 rfl rfl (by decide) (by decide) rfl) ?_
          refine WL.val Wanted.none (Runs.fieldAddr (off := 32) (p := 131) fld35_1 rfl rfl rfl) ?_
          refine WL.val Wanted.none (Runs.load nagg24 rfl (st_159.cell (k := 4) rfl (part_one (u := .int .u64 a0_7) (pre := (iv .u8 l0_0 ++ (([.int .u64 a0_1] : List Value) ++ (iv .u8 l0_2 ++ (([.int .u64 a0_3] : List Value) ++ (iv .u8 l0_4 ++ (([.int .u64 a0_5] : List Value) ++ iv .u8 l0_6))))))) (post := (([] : List Value))) (by first | rfl | simp only [List.append_assoc, List.append_nil, List.nil_append, List.cons_append]) (by first | rfl | simp only [List.length_append, List.length_cons, List.length_nil, iv_length, hl0_0, hl0_2, hl0_4, hl0_6])))) ?_
          obtain ⟨r_182, hr_178, H⟩ := H
          refine WL.call Wanted.none ent25 rfl (reliquaryref01_Put.calls w_158 a0_7 8 r_182 hr_178) ?_
          rintro _ w_179 ⟨A_183, c_184, n_185, hn_186, rfl, sc_181⟩
          have st_180 : St w w_179 [.sl A_183 c_184 n_185 (iv .u8 r_182) 5 1, .sl A_135 c_136 n_137 (iv .u8 r_134) 5 1, .sl A_87 c_88 n_89 (iv .u8 r_86) 5 1, .sl A_39 c_40 n_41 (iv .u8 r_38) 5 1, .sl A_150 c_151 n_153 (iv .u8 l_152) 5 1, .cells B_1 (iv .u8 l0_0 ++ (([.int .u64 a0_1] : List Value) ++ (iv .u8 l0_2 ++ (([.int .u64 a0_3] : List Value) ++ (iv .u8 l0_4 ++ (([.int .u64 a0_5] : List Value) ++ (iv .u8 l0_6 ++ ([.int .u64 a0_7] : List Value)))))))) 36] := st_159.call sc_181
          refine ⟨_, rfl, ?_⟩
          obtain ⟨m_188, e_189, H⟩ := H
          obtain ⟨z_190, H⟩ := H
          obtain ⟨n_193, hn_196⟩ : ∃ n_ : Nat, n_ = m_188.length := ⟨_, rfl⟩
          refine WL.append (i := 4) Wanted.none st_180 rfl Tryd.underlying29 elem5 rfl rfl (st_180.src_sl (k := 0) rfl) (by rw [iv_length]; exact (hn_186).symm) (one_iv .u8 _) (by decide) (N := n_193) (by rw [hn_196, e_189, List.length_append]; exact congr (congrArg HAdd.hAdd (hn_154)) (hn_186)) (by rw [hn_196]; exact z_190) ?_
          intro A_191 c_192 w_194 st_195
          have st_195' : St w w_194 [.sl A_183 c_184 n_185 (iv .u8 r_182) 5 1, .sl A_135 c_136 n_137 (iv .u8 r_134) 5 1, .sl A_87 c_88 n_89 (iv .u8 r_86) 5 1, .sl A_39 c_40 n_41 (iv .u8 r_38) 5 1, .sl A_191 c_192 n_193 (iv .u8 m_188) 5 1, .cells B_1 (iv .u8 l0_0 ++ (([.int .u64 a0_1] : List Value) ++ (iv .u8 l0_2 ++ (([.int .u64 a0_3] : List Value) ++ (iv .u8 l0_4 ++ (([.int .u64 a0_5] : List Value) ++ (iv .u8 l0_6 ++ ([.int .u64 a0_7] : List Value)))))))) 36] := by rw [e_189, ← iv_append .u8 l_152 r_182]; exact st_195
          refine WL.val Wanted.none (Runs.assign rfl) ?_
          refine WL.nil ?_
          refine QW.blk_n ?_
          refine QW.then_n ?_
          refine CW.region ?_
          refine WL.val Wanted.none (Runs.move rfl) ?_
          refine WL.val Wanted.none (Runs.add (z := 4) rfl rfl (by decide)) ?_
          refine WL.val Wanted.none (Runs.assign rfl) ?_
          refine WL.nil ?_
          refine QW.round ?_
          refine CW.seq ?_
          refine CW.seq ?_
          refine CW.region ?_
          refine WL.val Wanted.none (Runs.move rfl) ?_
          refine WL.val Wanted.none (Runs.lss (b := false) rfl rfl (by decide)) ?_
          refine WL.nil ?_
          refine QW.then_n ?_
          refine CW.cf rfl rfl ?_
          refine CW.exit ?_
          refine QW.then_x ?_
          refine QW.then_x ?_
          refine QW.blk_x ?_
          refine QW.then_n ?_
          refine CW.sub [(2, .slice none 0 0), (3, .slice A_191 n_193 c_192)] ⟨rfl, rfl, trivial⟩ ?_
          refine CW.seq ?_
          refine CW.region ?_
          refine WL.val Wanted.none (Runs.move rfl) ?_
          refine WL.val Wanted.none (Runs.assign rfl) ?_
          refine WL.nil ?_
          refine QW.then_n ?_
          refine CW.ret ?_
          obtain rfl := H
          exact QW.ret1 rfl rfl ⟨A_191, c_192, n_193, hn_196, rfl, st_195'.pick [4] (by decide)⟩

end Go.Proofs.YtekpnjhacnkgcaaDoor
