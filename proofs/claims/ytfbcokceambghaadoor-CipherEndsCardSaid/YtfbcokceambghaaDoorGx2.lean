/- Walks: each function computes what its relation says, and a call of it ends so. Printed by a program of this session (wip/gen). -/
import Derived.Test.YtfbcokceambghaaDoorGx1
namespace Go.Proofs.YtfbcokceambghaaDoor
open Go Go.Kr Go.RowKit
set_option linter.unusedVariables false
set_option linter.unusedSimpArgs false
/-! ### reliquaryref04_Block: function 11 -/
def reliquaryref04_Block.L6 (x_105 : Int) (K_L4 : (List Int) → Int → Prop) : Nat → (List Int) → Int → Prop
  | 0, _, _ => False
  | kL6 + 1, m_130, x_132 => ((x_132 < 4 ∧ (∃ x_138 : Int, x_138 = IntKind.i64.wrap (4 + (Int.tmod (IntKind.i64.wrap (x_132 + 1)) 4)) ∧ (∃ x_140 : Int, x_140 = IntKind.i64.wrap (8 + (Int.tmod (IntKind.i64.wrap (x_132 + 2)) 4)) ∧ (∃ x_142 : Int, x_142 = IntKind.i64.wrap (12 + (Int.tmod (IntKind.i64.wrap (x_132 + 3)) 4)) ∧ (∃ (r_148 : List Int), reliquaryref04_quarter.rel m_130 x_132 x_138 x_140 x_142 r_148 ∧ reliquaryref04_Block.L6 x_105 K_L4 kL6 r_148 (IntKind.i64.wrap (x_132 + 1))))))) ∨ (¬ (x_132 < 4) ∧ K_L4 m_130 (IntKind.i64.wrap (x_105 + 1))))
def reliquaryref04_Block.L5 (x_105 : Int) (K_L4 : (List Int) → Int → Prop) : Nat → (List Int) → Int → Prop
  | 0, _, _ => False
  | kL5 + 1, m_112, x_114 => ((x_114 < 4 ∧ (∃ (r_124 : List Int), reliquaryref04_quarter.rel m_112 x_114 (IntKind.i64.wrap (4 + x_114)) (IntKind.i64.wrap (8 + x_114)) (IntKind.i64.wrap (12 + x_114)) r_124 ∧ reliquaryref04_Block.L5 x_105 K_L4 kL5 r_124 (IntKind.i64.wrap (x_114 + 1)))) ∨ (¬ (x_114 < 4) ∧ (∃ k_ : Nat, reliquaryref04_Block.L6 x_105 (K_L4) k_ m_112 0)))
def reliquaryref04_Block.L7 (r0 : List Int) (m_75 : List Int) (m_103 : List Int) : Nat → (List Int) → Int → Prop
  | 0, _, _ => False
  | kL7 + 1, m_158, x_160 => ((x_160 < 64 ∧ ((0 ≤ (IntKind.i64.wrap (Int.tdiv x_160 4)) ∧ (IntKind.i64.wrap (Int.tdiv x_160 4)) < (16 : Int)) ∧ ((0 ≤ (IntKind.i64.wrap (Int.tdiv x_160 4)) ∧ (IntKind.i64.wrap (Int.tdiv x_160 4)) < (16 : Int)) ∧ (∃ x_170 : Int, x_170 = IntKind.u32.wrap ((gn m_103 ((IntKind.i64.wrap (Int.tdiv x_160 4)).toNat)) + (gn m_75 ((IntKind.i64.wrap (Int.tdiv x_160 4)).toNat))) ∧ (0 ≤ (IntKind.u64.wrap (IntKind.i64.wrap (8 * (Int.tmod x_160 4)))) ∧ (∃ x_175 : Int, x_175 = shrI .u32 x_170 (IntKind.u64.wrap (IntKind.i64.wrap (8 * (Int.tmod x_160 4)))) ∧ ((0 ≤ x_160 ∧ x_160 < (64 : Int)) ∧ (∃ m_179 : List Int, m_179 = List.set m_158 ((x_160).toNat) (IntKind.u8.wrap x_175) ∧ reliquaryref04_Block.L7 r0 m_75 m_103 kL7 m_179 (IntKind.i64.wrap (x_160 + 1)))))))))) ∨ (¬ (x_160 < 64) ∧ r0 = m_158))
def reliquaryref04_Block.L4 (r0 : List Int) (m_75 : List Int) : Nat → (List Int) → Int → Prop
  | 0, _, _ => False
  | kL4 + 1, m_103, x_105 => ((x_105 < 10 ∧ (∃ k_ : Nat, reliquaryref04_Block.L5 x_105 (reliquaryref04_Block.L4 r0 m_75 kL4) k_ m_103 0)) ∨ (¬ (x_105 < 10) ∧ (∃ k_ : Nat, reliquaryref04_Block.L7 r0 m_75 m_103 k_ (List.replicate 64 (0 : Int)) 0)))
def reliquaryref04_Block.L3 (l2 : List Int) (r0 : List Int) : Nat → (List Int) → Int → Prop
  | 0, _, _ => False
  | kL3 + 1, m_75, x_77 => ((x_77 < 3 ∧ (∃ (r_87 : Int), reliquaryref04_at.rel l2 (IntKind.i64.wrap (4 * x_77)) r_87 ∧ ((0 ≤ (IntKind.i64.wrap (13 + x_77)) ∧ (IntKind.i64.wrap (13 + x_77)) < (16 : Int)) ∧ (∃ m_90 : List Int, m_90 = List.set m_75 ((IntKind.i64.wrap (13 + x_77)).toNat) r_87 ∧ reliquaryref04_Block.L3 l2 r0 kL3 m_90 (IntKind.i64.wrap (x_77 + 1)))))) ∨ (¬ (x_77 < 3) ∧ (∃ k_ : Nat, reliquaryref04_Block.L4 r0 m_75 k_ m_75 0)))
def reliquaryref04_Block.L2 (l0 : List Int) (a1 : Int) (l2 : List Int) (r0 : List Int) : Nat → (List Int) → Int → Prop
  | 0, _, _ => False
  | kL2 + 1, m_49, x_51 => ((x_51 < 8 ∧ (∃ (r_61 : Int), reliquaryref04_at.rel l0 (IntKind.i64.wrap (4 * x_51)) r_61 ∧ ((0 ≤ (IntKind.i64.wrap (4 + x_51)) ∧ (IntKind.i64.wrap (4 + x_51)) < (16 : Int)) ∧ (∃ m_64 : List Int, m_64 = List.set m_49 ((IntKind.i64.wrap (4 + x_51)).toNat) r_61 ∧ reliquaryref04_Block.L2 l0 a1 l2 r0 kL2 m_64 (IntKind.i64.wrap (x_51 + 1)))))) ∨ (¬ (x_51 < 8) ∧ (∃ m_69 : List Int, m_69 = List.set m_49 12 a1 ∧ (∃ k_ : Nat, reliquaryref04_Block.L3 l2 r0 k_ m_69 0))))
def reliquaryref04_Block.L1 (l0 : List Int) (a1 : Int) (l2 : List Int) (r0 : List Int) : Nat → (List Int) → Int → Prop
  | 0, _, _ => False
  | kL1 + 1, m_28, x_30 => ((x_30 < 4 ∧ (∃ (r_40 : Int), reliquaryref04_at.rel [101, 120, 112, 97, 110, 100, 32, 51, 50, 45, 98, 121, 116, 101, 32, 107] (IntKind.i64.wrap (4 * x_30)) r_40 ∧ ((0 ≤ x_30 ∧ x_30 < (16 : Int)) ∧ (∃ m_43 : List Int, m_43 = List.set m_28 ((x_30).toNat) r_40 ∧ reliquaryref04_Block.L1 l0 a1 l2 r0 kL1 m_43 (IntKind.i64.wrap (x_30 + 1)))))) ∨ (¬ (x_30 < 4) ∧ (∃ k_ : Nat, reliquaryref04_Block.L2 l0 a1 l2 r0 k_ m_28 0)))
def reliquaryref04_Block.rel (l0 : List Int) (a1 : Int) (l2 : List Int) (r0 : List Int) : Prop := (∃ k_ : Nat, reliquaryref04_Block.L1 l0 a1 l2 r0 k_ (List.replicate 16 (0 : Int)) 0)
set_option maxHeartbeats 4000000 in
set_option maxRecDepth 100000 in
theorem reliquaryref04_Block.calls (w : World) (l0 : List Int) (a1 : Int) (l2 : List Int)   (hl0 : l0.length = 32) (hl2 : l2.length = 12) (r0 : List Int) (H : reliquaryref04_Block.rel l0 a1 l2 r0) :
    Calls Tryd.prog 11 #[.agg (iv .u8 l0).toArray, .int .u32 a1, .agg (iv .u8 l2).toArray] w fun e w' => r0.length = 64 ∧ e = .returned (.agg (iv .u8 r0).toArray) ∧ St w w' [] := by
  refine CW.enter Tryd.func11 rfl (n := 115) rfl [.agg (iv .u8 l0).toArray, .int .u32 a1, .agg (iv .u8 l2).toArray] (Nat.le_of_ble_eq_true rfl) ?_
  refine CW.sub [(0, .agg (iv .u8 l0).toArray), (1, .int .u32 a1), (2, .agg (iv .u8 l2).toArray)] ⟨rfl, rfl, rfl, trivial⟩ ?_
  have st0 : St w w [] := St.refl w
  refine CW.seq ?_
  refine CW.region ?_
  refine WL.box st0 rfl rfl ?_
  intro B_1 w_2 st_3
  replace st_3 : St w w_2 [.cells B_1 (iv .u8 l0) 23] := st_3
  refine WL.box st_3 rfl rfl ?_
  intro B_5 w_6 st_7
  replace st_7 : St w w_6 [.cells B_5 (iv .u8 l2) 25, .cells B_1 (iv .u8 l0) 23] := st_7
  refine WL.alloc st_7 arr27.zero ?_
  intro B_9 w_10 st_11
  replace st_11 : St w w_10 [.cells B_9 (iv .u8 (List.replicate 64 (0 : Int))) 27, .cells B_5 (iv .u8 l2) 25, .cells B_1 (iv .u8 l0) 23] := st_11
  refine WL.nil ?_
  refine QW.then_n ?_
  refine CW.seq ?_
  refine CW.region ?_
  refine WL.alloc st_11 arr42.zero ?_
  intro B_13 w_14 st_15
  replace st_15 : St w w_14 [.cells B_13 (iv .u32 (List.replicate 16 (0 : Int))) 42, .cells B_9 (iv .u8 (List.replicate 64 (0 : Int))) 27, .cells B_5 (iv .u8 l2) 25, .cells B_1 (iv .u8 l0) 23] := st_15
  refine WL.nil ?_
  refine QW.then_n ?_
  refine CW.seq ?_
  refine CW.region ?_
  refine WL.buildSl [.int .u8 101, .int .u8 120, .int .u8 112, .int .u8 97, .int .u8 110, .int .u8 100, .int .u8 32, .int .u8 51, .int .u8 50, .int .u8 45, .int .u8 98, .int .u8 121, .int .u8 116, .int .u8 101, .int .u8 32, .int .u8 107] st_15 Tryd.underlying31 elem5 rfl rfl (by decide) (by decide) (by simp [Value.cells]) ?_
  intro B_17 w_18 st_19
  replace st_19 : St w w_18 [.sl (some ⟨B_17, 0, none⟩) 16 16 (iv .u8 [101, 120, 112, 97, 110, 100, 32, 51, 50, 45, 98, 121, 116, 101, 32, 107]) 5 1, .cells B_13 (iv .u32 (List.replicate 16 (0 : Int))) 42, .cells B_9 (iv .u8 (List.replicate 64 (0 : Int))) 27, .cells B_5 (iv .u8 l2) 25, .cells B_1 (iv .u8 l0) 23] := st_19
  refine WL.mark (i := 0) st_19 rfl Tryd.underlying31 Tryd.underlying5 rfl ?_
  intro cs_21 w_22 h_23 h_24 h_25 st_26
  replace st_26 : St w w_22 [.obj B_17 (.cells cs_21.toArray 5 (16, 16 + 1)), .cells B_13 (iv .u32 (List.replicate 16 (0 : Int))) 42, .cells B_9 (iv .u8 (List.replicate 64 (0 : Int))) 27, .cells B_5 (iv .u8 l2) 25, .cells B_1 (iv .u8 l0) 23] := st_26
  refine WL.val Wanted.none (Runs.assign rfl) ?_
  refine WL.nil ?_
  refine QW.then_n ?_
  refine CW.seq ?_
  refine CW.seq ?_
  refine CW.region ?_
  refine WL.val Wanted.none (Runs.assign rfl) ?_
  refine WL.nil ?_
  refine QW.then_n ?_
  refine CW.block ?_
  obtain ⟨k_27, H⟩ := H
  refine CW.sub [(1, .int .u32 a1), (3, .pointer (some ⟨B_1, 0, none⟩)), (5, .pointer (some ⟨B_5, 0, none⟩)), (6, .pointer (some ⟨B_9, 0, none⟩)), (7, .pointer (some ⟨B_13, 0, none⟩)), (8, .slice (some ⟨B_17, 0, none⟩) 16 16), (9, .int .i64 0)] ⟨rfl, rfl, rfl, rfl, rfl, rfl, rfl, trivial⟩ ?_
  refine CW.loop (fun kL1 l_ w_ => ∃ (m_28 : List Int) (x_30 : Int), l_ = [(1, .int .u32 a1), (3, .pointer (some ⟨B_1, 0, none⟩)), (5, .pointer (some ⟨B_5, 0, none⟩)), (6, .pointer (some ⟨B_9, 0, none⟩)), (7, .pointer (some ⟨B_13, 0, none⟩)), (8, .slice (some ⟨B_17, 0, none⟩) 16 16), (9, .int .i64 x_30)] ∧ reliquaryref04_Block.L1 l0 a1 l2 r0 kL1 m_28 x_30 ∧ (m_28.length = 16) ∧ St w w_ [.obj B_17 (.cells cs_21.toArray 5 (16, 16 + 1)), .cells B_13 (iv .u32 m_28) 42, .cells B_9 (iv .u8 (List.replicate 64 (0 : Int))) 27, .cells B_5 (iv .u8 l2) 25, .cells B_1 (iv .u8 l0) 23]) (k := k_27) ⟨List.replicate 16 (0 : Int), 0, rfl, H, (List.length_replicate ..), st_26⟩ (fun _ _ h => by obtain ⟨_, _, _, h, _⟩ := h; exact h.elim) ?_
  rintro kL1 l_33 w_31 ⟨m_28, x_30, rfl, H, hl_29, st_32⟩
  refine CW.seq ?_
  refine CW.seq ?_
  refine CW.region ?_
  refine WL.val Wanted.none (Runs.move rfl) ?_
  refine WL.val Wanted.none (Runs.lss rfl rfl rfl) ?_
  refine WL.nil ?_
  refine QW.then_n ?_
  rcases H with ⟨c_34, H⟩ | ⟨c_34, H⟩
  · have h_35 : (decide (x_30 < 4)) = true := (decide_eq_true c_34)
    refine CW.ct rfl h_35 ?_
    refine CW.skip ?_
    refine QW.then_n ?_
    refine CW.seq ?_
    refine CW.block ?_
    refine CW.region ?_
    refine WL.val Wanted.none (Runs.move rfl) ?_
    refine WL.val Wanted.none (Runs.move rfl) ?_
    refine WL.val Wanted.none (Runs.move rfl) ?_
    refine WL.val Wanted.none (Runs.mul rfl rfl rfl) ?_
    obtain ⟨r_40, hr_36, H⟩ := H
    refine WL.call Wanted.none ent20 rfl (reliquaryref04_at.calls w_31 [101, 120, 112, 97, 110, 100, 32, 51, 50, 45, 98, 121, 116, 101, 32, 107] (IntKind.i64.wrap (4 * x_30)) (some ⟨B_17, 0, none⟩) 16 16 (st_32.src_obj (i := 0) rfl h_25) (rfl) (h_23) r_40 hr_36) ?_
    rintro _ w_37 ⟨rfl, sc_39⟩
    have st_38 : St w w_37 [.obj B_17 (.cells cs_21.toArray 5 (16, 16 + 1)), .cells B_13 (iv .u32 m_28) 42, .cells B_9 (iv .u8 (List.replicate 64 (0 : Int))) 27, .cells B_5 (iv .u8 l2) 25, .cells B_1 (iv .u8 l0) 23] := st_32.call sc_39
    refine ⟨_, rfl, ?_⟩
    obtain ⟨⟨p_41, q_42⟩, H⟩ := H
    refine WL.val Wanted.none (Runs.indexAddr_blk arr42 rfl rfl p_41 q_42 (o := (x_30).toNat) (by first | rfl | omega)) ?_
    obtain ⟨m_43, e_44, H⟩ := H
    have hl_47 : m_43.length = 16 := by rw [e_44, List.length_set]; exact hl_29
    refine WL.store_cells (i := 1) st_38 rfl cells24 rfl (by rw [iv_length]; have := hl_29; omega) rfl rfl ?_
    intro w_45 st_46
    have st_46' : St w w_45 [.obj B_17 (.cells cs_21.toArray 5 (16, 16 + 1)), .cells B_13 (iv .u32 m_43) 42, .cells B_9 (iv .u8 (List.replicate 64 (0 : Int))) 27, .cells B_5 (iv .u8 l2) 25, .cells B_1 (iv .u8 l0) 23] := by rw [e_44, ← iv_set .u32 m_28 ((x_30).toNat) r_40]; exact st_46
    refine WL.nil ?_
    refine QW.blk_n ?_
    refine QW.then_n ?_
    refine CW.region ?_
    refine WL.val Wanted.none (Runs.move rfl) ?_
    refine WL.val Wanted.none (Runs.add rfl rfl rfl) ?_
    refine WL.val Wanted.none (Runs.assign rfl) ?_
    refine WL.nil ?_
    exact QW.at [(1, .int .u32 a1), (3, .pointer (some ⟨B_1, 0, none⟩)), (5, .pointer (some ⟨B_5, 0, none⟩)), (6, .pointer (some ⟨B_9, 0, none⟩)), (7, .pointer (some ⟨B_13, 0, none⟩)), (8, .slice (some ⟨B_17, 0, none⟩) 16 16), (9, .int .i64 (IntKind.i64.wrap (x_30 + 1)))] ⟨rfl, rfl, rfl, rfl, rfl, rfl, rfl, trivial⟩ ⟨m_43, IntKind.i64.wrap (x_30 + 1), rfl, H, hl_47, st_46'⟩
  · have h_35 : (decide (x_30 < 4)) = false := (decide_eq_false c_34)
    refine CW.cf rfl h_35 ?_
    refine CW.exit ?_
    refine QW.then_x ?_
    refine QW.then_x ?_
    refine QW.blk_x ?_
    refine QW.then_n ?_
    refine CW.seq ?_
    refine CW.seq ?_
    refine CW.region ?_
    refine WL.val Wanted.none (Runs.assign rfl) ?_
    refine WL.nil ?_
    refine QW.then_n ?_
    refine CW.block ?_
    obtain ⟨k_48, H⟩ := H
    refine CW.sub [(1, .int .u32 a1), (3, .pointer (some ⟨B_1, 0, none⟩)), (5, .pointer (some ⟨B_5, 0, none⟩)), (6, .pointer (some ⟨B_9, 0, none⟩)), (7, .pointer (some ⟨B_13, 0, none⟩)), (10, .int .i64 0)] ⟨rfl, rfl, rfl, rfl, rfl, rfl, trivial⟩ ?_
    refine CW.loop (fun kL2 l_ w_ => ∃ (m_49 : List Int) (x_51 : Int), l_ = [(1, .int .u32 a1), (3, .pointer (some ⟨B_1, 0, none⟩)), (5, .pointer (some ⟨B_5, 0, none⟩)), (6, .pointer (some ⟨B_9, 0, none⟩)), (7, .pointer (some ⟨B_13, 0, none⟩)), (10, .int .i64 x_51)] ∧ reliquaryref04_Block.L2 l0 a1 l2 r0 kL2 m_49 x_51 ∧ (m_49.length = 16) ∧ St w w_ [.obj B_17 (.cells cs_21.toArray 5 (16, 16 + 1)), .cells B_13 (iv .u32 m_49) 42, .cells B_9 (iv .u8 (List.replicate 64 (0 : Int))) 27, .cells B_5 (iv .u8 l2) 25, .cells B_1 (iv .u8 l0) 23]) (k := k_48) ⟨m_28, 0, rfl, H, hl_29, st_32⟩ (fun _ _ h => by obtain ⟨_, _, _, h, _⟩ := h; exact h.elim) ?_
    rintro kL2 l_54 w_52 ⟨m_49, x_51, rfl, H, hl_50, st_53⟩
    refine CW.seq ?_
    refine CW.seq ?_
    refine CW.region ?_
    refine WL.val Wanted.none (Runs.move rfl) ?_
    refine WL.val Wanted.none (Runs.lss rfl rfl rfl) ?_
    refine WL.nil ?_
    refine QW.then_n ?_
    rcases H with ⟨c_55, H⟩ | ⟨c_55, H⟩
    · have h_56 : (decide (x_51 < 8)) = true := (decide_eq_true c_55)
      refine CW.ct rfl h_56 ?_
      refine CW.skip ?_
      refine QW.then_n ?_
      refine CW.seq ?_
      refine CW.block ?_
      refine CW.region ?_
      refine WL.val Wanted.none (Runs.move rfl) ?_
      refine WL.val Wanted.none (Runs.add rfl rfl rfl) ?_
      refine WL.val Wanted.none (Runs.slice_arr arr23 rfl (by decide)) ?_
      refine WL.val Wanted.none (Runs.move rfl) ?_
      refine WL.val Wanted.none (Runs.mul rfl rfl rfl) ?_
      obtain ⟨r_61, hr_57, H⟩ := H
      refine WL.call Wanted.none ent20 rfl (reliquaryref04_at.calls w_52 l0 (IntKind.i64.wrap (4 * x_51)) (some ⟨B_1, 0, none⟩) 32 32 (st_53.src_blk (i := 4) rfl) ((hl0).symm) (Nat.le_refl _) r_61 hr_57) ?_
      rintro _ w_58 ⟨rfl, sc_60⟩
      have st_59 : St w w_58 [.obj B_17 (.cells cs_21.toArray 5 (16, 16 + 1)), .cells B_13 (iv .u32 m_49) 42, .cells B_9 (iv .u8 (List.replicate 64 (0 : Int))) 27, .cells B_5 (iv .u8 l2) 25, .cells B_1 (iv .u8 l0) 23] := st_53.call sc_60
      refine ⟨_, rfl, ?_⟩
      obtain ⟨⟨p_62, q_63⟩, H⟩ := H
      refine WL.val Wanted.none (Runs.indexAddr_blk arr42 rfl rfl p_62 q_63 (o := (IntKind.i64.wrap (4 + x_51)).toNat) (by first | rfl | omega)) ?_
      obtain ⟨m_64, e_65, H⟩ := H
      have hl_68 : m_64.length = 16 := by rw [e_65, List.length_set]; exact hl_50
      refine WL.store_cells (i := 1) st_59 rfl cells24 rfl (by rw [iv_length]; have := hl_50; omega) rfl rfl ?_
      intro w_66 st_67
      have st_67' : St w w_66 [.obj B_17 (.cells cs_21.toArray 5 (16, 16 + 1)), .cells B_13 (iv .u32 m_64) 42, .cells B_9 (iv .u8 (List.replicate 64 (0 : Int))) 27, .cells B_5 (iv .u8 l2) 25, .cells B_1 (iv .u8 l0) 23] := by rw [e_65, ← iv_set .u32 m_49 ((IntKind.i64.wrap (4 + x_51)).toNat) r_61]; exact st_67
      refine WL.nil ?_
      refine QW.blk_n ?_
      refine QW.then_n ?_
      refine CW.region ?_
      refine WL.val Wanted.none (Runs.move rfl) ?_
      refine WL.val Wanted.none (Runs.add rfl rfl rfl) ?_
      refine WL.val Wanted.none (Runs.assign rfl) ?_
      refine WL.nil ?_
      exact QW.at [(1, .int .u32 a1), (3, .pointer (some ⟨B_1, 0, none⟩)), (5, .pointer (some ⟨B_5, 0, none⟩)), (6, .pointer (some ⟨B_9, 0, none⟩)), (7, .pointer (some ⟨B_13, 0, none⟩)), (10, .int .i64 (IntKind.i64.wrap (x_51 + 1)))] ⟨rfl, rfl, rfl, rfl, rfl, rfl, trivial⟩ ⟨m_64, IntKind.i64.wrap (x_51 + 1), rfl, H, hl_68, st_67'⟩
    · have h_56 : (decide (x_51 < 8)) = false := (decide_eq_false c_55)
      refine CW.cf rfl h_56 ?_
      refine CW.exit ?_
      refine QW.then_x ?_
      refine QW.then_x ?_
      refine QW.blk_x ?_
      refine QW.then_n ?_
      refine CW.seq ?_
      refine CW.region ?_
      refine WL.val Wanted.none (Runs.move rfl) ?_
      refine WL.val Wanted.none (Runs.indexAddr_blk arr42 rfl rfl (by decide) (by decide) (o := 12) (by first | rfl | omega)) ?_
      obtain ⟨m_69, e_70, H⟩ := H
      have hl_73 : m_69.length = 16 := by rw [e_70, List.length_set]; exact hl_50
      refine WL.store_cells (i := 1) st_53 rfl cells24 rfl (by rw [iv_length]; have := hl_50; omega) rfl rfl ?_
      intro w_71 st_72
      have st_72' : St w w_71 [.obj B_17 (.cells cs_21.toArray 5 (16, 16 + 1)), .cells B_13 (iv .u32 m_69) 42, .cells B_9 (iv .u8 (List.replicate 64 (0 : Int))) 27, .cells B_5 (iv .u8 l2) 25, .cells B_1 (iv .u8 l0) 23] := by rw [e_70, ← iv_set .u32 m_49 12 a1]; exact st_72
      refine WL.nil ?_
      refine QW.then_n ?_
      refine CW.sub [(5, .pointer (some ⟨B_5, 0, none⟩)), (6, .pointer (some ⟨B_9, 0, none⟩)), (7, .pointer (some ⟨B_13, 0, none⟩))] ⟨rfl, rfl, rfl, trivial⟩ ?_
      refine CW.seq ?_
      refine CW.seq ?_
      refine CW.region ?_
      refine WL.val Wanted.none (Runs.assign rfl) ?_
      refine WL.nil ?_
      refine QW.then_n ?_
      refine CW.block ?_
      obtain ⟨k_74, H⟩ := H
      refine CW.sub [(5, .pointer (some ⟨B_5, 0, none⟩)), (6, .pointer (some ⟨B_9, 0, none⟩)), (7, .pointer (some ⟨B_13, 0, none⟩)), (11, .int .i64 0)] ⟨rfl, rfl, rfl, rfl, trivial⟩ ?_
      refine CW.loop (fun kL3 l_ w_ => ∃ (m_75 : List Int) (x_77 : Int), l_ = [(5, .pointer (some ⟨B_5, 0, none⟩)), (6, .pointer (some ⟨B_9, 0, none⟩)), (7, .pointer (some ⟨B_13, 0, none⟩)), (11, .int .i64 x_77)] ∧ reliquaryref04_Block.L3 l2 r0 kL3 m_75 x_77 ∧ (m_75.length = 16) ∧ St w w_ [.obj B_17 (.cells cs_21.toArray 5 (16, 16 + 1)), .cells B_13 (iv .u32 m_75) 42, .cells B_9 (iv .u8 (List.replicate 64 (0 : Int))) 27, .cells B_5 (iv .u8 l2) 25, .cells B_1 (iv .u8 l0) 23]) (k := k_74) ⟨m_69, 0, rfl, H, hl_73, st_72'⟩ (fun _ _ h => by obtain ⟨_, _, _, h, _⟩ := h; exact h.elim) ?_
      rintro kL3 l_80 w_78 ⟨m_75, x_77, rfl, H, hl_76, st_79⟩
      refine CW.seq ?_
      refine CW.seq ?_
      refine CW.region ?_
      refine WL.val Wanted.none (Runs.move rfl) ?_
      refine WL.val Wanted.none (Runs.lss rfl rfl rfl) ?_
      refine WL.nil ?_
      refine QW.then_n ?_
      rcases H with ⟨c_81, H⟩ | ⟨c_81, H⟩
      · have h_82 : (decide (x_77 < 3)) = true := (decide_eq_true c_81)
        refine CW.ct rfl h_82 ?_
        refine CW.skip ?_
        refine QW.then_n ?_
        refine CW.seq ?_
        refine CW.block ?_
        refine CW.region ?_
        refine WL.val Wanted.none (Runs.move rfl) ?_
        refine WL.val Wanted.none (Runs.add rfl rfl rfl) ?_
        refine WL.val Wanted.none (Runs.slice_arr arr25 rfl (by decide)) ?_
        refine WL.val Wanted.none (Runs.move rfl) ?_
        refine WL.val Wanted.none (Runs.mul rfl rfl rfl) ?_
        obtain ⟨r_87, hr_83, H⟩ := H
        refine WL.call Wanted.none ent20 rfl (reliquaryref04_at.calls w_78 l2 (IntKind.i64.wrap (4 * x_77)) (some ⟨B_5, 0, none⟩) 12 12 (st_79.src_blk (i := 3) rfl) ((hl2).symm) (Nat.le_refl _) r_87 hr_83) ?_
        rintro _ w_84 ⟨rfl, sc_86⟩
        have st_85 : St w w_84 [.obj B_17 (.cells cs_21.toArray 5 (16, 16 + 1)), .cells B_13 (iv .u32 m_75) 42, .cells B_9 (iv .u8 (List.replicate 64 (0 : Int))) 27, .cells B_5 (iv .u8 l2) 25, .cells B_1 (iv .u8 l0) 23] := st_79.call sc_86
        refine ⟨_, rfl, ?_⟩
        obtain ⟨⟨p_88, q_89⟩, H⟩ := H
        refine WL.val Wanted.none (Runs.indexAddr_blk arr42 rfl rfl p_88 q_89 (o := (IntKind.i64.wrap (13 + x_77)).toNat) (by first | rfl | omega)) ?_
        obtain ⟨m_90, e_91, H⟩ := H
        have hl_94 : m_90.length = 16 := by rw [e_91, List.length_set]; exact hl_76
        refine WL.store_cells (i := 1) st_85 rfl cells24 rfl (by rw [iv_length]; have := hl_76; omega) rfl rfl ?_
        intro w_92 st_93
        have st_93' : St w w_92 [.obj B_17 (.cells cs_21.toArray 5 (16, 16 + 1)), .cells B_13 (iv .u32 m_90) 42, .cells B_9 (iv .u8 (List.replicate 64 (0 : Int))) 27, .cells B_5 (iv .u8 l2) 25, .cells B_1 (iv .u8 l0) 23] := by rw [e_91, ← iv_set .u32 m_75 ((IntKind.i64.wrap (13 + x_77)).toNat) r_87]; exact st_93
        refine WL.nil ?_
        refine QW.blk_n ?_
        refine QW.then_n ?_
        refine CW.region ?_
        refine WL.val Wanted.none (Runs.move rfl) ?_
        refine WL.val Wanted.none (Runs.add rfl rfl rfl) ?_
        refine WL.val Wanted.none (Runs.assign rfl) ?_
        refine WL.nil ?_
        exact QW.at [(5, .pointer (some ⟨B_5, 0, none⟩)), (6, .pointer (some ⟨B_9, 0, none⟩)), (7, .pointer (some ⟨B_13, 0, none⟩)), (11, .int .i64 (IntKind.i64.wrap (x_77 + 1)))] ⟨rfl, rfl, rfl, rfl, trivial⟩ ⟨m_90, IntKind.i64.wrap (x_77 + 1), rfl, H, hl_94, st_93'⟩
      · have h_82 : (decide (x_77 < 3)) = false := (decide_eq_false c_81)
        refine CW.cf rfl h_82 ?_
        refine CW.exit ?_
        refine QW.then_x ?_
        refine QW.then_x ?_
        refine QW.blk_x ?_
        refine QW.then_n ?_
        refine CW.seq ?_
        refine CW.region ?_
        refine WL.val Wanted.none (Runs.load_arr arr42 rfl (st_79.blk (i := 1) rfl) hl_76) ?_
        refine WL.alloc st_79 arr42.zero ?_
        intro B_95 w_96 st_97
        replace st_97 : St w w_96 [.cells B_95 (iv .u32 (List.replicate 16 (0 : Int))) 42, .obj B_17 (.cells cs_21.toArray 5 (16, 16 + 1)), .cells B_13 (iv .u32 m_75) 42, .cells B_9 (iv .u8 (List.replicate 64 (0 : Int))) 27, .cells B_5 (iv .u8 l2) 25, .cells B_1 (iv .u8 l0) 23] := st_97
        refine WL.store_arr (i := 0) st_97 rfl arr42 rfl (by rw [iv_length]; exact (List.length_replicate ..)) hl_76 rfl ?_
        intro w_99 st_100
        replace st_100 : St w w_99 [.cells B_95 (iv .u32 m_75) 42, .obj B_17 (.cells cs_21.toArray 5 (16, 16 + 1)), .cells B_13 (iv .u32 m_75) 42, .cells B_9 (iv .u8 (List.replicate 64 (0 : Int))) 27, .cells B_5 (iv .u8 l2) 25, .cells B_1 (iv .u8 l0) 23] := st_100
        refine WL.nil ?_
        refine QW.then_n ?_
        refine CW.seq ?_
        refine CW.seq ?_
        refine CW.region ?_
        refine WL.val Wanted.none (Runs.assign rfl) ?_
        refine WL.nil ?_
        refine QW.then_n ?_
        refine CW.block ?_
        obtain ⟨k_102, H⟩ := H
        refine CW.sub [(6, .pointer (some ⟨B_9, 0, none⟩)), (7, .pointer (some ⟨B_13, 0, none⟩)), (12, .pointer (some ⟨B_95, 0, none⟩)), (13, .int .i64 0)] ⟨rfl, rfl, rfl, rfl, trivial⟩ ?_
        refine CW.loop (fun kL4 l_ w_ => ∃ (m_103 : List Int) (x_105 : Int), l_ = [(6, .pointer (some ⟨B_9, 0, none⟩)), (7, .pointer (some ⟨B_13, 0, none⟩)), (12, .pointer (some ⟨B_95, 0, none⟩)), (13, .int .i64 x_105)] ∧ reliquaryref04_Block.L4 r0 m_75 kL4 m_103 x_105 ∧ (m_103.length = 16) ∧ St w w_ [.cells B_95 (iv .u32 m_103) 42, .obj B_17 (.cells cs_21.toArray 5 (16, 16 + 1)), .cells B_13 (iv .u32 m_75) 42, .cells B_9 (iv .u8 (List.replicate 64 (0 : Int))) 27, .cells B_5 (iv .u8 l2) 25, .cells B_1 (iv .u8 l0) 23]) (k := k_102) ⟨m_75, 0, rfl, H, hl_76, st_100⟩ (fun _ _ h => by obtain ⟨_, _, _, h, _⟩ := h; exact h.elim) ?_
        rintro kL4 l_108 w_106 ⟨m_103, x_105, rfl, H, hl_104, st_107⟩
        refine CW.seq ?_
        refine CW.seq ?_
        refine CW.region ?_
        refine WL.val Wanted.none (Runs.move rfl) ?_
        refine WL.val Wanted.none (Runs.lss rfl rfl rfl) ?_
        refine WL.nil ?_
        refine QW.then_n ?_
        rcases H with ⟨c_109, H⟩ | ⟨c_109, H⟩
        · have h_110 : (decide (x_105 < 10)) = true := (decide_eq_true c_109)
          refine CW.ct rfl h_110 ?_
          refine CW.skip ?_
          refine QW.then_n ?_
          refine CW.seq ?_
          refine CW.block ?_
          refine CW.seq ?_
          refine CW.seq ?_
          refine CW.region ?_
          refine WL.val Wanted.none (Runs.assign rfl) ?_
          refine WL.nil ?_
          refine QW.then_n ?_
          refine CW.block ?_
          obtain ⟨k_111, H⟩ := H
          refine CW.sub [(6, .pointer (some ⟨B_9, 0, none⟩)), (7, .pointer (some ⟨B_13, 0, none⟩)), (12, .pointer (some ⟨B_95, 0, none⟩)), (13, .int .i64 x_105), (56, .int .i64 x_105), (57, .bool (decide (x_105 < 10))), (14, .int .i64 0)] ⟨rfl, rfl, rfl, rfl, rfl, rfl, rfl, trivial⟩ ?_
          refine CW.loop (fun kL5 l_ w_ => ∃ (m_112 : List Int) (x_114 : Int), l_ = [(6, .pointer (some ⟨B_9, 0, none⟩)), (7, .pointer (some ⟨B_13, 0, none⟩)), (12, .pointer (some ⟨B_95, 0, none⟩)), (13, .int .i64 x_105), (56, .int .i64 x_105), (57, .bool (decide (x_105 < 10))), (14, .int .i64 x_114)] ∧ reliquaryref04_Block.L5 x_105 (reliquaryref04_Block.L4 r0 m_75 kL4) kL5 m_112 x_114 ∧ (m_112.length = 16) ∧ St w w_ [.cells B_95 (iv .u32 m_112) 42, .obj B_17 (.cells cs_21.toArray 5 (16, 16 + 1)), .cells B_13 (iv .u32 m_75) 42, .cells B_9 (iv .u8 (List.replicate 64 (0 : Int))) 27, .cells B_5 (iv .u8 l2) 25, .cells B_1 (iv .u8 l0) 23]) (k := k_111) ⟨m_103, 0, rfl, H, hl_104, st_107⟩ (fun _ _ h => by obtain ⟨_, _, _, h, _⟩ := h; exact h.elim) ?_
          rintro kL5 l_117 w_115 ⟨m_112, x_114, rfl, H, hl_113, st_116⟩
          refine CW.seq ?_
          refine CW.seq ?_
          refine CW.region ?_
          refine WL.val Wanted.none (Runs.move rfl) ?_
          refine WL.val Wanted.none (Runs.lss rfl rfl rfl) ?_
          refine WL.nil ?_
          refine QW.then_n ?_
          rcases H with ⟨c_118, H⟩ | ⟨c_118, H⟩
          · have h_119 : (decide (x_114 < 4)) = true := (decide_eq_true c_118)
            refine CW.ct rfl h_119 ?_
            refine CW.skip ?_
            refine QW.then_n ?_
            refine CW.seq ?_
            refine CW.block ?_
            refine CW.region ?_
            refine WL.val Wanted.none (Runs.load_arr arr42 rfl (st_116.blk (i := 0) rfl) hl_113) ?_
            refine WL.val Wanted.none (Runs.move rfl) ?_
            refine WL.val Wanted.none (Runs.move rfl) ?_
            refine WL.val Wanted.none (Runs.add rfl rfl rfl) ?_
            refine WL.val Wanted.none (Runs.move rfl) ?_
            refine WL.val Wanted.none (Runs.add rfl rfl rfl) ?_
            refine WL.val Wanted.none (Runs.move rfl) ?_
            refine WL.val Wanted.none (Runs.add rfl rfl rfl) ?_
            obtain ⟨r_124, hr_120, H⟩ := H
            refine WL.call Wanted.none ent21 rfl (reliquaryref04_quarter.calls w_115 m_112 x_114 (IntKind.i64.wrap (4 + x_114)) (IntKind.i64.wrap (8 + x_114)) (IntKind.i64.wrap (12 + x_114)) hl_113 r_124 hr_120) ?_
            rintro _ w_121 ⟨hl_125, rfl, sc_123⟩
            have st_122 : St w w_121 [.cells B_95 (iv .u32 m_112) 42, .obj B_17 (.cells cs_21.toArray 5 (16, 16 + 1)), .cells B_13 (iv .u32 m_75) 42, .cells B_9 (iv .u8 (List.replicate 64 (0 : Int))) 27, .cells B_5 (iv .u8 l2) 25, .cells B_1 (iv .u8 l0) 23] := st_116.call sc_123
            refine ⟨_, rfl, ?_⟩
            refine WL.store_arr (i := 0) st_122 rfl arr42 rfl (by rw [iv_length]; exact hl_113) hl_125 rfl ?_
            intro w_126 st_127
            replace st_127 : St w w_126 [.cells B_95 (iv .u32 r_124) 42, .obj B_17 (.cells cs_21.toArray 5 (16, 16 + 1)), .cells B_13 (iv .u32 m_75) 42, .cells B_9 (iv .u8 (List.replicate 64 (0 : Int))) 27, .cells B_5 (iv .u8 l2) 25, .cells B_1 (iv .u8 l0) 23] := st_127
            refine WL.nil ?_
            refine QW.blk_n ?_
            refine QW.then_n ?_
            refine CW.region ?_
            refine WL.val Wanted.none (Runs.move rfl) ?_
            refine WL.val Wanted.none (Runs.add rfl rfl rfl) ?_
            refine WL.val Wanted.none (Runs.assign rfl) ?_
            refine WL.nil ?_
            exact QW.at [(6, .pointer (some ⟨B_9, 0, none⟩)), (7, .pointer (some ⟨B_13, 0, none⟩)), (12, .pointer (some ⟨B_95, 0, none⟩)), (13, .int .i64 x_105), (56, .int .i64 x_105), (57, .bool (decide (x_105 < 10))), (14, .int .i64 (IntKind.i64.wrap (x_114 + 1)))] ⟨rfl, rfl, rfl, rfl, rfl, rfl, rfl, trivial⟩ ⟨r_124, IntKind.i64.wrap (x_114 + 1), rfl, H, hl_125, st_127⟩
          · have h_119 : (decide (x_114 < 4)) = false := (decide_eq_false c_118)
            refine CW.cf rfl h_119 ?_
            refine CW.exit ?_
            refine QW.then_x ?_
            refine QW.then_x ?_
            refine QW.blk_x ?_
            refine QW.then_n ?_
            refine CW.seq ?_
            refine CW.region ?_
            refine WL.val Wanted.none (Runs.assign rfl) ?_
            refine WL.nil ?_
            refine QW.then_n ?_
            refine CW.block ?_
            obtain ⟨k_129, H⟩ := H
            refine CW.sub [(6, .pointer (some ⟨B_9, 0, none⟩)), (7, .pointer (some ⟨B_13, 0, none⟩)), (12, .pointer (some ⟨B_95, 0, none⟩)), (13, .int .i64 x_105), (56, .int .i64 x_105), (57, .bool (decide (x_105 < 10))), (14, .int .i64 x_114), (60, .int .i64 x_114), (61, .bool (decide (x_114 < 4))), (15, .int .i64 0)] ⟨rfl, rfl, rfl, rfl, rfl, rfl, rfl, rfl, rfl, rfl, trivial⟩ ?_
            refine CW.loop (fun kL6 l_ w_ => ∃ (m_130 : List Int) (x_132 : Int), l_ = [(6, .pointer (some ⟨B_9, 0, none⟩)), (7, .pointer (some ⟨B_13, 0, none⟩)), (12, .pointer (some ⟨B_95, 0, none⟩)), (13, .int .i64 x_105), (56, .int .i64 x_105), (57, .bool (decide (x_105 < 10))), (14, .int .i64 x_114), (60, .int .i64 x_114), (61, .bool (decide (x_114 < 4))), (15, .int .i64 x_132)] ∧ reliquaryref04_Block.L6 x_105 (reliquaryref04_Block.L4 r0 m_75 kL4) kL6 m_130 x_132 ∧ (m_130.length = 16) ∧ St w w_ [.cells B_95 (iv .u32 m_130) 42, .obj B_17 (.cells cs_21.toArray 5 (16, 16 + 1)), .cells B_13 (iv .u32 m_75) 42, .cells B_9 (iv .u8 (List.replicate 64 (0 : Int))) 27, .cells B_5 (iv .u8 l2) 25, .cells B_1 (iv .u8 l0) 23]) (k := k_129) ⟨m_112, 0, rfl, H, hl_113, st_116⟩ (fun _ _ h => by obtain ⟨_, _, _, h, _⟩ := h; exact h.elim) ?_
            rintro kL6 l_135 w_133 ⟨m_130, x_132, rfl, H, hl_131, st_134⟩
            refine CW.seq ?_
            refine CW.seq ?_
            refine CW.region ?_
            refine WL.val Wanted.none (Runs.move rfl) ?_
            refine WL.val Wanted.none (Runs.lss rfl rfl rfl) ?_
            refine WL.nil ?_
            refine QW.then_n ?_
            rcases H with ⟨c_136, H⟩ | ⟨c_136, H⟩
            · have h_137 : (decide (x_132 < 4)) = true := (decide_eq_true c_136)
              refine CW.ct rfl h_137 ?_
              refine CW.skip ?_
              refine QW.then_n ?_
              refine CW.seq ?_
              refine CW.block ?_
              refine CW.region ?_
              refine WL.val Wanted.none (Runs.load_arr arr42 rfl (st_134.blk (i := 0) rfl) hl_131) ?_
              refine WL.val Wanted.none (Runs.move rfl) ?_
              refine WL.val Wanted.none (Runs.move rfl) ?_
              refine WL.val Wanted.none (Runs.add rfl rfl rfl) ?_
              refine WL.val Wanted.none (Runs.rem rfl rfl (by decide) rfl) ?_
              obtain ⟨x_138, e_139, H⟩ := H
              refine WL.val Wanted.none (Runs.add rfl rfl e_139) ?_
              refine WL.val Wanted.none (Runs.move rfl) ?_
              refine WL.val Wanted.none (Runs.add rfl rfl rfl) ?_
              refine WL.val Wanted.none (Runs.rem rfl rfl (by decide) rfl) ?_
              obtain ⟨x_140, e_141, H⟩ := H
              refine WL.val Wanted.none (Runs.add rfl rfl e_141) ?_
              refine WL.val Wanted.none (Runs.move rfl) ?_
              refine WL.val Wanted.none (Runs.add rfl rfl rfl) ?_
              refine WL.val Wanted.none (Runs.rem rfl rfl (by decide) rfl) ?_
              obtain ⟨x_142, e_143, H⟩ := H
              refine WL.val Wanted.none (Runs.add rfl rfl e_143) ?_
              obtain ⟨r_148, hr_144, H⟩ := H
              refine WL.call Wanted.none ent21 rfl (reliquaryref04_quarter.calls w_133 m_130 x_132 x_138 x_140 x_142 hl_131 r_148 hr_144) ?_
              rintro _ w_145 ⟨hl_149, rfl, sc_147⟩
              have st_146 : St w w_145 [.cells B_95 (iv .u32 m_130) 42, .obj B_17 (.cells cs_21.toArray 5 (16, 16 + 1)), .cells B_13 (iv .u32 m_75) 42, .cells B_9 (iv .u8 (List.replicate 64 (0 : Int))) 27, .cells B_5 (iv .u8 l2) 25, .cells B_1 (iv .u8 l0) 23] := st_134.call sc_147
              refine ⟨_, rfl, ?_⟩
              refine WL.store_arr (i := 0) st_146 rfl arr42 rfl (by rw [iv_length]; exact hl_131) hl_149 rfl ?_
              intro w_150 st_151
              replace st_151 : St w w_150 [.cells B_95 (iv .u32 r_148) 42, .obj B_17 (.cells cs_21.toArray 5 (16, 16 + 1)), .cells B_13 (iv .u32 m_75) 42, .cells B_9 (iv .u8 (List.replicate 64 (0 : Int))) 27, .cells B_5 (iv .u8 l2) 25, .cells B_1 (iv .u8 l0) 23] := st_151
              refine WL.nil ?_
              refine QW.blk_n ?_
              refine QW.then_n ?_
              refine CW.region ?_
              refine WL.val Wanted.none (Runs.move rfl) ?_
              refine WL.val Wanted.none (Runs.add rfl rfl rfl) ?_
              refine WL.val Wanted.none (Runs.assign rfl) ?_
              refine WL.nil ?_
              exact QW.at [(6, .pointer (some ⟨B_9, 0, none⟩)), (7, .pointer (some ⟨B_13, 0, none⟩)), (12, .pointer (some ⟨B_95, 0, none⟩)), (13, .int .i64 x_105), (56, .int .i64 x_105), (57, .bool (decide (x_105 < 10))), (14, .int .i64 x_114), (60, .int .i64 x_114), (61, .bool (decide (x_114 < 4))), (15, .int .i64 (IntKind.i64.wrap (x_132 + 1)))] ⟨rfl, rfl, rfl, rfl, rfl, rfl, rfl, rfl, rfl, rfl, trivial⟩ ⟨r_148, IntKind.i64.wrap (x_132 + 1), rfl, H, hl_149, st_151⟩
            · have h_137 : (decide (x_132 < 4)) = false := (decide_eq_false c_136)
              refine CW.cf rfl h_137 ?_
              refine CW.exit ?_
              refine QW.then_x ?_
              refine QW.then_x ?_
              refine QW.blk_x ?_
              refine QW.blk_n ?_
              refine QW.then_n ?_
              refine CW.region ?_
              refine WL.val Wanted.none (Runs.move rfl) ?_
              refine WL.val Wanted.none (Runs.add rfl rfl rfl) ?_
              refine WL.val Wanted.none (Runs.assign rfl) ?_
              refine WL.nil ?_
              exact QW.at [(6, .pointer (some ⟨B_9, 0, none⟩)), (7, .pointer (some ⟨B_13, 0, none⟩)), (12, .pointer (some ⟨B_95, 0, none⟩)), (13, .int .i64 (IntKind.i64.wrap (x_105 + 1)))] ⟨rfl, rfl, rfl, rfl, trivial⟩ ⟨m_130, IntKind.i64.wrap (x_105 + 1), rfl, H, hl_131, st_134⟩
        · have h_110 : (decide (x_105 < 10)) = false := (decide_eq_false c_109)
          refine CW.cf rfl h_110 ?_
          refine CW.exit ?_
          refine QW.then_x ?_
          refine QW.then_x ?_
          refine QW.blk_x ?_
          refine QW.then_n ?_
          refine CW.seq ?_
          refine CW.region ?_
          refine WL.alloc st_107 arr27.zero ?_
          intro B_153 w_154 st_155
          replace st_155 : St w w_154 [.cells B_153 (iv .u8 (List.replicate 64 (0 : Int))) 27, .cells B_95 (iv .u32 m_103) 42, .obj B_17 (.cells cs_21.toArray 5 (16, 16 + 1)), .cells B_13 (iv .u32 m_75) 42, .cells B_9 (iv .u8 (List.replicate 64 (0 : Int))) 27, .cells B_5 (iv .u8 l2) 25, .cells B_1 (iv .u8 l0) 23] := st_155
          refine WL.nil ?_
          refine QW.then_n ?_
          refine CW.seq ?_
          refine CW.seq ?_
          refine CW.region ?_
          refine WL.val Wanted.none (Runs.assign rfl) ?_
          refine WL.nil ?_
          refine QW.then_n ?_
          refine CW.block ?_
          obtain ⟨k_157, H⟩ := H
          refine CW.sub [(6, .pointer (some ⟨B_9, 0, none⟩)), (7, .pointer (some ⟨B_13, 0, none⟩)), (12, .pointer (some ⟨B_95, 0, none⟩)), (16, .pointer (some ⟨B_153, 0, none⟩)), (17, .int .i64 0)] ⟨rfl, rfl, rfl, rfl, rfl, trivial⟩ ?_
          refine CW.loop (fun kL7 l_ w_ => ∃ (m_158 : List Int) (x_160 : Int), l_ = [(6, .pointer (some ⟨B_9, 0, none⟩)), (7, .pointer (some ⟨B_13, 0, none⟩)), (12, .pointer (some ⟨B_95, 0, none⟩)), (16, .pointer (some ⟨B_153, 0, none⟩)), (17, .int .i64 x_160)] ∧ reliquaryref04_Block.L7 r0 m_75 m_103 kL7 m_158 x_160 ∧ (m_158.length = 64) ∧ St w w_ [.cells B_153 (iv .u8 m_158) 27, .cells B_95 (iv .u32 m_103) 42, .obj B_17 (.cells cs_21.toArray 5 (16, 16 + 1)), .cells B_13 (iv .u32 m_75) 42, .cells B_9 (iv .u8 (List.replicate 64 (0 : Int))) 27, .cells B_5 (iv .u8 l2) 25, .cells B_1 (iv .u8 l0) 23]) (k := k_157) ⟨List.replicate 64 (0 : Int), 0, rfl, H, (List.length_replicate ..), st_155⟩ (fun _ _ h => by obtain ⟨_, _, _, h, _⟩ := h; exact h.elim) ?_
          rintro kL7 l_163 w_161 ⟨m_158, x_160, rfl, H, hl_159, st_162⟩
          refine CW.seq ?_
          refine CW.seq ?_
          refine CW.region ?_
          refine WL.val Wanted.none (Runs.move rfl) ?_
          refine WL.val Wanted.none (Runs.lss rfl rfl rfl) ?_
          refine WL.nil ?_
          refine QW.then_n ?_
          rcases H with ⟨c_164, H⟩ | ⟨c_164, H⟩
          · have h_165 : (decide (x_160 < 64)) = true := (decide_eq_true c_164)
            refine CW.ct rfl h_165 ?_
            refine CW.skip ?_
            refine QW.then_n ?_
            refine CW.seq ?_
            refine CW.block ?_
            refine CW.seq ?_
            refine CW.region_qa wide (by kernel_rfl) st_162 ?_
            refine HL.val Wanted.none (fun wq sq => (Runs.move rfl)) ?_
            refine HL.val Wanted.none (fun wq sq => (Runs.quo rfl rfl (by decide) rfl)) ?_
            obtain ⟨⟨p_166, q_167⟩, H⟩ := H
            refine HL.val Wanted.none (fun wq sq => (Runs.indexAddr_blk arr42 rfl rfl p_166 q_167 (o := (IntKind.i64.wrap (Int.tdiv x_160 4)).toNat) (by first | rfl | omega))) ?_
            refine HL.val Wanted.none (fun wq sq => (Runs.load nagg24 rfl (sq.cell_iv (i := 1) rfl (by have := hl_104; omega)))) ?_
            refine HL.val Wanted.none (fun wq sq => (Runs.move rfl)) ?_
            refine HL.val Wanted.none (fun wq sq => (Runs.quo rfl rfl (by decide) rfl)) ?_
            obtain ⟨⟨p_168, q_169⟩, H⟩ := H
            refine HL.val Wanted.none (fun wq sq => (Runs.indexAddr_blk arr42 rfl rfl p_168 q_169 (o := (IntKind.i64.wrap (Int.tdiv x_160 4)).toNat) (by first | rfl | omega))) ?_
            refine HL.val Wanted.none (fun wq sq => (Runs.load nagg24 rfl (sq.cell_iv (i := 3) rfl (by have := hl_76; omega)))) ?_
            obtain ⟨x_170, e_171, H⟩ := H
            refine HL.val Wanted.none (fun wq sq => (Runs.add rfl rfl e_171)) ?_
            refine HL.val Wanted.none (fun wq sq => (Runs.assign rfl)) ?_
            refine HL.nil (fun w_172 st_173 => ?_)
            refine WL.nil ?_
            refine QW.then_n ?_
            refine CW.region ?_
            refine WL.val Wanted.none (Runs.move rfl) ?_
            refine WL.val Wanted.none (Runs.move rfl) ?_
            refine WL.val Wanted.none (Runs.move rfl) ?_
            refine WL.val Wanted.none (Runs.rem rfl rfl (by decide) rfl) ?_
            refine WL.val Wanted.none (Runs.mul rfl rfl rfl) ?_
            refine WL.val Wanted.none (Runs.conv Tryd.underlying51 ⟨_, Tryd.underlying3⟩ rfl rfl) ?_
            obtain ⟨z_174, H⟩ := H
            obtain ⟨x_175, e_176, H⟩ := H
            refine WL.val Wanted.none (Runs.shr rfl rfl z_174 e_176) ?_
            refine WL.val Wanted.none (Runs.conv Tryd.underlying5 ⟨_, Tryd.underlying24⟩ rfl rfl) ?_
            obtain ⟨⟨p_177, q_178⟩, H⟩ := H
            refine WL.val Wanted.none (Runs.indexAddr_blk arr27 rfl rfl p_177 q_178 (o := (x_160).toNat) (by first | rfl | omega)) ?_
            obtain ⟨m_179, e_180, H⟩ := H
            have hl_183 : m_179.length = 64 := by rw [e_180, List.length_set]; exact hl_159
            refine WL.store_cells (i := 0) st_173 rfl cells5 rfl (by rw [iv_length]; have := hl_159; omega) rfl rfl ?_
            intro w_181 st_182
            have st_182' : St w w_181 [.cells B_153 (iv .u8 m_179) 27, .cells B_95 (iv .u32 m_103) 42, .obj B_17 (.cells cs_21.toArray 5 (16, 16 + 1)), .cells B_13 (iv .u32 m_75) 42, .cells B_9 (iv .u8 (List.replicate 64 (0 : Int))) 27, .cells B_5 (iv .u8 l2) 25, .cells B_1 (iv .u8 l0) 23] := by rw [e_180, ← iv_set .u8 m_158 ((x_160).toNat) (IntKind.u8.wrap x_175)]; exact st_182
            refine WL.nil ?_
            refine QW.blk_n ?_
            refine QW.then_n ?_
            refine CW.region ?_
            refine WL.val Wanted.none (Runs.move rfl) ?_
            refine WL.val Wanted.none (Runs.add rfl rfl rfl) ?_
            refine WL.val Wanted.none (Runs.assign rfl) ?_
            refine WL.nil ?_
            exact QW.at [(6, .pointer (some ⟨B_9, 0, none⟩)), (7, .pointer (some ⟨B_13, 0, none⟩)), (12, .pointer (some ⟨B_95, 0, none⟩)), (16, .pointer (some ⟨B_153, 0, none⟩)), (17, .int .i64 (IntKind.i64.wrap (x_160 + 1)))] ⟨rfl, rfl, rfl, rfl, rfl, trivial⟩ ⟨m_179, IntKind.i64.wrap (x_160 + 1), rfl, H, hl_183, st_182'⟩
          · have h_165 : (decide (x_160 < 64)) = false := (decide_eq_false c_164)
            refine CW.cf rfl h_165 ?_
            refine CW.exit ?_
            refine QW.then_x ?_
            refine QW.then_x ?_
            refine QW.blk_x ?_
            refine QW.then_n ?_
            refine CW.seq ?_
            refine CW.region ?_
            refine WL.val Wanted.none (Runs.load_arr arr27 rfl (st_162.blk (i := 0) rfl) hl_159) ?_
            refine WL.store_arr (i := 4) st_162 rfl arr27 rfl (by rw [iv_length]; exact (List.length_replicate ..)) hl_159 rfl ?_
            intro w_184 st_185
            replace st_185 : St w w_184 [.cells B_153 (iv .u8 m_158) 27, .cells B_95 (iv .u32 m_103) 42, .obj B_17 (.cells cs_21.toArray 5 (16, 16 + 1)), .cells B_13 (iv .u32 m_75) 42, .cells B_9 (iv .u8 m_158) 27, .cells B_5 (iv .u8 l2) 25, .cells B_1 (iv .u8 l0) 23] := st_185
            refine WL.nil ?_
            refine QW.then_n ?_
            refine CW.sub [(6, .pointer (some ⟨B_9, 0, none⟩))] ⟨rfl, trivial⟩ ?_
            refine CW.ret ?_
            obtain rfl := H
            exact QW.retc rfl arr27 rfl (st_185.blk (i := 4) rfl) hl_159 ⟨hl_159, rfl, st_185.pick [] (by decide)⟩

/-! ### reliquarylaw04_CipherBlocks: function 3 -/
def reliquarylaw04_CipherBlocks.rel (l0 : List Int) (a1 : Int) (l2 : List Int)  : Prop := (reliquarylaw04_awake.rel  ∧ (∃ (r_17 : List Int), cipher_Block.rel l0 a1 l2 r_17 ∧ (r_17.length = 64 ∧ (∃ (r_23 : List Int), reliquaryref04_Block.rel l0 a1 l2 r_23 ∧ (r_23.length = 64 ∧ r_17 = r_23)))))
set_option maxHeartbeats 4000000 in
set_option maxRecDepth 100000 in
theorem reliquarylaw04_CipherBlocks.calls (w : World) (l0 : List Int) (a1 : Int) (l2 : List Int)   (hG0 : Src w (some ⟨0, 0, none⟩) (iv .i64 tab0)) (hl0 : l0.length = 32) (hl2 : l2.length = 12)  (H : reliquarylaw04_CipherBlocks.rel l0 a1 l2 ) :
    Calls Tryd.prog 3 #[.agg (iv .u8 l0).toArray, .int .u32 a1, .agg (iv .u8 l2).toArray] w fun e w' => e = .returned (.bool true) ∧ Below w.heap.size w w' := by
  refine CW.enter Tryd.func3 rfl (n := 20) rfl [.agg (iv .u8 l0).toArray, .int .u32 a1, .agg (iv .u8 l2).toArray] (Nat.le_of_ble_eq_true rfl) ?_
  refine CW.sub [(0, .agg (iv .u8 l0).toArray), (1, .int .u32 a1), (2, .agg (iv .u8 l2).toArray)] ⟨rfl, rfl, rfl, trivial⟩ ?_
  have st0 : St w w [] := St.refl w
  refine CW.seq ?_
  refine CW.region ?_
  refine WL.box st0 rfl rfl ?_
  intro B_1 w_2 st_3
  replace st_3 : St w w_2 [.cells B_1 (iv .u8 l0) 23] := st_3
  refine WL.box st_3 rfl rfl ?_
  intro B_5 w_6 st_7
  replace st_7 : St w w_6 [.cells B_5 (iv .u8 l2) 25, .cells B_1 (iv .u8 l0) 23] := st_7
  refine WL.val Wanted.none (Runs.assign rfl) ?_
  refine WL.nil ?_
  refine QW.then_n ?_
  refine CW.seq ?_
  refine CW.region ?_
  obtain ⟨hr_9, H⟩ := H
  refine WL.call Wanted.none ent9 rfl (reliquarylaw04_awake.calls w_6 (hG0.ext st_7) hr_9) ?_
  rintro _ w_10 ⟨rfl, sc_12⟩
  have st_11 : St w w_10 [.cells B_5 (iv .u8 l2) 25, .cells B_1 (iv .u8 l0) 23] := st_7.below sc_12
  refine ⟨_, rfl, ?_⟩
  refine WL.val Wanted.none (Runs.assign rfl) ?_
  refine WL.nil ?_
  refine QW.then_n ?_
  refine CW.seq ?_
  refine CW.seq ?_
  refine CW.region ?_
  refine WL.val Wanted.none (Runs.move rfl) ?_
  refine WL.val Wanted.none (Runs.not rfl rfl) ?_
  refine WL.nil ?_
  refine QW.then_n ?_
  refine CW.cf rfl rfl ?_
  refine CW.skip ?_
  refine QW.then_n ?_
  refine CW.sub [(1, .int .u32 a1), (3, .pointer (some ⟨B_1, 0, none⟩)), (5, .pointer (some ⟨B_5, 0, none⟩)), (6, .bool false)] ⟨rfl, rfl, rfl, rfl, trivial⟩ ?_
  refine CW.seq ?_
  refine CW.region_qa wide (by kernel_rfl) st_11 ?_
  refine HL.val Wanted.none (fun wq sq => (Runs.load_arr arr23 rfl (sq.blk (i := 1) rfl) hl0)) ?_
  refine HL.val Wanted.none (fun wq sq => (Runs.move rfl)) ?_
  refine HL.val Wanted.none (fun wq sq => (Runs.load_arr arr25 rfl (sq.blk (i := 0) rfl) hl2)) ?_
  obtain ⟨r_17, hr_13, H⟩ := H
  obtain ⟨hl_18, H⟩ := H
  refine HL.call Wanted.none ent10 rfl (fun wq sq => (cipher_Block.calls wq l0 a1 l2 (hG0.ext sq) hl0 hl2 r_17 hr_13).mono (by rintro _ _ ⟨_, rfl, sc⟩; exact ⟨rfl, sq.call sc⟩)) ?_
  refine HL.val Wanted.none (fun wq sq => (Runs.load_arr arr23 rfl (sq.blk (i := 1) rfl) hl0)) ?_
  refine HL.val Wanted.none (fun wq sq => (Runs.move rfl)) ?_
  refine HL.val Wanted.none (fun wq sq => (Runs.load_arr arr25 rfl (sq.blk (i := 0) rfl) hl2)) ?_
  obtain ⟨r_23, hr_19, H⟩ := H
  obtain ⟨hl_24, H⟩ := H
  refine HL.call Wanted.none ent11 rfl (fun wq sq => (reliquaryref04_Block.calls wq l0 a1 l2 hl0 hl2 r_23 hr_19).mono (by rintro _ _ ⟨_, rfl, sc⟩; exact ⟨rfl, sq.call sc⟩)) ?_
  refine HL.val Wanted.none (fun wq sq => (Runs.eql_arr arr27 eqg27 rfl rfl hl_18 hl_24 rfl)) ?_
  refine HL.val Wanted.none (fun wq sq => (Runs.assign rfl)) ?_
  refine HL.nil (fun w_25 st_26 => ?_)
  refine WL.nil ?_
  refine QW.then_n ?_
  refine CW.sub [(6, .bool (r_17 == r_23))] ⟨rfl, trivial⟩ ?_
  refine CW.ret ?_
  have hz : (r_17 == r_23) = true := (beq_iff_eq.mpr H)
  exact QW.ret1 rfl (evb rfl hz) ⟨rfl, st_26.ext⟩

/-! ### reliquaryref04_Crypt: function 14 -/
def reliquaryref04_Crypt.L2 (l3 : List Int) (x_23 : Int) (r_33 : List Int) (K_L1 : (List Int) → Int → Prop) : Nat → (List Int) → Int → Prop
  | 0, _, _ => False
  | kL2 + 1, l_45, x_48 => ((x_48 < 64 ∧ (∃ x_54 : Int, x_54 = IntKind.i64.wrap ((IntKind.i64.wrap ((IntKind.i64.wrap x_23) * 64)) + x_48) ∧ ((x_54 < (l3.length : Int) ∧ ((0 ≤ x_54 ∧ x_54 < (l3.length : Int)) ∧ ((0 ≤ x_48 ∧ x_48 < (64 : Int)) ∧ (∃ x_66 : Int, x_66 = bits .xor .u8 (gn l3 ((x_54).toNat)) (gn r_33 ((x_48).toNat)) ∧ (∃ m_72 : List Int, m_72 = l_45 ++ [x_66] ∧ (m_72.length ≤ 1099511627776 ∧ reliquaryref04_Crypt.L2 l3 x_23 r_33 K_L1 kL2 m_72 (IntKind.i64.wrap (x_48 + 1)))))))) ∨ (¬ (x_54 < (l3.length : Int)) ∧ reliquaryref04_Crypt.L2 l3 x_23 r_33 K_L1 kL2 l_45 (IntKind.i64.wrap (x_48 + 1)))))) ∨ (¬ (x_48 < 64) ∧ K_L1 l_45 (IntKind.u64.wrap (x_23 + 1))))
def reliquaryref04_Crypt.L1 (l0 : List Int) (a1 : Int) (l2 : List Int) (l3 : List Int) (r0 : List Int) (r1 : Int) (x_9 : Int) : Nat → (List Int) → Int → Prop
  | 0, _, _ => False
  | kL1 + 1, l_20, x_23 => ((x_23 < x_9 ∧ (∃ (r_33 : List Int), reliquaryref04_Block.rel l0 (IntKind.u32.wrap (a1 + (IntKind.u32.wrap x_23))) l2 r_33 ∧ (∃ k_ : Nat, reliquaryref04_Crypt.L2 l3 x_23 r_33 (reliquaryref04_Crypt.L1 l0 a1 l2 l3 r0 r1 x_9 kL1) k_ l_20 0))) ∨ (¬ (x_23 < x_9) ∧ r0 = l_20 ∧ r1 = 0))
def reliquaryref04_Crypt.rel (l0 : List Int) (a1 : Int) (l2 : List Int) (l3 : List Int) (r0 : List Int) (r1 : Int) : Prop := (∃ x_9 : Int, x_9 = IntKind.u64.wrap (Int.tdiv (IntKind.u64.wrap (IntKind.i64.wrap ((l3.length : Int) + 63))) 64) ∧ (((IntKind.u64.wrap ((IntKind.u64.wrap a1) + x_9)) > 4294967296 ∧ r0 = [] ∧ r1 = 1) ∨ (¬ ((IntKind.u64.wrap ((IntKind.u64.wrap a1) + x_9)) > 4294967296) ∧ (∃ k_ : Nat, reliquaryref04_Crypt.L1 l0 a1 l2 l3 r0 r1 x_9 k_ ([] : List Int) 0))))
set_option maxHeartbeats 4000000 in
set_option maxRecDepth 100000 in
theorem reliquaryref04_Crypt.calls (w : World) (l0 : List Int) (a1 : Int) (l2 : List Int) (l3 : List Int) (A3 : Option Addr) (n3 : Nat) (c3 : Nat)  (hl0 : l0.length = 32) (hl2 : l2.length = 12) (hs3 : Src w A3 (iv .u8 l3)) (hn3 : n3 = l3.length) (hc3 : n3 ≤ c3) (r0 : List Int) (r1 : Int) (H : reliquaryref04_Crypt.rel l0 a1 l2 l3 r0 r1) :
    Calls Tryd.prog 14 #[.agg (iv .u8 l0).toArray, .int .u32 a1, .agg (iv .u8 l2).toArray, .slice A3 n3 c3] w fun e w' => ∃ B0 q0 z0, z0 = r0.length ∧ e = .returned (.tuple #[.slice B0 z0 q0, .int .i64 r1]) ∧ St w w' [.sl B0 q0 z0 (iv .u8 r0) 5 1] := by
  refine CW.enter Tryd.func14 rfl (n := 63) rfl [.agg (iv .u8 l0).toArray, .int .u32 a1, .agg (iv .u8 l2).toArray, .slice A3 n3 c3] (Nat.le_of_ble_eq_true rfl) ?_
  refine CW.sub [(0, .agg (iv .u8 l0).toArray), (1, .int .u32 a1), (2, .agg (iv .u8 l2).toArray), (3, .slice A3 n3 c3)] ⟨rfl, rfl, rfl, rfl, trivial⟩ ?_
  have st0 : St w w [] := St.refl w
  refine CW.seq ?_
  refine CW.region ?_
  refine WL.box st0 rfl rfl ?_
  intro B_1 w_2 st_3
  replace st_3 : St w w_2 [.cells B_1 (iv .u8 l0) 23] := st_3
  refine WL.box st_3 rfl rfl ?_
  intro B_5 w_6 st_7
  replace st_7 : St w w_6 [.cells B_5 (iv .u8 l2) 25, .cells B_1 (iv .u8 l0) 23] := st_7
  refine WL.val Wanted.none (Runs.assign rfl) ?_
  refine WL.val Wanted.none (Runs.assign rfl) ?_
  refine WL.nil ?_
  refine QW.then_n ?_
  refine CW.seq ?_
  refine CW.region ?_
  refine WL.val Wanted.none (Runs.move rfl) ?_
  refine WL.val Wanted.none (Runs.len_sl Tryd.underlying31 rfl (by rw [hn3])) ?_
  refine WL.val Wanted.none (Runs.add rfl rfl rfl) ?_
  refine WL.val Wanted.none (Runs.conv Tryd.underlying30 ⟨_, Tryd.underlying3⟩ rfl rfl) ?_
  obtain ⟨x_9, e_10, H⟩ := H
  refine WL.val Wanted.none (Runs.quo rfl rfl (by decide) e_10) ?_
  refine WL.val Wanted.none (Runs.assign rfl) ?_
  refine WL.nil ?_
  refine QW.then_n ?_
  refine CW.sub [(1, .int .u32 a1), (3, .slice A3 n3 c3), (4, .pointer (some ⟨B_1, 0, none⟩)), (6, .pointer (some ⟨B_5, 0, none⟩)), (8, .slice none 0 0), (9, .int .i64 0), (10, .int .u64 x_9)] ⟨rfl, rfl, rfl, rfl, rfl, rfl, rfl, trivial⟩ ?_
  refine CW.seq ?_
  refine CW.seq ?_
  refine CW.region ?_
  refine WL.val Wanted.none (Runs.move rfl) ?_
  refine WL.val Wanted.none (Runs.conv Tryd.underlying30 ⟨_, Tryd.underlying24⟩ rfl rfl) ?_
  refine WL.val Wanted.none (Runs.move rfl) ?_
  refine WL.val Wanted.none (Runs.add rfl rfl rfl) ?_
  refine WL.val Wanted.none (Runs.gtr rfl rfl rfl) ?_
  refine WL.nil ?_
  refine QW.then_n ?_
  rcases H with ⟨c_11, H⟩ | ⟨c_11, H⟩
  · have h_12 : (decide ((IntKind.u64.wrap ((IntKind.u64.wrap a1) + x_9)) > 4294967296)) = true := (decide_eq_true c_11)
    refine CW.ct rfl h_12 ?_
    refine CW.seq ?_
    refine CW.region ?_
    refine WL.val Wanted.none (Runs.assign rfl) ?_
    refine WL.val Wanted.none (Runs.assign rfl) ?_
    refine WL.nil ?_
    refine QW.then_n ?_
    refine CW.ret ?_
    refine QW.then_r ?_
    have st_14 := st_7.nil_sl 5 1
    have st_14 : St w w_6 [.sl none 0 0 (iv .u8 ([] : List Int)) 5 1, .cells B_5 (iv .u8 l2) 25, .cells B_1 (iv .u8 l0) 23] := st_14
    obtain ⟨rfl, rfl⟩ := H
    exact QW.ret2 rfl rfl rfl ⟨none, 0, 0, rfl, rfl, st_14.pick [0] (by decide)⟩
  · have h_12 : (decide ((IntKind.u64.wrap ((IntKind.u64.wrap a1) + x_9)) > 4294967296)) = false := (decide_eq_false c_11)
    refine CW.cf rfl h_12 ?_
    refine CW.skip ?_
    refine QW.then_n ?_
    refine CW.seq ?_
    refine CW.region ?_
    refine WL.val Wanted.none (Runs.assign rfl) ?_
    refine WL.nil ?_
    refine QW.then_n ?_
    refine CW.seq ?_
    refine CW.seq ?_
    refine CW.region ?_
    refine WL.val Wanted.none (Runs.assign rfl) ?_
    refine WL.nil ?_
    refine QW.then_n ?_
    refine CW.block ?_
    have st_16 := st_7.nil_sl 5 1
    have st_16 : St w w_6 [.sl none 0 0 (iv .u8 ([] : List Int)) 5 1, .cells B_5 (iv .u8 l2) 25, .cells B_1 (iv .u8 l0) 23] := st_16
    obtain ⟨k_17, H⟩ := H
    refine CW.sub [(1, .int .u32 a1), (3, .slice A3 n3 c3), (4, .pointer (some ⟨B_1, 0, none⟩)), (6, .pointer (some ⟨B_5, 0, none⟩)), (8, .slice none 0 0), (9, .int .i64 0), (10, .int .u64 x_9), (11, .slice none 0 0), (12, .int .u64 0)] ⟨rfl, rfl, rfl, rfl, rfl, rfl, rfl, rfl, rfl, trivial⟩ ?_
    refine CW.loop (fun kL1 l_ w_ => ∃ (A_18 : Option Addr) (c_19 : Nat) (n_21 : Nat) (l_20 : List Int) (x_23 : Int), l_ = [(1, .int .u32 a1), (3, .slice A3 n3 c3), (4, .pointer (some ⟨B_1, 0, none⟩)), (6, .pointer (some ⟨B_5, 0, none⟩)), (8, .slice none 0 0), (9, .int .i64 0), (10, .int .u64 x_9), (11, .slice A_18 n_21 c_19), (12, .int .u64 x_23)] ∧ reliquaryref04_Crypt.L1 l0 a1 l2 l3 r0 r1 x_9 kL1 l_20 x_23 ∧ (n_21 = l_20.length) ∧ St w w_ [.sl A_18 c_19 n_21 (iv .u8 l_20) 5 1, .cells B_5 (iv .u8 l2) 25, .cells B_1 (iv .u8 l0) 23]) (k := k_17) ⟨none, 0, 0, ([] : List Int), 0, rfl, H, rfl, st_16⟩ (fun _ _ h => by obtain ⟨_, _, _, _, _, _, h, _⟩ := h; exact h.elim) ?_
    rintro kL1 l_26 w_24 ⟨A_18, c_19, n_21, l_20, x_23, rfl, H, hn_22, st_25⟩
    refine CW.seq ?_
    refine CW.seq ?_
    refine CW.region ?_
    refine WL.val Wanted.none (Runs.move rfl) ?_
    refine WL.val Wanted.none (Runs.move rfl) ?_
    refine WL.val Wanted.none (Runs.lss rfl rfl rfl) ?_
    refine WL.nil ?_
    refine QW.then_n ?_
    rcases H with ⟨c_27, H⟩ | ⟨c_27, H⟩
    · have h_28 : (decide (x_23 < x_9)) = true := (decide_eq_true c_27)
      refine CW.ct rfl h_28 ?_
      refine CW.skip ?_
      refine QW.then_n ?_
      refine CW.seq ?_
      refine CW.block ?_
      refine CW.seq ?_
      refine CW.region ?_
      refine WL.val Wanted.none (Runs.load_arr arr23 rfl (st_25.blk (i := 2) rfl) hl0) ?_
      refine WL.val Wanted.none (Runs.move rfl) ?_
      refine WL.val Wanted.none (Runs.move rfl) ?_
      refine WL.val Wanted.none (Runs.conv Tryd.underlying24 ⟨_, Tryd.underlying30⟩ rfl rfl) ?_
      refine WL.val Wanted.none (Runs.add rfl rfl rfl) ?_
      refine WL.val Wanted.none (Runs.load_arr arr25 rfl (st_25.blk (i := 1) rfl) hl2) ?_
      obtain ⟨r_33, hr_29, H⟩ := H
      refine WL.call Wanted.none ent11 rfl (reliquaryref04_Block.calls w_24 l0 (IntKind.u32.wrap (a1 + (IntKind.u32.wrap x_23))) l2 hl0 hl2 r_33 hr_29) ?_
      rintro _ w_30 ⟨hl_34, rfl, sc_32⟩
      have st_31 : St w w_30 [.sl A_18 c_19 n_21 (iv .u8 l_20) 5 1, .cells B_5 (iv .u8 l2) 25, .cells B_1 (iv .u8 l0) 23] := st_25.call sc_32
      refine ⟨_, rfl, ?_⟩
      refine WL.alloc st_31 arr27.zero ?_
      intro B_35 w_36 st_37
      replace st_37 : St w w_36 [.cells B_35 (iv .u8 (List.replicate 64 (0 : Int))) 27, .sl A_18 c_19 n_21 (iv .u8 l_20) 5 1, .cells B_5 (iv .u8 l2) 25, .cells B_1 (iv .u8 l0) 23] := st_37
      refine WL.store_arr (i := 0) st_37 rfl arr27 rfl (by rw [iv_length]; exact (List.length_replicate ..)) hl_34 rfl ?_
      intro w_39 st_40
      replace st_40 : St w w_39 [.cells B_35 (iv .u8 r_33) 27, .sl A_18 c_19 n_21 (iv .u8 l_20) 5 1, .cells B_5 (iv .u8 l2) 25, .cells B_1 (iv .u8 l0) 23] := st_40
      refine WL.nil ?_
      refine QW.then_n ?_
      refine CW.seq ?_
      refine CW.region ?_
      refine WL.val Wanted.none (Runs.assign rfl) ?_
      refine WL.nil ?_
      refine QW.then_n ?_
      refine CW.block ?_
      obtain ⟨k_42, H⟩ := H
      refine CW.sub [(1, .int .u32 a1), (3, .slice A3 n3 c3), (4, .pointer (some ⟨B_1, 0, none⟩)), (6, .pointer (some ⟨B_5, 0, none⟩)), (8, .slice none 0 0), (9, .int .i64 0), (10, .int .u64 x_9), (11, .slice A_18 n_21 c_19), (12, .int .u64 x_23), (26, .int .u64 x_23), (27, .int .u64 x_9), (28, .bool (decide (x_23 < x_9))), (31, .agg (iv .u8 l0).toArray), (32, .int .u32 a1), (33, .int .u64 x_23), (34, .int .u32 (IntKind.u32.wrap x_23)), (35, .int .u32 (IntKind.u32.wrap (a1 + (IntKind.u32.wrap x_23)))), (36, .agg (iv .u8 l2).toArray), (37, .agg (iv .u8 r_33).toArray), (13, .pointer (some ⟨B_35, 0, none⟩)), (14, .int .i64 0)] ⟨rfl, rfl, rfl, rfl, rfl, rfl, rfl, rfl, rfl, rfl, rfl, rfl, rfl, rfl, rfl, rfl, rfl, rfl, rfl, rfl, rfl, trivial⟩ ?_
      refine CW.loop (fun kL2 l_ w_ => ∃ (A_43 : Option Addr) (c_44 : Nat) (n_46 : Nat) (l_45 : List Int) (x_48 : Int), l_ = [(1, .int .u32 a1), (3, .slice A3 n3 c3), (4, .pointer (some ⟨B_1, 0, none⟩)), (6, .pointer (some ⟨B_5, 0, none⟩)), (8, .slice none 0 0), (9, .int .i64 0), (10, .int .u64 x_9), (11, .slice A_43 n_46 c_44), (12, .int .u64 x_23), (26, .int .u64 x_23), (27, .int .u64 x_9), (28, .bool (decide (x_23 < x_9))), (31, .agg (iv .u8 l0).toArray), (32, .int .u32 a1), (33, .int .u64 x_23), (34, .int .u32 (IntKind.u32.wrap x_23)), (35, .int .u32 (IntKind.u32.wrap (a1 + (IntKind.u32.wrap x_23)))), (36, .agg (iv .u8 l2).toArray), (37, .agg (iv .u8 r_33).toArray), (13, .pointer (some ⟨B_35, 0, none⟩)), (14, .int .i64 x_48)] ∧ reliquaryref04_Crypt.L2 l3 x_23 r_33 (reliquaryref04_Crypt.L1 l0 a1 l2 l3 r0 r1 x_9 kL1) kL2 l_45 x_48 ∧ (n_46 = l_45.length) ∧ St w w_ [.cells B_35 (iv .u8 r_33) 27, .sl A_43 c_44 n_46 (iv .u8 l_45) 5 1, .cells B_5 (iv .u8 l2) 25, .cells B_1 (iv .u8 l0) 23]) (k := k_42) ⟨A_18, c_19, n_21, l_20, 0, rfl, H, hn_22, st_40⟩ (fun _ _ h => by obtain ⟨_, _, _, _, _, _, h, _⟩ := h; exact h.elim) ?_
      rintro kL2 l_51 w_49 ⟨A_43, c_44, n_46, l_45, x_48, rfl, H, hn_47, st_50⟩
      refine CW.seq ?_
      refine CW.seq ?_
      refine CW.region ?_
      refine WL.val Wanted.none (Runs.move rfl) ?_
      refine WL.val Wanted.none (Runs.lss rfl rfl rfl) ?_
      refine WL.nil ?_
      refine QW.then_n ?_
      rcases H with ⟨c_52, H⟩ | ⟨c_52, H⟩
      · have h_53 : (decide (x_48 < 64)) = true := (decide_eq_true c_52)
        refine CW.ct rfl h_53 ?_
        refine CW.skip ?_
        refine QW.then_n ?_
        refine CW.seq ?_
        refine CW.block ?_
        refine CW.seq ?_
        refine CW.region ?_
        refine WL.val Wanted.none (Runs.move rfl) ?_
        refine WL.val Wanted.none (Runs.conv Tryd.underlying3 ⟨_, Tryd.underlying30⟩ rfl rfl) ?_
        refine WL.val Wanted.none (Runs.mul rfl rfl rfl) ?_
        refine WL.val Wanted.none (Runs.move rfl) ?_
        obtain ⟨x_54, e_55, H⟩ := H
        refine WL.val Wanted.none (Runs.add rfl rfl e_55) ?_
        refine WL.val Wanted.none (Runs.assign rfl) ?_
        refine WL.nil ?_
        refine QW.then_n ?_
        refine CW.seq ?_
        refine CW.region ?_
        refine WL.val Wanted.none (Runs.move rfl) ?_
        refine WL.val Wanted.none (Runs.move rfl) ?_
        refine WL.val Wanted.none (Runs.len_sl Tryd.underlying31 rfl (by rw [hn3])) ?_
        refine WL.val Wanted.none (Runs.lss rfl rfl rfl) ?_
        refine WL.nil ?_
        refine QW.then_n ?_
        rcases H with ⟨c_56, H⟩ | ⟨c_56, H⟩
        · have h_57 : (decide (x_54 < (l3.length : Int))) = true := (decide_eq_true c_56)
          refine CW.ct rfl h_57 ?_
          refine CW.region_aw wide st_50 (fun w_58 st_59 => ?_)
          refine AW.take 0 rfl (by kernel_rfl) (by kernel_rfl) (by kernel_rfl) Wanted.none (fun _ => (Runs.move rfl)) ?_
          refine AW.take 1 rfl (by kernel_rfl) (by kernel_rfl) (by kernel_rfl) Wanted.none (fun _ => (Runs.move rfl)) ?_
          refine AW.take 2 rfl (by kernel_rfl) (by kernel_rfl) (by kernel_rfl) Wanted.none (fun _ => (Runs.move rfl)) ?_
          obtain ⟨⟨p_60, q_61⟩, H⟩ := H
          obtain ⟨a_62, e_63⟩ := (hs3.ext st_59).addr_iv ((x_54).toNat) (by omega)
          refine AW.take 3 rfl (by kernel_rfl) (by kernel_rfl) (by kernel_rfl) Wanted.none (fun _ => (Runs.indexAddr Tryd.underlying31 cells5 (by decide) rfl e_63 rfl p_60 (by rw [hn3]; exact q_61) (o := (x_54).toNat) (by first | rfl | omega))) ?_
          refine AW.take 5 rfl (by kernel_rfl) (by kernel_rfl) (by kernel_rfl) Wanted.none (fun _ => (Runs.move rfl)) ?_
          obtain ⟨⟨p_64, q_65⟩, H⟩ := H
          refine AW.take 6 rfl (by kernel_rfl) (by kernel_rfl) (by kernel_rfl) Wanted.none (fun _ => (Runs.indexAddr_blk arr27 rfl rfl p_64 q_65 (o := (x_48).toNat) (by first | rfl | omega))) ?_
          refine AW.step2 4 7 rfl rfl (by kernel_rfl) ?_ ?_
          · refine WL.val Wanted.none (Runs.load nagg5 rfl ((hs3.ext st_59).cell_iv e_63 (by omega))) ?_
            refine WL.nil ?_
            refine AW.back ?_
            refine AW.step 7 rfl (by kernel_rfl) ?_
            refine WL.val Wanted.none (Runs.load nagg5 rfl (st_59.cell_iv (i := 0) rfl (by have := hl_34; omega))) ?_
            refine WL.nil ?_
            refine AW.back ?_
            obtain ⟨x_66, e_67, H⟩ := H
            refine AW.take 8 rfl (by kernel_rfl) (by kernel_rfl) (by kernel_rfl) Wanted.none (fun _ => (Runs.bxor rfl rfl e_67)) ?_
            refine AW.step 9 rfl (by kernel_rfl) ?_
            refine WL.buildSl [.int .u8 x_66] st_59 Tryd.underlying31 elem5 rfl rfl (by decide) (by decide) (by simp [Value.cells]) ?_
            intro B_68 w_69 st_70
            replace st_70 : St w w_69 [.sl (some ⟨B_68, 0, none⟩) 1 1 (iv .u8 [x_66]) 5 1, .cells B_35 (iv .u8 r_33) 27, .sl A_43 c_44 n_46 (iv .u8 l_45) 5 1, .cells B_5 (iv .u8 l2) 25, .cells B_1 (iv .u8 l0) 23] := st_70
            refine WL.nil ?_
            refine AW.back ?_
            refine AW.step 10 rfl (by kernel_rfl) ?_
            obtain ⟨m_72, e_73, H⟩ := H
            obtain ⟨z_74, H⟩ := H
            obtain ⟨n_77, hn_80⟩ : ∃ n_ : Nat, n_ = m_72.length := ⟨_, rfl⟩
            refine WL.append (i := 2) Wanted.none st_70 rfl Tryd.underlying31 elem5 rfl rfl (st_70.src_sl (k := 0) rfl) (by rw [iv_length]; exact (Eq.refl _).symm) (one_iv .u8 _) (by decide) (N := n_77) (by rw [hn_80, e_73, List.length_append]; exact congr (congrArg HAdd.hAdd (hn_47)) (rfl)) (by rw [hn_80]; exact z_74) ?_
            intro A_75 c_76 w_78 st_79
            have st_79' : St w w_78 [.sl (some ⟨B_68, 0, none⟩) 1 1 (iv .u8 [x_66]) 5 1, .cells B_35 (iv .u8 r_33) 27, .sl A_75 c_76 n_77 (iv .u8 m_72) 5 1, .cells B_5 (iv .u8 l2) 25, .cells B_1 (iv .u8 l0) 23] := by rw [e_73, ← iv_append .u8 l_45 [x_66]]; exact st_79
            refine WL.nil ?_
            refine AW.back ?_
            refine AW.take 11 rfl (by kernel_rfl) (by kernel_rfl) (by kernel_rfl) Wanted.none (fun _ => (Runs.assign rfl)) ?_
            refine AW.done (by kernel_rfl) ?_
            refine QW.blk_n ?_
            refine QW.then_n ?_
            refine CW.region ?_
            refine WL.val Wanted.none (Runs.move rfl) ?_
            refine WL.val Wanted.none (Runs.add rfl rfl rfl) ?_
            refine WL.val Wanted.none (Runs.assign rfl) ?_
            refine WL.nil ?_
            have st_79'' := st_79'.pick [1, 2, 3, 4] (by decide)
            exact QW.at [(1, .int .u32 a1), (3, .slice A3 n3 c3), (4, .pointer (some ⟨B_1, 0, none⟩)), (6, .pointer (some ⟨B_5, 0, none⟩)), (8, .slice none 0 0), (9, .int .i64 0), (10, .int .u64 x_9), (11, .slice A_75 n_77 c_76), (12, .int .u64 x_23), (26, .int .u64 x_23), (27, .int .u64 x_9), (28, .bool (decide (x_23 < x_9))), (31, .agg (iv .u8 l0).toArray), (32, .int .u32 a1), (33, .int .u64 x_23), (34, .int .u32 (IntKind.u32.wrap x_23)), (35, .int .u32 (IntKind.u32.wrap (a1 + (IntKind.u32.wrap x_23)))), (36, .agg (iv .u8 l2).toArray), (37, .agg (iv .u8 r_33).toArray), (13, .pointer (some ⟨B_35, 0, none⟩)), (14, .int .i64 (IntKind.i64.wrap (x_48 + 1)))] ⟨rfl, rfl, rfl, rfl, rfl, rfl, rfl, rfl, rfl, rfl, rfl, rfl, rfl, rfl, rfl, rfl, rfl, rfl, rfl, rfl, rfl, trivial⟩ ⟨A_75, c_76, n_77, m_72, IntKind.i64.wrap (x_48 + 1), rfl, H, hn_80, st_79''⟩
          · refine WL.val Wanted.none (Runs.load nagg5 rfl (st_59.cell_iv (i := 0) rfl (by have := hl_34; omega))) ?_
            refine WL.nil ?_
            refine AW.back ?_
            refine AW.step 4 rfl (by kernel_rfl) ?_
            refine WL.val Wanted.none (Runs.load nagg5 rfl ((hs3.ext st_59).cell_iv e_63 (by omega))) ?_
            refine WL.nil ?_
            refine AW.back ?_
            obtain ⟨x_81, e_82, H⟩ := H
            refine AW.take 8 rfl (by kernel_rfl) (by kernel_rfl) (by kernel_rfl) Wanted.none (fun _ => (Runs.bxor rfl rfl e_82)) ?_
            refine AW.step 9 rfl (by kernel_rfl) ?_
            refine WL.buildSl [.int .u8 x_81] st_59 Tryd.underlying31 elem5 rfl rfl (by decide) (by decide) (by simp [Value.cells]) ?_
            intro B_83 w_84 st_85
            replace st_85 : St w w_84 [.sl (some ⟨B_83, 0, none⟩) 1 1 (iv .u8 [x_81]) 5 1, .cells B_35 (iv .u8 r_33) 27, .sl A_43 c_44 n_46 (iv .u8 l_45) 5 1, .cells B_5 (iv .u8 l2) 25, .cells B_1 (iv .u8 l0) 23] := st_85
            refine WL.nil ?_
            refine AW.back ?_
            refine AW.step 10 rfl (by kernel_rfl) ?_
            obtain ⟨m_87, e_88, H⟩ := H
            obtain ⟨z_89, H⟩ := H
            obtain ⟨n_92, hn_95⟩ : ∃ n_ : Nat, n_ = m_87.length := ⟨_, rfl⟩
            refine WL.append (i := 2) Wanted.none st_85 rfl Tryd.underlying31 elem5 rfl rfl (st_85.src_sl (k := 0) rfl) (by rw [iv_length]; exact (Eq.refl _).symm) (one_iv .u8 _) (by decide) (N := n_92) (by rw [hn_95, e_88, List.length_append]; exact congr (congrArg HAdd.hAdd (hn_47)) (rfl)) (by rw [hn_95]; exact z_89) ?_
            intro A_90 c_91 w_93 st_94
            have st_94' : St w w_93 [.sl (some ⟨B_83, 0, none⟩) 1 1 (iv .u8 [x_81]) 5 1, .cells B_35 (iv .u8 r_33) 27, .sl A_90 c_91 n_92 (iv .u8 m_87) 5 1, .cells B_5 (iv .u8 l2) 25, .cells B_1 (iv .u8 l0) 23] := by rw [e_88, ← iv_append .u8 l_45 [x_81]]; exact st_94
            refine WL.nil ?_
            refine AW.back ?_
            refine AW.take 11 rfl (by kernel_rfl) (by kernel_rfl) (by kernel_rfl) Wanted.none (fun _ => (Runs.assign rfl)) ?_
            refine AW.done (by kernel_rfl) ?_
            refine QW.blk_n ?_
            refine QW.then_n ?_
            refine CW.region ?_
            refine WL.val Wanted.none (Runs.move rfl) ?_
            refine WL.val Wanted.none (Runs.add rfl rfl rfl) ?_
            refine WL.val Wanted.none (Runs.assign rfl) ?_
            refine WL.nil ?_
            have st_94'' := st_94'.pick [1, 2, 3, 4] (by decide)
            exact QW.at [(1, .int .u32 a1), (3, .slice A3 n3 c3), (4, .pointer (some ⟨B_1, 0, none⟩)), (6, .pointer (some ⟨B_5, 0, none⟩)), (8, .slice none 0 0), (9, .int .i64 0), (10, .int .u64 x_9), (11, .slice A_90 n_92 c_91), (12, .int .u64 x_23), (26, .int .u64 x_23), (27, .int .u64 x_9), (28, .bool (decide (x_23 < x_9))), (31, .agg (iv .u8 l0).toArray), (32, .int .u32 a1), (33, .int .u64 x_23), (34, .int .u32 (IntKind.u32.wrap x_23)), (35, .int .u32 (IntKind.u32.wrap (a1 + (IntKind.u32.wrap x_23)))), (36, .agg (iv .u8 l2).toArray), (37, .agg (iv .u8 r_33).toArray), (13, .pointer (some ⟨B_35, 0, none⟩)), (14, .int .i64 (IntKind.i64.wrap (x_48 + 1)))] ⟨rfl, rfl, rfl, rfl, rfl, rfl, rfl, rfl, rfl, rfl, rfl, rfl, rfl, rfl, rfl, rfl, rfl, rfl, rfl, rfl, rfl, trivial⟩ ⟨A_90, c_91, n_92, m_87, IntKind.i64.wrap (x_48 + 1), rfl, H, hn_95, st_94''⟩
        · have h_57 : (decide (x_54 < (l3.length : Int))) = false := (decide_eq_false c_56)
          refine CW.cf rfl h_57 ?_
          refine CW.skip ?_
          refine QW.blk_n ?_
          refine QW.then_n ?_
          refine CW.region ?_
          refine WL.val Wanted.none (Runs.move rfl) ?_
          refine WL.val Wanted.none (Runs.add rfl rfl rfl) ?_
          refine WL.val Wanted.none (Runs.assign rfl) ?_
          refine WL.nil ?_
          exact QW.at [(1, .int .u32 a1), (3, .slice A3 n3 c3), (4, .pointer (some ⟨B_1, 0, none⟩)), (6, .pointer (some ⟨B_5, 0, none⟩)), (8, .slice none 0 0), (9, .int .i64 0), (10, .int .u64 x_9), (11, .slice A_43 n_46 c_44), (12, .int .u64 x_23), (26, .int .u64 x_23), (27, .int .u64 x_9), (28, .bool (decide (x_23 < x_9))), (31, .agg (iv .u8 l0).toArray), (32, .int .u32 a1), (33, .int .u64 x_23), (34, .int .u32 (IntKind.u32.wrap x_23)), (35, .int .u32 (IntKind.u32.wrap (a1 + (IntKind.u32.wrap x_23)))), (36, .agg (iv .u8 l2).toArray), (37, .agg (iv .u8 r_33).toArray), (13, .pointer (some ⟨B_35, 0, none⟩)), (14, .int .i64 (IntKind.i64.wrap (x_48 + 1)))] ⟨rfl, rfl, rfl, rfl, rfl, rfl, rfl, rfl, rfl, rfl, rfl, rfl, rfl, rfl, rfl, rfl, rfl, rfl, rfl, rfl, rfl, trivial⟩ ⟨A_43, c_44, n_46, l_45, IntKind.i64.wrap (x_48 + 1), rfl, H, hn_47, st_50⟩
      · have h_53 : (decide (x_48 < 64)) = false := (decide_eq_false c_52)
        refine CW.cf rfl h_53 ?_
        refine CW.exit ?_
        refine QW.then_x ?_
        refine QW.then_x ?_
        refine QW.blk_x ?_
        refine QW.blk_n ?_
        refine QW.then_n ?_
        refine CW.region ?_
        refine WL.val Wanted.none (Runs.move rfl) ?_
        refine WL.val Wanted.none (Runs.add rfl rfl rfl) ?_
        refine WL.val Wanted.none (Runs.assign rfl) ?_
        refine WL.nil ?_
        have st_50' := st_50.pick [1, 2, 3] (by decide)
        exact QW.at [(1, .int .u32 a1), (3, .slice A3 n3 c3), (4, .pointer (some ⟨B_1, 0, none⟩)), (6, .pointer (some ⟨B_5, 0, none⟩)), (8, .slice none 0 0), (9, .int .i64 0), (10, .int .u64 x_9), (11, .slice A_43 n_46 c_44), (12, .int .u64 (IntKind.u64.wrap (x_23 + 1)))] ⟨rfl, rfl, rfl, rfl, rfl, rfl, rfl, rfl, rfl, trivial⟩ ⟨A_43, c_44, n_46, l_45, IntKind.u64.wrap (x_23 + 1), rfl, H, hn_47, st_50'⟩
    · have h_28 : (decide (x_23 < x_9)) = false := (decide_eq_false c_27)
      refine CW.cf rfl h_28 ?_
      refine CW.exit ?_
      refine QW.then_x ?_
      refine QW.then_x ?_
      refine QW.blk_x ?_
      refine QW.then_n ?_
      refine CW.sub [(8, .slice none 0 0), (9, .int .i64 0), (11, .slice A_18 n_21 c_19)] ⟨rfl, rfl, rfl, trivial⟩ ?_
      refine CW.seq ?_
      refine CW.region ?_
      refine WL.val Wanted.none (Runs.move rfl) ?_
      refine WL.val Wanted.none (Runs.assign rfl) ?_
      refine WL.val Wanted.none (Runs.assign rfl) ?_
      refine WL.nil ?_
      refine QW.then_n ?_
      refine CW.ret ?_
      obtain ⟨rfl, rfl⟩ := H
      exact QW.ret2 rfl rfl rfl ⟨A_18, c_19, n_21, hn_22, rfl, st_25.pick [0] (by decide)⟩

/-! ### reliquaryref01_Put: function 25 -/
def reliquaryref01_Put.L1 (a1 : Int) (r0 : List Int) : Nat → (List Int) → Int → Int → Prop
  | 0, _, _, _ => False
  | kL1 + 1, l_10, x_13, x_14 => ((x_14 < a1 ∧ (∃ m_24 : List Int, m_24 = l_10 ++ [IntKind.u8.wrap (Int.tmod x_13 256)] ∧ (m_24.length ≤ 1099511627776 ∧ reliquaryref01_Put.L1 a1 r0 kL1 m_24 (IntKind.u64.wrap (Int.tdiv x_13 256)) (IntKind.i64.wrap (x_14 + 1))))) ∨ (¬ (x_14 < a1) ∧ r0 = l_10))
def reliquaryref01_Put.rel (a0 : Int) (a1 : Int) (r0 : List Int) : Prop := ((a1 > 8 ∧ r0 = []) ∨ (¬ (a1 > 8) ∧ (∃ k_ : Nat, reliquaryref01_Put.L1 a1 r0 k_ ([] : List Int) a0 0)))
set_option maxHeartbeats 4000000 in
set_option maxRecDepth 100000 in
theorem reliquaryref01_Put.calls (w : World) (a0 : Int) (a1 : Int)    (r0 : List Int) (H : reliquaryref01_Put.rel a0 a1 r0) :
    Calls Tryd.prog 25 #[.int .u64 a0, .int .i64 a1] w fun e w' => ∃ B0 q0 z0, z0 = r0.length ∧ e = .returned (.slice B0 z0 q0) ∧ St w w' [.sl B0 q0 z0 (iv .u8 r0) 5 1] := by
  refine CW.enter Tryd.func25 rfl (n := 24) rfl [.int .u64 a0, .int .i64 a1] (Nat.le_of_ble_eq_true rfl) ?_
  refine CW.sub [(0, .int .u64 a0), (1, .int .i64 a1)] ⟨rfl, rfl, trivial⟩ ?_
  have st0 : St w w [] := St.refl w
  refine CW.seq ?_
  refine CW.region ?_
  refine WL.val Wanted.none (Runs.assign rfl) ?_
  refine WL.nil ?_
  refine QW.then_n ?_
  refine CW.seq ?_
  refine CW.region ?_
  refine WL.val Wanted.none (Runs.assign rfl) ?_
  refine WL.nil ?_
  refine QW.then_n ?_
  refine CW.seq ?_
  refine CW.seq ?_
  refine CW.region ?_
  refine WL.val Wanted.none (Runs.move rfl) ?_
  refine WL.val Wanted.none (Runs.gtr rfl rfl rfl) ?_
  refine WL.nil ?_
  refine QW.then_n ?_
  rcases H with ⟨c_1, H⟩ | ⟨c_1, H⟩
  · have h_2 : (decide (a1 > 8)) = true := (decide_eq_true c_1)
    refine CW.ct rfl h_2 ?_
    refine CW.seq ?_
    refine CW.region ?_
    refine WL.val Wanted.none (Runs.move rfl) ?_
    refine WL.val Wanted.none (Runs.assign rfl) ?_
    refine WL.nil ?_
    refine QW.then_n ?_
    refine CW.ret ?_
    refine QW.then_r ?_
    have st_4 := st0.nil_sl 5 1
    have st_4 : St w w [.sl none 0 0 (iv .u8 ([] : List Int)) 5 1] := st_4
    obtain rfl := H
    exact QW.ret1 rfl rfl ⟨none, 0, 0, rfl, rfl, st_4.pick [0] (by decide)⟩
  · have h_2 : (decide (a1 > 8)) = false := (decide_eq_false c_1)
    refine CW.cf rfl h_2 ?_
    refine CW.skip ?_
    refine QW.then_n ?_
    refine CW.seq ?_
    refine CW.seq ?_
    refine CW.region ?_
    refine WL.val Wanted.none (Runs.assign rfl) ?_
    refine WL.nil ?_
    refine QW.then_n ?_
    refine CW.block ?_
    have st_6 := st0.nil_sl 5 1
    have st_6 : St w w [.sl none 0 0 (iv .u8 ([] : List Int)) 5 1] := st_6
    obtain ⟨k_7, H⟩ := H
    refine CW.sub [(0, .int .u64 a0), (1, .int .i64 a1), (4, .slice none 0 0), (5, .slice none 0 0), (6, .int .i64 0)] ⟨rfl, rfl, rfl, rfl, rfl, trivial⟩ ?_
    refine CW.loop (fun kL1 l_ w_ => ∃ (A_8 : Option Addr) (c_9 : Nat) (n_11 : Nat) (l_10 : List Int) (x_13 : Int) (x_14 : Int), l_ = [(0, .int .u64 x_13), (1, .int .i64 a1), (4, .slice none 0 0), (5, .slice A_8 n_11 c_9), (6, .int .i64 x_14)] ∧ reliquaryref01_Put.L1 a1 r0 kL1 l_10 x_13 x_14 ∧ (n_11 = l_10.length) ∧ St w w_ [.sl A_8 c_9 n_11 (iv .u8 l_10) 5 1]) (k := k_7) ⟨none, 0, 0, ([] : List Int), a0, 0, rfl, H, rfl, st_6⟩ (fun _ _ h => by obtain ⟨_, _, _, _, _, _, _, h, _⟩ := h; exact h.elim) ?_
    rintro kL1 l_17 w_15 ⟨A_8, c_9, n_11, l_10, x_13, x_14, rfl, H, hn_12, st_16⟩
    refine CW.seq ?_
    refine CW.seq ?_
    refine CW.region ?_
    refine WL.val Wanted.none (Runs.move rfl) ?_
    refine WL.val Wanted.none (Runs.move rfl) ?_
    refine WL.val Wanted.none (Runs.lss rfl rfl rfl) ?_
    refine WL.nil ?_
    refine QW.then_n ?_
    rcases H with ⟨c_18, H⟩ | ⟨c_18, H⟩
    · have h_19 : (decide (x_14 < a1)) = true := (decide_eq_true c_18)
      refine CW.ct rfl h_19 ?_
      refine CW.skip ?_
      refine QW.then_n ?_
      refine CW.seq ?_
      refine CW.block ?_
      refine CW.seq ?_
      refine CW.region ?_
      refine WL.val Wanted.none (Runs.move rfl) ?_
      refine WL.val Wanted.none (Runs.move rfl) ?_
      refine WL.val Wanted.none (Runs.rem rfl rfl (by decide) rfl) ?_
      refine WL.val Wanted.none (Runs.conv Tryd.underlying5 ⟨_, Tryd.underlying30⟩ rfl rfl) ?_
      refine WL.buildSl [.int .u8 (IntKind.u8.wrap (Int.tmod x_13 256))] st_16 Tryd.underlying31 elem5 rfl rfl (by decide) (by decide) (by simp [Value.cells]) ?_
      intro B_20 w_21 st_22
      replace st_22 : St w w_21 [.sl (some ⟨B_20, 0, none⟩) 1 1 (iv .u8 [IntKind.u8.wrap (Int.tmod x_13 256)]) 5 1, .sl A_8 c_9 n_11 (iv .u8 l_10) 5 1] := st_22
      obtain ⟨m_24, e_25, H⟩ := H
      obtain ⟨z_26, H⟩ := H
      obtain ⟨n_29, hn_32⟩ : ∃ n_ : Nat, n_ = m_24.length := ⟨_, rfl⟩
      refine WL.append (i := 1) Wanted.none st_22 rfl Tryd.underlying31 elem5 rfl rfl (st_22.src_sl (k := 0) rfl) (by rw [iv_length]; exact (Eq.refl _).symm) (one_iv .u8 _) (by decide) (N := n_29) (by rw [hn_32, e_25, List.length_append]; exact congr (congrArg HAdd.hAdd (hn_12)) (rfl)) (by rw [hn_32]; exact z_26) ?_
      intro A_27 c_28 w_30 st_31
      have st_31' : St w w_30 [.sl (some ⟨B_20, 0, none⟩) 1 1 (iv .u8 [IntKind.u8.wrap (Int.tmod x_13 256)]) 5 1, .sl A_27 c_28 n_29 (iv .u8 m_24) 5 1] := by rw [e_25, ← iv_append .u8 l_10 [IntKind.u8.wrap (Int.tmod x_13 256)]]; exact st_31
      refine WL.val Wanted.none (Runs.assign rfl) ?_
      refine WL.nil ?_
      refine QW.then_n ?_
      refine CW.region ?_
      refine WL.val Wanted.none (Runs.move rfl) ?_
      refine WL.val Wanted.none (Runs.quo rfl rfl (by decide) rfl) ?_
      refine WL.val Wanted.none (Runs.assign rfl) ?_
      refine WL.nil ?_
      refine QW.blk_n ?_
      refine QW.then_n ?_
      refine CW.region ?_
      refine WL.val Wanted.none (Runs.move rfl) ?_
      refine WL.val Wanted.none (Runs.add rfl rfl rfl) ?_
      refine WL.val Wanted.none (Runs.assign rfl) ?_
      refine WL.nil ?_
      have st_31'' := st_31'.pick [1] (by decide)
      exact QW.at [(0, .int .u64 (IntKind.u64.wrap (Int.tdiv x_13 256))), (1, .int .i64 a1), (4, .slice none 0 0), (5, .slice A_27 n_29 c_28), (6, .int .i64 (IntKind.i64.wrap (x_14 + 1)))] ⟨rfl, rfl, rfl, rfl, rfl, trivial⟩ ⟨A_27, c_28, n_29, m_24, IntKind.u64.wrap (Int.tdiv x_13 256), IntKind.i64.wrap (x_14 + 1), rfl, H, hn_32, st_31''⟩
    · have h_19 : (decide (x_14 < a1)) = false := (decide_eq_false c_18)
      refine CW.cf rfl h_19 ?_
      refine CW.exit ?_
      refine QW.then_x ?_
      refine QW.then_x ?_
      refine QW.blk_x ?_
      refine QW.then_n ?_
      refine CW.sub [(4, .slice none 0 0), (5, .slice A_8 n_11 c_9)] ⟨rfl, rfl, trivial⟩ ?_
      refine CW.seq ?_
      refine CW.region ?_
      refine WL.val Wanted.none (Runs.move rfl) ?_
      refine WL.val Wanted.none (Runs.assign rfl) ?_
      refine WL.nil ?_
      refine QW.then_n ?_
      refine CW.ret ?_
      obtain rfl := H
      exact QW.ret1 rfl rfl ⟨A_8, c_9, n_11, hn_12, rfl, st_16.pick [0] (by decide)⟩

/-! ### reliquaryref04_Nonce: function 15 -/
def reliquaryref04_Nonce.L2 (r0 : List Int) (r_23 : List Int) : Nat → (List Int) → Int → Prop
  | 0, _, _ => False
  | kL2 + 1, m_50, x_52 => ((x_52 < 8 ∧ ((0 ≤ x_52 ∧ x_52 < (r_23.length : Int)) ∧ ((0 ≤ (IntKind.i64.wrap (4 + x_52)) ∧ (IntKind.i64.wrap (4 + x_52)) < (12 : Int)) ∧ (∃ m_64 : List Int, m_64 = List.set m_50 ((IntKind.i64.wrap (4 + x_52)).toNat) (gn r_23 ((x_52).toNat)) ∧ reliquaryref04_Nonce.L2 r0 r_23 kL2 m_64 (IntKind.i64.wrap (x_52 + 1)))))) ∨ (¬ (x_52 < 8) ∧ r0 = m_50))
def reliquaryref04_Nonce.L1 (r0 : List Int) (r_13 : List Int) (r_23 : List Int) : Nat → (List Int) → Int → Prop
  | 0, _, _ => False
  | kL1 + 1, m_30, x_32 => ((x_32 < 4 ∧ ((0 ≤ x_32 ∧ x_32 < (r_13.length : Int)) ∧ ((0 ≤ x_32 ∧ x_32 < (12 : Int)) ∧ (∃ m_44 : List Int, m_44 = List.set m_30 ((x_32).toNat) (gn r_13 ((x_32).toNat)) ∧ reliquaryref04_Nonce.L1 r0 r_13 r_23 kL1 m_44 (IntKind.i64.wrap (x_32 + 1)))))) ∨ (¬ (x_32 < 4) ∧ (∃ k_ : Nat, reliquaryref04_Nonce.L2 r0 r_23 k_ m_30 0)))
def reliquaryref04_Nonce.rel (a0 : Int) (a1 : Int) (r0 : List Int) : Prop := (∃ (r_13 : List Int), reliquaryref01_Put.rel (IntKind.u64.wrap a0) 4 r_13 ∧ (∃ (r_23 : List Int), reliquaryref01_Put.rel a1 8 r_23 ∧ (∃ k_ : Nat, reliquaryref04_Nonce.L1 r0 r_13 r_23 k_ (List.replicate 12 (0 : Int)) 0)))
set_option maxHeartbeats 4000000 in
set_option maxRecDepth 100000 in
theorem reliquaryref04_Nonce.calls (w : World) (a0 : Int) (a1 : Int)    (r0 : List Int) (H : reliquaryref04_Nonce.rel a0 a1 r0) :
    Calls Tryd.prog 15 #[.int .u32 a0, .int .u64 a1] w fun e w' => r0.length = 12 ∧ e = .returned (.agg (iv .u8 r0).toArray) ∧ St w w' [] := by
  refine CW.enter Tryd.func15 rfl (n := 37) rfl [.int .u32 a0, .int .u64 a1] (Nat.le_of_ble_eq_true rfl) ?_
  refine CW.sub [(0, .int .u32 a0), (1, .int .u64 a1)] ⟨rfl, rfl, trivial⟩ ?_
  have st0 : St w w [] := St.refl w
  refine CW.seq ?_
  refine CW.region ?_
  refine WL.alloc st0 arr25.zero ?_
  intro B_1 w_2 st_3
  replace st_3 : St w w_2 [.cells B_1 (iv .u8 (List.replicate 12 (0 : Int))) 25] := st_3
  refine WL.nil ?_
  refine QW.then_n ?_
  refine CW.seq ?_
  refine CW.region ?_
  refine WL.alloc st_3 arr25.zero ?_
  intro B_5 w_6 st_7
  replace st_7 : St w w_6 [.cells B_5 (iv .u8 (List.replicate 12 (0 : Int))) 25, .cells B_1 (iv .u8 (List.replicate 12 (0 : Int))) 25] := st_7
  refine WL.nil ?_
  refine QW.then_n ?_
  refine CW.seq ?_
  refine CW.region ?_
  refine WL.val Wanted.none (Runs.move rfl) ?_
  refine WL.val Wanted.none (Runs.conv Tryd.underlying30 ⟨_, Tryd.underlying24⟩ rfl rfl) ?_
  obtain ⟨r_13, hr_9, H⟩ := H
  refine WL.call Wanted.none ent25 rfl (reliquaryref01_Put.calls w_6 (IntKind.u64.wrap a0) 4 r_13 hr_9) ?_
  rintro _ w_10 ⟨A_14, c_15, n_16, hn_17, rfl, sc_12⟩
  have st_11 : St w w_10 [.sl A_14 c_15 n_16 (iv .u8 r_13) 5 1, .cells B_5 (iv .u8 (List.replicate 12 (0 : Int))) 25, .cells B_1 (iv .u8 (List.replicate 12 (0 : Int))) 25] := st_7.call sc_12
  refine ⟨_, rfl, ?_⟩
  refine WL.val Wanted.none (Runs.assign rfl) ?_
  refine WL.nil ?_
  refine QW.then_n ?_
  refine CW.seq ?_
  refine CW.region ?_
  refine WL.val Wanted.none (Runs.move rfl) ?_
  obtain ⟨r_23, hr_19, H⟩ := H
  refine WL.call Wanted.none ent25 rfl (reliquaryref01_Put.calls w_10 a1 8 r_23 hr_19) ?_
  rintro _ w_20 ⟨A_24, c_25, n_26, hn_27, rfl, sc_22⟩
  have st_21 : St w w_20 [.sl A_24 c_25 n_26 (iv .u8 r_23) 5 1, .sl A_14 c_15 n_16 (iv .u8 r_13) 5 1, .cells B_5 (iv .u8 (List.replicate 12 (0 : Int))) 25, .cells B_1 (iv .u8 (List.replicate 12 (0 : Int))) 25] := st_11.call sc_22
  refine ⟨_, rfl, ?_⟩
  refine WL.val Wanted.none (Runs.assign rfl) ?_
  refine WL.nil ?_
  refine QW.then_n ?_
  refine CW.sub [(4, .pointer (some ⟨B_1, 0, none⟩)), (5, .pointer (some ⟨B_5, 0, none⟩)), (6, .slice A_14 n_16 c_15), (7, .slice A_24 n_26 c_25)] ⟨rfl, rfl, rfl, rfl, trivial⟩ ?_
  refine CW.seq ?_
  refine CW.seq ?_
  refine CW.region ?_
  refine WL.val Wanted.none (Runs.assign rfl) ?_
  refine WL.nil ?_
  refine QW.then_n ?_
  refine CW.block ?_
  obtain ⟨k_29, H⟩ := H
  refine CW.sub [(4, .pointer (some ⟨B_1, 0, none⟩)), (5, .pointer (some ⟨B_5, 0, none⟩)), (6, .slice A_14 n_16 c_15), (7, .slice A_24 n_26 c_25), (8, .int .i64 0)] ⟨rfl, rfl, rfl, rfl, rfl, trivial⟩ ?_
  refine CW.loop (fun kL1 l_ w_ => ∃ (m_30 : List Int) (x_32 : Int), l_ = [(4, .pointer (some ⟨B_1, 0, none⟩)), (5, .pointer (some ⟨B_5, 0, none⟩)), (6, .slice A_14 n_16 c_15), (7, .slice A_24 n_26 c_25), (8, .int .i64 x_32)] ∧ reliquaryref04_Nonce.L1 r0 r_13 r_23 kL1 m_30 x_32 ∧ (m_30.length = 12) ∧ St w w_ [.sl A_24 c_25 n_26 (iv .u8 r_23) 5 1, .sl A_14 c_15 n_16 (iv .u8 r_13) 5 1, .cells B_5 (iv .u8 m_30) 25, .cells B_1 (iv .u8 (List.replicate 12 (0 : Int))) 25]) (k := k_29) ⟨List.replicate 12 (0 : Int), 0, rfl, H, (List.length_replicate ..), st_21⟩ (fun _ _ h => by obtain ⟨_, _, _, h, _⟩ := h; exact h.elim) ?_
  rintro kL1 l_35 w_33 ⟨m_30, x_32, rfl, H, hl_31, st_34⟩
  refine CW.seq ?_
  refine CW.seq ?_
  refine CW.region ?_
  refine WL.val Wanted.none (Runs.move rfl) ?_
  refine WL.val Wanted.none (Runs.lss rfl rfl rfl) ?_
  refine WL.nil ?_
  refine QW.then_n ?_
  rcases H with ⟨c_36, H⟩ | ⟨c_36, H⟩
  · have h_37 : (decide (x_32 < 4)) = true := (decide_eq_true c_36)
    refine CW.ct rfl h_37 ?_
    refine CW.skip ?_
    refine QW.then_n ?_
    refine CW.seq ?_
    refine CW.block ?_
    refine CW.region ?_
    refine WL.val Wanted.none (Runs.move rfl) ?_
    refine WL.val Wanted.none (Runs.move rfl) ?_
    refine WL.val Wanted.none (Runs.move rfl) ?_
    obtain ⟨⟨p_38, q_39⟩, H⟩ := H
    obtain ⟨a_40, e_41⟩ := (st_34.src_sl (k := 1) rfl).addr_iv ((x_32).toNat) (by omega)
    refine WL.val Wanted.none (Runs.indexAddr Tryd.underlying31 cells5 (by decide) rfl e_41 rfl p_38 (by rw [hn_17]; exact q_39) (o := (x_32).toNat) (by first | rfl | omega)) ?_
    refine WL.val Wanted.none (Runs.load nagg5 rfl ((st_34.src_sl (k := 1) rfl).cell_iv e_41 (by omega))) ?_
    obtain ⟨⟨p_42, q_43⟩, H⟩ := H
    refine WL.val Wanted.none (Runs.indexAddr_blk arr25 rfl rfl p_42 q_43 (o := (x_32).toNat) (by first | rfl | omega)) ?_
    obtain ⟨m_44, e_45, H⟩ := H
    have hl_48 : m_44.length = 12 := by rw [e_45, List.length_set]; exact hl_31
    refine WL.store_cells (i := 2) st_34 rfl cells5 rfl (by rw [iv_length]; have := hl_31; omega) rfl rfl ?_
    intro w_46 st_47
    have st_47' : St w w_46 [.sl A_24 c_25 n_26 (iv .u8 r_23) 5 1, .sl A_14 c_15 n_16 (iv .u8 r_13) 5 1, .cells B_5 (iv .u8 m_44) 25, .cells B_1 (iv .u8 (List.replicate 12 (0 : Int))) 25] := by rw [e_45, ← iv_set .u8 m_30 ((x_32).toNat) (gn r_13 ((x_32).toNat))]; exact st_47
    refine WL.nil ?_
    refine QW.blk_n ?_
    refine QW.then_n ?_
    refine CW.region ?_
    refine WL.val Wanted.none (Runs.move rfl) ?_
    refine WL.val Wanted.none (Runs.add rfl rfl rfl) ?_
    refine WL.val Wanted.none (Runs.assign rfl) ?_
    refine WL.nil ?_
    exact QW.at [(4, .pointer (some ⟨B_1, 0, none⟩)), (5, .pointer (some ⟨B_5, 0, none⟩)), (6, .slice A_14 n_16 c_15), (7, .slice A_24 n_26 c_25), (8, .int .i64 (IntKind.i64.wrap (x_32 + 1)))] ⟨rfl, rfl, rfl, rfl, rfl, trivial⟩ ⟨m_44, IntKind.i64.wrap (x_32 + 1), rfl, H, hl_48, st_47'⟩
  · have h_37 : (decide (x_32 < 4)) = false := (decide_eq_false c_36)
    refine CW.cf rfl h_37 ?_
    refine CW.exit ?_
    refine QW.then_x ?_
    refine QW.then_x ?_
    refine QW.blk_x ?_
    refine QW.then_n ?_
    refine CW.seq ?_
    refine CW.seq ?_
    refine CW.region ?_
    refine WL.val Wanted.none (Runs.assign rfl) ?_
    refine WL.nil ?_
    refine QW.then_n ?_
    refine CW.block ?_
    obtain ⟨k_49, H⟩ := H
    refine CW.sub [(4, .pointer (some ⟨B_1, 0, none⟩)), (5, .pointer (some ⟨B_5, 0, none⟩)), (7, .slice A_24 n_26 c_25), (9, .int .i64 0)] ⟨rfl, rfl, rfl, rfl, trivial⟩ ?_
    refine CW.loop (fun kL2 l_ w_ => ∃ (m_50 : List Int) (x_52 : Int), l_ = [(4, .pointer (some ⟨B_1, 0, none⟩)), (5, .pointer (some ⟨B_5, 0, none⟩)), (7, .slice A_24 n_26 c_25), (9, .int .i64 x_52)] ∧ reliquaryref04_Nonce.L2 r0 r_23 kL2 m_50 x_52 ∧ (m_50.length = 12) ∧ St w w_ [.sl A_24 c_25 n_26 (iv .u8 r_23) 5 1, .sl A_14 c_15 n_16 (iv .u8 r_13) 5 1, .cells B_5 (iv .u8 m_50) 25, .cells B_1 (iv .u8 (List.replicate 12 (0 : Int))) 25]) (k := k_49) ⟨m_30, 0, rfl, H, hl_31, st_34⟩ (fun _ _ h => by obtain ⟨_, _, _, h, _⟩ := h; exact h.elim) ?_
    rintro kL2 l_55 w_53 ⟨m_50, x_52, rfl, H, hl_51, st_54⟩
    refine CW.seq ?_
    refine CW.seq ?_
    refine CW.region ?_
    refine WL.val Wanted.none (Runs.move rfl) ?_
    refine WL.val Wanted.none (Runs.lss rfl rfl rfl) ?_
    refine WL.nil ?_
    refine QW.then_n ?_
    rcases H with ⟨c_56, H⟩ | ⟨c_56, H⟩
    · have h_57 : (decide (x_52 < 8)) = true := (decide_eq_true c_56)
      refine CW.ct rfl h_57 ?_
      refine CW.skip ?_
      refine QW.then_n ?_
      refine CW.seq ?_
      refine CW.block ?_
      refine CW.region ?_
      refine WL.val Wanted.none (Runs.move rfl) ?_
      refine WL.val Wanted.none (Runs.add rfl rfl rfl) ?_
      refine WL.val Wanted.none (Runs.move rfl) ?_
      refine WL.val Wanted.none (Runs.move rfl) ?_
      obtain ⟨⟨p_58, q_59⟩, H⟩ := H
      obtain ⟨a_60, e_61⟩ := (st_54.src_sl (k := 0) rfl).addr_iv ((x_52).toNat) (by omega)
      refine WL.val Wanted.none (Runs.indexAddr Tryd.underlying31 cells5 (by decide) rfl e_61 rfl p_58 (by rw [hn_27]; exact q_59) (o := (x_52).toNat) (by first | rfl | omega)) ?_
      refine WL.val Wanted.none (Runs.load nagg5 rfl ((st_54.src_sl (k := 0) rfl).cell_iv e_61 (by omega))) ?_
      obtain ⟨⟨p_62, q_63⟩, H⟩ := H
      refine WL.val Wanted.none (Runs.indexAddr_blk arr25 rfl rfl p_62 q_63 (o := (IntKind.i64.wrap (4 + x_52)).toNat) (by first | rfl | omega)) ?_
      obtain ⟨m_64, e_65, H⟩ := H
      have hl_68 : m_64.length = 12 := by rw [e_65, List.length_set]; exact hl_51
      refine WL.store_cells (i := 2) st_54 rfl cells5 rfl (by rw [iv_length]; have := hl_51; omega) rfl rfl ?_
      intro w_66 st_67
      have st_67' : St w w_66 [.sl A_24 c_25 n_26 (iv .u8 r_23) 5 1, .sl A_14 c_15 n_16 (iv .u8 r_13) 5 1, .cells B_5 (iv .u8 m_64) 25, .cells B_1 (iv .u8 (List.replicate 12 (0 : Int))) 25] := by rw [e_65, ← iv_set .u8 m_50 ((IntKind.i64.wrap (4 + x_52)).toNat) (gn r_23 ((x_52).toNat))]; exact st_67
      refine WL.nil ?_
      refine QW.blk_n ?_
      refine QW.then_n ?_
      refine CW.region ?_
      refine WL.val Wanted.none (Runs.move rfl) ?_
      refine WL.val Wanted.none (Runs.add rfl rfl rfl) ?_
      refine WL.val Wanted.none (Runs.assign rfl) ?_
      refine WL.nil ?_
      exact QW.at [(4, .pointer (some ⟨B_1, 0, none⟩)), (5, .pointer (some ⟨B_5, 0, none⟩)), (7, .slice A_24 n_26 c_25), (9, .int .i64 (IntKind.i64.wrap (x_52 + 1)))] ⟨rfl, rfl, rfl, rfl, trivial⟩ ⟨m_64, IntKind.i64.wrap (x_52 + 1), rfl, H, hl_68, st_67'⟩
    · have h_57 : (decide (x_52 < 8)) = false := (decide_eq_false c_56)
      refine CW.cf rfl h_57 ?_
      refine CW.exit ?_
      refine QW.then_x ?_
      refine QW.then_x ?_
      refine QW.blk_x ?_
      refine QW.then_n ?_
      refine CW.seq ?_
      refine CW.region ?_
      refine WL.val Wanted.none (Runs.load_arr arr25 rfl (st_54.blk (i := 2) rfl) hl_51) ?_
      refine WL.store_arr (i := 3) st_54 rfl arr25 rfl (by rw [iv_length]; exact (List.length_replicate ..)) hl_51 rfl ?_
      intro w_69 st_70
      replace st_70 : St w w_69 [.sl A_24 c_25 n_26 (iv .u8 r_23) 5 1, .sl A_14 c_15 n_16 (iv .u8 r_13) 5 1, .cells B_5 (iv .u8 m_50) 25, .cells B_1 (iv .u8 m_50) 25] := st_70
      refine WL.nil ?_
      refine QW.then_n ?_
      refine CW.sub [(4, .pointer (some ⟨B_1, 0, none⟩))] ⟨rfl, trivial⟩ ?_
      refine CW.ret ?_
      obtain rfl := H
      exact QW.retc rfl arr25 rfl (st_70.blk (i := 3) rfl) hl_51 ⟨hl_51, rfl, st_70.pick [] (by decide)⟩

/-! ### reliquarylaw04_CipherCrypts: function 4 -/
def reliquarylaw04_CipherCrypts.rel (l0 : List Int) (a1 : Int) (a2 : Int) (a3 : Int) (l4 : List Int)  : Prop := (reliquarylaw04_awake.rel  ∧ (((l4.length : Int) > 1000 ∧ True) ∨ (¬ ((l4.length : Int) > 1000) ∧ (∃ (r_15 : List Int), cipher_Nonce.rel a2 a3 r_15 ∧ (∃ (r_28 : List Int) (r_34 : Int), cipher_Crypt.rel l0 a1 r_15 l4 r_28 r_34 ∧ (∃ (r_39 : List Int) (r_45 : Int), reliquaryref04_Crypt.rel l0 a1 r_15 l4 r_39 r_45 ∧ (∃ (r_50 : List Int), reliquaryref04_Nonce.rel a2 a3 r_50 ∧ (r_50.length = 12 ∧ (r_15 = r_50 ∧ ((strOfNums r_28).toList = (strOfNums r_39).toList ∧ r_34 = r_45))))))))))
set_option maxHeartbeats 4000000 in
set_option maxRecDepth 100000 in
theorem reliquarylaw04_CipherCrypts.calls (w : World) (l0 : List Int) (a1 : Int) (a2 : Int) (a3 : Int) (l4 : List Int) (A4 : Option Addr) (n4 : Nat) (c4 : Nat)  (hG0 : Src w (some ⟨0, 0, none⟩) (iv .i64 tab0)) (hl0 : l0.length = 32) (hs4 : Src w A4 (iv .u8 l4)) (hn4 : n4 = l4.length) (hc4 : n4 ≤ c4)  (H : reliquarylaw04_CipherCrypts.rel l0 a1 a2 a3 l4 ) :
    Calls Tryd.prog 4 #[.agg (iv .u8 l0).toArray, .int .u32 a1, .int .u32 a2, .int .u64 a3, .slice A4 n4 c4] w fun e w' => e = .returned (.bool true) ∧ Below w.heap.size w w' := by
  refine CW.enter Tryd.func4 rfl (n := 59) rfl [.agg (iv .u8 l0).toArray, .int .u32 a1, .int .u32 a2, .int .u64 a3, .slice A4 n4 c4] (Nat.le_of_ble_eq_true rfl) ?_
  refine CW.sub [(0, .agg (iv .u8 l0).toArray), (1, .int .u32 a1), (2, .int .u32 a2), (3, .int .u64 a3), (4, .slice A4 n4 c4)] ⟨rfl, rfl, rfl, rfl, rfl, trivial⟩ ?_
  have st0 : St w w [] := St.refl w
  refine CW.seq ?_
  refine CW.region ?_
  refine WL.box st0 rfl rfl ?_
  intro B_1 w_2 st_3
  replace st_3 : St w w_2 [.cells B_1 (iv .u8 l0) 23] := st_3
  refine WL.val Wanted.none (Runs.assign rfl) ?_
  refine WL.nil ?_
  refine QW.then_n ?_
  refine CW.seq ?_
  refine CW.region ?_
  obtain ⟨hr_5, H⟩ := H
  refine WL.call Wanted.none ent9 rfl (reliquarylaw04_awake.calls w_2 (hG0.ext st_3) hr_5) ?_
  rintro _ w_6 ⟨rfl, sc_8⟩
  have st_7 : St w w_6 [.cells B_1 (iv .u8 l0) 23] := st_3.below sc_8
  refine ⟨_, rfl, ?_⟩
  refine WL.val Wanted.none (Runs.assign rfl) ?_
  refine WL.nil ?_
  refine QW.then_n ?_
  refine CW.seq ?_
  refine CW.seq ?_
  refine CW.region ?_
  refine WL.val Wanted.none (Runs.move rfl) ?_
  refine WL.val Wanted.none (Runs.not rfl rfl) ?_
  refine WL.nil ?_
  refine QW.then_n ?_
  refine CW.cf rfl rfl ?_
  refine CW.skip ?_
  refine QW.then_n ?_
  refine CW.seq ?_
  refine CW.seq ?_
  refine CW.region ?_
  refine WL.val Wanted.none (Runs.move rfl) ?_
  refine WL.val Wanted.none (Runs.len_sl Tryd.underlying31 rfl (by rw [hn4])) ?_
  refine WL.val Wanted.none (Runs.gtr rfl rfl rfl) ?_
  refine WL.nil ?_
  refine QW.then_n ?_
  refine CW.sub [(1, .int .u32 a1), (2, .int .u32 a2), (3, .int .u64 a3), (4, .slice A4 n4 c4), (5, .pointer (some ⟨B_1, 0, none⟩)), (10, .bool false), (22, .bool (decide ((l4.length : Int) > 1000)))] ⟨rfl, rfl, rfl, rfl, rfl, rfl, rfl, trivial⟩ ?_
  rcases H with ⟨c_9, H⟩ | ⟨c_9, H⟩
  · have h_10 : (decide ((l4.length : Int) > 1000)) = true := (decide_eq_true c_9)
    refine CW.ct rfl h_10 ?_
    refine CW.seq ?_
    refine CW.region ?_
    refine WL.val Wanted.none (Runs.assign rfl) ?_
    refine WL.nil ?_
    refine QW.then_n ?_
    refine CW.ret ?_
    refine QW.then_r ?_
    exact QW.ret1 rfl rfl ⟨rfl, st_7.ext⟩
  · have h_10 : (decide ((l4.length : Int) > 1000)) = false := (decide_eq_false c_9)
    refine CW.cf rfl h_10 ?_
    refine CW.skip ?_
    refine QW.then_n ?_
    refine CW.seq ?_
    refine CW.region ?_
    refine WL.val Wanted.none (Runs.move rfl) ?_
    refine WL.val Wanted.none (Runs.move rfl) ?_
    obtain ⟨r_15, hr_11, H⟩ := H
    refine WL.call Wanted.none ent12 rfl (cipher_Nonce.calls w_6 a2 a3 r_15 hr_11) ?_
    rintro _ w_12 ⟨hl_16, rfl, sc_14⟩
    have st_13 : St w w_12 [.cells B_1 (iv .u8 l0) 23] := st_7.call sc_14
    refine ⟨_, rfl, ?_⟩
    refine WL.alloc st_13 arr25.zero ?_
    intro B_17 w_18 st_19
    replace st_19 : St w w_18 [.cells B_17 (iv .u8 (List.replicate 12 (0 : Int))) 25, .cells B_1 (iv .u8 l0) 23] := st_19
    refine WL.store_arr (i := 0) st_19 rfl arr25 rfl (by rw [iv_length]; exact (List.length_replicate ..)) hl_16 rfl ?_
    intro w_21 st_22
    replace st_22 : St w w_21 [.cells B_17 (iv .u8 r_15) 25, .cells B_1 (iv .u8 l0) 23] := st_22
    refine WL.nil ?_
    refine QW.then_n ?_
    refine CW.seq ?_
    refine CW.region ?_
    refine WL.val Wanted.none (Runs.load_arr arr23 rfl (st_22.blk (i := 1) rfl) hl0) ?_
    refine WL.val Wanted.none (Runs.move rfl) ?_
    refine WL.val Wanted.none (Runs.load_arr arr25 rfl (st_22.blk (i := 0) rfl) hl_16) ?_
    refine WL.val Wanted.none (Runs.move rfl) ?_
    obtain ⟨r_28, r_34, hr_24, H⟩ := H
    refine WL.call Wanted.none ent13 rfl (cipher_Crypt.calls w_21 l0 a1 r_15 l4 A4 n4 c4 (hG0.ext st_22) hl0 hl_16 (hs4.ext st_22) (hn4) (hc4) r_28 r_34 hr_24) ?_
    rintro _ w_25 ⟨A_29, c_30, n_31, hn_32, rfl, sc_27⟩
    have st_26 : St w w_25 [.sl A_29 c_30 n_31 (iv .u8 r_28) 5 1, .cells B_17 (iv .u8 r_15) 25, .cells B_1 (iv .u8 l0) 23] := st_22.call sc_27
    refine ⟨_, rfl, ?_⟩
    refine WL.val Wanted.none (Runs.move rfl) ?_
    refine WL.val Wanted.none (Runs.extract rfl rfl) ?_
    refine WL.val Wanted.none (Runs.extract rfl rfl) ?_
    refine WL.val Wanted.none (Runs.assign rfl) ?_
    refine WL.val Wanted.none (Runs.assign rfl) ?_
    refine WL.nil ?_
    refine QW.then_n ?_
    refine CW.sub [(1, .int .u32 a1), (2, .int .u32 a2), (3, .int .u64 a3), (4, .slice A4 n4 c4), (5, .pointer (some ⟨B_1, 0, none⟩)), (10, .bool false), (12, .pointer (some ⟨B_17, 0, none⟩)), (13, .slice A_29 n_31 c_30), (14, .int .i64 r_34)] ⟨rfl, rfl, rfl, rfl, rfl, rfl, rfl, rfl, rfl, trivial⟩ ?_
    refine CW.seq ?_
    refine CW.region ?_
    refine WL.val Wanted.none (Runs.load_arr arr23 rfl (st_26.blk (i := 2) rfl) hl0) ?_
    refine WL.val Wanted.none (Runs.move rfl) ?_
    refine WL.val Wanted.none (Runs.load_arr arr25 rfl (st_26.blk (i := 1) rfl) hl_16) ?_
    refine WL.val Wanted.none (Runs.move rfl) ?_
    obtain ⟨r_39, r_45, hr_35, H⟩ := H
    refine WL.call Wanted.none ent14 rfl (reliquaryref04_Crypt.calls w_25 l0 a1 r_15 l4 A4 n4 c4 hl0 hl_16 (hs4.ext st_26) (hn4) (hc4) r_39 r_45 hr_35) ?_
    rintro _ w_36 ⟨A_40, c_41, n_42, hn_43, rfl, sc_38⟩
    have st_37 : St w w_36 [.sl A_40 c_41 n_42 (iv .u8 r_39) 5 1, .sl A_29 c_30 n_31 (iv .u8 r_28) 5 1, .cells B_17 (iv .u8 r_15) 25, .cells B_1 (iv .u8 l0) 23] := st_26.call sc_38
    refine ⟨_, rfl, ?_⟩
    refine WL.val Wanted.none (Runs.move rfl) ?_
    refine WL.val Wanted.none (Runs.extract rfl rfl) ?_
    refine WL.val Wanted.none (Runs.extract rfl rfl) ?_
    refine WL.val Wanted.none (Runs.assign rfl) ?_
    refine WL.val Wanted.none (Runs.assign rfl) ?_
    refine WL.nil ?_
    refine QW.then_n ?_
    refine CW.sub [(2, .int .u32 a2), (3, .int .u64 a3), (10, .bool false), (12, .pointer (some ⟨B_17, 0, none⟩)), (13, .slice A_29 n_31 c_30), (14, .int .i64 r_34), (15, .slice A_40 n_42 c_41), (16, .int .i64 r_45)] ⟨rfl, rfl, rfl, rfl, rfl, rfl, rfl, rfl, trivial⟩ ?_
    refine CW.seq ?_
    refine CW.region_qa wide (by kernel_rfl) st_37 ?_
    refine HL.val Wanted.none (fun wq sq => (Runs.load_arr arr25 rfl (sq.blk (i := 2) rfl) hl_16)) ?_
    refine HL.val Wanted.none (fun wq sq => (Runs.move rfl)) ?_
    refine HL.val Wanted.none (fun wq sq => (Runs.move rfl)) ?_
    obtain ⟨r_50, hr_46, H⟩ := H
    obtain ⟨hl_51, H⟩ := H
    refine HL.call Wanted.none ent15 rfl (fun wq sq => (reliquaryref04_Nonce.calls wq a2 a3 r_50 hr_46).mono (by rintro _ _ ⟨_, rfl, sc⟩; exact ⟨rfl, sq.call sc⟩)) ?_
    refine HL.val Wanted.none (fun wq sq => (Runs.eql_arr arr25 eqg25 rfl rfl hl_16 hl_51 rfl)) ?_
    refine HL.val Wanted.none (fun wq sq => (Runs.move rfl)) ?_
    obtain ⟨c_52, H⟩ := H
    have h_53 : (r_15 == r_50) = true := (beq_iff_eq.mpr c_52)
    refine HL.on ?_ ?_; exact Wanted.guard (dj := 47) (by rfl) (evb (by rfl) h_53) (by rfl)
    refine HL.val Wanted.none (fun wq sq => (Runs.move rfl)) ?_
    refine HL.on ?_ ?_; exact Wanted.guard (dj := 47) (by rfl) (evb (by rfl) h_53) (by rfl)
    refine HL.val Wanted.none (fun wq sq => (Runs.bytes_str Tryd.underlying31 Tryd.underlying5 Tryd.underlying9 rfl (sq.src_sl (k := 1) rfl) hn_32)) ?_
    refine HL.on ?_ ?_; exact Wanted.guard (dj := 47) (by rfl) (evb (by rfl) h_53) (by rfl)
    refine HL.val Wanted.none (fun wq sq => (Runs.move rfl)) ?_
    refine HL.on ?_ ?_; exact Wanted.guard (dj := 47) (by rfl) (evb (by rfl) h_53) (by rfl)
    refine HL.val Wanted.none (fun wq sq => (Runs.bytes_str Tryd.underlying31 Tryd.underlying5 Tryd.underlying9 rfl (sq.src_sl (k := 0) rfl) hn_43)) ?_
    refine HL.on ?_ ?_; exact Wanted.guard (dj := 47) (by rfl) (evb (by rfl) h_53) (by rfl)
    refine HL.val Wanted.none (fun wq sq => (Runs.eqs rfl rfl rfl)) ?_
    refine HL.val Wanted.none (fun wq sq => (Runs.pick_t (evb rfl h_53) rfl)) ?_
    refine HL.val Wanted.none (fun wq sq => (Runs.move rfl)) ?_
    obtain ⟨c_54, H⟩ := H
    have h_55 : ((strOfNums r_28).toList == (strOfNums r_39).toList) = true := (beq_iff_eq.mpr c_54)
    refine HL.on ?_ ?_; exact Wanted.guard (dj := 54) (by rfl) (evb (by rfl) h_55) (by rfl)
    refine HL.val Wanted.none (fun wq sq => (Runs.move rfl)) ?_
    refine HL.on ?_ ?_; exact Wanted.guard (dj := 54) (by rfl) (evb (by rfl) h_55) (by rfl)
    refine HL.val Wanted.none (fun wq sq => (Runs.move rfl)) ?_
    refine HL.on ?_ ?_; exact Wanted.guard (dj := 54) (by rfl) (evb (by rfl) h_55) (by rfl)
    refine HL.val Wanted.none (fun wq sq => (Runs.eql rfl rfl rfl)) ?_
    refine HL.val Wanted.none (fun wq sq => (Runs.pick_t (evb rfl h_55) rfl)) ?_
    refine HL.val Wanted.none (fun wq sq => (Runs.assign rfl)) ?_
    refine HL.nil (fun w_56 st_57 => ?_)
    refine WL.nil ?_
    refine QW.then_n ?_
    refine CW.sub [(10, .bool (r_34 == r_45))] ⟨rfl, trivial⟩ ?_
    refine CW.ret ?_
    have hz : (r_34 == r_45) = true := (beq_iff_eq.mpr H)
    exact QW.ret1 rfl (evb rfl hz) ⟨rfl, st_57.ext⟩

/-! ### reliquarylaw04_CipherTwice: function 5 -/
def reliquarylaw04_CipherTwice.rel (l0 : List Int) (l1 : List Int) (l2 : List Int) (a3 : Int)  : Prop := (reliquarylaw04_awake.rel  ∧ (((l2.length : Int) > 1000 ∧ True) ∨ (¬ ((l2.length : Int) > 1000) ∧ (∃ (r_19 : List Int) (r_25 : Int), cipher_Crypt.rel l0 5 l1 l2 r_19 r_25 ∧ (∃ (r_30 : List Int) (r_36 : Int), cipher_Crypt.rel l0 5 l1 r_19 r_30 r_36 ∧ (¬ (r_25 ≠ 0) ∧ (¬ (r_36 ≠ 0) ∧ (¬ (¬ ((strOfNums r_30).toList = (strOfNums l2).toList)) ∧ (¬ (¬ ((strOfNums l2).toList = (strOfNums l2).toList)) ∧ (((IntKind.i64.wrap (64 * (IntKind.i64.wrap (Int.tmod a3 16)))) > (l2.length : Int) ∧ True) ∨ (¬ ((IntKind.i64.wrap (64 * (IntKind.i64.wrap (Int.tmod a3 16)))) > (l2.length : Int)) ∧ ((0 ≤ (0 : Int) ∧ (0 : Int) ≤ (IntKind.i64.wrap (64 * (IntKind.i64.wrap (Int.tmod a3 16)))) ∧ (IntKind.i64.wrap (64 * (IntKind.i64.wrap (Int.tmod a3 16)))) ≤ (l2.length : Int)) ∧ (∃ (r_65 : List Int) (r_71 : Int), cipher_Crypt.rel l0 5 l1 (prt l2 (0 : Int) (IntKind.i64.wrap (64 * (IntKind.i64.wrap (Int.tmod a3 16))))) r_65 r_71 ∧ (∃ x_74 : Int, x_74 = IntKind.u32.wrap (5 + (IntKind.u32.wrap (IntKind.i64.wrap (Int.tmod a3 16)))) ∧ ((0 ≤ (IntKind.i64.wrap (64 * (IntKind.i64.wrap (Int.tmod a3 16)))) ∧ (IntKind.i64.wrap (64 * (IntKind.i64.wrap (Int.tmod a3 16)))) ≤ (l2.length : Int) ∧ (l2.length : Int) ≤ (l2.length : Int)) ∧ (∃ (r_92 : List Int) (r_98 : Int), cipher_Crypt.rel l0 x_74 l1 (prt l2 (IntKind.i64.wrap (64 * (IntKind.i64.wrap (Int.tmod a3 16)))) (l2.length : Int)) r_92 r_98 ∧ (r_71 = 0 ∧ (r_98 = 0 ∧ (((strOfNums r_65).size + (strOfNums r_92).size ≤ 1099511627776) ∧ ((strOfNums r_65) ++ (strOfNums r_92)).toList = (strOfNums r_19).toList)))))))))))))))))))
set_option maxHeartbeats 4000000 in
set_option maxRecDepth 100000 in
theorem reliquarylaw04_CipherTwice.calls (w : World) (l0 : List Int) (l1 : List Int) (l2 : List Int) (a3 : Int) (A2 : Option Addr) (n2 : Nat) (c2 : Nat)  (hG0 : Src w (some ⟨0, 0, none⟩) (iv .i64 tab0)) (hl0 : l0.length = 32) (hl1 : l1.length = 12) (hs2 : Src w A2 (iv .u8 l2)) (hn2 : n2 = l2.length) (hc2 : n2 ≤ c2)  (H : reliquarylaw04_CipherTwice.rel l0 l1 l2 a3 ) :
    Calls Tryd.prog 5 #[.agg (iv .u8 l0).toArray, .agg (iv .u8 l1).toArray, .slice A2 n2 c2, .int .u8 a3] w fun e w' => e = .returned (.bool true) ∧ Below w.heap.size w w' := by
  refine CW.enter Tryd.func5 rfl (n := 107) rfl [.agg (iv .u8 l0).toArray, .agg (iv .u8 l1).toArray, .slice A2 n2 c2, .int .u8 a3] (Nat.le_of_ble_eq_true rfl) ?_
  refine CW.sub [(0, .agg (iv .u8 l0).toArray), (1, .agg (iv .u8 l1).toArray), (2, .slice A2 n2 c2), (3, .int .u8 a3)] ⟨rfl, rfl, rfl, rfl, trivial⟩ ?_
  have st0 : St w w [] := St.refl w
  refine CW.seq ?_
  refine CW.region ?_
  refine WL.box st0 rfl rfl ?_
  intro B_1 w_2 st_3
  replace st_3 : St w w_2 [.cells B_1 (iv .u8 l0) 23] := st_3
  refine WL.box st_3 rfl rfl ?_
  intro B_5 w_6 st_7
  replace st_7 : St w w_6 [.cells B_5 (iv .u8 l1) 25, .cells B_1 (iv .u8 l0) 23] := st_7
  refine WL.val Wanted.none (Runs.assign rfl) ?_
  refine WL.nil ?_
  refine QW.then_n ?_
  refine CW.seq ?_
  refine CW.region ?_
  obtain ⟨hr_9, H⟩ := H
  refine WL.call Wanted.none ent9 rfl (reliquarylaw04_awake.calls w_6 (hG0.ext st_7) hr_9) ?_
  rintro _ w_10 ⟨rfl, sc_12⟩
  have st_11 : St w w_10 [.cells B_5 (iv .u8 l1) 25, .cells B_1 (iv .u8 l0) 23] := st_7.below sc_12
  refine ⟨_, rfl, ?_⟩
  refine WL.val Wanted.none (Runs.assign rfl) ?_
  refine WL.nil ?_
  refine QW.then_n ?_
  refine CW.seq ?_
  refine CW.seq ?_
  refine CW.region ?_
  refine WL.val Wanted.none (Runs.move rfl) ?_
  refine WL.val Wanted.none (Runs.not rfl rfl) ?_
  refine WL.nil ?_
  refine QW.then_n ?_
  refine CW.cf rfl rfl ?_
  refine CW.skip ?_
  refine QW.then_n ?_
  refine CW.sub [(2, .slice A2 n2 c2), (3, .int .u8 a3), (4, .pointer (some ⟨B_1, 0, none⟩)), (5, .pointer (some ⟨B_5, 0, none⟩)), (8, .bool false)] ⟨rfl, rfl, rfl, rfl, rfl, trivial⟩ ?_
  refine CW.seq ?_
  refine CW.seq ?_
  refine CW.region ?_
  refine WL.val Wanted.none (Runs.move rfl) ?_
  refine WL.val Wanted.none (Runs.len_sl Tryd.underlying31 rfl (by rw [hn2])) ?_
  refine WL.val Wanted.none (Runs.gtr rfl rfl rfl) ?_
  refine WL.nil ?_
  refine QW.then_n ?_
  rcases H with ⟨c_13, H⟩ | ⟨c_13, H⟩
  · have h_14 : (decide ((l2.length : Int) > 1000)) = true := (decide_eq_true c_13)
    refine CW.ct rfl h_14 ?_
    refine CW.seq ?_
    refine CW.region ?_
    refine WL.val Wanted.none (Runs.assign rfl) ?_
    refine WL.nil ?_
    refine QW.then_n ?_
    refine CW.ret ?_
    refine QW.then_r ?_
    exact QW.ret1 rfl rfl ⟨rfl, st_11.ext⟩
  · have h_14 : (decide ((l2.length : Int) > 1000)) = false := (decide_eq_false c_13)
    refine CW.cf rfl h_14 ?_
    refine CW.skip ?_
    refine QW.then_n ?_
    refine CW.seq ?_
    refine CW.region ?_
    refine WL.val Wanted.none (Runs.move rfl) ?_
    refine WL.val Wanted.none (Runs.bytes_str Tryd.underlying31 Tryd.underlying5 Tryd.underlying9 rfl (hs2.ext st_11) hn2) ?_
    refine WL.val Wanted.none (Runs.assign rfl) ?_
    refine WL.nil ?_
    refine QW.then_n ?_
    refine CW.seq ?_
    refine CW.region ?_
    refine WL.val Wanted.none (Runs.load_arr arr23 rfl (st_11.blk (i := 1) rfl) hl0) ?_
    refine WL.val Wanted.none (Runs.load_arr arr25 rfl (st_11.blk (i := 0) rfl) hl1) ?_
    refine WL.val Wanted.none (Runs.move rfl) ?_
    obtain ⟨r_19, r_25, hr_15, H⟩ := H
    refine WL.call Wanted.none ent13 rfl (cipher_Crypt.calls w_10 l0 5 l1 l2 A2 n2 c2 (hG0.ext st_11) hl0 hl1 (hs2.ext st_11) (hn2) (hc2) r_19 r_25 hr_15) ?_
    rintro _ w_16 ⟨A_20, c_21, n_22, hn_23, rfl, sc_18⟩
    have st_17 : St w w_16 [.sl A_20 c_21 n_22 (iv .u8 r_19) 5 1, .cells B_5 (iv .u8 l1) 25, .cells B_1 (iv .u8 l0) 23] := st_11.call sc_18
    refine ⟨_, rfl, ?_⟩
    refine WL.val Wanted.none (Runs.move rfl) ?_
    refine WL.val Wanted.none (Runs.extract rfl rfl) ?_
    refine WL.val Wanted.none (Runs.extract rfl rfl) ?_
    refine WL.val Wanted.none (Runs.assign rfl) ?_
    refine WL.val Wanted.none (Runs.assign rfl) ?_
    refine WL.nil ?_
    refine QW.then_n ?_
    refine CW.sub [(2, .slice A2 n2 c2), (3, .int .u8 a3), (4, .pointer (some ⟨B_1, 0, none⟩)), (5, .pointer (some ⟨B_5, 0, none⟩)), (8, .bool false), (10, .string (strOfNums l2)), (11, .slice A_20 n_22 c_21), (12, .int .i64 r_25)] ⟨rfl, rfl, rfl, rfl, rfl, rfl, rfl, rfl, trivial⟩ ?_
    refine CW.seq ?_
    refine CW.region ?_
    refine WL.val Wanted.none (Runs.load_arr arr23 rfl (st_17.blk (i := 2) rfl) hl0) ?_
    refine WL.val Wanted.none (Runs.load_arr arr25 rfl (st_17.blk (i := 1) rfl) hl1) ?_
    refine WL.val Wanted.none (Runs.move rfl) ?_
    obtain ⟨r_30, r_36, hr_26, H⟩ := H
    refine WL.call Wanted.none ent13 rfl (cipher_Crypt.calls w_16 l0 5 l1 r_19 A_20 n_22 c_21 (hG0.ext st_17) hl0 hl1 (st_17.src_sl (k := 0) rfl) (hn_23) (st_17.cap (i := 0) rfl) r_30 r_36 hr_26) ?_
    rintro _ w_27 ⟨A_31, c_32, n_33, hn_34, rfl, sc_29⟩
    have st_28 : St w w_27 [.sl A_31 c_32 n_33 (iv .u8 r_30) 5 1, .sl A_20 c_21 n_22 (iv .u8 r_19) 5 1, .cells B_5 (iv .u8 l1) 25, .cells B_1 (iv .u8 l0) 23] := st_17.call sc_29
    refine ⟨_, rfl, ?_⟩
    refine WL.val Wanted.none (Runs.move rfl) ?_
    refine WL.val Wanted.none (Runs.extract rfl rfl) ?_
    refine WL.val Wanted.none (Runs.extract rfl rfl) ?_
    refine WL.val Wanted.none (Runs.assign rfl) ?_
    refine WL.val Wanted.none (Runs.assign rfl) ?_
    refine WL.nil ?_
    refine QW.then_n ?_
    refine CW.sub [(2, .slice A2 n2 c2), (3, .int .u8 a3), (4, .pointer (some ⟨B_1, 0, none⟩)), (5, .pointer (some ⟨B_5, 0, none⟩)), (8, .bool false), (10, .string (strOfNums l2)), (11, .slice A_20 n_22 c_21), (12, .int .i64 r_25), (13, .slice A_31 n_33 c_32), (14, .int .i64 r_36)] ⟨rfl, rfl, rfl, rfl, rfl, rfl, rfl, rfl, rfl, rfl, trivial⟩ ?_
    refine CW.seq ?_
    refine CW.seq ?_
    refine CW.region ?_
    refine WL.val Wanted.none (Runs.move rfl) ?_
    refine WL.val Wanted.none (Runs.neq rfl rfl rfl) ?_
    refine WL.val Wanted.none (Runs.move rfl) ?_
    obtain ⟨c_37, H⟩ := H
    have h_38 : (r_25 != 0) = false := (bne_eq_false_iff_eq.mpr (Decidable.not_not.mp c_37))
    refine WL.on ?_ ?_; exact Wanted.guard (dj := 44) (by rfl) (evb (by rfl) h_38) (by rfl)
    refine WL.val Wanted.none (Runs.move rfl) ?_
    refine WL.on ?_ ?_; exact Wanted.guard (dj := 44) (by rfl) (evb (by rfl) h_38) (by rfl)
    refine WL.val Wanted.none (Runs.neq rfl rfl rfl) ?_
    refine WL.val Wanted.none (Runs.pick_f (evb rfl h_38) rfl) ?_
    refine WL.val Wanted.none (Runs.move rfl) ?_
    obtain ⟨c_39, H⟩ := H
    have h_40 : (r_36 != 0) = false := (bne_eq_false_iff_eq.mpr (Decidable.not_not.mp c_39))
    refine WL.on ?_ ?_; exact Wanted.guard (dj := 48) (by rfl) (evb (by rfl) h_40) (by rfl)
    refine WL.val Wanted.none (Runs.move rfl) ?_
    refine WL.on ?_ ?_; exact Wanted.guard (dj := 48) (by rfl) (evb (by rfl) h_40) (by rfl)
    refine WL.val Wanted.none (Runs.bytes_str Tryd.underlying31 Tryd.underlying5 Tryd.underlying9 rfl (st_28.src_sl (k := 0) rfl) hn_34) ?_
    refine WL.on ?_ ?_; exact Wanted.guard (dj := 48) (by rfl) (evb (by rfl) h_40) (by rfl)
    refine WL.val Wanted.none (Runs.move rfl) ?_
    refine WL.on ?_ ?_; exact Wanted.guard (dj := 48) (by rfl) (evb (by rfl) h_40) (by rfl)
    refine WL.val Wanted.none (Runs.nes rfl rfl rfl) ?_
    refine WL.val Wanted.none (Runs.pick_f (evb rfl h_40) rfl) ?_
    refine WL.val Wanted.none (Runs.move rfl) ?_
    obtain ⟨c_41, H⟩ := H
    have h_42 : (!((strOfNums r_30).toList == (strOfNums l2).toList)) = false := (not_f (beq_iff_eq.mpr (Decidable.not_not.mp c_41)))
    refine WL.on ?_ ?_; exact Wanted.guard (dj := 54) (by rfl) (evb (by rfl) h_42) (by rfl)
    refine WL.val Wanted.none (Runs.move rfl) ?_
    refine WL.on ?_ ?_; exact Wanted.guard (dj := 54) (by rfl) (evb (by rfl) h_42) (by rfl)
    refine WL.val Wanted.none (Runs.bytes_str Tryd.underlying31 Tryd.underlying5 Tryd.underlying9 rfl (hs2.ext st_28) hn2) ?_
    refine WL.on ?_ ?_; exact Wanted.guard (dj := 54) (by rfl) (evb (by rfl) h_42) (by rfl)
    refine WL.val Wanted.none (Runs.move rfl) ?_
    refine WL.on ?_ ?_; exact Wanted.guard (dj := 54) (by rfl) (evb (by rfl) h_42) (by rfl)
    refine WL.val Wanted.none (Runs.nes rfl rfl rfl) ?_
    refine WL.val Wanted.none (Runs.pick_f (evb rfl h_42) rfl) ?_
    refine WL.nil ?_
    refine QW.then_n ?_
    refine CW.sub [(2, .slice A2 n2 c2), (3, .int .u8 a3), (4, .pointer (some ⟨B_1, 0, none⟩)), (5, .pointer (some ⟨B_5, 0, none⟩)), (8, .bool false), (11, .slice A_20 n_22 c_21), (59, .bool (!((strOfNums l2).toList == (strOfNums l2).toList)))] ⟨rfl, rfl, rfl, rfl, rfl, rfl, rfl, trivial⟩ ?_
    obtain ⟨c_43, H⟩ := H
    have h_44 : (!((strOfNums l2).toList == (strOfNums l2).toList)) = false := (not_f (beq_iff_eq.mpr (Decidable.not_not.mp c_43)))
    refine CW.cf rfl h_44 ?_
    refine CW.skip ?_
    refine QW.then_n ?_
    refine CW.seq ?_
    refine CW.region ?_
    refine WL.val Wanted.none (Runs.move rfl) ?_
    refine WL.val Wanted.none (Runs.rem rfl rfl (by decide) rfl) ?_
    refine WL.val Wanted.none (Runs.conv Tryd.underlying3 ⟨_, Tryd.underlying5⟩ rfl rfl) ?_
    refine WL.val Wanted.none (Runs.assign rfl) ?_
    refine WL.nil ?_
    refine QW.then_n ?_
    refine CW.seq ?_
    refine CW.seq ?_
    refine CW.region ?_
    refine WL.val Wanted.none (Runs.move rfl) ?_
    refine WL.val Wanted.none (Runs.mul rfl rfl rfl) ?_
    refine WL.val Wanted.none (Runs.move rfl) ?_
    refine WL.val Wanted.none (Runs.len_sl Tryd.underlying31 rfl (by rw [hn2])) ?_
    refine WL.val Wanted.none (Runs.gtr rfl rfl rfl) ?_
    refine WL.nil ?_
    refine QW.then_n ?_
    refine CW.sub [(2, .slice A2 n2 c2), (4, .pointer (some ⟨B_1, 0, none⟩)), (5, .pointer (some ⟨B_5, 0, none⟩)), (8, .bool false), (11, .slice A_20 n_22 c_21), (15, .int .i64 (IntKind.i64.wrap (Int.tmod a3 16))), (67, .bool (decide ((IntKind.i64.wrap (64 * (IntKind.i64.wrap (Int.tmod a3 16)))) > (l2.length : Int))))] ⟨rfl, rfl, rfl, rfl, rfl, rfl, rfl, trivial⟩ ?_
    rcases H with ⟨c_45, H⟩ | ⟨c_45, H⟩
    · have h_46 : (decide ((IntKind.i64.wrap (64 * (IntKind.i64.wrap (Int.tmod a3 16)))) > (l2.length : Int))) = true := (decide_eq_true c_45)
      refine CW.ct rfl h_46 ?_
      refine CW.seq ?_
      refine CW.region ?_
      refine WL.val Wanted.none (Runs.assign rfl) ?_
      refine WL.nil ?_
      refine QW.then_n ?_
      refine CW.ret ?_
      refine QW.then_r ?_
      exact QW.ret1 rfl rfl ⟨rfl, st_28.ext⟩
    · have h_46 : (decide ((IntKind.i64.wrap (64 * (IntKind.i64.wrap (Int.tmod a3 16)))) > (l2.length : Int))) = false := (decide_eq_false c_45)
      refine CW.cf rfl h_46 ?_
      refine CW.skip ?_
      refine QW.then_n ?_
      refine CW.seq ?_
      refine CW.region_aw wide st_28 (fun w_47 st_48 => ?_)
      refine AW.take 2 rfl (by kernel_rfl) (by kernel_rfl) (by kernel_rfl) Wanted.none (fun _ => (Runs.move rfl)) ?_
      refine AW.take 3 rfl (by kernel_rfl) (by kernel_rfl) (by kernel_rfl) Wanted.none (fun _ => (Runs.move rfl)) ?_
      refine AW.take 4 rfl (by kernel_rfl) (by kernel_rfl) (by kernel_rfl) Wanted.none (fun _ => (Runs.mul rfl rfl rfl)) ?_
      obtain ⟨⟨p_49, q_50, r_51⟩, H⟩ := H
      have h_58 : n2 ≤ c2 := hc2
      have h_59 : (IntKind.i64.wrap (64 * (IntKind.i64.wrap (Int.tmod a3 16)))) ≤ (c2 : Int) := by have := hn2; omega
      obtain ⟨A_52, e_55⟩ : ∃ B_, B_ = subA A2 ((0 : Int)).toNat c2 := ⟨_, rfl⟩
      obtain ⟨n_54, e_57⟩ : ∃ n_ : Nat, n_ = (prt l2 (0 : Int) (IntKind.i64.wrap (64 * (IntKind.i64.wrap (Int.tmod a3 16))))).length := ⟨_, rfl⟩
      have h_60 : n_54 ≤ c2 := by rw [e_57, prt_length p_49 q_50 r_51]; omega
      refine AW.take 5 rfl (by kernel_rfl) (by kernel_rfl) (by kernel_rfl) Wanted.none (fun _ => (Runs.slice_h Tryd.underlying31 cells5 rfl rfl q_50 h_59 e_55 (N := n_54) (by rw [e_57, prt_length p_49 q_50 r_51]; rfl))) ?_
      refine AW.step2 0 1 rfl rfl (by kernel_rfl) ?_ ?_
      · refine WL.val Wanted.none (Runs.load_arr arr23 rfl (st_48.blk (i := 3) rfl) hl0) ?_
        refine WL.nil ?_
        refine AW.back ?_
        refine AW.step 1 rfl (by kernel_rfl) ?_
        refine WL.val Wanted.none (Runs.load_arr arr25 rfl (st_48.blk (i := 2) rfl) hl1) ?_
        refine WL.nil ?_
        refine AW.back ?_
        refine AW.step 6 rfl (by kernel_rfl) ?_
        obtain ⟨r_65, r_71, hr_61, H⟩ := H
        refine WL.call Wanted.none ent13 rfl (cipher_Crypt.calls w_47 l0 5 l1 (prt l2 (0 : Int) (IntKind.i64.wrap (64 * (IntKind.i64.wrap (Int.tmod a3 16))))) A_52 n_54 c2 (hG0.ext st_48) hl0 hl1 ((hs2.ext st_48).sub_iv p_49 q_50 h_59 e_55) (e_57) (h_60) r_65 r_71 hr_61) ?_
        rintro _ w_62 ⟨A_66, c_67, n_68, hn_69, rfl, sc_64⟩
        have st_63 : St w w_62 [.sl A_66 c_67 n_68 (iv .u8 r_65) 5 1, .sl A_31 c_32 n_33 (iv .u8 r_30) 5 1, .sl A_20 c_21 n_22 (iv .u8 r_19) 5 1, .cells B_5 (iv .u8 l1) 25, .cells B_1 (iv .u8 l0) 23] := st_48.call sc_64
        refine ⟨_, rfl, ?_⟩
        refine WL.nil ?_
        refine AW.back ?_
        refine AW.take 7 rfl (by kernel_rfl) (by kernel_rfl) (by kernel_rfl) Wanted.none (fun _ => (Runs.move rfl)) ?_
        refine AW.take 8 rfl (by kernel_rfl) (by kernel_rfl) (by kernel_rfl) Wanted.none (fun _ => (Runs.extract rfl rfl)) ?_
        refine AW.take 9 rfl (by kernel_rfl) (by kernel_rfl) (by kernel_rfl) Wanted.none (fun _ => (Runs.extract rfl rfl)) ?_
        refine AW.take 10 rfl (by kernel_rfl) (by kernel_rfl) (by kernel_rfl) Wanted.none (fun _ => (Runs.assign rfl)) ?_
        refine AW.take 11 rfl (by kernel_rfl) (by kernel_rfl) (by kernel_rfl) Wanted.none (fun _ => (Runs.assign rfl)) ?_
        refine AW.done (by kernel_rfl) ?_
        refine QW.then_n ?_
        refine CW.sub [(2, .slice A2 n2 c2), (4, .pointer (some ⟨B_1, 0, none⟩)), (5, .pointer (some ⟨B_5, 0, none⟩)), (8, .bool false), (11, .slice A_20 n_22 c_21), (15, .int .i64 (IntKind.i64.wrap (Int.tmod a3 16))), (16, .slice A_66 n_68 c_67), (17, .int .i64 r_71)] ⟨rfl, rfl, rfl, rfl, rfl, rfl, rfl, rfl, trivial⟩ ?_
        refine CW.seq ?_
        refine CW.region_aw wide st_63 (fun w_72 st_73 => ?_)
        refine AW.take 1 rfl (by kernel_rfl) (by kernel_rfl) (by kernel_rfl) Wanted.none (fun _ => (Runs.move rfl)) ?_
        refine AW.take 2 rfl (by kernel_rfl) (by kernel_rfl) (by kernel_rfl) Wanted.none (fun _ => (Runs.conv Tryd.underlying24 ⟨_, Tryd.underlying3⟩ rfl rfl)) ?_
        obtain ⟨x_74, e_75, H⟩ := H
        refine AW.take 3 rfl (by kernel_rfl) (by kernel_rfl) (by kernel_rfl) Wanted.none (fun _ => (Runs.add rfl rfl e_75)) ?_
        refine AW.take 5 rfl (by kernel_rfl) (by kernel_rfl) (by kernel_rfl) Wanted.none (fun _ => (Runs.move rfl)) ?_
        refine AW.take 6 rfl (by kernel_rfl) (by kernel_rfl) (by kernel_rfl) Wanted.none (fun _ => (Runs.move rfl)) ?_
        refine AW.take 7 rfl (by kernel_rfl) (by kernel_rfl) (by kernel_rfl) Wanted.none (fun _ => (Runs.mul rfl rfl rfl)) ?_
        obtain ⟨⟨p_76, q_77, r_78⟩, H⟩ := H
        have h_85 : n2 ≤ c2 := hc2
        have h_86 : (l2.length : Int) ≤ (c2 : Int) := by have := hn2; omega
        obtain ⟨A_79, e_82⟩ : ∃ B_, B_ = subA A2 (IntKind.i64.wrap (64 * (IntKind.i64.wrap (Int.tmod a3 16)))).toNat c2 := ⟨_, rfl⟩
        obtain ⟨n_81, e_84⟩ : ∃ n_ : Nat, n_ = (prt l2 (IntKind.i64.wrap (64 * (IntKind.i64.wrap (Int.tmod a3 16)))) (l2.length : Int)).length := ⟨_, rfl⟩
        obtain ⟨c_80, e_83⟩ : ∃ c_ : Nat, c_ = c2 - (IntKind.i64.wrap (64 * (IntKind.i64.wrap (Int.tmod a3 16)))).toNat := ⟨_, rfl⟩
        have h_87 : n_81 ≤ c_80 := by rw [e_84, prt_length p_76 q_77 r_78]; rw [e_83]; omega
        refine AW.take 8 rfl (by kernel_rfl) (by kernel_rfl) (by kernel_rfl) Wanted.none (fun _ => (Runs.slice_l Tryd.underlying31 cells5 rfl rfl p_76 (by have := hn2; omega) e_82 (N := n_81) (by rw [e_84, prt_length p_76 q_77 r_78]; rw [hn2]; rfl) e_83)) ?_
        refine AW.step2 0 4 rfl rfl (by kernel_rfl) ?_ ?_
        · refine WL.val Wanted.none (Runs.load_arr arr23 rfl (st_73.blk (i := 4) rfl) hl0) ?_
          refine WL.nil ?_
          refine AW.back ?_
          refine AW.step 4 rfl (by kernel_rfl) ?_
          refine WL.val Wanted.none (Runs.load_arr arr25 rfl (st_73.blk (i := 3) rfl) hl1) ?_
          refine WL.nil ?_
          refine AW.back ?_
          refine AW.step 9 rfl (by kernel_rfl) ?_
          obtain ⟨r_92, r_98, hr_88, H⟩ := H
          refine WL.call Wanted.none ent13 rfl (cipher_Crypt.calls w_72 l0 x_74 l1 (prt l2 (IntKind.i64.wrap (64 * (IntKind.i64.wrap (Int.tmod a3 16)))) (l2.length : Int)) A_79 n_81 c_80 (hG0.ext st_73) hl0 hl1 ((hs2.ext st_73).sub_iv p_76 q_77 h_86 e_82) (e_84) (h_87) r_92 r_98 hr_88) ?_
          rintro _ w_89 ⟨A_93, c_94, n_95, hn_96, rfl, sc_91⟩
          have st_90 : St w w_89 [.sl A_93 c_94 n_95 (iv .u8 r_92) 5 1, .sl A_66 c_67 n_68 (iv .u8 r_65) 5 1, .sl A_31 c_32 n_33 (iv .u8 r_30) 5 1, .sl A_20 c_21 n_22 (iv .u8 r_19) 5 1, .cells B_5 (iv .u8 l1) 25, .cells B_1 (iv .u8 l0) 23] := st_73.call sc_91
          refine ⟨_, rfl, ?_⟩
          refine WL.nil ?_
          refine AW.back ?_
          refine AW.take 10 rfl (by kernel_rfl) (by kernel_rfl) (by kernel_rfl) Wanted.none (fun _ => (Runs.move rfl)) ?_
          refine AW.take 11 rfl (by kernel_rfl) (by kernel_rfl) (by kernel_rfl) Wanted.none (fun _ => (Runs.extract rfl rfl)) ?_
          refine AW.take 12 rfl (by kernel_rfl) (by kernel_rfl) (by kernel_rfl) Wanted.none (fun _ => (Runs.extract rfl rfl)) ?_
          refine AW.take 13 rfl (by kernel_rfl) (by kernel_rfl) (by kernel_rfl) Wanted.none (fun _ => (Runs.assign rfl)) ?_
          refine AW.take 14 rfl (by kernel_rfl) (by kernel_rfl) (by kernel_rfl) Wanted.none (fun _ => (Runs.assign rfl)) ?_
          refine AW.done (by kernel_rfl) ?_
          refine QW.then_n ?_
          refine CW.sub [(8, .bool false), (11, .slice A_20 n_22 c_21), (16, .slice A_66 n_68 c_67), (17, .int .i64 r_71), (18, .slice A_93 n_95 c_94), (19, .int .i64 r_98)] ⟨rfl, rfl, rfl, rfl, rfl, rfl, trivial⟩ ?_
          refine CW.seq ?_
          refine CW.region ?_
          refine WL.val Wanted.none (Runs.move rfl) ?_
          refine WL.val Wanted.none (Runs.eql rfl rfl rfl) ?_
          refine WL.val Wanted.none (Runs.move rfl) ?_
          obtain ⟨c_99, H⟩ := H
          have h_100 : (r_71 == 0) = true := (beq_iff_eq.mpr c_99)
          refine WL.on ?_ ?_; exact Wanted.guard (dj := 93) (by rfl) (evb (by rfl) h_100) (by rfl)
          refine WL.val Wanted.none (Runs.move rfl) ?_
          refine WL.on ?_ ?_; exact Wanted.guard (dj := 93) (by rfl) (evb (by rfl) h_100) (by rfl)
          refine WL.val Wanted.none (Runs.eql rfl rfl rfl) ?_
          refine WL.val Wanted.none (Runs.pick_t (evb rfl h_100) rfl) ?_
          refine WL.val Wanted.none (Runs.move rfl) ?_
          obtain ⟨c_101, H⟩ := H
          have h_102 : (r_98 == 0) = true := (beq_iff_eq.mpr c_101)
          refine WL.on ?_ ?_; exact Wanted.guard (dj := 97) (by rfl) (evb (by rfl) h_102) (by rfl)
          refine WL.val Wanted.none (Runs.move rfl) ?_
          refine WL.on ?_ ?_; exact Wanted.guard (dj := 97) (by rfl) (evb (by rfl) h_102) (by rfl)
          refine WL.val Wanted.none (Runs.bytes_str Tryd.underlying31 Tryd.underlying5 Tryd.underlying9 rfl (st_90.src_sl (k := 1) rfl) hn_69) ?_
          refine WL.on ?_ ?_; exact Wanted.guard (dj := 97) (by rfl) (evb (by rfl) h_102) (by rfl)
          refine WL.val Wanted.none (Runs.move rfl) ?_
          refine WL.on ?_ ?_; exact Wanted.guard (dj := 97) (by rfl) (evb (by rfl) h_102) (by rfl)
          refine WL.val Wanted.none (Runs.bytes_str Tryd.underlying31 Tryd.underlying5 Tryd.underlying9 rfl (st_90.src_sl (k := 0) rfl) hn_96) ?_
          refine WL.on ?_ ?_; exact Wanted.guard (dj := 97) (by rfl) (evb (by rfl) h_102) (by rfl)
          obtain ⟨z_103, H⟩ := H
          refine WL.val Wanted.none (Runs.adds rfl rfl z_103 rfl) ?_
          refine WL.on ?_ ?_; exact Wanted.guard (dj := 97) (by rfl) (evb (by rfl) h_102) (by rfl)
          refine WL.val Wanted.none (Runs.move rfl) ?_
          refine WL.on ?_ ?_; exact Wanted.guard (dj := 97) (by rfl) (evb (by rfl) h_102) (by rfl)
          refine WL.val Wanted.none (Runs.bytes_str Tryd.underlying31 Tryd.underlying5 Tryd.underlying9 rfl (st_90.src_sl (k := 3) rfl) hn_23) ?_
          refine WL.on ?_ ?_; exact Wanted.guard (dj := 97) (by rfl) (evb (by rfl) h_102) (by rfl)
          refine WL.val Wanted.none (Runs.eqs rfl rfl rfl) ?_
          refine WL.val Wanted.none (Runs.pick_t (evb rfl h_102) rfl) ?_
          refine WL.val Wanted.none (Runs.assign rfl) ?_
          refine WL.nil ?_
          refine QW.then_n ?_
          refine CW.sub [(8, .bool (((strOfNums r_65) ++ (strOfNums r_92)).toList == (strOfNums r_19).toList))] ⟨rfl, trivial⟩ ?_
          refine CW.ret ?_
          have hz : (((strOfNums r_65) ++ (strOfNums r_92)).toList == (strOfNums r_19).toList) = true := (beq_iff_eq.mpr H)
          exact QW.ret1 rfl (evb rfl hz) ⟨rfl, st_90.ext⟩
        · refine WL.val Wanted.none (Runs.load_arr arr25 rfl (st_73.blk (i := 3) rfl) hl1) ?_
          refine WL.nil ?_
          refine AW.back ?_
          refine AW.step 0 rfl (by kernel_rfl) ?_
          refine WL.val Wanted.none (Runs.load_arr arr23 rfl (st_73.blk (i := 4) rfl) hl0) ?_
          refine WL.nil ?_
          refine AW.back ?_
          refine AW.step 9 rfl (by kernel_rfl) ?_
          obtain ⟨r_108, r_114, hr_104, H⟩ := H
          refine WL.call Wanted.none ent13 rfl (cipher_Crypt.calls w_72 l0 x_74 l1 (prt l2 (IntKind.i64.wrap (64 * (IntKind.i64.wrap (Int.tmod a3 16)))) (l2.length : Int)) A_79 n_81 c_80 (hG0.ext st_73) hl0 hl1 ((hs2.ext st_73).sub_iv p_76 q_77 h_86 e_82) (e_84) (h_87) r_108 r_114 hr_104) ?_
          rintro _ w_105 ⟨A_109, c_110, n_111, hn_112, rfl, sc_107⟩
          have st_106 : St w w_105 [.sl A_109 c_110 n_111 (iv .u8 r_108) 5 1, .sl A_66 c_67 n_68 (iv .u8 r_65) 5 1, .sl A_31 c_32 n_33 (iv .u8 r_30) 5 1, .sl A_20 c_21 n_22 (iv .u8 r_19) 5 1, .cells B_5 (iv .u8 l1) 25, .cells B_1 (iv .u8 l0) 23] := st_73.call sc_107
          refine ⟨_, rfl, ?_⟩
          refine WL.nil ?_
          refine AW.back ?_
          refine AW.take 10 rfl (by kernel_rfl) (by kernel_rfl) (by kernel_rfl) Wanted.none (fun _ => (Runs.move rfl)) ?_
          refine AW.take 11 rfl (by kernel_rfl) (by kernel_rfl) (by kernel_rfl) Wanted.none (fun _ => (Runs.extract rfl rfl)) ?_
          refine AW.take 12 rfl (by kernel_rfl) (by kernel_rfl) (by kernel_rfl) Wanted.none (fun _ => (Runs.extract rfl rfl)) ?_
          refine AW.take 13 rfl (by kernel_rfl) (by kernel_rfl) (by kernel_rfl) Wanted.none (fun _ => (Runs.assign rfl)) ?_
          refine AW.take 14 rfl (by kernel_rfl) (by kernel_rfl) (by kernel_rfl) Wanted.none (fun _ => (Runs.assign rfl)) ?_
          refine AW.done (by kernel_rfl) ?_
          refine QW.then_n ?_
          refine CW.sub [(8, .bool false), (11, .slice A_20 n_22 c_21), (16, .slice A_66 n_68 c_67), (17, .int .i64 r_71), (18, .slice A_109 n_111 c_110), (19, .int .i64 r_114)] ⟨rfl, rfl, rfl, rfl, rfl, rfl, trivial⟩ ?_
          refine CW.seq ?_
          refine CW.region ?_
          refine WL.val Wanted.none (Runs.move rfl) ?_
          refine WL.val Wanted.none (Runs.eql rfl rfl rfl) ?_
          refine WL.val Wanted.none (Runs.move rfl) ?_
          obtain ⟨c_115, H⟩ := H
          have h_116 : (r_71 == 0) = true := (beq_iff_eq.mpr c_115)
          refine WL.on ?_ ?_; exact Wanted.guard (dj := 93) (by rfl) (evb (by rfl) h_116) (by rfl)
          refine WL.val Wanted.none (Runs.move rfl) ?_
          refine WL.on ?_ ?_; exact Wanted.guard (dj := 93) (by rfl) (evb (by rfl) h_116) (by rfl)
          refine WL.val Wanted.none (Runs.eql rfl rfl rfl) ?_
          refine WL.val Wanted.none (Runs.pick_t (evb rfl h_116) rfl) ?_
          refine WL.val Wanted.none (Runs.move rfl) ?_
          obtain ⟨c_117, H⟩ := H
          have h_118 : (r_114 == 0) = true := (beq_iff_eq.mpr c_117)
          refine WL.on ?_ ?_; exact Wanted.guard (dj := 97) (by rfl) (evb (by rfl) h_118) (by rfl)
          refine WL.val Wanted.none (Runs.move rfl) ?_
          refine WL.on ?_ ?_; exact Wanted.guard (dj := 97) (by rfl) (evb (by rfl) h_118) (by rfl)
          refine WL.val Wanted.none (Runs.bytes_str Tryd.underlying31 Tryd.underlying5 Tryd.underlying9 rfl (st_106.src_sl (k := 1) rfl) hn_69) ?_
          refine WL.on ?_ ?_; exact Wanted.guard (dj := 97) (by rfl) (evb (by rfl) h_118) (by rfl)
          refine WL.val Wanted.none (Runs.move rfl) ?_
          refine WL.on ?_ ?_; exact Wanted.guard (dj := 97) (by rfl) (evb (by rfl) h_118) (by rfl)
          refine WL.val Wanted.none (Runs.bytes_str Tryd.underlying31 Tryd.underlying5 Tryd.underlying9 rfl (st_106.src_sl (k := 0) rfl) hn_112) ?_
          refine WL.on ?_ ?_; exact Wanted.guard (dj := 97) (by rfl) (evb (by rfl) h_118) (by rfl)
          obtain ⟨z_119, H⟩ := H
          refine WL.val Wanted.none (Runs.adds rfl rfl z_119 rfl) ?_
          refine WL.on ?_ ?_; exact Wanted.guard (dj := 97) (by rfl) (evb (by rfl) h_118) (by rfl)
          refine WL.val Wanted.none (Runs.move rfl) ?_
          refine WL.on ?_ ?_; exact Wanted.guard (dj := 97) (by rfl) (evb (by rfl) h_118) (by rfl)
          refine WL.val Wanted.none (Runs.bytes_str Tryd.underlying31 Tryd.underlying5 Tryd.underlying9 rfl (st_106.src_sl (k := 3) rfl) hn_23) ?_
          refine WL.on ?_ ?_; exact Wanted.guard (dj := 97) (by rfl) (evb (by rfl) h_118) (by rfl)
          refine WL.val Wanted.none (Runs.eqs rfl rfl rfl) ?_
          refine WL.val Wanted.none (Runs.pick_t (evb rfl h_118) rfl) ?_
          refine WL.val Wanted.none (Runs.assign rfl) ?_
          refine WL.nil ?_
          refine QW.then_n ?_
          refine CW.sub [(8, .bool (((strOfNums r_65) ++ (strOfNums r_108)).toList == (strOfNums r_19).toList))] ⟨rfl, trivial⟩ ?_
          refine CW.ret ?_
          have hz : (((strOfNums r_65) ++ (strOfNums r_108)).toList == (strOfNums r_19).toList) = true := (beq_iff_eq.mpr H)
          exact QW.ret1 rfl (evb rfl hz) ⟨rfl, st_106.ext⟩
      · refine WL.val Wanted.none (Runs.load_arr arr25 rfl (st_48.blk (i := 2) rfl) hl1) ?_
        refine WL.nil ?_
        refine AW.back ?_
        refine AW.step 0 rfl (by kernel_rfl) ?_
        refine WL.val Wanted.none (Runs.load_arr arr23 rfl (st_48.blk (i := 3) rfl) hl0) ?_
        refine WL.nil ?_
        refine AW.back ?_
        refine AW.step 6 rfl (by kernel_rfl) ?_
        obtain ⟨r_124, r_130, hr_120, H⟩ := H
        refine WL.call Wanted.none ent13 rfl (cipher_Crypt.calls w_47 l0 5 l1 (prt l2 (0 : Int) (IntKind.i64.wrap (64 * (IntKind.i64.wrap (Int.tmod a3 16))))) A_52 n_54 c2 (hG0.ext st_48) hl0 hl1 ((hs2.ext st_48).sub_iv p_49 q_50 h_59 e_55) (e_57) (h_60) r_124 r_130 hr_120) ?_
        rintro _ w_121 ⟨A_125, c_126, n_127, hn_128, rfl, sc_123⟩
        have st_122 : St w w_121 [.sl A_125 c_126 n_127 (iv .u8 r_124) 5 1, .sl A_31 c_32 n_33 (iv .u8 r_30) 5 1, .sl A_20 c_21 n_22 (iv .u8 r_19) 5 1, .cells B_5 (iv .u8 l1) 25, .cells B_1 (iv .u8 l0) 23] := st_48.call sc_123
        refine ⟨_, rfl, ?_⟩
        refine WL.nil ?_
        refine AW.back ?_
        refine AW.take 7 rfl (by kernel_rfl) (by kernel_rfl) (by kernel_rfl) Wanted.none (fun _ => (Runs.move rfl)) ?_
        refine AW.take 8 rfl (by kernel_rfl) (by kernel_rfl) (by kernel_rfl) Wanted.none (fun _ => (Runs.extract rfl rfl)) ?_
        refine AW.take 9 rfl (by kernel_rfl) (by kernel_rfl) (by kernel_rfl) Wanted.none (fun _ => (Runs.extract rfl rfl)) ?_
        refine AW.take 10 rfl (by kernel_rfl) (by kernel_rfl) (by kernel_rfl) Wanted.none (fun _ => (Runs.assign rfl)) ?_
        refine AW.take 11 rfl (by kernel_rfl) (by kernel_rfl) (by kernel_rfl) Wanted.none (fun _ => (Runs.assign rfl)) ?_
        refine AW.done (by kernel_rfl) ?_
        refine QW.then_n ?_
        refine CW.sub [(2, .slice A2 n2 c2), (4, .pointer (some ⟨B_1, 0, none⟩)), (5, .pointer (some ⟨B_5, 0, none⟩)), (8, .bool false), (11, .slice A_20 n_22 c_21), (15, .int .i64 (IntKind.i64.wrap (Int.tmod a3 16))), (16, .slice A_125 n_127 c_126), (17, .int .i64 r_130)] ⟨rfl, rfl, rfl, rfl, rfl, rfl, rfl, rfl, trivial⟩ ?_
        refine CW.seq ?_
        refine CW.region_aw wide st_122 (fun w_131 st_132 => ?_)
        refine AW.take 1 rfl (by kernel_rfl) (by kernel_rfl) (by kernel_rfl) Wanted.none (fun _ => (Runs.move rfl)) ?_
        refine AW.take 2 rfl (by kernel_rfl) (by kernel_rfl) (by kernel_rfl) Wanted.none (fun _ => (Runs.conv Tryd.underlying24 ⟨_, Tryd.underlying3⟩ rfl rfl)) ?_
        obtain ⟨x_133, e_134, H⟩ := H
        refine AW.take 3 rfl (by kernel_rfl) (by kernel_rfl) (by kernel_rfl) Wanted.none (fun _ => (Runs.add rfl rfl e_134)) ?_
        refine AW.take 5 rfl (by kernel_rfl) (by kernel_rfl) (by kernel_rfl) Wanted.none (fun _ => (Runs.move rfl)) ?_
        refine AW.take 6 rfl (by kernel_rfl) (by kernel_rfl) (by kernel_rfl) Wanted.none (fun _ => (Runs.move rfl)) ?_
        refine AW.take 7 rfl (by kernel_rfl) (by kernel_rfl) (by kernel_rfl) Wanted.none (fun _ => (Runs.mul rfl rfl rfl)) ?_
        obtain ⟨⟨p_135, q_136, r_137⟩, H⟩ := H
        have h_144 : n2 ≤ c2 := hc2
        have h_145 : (l2.length : Int) ≤ (c2 : Int) := by have := hn2; omega
        obtain ⟨A_138, e_141⟩ : ∃ B_, B_ = subA A2 (IntKind.i64.wrap (64 * (IntKind.i64.wrap (Int.tmod a3 16)))).toNat c2 := ⟨_, rfl⟩
        obtain ⟨n_140, e_143⟩ : ∃ n_ : Nat, n_ = (prt l2 (IntKind.i64.wrap (64 * (IntKind.i64.wrap (Int.tmod a3 16)))) (l2.length : Int)).length := ⟨_, rfl⟩
        obtain ⟨c_139, e_142⟩ : ∃ c_ : Nat, c_ = c2 - (IntKind.i64.wrap (64 * (IntKind.i64.wrap (Int.tmod a3 16)))).toNat := ⟨_, rfl⟩
        have h_146 : n_140 ≤ c_139 := by rw [e_143, prt_length p_135 q_136 r_137]; rw [e_142]; omega
        refine AW.take 8 rfl (by kernel_rfl) (by kernel_rfl) (by kernel_rfl) Wanted.none (fun _ => (Runs.slice_l Tryd.underlying31 cells5 rfl rfl p_135 (by have := hn2; omega) e_141 (N := n_140) (by rw [e_143, prt_length p_135 q_136 r_137]; rw [hn2]; rfl) e_142)) ?_
        refine AW.step2 0 4 rfl rfl (by kernel_rfl) ?_ ?_
        · refine WL.val Wanted.none (Runs.load_arr arr23 rfl (st_132.blk (i := 4) rfl) hl0) ?_
          refine WL.nil ?_
          refine AW.back ?_
          refine AW.step 4 rfl (by kernel_rfl) ?_
          refine WL.val Wanted.none (Runs.load_arr arr25 rfl (st_132.blk (i := 3) rfl) hl1) ?_
          refine WL.nil ?_
          refine AW.back ?_
          refine AW.step 9 rfl (by kernel_rfl) ?_
          obtain ⟨r_151, r_157, hr_147, H⟩ := H
          refine WL.call Wanted.none ent13 rfl (cipher_Crypt.calls w_131 l0 x_133 l1 (prt l2 (IntKind.i64.wrap (64 * (IntKind.i64.wrap (Int.tmod a3 16)))) (l2.length : Int)) A_138 n_140 c_139 (hG0.ext st_132) hl0 hl1 ((hs2.ext st_132).sub_iv p_135 q_136 h_145 e_141) (e_143) (h_146) r_151 r_157 hr_147) ?_
          rintro _ w_148 ⟨A_152, c_153, n_154, hn_155, rfl, sc_150⟩
          have st_149 : St w w_148 [.sl A_152 c_153 n_154 (iv .u8 r_151) 5 1, .sl A_125 c_126 n_127 (iv .u8 r_124) 5 1, .sl A_31 c_32 n_33 (iv .u8 r_30) 5 1, .sl A_20 c_21 n_22 (iv .u8 r_19) 5 1, .cells B_5 (iv .u8 l1) 25, .cells B_1 (iv .u8 l0) 23] := st_132.call sc_150
          refine ⟨_, rfl, ?_⟩
          refine WL.nil ?_
          refine AW.back ?_
          refine AW.take 10 rfl (by kernel_rfl) (by kernel_rfl) (by kernel_rfl) Wanted.none (fun _ => (Runs.move rfl)) ?_
          refine AW.take 11 rfl (by kernel_rfl) (by kernel_rfl) (by kernel_rfl) Wanted.none (fun _ => (Runs.extract rfl rfl)) ?_
          refine AW.take 12 rfl (by kernel_rfl) (by kernel_rfl) (by kernel_rfl) Wanted.none (fun _ => (Runs.extract rfl rfl)) ?_
          refine AW.take 13 rfl (by kernel_rfl) (by kernel_rfl) (by kernel_rfl) Wanted.none (fun _ => (Runs.assign rfl)) ?_
          refine AW.take 14 rfl (by kernel_rfl) (by kernel_rfl) (by kernel_rfl) Wanted.none (fun _ => (Runs.assign rfl)) ?_
          refine AW.done (by kernel_rfl) ?_
          refine QW.then_n ?_
          refine CW.sub [(8, .bool false), (11, .slice A_20 n_22 c_21), (16, .slice A_125 n_127 c_126), (17, .int .i64 r_130), (18, .slice A_152 n_154 c_153), (19, .int .i64 r_157)] ⟨rfl, rfl, rfl, rfl, rfl, rfl, trivial⟩ ?_
          refine CW.seq ?_
          refine CW.region ?_
          refine WL.val Wanted.none (Runs.move rfl) ?_
          refine WL.val Wanted.none (Runs.eql rfl rfl rfl) ?_
          refine WL.val Wanted.none (Runs.move rfl) ?_
          obtain ⟨c_158, H⟩ := H
          have h_159 : (r_130 == 0) = true := (beq_iff_eq.mpr c_158)
          refine WL.on ?_ ?_; exact Wanted.guard (dj := 93) (by rfl) (evb (by rfl) h_159) (by rfl)
          refine WL.val Wanted.none (Runs.move rfl) ?_
          refine WL.on ?_ ?_; exact Wanted.guard (dj := 93) (by rfl) (evb (by rfl) h_159) (by rfl)
          refine WL.val Wanted.none (Runs.eql rfl rfl rfl) ?_
          refine WL.val Wanted.none (Runs.pick_t (evb rfl h_159) rfl) ?_
          refine WL.val Wanted.none (Runs.move rfl) ?_
          obtain ⟨c_160, H⟩ := H
          have h_161 : (r_157 == 0) = true := (beq_iff_eq.mpr c_160)
          refine WL.on ?_ ?_; exact Wanted.guard (dj := 97) (by rfl) (evb (by rfl) h_161) (by rfl)
          refine WL.val Wanted.none (Runs.move rfl) ?_
          refine WL.on ?_ ?_; exact Wanted.guard (dj := 97) (by rfl) (evb (by rfl) h_161) (by rfl)
          refine WL.val Wanted.none (Runs.bytes_str Tryd.underlying31 Tryd.underlying5 Tryd.underlying9 rfl (st_149.src_sl (k := 1) rfl) hn_128) ?_
          refine WL.on ?_ ?_; exact Wanted.guard (dj := 97) (by rfl) (evb (by rfl) h_161) (by rfl)
          refine WL.val Wanted.none (Runs.move rfl) ?_
          refine WL.on ?_ ?_; exact Wanted.guard (dj := 97) (by rfl) (evb (by rfl) h_161) (by rfl)
          refine WL.val Wanted.none (Runs.bytes_str Tryd.underlying31 Tryd.underlying5 Tryd.underlying9 rfl (st_149.src_sl (k := 0) rfl) hn_155) ?_
          refine WL.on ?_ ?_; exact Wanted.guard (dj := 97) (by rfl) (evb (by rfl) h_161) (by rfl)
          obtain ⟨z_162, H⟩ := H
          refine WL.val Wanted.none (Runs.adds rfl rfl z_162 rfl) ?_
          refine WL.on ?_ ?_; exact Wanted.guard (dj := 97) (by rfl) (evb (by rfl) h_161) (by rfl)
          refine WL.val Wanted.none (Runs.move rfl) ?_
          refine WL.on ?_ ?_; exact Wanted.guard (dj := 97) (by rfl) (evb (by rfl) h_161) (by rfl)
          refine WL.val Wanted.none (Runs.bytes_str Tryd.underlying31 Tryd.underlying5 Tryd.underlying9 rfl (st_149.src_sl (k := 3) rfl) hn_23) ?_
          refine WL.on ?_ ?_; exact Wanted.guard (dj := 97) (by rfl) (evb (by rfl) h_161) (by rfl)
          refine WL.val Wanted.none (Runs.eqs rfl rfl rfl) ?_
          refine WL.val Wanted.none (Runs.pick_t (evb rfl h_161) rfl) ?_
          refine WL.val Wanted.none (Runs.assign rfl) ?_
          refine WL.nil ?_
          refine QW.then_n ?_
          refine CW.sub [(8, .bool (((strOfNums r_124) ++ (strOfNums r_151)).toList == (strOfNums r_19).toList))] ⟨rfl, trivial⟩ ?_
          refine CW.ret ?_
          have hz : (((strOfNums r_124) ++ (strOfNums r_151)).toList == (strOfNums r_19).toList) = true := (beq_iff_eq.mpr H)
          exact QW.ret1 rfl (evb rfl hz) ⟨rfl, st_149.ext⟩
        · refine WL.val Wanted.none (Runs.load_arr arr25 rfl (st_132.blk (i := 3) rfl) hl1) ?_
          refine WL.nil ?_
          refine AW.back ?_
          refine AW.step 0 rfl (by kernel_rfl) ?_
          refine WL.val Wanted.none (Runs.load_arr arr23 rfl (st_132.blk (i := 4) rfl) hl0) ?_
          refine WL.nil ?_
          refine AW.back ?_
          refine AW.step 9 rfl (by kernel_rfl) ?_
          obtain ⟨r_167, r_173, hr_163, H⟩ := H
          refine WL.call Wanted.none ent13 rfl (cipher_Crypt.calls w_131 l0 x_133 l1 (prt l2 (IntKind.i64.wrap (64 * (IntKind.i64.wrap (Int.tmod a3 16)))) (l2.length : Int)) A_138 n_140 c_139 (hG0.ext st_132) hl0 hl1 ((hs2.ext st_132).sub_iv p_135 q_136 h_145 e_141) (e_143) (h_146) r_167 r_173 hr_163) ?_
          rintro _ w_164 ⟨A_168, c_169, n_170, hn_171, rfl, sc_166⟩
          have st_165 : St w w_164 [.sl A_168 c_169 n_170 (iv .u8 r_167) 5 1, .sl A_125 c_126 n_127 (iv .u8 r_124) 5 1, .sl A_31 c_32 n_33 (iv .u8 r_30) 5 1, .sl A_20 c_21 n_22 (iv .u8 r_19) 5 1, .cells B_5 (iv .u8 l1) 25, .cells B_1 (iv .u8 l0) 23] := st_132.call sc_166
          refine ⟨_, rfl, ?_⟩
          refine WL.nil ?_
          refine AW.back ?_
          refine AW.take 10 rfl (by kernel_rfl) (by kernel_rfl) (by kernel_rfl) Wanted.none (fun _ => (Runs.move rfl)) ?_
          refine AW.take 11 rfl (by kernel_rfl) (by kernel_rfl) (by kernel_rfl) Wanted.none (fun _ => (Runs.extract rfl rfl)) ?_
          refine AW.take 12 rfl (by kernel_rfl) (by kernel_rfl) (by kernel_rfl) Wanted.none (fun _ => (Runs.extract rfl rfl)) ?_
          refine AW.take 13 rfl (by kernel_rfl) (by kernel_rfl) (by kernel_rfl) Wanted.none (fun _ => (Runs.assign rfl)) ?_
          refine AW.take 14 rfl (by kernel_rfl) (by kernel_rfl) (by kernel_rfl) Wanted.none (fun _ => (Runs.assign rfl)) ?_
          refine AW.done (by kernel_rfl) ?_
          refine QW.then_n ?_
          refine CW.sub [(8, .bool false), (11, .slice A_20 n_22 c_21), (16, .slice A_125 n_127 c_126), (17, .int .i64 r_130), (18, .slice A_168 n_170 c_169), (19, .int .i64 r_173)] ⟨rfl, rfl, rfl, rfl, rfl, rfl, trivial⟩ ?_
          refine CW.seq ?_
          refine CW.region ?_
          refine WL.val Wanted.none (Runs.move rfl) ?_
          refine WL.val Wanted.none (Runs.eql rfl rfl rfl) ?_
          refine WL.val Wanted.none (Runs.move rfl) ?_
          obtain ⟨c_174, H⟩ := H
          have h_175 : (r_130 == 0) = true := (beq_iff_eq.mpr c_174)
          refine WL.on ?_ ?_; exact Wanted.guard (dj := 93) (by rfl) (evb (by rfl) h_175) (by rfl)
          refine WL.val Wanted.none (Runs.move rfl) ?_
          refine WL.on ?_ ?_; exact Wanted.guard (dj := 93) (by rfl) (evb (by rfl) h_175) (by rfl)
          refine WL.val Wanted.none (Runs.eql rfl rfl rfl) ?_
          refine WL.val Wanted.none (Runs.pick_t (evb rfl h_175) rfl) ?_
          refine WL.val Wanted.none (Runs.move rfl) ?_
          obtain ⟨c_176, H⟩ := H
          have h_177 : (r_173 == 0) = true := (beq_iff_eq.mpr c_176)
          refine WL.on ?_ ?_; exact Wanted.guard (dj := 97) (by rfl) (evb (by rfl) h_177) (by rfl)
          refine WL.val Wanted.none (Runs.move rfl) ?_
          refine WL.on ?_ ?_; exact Wanted.guard (dj := 97) (by rfl) (evb (by rfl) h_177) (by rfl)
          refine WL.val Wanted.none (Runs.bytes_str Tryd.underlying31 Tryd.underlying5 Tryd.underlying9 rfl (st_165.src_sl (k := 1) rfl) hn_128) ?_
          refine WL.on ?_ ?_; exact Wanted.guard (dj := 97) (by rfl) (evb (by rfl) h_177) (by rfl)
          refine WL.val Wanted.none (Runs.move rfl) ?_
          refine WL.on ?_ ?_; exact Wanted.guard (dj := 97) (by rfl) (evb (by rfl) h_177) (by rfl)
          refine WL.val Wanted.none (Runs.bytes_str Tryd.underlying31 Tryd.underlying5 Tryd.underlying9 rfl (st_165.src_sl (k := 0) rfl) hn_171) ?_
          refine WL.on ?_ ?_; exact Wanted.guard (dj := 97) (by rfl) (evb (by rfl) h_177) (by rfl)
          obtain ⟨z_178, H⟩ := H
          refine WL.val Wanted.none (Runs.adds rfl rfl z_178 rfl) ?_
          refine WL.on ?_ ?_; exact Wanted.guard (dj := 97) (by rfl) (evb (by rfl) h_177) (by rfl)
          refine WL.val Wanted.none (Runs.move rfl) ?_
          refine WL.on ?_ ?_; exact Wanted.guard (dj := 97) (by rfl) (evb (by rfl) h_177) (by rfl)
          refine WL.val Wanted.none (Runs.bytes_str Tryd.underlying31 Tryd.underlying5 Tryd.underlying9 rfl (st_165.src_sl (k := 3) rfl) hn_23) ?_
          refine WL.on ?_ ?_; exact Wanted.guard (dj := 97) (by rfl) (evb (by rfl) h_177) (by rfl)
          refine WL.val Wanted.none (Runs.eqs rfl rfl rfl) ?_
          refine WL.val Wanted.none (Runs.pick_t (evb rfl h_177) rfl) ?_
          refine WL.val Wanted.none (Runs.assign rfl) ?_
          refine WL.nil ?_
          refine QW.then_n ?_
          refine CW.sub [(8, .bool (((strOfNums r_124) ++ (strOfNums r_167)).toList == (strOfNums r_19).toList))] ⟨rfl, trivial⟩ ?_
          refine CW.ret ?_
          have hz : (((strOfNums r_124) ++ (strOfNums r_167)).toList == (strOfNums r_19).toList) = true := (beq_iff_eq.mpr H)
          exact QW.ret1 rfl (evb rfl hz) ⟨rfl, st_165.ext⟩

/-! ### reliquarylaw04_CipherNonces: function 6 -/
def reliquarylaw04_CipherNonces.rel (a0 : Int) (a1 : Int) (a2 : Int) (a3 : Int)  : Prop := (reliquarylaw04_awake.rel  ∧ (∃ (r_9 : List Int), cipher_Nonce.rel a0 a1 r_9 ∧ (∃ (r_15 : List Int), cipher_Nonce.rel a2 a3 r_15 ∧ ((a0 = a2 ∧ (r_9 == r_15) = (a1 == a3)) ∨ (¬ (a0 = a2) ∧ (r_9 == r_15) = false)))))
set_option maxHeartbeats 4000000 in
set_option maxRecDepth 100000 in
theorem reliquarylaw04_CipherNonces.calls (w : World) (a0 : Int) (a1 : Int) (a2 : Int) (a3 : Int)   (hG0 : Src w (some ⟨0, 0, none⟩) (iv .i64 tab0))  (H : reliquarylaw04_CipherNonces.rel a0 a1 a2 a3 ) :
    Calls Tryd.prog 6 #[.int .u32 a0, .int .u64 a1, .int .u32 a2, .int .u64 a3] w fun e w' => e = .returned (.bool true) ∧ Below w.heap.size w w' := by
  refine CW.enter Tryd.func6 rfl (n := 29) rfl [.int .u32 a0, .int .u64 a1, .int .u32 a2, .int .u64 a3] (Nat.le_of_ble_eq_true rfl) ?_
  refine CW.sub [(0, .int .u32 a0), (1, .int .u64 a1), (2, .int .u32 a2), (3, .int .u64 a3)] ⟨rfl, rfl, rfl, rfl, trivial⟩ ?_
  have st0 : St w w [] := St.refl w
  refine CW.seq ?_
  refine CW.region ?_
  refine WL.val Wanted.none (Runs.assign rfl) ?_
  refine WL.nil ?_
  refine QW.then_n ?_
  refine CW.seq ?_
  refine CW.region ?_
  obtain ⟨hr_1, H⟩ := H
  refine WL.call Wanted.none ent9 rfl (reliquarylaw04_awake.calls w (hG0.ext st0) hr_1) ?_
  rintro _ w_2 ⟨rfl, sc_4⟩
  have st_3 : St w w_2 [] := st0.below sc_4
  refine ⟨_, rfl, ?_⟩
  refine WL.val Wanted.none (Runs.assign rfl) ?_
  refine WL.nil ?_
  refine QW.then_n ?_
  refine CW.seq ?_
  refine CW.seq ?_
  refine CW.region ?_
  refine WL.val Wanted.none (Runs.move rfl) ?_
  refine WL.val Wanted.none (Runs.not rfl rfl) ?_
  refine WL.nil ?_
  refine QW.then_n ?_
  refine CW.cf rfl rfl ?_
  refine CW.skip ?_
  refine QW.then_n ?_
  refine CW.seq ?_
  refine CW.region ?_
  refine WL.val Wanted.none (Runs.move rfl) ?_
  refine WL.val Wanted.none (Runs.move rfl) ?_
  obtain ⟨r_9, hr_5, H⟩ := H
  refine WL.call Wanted.none ent12 rfl (cipher_Nonce.calls w_2 a0 a1 r_9 hr_5) ?_
  rintro _ w_6 ⟨hl_10, rfl, sc_8⟩
  have st_7 : St w w_6 [] := st_3.call sc_8
  refine ⟨_, rfl, ?_⟩
  refine WL.val Wanted.none (Runs.move rfl) ?_
  refine WL.val Wanted.none (Runs.move rfl) ?_
  obtain ⟨r_15, hr_11, H⟩ := H
  refine WL.call Wanted.none ent12 rfl (cipher_Nonce.calls w_6 a2 a3 r_15 hr_11) ?_
  rintro _ w_12 ⟨hl_16, rfl, sc_14⟩
  have st_13 : St w w_12 [] := st_7.call sc_14
  refine ⟨_, rfl, ?_⟩
  refine WL.val Wanted.none (Runs.eql_arr arr25 eqg25 rfl rfl hl_10 hl_16 rfl) ?_
  refine WL.val Wanted.none (Runs.move rfl) ?_
  refine WL.val Wanted.none (Runs.move rfl) ?_
  refine WL.val Wanted.none (Runs.eql rfl rfl rfl) ?_
  refine WL.val Wanted.none (Runs.move rfl) ?_
  rcases H with ⟨c_17, H⟩ | ⟨c_17, H⟩
  · have h_18 : (a0 == a2) = true := (beq_iff_eq.mpr c_17)
    refine WL.on ?_ ?_; exact Wanted.guard (dj := 23) (by rfl) (evb (by rfl) h_18) (by rfl)
    refine WL.val Wanted.none (Runs.move rfl) ?_
    refine WL.on ?_ ?_; exact Wanted.guard (dj := 23) (by rfl) (evb (by rfl) h_18) (by rfl)
    refine WL.val Wanted.none (Runs.move rfl) ?_
    refine WL.on ?_ ?_; exact Wanted.guard (dj := 23) (by rfl) (evb (by rfl) h_18) (by rfl)
    refine WL.val Wanted.none (Runs.eql rfl rfl rfl) ?_
    refine WL.val Wanted.none (Runs.pick_t (evb rfl h_18) rfl) ?_
    refine WL.val Wanted.none (Runs.eqb Tryd.underlying4 rfl rfl rfl) ?_
    refine WL.val Wanted.none (Runs.assign rfl) ?_
    refine WL.nil ?_
    refine QW.then_n ?_
    refine CW.sub [(8, .bool ((r_9 == r_15) == (a1 == a3)))] ⟨rfl, trivial⟩ ?_
    refine CW.ret ?_
    have hz : ((r_9 == r_15) == (a1 == a3)) = true := (beq_iff_eq.mpr H)
    exact QW.ret1 rfl (evb rfl hz) ⟨rfl, st_13.ext⟩
  · have h_18 : (a0 == a2) = false := (beq_eq_false_iff_ne.mpr c_17)
    refine WL.off ?_ ?_; exact Wanted.guard (dj := 23) (by rfl) (evb (by rfl) h_18) (by rfl)
    refine WL.off ?_ ?_; exact Wanted.guard (dj := 23) (by rfl) (evb (by rfl) h_18) (by rfl)
    refine WL.off ?_ ?_; exact Wanted.guard (dj := 23) (by rfl) (evb (by rfl) h_18) (by rfl)
    refine WL.val Wanted.none (Runs.pick_f (evb rfl h_18) rfl) ?_
    refine WL.val Wanted.none (Runs.eqb Tryd.underlying4 rfl rfl rfl) ?_
    refine WL.val Wanted.none (Runs.assign rfl) ?_
    refine WL.nil ?_
    refine QW.then_n ?_
    refine CW.sub [(8, .bool ((r_9 == r_15) == false))] ⟨rfl, trivial⟩ ?_
    refine CW.ret ?_
    have hz : ((r_9 == r_15) == false) = true := (beq_iff_eq.mpr H)
    exact QW.ret1 rfl (evb rfl hz) ⟨rfl, st_13.ext⟩

end Go.Proofs.YtfbcokceambghaaDoor
