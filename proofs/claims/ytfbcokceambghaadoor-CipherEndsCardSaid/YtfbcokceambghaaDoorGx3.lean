/- Walks: each function computes what its relation says, and a call of it ends so. Printed by a program of this session (wip/gen). -/
import Derived.Test.YtfbcokceambghaaDoorGx2
namespace Go.Proofs.YtfbcokceambghaaDoor
open Go Go.Kr Go.RowKit
set_option linter.unusedVariables false
set_option linter.unusedSimpArgs false
/-! ### reliquarylaw04_CipherNoughts: function 7 -/
def reliquarylaw04_CipherNoughts.L2 (a3 : Int) (r_28 : List Int) (x_41 : Int) (r_53 : List Int) (K_L1 : Bool → Int → Prop) : Nat → Bool → Int → Prop
  | 0, _, _ => False
  | kL2 + 1, b_63, x_64 => ((x_64 < 64 ∧ (((IntKind.i64.wrap (x_41 + x_64)) < (IntKind.i64.wrap (Int.tmod a3 400)) ∧ ((0 ≤ (IntKind.i64.wrap (x_41 + x_64)) ∧ (IntKind.i64.wrap (x_41 + x_64)) < (r_28.length : Int)) ∧ ((0 ≤ x_64 ∧ x_64 < (64 : Int)) ∧ (¬ ((gn r_28 ((IntKind.i64.wrap (x_41 + x_64)).toNat)) ≠ (gn r_53 ((x_64).toNat))) ∧ reliquarylaw04_CipherNoughts.L2 a3 r_28 x_41 r_53 K_L1 kL2 b_63 (IntKind.i64.wrap (x_64 + 1)))))) ∨ (¬ ((IntKind.i64.wrap (x_41 + x_64)) < (IntKind.i64.wrap (Int.tmod a3 400))) ∧ K_L1 b_63 (IntKind.i64.wrap (x_41 + 64))))) ∨ (¬ (x_64 < 64) ∧ K_L1 b_63 (IntKind.i64.wrap (x_41 + 64))))
def reliquarylaw04_CipherNoughts.L1 (l0 : List Int) (a1 : Int) (l2 : List Int) (a3 : Int) (r_28 : List Int) : Nat → Bool → Int → Prop
  | 0, _, _ => False
  | kL1 + 1, b_40, x_41 => ((x_41 < (IntKind.i64.wrap (Int.tmod a3 400)) ∧ (∃ x_47 : Int, x_47 = IntKind.u32.wrap ((bits .and .u32 a1 16777215) + (IntKind.u32.wrap (IntKind.i64.wrap (Int.tdiv x_41 64)))) ∧ (∃ (r_53 : List Int), reliquaryref04_Block.rel l0 x_47 l2 r_53 ∧ (∃ k_ : Nat, reliquarylaw04_CipherNoughts.L2 a3 r_28 x_41 r_53 (reliquarylaw04_CipherNoughts.L1 l0 a1 l2 a3 r_28 kL1) k_ b_40 0)))) ∨ (¬ (x_41 < (IntKind.i64.wrap (Int.tmod a3 400))) ∧ True))
def reliquarylaw04_CipherNoughts.rel (l0 : List Int) (a1 : Int) (l2 : List Int) (a3 : Int)  : Prop := (reliquarylaw04_awake.rel  ∧ ((0 ≤ (IntKind.i64.wrap (Int.tmod a3 400)) ∧ (IntKind.i64.wrap (Int.tmod a3 400)) ≤ 1099511627776) ∧ (∃ (r_28 : List Int) (r_34 : Int), cipher_Crypt.rel l0 (bits .and .u32 a1 16777215) l2 (List.replicate (IntKind.i64.wrap (Int.tmod a3 400)).toNat (0 : Int)) r_28 r_34 ∧ (¬ (r_34 ≠ 0) ∧ (¬ ((r_28.length : Int) ≠ (IntKind.i64.wrap (Int.tmod a3 400))) ∧ (∃ k_ : Nat, reliquarylaw04_CipherNoughts.L1 l0 a1 l2 a3 r_28 k_ false 0))))))
set_option maxHeartbeats 4000000 in
set_option maxRecDepth 100000 in
theorem reliquarylaw04_CipherNoughts.calls (w : World) (l0 : List Int) (a1 : Int) (l2 : List Int) (a3 : Int)   (hG0 : Src w (some ⟨0, 0, none⟩) (iv .i64 tab0)) (hl0 : l0.length = 32) (hl2 : l2.length = 12)  (H : reliquarylaw04_CipherNoughts.rel l0 a1 l2 a3 ) :
    Calls Tryd.prog 7 #[.agg (iv .u8 l0).toArray, .int .u32 a1, .agg (iv .u8 l2).toArray, .int .u16 a3] w fun e w' => e = .returned (.bool true) ∧ Below w.heap.size w w' := by
  refine CW.enter Tryd.func7 rfl (n := 76) rfl [.agg (iv .u8 l0).toArray, .int .u32 a1, .agg (iv .u8 l2).toArray, .int .u16 a3] (Nat.le_of_ble_eq_true rfl) ?_
  refine CW.sub [(0, .agg (iv .u8 l0).toArray), (1, .int .u32 a1), (2, .agg (iv .u8 l2).toArray), (3, .int .u16 a3)] ⟨rfl, rfl, rfl, rfl, trivial⟩ ?_
  have st0 : St w w [] := St.refl w
  refine CW.seq ?_
  refine CW.region ?_
  refine WL.box st0 rfl rfl ?_
  intro B_1 w_2 st_3
  replace st_3 : St w w_2 [.cells B_1 (iv .u8 l0) 23] := st_3
  refine WL.box st_3 rfl rfl ?_
  intro B_5 w_6 st_7
  replace st_7 : St w w_6 [.cells B_5 (iv .u8 l2) 25, .cells B_1 (iv .u8 l0) 23] := st_7
  refine WL.val Wanted.none (Runs.assign rfl) ?_
  refine WL.nil ?_
  refine QW.then_n ?_
  refine CW.seq ?_
  refine CW.region ?_
  obtain ⟨hr_9, H⟩ := H
  refine WL.call Wanted.none ent9 rfl (reliquarylaw04_awake.calls w_6 (hG0.ext st_7) hr_9) ?_
  rintro _ w_10 ⟨rfl, sc_12⟩
  have st_11 : St w w_10 [.cells B_5 (iv .u8 l2) 25, .cells B_1 (iv .u8 l0) 23] := st_7.below sc_12
  refine ⟨_, rfl, ?_⟩
  refine WL.val Wanted.none (Runs.assign rfl) ?_
  refine WL.nil ?_
  refine QW.then_n ?_
  refine CW.seq ?_
  refine CW.seq ?_
  refine CW.region ?_
  refine WL.val Wanted.none (Runs.move rfl) ?_
  refine WL.val Wanted.none (Runs.not rfl rfl) ?_
  refine WL.nil ?_
  refine QW.then_n ?_
  refine CW.cf rfl rfl ?_
  refine CW.skip ?_
  refine QW.then_n ?_
  refine CW.sub [(1, .int .u32 a1), (3, .int .u16 a3), (4, .pointer (some ⟨B_1, 0, none⟩)), (6, .pointer (some ⟨B_5, 0, none⟩)), (8, .bool false)] ⟨rfl, rfl, rfl, rfl, rfl, trivial⟩ ?_
  refine CW.seq ?_
  refine CW.region ?_
  refine WL.val Wanted.none (Runs.move rfl) ?_
  refine WL.val Wanted.none (Runs.rem rfl rfl (by decide) rfl) ?_
  refine WL.val Wanted.none (Runs.conv Tryd.underlying3 ⟨_, Tryd.underlying39⟩ rfl rfl) ?_
  refine WL.val Wanted.none (Runs.assign rfl) ?_
  refine WL.nil ?_
  refine QW.then_n ?_
  refine CW.seq ?_
  refine CW.region ?_
  refine WL.val Wanted.none (Runs.move rfl) ?_
  refine WL.val Wanted.none (Runs.band rfl rfl rfl) ?_
  refine WL.val Wanted.none (Runs.assign rfl) ?_
  refine WL.nil ?_
  refine QW.then_n ?_
  refine CW.sub [(4, .pointer (some ⟨B_1, 0, none⟩)), (6, .pointer (some ⟨B_5, 0, none⟩)), (8, .bool false), (10, .int .i64 (IntKind.i64.wrap (Int.tmod a3 400))), (11, .int .u32 (bits .and .u32 a1 16777215))] ⟨rfl, rfl, rfl, rfl, rfl, trivial⟩ ?_
  refine CW.seq ?_
  refine CW.region_aw wide st_11 (fun w_13 st_14 => ?_)
  refine AW.take 1 rfl (by kernel_rfl) (by kernel_rfl) (by kernel_rfl) Wanted.none (fun _ => (Runs.move rfl)) ?_
  refine AW.take 3 rfl (by kernel_rfl) (by kernel_rfl) (by kernel_rfl) Wanted.none (fun _ => (Runs.move rfl)) ?_
  refine AW.step3 0 2 4 rfl rfl rfl (by kernel_rfl) ?_ ?_ ?_
  · refine WL.val Wanted.none (Runs.load_arr arr23 rfl (st_14.blk (i := 1) rfl) hl0) ?_
    refine WL.nil ?_
    refine AW.back ?_
    refine AW.step2 2 4 rfl rfl (by kernel_rfl) ?_ ?_
    · refine WL.val Wanted.none (Runs.load_arr arr25 rfl (st_14.blk (i := 0) rfl) hl2) ?_
      refine WL.nil ?_
      refine AW.back ?_
      refine AW.step 4 rfl (by kernel_rfl) ?_
      obtain ⟨⟨p_15, q_16⟩, H⟩ := H
      obtain ⟨n_17, e_18⟩ : ∃ n_ : Nat, n_ = (IntKind.i64.wrap (Int.tmod a3 400)).toNat := ⟨_, rfl⟩
      refine WL.make st_14 Tryd.underlying31 elem5 rfl rfl p_15 q_16 (by decide) (N := n_17) e_18 ?_
      intro B_19 w_20 st_21
      replace st_21 : St w w_20 [.sl (some ⟨B_19, 0, none⟩) n_17 n_17 (iv .u8 (List.replicate (IntKind.i64.wrap (Int.tmod a3 400)).toNat (0 : Int))) 5 1, .cells B_5 (iv .u8 l2) 25, .cells B_1 (iv .u8 l0) 23] := by rw [← e_18]; rw [iv_replicate] at st_21; exact st_21
      have hn_22 : n_17 = (List.replicate (IntKind.i64.wrap (Int.tmod a3 400)).toNat (0 : Int)).length := by rw [List.length_replicate]; exact e_18
      refine WL.nil ?_
      refine AW.back ?_
      refine AW.step 5 rfl (by kernel_rfl) ?_
      obtain ⟨r_28, r_34, hr_24, H⟩ := H
      refine WL.call Wanted.none ent13 rfl (cipher_Crypt.calls w_20 l0 (bits .and .u32 a1 16777215) l2 (List.replicate (IntKind.i64.wrap (Int.tmod a3 400)).toNat (0 : Int)) (some ⟨B_19, 0, none⟩) n_17 n_17 (hG0.ext st_21) hl0 hl2 (st_21.src_sl (k := 0) rfl) (hn_22) (st_21.cap (i := 0) rfl) r_28 r_34 hr_24) ?_
      rintro _ w_25 ⟨A_29, c_30, n_31, hn_32, rfl, sc_27⟩
      have st_26 : St w w_25 [.sl A_29 c_30 n_31 (iv .u8 r_28) 5 1, .sl (some ⟨B_19, 0, none⟩) n_17 n_17 (iv .u8 (List.replicate (IntKind.i64.wrap (Int.tmod a3 400)).toNat (0 : Int))) 5 1, .cells B_5 (iv .u8 l2) 25, .cells B_1 (iv .u8 l0) 23] := st_21.call sc_27
      refine ⟨_, rfl, ?_⟩
      refine WL.nil ?_
      refine AW.back ?_
      refine AW.take 6 rfl (by kernel_rfl) (by kernel_rfl) (by kernel_rfl) Wanted.none (fun _ => (Runs.move rfl)) ?_
      refine AW.take 7 rfl (by kernel_rfl) (by kernel_rfl) (by kernel_rfl) Wanted.none (fun _ => (Runs.extract rfl rfl)) ?_
      refine AW.take 8 rfl (by kernel_rfl) (by kernel_rfl) (by kernel_rfl) Wanted.none (fun _ => (Runs.extract rfl rfl)) ?_
      refine AW.take 9 rfl (by kernel_rfl) (by kernel_rfl) (by kernel_rfl) Wanted.none (fun _ => (Runs.assign rfl)) ?_
      refine AW.take 10 rfl (by kernel_rfl) (by kernel_rfl) (by kernel_rfl) Wanted.none (fun _ => (Runs.assign rfl)) ?_
      refine AW.done (by kernel_rfl) ?_
      refine QW.then_n ?_
      refine CW.sub [(4, .pointer (some ⟨B_1, 0, none⟩)), (6, .pointer (some ⟨B_5, 0, none⟩)), (8, .bool false), (10, .int .i64 (IntKind.i64.wrap (Int.tmod a3 400))), (11, .int .u32 (bits .and .u32 a1 16777215)), (12, .slice A_29 n_31 c_30), (13, .int .i64 r_34)] ⟨rfl, rfl, rfl, rfl, rfl, rfl, rfl, trivial⟩ ?_
      refine CW.seq ?_
      refine CW.seq ?_
      refine CW.region ?_
      refine WL.val Wanted.none (Runs.move rfl) ?_
      refine WL.val Wanted.none (Runs.neq rfl rfl rfl) ?_
      refine WL.val Wanted.none (Runs.move rfl) ?_
      obtain ⟨c_35, H⟩ := H
      have h_36 : (r_34 != 0) = false := (bne_eq_false_iff_eq.mpr (Decidable.not_not.mp c_35))
      refine WL.on ?_ ?_; exact Wanted.guard (dj := 36) (by rfl) (evb (by rfl) h_36) (by rfl)
      refine WL.val Wanted.none (Runs.move rfl) ?_
      refine WL.on ?_ ?_; exact Wanted.guard (dj := 36) (by rfl) (evb (by rfl) h_36) (by rfl)
      refine WL.val Wanted.none (Runs.len_sl Tryd.underlying31 rfl (by rw [hn_32])) ?_
      refine WL.on ?_ ?_; exact Wanted.guard (dj := 36) (by rfl) (evb (by rfl) h_36) (by rfl)
      refine WL.val Wanted.none (Runs.move rfl) ?_
      refine WL.on ?_ ?_; exact Wanted.guard (dj := 36) (by rfl) (evb (by rfl) h_36) (by rfl)
      refine WL.val Wanted.none (Runs.neq rfl rfl rfl) ?_
      refine WL.val Wanted.none (Runs.pick_f (evb rfl h_36) rfl) ?_
      refine WL.nil ?_
      refine QW.then_n ?_
      refine CW.sub [(4, .pointer (some ⟨B_1, 0, none⟩)), (6, .pointer (some ⟨B_5, 0, none⟩)), (8, .bool false), (10, .int .i64 (IntKind.i64.wrap (Int.tmod a3 400))), (11, .int .u32 (bits .and .u32 a1 16777215)), (12, .slice A_29 n_31 c_30), (41, .bool ((r_28.length : Int) != (IntKind.i64.wrap (Int.tmod a3 400))))] ⟨rfl, rfl, rfl, rfl, rfl, rfl, rfl, trivial⟩ ?_
      obtain ⟨c_37, H⟩ := H
      have h_38 : ((r_28.length : Int) != (IntKind.i64.wrap (Int.tmod a3 400))) = false := (bne_eq_false_iff_eq.mpr (Decidable.not_not.mp c_37))
      refine CW.cf rfl h_38 ?_
      refine CW.skip ?_
      refine QW.then_n ?_
      refine CW.seq ?_
      refine CW.seq ?_
      refine CW.region ?_
      refine WL.val Wanted.none (Runs.assign rfl) ?_
      refine WL.nil ?_
      refine QW.then_n ?_
      refine CW.block ?_
      obtain ⟨k_39, H⟩ := H
      refine CW.sub [(4, .pointer (some ⟨B_1, 0, none⟩)), (6, .pointer (some ⟨B_5, 0, none⟩)), (8, .bool false), (10, .int .i64 (IntKind.i64.wrap (Int.tmod a3 400))), (11, .int .u32 (bits .and .u32 a1 16777215)), (12, .slice A_29 n_31 c_30), (14, .int .i64 0)] ⟨rfl, rfl, rfl, rfl, rfl, rfl, rfl, trivial⟩ ?_
      refine CW.loop (fun kL1 l_ w_ => ∃ (b_40 : Bool) (x_41 : Int), l_ = [(4, .pointer (some ⟨B_1, 0, none⟩)), (6, .pointer (some ⟨B_5, 0, none⟩)), (8, .bool b_40), (10, .int .i64 (IntKind.i64.wrap (Int.tmod a3 400))), (11, .int .u32 (bits .and .u32 a1 16777215)), (12, .slice A_29 n_31 c_30), (14, .int .i64 x_41)] ∧ reliquarylaw04_CipherNoughts.L1 l0 a1 l2 a3 r_28 kL1 b_40 x_41 ∧ St w w_ [.sl A_29 c_30 n_31 (iv .u8 r_28) 5 1, .sl (some ⟨B_19, 0, none⟩) n_17 n_17 (iv .u8 (List.replicate (IntKind.i64.wrap (Int.tmod a3 400)).toNat (0 : Int))) 5 1, .cells B_5 (iv .u8 l2) 25, .cells B_1 (iv .u8 l0) 23]) (k := k_39) ⟨false, 0, rfl, H, st_26⟩ (fun _ _ h => by obtain ⟨_, _, _, h, _⟩ := h; exact h.elim) ?_
      rintro kL1 l_44 w_42 ⟨b_40, x_41, rfl, H, st_43⟩
      refine CW.seq ?_
      refine CW.seq ?_
      refine CW.region ?_
      refine WL.val Wanted.none (Runs.move rfl) ?_
      refine WL.val Wanted.none (Runs.move rfl) ?_
      refine WL.val Wanted.none (Runs.lss rfl rfl rfl) ?_
      refine WL.nil ?_
      refine QW.then_n ?_
      rcases H with ⟨c_45, H⟩ | ⟨c_45, H⟩
      · have h_46 : (decide (x_41 < (IntKind.i64.wrap (Int.tmod a3 400)))) = true := (decide_eq_true c_45)
        refine CW.ct rfl h_46 ?_
        refine CW.skip ?_
        refine QW.then_n ?_
        refine CW.seq ?_
        refine CW.block ?_
        refine CW.seq ?_
        refine CW.region ?_
        refine WL.val Wanted.none (Runs.load_arr arr23 rfl (st_43.blk (i := 3) rfl) hl0) ?_
        refine WL.val Wanted.none (Runs.move rfl) ?_
        refine WL.val Wanted.none (Runs.move rfl) ?_
        refine WL.val Wanted.none (Runs.quo rfl rfl (by decide) rfl) ?_
        refine WL.val Wanted.none (Runs.conv Tryd.underlying24 ⟨_, Tryd.underlying3⟩ rfl rfl) ?_
        obtain ⟨x_47, e_48, H⟩ := H
        refine WL.val Wanted.none (Runs.add rfl rfl e_48) ?_
        refine WL.val Wanted.none (Runs.load_arr arr25 rfl (st_43.blk (i := 2) rfl) hl2) ?_
        obtain ⟨r_53, hr_49, H⟩ := H
        refine WL.call Wanted.none ent11 rfl (reliquaryref04_Block.calls w_42 l0 x_47 l2 hl0 hl2 r_53 hr_49) ?_
        rintro _ w_50 ⟨hl_54, rfl, sc_52⟩
        have st_51 : St w w_50 [.sl A_29 c_30 n_31 (iv .u8 r_28) 5 1, .sl (some ⟨B_19, 0, none⟩) n_17 n_17 (iv .u8 (List.replicate (IntKind.i64.wrap (Int.tmod a3 400)).toNat (0 : Int))) 5 1, .cells B_5 (iv .u8 l2) 25, .cells B_1 (iv .u8 l0) 23] := st_43.call sc_52
        refine ⟨_, rfl, ?_⟩
        refine WL.alloc st_51 arr27.zero ?_
        intro B_55 w_56 st_57
        replace st_57 : St w w_56 [.cells B_55 (iv .u8 (List.replicate 64 (0 : Int))) 27, .sl A_29 c_30 n_31 (iv .u8 r_28) 5 1, .sl (some ⟨B_19, 0, none⟩) n_17 n_17 (iv .u8 (List.replicate (IntKind.i64.wrap (Int.tmod a3 400)).toNat (0 : Int))) 5 1, .cells B_5 (iv .u8 l2) 25, .cells B_1 (iv .u8 l0) 23] := st_57
        refine WL.store_arr (i := 0) st_57 rfl arr27 rfl (by rw [iv_length]; exact (List.length_replicate ..)) hl_54 rfl ?_
        intro w_59 st_60
        replace st_60 : St w w_59 [.cells B_55 (iv .u8 r_53) 27, .sl A_29 c_30 n_31 (iv .u8 r_28) 5 1, .sl (some ⟨B_19, 0, none⟩) n_17 n_17 (iv .u8 (List.replicate (IntKind.i64.wrap (Int.tmod a3 400)).toNat (0 : Int))) 5 1, .cells B_5 (iv .u8 l2) 25, .cells B_1 (iv .u8 l0) 23] := st_60
        refine WL.nil ?_
        refine QW.then_n ?_
        refine CW.seq ?_
        refine CW.region ?_
        refine WL.val Wanted.none (Runs.assign rfl) ?_
        refine WL.nil ?_
        refine QW.then_n ?_
        refine CW.block ?_
        obtain ⟨k_62, H⟩ := H
        refine CW.sub [(4, .pointer (some ⟨B_1, 0, none⟩)), (6, .pointer (some ⟨B_5, 0, none⟩)), (8, .bool b_40), (10, .int .i64 (IntKind.i64.wrap (Int.tmod a3 400))), (11, .int .u32 (bits .and .u32 a1 16777215)), (12, .slice A_29 n_31 c_30), (14, .int .i64 x_41), (42, .int .i64 x_41), (43, .int .i64 (IntKind.i64.wrap (Int.tmod a3 400))), (44, .bool (decide (x_41 < (IntKind.i64.wrap (Int.tmod a3 400))))), (47, .agg (iv .u8 l0).toArray), (48, .int .u32 (bits .and .u32 a1 16777215)), (49, .int .i64 x_41), (50, .int .i64 (IntKind.i64.wrap (Int.tdiv x_41 64))), (51, .int .u32 (IntKind.u32.wrap (IntKind.i64.wrap (Int.tdiv x_41 64)))), (52, .int .u32 x_47), (53, .agg (iv .u8 l2).toArray), (54, .agg (iv .u8 r_53).toArray), (15, .pointer (some ⟨B_55, 0, none⟩)), (16, .int .i64 0)] ⟨rfl, rfl, rfl, rfl, rfl, rfl, rfl, rfl, rfl, rfl, rfl, rfl, rfl, rfl, rfl, rfl, rfl, rfl, rfl, rfl, trivial⟩ ?_
        refine CW.loop (fun kL2 l_ w_ => ∃ (b_63 : Bool) (x_64 : Int), l_ = [(4, .pointer (some ⟨B_1, 0, none⟩)), (6, .pointer (some ⟨B_5, 0, none⟩)), (8, .bool b_63), (10, .int .i64 (IntKind.i64.wrap (Int.tmod a3 400))), (11, .int .u32 (bits .and .u32 a1 16777215)), (12, .slice A_29 n_31 c_30), (14, .int .i64 x_41), (42, .int .i64 x_41), (43, .int .i64 (IntKind.i64.wrap (Int.tmod a3 400))), (44, .bool (decide (x_41 < (IntKind.i64.wrap (Int.tmod a3 400))))), (47, .agg (iv .u8 l0).toArray), (48, .int .u32 (bits .and .u32 a1 16777215)), (49, .int .i64 x_41), (50, .int .i64 (IntKind.i64.wrap (Int.tdiv x_41 64))), (51, .int .u32 (IntKind.u32.wrap (IntKind.i64.wrap (Int.tdiv x_41 64)))), (52, .int .u32 x_47), (53, .agg (iv .u8 l2).toArray), (54, .agg (iv .u8 r_53).toArray), (15, .pointer (some ⟨B_55, 0, none⟩)), (16, .int .i64 x_64)] ∧ reliquarylaw04_CipherNoughts.L2 a3 r_28 x_41 r_53 (reliquarylaw04_CipherNoughts.L1 l0 a1 l2 a3 r_28 kL1) kL2 b_63 x_64 ∧ St w w_ [.cells B_55 (iv .u8 r_53) 27, .sl A_29 c_30 n_31 (iv .u8 r_28) 5 1, .sl (some ⟨B_19, 0, none⟩) n_17 n_17 (iv .u8 (List.replicate (IntKind.i64.wrap (Int.tmod a3 400)).toNat (0 : Int))) 5 1, .cells B_5 (iv .u8 l2) 25, .cells B_1 (iv .u8 l0) 23]) (k := k_62) ⟨b_40, 0, rfl, H, st_60⟩ (fun _ _ h => by obtain ⟨_, _, _, h, _⟩ := h; exact h.elim) ?_
        rintro kL2 l_67 w_65 ⟨b_63, x_64, rfl, H, st_66⟩
        refine CW.seq ?_
        refine CW.seq ?_
        refine CW.region ?_
        refine WL.val Wanted.none (Runs.move rfl) ?_
        refine WL.val Wanted.none (Runs.lss rfl rfl rfl) ?_
        refine WL.val Wanted.none (Runs.move rfl) ?_
        rcases H with ⟨c_68, H⟩ | ⟨c_68, H⟩
        · have h_69 : (decide (x_64 < 64)) = true := (decide_eq_true c_68)
          refine WL.on ?_ ?_; exact Wanted.guard (dj := 57) (by rfl) (evb (by rfl) h_69) (by rfl)
          refine WL.val Wanted.none (Runs.move rfl) ?_
          refine WL.on ?_ ?_; exact Wanted.guard (dj := 57) (by rfl) (evb (by rfl) h_69) (by rfl)
          refine WL.val Wanted.none (Runs.move rfl) ?_
          refine WL.on ?_ ?_; exact Wanted.guard (dj := 57) (by rfl) (evb (by rfl) h_69) (by rfl)
          refine WL.val Wanted.none (Runs.add rfl rfl rfl) ?_
          refine WL.on ?_ ?_; exact Wanted.guard (dj := 57) (by rfl) (evb (by rfl) h_69) (by rfl)
          refine WL.val Wanted.none (Runs.move rfl) ?_
          refine WL.on ?_ ?_; exact Wanted.guard (dj := 57) (by rfl) (evb (by rfl) h_69) (by rfl)
          refine WL.val Wanted.none (Runs.lss rfl rfl rfl) ?_
          refine WL.val Wanted.none (Runs.pick_t (evb rfl h_69) rfl) ?_
          refine WL.nil ?_
          refine QW.then_n ?_
          rcases H with ⟨c_70, H⟩ | ⟨c_70, H⟩
          · have h_71 : (decide ((IntKind.i64.wrap (x_41 + x_64)) < (IntKind.i64.wrap (Int.tmod a3 400)))) = true := (decide_eq_true c_70)
            refine CW.ct rfl h_71 ?_
            refine CW.skip ?_
            refine QW.then_n ?_
            refine CW.seq ?_
            refine CW.block ?_
            refine CW.seq ?_
            refine CW.region_qa wide (by kernel_rfl) st_66 ?_
            refine HL.val Wanted.none (fun wq sq => (Runs.move rfl)) ?_
            refine HL.val Wanted.none (fun wq sq => (Runs.move rfl)) ?_
            refine HL.val Wanted.none (fun wq sq => (Runs.move rfl)) ?_
            refine HL.val Wanted.none (fun wq sq => (Runs.add rfl rfl rfl)) ?_
            obtain ⟨⟨p_72, q_73⟩, H⟩ := H
            obtain ⟨a_74, e_75⟩ := (st_66.src_sl (k := 1) rfl).addr_iv ((IntKind.i64.wrap (x_41 + x_64)).toNat) (by omega)
            refine HL.val Wanted.none (fun wq sq => (Runs.indexAddr Tryd.underlying31 cells5 (by decide) rfl e_75 rfl p_72 (by rw [hn_32]; exact q_73) (o := (IntKind.i64.wrap (x_41 + x_64)).toNat) (by first | rfl | omega))) ?_
            refine HL.val Wanted.none (fun wq sq => (Runs.load nagg5 rfl ((sq.src_sl (k := 1) rfl).cell_iv e_75 (by omega)))) ?_
            refine HL.val Wanted.none (fun wq sq => (Runs.move rfl)) ?_
            obtain ⟨⟨p_76, q_77⟩, H⟩ := H
            refine HL.val Wanted.none (fun wq sq => (Runs.indexAddr_blk arr27 rfl rfl p_76 q_77 (o := (x_64).toNat) (by first | rfl | omega))) ?_
            refine HL.val Wanted.none (fun wq sq => (Runs.load nagg5 rfl (sq.cell_iv (i := 0) rfl (by have := hl_54; omega)))) ?_
            refine HL.val Wanted.none (fun wq sq => (Runs.neq rfl rfl rfl)) ?_
            refine HL.nil (fun w_78 st_79 => ?_)
            refine WL.nil ?_
            refine QW.then_n ?_
            obtain ⟨c_80, H⟩ := H
            have h_81 : ((gn r_28 ((IntKind.i64.wrap (x_41 + x_64)).toNat)) != (gn r_53 ((x_64).toNat))) = false := (bne_eq_false_iff_eq.mpr (Decidable.not_not.mp c_80))
            refine CW.cf rfl h_81 ?_
            refine CW.skip ?_
            refine QW.blk_n ?_
            refine QW.then_n ?_
            refine CW.region ?_
            refine WL.val Wanted.none (Runs.move rfl) ?_
            refine WL.val Wanted.none (Runs.add rfl rfl rfl) ?_
            refine WL.val Wanted.none (Runs.assign rfl) ?_
            refine WL.nil ?_
            exact QW.at [(4, .pointer (some ⟨B_1, 0, none⟩)), (6, .pointer (some ⟨B_5, 0, none⟩)), (8, .bool b_63), (10, .int .i64 (IntKind.i64.wrap (Int.tmod a3 400))), (11, .int .u32 (bits .and .u32 a1 16777215)), (12, .slice A_29 n_31 c_30), (14, .int .i64 x_41), (42, .int .i64 x_41), (43, .int .i64 (IntKind.i64.wrap (Int.tmod a3 400))), (44, .bool (decide (x_41 < (IntKind.i64.wrap (Int.tmod a3 400))))), (47, .agg (iv .u8 l0).toArray), (48, .int .u32 (bits .and .u32 a1 16777215)), (49, .int .i64 x_41), (50, .int .i64 (IntKind.i64.wrap (Int.tdiv x_41 64))), (51, .int .u32 (IntKind.u32.wrap (IntKind.i64.wrap (Int.tdiv x_41 64)))), (52, .int .u32 x_47), (53, .agg (iv .u8 l2).toArray), (54, .agg (iv .u8 r_53).toArray), (15, .pointer (some ⟨B_55, 0, none⟩)), (16, .int .i64 (IntKind.i64.wrap (x_64 + 1)))] ⟨rfl, rfl, rfl, rfl, rfl, rfl, rfl, rfl, rfl, rfl, rfl, rfl, rfl, rfl, rfl, rfl, rfl, rfl, rfl, rfl, trivial⟩ ⟨b_63, IntKind.i64.wrap (x_64 + 1), rfl, H, st_79⟩
          · have h_71 : (decide ((IntKind.i64.wrap (x_41 + x_64)) < (IntKind.i64.wrap (Int.tmod a3 400)))) = false := (decide_eq_false c_70)
            refine CW.cf rfl h_71 ?_
            refine CW.exit ?_
            refine QW.then_x ?_
            refine QW.then_x ?_
            refine QW.blk_x ?_
            refine QW.blk_n ?_
            refine QW.then_n ?_
            refine CW.region ?_
            refine WL.val Wanted.none (Runs.move rfl) ?_
            refine WL.val Wanted.none (Runs.add rfl rfl rfl) ?_
            refine WL.val Wanted.none (Runs.assign rfl) ?_
            refine WL.nil ?_
            have st_66' := st_66.pick [1, 2, 3, 4] (by decide)
            exact QW.at [(4, .pointer (some ⟨B_1, 0, none⟩)), (6, .pointer (some ⟨B_5, 0, none⟩)), (8, .bool b_63), (10, .int .i64 (IntKind.i64.wrap (Int.tmod a3 400))), (11, .int .u32 (bits .and .u32 a1 16777215)), (12, .slice A_29 n_31 c_30), (14, .int .i64 (IntKind.i64.wrap (x_41 + 64)))] ⟨rfl, rfl, rfl, rfl, rfl, rfl, rfl, trivial⟩ ⟨b_63, IntKind.i64.wrap (x_41 + 64), rfl, H, st_66'⟩
        · have h_69 : (decide (x_64 < 64)) = false := (decide_eq_false c_68)
          refine WL.off ?_ ?_; exact Wanted.guard (dj := 57) (by rfl) (evb (by rfl) h_69) (by rfl)
          refine WL.off ?_ ?_; exact Wanted.guard (dj := 57) (by rfl) (evb (by rfl) h_69) (by rfl)
          refine WL.off ?_ ?_; exact Wanted.guard (dj := 57) (by rfl) (evb (by rfl) h_69) (by rfl)
          refine WL.off ?_ ?_; exact Wanted.guard (dj := 57) (by rfl) (evb (by rfl) h_69) (by rfl)
          refine WL.off ?_ ?_; exact Wanted.guard (dj := 57) (by rfl) (evb (by rfl) h_69) (by rfl)
          refine WL.val Wanted.none (Runs.pick_f (evb rfl h_69) rfl) ?_
          refine WL.nil ?_
          refine QW.then_n ?_
          refine CW.cf rfl rfl ?_
          refine CW.exit ?_
          refine QW.then_x ?_
          refine QW.then_x ?_
          refine QW.blk_x ?_
          refine QW.blk_n ?_
          refine QW.then_n ?_
          refine CW.region ?_
          refine WL.val Wanted.none (Runs.move rfl) ?_
          refine WL.val Wanted.none (Runs.add rfl rfl rfl) ?_
          refine WL.val Wanted.none (Runs.assign rfl) ?_
          refine WL.nil ?_
          have st_66' := st_66.pick [1, 2, 3, 4] (by decide)
          exact QW.at [(4, .pointer (some ⟨B_1, 0, none⟩)), (6, .pointer (some ⟨B_5, 0, none⟩)), (8, .bool b_63), (10, .int .i64 (IntKind.i64.wrap (Int.tmod a3 400))), (11, .int .u32 (bits .and .u32 a1 16777215)), (12, .slice A_29 n_31 c_30), (14, .int .i64 (IntKind.i64.wrap (x_41 + 64)))] ⟨rfl, rfl, rfl, rfl, rfl, rfl, rfl, trivial⟩ ⟨b_63, IntKind.i64.wrap (x_41 + 64), rfl, H, st_66'⟩
      · have h_46 : (decide (x_41 < (IntKind.i64.wrap (Int.tmod a3 400)))) = false := (decide_eq_false c_45)
        refine CW.cf rfl h_46 ?_
        refine CW.exit ?_
        refine QW.then_x ?_
        refine QW.then_x ?_
        refine QW.blk_x ?_
        refine QW.then_n ?_
        refine CW.sub [(8, .bool b_40)] ⟨rfl, trivial⟩ ?_
        refine CW.seq ?_
        refine CW.region ?_
        refine WL.val Wanted.none (Runs.assign rfl) ?_
        refine WL.nil ?_
        refine QW.then_n ?_
        refine CW.ret ?_
        exact QW.ret1 rfl rfl ⟨rfl, st_43.ext⟩
    · obtain ⟨⟨p_82, q_83⟩, H⟩ := H
      obtain ⟨n_84, e_85⟩ : ∃ n_ : Nat, n_ = (IntKind.i64.wrap (Int.tmod a3 400)).toNat := ⟨_, rfl⟩
      refine WL.make st_14 Tryd.underlying31 elem5 rfl rfl p_82 q_83 (by decide) (N := n_84) e_85 ?_
      intro B_86 w_87 st_88
      replace st_88 : St w w_87 [.sl (some ⟨B_86, 0, none⟩) n_84 n_84 (iv .u8 (List.replicate (IntKind.i64.wrap (Int.tmod a3 400)).toNat (0 : Int))) 5 1, .cells B_5 (iv .u8 l2) 25, .cells B_1 (iv .u8 l0) 23] := by rw [← e_85]; rw [iv_replicate] at st_88; exact st_88
      have hn_89 : n_84 = (List.replicate (IntKind.i64.wrap (Int.tmod a3 400)).toNat (0 : Int)).length := by rw [List.length_replicate]; exact e_85
      refine WL.nil ?_
      refine AW.back ?_
      refine AW.step 2 rfl (by kernel_rfl) ?_
      refine WL.val Wanted.none (Runs.load_arr arr25 rfl (st_88.blk (i := 1) rfl) hl2) ?_
      refine WL.nil ?_
      refine AW.back ?_
      refine AW.step 5 rfl (by kernel_rfl) ?_
      obtain ⟨r_95, r_101, hr_91, H⟩ := H
      refine WL.call Wanted.none ent13 rfl (cipher_Crypt.calls w_87 l0 (bits .and .u32 a1 16777215) l2 (List.replicate (IntKind.i64.wrap (Int.tmod a3 400)).toNat (0 : Int)) (some ⟨B_86, 0, none⟩) n_84 n_84 (hG0.ext st_88) hl0 hl2 (st_88.src_sl (k := 0) rfl) (hn_89) (st_88.cap (i := 0) rfl) r_95 r_101 hr_91) ?_
      rintro _ w_92 ⟨A_96, c_97, n_98, hn_99, rfl, sc_94⟩
      have st_93 : St w w_92 [.sl A_96 c_97 n_98 (iv .u8 r_95) 5 1, .sl (some ⟨B_86, 0, none⟩) n_84 n_84 (iv .u8 (List.replicate (IntKind.i64.wrap (Int.tmod a3 400)).toNat (0 : Int))) 5 1, .cells B_5 (iv .u8 l2) 25, .cells B_1 (iv .u8 l0) 23] := st_88.call sc_94
      refine ⟨_, rfl, ?_⟩
      refine WL.nil ?_
      refine AW.back ?_
      refine AW.take 6 rfl (by kernel_rfl) (by kernel_rfl) (by kernel_rfl) Wanted.none (fun _ => (Runs.move rfl)) ?_
      refine AW.take 7 rfl (by kernel_rfl) (by kernel_rfl) (by kernel_rfl) Wanted.none (fun _ => (Runs.extract rfl rfl)) ?_
      refine AW.take 8 rfl (by kernel_rfl) (by kernel_rfl) (by kernel_rfl) Wanted.none (fun _ => (Runs.extract rfl rfl)) ?_
      refine AW.take 9 rfl (by kernel_rfl) (by kernel_rfl) (by kernel_rfl) Wanted.none (fun _ => (Runs.assign rfl)) ?_
      refine AW.take 10 rfl (by kernel_rfl) (by kernel_rfl) (by kernel_rfl) Wanted.none (fun _ => (Runs.assign rfl)) ?_
      refine AW.done (by kernel_rfl) ?_
      refine QW.then_n ?_
      refine CW.sub [(4, .pointer (some ⟨B_1, 0, none⟩)), (6, .pointer (some ⟨B_5, 0, none⟩)), (8, .bool false), (10, .int .i64 (IntKind.i64.wrap (Int.tmod a3 400))), (11, .int .u32 (bits .and .u32 a1 16777215)), (12, .slice A_96 n_98 c_97), (13, .int .i64 r_101)] ⟨rfl, rfl, rfl, rfl, rfl, rfl, rfl, trivial⟩ ?_
      refine CW.seq ?_
      refine CW.seq ?_
      refine CW.region ?_
      refine WL.val Wanted.none (Runs.move rfl) ?_
      refine WL.val Wanted.none (Runs.neq rfl rfl rfl) ?_
      refine WL.val Wanted.none (Runs.move rfl) ?_
      obtain ⟨c_102, H⟩ := H
      have h_103 : (r_101 != 0) = false := (bne_eq_false_iff_eq.mpr (Decidable.not_not.mp c_102))
      refine WL.on ?_ ?_; exact Wanted.guard (dj := 36) (by rfl) (evb (by rfl) h_103) (by rfl)
      refine WL.val Wanted.none (Runs.move rfl) ?_
      refine WL.on ?_ ?_; exact Wanted.guard (dj := 36) (by rfl) (evb (by rfl) h_103) (by rfl)
      refine WL.val Wanted.none (Runs.len_sl Tryd.underlying31 rfl (by rw [hn_99])) ?_
      refine WL.on ?_ ?_; exact Wanted.guard (dj := 36) (by rfl) (evb (by rfl) h_103) (by rfl)
      refine WL.val Wanted.none (Runs.move rfl) ?_
      refine WL.on ?_ ?_; exact Wanted.guard (dj := 36) (by rfl) (evb (by rfl) h_103) (by rfl)
      refine WL.val Wanted.none (Runs.neq rfl rfl rfl) ?_
      refine WL.val Wanted.none (Runs.pick_f (evb rfl h_103) rfl) ?_
      refine WL.nil ?_
      refine QW.then_n ?_
      refine CW.sub [(4, .pointer (some ⟨B_1, 0, none⟩)), (6, .pointer (some ⟨B_5, 0, none⟩)), (8, .bool false), (10, .int .i64 (IntKind.i64.wrap (Int.tmod a3 400))), (11, .int .u32 (bits .and .u32 a1 16777215)), (12, .slice A_96 n_98 c_97), (41, .bool ((r_95.length : Int) != (IntKind.i64.wrap (Int.tmod a3 400))))] ⟨rfl, rfl, rfl, rfl, rfl, rfl, rfl, trivial⟩ ?_
      obtain ⟨c_104, H⟩ := H
      have h_105 : ((r_95.length : Int) != (IntKind.i64.wrap (Int.tmod a3 400))) = false := (bne_eq_false_iff_eq.mpr (Decidable.not_not.mp c_104))
      refine CW.cf rfl h_105 ?_
      refine CW.skip ?_
      refine QW.then_n ?_
      refine CW.seq ?_
      refine CW.seq ?_
      refine CW.region ?_
      refine WL.val Wanted.none (Runs.assign rfl) ?_
      refine WL.nil ?_
      refine QW.then_n ?_
      refine CW.block ?_
      obtain ⟨k_106, H⟩ := H
      refine CW.sub [(4, .pointer (some ⟨B_1, 0, none⟩)), (6, .pointer (some ⟨B_5, 0, none⟩)), (8, .bool false), (10, .int .i64 (IntKind.i64.wrap (Int.tmod a3 400))), (11, .int .u32 (bits .and .u32 a1 16777215)), (12, .slice A_96 n_98 c_97), (14, .int .i64 0)] ⟨rfl, rfl, rfl, rfl, rfl, rfl, rfl, trivial⟩ ?_
      refine CW.loop (fun kL1 l_ w_ => ∃ (b_107 : Bool) (x_108 : Int), l_ = [(4, .pointer (some ⟨B_1, 0, none⟩)), (6, .pointer (some ⟨B_5, 0, none⟩)), (8, .bool b_107), (10, .int .i64 (IntKind.i64.wrap (Int.tmod a3 400))), (11, .int .u32 (bits .and .u32 a1 16777215)), (12, .slice A_96 n_98 c_97), (14, .int .i64 x_108)] ∧ reliquarylaw04_CipherNoughts.L1 l0 a1 l2 a3 r_95 kL1 b_107 x_108 ∧ St w w_ [.sl A_96 c_97 n_98 (iv .u8 r_95) 5 1, .sl (some ⟨B_86, 0, none⟩) n_84 n_84 (iv .u8 (List.replicate (IntKind.i64.wrap (Int.tmod a3 400)).toNat (0 : Int))) 5 1, .cells B_5 (iv .u8 l2) 25, .cells B_1 (iv .u8 l0) 23]) (k := k_106) ⟨false, 0, rfl, H, st_93⟩ (fun _ _ h => by obtain ⟨_, _, _, h, _⟩ := h; exact h.elim) ?_
      rintro kL1 l_111 w_109 ⟨b_107, x_108, rfl, H, st_110⟩
      refine CW.seq ?_
      refine CW.seq ?_
      refine CW.region ?_
      refine WL.val Wanted.none (Runs.move rfl) ?_
      refine WL.val Wanted.none (Runs.move rfl) ?_
      refine WL.val Wanted.none (Runs.lss rfl rfl rfl) ?_
      refine WL.nil ?_
      refine QW.then_n ?_
      rcases H with ⟨c_112, H⟩ | ⟨c_112, H⟩
      · have h_113 : (decide (x_108 < (IntKind.i64.wrap (Int.tmod a3 400)))) = true := (decide_eq_true c_112)
        refine CW.ct rfl h_113 ?_
        refine CW.skip ?_
        refine QW.then_n ?_
        refine CW.seq ?_
        refine CW.block ?_
        refine CW.seq ?_
        refine CW.region ?_
        refine WL.val Wanted.none (Runs.load_arr arr23 rfl (st_110.blk (i := 3) rfl) hl0) ?_
        refine WL.val Wanted.none (Runs.move rfl) ?_
        refine WL.val Wanted.none (Runs.move rfl) ?_
        refine WL.val Wanted.none (Runs.quo rfl rfl (by decide) rfl) ?_
        refine WL.val Wanted.none (Runs.conv Tryd.underlying24 ⟨_, Tryd.underlying3⟩ rfl rfl) ?_
        obtain ⟨x_114, e_115, H⟩ := H
        refine WL.val Wanted.none (Runs.add rfl rfl e_115) ?_
        refine WL.val Wanted.none (Runs.load_arr arr25 rfl (st_110.blk (i := 2) rfl) hl2) ?_
        obtain ⟨r_120, hr_116, H⟩ := H
        refine WL.call Wanted.none ent11 rfl (reliquaryref04_Block.calls w_109 l0 x_114 l2 hl0 hl2 r_120 hr_116) ?_
        rintro _ w_117 ⟨hl_121, rfl, sc_119⟩
        have st_118 : St w w_117 [.sl A_96 c_97 n_98 (iv .u8 r_95) 5 1, .sl (some ⟨B_86, 0, none⟩) n_84 n_84 (iv .u8 (List.replicate (IntKind.i64.wrap (Int.tmod a3 400)).toNat (0 : Int))) 5 1, .cells B_5 (iv .u8 l2) 25, .cells B_1 (iv .u8 l0) 23] := st_110.call sc_119
        refine ⟨_, rfl, ?_⟩
        refine WL.alloc st_118 arr27.zero ?_
        intro B_122 w_123 st_124
        replace st_124 : St w w_123 [.cells B_122 (iv .u8 (List.replicate 64 (0 : Int))) 27, .sl A_96 c_97 n_98 (iv .u8 r_95) 5 1, .sl (some ⟨B_86, 0, none⟩) n_84 n_84 (iv .u8 (List.replicate (IntKind.i64.wrap (Int.tmod a3 400)).toNat (0 : Int))) 5 1, .cells B_5 (iv .u8 l2) 25, .cells B_1 (iv .u8 l0) 23] := st_124
        refine WL.store_arr (i := 0) st_124 rfl arr27 rfl (by rw [iv_length]; exact (List.length_replicate ..)) hl_121 rfl ?_
        intro w_126 st_127
        replace st_127 : St w w_126 [.cells B_122 (iv .u8 r_120) 27, .sl A_96 c_97 n_98 (iv .u8 r_95) 5 1, .sl (some ⟨B_86, 0, none⟩) n_84 n_84 (iv .u8 (List.replicate (IntKind.i64.wrap (Int.tmod a3 400)).toNat (0 : Int))) 5 1, .cells B_5 (iv .u8 l2) 25, .cells B_1 (iv .u8 l0) 23] := st_127
        refine WL.nil ?_
        refine QW.then_n ?_
        refine CW.seq ?_
        refine CW.region ?_
        refine WL.val Wanted.none (Runs.assign rfl) ?_
        refine WL.nil ?_
        refine QW.then_n ?_
        refine CW.block ?_
        obtain ⟨k_129, H⟩ := H
        refine CW.sub [(4, .pointer (some ⟨B_1, 0, none⟩)), (6, .pointer (some ⟨B_5, 0, none⟩)), (8, .bool b_107), (10, .int .i64 (IntKind.i64.wrap (Int.tmod a3 400))), (11, .int .u32 (bits .and .u32 a1 16777215)), (12, .slice A_96 n_98 c_97), (14, .int .i64 x_108), (42, .int .i64 x_108), (43, .int .i64 (IntKind.i64.wrap (Int.tmod a3 400))), (44, .bool (decide (x_108 < (IntKind.i64.wrap (Int.tmod a3 400))))), (47, .agg (iv .u8 l0).toArray), (48, .int .u32 (bits .and .u32 a1 16777215)), (49, .int .i64 x_108), (50, .int .i64 (IntKind.i64.wrap (Int.tdiv x_108 64))), (51, .int .u32 (IntKind.u32.wrap (IntKind.i64.wrap (Int.tdiv x_108 64)))), (52, .int .u32 x_114), (53, .agg (iv .u8 l2).toArray), (54, .agg (iv .u8 r_120).toArray), (15, .pointer (some ⟨B_122, 0, none⟩)), (16, .int .i64 0)] ⟨rfl, rfl, rfl, rfl, rfl, rfl, rfl, rfl, rfl, rfl, rfl, rfl, rfl, rfl, rfl, rfl, rfl, rfl, rfl, rfl, trivial⟩ ?_
        refine CW.loop (fun kL2 l_ w_ => ∃ (b_130 : Bool) (x_131 : Int), l_ = [(4, .pointer (some ⟨B_1, 0, none⟩)), (6, .pointer (some ⟨B_5, 0, none⟩)), (8, .bool b_130), (10, .int .i64 (IntKind.i64.wrap (Int.tmod a3 400))), (11, .int .u32 (bits .and .u32 a1 16777215)), (12, .slice A_96 n_98 c_97), (14, .int .i64 x_108), (42, .int .i64 x_108), (43, .int .i64 (IntKind.i64.wrap (Int.tmod a3 400))), (44, .bool (decide (x_108 < (IntKind.i64.wrap (Int.tmod a3 400))))), (47, .agg (iv .u8 l0).toArray), (48, .int .u32 (bits .and .u32 a1 16777215)), (49, .int .i64 x_108), (50, .int .i64 (IntKind.i64.wrap (Int.tdiv x_108 64))), (51, .int .u32 (IntKind.u32.wrap (IntKind.i64.wrap (Int.tdiv x_108 64)))), (52, .int .u32 x_114), (53, .agg (iv .u8 l2).toArray), (54, .agg (iv .u8 r_120).toArray), (15, .pointer (some ⟨B_122, 0, none⟩)), (16, .int .i64 x_131)] ∧ reliquarylaw04_CipherNoughts.L2 a3 r_95 x_108 r_120 (reliquarylaw04_CipherNoughts.L1 l0 a1 l2 a3 r_95 kL1) kL2 b_130 x_131 ∧ St w w_ [.cells B_122 (iv .u8 r_120) 27, .sl A_96 c_97 n_98 (iv .u8 r_95) 5 1, .sl (some ⟨B_86, 0, none⟩) n_84 n_84 (iv .u8 (List.replicate (IntKind.i64.wrap (Int.tmod a3 400)).toNat (0 : Int))) 5 1, .cells B_5 (iv .u8 l2) 25, .cells B_1 (iv .u8 l0) 23]) (k := k_129) ⟨b_107, 0, rfl, H, st_127⟩ (fun _ _ h => by obtain ⟨_, _, _, h, _⟩ := h; exact h.elim) ?_
        rintro kL2 l_134 w_132 ⟨b_130, x_131, rfl, H, st_133⟩
        refine CW.seq ?_
        refine CW.seq ?_
        refine CW.region ?_
        refine WL.val Wanted.none (Runs.move rfl) ?_
        refine WL.val Wanted.none (Runs.lss rfl rfl rfl) ?_
        refine WL.val Wanted.none (Runs.move rfl) ?_
        rcases H with ⟨c_135, H⟩ | ⟨c_135, H⟩
        · have h_136 : (decide (x_131 < 64)) = true := (decide_eq_true c_135)
          refine WL.on ?_ ?_; exact Wanted.guard (dj := 57) (by rfl) (evb (by rfl) h_136) (by rfl)
          refine WL.val Wanted.none (Runs.move rfl) ?_
          refine WL.on ?_ ?_; exact Wanted.guard (dj := 57) (by rfl) (evb (by rfl) h_136) (by rfl)
          refine WL.val Wanted.none (Runs.move rfl) ?_
          refine WL.on ?_ ?_; exact Wanted.guard (dj := 57) (by rfl) (evb (by rfl) h_136) (by rfl)
          refine WL.val Wanted.none (Runs.add rfl rfl rfl) ?_
          refine WL.on ?_ ?_; exact Wanted.guard (dj := 57) (by rfl) (evb (by rfl) h_136) (by rfl)
          refine WL.val Wanted.none (Runs.move rfl) ?_
          refine WL.on ?_ ?_; exact Wanted.guard (dj := 57) (by rfl) (evb (by rfl) h_136) (by rfl)
          refine WL.val Wanted.none (Runs.lss rfl rfl rfl) ?_
          refine WL.val Wanted.none (Runs.pick_t (evb rfl h_136) rfl) ?_
          refine WL.nil ?_
          refine QW.then_n ?_
          rcases H with ⟨c_137, H⟩ | ⟨c_137, H⟩
          · have h_138 : (decide ((IntKind.i64.wrap (x_108 + x_131)) < (IntKind.i64.wrap (Int.tmod a3 400)))) = true := (decide_eq_true c_137)
            refine CW.ct rfl h_138 ?_
            refine CW.skip ?_
            refine QW.then_n ?_
            refine CW.seq ?_
            refine CW.block ?_
            refine CW.seq ?_
            refine CW.region_qa wide (by kernel_rfl) st_133 ?_
            refine HL.val Wanted.none (fun wq sq => (Runs.move rfl)) ?_
            refine HL.val Wanted.none (fun wq sq => (Runs.move rfl)) ?_
            refine HL.val Wanted.none (fun wq sq => (Runs.move rfl)) ?_
            refine HL.val Wanted.none (fun wq sq => (Runs.add rfl rfl rfl)) ?_
            obtain ⟨⟨p_139, q_140⟩, H⟩ := H
            obtain ⟨a_141, e_142⟩ := (st_133.src_sl (k := 1) rfl).addr_iv ((IntKind.i64.wrap (x_108 + x_131)).toNat) (by omega)
            refine HL.val Wanted.none (fun wq sq => (Runs.indexAddr Tryd.underlying31 cells5 (by decide) rfl e_142 rfl p_139 (by rw [hn_99]; exact q_140) (o := (IntKind.i64.wrap (x_108 + x_131)).toNat) (by first | rfl | omega))) ?_
            refine HL.val Wanted.none (fun wq sq => (Runs.load nagg5 rfl ((sq.src_sl (k := 1) rfl).cell_iv e_142 (by omega)))) ?_
            refine HL.val Wanted.none (fun wq sq => (Runs.move rfl)) ?_
            obtain ⟨⟨p_143, q_144⟩, H⟩ := H
            refine HL.val Wanted.none (fun wq sq => (Runs.indexAddr_blk arr27 rfl rfl p_143 q_144 (o := (x_131).toNat) (by first | rfl | omega))) ?_
            refine HL.val Wanted.none (fun wq sq => (Runs.load nagg5 rfl (sq.cell_iv (i := 0) rfl (by have := hl_121; omega)))) ?_
            refine HL.val Wanted.none (fun wq sq => (Runs.neq rfl rfl rfl)) ?_
            refine HL.nil (fun w_145 st_146 => ?_)
            refine WL.nil ?_
            refine QW.then_n ?_
            obtain ⟨c_147, H⟩ := H
            have h_148 : ((gn r_95 ((IntKind.i64.wrap (x_108 + x_131)).toNat)) != (gn r_120 ((x_131).toNat))) = false := (bne_eq_false_iff_eq.mpr (Decidable.not_not.mp c_147))
            refine CW.cf rfl h_148 ?_
            refine CW.skip ?_
            refine QW.blk_n ?_
            refine QW.then_n ?_
            refine CW.region ?_
            refine WL.val Wanted.none (Runs.move rfl) ?_
            refine WL.val Wanted.none (Runs.add rfl rfl rfl) ?_
            refine WL.val Wanted.none (Runs.assign rfl) ?_
            refine WL.nil ?_
            exact QW.at [(4, .pointer (some ⟨B_1, 0, none⟩)), (6, .pointer (some ⟨B_5, 0, none⟩)), (8, .bool b_130), (10, .int .i64 (IntKind.i64.wrap (Int.tmod a3 400))), (11, .int .u32 (bits .and .u32 a1 16777215)), (12, .slice A_96 n_98 c_97), (14, .int .i64 x_108), (42, .int .i64 x_108), (43, .int .i64 (IntKind.i64.wrap (Int.tmod a3 400))), (44, .bool (decide (x_108 < (IntKind.i64.wrap (Int.tmod a3 400))))), (47, .agg (iv .u8 l0).toArray), (48, .int .u32 (bits .and .u32 a1 16777215)), (49, .int .i64 x_108), (50, .int .i64 (IntKind.i64.wrap (Int.tdiv x_108 64))), (51, .int .u32 (IntKind.u32.wrap (IntKind.i64.wrap (Int.tdiv x_108 64)))), (52, .int .u32 x_114), (53, .agg (iv .u8 l2).toArray), (54, .agg (iv .u8 r_120).toArray), (15, .pointer (some ⟨B_122, 0, none⟩)), (16, .int .i64 (IntKind.i64.wrap (x_131 + 1)))] ⟨rfl, rfl, rfl, rfl, rfl, rfl, rfl, rfl, rfl, rfl, rfl, rfl, rfl, rfl, rfl, rfl, rfl, rfl, rfl, rfl, trivial⟩ ⟨b_130, IntKind.i64.wrap (x_131 + 1), rfl, H, st_146⟩
          · have h_138 : (decide ((IntKind.i64.wrap (x_108 + x_131)) < (IntKind.i64.wrap (Int.tmod a3 400)))) = false := (decide_eq_false c_137)
            refine CW.cf rfl h_138 ?_
            refine CW.exit ?_
            refine QW.then_x ?_
            refine QW.then_x ?_
            refine QW.blk_x ?_
            refine QW.blk_n ?_
            refine QW.then_n ?_
            refine CW.region ?_
            refine WL.val Wanted.none (Runs.move rfl) ?_
            refine WL.val Wanted.none (Runs.add rfl rfl rfl) ?_
            refine WL.val Wanted.none (Runs.assign rfl) ?_
            refine WL.nil ?_
            have st_133' := st_133.pick [1, 2, 3, 4] (by decide)
            exact QW.at [(4, .pointer (some ⟨B_1, 0, none⟩)), (6, .pointer (some ⟨B_5, 0, none⟩)), (8, .bool b_130), (10, .int .i64 (IntKind.i64.wrap (Int.tmod a3 400))), (11, .int .u32 (bits .and .u32 a1 16777215)), (12, .slice A_96 n_98 c_97), (14, .int .i64 (IntKind.i64.wrap (x_108 + 64)))] ⟨rfl, rfl, rfl, rfl, rfl, rfl, rfl, trivial⟩ ⟨b_130, IntKind.i64.wrap (x_108 + 64), rfl, H, st_133'⟩
        · have h_136 : (decide (x_131 < 64)) = false := (decide_eq_false c_135)
          refine WL.off ?_ ?_; exact Wanted.guard (dj := 57) (by rfl) (evb (by rfl) h_136) (by rfl)
          refine WL.off ?_ ?_; exact Wanted.guard (dj := 57) (by rfl) (evb (by rfl) h_136) (by rfl)
          refine WL.off ?_ ?_; exact Wanted.guard (dj := 57) (by rfl) (evb (by rfl) h_136) (by rfl)
          refine WL.off ?_ ?_; exact Wanted.guard (dj := 57) (by rfl) (evb (by rfl) h_136) (by rfl)
          refine WL.off ?_ ?_; exact Wanted.guard (dj := 57) (by rfl) (evb (by rfl) h_136) (by rfl)
          refine WL.val Wanted.none (Runs.pick_f (evb rfl h_136) rfl) ?_
          refine WL.nil ?_
          refine QW.then_n ?_
          refine CW.cf rfl rfl ?_
          refine CW.exit ?_
          refine QW.then_x ?_
          refine QW.then_x ?_
          refine QW.blk_x ?_
          refine QW.blk_n ?_
          refine QW.then_n ?_
          refine CW.region ?_
          refine WL.val Wanted.none (Runs.move rfl) ?_
          refine WL.val Wanted.none (Runs.add rfl rfl rfl) ?_
          refine WL.val Wanted.none (Runs.assign rfl) ?_
          refine WL.nil ?_
          have st_133' := st_133.pick [1, 2, 3, 4] (by decide)
          exact QW.at [(4, .pointer (some ⟨B_1, 0, none⟩)), (6, .pointer (some ⟨B_5, 0, none⟩)), (8, .bool b_130), (10, .int .i64 (IntKind.i64.wrap (Int.tmod a3 400))), (11, .int .u32 (bits .and .u32 a1 16777215)), (12, .slice A_96 n_98 c_97), (14, .int .i64 (IntKind.i64.wrap (x_108 + 64)))] ⟨rfl, rfl, rfl, rfl, rfl, rfl, rfl, trivial⟩ ⟨b_130, IntKind.i64.wrap (x_108 + 64), rfl, H, st_133'⟩
      · have h_113 : (decide (x_108 < (IntKind.i64.wrap (Int.tmod a3 400)))) = false := (decide_eq_false c_112)
        refine CW.cf rfl h_113 ?_
        refine CW.exit ?_
        refine QW.then_x ?_
        refine QW.then_x ?_
        refine QW.blk_x ?_
        refine QW.then_n ?_
        refine CW.sub [(8, .bool b_107)] ⟨rfl, trivial⟩ ?_
        refine CW.seq ?_
        refine CW.region ?_
        refine WL.val Wanted.none (Runs.assign rfl) ?_
        refine WL.nil ?_
        refine QW.then_n ?_
        refine CW.ret ?_
        exact QW.ret1 rfl rfl ⟨rfl, st_110.ext⟩
  · refine WL.val Wanted.none (Runs.load_arr arr25 rfl (st_14.blk (i := 0) rfl) hl2) ?_
    refine WL.nil ?_
    refine AW.back ?_
    refine AW.step2 0 4 rfl rfl (by kernel_rfl) ?_ ?_
    · refine WL.val Wanted.none (Runs.load_arr arr23 rfl (st_14.blk (i := 1) rfl) hl0) ?_
      refine WL.nil ?_
      refine AW.back ?_
      refine AW.step 4 rfl (by kernel_rfl) ?_
      obtain ⟨⟨p_149, q_150⟩, H⟩ := H
      obtain ⟨n_151, e_152⟩ : ∃ n_ : Nat, n_ = (IntKind.i64.wrap (Int.tmod a3 400)).toNat := ⟨_, rfl⟩
      refine WL.make st_14 Tryd.underlying31 elem5 rfl rfl p_149 q_150 (by decide) (N := n_151) e_152 ?_
      intro B_153 w_154 st_155
      replace st_155 : St w w_154 [.sl (some ⟨B_153, 0, none⟩) n_151 n_151 (iv .u8 (List.replicate (IntKind.i64.wrap (Int.tmod a3 400)).toNat (0 : Int))) 5 1, .cells B_5 (iv .u8 l2) 25, .cells B_1 (iv .u8 l0) 23] := by rw [← e_152]; rw [iv_replicate] at st_155; exact st_155
      have hn_156 : n_151 = (List.replicate (IntKind.i64.wrap (Int.tmod a3 400)).toNat (0 : Int)).length := by rw [List.length_replicate]; exact e_152
      refine WL.nil ?_
      refine AW.back ?_
      refine AW.step 5 rfl (by kernel_rfl) ?_
      obtain ⟨r_162, r_168, hr_158, H⟩ := H
      refine WL.call Wanted.none ent13 rfl (cipher_Crypt.calls w_154 l0 (bits .and .u32 a1 16777215) l2 (List.replicate (IntKind.i64.wrap (Int.tmod a3 400)).toNat (0 : Int)) (some ⟨B_153, 0, none⟩) n_151 n_151 (hG0.ext st_155) hl0 hl2 (st_155.src_sl (k := 0) rfl) (hn_156) (st_155.cap (i := 0) rfl) r_162 r_168 hr_158) ?_
      rintro _ w_159 ⟨A_163, c_164, n_165, hn_166, rfl, sc_161⟩
      have st_160 : St w w_159 [.sl A_163 c_164 n_165 (iv .u8 r_162) 5 1, .sl (some ⟨B_153, 0, none⟩) n_151 n_151 (iv .u8 (List.replicate (IntKind.i64.wrap (Int.tmod a3 400)).toNat (0 : Int))) 5 1, .cells B_5 (iv .u8 l2) 25, .cells B_1 (iv .u8 l0) 23] := st_155.call sc_161
      refine ⟨_, rfl, ?_⟩
      refine WL.nil ?_
      refine AW.back ?_
      refine AW.take 6 rfl (by kernel_rfl) (by kernel_rfl) (by kernel_rfl) Wanted.none (fun _ => (Runs.move rfl)) ?_
      refine AW.take 7 rfl (by kernel_rfl) (by kernel_rfl) (by kernel_rfl) Wanted.none (fun _ => (Runs.extract rfl rfl)) ?_
      refine AW.take 8 rfl (by kernel_rfl) (by kernel_rfl) (by kernel_rfl) Wanted.none (fun _ => (Runs.extract rfl rfl)) ?_
      refine AW.take 9 rfl (by kernel_rfl) (by kernel_rfl) (by kernel_rfl) Wanted.none (fun _ => (Runs.assign rfl)) ?_
      refine AW.take 10 rfl (by kernel_rfl) (by kernel_rfl) (by kernel_rfl) Wanted.none (fun _ => (Runs.assign rfl)) ?_
      refine AW.done (by kernel_rfl) ?_
      refine QW.then_n ?_
      refine CW.sub [(4, .pointer (some ⟨B_1, 0, none⟩)), (6, .pointer (some ⟨B_5, 0, none⟩)), (8, .bool false), (10, .int .i64 (IntKind.i64.wrap (Int.tmod a3 400))), (11, .int .u32 (bits .and .u32 a1 16777215)), (12, .slice A_163 n_165 c_164), (13, .int .i64 r_168)] ⟨rfl, rfl, rfl, rfl, rfl, rfl, rfl, trivial⟩ ?_
      refine CW.seq ?_
      refine CW.seq ?_
      refine CW.region ?_
      refine WL.val Wanted.none (Runs.move rfl) ?_
      refine WL.val Wanted.none (Runs.neq rfl rfl rfl) ?_
      refine WL.val Wanted.none (Runs.move rfl) ?_
      obtain ⟨c_169, H⟩ := H
      have h_170 : (r_168 != 0) = false := (bne_eq_false_iff_eq.mpr (Decidable.not_not.mp c_169))
      refine WL.on ?_ ?_; exact Wanted.guard (dj := 36) (by rfl) (evb (by rfl) h_170) (by rfl)
      refine WL.val Wanted.none (Runs.move rfl) ?_
      refine WL.on ?_ ?_; exact Wanted.guard (dj := 36) (by rfl) (evb (by rfl) h_170) (by rfl)
      refine WL.val Wanted.none (Runs.len_sl Tryd.underlying31 rfl (by rw [hn_166])) ?_
      refine WL.on ?_ ?_; exact Wanted.guard (dj := 36) (by rfl) (evb (by rfl) h_170) (by rfl)
      refine WL.val Wanted.none (Runs.move rfl) ?_
      refine WL.on ?_ ?_; exact Wanted.guard (dj := 36) (by rfl) (evb (by rfl) h_170) (by rfl)
      refine WL.val Wanted.none (Runs.neq rfl rfl rfl) ?_
      refine WL.val Wanted.none (Runs.pick_f (evb rfl h_170) rfl) ?_
      refine WL.nil ?_
      refine QW.then_n ?_
      refine CW.sub [(4, .pointer (some ⟨B_1, 0, none⟩)), (6, .pointer (some ⟨B_5, 0, none⟩)), (8, .bool false), (10, .int .i64 (IntKind.i64.wrap (Int.tmod a3 400))), (11, .int .u32 (bits .and .u32 a1 16777215)), (12, .slice A_163 n_165 c_164), (41, .bool ((r_162.length : Int) != (IntKind.i64.wrap (Int.tmod a3 400))))] ⟨rfl, rfl, rfl, rfl, rfl, rfl, rfl, trivial⟩ ?_
      obtain ⟨c_171, H⟩ := H
      have h_172 : ((r_162.length : Int) != (IntKind.i64.wrap (Int.tmod a3 400))) = false := (bne_eq_false_iff_eq.mpr (Decidable.not_not.mp c_171))
      refine CW.cf rfl h_172 ?_
      refine CW.skip ?_
      refine QW.then_n ?_
      refine CW.seq ?_
      refine CW.seq ?_
      refine CW.region ?_
      refine WL.val Wanted.none (Runs.assign rfl) ?_
      refine WL.nil ?_
      refine QW.then_n ?_
      refine CW.block ?_
      obtain ⟨k_173, H⟩ := H
      refine CW.sub [(4, .pointer (some ⟨B_1, 0, none⟩)), (6, .pointer (some ⟨B_5, 0, none⟩)), (8, .bool false), (10, .int .i64 (IntKind.i64.wrap (Int.tmod a3 400))), (11, .int .u32 (bits .and .u32 a1 16777215)), (12, .slice A_163 n_165 c_164), (14, .int .i64 0)] ⟨rfl, rfl, rfl, rfl, rfl, rfl, rfl, trivial⟩ ?_
      refine CW.loop (fun kL1 l_ w_ => ∃ (b_174 : Bool) (x_175 : Int), l_ = [(4, .pointer (some ⟨B_1, 0, none⟩)), (6, .pointer (some ⟨B_5, 0, none⟩)), (8, .bool b_174), (10, .int .i64 (IntKind.i64.wrap (Int.tmod a3 400))), (11, .int .u32 (bits .and .u32 a1 16777215)), (12, .slice A_163 n_165 c_164), (14, .int .i64 x_175)] ∧ reliquarylaw04_CipherNoughts.L1 l0 a1 l2 a3 r_162 kL1 b_174 x_175 ∧ St w w_ [.sl A_163 c_164 n_165 (iv .u8 r_162) 5 1, .sl (some ⟨B_153, 0, none⟩) n_151 n_151 (iv .u8 (List.replicate (IntKind.i64.wrap (Int.tmod a3 400)).toNat (0 : Int))) 5 1, .cells B_5 (iv .u8 l2) 25, .cells B_1 (iv .u8 l0) 23]) (k := k_173) ⟨false, 0, rfl, H, st_160⟩ (fun _ _ h => by obtain ⟨_, _, _, h, _⟩ := h; exact h.elim) ?_
      rintro kL1 l_178 w_176 ⟨b_174, x_175, rfl, H, st_177⟩
      refine CW.seq ?_
      refine CW.seq ?_
      refine CW.region ?_
      refine WL.val Wanted.none (Runs.move rfl) ?_
      refine WL.val Wanted.none (Runs.move rfl) ?_
      refine WL.val Wanted.none (Runs.lss rfl rfl rfl) ?_
      refine WL.nil ?_
      refine QW.then_n ?_
      rcases H with ⟨c_179, H⟩ | ⟨c_179, H⟩
      · have h_180 : (decide (x_175 < (IntKind.i64.wrap (Int.tmod a3 400)))) = true := (decide_eq_true c_179)
        refine CW.ct rfl h_180 ?_
        refine CW.skip ?_
        refine QW.then_n ?_
        refine CW.seq ?_
        refine CW.block ?_
        refine CW.seq ?_
        refine CW.region ?_
        refine WL.val Wanted.none (Runs.load_arr arr23 rfl (st_177.blk (i := 3) rfl) hl0) ?_
        refine WL.val Wanted.none (Runs.move rfl) ?_
        refine WL.val Wanted.none (Runs.move rfl) ?_
        refine WL.val Wanted.none (Runs.quo rfl rfl (by decide) rfl) ?_
        refine WL.val Wanted.none (Runs.conv Tryd.underlying24 ⟨_, Tryd.underlying3⟩ rfl rfl) ?_
        obtain ⟨x_181, e_182, H⟩ := H
        refine WL.val Wanted.none (Runs.add rfl rfl e_182) ?_
        refine WL.val Wanted.none (Runs.load_arr arr25 rfl (st_177.blk (i := 2) rfl) hl2) ?_
        obtain ⟨r_187, hr_183, H⟩ := H
        refine WL.call Wanted.none ent11 rfl (reliquaryref04_Block.calls w_176 l0 x_181 l2 hl0 hl2 r_187 hr_183) ?_
        rintro _ w_184 ⟨hl_188, rfl, sc_186⟩
        have st_185 : St w w_184 [.sl A_163 c_164 n_165 (iv .u8 r_162) 5 1, .sl (some ⟨B_153, 0, none⟩) n_151 n_151 (iv .u8 (List.replicate (IntKind.i64.wrap (Int.tmod a3 400)).toNat (0 : Int))) 5 1, .cells B_5 (iv .u8 l2) 25, .cells B_1 (iv .u8 l0) 23] := st_177.call sc_186
        refine ⟨_, rfl, ?_⟩
        refine WL.alloc st_185 arr27.zero ?_
        intro B_189 w_190 st_191
        replace st_191 : St w w_190 [.cells B_189 (iv .u8 (List.replicate 64 (0 : Int))) 27, .sl A_163 c_164 n_165 (iv .u8 r_162) 5 1, .sl (some ⟨B_153, 0, none⟩) n_151 n_151 (iv .u8 (List.replicate (IntKind.i64.wrap (Int.tmod a3 400)).toNat (0 : Int))) 5 1, .cells B_5 (iv .u8 l2) 25, .cells B_1 (iv .u8 l0) 23] := st_191
        refine WL.store_arr (i := 0) st_191 rfl arr27 rfl (by rw [iv_length]; exact (List.length_replicate ..)) hl_188 rfl ?_
        intro w_193 st_194
        replace st_194 : St w w_193 [.cells B_189 (iv .u8 r_187) 27, .sl A_163 c_164 n_165 (iv .u8 r_162) 5 1, .sl (some ⟨B_153, 0, none⟩) n_151 n_151 (iv .u8 (List.replicate (IntKind.i64.wrap (Int.tmod a3 400)).toNat (0 : Int))) 5 1, .cells B_5 (iv .u8 l2) 25, .cells B_1 (iv .u8 l0) 23] := st_194
        refine WL.nil ?_
        refine QW.then_n ?_
        refine CW.seq ?_
        refine CW.region ?_
        refine WL.val Wanted.none (Runs.assign rfl) ?_
        refine WL.nil ?_
        refine QW.then_n ?_
        refine CW.block ?_
        obtain ⟨k_196, H⟩ := H
        refine CW.sub [(4, .pointer (some ⟨B_1, 0, none⟩)), (6, .pointer (some ⟨B_5, 0, none⟩)), (8, .bool b_174), (10, .int .i64 (IntKind.i64.wrap (Int.tmod a3 400))), (11, .int .u32 (bits .and .u32 a1 16777215)), (12, .slice A_163 n_165 c_164), (14, .int .i64 x_175), (42, .int .i64 x_175), (43, .int .i64 (IntKind.i64.wrap (Int.tmod a3 400))), (44, .bool (decide (x_175 < (IntKind.i64.wrap (Int.tmod a3 400))))), (47, .agg (iv .u8 l0).toArray), (48, .int .u32 (bits .and .u32 a1 16777215)), (49, .int .i64 x_175), (50, .int .i64 (IntKind.i64.wrap (Int.tdiv x_175 64))), (51, .int .u32 (IntKind.u32.wrap (IntKind.i64.wrap (Int.tdiv x_175 64)))), (52, .int .u32 x_181), (53, .agg (iv .u8 l2).toArray), (54, .agg (iv .u8 r_187).toArray), (15, .pointer (some ⟨B_189, 0, none⟩)), (16, .int .i64 0)] ⟨rfl, rfl, rfl, rfl, rfl, rfl, rfl, rfl, rfl, rfl, rfl, rfl, rfl, rfl, rfl, rfl, rfl, rfl, rfl, rfl, trivial⟩ ?_
        refine CW.loop (fun kL2 l_ w_ => ∃ (b_197 : Bool) (x_198 : Int), l_ = [(4, .pointer (some ⟨B_1, 0, none⟩)), (6, .pointer (some ⟨B_5, 0, none⟩)), (8, .bool b_197), (10, .int .i64 (IntKind.i64.wrap (Int.tmod a3 400))), (11, .int .u32 (bits .and .u32 a1 16777215)), (12, .slice A_163 n_165 c_164), (14, .int .i64 x_175), (42, .int .i64 x_175), (43, .int .i64 (IntKind.i64.wrap (Int.tmod a3 400))), (44, .bool (decide (x_175 < (IntKind.i64.wrap (Int.tmod a3 400))))), (47, .agg (iv .u8 l0).toArray), (48, .int .u32 (bits .and .u32 a1 16777215)), (49, .int .i64 x_175), (50, .int .i64 (IntKind.i64.wrap (Int.tdiv x_175 64))), (51, .int .u32 (IntKind.u32.wrap (IntKind.i64.wrap (Int.tdiv x_175 64)))), (52, .int .u32 x_181), (53, .agg (iv .u8 l2).toArray), (54, .agg (iv .u8 r_187).toArray), (15, .pointer (some ⟨B_189, 0, none⟩)), (16, .int .i64 x_198)] ∧ reliquarylaw04_CipherNoughts.L2 a3 r_162 x_175 r_187 (reliquarylaw04_CipherNoughts.L1 l0 a1 l2 a3 r_162 kL1) kL2 b_197 x_198 ∧ St w w_ [.cells B_189 (iv .u8 r_187) 27, .sl A_163 c_164 n_165 (iv .u8 r_162) 5 1, .sl (some ⟨B_153, 0, none⟩) n_151 n_151 (iv .u8 (List.replicate (IntKind.i64.wrap (Int.tmod a3 400)).toNat (0 : Int))) 5 1, .cells B_5 (iv .u8 l2) 25, .cells B_1 (iv .u8 l0) 23]) (k := k_196) ⟨b_174, 0, rfl, H, st_194⟩ (fun _ _ h => by obtain ⟨_, _, _, h, _⟩ := h; exact h.elim) ?_
        rintro kL2 l_201 w_199 ⟨b_197, x_198, rfl, H, st_200⟩
        refine CW.seq ?_
        refine CW.seq ?_
        refine CW.region ?_
        refine WL.val Wanted.none (Runs.move rfl) ?_
        refine WL.val Wanted.none (Runs.lss rfl rfl rfl) ?_
        refine WL.val Wanted.none (Runs.move rfl) ?_
        rcases H with ⟨c_202, H⟩ | ⟨c_202, H⟩
        · have h_203 : (decide (x_198 < 64)) = true := (decide_eq_true c_202)
          refine WL.on ?_ ?_; exact Wanted.guard (dj := 57) (by rfl) (evb (by rfl) h_203) (by rfl)
          refine WL.val Wanted.none (Runs.move rfl) ?_
          refine WL.on ?_ ?_; exact Wanted.guard (dj := 57) (by rfl) (evb (by rfl) h_203) (by rfl)
          refine WL.val Wanted.none (Runs.move rfl) ?_
          refine WL.on ?_ ?_; exact Wanted.guard (dj := 57) (by rfl) (evb (by rfl) h_203) (by rfl)
          refine WL.val Wanted.none (Runs.add rfl rfl rfl) ?_
          refine WL.on ?_ ?_; exact Wanted.guard (dj := 57) (by rfl) (evb (by rfl) h_203) (by rfl)
          refine WL.val Wanted.none (Runs.move rfl) ?_
          refine WL.on ?_ ?_; exact Wanted.guard (dj := 57) (by rfl) (evb (by rfl) h_203) (by rfl)
          refine WL.val Wanted.none (Runs.lss rfl rfl rfl) ?_
          refine WL.val Wanted.none (Runs.pick_t (evb rfl h_203) rfl) ?_
          refine WL.nil ?_
          refine QW.then_n ?_
          rcases H with ⟨c_204, H⟩ | ⟨c_204, H⟩
          · have h_205 : (decide ((IntKind.i64.wrap (x_175 + x_198)) < (IntKind.i64.wrap (Int.tmod a3 400)))) = true := (decide_eq_true c_204)
            refine CW.ct rfl h_205 ?_
            refine CW.skip ?_
            refine QW.then_n ?_
            refine CW.seq ?_
            refine CW.block ?_
            refine CW.seq ?_
            refine CW.region_qa wide (by kernel_rfl) st_200 ?_
            refine HL.val Wanted.none (fun wq sq => (Runs.move rfl)) ?_
            refine HL.val Wanted.none (fun wq sq => (Runs.move rfl)) ?_
            refine HL.val Wanted.none (fun wq sq => (Runs.move rfl)) ?_
            refine HL.val Wanted.none (fun wq sq => (Runs.add rfl rfl rfl)) ?_
            obtain ⟨⟨p_206, q_207⟩, H⟩ := H
            obtain ⟨a_208, e_209⟩ := (st_200.src_sl (k := 1) rfl).addr_iv ((IntKind.i64.wrap (x_175 + x_198)).toNat) (by omega)
            refine HL.val Wanted.none (fun wq sq => (Runs.indexAddr Tryd.underlying31 cells5 (by decide) rfl e_209 rfl p_206 (by rw [hn_166]; exact q_207) (o := (IntKind.i64.wrap (x_175 + x_198)).toNat) (by first | rfl | omega))) ?_
            refine HL.val Wanted.none (fun wq sq => (Runs.load nagg5 rfl ((sq.src_sl (k := 1) rfl).cell_iv e_209 (by omega)))) ?_
            refine HL.val Wanted.none (fun wq sq => (Runs.move rfl)) ?_
            obtain ⟨⟨p_210, q_211⟩, H⟩ := H
            refine HL.val Wanted.none (fun wq sq => (Runs.indexAddr_blk arr27 rfl rfl p_210 q_211 (o := (x_198).toNat) (by first | rfl | omega))) ?_
            refine HL.val Wanted.none (fun wq sq => (Runs.load nagg5 rfl (sq.cell_iv (i := 0) rfl (by have := hl_188; omega)))) ?_
            refine HL.val Wanted.none (fun wq sq => (Runs.neq rfl rfl rfl)) ?_
            refine HL.nil (fun w_212 st_213 => ?_)
            refine WL.nil ?_
            refine QW.then_n ?_
            obtain ⟨c_214, H⟩ := H
            have h_215 : ((gn r_162 ((IntKind.i64.wrap (x_175 + x_198)).toNat)) != (gn r_187 ((x_198).toNat))) = false := (bne_eq_false_iff_eq.mpr (Decidable.not_not.mp c_214))
            refine CW.cf rfl h_215 ?_
            refine CW.skip ?_
            refine QW.blk_n ?_
            refine QW.then_n ?_
            refine CW.region ?_
            refine WL.val Wanted.none (Runs.move rfl) ?_
            refine WL.val Wanted.none (Runs.add rfl rfl rfl) ?_
            refine WL.val Wanted.none (Runs.assign rfl) ?_
            refine WL.nil ?_
            exact QW.at [(4, .pointer (some ⟨B_1, 0, none⟩)), (6, .pointer (some ⟨B_5, 0, none⟩)), (8, .bool b_197), (10, .int .i64 (IntKind.i64.wrap (Int.tmod a3 400))), (11, .int .u32 (bits .and .u32 a1 16777215)), (12, .slice A_163 n_165 c_164), (14, .int .i64 x_175), (42, .int .i64 x_175), (43, .int .i64 (IntKind.i64.wrap (Int.tmod a3 400))), (44, .bool (decide (x_175 < (IntKind.i64.wrap (Int.tmod a3 400))))), (47, .agg (iv .u8 l0).toArray), (48, .int .u32 (bits .and .u32 a1 16777215)), (49, .int .i64 x_175), (50, .int .i64 (IntKind.i64.wrap (Int.tdiv x_175 64))), (51, .int .u32 (IntKind.u32.wrap (IntKind.i64.wrap (Int.tdiv x_175 64)))), (52, .int .u32 x_181), (53, .agg (iv .u8 l2).toArray), (54, .agg (iv .u8 r_187).toArray), (15, .pointer (some ⟨B_189, 0, none⟩)), (16, .int .i64 (IntKind.i64.wrap (x_198 + 1)))] ⟨rfl, rfl, rfl, rfl, rfl, rfl, rfl, rfl, rfl, rfl, rfl, rfl, rfl, rfl, rfl, rfl, rfl, rfl, rfl, rfl, trivial⟩ ⟨b_197, IntKind.i64.wrap (x_198 + 1), rfl, H, st_213⟩
          · have h_205 : (decide ((IntKind.i64.wrap (x_175 + x_198)) < (IntKind.i64.wrap (Int.tmod a3 400)))) = false := (decide_eq_false c_204)
            refine CW.cf rfl h_205 ?_
            refine CW.exit ?_
            refine QW.then_x ?_
            refine QW.then_x ?_
            refine QW.blk_x ?_
            refine QW.blk_n ?_
            refine QW.then_n ?_
            refine CW.region ?_
            refine WL.val Wanted.none (Runs.move rfl) ?_
            refine WL.val Wanted.none (Runs.add rfl rfl rfl) ?_
            refine WL.val Wanted.none (Runs.assign rfl) ?_
            refine WL.nil ?_
            have st_200' := st_200.pick [1, 2, 3, 4] (by decide)
            exact QW.at [(4, .pointer (some ⟨B_1, 0, none⟩)), (6, .pointer (some ⟨B_5, 0, none⟩)), (8, .bool b_197), (10, .int .i64 (IntKind.i64.wrap (Int.tmod a3 400))), (11, .int .u32 (bits .and .u32 a1 16777215)), (12, .slice A_163 n_165 c_164), (14, .int .i64 (IntKind.i64.wrap (x_175 + 64)))] ⟨rfl, rfl, rfl, rfl, rfl, rfl, rfl, trivial⟩ ⟨b_197, IntKind.i64.wrap (x_175 + 64), rfl, H, st_200'⟩
        · have h_203 : (decide (x_198 < 64)) = false := (decide_eq_false c_202)
          refine WL.off ?_ ?_; exact Wanted.guard (dj := 57) (by rfl) (evb (by rfl) h_203) (by rfl)
          refine WL.off ?_ ?_; exact Wanted.guard (dj := 57) (by rfl) (evb (by rfl) h_203) (by rfl)
          refine WL.off ?_ ?_; exact Wanted.guard (dj := 57) (by rfl) (evb (by rfl) h_203) (by rfl)
          refine WL.off ?_ ?_; exact Wanted.guard (dj := 57) (by rfl) (evb (by rfl) h_203) (by rfl)
          refine WL.off ?_ ?_; exact Wanted.guard (dj := 57) (by rfl) (evb (by rfl) h_203) (by rfl)
          refine WL.val Wanted.none (Runs.pick_f (evb rfl h_203) rfl) ?_
          refine WL.nil ?_
          refine QW.then_n ?_
          refine CW.cf rfl rfl ?_
          refine CW.exit ?_
          refine QW.then_x ?_
          refine QW.then_x ?_
          refine QW.blk_x ?_
          refine QW.blk_n ?_
          refine QW.then_n ?_
          refine CW.region ?_
          refine WL.val Wanted.none (Runs.move rfl) ?_
          refine WL.val Wanted.none (Runs.add rfl rfl rfl) ?_
          refine WL.val Wanted.none (Runs.assign rfl) ?_
          refine WL.nil ?_
          have st_200' := st_200.pick [1, 2, 3, 4] (by decide)
          exact QW.at [(4, .pointer (some ⟨B_1, 0, none⟩)), (6, .pointer (some ⟨B_5, 0, none⟩)), (8, .bool b_197), (10, .int .i64 (IntKind.i64.wrap (Int.tmod a3 400))), (11, .int .u32 (bits .and .u32 a1 16777215)), (12, .slice A_163 n_165 c_164), (14, .int .i64 (IntKind.i64.wrap (x_175 + 64)))] ⟨rfl, rfl, rfl, rfl, rfl, rfl, rfl, trivial⟩ ⟨b_197, IntKind.i64.wrap (x_175 + 64), rfl, H, st_200'⟩
      · have h_180 : (decide (x_175 < (IntKind.i64.wrap (Int.tmod a3 400)))) = false := (decide_eq_false c_179)
        refine CW.cf rfl h_180 ?_
        refine CW.exit ?_
        refine QW.then_x ?_
        refine QW.then_x ?_
        refine QW.blk_x ?_
        refine QW.then_n ?_
        refine CW.sub [(8, .bool b_174)] ⟨rfl, trivial⟩ ?_
        refine CW.seq ?_
        refine CW.region ?_
        refine WL.val Wanted.none (Runs.assign rfl) ?_
        refine WL.nil ?_
        refine QW.then_n ?_
        refine CW.ret ?_
        exact QW.ret1 rfl rfl ⟨rfl, st_177.ext⟩
    · obtain ⟨⟨p_216, q_217⟩, H⟩ := H
      obtain ⟨n_218, e_219⟩ : ∃ n_ : Nat, n_ = (IntKind.i64.wrap (Int.tmod a3 400)).toNat := ⟨_, rfl⟩
      refine WL.make st_14 Tryd.underlying31 elem5 rfl rfl p_216 q_217 (by decide) (N := n_218) e_219 ?_
      intro B_220 w_221 st_222
      replace st_222 : St w w_221 [.sl (some ⟨B_220, 0, none⟩) n_218 n_218 (iv .u8 (List.replicate (IntKind.i64.wrap (Int.tmod a3 400)).toNat (0 : Int))) 5 1, .cells B_5 (iv .u8 l2) 25, .cells B_1 (iv .u8 l0) 23] := by rw [← e_219]; rw [iv_replicate] at st_222; exact st_222
      have hn_223 : n_218 = (List.replicate (IntKind.i64.wrap (Int.tmod a3 400)).toNat (0 : Int)).length := by rw [List.length_replicate]; exact e_219
      refine WL.nil ?_
      refine AW.back ?_
      refine AW.step 0 rfl (by kernel_rfl) ?_
      refine WL.val Wanted.none (Runs.load_arr arr23 rfl (st_222.blk (i := 2) rfl) hl0) ?_
      refine WL.nil ?_
      refine AW.back ?_
      refine AW.step 5 rfl (by kernel_rfl) ?_
      obtain ⟨r_229, r_235, hr_225, H⟩ := H
      refine WL.call Wanted.none ent13 rfl (cipher_Crypt.calls w_221 l0 (bits .and .u32 a1 16777215) l2 (List.replicate (IntKind.i64.wrap (Int.tmod a3 400)).toNat (0 : Int)) (some ⟨B_220, 0, none⟩) n_218 n_218 (hG0.ext st_222) hl0 hl2 (st_222.src_sl (k := 0) rfl) (hn_223) (st_222.cap (i := 0) rfl) r_229 r_235 hr_225) ?_
      rintro _ w_226 ⟨A_230, c_231, n_232, hn_233, rfl, sc_228⟩
      have st_227 : St w w_226 [.sl A_230 c_231 n_232 (iv .u8 r_229) 5 1, .sl (some ⟨B_220, 0, none⟩) n_218 n_218 (iv .u8 (List.replicate (IntKind.i64.wrap (Int.tmod a3 400)).toNat (0 : Int))) 5 1, .cells B_5 (iv .u8 l2) 25, .cells B_1 (iv .u8 l0) 23] := st_222.call sc_228
      refine ⟨_, rfl, ?_⟩
      refine WL.nil ?_
      refine AW.back ?_
      refine AW.take 6 rfl (by kernel_rfl) (by kernel_rfl) (by kernel_rfl) Wanted.none (fun _ => (Runs.move rfl)) ?_
      refine AW.take 7 rfl (by kernel_rfl) (by kernel_rfl) (by kernel_rfl) Wanted.none (fun _ => (Runs.extract rfl rfl)) ?_
      refine AW.take 8 rfl (by kernel_rfl) (by kernel_rfl) (by kernel_rfl) Wanted.none (fun _ => (Runs.extract rfl rfl)) ?_
      refine AW.take 9 rfl (by kernel_rfl) (by kernel_rfl) (by kernel_rfl) Wanted.none (fun _ => (Runs.assign rfl)) ?_
      refine AW.take 10 rfl (by kernel_rfl) (by kernel_rfl) (by kernel_rfl) Wanted.none (fun _ => (Runs.assign rfl)) ?_
      refine AW.done (by kernel_rfl) ?_
      refine QW.then_n ?_
      refine CW.sub [(4, .pointer (some ⟨B_1, 0, none⟩)), (6, .pointer (some ⟨B_5, 0, none⟩)), (8, .bool false), (10, .int .i64 (IntKind.i64.wrap (Int.tmod a3 400))), (11, .int .u32 (bits .and .u32 a1 16777215)), (12, .slice A_230 n_232 c_231), (13, .int .i64 r_235)] ⟨rfl, rfl, rfl, rfl, rfl, rfl, rfl, trivial⟩ ?_
      refine CW.seq ?_
      refine CW.seq ?_
      refine CW.region ?_
      refine WL.val Wanted.none (Runs.move rfl) ?_
      refine WL.val Wanted.none (Runs.neq rfl rfl rfl) ?_
      refine WL.val Wanted.none (Runs.move rfl) ?_
      obtain ⟨c_236, H⟩ := H
      have h_237 : (r_235 != 0) = false := (bne_eq_false_iff_eq.mpr (Decidable.not_not.mp c_236))
      refine WL.on ?_ ?_; exact Wanted.guard (dj := 36) (by rfl) (evb (by rfl) h_237) (by rfl)
      refine WL.val Wanted.none (Runs.move rfl) ?_
      refine WL.on ?_ ?_; exact Wanted.guard (dj := 36) (by rfl) (evb (by rfl) h_237) (by rfl)
      refine WL.val Wanted.none (Runs.len_sl Tryd.underlying31 rfl (by rw [hn_233])) ?_
      refine WL.on ?_ ?_; exact Wanted.guard (dj := 36) (by rfl) (evb (by rfl) h_237) (by rfl)
      refine WL.val Wanted.none (Runs.move rfl) ?_
      refine WL.on ?_ ?_; exact Wanted.guard (dj := 36) (by rfl) (evb (by rfl) h_237) (by rfl)
      refine WL.val Wanted.none (Runs.neq rfl rfl rfl) ?_
      refine WL.val Wanted.none (Runs.pick_f (evb rfl h_237) rfl) ?_
      refine WL.nil ?_
      refine QW.then_n ?_
      refine CW.sub [(4, .pointer (some ⟨B_1, 0, none⟩)), (6, .pointer (some ⟨B_5, 0, none⟩)), (8, .bool false), (10, .int .i64 (IntKind.i64.wrap (Int.tmod a3 400))), (11, .int .u32 (bits .and .u32 a1 16777215)), (12, .slice A_230 n_232 c_231), (41, .bool ((r_229.length : Int) != (IntKind.i64.wrap (Int.tmod a3 400))))] ⟨rfl, rfl, rfl, rfl, rfl, rfl, rfl, trivial⟩ ?_
      obtain ⟨c_238, H⟩ := H
      have h_239 : ((r_229.length : Int) != (IntKind.i64.wrap (Int.tmod a3 400))) = false := (bne_eq_false_iff_eq.mpr (Decidable.not_not.mp c_238))
      refine CW.cf rfl h_239 ?_
      refine CW.skip ?_
      refine QW.then_n ?_
      refine CW.seq ?_
      refine CW.seq ?_
      refine CW.region ?_
      refine WL.val Wanted.none (Runs.assign rfl) ?_
      refine WL.nil ?_
      refine QW.then_n ?_
      refine CW.block ?_
      obtain ⟨k_240, H⟩ := H
      refine CW.sub [(4, .pointer (some ⟨B_1, 0, none⟩)), (6, .pointer (some ⟨B_5, 0, none⟩)), (8, .bool false), (10, .int .i64 (IntKind.i64.wrap (Int.tmod a3 400))), (11, .int .u32 (bits .and .u32 a1 16777215)), (12, .slice A_230 n_232 c_231), (14, .int .i64 0)] ⟨rfl, rfl, rfl, rfl, rfl, rfl, rfl, trivial⟩ ?_
      refine CW.loop (fun kL1 l_ w_ => ∃ (b_241 : Bool) (x_242 : Int), l_ = [(4, .pointer (some ⟨B_1, 0, none⟩)), (6, .pointer (some ⟨B_5, 0, none⟩)), (8, .bool b_241), (10, .int .i64 (IntKind.i64.wrap (Int.tmod a3 400))), (11, .int .u32 (bits .and .u32 a1 16777215)), (12, .slice A_230 n_232 c_231), (14, .int .i64 x_242)] ∧ reliquarylaw04_CipherNoughts.L1 l0 a1 l2 a3 r_229 kL1 b_241 x_242 ∧ St w w_ [.sl A_230 c_231 n_232 (iv .u8 r_229) 5 1, .sl (some ⟨B_220, 0, none⟩) n_218 n_218 (iv .u8 (List.replicate (IntKind.i64.wrap (Int.tmod a3 400)).toNat (0 : Int))) 5 1, .cells B_5 (iv .u8 l2) 25, .cells B_1 (iv .u8 l0) 23]) (k := k_240) ⟨false, 0, rfl, H, st_227⟩ (fun _ _ h => by obtain ⟨_, _, _, h, _⟩ := h; exact h.elim) ?_
      rintro kL1 l_245 w_243 ⟨b_241, x_242, rfl, H, st_244⟩
      refine CW.seq ?_
      refine CW.seq ?_
      refine CW.region ?_
      refine WL.val Wanted.none (Runs.move rfl) ?_
      refine WL.val Wanted.none (Runs.move rfl) ?_
      refine WL.val Wanted.none (Runs.lss rfl rfl rfl) ?_
      refine WL.nil ?_
      refine QW.then_n ?_
      rcases H with ⟨c_246, H⟩ | ⟨c_246, H⟩
      · have h_247 : (decide (x_242 < (IntKind.i64.wrap (Int.tmod a3 400)))) = true := (decide_eq_true c_246)
        refine CW.ct rfl h_247 ?_
        refine CW.skip ?_
        refine QW.then_n ?_
        refine CW.seq ?_
        refine CW.block ?_
        refine CW.seq ?_
        refine CW.region ?_
        refine WL.val Wanted.none (Runs.load_arr arr23 rfl (st_244.blk (i := 3) rfl) hl0) ?_
        refine WL.val Wanted.none (Runs.move rfl) ?_
        refine WL.val Wanted.none (Runs.move rfl) ?_
        refine WL.val Wanted.none (Runs.quo rfl rfl (by decide) rfl) ?_
        refine WL.val Wanted.none (Runs.conv Tryd.underlying24 ⟨_, Tryd.underlying3⟩ rfl rfl) ?_
        obtain ⟨x_248, e_249, H⟩ := H
        refine WL.val Wanted.none (Runs.add rfl rfl e_249) ?_
        refine WL.val Wanted.none (Runs.load_arr arr25 rfl (st_244.blk (i := 2) rfl) hl2) ?_
        obtain ⟨r_254, hr_250, H⟩ := H
        refine WL.call Wanted.none ent11 rfl (reliquaryref04_Block.calls w_243 l0 x_248 l2 hl0 hl2 r_254 hr_250) ?_
        rintro _ w_251 ⟨hl_255, rfl, sc_253⟩
        have st_252 : St w w_251 [.sl A_230 c_231 n_232 (iv .u8 r_229) 5 1, .sl (some ⟨B_220, 0, none⟩) n_218 n_218 (iv .u8 (List.replicate (IntKind.i64.wrap (Int.tmod a3 400)).toNat (0 : Int))) 5 1, .cells B_5 (iv .u8 l2) 25, .cells B_1 (iv .u8 l0) 23] := st_244.call sc_253
        refine ⟨_, rfl, ?_⟩
        refine WL.alloc st_252 arr27.zero ?_
        intro B_256 w_257 st_258
        replace st_258 : St w w_257 [.cells B_256 (iv .u8 (List.replicate 64 (0 : Int))) 27, .sl A_230 c_231 n_232 (iv .u8 r_229) 5 1, .sl (some ⟨B_220, 0, none⟩) n_218 n_218 (iv .u8 (List.replicate (IntKind.i64.wrap (Int.tmod a3 400)).toNat (0 : Int))) 5 1, .cells B_5 (iv .u8 l2) 25, .cells B_1 (iv .u8 l0) 23] := st_258
        refine WL.store_arr (i := 0) st_258 rfl arr27 rfl (by rw [iv_length]; exact (List.length_replicate ..)) hl_255 rfl ?_
        intro w_260 st_261
        replace st_261 : St w w_260 [.cells B_256 (iv .u8 r_254) 27, .sl A_230 c_231 n_232 (iv .u8 r_229) 5 1, .sl (some ⟨B_220, 0, none⟩) n_218 n_218 (iv .u8 (List.replicate (IntKind.i64.wrap (Int.tmod a3 400)).toNat (0 : Int))) 5 1, .cells B_5 (iv .u8 l2) 25, .cells B_1 (iv .u8 l0) 23] := st_261
        refine WL.nil ?_
        refine QW.then_n ?_
        refine CW.seq ?_
        refine CW.region ?_
        refine WL.val Wanted.none (Runs.assign rfl) ?_
        refine WL.nil ?_
        refine QW.then_n ?_
        refine CW.block ?_
        obtain ⟨k_263, H⟩ := H
        refine CW.sub [(4, .pointer (some ⟨B_1, 0, none⟩)), (6, .pointer (some ⟨B_5, 0, none⟩)), (8, .bool b_241), (10, .int .i64 (IntKind.i64.wrap (Int.tmod a3 400))), (11, .int .u32 (bits .and .u32 a1 16777215)), (12, .slice A_230 n_232 c_231), (14, .int .i64 x_242), (42, .int .i64 x_242), (43, .int .i64 (IntKind.i64.wrap (Int.tmod a3 400))), (44, .bool (decide (x_242 < (IntKind.i64.wrap (Int.tmod a3 400))))), (47, .agg (iv .u8 l0).toArray), (48, .int .u32 (bits .and .u32 a1 16777215)), (49, .int .i64 x_242), (50, .int .i64 (IntKind.i64.wrap (Int.tdiv x_242 64))), (51, .int .u32 (IntKind.u32.wrap (IntKind.i64.wrap (Int.tdiv x_242 64)))), (52, .int .u32 x_248), (53, .agg (iv .u8 l2).toArray), (54, .agg (iv .u8 r_254).toArray), (15, .pointer (some ⟨B_256, 0, none⟩)), (16, .int .i64 0)] ⟨rfl, rfl, rfl, rfl, rfl, rfl, rfl, rfl, rfl, rfl, rfl, rfl, rfl, rfl, rfl, rfl, rfl, rfl, rfl, rfl, trivial⟩ ?_
        refine CW.loop (fun kL2 l_ w_ => ∃ (b_264 : Bool) (x_265 : Int), l_ = [(4, .pointer (some ⟨B_1, 0, none⟩)), (6, .pointer (some ⟨B_5, 0, none⟩)), (8, .bool b_264), (10, .int .i64 (IntKind.i64.wrap (Int.tmod a3 400))), (11, .int .u32 (bits .and .u32 a1 16777215)), (12, .slice A_230 n_232 c_231), (14, .int .i64 x_242), (42, .int .i64 x_242), (43, .int .i64 (IntKind.i64.wrap (Int.tmod a3 400))), (44, .bool (decide (x_242 < (IntKind.i64.wrap (Int.tmod a3 400))))), (47, .agg (iv .u8 l0).toArray), (48, .int .u32 (bits .and .u32 a1 16777215)), (49, .int .i64 x_242), (50, .int .i64 (IntKind.i64.wrap (Int.tdiv x_242 64))), (51, .int .u32 (IntKind.u32.wrap (IntKind.i64.wrap (Int.tdiv x_242 64)))), (52, .int .u32 x_248), (53, .agg (iv .u8 l2).toArray), (54, .agg (iv .u8 r_254).toArray), (15, .pointer (some ⟨B_256, 0, none⟩)), (16, .int .i64 x_265)] ∧ reliquarylaw04_CipherNoughts.L2 a3 r_229 x_242 r_254 (reliquarylaw04_CipherNoughts.L1 l0 a1 l2 a3 r_229 kL1) kL2 b_264 x_265 ∧ St w w_ [.cells B_256 (iv .u8 r_254) 27, .sl A_230 c_231 n_232 (iv .u8 r_229) 5 1, .sl (some ⟨B_220, 0, none⟩) n_218 n_218 (iv .u8 (List.replicate (IntKind.i64.wrap (Int.tmod a3 400)).toNat (0 : Int))) 5 1, .cells B_5 (iv .u8 l2) 25, .cells B_1 (iv .u8 l0) 23]) (k := k_263) ⟨b_241, 0, rfl, H, st_261⟩ (fun _ _ h => by obtain ⟨_, _, _, h, _⟩ := h; exact h.elim) ?_
        rintro kL2 l_268 w_266 ⟨b_264, x_265, rfl, H, st_267⟩
        refine CW.seq ?_
        refine CW.seq ?_
        refine CW.region ?_
        refine WL.val Wanted.none (Runs.move rfl) ?_
        refine WL.val Wanted.none (Runs.lss rfl rfl rfl) ?_
        refine WL.val Wanted.none (Runs.move rfl) ?_
        rcases H with ⟨c_269, H⟩ | ⟨c_269, H⟩
        · have h_270 : (decide (x_265 < 64)) = true := (decide_eq_true c_269)
          refine WL.on ?_ ?_; exact Wanted.guard (dj := 57) (by rfl) (evb (by rfl) h_270) (by rfl)
          refine WL.val Wanted.none (Runs.move rfl) ?_
          refine WL.on ?_ ?_; exact Wanted.guard (dj := 57) (by rfl) (evb (by rfl) h_270) (by rfl)
          refine WL.val Wanted.none (Runs.move rfl) ?_
          refine WL.on ?_ ?_; exact Wanted.guard (dj := 57) (by rfl) (evb (by rfl) h_270) (by rfl)
          refine WL.val Wanted.none (Runs.add rfl rfl rfl) ?_
          refine WL.on ?_ ?_; exact Wanted.guard (dj := 57) (by rfl) (evb (by rfl) h_270) (by rfl)
          refine WL.val Wanted.none (Runs.move rfl) ?_
          refine WL.on ?_ ?_; exact Wanted.guard (dj := 57) (by rfl) (evb (by rfl) h_270) (by rfl)
          refine WL.val Wanted.none (Runs.lss rfl rfl rfl) ?_
          refine WL.val Wanted.none (Runs.pick_t (evb rfl h_270) rfl) ?_
          refine WL.nil ?_
          refine QW.then_n ?_
          rcases H with ⟨c_271, H⟩ | ⟨c_271, H⟩
          · have h_272 : (decide ((IntKind.i64.wrap (x_242 + x_265)) < (IntKind.i64.wrap (Int.tmod a3 400)))) = true := (decide_eq_true c_271)
            refine CW.ct rfl h_272 ?_
            refine CW.skip ?_
            refine QW.then_n ?_
            refine CW.seq ?_
            refine CW.block ?_
            refine CW.seq ?_
            refine CW.region_qa wide (by kernel_rfl) st_267 ?_
            refine HL.val Wanted.none (fun wq sq => (Runs.move rfl)) ?_
            refine HL.val Wanted.none (fun wq sq => (Runs.move rfl)) ?_
            refine HL.val Wanted.none (fun wq sq => (Runs.move rfl)) ?_
            refine HL.val Wanted.none (fun wq sq => (Runs.add rfl rfl rfl)) ?_
            obtain ⟨⟨p_273, q_274⟩, H⟩ := H
            obtain ⟨a_275, e_276⟩ := (st_267.src_sl (k := 1) rfl).addr_iv ((IntKind.i64.wrap (x_242 + x_265)).toNat) (by omega)
            refine HL.val Wanted.none (fun wq sq => (Runs.indexAddr Tryd.underlying31 cells5 (by decide) rfl e_276 rfl p_273 (by rw [hn_233]; exact q_274) (o := (IntKind.i64.wrap (x_242 + x_265)).toNat) (by first | rfl | omega))) ?_
            refine HL.val Wanted.none (fun wq sq => (Runs.load nagg5 rfl ((sq.src_sl (k := 1) rfl).cell_iv e_276 (by omega)))) ?_
            refine HL.val Wanted.none (fun wq sq => (Runs.move rfl)) ?_
            obtain ⟨⟨p_277, q_278⟩, H⟩ := H
            refine HL.val Wanted.none (fun wq sq => (Runs.indexAddr_blk arr27 rfl rfl p_277 q_278 (o := (x_265).toNat) (by first | rfl | omega))) ?_
            refine HL.val Wanted.none (fun wq sq => (Runs.load nagg5 rfl (sq.cell_iv (i := 0) rfl (by have := hl_255; omega)))) ?_
            refine HL.val Wanted.none (fun wq sq => (Runs.neq rfl rfl rfl)) ?_
            refine HL.nil (fun w_279 st_280 => ?_)
            refine WL.nil ?_
            refine QW.then_n ?_
            obtain ⟨c_281, H⟩ := H
            have h_282 : ((gn r_229 ((IntKind.i64.wrap (x_242 + x_265)).toNat)) != (gn r_254 ((x_265).toNat))) = false := (bne_eq_false_iff_eq.mpr (Decidable.not_not.mp c_281))
            refine CW.cf rfl h_282 ?_
            refine CW.skip ?_
            refine QW.blk_n ?_
            refine QW.then_n ?_
            refine CW.region ?_
            refine WL.val Wanted.none (Runs.move rfl) ?_
            refine WL.val Wanted.none (Runs.add rfl rfl rfl) ?_
            refine WL.val Wanted.none (Runs.assign rfl) ?_
            refine WL.nil ?_
            exact QW.at [(4, .pointer (some ⟨B_1, 0, none⟩)), (6, .pointer (some ⟨B_5, 0, none⟩)), (8, .bool b_264), (10, .int .i64 (IntKind.i64.wrap (Int.tmod a3 400))), (11, .int .u32 (bits .and .u32 a1 16777215)), (12, .slice A_230 n_232 c_231), (14, .int .i64 x_242), (42, .int .i64 x_242), (43, .int .i64 (IntKind.i64.wrap (Int.tmod a3 400))), (44, .bool (decide (x_242 < (IntKind.i64.wrap (Int.tmod a3 400))))), (47, .agg (iv .u8 l0).toArray), (48, .int .u32 (bits .and .u32 a1 16777215)), (49, .int .i64 x_242), (50, .int .i64 (IntKind.i64.wrap (Int.tdiv x_242 64))), (51, .int .u32 (IntKind.u32.wrap (IntKind.i64.wrap (Int.tdiv x_242 64)))), (52, .int .u32 x_248), (53, .agg (iv .u8 l2).toArray), (54, .agg (iv .u8 r_254).toArray), (15, .pointer (some ⟨B_256, 0, none⟩)), (16, .int .i64 (IntKind.i64.wrap (x_265 + 1)))] ⟨rfl, rfl, rfl, rfl, rfl, rfl, rfl, rfl, rfl, rfl, rfl, rfl, rfl, rfl, rfl, rfl, rfl, rfl, rfl, rfl, trivial⟩ ⟨b_264, IntKind.i64.wrap (x_265 + 1), rfl, H, st_280⟩
          · have h_272 : (decide ((IntKind.i64.wrap (x_242 + x_265)) < (IntKind.i64.wrap (Int.tmod a3 400)))) = false := (decide_eq_false c_271)
            refine CW.cf rfl h_272 ?_
            refine CW.exit ?_
            refine QW.then_x ?_
            refine QW.then_x ?_
            refine QW.blk_x ?_
            refine QW.blk_n ?_
            refine QW.then_n ?_
            refine CW.region ?_
            refine WL.val Wanted.none (Runs.move rfl) ?_
            refine WL.val Wanted.none (Runs.add rfl rfl rfl) ?_
            refine WL.val Wanted.none (Runs.assign rfl) ?_
            refine WL.nil ?_
            have st_267' := st_267.pick [1, 2, 3, 4] (by decide)
            exact QW.at [(4, .pointer (some ⟨B_1, 0, none⟩)), (6, .pointer (some ⟨B_5, 0, none⟩)), (8, .bool b_264), (10, .int .i64 (IntKind.i64.wrap (Int.tmod a3 400))), (11, .int .u32 (bits .and .u32 a1 16777215)), (12, .slice A_230 n_232 c_231), (14, .int .i64 (IntKind.i64.wrap (x_242 + 64)))] ⟨rfl, rfl, rfl, rfl, rfl, rfl, rfl, trivial⟩ ⟨b_264, IntKind.i64.wrap (x_242 + 64), rfl, H, st_267'⟩
        · have h_270 : (decide (x_265 < 64)) = false := (decide_eq_false c_269)
          refine WL.off ?_ ?_; exact Wanted.guard (dj := 57) (by rfl) (evb (by rfl) h_270) (by rfl)
          refine WL.off ?_ ?_; exact Wanted.guard (dj := 57) (by rfl) (evb (by rfl) h_270) (by rfl)
          refine WL.off ?_ ?_; exact Wanted.guard (dj := 57) (by rfl) (evb (by rfl) h_270) (by rfl)
          refine WL.off ?_ ?_; exact Wanted.guard (dj := 57) (by rfl) (evb (by rfl) h_270) (by rfl)
          refine WL.off ?_ ?_; exact Wanted.guard (dj := 57) (by rfl) (evb (by rfl) h_270) (by rfl)
          refine WL.val Wanted.none (Runs.pick_f (evb rfl h_270) rfl) ?_
          refine WL.nil ?_
          refine QW.then_n ?_
          refine CW.cf rfl rfl ?_
          refine CW.exit ?_
          refine QW.then_x ?_
          refine QW.then_x ?_
          refine QW.blk_x ?_
          refine QW.blk_n ?_
          refine QW.then_n ?_
          refine CW.region ?_
          refine WL.val Wanted.none (Runs.move rfl) ?_
          refine WL.val Wanted.none (Runs.add rfl rfl rfl) ?_
          refine WL.val Wanted.none (Runs.assign rfl) ?_
          refine WL.nil ?_
          have st_267' := st_267.pick [1, 2, 3, 4] (by decide)
          exact QW.at [(4, .pointer (some ⟨B_1, 0, none⟩)), (6, .pointer (some ⟨B_5, 0, none⟩)), (8, .bool b_264), (10, .int .i64 (IntKind.i64.wrap (Int.tmod a3 400))), (11, .int .u32 (bits .and .u32 a1 16777215)), (12, .slice A_230 n_232 c_231), (14, .int .i64 (IntKind.i64.wrap (x_242 + 64)))] ⟨rfl, rfl, rfl, rfl, rfl, rfl, rfl, trivial⟩ ⟨b_264, IntKind.i64.wrap (x_242 + 64), rfl, H, st_267'⟩
      · have h_247 : (decide (x_242 < (IntKind.i64.wrap (Int.tmod a3 400)))) = false := (decide_eq_false c_246)
        refine CW.cf rfl h_247 ?_
        refine CW.exit ?_
        refine QW.then_x ?_
        refine QW.then_x ?_
        refine QW.blk_x ?_
        refine QW.then_n ?_
        refine CW.sub [(8, .bool b_241)] ⟨rfl, trivial⟩ ?_
        refine CW.seq ?_
        refine CW.region ?_
        refine WL.val Wanted.none (Runs.assign rfl) ?_
        refine WL.nil ?_
        refine QW.then_n ?_
        refine CW.ret ?_
        exact QW.ret1 rfl rfl ⟨rfl, st_244.ext⟩
  · obtain ⟨⟨p_283, q_284⟩, H⟩ := H
    obtain ⟨n_285, e_286⟩ : ∃ n_ : Nat, n_ = (IntKind.i64.wrap (Int.tmod a3 400)).toNat := ⟨_, rfl⟩
    refine WL.make st_14 Tryd.underlying31 elem5 rfl rfl p_283 q_284 (by decide) (N := n_285) e_286 ?_
    intro B_287 w_288 st_289
    replace st_289 : St w w_288 [.sl (some ⟨B_287, 0, none⟩) n_285 n_285 (iv .u8 (List.replicate (IntKind.i64.wrap (Int.tmod a3 400)).toNat (0 : Int))) 5 1, .cells B_5 (iv .u8 l2) 25, .cells B_1 (iv .u8 l0) 23] := by rw [← e_286]; rw [iv_replicate] at st_289; exact st_289
    have hn_290 : n_285 = (List.replicate (IntKind.i64.wrap (Int.tmod a3 400)).toNat (0 : Int)).length := by rw [List.length_replicate]; exact e_286
    refine WL.nil ?_
    refine AW.back ?_
    refine AW.step2 0 2 rfl rfl (by kernel_rfl) ?_ ?_
    · refine WL.val Wanted.none (Runs.load_arr arr23 rfl (st_289.blk (i := 2) rfl) hl0) ?_
      refine WL.nil ?_
      refine AW.back ?_
      refine AW.step 2 rfl (by kernel_rfl) ?_
      refine WL.val Wanted.none (Runs.load_arr arr25 rfl (st_289.blk (i := 1) rfl) hl2) ?_
      refine WL.nil ?_
      refine AW.back ?_
      refine AW.step 5 rfl (by kernel_rfl) ?_
      obtain ⟨r_296, r_302, hr_292, H⟩ := H
      refine WL.call Wanted.none ent13 rfl (cipher_Crypt.calls w_288 l0 (bits .and .u32 a1 16777215) l2 (List.replicate (IntKind.i64.wrap (Int.tmod a3 400)).toNat (0 : Int)) (some ⟨B_287, 0, none⟩) n_285 n_285 (hG0.ext st_289) hl0 hl2 (st_289.src_sl (k := 0) rfl) (hn_290) (st_289.cap (i := 0) rfl) r_296 r_302 hr_292) ?_
      rintro _ w_293 ⟨A_297, c_298, n_299, hn_300, rfl, sc_295⟩
      have st_294 : St w w_293 [.sl A_297 c_298 n_299 (iv .u8 r_296) 5 1, .sl (some ⟨B_287, 0, none⟩) n_285 n_285 (iv .u8 (List.replicate (IntKind.i64.wrap (Int.tmod a3 400)).toNat (0 : Int))) 5 1, .cells B_5 (iv .u8 l2) 25, .cells B_1 (iv .u8 l0) 23] := st_289.call sc_295
      refine ⟨_, rfl, ?_⟩
      refine WL.nil ?_
      refine AW.back ?_
      refine AW.take 6 rfl (by kernel_rfl) (by kernel_rfl) (by kernel_rfl) Wanted.none (fun _ => (Runs.move rfl)) ?_
      refine AW.take 7 rfl (by kernel_rfl) (by kernel_rfl) (by kernel_rfl) Wanted.none (fun _ => (Runs.extract rfl rfl)) ?_
      refine AW.take 8 rfl (by kernel_rfl) (by kernel_rfl) (by kernel_rfl) Wanted.none (fun _ => (Runs.extract rfl rfl)) ?_
      refine AW.take 9 rfl (by kernel_rfl) (by kernel_rfl) (by kernel_rfl) Wanted.none (fun _ => (Runs.assign rfl)) ?_
      refine AW.take 10 rfl (by kernel_rfl) (by kernel_rfl) (by kernel_rfl) Wanted.none (fun _ => (Runs.assign rfl)) ?_
      refine AW.done (by kernel_rfl) ?_
      refine QW.then_n ?_
      refine CW.sub [(4, .pointer (some ⟨B_1, 0, none⟩)), (6, .pointer (some ⟨B_5, 0, none⟩)), (8, .bool false), (10, .int .i64 (IntKind.i64.wrap (Int.tmod a3 400))), (11, .int .u32 (bits .and .u32 a1 16777215)), (12, .slice A_297 n_299 c_298), (13, .int .i64 r_302)] ⟨rfl, rfl, rfl, rfl, rfl, rfl, rfl, trivial⟩ ?_
      refine CW.seq ?_
      refine CW.seq ?_
      refine CW.region ?_
      refine WL.val Wanted.none (Runs.move rfl) ?_
      refine WL.val Wanted.none (Runs.neq rfl rfl rfl) ?_
      refine WL.val Wanted.none (Runs.move rfl) ?_
      obtain ⟨c_303, H⟩ := H
      have h_304 : (r_302 != 0) = false := (bne_eq_false_iff_eq.mpr (Decidable.not_not.mp c_303))
      refine WL.on ?_ ?_; exact Wanted.guard (dj := 36) (by rfl) (evb (by rfl) h_304) (by rfl)
      refine WL.val Wanted.none (Runs.move rfl) ?_
      refine WL.on ?_ ?_; exact Wanted.guard (dj := 36) (by rfl) (evb (by rfl) h_304) (by rfl)
      refine WL.val Wanted.none (Runs.len_sl Tryd.underlying31 rfl (by rw [hn_300])) ?_
      refine WL.on ?_ ?_; exact Wanted.guard (dj := 36) (by rfl) (evb (by rfl) h_304) (by rfl)
      refine WL.val Wanted.none (Runs.move rfl) ?_
      refine WL.on ?_ ?_; exact Wanted.guard (dj := 36) (by rfl) (evb (by rfl) h_304) (by rfl)
      refine WL.val Wanted.none (Runs.neq rfl rfl rfl) ?_
      refine WL.val Wanted.none (Runs.pick_f (evb rfl h_304) rfl) ?_
      refine WL.nil ?_
      refine QW.then_n ?_
      refine CW.sub [(4, .pointer (some ⟨B_1, 0, none⟩)), (6, .pointer (some ⟨B_5, 0, none⟩)), (8, .bool false), (10, .int .i64 (IntKind.i64.wrap (Int.tmod a3 400))), (11, .int .u32 (bits .and .u32 a1 16777215)), (12, .slice A_297 n_299 c_298), (41, .bool ((r_296.length : Int) != (IntKind.i64.wrap (Int.tmod a3 400))))] ⟨rfl, rfl, rfl, rfl, rfl, rfl, rfl, trivial⟩ ?_
      obtain ⟨c_305, H⟩ := H
      have h_306 : ((r_296.length : Int) != (IntKind.i64.wrap (Int.tmod a3 400))) = false := (bne_eq_false_iff_eq.mpr (Decidable.not_not.mp c_305))
      refine CW.cf rfl h_306 ?_
      refine CW.skip ?_
      refine QW.then_n ?_
      refine CW.seq ?_
      refine CW.seq ?_
      refine CW.region ?_
      refine WL.val Wanted.none (Runs.assign rfl) ?_
      refine WL.nil ?_
      refine QW.then_n ?_
      refine CW.block ?_
      obtain ⟨k_307, H⟩ := H
      refine CW.sub [(4, .pointer (some ⟨B_1, 0, none⟩)), (6, .pointer (some ⟨B_5, 0, none⟩)), (8, .bool false), (10, .int .i64 (IntKind.i64.wrap (Int.tmod a3 400))), (11, .int .u32 (bits .and .u32 a1 16777215)), (12, .slice A_297 n_299 c_298), (14, .int .i64 0)] ⟨rfl, rfl, rfl, rfl, rfl, rfl, rfl, trivial⟩ ?_
      refine CW.loop (fun kL1 l_ w_ => ∃ (b_308 : Bool) (x_309 : Int), l_ = [(4, .pointer (some ⟨B_1, 0, none⟩)), (6, .pointer (some ⟨B_5, 0, none⟩)), (8, .bool b_308), (10, .int .i64 (IntKind.i64.wrap (Int.tmod a3 400))), (11, .int .u32 (bits .and .u32 a1 16777215)), (12, .slice A_297 n_299 c_298), (14, .int .i64 x_309)] ∧ reliquarylaw04_CipherNoughts.L1 l0 a1 l2 a3 r_296 kL1 b_308 x_309 ∧ St w w_ [.sl A_297 c_298 n_299 (iv .u8 r_296) 5 1, .sl (some ⟨B_287, 0, none⟩) n_285 n_285 (iv .u8 (List.replicate (IntKind.i64.wrap (Int.tmod a3 400)).toNat (0 : Int))) 5 1, .cells B_5 (iv .u8 l2) 25, .cells B_1 (iv .u8 l0) 23]) (k := k_307) ⟨false, 0, rfl, H, st_294⟩ (fun _ _ h => by obtain ⟨_, _, _, h, _⟩ := h; exact h.elim) ?_
      rintro kL1 l_312 w_310 ⟨b_308, x_309, rfl, H, st_311⟩
      refine CW.seq ?_
      refine CW.seq ?_
      refine CW.region ?_
      refine WL.val Wanted.none (Runs.move rfl) ?_
      refine WL.val Wanted.none (Runs.move rfl) ?_
      refine WL.val Wanted.none (Runs.lss rfl rfl rfl) ?_
      refine WL.nil ?_
      refine QW.then_n ?_
      rcases H with ⟨c_313, H⟩ | ⟨c_313, H⟩
      · have h_314 : (decide (x_309 < (IntKind.i64.wrap (Int.tmod a3 400)))) = true := (decide_eq_true c_313)
        refine CW.ct rfl h_314 ?_
        refine CW.skip ?_
        refine QW.then_n ?_
        refine CW.seq ?_
        refine CW.block ?_
        refine CW.seq ?_
        refine CW.region ?_
        refine WL.val Wanted.none (Runs.load_arr arr23 rfl (st_311.blk (i := 3) rfl) hl0) ?_
        refine WL.val Wanted.none (Runs.move rfl) ?_
        refine WL.val Wanted.none (Runs.move rfl) ?_
        refine WL.val Wanted.none (Runs.quo rfl rfl (by decide) rfl) ?_
        refine WL.val Wanted.none (Runs.conv Tryd.underlying24 ⟨_, Tryd.underlying3⟩ rfl rfl) ?_
        obtain ⟨x_315, e_316, H⟩ := H
        refine WL.val Wanted.none (Runs.add rfl rfl e_316) ?_
        refine WL.val Wanted.none (Runs.load_arr arr25 rfl (st_311.blk (i := 2) rfl) hl2) ?_
        obtain ⟨r_321, hr_317, H⟩ := H
        refine WL.call Wanted.none ent11 rfl (reliquaryref04_Block.calls w_310 l0 x_315 l2 hl0 hl2 r_321 hr_317) ?_
        rintro _ w_318 ⟨hl_322, rfl, sc_320⟩
        have st_319 : St w w_318 [.sl A_297 c_298 n_299 (iv .u8 r_296) 5 1, .sl (some ⟨B_287, 0, none⟩) n_285 n_285 (iv .u8 (List.replicate (IntKind.i64.wrap (Int.tmod a3 400)).toNat (0 : Int))) 5 1, .cells B_5 (iv .u8 l2) 25, .cells B_1 (iv .u8 l0) 23] := st_311.call sc_320
        refine ⟨_, rfl, ?_⟩
        refine WL.alloc st_319 arr27.zero ?_
        intro B_323 w_324 st_325
        replace st_325 : St w w_324 [.cells B_323 (iv .u8 (List.replicate 64 (0 : Int))) 27, .sl A_297 c_298 n_299 (iv .u8 r_296) 5 1, .sl (some ⟨B_287, 0, none⟩) n_285 n_285 (iv .u8 (List.replicate (IntKind.i64.wrap (Int.tmod a3 400)).toNat (0 : Int))) 5 1, .cells B_5 (iv .u8 l2) 25, .cells B_1 (iv .u8 l0) 23] := st_325
        refine WL.store_arr (i := 0) st_325 rfl arr27 rfl (by rw [iv_length]; exact (List.length_replicate ..)) hl_322 rfl ?_
        intro w_327 st_328
        replace st_328 : St w w_327 [.cells B_323 (iv .u8 r_321) 27, .sl A_297 c_298 n_299 (iv .u8 r_296) 5 1, .sl (some ⟨B_287, 0, none⟩) n_285 n_285 (iv .u8 (List.replicate (IntKind.i64.wrap (Int.tmod a3 400)).toNat (0 : Int))) 5 1, .cells B_5 (iv .u8 l2) 25, .cells B_1 (iv .u8 l0) 23] := st_328
        refine WL.nil ?_
        refine QW.then_n ?_
        refine CW.seq ?_
        refine CW.region ?_
        refine WL.val Wanted.none (Runs.assign rfl) ?_
        refine WL.nil ?_
        refine QW.then_n ?_
        refine CW.block ?_
        obtain ⟨k_330, H⟩ := H
        refine CW.sub [(4, .pointer (some ⟨B_1, 0, none⟩)), (6, .pointer (some ⟨B_5, 0, none⟩)), (8, .bool b_308), (10, .int .i64 (IntKind.i64.wrap (Int.tmod a3 400))), (11, .int .u32 (bits .and .u32 a1 16777215)), (12, .slice A_297 n_299 c_298), (14, .int .i64 x_309), (42, .int .i64 x_309), (43, .int .i64 (IntKind.i64.wrap (Int.tmod a3 400))), (44, .bool (decide (x_309 < (IntKind.i64.wrap (Int.tmod a3 400))))), (47, .agg (iv .u8 l0).toArray), (48, .int .u32 (bits .and .u32 a1 16777215)), (49, .int .i64 x_309), (50, .int .i64 (IntKind.i64.wrap (Int.tdiv x_309 64))), (51, .int .u32 (IntKind.u32.wrap (IntKind.i64.wrap (Int.tdiv x_309 64)))), (52, .int .u32 x_315), (53, .agg (iv .u8 l2).toArray), (54, .agg (iv .u8 r_321).toArray), (15, .pointer (some ⟨B_323, 0, none⟩)), (16, .int .i64 0)] ⟨rfl, rfl, rfl, rfl, rfl, rfl, rfl, rfl, rfl, rfl, rfl, rfl, rfl, rfl, rfl, rfl, rfl, rfl, rfl, rfl, trivial⟩ ?_
        refine CW.loop (fun kL2 l_ w_ => ∃ (b_331 : Bool) (x_332 : Int), l_ = [(4, .pointer (some ⟨B_1, 0, none⟩)), (6, .pointer (some ⟨B_5, 0, none⟩)), (8, .bool b_331), (10, .int .i64 (IntKind.i64.wrap (Int.tmod a3 400))), (11, .int .u32 (bits .and .u32 a1 16777215)), (12, .slice A_297 n_299 c_298), (14, .int .i64 x_309), (42, .int .i64 x_309), (43, .int .i64 (IntKind.i64.wrap (Int.tmod a3 400))), (44, .bool (decide (x_309 < (IntKind.i64.wrap (Int.tmod a3 400))))), (47, .agg (iv .u8 l0).toArray), (48, .int .u32 (bits .and .u32 a1 16777215)), (49, .int .i64 x_309), (50, .int .i64 (IntKind.i64.wrap (Int.tdiv x_309 64))), (51, .int .u32 (IntKind.u32.wrap (IntKind.i64.wrap (Int.tdiv x_309 64)))), (52, .int .u32 x_315), (53, .agg (iv .u8 l2).toArray), (54, .agg (iv .u8 r_321).toArray), (15, .pointer (some ⟨B_323, 0, none⟩)), (16, .int .i64 x_332)] ∧ reliquarylaw04_CipherNoughts.L2 a3 r_296 x_309 r_321 (reliquarylaw04_CipherNoughts.L1 l0 a1 l2 a3 r_296 kL1) kL2 b_331 x_332 ∧ St w w_ [.cells B_323 (iv .u8 r_321) 27, .sl A_297 c_298 n_299 (iv .u8 r_296) 5 1, .sl (some ⟨B_287, 0, none⟩) n_285 n_285 (iv .u8 (List.replicate (IntKind.i64.wrap (Int.tmod a3 400)).toNat (0 : Int))) 5 1, .cells B_5 (iv .u8 l2) 25, .cells B_1 (iv .u8 l0) 23]) (k := k_330) ⟨b_308, 0, rfl, H, st_328⟩ (fun _ _ h => by obtain ⟨_, _, _, h, _⟩ := h; exact h.elim) ?_
        rintro kL2 l_335 w_333 ⟨b_331, x_332, rfl, H, st_334⟩
        refine CW.seq ?_
        refine CW.seq ?_
        refine CW.region ?_
        refine WL.val Wanted.none (Runs.move rfl) ?_
        refine WL.val Wanted.none (Runs.lss rfl rfl rfl) ?_
        refine WL.val Wanted.none (Runs.move rfl) ?_
        rcases H with ⟨c_336, H⟩ | ⟨c_336, H⟩
        · have h_337 : (decide (x_332 < 64)) = true := (decide_eq_true c_336)
          refine WL.on ?_ ?_; exact Wanted.guard (dj := 57) (by rfl) (evb (by rfl) h_337) (by rfl)
          refine WL.val Wanted.none (Runs.move rfl) ?_
          refine WL.on ?_ ?_; exact Wanted.guard (dj := 57) (by rfl) (evb (by rfl) h_337) (by rfl)
          refine WL.val Wanted.none (Runs.move rfl) ?_
          refine WL.on ?_ ?_; exact Wanted.guard (dj := 57) (by rfl) (evb (by rfl) h_337) (by rfl)
          refine WL.val Wanted.none (Runs.add rfl rfl rfl) ?_
          refine WL.on ?_ ?_; exact Wanted.guard (dj := 57) (by rfl) (evb (by rfl) h_337) (by rfl)
          refine WL.val Wanted.none (Runs.move rfl) ?_
          refine WL.on ?_ ?_; exact Wanted.guard (dj := 57) (by rfl) (evb (by rfl) h_337) (by rfl)
          refine WL.val Wanted.none (Runs.lss rfl rfl rfl) ?_
          refine WL.val Wanted.none (Runs.pick_t (evb rfl h_337) rfl) ?_
          refine WL.nil ?_
          refine QW.then_n ?_
          rcases H with ⟨c_338, H⟩ | ⟨c_338, H⟩
          · have h_339 : (decide ((IntKind.i64.wrap (x_309 + x_332)) < (IntKind.i64.wrap (Int.tmod a3 400)))) = true := (decide_eq_true c_338)
            refine CW.ct rfl h_339 ?_
            refine CW.skip ?_
            refine QW.then_n ?_
            refine CW.seq ?_
            refine CW.block ?_
            refine CW.seq ?_
            refine CW.region_qa wide (by kernel_rfl) st_334 ?_
            refine HL.val Wanted.none (fun wq sq => (Runs.move rfl)) ?_
            refine HL.val Wanted.none (fun wq sq => (Runs.move rfl)) ?_
            refine HL.val Wanted.none (fun wq sq => (Runs.move rfl)) ?_
            refine HL.val Wanted.none (fun wq sq => (Runs.add rfl rfl rfl)) ?_
            obtain ⟨⟨p_340, q_341⟩, H⟩ := H
            obtain ⟨a_342, e_343⟩ := (st_334.src_sl (k := 1) rfl).addr_iv ((IntKind.i64.wrap (x_309 + x_332)).toNat) (by omega)
            refine HL.val Wanted.none (fun wq sq => (Runs.indexAddr Tryd.underlying31 cells5 (by decide) rfl e_343 rfl p_340 (by rw [hn_300]; exact q_341) (o := (IntKind.i64.wrap (x_309 + x_332)).toNat) (by first | rfl | omega))) ?_
            refine HL.val Wanted.none (fun wq sq => (Runs.load nagg5 rfl ((sq.src_sl (k := 1) rfl).cell_iv e_343 (by omega)))) ?_
            refine HL.val Wanted.none (fun wq sq => (Runs.move rfl)) ?_
            obtain ⟨⟨p_344, q_345⟩, H⟩ := H
            refine HL.val Wanted.none (fun wq sq => (Runs.indexAddr_blk arr27 rfl rfl p_344 q_345 (o := (x_332).toNat) (by first | rfl | omega))) ?_
            refine HL.val Wanted.none (fun wq sq => (Runs.load nagg5 rfl (sq.cell_iv (i := 0) rfl (by have := hl_322; omega)))) ?_
            refine HL.val Wanted.none (fun wq sq => (Runs.neq rfl rfl rfl)) ?_
            refine HL.nil (fun w_346 st_347 => ?_)
            refine WL.nil ?_
            refine QW.then_n ?_
            obtain ⟨c_348, H⟩ := H
            have h_349 : ((gn r_296 ((IntKind.i64.wrap (x_309 + x_332)).toNat)) != (gn r_321 ((x_332).toNat))) = false := (bne_eq_false_iff_eq.mpr (Decidable.not_not.mp c_348))
            refine CW.cf rfl h_349 ?_
            refine CW.skip ?_
            refine QW.blk_n ?_
            refine QW.then_n ?_
            refine CW.region ?_
            refine WL.val Wanted.none (Runs.move rfl) ?_
            refine WL.val Wanted.none (Runs.add rfl rfl rfl) ?_
            refine WL.val Wanted.none (Runs.assign rfl) ?_
            refine WL.nil ?_
            exact QW.at [(4, .pointer (some ⟨B_1, 0, none⟩)), (6, .pointer (some ⟨B_5, 0, none⟩)), (8, .bool b_331), (10, .int .i64 (IntKind.i64.wrap (Int.tmod a3 400))), (11, .int .u32 (bits .and .u32 a1 16777215)), (12, .slice A_297 n_299 c_298), (14, .int .i64 x_309), (42, .int .i64 x_309), (43, .int .i64 (IntKind.i64.wrap (Int.tmod a3 400))), (44, .bool (decide (x_309 < (IntKind.i64.wrap (Int.tmod a3 400))))), (47, .agg (iv .u8 l0).toArray), (48, .int .u32 (bits .and .u32 a1 16777215)), (49, .int .i64 x_309), (50, .int .i64 (IntKind.i64.wrap (Int.tdiv x_309 64))), (51, .int .u32 (IntKind.u32.wrap (IntKind.i64.wrap (Int.tdiv x_309 64)))), (52, .int .u32 x_315), (53, .agg (iv .u8 l2).toArray), (54, .agg (iv .u8 r_321).toArray), (15, .pointer (some ⟨B_323, 0, none⟩)), (16, .int .i64 (IntKind.i64.wrap (x_332 + 1)))] ⟨rfl, rfl, rfl, rfl, rfl, rfl, rfl, rfl, rfl, rfl, rfl, rfl, rfl, rfl, rfl, rfl, rfl, rfl, rfl, rfl, trivial⟩ ⟨b_331, IntKind.i64.wrap (x_332 + 1), rfl, H, st_347⟩
          · have h_339 : (decide ((IntKind.i64.wrap (x_309 + x_332)) < (IntKind.i64.wrap (Int.tmod a3 400)))) = false := (decide_eq_false c_338)
            refine CW.cf rfl h_339 ?_
            refine CW.exit ?_
            refine QW.then_x ?_
            refine QW.then_x ?_
            refine QW.blk_x ?_
            refine QW.blk_n ?_
            refine QW.then_n ?_
            refine CW.region ?_
            refine WL.val Wanted.none (Runs.move rfl) ?_
            refine WL.val Wanted.none (Runs.add rfl rfl rfl) ?_
            refine WL.val Wanted.none (Runs.assign rfl) ?_
            refine WL.nil ?_
            have st_334' := st_334.pick [1, 2, 3, 4] (by decide)
            exact QW.at [(4, .pointer (some ⟨B_1, 0, none⟩)), (6, .pointer (some ⟨B_5, 0, none⟩)), (8, .bool b_331), (10, .int .i64 (IntKind.i64.wrap (Int.tmod a3 400))), (11, .int .u32 (bits .and .u32 a1 16777215)), (12, .slice A_297 n_299 c_298), (14, .int .i64 (IntKind.i64.wrap (x_309 + 64)))] ⟨rfl, rfl, rfl, rfl, rfl, rfl, rfl, trivial⟩ ⟨b_331, IntKind.i64.wrap (x_309 + 64), rfl, H, st_334'⟩
        · have h_337 : (decide (x_332 < 64)) = false := (decide_eq_false c_336)
          refine WL.off ?_ ?_; exact Wanted.guard (dj := 57) (by rfl) (evb (by rfl) h_337) (by rfl)
          refine WL.off ?_ ?_; exact Wanted.guard (dj := 57) (by rfl) (evb (by rfl) h_337) (by rfl)
          refine WL.off ?_ ?_; exact Wanted.guard (dj := 57) (by rfl) (evb (by rfl) h_337) (by rfl)
          refine WL.off ?_ ?_; exact Wanted.guard (dj := 57) (by rfl) (evb (by rfl) h_337) (by rfl)
          refine WL.off ?_ ?_; exact Wanted.guard (dj := 57) (by rfl) (evb (by rfl) h_337) (by rfl)
          refine WL.val Wanted.none (Runs.pick_f (evb rfl h_337) rfl) ?_
          refine WL.nil ?_
          refine QW.then_n ?_
          refine CW.cf rfl rfl ?_
          refine CW.exit ?_
          refine QW.then_x ?_
          refine QW.then_x ?_
          refine QW.blk_x ?_
          refine QW.blk_n ?_
          refine QW.then_n ?_
          refine CW.region ?_
          refine WL.val Wanted.none (Runs.move rfl) ?_
          refine WL.val Wanted.none (Runs.add rfl rfl rfl) ?_
          refine WL.val Wanted.none (Runs.assign rfl) ?_
          refine WL.nil ?_
          have st_334' := st_334.pick [1, 2, 3, 4] (by decide)
          exact QW.at [(4, .pointer (some ⟨B_1, 0, none⟩)), (6, .pointer (some ⟨B_5, 0, none⟩)), (8, .bool b_331), (10, .int .i64 (IntKind.i64.wrap (Int.tmod a3 400))), (11, .int .u32 (bits .and .u32 a1 16777215)), (12, .slice A_297 n_299 c_298), (14, .int .i64 (IntKind.i64.wrap (x_309 + 64)))] ⟨rfl, rfl, rfl, rfl, rfl, rfl, rfl, trivial⟩ ⟨b_331, IntKind.i64.wrap (x_309 + 64), rfl, H, st_334'⟩
      · have h_314 : (decide (x_309 < (IntKind.i64.wrap (Int.tmod a3 400)))) = false := (decide_eq_false c_313)
        refine CW.cf rfl h_314 ?_
        refine CW.exit ?_
        refine QW.then_x ?_
        refine QW.then_x ?_
        refine QW.blk_x ?_
        refine QW.then_n ?_
        refine CW.sub [(8, .bool b_308)] ⟨rfl, trivial⟩ ?_
        refine CW.seq ?_
        refine CW.region ?_
        refine WL.val Wanted.none (Runs.assign rfl) ?_
        refine WL.nil ?_
        refine QW.then_n ?_
        refine CW.ret ?_
        exact QW.ret1 rfl rfl ⟨rfl, st_311.ext⟩
    · refine WL.val Wanted.none (Runs.load_arr arr25 rfl (st_289.blk (i := 1) rfl) hl2) ?_
      refine WL.nil ?_
      refine AW.back ?_
      refine AW.step 0 rfl (by kernel_rfl) ?_
      refine WL.val Wanted.none (Runs.load_arr arr23 rfl (st_289.blk (i := 2) rfl) hl0) ?_
      refine WL.nil ?_
      refine AW.back ?_
      refine AW.step 5 rfl (by kernel_rfl) ?_
      obtain ⟨r_354, r_360, hr_350, H⟩ := H
      refine WL.call Wanted.none ent13 rfl (cipher_Crypt.calls w_288 l0 (bits .and .u32 a1 16777215) l2 (List.replicate (IntKind.i64.wrap (Int.tmod a3 400)).toNat (0 : Int)) (some ⟨B_287, 0, none⟩) n_285 n_285 (hG0.ext st_289) hl0 hl2 (st_289.src_sl (k := 0) rfl) (hn_290) (st_289.cap (i := 0) rfl) r_354 r_360 hr_350) ?_
      rintro _ w_351 ⟨A_355, c_356, n_357, hn_358, rfl, sc_353⟩
      have st_352 : St w w_351 [.sl A_355 c_356 n_357 (iv .u8 r_354) 5 1, .sl (some ⟨B_287, 0, none⟩) n_285 n_285 (iv .u8 (List.replicate (IntKind.i64.wrap (Int.tmod a3 400)).toNat (0 : Int))) 5 1, .cells B_5 (iv .u8 l2) 25, .cells B_1 (iv .u8 l0) 23] := st_289.call sc_353
      refine ⟨_, rfl, ?_⟩
      refine WL.nil ?_
      refine AW.back ?_
      refine AW.take 6 rfl (by kernel_rfl) (by kernel_rfl) (by kernel_rfl) Wanted.none (fun _ => (Runs.move rfl)) ?_
      refine AW.take 7 rfl (by kernel_rfl) (by kernel_rfl) (by kernel_rfl) Wanted.none (fun _ => (Runs.extract rfl rfl)) ?_
      refine AW.take 8 rfl (by kernel_rfl) (by kernel_rfl) (by kernel_rfl) Wanted.none (fun _ => (Runs.extract rfl rfl)) ?_
      refine AW.take 9 rfl (by kernel_rfl) (by kernel_rfl) (by kernel_rfl) Wanted.none (fun _ => (Runs.assign rfl)) ?_
      refine AW.take 10 rfl (by kernel_rfl) (by kernel_rfl) (by kernel_rfl) Wanted.none (fun _ => (Runs.assign rfl)) ?_
      refine AW.done (by kernel_rfl) ?_
      refine QW.then_n ?_
      refine CW.sub [(4, .pointer (some ⟨B_1, 0, none⟩)), (6, .pointer (some ⟨B_5, 0, none⟩)), (8, .bool false), (10, .int .i64 (IntKind.i64.wrap (Int.tmod a3 400))), (11, .int .u32 (bits .and .u32 a1 16777215)), (12, .slice A_355 n_357 c_356), (13, .int .i64 r_360)] ⟨rfl, rfl, rfl, rfl, rfl, rfl, rfl, trivial⟩ ?_
      refine CW.seq ?_
      refine CW.seq ?_
      refine CW.region ?_
      refine WL.val Wanted.none (Runs.move rfl) ?_
      refine WL.val Wanted.none (Runs.neq rfl rfl rfl) ?_
      refine WL.val Wanted.none (Runs.move rfl) ?_
      obtain ⟨c_361, H⟩ := H
      have h_362 : (r_360 != 0) = false := (bne_eq_false_iff_eq.mpr (Decidable.not_not.mp c_361))
      refine WL.on ?_ ?_; exact Wanted.guard (dj := 36) (by rfl) (evb (by rfl) h_362) (by rfl)
      refine WL.val Wanted.none (Runs.move rfl) ?_
      refine WL.on ?_ ?_; exact Wanted.guard (dj := 36) (by rfl) (evb (by rfl) h_362) (by rfl)
      refine WL.val Wanted.none (Runs.len_sl Tryd.underlying31 rfl (by rw [hn_358])) ?_
      refine WL.on ?_ ?_; exact Wanted.guard (dj := 36) (by rfl) (evb (by rfl) h_362) (by rfl)
      refine WL.val Wanted.none (Runs.move rfl) ?_
      refine WL.on ?_ ?_; exact Wanted.guard (dj := 36) (by rfl) (evb (by rfl) h_362) (by rfl)
      refine WL.val Wanted.none (Runs.neq rfl rfl rfl) ?_
      refine WL.val Wanted.none (Runs.pick_f (evb rfl h_362) rfl) ?_
      refine WL.nil ?_
      refine QW.then_n ?_
      refine CW.sub [(4, .pointer (some ⟨B_1, 0, none⟩)), (6, .pointer (some ⟨B_5, 0, none⟩)), (8, .bool false), (10, .int .i64 (IntKind.i64.wrap (Int.tmod a3 400))), (11, .int .u32 (bits .and .u32 a1 16777215)), (12, .slice A_355 n_357 c_356), (41, .bool ((r_354.length : Int) != (IntKind.i64.wrap (Int.tmod a3 400))))] ⟨rfl, rfl, rfl, rfl, rfl, rfl, rfl, trivial⟩ ?_
      obtain ⟨c_363, H⟩ := H
      have h_364 : ((r_354.length : Int) != (IntKind.i64.wrap (Int.tmod a3 400))) = false := (bne_eq_false_iff_eq.mpr (Decidable.not_not.mp c_363))
      refine CW.cf rfl h_364 ?_
      refine CW.skip ?_
      refine QW.then_n ?_
      refine CW.seq ?_
      refine CW.seq ?_
      refine CW.region ?_
      refine WL.val Wanted.none (Runs.assign rfl) ?_
      refine WL.nil ?_
      refine QW.then_n ?_
      refine CW.block ?_
      obtain ⟨k_365, H⟩ := H
      refine CW.sub [(4, .pointer (some ⟨B_1, 0, none⟩)), (6, .pointer (some ⟨B_5, 0, none⟩)), (8, .bool false), (10, .int .i64 (IntKind.i64.wrap (Int.tmod a3 400))), (11, .int .u32 (bits .and .u32 a1 16777215)), (12, .slice A_355 n_357 c_356), (14, .int .i64 0)] ⟨rfl, rfl, rfl, rfl, rfl, rfl, rfl, trivial⟩ ?_
      refine CW.loop (fun kL1 l_ w_ => ∃ (b_366 : Bool) (x_367 : Int), l_ = [(4, .pointer (some ⟨B_1, 0, none⟩)), (6, .pointer (some ⟨B_5, 0, none⟩)), (8, .bool b_366), (10, .int .i64 (IntKind.i64.wrap (Int.tmod a3 400))), (11, .int .u32 (bits .and .u32 a1 16777215)), (12, .slice A_355 n_357 c_356), (14, .int .i64 x_367)] ∧ reliquarylaw04_CipherNoughts.L1 l0 a1 l2 a3 r_354 kL1 b_366 x_367 ∧ St w w_ [.sl A_355 c_356 n_357 (iv .u8 r_354) 5 1, .sl (some ⟨B_287, 0, none⟩) n_285 n_285 (iv .u8 (List.replicate (IntKind.i64.wrap (Int.tmod a3 400)).toNat (0 : Int))) 5 1, .cells B_5 (iv .u8 l2) 25, .cells B_1 (iv .u8 l0) 23]) (k := k_365) ⟨false, 0, rfl, H, st_352⟩ (fun _ _ h => by obtain ⟨_, _, _, h, _⟩ := h; exact h.elim) ?_
      rintro kL1 l_370 w_368 ⟨b_366, x_367, rfl, H, st_369⟩
      refine CW.seq ?_
      refine CW.seq ?_
      refine CW.region ?_
      refine WL.val Wanted.none (Runs.move rfl) ?_
      refine WL.val Wanted.none (Runs.move rfl) ?_
      refine WL.val Wanted.none (Runs.lss rfl rfl rfl) ?_
      refine WL.nil ?_
      refine QW.then_n ?_
      rcases H with ⟨c_371, H⟩ | ⟨c_371, H⟩
      · have h_372 : (decide (x_367 < (IntKind.i64.wrap (Int.tmod a3 400)))) = true := (decide_eq_true c_371)
        refine CW.ct rfl h_372 ?_
        refine CW.skip ?_
        refine QW.then_n ?_
        refine CW.seq ?_
        refine CW.block ?_
        refine CW.seq ?_
        refine CW.region ?_
        refine WL.val Wanted.none (Runs.load_arr arr23 rfl (st_369.blk (i := 3) rfl) hl0) ?_
        refine WL.val Wanted.none (Runs.move rfl) ?_
        refine WL.val Wanted.none (Runs.move rfl) ?_
        refine WL.val Wanted.none (Runs.quo rfl rfl (by decide) rfl) ?_
        refine WL.val Wanted.none (Runs.conv Tryd.underlying24 ⟨_, Tryd.underlying3⟩ rfl rfl) ?_
        obtain ⟨x_373, e_374, H⟩ := H
        refine WL.val Wanted.none (Runs.add rfl rfl e_374) ?_
        refine WL.val Wanted.none (Runs.load_arr arr25 rfl (st_369.blk (i := 2) rfl) hl2) ?_
        obtain ⟨r_379, hr_375, H⟩ := H
        refine WL.call Wanted.none ent11 rfl (reliquaryref04_Block.calls w_368 l0 x_373 l2 hl0 hl2 r_379 hr_375) ?_
        rintro _ w_376 ⟨hl_380, rfl, sc_378⟩
        have st_377 : St w w_376 [.sl A_355 c_356 n_357 (iv .u8 r_354) 5 1, .sl (some ⟨B_287, 0, none⟩) n_285 n_285 (iv .u8 (List.replicate (IntKind.i64.wrap (Int.tmod a3 400)).toNat (0 : Int))) 5 1, .cells B_5 (iv .u8 l2) 25, .cells B_1 (iv .u8 l0) 23] := st_369.call sc_378
        refine ⟨_, rfl, ?_⟩
        refine WL.alloc st_377 arr27.zero ?_
        intro B_381 w_382 st_383
        replace st_383 : St w w_382 [.cells B_381 (iv .u8 (List.replicate 64 (0 : Int))) 27, .sl A_355 c_356 n_357 (iv .u8 r_354) 5 1, .sl (some ⟨B_287, 0, none⟩) n_285 n_285 (iv .u8 (List.replicate (IntKind.i64.wrap (Int.tmod a3 400)).toNat (0 : Int))) 5 1, .cells B_5 (iv .u8 l2) 25, .cells B_1 (iv .u8 l0) 23] := st_383
        refine WL.store_arr (i := 0) st_383 rfl arr27 rfl (by rw [iv_length]; exact (List.length_replicate ..)) hl_380 rfl ?_
        intro w_385 st_386
        replace st_386 : St w w_385 [.cells B_381 (iv .u8 r_379) 27, .sl A_355 c_356 n_357 (iv .u8 r_354) 5 1, .sl (some ⟨B_287, 0, none⟩) n_285 n_285 (iv .u8 (List.replicate (IntKind.i64.wrap (Int.tmod a3 400)).toNat (0 : Int))) 5 1, .cells B_5 (iv .u8 l2) 25, .cells B_1 (iv .u8 l0) 23] := st_386
        refine WL.nil ?_
        refine QW.then_n ?_
        refine CW.seq ?_
        refine CW.region ?_
        refine WL.val Wanted.none (Runs.assign rfl) ?_
        refine WL.nil ?_
        refine QW.then_n ?_
        refine CW.block ?_
        obtain ⟨k_388, H⟩ := H
        refine CW.sub [(4, .pointer (some ⟨B_1, 0, none⟩)), (6, .pointer (some ⟨B_5, 0, none⟩)), (8, .bool b_366), (10, .int .i64 (IntKind.i64.wrap (Int.tmod a3 400))), (11, .int .u32 (bits .and .u32 a1 16777215)), (12, .slice A_355 n_357 c_356), (14, .int .i64 x_367), (42, .int .i64 x_367), (43, .int .i64 (IntKind.i64.wrap (Int.tmod a3 400))), (44, .bool (decide (x_367 < (IntKind.i64.wrap (Int.tmod a3 400))))), (47, .agg (iv .u8 l0).toArray), (48, .int .u32 (bits .and .u32 a1 16777215)), (49, .int .i64 x_367), (50, .int .i64 (IntKind.i64.wrap (Int.tdiv x_367 64))), (51, .int .u32 (IntKind.u32.wrap (IntKind.i64.wrap (Int.tdiv x_367 64)))), (52, .int .u32 x_373), (53, .agg (iv .u8 l2).toArray), (54, .agg (iv .u8 r_379).toArray), (15, .pointer (some ⟨B_381, 0, none⟩)), (16, .int .i64 0)] ⟨rfl, rfl, rfl, rfl, rfl, rfl, rfl, rfl, rfl, rfl, rfl, rfl, rfl, rfl, rfl, rfl, rfl, rfl, rfl, rfl, trivial⟩ ?_
        refine CW.loop (fun kL2 l_ w_ => ∃ (b_389 : Bool) (x_390 : Int), l_ = [(4, .pointer (some ⟨B_1, 0, none⟩)), (6, .pointer (some ⟨B_5, 0, none⟩)), (8, .bool b_389), (10, .int .i64 (IntKind.i64.wrap (Int.tmod a3 400))), (11, .int .u32 (bits .and .u32 a1 16777215)), (12, .slice A_355 n_357 c_356), (14, .int .i64 x_367), (42, .int .i64 x_367), (43, .int .i64 (IntKind.i64.wrap (Int.tmod a3 400))), (44, .bool (decide (x_367 < (IntKind.i64.wrap (Int.tmod a3 400))))), (47, .agg (iv .u8 l0).toArray), (48, .int .u32 (bits .and .u32 a1 16777215)), (49, .int .i64 x_367), (50, .int .i64 (IntKind.i64.wrap (Int.tdiv x_367 64))), (51, .int .u32 (IntKind.u32.wrap (IntKind.i64.wrap (Int.tdiv x_367 64)))), (52, .int .u32 x_373), (53, .agg (iv .u8 l2).toArray), (54, .agg (iv .u8 r_379).toArray), (15, .pointer (some ⟨B_381, 0, none⟩)), (16, .int .i64 x_390)] ∧ reliquarylaw04_CipherNoughts.L2 a3 r_354 x_367 r_379 (reliquarylaw04_CipherNoughts.L1 l0 a1 l2 a3 r_354 kL1) kL2 b_389 x_390 ∧ St w w_ [.cells B_381 (iv .u8 r_379) 27, .sl A_355 c_356 n_357 (iv .u8 r_354) 5 1, .sl (some ⟨B_287, 0, none⟩) n_285 n_285 (iv .u8 (List.replicate (IntKind.i64.wrap (Int.tmod a3 400)).toNat (0 : Int))) 5 1, .cells B_5 (iv .u8 l2) 25, .cells B_1 (iv .u8 l0) 23]) (k := k_388) ⟨b_366, 0, rfl, H, st_386⟩ (fun _ _ h => by obtain ⟨_, _, _, h, _⟩ := h; exact h.elim) ?_
        rintro kL2 l_393 w_391 ⟨b_389, x_390, rfl, H, st_392⟩
        refine CW.seq ?_
        refine CW.seq ?_
        refine CW.region ?_
        refine WL.val Wanted.none (Runs.move rfl) ?_
        refine WL.val Wanted.none (Runs.lss rfl rfl rfl) ?_
        refine WL.val Wanted.none (Runs.move rfl) ?_
        rcases H with ⟨c_394, H⟩ | ⟨c_394, H⟩
        · have h_395 : (decide (x_390 < 64)) = true := (decide_eq_true c_394)
          refine WL.on ?_ ?_; exact Wanted.guard (dj := 57) (by rfl) (evb (by rfl) h_395) (by rfl)
          refine WL.val Wanted.none (Runs.move rfl) ?_
          refine WL.on ?_ ?_; exact Wanted.guard (dj := 57) (by rfl) (evb (by rfl) h_395) (by rfl)
          refine WL.val Wanted.none (Runs.move rfl) ?_
          refine WL.on ?_ ?_; exact Wanted.guard (dj := 57) (by rfl) (evb (by rfl) h_395) (by rfl)
          refine WL.val Wanted.none (Runs.add rfl rfl rfl) ?_
          refine WL.on ?_ ?_; exact Wanted.guard (dj := 57) (by rfl) (evb (by rfl) h_395) (by rfl)
          refine WL.val Wanted.none (Runs.move rfl) ?_
          refine WL.on ?_ ?_; exact Wanted.guard (dj := 57) (by rfl) (evb (by rfl) h_395) (by rfl)
          refine WL.val Wanted.none (Runs.lss rfl rfl rfl) ?_
          refine WL.val Wanted.none (Runs.pick_t (evb rfl h_395) rfl) ?_
          refine WL.nil ?_
          refine QW.then_n ?_
          rcases H with ⟨c_396, H⟩ | ⟨c_396, H⟩
          · have h_397 : (decide ((IntKind.i64.wrap (x_367 + x_390)) < (IntKind.i64.wrap (Int.tmod a3 400)))) = true := (decide_eq_true c_396)
            refine CW.ct rfl h_397 ?_
            refine CW.skip ?_
            refine QW.then_n ?_
            refine CW.seq ?_
            refine CW.block ?_
            refine CW.seq ?_
            refine CW.region_qa wide (by kernel_rfl) st_392 ?_
            refine HL.val Wanted.none (fun wq sq => (Runs.move rfl)) ?_
            refine HL.val Wanted.none (fun wq sq => (Runs.move rfl)) ?_
            refine HL.val Wanted.none (fun wq sq => (Runs.move rfl)) ?_
            refine HL.val Wanted.none (fun wq sq => (Runs.add rfl rfl rfl)) ?_
            obtain ⟨⟨p_398, q_399⟩, H⟩ := H
            obtain ⟨a_400, e_401⟩ := (st_392.src_sl (k := 1) rfl).addr_iv ((IntKind.i64.wrap (x_367 + x_390)).toNat) (by omega)
            refine HL.val Wanted.none (fun wq sq => (Runs.indexAddr Tryd.underlying31 cells5 (by decide) rfl e_401 rfl p_398 (by rw [hn_358]; exact q_399) (o := (IntKind.i64.wrap (x_367 + x_390)).toNat) (by first | rfl | omega))) ?_
            refine HL.val Wanted.none (fun wq sq => (Runs.load nagg5 rfl ((sq.src_sl (k := 1) rfl).cell_iv e_401 (by omega)))) ?_
            refine HL.val Wanted.none (fun wq sq => (Runs.move rfl)) ?_
            obtain ⟨⟨p_402, q_403⟩, H⟩ := H
            refine HL.val Wanted.none (fun wq sq => (Runs.indexAddr_blk arr27 rfl rfl p_402 q_403 (o := (x_390).toNat) (by first | rfl | omega))) ?_
            refine HL.val Wanted.none (fun wq sq => (Runs.load nagg5 rfl (sq.cell_iv (i := 0) rfl (by have := hl_380; omega)))) ?_
            refine HL.val Wanted.none (fun wq sq => (Runs.neq rfl rfl rfl)) ?_
            refine HL.nil (fun w_404 st_405 => ?_)
            refine WL.nil ?_
            refine QW.then_n ?_
            obtain ⟨c_406, H⟩ := H
            have h_407 : ((gn r_354 ((IntKind.i64.wrap (x_367 + x_390)).toNat)) != (gn r_379 ((x_390).toNat))) = false := (bne_eq_false_iff_eq.mpr (Decidable.not_not.mp c_406))
            refine CW.cf rfl h_407 ?_
            refine CW.skip ?_
            refine QW.blk_n ?_
            refine QW.then_n ?_
            refine CW.region ?_
            refine WL.val Wanted.none (Runs.move rfl) ?_
            refine WL.val Wanted.none (Runs.add rfl rfl rfl) ?_
            refine WL.val Wanted.none (Runs.assign rfl) ?_
            refine WL.nil ?_
            exact QW.at [(4, .pointer (some ⟨B_1, 0, none⟩)), (6, .pointer (some ⟨B_5, 0, none⟩)), (8, .bool b_389), (10, .int .i64 (IntKind.i64.wrap (Int.tmod a3 400))), (11, .int .u32 (bits .and .u32 a1 16777215)), (12, .slice A_355 n_357 c_356), (14, .int .i64 x_367), (42, .int .i64 x_367), (43, .int .i64 (IntKind.i64.wrap (Int.tmod a3 400))), (44, .bool (decide (x_367 < (IntKind.i64.wrap (Int.tmod a3 400))))), (47, .agg (iv .u8 l0).toArray), (48, .int .u32 (bits .and .u32 a1 16777215)), (49, .int .i64 x_367), (50, .int .i64 (IntKind.i64.wrap (Int.tdiv x_367 64))), (51, .int .u32 (IntKind.u32.wrap (IntKind.i64.wrap (Int.tdiv x_367 64)))), (52, .int .u32 x_373), (53, .agg (iv .u8 l2).toArray), (54, .agg (iv .u8 r_379).toArray), (15, .pointer (some ⟨B_381, 0, none⟩)), (16, .int .i64 (IntKind.i64.wrap (x_390 + 1)))] ⟨rfl, rfl, rfl, rfl, rfl, rfl, rfl, rfl, rfl, rfl, rfl, rfl, rfl, rfl, rfl, rfl, rfl, rfl, rfl, rfl, trivial⟩ ⟨b_389, IntKind.i64.wrap (x_390 + 1), rfl, H, st_405⟩
          · have h_397 : (decide ((IntKind.i64.wrap (x_367 + x_390)) < (IntKind.i64.wrap (Int.tmod a3 400)))) = false := (decide_eq_false c_396)
            refine CW.cf rfl h_397 ?_
            refine CW.exit ?_
            refine QW.then_x ?_
            refine QW.then_x ?_
            refine QW.blk_x ?_
            refine QW.blk_n ?_
            refine QW.then_n ?_
            refine CW.region ?_
            refine WL.val Wanted.none (Runs.move rfl) ?_
            refine WL.val Wanted.none (Runs.add rfl rfl rfl) ?_
            refine WL.val Wanted.none (Runs.assign rfl) ?_
            refine WL.nil ?_
            have st_392' := st_392.pick [1, 2, 3, 4] (by decide)
            exact QW.at [(4, .pointer (some ⟨B_1, 0, none⟩)), (6, .pointer (some ⟨B_5, 0, none⟩)), (8, .bool b_389), (10, .int .i64 (IntKind.i64.wrap (Int.tmod a3 400))), (11, .int .u32 (bits .and .u32 a1 16777215)), (12, .slice A_355 n_357 c_356), (14, .int .i64 (IntKind.i64.wrap (x_367 + 64)))] ⟨rfl, rfl, rfl, rfl, rfl, rfl, rfl, trivial⟩ ⟨b_389, IntKind.i64.wrap (x_367 + 64), rfl, H, st_392'⟩
        · have h_395 : (decide (x_390 < 64)) = false := (decide_eq_false c_394)
          refine WL.off ?_ ?_; exact Wanted.guard (dj := 57) (by rfl) (evb (by rfl) h_395) (by rfl)
          refine WL.off ?_ ?_; exact Wanted.guard (dj := 57) (by rfl) (evb (by rfl) h_395) (by rfl)
          refine WL.off ?_ ?_; exact Wanted.guard (dj := 57) (by rfl) (evb (by rfl) h_395) (by rfl)
          refine WL.off ?_ ?_; exact Wanted.guard (dj := 57) (by rfl) (evb (by rfl) h_395) (by rfl)
          refine WL.off ?_ ?_; exact Wanted.guard (dj := 57) (by rfl) (evb (by rfl) h_395) (by rfl)
          refine WL.val Wanted.none (Runs.pick_f (evb rfl h_395) rfl) ?_
          refine WL.nil ?_
          refine QW.then_n ?_
          refine CW.cf rfl rfl ?_
          refine CW.exit ?_
          refine QW.then_x ?_
          refine QW.then_x ?_
          refine QW.blk_x ?_
          refine QW.blk_n ?_
          refine QW.then_n ?_
          refine CW.region ?_
          refine WL.val Wanted.none (Runs.move rfl) ?_
          refine WL.val Wanted.none (Runs.add rfl rfl rfl) ?_
          refine WL.val Wanted.none (Runs.assign rfl) ?_
          refine WL.nil ?_
          have st_392' := st_392.pick [1, 2, 3, 4] (by decide)
          exact QW.at [(4, .pointer (some ⟨B_1, 0, none⟩)), (6, .pointer (some ⟨B_5, 0, none⟩)), (8, .bool b_389), (10, .int .i64 (IntKind.i64.wrap (Int.tmod a3 400))), (11, .int .u32 (bits .and .u32 a1 16777215)), (12, .slice A_355 n_357 c_356), (14, .int .i64 (IntKind.i64.wrap (x_367 + 64)))] ⟨rfl, rfl, rfl, rfl, rfl, rfl, rfl, trivial⟩ ⟨b_389, IntKind.i64.wrap (x_367 + 64), rfl, H, st_392'⟩
      · have h_372 : (decide (x_367 < (IntKind.i64.wrap (Int.tmod a3 400)))) = false := (decide_eq_false c_371)
        refine CW.cf rfl h_372 ?_
        refine CW.exit ?_
        refine QW.then_x ?_
        refine QW.then_x ?_
        refine QW.blk_x ?_
        refine QW.then_n ?_
        refine CW.sub [(8, .bool b_366)] ⟨rfl, trivial⟩ ?_
        refine CW.seq ?_
        refine CW.region ?_
        refine WL.val Wanted.none (Runs.assign rfl) ?_
        refine WL.nil ?_
        refine QW.then_n ?_
        refine CW.ret ?_
        exact QW.ret1 rfl rfl ⟨rfl, st_369.ext⟩

/-! ### reliquarylaw04_CipherEnds: function 8 -/
def reliquarylaw04_CipherEnds.rel (l0 : List Int) (a1 : Int) (a2 : Int)  : Prop := (reliquarylaw04_awake.rel  ∧ (∃ x_9 : Int, x_9 = IntKind.u64.wrap (4294967295 - (IntKind.u64.wrap (Int.tmod a1 5))) ∧ (∃ m_13 : List Int, m_13 = List.replicate 12 (0 : Int) ∧ ((0 ≤ (IntKind.i64.wrap (Int.tmod a2 500)) ∧ (IntKind.i64.wrap (Int.tmod a2 500)) ≤ 1099511627776) ∧ (∃ (r_28 : List Int) (r_34 : Int), cipher_Crypt.rel l0 (IntKind.u32.wrap x_9) m_13 (List.replicate (IntKind.i64.wrap (Int.tmod a2 500)).toNat (0 : Int)) r_28 r_34 ∧ (∃ x_35 : Int, x_35 = IntKind.i64.wrap (64 * (IntKind.i64.wrap ((IntKind.i64.wrap (Int.tmod a1 5)) + 1))) ∧ (((IntKind.i64.wrap (Int.tmod a2 500)) ≤ x_35 ∧ (r_34 = 0 ∧ ((r_28.length : Int) = (IntKind.i64.wrap (Int.tmod a2 500)) ∧ True))) ∨ (¬ ((IntKind.i64.wrap (Int.tmod a2 500)) ≤ x_35) ∧ (r_34 = 1 ∧ (r_28.length : Int) = 0)))))))))
set_option maxHeartbeats 4000000 in
set_option maxRecDepth 100000 in
theorem reliquarylaw04_CipherEnds.calls (w : World) (l0 : List Int) (a1 : Int) (a2 : Int)   (hG0 : Src w (some ⟨0, 0, none⟩) (iv .i64 tab0)) (hl0 : l0.length = 32)  (H : reliquarylaw04_CipherEnds.rel l0 a1 a2 ) :
    Calls Tryd.prog 8 #[.agg (iv .u8 l0).toArray, .int .u8 a1, .int .u16 a2] w fun e w' => e = .returned (.bool true) ∧ Below w.heap.size w w' := by
  refine CW.enter Tryd.func8 rfl (n := 64) rfl [.agg (iv .u8 l0).toArray, .int .u8 a1, .int .u16 a2] (Nat.le_of_ble_eq_true rfl) ?_
  refine CW.sub [(0, .agg (iv .u8 l0).toArray), (1, .int .u8 a1), (2, .int .u16 a2)] ⟨rfl, rfl, rfl, trivial⟩ ?_
  have st0 : St w w [] := St.refl w
  refine CW.seq ?_
  refine CW.region ?_
  refine WL.box st0 rfl rfl ?_
  intro B_1 w_2 st_3
  replace st_3 : St w w_2 [.cells B_1 (iv .u8 l0) 23] := st_3
  refine WL.val Wanted.none (Runs.assign rfl) ?_
  refine WL.nil ?_
  refine QW.then_n ?_
  refine CW.seq ?_
  refine CW.region ?_
  obtain ⟨hr_5, H⟩ := H
  refine WL.call Wanted.none ent9 rfl (reliquarylaw04_awake.calls w_2 (hG0.ext st_3) hr_5) ?_
  rintro _ w_6 ⟨rfl, sc_8⟩
  have st_7 : St w w_6 [.cells B_1 (iv .u8 l0) 23] := st_3.below sc_8
  refine ⟨_, rfl, ?_⟩
  refine WL.val Wanted.none (Runs.assign rfl) ?_
  refine WL.nil ?_
  refine QW.then_n ?_
  refine CW.seq ?_
  refine CW.seq ?_
  refine CW.region ?_
  refine WL.val Wanted.none (Runs.move rfl) ?_
  refine WL.val Wanted.none (Runs.not rfl rfl) ?_
  refine WL.nil ?_
  refine QW.then_n ?_
  refine CW.cf rfl rfl ?_
  refine CW.skip ?_
  refine QW.then_n ?_
  refine CW.seq ?_
  refine CW.region ?_
  refine WL.val Wanted.none (Runs.move rfl) ?_
  refine WL.val Wanted.none (Runs.rem rfl rfl (by decide) rfl) ?_
  refine WL.val Wanted.none (Runs.conv Tryd.underlying30 ⟨_, Tryd.underlying5⟩ rfl rfl) ?_
  obtain ⟨x_9, e_10, H⟩ := H
  refine WL.val Wanted.none (Runs.sub rfl rfl e_10) ?_
  refine WL.val Wanted.none (Runs.conv Tryd.underlying24 ⟨_, Tryd.underlying30⟩ rfl rfl) ?_
  refine WL.val Wanted.none (Runs.assign rfl) ?_
  refine WL.nil ?_
  refine QW.then_n ?_
  refine CW.sub [(1, .int .u8 a1), (2, .int .u16 a2), (3, .pointer (some ⟨B_1, 0, none⟩)), (6, .bool false), (8, .int .u32 (IntKind.u32.wrap x_9))] ⟨rfl, rfl, rfl, rfl, rfl, trivial⟩ ?_
  refine CW.seq ?_
  refine CW.region ?_
  refine WL.val Wanted.none (Runs.move rfl) ?_
  refine WL.val Wanted.none (Runs.rem rfl rfl (by decide) rfl) ?_
  refine WL.val Wanted.none (Runs.conv Tryd.underlying3 ⟨_, Tryd.underlying39⟩ rfl rfl) ?_
  refine WL.val Wanted.none (Runs.assign rfl) ?_
  refine WL.nil ?_
  refine QW.then_n ?_
  refine CW.seq ?_
  refine CW.region_aw wide st_7 (fun w_11 st_12 => ?_)
  refine AW.take 1 rfl (by kernel_rfl) (by kernel_rfl) (by kernel_rfl) Wanted.none (fun _ => (Runs.move rfl)) ?_
  obtain ⟨m_13, e_14, H⟩ := H
  refine AW.take 2 rfl (by kernel_rfl) (by kernel_rfl) (by kernel_rfl) Wanted.none (fun _ => (Runs.build_arr (xs := m_13) arr25 rfl rfl (by rw [e_14]; rfl))) ?_
  refine AW.take 3 rfl (by kernel_rfl) (by kernel_rfl) (by kernel_rfl) Wanted.none (fun _ => (Runs.move rfl)) ?_
  refine AW.step2 0 4 rfl rfl (by kernel_rfl) ?_ ?_
  · refine WL.val Wanted.none (Runs.load_arr arr23 rfl (st_12.blk (i := 0) rfl) hl0) ?_
    refine WL.nil ?_
    refine AW.back ?_
    refine AW.step 4 rfl (by kernel_rfl) ?_
    obtain ⟨⟨p_15, q_16⟩, H⟩ := H
    obtain ⟨n_17, e_18⟩ : ∃ n_ : Nat, n_ = (IntKind.i64.wrap (Int.tmod a2 500)).toNat := ⟨_, rfl⟩
    refine WL.make st_12 Tryd.underlying31 elem5 rfl rfl p_15 q_16 (by decide) (N := n_17) e_18 ?_
    intro B_19 w_20 st_21
    replace st_21 : St w w_20 [.sl (some ⟨B_19, 0, none⟩) n_17 n_17 (iv .u8 (List.replicate (IntKind.i64.wrap (Int.tmod a2 500)).toNat (0 : Int))) 5 1, .cells B_1 (iv .u8 l0) 23] := by rw [← e_18]; rw [iv_replicate] at st_21; exact st_21
    have hn_22 : n_17 = (List.replicate (IntKind.i64.wrap (Int.tmod a2 500)).toNat (0 : Int)).length := by rw [List.length_replicate]; exact e_18
    refine WL.nil ?_
    refine AW.back ?_
    refine AW.step 5 rfl (by kernel_rfl) ?_
    obtain ⟨r_28, r_34, hr_24, H⟩ := H
    refine WL.call Wanted.none ent13 rfl (cipher_Crypt.calls w_20 l0 (IntKind.u32.wrap x_9) m_13 (List.replicate (IntKind.i64.wrap (Int.tmod a2 500)).toNat (0 : Int)) (some ⟨B_19, 0, none⟩) n_17 n_17 (hG0.ext st_21) hl0 (by rw [e_14]; rfl) (st_21.src_sl (k := 0) rfl) (hn_22) (st_21.cap (i := 0) rfl) r_28 r_34 hr_24) ?_
    rintro _ w_25 ⟨A_29, c_30, n_31, hn_32, rfl, sc_27⟩
    have st_26 : St w w_25 [.sl A_29 c_30 n_31 (iv .u8 r_28) 5 1, .sl (some ⟨B_19, 0, none⟩) n_17 n_17 (iv .u8 (List.replicate (IntKind.i64.wrap (Int.tmod a2 500)).toNat (0 : Int))) 5 1, .cells B_1 (iv .u8 l0) 23] := st_21.call sc_27
    refine ⟨_, rfl, ?_⟩
    refine WL.nil ?_
    refine AW.back ?_
    refine AW.take 6 rfl (by kernel_rfl) (by kernel_rfl) (by kernel_rfl) Wanted.none (fun _ => (Runs.move rfl)) ?_
    refine AW.take 7 rfl (by kernel_rfl) (by kernel_rfl) (by kernel_rfl) Wanted.none (fun _ => (Runs.extract rfl rfl)) ?_
    refine AW.take 8 rfl (by kernel_rfl) (by kernel_rfl) (by kernel_rfl) Wanted.none (fun _ => (Runs.extract rfl rfl)) ?_
    refine AW.take 9 rfl (by kernel_rfl) (by kernel_rfl) (by kernel_rfl) Wanted.none (fun _ => (Runs.assign rfl)) ?_
    refine AW.take 10 rfl (by kernel_rfl) (by kernel_rfl) (by kernel_rfl) Wanted.none (fun _ => (Runs.assign rfl)) ?_
    refine AW.done (by kernel_rfl) ?_
    refine QW.then_n ?_
    refine CW.sub [(1, .int .u8 a1), (6, .bool false), (9, .int .i64 (IntKind.i64.wrap (Int.tmod a2 500))), (10, .slice A_29 n_31 c_30), (11, .int .i64 r_34)] ⟨rfl, rfl, rfl, rfl, rfl, trivial⟩ ?_
    refine CW.seq ?_
    refine CW.region ?_
    refine WL.val Wanted.none (Runs.move rfl) ?_
    refine WL.val Wanted.none (Runs.move rfl) ?_
    refine WL.val Wanted.none (Runs.rem rfl rfl (by decide) rfl) ?_
    refine WL.val Wanted.none (Runs.conv Tryd.underlying3 ⟨_, Tryd.underlying5⟩ rfl rfl) ?_
    refine WL.val Wanted.none (Runs.add rfl rfl rfl) ?_
    obtain ⟨x_35, e_36, H⟩ := H
    refine WL.val Wanted.none (Runs.mul rfl rfl e_36) ?_
    refine WL.val Wanted.none (Runs.leq rfl rfl rfl) ?_
    refine WL.val Wanted.none (Runs.assign rfl) ?_
    refine WL.nil ?_
    refine QW.then_n ?_
    refine CW.sub [(6, .bool false), (9, .int .i64 (IntKind.i64.wrap (Int.tmod a2 500))), (10, .slice A_29 n_31 c_30), (11, .int .i64 r_34), (12, .bool (decide ((IntKind.i64.wrap (Int.tmod a2 500)) ≤ x_35)))] ⟨rfl, rfl, rfl, rfl, rfl, trivial⟩ ?_
    refine CW.seq ?_
    refine CW.region ?_
    refine WL.val Wanted.none (Runs.move rfl) ?_
    refine WL.val Wanted.none (Runs.move rfl) ?_
    rcases H with ⟨c_37, H⟩ | ⟨c_37, H⟩
    · have h_38 : (decide ((IntKind.i64.wrap (Int.tmod a2 500)) ≤ x_35)) = true := (decide_eq_true c_37)
      refine WL.on ?_ ?_; exact Wanted.guard (dj := 41) (by rfl) (evb (by rfl) h_38) (by rfl)
      refine WL.val Wanted.none (Runs.move rfl) ?_
      refine WL.on ?_ ?_; exact Wanted.guard (dj := 41) (by rfl) (evb (by rfl) h_38) (by rfl)
      refine WL.val Wanted.none (Runs.eql rfl rfl rfl) ?_
      refine WL.val Wanted.none (Runs.pick_t (evb rfl h_38) rfl) ?_
      refine WL.val Wanted.none (Runs.move rfl) ?_
      obtain ⟨c_39, H⟩ := H
      have h_40 : (r_34 == 0) = true := (beq_iff_eq.mpr c_39)
      refine WL.on ?_ ?_; exact Wanted.guard (dj := 45) (by rfl) (evb (by rfl) h_40) (by rfl)
      refine WL.val Wanted.none (Runs.move rfl) ?_
      refine WL.on ?_ ?_; exact Wanted.guard (dj := 45) (by rfl) (evb (by rfl) h_40) (by rfl)
      refine WL.val Wanted.none (Runs.len_sl Tryd.underlying31 rfl (by rw [hn_32])) ?_
      refine WL.on ?_ ?_; exact Wanted.guard (dj := 45) (by rfl) (evb (by rfl) h_40) (by rfl)
      refine WL.val Wanted.none (Runs.move rfl) ?_
      refine WL.on ?_ ?_; exact Wanted.guard (dj := 45) (by rfl) (evb (by rfl) h_40) (by rfl)
      refine WL.val Wanted.none (Runs.eql rfl rfl rfl) ?_
      refine WL.val Wanted.none (Runs.pick_t (evb rfl h_40) rfl) ?_
      refine WL.val Wanted.none (Runs.move rfl) ?_
      obtain ⟨c_41, H⟩ := H
      have h_42 : ((r_28.length : Int) == (IntKind.i64.wrap (Int.tmod a2 500))) = true := (beq_iff_eq.mpr c_41)
      refine WL.off ?_ ?_; exact Wanted.guard (dj := 51) (by rfl) (evb (by rfl) h_42) (by rfl)
      refine WL.off ?_ ?_; exact Wanted.guard (dj := 51) (by rfl) (evb (by rfl) h_42) (by rfl)
      refine WL.off ?_ ?_; exact Wanted.guard (dj := 51) (by rfl) (evb (by rfl) h_42) (by rfl)
      refine WL.off ?_ ?_; exact Wanted.undef (dj := 54) rfl rfl
      refine WL.off ?_ ?_; exact Wanted.undef (dj := 54) rfl rfl
      refine WL.off ?_ ?_; exact Wanted.guard (dj := 51) (by rfl) (evb (by rfl) h_42) (by rfl)
      refine WL.off ?_ ?_; exact Wanted.guard (dj := 51) (by rfl) (evb (by rfl) h_42) (by rfl)
      refine WL.off ?_ ?_; exact Wanted.undef (dj := 58) rfl rfl
      refine WL.off ?_ ?_; exact Wanted.undef (dj := 58) rfl rfl
      refine WL.off ?_ ?_; exact Wanted.undef (dj := 58) rfl rfl
      refine WL.off ?_ ?_; exact Wanted.guard (dj := 51) (by rfl) (evb (by rfl) h_42) (by rfl)
      refine WL.val Wanted.none (Runs.pick_t (evb rfl h_42) rfl) ?_
      refine WL.val Wanted.none (Runs.assign rfl) ?_
      refine WL.nil ?_
      refine QW.then_n ?_
      refine CW.sub [(6, .bool true)] ⟨rfl, trivial⟩ ?_
      refine CW.ret ?_
      exact QW.ret1 rfl rfl ⟨rfl, st_26.ext⟩
    · have h_38 : (decide ((IntKind.i64.wrap (Int.tmod a2 500)) ≤ x_35)) = false := (decide_eq_false c_37)
      refine WL.off ?_ ?_; exact Wanted.guard (dj := 41) (by rfl) (evb (by rfl) h_38) (by rfl)
      refine WL.off ?_ ?_; exact Wanted.guard (dj := 41) (by rfl) (evb (by rfl) h_38) (by rfl)
      refine WL.val Wanted.none (Runs.pick_f (evb rfl h_38) rfl) ?_
      refine WL.val Wanted.none (Runs.move rfl) ?_
      refine WL.off ?_ ?_; exact Wanted.guard (dj := 45) (by rfl) (by rfl) (by rfl)
      refine WL.off ?_ ?_; exact Wanted.guard (dj := 45) (by rfl) (by rfl) (by rfl)
      refine WL.off ?_ ?_; exact Wanted.guard (dj := 45) (by rfl) (by rfl) (by rfl)
      refine WL.off ?_ ?_; exact Wanted.guard (dj := 45) (by rfl) (by rfl) (by rfl)
      refine WL.val Wanted.none (Runs.pick_f rfl rfl) ?_
      refine WL.val Wanted.none (Runs.move rfl) ?_
      refine WL.on ?_ ?_; exact Wanted.guard (dj := 51) (by rfl) (by rfl) (by rfl)
      refine WL.val Wanted.none (Runs.move rfl) ?_
      refine WL.on ?_ ?_; exact Wanted.guard (dj := 51) (by rfl) (by rfl) (by rfl)
      refine WL.val Wanted.none (Runs.not (evb rfl h_38) rfl) ?_
      refine WL.on ?_ ?_; exact Wanted.guard (dj := 51) (by rfl) (by rfl) (by rfl)
      refine WL.val Wanted.none (Runs.move rfl) ?_
      refine WL.on ?_ ?_; exact Wanted.guard (dj := 54) (by rfl) (by rfl) (by rfl)
      refine WL.val Wanted.none (Runs.move rfl) ?_
      refine WL.on ?_ ?_; exact Wanted.guard (dj := 54) (by rfl) (by rfl) (by rfl)
      refine WL.val Wanted.none (Runs.eql rfl rfl rfl) ?_
      refine WL.on ?_ ?_; exact Wanted.guard (dj := 51) (by rfl) (by rfl) (by rfl)
      refine WL.val Wanted.none (Runs.pick_t rfl rfl) ?_
      refine WL.on ?_ ?_; exact Wanted.guard (dj := 51) (by rfl) (by rfl) (by rfl)
      refine WL.val Wanted.none (Runs.move rfl) ?_
      obtain ⟨c_43, H⟩ := H
      have h_44 : (r_34 == 1) = true := (beq_iff_eq.mpr c_43)
      refine WL.on ?_ ?_; exact Wanted.guard (dj := 58) (by rfl) (evb (by rfl) h_44) (by rfl)
      refine WL.val Wanted.none (Runs.move rfl) ?_
      refine WL.on ?_ ?_; exact Wanted.guard (dj := 58) (by rfl) (evb (by rfl) h_44) (by rfl)
      refine WL.val Wanted.none (Runs.len_sl Tryd.underlying31 rfl (by rw [hn_32])) ?_
      refine WL.on ?_ ?_; exact Wanted.guard (dj := 58) (by rfl) (evb (by rfl) h_44) (by rfl)
      refine WL.val Wanted.none (Runs.eql rfl rfl rfl) ?_
      refine WL.on ?_ ?_; exact Wanted.guard (dj := 51) (by rfl) (by rfl) (by rfl)
      refine WL.val Wanted.none (Runs.pick_t (evb rfl h_44) rfl) ?_
      refine WL.val Wanted.none (Runs.pick_f rfl rfl) ?_
      refine WL.val Wanted.none (Runs.assign rfl) ?_
      refine WL.nil ?_
      refine QW.then_n ?_
      refine CW.sub [(6, .bool ((r_28.length : Int) == 0))] ⟨rfl, trivial⟩ ?_
      refine CW.ret ?_
      have hz : ((r_28.length : Int) == 0) = true := (beq_iff_eq.mpr H)
      exact QW.ret1 rfl (evb rfl hz) ⟨rfl, st_26.ext⟩
  · obtain ⟨⟨p_45, q_46⟩, H⟩ := H
    obtain ⟨n_47, e_48⟩ : ∃ n_ : Nat, n_ = (IntKind.i64.wrap (Int.tmod a2 500)).toNat := ⟨_, rfl⟩
    refine WL.make st_12 Tryd.underlying31 elem5 rfl rfl p_45 q_46 (by decide) (N := n_47) e_48 ?_
    intro B_49 w_50 st_51
    replace st_51 : St w w_50 [.sl (some ⟨B_49, 0, none⟩) n_47 n_47 (iv .u8 (List.replicate (IntKind.i64.wrap (Int.tmod a2 500)).toNat (0 : Int))) 5 1, .cells B_1 (iv .u8 l0) 23] := by rw [← e_48]; rw [iv_replicate] at st_51; exact st_51
    have hn_52 : n_47 = (List.replicate (IntKind.i64.wrap (Int.tmod a2 500)).toNat (0 : Int)).length := by rw [List.length_replicate]; exact e_48
    refine WL.nil ?_
    refine AW.back ?_
    refine AW.step 0 rfl (by kernel_rfl) ?_
    refine WL.val Wanted.none (Runs.load_arr arr23 rfl (st_51.blk (i := 1) rfl) hl0) ?_
    refine WL.nil ?_
    refine AW.back ?_
    refine AW.step 5 rfl (by kernel_rfl) ?_
    obtain ⟨r_58, r_64, hr_54, H⟩ := H
    refine WL.call Wanted.none ent13 rfl (cipher_Crypt.calls w_50 l0 (IntKind.u32.wrap x_9) m_13 (List.replicate (IntKind.i64.wrap (Int.tmod a2 500)).toNat (0 : Int)) (some ⟨B_49, 0, none⟩) n_47 n_47 (hG0.ext st_51) hl0 (by rw [e_14]; rfl) (st_51.src_sl (k := 0) rfl) (hn_52) (st_51.cap (i := 0) rfl) r_58 r_64 hr_54) ?_
    rintro _ w_55 ⟨A_59, c_60, n_61, hn_62, rfl, sc_57⟩
    have st_56 : St w w_55 [.sl A_59 c_60 n_61 (iv .u8 r_58) 5 1, .sl (some ⟨B_49, 0, none⟩) n_47 n_47 (iv .u8 (List.replicate (IntKind.i64.wrap (Int.tmod a2 500)).toNat (0 : Int))) 5 1, .cells B_1 (iv .u8 l0) 23] := st_51.call sc_57
    refine ⟨_, rfl, ?_⟩
    refine WL.nil ?_
    refine AW.back ?_
    refine AW.take 6 rfl (by kernel_rfl) (by kernel_rfl) (by kernel_rfl) Wanted.none (fun _ => (Runs.move rfl)) ?_
    refine AW.take 7 rfl (by kernel_rfl) (by kernel_rfl) (by kernel_rfl) Wanted.none (fun _ => (Runs.extract rfl rfl)) ?_
    refine AW.take 8 rfl (by kernel_rfl) (by kernel_rfl) (by kernel_rfl) Wanted.none (fun _ => (Runs.extract rfl rfl)) ?_
    refine AW.take 9 rfl (by kernel_rfl) (by kernel_rfl) (by kernel_rfl) Wanted.none (fun _ => (Runs.assign rfl)) ?_
    refine AW.take 10 rfl (by kernel_rfl) (by kernel_rfl) (by kernel_rfl) Wanted.none (fun _ => (Runs.assign rfl)) ?_
    refine AW.done (by kernel_rfl) ?_
    refine QW.then_n ?_
    refine CW.sub [(1, .int .u8 a1), (6, .bool false), (9, .int .i64 (IntKind.i64.wrap (Int.tmod a2 500))), (10, .slice A_59 n_61 c_60), (11, .int .i64 r_64)] ⟨rfl, rfl, rfl, rfl, rfl, trivial⟩ ?_
    refine CW.seq ?_
    refine CW.region ?_
    refine WL.val Wanted.none (Runs.move rfl) ?_
    refine WL.val Wanted.none (Runs.move rfl) ?_
    refine WL.val Wanted.none (Runs.rem rfl rfl (by decide) rfl) ?_
    refine WL.val Wanted.none (Runs.conv Tryd.underlying3 ⟨_, Tryd.underlying5⟩ rfl rfl) ?_
    refine WL.val Wanted.none (Runs.add rfl rfl rfl) ?_
    obtain ⟨x_65, e_66, H⟩ := H
    refine WL.val Wanted.none (Runs.mul rfl rfl e_66) ?_
    refine WL.val Wanted.none (Runs.leq rfl rfl rfl) ?_
    refine WL.val Wanted.none (Runs.assign rfl) ?_
    refine WL.nil ?_
    refine QW.then_n ?_
    refine CW.sub [(6, .bool false), (9, .int .i64 (IntKind.i64.wrap (Int.tmod a2 500))), (10, .slice A_59 n_61 c_60), (11, .int .i64 r_64), (12, .bool (decide ((IntKind.i64.wrap (Int.tmod a2 500)) ≤ x_65)))] ⟨rfl, rfl, rfl, rfl, rfl, trivial⟩ ?_
    refine CW.seq ?_
    refine CW.region ?_
    refine WL.val Wanted.none (Runs.move rfl) ?_
    refine WL.val Wanted.none (Runs.move rfl) ?_
    rcases H with ⟨c_67, H⟩ | ⟨c_67, H⟩
    · have h_68 : (decide ((IntKind.i64.wrap (Int.tmod a2 500)) ≤ x_65)) = true := (decide_eq_true c_67)
      refine WL.on ?_ ?_; exact Wanted.guard (dj := 41) (by rfl) (evb (by rfl) h_68) (by rfl)
      refine WL.val Wanted.none (Runs.move rfl) ?_
      refine WL.on ?_ ?_; exact Wanted.guard (dj := 41) (by rfl) (evb (by rfl) h_68) (by rfl)
      refine WL.val Wanted.none (Runs.eql rfl rfl rfl) ?_
      refine WL.val Wanted.none (Runs.pick_t (evb rfl h_68) rfl) ?_
      refine WL.val Wanted.none (Runs.move rfl) ?_
      obtain ⟨c_69, H⟩ := H
      have h_70 : (r_64 == 0) = true := (beq_iff_eq.mpr c_69)
      refine WL.on ?_ ?_; exact Wanted.guard (dj := 45) (by rfl) (evb (by rfl) h_70) (by rfl)
      refine WL.val Wanted.none (Runs.move rfl) ?_
      refine WL.on ?_ ?_; exact Wanted.guard (dj := 45) (by rfl) (evb (by rfl) h_70) (by rfl)
      refine WL.val Wanted.none (Runs.len_sl Tryd.underlying31 rfl (by rw [hn_62])) ?_
      refine WL.on ?_ ?_; exact Wanted.guard (dj := 45) (by rfl) (evb (by rfl) h_70) (by rfl)
      refine WL.val Wanted.none (Runs.move rfl) ?_
      refine WL.on ?_ ?_; exact Wanted.guard (dj := 45) (by rfl) (evb (by rfl) h_70) (by rfl)
      refine WL.val Wanted.none (Runs.eql rfl rfl rfl) ?_
      refine WL.val Wanted.none (Runs.pick_t (evb rfl h_70) rfl) ?_
      refine WL.val Wanted.none (Runs.move rfl) ?_
      obtain ⟨c_71, H⟩ := H
      have h_72 : ((r_58.length : Int) == (IntKind.i64.wrap (Int.tmod a2 500))) = true := (beq_iff_eq.mpr c_71)
      refine WL.off ?_ ?_; exact Wanted.guard (dj := 51) (by rfl) (evb (by rfl) h_72) (by rfl)
      refine WL.off ?_ ?_; exact Wanted.guard (dj := 51) (by rfl) (evb (by rfl) h_72) (by rfl)
      refine WL.off ?_ ?_; exact Wanted.guard (dj := 51) (by rfl) (evb (by rfl) h_72) (by rfl)
      refine WL.off ?_ ?_; exact Wanted.undef (dj := 54) rfl rfl
      refine WL.off ?_ ?_; exact Wanted.undef (dj := 54) rfl rfl
      refine WL.off ?_ ?_; exact Wanted.guard (dj := 51) (by rfl) (evb (by rfl) h_72) (by rfl)
      refine WL.off ?_ ?_; exact Wanted.guard (dj := 51) (by rfl) (evb (by rfl) h_72) (by rfl)
      refine WL.off ?_ ?_; exact Wanted.undef (dj := 58) rfl rfl
      refine WL.off ?_ ?_; exact Wanted.undef (dj := 58) rfl rfl
      refine WL.off ?_ ?_; exact Wanted.undef (dj := 58) rfl rfl
      refine WL.off ?_ ?_; exact Wanted.guard (dj := 51) (by rfl) (evb (by rfl) h_72) (by rfl)
      refine WL.val Wanted.none (Runs.pick_t (evb rfl h_72) rfl) ?_
      refine WL.val Wanted.none (Runs.assign rfl) ?_
      refine WL.nil ?_
      refine QW.then_n ?_
      refine CW.sub [(6, .bool true)] ⟨rfl, trivial⟩ ?_
      refine CW.ret ?_
      exact QW.ret1 rfl rfl ⟨rfl, st_56.ext⟩
    · have h_68 : (decide ((IntKind.i64.wrap (Int.tmod a2 500)) ≤ x_65)) = false := (decide_eq_false c_67)
      refine WL.off ?_ ?_; exact Wanted.guard (dj := 41) (by rfl) (evb (by rfl) h_68) (by rfl)
      refine WL.off ?_ ?_; exact Wanted.guard (dj := 41) (by rfl) (evb (by rfl) h_68) (by rfl)
      refine WL.val Wanted.none (Runs.pick_f (evb rfl h_68) rfl) ?_
      refine WL.val Wanted.none (Runs.move rfl) ?_
      refine WL.off ?_ ?_; exact Wanted.guard (dj := 45) (by rfl) (by rfl) (by rfl)
      refine WL.off ?_ ?_; exact Wanted.guard (dj := 45) (by rfl) (by rfl) (by rfl)
      refine WL.off ?_ ?_; exact Wanted.guard (dj := 45) (by rfl) (by rfl) (by rfl)
      refine WL.off ?_ ?_; exact Wanted.guard (dj := 45) (by rfl) (by rfl) (by rfl)
      refine WL.val Wanted.none (Runs.pick_f rfl rfl) ?_
      refine WL.val Wanted.none (Runs.move rfl) ?_
      refine WL.on ?_ ?_; exact Wanted.guard (dj := 51) (by rfl) (by rfl) (by rfl)
      refine WL.val Wanted.none (Runs.move rfl) ?_
      refine WL.on ?_ ?_; exact Wanted.guard (dj := 51) (by rfl) (by rfl) (by rfl)
      refine WL.val Wanted.none (Runs.not (evb rfl h_68) rfl) ?_
      refine WL.on ?_ ?_; exact Wanted.guard (dj := 51) (by rfl) (by rfl) (by rfl)
      refine WL.val Wanted.none (Runs.move rfl) ?_
      refine WL.on ?_ ?_; exact Wanted.guard (dj := 54) (by rfl) (by rfl) (by rfl)
      refine WL.val Wanted.none (Runs.move rfl) ?_
      refine WL.on ?_ ?_; exact Wanted.guard (dj := 54) (by rfl) (by rfl) (by rfl)
      refine WL.val Wanted.none (Runs.eql rfl rfl rfl) ?_
      refine WL.on ?_ ?_; exact Wanted.guard (dj := 51) (by rfl) (by rfl) (by rfl)
      refine WL.val Wanted.none (Runs.pick_t rfl rfl) ?_
      refine WL.on ?_ ?_; exact Wanted.guard (dj := 51) (by rfl) (by rfl) (by rfl)
      refine WL.val Wanted.none (Runs.move rfl) ?_
      obtain ⟨c_73, H⟩ := H
      have h_74 : (r_64 == 1) = true := (beq_iff_eq.mpr c_73)
      refine WL.on ?_ ?_; exact Wanted.guard (dj := 58) (by rfl) (evb (by rfl) h_74) (by rfl)
      refine WL.val Wanted.none (Runs.move rfl) ?_
      refine WL.on ?_ ?_; exact Wanted.guard (dj := 58) (by rfl) (evb (by rfl) h_74) (by rfl)
      refine WL.val Wanted.none (Runs.len_sl Tryd.underlying31 rfl (by rw [hn_62])) ?_
      refine WL.on ?_ ?_; exact Wanted.guard (dj := 58) (by rfl) (evb (by rfl) h_74) (by rfl)
      refine WL.val Wanted.none (Runs.eql rfl rfl rfl) ?_
      refine WL.on ?_ ?_; exact Wanted.guard (dj := 51) (by rfl) (by rfl) (by rfl)
      refine WL.val Wanted.none (Runs.pick_t (evb rfl h_74) rfl) ?_
      refine WL.val Wanted.none (Runs.pick_f rfl rfl) ?_
      refine WL.val Wanted.none (Runs.assign rfl) ?_
      refine WL.nil ?_
      refine QW.then_n ?_
      refine CW.sub [(6, .bool ((r_58.length : Int) == 0))] ⟨rfl, trivial⟩ ?_
      refine CW.ret ?_
      have hz : ((r_58.length : Int) == 0) = true := (beq_iff_eq.mpr H)
      exact QW.ret1 rfl (evb rfl hz) ⟨rfl, st_56.ext⟩

end Go.Proofs.YtfbcokceambghaaDoor
