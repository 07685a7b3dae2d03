/- Walks: each function computes what its relation says, and a call of it ends so. Printed by a program of this session (wip/gen). -/
import Derived.Test.YtbanecjdkphooaaDoorGx2
namespace Go.Proofs.YtbanecjdkphooaaDoor
open Go Go.Kr Go.RowKit
set_option linter.unusedVariables false
set_option linter.unusedSimpArgs false
/-! ### reliquarylaw02_DigestDigits: function 6 -/
def reliquarylaw02_DigestDigits.L1 (l0 : List Int) (a1 : Int) (a2 : Int) (r_13 : ByteArray) : Nat → Bool → Int → Prop
  | 0, _, _ => False
  | kL1 + 1, b_17, x_18 => ((x_18 < 64 ∧ ((0 ≤ x_18 ∧ x_18 < (r_13.size : Int)) ∧ (((bn r_13 ((x_18).toNat)) < 48 ∧ ((0 ≤ x_18 ∧ x_18 < (r_13.size : Int)) ∧ (¬ ((bn r_13 ((x_18).toNat)) < 97) ∧ ((0 ≤ x_18 ∧ x_18 < (r_13.size : Int)) ∧ (¬ ((bn r_13 ((x_18).toNat)) > 102) ∧ reliquarylaw02_DigestDigits.L1 l0 a1 a2 r_13 kL1 b_17 (IntKind.i64.wrap (x_18 + 1))))))) ∨ (¬ ((bn r_13 ((x_18).toNat)) < 48) ∧ ((0 ≤ x_18 ∧ x_18 < (r_13.size : Int)) ∧ (((bn r_13 ((x_18).toNat)) > 57 ∧ ((0 ≤ x_18 ∧ x_18 < (r_13.size : Int)) ∧ (¬ ((bn r_13 ((x_18).toNat)) < 97) ∧ ((0 ≤ x_18 ∧ x_18 < (r_13.size : Int)) ∧ (¬ ((bn r_13 ((x_18).toNat)) > 102) ∧ reliquarylaw02_DigestDigits.L1 l0 a1 a2 r_13 kL1 b_17 (IntKind.i64.wrap (x_18 + 1))))))) ∨ (¬ ((bn r_13 ((x_18).toNat)) > 57) ∧ reliquarylaw02_DigestDigits.L1 l0 a1 a2 r_13 kL1 b_17 (IntKind.i64.wrap (x_18 + 1))))))))) ∨ (¬ (x_18 < 64) ∧ ((0 ≤ (0 : Int) ∧ (0 : Int) ≤ (IntKind.i64.wrap (Int.tmod a1 64)) ∧ (IntKind.i64.wrap (Int.tmod a1 64)) ≤ (r_13.size : Int)) ∧ ((0 ≤ (IntKind.i64.wrap ((IntKind.i64.wrap (Int.tmod a1 64)) + 1)) ∧ (IntKind.i64.wrap ((IntKind.i64.wrap (Int.tmod a1 64)) + 1)) ≤ (r_13.size : Int) ∧ (r_13.size : Int) ≤ (r_13.size : Int)) ∧ (((sx r_13 (0 : Int) (IntKind.i64.wrap (Int.tmod a1 64))).size + (strOfNums [a2]).size ≤ 1099511627776) ∧ (∃ x_61 : ByteArray, x_61 = (sx r_13 (0 : Int) (IntKind.i64.wrap (Int.tmod a1 64))) ++ (strOfNums [a2]) ∧ ((x_61.size + (sx r_13 (IntKind.i64.wrap ((IntKind.i64.wrap (Int.tmod a1 64)) + 1)) (r_13.size : Int)).size ≤ 1099511627776) ∧ (∃ x_64 : ByteArray, x_64 = x_61 ++ (sx r_13 (IntKind.i64.wrap ((IntKind.i64.wrap (Int.tmod a1 64)) + 1)) (r_13.size : Int)) ∧ (∃ (r_70 : List Int) (r_72 : Int), digest_Read.rel x_64 r_70 r_72 ∧ ((a2 ≥ 48 ∧ ((a2 ≤ 57 ∧ (r_72 = 0 ∧ ((0 ≤ (IntKind.i64.wrap (Int.tmod a1 64)) ∧ (IntKind.i64.wrap (Int.tmod a1 64)) < (r_13.size : Int)) ∧ (r_70 == l0) = (a2 == (bn r_13 ((IntKind.i64.wrap (Int.tmod a1 64)).toNat)))))) ∨ (¬ (a2 ≤ 57) ∧ ((a2 ≥ 97 ∧ ((¬ (a2 ≤ 102) ∧ (r_72 = 11 ∧ (∃ m_98 : List Int, m_98 = List.replicate 32 (0 : Int) ∧ r_70 = m_98))) ∨ (¬ (¬ (a2 ≤ 102)) ∧ (r_72 = 0 ∧ ((0 ≤ (IntKind.i64.wrap (Int.tmod a1 64)) ∧ (IntKind.i64.wrap (Int.tmod a1 64)) < (r_13.size : Int)) ∧ (r_70 == l0) = (a2 == (bn r_13 ((IntKind.i64.wrap (Int.tmod a1 64)).toNat)))))))) ∨ (¬ (a2 ≥ 97) ∧ (r_72 = 11 ∧ (∃ m_110 : List Int, m_110 = List.replicate 32 (0 : Int) ∧ r_70 = m_110))))))) ∨ (¬ (a2 ≥ 48) ∧ ((a2 ≥ 97 ∧ ((¬ (a2 ≤ 102) ∧ (r_72 = 11 ∧ (∃ m_118 : List Int, m_118 = List.replicate 32 (0 : Int) ∧ r_70 = m_118))) ∨ (¬ (¬ (a2 ≤ 102)) ∧ (r_72 = 0 ∧ ((0 ≤ (IntKind.i64.wrap (Int.tmod a1 64)) ∧ (IntKind.i64.wrap (Int.tmod a1 64)) < (r_13.size : Int)) ∧ (r_70 == l0) = (a2 == (bn r_13 ((IntKind.i64.wrap (Int.tmod a1 64)).toNat)))))))) ∨ (¬ (a2 ≥ 97) ∧ (r_72 = 11 ∧ (∃ m_130 : List Int, m_130 = List.replicate 32 (0 : Int) ∧ r_70 = m_130)))))))))))))))
def reliquarylaw02_DigestDigits.rel (l0 : List Int) (a1 : Int) (a2 : Int)  : Prop := (reliquarylaw02_awake.rel  ∧ (∃ (r_13 : ByteArray), digest_Hex.rel l0 r_13 ∧ (¬ ((r_13.size : Int) ≠ 64) ∧ (∃ k_ : Nat, reliquarylaw02_DigestDigits.L1 l0 a1 a2 r_13 k_ false 0))))
set_option maxHeartbeats 4000000 in
set_option maxRecDepth 100000 in
theorem reliquarylaw02_DigestDigits.calls (w : World) (l0 : List Int) (a1 : Int) (a2 : Int)   (hG0 : Src w (some ⟨0, 0, none⟩) (iv .u32 tab0)) (hl0 : l0.length = 32)  (H : reliquarylaw02_DigestDigits.rel l0 a1 a2 ) :
    Calls Tryd.prog 6 #[.agg (iv .u8 l0).toArray, .int .u8 a1, .int .u8 a2] w fun e w' => e = .returned (.bool true) ∧ Below w.heap.size w w' := by
  refine CW.enter Tryd.func6 rfl (n := 103) rfl [.agg (iv .u8 l0).toArray, .int .u8 a1, .int .u8 a2] (Nat.le_of_ble_eq_true rfl) ?_
  refine CW.sub [(0, .agg (iv .u8 l0).toArray), (1, .int .u8 a1), (2, .int .u8 a2)] ⟨rfl, rfl, rfl, trivial⟩ ?_
  have st0 : St w w [] := St.refl w
  refine CW.seq ?_
  refine CW.region ?_
  refine WL.box st0 rfl rfl ?_
  intro B_1 w_2 st_3
  replace st_3 : St w w_2 [.cells B_1 (iv .u8 l0) 25] := st_3
  refine WL.val Wanted.none (Runs.assign rfl) ?_
  refine WL.nil ?_
  refine QW.then_n ?_
  refine CW.seq ?_
  refine CW.region ?_
  obtain ⟨hr_5, H⟩ := H
  refine WL.call Wanted.none ent9 rfl (reliquarylaw02_awake.calls w_2 (hG0.ext st_3) hr_5) ?_
  rintro _ w_6 ⟨rfl, sc_8⟩
  have st_7 : St w w_6 [.cells B_1 (iv .u8 l0) 25] := st_3.below sc_8
  refine ⟨_, rfl, ?_⟩
  refine WL.val Wanted.none (Runs.assign rfl) ?_
  refine WL.nil ?_
  refine QW.then_n ?_
  refine CW.seq ?_
  refine CW.seq ?_
  refine CW.region ?_
  refine WL.val Wanted.none (Runs.move rfl) ?_
  refine WL.val Wanted.none (Runs.not rfl rfl) ?_
  refine WL.nil ?_
  refine QW.then_n ?_
  refine CW.cf rfl rfl ?_
  refine CW.skip ?_
  refine QW.then_n ?_
  refine CW.seq ?_
  refine CW.region ?_
  refine WL.val Wanted.none (Runs.load_arr arr25 rfl (st_7.blk (i := 0) rfl) hl0) ?_
  obtain ⟨r_13, hr_9, H⟩ := H
  refine WL.call Wanted.none ent12 rfl (digest_Hex.calls w_6 l0 hl0 r_13 hr_9) ?_
  rintro _ w_10 ⟨rfl, sc_12⟩
  have st_11 : St w w_10 [.cells B_1 (iv .u8 l0) 25] := st_7.call sc_12
  refine ⟨_, rfl, ?_⟩
  refine WL.val Wanted.none (Runs.assign rfl) ?_
  refine WL.nil ?_
  refine QW.then_n ?_
  refine CW.sub [(1, .int .u8 a1), (2, .int .u8 a2), (3, .pointer (some ⟨B_1, 0, none⟩)), (6, .bool false), (8, .string r_13)] ⟨rfl, rfl, rfl, rfl, rfl, trivial⟩ ?_
  refine CW.seq ?_
  refine CW.seq ?_
  refine CW.region ?_
  refine WL.val Wanted.none (Runs.move rfl) ?_
  refine WL.val Wanted.none (Runs.len_str Tryd.underlying9 rfl) ?_
  refine WL.val Wanted.none (Runs.neq rfl rfl rfl) ?_
  refine WL.nil ?_
  refine QW.then_n ?_
  obtain ⟨c_14, H⟩ := H
  have h_15 : ((r_13.size : Int) != 64) = false := (bne_eq_false_iff_eq.mpr (Decidable.not_not.mp c_14))
  refine CW.cf rfl h_15 ?_
  refine CW.skip ?_
  refine QW.then_n ?_
  refine CW.seq ?_
  refine CW.seq ?_
  refine CW.region ?_
  refine WL.val Wanted.none (Runs.assign rfl) ?_
  refine WL.nil ?_
  refine QW.then_n ?_
  refine CW.block ?_
  obtain ⟨k_16, H⟩ := H
  refine CW.sub [(1, .int .u8 a1), (2, .int .u8 a2), (3, .pointer (some ⟨B_1, 0, none⟩)), (6, .bool false), (8, .string r_13), (9, .int .i64 0)] ⟨rfl, rfl, rfl, rfl, rfl, rfl, trivial⟩ ?_
  refine CW.loop (fun kL1 l_ w_ => ∃ (b_17 : Bool) (x_18 : Int), l_ = [(1, .int .u8 a1), (2, .int .u8 a2), (3, .pointer (some ⟨B_1, 0, none⟩)), (6, .bool b_17), (8, .string r_13), (9, .int .i64 x_18)] ∧ reliquarylaw02_DigestDigits.L1 l0 a1 a2 r_13 kL1 b_17 x_18 ∧ St w w_ [.cells B_1 (iv .u8 l0) 25]) (k := k_16) ⟨false, 0, rfl, H, st_11⟩ (fun _ _ h => by obtain ⟨_, _, _, h, _⟩ := h; exact h.elim) ?_
  rintro kL1 l_21 w_19 ⟨b_17, x_18, rfl, H, st_20⟩
  refine CW.seq ?_
  refine CW.seq ?_
  refine CW.region ?_
  refine WL.val Wanted.none (Runs.move rfl) ?_
  refine WL.val Wanted.none (Runs.lss rfl rfl rfl) ?_
  refine WL.nil ?_
  refine QW.then_n ?_
  rcases H with ⟨c_22, H⟩ | ⟨c_22, H⟩
  · have h_23 : (decide (x_18 < 64)) = true := (decide_eq_true c_22)
    refine CW.ct rfl h_23 ?_
    refine CW.skip ?_
    refine QW.then_n ?_
    refine CW.seq ?_
    refine CW.block ?_
    refine CW.seq ?_
    refine CW.region ?_
    refine WL.val Wanted.none (Runs.move rfl) ?_
    refine WL.val Wanted.none (Runs.move rfl) ?_
    obtain ⟨⟨p_24, q_25⟩, H⟩ := H
    refine WL.val Wanted.none (Runs.index_str Tryd.underlying9 rfl rfl p_24 q_25 (j := (x_18).toNat) (by first | rfl | omega)) ?_
    refine WL.val Wanted.none (Runs.lss rfl rfl rfl) ?_
    refine WL.val Wanted.none (Runs.move rfl) ?_
    rcases H with ⟨c_26, H⟩ | ⟨c_26, H⟩
    · have h_27 : (decide ((bn r_13 ((x_18).toNat)) < 48)) = true := (decide_eq_true c_26)
      refine WL.off ?_ ?_; exact Wanted.guard (dj := 30) (by rfl) (evb (by rfl) h_27) (by rfl)
      refine WL.off ?_ ?_; exact Wanted.guard (dj := 30) (by rfl) (evb (by rfl) h_27) (by rfl)
      refine WL.off ?_ ?_; exact Wanted.guard (dj := 30) (by rfl) (evb (by rfl) h_27) (by rfl)
      refine WL.off ?_ ?_; exact Wanted.guard (dj := 30) (by rfl) (evb (by rfl) h_27) (by rfl)
      refine WL.val Wanted.none (Runs.pick_t (evb rfl h_27) rfl) ?_
      refine WL.val Wanted.none (Runs.move rfl) ?_
      refine WL.on ?_ ?_; exact Wanted.guard (dj := 36) (by rfl) (by rfl) (by rfl)
      refine WL.val Wanted.none (Runs.move rfl) ?_
      refine WL.on ?_ ?_; exact Wanted.guard (dj := 36) (by rfl) (by rfl) (by rfl)
      refine WL.val Wanted.none (Runs.move rfl) ?_
      refine WL.on ?_ ?_; exact Wanted.guard (dj := 36) (by rfl) (by rfl) (by rfl)
      obtain ⟨⟨p_28, q_29⟩, H⟩ := H
      refine WL.val Wanted.none (Runs.index_str Tryd.underlying9 rfl rfl p_28 q_29 (j := (x_18).toNat) (by first | rfl | omega)) ?_
      refine WL.on ?_ ?_; exact Wanted.guard (dj := 36) (by rfl) (by rfl) (by rfl)
      refine WL.val Wanted.none (Runs.lss rfl rfl rfl) ?_
      refine WL.on ?_ ?_; exact Wanted.guard (dj := 36) (by rfl) (by rfl) (by rfl)
      refine WL.val Wanted.none (Runs.move rfl) ?_
      obtain ⟨c_30, H⟩ := H
      have h_31 : (decide ((bn r_13 ((x_18).toNat)) < 97)) = false := (decide_eq_false c_30)
      refine WL.on ?_ ?_; exact Wanted.guard (dj := 41) (by rfl) (evb (by rfl) h_31) (by rfl)
      refine WL.val Wanted.none (Runs.move rfl) ?_
      refine WL.on ?_ ?_; exact Wanted.guard (dj := 41) (by rfl) (evb (by rfl) h_31) (by rfl)
      refine WL.val Wanted.none (Runs.move rfl) ?_
      refine WL.on ?_ ?_; exact Wanted.guard (dj := 41) (by rfl) (evb (by rfl) h_31) (by rfl)
      obtain ⟨⟨p_32, q_33⟩, H⟩ := H
      refine WL.val Wanted.none (Runs.index_str Tryd.underlying9 rfl rfl p_32 q_33 (j := (x_18).toNat) (by first | rfl | omega)) ?_
      refine WL.on ?_ ?_; exact Wanted.guard (dj := 41) (by rfl) (evb (by rfl) h_31) (by rfl)
      refine WL.val Wanted.none (Runs.gtr rfl rfl rfl) ?_
      refine WL.on ?_ ?_; exact Wanted.guard (dj := 36) (by rfl) (by rfl) (by rfl)
      refine WL.val Wanted.none (Runs.pick_f (evb rfl h_31) rfl) ?_
      refine WL.val Wanted.none (Runs.pick_t rfl rfl) ?_
      refine WL.nil ?_
      refine QW.then_n ?_
      obtain ⟨c_34, H⟩ := H
      have h_35 : (decide ((bn r_13 ((x_18).toNat)) > 102)) = false := (decide_eq_false c_34)
      refine CW.cf rfl h_35 ?_
      refine CW.skip ?_
      refine QW.blk_n ?_
      refine QW.then_n ?_
      refine CW.region ?_
      refine WL.val Wanted.none (Runs.move rfl) ?_
      refine WL.val Wanted.none (Runs.add rfl rfl rfl) ?_
      refine WL.val Wanted.none (Runs.assign rfl) ?_
      refine WL.nil ?_
      exact QW.at [(1, .int .u8 a1), (2, .int .u8 a2), (3, .pointer (some ⟨B_1, 0, none⟩)), (6, .bool b_17), (8, .string r_13), (9, .int .i64 (IntKind.i64.wrap (x_18 + 1)))] ⟨rfl, rfl, rfl, rfl, rfl, rfl, trivial⟩ ⟨b_17, IntKind.i64.wrap (x_18 + 1), rfl, H, st_20⟩
    · have h_27 : (decide ((bn r_13 ((x_18).toNat)) < 48)) = false := (decide_eq_false c_26)
      refine WL.on ?_ ?_; exact Wanted.guard (dj := 30) (by rfl) (evb (by rfl) h_27) (by rfl)
      refine WL.val Wanted.none (Runs.move rfl) ?_
      refine WL.on ?_ ?_; exact Wanted.guard (dj := 30) (by rfl) (evb (by rfl) h_27) (by rfl)
      refine WL.val Wanted.none (Runs.move rfl) ?_
      refine WL.on ?_ ?_; exact Wanted.guard (dj := 30) (by rfl) (evb (by rfl) h_27) (by rfl)
      obtain ⟨⟨p_36, q_37⟩, H⟩ := H
      refine WL.val Wanted.none (Runs.index_str Tryd.underlying9 rfl rfl p_36 q_37 (j := (x_18).toNat) (by first | rfl | omega)) ?_
      refine WL.on ?_ ?_; exact Wanted.guard (dj := 30) (by rfl) (evb (by rfl) h_27) (by rfl)
      refine WL.val Wanted.none (Runs.gtr rfl rfl rfl) ?_
      refine WL.val Wanted.none (Runs.pick_f (evb rfl h_27) rfl) ?_
      refine WL.val Wanted.none (Runs.move rfl) ?_
      rcases H with ⟨c_38, H⟩ | ⟨c_38, H⟩
      · have h_39 : (decide ((bn r_13 ((x_18).toNat)) > 57)) = true := (decide_eq_true c_38)
        refine WL.on ?_ ?_; exact Wanted.guard (dj := 36) (by rfl) (evb (by rfl) h_39) (by rfl)
        refine WL.val Wanted.none (Runs.move rfl) ?_
        refine WL.on ?_ ?_; exact Wanted.guard (dj := 36) (by rfl) (evb (by rfl) h_39) (by rfl)
        refine WL.val Wanted.none (Runs.move rfl) ?_
        refine WL.on ?_ ?_; exact Wanted.guard (dj := 36) (by rfl) (evb (by rfl) h_39) (by rfl)
        obtain ⟨⟨p_40, q_41⟩, H⟩ := H
        refine WL.val Wanted.none (Runs.index_str Tryd.underlying9 rfl rfl p_40 q_41 (j := (x_18).toNat) (by first | rfl | omega)) ?_
        refine WL.on ?_ ?_; exact Wanted.guard (dj := 36) (by rfl) (evb (by rfl) h_39) (by rfl)
        refine WL.val Wanted.none (Runs.lss rfl rfl rfl) ?_
        refine WL.on ?_ ?_; exact Wanted.guard (dj := 36) (by rfl) (evb (by rfl) h_39) (by rfl)
        refine WL.val Wanted.none (Runs.move rfl) ?_
        obtain ⟨c_42, H⟩ := H
        have h_43 : (decide ((bn r_13 ((x_18).toNat)) < 97)) = false := (decide_eq_false c_42)
        refine WL.on ?_ ?_; exact Wanted.guard (dj := 41) (by rfl) (evb (by rfl) h_43) (by rfl)
        refine WL.val Wanted.none (Runs.move rfl) ?_
        refine WL.on ?_ ?_; exact Wanted.guard (dj := 41) (by rfl) (evb (by rfl) h_43) (by rfl)
        refine WL.val Wanted.none (Runs.move rfl) ?_
        refine WL.on ?_ ?_; exact Wanted.guard (dj := 41) (by rfl) (evb (by rfl) h_43) (by rfl)
        obtain ⟨⟨p_44, q_45⟩, H⟩ := H
        refine WL.val Wanted.none (Runs.index_str Tryd.underlying9 rfl rfl p_44 q_45 (j := (x_18).toNat) (by first | rfl | omega)) ?_
        refine WL.on ?_ ?_; exact Wanted.guard (dj := 41) (by rfl) (evb (by rfl) h_43) (by rfl)
        refine WL.val Wanted.none (Runs.gtr rfl rfl rfl) ?_
        refine WL.on ?_ ?_; exact Wanted.guard (dj := 36) (by rfl) (evb (by rfl) h_39) (by rfl)
        refine WL.val Wanted.none (Runs.pick_f (evb rfl h_43) rfl) ?_
        refine WL.val Wanted.none (Runs.pick_t (evb rfl h_39) rfl) ?_
        refine WL.nil ?_
        refine QW.then_n ?_
        obtain ⟨c_46, H⟩ := H
        have h_47 : (decide ((bn r_13 ((x_18).toNat)) > 102)) = false := (decide_eq_false c_46)
        refine CW.cf rfl h_47 ?_
        refine CW.skip ?_
        refine QW.blk_n ?_
        refine QW.then_n ?_
        refine CW.region ?_
        refine WL.val Wanted.none (Runs.move rfl) ?_
        refine WL.val Wanted.none (Runs.add rfl rfl rfl) ?_
        refine WL.val Wanted.none (Runs.assign rfl) ?_
        refine WL.nil ?_
        exact QW.at [(1, .int .u8 a1), (2, .int .u8 a2), (3, .pointer (some ⟨B_1, 0, none⟩)), (6, .bool b_17), (8, .string r_13), (9, .int .i64 (IntKind.i64.wrap (x_18 + 1)))] ⟨rfl, rfl, rfl, rfl, rfl, rfl, trivial⟩ ⟨b_17, IntKind.i64.wrap (x_18 + 1), rfl, H, st_20⟩
      · have h_39 : (decide ((bn r_13 ((x_18).toNat)) > 57)) = false := (decide_eq_false c_38)
        refine WL.off ?_ ?_; exact Wanted.guard (dj := 36) (by rfl) (evb (by rfl) h_39) (by rfl)
        refine WL.off ?_ ?_; exact Wanted.guard (dj := 36) (by rfl) (evb (by rfl) h_39) (by rfl)
        refine WL.off ?_ ?_; exact Wanted.guard (dj := 36) (by rfl) (evb (by rfl) h_39) (by rfl)
        refine WL.off ?_ ?_; exact Wanted.guard (dj := 36) (by rfl) (evb (by rfl) h_39) (by rfl)
        refine WL.off ?_ ?_; exact Wanted.guard (dj := 36) (by rfl) (evb (by rfl) h_39) (by rfl)
        refine WL.off ?_ ?_; exact Wanted.undef (dj := 41) rfl rfl
        refine WL.off ?_ ?_; exact Wanted.undef (dj := 41) rfl rfl
        refine WL.off ?_ ?_; exact Wanted.undef (dj := 41) rfl rfl
        refine WL.off ?_ ?_; exact Wanted.undef (dj := 41) rfl rfl
        refine WL.off ?_ ?_; exact Wanted.guard (dj := 36) (by rfl) (evb (by rfl) h_39) (by rfl)
        refine WL.val Wanted.none (Runs.pick_f (evb rfl h_39) rfl) ?_
        refine WL.nil ?_
        refine QW.then_n ?_
        refine CW.cf rfl rfl ?_
        refine CW.skip ?_
        refine QW.blk_n ?_
        refine QW.then_n ?_
        refine CW.region ?_
        refine WL.val Wanted.none (Runs.move rfl) ?_
        refine WL.val Wanted.none (Runs.add rfl rfl rfl) ?_
        refine WL.val Wanted.none (Runs.assign rfl) ?_
        refine WL.nil ?_
        exact QW.at [(1, .int .u8 a1), (2, .int .u8 a2), (3, .pointer (some ⟨B_1, 0, none⟩)), (6, .bool b_17), (8, .string r_13), (9, .int .i64 (IntKind.i64.wrap (x_18 + 1)))] ⟨rfl, rfl, rfl, rfl, rfl, rfl, trivial⟩ ⟨b_17, IntKind.i64.wrap (x_18 + 1), rfl, H, st_20⟩
  · have h_23 : (decide (x_18 < 64)) = false := (decide_eq_false c_22)
    refine CW.cf rfl h_23 ?_
    refine CW.exit ?_
    refine QW.then_x ?_
    refine QW.then_x ?_
    refine QW.blk_x ?_
    refine QW.then_n ?_
    refine CW.seq ?_
    refine CW.region ?_
    refine WL.val Wanted.none (Runs.move rfl) ?_
    refine WL.val Wanted.none (Runs.rem rfl rfl (by decide) rfl) ?_
    refine WL.val Wanted.none (Runs.conv Tryd.underlying3 ⟨_, Tryd.underlying5⟩ rfl rfl) ?_
    refine WL.val Wanted.none (Runs.assign rfl) ?_
    refine WL.nil ?_
    refine QW.then_n ?_
    refine CW.sub [(2, .int .u8 a2), (3, .pointer (some ⟨B_1, 0, none⟩)), (6, .bool b_17), (8, .string r_13), (10, .int .i64 (IntKind.i64.wrap (Int.tmod a1 64)))] ⟨rfl, rfl, rfl, rfl, rfl, trivial⟩ ?_
    refine CW.seq ?_
    refine CW.region_aw wide st_20 (fun w_48 st_49 => ?_)
    refine AW.take 0 rfl (by kernel_rfl) (by kernel_rfl) (by kernel_rfl) Wanted.none (fun _ => (Runs.move rfl)) ?_
    refine AW.take 1 rfl (by kernel_rfl) (by kernel_rfl) (by kernel_rfl) Wanted.none (fun _ => (Runs.move rfl)) ?_
    obtain ⟨⟨p_50, q_51, r_52⟩, H⟩ := H
    refine AW.take 2 rfl (by kernel_rfl) (by kernel_rfl) (by kernel_rfl) Wanted.none (fun _ => (Runs.str_h Tryd.underlying9 rfl rfl p_50 q_51 r_52)) ?_
    refine AW.take 3 rfl (by kernel_rfl) (by kernel_rfl) (by kernel_rfl) Wanted.none (fun _ => (Runs.move rfl)) ?_
    refine AW.take 7 rfl (by kernel_rfl) (by kernel_rfl) (by kernel_rfl) Wanted.none (fun _ => (Runs.move rfl)) ?_
    refine AW.take 8 rfl (by kernel_rfl) (by kernel_rfl) (by kernel_rfl) Wanted.none (fun _ => (Runs.move rfl)) ?_
    refine AW.take 9 rfl (by kernel_rfl) (by kernel_rfl) (by kernel_rfl) Wanted.none (fun _ => (Runs.add rfl rfl rfl)) ?_
    obtain ⟨⟨p_53, q_54, r_55⟩, H⟩ := H
    refine AW.take 10 rfl (by kernel_rfl) (by kernel_rfl) (by kernel_rfl) Wanted.none (fun _ => (Runs.str_l Tryd.underlying9 rfl rfl p_53 q_54 r_55)) ?_
    refine AW.step2 4 16 rfl rfl (by kernel_rfl) ?_ ?_
    · refine WL.buildSl [.int .u8 a2] st_49 Tryd.underlying22 elem5 rfl rfl (by decide) (by decide) (by simp [Value.cells]) ?_
      intro B_56 w_57 st_58
      replace st_58 : St w w_57 [.sl (some ⟨B_56, 0, none⟩) 1 1 (iv .u8 [a2]) 5 1, .cells B_1 (iv .u8 l0) 25] := st_58
      refine WL.nil ?_
      refine AW.back ?_
      refine AW.step2 5 16 rfl rfl (by kernel_rfl) ?_ ?_
      · refine WL.val Wanted.none (Runs.bytes_str Tryd.underlying22 Tryd.underlying5 Tryd.underlying9 rfl (st_58.src_sl (k := 0) rfl) rfl) ?_
        refine WL.nil ?_
        refine AW.back ?_
        obtain ⟨z_60, H⟩ := H
        obtain ⟨x_61, e_62, H⟩ := H
        refine AW.take 6 rfl (by kernel_rfl) (by kernel_rfl) (by kernel_rfl) Wanted.none (fun _ => (Runs.adds rfl rfl z_60 e_62)) ?_
        obtain ⟨z_63, H⟩ := H
        obtain ⟨x_64, e_65, H⟩ := H
        refine AW.take 11 rfl (by kernel_rfl) (by kernel_rfl) (by kernel_rfl) Wanted.none (fun _ => (Runs.adds rfl rfl z_63 e_65)) ?_
        refine AW.step2 12 16 rfl rfl (by kernel_rfl) ?_ ?_
        · obtain ⟨r_70, r_72, hr_66, H⟩ := H
          refine WL.call Wanted.none ent14 rfl (digest_Read.calls w_57 x_64 r_70 r_72 hr_66) ?_
          rintro _ w_67 ⟨hl_71, rfl, sc_69⟩
          have st_68 : St w w_67 [.sl (some ⟨B_56, 0, none⟩) 1 1 (iv .u8 [a2]) 5 1, .cells B_1 (iv .u8 l0) 25] := st_58.call sc_69
          refine ⟨_, rfl, ?_⟩
          refine WL.nil ?_
          refine AW.back ?_
          refine AW.take 13 rfl (by kernel_rfl) (by kernel_rfl) (by kernel_rfl) Wanted.none (fun _ => (Runs.move rfl)) ?_
          refine AW.take 14 rfl (by kernel_rfl) (by kernel_rfl) (by kernel_rfl) Wanted.none (fun _ => (Runs.extract rfl rfl)) ?_
          refine AW.take 15 rfl (by kernel_rfl) (by kernel_rfl) (by kernel_rfl) Wanted.none (fun _ => (Runs.extract rfl rfl)) ?_
          refine AW.step 16 rfl (by kernel_rfl) ?_
          refine WL.alloc st_68 arr25.zero ?_
          intro B_73 w_74 st_75
          replace st_75 : St w w_74 [.cells B_73 (iv .u8 (List.replicate 32 (0 : Int))) 25, .sl (some ⟨B_56, 0, none⟩) 1 1 (iv .u8 [a2]) 5 1, .cells B_1 (iv .u8 l0) 25] := st_75
          refine WL.nil ?_
          refine AW.back ?_
          refine AW.step 17 rfl (by kernel_rfl) ?_
          refine WL.store_arr (i := 0) st_75 rfl arr25 rfl (by rw [iv_length]; exact (List.length_replicate ..)) hl_71 rfl ?_
          intro w_77 st_78
          replace st_78 : St w w_77 [.cells B_73 (iv .u8 r_70) 25, .sl (some ⟨B_56, 0, none⟩) 1 1 (iv .u8 [a2]) 5 1, .cells B_1 (iv .u8 l0) 25] := st_78
          refine WL.nil ?_
          refine AW.back ?_
          refine AW.take 18 rfl (by kernel_rfl) (by kernel_rfl) (by kernel_rfl) Wanted.none (fun _ => (Runs.assign rfl)) ?_
          refine AW.done (by kernel_rfl) ?_
          refine QW.then_n ?_
          refine CW.sub [(2, .int .u8 a2), (3, .pointer (some ⟨B_1, 0, none⟩)), (6, .bool b_17), (8, .string r_13), (10, .int .i64 (IntKind.i64.wrap (Int.tmod a1 64))), (11, .pointer (some ⟨B_73, 0, none⟩)), (12, .int .i64 r_72)] ⟨rfl, rfl, rfl, rfl, rfl, rfl, rfl, trivial⟩ ?_
          refine CW.seq ?_
          refine CW.region ?_
          refine WL.val Wanted.none (Runs.move rfl) ?_
          refine WL.val Wanted.none (Runs.geq rfl rfl rfl) ?_
          refine WL.val Wanted.none (Runs.move rfl) ?_
          rcases H with ⟨c_80, H⟩ | ⟨c_80, H⟩
          · have h_81 : (decide (a2 ≥ 48)) = true := (decide_eq_true c_80)
            refine WL.on ?_ ?_; exact Wanted.guard (dj := 69) (by rfl) (evb (by rfl) h_81) (by rfl)
            refine WL.val Wanted.none (Runs.move rfl) ?_
            refine WL.on ?_ ?_; exact Wanted.guard (dj := 69) (by rfl) (evb (by rfl) h_81) (by rfl)
            refine WL.val Wanted.none (Runs.leq rfl rfl rfl) ?_
            refine WL.val Wanted.none (Runs.pick_t (evb rfl h_81) rfl) ?_
            refine WL.val Wanted.none (Runs.move rfl) ?_
            rcases H with ⟨c_82, H⟩ | ⟨c_82, H⟩
            · have h_83 : (decide (a2 ≤ 57)) = true := (decide_eq_true c_82)
              refine WL.off ?_ ?_; exact Wanted.guard (dj := 73) (by rfl) (evb (by rfl) h_83) (by rfl)
              refine WL.off ?_ ?_; exact Wanted.guard (dj := 73) (by rfl) (evb (by rfl) h_83) (by rfl)
              refine WL.off ?_ ?_; exact Wanted.guard (dj := 73) (by rfl) (evb (by rfl) h_83) (by rfl)
              refine WL.off ?_ ?_; exact Wanted.undef (dj := 76) rfl rfl
              refine WL.off ?_ ?_; exact Wanted.undef (dj := 76) rfl rfl
              refine WL.off ?_ ?_; exact Wanted.guard (dj := 73) (by rfl) (evb (by rfl) h_83) (by rfl)
              refine WL.val Wanted.none (Runs.pick_t (evb rfl h_83) rfl) ?_
              refine WL.val Wanted.none (Runs.assign rfl) ?_
              refine WL.nil ?_
              refine QW.then_n ?_
              refine CW.sub [(2, .int .u8 a2), (3, .pointer (some ⟨B_1, 0, none⟩)), (6, .bool b_17), (8, .string r_13), (10, .int .i64 (IntKind.i64.wrap (Int.tmod a1 64))), (11, .pointer (some ⟨B_73, 0, none⟩)), (12, .int .i64 r_72), (13, .bool true)] ⟨rfl, rfl, rfl, rfl, rfl, rfl, rfl, rfl, trivial⟩ ?_
              refine CW.seq ?_
              refine CW.seq ?_
              refine CW.region ?_
              refine WL.val Wanted.none (Runs.move rfl) ?_
              refine WL.val Wanted.none (Runs.not rfl rfl) ?_
              refine WL.nil ?_
              refine QW.then_n ?_
              refine CW.cf rfl rfl ?_
              refine CW.skip ?_
              refine QW.then_n ?_
              refine CW.seq ?_
              refine CW.region_qa wide (by kernel_rfl) st_78 ?_
              refine HL.val Wanted.none (fun wq sq => (Runs.move rfl)) ?_
              refine HL.val Wanted.none (fun wq sq => (Runs.eql rfl rfl rfl)) ?_
              refine HL.val Wanted.none (fun wq sq => (Runs.move rfl)) ?_
              obtain ⟨c_84, H⟩ := H
              have h_85 : (r_72 == 0) = true := (beq_iff_eq.mpr c_84)
              refine HL.on ?_ ?_; exact Wanted.guard (dj := 92) (by rfl) (evb (by rfl) h_85) (by rfl)
              refine HL.val Wanted.none (fun wq sq => (Runs.load_arr arr25 rfl (sq.blk (i := 0) rfl) hl_71)) ?_
              refine HL.on ?_ ?_; exact Wanted.guard (dj := 92) (by rfl) (evb (by rfl) h_85) (by rfl)
              refine HL.val Wanted.none (fun wq sq => (Runs.load_arr arr25 rfl (sq.blk (i := 2) rfl) hl0)) ?_
              refine HL.on ?_ ?_; exact Wanted.guard (dj := 92) (by rfl) (evb (by rfl) h_85) (by rfl)
              refine HL.val Wanted.none (fun wq sq => (Runs.eql_arr arr25 eqg25 rfl rfl hl_71 hl0 rfl)) ?_
              refine HL.on ?_ ?_; exact Wanted.guard (dj := 92) (by rfl) (evb (by rfl) h_85) (by rfl)
              refine HL.val Wanted.none (fun wq sq => (Runs.move rfl)) ?_
              refine HL.on ?_ ?_; exact Wanted.guard (dj := 92) (by rfl) (evb (by rfl) h_85) (by rfl)
              refine HL.val Wanted.none (fun wq sq => (Runs.move rfl)) ?_
              refine HL.on ?_ ?_; exact Wanted.guard (dj := 92) (by rfl) (evb (by rfl) h_85) (by rfl)
              refine HL.val Wanted.none (fun wq sq => (Runs.move rfl)) ?_
              refine HL.on ?_ ?_; exact Wanted.guard (dj := 92) (by rfl) (evb (by rfl) h_85) (by rfl)
              obtain ⟨⟨p_86, q_87⟩, H⟩ := H
              refine HL.val Wanted.none (fun wq sq => (Runs.index_str Tryd.underlying9 rfl rfl p_86 q_87 (j := (IntKind.i64.wrap (Int.tmod a1 64)).toNat) (by first | rfl | omega))) ?_
              refine HL.on ?_ ?_; exact Wanted.guard (dj := 92) (by rfl) (evb (by rfl) h_85) (by rfl)
              refine HL.val Wanted.none (fun wq sq => (Runs.eql rfl rfl rfl)) ?_
              refine HL.on ?_ ?_; exact Wanted.guard (dj := 92) (by rfl) (evb (by rfl) h_85) (by rfl)
              refine HL.val Wanted.none (fun wq sq => (Runs.eqb Tryd.underlying4 rfl rfl rfl)) ?_
              refine HL.val Wanted.none (fun wq sq => (Runs.pick_t (evb rfl h_85) rfl)) ?_
              refine HL.val Wanted.none (fun wq sq => (Runs.assign rfl)) ?_
              refine HL.nil (fun w_88 st_89 => ?_)
              refine WL.nil ?_
              refine QW.then_n ?_
              refine CW.sub [(6, .bool ((r_70 == l0) == (a2 == (bn r_13 ((IntKind.i64.wrap (Int.tmod a1 64)).toNat)))))] ⟨rfl, trivial⟩ ?_
              refine CW.ret ?_
              have hz : ((r_70 == l0) == (a2 == (bn r_13 ((IntKind.i64.wrap (Int.tmod a1 64)).toNat)))) = true := (beq_iff_eq.mpr H)
              exact QW.ret1 rfl (evb rfl hz) ⟨rfl, st_89.ext⟩
            · have h_83 : (decide (a2 ≤ 57)) = false := (decide_eq_false c_82)
              refine WL.on ?_ ?_; exact Wanted.guard (dj := 73) (by rfl) (evb (by rfl) h_83) (by rfl)
              refine WL.val Wanted.none (Runs.move rfl) ?_
              refine WL.on ?_ ?_; exact Wanted.guard (dj := 73) (by rfl) (evb (by rfl) h_83) (by rfl)
              refine WL.val Wanted.none (Runs.geq rfl rfl rfl) ?_
              refine WL.on ?_ ?_; exact Wanted.guard (dj := 73) (by rfl) (evb (by rfl) h_83) (by rfl)
              refine WL.val Wanted.none (Runs.move rfl) ?_
              rcases H with ⟨c_92, H⟩ | ⟨c_92, H⟩
              · have h_93 : (decide (a2 ≥ 97)) = true := (decide_eq_true c_92)
                refine WL.on ?_ ?_; exact Wanted.guard (dj := 76) (by rfl) (evb (by rfl) h_93) (by rfl)
                refine WL.val Wanted.none (Runs.move rfl) ?_
                refine WL.on ?_ ?_; exact Wanted.guard (dj := 76) (by rfl) (evb (by rfl) h_93) (by rfl)
                refine WL.val Wanted.none (Runs.leq rfl rfl rfl) ?_
                refine WL.on ?_ ?_; exact Wanted.guard (dj := 73) (by rfl) (evb (by rfl) h_83) (by rfl)
                refine WL.val Wanted.none (Runs.pick_t (evb rfl h_93) rfl) ?_
                refine WL.val Wanted.none (Runs.pick_f (evb rfl h_83) rfl) ?_
                refine WL.val Wanted.none (Runs.assign rfl) ?_
                refine WL.nil ?_
                refine QW.then_n ?_
                refine CW.sub [(2, .int .u8 a2), (3, .pointer (some ⟨B_1, 0, none⟩)), (6, .bool b_17), (8, .string r_13), (10, .int .i64 (IntKind.i64.wrap (Int.tmod a1 64))), (11, .pointer (some ⟨B_73, 0, none⟩)), (12, .int .i64 r_72), (13, .bool (decide (a2 ≤ 102)))] ⟨rfl, rfl, rfl, rfl, rfl, rfl, rfl, rfl, trivial⟩ ?_
                refine CW.seq ?_
                refine CW.seq ?_
                refine CW.region ?_
                refine WL.val Wanted.none (Runs.move rfl) ?_
                refine WL.val Wanted.none (Runs.not rfl rfl) ?_
                refine WL.nil ?_
                refine QW.then_n ?_
                rcases H with ⟨c_94, H⟩ | ⟨c_94, H⟩
                · have h_95 : (!(decide (a2 ≤ 102))) = true := (not_t (decide_eq_false c_94))
                  refine CW.ct rfl h_95 ?_
                  refine CW.seq ?_
                  refine CW.region ?_
                  refine WL.val Wanted.none (Runs.move rfl) ?_
                  refine WL.val Wanted.none (Runs.eql rfl rfl rfl) ?_
                  refine WL.val Wanted.none (Runs.move rfl) ?_
                  obtain ⟨c_96, H⟩ := H
                  have h_97 : (r_72 == 11) = true := (beq_iff_eq.mpr c_96)
                  refine WL.on ?_ ?_; exact Wanted.guard (dj := 85) (by rfl) (evb (by rfl) h_97) (by rfl)
                  refine WL.val Wanted.none (Runs.load_arr arr25 rfl (st_78.blk (i := 0) rfl) hl_71) ?_
                  refine WL.on ?_ ?_; exact Wanted.guard (dj := 85) (by rfl) (evb (by rfl) h_97) (by rfl)
                  obtain ⟨m_98, e_99, H⟩ := H
                  refine WL.val Wanted.none (Runs.build_arr (xs := m_98) arr25 rfl rfl (by rw [e_99]; rfl)) ?_
                  refine WL.on ?_ ?_; exact Wanted.guard (dj := 85) (by rfl) (evb (by rfl) h_97) (by rfl)
                  refine WL.val Wanted.none (Runs.eql_arr arr25 eqg25 rfl rfl hl_71 (by rw [e_99]; rfl) rfl) ?_
                  refine WL.val Wanted.none (Runs.pick_t (evb rfl h_97) rfl) ?_
                  refine WL.val Wanted.none (Runs.assign rfl) ?_
                  refine WL.nil ?_
                  refine QW.then_n ?_
                  refine CW.sub [(2, .int .u8 a2), (3, .pointer (some ⟨B_1, 0, none⟩)), (6, .bool (r_70 == m_98)), (8, .string r_13), (10, .int .i64 (IntKind.i64.wrap (Int.tmod a1 64))), (11, .pointer (some ⟨B_73, 0, none⟩)), (12, .int .i64 r_72)] ⟨rfl, rfl, rfl, rfl, rfl, rfl, rfl, trivial⟩ ?_
                  refine CW.ret ?_
                  refine QW.then_r ?_
                  have hz : (r_70 == m_98) = true := (beq_iff_eq.mpr H)
                  exact QW.ret1 rfl (evb rfl hz) ⟨rfl, st_78.ext⟩
                · have h_95 : (!(decide (a2 ≤ 102))) = false := (not_f (decide_eq_true (Decidable.not_not.mp c_94)))
                  refine CW.cf rfl h_95 ?_
                  refine CW.skip ?_
                  refine QW.then_n ?_
                  refine CW.seq ?_
                  refine CW.region_qa wide (by kernel_rfl) st_78 ?_
                  refine HL.val Wanted.none (fun wq sq => (Runs.move rfl)) ?_
                  refine HL.val Wanted.none (fun wq sq => (Runs.eql rfl rfl rfl)) ?_
                  refine HL.val Wanted.none (fun wq sq => (Runs.move rfl)) ?_
                  obtain ⟨c_100, H⟩ := H
                  have h_101 : (r_72 == 0) = true := (beq_iff_eq.mpr c_100)
                  refine HL.on ?_ ?_; exact Wanted.guard (dj := 92) (by rfl) (evb (by rfl) h_101) (by rfl)
                  refine HL.val Wanted.none (fun wq sq => (Runs.load_arr arr25 rfl (sq.blk (i := 0) rfl) hl_71)) ?_
                  refine HL.on ?_ ?_; exact Wanted.guard (dj := 92) (by rfl) (evb (by rfl) h_101) (by rfl)
                  refine HL.val Wanted.none (fun wq sq => (Runs.load_arr arr25 rfl (sq.blk (i := 2) rfl) hl0)) ?_
                  refine HL.on ?_ ?_; exact Wanted.guard (dj := 92) (by rfl) (evb (by rfl) h_101) (by rfl)
                  refine HL.val Wanted.none (fun wq sq => (Runs.eql_arr arr25 eqg25 rfl rfl hl_71 hl0 rfl)) ?_
                  refine HL.on ?_ ?_; exact Wanted.guard (dj := 92) (by rfl) (evb (by rfl) h_101) (by rfl)
                  refine HL.val Wanted.none (fun wq sq => (Runs.move rfl)) ?_
                  refine HL.on ?_ ?_; exact Wanted.guard (dj := 92) (by rfl) (evb (by rfl) h_101) (by rfl)
                  refine HL.val Wanted.none (fun wq sq => (Runs.move rfl)) ?_
                  refine HL.on ?_ ?_; exact Wanted.guard (dj := 92) (by rfl) (evb (by rfl) h_101) (by rfl)
                  refine HL.val Wanted.none (fun wq sq => (Runs.move rfl)) ?_
                  refine HL.on ?_ ?_; exact Wanted.guard (dj := 92) (by rfl) (evb (by rfl) h_101) (by rfl)
                  obtain ⟨⟨p_102, q_103⟩, H⟩ := H
                  refine HL.val Wanted.none (fun wq sq => (Runs.index_str Tryd.underlying9 rfl rfl p_102 q_103 (j := (IntKind.i64.wrap (Int.tmod a1 64)).toNat) (by first | rfl | omega))) ?_
                  refine HL.on ?_ ?_; exact Wanted.guard (dj := 92) (by rfl) (evb (by rfl) h_101) (by rfl)
                  refine HL.val Wanted.none (fun wq sq => (Runs.eql rfl rfl rfl)) ?_
                  refine HL.on ?_ ?_; exact Wanted.guard (dj := 92) (by rfl) (evb (by rfl) h_101) (by rfl)
                  refine HL.val Wanted.none (fun wq sq => (Runs.eqb Tryd.underlying4 rfl rfl rfl)) ?_
                  refine HL.val Wanted.none (fun wq sq => (Runs.pick_t (evb rfl h_101) rfl)) ?_
                  refine HL.val Wanted.none (fun wq sq => (Runs.assign rfl)) ?_
                  refine HL.nil (fun w_104 st_105 => ?_)
                  refine WL.nil ?_
                  refine QW.then_n ?_
                  refine CW.sub [(6, .bool ((r_70 == l0) == (a2 == (bn r_13 ((IntKind.i64.wrap (Int.tmod a1 64)).toNat)))))] ⟨rfl, trivial⟩ ?_
                  refine CW.ret ?_
                  have hz : ((r_70 == l0) == (a2 == (bn r_13 ((IntKind.i64.wrap (Int.tmod a1 64)).toNat)))) = true := (beq_iff_eq.mpr H)
                  exact QW.ret1 rfl (evb rfl hz) ⟨rfl, st_105.ext⟩
              · have h_93 : (decide (a2 ≥ 97)) = false := (decide_eq_false c_92)
                refine WL.off ?_ ?_; exact Wanted.guard (dj := 76) (by rfl) (evb (by rfl) h_93) (by rfl)
                refine WL.off ?_ ?_; exact Wanted.guard (dj := 76) (by rfl) (evb (by rfl) h_93) (by rfl)
                refine WL.on ?_ ?_; exact Wanted.guard (dj := 73) (by rfl) (evb (by rfl) h_83) (by rfl)
                refine WL.val Wanted.none (Runs.pick_f (evb rfl h_93) rfl) ?_
                refine WL.val Wanted.none (Runs.pick_f (evb rfl h_83) rfl) ?_
                refine WL.val Wanted.none (Runs.assign rfl) ?_
                refine WL.nil ?_
                refine QW.then_n ?_
                refine CW.sub [(2, .int .u8 a2), (3, .pointer (some ⟨B_1, 0, none⟩)), (6, .bool b_17), (8, .string r_13), (10, .int .i64 (IntKind.i64.wrap (Int.tmod a1 64))), (11, .pointer (some ⟨B_73, 0, none⟩)), (12, .int .i64 r_72), (13, .bool false)] ⟨rfl, rfl, rfl, rfl, rfl, rfl, rfl, rfl, trivial⟩ ?_
                refine CW.seq ?_
                refine CW.seq ?_
                refine CW.region ?_
                refine WL.val Wanted.none (Runs.move rfl) ?_
                refine WL.val Wanted.none (Runs.not rfl rfl) ?_
                refine WL.nil ?_
                refine QW.then_n ?_
                refine CW.ct rfl rfl ?_
                refine CW.seq ?_
                refine CW.region ?_
                refine WL.val Wanted.none (Runs.move rfl) ?_
                refine WL.val Wanted.none (Runs.eql rfl rfl rfl) ?_
                refine WL.val Wanted.none (Runs.move rfl) ?_
                obtain ⟨c_108, H⟩ := H
                have h_109 : (r_72 == 11) = true := (beq_iff_eq.mpr c_108)
                refine WL.on ?_ ?_; exact Wanted.guard (dj := 85) (by rfl) (evb (by rfl) h_109) (by rfl)
                refine WL.val Wanted.none (Runs.load_arr arr25 rfl (st_78.blk (i := 0) rfl) hl_71) ?_
                refine WL.on ?_ ?_; exact Wanted.guard (dj := 85) (by rfl) (evb (by rfl) h_109) (by rfl)
                obtain ⟨m_110, e_111, H⟩ := H
                refine WL.val Wanted.none (Runs.build_arr (xs := m_110) arr25 rfl rfl (by rw [e_111]; rfl)) ?_
                refine WL.on ?_ ?_; exact Wanted.guard (dj := 85) (by rfl) (evb (by rfl) h_109) (by rfl)
                refine WL.val Wanted.none (Runs.eql_arr arr25 eqg25 rfl rfl hl_71 (by rw [e_111]; rfl) rfl) ?_
                refine WL.val Wanted.none (Runs.pick_t (evb rfl h_109) rfl) ?_
                refine WL.val Wanted.none (Runs.assign rfl) ?_
                refine WL.nil ?_
                refine QW.then_n ?_
                refine CW.sub [(2, .int .u8 a2), (3, .pointer (some ⟨B_1, 0, none⟩)), (6, .bool (r_70 == m_110)), (8, .string r_13), (10, .int .i64 (IntKind.i64.wrap (Int.tmod a1 64))), (11, .pointer (some ⟨B_73, 0, none⟩)), (12, .int .i64 r_72)] ⟨rfl, rfl, rfl, rfl, rfl, rfl, rfl, trivial⟩ ?_
                refine CW.ret ?_
                refine QW.then_r ?_
                have hz : (r_70 == m_110) = true := (beq_iff_eq.mpr H)
                exact QW.ret1 rfl (evb rfl hz) ⟨rfl, st_78.ext⟩
          · have h_81 : (decide (a2 ≥ 48)) = false := (decide_eq_false c_80)
            refine WL.off ?_ ?_; exact Wanted.guard (dj := 69) (by rfl) (evb (by rfl) h_81) (by rfl)
            refine WL.off ?_ ?_; exact Wanted.guard (dj := 69) (by rfl) (evb (by rfl) h_81) (by rfl)
            refine WL.val Wanted.none (Runs.pick_f (evb rfl h_81) rfl) ?_
            refine WL.val Wanted.none (Runs.move rfl) ?_
            refine WL.on ?_ ?_; exact Wanted.guard (dj := 73) (by rfl) (by rfl) (by rfl)
            refine WL.val Wanted.none (Runs.move rfl) ?_
            refine WL.on ?_ ?_; exact Wanted.guard (dj := 73) (by rfl) (by rfl) (by rfl)
            refine WL.val Wanted.none (Runs.geq rfl rfl rfl) ?_
            refine WL.on ?_ ?_; exact Wanted.guard (dj := 73) (by rfl) (by rfl) (by rfl)
            refine WL.val Wanted.none (Runs.move rfl) ?_
            rcases H with ⟨c_112, H⟩ | ⟨c_112, H⟩
            · have h_113 : (decide (a2 ≥ 97)) = true := (decide_eq_true c_112)
              refine WL.on ?_ ?_; exact Wanted.guard (dj := 76) (by rfl) (evb (by rfl) h_113) (by rfl)
              refine WL.val Wanted.none (Runs.move rfl) ?_
              refine WL.on ?_ ?_; exact Wanted.guard (dj := 76) (by rfl) (evb (by rfl) h_113) (by rfl)
              refine WL.val Wanted.none (Runs.leq rfl rfl rfl) ?_
              refine WL.on ?_ ?_; exact Wanted.guard (dj := 73) (by rfl) (by rfl) (by rfl)
              refine WL.val Wanted.none (Runs.pick_t (evb rfl h_113) rfl) ?_
              refine WL.val Wanted.none (Runs.pick_f rfl rfl) ?_
              refine WL.val Wanted.none (Runs.assign rfl) ?_
              refine WL.nil ?_
              refine QW.then_n ?_
              refine CW.sub [(2, .int .u8 a2), (3, .pointer (some ⟨B_1, 0, none⟩)), (6, .bool b_17), (8, .string r_13), (10, .int .i64 (IntKind.i64.wrap (Int.tmod a1 64))), (11, .pointer (some ⟨B_73, 0, none⟩)), (12, .int .i64 r_72), (13, .bool (decide (a2 ≤ 102)))] ⟨rfl, rfl, rfl, rfl, rfl, rfl, rfl, rfl, trivial⟩ ?_
              refine CW.seq ?_
              refine CW.seq ?_
              refine CW.region ?_
              refine WL.val Wanted.none (Runs.move rfl) ?_
              refine WL.val Wanted.none (Runs.not rfl rfl) ?_
              refine WL.nil ?_
              refine QW.then_n ?_
              rcases H with ⟨c_114, H⟩ | ⟨c_114, H⟩
              · have h_115 : (!(decide (a2 ≤ 102))) = true := (not_t (decide_eq_false c_114))
                refine CW.ct rfl h_115 ?_
                refine CW.seq ?_
                refine CW.region ?_
                refine WL.val Wanted.none (Runs.move rfl) ?_
                refine WL.val Wanted.none (Runs.eql rfl rfl rfl) ?_
                refine WL.val Wanted.none (Runs.move rfl) ?_
                obtain ⟨c_116, H⟩ := H
                have h_117 : (r_72 == 11) = true := (beq_iff_eq.mpr c_116)
                refine WL.on ?_ ?_; exact Wanted.guard (dj := 85) (by rfl) (evb (by rfl) h_117) (by rfl)
                refine WL.val Wanted.none (Runs.load_arr arr25 rfl (st_78.blk (i := 0) rfl) hl_71) ?_
                refine WL.on ?_ ?_; exact Wanted.guard (dj := 85) (by rfl) (evb (by rfl) h_117) (by rfl)
                obtain ⟨m_118, e_119, H⟩ := H
                refine WL.val Wanted.none (Runs.build_arr (xs := m_118) arr25 rfl rfl (by rw [e_119]; rfl)) ?_
                refine WL.on ?_ ?_; exact Wanted.guard (dj := 85) (by rfl) (evb (by rfl) h_117) (by rfl)
                refine WL.val Wanted.none (Runs.eql_arr arr25 eqg25 rfl rfl hl_71 (by rw [e_119]; rfl) rfl) ?_
                refine WL.val Wanted.none (Runs.pick_t (evb rfl h_117) rfl) ?_
                refine WL.val Wanted.none (Runs.assign rfl) ?_
                refine WL.nil ?_
                refine QW.then_n ?_
                refine CW.sub [(2, .int .u8 a2), (3, .pointer (some ⟨B_1, 0, none⟩)), (6, .bool (r_70 == m_118)), (8, .string r_13), (10, .int .i64 (IntKind.i64.wrap (Int.tmod a1 64))), (11, .pointer (some ⟨B_73, 0, none⟩)), (12, .int .i64 r_72)] ⟨rfl, rfl, rfl, rfl, rfl, rfl, rfl, trivial⟩ ?_
                refine CW.ret ?_
                refine QW.then_r ?_
                have hz : (r_70 == m_118) = true := (beq_iff_eq.mpr H)
                exact QW.ret1 rfl (evb rfl hz) ⟨rfl, st_78.ext⟩
              · have h_115 : (!(decide (a2 ≤ 102))) = false := (not_f (decide_eq_true (Decidable.not_not.mp c_114)))
                refine CW.cf rfl h_115 ?_
                refine CW.skip ?_
                refine QW.then_n ?_
                refine CW.seq ?_
                refine CW.region_qa wide (by kernel_rfl) st_78 ?_
                refine HL.val Wanted.none (fun wq sq => (Runs.move rfl)) ?_
                refine HL.val Wanted.none (fun wq sq => (Runs.eql rfl rfl rfl)) ?_
                refine HL.val Wanted.none (fun wq sq => (Runs.move rfl)) ?_
                obtain ⟨c_120, H⟩ := H
                have h_121 : (r_72 == 0) = true := (beq_iff_eq.mpr c_120)
                refine HL.on ?_ ?_; exact Wanted.guard (dj := 92) (by rfl) (evb (by rfl) h_121) (by rfl)
                refine HL.val Wanted.none (fun wq sq => (Runs.load_arr arr25 rfl (sq.blk (i := 0) rfl) hl_71)) ?_
                refine HL.on ?_ ?_; exact Wanted.guard (dj := 92) (by rfl) (evb (by rfl) h_121) (by rfl)
                refine HL.val Wanted.none (fun wq sq => (Runs.load_arr arr25 rfl (sq.blk (i := 2) rfl) hl0)) ?_
                refine HL.on ?_ ?_; exact Wanted.guard (dj := 92) (by rfl) (evb (by rfl) h_121) (by rfl)
                refine HL.val Wanted.none (fun wq sq => (Runs.eql_arr arr25 eqg25 rfl rfl hl_71 hl0 rfl)) ?_
                refine HL.on ?_ ?_; exact Wanted.guard (dj := 92) (by rfl) (evb (by rfl) h_121) (by rfl)
                refine HL.val Wanted.none (fun wq sq => (Runs.move rfl)) ?_
                refine HL.on ?_ ?_; exact Wanted.guard (dj := 92) (by rfl) (evb (by rfl) h_121) (by rfl)
                refine HL.val Wanted.none (fun wq sq => (Runs.move rfl)) ?_
                refine HL.on ?_ ?_; exact Wanted.guard (dj := 92) (by rfl) (evb (by rfl) h_121) (by rfl)
                refine HL.val Wanted.none (fun wq sq => (Runs.move rfl)) ?_
                refine HL.on ?_ ?_; exact Wanted.guard (dj := 92) (by rfl) (evb (by rfl) h_121) (by rfl)
                obtain ⟨⟨p_122, q_123⟩, H⟩ := H
                refine HL.val Wanted.none (fun wq sq => (Runs.index_str Tryd.underlying9 rfl rfl p_122 q_123 (j := (IntKind.i64.wrap (Int.tmod a1 64)).toNat) (by first | rfl | omega))) ?_
                refine HL.on ?_ ?_; exact Wanted.guard (dj := 92) (by rfl) (evb (by rfl) h_121) (by rfl)
                refine HL.val Wanted.none (fun wq sq => (Runs.eql rfl rfl rfl)) ?_
                refine HL.on ?_ ?_; exact Wanted.guard (dj := 92) (by rfl) (evb (by rfl) h_121) (by rfl)
                refine HL.val Wanted.none (fun wq sq => (Runs.eqb Tryd.underlying4 rfl rfl rfl)) ?_
                refine HL.val Wanted.none (fun wq sq => (Runs.pick_t (evb rfl h_121) rfl)) ?_
                refine HL.val Wanted.none (fun wq sq => (Runs.assign rfl)) ?_
                refine HL.nil (fun w_124 st_125 => ?_)
                refine WL.nil ?_
                refine QW.then_n ?_
                refine CW.sub [(6, .bool ((r_70 == l0) == (a2 == (bn r_13 ((IntKind.i64.wrap (Int.tmod a1 64)).toNat)))))] ⟨rfl, trivial⟩ ?_
                refine CW.ret ?_
                have hz : ((r_70 == l0) == (a2 == (bn r_13 ((IntKind.i64.wrap (Int.tmod a1 64)).toNat)))) = true := (beq_iff_eq.mpr H)
                exact QW.ret1 rfl (evb rfl hz) ⟨rfl, st_125.ext⟩
            · have h_113 : (decide (a2 ≥ 97)) = false := (decide_eq_false c_112)
              refine WL.off ?_ ?_; exact Wanted.guard (dj := 76) (by rfl) (evb (by rfl) h_113) (by rfl)
              refine WL.off ?_ ?_; exact Wanted.guard (dj := 76) (by rfl) (evb (by rfl) h_113) (by rfl)
              refine WL.on ?_ ?_; exact Wanted.guard (dj := 73) (by rfl) (by rfl) (by rfl)
              refine WL.val Wanted.none (Runs.pick_f (evb rfl h_113) rfl) ?_
              refine WL.val Wanted.none (Runs.pick_f rfl rfl) ?_
              refine WL.val Wanted.none (Runs.assign rfl) ?_
              refine WL.nil ?_
              refine QW.then_n ?_
              refine CW.sub [(2, .int .u8 a2), (3, .pointer (some ⟨B_1, 0, none⟩)), (6, .bool b_17), (8, .string r_13), (10, .int .i64 (IntKind.i64.wrap (Int.tmod a1 64))), (11, .pointer (some ⟨B_73, 0, none⟩)), (12, .int .i64 r_72), (13, .bool false)] ⟨rfl, rfl, rfl, rfl, rfl, rfl, rfl, rfl, trivial⟩ ?_
              refine CW.seq ?_
              refine CW.seq ?_
              refine CW.region ?_
              refine WL.val Wanted.none (Runs.move rfl) ?_
              refine WL.val Wanted.none (Runs.not rfl rfl) ?_
              refine WL.nil ?_
              refine QW.then_n ?_
              refine CW.ct rfl rfl ?_
              refine CW.seq ?_
              refine CW.region ?_
              refine WL.val Wanted.none (Runs.move rfl) ?_
              refine WL.val Wanted.none (Runs.eql rfl rfl rfl) ?_
              refine WL.val Wanted.none (Runs.move rfl) ?_
              obtain ⟨c_128, H⟩ := H
              have h_129 : (r_72 == 11) = true := (beq_iff_eq.mpr c_128)
              refine WL.on ?_ ?_; exact Wanted.guard (dj := 85) (by rfl) (evb (by rfl) h_129) (by rfl)
              refine WL.val Wanted.none (Runs.load_arr arr25 rfl (st_78.blk (i := 0) rfl) hl_71) ?_
              refine WL.on ?_ ?_; exact Wanted.guard (dj := 85) (by rfl) (evb (by rfl) h_129) (by rfl)
              obtain ⟨m_130, e_131, H⟩ := H
              refine WL.val Wanted.none (Runs.build_arr (xs := m_130) arr25 rfl rfl (by rw [e_131]; rfl)) ?_
              refine WL.on ?_ ?_; exact Wanted.guard (dj := 85) (by rfl) (evb (by rfl) h_129) (by rfl)
              refine WL.val Wanted.none (Runs.eql_arr arr25 eqg25 rfl rfl hl_71 (by rw [e_131]; rfl) rfl) ?_
              refine WL.val Wanted.none (Runs.pick_t (evb rfl h_129) rfl) ?_
              refine WL.val Wanted.none (Runs.assign rfl) ?_
              refine WL.nil ?_
              refine QW.then_n ?_
              refine CW.sub [(2, .int .u8 a2), (3, .pointer (some ⟨B_1, 0, none⟩)), (6, .bool (r_70 == m_130)), (8, .string r_13), (10, .int .i64 (IntKind.i64.wrap (Int.tmod a1 64))), (11, .pointer (some ⟨B_73, 0, none⟩)), (12, .int .i64 r_72)] ⟨rfl, rfl, rfl, rfl, rfl, rfl, rfl, trivial⟩ ?_
              refine CW.ret ?_
              refine QW.then_r ?_
              have hz : (r_70 == m_130) = true := (beq_iff_eq.mpr H)
              exact QW.ret1 rfl (evb rfl hz) ⟨rfl, st_78.ext⟩
        · refine WL.alloc st_58 arr25.zero ?_
          intro B_132 w_133 st_134
          replace st_134 : St w w_133 [.cells B_132 (iv .u8 (List.replicate 32 (0 : Int))) 25, .sl (some ⟨B_56, 0, none⟩) 1 1 (iv .u8 [a2]) 5 1, .cells B_1 (iv .u8 l0) 25] := st_134
          refine WL.nil ?_
          refine AW.back ?_
          refine AW.step 12 rfl (by kernel_rfl) ?_
          obtain ⟨r_140, r_142, hr_136, H⟩ := H
          refine WL.call Wanted.none ent14 rfl (digest_Read.calls w_133 x_64 r_140 r_142 hr_136) ?_
          rintro _ w_137 ⟨hl_141, rfl, sc_139⟩
          have st_138 : St w w_137 [.cells B_132 (iv .u8 (List.replicate 32 (0 : Int))) 25, .sl (some ⟨B_56, 0, none⟩) 1 1 (iv .u8 [a2]) 5 1, .cells B_1 (iv .u8 l0) 25] := st_134.call sc_139
          refine ⟨_, rfl, ?_⟩
          refine WL.nil ?_
          refine AW.back ?_
          refine AW.take 13 rfl (by kernel_rfl) (by kernel_rfl) (by kernel_rfl) Wanted.none (fun _ => (Runs.move rfl)) ?_
          refine AW.take 14 rfl (by kernel_rfl) (by kernel_rfl) (by kernel_rfl) Wanted.none (fun _ => (Runs.extract rfl rfl)) ?_
          refine AW.take 15 rfl (by kernel_rfl) (by kernel_rfl) (by kernel_rfl) Wanted.none (fun _ => (Runs.extract rfl rfl)) ?_
          refine AW.step 17 rfl (by kernel_rfl) ?_
          refine WL.store_arr (i := 0) st_138 rfl arr25 rfl (by rw [iv_length]; exact (List.length_replicate ..)) hl_141 rfl ?_
          intro w_143 st_144
          replace st_144 : St w w_143 [.cells B_132 (iv .u8 r_140) 25, .sl (some ⟨B_56, 0, none⟩) 1 1 (iv .u8 [a2]) 5 1, .cells B_1 (iv .u8 l0) 25] := st_144
          refine WL.nil ?_
          refine AW.back ?_
          refine AW.take 18 rfl (by kernel_rfl) (by kernel_rfl) (by kernel_rfl) Wanted.none (fun _ => (Runs.assign rfl)) ?_
          refine AW.done (by kernel_rfl) ?_
          refine QW.then_n ?_
          refine CW.sub [(2, .int .u8 a2), (3, .pointer (some ⟨B_1, 0, none⟩)), (6, .bool b_17), (8, .string r_13), (10, .int .i64 (IntKind.i64.wrap (Int.tmod a1 64))), (11, .pointer (some ⟨B_132, 0, none⟩)), (12, .int .i64 r_142)] ⟨rfl, rfl, rfl, rfl, rfl, rfl, rfl, trivial⟩ ?_
          refine CW.seq ?_
          refine CW.region ?_
          refine WL.val Wanted.none (Runs.move rfl) ?_
          refine WL.val Wanted.none (Runs.geq rfl rfl rfl) ?_
          refine WL.val Wanted.none (Runs.move rfl) ?_
          rcases H with ⟨c_146, H⟩ | ⟨c_146, H⟩
          · have h_147 : (decide (a2 ≥ 48)) = true := (decide_eq_true c_146)
            refine WL.on ?_ ?_; exact Wanted.guard (dj := 69) (by rfl) (evb (by rfl) h_147) (by rfl)
            refine WL.val Wanted.none (Runs.move rfl) ?_
            refine WL.on ?_ ?_; exact Wanted.guard (dj := 69) (by rfl) (evb (by rfl) h_147) (by rfl)
            refine WL.val Wanted.none (Runs.leq rfl rfl rfl) ?_
            refine WL.val Wanted.none (Runs.pick_t (evb rfl h_147) rfl) ?_
            refine WL.val Wanted.none (Runs.move rfl) ?_
            rcases H with ⟨c_148, H⟩ | ⟨c_148, H⟩
            · have h_149 : (decide (a2 ≤ 57)) = true := (decide_eq_true c_148)
              refine WL.off ?_ ?_; exact Wanted.guard (dj := 73) (by rfl) (evb (by rfl) h_149) (by rfl)
              refine WL.off ?_ ?_; exact Wanted.guard (dj := 73) (by rfl) (evb (by rfl) h_149) (by rfl)
              refine WL.off ?_ ?_; exact Wanted.guard (dj := 73) (by rfl) (evb (by rfl) h_149) (by rfl)
              refine WL.off ?_ ?_; exact Wanted.undef (dj := 76) rfl rfl
              refine WL.off ?_ ?_; exact Wanted.undef (dj := 76) rfl rfl
              refine WL.off ?_ ?_; exact Wanted.guard (dj := 73) (by rfl) (evb (by rfl) h_149) (by rfl)
              refine WL.val Wanted.none (Runs.pick_t (evb rfl h_149) rfl) ?_
              refine WL.val Wanted.none (Runs.assign rfl) ?_
              refine WL.nil ?_
              refine QW.then_n ?_
              refine CW.sub [(2, .int .u8 a2), (3, .pointer (some ⟨B_1, 0, none⟩)), (6, .bool b_17), (8, .string r_13), (10, .int .i64 (IntKind.i64.wrap (Int.tmod a1 64))), (11, .pointer (some ⟨B_132, 0, none⟩)), (12, .int .i64 r_142), (13, .bool true)] ⟨rfl, rfl, rfl, rfl, rfl, rfl, rfl, rfl, trivial⟩ ?_
              refine CW.seq ?_
              refine CW.seq ?_
              refine CW.region ?_
              refine WL.val Wanted.none (Runs.move rfl) ?_
              refine WL.val Wanted.none (Runs.not rfl rfl) ?_
              refine WL.nil ?_
              refine QW.then_n ?_
              refine CW.cf rfl rfl ?_
              refine CW.skip ?_
              refine QW.then_n ?_
              refine CW.seq ?_
              refine CW.region_qa wide (by kernel_rfl) st_144 ?_
              refine HL.val Wanted.none (fun wq sq => (Runs.move rfl)) ?_
              refine HL.val Wanted.none (fun wq sq => (Runs.eql rfl rfl rfl)) ?_
              refine HL.val Wanted.none (fun wq sq => (Runs.move rfl)) ?_
              obtain ⟨c_150, H⟩ := H
              have h_151 : (r_142 == 0) = true := (beq_iff_eq.mpr c_150)
              refine HL.on ?_ ?_; exact Wanted.guard (dj := 92) (by rfl) (evb (by rfl) h_151) (by rfl)
              refine HL.val Wanted.none (fun wq sq => (Runs.load_arr arr25 rfl (sq.blk (i := 0) rfl) hl_141)) ?_
              refine HL.on ?_ ?_; exact Wanted.guard (dj := 92) (by rfl) (evb (by rfl) h_151) (by rfl)
              refine HL.val Wanted.none (fun wq sq => (Runs.load_arr arr25 rfl (sq.blk (i := 2) rfl) hl0)) ?_
              refine HL.on ?_ ?_; exact Wanted.guard (dj := 92) (by rfl) (evb (by rfl) h_151) (by rfl)
              refine HL.val Wanted.none (fun wq sq => (Runs.eql_arr arr25 eqg25 rfl rfl hl_141 hl0 rfl)) ?_
              refine HL.on ?_ ?_; exact Wanted.guard (dj := 92) (by rfl) (evb (by rfl) h_151) (by rfl)
              refine HL.val Wanted.none (fun wq sq => (Runs.move rfl)) ?_
              refine HL.on ?_ ?_; exact Wanted.guard (dj := 92) (by rfl) (evb (by rfl) h_151) (by rfl)
              refine HL.val Wanted.none (fun wq sq => (Runs.move rfl)) ?_
              refine HL.on ?_ ?_; exact Wanted.guard (dj := 92) (by rfl) (evb (by rfl) h_151) (by rfl)
              refine HL.val Wanted.none (fun wq sq => (Runs.move rfl)) ?_
              refine HL.on ?_ ?_; exact Wanted.guard (dj := 92) (by rfl) (evb (by rfl) h_151) (by rfl)
              obtain ⟨⟨p_152, q_153⟩, H⟩ := H
              refine HL.val Wanted.none (fun wq sq => (Runs.index_str Tryd.underlying9 rfl rfl p_152 q_153 (j := (IntKind.i64.wrap (Int.tmod a1 64)).toNat) (by first | rfl | omega))) ?_
              refine HL.on ?_ ?_; exact Wanted.guard (dj := 92) (by rfl) (evb (by rfl) h_151) (by rfl)
              refine HL.val Wanted.none (fun wq sq => (Runs.eql rfl rfl rfl)) ?_
              refine HL.on ?_ ?_; exact Wanted.guard (dj := 92) (by rfl) (evb (by rfl) h_151) (by rfl)
              refine HL.val Wanted.none (fun wq sq => (Runs.eqb Tryd.underlying4 rfl rfl rfl)) ?_
              refine HL.val Wanted.none (fun wq sq => (Runs.pick_t (evb rfl h_151) rfl)) ?_
              refine HL.val Wanted.none (fun wq sq => (Runs.assign rfl)) ?_
              refine HL.nil (fun w_154 st_155 => ?_)
              refine WL.nil ?_
              refine QW.then_n ?_
              refine CW.sub [(6, .bool ((r_140 == l0) == (a2 == (bn r_13 ((IntKind.i64.wrap (Int.tmod a1 64)).toNat)))))] ⟨rfl, trivial⟩ ?_
              refine CW.ret ?_
              have hz : ((r_140 == l0) == (a2 == (bn r_13 ((IntKind.i64.wrap (Int.tmod a1 64)).toNat)))) = true := (beq_iff_eq.mpr H)
              exact QW.ret1 rfl (evb rfl hz) ⟨rfl, st_155.ext⟩
            · have h_149 : (decide (a2 ≤ 57)) = false := (decide_eq_false c_148)
              refine WL.on ?_ ?_; exact Wanted.guard (dj := 73) (by rfl) (evb (by rfl) h_149) (by rfl)
              refine WL.val Wanted.none (Runs.move rfl) ?_
              refine WL.on ?_ ?_; exact Wanted.guard (dj := 73) (by rfl) (evb (by rfl) h_149) (by rfl)
              refine WL.val Wanted.none (Runs.geq rfl rfl rfl) ?_
              refine WL.on ?_ ?_; exact Wanted.guard (dj := 73) (by rfl) (evb (by rfl) h_149) (by rfl)
              refine WL.val Wanted.none (Runs.move rfl) ?_
              rcases H with ⟨c_158, H⟩ | ⟨c_158, H⟩
              · have h_159 : (decide (a2 ≥ 97)) = true := (decide_eq_true c_158)
                refine WL.on ?_ ?_; exact Wanted.guard (dj := 76) (by rfl) (evb (by rfl) h_159) (by rfl)
                refine WL.val Wanted.none (Runs.move rfl) ?_
                refine WL.on ?_ ?_; exact Wanted.guard (dj := 76) (by rfl) (evb (by rfl) h_159) (by rfl)
                refine WL.val Wanted.none (Runs.leq rfl rfl rfl) ?_
                refine WL.on ?_ ?_; exact Wanted.guard (dj := 73) (by rfl) (evb (by rfl) h_149) (by rfl)
                refine WL.val Wanted.none (Runs.pick_t (evb rfl h_159) rfl) ?_
                refine WL.val Wanted.none (Runs.pick_f (evb rfl h_149) rfl) ?_
                refine WL.val Wanted.none (Runs.assign rfl) ?_
                refine WL.nil ?_
                refine QW.then_n ?_
                refine CW.sub [(2, .int .u8 a2), (3, .pointer (some ⟨B_1, 0, none⟩)), (6, .bool b_17), (8, .string r_13), (10, .int .i64 (IntKind.i64.wrap (Int.tmod a1 64))), (11, .pointer (some ⟨B_132, 0, none⟩)), (12, .int .i64 r_142), (13, .bool (decide (a2 ≤ 102)))] ⟨rfl, rfl, rfl, rfl, rfl, rfl, rfl, rfl, trivial⟩ ?_
                refine CW.seq ?_
                refine CW.seq ?_
                refine CW.region ?_
                refine WL.val Wanted.none (Runs.move rfl) ?_
                refine WL.val Wanted.none (Runs.not rfl rfl) ?_
                refine WL.nil ?_
                refine QW.then_n ?_
                rcases H with ⟨c_160, H⟩ | ⟨c_160, H⟩
                · have h_161 : (!(decide (a2 ≤ 102))) = true := (not_t (decide_eq_false c_160))
                  refine CW.ct rfl h_161 ?_
                  refine CW.seq ?_
                  refine CW.region ?_
                  refine WL.val Wanted.none (Runs.move rfl) ?_
                  refine WL.val Wanted.none (Runs.eql rfl rfl rfl) ?_
                  refine WL.val Wanted.none (Runs.move rfl) ?_
                  obtain ⟨c_162, H⟩ := H
                  have h_163 : (r_142 == 11) = true := (beq_iff_eq.mpr c_162)
                  refine WL.on ?_ ?_; exact Wanted.guard (dj := 85) (by rfl) (evb (by rfl) h_163) (by rfl)
                  refine WL.val Wanted.none (Runs.load_arr arr25 rfl (st_144.blk (i := 0) rfl) hl_141) ?_
                  refine WL.on ?_ ?_; exact Wanted.guard (dj := 85) (by rfl) (evb (by rfl) h_163) (by rfl)
                  obtain ⟨m_164, e_165, H⟩ := H
                  refine WL.val Wanted.none (Runs.build_arr (xs := m_164) arr25 rfl rfl (by rw [e_165]; rfl)) ?_
                  refine WL.on ?_ ?_; exact Wanted.guard (dj := 85) (by rfl) (evb (by rfl) h_163) (by rfl)
                  refine WL.val Wanted.none (Runs.eql_arr arr25 eqg25 rfl rfl hl_141 (by rw [e_165]; rfl) rfl) ?_
                  refine WL.val Wanted.none (Runs.pick_t (evb rfl h_163) rfl) ?_
                  refine WL.val Wanted.none (Runs.assign rfl) ?_
                  refine WL.nil ?_
                  refine QW.then_n ?_
                  refine CW.sub [(2, .int .u8 a2), (3, .pointer (some ⟨B_1, 0, none⟩)), (6, .bool (r_140 == m_164)), (8, .string r_13), (10, .int .i64 (IntKind.i64.wrap (Int.tmod a1 64))), (11, .pointer (some ⟨B_132, 0, none⟩)), (12, .int .i64 r_142)] ⟨rfl, rfl, rfl, rfl, rfl, rfl, rfl, trivial⟩ ?_
                  refine CW.ret ?_
                  refine QW.then_r ?_
                  have hz : (r_140 == m_164) = true := (beq_iff_eq.mpr H)
                  exact QW.ret1 rfl (evb rfl hz) ⟨rfl, st_144.ext⟩
                · have h_161 : (!(decide (a2 ≤ 102))) = false := (not_f (decide_eq_true (Decidable.not_not.mp c_160)))
                  refine CW.cf rfl h_161 ?_
                  refine CW.skip ?_
                  refine QW.then_n ?_
                  refine CW.seq ?_
                  refine CW.region_qa wide (by kernel_rfl) st_144 ?_
                  refine HL.val Wanted.none (fun wq sq => (Runs.move rfl)) ?_
                  refine HL.val Wanted.none (fun wq sq => (Runs.eql rfl rfl rfl)) ?_
                  refine HL.val Wanted.none (fun wq sq => (Runs.move rfl)) ?_
                  obtain ⟨c_166, H⟩ := H
                  have h_167 : (r_142 == 0) = true := (beq_iff_eq.mpr c_166)
                  refine HL.on ?_ ?_; exact Wanted.guard (dj := 92) (by rfl) (evb (by rfl) h_167) (by rfl)
                  refine HL.val Wanted.none (fun wq sq => (Runs.load_arr arr25 rfl (sq.blk (i := 0) rfl) hl_141)) ?_
                  refine HL.on ?_ ?_; exact Wanted.guard (dj := 92) (by rfl) (evb (by rfl) h_167) (by rfl)
                  refine HL.val Wanted.none (fun wq sq => (Runs.load_arr arr25 rfl (sq.blk (i := 2) rfl) hl0)) ?_
                  refine HL.on ?_ ?_; exact Wanted.guard (dj := 92) (by rfl) (evb (by rfl) h_167) (by rfl)
                  refine HL.val Wanted.none (fun wq sq => (Runs.eql_arr arr25 eqg25 rfl rfl hl_141 hl0 rfl)) ?_
                  refine HL.on ?_ ?_; exact Wanted.guard (dj := 92) (by rfl) (evb (by rfl) h_167) (by rfl)
                  refine HL.val Wanted.none (fun wq sq => (Runs.move rfl)) ?_
                  refine HL.on ?_ ?_; exact Wanted.guard (dj := 92) (by rfl) (evb (by rfl) h_167) (by rfl)
                  refine HL.val Wanted.none (fun wq sq => (Runs.move rfl)) ?_
                  refine HL.on ?_ ?_; exact Wanted.guard (dj := 92) (by rfl) (evb (by rfl) h_167) (by rfl)
                  refine HL.val Wanted.none (fun wq sq => (Runs.move rfl)) ?_
                  refine HL.on ?_ ?_; exact Wanted.guard (dj := 92) (by rfl) (evb (by rfl) h_167) (by rfl)
                  obtain ⟨⟨p_168, q_169⟩, H⟩ := H
                  refine HL.val Wanted.none (fun wq sq => (Runs.index_str Tryd.underlying9 rfl rfl p_168 q_169 (j := (IntKind.i64.wrap (Int.tmod a1 64)).toNat) (by first | rfl | omega))) ?_
                  refine HL.on ?_ ?_; exact Wanted.guard (dj := 92) (by rfl) (evb (by rfl) h_167) (by rfl)
                  refine HL.val Wanted.none (fun wq sq => (Runs.eql rfl rfl rfl)) ?_
                  refine HL.on ?_ ?_; exact Wanted.guard (dj := 92) (by rfl) (evb (by rfl) h_167) (by rfl)
                  refine HL.val Wanted.none (fun wq sq => (Runs.eqb Tryd.underlying4 rfl rfl rfl)) ?_
                  refine HL.val Wanted.none (fun wq sq => (Runs.pick_t (evb rfl h_167) rfl)) ?_
                  refine HL.val Wanted.none (fun wq sq => (Runs.assign rfl)) ?_
                  refine HL.nil (fun w_170 st_171 => ?_)
                  refine WL.nil ?_
                  refine QW.then_n ?_
                  refine CW.sub [(6, .bool ((r_140 == l0) == (a2 == (bn r_13 ((IntKind.i64.wrap (Int.tmod a1 64)).toNat)))))] ⟨rfl, trivial⟩ ?_
                  refine CW.ret ?_
                  have hz : ((r_140 == l0) == (a2 == (bn r_13 ((IntKind.i64.wrap (Int.tmod a1 64)).toNat)))) = true := (beq_iff_eq.mpr H)
                  exact QW.ret1 rfl (evb rfl hz) ⟨rfl, st_171.ext⟩
              · have h_159 : (decide (a2 ≥ 97)) = false := (decide_eq_false c_158)
                refine WL.off ?_ ?_; exact Wanted.guard (dj := 76) (by rfl) (evb (by rfl) h_159) (by rfl)
                refine WL.off ?_ ?_; exact Wanted.guard (dj := 76) (by rfl) (evb (by rfl) h_159) (by rfl)
                refine WL.on ?_ ?_; exact Wanted.guard (dj := 73) (by rfl) (evb (by rfl) h_149) (by rfl)
                refine WL.val Wanted.none (Runs.pick_f (evb rfl h_159) rfl) ?_
                refine WL.val Wanted.none (Runs.pick_f (evb rfl h_149) rfl) ?_
                refine WL.val Wanted.none (Runs.assign rfl) ?_
                refine WL.nil ?_
                refine QW.then_n ?_
                refine CW.sub [(2, .int .u8 a2), (3, .pointer (some ⟨B_1, 0, none⟩)), (6, .bool b_17), (8, .string r_13), (10, .int .i64 (IntKind.i64.wrap (Int.tmod a1 64))), (11, .pointer (some ⟨B_132, 0, none⟩)), (12, .int .i64 r_142), (13, .bool false)] ⟨rfl, rfl, rfl, rfl, rfl, rfl, rfl, rfl, trivial⟩ ?_
                refine CW.seq ?_
                refine CW.seq ?_
                refine CW.region ?_
                refine WL.val Wanted.none (Runs.move rfl) ?_
                refine WL.val Wanted.none (Runs.not rfl rfl) ?_
                refine WL.nil ?_
                refine QW.then_n ?_
                refine CW.ct rfl rfl ?_
                refine CW.seq ?_
                refine CW.region ?_
                refine WL.val Wanted.none (Runs.move rfl) ?_
                refine WL.val Wanted.none (Runs.eql rfl rfl rfl) ?_
                refine WL.val Wanted.none (Runs.move rfl) ?_
                obtain ⟨c_174, H⟩ := H
                have h_175 : (r_142 == 11) = true := (beq_iff_eq.mpr c_174)
                refine WL.on ?_ ?_; exact Wanted.guard (dj := 85) (by rfl) (evb (by rfl) h_175) (by rfl)
                refine WL.val Wanted.none (Runs.load_arr arr25 rfl (st_144.blk (i := 0) rfl) hl_141) ?_
                refine WL.on ?_ ?_; exact Wanted.guard (dj := 85) (by rfl) (evb (by rfl) h_175) (by rfl)
                obtain ⟨m_176, e_177, H⟩ := H
                refine WL.val Wanted.none (Runs.build_arr (xs := m_176) arr25 rfl rfl (by rw [e_177]; rfl)) ?_
                refine WL.on ?_ ?_; exact Wanted.guard (dj := 85) (by rfl) (evb (by rfl) h_175) (by rfl)
                refine WL.val Wanted.none (Runs.eql_arr arr25 eqg25 rfl rfl hl_141 (by rw [e_177]; rfl) rfl) ?_
                refine WL.val Wanted.none (Runs.pick_t (evb rfl h_175) rfl) ?_
                refine WL.val Wanted.none (Runs.assign rfl) ?_
                refine WL.nil ?_
                refine QW.then_n ?_
                refine CW.sub [(2, .int .u8 a2), (3, .pointer (some ⟨B_1, 0, none⟩)), (6, .bool (r_140 == m_176)), (8, .string r_13), (10, .int .i64 (IntKind.i64.wrap (Int.tmod a1 64))), (11, .pointer (some ⟨B_132, 0, none⟩)), (12, .int .i64 r_142)] ⟨rfl, rfl, rfl, rfl, rfl, rfl, rfl, trivial⟩ ?_
                refine CW.ret ?_
                refine QW.then_r ?_
                have hz : (r_140 == m_176) = true := (beq_iff_eq.mpr H)
                exact QW.ret1 rfl (evb rfl hz) ⟨rfl, st_144.ext⟩
          · have h_147 : (decide (a2 ≥ 48)) = false := (decide_eq_false c_146)
            refine WL.off ?_ ?_; exact Wanted.guard (dj := 69) (by rfl) (evb (by rfl) h_147) (by rfl)
            refine WL.off ?_ ?_; exact Wanted.guard (dj := 69) (by rfl) (evb (by rfl) h_147) (by rfl)
            refine WL.val Wanted.none (Runs.pick_f (evb rfl h_147) rfl) ?_
            refine WL.val Wanted.none (Runs.move rfl) ?_
            refine WL.on ?_ ?_; exact Wanted.guard (dj := 73) (by rfl) (by rfl) (by rfl)
            refine WL.val Wanted.none (Runs.move rfl) ?_
            refine WL.on ?_ ?_; exact Wanted.guard (dj := 73) (by rfl) (by rfl) (by rfl)
            refine WL.val Wanted.none (Runs.geq rfl rfl rfl) ?_
            refine WL.on ?_ ?_; exact Wanted.guard (dj := 73) (by rfl) (by rfl) (by rfl)
            refine WL.val Wanted.none (Runs.move rfl) ?_
            rcases H with ⟨c_178, H⟩ | ⟨c_178, H⟩
            · have h_179 : (decide (a2 ≥ 97)) = true := (decide_eq_true c_178)
              refine WL.on ?_ ?_; exact Wanted.guard (dj := 76) (by rfl) (evb (by rfl) h_179) (by rfl)
              refine WL.val Wanted.none (Runs.move rfl) ?_
              refine WL.on ?_ ?_; exact Wanted.guard (dj := 76) (by rfl) (evb (by rfl) h_179) (by rfl)
              refine WL.val Wanted.none (Runs.leq rfl rfl rfl) ?_
              refine WL.on ?_ ?_; exact Wanted.guard (dj := 73) (by rfl) (by rfl) (by rfl)
              refine WL.val Wanted.none (Runs.pick_t (evb rfl h_179) rfl) ?_
              refine WL.val Wanted.none (Runs.pick_f rfl rfl) ?_
              refine WL.val Wanted.none (Runs.assign rfl) ?_
              refine WL.nil ?_
              refine QW.then_n ?_
              refine CW.sub [(2, .int .u8 a2), (3, .pointer (some ⟨B_1, 0, none⟩)), (6, .bool b_17), (8, .string r_13), (10, .int .i64 (IntKind.i64.wrap (Int.tmod a1 64))), (11, .pointer (some ⟨B_132, 0, none⟩)), (12, .int .i64 r_142), (13, .bool (decide (a2 ≤ 102)))] ⟨rfl, rfl, rfl, rfl, rfl, rfl, rfl, rfl, trivial⟩ ?_
              refine CW.seq ?_
              refine CW.seq ?_
              refine CW.region ?_
              refine WL.val Wanted.none (Runs.move rfl) ?_
              refine WL.val Wanted.none (Runs.not rfl rfl) ?_
              refine WL.nil ?_
              refine QW.then_n ?_
              rcases H with ⟨c_180, H⟩ | ⟨c_180, H⟩
              · have h_181 : (!(decide (a2 ≤ 102))) = true := (not_t (decide_eq_false c_180))
                refine CW.ct rfl h_181 ?_
                refine CW.seq ?_
                refine CW.region ?_
                refine WL.val Wanted.none (Runs.move rfl) ?_
                refine WL.val Wanted.none (Runs.eql rfl rfl rfl) ?_
                refine WL.val Wanted.none (Runs.move rfl) ?_
                obtain ⟨c_182, H⟩ := H
                have h_183 : (r_142 == 11) = true := (beq_iff_eq.mpr c_182)
                refine WL.on ?_ ?_; exact Wanted.guard (dj := 85) (by rfl) (evb (by rfl) h_183) (by rfl)
                refine WL.val Wanted.none (Runs.load_arr arr25 rfl (st_144.blk (i := 0) rfl) hl_141) ?_
                refine WL.on ?_ ?_; exact Wanted.guard (dj := 85) (by rfl) (evb (by rfl) h_183) (by rfl)
                obtain ⟨m_184, e_185, H⟩ := H
                refine WL.val Wanted.none (Runs.build_arr (xs := m_184) arr25 rfl rfl (by rw [e_185]; rfl)) ?_
                refine WL.on ?_ ?_; exact Wanted.guard (dj := 85) (by rfl) (evb (by rfl) h_183) (by rfl)
                refine WL.val Wanted.none (Runs.eql_arr arr25 eqg25 rfl rfl hl_141 (by rw [e_185]; rfl) rfl) ?_
                refine WL.val Wanted.none (Runs.pick_t (evb rfl h_183) rfl) ?_
                refine WL.val Wanted.none (Runs.assign rfl) ?_
                refine WL.nil ?_
                refine QW.then_n ?_
                refine CW.sub [(2, .int .u8 a2), (3, .pointer (some ⟨B_1, 0, none⟩)), (6, .bool (r_140 == m_184)), (8, .string r_13), (10, .int .i64 (IntKind.i64.wrap (Int.tmod a1 64))), (11, .pointer (some ⟨B_132, 0, none⟩)), (12, .int .i64 r_142)] ⟨rfl, rfl, rfl, rfl, rfl, rfl, rfl, trivial⟩ ?_
                refine CW.ret ?_
                refine QW.then_r ?_
                have hz : (r_140 == m_184) = true := (beq_iff_eq.mpr H)
                exact QW.ret1 rfl (evb rfl hz) ⟨rfl, st_144.ext⟩
              · have h_181 : (!(decide (a2 ≤ 102))) = false := (not_f (decide_eq_true (Decidable.not_not.mp c_180)))
                refine CW.cf rfl h_181 ?_
                refine CW.skip ?_
                refine QW.then_n ?_
                refine CW.seq ?_
                refine CW.region_qa wide (by kernel_rfl) st_144 ?_
                refine HL.val Wanted.none (fun wq sq => (Runs.move rfl)) ?_
                refine HL.val Wanted.none (fun wq sq => (Runs.eql rfl rfl rfl)) ?_
                refine HL.val Wanted.none (fun wq sq => (Runs.move rfl)) ?_
                obtain ⟨c_186, H⟩ := H
                have h_187 : (r_142 == 0) = true := (beq_iff_eq.mpr c_186)
                refine HL.on ?_ ?_; exact Wanted.guard (dj := 92) (by rfl) (evb (by rfl) h_187) (by rfl)
                refine HL.val Wanted.none (fun wq sq => (Runs.load_arr arr25 rfl (sq.blk (i := 0) rfl) hl_141)) ?_
                refine HL.on ?_ ?_; exact Wanted.guard (dj := 92) (by rfl) (evb (by rfl) h_187) (by rfl)
                refine HL.val Wanted.none (fun wq sq => (Runs.load_arr arr25 rfl (sq.blk (i := 2) rfl) hl0)) ?_
                refine HL.on ?_ ?_; exact Wanted.guard (dj := 92) (by rfl) (evb (by rfl) h_187) (by rfl)
                refine HL.val Wanted.none (fun wq sq => (Runs.eql_arr arr25 eqg25 rfl rfl hl_141 hl0 rfl)) ?_
                refine HL.on ?_ ?_; exact Wanted.guard (dj := 92) (by rfl) (evb (by rfl) h_187) (by rfl)
                refine HL.val Wanted.none (fun wq sq => (Runs.move rfl)) ?_
                refine HL.on ?_ ?_; exact Wanted.guard (dj := 92) (by rfl) (evb (by rfl) h_187) (by rfl)
                refine HL.val Wanted.none (fun wq sq => (Runs.move rfl)) ?_
                refine HL.on ?_ ?_; exact Wanted.guard (dj := 92) (by rfl) (evb (by rfl) h_187) (by rfl)
                refine HL.val Wanted.none (fun wq sq => (Runs.move rfl)) ?_
                refine HL.on ?_ ?_; exact Wanted.guard (dj := 92) (by rfl) (evb (by rfl) h_187) (by rfl)
                obtain ⟨⟨p_188, q_189⟩, H⟩ := H
                refine HL.val Wanted.none (fun wq sq => (Runs.index_str Tryd.underlying9 rfl rfl p_188 q_189 (j := (IntKind.i64.wrap (Int.tmod a1 64)).toNat) (by first | rfl | omega))) ?_
                refine HL.on ?_ ?_; exact Wanted.guard (dj := 92) (by rfl) (evb (by rfl) h_187) (by rfl)
                refine HL.val Wanted.none (fun wq sq => (Runs.eql rfl rfl rfl)) ?_
                refine HL.on ?_ ?_; exact Wanted.guard (dj := 92) (by rfl) (evb (by rfl) h_187) (by rfl)
                refine HL.val Wanted.none (fun wq sq => (Runs.eqb Tryd.underlying4 rfl rfl rfl)) ?_
                refine HL.val Wanted.none (fun wq sq => (Runs.pick_t (evb rfl h_187) rfl)) ?_
                refine HL.val Wanted.none (fun wq sq => (Runs.assign rfl)) ?_
                refine HL.nil (fun w_190 st_191 => ?_)
                refine WL.nil ?_
                refine QW.then_n ?_
                refine CW.sub [(6, .bool ((r_140 == l0) == (a2 == (bn r_13 ((IntKind.i64.wrap (Int.tmod a1 64)).toNat)))))] ⟨rfl, trivial⟩ ?_
                refine CW.ret ?_
                have hz : ((r_140 == l0) == (a2 == (bn r_13 ((IntKind.i64.wrap (Int.tmod a1 64)).toNat)))) = true := (beq_iff_eq.mpr H)
                exact QW.ret1 rfl (evb rfl hz) ⟨rfl, st_191.ext⟩
            · have h_179 : (decide (a2 ≥ 97)) = false := (decide_eq_false c_178)
              refine WL.off ?_ ?_; exact Wanted.guard (dj := 76) (by rfl) (evb (by rfl) h_179) (by rfl)
              refine WL.off ?_ ?_; exact Wanted.guard (dj := 76) (by rfl) (evb (by rfl) h_179) (by rfl)
              refine WL.on ?_ ?_; exact Wanted.guard (dj := 73) (by rfl) (by rfl) (by rfl)
              refine WL.val Wanted.none (Runs.pick_f (evb rfl h_179) rfl) ?_
              refine WL.val Wanted.none (Runs.pick_f rfl rfl) ?_
              refine WL.val Wanted.none (Runs.assign rfl) ?_
              refine WL.nil ?_
              refine QW.then_n ?_
              refine CW.sub [(2, .int .u8 a2), (3, .pointer (some ⟨B_1, 0, none⟩)), (6, .bool b_17), (8, .string r_13), (10, .int .i64 (IntKind.i64.wrap (Int.tmod a1 64))), (11, .pointer (some ⟨B_132, 0, none⟩)), (12, .int .i64 r_142), (13, .bool false)] ⟨rfl, rfl, rfl, rfl, rfl, rfl, rfl, rfl, trivial⟩ ?_
              refine CW.seq ?_
              refine CW.seq ?_
              refine CW.region ?_
              refine WL.val Wanted.none (Runs.move rfl) ?_
              refine WL.val Wanted.none (Runs.not rfl rfl) ?_
              refine WL.nil ?_
              refine QW.then_n ?_
              refine CW.ct rfl rfl ?_
              refine CW.seq ?_
              refine CW.region ?_
              refine WL.val Wanted.none (Runs.move rfl) ?_
              refine WL.val Wanted.none (Runs.eql rfl rfl rfl) ?_
              refine WL.val Wanted.none (Runs.move rfl) ?_
              obtain ⟨c_194, H⟩ := H
              have h_195 : (r_142 == 11) = true := (beq_iff_eq.mpr c_194)
              refine WL.on ?_ ?_; exact Wanted.guard (dj := 85) (by rfl) (evb (by rfl) h_195) (by rfl)
              refine WL.val Wanted.none (Runs.load_arr arr25 rfl (st_144.blk (i := 0) rfl) hl_141) ?_
              refine WL.on ?_ ?_; exact Wanted.guard (dj := 85) (by rfl) (evb (by rfl) h_195) (by rfl)
              obtain ⟨m_196, e_197, H⟩ := H
              refine WL.val Wanted.none (Runs.build_arr (xs := m_196) arr25 rfl rfl (by rw [e_197]; rfl)) ?_
              refine WL.on ?_ ?_; exact Wanted.guard (dj := 85) (by rfl) (evb (by rfl) h_195) (by rfl)
              refine WL.val Wanted.none (Runs.eql_arr arr25 eqg25 rfl rfl hl_141 (by rw [e_197]; rfl) rfl) ?_
              refine WL.val Wanted.none (Runs.pick_t (evb rfl h_195) rfl) ?_
              refine WL.val Wanted.none (Runs.assign rfl) ?_
              refine WL.nil ?_
              refine QW.then_n ?_
              refine CW.sub [(2, .int .u8 a2), (3, .pointer (some ⟨B_1, 0, none⟩)), (6, .bool (r_140 == m_196)), (8, .string r_13), (10, .int .i64 (IntKind.i64.wrap (Int.tmod a1 64))), (11, .pointer (some ⟨B_132, 0, none⟩)), (12, .int .i64 r_142)] ⟨rfl, rfl, rfl, rfl, rfl, rfl, rfl, trivial⟩ ?_
              refine CW.ret ?_
              refine QW.then_r ?_
              have hz : (r_140 == m_196) = true := (beq_iff_eq.mpr H)
              exact QW.ret1 rfl (evb rfl hz) ⟨rfl, st_144.ext⟩
      · refine WL.alloc st_58 arr25.zero ?_
        intro B_198 w_199 st_200
        replace st_200 : St w w_199 [.cells B_198 (iv .u8 (List.replicate 32 (0 : Int))) 25, .sl (some ⟨B_56, 0, none⟩) 1 1 (iv .u8 [a2]) 5 1, .cells B_1 (iv .u8 l0) 25] := st_200
        refine WL.nil ?_
        refine AW.back ?_
        refine AW.step 5 rfl (by kernel_rfl) ?_
        refine WL.val Wanted.none (Runs.bytes_str Tryd.underlying22 Tryd.underlying5 Tryd.underlying9 rfl (st_200.src_sl (k := 1) rfl) rfl) ?_
        refine WL.nil ?_
        refine AW.back ?_
        obtain ⟨z_202, H⟩ := H
        obtain ⟨x_203, e_204, H⟩ := H
        refine AW.take 6 rfl (by kernel_rfl) (by kernel_rfl) (by kernel_rfl) Wanted.none (fun _ => (Runs.adds rfl rfl z_202 e_204)) ?_
        obtain ⟨z_205, H⟩ := H
        obtain ⟨x_206, e_207, H⟩ := H
        refine AW.take 11 rfl (by kernel_rfl) (by kernel_rfl) (by kernel_rfl) Wanted.none (fun _ => (Runs.adds rfl rfl z_205 e_207)) ?_
        refine AW.step 12 rfl (by kernel_rfl) ?_
        obtain ⟨r_212, r_214, hr_208, H⟩ := H
        refine WL.call Wanted.none ent14 rfl (digest_Read.calls w_199 x_206 r_212 r_214 hr_208) ?_
        rintro _ w_209 ⟨hl_213, rfl, sc_211⟩
        have st_210 : St w w_209 [.cells B_198 (iv .u8 (List.replicate 32 (0 : Int))) 25, .sl (some ⟨B_56, 0, none⟩) 1 1 (iv .u8 [a2]) 5 1, .cells B_1 (iv .u8 l0) 25] := st_200.call sc_211
        refine ⟨_, rfl, ?_⟩
        refine WL.nil ?_
        refine AW.back ?_
        refine AW.take 13 rfl (by kernel_rfl) (by kernel_rfl) (by kernel_rfl) Wanted.none (fun _ => (Runs.move rfl)) ?_
        refine AW.take 14 rfl (by kernel_rfl) (by kernel_rfl) (by kernel_rfl) Wanted.none (fun _ => (Runs.extract rfl rfl)) ?_
        refine AW.take 15 rfl (by kernel_rfl) (by kernel_rfl) (by kernel_rfl) Wanted.none (fun _ => (Runs.extract rfl rfl)) ?_
        refine AW.step 17 rfl (by kernel_rfl) ?_
        refine WL.store_arr (i := 0) st_210 rfl arr25 rfl (by rw [iv_length]; exact (List.length_replicate ..)) hl_213 rfl ?_
        intro w_215 st_216
        replace st_216 : St w w_215 [.cells B_198 (iv .u8 r_212) 25, .sl (some ⟨B_56, 0, none⟩) 1 1 (iv .u8 [a2]) 5 1, .cells B_1 (iv .u8 l0) 25] := st_216
        refine WL.nil ?_
        refine AW.back ?_
        refine AW.take 18 rfl (by kernel_rfl) (by kernel_rfl) (by kernel_rfl) Wanted.none (fun _ => (Runs.assign rfl)) ?_
        refine AW.done (by kernel_rfl) ?_
        refine QW.then_n ?_
        refine CW.sub [(2, .int .u8 a2), (3, .pointer (some ⟨B_1, 0, none⟩)), (6, .bool b_17), (8, .string r_13), (10, .int .i64 (IntKind.i64.wrap (Int.tmod a1 64))), (11, .pointer (some ⟨B_198, 0, none⟩)), (12, .int .i64 r_214)] ⟨rfl, rfl, rfl, rfl, rfl, rfl, rfl, trivial⟩ ?_
        refine CW.seq ?_
        refine CW.region ?_
        refine WL.val Wanted.none (Runs.move rfl) ?_
        refine WL.val Wanted.none (Runs.geq rfl rfl rfl) ?_
        refine WL.val Wanted.none (Runs.move rfl) ?_
        rcases H with ⟨c_218, H⟩ | ⟨c_218, H⟩
        · have h_219 : (decide (a2 ≥ 48)) = true := (decide_eq_true c_218)
          refine WL.on ?_ ?_; exact Wanted.guard (dj := 69) (by rfl) (evb (by rfl) h_219) (by rfl)
          refine WL.val Wanted.none (Runs.move rfl) ?_
          refine WL.on ?_ ?_; exact Wanted.guard (dj := 69) (by rfl) (evb (by rfl) h_219) (by rfl)
          refine WL.val Wanted.none (Runs.leq rfl rfl rfl) ?_
          refine WL.val Wanted.none (Runs.pick_t (evb rfl h_219) rfl) ?_
          refine WL.val Wanted.none (Runs.move rfl) ?_
          rcases H with ⟨c_220, H⟩ | ⟨c_220, H⟩
          · have h_221 : (decide (a2 ≤ 57)) = true := (decide_eq_true c_220)
            refine WL.off ?_ ?_; exact Wanted.guard (dj := 73) (by rfl) (evb (by rfl) h_221) (by rfl)
            refine WL.off ?_ ?_; exact Wanted.guard (dj := 73) (by rfl) (evb (by rfl) h_221) (by rfl)
            refine WL.off ?_ ?_; exact Wanted.guard (dj := 73) (by rfl) (evb (by rfl) h_221) (by rfl)
            refine WL.off ?_ ?_; exact Wanted.undef (dj := 76) rfl rfl
            refine WL.off ?_ ?_; exact Wanted.undef (dj := 76) rfl rfl
            refine WL.off ?_ ?_; exact Wanted.guard (dj := 73) (by rfl) (evb (by rfl) h_221) (by rfl)
            refine WL.val Wanted.none (Runs.pick_t (evb rfl h_221) rfl) ?_
            refine WL.val Wanted.none (Runs.assign rfl) ?_
            refine WL.nil ?_
            refine QW.then_n ?_
            refine CW.sub [(2, .int .u8 a2), (3, .pointer (some ⟨B_1, 0, none⟩)), (6, .bool b_17), (8, .string r_13), (10, .int .i64 (IntKind.i64.wrap (Int.tmod a1 64))), (11, .pointer (some ⟨B_198, 0, none⟩)), (12, .int .i64 r_214), (13, .bool true)] ⟨rfl, rfl, rfl, rfl, rfl, rfl, rfl, rfl, trivial⟩ ?_
            refine CW.seq ?_
            refine CW.seq ?_
            refine CW.region ?_
            refine WL.val Wanted.none (Runs.move rfl) ?_
            refine WL.val Wanted.none (Runs.not rfl rfl) ?_
            refine WL.nil ?_
            refine QW.then_n ?_
            refine CW.cf rfl rfl ?_
            refine CW.skip ?_
            refine QW.then_n ?_
            refine CW.seq ?_
            refine CW.region_qa wide (by kernel_rfl) st_216 ?_
            refine HL.val Wanted.none (fun wq sq => (Runs.move rfl)) ?_
            refine HL.val Wanted.none (fun wq sq => (Runs.eql rfl rfl rfl)) ?_
            refine HL.val Wanted.none (fun wq sq => (Runs.move rfl)) ?_
            obtain ⟨c_222, H⟩ := H
            have h_223 : (r_214 == 0) = true := (beq_iff_eq.mpr c_222)
            refine HL.on ?_ ?_; exact Wanted.guard (dj := 92) (by rfl) (evb (by rfl) h_223) (by rfl)
            refine HL.val Wanted.none (fun wq sq => (Runs.load_arr arr25 rfl (sq.blk (i := 0) rfl) hl_213)) ?_
            refine HL.on ?_ ?_; exact Wanted.guard (dj := 92) (by rfl) (evb (by rfl) h_223) (by rfl)
            refine HL.val Wanted.none (fun wq sq => (Runs.load_arr arr25 rfl (sq.blk (i := 2) rfl) hl0)) ?_
            refine HL.on ?_ ?_; exact Wanted.guard (dj := 92) (by rfl) (evb (by rfl) h_223) (by rfl)
            refine HL.val Wanted.none (fun wq sq => (Runs.eql_arr arr25 eqg25 rfl rfl hl_213 hl0 rfl)) ?_
            refine HL.on ?_ ?_; exact Wanted.guard (dj := 92) (by rfl) (evb (by rfl) h_223) (by rfl)
            refine HL.val Wanted.none (fun wq sq => (Runs.move rfl)) ?_
            refine HL.on ?_ ?_; exact Wanted.guard (dj := 92) (by rfl) (evb (by rfl) h_223) (by rfl)
            refine HL.val Wanted.none (fun wq sq => (Runs.move rfl)) ?_
            refine HL.on ?_ ?_; exact Wanted.guard (dj := 92) (by rfl) (evb (by rfl) h_223) (by rfl)
            refine HL.val Wanted.none (fun wq sq => (Runs.move rfl)) ?_
            refine HL.on ?_ ?_; exact Wanted.guard (dj := 92) (by rfl) (evb (by rfl) h_223) (by rfl)
            obtain ⟨⟨p_224, q_225⟩, H⟩ := H
            refine HL.val Wanted.none (fun wq sq => (Runs.index_str Tryd.underlying9 rfl rfl p_224 q_225 (j := (IntKind.i64.wrap (Int.tmod a1 64)).toNat) (by first | rfl | omega))) ?_
            refine HL.on ?_ ?_; exact Wanted.guard (dj := 92) (by rfl) (evb (by rfl) h_223) (by rfl)
            refine HL.val Wanted.none (fun wq sq => (Runs.eql rfl rfl rfl)) ?_
            refine HL.on ?_ ?_; exact Wanted.guard (dj := 92) (by rfl) (evb (by rfl) h_223) (by rfl)
            refine HL.val Wanted.none (fun wq sq => (Runs.eqb Tryd.underlying4 rfl rfl rfl)) ?_
            refine HL.val Wanted.none (fun wq sq => (Runs.pick_t (evb rfl h_223) rfl)) ?_
            refine HL.val Wanted.none (fun wq sq => (Runs.assign rfl)) ?_
            refine HL.nil (fun w_226 st_227 => ?_)
            refine WL.nil ?_
            refine QW.then_n ?_
            refine CW.sub [(6, .bool ((r_212 == l0) == (a2 == (bn r_13 ((IntKind.i64.wrap (Int.tmod a1 64)).toNat)))))] ⟨rfl, trivial⟩ ?_
            refine CW.ret ?_
            have hz : ((r_212 == l0) == (a2 == (bn r_13 ((IntKind.i64.wrap (Int.tmod a1 64)).toNat)))) = true := (beq_iff_eq.mpr H)
            exact QW.ret1 rfl (evb rfl hz) ⟨rfl, st_227.ext⟩
          · have h_221 : (decide (a2 ≤ 57)) = false := (decide_eq_false c_220)
            refine WL.on ?_ ?_; exact Wanted.guard (dj := 73) (by rfl) (evb (by rfl) h_221) (by rfl)
            refine WL.val Wanted.none (Runs.move rfl) ?_
            refine WL.on ?_ ?_; exact Wanted.guard (dj := 73) (by rfl) (evb (by rfl) h_221) (by rfl)
            refine WL.val Wanted.none (Runs.geq rfl rfl rfl) ?_
            refine WL.on ?_ ?_; exact Wanted.guard (dj := 73) (by rfl) (evb (by rfl) h_221) (by rfl)
            refine WL.val Wanted.none (Runs.move rfl) ?_
            rcases H with ⟨c_230, H⟩ | ⟨c_230, H⟩
            · have h_231 : (decide (a2 ≥ 97)) = true := (decide_eq_true c_230)
              refine WL.on ?_ ?_; exact Wanted.guard (dj := 76) (by rfl) (evb (by rfl) h_231) (by rfl)
              refine WL.val Wanted.none (Runs.move rfl) ?_
              refine WL.on ?_ ?_; exact Wanted.guard (dj := 76) (by rfl) (evb (by rfl) h_231) (by rfl)
              refine WL.val Wanted.none (Runs.leq rfl rfl rfl) ?_
              refine WL.on ?_ ?_; exact Wanted.guard (dj := 73) (by rfl) (evb (by rfl) h_221) (by rfl)
              refine WL.val Wanted.none (Runs.pick_t (evb rfl h_231) rfl) ?_
              refine WL.val Wanted.none (Runs.pick_f (evb rfl h_221) rfl) ?_
              refine WL.val Wanted.none (Runs.assign rfl) ?_
              refine WL.nil ?_
              refine QW.then_n ?_
              refine CW.sub [(2, .int .u8 a2), (3, .pointer (some ⟨B_1, 0, none⟩)), (6, .bool b_17), (8, .string r_13), (10, .int .i64 (IntKind.i64.wrap (Int.tmod a1 64))), (11, .pointer (some ⟨B_198, 0, none⟩)), (12, .int .i64 r_214), (13, .bool (decide (a2 ≤ 102)))] ⟨rfl, rfl, rfl, rfl, rfl, rfl, rfl, rfl, trivial⟩ ?_
              refine CW.seq ?_
              refine CW.seq ?_
              refine CW.region ?_
              refine WL.val Wanted.none (Runs.move rfl) ?_
              refine WL.val Wanted.none (Runs.not rfl rfl) ?_
              refine WL.nil ?_
              refine QW.then_n ?_
              rcases H with ⟨c_232, H⟩ | ⟨c_232, H⟩
              · have h_233 : (!(decide (a2 ≤ 102))) = true := (not_t (decide_eq_false c_232))
                refine CW.ct rfl h_233 ?_
                refine CW.seq ?_
                refine CW.region ?_
                refine WL.val Wanted.none (Runs.move rfl) ?_
                refine WL.val Wanted.none (Runs.eql rfl rfl rfl) ?_
                refine WL.val Wanted.none (Runs.move rfl) ?_
                obtain ⟨c_234, H⟩ := H
                have h_235 : (r_214 == 11) = true := (beq_iff_eq.mpr c_234)
                refine WL.on ?_ ?_; exact Wanted.guard (dj := 85) (by rfl) (evb (by rfl) h_235) (by rfl)
                refine WL.val Wanted.none (Runs.load_arr arr25 rfl (st_216.blk (i := 0) rfl) hl_213) ?_
                refine WL.on ?_ ?_; exact Wanted.guard (dj := 85) (by rfl) (evb (by rfl) h_235) (by rfl)
                obtain ⟨m_236, e_237, H⟩ := H
                refine WL.val Wanted.none (Runs.build_arr (xs := m_236) arr25 rfl rfl (by rw [e_237]; rfl)) ?_
                refine WL.on ?_ ?_; exact Wanted.guard (dj := 85) (by rfl) (evb (by rfl) h_235) (by rfl)
                refine WL.val Wanted.none (Runs.eql_arr arr25 eqg25 rfl rfl hl_213 (by rw [e_237]; rfl) rfl) ?_
                refine WL.val Wanted.none (Runs.pick_t (evb rfl h_235) rfl) ?_
                refine WL.val Wanted.none (Runs.assign rfl) ?_
                refine WL.nil ?_
                refine QW.then_n ?_
                refine CW.sub [(2, .int .u8 a2), (3, .pointer (some ⟨B_1, 0, none⟩)), (6, .bool (r_212 == m_236)), (8, .string r_13), (10, .int .i64 (IntKind.i64.wrap (Int.tmod a1 64))), (11, .pointer (some ⟨B_198, 0, none⟩)), (12, .int .i64 r_214)] ⟨rfl, rfl, rfl, rfl, rfl, rfl, rfl, trivial⟩ ?_
                refine CW.ret ?_
                refine QW.then_r ?_
                have hz : (r_212 == m_236) = true := (beq_iff_eq.mpr H)
                exact QW.ret1 rfl (evb rfl hz) ⟨rfl, st_216.ext⟩
              · have h_233 : (!(decide (a2 ≤ 102))) = false := (not_f (decide_eq_true (Decidable.not_not.mp c_232)))
                refine CW.cf rfl h_233 ?_
                refine CW.skip ?_
                refine QW.then_n ?_
                refine CW.seq ?_
                refine CW.region_qa wide (by kernel_rfl) st_216 ?_
                refine HL.val Wanted.none (fun wq sq => (Runs.move rfl)) ?_
                refine HL.val Wanted.none (fun wq sq => (Runs.eql rfl rfl rfl)) ?_
                refine HL.val Wanted.none (fun wq sq => (Runs.move rfl)) ?_
                obtain ⟨c_238, H⟩ := H
                have h_239 : (r_214 == 0) = true := (beq_iff_eq.mpr c_238)
                refine HL.on ?_ ?_; exact Wanted.guard (dj := 92) (by rfl) (evb (by rfl) h_239) (by rfl)
                refine HL.val Wanted.none (fun wq sq => (Runs.load_arr arr25 rfl (sq.blk (i := 0) rfl) hl_213)) ?_
                refine HL.on ?_ ?_; exact Wanted.guard (dj := 92) (by rfl) (evb (by rfl) h_239) (by rfl)
                refine HL.val Wanted.none (fun wq sq => (Runs.load_arr arr25 rfl (sq.blk (i := 2) rfl) hl0)) ?_
                refine HL.on ?_ ?_; exact Wanted.guard (dj := 92) (by rfl) (evb (by rfl) h_239) (by rfl)
                refine HL.val Wanted.none (fun wq sq => (Runs.eql_arr arr25 eqg25 rfl rfl hl_213 hl0 rfl)) ?_
                refine HL.on ?_ ?_; exact Wanted.guard (dj := 92) (by rfl) (evb (by rfl) h_239) (by rfl)
                refine HL.val Wanted.none (fun wq sq => (Runs.move rfl)) ?_
                refine HL.on ?_ ?_; exact Wanted.guard (dj := 92) (by rfl) (evb (by rfl) h_239) (by rfl)
                refine HL.val Wanted.none (fun wq sq => (Runs.move rfl)) ?_
                refine HL.on ?_ ?_; exact Wanted.guard (dj := 92) (by rfl) (evb (by rfl) h_239) (by rfl)
                refine HL.val Wanted.none (fun wq sq => (Runs.move rfl)) ?_
                refine HL.on ?_ ?_; exact Wanted.guard (dj := 92) (by rfl) (evb (by rfl) h_239) (by rfl)
                obtain ⟨⟨p_240, q_241⟩, H⟩ := H
                refine HL.val Wanted.none (fun wq sq => (Runs.index_str Tryd.underlying9 rfl rfl p_240 q_241 (j := (IntKind.i64.wrap (Int.tmod a1 64)).toNat) (by first | rfl | omega))) ?_
                refine HL.on ?_ ?_; exact Wanted.guard (dj := 92) (by rfl) (evb (by rfl) h_239) (by rfl)
                refine HL.val Wanted.none (fun wq sq => (Runs.eql rfl rfl rfl)) ?_
                refine HL.on ?_ ?_; exact Wanted.guard (dj := 92) (by rfl) (evb (by rfl) h_239) (by rfl)
                refine HL.val Wanted.none (fun wq sq => (Runs.eqb Tryd.underlying4 rfl rfl rfl)) ?_
                refine HL.val Wanted.none (fun wq sq => (Runs.pick_t (evb rfl h_239) rfl)) ?_
                refine HL.val Wanted.none (fun wq sq => (Runs.assign rfl)) ?_
                refine HL.nil (fun w_242 st_243 => ?_)
                refine WL.nil ?_
                refine QW.then_n ?_
                refine CW.sub [(6, .bool ((r_212 == l0) == (a2 == (bn r_13 ((IntKind.i64.wrap (Int.tmod a1 64)).toNat)))))] ⟨rfl, trivial⟩ ?_
                refine CW.ret ?_
                have hz : ((r_212 == l0) == (a2 == (bn r_13 ((IntKind.i64.wrap (Int.tmod a1 64)).toNat)))) = true := (beq_iff_eq.mpr H)
                exact QW.ret1 rfl (evb rfl hz) ⟨rfl, st_243.ext⟩
            · have h_231 : (decide (a2 ≥ 97)) = false := (decide_eq_false c_230)
              refine WL.off ?_ ?_; exact Wanted.guard (dj := 76) (by rfl) (evb (by rfl) h_231) (by rfl)
              refine WL.off ?_ ?_; exact Wanted.guard (dj := 76) (by rfl) (evb (by rfl) h_231) (by rfl)
              refine WL.on ?_ ?_; exact Wanted.guard (dj := 73) (by rfl) (evb (by rfl) h_221) (by rfl)
              refine WL.val Wanted.none (Runs.pick_f (evb rfl h_231) rfl) ?_
              refine WL.val Wanted.none (Runs.pick_f (evb rfl h_221) rfl) ?_
              refine WL.val Wanted.none (Runs.assign rfl) ?_
              refine WL.nil ?_
              refine QW.then_n ?_
              refine CW.sub [(2, .int .u8 a2), (3, .pointer (some ⟨B_1, 0, none⟩)), (6, .bool b_17), (8, .string r_13), (10, .int .i64 (IntKind.i64.wrap (Int.tmod a1 64))), (11, .pointer (some ⟨B_198, 0, none⟩)), (12, .int .i64 r_214), (13, .bool false)] ⟨rfl, rfl, rfl, rfl, rfl, rfl, rfl, rfl, trivial⟩ ?_
              refine CW.seq ?_
              refine CW.seq ?_
              refine CW.region ?_
              refine WL.val Wanted.none (Runs.move rfl) ?_
              refine WL.val Wanted.none (Runs.not rfl rfl) ?_
              refine WL.nil ?_
              refine QW.then_n ?_
              refine CW.ct rfl rfl ?_
              refine CW.seq ?_
              refine CW.region ?_
              refine WL.val Wanted.none (Runs.move rfl) ?_
              refine WL.val Wanted.none (Runs.eql rfl rfl rfl) ?_
              refine WL.val Wanted.none (Runs.move rfl) ?_
              obtain ⟨c_246, H⟩ := H
              have h_247 : (r_214 == 11) = true := (beq_iff_eq.mpr c_246)
              refine WL.on ?_ ?_; exact Wanted.guard (dj := 85) (by rfl) (evb (by rfl) h_247) (by rfl)
              refine WL.val Wanted.none (Runs.load_arr arr25 rfl (st_216.blk (i := 0) rfl) hl_213) ?_
              refine WL.on ?_ ?_; exact Wanted.guard (dj := 85) (by rfl) (evb (by rfl) h_247) (by rfl)
              obtain ⟨m_248, e_249, H⟩ := H
              refine WL.val Wanted.none (Runs.build_arr (xs := m_248) arr25 rfl rfl (by rw [e_249]; rfl)) ?_
              refine WL.on ?_ ?_; exact Wanted.guard (dj := 85) (by rfl) (evb (by rfl) h_247) (by rfl)
              refine WL.val Wanted.none (Runs.eql_arr arr25 eqg25 rfl rfl hl_213 (by rw [e_249]; rfl) rfl) ?_
              refine WL.val Wanted.none (Runs.pick_t (evb rfl h_247) rfl) ?_
              refine WL.val Wanted.none (Runs.assign rfl) ?_
              refine WL.nil ?_
              refine QW.then_n ?_
              refine CW.sub [(2, .int .u8 a2), (3, .pointer (some ⟨B_1, 0, none⟩)), (6, .bool (r_212 == m_248)), (8, .string r_13), (10, .int .i64 (IntKind.i64.wrap (Int.tmod a1 64))), (11, .pointer (some ⟨B_198, 0, none⟩)), (12, .int .i64 r_214)] ⟨rfl, rfl, rfl, rfl, rfl, rfl, rfl, trivial⟩ ?_
              refine CW.ret ?_
              refine QW.then_r ?_
              have hz : (r_212 == m_248) = true := (beq_iff_eq.mpr H)
              exact QW.ret1 rfl (evb rfl hz) ⟨rfl, st_216.ext⟩
        · have h_219 : (decide (a2 ≥ 48)) = false := (decide_eq_false c_218)
          refine WL.off ?_ ?_; exact Wanted.guard (dj := 69) (by rfl) (evb (by rfl) h_219) (by rfl)
          refine WL.off ?_ ?_; exact Wanted.guard (dj := 69) (by rfl) (evb (by rfl) h_219) (by rfl)
          refine WL.val Wanted.none (Runs.pick_f (evb rfl h_219) rfl) ?_
          refine WL.val Wanted.none (Runs.move rfl) ?_
          refine WL.on ?_ ?_; exact Wanted.guard (dj := 73) (by rfl) (by rfl) (by rfl)
          refine WL.val Wanted.none (Runs.move rfl) ?_
          refine WL.on ?_ ?_; exact Wanted.guard (dj := 73) (by rfl) (by rfl) (by rfl)
          refine WL.val Wanted.none (Runs.geq rfl rfl rfl) ?_
          refine WL.on ?_ ?_; exact Wanted.guard (dj := 73) (by rfl) (by rfl) (by rfl)
          refine WL.val Wanted.none (Runs.move rfl) ?_
          rcases H with ⟨c_250, H⟩ | ⟨c_250, H⟩
          · have h_251 : (decide (a2 ≥ 97)) = true := (decide_eq_true c_250)
            refine WL.on ?_ ?_; exact Wanted.guard (dj := 76) (by rfl) (evb (by rfl) h_251) (by rfl)
            refine WL.val Wanted.none (Runs.move rfl) ?_
            refine WL.on ?_ ?_; exact Wanted.guard (dj := 76) (by rfl) (evb (by rfl) h_251) (by rfl)
            refine WL.val Wanted.none (Runs.leq rfl rfl rfl) ?_
            refine WL.on ?_ ?_; exact Wanted.guard (dj := 73) (by rfl) (by rfl) (by rfl)
            refine WL.val Wanted.none (Runs.pick_t (evb rfl h_251) rfl) ?_
            refine WL.val Wanted.none (Runs.pick_f rfl rfl) ?_
            refine WL.val Wanted.none (Runs.assign rfl) ?_
            refine WL.nil ?_
            refine QW.then_n ?_
            refine CW.sub [(2, .int .u8 a2), (3, .pointer (some ⟨B_1, 0, none⟩)), (6, .bool b_17), (8, .string r_13), (10, .int .i64 (IntKind.i64.wrap (Int.tmod a1 64))), (11, .pointer (some ⟨B_198, 0, none⟩)), (12, .int .i64 r_214), (13, .bool (decide (a2 ≤ 102)))] ⟨rfl, rfl, rfl, rfl, rfl, rfl, rfl, rfl, trivial⟩ ?_
            refine CW.seq ?_
            refine CW.seq ?_
            refine CW.region ?_
            refine WL.val Wanted.none (Runs.move rfl) ?_
            refine WL.val Wanted.none (Runs.not rfl rfl) ?_
            refine WL.nil ?_
            refine QW.then_n ?_
            rcases H with ⟨c_252, H⟩ | ⟨c_252, H⟩
            · have h_253 : (!(decide (a2 ≤ 102))) = true := (not_t (decide_eq_false c_252))
              refine CW.ct rfl h_253 ?_
              refine CW.seq ?_
              refine CW.region ?_
              refine WL.val Wanted.none (Runs.move rfl) ?_
              refine WL.val Wanted.none (Runs.eql rfl rfl rfl) ?_
              refine WL.val Wanted.none (Runs.move rfl) ?_
              obtain ⟨c_254, H⟩ := H
              have h_255 : (r_214 == 11) = true := (beq_iff_eq.mpr c_254)
              refine WL.on ?_ ?_; exact Wanted.guard (dj := 85) (by rfl) (evb (by rfl) h_255) (by rfl)
              refine WL.val Wanted.none (Runs.load_arr arr25 rfl (st_216.blk (i := 0) rfl) hl_213) ?_
              refine WL.on ?_ ?_; exact Wanted.guard (dj := 85) (by rfl) (evb (by rfl) h_255) (by rfl)
              obtain ⟨m_256, e_257, H⟩ := H
              refine WL.val Wanted.none (Runs.build_arr (xs := m_256) arr25 rfl rfl (by rw [e_257]; rfl)) ?_
              refine WL.on ?_ ?_; exact Wanted.guard (dj := 85) (by rfl) (evb (by rfl) h_255) (by rfl)
              refine WL.val Wanted.none (Runs.eql_arr arr25 eqg25 rfl rfl hl_213 (by rw [e_257]; rfl) rfl) ?_
              refine WL.val Wanted.none (Runs.pick_t (evb rfl h_255) rfl) ?_
              refine WL.val Wanted.none (Runs.assign rfl) ?_
              refine WL.nil ?_
              refine QW.then_n ?_
              refine CW.sub [(2, .int .u8 a2), (3, .pointer (some ⟨B_1, 0, none⟩)), (6, .bool (r_212 == m_256)), (8, .string r_13), (10, .int .i64 (IntKind.i64.wrap (Int.tmod a1 64))), (11, .pointer (some ⟨B_198, 0, none⟩)), (12, .int .i64 r_214)] ⟨rfl, rfl, rfl, rfl, rfl, rfl, rfl, trivial⟩ ?_
              refine CW.ret ?_
              refine QW.then_r ?_
              have hz : (r_212 == m_256) = true := (beq_iff_eq.mpr H)
              exact QW.ret1 rfl (evb rfl hz) ⟨rfl, st_216.ext⟩
            · have h_253 : (!(decide (a2 ≤ 102))) = false := (not_f (decide_eq_true (Decidable.not_not.mp c_252)))
              refine CW.cf rfl h_253 ?_
              refine CW.skip ?_
              refine QW.then_n ?_
              refine CW.seq ?_
              refine CW.region_qa wide (by kernel_rfl) st_216 ?_
              refine HL.val Wanted.none (fun wq sq => (Runs.move rfl)) ?_
              refine HL.val Wanted.none (fun wq sq => (Runs.eql rfl rfl rfl)) ?_
              refine HL.val Wanted.none (fun wq sq => (Runs.move rfl)) ?_
              obtain ⟨c_258, H⟩ := H
              have h_259 : (r_214 == 0) = true := (beq_iff_eq.mpr c_258)
              refine HL.on ?_ ?_; exact Wanted.guard (dj := 92) (by rfl) (evb (by rfl) h_259) (by rfl)
              refine HL.val Wanted.none (fun wq sq => (Runs.load_arr arr25 rfl (sq.blk (i := 0) rfl) hl_213)) ?_
              refine HL.on ?_ ?_; exact Wanted.guard (dj := 92) (by rfl) (evb (by rfl) h_259) (by rfl)
              refine HL.val Wanted.none (fun wq sq => (Runs.load_arr arr25 rfl (sq.blk (i := 2) rfl) hl0)) ?_
              refine HL.on ?_ ?_; exact Wanted.guard (dj := 92) (by rfl) (evb (by rfl) h_259) (by rfl)
              refine HL.val Wanted.none (fun wq sq => (Runs.eql_arr arr25 eqg25 rfl rfl hl_213 hl0 rfl)) ?_
              refine HL.on ?_ ?_; exact Wanted.guard (dj := 92) (by rfl) (evb (by rfl) h_259) (by rfl)
              refine HL.val Wanted.none (fun wq sq => (Runs.move rfl)) ?_
              refine HL.on ?_ ?_; exact Wanted.guard (dj := 92) (by rfl) (evb (by rfl) h_259) (by rfl)
              refine HL.val Wanted.none (fun wq sq => (Runs.move rfl)) ?_
              refine HL.on ?_ ?_; exact Wanted.guard (dj := 92) (by rfl) (evb (by rfl) h_259) (by rfl)
              refine HL.val Wanted.none (fun wq sq => (Runs.move rfl)) ?_
              refine HL.on ?_ ?_; exact Wanted.guard (dj := 92) (by rfl) (evb (by rfl) h_259) (by rfl)
              obtain ⟨⟨p_260, q_261⟩, H⟩ := H
              refine HL.val Wanted.none (fun wq sq => (Runs.index_str Tryd.underlying9 rfl rfl p_260 q_261 (j := (IntKind.i64.wrap (Int.tmod a1 64)).toNat) (by first | rfl | omega))) ?_
              refine HL.on ?_ ?_; exact Wanted.guard (dj := 92) (by rfl) (evb (by rfl) h_259) (by rfl)
              refine HL.val Wanted.none (fun wq sq => (Runs.eql rfl rfl rfl)) ?_
              refine HL.on ?_ ?_; exact Wanted.guard (dj := 92) (by rfl) (evb (by rfl) h_259) (by rfl)
              refine HL.val Wanted.none (fun wq sq => (Runs.eqb Tryd.underlying4 rfl rfl rfl)) ?_
              refine HL.val Wanted.none (fun wq sq => (Runs.pick_t (evb rfl h_259) rfl)) ?_
              refine HL.val Wanted.none (fun wq sq => (Runs.assign rfl)) ?_
              refine HL.nil (fun w_262 st_263 => ?_)
              refine WL.nil ?_
              refine QW.then_n ?_
              refine CW.sub [(6, .bool ((r_212 == l0) == (a2 == (bn r_13 ((IntKind.i64.wrap (Int.tmod a1 64)).toNat)))))] ⟨rfl, trivial⟩ ?_
              refine CW.ret ?_
              have hz : ((r_212 == l0) == (a2 == (bn r_13 ((IntKind.i64.wrap (Int.tmod a1 64)).toNat)))) = true := (beq_iff_eq.mpr H)
              exact QW.ret1 rfl (evb rfl hz) ⟨rfl, st_263.ext⟩
          · have h_251 : (decide (a2 ≥ 97)) = false := (decide_eq_false c_250)
            refine WL.off ?_ ?_; exact Wanted.guard (dj := 76) (by rfl) (evb (by rfl) h_251) (by rfl)
            refine WL.off ?_ ?_; exact Wanted.guard (dj := 76) (by rfl) (evb (by rfl) h_251) (by rfl)
            refine WL.on ?_ ?_; exact Wanted.guard (dj := 73) (by rfl) (by rfl) (by rfl)
            refine WL.val Wanted.none (Runs.pick_f (evb rfl h_251) rfl) ?_
            refine WL.val Wanted.none (Runs.pick_f rfl rfl) ?_
            refine WL.val Wanted.none (Runs.assign rfl) ?_
            refine WL.nil ?_
            refine QW.then_n ?_
            refine CW.sub [(2, .int .u8 a2), (3, .pointer (some ⟨B_1, 0, none⟩)), (6, .bool b_17), (8, .string r_13), (10, .int .i64 (IntKind.i64.wrap (Int.tmod a1 64))), (11, .pointer (some ⟨B_198, 0, none⟩)), (12, .int .i64 r_214), (13, .bool false)] ⟨rfl, rfl, rfl, rfl, rfl, rfl, rfl, rfl, trivial⟩ ?_
            refine CW.seq ?_
            refine CW.seq ?_
            refine CW.region ?_
            refine WL.val Wanted.none (Runs.move rfl) ?_
            refine WL.val Wanted.none (Runs.not rfl rfl) ?_
            refine WL.nil ?_
            refine QW.then_n ?_
            refine CW.ct rfl rfl ?_
            refine CW.seq ?_
            refine CW.region ?_
            refine WL.val Wanted.none (Runs.move rfl) ?_
            refine WL.val Wanted.none (Runs.eql rfl rfl rfl) ?_
            refine WL.val Wanted.none (Runs.move rfl) ?_
            obtain ⟨c_266, H⟩ := H
            have h_267 : (r_214 == 11) = true := (beq_iff_eq.mpr c_266)
            refine WL.on ?_ ?_; exact Wanted.guard (dj := 85) (by rfl) (evb (by rfl) h_267) (by rfl)
            refine WL.val Wanted.none (Runs.load_arr arr25 rfl (st_216.blk (i := 0) rfl) hl_213) ?_
            refine WL.on ?_ ?_; exact Wanted.guard (dj := 85) (by rfl) (evb (by rfl) h_267) (by rfl)
            obtain ⟨m_268, e_269, H⟩ := H
            refine WL.val Wanted.none (Runs.build_arr (xs := m_268) arr25 rfl rfl (by rw [e_269]; rfl)) ?_
            refine WL.on ?_ ?_; exact Wanted.guard (dj := 85) (by rfl) (evb (by rfl) h_267) (by rfl)
            refine WL.val Wanted.none (Runs.eql_arr arr25 eqg25 rfl rfl hl_213 (by rw [e_269]; rfl) rfl) ?_
            refine WL.val Wanted.none (Runs.pick_t (evb rfl h_267) rfl) ?_
            refine WL.val Wanted.none (Runs.assign rfl) ?_
            refine WL.nil ?_
            refine QW.then_n ?_
            refine CW.sub [(2, .int .u8 a2), (3, .pointer (some ⟨B_1, 0, none⟩)), (6, .bool (r_212 == m_268)), (8, .string r_13), (10, .int .i64 (IntKind.i64.wrap (Int.tmod a1 64))), (11, .pointer (some ⟨B_198, 0, none⟩)), (12, .int .i64 r_214)] ⟨rfl, rfl, rfl, rfl, rfl, rfl, rfl, trivial⟩ ?_
            refine CW.ret ?_
            refine QW.then_r ?_
            have hz : (r_212 == m_268) = true := (beq_iff_eq.mpr H)
            exact QW.ret1 rfl (evb rfl hz) ⟨rfl, st_216.ext⟩
    · refine WL.alloc st_49 arr25.zero ?_
      intro B_270 w_271 st_272
      replace st_272 : St w w_271 [.cells B_270 (iv .u8 (List.replicate 32 (0 : Int))) 25, .cells B_1 (iv .u8 l0) 25] := st_272
      refine WL.nil ?_
      refine AW.back ?_
      refine AW.step 4 rfl (by kernel_rfl) ?_
      refine WL.buildSl [.int .u8 a2] st_272 Tryd.underlying22 elem5 rfl rfl (by decide) (by decide) (by simp [Value.cells]) ?_
      intro B_274 w_275 st_276
      replace st_276 : St w w_275 [.sl (some ⟨B_274, 0, none⟩) 1 1 (iv .u8 [a2]) 5 1, .cells B_270 (iv .u8 (List.replicate 32 (0 : Int))) 25, .cells B_1 (iv .u8 l0) 25] := st_276
      refine WL.nil ?_
      refine AW.back ?_
      refine AW.step 5 rfl (by kernel_rfl) ?_
      refine WL.val Wanted.none (Runs.bytes_str Tryd.underlying22 Tryd.underlying5 Tryd.underlying9 rfl (st_276.src_sl (k := 0) rfl) rfl) ?_
      refine WL.nil ?_
      refine AW.back ?_
      obtain ⟨z_278, H⟩ := H
      obtain ⟨x_279, e_280, H⟩ := H
      refine AW.take 6 rfl (by kernel_rfl) (by kernel_rfl) (by kernel_rfl) Wanted.none (fun _ => (Runs.adds rfl rfl z_278 e_280)) ?_
      obtain ⟨z_281, H⟩ := H
      obtain ⟨x_282, e_283, H⟩ := H
      refine AW.take 11 rfl (by kernel_rfl) (by kernel_rfl) (by kernel_rfl) Wanted.none (fun _ => (Runs.adds rfl rfl z_281 e_283)) ?_
      refine AW.step 12 rfl (by kernel_rfl) ?_
      obtain ⟨r_288, r_290, hr_284, H⟩ := H
      refine WL.call Wanted.none ent14 rfl (digest_Read.calls w_275 x_282 r_288 r_290 hr_284) ?_
      rintro _ w_285 ⟨hl_289, rfl, sc_287⟩
      have st_286 : St w w_285 [.sl (some ⟨B_274, 0, none⟩) 1 1 (iv .u8 [a2]) 5 1, .cells B_270 (iv .u8 (List.replicate 32 (0 : Int))) 25, .cells B_1 (iv .u8 l0) 25] := st_276.call sc_287
      refine ⟨_, rfl, ?_⟩
      refine WL.nil ?_
      refine AW.back ?_
      refine AW.take 13 rfl (by kernel_rfl) (by kernel_rfl) (by kernel_rfl) Wanted.none (fun _ => (Runs.move rfl)) ?_
      refine AW.take 14 rfl (by kernel_rfl) (by kernel_rfl) (by kernel_rfl) Wanted.none (fun _ => (Runs.extract rfl rfl)) ?_
      refine AW.take 15 rfl (by kernel_rfl) (by kernel_rfl) (by kernel_rfl) Wanted.none (fun _ => (Runs.extract rfl rfl)) ?_
      refine AW.step 17 rfl (by kernel_rfl) ?_
      refine WL.store_arr (i := 1) st_286 rfl arr25 rfl (by rw [iv_length]; exact (List.length_replicate ..)) hl_289 rfl ?_
      intro w_291 st_292
      replace st_292 : St w w_291 [.sl (some ⟨B_274, 0, none⟩) 1 1 (iv .u8 [a2]) 5 1, .cells B_270 (iv .u8 r_288) 25, .cells B_1 (iv .u8 l0) 25] := st_292
      refine WL.nil ?_
      refine AW.back ?_
      refine AW.take 18 rfl (by kernel_rfl) (by kernel_rfl) (by kernel_rfl) Wanted.none (fun _ => (Runs.assign rfl)) ?_
      refine AW.done (by kernel_rfl) ?_
      refine QW.then_n ?_
      refine CW.sub [(2, .int .u8 a2), (3, .pointer (some ⟨B_1, 0, none⟩)), (6, .bool b_17), (8, .string r_13), (10, .int .i64 (IntKind.i64.wrap (Int.tmod a1 64))), (11, .pointer (some ⟨B_270, 0, none⟩)), (12, .int .i64 r_290)] ⟨rfl, rfl, rfl, rfl, rfl, rfl, rfl, trivial⟩ ?_
      refine CW.seq ?_
      refine CW.region ?_
      refine WL.val Wanted.none (Runs.move rfl) ?_
      refine WL.val Wanted.none (Runs.geq rfl rfl rfl) ?_
      refine WL.val Wanted.none (Runs.move rfl) ?_
      rcases H with ⟨c_294, H⟩ | ⟨c_294, H⟩
      · have h_295 : (decide (a2 ≥ 48)) = true := (decide_eq_true c_294)
        refine WL.on ?_ ?_; exact Wanted.guard (dj := 69) (by rfl) (evb (by rfl) h_295) (by rfl)
        refine WL.val Wanted.none (Runs.move rfl) ?_
        refine WL.on ?_ ?_; exact Wanted.guard (dj := 69) (by rfl) (evb (by rfl) h_295) (by rfl)
        refine WL.val Wanted.none (Runs.leq rfl rfl rfl) ?_
        refine WL.val Wanted.none (Runs.pick_t (evb rfl h_295) rfl) ?_
        refine WL.val Wanted.none (Runs.move rfl) ?_
        rcases H with ⟨c_296, H⟩ | ⟨c_296, H⟩
        · have h_297 : (decide (a2 ≤ 57)) = true := (decide_eq_true c_296)
          refine WL.off ?_ ?_; exact Wanted.guard (dj := 73) (by rfl) (evb (by rfl) h_297) (by rfl)
          refine WL.off ?_ ?_; exact Wanted.guard (dj := 73) (by rfl) (evb (by rfl) h_297) (by rfl)
          refine WL.off ?_ ?_; exact Wanted.guard (dj := 73) (by rfl) (evb (by rfl) h_297) (by rfl)
          refine WL.off ?_ ?_; exact Wanted.undef (dj := 76) rfl rfl
          refine WL.off ?_ ?_; exact Wanted.undef (dj := 76) rfl rfl
          refine WL.off ?_ ?_; exact Wanted.guard (dj := 73) (by rfl) (evb (by rfl) h_297) (by rfl)
          refine WL.val Wanted.none (Runs.pick_t (evb rfl h_297) rfl) ?_
          refine WL.val Wanted.none (Runs.assign rfl) ?_
          refine WL.nil ?_
          refine QW.then_n ?_
          refine CW.sub [(2, .int .u8 a2), (3, .pointer (some ⟨B_1, 0, none⟩)), (6, .bool b_17), (8, .string r_13), (10, .int .i64 (IntKind.i64.wrap (Int.tmod a1 64))), (11, .pointer (some ⟨B_270, 0, none⟩)), (12, .int .i64 r_290), (13, .bool true)] ⟨rfl, rfl, rfl, rfl, rfl, rfl, rfl, rfl, trivial⟩ ?_
          refine CW.seq ?_
          refine CW.seq ?_
          refine CW.region ?_
          refine WL.val Wanted.none (Runs.move rfl) ?_
          refine WL.val Wanted.none (Runs.not rfl rfl) ?_
          refine WL.nil ?_
          refine QW.then_n ?_
          refine CW.cf rfl rfl ?_
          refine CW.skip ?_
          refine QW.then_n ?_
          refine CW.seq ?_
          refine CW.region_qa wide (by kernel_rfl) st_292 ?_
          refine HL.val Wanted.none (fun wq sq => (Runs.move rfl)) ?_
          refine HL.val Wanted.none (fun wq sq => (Runs.eql rfl rfl rfl)) ?_
          refine HL.val Wanted.none (fun wq sq => (Runs.move rfl)) ?_
          obtain ⟨c_298, H⟩ := H
          have h_299 : (r_290 == 0) = true := (beq_iff_eq.mpr c_298)
          refine HL.on ?_ ?_; exact Wanted.guard (dj := 92) (by rfl) (evb (by rfl) h_299) (by rfl)
          refine HL.val Wanted.none (fun wq sq => (Runs.load_arr arr25 rfl (sq.blk (i := 1) rfl) hl_289)) ?_
          refine HL.on ?_ ?_; exact Wanted.guard (dj := 92) (by rfl) (evb (by rfl) h_299) (by rfl)
          refine HL.val Wanted.none (fun wq sq => (Runs.load_arr arr25 rfl (sq.blk (i := 2) rfl) hl0)) ?_
          refine HL.on ?_ ?_; exact Wanted.guard (dj := 92) (by rfl) (evb (by rfl) h_299) (by rfl)
          refine HL.val Wanted.none (fun wq sq => (Runs.eql_arr arr25 eqg25 rfl rfl hl_289 hl0 rfl)) ?_
          refine HL.on ?_ ?_; exact Wanted.guard (dj := 92) (by rfl) (evb (by rfl) h_299) (by rfl)
          refine HL.val Wanted.none (fun wq sq => (Runs.move rfl)) ?_
          refine HL.on ?_ ?_; exact Wanted.guard (dj := 92) (by rfl) (evb (by rfl) h_299) (by rfl)
          refine HL.val Wanted.none (fun wq sq => (Runs.move rfl)) ?_
          refine HL.on ?_ ?_; exact Wanted.guard (dj := 92) (by rfl) (evb (by rfl) h_299) (by rfl)
          refine HL.val Wanted.none (fun wq sq => (Runs.move rfl)) ?_
          refine HL.on ?_ ?_; exact Wanted.guard (dj := 92) (by rfl) (evb (by rfl) h_299) (by rfl)
          obtain ⟨⟨p_300, q_301⟩, H⟩ := H
          refine HL.val Wanted.none (fun wq sq => (Runs.index_str Tryd.underlying9 rfl rfl p_300 q_301 (j := (IntKind.i64.wrap (Int.tmod a1 64)).toNat) (by first | rfl | omega))) ?_
          refine HL.on ?_ ?_; exact Wanted.guard (dj := 92) (by rfl) (evb (by rfl) h_299) (by rfl)
          refine HL.val Wanted.none (fun wq sq => (Runs.eql rfl rfl rfl)) ?_
          refine HL.on ?_ ?_; exact Wanted.guard (dj := 92) (by rfl) (evb (by rfl) h_299) (by rfl)
          refine HL.val Wanted.none (fun wq sq => (Runs.eqb Tryd.underlying4 rfl rfl rfl)) ?_
          refine HL.val Wanted.none (fun wq sq => (Runs.pick_t (evb rfl h_299) rfl)) ?_
          refine HL.val Wanted.none (fun wq sq => (Runs.assign rfl)) ?_
          refine HL.nil (fun w_302 st_303 => ?_)
          refine WL.nil ?_
          refine QW.then_n ?_
          refine CW.sub [(6, .bool ((r_288 == l0) == (a2 == (bn r_13 ((IntKind.i64.wrap (Int.tmod a1 64)).toNat)))))] ⟨rfl, trivial⟩ ?_
          refine CW.ret ?_
          have hz : ((r_288 == l0) == (a2 == (bn r_13 ((IntKind.i64.wrap (Int.tmod a1 64)).toNat)))) = true := (beq_iff_eq.mpr H)
          exact QW.ret1 rfl (evb rfl hz) ⟨rfl, st_303.ext⟩
        · have h_297 : (decide (a2 ≤ 57)) = false := (decide_eq_false c_296)
          refine WL.on ?_ ?_; exact Wanted.guard (dj := 73) (by rfl) (evb (by rfl) h_297) (by rfl)
          refine WL.val Wanted.none (Runs.move rfl) ?_
          refine WL.on ?_ ?_; exact Wanted.guard (dj := 73) (by rfl) (evb (by rfl) h_297) (by rfl)
          refine WL.val Wanted.none (Runs.geq rfl rfl rfl) ?_
          refine WL.on ?_ ?_; exact Wanted.guard (dj := 73) (by rfl) (evb (by rfl) h_297) (by rfl)
          refine WL.val Wanted.none (Runs.move rfl) ?_
          rcases H with ⟨c_306, H⟩ | ⟨c_306, H⟩
          · have h_307 : (decide (a2 ≥ 97)) = true := (decide_eq_true c_306)
            refine WL.on ?_ ?_; exact Wanted.guard (dj := 76) (by rfl) (evb (by rfl) h_307) (by rfl)
            refine WL.val Wanted.none (Runs.move rfl) ?_
            refine WL.on ?_ ?_; exact Wanted.guard (dj := 76) (by rfl) (evb (by rfl) h_307) (by rfl)
            refine WL.val Wanted.none (Runs.leq rfl rfl rfl) ?_
            refine WL.on ?_ ?_; exact Wanted.guard (dj := 73) (by rfl) (evb (by rfl) h_297) (by rfl)
            refine WL.val Wanted.none (Runs.pick_t (evb rfl h_307) rfl) ?_
            refine WL.val Wanted.none (Runs.pick_f (evb rfl h_297) rfl) ?_
            refine WL.val Wanted.none (Runs.assign rfl) ?_
            refine WL.nil ?_
            refine QW.then_n ?_
            refine CW.sub [(2, .int .u8 a2), (3, .pointer (some ⟨B_1, 0, none⟩)), (6, .bool b_17), (8, .string r_13), (10, .int .i64 (IntKind.i64.wrap (Int.tmod a1 64))), (11, .pointer (some ⟨B_270, 0, none⟩)), (12, .int .i64 r_290), (13, .bool (decide (a2 ≤ 102)))] ⟨rfl, rfl, rfl, rfl, rfl, rfl, rfl, rfl, trivial⟩ ?_
            refine CW.seq ?_
            refine CW.seq ?_
            refine CW.region ?_
            refine WL.val Wanted.none (Runs.move rfl) ?_
            refine WL.val Wanted.none (Runs.not rfl rfl) ?_
            refine WL.nil ?_
            refine QW.then_n ?_
            rcases H with ⟨c_308, H⟩ | ⟨c_308, H⟩
            · have h_309 : (!(decide (a2 ≤ 102))) = true := (not_t (decide_eq_false c_308))
              refine CW.ct rfl h_309 ?_
              refine CW.seq ?_
              refine CW.region ?_
              refine WL.val Wanted.none (Runs.move rfl) ?_
              refine WL.val Wanted.none (Runs.eql rfl rfl rfl) ?_
              refine WL.val Wanted.none (Runs.move rfl) ?_
              obtain ⟨c_310, H⟩ := H
              have h_311 : (r_290 == 11) = true := (beq_iff_eq.mpr c_310)
              refine WL.on ?_ ?_; exact Wanted.guard (dj := 85) (by rfl) (evb (by rfl) h_311) (by rfl)
              refine WL.val Wanted.none (Runs.load_arr arr25 rfl (st_292.blk (i := 1) rfl) hl_289) ?_
              refine WL.on ?_ ?_; exact Wanted.guard (dj := 85) (by rfl) (evb (by rfl) h_311) (by rfl)
              obtain ⟨m_312, e_313, H⟩ := H
              refine WL.val Wanted.none (Runs.build_arr (xs := m_312) arr25 rfl rfl (by rw [e_313]; rfl)) ?_
              refine WL.on ?_ ?_; exact Wanted.guard (dj := 85) (by rfl) (evb (by rfl) h_311) (by rfl)
              refine WL.val Wanted.none (Runs.eql_arr arr25 eqg25 rfl rfl hl_289 (by rw [e_313]; rfl) rfl) ?_
              refine WL.val Wanted.none (Runs.pick_t (evb rfl h_311) rfl) ?_
              refine WL.val Wanted.none (Runs.assign rfl) ?_
              refine WL.nil ?_
              refine QW.then_n ?_
              refine CW.sub [(2, .int .u8 a2), (3, .pointer (some ⟨B_1, 0, none⟩)), (6, .bool (r_288 == m_312)), (8, .string r_13), (10, .int .i64 (IntKind.i64.wrap (Int.tmod a1 64))), (11, .pointer (some ⟨B_270, 0, none⟩)), (12, .int .i64 r_290)] ⟨rfl, rfl, rfl, rfl, rfl, rfl, rfl, trivial⟩ ?_
              refine CW.ret ?_
              refine QW.then_r ?_
              have hz : (r_288 == m_312) = true := (beq_iff_eq.mpr H)
              exact QW.ret1 rfl (evb rfl hz) ⟨rfl, st_292.ext⟩
            · have h_309 : (!(decide (a2 ≤ 102))) = false := (not_f (decide_eq_true (Decidable.not_not.mp c_308)))
              refine CW.cf rfl h_309 ?_
              refine CW.skip ?_
              refine QW.then_n ?_
              refine CW.seq ?_
              refine CW.region_qa wide (by kernel_rfl) st_292 ?_
              refine HL.val Wanted.none (fun wq sq => (Runs.move rfl)) ?_
              refine HL.val Wanted.none (fun wq sq => (Runs.eql rfl rfl rfl)) ?_
              refine HL.val Wanted.none (fun wq sq => (Runs.move rfl)) ?_
              obtain ⟨c_314, H⟩ := H
              have h_315 : (r_290 == 0) = true := (beq_iff_eq.mpr c_314)
              refine HL.on ?_ ?_; exact Wanted.guard (dj := 92) (by rfl) (evb (by rfl) h_315) (by rfl)
              refine HL.val Wanted.none (fun wq sq => (Runs.load_arr arr25 rfl (sq.blk (i := 1) rfl) hl_289)) ?_
              refine HL.on ?_ ?_; exact Wanted.guard (dj := 92) (by rfl) (evb (by rfl) h_315) (by rfl)
              refine HL.val Wanted.none (fun wq sq => (Runs.load_arr arr25 rfl (sq.blk (i := 2) rfl) hl0)) ?_
              refine HL.on ?_ ?_; exact Wanted.guard (dj := 92) (by rfl) (evb (by rfl) h_315) (by rfl)
              refine HL.val Wanted.none (fun wq sq => (Runs.eql_arr arr25 eqg25 rfl rfl hl_289 hl0 rfl)) ?_
              refine HL.on ?_ ?_; exact Wanted.guard (dj := 92) (by rfl) (evb (by rfl) h_315) (by rfl)
              refine HL.val Wanted.none (fun wq sq => (Runs.move rfl)) ?_
              refine HL.on ?_ ?_; exact Wanted.guard (dj := 92) (by rfl) (evb (by rfl) h_315) (by rfl)
              refine HL.val Wanted.none (fun wq sq => (Runs.move rfl)) ?_
              refine HL.on ?_ ?_; exact Wanted.guard (dj := 92) (by rfl) (evb (by rfl) h_315) (by rfl)
              refine HL.val Wanted.none (fun wq sq => (Runs.move rfl)) ?_
              refine HL.on ?_ ?_; exact Wanted.guard (dj := 92) (by rfl) (evb (by rfl) h_315) (by rfl)
              obtain ⟨⟨p_316, q_317⟩, H⟩ := H
              refine HL.val Wanted.none (fun wq sq => (Runs.index_str Tryd.underlying9 rfl rfl p_316 q_317 (j := (IntKind.i64.wrap (Int.tmod a1 64)).toNat) (by first | rfl | omega))) ?_
              refine HL.on ?_ ?_; exact Wanted.guard (dj := 92) (by rfl) (evb (by rfl) h_315) (by rfl)
              refine HL.val Wanted.none (fun wq sq => (Runs.eql rfl rfl rfl)) ?_
              refine HL.on ?_ ?_; exact Wanted.guard (dj := 92) (by rfl) (evb (by rfl) h_315) (by rfl)
              refine HL.val Wanted.none (fun wq sq => (Runs.eqb Tryd.underlying4 rfl rfl rfl)) ?_
              refine HL.val Wanted.none (fun wq sq => (Runs.pick_t (evb rfl h_315) rfl)) ?_
              refine HL.val Wanted.none (fun wq sq => (Runs.assign rfl)) ?_
              refine HL.nil (fun w_318 st_319 => ?_)
              refine WL.nil ?_
              refine QW.then_n ?_
              refine CW.sub [(6, .bool ((r_288 == l0) == (a2 == (bn r_13 ((IntKind.i64.wrap (Int.tmod a1 64)).toNat)))))] ⟨rfl, trivial⟩ ?_
              refine CW.ret ?_
              have hz : ((r_288 == l0) == (a2 == (bn r_13 ((IntKind.i64.wrap (Int.tmod a1 64)).toNat)))) = true := (beq_iff_eq.mpr H)
              exact QW.ret1 rfl (evb rfl hz) ⟨rfl, st_319.ext⟩
          · have h_307 : (decide (a2 ≥ 97)) = false := (decide_eq_false c_306)
            refine WL.off ?_ ?_; exact Wanted.guard (dj := 76) (by rfl) (evb (by rfl) h_307) (by rfl)
            refine WL.off ?_ ?_; exact Wanted.guard (dj := 76) (by rfl) (evb (by rfl) h_307) (by rfl)
            refine WL.on ?_ ?_; exact Wanted.guard (dj := 73) (by rfl) (evb (by rfl) h_297) (by rfl)
            refine WL.val Wanted.none (Runs.pick_f (evb rfl h_307) rfl) ?_
            refine WL.val Wanted.none (Runs.pick_f (evb rfl h_297) rfl) ?_
            refine WL.val Wanted.none (Runs.assign rfl) ?_
            refine WL.nil ?_
            refine QW.then_n ?_
            refine CW.sub [(2, .int .u8 a2), (3, .pointer (some ⟨B_1, 0, none⟩)), (6, .bool b_17), (8, .string r_13), (10, .int .i64 (IntKind.i64.wrap (Int.tmod a1 64))), (11, .pointer (some ⟨B_270, 0, none⟩)), (12, .int .i64 r_290), (13, .bool false)] ⟨rfl, rfl, rfl, rfl, rfl, rfl, rfl, rfl, trivial⟩ ?_
            refine CW.seq ?_
            refine CW.seq ?_
            refine CW.region ?_
            refine WL.val Wanted.none (Runs.move rfl) ?_
            refine WL.val Wanted.none (Runs.not rfl rfl) ?_
            refine WL.nil ?_
            refine QW.then_n ?_
            refine CW.ct rfl rfl ?_
            refine CW.seq ?_
            refine CW.region ?_
            refine WL.val Wanted.none (Runs.move rfl) ?_
            refine WL.val Wanted.none (Runs.eql rfl rfl rfl) ?_
            refine WL.val Wanted.none (Runs.move rfl) ?_
            obtain ⟨c_322, H⟩ := H
            have h_323 : (r_290 == 11) = true := (beq_iff_eq.mpr c_322)
            refine WL.on ?_ ?_; exact Wanted.guard (dj := 85) (by rfl) (evb (by rfl) h_323) (by rfl)
            refine WL.val Wanted.none (Runs.load_arr arr25 rfl (st_292.blk (i := 1) rfl) hl_289) ?_
            refine WL.on ?_ ?_; exact Wanted.guard (dj := 85) (by rfl) (evb (by rfl) h_323) (by rfl)
            obtain ⟨m_324, e_325, H⟩ := H
            refine WL.val Wanted.none (Runs.build_arr (xs := m_324) arr25 rfl rfl (by rw [e_325]; rfl)) ?_
            refine WL.on ?_ ?_; exact Wanted.guard (dj := 85) (by rfl) (evb (by rfl) h_323) (by rfl)
            refine WL.val Wanted.none (Runs.eql_arr arr25 eqg25 rfl rfl hl_289 (by rw [e_325]; rfl) rfl) ?_
            refine WL.val Wanted.none (Runs.pick_t (evb rfl h_323) rfl) ?_
            refine WL.val Wanted.none (Runs.assign rfl) ?_
            refine WL.nil ?_
            refine QW.then_n ?_
            refine CW.sub [(2, .int .u8 a2), (3, .pointer (some ⟨B_1, 0, none⟩)), (6, .bool (r_288 == m_324)), (8, .string r_13), (10, .int .i64 (IntKind.i64.wrap (Int.tmod a1 64))), (11, .pointer (some ⟨B_270, 0, none⟩)), (12, .int .i64 r_290)] ⟨rfl, rfl, rfl, rfl, rfl, rfl, rfl, trivial⟩ ?_
            refine CW.ret ?_
            refine QW.then_r ?_
            have hz : (r_288 == m_324) = true := (beq_iff_eq.mpr H)
            exact QW.ret1 rfl (evb rfl hz) ⟨rfl, st_292.ext⟩
      · have h_295 : (decide (a2 ≥ 48)) = false := (decide_eq_false c_294)
        refine WL.off ?_ ?_; exact Wanted.guard (dj := 69) (by rfl) (evb (by rfl) h_295) (by rfl)
        refine WL.off ?_ ?_; exact Wanted.guard (dj := 69) (by rfl) (evb (by rfl) h_295) (by rfl)
        refine WL.val Wanted.none (Runs.pick_f (evb rfl h_295) rfl) ?_
        refine WL.val Wanted.none (Runs.move rfl) ?_
        refine WL.on ?_ ?_; exact Wanted.guard (dj := 73) (by rfl) (by rfl) (by rfl)
        refine WL.val Wanted.none (Runs.move rfl) ?_
        refine WL.on ?_ ?_; exact Wanted.guard (dj := 73) (by rfl) (by rfl) (by rfl)
        refine WL.val Wanted.none (Runs.geq rfl rfl rfl) ?_
        refine WL.on ?_ ?_; exact Wanted.guard (dj := 73) (by rfl) (by rfl) (by rfl)
        refine WL.val Wanted.none (Runs.move rfl) ?_
        rcases H with ⟨c_326, H⟩ | ⟨c_326, H⟩
        · have h_327 : (decide (a2 ≥ 97)) = true := (decide_eq_true c_326)
          refine WL.on ?_ ?_; exact Wanted.guard (dj := 76) (by rfl) (evb (by rfl) h_327) (by rfl)
          refine WL.val Wanted.none (Runs.move rfl) ?_
          refine WL.on ?_ ?_; exact Wanted.guard (dj := 76) (by rfl) (evb (by rfl) h_327) (by rfl)
          refine WL.val Wanted.none (Runs.leq rfl rfl rfl) ?_
          refine WL.on ?_ ?_; exact Wanted.guard (dj := 73) (by rfl) (by rfl) (by rfl)
          refine WL.val Wanted.none (Runs.pick_t (evb rfl h_327) rfl) ?_
          refine WL.val Wanted.none (Runs.pick_f rfl rfl) ?_
          refine WL.val Wanted.none (Runs.assign rfl) ?_
          refine WL.nil ?_
          refine QW.then_n ?_
          refine CW.sub [(2, .int .u8 a2), (3, .pointer (some ⟨B_1, 0, none⟩)), (6, .bool b_17), (8, .string r_13), (10, .int .i64 (IntKind.i64.wrap (Int.tmod a1 64))), (11, .pointer (some ⟨B_270, 0, none⟩)), (12, .int .i64 r_290), (13, .bool (decide (a2 ≤ 102)))] ⟨rfl, rfl, rfl, rfl, rfl, rfl, rfl, rfl, trivial⟩ ?_
          refine CW.seq ?_
          refine CW.seq ?_
          refine CW.region ?_
          refine WL.val Wanted.none (Runs.move rfl) ?_
          refine WL.val Wanted.none (Runs.not rfl rfl) ?_
          refine WL.nil ?_
          refine QW.then_n ?_
          rcases H with ⟨c_328, H⟩ | ⟨c_328, H⟩
          · have h_329 : (!(decide (a2 ≤ 102))) = true := (not_t (decide_eq_false c_328))
            refine CW.ct rfl h_329 ?_
            refine CW.seq ?_
            refine CW.region ?_
            refine WL.val Wanted.none (Runs.move rfl) ?_
            refine WL.val Wanted.none (Runs.eql rfl rfl rfl) ?_
            refine WL.val Wanted.none (Runs.move rfl) ?_
            obtain ⟨c_330, H⟩ := H
            have h_331 : (r_290 == 11) = true := (beq_iff_eq.mpr c_330)
            refine WL.on ?_ ?_; exact Wanted.guard (dj := 85) (by rfl) (evb (by rfl) h_331) (by rfl)
            refine WL.val Wanted.none (Runs.load_arr arr25 rfl (st_292.blk (i := 1) rfl) hl_289) ?_
            refine WL.on ?_ ?_; exact Wanted.guard (dj := 85) (by rfl) (evb (by rfl) h_331) (by rfl)
            obtain ⟨m_332, e_333, H⟩ := H
            refine WL.val Wanted.none (Runs.build_arr (xs := m_332) arr25 rfl rfl (by rw [e_333]; rfl)) ?_
            refine WL.on ?_ ?_; exact Wanted.guard (dj := 85) (by rfl) (evb (by rfl) h_331) (by rfl)
            refine WL.val Wanted.none (Runs.eql_arr arr25 eqg25 rfl rfl hl_289 (by rw [e_333]; rfl) rfl) ?_
            refine WL.val Wanted.none (Runs.pick_t (evb rfl h_331) rfl) ?_
            refine WL.val Wanted.none (Runs.assign rfl) ?_
            refine WL.nil ?_
            refine QW.then_n ?_
            refine CW.sub [(2, .int .u8 a2), (3, .pointer (some ⟨B_1, 0, none⟩)), (6, .bool (r_288 == m_332)), (8, .string r_13), (10, .int .i64 (IntKind.i64.wrap (Int.tmod a1 64))), (11, .pointer (some ⟨B_270, 0, none⟩)), (12, .int .i64 r_290)] ⟨rfl, rfl, rfl, rfl, rfl, rfl, rfl, trivial⟩ ?_
            refine CW.ret ?_
            refine QW.then_r ?_
            have hz : (r_288 == m_332) = true := (beq_iff_eq.mpr H)
            exact QW.ret1 rfl (evb rfl hz) ⟨rfl, st_292.ext⟩
          · have h_329 : (!(decide (a2 ≤ 102))) = false := (not_f (decide_eq_true (Decidable.not_not.mp c_328)))
            refine CW.cf rfl h_329 ?_
            refine CW.skip ?_
            refine QW.then_n ?_
            refine CW.seq ?_
            refine CW.region_qa wide (by kernel_rfl) st_292 ?_
            refine HL.val Wanted.none (fun wq sq => (Runs.move rfl)) ?_
            refine HL.val Wanted.none (fun wq sq => (Runs.eql rfl rfl rfl)) ?_
            refine HL.val Wanted.none (fun wq sq => (Runs.move rfl)) ?_
            obtain ⟨c_334, H⟩ := H
            have h_335 : (r_290 == 0) = true := (beq_iff_eq.mpr c_334)
            refine HL.on ?_ ?_; exact Wanted.guard (dj := 92) (by rfl) (evb (by rfl) h_335) (by rfl)
            refine HL.val Wanted.none (fun wq sq => (Runs.load_arr arr25 rfl (sq.blk (i := 1) rfl) hl_289)) ?_
            refine HL.on ?_ ?_; exact Wanted.guard (dj := 92) (by rfl) (evb (by rfl) h_335) (by rfl)
            refine HL.val Wanted.none (fun wq sq => (Runs.load_arr arr25 rfl (sq.blk (i := 2) rfl) hl0)) ?_
            refine HL.on ?_ ?_; exact Wanted.guard (dj := 92) (by rfl) (evb (by rfl) h_335) (by rfl)
            refine HL.val Wanted.none (fun wq sq => (Runs.eql_arr arr25 eqg25 rfl rfl hl_289 hl0 rfl)) ?_
            refine HL.on ?_ ?_; exact Wanted.guard (dj := 92) (by rfl) (evb (by rfl) h_335) (by rfl)
            refine HL.val Wanted.none (fun wq sq => (Runs.move rfl)) ?_
            refine HL.on ?_ ?_; exact Wanted.guard (dj := 92) (by rfl) (evb (by rfl) h_335) (by rfl)
            refine HL.val Wanted.none (fun wq sq => (Runs.move rfl)) ?_
            refine HL.on ?_ ?_; exact Wanted.guard (dj := 92) (by rfl) (evb (by rfl) h_335) (by rfl)
            refine HL.val Wanted.none (fun wq sq => (Runs.move rfl)) ?_
            refine HL.on ?_ ?_; exact Wanted.guard (dj := 92) (by rfl) (evb (by rfl) h_335) (by rfl)
            obtain ⟨⟨p_336, q_337⟩, H⟩ := H
            refine HL.val Wanted.none (fun wq sq => (Runs.index_str Tryd.underlying9 rfl rfl p_336 q_337 (j := (IntKind.i64.wrap (Int.tmod a1 64)).toNat) (by first | rfl | omega))) ?_
            refine HL.on ?_ ?_; exact Wanted.guard (dj := 92) (by rfl) (evb (by rfl) h_335) (by rfl)
            refine HL.val Wanted.none (fun wq sq => (Runs.eql rfl rfl rfl)) ?_
            refine HL.on ?_ ?_; exact Wanted.guard (dj := 92) (by rfl) (evb (by rfl) h_335) (by rfl)
            refine HL.val Wanted.none (fun wq sq => (Runs.eqb Tryd.underlying4 rfl rfl rfl)) ?_
            refine HL.val Wanted.none (fun wq sq => (Runs.pick_t (evb rfl h_335) rfl)) ?_
            refine HL.val Wanted.none (fun wq sq => (Runs.assign rfl)) ?_
            refine HL.nil (fun w_338 st_339 => ?_)
            refine WL.nil ?_
            refine QW.then_n ?_
            refine CW.sub [(6, .bool ((r_288 == l0) == (a2 == (bn r_13 ((IntKind.i64.wrap (Int.tmod a1 64)).toNat)))))] ⟨rfl, trivial⟩ ?_
            refine CW.ret ?_
            have hz : ((r_288 == l0) == (a2 == (bn r_13 ((IntKind.i64.wrap (Int.tmod a1 64)).toNat)))) = true := (beq_iff_eq.mpr H)
            exact QW.ret1 rfl (evb rfl hz) ⟨rfl, st_339.ext⟩
        · have h_327 : (decide (a2 ≥ 97)) = false := (decide_eq_false c_326)
          refine WL.off ?_ ?_; exact Wanted.guard (dj := 76) (by rfl) (evb (by rfl) h_327) (by rfl)
          refine WL.off ?_ ?_; exact Wanted.guard (dj := 76) (by rfl) (evb (by rfl) h_327) (by rfl)
          refine WL.on ?_ ?_; exact Wanted.guard (dj := 73) (by rfl) (by rfl) (by rfl)
          refine WL.val Wanted.none (Runs.pick_f (evb rfl h_327) rfl) ?_
          refine WL.val Wanted.none (Runs.pick_f rfl rfl) ?_
          refine WL.val Wanted.none (Runs.assign rfl) ?_
          refine WL.nil ?_
          refine QW.then_n ?_
          refine CW.sub [(2, .int .u8 a2), (3, .pointer (some ⟨B_1, 0, none⟩)), (6, .bool b_17), (8, .string r_13), (10, .int .i64 (IntKind.i64.wrap (Int.tmod a1 64))), (11, .pointer (some ⟨B_270, 0, none⟩)), (12, .int .i64 r_290), (13, .bool false)] ⟨rfl, rfl, rfl, rfl, rfl, rfl, rfl, rfl, trivial⟩ ?_
          refine CW.seq ?_
          refine CW.seq ?_
          refine CW.region ?_
          refine WL.val Wanted.none (Runs.move rfl) ?_
          refine WL.val Wanted.none (Runs.not rfl rfl) ?_
          refine WL.nil ?_
          refine QW.then_n ?_
          refine CW.ct rfl rfl ?_
          refine CW.seq ?_
          refine CW.region ?_
          refine WL.val Wanted.none (Runs.move rfl) ?_
          refine WL.val Wanted.none (Runs.eql rfl rfl rfl) ?_
          refine WL.val Wanted.none (Runs.move rfl) ?_
          obtain ⟨c_342, H⟩ := H
          have h_343 : (r_290 == 11) = true := (beq_iff_eq.mpr c_342)
          refine WL.on ?_ ?_; exact Wanted.guard (dj := 85) (by rfl) (evb (by rfl) h_343) (by rfl)
          refine WL.val Wanted.none (Runs.load_arr arr25 rfl (st_292.blk (i := 1) rfl) hl_289) ?_
          refine WL.on ?_ ?_; exact Wanted.guard (dj := 85) (by rfl) (evb (by rfl) h_343) (by rfl)
          obtain ⟨m_344, e_345, H⟩ := H
          refine WL.val Wanted.none (Runs.build_arr (xs := m_344) arr25 rfl rfl (by rw [e_345]; rfl)) ?_
          refine WL.on ?_ ?_; exact Wanted.guard (dj := 85) (by rfl) (evb (by rfl) h_343) (by rfl)
          refine WL.val Wanted.none (Runs.eql_arr arr25 eqg25 rfl rfl hl_289 (by rw [e_345]; rfl) rfl) ?_
          refine WL.val Wanted.none (Runs.pick_t (evb rfl h_343) rfl) ?_
          refine WL.val Wanted.none (Runs.assign rfl) ?_
          refine WL.nil ?_
          refine QW.then_n ?_
          refine CW.sub [(2, .int .u8 a2), (3, .pointer (some ⟨B_1, 0, none⟩)), (6, .bool (r_288 == m_344)), (8, .string r_13), (10, .int .i64 (IntKind.i64.wrap (Int.tmod a1 64))), (11, .pointer (some ⟨B_270, 0, none⟩)), (12, .int .i64 r_290)] ⟨rfl, rfl, rfl, rfl, rfl, rfl, rfl, trivial⟩ ?_
          refine CW.ret ?_
          refine QW.then_r ?_
          have hz : (r_288 == m_344) = true := (beq_iff_eq.mpr H)
          exact QW.ret1 rfl (evb rfl hz) ⟨rfl, st_292.ext⟩

/-! ### slices_Grow_s_byte_byte_nil0: function 31 -/
def slices_Grow_s_byte_byte_nil0.rel (a1 : Int) (r0 : List Int) : Prop := (¬ (a1 < 0) ∧ (((IntKind.i64.wrap (a1 - (IntKind.i64.wrap (0 - 0)))) > 0 ∧ ((0 < (IntKind.i64.wrap (a1 - (IntKind.i64.wrap (0 - 0)))) ∧ (IntKind.i64.wrap (a1 - (IntKind.i64.wrap (0 - 0)))) ≤ 1099511627776) ∧ (0 ≤ (List.replicate (IntKind.i64.wrap (a1 - (IntKind.i64.wrap (0 - 0)))).toNat (0 : Int)).length ∧ r0 = (List.take 0 (List.replicate (IntKind.i64.wrap (a1 - (IntKind.i64.wrap (0 - 0)))).toNat (0 : Int)))))) ∨ (¬ ((IntKind.i64.wrap (a1 - (IntKind.i64.wrap (0 - 0)))) > 0) ∧ r0 = [])))
set_option maxHeartbeats 4000000 in
set_option maxRecDepth 100000 in
theorem slices_Grow_s_byte_byte_nil0.calls (w : World) (a1 : Int)    (r0 : List Int) (H : slices_Grow_s_byte_byte_nil0.rel a1 r0) :
    Calls Tryd.prog 31 #[.slice none 0 0, .int .i64 a1] w fun e w' => ∃ B0 q0 z0, z0 = r0.length ∧ e = .returned (.slice B0 z0 q0) ∧ St w w' [.sl B0 q0 z0 (iv .u8 r0) 5 1] := by
  refine CW.enter Tryd.func31 rfl (n := 27) rfl [.slice none 0 0, .int .i64 a1] (Nat.le_of_ble_eq_true rfl) ?_
  refine CW.sub [(0, .slice none 0 0), (1, .int .i64 a1)] ⟨rfl, rfl, trivial⟩ ?_
  have st0 : St w w [] := St.refl w
  refine CW.seq ?_
  refine CW.region ?_
  refine WL.val Wanted.none (Runs.assign rfl) ?_
  refine WL.nil ?_
  refine QW.then_n ?_
  refine CW.seq ?_
  refine CW.seq ?_
  refine CW.region ?_
  refine WL.val Wanted.none (Runs.move rfl) ?_
  refine WL.val Wanted.none (Runs.lss rfl rfl rfl) ?_
  refine WL.nil ?_
  refine QW.then_n ?_
  obtain ⟨c_1, H⟩ := H
  have h_2 : (decide (a1 < 0)) = false := (decide_eq_false c_1)
  refine CW.cf rfl h_2 ?_
  refine CW.skip ?_
  refine QW.then_n ?_
  refine CW.seq ?_
  refine CW.seq ?_
  refine CW.region ?_
  refine WL.val Wanted.none (Runs.move rfl) ?_
  refine WL.val Wanted.none (Runs.move rfl) ?_
  refine WL.val Wanted.none (Runs.cap_sl Tryd.underlying22 rfl rfl) ?_
  refine WL.val Wanted.none (Runs.move rfl) ?_
  refine WL.val Wanted.none (Runs.len_sl Tryd.underlying22 rfl rfl) ?_
  refine WL.val Wanted.none (Runs.sub rfl rfl rfl) ?_
  refine WL.val Wanted.none (Runs.sub rfl rfl rfl) ?_
  refine WL.val Wanted.none (Runs.assign rfl) ?_
  refine WL.nil ?_
  refine QW.then_n ?_
  refine CW.sub [(0, .slice none 0 0), (1, .int .i64 (IntKind.i64.wrap (a1 - (IntKind.i64.wrap (0 - 0))))), (4, .slice none 0 0)] ⟨rfl, rfl, rfl, trivial⟩ ?_
  refine CW.seq ?_
  refine CW.region ?_
  refine WL.val Wanted.none (Runs.move rfl) ?_
  refine WL.val Wanted.none (Runs.gtr rfl rfl rfl) ?_
  refine WL.nil ?_
  refine QW.then_n ?_
  rcases H with ⟨c_3, H⟩ | ⟨c_3, H⟩
  · have h_4 : (decide ((IntKind.i64.wrap (a1 - (IntKind.i64.wrap (0 - 0)))) > 0)) = true := (decide_eq_true c_3)
    refine CW.ct rfl h_4 ?_
    refine CW.region ?_
    refine WL.val Wanted.none (Runs.move rfl) ?_
    refine WL.val Wanted.none (Runs.move rfl) ?_
    refine WL.val Wanted.none (Runs.cap_sl Tryd.underlying22 rfl rfl) ?_
    refine WL.val Wanted.none (Runs.slice_h (A := none) (c := 0) (m := 0) (B := none) (N := 0) Tryd.underlying22 cells5 rfl rfl (by decide) (by decide) rfl rfl) ?_
    refine WL.val Wanted.none (Runs.move rfl) ?_
    obtain ⟨⟨p_6, q_7⟩, H⟩ := H
    obtain ⟨n_8, e_9⟩ : ∃ n_ : Nat, n_ = (IntKind.i64.wrap (a1 - (IntKind.i64.wrap (0 - 0)))).toNat := ⟨_, rfl⟩
    refine WL.append_make (N := n_8) st0 Tryd.underlying22 Tryd.underlying3 elem5 rfl rfl p_6 q_7 (by decide) e_9 ?_
    intro B_11 c_12 w_10 st_14
    replace st_14 : St w w_10 [.sl (some ⟨B_11, 0, none⟩) c_12 n_8 (iv .u8 (List.replicate (IntKind.i64.wrap (a1 - (IntKind.i64.wrap (0 - 0)))).toNat (0 : Int))) 5 1] := by rw [← e_9]; rw [iv_replicate] at st_14; exact st_14
    have hn_15 : n_8 = (List.replicate (IntKind.i64.wrap (a1 - (IntKind.i64.wrap (0 - 0)))).toNat (0 : Int)).length := by rw [List.length_replicate]; exact e_9
    refine WL.val Wanted.none (Runs.move rfl) ?_
    refine WL.val Wanted.none (Runs.len_sl Tryd.underlying22 rfl rfl) ?_
    obtain ⟨h_17, H⟩ := H
    rw [← hn_15] at h_17
    have h_17c : n_8 ≤ c_12 := st_14.cap (i := 0) rfl
    have st_16 := st_14.trunc (i := 0) rfl 0 h_17
    have hn_18 : 0 = (List.take 0 (List.replicate (IntKind.i64.wrap (a1 - (IntKind.i64.wrap (0 - 0)))).toNat (0 : Int))).length := by rw [List.length_take]; omega
    have st_16' : St w w_10 [.sl (some ⟨B_11, 0, none⟩) c_12 0 (iv .u8 (List.take 0 (List.replicate (IntKind.i64.wrap (a1 - (IntKind.i64.wrap (0 - 0)))).toNat (0 : Int)))) 5 1] := by rw [← iv_take]; exact st_16
    refine WL.val Wanted.none (Runs.slice_hp Tryd.underlying22 cells5 rfl rfl (by decide) (by omega) rfl) ?_
    refine WL.val Wanted.none (Runs.assign rfl) ?_
    refine WL.nil ?_
    refine QW.then_n ?_
    refine CW.sub [(0, .slice (some ⟨B_11, 0, none⟩) 0 c_12), (4, .slice none 0 0)] ⟨rfl, rfl, trivial⟩ ?_
    refine CW.seq ?_
    refine CW.region ?_
    refine WL.val Wanted.none (Runs.move rfl) ?_
    refine WL.val Wanted.none (Runs.assign rfl) ?_
    refine WL.nil ?_
    refine QW.then_n ?_
    refine CW.ret ?_
    obtain rfl := H
    exact QW.ret1 rfl rfl ⟨(some ⟨B_11, 0, none⟩), c_12, 0, hn_18, rfl, st_16'.pick [0] (by decide)⟩
  · have h_4 : (decide ((IntKind.i64.wrap (a1 - (IntKind.i64.wrap (0 - 0)))) > 0)) = false := (decide_eq_false c_3)
    refine CW.cf rfl h_4 ?_
    refine CW.skip ?_
    refine QW.then_n ?_
    refine CW.seq ?_
    refine CW.region ?_
    refine WL.val Wanted.none (Runs.move rfl) ?_
    refine WL.val Wanted.none (Runs.assign rfl) ?_
    refine WL.nil ?_
    refine QW.then_n ?_
    refine CW.ret ?_
    have st_21 := st0.nil_sl 5 1
    have st_21 : St w w [.sl none 0 0 (iv .u8 ([] : List Int)) 5 1] := st_21
    obtain rfl := H
    exact QW.ret1 rfl rfl ⟨none, 0, 0, rfl, rfl, st_21.pick [0] (by decide)⟩

/-! ### slices_Concat_s_byte_byte: function 24 -/
def slices_Concat_s_byte_byte.L2 (l0 : List (List Int)) (r0 : List Int) : Nat → (List Int) → Int → Prop
  | 0, _, _ => False
  | kL2 + 1, l_37, x_40 => ((x_40 < (l0.length : Int) ∧ ((0 ≤ x_40 ∧ x_40 < (l0.length : Int)) ∧ (∃ m_57 : List Int, m_57 = l_37 ++ (gl l0 ((x_40).toNat)) ∧ (m_57.length ≤ 1099511627776 ∧ slices_Concat_s_byte_byte.L2 l0 r0 kL2 m_57 (IntKind.i64.wrap (x_40 + 1)))))) ∨ (¬ (x_40 < (l0.length : Int)) ∧ r0 = l_37))
def slices_Concat_s_byte_byte.L1 (l0 : List (List Int)) (r0 : List Int) : Nat → Int → Int → Prop
  | 0, _, _ => False
  | kL1 + 1, x_2, x_3 => ((x_3 < (l0.length : Int) ∧ ((0 ≤ x_3 ∧ x_3 < (l0.length : Int)) ∧ (∃ x_20 : Int, x_20 = IntKind.i64.wrap (x_2 + ((gl l0 ((x_3).toNat)).length : Int)) ∧ (¬ (x_20 < 0) ∧ slices_Concat_s_byte_byte.L1 l0 r0 kL1 x_20 (IntKind.i64.wrap (x_3 + 1)))))) ∨ (¬ (x_3 < (l0.length : Int)) ∧ (∃ (r_28 : List Int), slices_Grow_s_byte_byte_nil0.rel x_2 r_28 ∧ (∃ k_ : Nat, slices_Concat_s_byte_byte.L2 l0 r0 k_ r_28 0))))
def slices_Concat_s_byte_byte.rel (l0 : List (List Int)) (r0 : List Int) : Prop := (∃ k_ : Nat, slices_Concat_s_byte_byte.L1 l0 r0 k_ 0 0)
set_option maxHeartbeats 4000000 in
set_option maxRecDepth 100000 in
theorem slices_Concat_s_byte_byte.calls (w : World) (l0 : List (List Int)) (A0 : Option Addr) (n0 : Nat) (c0 : Nat)  (hs0 : RowsOf w .u8 A0 l0) (hn0 : n0 = l0.length) (hc0 : n0 ≤ c0) (r0 : List Int) (H : slices_Concat_s_byte_byte.rel l0 r0) :
    Calls Tryd.prog 24 #[.slice A0 n0 c0] w fun e w' => ∃ B0 q0 z0, z0 = r0.length ∧ e = .returned (.slice B0 z0 q0) ∧ St w w' [.sl B0 q0 z0 (iv .u8 r0) 5 1] := by
  refine CW.enter Tryd.func24 rfl (n := 36) rfl [.slice A0 n0 c0] (Nat.le_of_ble_eq_true rfl) ?_
  refine CW.sub [(0, .slice A0 n0 c0)] ⟨rfl, trivial⟩ ?_
  have st0 : St w w [] := St.refl w
  refine CW.seq ?_
  refine CW.region ?_
  refine WL.val Wanted.none (Runs.assign rfl) ?_
  refine WL.nil ?_
  refine QW.then_n ?_
  refine CW.seq ?_
  refine CW.region ?_
  refine WL.val Wanted.none (Runs.assign rfl) ?_
  refine WL.nil ?_
  refine QW.then_n ?_
  refine CW.seq ?_
  refine CW.seq ?_
  refine CW.region ?_
  refine WL.val Wanted.none (Runs.move rfl) ?_
  refine WL.val Wanted.none (Runs.len_sl Tryd.underlying36 rfl (by rw [hn0])) ?_
  refine WL.val Wanted.none (Runs.move rfl) ?_
  refine WL.nil ?_
  refine QW.then_n ?_
  refine CW.block ?_
  obtain ⟨k_1, H⟩ := H
  refine CW.sub [(0, .slice A0 n0 c0), (2, .slice none 0 0), (3, .int .i64 0), (9, .slice A0 n0 c0), (10, .int .i64 (l0.length : Int)), (11, .int .i64 0)] ⟨rfl, rfl, rfl, rfl, rfl, rfl, trivial⟩ ?_
  refine CW.loop (fun kL1 l_ w_ => ∃ (x_2 : Int) (x_3 : Int), l_ = [(0, .slice A0 n0 c0), (2, .slice none 0 0), (3, .int .i64 x_2), (9, .slice A0 n0 c0), (10, .int .i64 (l0.length : Int)), (11, .int .i64 x_3)] ∧ slices_Concat_s_byte_byte.L1 l0 r0 kL1 x_2 x_3 ∧ St w w_ []) (k := k_1) ⟨0, 0, rfl, H, st0⟩ (fun _ _ h => by obtain ⟨_, _, _, h, _⟩ := h; exact h.elim) ?_
  rintro kL1 l_6 w_4 ⟨x_2, x_3, rfl, H, st_5⟩
  refine CW.seq ?_
  refine CW.region ?_
  refine WL.val Wanted.none (Runs.lss rfl rfl rfl) ?_
  refine WL.nil ?_
  refine QW.then_n ?_
  refine CW.seq ?_
  rcases H with ⟨c_7, H⟩ | ⟨c_7, H⟩
  · have h_8 : (decide (x_3 < (l0.length : Int))) = true := (decide_eq_true c_7)
    refine CW.ct rfl h_8 ?_
    refine CW.skip ?_
    refine QW.then_n ?_
    refine CW.seq ?_
    refine CW.block ?_
    refine CW.seq ?_
    refine CW.region ?_
    obtain ⟨⟨p_9, q_10⟩, H⟩ := H
    obtain ⟨a_11, A_13, n_14, c_15, e_12, f_17, hn_18, hc_19, g_16⟩ := hs0.get ((x_3).toNat) (by omega)
    refine WL.val Wanted.none (Runs.indexAddr Tryd.underlying36 cells22 (by decide) rfl e_12 rfl p_9 (by rw [hn0]; exact q_10) (o := (x_3).toNat) (by first | rfl | omega)) ?_
    refine WL.val Wanted.none (Runs.load nagg22 rfl (st_5.up f_17)) ?_
    refine WL.val Wanted.none (Runs.assign rfl) ?_
    refine WL.nil ?_
    refine QW.then_n ?_
    refine CW.seq ?_
    refine CW.region ?_
    refine WL.val Wanted.none (Runs.move rfl) ?_
    refine WL.val Wanted.none (Runs.move rfl) ?_
    refine WL.val Wanted.none (Runs.len_sl Tryd.underlying22 rfl (by rw [hn_18])) ?_
    obtain ⟨x_20, e_21, H⟩ := H
    refine WL.val Wanted.none (Runs.add rfl rfl e_21) ?_
    refine WL.val Wanted.none (Runs.assign rfl) ?_
    refine WL.nil ?_
    refine QW.then_n ?_
    refine CW.seq ?_
    refine CW.region ?_
    refine WL.val Wanted.none (Runs.move rfl) ?_
    refine WL.val Wanted.none (Runs.lss rfl rfl rfl) ?_
    refine WL.nil ?_
    refine QW.then_n ?_
    obtain ⟨c_22, H⟩ := H
    have h_23 : (decide (x_20 < 0)) = false := (decide_eq_false c_22)
    refine CW.cf rfl h_23 ?_
    refine CW.skip ?_
    refine QW.blk_n ?_
    refine QW.then_n ?_
    refine CW.region ?_
    refine WL.val Wanted.none (Runs.add rfl rfl rfl) ?_
    refine WL.val Wanted.none (Runs.move rfl) ?_
    refine WL.nil ?_
    exact QW.at [(0, .slice A0 n0 c0), (2, .slice none 0 0), (3, .int .i64 x_20), (9, .slice A0 n0 c0), (10, .int .i64 (l0.length : Int)), (11, .int .i64 (IntKind.i64.wrap (x_3 + 1)))] ⟨rfl, rfl, rfl, rfl, rfl, rfl, trivial⟩ ⟨x_20, IntKind.i64.wrap (x_3 + 1), rfl, H, st_5⟩
  · have h_8 : (decide (x_3 < (l0.length : Int))) = false := (decide_eq_false c_7)
    refine CW.cf rfl h_8 ?_
    refine CW.exit ?_
    refine QW.then_x ?_
    refine QW.then_x ?_
    refine QW.blk_x ?_
    refine QW.then_n ?_
    refine CW.seq ?_
    refine CW.region ?_
    refine WL.val Wanted.none (Runs.move rfl) ?_
    obtain ⟨r_28, hr_24, H⟩ := H
    refine WL.call Wanted.none ent31 rfl (slices_Grow_s_byte_byte_nil0.calls w_4 x_2 r_28 hr_24) ?_
    rintro _ w_25 ⟨A_29, c_30, n_31, hn_32, rfl, sc_27⟩
    have st_26 : St w w_25 [.sl A_29 c_30 n_31 (iv .u8 r_28) 5 1] := st_5.call sc_27
    refine ⟨_, rfl, ?_⟩
    refine WL.val Wanted.none (Runs.assign rfl) ?_
    refine WL.nil ?_
    refine QW.then_n ?_
    refine CW.sub [(0, .slice A0 n0 c0), (2, .slice none 0 0), (6, .slice A_29 n_31 c_30)] ⟨rfl, rfl, rfl, trivial⟩ ?_
    refine CW.seq ?_
    refine CW.seq ?_
    refine CW.region ?_
    refine WL.val Wanted.none (Runs.move rfl) ?_
    refine WL.val Wanted.none (Runs.len_sl Tryd.underlying36 rfl (by rw [hn0])) ?_
    refine WL.val Wanted.none (Runs.move rfl) ?_
    refine WL.nil ?_
    refine QW.then_n ?_
    refine CW.block ?_
    obtain ⟨k_34, H⟩ := H
    refine CW.sub [(2, .slice none 0 0), (6, .slice A_29 n_31 c_30), (25, .slice A0 n0 c0), (26, .int .i64 (l0.length : Int)), (27, .int .i64 0)] ⟨rfl, rfl, rfl, rfl, rfl, trivial⟩ ?_
    refine CW.loop (fun kL2 l_ w_ => ∃ (A_35 : Option Addr) (c_36 : Nat) (n_38 : Nat) (l_37 : List Int) (x_40 : Int), l_ = [(2, .slice none 0 0), (6, .slice A_35 n_38 c_36), (25, .slice A0 n0 c0), (26, .int .i64 (l0.length : Int)), (27, .int .i64 x_40)] ∧ slices_Concat_s_byte_byte.L2 l0 r0 kL2 l_37 x_40 ∧ (n_38 = l_37.length) ∧ St w w_ [.sl A_35 c_36 n_38 (iv .u8 l_37) 5 1]) (k := k_34) ⟨A_29, c_30, n_31, r_28, 0, rfl, H, hn_32, st_26⟩ (fun _ _ h => by obtain ⟨_, _, _, _, _, _, h, _⟩ := h; exact h.elim) ?_
    rintro kL2 l_43 w_41 ⟨A_35, c_36, n_38, l_37, x_40, rfl, H, hn_39, st_42⟩
    refine CW.seq ?_
    refine CW.region ?_
    refine WL.val Wanted.none (Runs.lss rfl rfl rfl) ?_
    refine WL.nil ?_
    refine QW.then_n ?_
    refine CW.seq ?_
    rcases H with ⟨c_44, H⟩ | ⟨c_44, H⟩
    · have h_45 : (decide (x_40 < (l0.length : Int))) = true := (decide_eq_true c_44)
      refine CW.ct rfl h_45 ?_
      refine CW.skip ?_
      refine QW.then_n ?_
      refine CW.seq ?_
      refine CW.block ?_
      refine CW.seq ?_
      refine CW.region ?_
      obtain ⟨⟨p_46, q_47⟩, H⟩ := H
      obtain ⟨a_48, A_50, n_51, c_52, e_49, f_54, hn_55, hc_56, g_53⟩ := hs0.get ((x_40).toNat) (by omega)
      refine WL.val Wanted.none (Runs.indexAddr Tryd.underlying36 cells22 (by decide) rfl e_49 rfl p_46 (by rw [hn0]; exact q_47) (o := (x_40).toNat) (by first | rfl | omega)) ?_
      refine WL.val Wanted.none (Runs.load nagg22 rfl (st_42.up f_54)) ?_
      refine WL.val Wanted.none (Runs.assign rfl) ?_
      refine WL.nil ?_
      refine QW.then_n ?_
      refine CW.region ?_
      refine WL.val Wanted.none (Runs.move rfl) ?_
      refine WL.val Wanted.none (Runs.move rfl) ?_
      obtain ⟨m_57, e_58, H⟩ := H
      obtain ⟨z_59, H⟩ := H
      obtain ⟨n_62, hn_65⟩ : ∃ n_ : Nat, n_ = m_57.length := ⟨_, rfl⟩
      refine WL.append (i := 0) Wanted.none st_42 rfl Tryd.underlying22 elem5 rfl rfl (g_53.ext st_42) (by rw [iv_length]; exact (hn_55).symm) (one_iv .u8 _) (by decide) (N := n_62) (by rw [hn_65, e_58, List.length_append]; exact congr (congrArg HAdd.hAdd (hn_39)) (hn_55)) (by rw [hn_65]; exact z_59) ?_
      intro A_60 c_61 w_63 st_64
      have st_64' : St w w_63 [.sl A_60 c_61 n_62 (iv .u8 m_57) 5 1] := by rw [e_58, ← iv_append .u8 l_37 (gl l0 ((x_40).toNat))]; exact st_64
      refine WL.val Wanted.none (Runs.assign rfl) ?_
      refine WL.nil ?_
      refine QW.blk_n ?_
      refine QW.then_n ?_
      refine CW.region ?_
      refine WL.val Wanted.none (Runs.add rfl rfl rfl) ?_
      refine WL.val Wanted.none (Runs.move rfl) ?_
      refine WL.nil ?_
      exact QW.at [(2, .slice none 0 0), (6, .slice A_60 n_62 c_61), (25, .slice A0 n0 c0), (26, .int .i64 (l0.length : Int)), (27, .int .i64 (IntKind.i64.wrap (x_40 + 1)))] ⟨rfl, rfl, rfl, rfl, rfl, trivial⟩ ⟨A_60, c_61, n_62, m_57, IntKind.i64.wrap (x_40 + 1), rfl, H, hn_65, st_64'⟩
    · have h_45 : (decide (x_40 < (l0.length : Int))) = false := (decide_eq_false c_44)
      refine CW.cf rfl h_45 ?_
      refine CW.exit ?_
      refine QW.then_x ?_
      refine QW.then_x ?_
      refine QW.blk_x ?_
      refine QW.then_n ?_
      refine CW.seq ?_
      refine CW.region ?_
      refine WL.val Wanted.none (Runs.move rfl) ?_
      refine WL.val Wanted.none (Runs.assign rfl) ?_
      refine WL.nil ?_
      refine QW.then_n ?_
      refine CW.sub [(2, .slice A_35 n_38 c_36)] ⟨rfl, trivial⟩ ?_
      refine CW.ret ?_
      obtain rfl := H
      exact QW.ret1 rfl rfl ⟨A_35, c_36, n_38, hn_39, rfl, st_42.pick [0] (by decide)⟩

/-! ### digest_Pieces: function 16 -/
def digest_Pieces.rel (l0 : List (List Int)) (r0 : List Int) : Prop := (∃ (r_9 : List Int), slices_Concat_s_byte_byte.rel l0 r_9 ∧ (∃ (r_19 : List Int), digest_Of.rel r_9 r_19 ∧ r0 = r_19))
set_option maxHeartbeats 4000000 in
set_option maxRecDepth 100000 in
theorem digest_Pieces.calls (w : World) (l0 : List (List Int)) (A0 : Option Addr) (n0 : Nat) (c0 : Nat)  (hG0 : Src w (some ⟨0, 0, none⟩) (iv .u32 tab0)) (hs0 : RowsOf w .u8 A0 l0) (hn0 : n0 = l0.length) (hc0 : n0 ≤ c0) (r0 : List Int) (H : digest_Pieces.rel l0 r0) :
    Calls Tryd.prog 16 #[.slice A0 n0 c0] w fun e w' => r0.length = 32 ∧ e = .returned (.agg (iv .u8 r0).toArray) ∧ St w w' [] := by
  refine CW.enter Tryd.func16 rfl (n := 6) rfl [.slice A0 n0 c0] (Nat.le_of_ble_eq_true rfl) ?_
  refine CW.sub [(0, .slice A0 n0 c0)] ⟨rfl, trivial⟩ ?_
  have st0 : St w w [] := St.refl w
  refine CW.seq ?_
  refine CW.region ?_
  refine WL.alloc st0 arr25.zero ?_
  intro B_1 w_2 st_3
  replace st_3 : St w w_2 [.cells B_1 (iv .u8 (List.replicate 32 (0 : Int))) 25] := st_3
  refine WL.nil ?_
  refine QW.then_n ?_
  refine CW.seq ?_
  refine CW.region ?_
  refine WL.val Wanted.none (Runs.move rfl) ?_
  obtain ⟨r_9, hr_5, H⟩ := H
  refine WL.call Wanted.none ent24 rfl (slices_Concat_s_byte_byte.calls w_2 l0 A0 n0 c0 (hs0.ext st_3) (hn0) (hc0) r_9 hr_5) ?_
  rintro _ w_6 ⟨A_10, c_11, n_12, hn_13, rfl, sc_8⟩
  have st_7 : St w w_6 [.sl A_10 c_11 n_12 (iv .u8 r_9) 5 1, .cells B_1 (iv .u8 (List.replicate 32 (0 : Int))) 25] := st_3.call sc_8
  refine ⟨_, rfl, ?_⟩
  obtain ⟨r_19, hr_15, H⟩ := H
  refine WL.call Wanted.none ent10 rfl (digest_Of.calls w_6 r_9 A_10 n_12 c_11 (hG0.ext st_7) (st_7.src_sl (k := 0) rfl) (hn_13) (st_7.cap (i := 0) rfl) r_19 hr_15) ?_
  rintro _ w_16 ⟨hl_20, rfl, sc_18⟩
  have st_17 : St w w_16 [.sl A_10 c_11 n_12 (iv .u8 r_9) 5 1, .cells B_1 (iv .u8 (List.replicate 32 (0 : Int))) 25] := st_7.call sc_18
  refine ⟨_, rfl, ?_⟩
  refine WL.store_arr (i := 1) st_17 rfl arr25 rfl (by rw [iv_length]; exact (List.length_replicate ..)) hl_20 rfl ?_
  intro w_21 st_22
  replace st_22 : St w w_21 [.sl A_10 c_11 n_12 (iv .u8 r_9) 5 1, .cells B_1 (iv .u8 r_19) 25] := st_22
  refine WL.nil ?_
  refine QW.then_n ?_
  refine CW.ret ?_
  obtain rfl := H
  exact QW.retc rfl arr25 rfl (st_22.blk (i := 1) rfl) hl_20 ⟨hl_20, rfl, st_22.pick [] (by decide)⟩

/-! ### reliquarylaw02_DigestPieces: function 7 -/
def reliquarylaw02_DigestPieces.L1 (l0 : List (List Int)) : Nat → (List Int) → Bool → Int → Prop
  | 0, _, _, _ => False
  | kL1 + 1, l_12, b_15, x_16 => ((x_16 < (l0.length : Int) ∧ ((0 ≤ x_16 ∧ x_16 < (l0.length : Int)) ∧ ((((gl l0 ((x_16).toNat)).length : Int) > 500 ∧ True) ∨ (¬ (((gl l0 ((x_16).toNat)).length : Int) > 500) ∧ ((0 ≤ x_16 ∧ x_16 < (l0.length : Int)) ∧ (∃ m_46 : List Int, m_46 = l_12 ++ (gl l0 ((x_16).toNat)) ∧ (m_46.length ≤ 1099511627776 ∧ reliquarylaw02_DigestPieces.L1 l0 kL1 m_46 b_15 (IntKind.i64.wrap (x_16 + 1))))))))) ∨ (¬ (x_16 < (l0.length : Int)) ∧ (∃ (r_59 : List Int), digest_Pieces.rel l0 r_59 ∧ (∃ (r_72 : List Int), reliquaryref02_Of.rel l_12 r_72 ∧ (r_72.length = 32 ∧ (r_59 = r_72 ∧ (∃ (r_80 : List Int), digest_Of.rel l_12 r_80 ∧ (r_80.length = 32 ∧ r_59 = r_80))))))))
def reliquarylaw02_DigestPieces.rel (l0 : List (List Int))  : Prop := (reliquarylaw02_awake.rel  ∧ (((l0.length : Int) > 20 ∧ True) ∨ (¬ ((l0.length : Int) > 20) ∧ (∃ k_ : Nat, reliquarylaw02_DigestPieces.L1 l0 k_ ([] : List Int) false 0))))
set_option maxHeartbeats 4000000 in
set_option maxRecDepth 100000 in
theorem reliquarylaw02_DigestPieces.calls (w : World) (l0 : List (List Int)) (A0 : Option Addr) (n0 : Nat) (c0 : Nat)  (hG0 : Src w (some ⟨0, 0, none⟩) (iv .u32 tab0)) (hs0 : RowsOf w .u8 A0 l0) (hn0 : n0 = l0.length) (hc0 : n0 ≤ c0)  (H : reliquarylaw02_DigestPieces.rel l0 ) :
    Calls Tryd.prog 7 #[.slice A0 n0 c0] w fun e w' => e = .returned (.bool true) ∧ Below w.heap.size w w' := by
  refine CW.enter Tryd.func7 rfl (n := 43) rfl [.slice A0 n0 c0] (Nat.le_of_ble_eq_true rfl) ?_
  refine CW.sub [(0, .slice A0 n0 c0)] ⟨rfl, trivial⟩ ?_
  have st0 : St w w [] := St.refl w
  refine CW.seq ?_
  refine CW.region ?_
  refine WL.val Wanted.none (Runs.assign rfl) ?_
  refine WL.nil ?_
  refine QW.then_n ?_
  refine CW.seq ?_
  refine CW.region ?_
  obtain ⟨hr_1, H⟩ := H
  refine WL.call Wanted.none ent9 rfl (reliquarylaw02_awake.calls w (hG0.ext st0) hr_1) ?_
  rintro _ w_2 ⟨rfl, sc_4⟩
  have st_3 : St w w_2 [] := st0.below sc_4
  refine ⟨_, rfl, ?_⟩
  refine WL.val Wanted.none (Runs.assign rfl) ?_
  refine WL.nil ?_
  refine QW.then_n ?_
  refine CW.seq ?_
  refine CW.seq ?_
  refine CW.region ?_
  refine WL.val Wanted.none (Runs.move rfl) ?_
  refine WL.val Wanted.none (Runs.not rfl rfl) ?_
  refine WL.nil ?_
  refine QW.then_n ?_
  refine CW.cf rfl rfl ?_
  refine CW.skip ?_
  refine QW.then_n ?_
  refine CW.seq ?_
  refine CW.seq ?_
  refine CW.region ?_
  refine WL.val Wanted.none (Runs.move rfl) ?_
  refine WL.val Wanted.none (Runs.len_sl Tryd.underlying36 rfl (by rw [hn0])) ?_
  refine WL.val Wanted.none (Runs.gtr rfl rfl rfl) ?_
  refine WL.nil ?_
  refine QW.then_n ?_
  refine CW.sub [(0, .slice A0 n0 c0), (2, .bool false), (12, .bool (decide ((l0.length : Int) > 20)))] ⟨rfl, rfl, rfl, trivial⟩ ?_
  rcases H with ⟨c_5, H⟩ | ⟨c_5, H⟩
  · have h_6 : (decide ((l0.length : Int) > 20)) = true := (decide_eq_true c_5)
    refine CW.ct rfl h_6 ?_
    refine CW.seq ?_
    refine CW.region ?_
    refine WL.val Wanted.none (Runs.assign rfl) ?_
    refine WL.nil ?_
    refine QW.then_n ?_
    refine CW.ret ?_
    refine QW.then_r ?_
    exact QW.ret1 rfl rfl ⟨rfl, st_3.ext⟩
  · have h_6 : (decide ((l0.length : Int) > 20)) = false := (decide_eq_false c_5)
    refine CW.cf rfl h_6 ?_
    refine CW.skip ?_
    refine QW.then_n ?_
    refine CW.seq ?_
    refine CW.region ?_
    refine WL.val Wanted.none (Runs.assign rfl) ?_
    refine WL.nil ?_
    refine QW.then_n ?_
    refine CW.seq ?_
    refine CW.seq ?_
    refine CW.region ?_
    refine WL.val Wanted.none (Runs.assign rfl) ?_
    refine WL.nil ?_
    refine QW.then_n ?_
    refine CW.block ?_
    have st_8 := st_3.nil_sl 5 1
    have st_8 : St w w_2 [.sl none 0 0 (iv .u8 ([] : List Int)) 5 1] := st_8
    obtain ⟨k_9, H⟩ := H
    refine CW.sub [(0, .slice A0 n0 c0), (2, .bool false), (4, .slice none 0 0), (5, .int .i64 0)] ⟨rfl, rfl, rfl, rfl, trivial⟩ ?_
    refine CW.loop (fun kL1 l_ w_ => ∃ (A_10 : Option Addr) (c_11 : Nat) (n_13 : Nat) (l_12 : List Int) (b_15 : Bool) (x_16 : Int), l_ = [(0, .slice A0 n0 c0), (2, .bool b_15), (4, .slice A_10 n_13 c_11), (5, .int .i64 x_16)] ∧ reliquarylaw02_DigestPieces.L1 l0 kL1 l_12 b_15 x_16 ∧ (n_13 = l_12.length) ∧ St w w_ [.sl A_10 c_11 n_13 (iv .u8 l_12) 5 1]) (k := k_9) ⟨none, 0, 0, ([] : List Int), false, 0, rfl, H, rfl, st_8⟩ (fun _ _ h => by obtain ⟨_, _, _, _, _, _, _, h, _⟩ := h; exact h.elim) ?_
    rintro kL1 l_19 w_17 ⟨A_10, c_11, n_13, l_12, b_15, x_16, rfl, H, hn_14, st_18⟩
    refine CW.seq ?_
    refine CW.seq ?_
    refine CW.region ?_
    refine WL.val Wanted.none (Runs.move rfl) ?_
    refine WL.val Wanted.none (Runs.move rfl) ?_
    refine WL.val Wanted.none (Runs.len_sl Tryd.underlying36 rfl (by rw [hn0])) ?_
    refine WL.val Wanted.none (Runs.lss rfl rfl rfl) ?_
    refine WL.nil ?_
    refine QW.then_n ?_
    rcases H with ⟨c_20, H⟩ | ⟨c_20, H⟩
    · have h_21 : (decide (x_16 < (l0.length : Int))) = true := (decide_eq_true c_20)
      refine CW.ct rfl h_21 ?_
      refine CW.skip ?_
      refine QW.then_n ?_
      refine CW.seq ?_
      refine CW.block ?_
      refine CW.seq ?_
      refine CW.seq ?_
      refine CW.region ?_
      refine WL.val Wanted.none (Runs.move rfl) ?_
      refine WL.val Wanted.none (Runs.move rfl) ?_
      obtain ⟨⟨p_22, q_23⟩, H⟩ := H
      obtain ⟨a_24, A_26, n_27, c_28, e_25, f_30, hn_31, hc_32, g_29⟩ := hs0.get ((x_16).toNat) (by omega)
      refine WL.val Wanted.none (Runs.indexAddr Tryd.underlying36 cells22 (by decide) rfl e_25 rfl p_22 (by rw [hn0]; exact q_23) (o := (x_16).toNat) (by first | rfl | omega)) ?_
      refine WL.val Wanted.none (Runs.load nagg22 rfl (st_18.up f_30)) ?_
      refine WL.val Wanted.none (Runs.len_sl Tryd.underlying22 rfl (by rw [hn_31])) ?_
      refine WL.val Wanted.none (Runs.gtr rfl rfl rfl) ?_
      refine WL.nil ?_
      refine QW.then_n ?_
      rcases H with ⟨c_33, H⟩ | ⟨c_33, H⟩
      · have h_34 : (decide (((gl l0 ((x_16).toNat)).length : Int) > 500)) = true := (decide_eq_true c_33)
        refine CW.ct rfl h_34 ?_
        refine CW.seq ?_
        refine CW.region ?_
        refine WL.val Wanted.none (Runs.assign rfl) ?_
        refine WL.nil ?_
        refine QW.then_n ?_
        refine CW.ret ?_
        refine QW.then_r ?_
        refine QW.blk_r ?_
        refine QW.then_r ?_
        refine QW.then_r ?_
        refine QW.blk_r ?_
        refine QW.then_r ?_
        exact QW.ret1 rfl rfl ⟨rfl, st_18.ext⟩
      · have h_34 : (decide (((gl l0 ((x_16).toNat)).length : Int) > 500)) = false := (decide_eq_false c_33)
        refine CW.cf rfl h_34 ?_
        refine CW.skip ?_
        refine QW.then_n ?_
        refine CW.region ?_
        refine WL.val Wanted.none (Runs.move rfl) ?_
        refine WL.val Wanted.none (Runs.move rfl) ?_
        refine WL.val Wanted.none (Runs.move rfl) ?_
        obtain ⟨⟨p_35, q_36⟩, H⟩ := H
        obtain ⟨a_37, A_39, n_40, c_41, e_38, f_43, hn_44, hc_45, g_42⟩ := hs0.get ((x_16).toNat) (by omega)
        refine WL.val Wanted.none (Runs.indexAddr Tryd.underlying36 cells22 (by decide) rfl e_38 rfl p_35 (by rw [hn0]; exact q_36) (o := (x_16).toNat) (by first | rfl | omega)) ?_
        refine WL.val Wanted.none (Runs.load nagg22 rfl (st_18.up f_43)) ?_
        obtain ⟨m_46, e_47, H⟩ := H
        obtain ⟨z_48, H⟩ := H
        obtain ⟨n_51, hn_54⟩ : ∃ n_ : Nat, n_ = m_46.length := ⟨_, rfl⟩
        refine WL.append (i := 0) Wanted.none st_18 rfl Tryd.underlying22 elem5 rfl rfl (g_42.ext st_18) (by rw [iv_length]; exact (hn_44).symm) (one_iv .u8 _) (by decide) (N := n_51) (by rw [hn_54, e_47, List.length_append]; exact congr (congrArg HAdd.hAdd (hn_14)) (hn_44)) (by rw [hn_54]; exact z_48) ?_
        intro A_49 c_50 w_52 st_53
        have st_53' : St w w_52 [.sl A_49 c_50 n_51 (iv .u8 m_46) 5 1] := by rw [e_47, ← iv_append .u8 l_12 (gl l0 ((x_16).toNat))]; exact st_53
        refine WL.val Wanted.none (Runs.assign rfl) ?_
        refine WL.nil ?_
        refine QW.blk_n ?_
        refine QW.then_n ?_
        refine CW.region ?_
        refine WL.val Wanted.none (Runs.move rfl) ?_
        refine WL.val Wanted.none (Runs.add rfl rfl rfl) ?_
        refine WL.val Wanted.none (Runs.assign rfl) ?_
        refine WL.nil ?_
        exact QW.at [(0, .slice A0 n0 c0), (2, .bool b_15), (4, .slice A_49 n_51 c_50), (5, .int .i64 (IntKind.i64.wrap (x_16 + 1)))] ⟨rfl, rfl, rfl, rfl, trivial⟩ ⟨A_49, c_50, n_51, m_46, b_15, IntKind.i64.wrap (x_16 + 1), rfl, H, hn_54, st_53'⟩
    · have h_21 : (decide (x_16 < (l0.length : Int))) = false := (decide_eq_false c_20)
      refine CW.cf rfl h_21 ?_
      refine CW.exit ?_
      refine QW.then_x ?_
      refine QW.then_x ?_
      refine QW.blk_x ?_
      refine QW.then_n ?_
      refine CW.seq ?_
      refine CW.region ?_
      refine WL.val Wanted.none (Runs.move rfl) ?_
      obtain ⟨r_59, hr_55, H⟩ := H
      refine WL.call Wanted.none ent16 rfl (digest_Pieces.calls w_17 l0 A0 n0 c0 (hG0.ext st_18) (hs0.ext st_18) (hn0) (hc0) r_59 hr_55) ?_
      rintro _ w_56 ⟨hl_60, rfl, sc_58⟩
      have st_57 : St w w_56 [.sl A_10 c_11 n_13 (iv .u8 l_12) 5 1] := st_18.call sc_58
      refine ⟨_, rfl, ?_⟩
      refine WL.alloc st_57 arr25.zero ?_
      intro B_61 w_62 st_63
      replace st_63 : St w w_62 [.cells B_61 (iv .u8 (List.replicate 32 (0 : Int))) 25, .sl A_10 c_11 n_13 (iv .u8 l_12) 5 1] := st_63
      refine WL.store_arr (i := 0) st_63 rfl arr25 rfl (by rw [iv_length]; exact (List.length_replicate ..)) hl_60 rfl ?_
      intro w_65 st_66
      replace st_66 : St w w_65 [.cells B_61 (iv .u8 r_59) 25, .sl A_10 c_11 n_13 (iv .u8 l_12) 5 1] := st_66
      refine WL.nil ?_
      refine QW.then_n ?_
      refine CW.sub [(2, .bool b_15), (4, .slice A_10 n_13 c_11), (6, .pointer (some ⟨B_61, 0, none⟩))] ⟨rfl, rfl, rfl, trivial⟩ ?_
      refine CW.seq ?_
      refine CW.region_qa wide (by kernel_rfl) st_66 ?_
      refine HL.val Wanted.none (fun wq sq => (Runs.load_arr arr25 rfl (sq.blk (i := 0) rfl) hl_60)) ?_
      refine HL.val Wanted.none (fun wq sq => (Runs.move rfl)) ?_
      obtain ⟨r_72, hr_68, H⟩ := H
      obtain ⟨hl_73, H⟩ := H
      refine HL.call Wanted.none ent11 rfl (fun wq sq => (reliquaryref02_Of.calls wq l_12 A_10 n_13 c_11 (sq.src_sl (k := 1) rfl) (hn_14) (sq.cap (i := 1) rfl) r_72 hr_68).mono (by rintro _ _ ⟨_, rfl, sc⟩; exact ⟨rfl, sq.call sc⟩)) ?_
      refine HL.val Wanted.none (fun wq sq => (Runs.eql_arr arr25 eqg25 rfl rfl hl_60 hl_73 rfl)) ?_
      refine HL.val Wanted.none (fun wq sq => (Runs.move rfl)) ?_
      obtain ⟨c_74, H⟩ := H
      have h_75 : (r_59 == r_72) = true := (beq_iff_eq.mpr c_74)
      refine HL.on ?_ ?_; exact Wanted.guard (dj := 37) (by rfl) (evb (by rfl) h_75) (by rfl)
      refine HL.val Wanted.none (fun wq sq => (Runs.load_arr arr25 rfl (sq.blk (i := 0) rfl) hl_60)) ?_
      refine HL.on ?_ ?_; exact Wanted.guard (dj := 37) (by rfl) (evb (by rfl) h_75) (by rfl)
      refine HL.val Wanted.none (fun wq sq => (Runs.move rfl)) ?_
      refine HL.on ?_ ?_; exact Wanted.guard (dj := 37) (by rfl) (evb (by rfl) h_75) (by rfl)
      obtain ⟨r_80, hr_76, H⟩ := H
      obtain ⟨hl_81, H⟩ := H
      refine HL.call Wanted.none ent10 rfl (fun wq sq => (digest_Of.calls wq l_12 A_10 n_13 c_11 (hG0.ext sq) (sq.src_sl (k := 1) rfl) (hn_14) (sq.cap (i := 1) rfl) r_80 hr_76).mono (by rintro _ _ ⟨_, rfl, sc⟩; exact ⟨rfl, sq.call sc⟩)) ?_
      refine HL.on ?_ ?_; exact Wanted.guard (dj := 37) (by rfl) (evb (by rfl) h_75) (by rfl)
      refine HL.val Wanted.none (fun wq sq => (Runs.eql_arr arr25 eqg25 rfl rfl hl_60 hl_81 rfl)) ?_
      refine HL.val Wanted.none (fun wq sq => (Runs.pick_t (evb rfl h_75) rfl)) ?_
      refine HL.val Wanted.none (fun wq sq => (Runs.assign rfl)) ?_
      refine HL.nil (fun w_82 st_83 => ?_)
      refine WL.nil ?_
      refine QW.then_n ?_
      refine CW.sub [(2, .bool (r_59 == r_80))] ⟨rfl, trivial⟩ ?_
      refine CW.ret ?_
      have hz : (r_59 == r_80) = true := (beq_iff_eq.mpr H)
      exact QW.ret1 rfl (evb rfl hz) ⟨rfl, st_83.ext⟩

/-! ### reliquarylaw02_DigestEmpty: function 8 -/
def reliquarylaw02_DigestEmpty.rel (l0 : List Int) (l1 : List Int)  : Prop := (reliquarylaw02_awake.rel  ∧ (((l0.length : Int) > 1000 ∧ True) ∨ (¬ ((l0.length : Int) > 1000) ∧ (((l1.length : Int) > 1000 ∧ True) ∨ (¬ ((l1.length : Int) > 1000) ∧ (∃ (r_18 : List Int), digest_Pieces.rel ([l0] : List (List Int)) r_18 ∧ (∃ (r_24 : List Int), digest_Of.rel l0 r_24 ∧ (r_18 = r_24 ∧ (∃ (r_37 : List Int), digest_Pieces.rel ([([] : List Int), l0, ([] : List Int), l1, ([] : List Int)] : List (List Int)) r_37 ∧ (∃ (r_48 : List Int), digest_Pieces.rel ([l0, l1] : List (List Int)) r_48 ∧ (r_37 = r_48 ∧ (∃ (r_56 : List Int), digest_Pieces.rel ([] : List (List Int)) r_56 ∧ (∃ (r_62 : List Int), digest_Of.rel ([] : List Int) r_62 ∧ r_56 = r_62)))))))))))))
set_option maxHeartbeats 4000000 in
set_option maxRecDepth 100000 in
theorem reliquarylaw02_DigestEmpty.calls (w : World) (l0 : List Int) (l1 : List Int) (A0 : Option Addr) (n0 : Nat) (c0 : Nat) (A1 : Option Addr) (n1 : Nat) (c1 : Nat)  (hG0 : Src w (some ⟨0, 0, none⟩) (iv .u32 tab0)) (hs0 : Src w A0 (iv .u8 l0)) (hn0 : n0 = l0.length) (hc0 : n0 ≤ c0) (hs1 : Src w A1 (iv .u8 l1)) (hn1 : n1 = l1.length) (hc1 : n1 ≤ c1)  (H : reliquarylaw02_DigestEmpty.rel l0 l1 ) :
    Calls Tryd.prog 8 #[.slice A0 n0 c0, .slice A1 n1 c1] w fun e w' => e = .returned (.bool true) ∧ Below w.heap.size w w' := by
  refine CW.enter Tryd.func8 rfl (n := 39) rfl [.slice A0 n0 c0, .slice A1 n1 c1] (Nat.le_of_ble_eq_true rfl) ?_
  refine CW.sub [(0, .slice A0 n0 c0), (1, .slice A1 n1 c1)] ⟨rfl, rfl, trivial⟩ ?_
  have st0 : St w w [] := St.refl w
  refine CW.seq ?_
  refine CW.region ?_
  refine WL.val Wanted.none (Runs.assign rfl) ?_
  refine WL.nil ?_
  refine QW.then_n ?_
  refine CW.seq ?_
  refine CW.region ?_
  obtain ⟨hr_1, H⟩ := H
  refine WL.call Wanted.none ent9 rfl (reliquarylaw02_awake.calls w (hG0.ext st0) hr_1) ?_
  rintro _ w_2 ⟨rfl, sc_4⟩
  have st_3 : St w w_2 [] := st0.below sc_4
  refine ⟨_, rfl, ?_⟩
  refine WL.val Wanted.none (Runs.assign rfl) ?_
  refine WL.nil ?_
  refine QW.then_n ?_
  refine CW.seq ?_
  refine CW.seq ?_
  refine CW.region ?_
  refine WL.val Wanted.none (Runs.move rfl) ?_
  refine WL.val Wanted.none (Runs.not rfl rfl) ?_
  refine WL.nil ?_
  refine QW.then_n ?_
  refine CW.cf rfl rfl ?_
  refine CW.skip ?_
  refine QW.then_n ?_
  refine CW.seq ?_
  refine CW.seq ?_
  refine CW.region ?_
  refine WL.val Wanted.none (Runs.move rfl) ?_
  refine WL.val Wanted.none (Runs.len_sl Tryd.underlying22 rfl (by rw [hn0])) ?_
  refine WL.val Wanted.none (Runs.gtr rfl rfl rfl) ?_
  refine WL.val Wanted.none (Runs.move rfl) ?_
  rcases H with ⟨c_5, H⟩ | ⟨c_5, H⟩
  · have h_6 : (decide ((l0.length : Int) > 1000)) = true := (decide_eq_true c_5)
    refine WL.off ?_ ?_; exact Wanted.guard (dj := 12) (by rfl) (evb (by rfl) h_6) (by rfl)
    refine WL.off ?_ ?_; exact Wanted.guard (dj := 12) (by rfl) (evb (by rfl) h_6) (by rfl)
    refine WL.off ?_ ?_; exact Wanted.guard (dj := 12) (by rfl) (evb (by rfl) h_6) (by rfl)
    refine WL.val Wanted.none (Runs.pick_t (evb rfl h_6) rfl) ?_
    refine WL.nil ?_
    refine QW.then_n ?_
    refine CW.sub [(0, .slice A0 n0 c0), (1, .slice A1 n1 c1), (4, .bool false), (16, .bool true)] ⟨rfl, rfl, rfl, rfl, trivial⟩ ?_
    refine CW.ct rfl rfl ?_
    refine CW.seq ?_
    refine CW.region ?_
    refine WL.val Wanted.none (Runs.assign rfl) ?_
    refine WL.nil ?_
    refine QW.then_n ?_
    refine CW.ret ?_
    refine QW.then_r ?_
    exact QW.ret1 rfl rfl ⟨rfl, st_3.ext⟩
  · have h_6 : (decide ((l0.length : Int) > 1000)) = false := (decide_eq_false c_5)
    refine WL.on ?_ ?_; exact Wanted.guard (dj := 12) (by rfl) (evb (by rfl) h_6) (by rfl)
    refine WL.val Wanted.none (Runs.move rfl) ?_
    refine WL.on ?_ ?_; exact Wanted.guard (dj := 12) (by rfl) (evb (by rfl) h_6) (by rfl)
    refine WL.val Wanted.none (Runs.len_sl Tryd.underlying22 rfl (by rw [hn1])) ?_
    refine WL.on ?_ ?_; exact Wanted.guard (dj := 12) (by rfl) (evb (by rfl) h_6) (by rfl)
    refine WL.val Wanted.none (Runs.gtr rfl rfl rfl) ?_
    refine WL.val Wanted.none (Runs.pick_f (evb rfl h_6) rfl) ?_
    refine WL.nil ?_
    refine QW.then_n ?_
    refine CW.sub [(0, .slice A0 n0 c0), (1, .slice A1 n1 c1), (4, .bool false), (16, .bool (decide ((l1.length : Int) > 1000)))] ⟨rfl, rfl, rfl, rfl, trivial⟩ ?_
    rcases H with ⟨c_7, H⟩ | ⟨c_7, H⟩
    · have h_8 : (decide ((l1.length : Int) > 1000)) = true := (decide_eq_true c_7)
      refine CW.ct rfl h_8 ?_
      refine CW.seq ?_
      refine CW.region ?_
      refine WL.val Wanted.none (Runs.assign rfl) ?_
      refine WL.nil ?_
      refine QW.then_n ?_
      refine CW.ret ?_
      refine QW.then_r ?_
      exact QW.ret1 rfl rfl ⟨rfl, st_3.ext⟩
    · have h_8 : (decide ((l1.length : Int) > 1000)) = false := (decide_eq_false c_7)
      refine CW.cf rfl h_8 ?_
      refine CW.skip ?_
      refine QW.then_n ?_
      refine CW.seq ?_
      refine CW.region ?_
      refine WL.val Wanted.none (Runs.move rfl) ?_
      refine WL.buildSl [.slice A0 n0 c0] st_3 Tryd.underlying36 elem22 rfl rfl (by decide) (by decide) (by simp [Value.cells]) ?_
      intro B_9 w_10 st_11
      replace st_11 : St w w_10 [.sl (some ⟨B_9, 0, none⟩) 1 1 [.slice A0 n0 c0] 22 1] := st_11
      have hr_13 : RowsOf w_10 .u8 (some ⟨B_9, 0, none⟩) ([l0] : List (List Int)) := RowsOf.lit (st_11.src_sl (k := 0) rfl) rfl (fun j hj => by match j, hj with | 0, _ => exact ⟨_, _, _, rfl, hn0, hc0, hs0.ext st_11⟩ | j + 1, hj => exact absurd (show j + 1 < 1 from hj) (by omega))
      obtain ⟨r_18, hr_14, H⟩ := H
      refine WL.call Wanted.none ent16 rfl (digest_Pieces.calls w_10 ([l0] : List (List Int)) (some ⟨B_9, 0, none⟩) 1 1 (hG0.ext st_11) (hr_13) (rfl) (Nat.le_refl _) r_18 hr_14) ?_
      rintro _ w_15 ⟨hl_19, rfl, sc_17⟩
      have st_16 : St w w_15 [.sl (some ⟨B_9, 0, none⟩) 1 1 [.slice A0 n0 c0] 22 1] := st_11.call sc_17
      refine ⟨_, rfl, ?_⟩
      refine WL.val Wanted.none (Runs.move rfl) ?_
      obtain ⟨r_24, hr_20, H⟩ := H
      refine WL.call Wanted.none ent10 rfl (digest_Of.calls w_15 l0 A0 n0 c0 (hG0.ext st_16) (hs0.ext st_16) (hn0) (hc0) r_24 hr_20) ?_
      rintro _ w_21 ⟨hl_25, rfl, sc_23⟩
      have st_22 : St w w_21 [.sl (some ⟨B_9, 0, none⟩) 1 1 [.slice A0 n0 c0] 22 1] := st_16.call sc_23
      refine ⟨_, rfl, ?_⟩
      refine WL.val Wanted.none (Runs.eql_arr arr25 eqg25 rfl rfl hl_19 hl_25 rfl) ?_
      refine WL.val Wanted.none (Runs.move rfl) ?_
      obtain ⟨c_26, H⟩ := H
      have h_27 : (r_18 == r_24) = true := (beq_iff_eq.mpr c_26)
      refine WL.on ?_ ?_; exact Wanted.guard (dj := 23) (by rfl) (evb (by rfl) h_27) (by rfl)
      refine WL.val Wanted.none (Runs.move rfl) ?_
      refine WL.on ?_ ?_; exact Wanted.guard (dj := 23) (by rfl) (evb (by rfl) h_27) (by rfl)
      refine WL.val Wanted.none (Runs.move rfl) ?_
      refine WL.on ?_ ?_; exact Wanted.guard (dj := 23) (by rfl) (evb (by rfl) h_27) (by rfl)
      refine WL.buildSl [.slice none 0 0, .slice A0 n0 c0, .slice none 0 0, .slice A1 n1 c1, .slice none 0 0] st_22 Tryd.underlying36 elem22 rfl rfl (by decide) (by decide) (by simp [Value.cells]) ?_
      intro B_28 w_29 st_30
      replace st_30 : St w w_29 [.sl (some ⟨B_28, 0, none⟩) 5 5 [.slice none 0 0, .slice A0 n0 c0, .slice none 0 0, .slice A1 n1 c1, .slice none 0 0] 22 1, .sl (some ⟨B_9, 0, none⟩) 1 1 [.slice A0 n0 c0] 22 1] := st_30
      refine WL.on ?_ ?_; exact Wanted.guard (dj := 23) (by rfl) (evb (by rfl) h_27) (by rfl)
      have hr_32 : RowsOf w_29 .u8 (some ⟨B_28, 0, none⟩) ([([] : List Int), l0, ([] : List Int), l1, ([] : List Int)] : List (List Int)) := RowsOf.lit (st_30.src_sl (k := 0) rfl) rfl (fun j hj => by match j, hj with | 0, _ => exact ⟨_, _, _, rfl, rfl, Nat.le_refl _, Src.nil _ _⟩ | 1, _ => exact ⟨_, _, _, rfl, hn0, hc0, hs0.ext st_30⟩ | 2, _ => exact ⟨_, _, _, rfl, rfl, Nat.le_refl _, Src.nil _ _⟩ | 3, _ => exact ⟨_, _, _, rfl, hn1, hc1, hs1.ext st_30⟩ | 4, _ => exact ⟨_, _, _, rfl, rfl, Nat.le_refl _, Src.nil _ _⟩ | j + 5, hj => exact absurd (show j + 5 < 5 from hj) (by omega))
      obtain ⟨r_37, hr_33, H⟩ := H
      refine WL.call Wanted.none ent16 rfl (digest_Pieces.calls w_29 ([([] : List Int), l0, ([] : List Int), l1, ([] : List Int)] : List (List Int)) (some ⟨B_28, 0, none⟩) 5 5 (hG0.ext st_30) (hr_32) (rfl) (Nat.le_refl _) r_37 hr_33) ?_
      rintro _ w_34 ⟨hl_38, rfl, sc_36⟩
      have st_35 : St w w_34 [.sl (some ⟨B_28, 0, none⟩) 5 5 [.slice none 0 0, .slice A0 n0 c0, .slice none 0 0, .slice A1 n1 c1, .slice none 0 0] 22 1, .sl (some ⟨B_9, 0, none⟩) 1 1 [.slice A0 n0 c0] 22 1] := st_30.call sc_36
      refine ⟨_, rfl, ?_⟩
      refine WL.on ?_ ?_; exact Wanted.guard (dj := 23) (by rfl) (evb (by rfl) h_27) (by rfl)
      refine WL.val Wanted.none (Runs.move rfl) ?_
      refine WL.on ?_ ?_; exact Wanted.guard (dj := 23) (by rfl) (evb (by rfl) h_27) (by rfl)
      refine WL.val Wanted.none (Runs.move rfl) ?_
      refine WL.on ?_ ?_; exact Wanted.guard (dj := 23) (by rfl) (evb (by rfl) h_27) (by rfl)
      refine WL.buildSl [.slice A0 n0 c0, .slice A1 n1 c1] st_35 Tryd.underlying36 elem22 rfl rfl (by decide) (by decide) (by simp [Value.cells]) ?_
      intro B_39 w_40 st_41
      replace st_41 : St w w_40 [.sl (some ⟨B_39, 0, none⟩) 2 2 [.slice A0 n0 c0, .slice A1 n1 c1] 22 1, .sl (some ⟨B_28, 0, none⟩) 5 5 [.slice none 0 0, .slice A0 n0 c0, .slice none 0 0, .slice A1 n1 c1, .slice none 0 0] 22 1, .sl (some ⟨B_9, 0, none⟩) 1 1 [.slice A0 n0 c0] 22 1] := st_41
      refine WL.on ?_ ?_; exact Wanted.guard (dj := 23) (by rfl) (evb (by rfl) h_27) (by rfl)
      have hr_43 : RowsOf w_40 .u8 (some ⟨B_39, 0, none⟩) ([l0, l1] : List (List Int)) := RowsOf.lit (st_41.src_sl (k := 0) rfl) rfl (fun j hj => by match j, hj with | 0, _ => exact ⟨_, _, _, rfl, hn0, hc0, hs0.ext st_41⟩ | 1, _ => exact ⟨_, _, _, rfl, hn1, hc1, hs1.ext st_41⟩ | j + 2, hj => exact absurd (show j + 2 < 2 from hj) (by omega))
      obtain ⟨r_48, hr_44, H⟩ := H
      refine WL.call Wanted.none ent16 rfl (digest_Pieces.calls w_40 ([l0, l1] : List (List Int)) (some ⟨B_39, 0, none⟩) 2 2 (hG0.ext st_41) (hr_43) (rfl) (Nat.le_refl _) r_48 hr_44) ?_
      rintro _ w_45 ⟨hl_49, rfl, sc_47⟩
      have st_46 : St w w_45 [.sl (some ⟨B_39, 0, none⟩) 2 2 [.slice A0 n0 c0, .slice A1 n1 c1] 22 1, .sl (some ⟨B_28, 0, none⟩) 5 5 [.slice none 0 0, .slice A0 n0 c0, .slice none 0 0, .slice A1 n1 c1, .slice none 0 0] 22 1, .sl (some ⟨B_9, 0, none⟩) 1 1 [.slice A0 n0 c0] 22 1] := st_41.call sc_47
      refine ⟨_, rfl, ?_⟩
      refine WL.on ?_ ?_; exact Wanted.guard (dj := 23) (by rfl) (evb (by rfl) h_27) (by rfl)
      refine WL.val Wanted.none (Runs.eql_arr arr25 eqg25 rfl rfl hl_38 hl_49 rfl) ?_
      refine WL.val Wanted.none (Runs.pick_t (evb rfl h_27) rfl) ?_
      refine WL.val Wanted.none (Runs.move rfl) ?_
      obtain ⟨c_50, H⟩ := H
      have h_51 : (r_37 == r_48) = true := (beq_iff_eq.mpr c_50)
      refine WL.on ?_ ?_; exact Wanted.guard (dj := 34) (by rfl) (evb (by rfl) h_51) (by rfl)
      obtain ⟨r_56, hr_52, H⟩ := H
      refine WL.call Wanted.none ent16 rfl (digest_Pieces.calls w_45 ([] : List (List Int)) none 0 0 (hG0.ext st_46) (RowsOf.nil _ _ _) (rfl) (Nat.le_refl _) r_56 hr_52) ?_
      rintro _ w_53 ⟨hl_57, rfl, sc_55⟩
      have st_54 : St w w_53 [.sl (some ⟨B_39, 0, none⟩) 2 2 [.slice A0 n0 c0, .slice A1 n1 c1] 22 1, .sl (some ⟨B_28, 0, none⟩) 5 5 [.slice none 0 0, .slice A0 n0 c0, .slice none 0 0, .slice A1 n1 c1, .slice none 0 0] 22 1, .sl (some ⟨B_9, 0, none⟩) 1 1 [.slice A0 n0 c0] 22 1] := st_46.call sc_55
      refine ⟨_, rfl, ?_⟩
      refine WL.on ?_ ?_; exact Wanted.guard (dj := 34) (by rfl) (evb (by rfl) h_51) (by rfl)
      obtain ⟨r_62, hr_58, H⟩ := H
      refine WL.call Wanted.none ent10 rfl (digest_Of.calls w_53 ([] : List Int) none 0 0 (hG0.ext st_54) (Src.nil _ _) (rfl) (Nat.le_refl _) r_62 hr_58) ?_
      rintro _ w_59 ⟨hl_63, rfl, sc_61⟩
      have st_60 : St w w_59 [.sl (some ⟨B_39, 0, none⟩) 2 2 [.slice A0 n0 c0, .slice A1 n1 c1] 22 1, .sl (some ⟨B_28, 0, none⟩) 5 5 [.slice none 0 0, .slice A0 n0 c0, .slice none 0 0, .slice A1 n1 c1, .slice none 0 0] 22 1, .sl (some ⟨B_9, 0, none⟩) 1 1 [.slice A0 n0 c0] 22 1] := st_54.call sc_61
      refine ⟨_, rfl, ?_⟩
      refine WL.on ?_ ?_; exact Wanted.guard (dj := 34) (by rfl) (evb (by rfl) h_51) (by rfl)
      refine WL.val Wanted.none (Runs.eql_arr arr25 eqg25 rfl rfl hl_57 hl_63 rfl) ?_
      refine WL.val Wanted.none (Runs.pick_t (evb rfl h_51) rfl) ?_
      refine WL.val Wanted.none (Runs.assign rfl) ?_
      refine WL.nil ?_
      refine QW.then_n ?_
      refine CW.sub [(4, .bool (r_56 == r_62))] ⟨rfl, trivial⟩ ?_
      refine CW.ret ?_
      have hz : (r_56 == r_62) = true := (beq_iff_eq.mpr H)
      exact QW.ret1 rfl (evb rfl hz) ⟨rfl, st_60.ext⟩

end Go.Proofs.YtbanecjdkphooaaDoor
