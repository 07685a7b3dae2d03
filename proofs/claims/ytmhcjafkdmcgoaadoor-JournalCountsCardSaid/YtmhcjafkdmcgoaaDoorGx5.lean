/- Walks: each function computes what its relation says, and a call of it ends so. Printed by a program of this session (wip/gen). -/
import Derived.Test.YtmhcjafkdmcgoaaDoorGx4
namespace Go.Proofs.YtmhcjafkdmcgoaaDoor
open Go Go.Kr Go.RowKit
set_option linter.unusedVariables false
set_option linter.unusedSimpArgs false
/-! ### reliquarylaw13_images: function 20 -/
def reliquarylaw13_images.L2 (l0 : List R42) (l_6 : List R42) (x_13 : Int) (K_L1 : (List R42) → Int → Prop) : Nat → (List Int) → Int → Prop
 | 0, _, _ => False
 | kL2 + 1, l_31, x_33 => ((0 ≤ x_13 ∧ x_13 < (l0.length : Int)) ∧ ((x_33 < (((gx l0 (x_13.toNat)).2).length : Int) ∧ ((x_33 < 159 ∧ ((0 ≤ x_13 ∧ x_13 < (l0.length : Int)) ∧ ((0 ≤ x_33 ∧ x_33 < (((gx l0 (x_13.toNat)).2).length : Int)) ∧ ((0 ≤ x_33 ∧ x_33 < (l_31.length : Int)) ∧ (∃ m_79 : List Int, m_79 = List.set l_31 (x_33.toNat) (gn ((gx l0 (x_13.toNat)).2) (x_33.toNat)) ∧ reliquarylaw13_images.L2 l0 l_6 x_13 K_L1 kL2 m_79 (IntKind.i64.wrap (x_33 + 1))))))) ∨ (¬ (x_33 < 159) ∧ ((0 ≤ x_13 ∧ x_13 < (l0.length : Int)) ∧ (∃ m_118 : List R42, m_118 = l_6 ++ ([((gx l0 (x_13.toNat)).1, l_31)] : List R42) ∧ (m_118.length ≤ 1099511627776 ∧ K_L1 m_118 (IntKind.i64.wrap (x_13 + 1)))))))) ∨ (¬ (x_33 < (((gx l0 (x_13.toNat)).2).length : Int)) ∧ ((0 ≤ x_13 ∧ x_13 < (l0.length : Int)) ∧ (∃ m_164 : List R42, m_164 = l_6 ++ ([((gx l0 (x_13.toNat)).1, l_31)] : List R42) ∧ (m_164.length ≤ 1099511627776 ∧ K_L1 m_164 (IntKind.i64.wrap (x_13 + 1))))))))
def reliquarylaw13_images.L3 (l0 : List R42) (l_6 : List R42) (x_13 : Int) (K_L1 : (List R42) → Int → Prop) : Nat → (List Int) → Int → Prop
 | 0, _, _ => False
 | kL3 + 1, l_184, x_186 => ((0 ≤ x_13 ∧ x_13 < (l0.length : Int)) ∧ ((x_186 < (((gx l0 (x_13.toNat)).2).length : Int) ∧ ((x_186 < 160 ∧ ((0 ≤ x_13 ∧ x_13 < (l0.length : Int)) ∧ ((0 ≤ x_186 ∧ x_186 < (((gx l0 (x_13.toNat)).2).length : Int)) ∧ ((0 ≤ x_186 ∧ x_186 < (l_184.length : Int)) ∧ (∃ m_232 : List Int, m_232 = List.set l_184 (x_186.toNat) (gn ((gx l0 (x_13.toNat)).2) (x_186.toNat)) ∧ reliquarylaw13_images.L3 l0 l_6 x_13 K_L1 kL3 m_232 (IntKind.i64.wrap (x_186 + 1))))))) ∨ (¬ (x_186 < 160) ∧ ((0 ≤ x_13 ∧ x_13 < (l0.length : Int)) ∧ (∃ m_271 : List R42, m_271 = l_6 ++ ([((gx l0 (x_13.toNat)).1, l_184)] : List R42) ∧ (m_271.length ≤ 1099511627776 ∧ K_L1 m_271 (IntKind.i64.wrap (x_13 + 1)))))))) ∨ (¬ (x_186 < (((gx l0 (x_13.toNat)).2).length : Int)) ∧ ((0 ≤ x_13 ∧ x_13 < (l0.length : Int)) ∧ (∃ m_317 : List R42, m_317 = l_6 ++ ([((gx l0 (x_13.toNat)).1, l_184)] : List R42) ∧ (m_317.length ≤ 1099511627776 ∧ K_L1 m_317 (IntKind.i64.wrap (x_13 + 1))))))))
def reliquarylaw13_images.L4 (l0 : List R42) (l_6 : List R42) (x_13 : Int) (K_L1 : (List R42) → Int → Prop) : Nat → (List Int) → Int → Prop
 | 0, _, _ => False
 | kL4 + 1, l_337, x_339 => ((0 ≤ x_13 ∧ x_13 < (l0.length : Int)) ∧ ((x_339 < (((gx l0 (x_13.toNat)).2).length : Int) ∧ ((x_339 < 160 ∧ ((0 ≤ x_13 ∧ x_13 < (l0.length : Int)) ∧ ((0 ≤ x_339 ∧ x_339 < (((gx l0 (x_13.toNat)).2).length : Int)) ∧ ((0 ≤ x_339 ∧ x_339 < (l_337.length : Int)) ∧ (∃ m_385 : List Int, m_385 = List.set l_337 (x_339.toNat) (gn ((gx l0 (x_13.toNat)).2) (x_339.toNat)) ∧ reliquarylaw13_images.L4 l0 l_6 x_13 K_L1 kL4 m_385 (IntKind.i64.wrap (x_339 + 1))))))) ∨ (¬ (x_339 < 160) ∧ ((0 ≤ x_13 ∧ x_13 < (l0.length : Int)) ∧ (∃ m_424 : List R42, m_424 = l_6 ++ ([((gx l0 (x_13.toNat)).1, l_337)] : List R42) ∧ (m_424.length ≤ 1099511627776 ∧ K_L1 m_424 (IntKind.i64.wrap (x_13 + 1)))))))) ∨ (¬ (x_339 < (((gx l0 (x_13.toNat)).2).length : Int)) ∧ ((0 ≤ x_13 ∧ x_13 < (l0.length : Int)) ∧ (∃ m_470 : List R42, m_470 = l_6 ++ ([((gx l0 (x_13.toNat)).1, l_337)] : List R42) ∧ (m_470.length ≤ 1099511627776 ∧ K_L1 m_470 (IntKind.i64.wrap (x_13 + 1))))))))
def reliquarylaw13_images.L1 (l0 : List R42) (a1 : Bool) (lr0 : List R42) : Nat → (List R42) → Int → Prop
 | 0, _, _ => False
 | kL1 + 1, l_6, x_13 => ((x_13 < (l0.length : Int) ∧ ((a1 = true ∧ ((x_13 = 1 ∧ (∃ k_ : Nat, reliquarylaw13_images.L2 l0 l_6 x_13 (reliquarylaw13_images.L1 l0 a1 lr0 kL1) k_ (List.replicate 159 (0 : Int)) 0)) ∨ (¬ (x_13 = 1) ∧ (∃ k_ : Nat, reliquarylaw13_images.L3 l0 l_6 x_13 (reliquarylaw13_images.L1 l0 a1 lr0 kL1) k_ (List.replicate 160 (0 : Int)) 0)))) ∨ (¬ (a1 = true) ∧ (∃ k_ : Nat, reliquarylaw13_images.L4 l0 l_6 x_13 (reliquarylaw13_images.L1 l0 a1 lr0 kL1) k_ (List.replicate 160 (0 : Int)) 0)))) ∨ (¬ (x_13 < (l0.length : Int)) ∧ lr0 = l_6))
def reliquarylaw13_images.rel (l0 : List R42) (a1 : Bool) (lr0 : List R42) : Prop := (∃ k_ : Nat, reliquarylaw13_images.L1 l0 a1 lr0 k_ ([] : List R42) 0)
set_option maxHeartbeats 1000000 in
set_option maxRecDepth 100000 in
theorem reliquarylaw13_images.calls (w w1 : World) (T R : Pool) (l0 : List R42) (a1 : Bool) (A0 : Option Addr) (n0 : Nat) (c0 : Nat) (st0 : St w w1 ((T ++ R))) (hb0 : HS w (T ++ R) T A0 n0 c0 (f42 w) l0) (lr0 : List R42) (H : reliquarylaw13_images.rel l0 a1 lr0) :
  Calls Tryd.prog 20 #[.slice A0 n0 c0, .bool a1] w1 fun e w' => ∃ T' Ar0 nr0 cr0 xr0, Pl T T' ∧ nr0 = lr0.length ∧ HRs T' (f42 w) xr0 lr0 ∧ e = .returned (.slice Ar0 nr0 cr0) ∧ St w w' (.sl Ar0 cr0 nr0 xr0 42 2 :: (T' ++ R)) := by
 refine CW.enter Tryd.func20 rfl (n := 60) rfl [.slice A0 n0 c0, .bool a1] (Nat.le_of_ble_eq_true rfl) ?_
 refine CW.sub [(0, .slice A0 n0 c0), (1, .bool a1)] ⟨rfl, rfl, trivial⟩ ?_
 refine CW.seq (CW.region ?_)
 refine WL.val Wanted.none (Runs.assign rfl) ?_
 refine WL.nil (QW.then_n ?_)
 refine CW.seq (CW.region ?_)
 refine WL.val Wanted.none (Runs.assign rfl) ?_
 refine WL.nil (QW.then_n ?_)
 refine CW.seq ?_
 refine CW.seq (CW.region ?_)
 refine WL.val Wanted.none (Runs.assign rfl) ?_
 refine WL.nil (QW.then_n ?_)
 refine CW.block ?_
 have st_2 := st0.nil_sl 42 2
 have st_2 : St w w1 (.sl none 0 0 ([] : Cs) 42 2 :: (T ++ R)) := st_2
 obtain ⟨k_3, H⟩ := H
 refine CW.sub [(0, .slice A0 n0 c0), (1, .bool a1), (4, .slice none 0 0), (5, .slice none 0 0), (6, .int .i64 0)] ⟨rfl, rfl, rfl, rfl, rfl, trivial⟩ ?_
 refine CW.loop (fun kL1 l_ w_ => ∃ (T_4 : Pool) (A_10 : Option Addr) (c_11 : Nat) (n_12 : Nat) (x_8 : Cs) (l_6 : List R42) (x_13 : Int), l_ = [(0, .slice A0 n0 c0), (1, .bool a1), (4, .slice none 0 0), (5, .slice A_10 n_12 c_11), (6, .int .i64 x_13)] ∧ reliquarylaw13_images.L1 l0 a1 lr0 kL1 l_6 x_13 ∧ (Pl T T_4) ∧ (n_12 = l_6.length) ∧ (HRs T_4 (f42 w) x_8 l_6) ∧ St w w_ (.sl A_10 c_11 n_12 x_8 42 2 :: (T_4 ++ R))) (k := k_3) ⟨T, none, 0, 0, ([] : Cs), ([] : List R42), 0, rfl, H, Pl.refl, rfl, (HRs.nil : HRs T (f42 w) [] []), st_2⟩ (fun _ _ h => by obtain ⟨_, _, _, _, _, _, _, _, h, _⟩ := h; exact h.elim) ?_
 rintro kL1 l_16 w_14 ⟨T_4, A_10, c_11, n_12, x_8, l_6, x_13, rfl, H, hs_5, hn_7, hx_9, st_15⟩
 refine CW.seq ?_
 refine CW.seq (CW.region ?_)
 refine WL.val Wanted.none (Runs.move rfl) ?_
 refine WL.val Wanted.none (Runs.move rfl) ?_
 refine WL.val Wanted.none (Runs.len_sl Tryd.underlying40 rfl (by rw [hb0.1])) ?_
 refine WL.val Wanted.none (Runs.lss rfl rfl rfl) ?_
 refine WL.nil (QW.then_n ?_)
 rcases H with ⟨c_17, H⟩ | ⟨c_17, H⟩
 ·have h_18 : (decide (x_13 < (l0.length : Int))) = true := (decide_eq_true c_17)
  refine CW.ct rfl h_18 ?_
  refine CW.skip ?_
  refine QW.then_n ?_
  refine CW.seq ?_
  refine CW.block ?_
  refine CW.seq (CW.region ?_)
  refine WL.val Wanted.none (Runs.assign rfl) ?_
  refine WL.nil (QW.then_n ?_)
  refine CW.seq ?_
  refine CW.seq (CW.region ?_)
  refine WL.val Wanted.none (Runs.move rfl) ?_
  refine WL.val Wanted.none (Runs.move rfl) ?_
  rcases H with ⟨c_19, H⟩ | ⟨c_19, H⟩
  ·have h_20 : a1 = true := c_19
   refine WL.on ?_ ?_; exact Wanted.guard (dj := 17) (by rfl) (evb (by rfl) h_20) (by rfl)
   refine WL.val Wanted.none (Runs.move rfl) ?_
   refine WL.on ?_ ?_; exact Wanted.guard (dj := 17) (by rfl) (evb (by rfl) h_20) (by rfl)
   refine WL.val Wanted.none (Runs.eql rfl rfl rfl) ?_
   refine WL.val Wanted.none (Runs.pick_t (evb rfl h_20) rfl) ?_
   refine WL.nil (QW.then_n ?_)
   rcases H with ⟨c_21, H⟩ | ⟨c_21, H⟩
   ·have h_22 : (x_13 == 1) = true := (beq_iff_eq.mpr c_21)
    refine CW.ct rfl h_22 ?_
    refine CW.region ?_
    refine WL.val Wanted.none (Runs.assign rfl) ?_
    refine WL.nil (QW.then_n ?_)
    refine CW.seq (CW.region ?_)
    refine WL.val Wanted.none (Runs.move rfl) ?_
    refine WL.make st_15 Tryd.underlying25 elem5 rfl rfl (by decide) (by decide) (by decide) (N := 159) rfl ?_
    intro B_23 w_24 st_25
    replace st_25 : St w w_24 (.sl (some ⟨B_23, 0, none⟩) 159 159 (iv .u8 (List.replicate 159 (0 : Int))) 5 1 :: .sl A_10 c_11 n_12 x_8 42 2 :: (T_4 ++ R)) := by rw [iv_replicate] at st_25; exact st_25
    have hn_26 : 159 = (List.replicate 159 (0 : Int)).length := by simp
    refine WL.val Wanted.none (Runs.assign rfl) ?_
    refine WL.nil (QW.then_n ?_)
    refine CW.seq ?_
    refine CW.seq (CW.region ?_)
    refine WL.val Wanted.none (Runs.assign rfl) ?_
    refine WL.nil (QW.then_n ?_)
    refine CW.block ?_
    obtain ⟨k_28, H⟩ := H
    refine CW.sub [(0, .slice A0 n0 c0), (1, .bool a1), (4, .slice none 0 0), (5, .slice A_10 n_12 c_11), (6, .int .i64 x_13), (10, .int .i64 x_13), (11, .slice A0 n0 c0), (12, .int .i64 (l0.length : Int)), (13, .bool (decide (x_13 < (l0.length : Int)))), (7, .int .i64 159), (16, .bool a1), (17, .bool a1), (18, .int .i64 x_13), (19, .bool (x_13 == 1)), (20, .bool (x_13 == 1)), (21, .int .i64 159), (22, .slice (some ⟨B_23, 0, none⟩) 159 159), (8, .slice (some ⟨B_23, 0, none⟩) 159 159), (9, .int .i64 0)] (by repeat' constructor) ?_
    refine CW.loop (fun kL2 l_ w_ => ∃ (T_29 : Pool) (l_31 : List Int) (x_33 : Int), l_ = [(0, .slice A0 n0 c0), (1, .bool a1), (4, .slice none 0 0), (5, .slice A_10 n_12 c_11), (6, .int .i64 x_13), (10, .int .i64 x_13), (11, .slice A0 n0 c0), (12, .int .i64 (l0.length : Int)), (13, .bool (decide (x_13 < (l0.length : Int)))), (7, .int .i64 159), (16, .bool a1), (17, .bool a1), (18, .int .i64 x_13), (19, .bool (x_13 == 1)), (20, .bool (x_13 == 1)), (21, .int .i64 159), (22, .slice (some ⟨B_23, 0, none⟩) 159 159), (8, .slice (some ⟨B_23, 0, none⟩) 159 159), (9, .int .i64 x_33)] ∧ reliquarylaw13_images.L2 l0 l_6 x_13 (reliquarylaw13_images.L1 l0 a1 lr0 kL1) kL2 l_31 x_33 ∧ (Pl T_4 T_29) ∧ (159 = l_31.length) ∧ St w w_ (.sl (some ⟨B_23, 0, none⟩) 159 159 (iv .u8 l_31) 5 1 :: .sl A_10 c_11 n_12 x_8 42 2 :: (T_29 ++ R))) (k := k_28) ⟨T_4, List.replicate 159 (0 : Int), 0, rfl, H, Pl.refl, hn_26, st_25⟩ (fun _ _ h => by obtain ⟨_, _, _, _, h, _⟩ := h; exact h.elim) ?_
    rintro kL2 l_36 w_34 ⟨T_29, l_31, x_33, rfl, H, hs_30, hn_32, st_35⟩
    refine CW.seq ?_
    refine CW.seq (CW.region ?_)
    refine WL.val Wanted.none (Runs.move rfl) ?_
    refine WL.val Wanted.none (Runs.move rfl) ?_
    refine WL.val Wanted.none (Runs.move rfl) ?_
    obtain ⟨⟨p_37, q_38⟩, H⟩ := H
    obtain ⟨x_39, hs_40, hr_41⟩ := hb0.2.2
    obtain ⟨a_42, e_43, ms_44, hc_45, hm_46⟩ := el_get (i := (x_13).toNat) ((hs_40.at st_35 (mem_TR (A := [_, _]) (fun _ h_ => hs_30.1 _ (hs_5.1 _ h_))))) (hr_41.mono (fun _ h_ => hs_30.1 _ (hs_5.1 _ h_))) (fz42 w) (by decide) (by omega)
    obtain ⟨A_47, n_48, c_49, em_51, hb_50⟩ := inv42 hm_46
    replace em_51 : ms_44 = ([.int .u64 ((gx l0 (x_13.toNat)).1)] : Cs) ++ ([.slice A_47 n_48 c_49] : Cs) := em_51
    subst em_51
    refine WL.val Wanted.none (Runs.indexAddr Tryd.underlying40 cells42 (by decide) rfl e_43 rfl p_37 (by rw [show n0 = l0.length from hb0.1]; exact q_38) (o := (x_13.toNat) * 2) (by first | rfl | omega)) ?_
    refine WL.val Wanted.none (Runs.fieldAddrB (off := 1) fld42_1 rfl rfl rfl) ?_
    refine WL.val Wanted.none (Runs.load nagg25 rfl (Src.cellAt (j := 1) (Src.cut ((hs_40.at st_35 (mem_TR (A := [_, _]) (fun _ h_ => hs_30.1 _ (hs_5.1 _ h_))))) e_43 hc_45) rfl)) ?_
    refine WL.val Wanted.none (Runs.len_sl Tryd.underlying25 rfl (by rw [hb_50.1])) ?_
    refine WL.val Wanted.none (Runs.lss rfl rfl rfl) ?_
    refine WL.val Wanted.none (Runs.move rfl) ?_
    rcases H with ⟨c_52, H⟩ | ⟨c_52, H⟩
    ·have h_53 : (decide (x_33 < (((gx l0 (x_13.toNat)).2).length : Int))) = true := (decide_eq_true c_52)
     refine WL.on ?_ ?_; exact Wanted.guard (dj := 31) (by rfl) (evb (by rfl) h_53) (by rfl)
     refine WL.val Wanted.none (Runs.move rfl) ?_
     refine WL.on ?_ ?_; exact Wanted.guard (dj := 31) (by rfl) (evb (by rfl) h_53) (by rfl)
     refine WL.val Wanted.none (Runs.move rfl) ?_
     refine WL.on ?_ ?_; exact Wanted.guard (dj := 31) (by rfl) (evb (by rfl) h_53) (by rfl)
     refine WL.val Wanted.none (Runs.lss rfl rfl rfl) ?_
     refine WL.val Wanted.none (Runs.pick_t (evb rfl h_53) rfl) ?_
     refine WL.nil (QW.then_n ?_)
     rcases H with ⟨c_54, H⟩ | ⟨c_54, H⟩
     ·have h_55 : (decide (x_33 < 159)) = true := (decide_eq_true c_54)
      refine CW.ct rfl h_55 ?_
      refine CW.skip ?_
      refine QW.then_n ?_
      refine CW.seq ?_
      refine CW.block ?_
      refine CW.region ?_
      refine WL.val Wanted.none (Runs.move rfl) ?_
      refine WL.val Wanted.none (Runs.move rfl) ?_
      refine WL.val Wanted.none (Runs.move rfl) ?_
      refine WL.val Wanted.none (Runs.move rfl) ?_
      obtain ⟨⟨p_56, q_57⟩, H⟩ := H
      obtain ⟨x_58, hs_59, hr_60⟩ := hb0.2.2
      obtain ⟨a_61, e_62, ms_63, hc_64, hm_65⟩ := el_get (i := (x_13).toNat) ((hs_59.at st_35 (mem_TR (A := [_, _]) (fun _ h_ => hs_30.1 _ (hs_5.1 _ h_))))) (hr_60.mono (fun _ h_ => hs_30.1 _ (hs_5.1 _ h_))) (fz42 w) (by decide) (by omega)
      obtain ⟨A_66, n_67, c_68, em_70, hb_69⟩ := inv42 hm_65
      replace em_70 : ms_63 = ([.int .u64 ((gx l0 (x_13.toNat)).1)] : Cs) ++ ([.slice A_66 n_67 c_68] : Cs) := em_70
      subst em_70
      refine WL.val Wanted.none (Runs.indexAddr Tryd.underlying40 cells42 (by decide) rfl e_62 rfl p_56 (by rw [show n0 = l0.length from hb0.1]; exact q_57) (o := (x_13.toNat) * 2) (by first | rfl | omega)) ?_
      refine WL.val Wanted.none (Runs.fieldAddrB (off := 1) fld42_1 rfl rfl rfl) ?_
      refine WL.val Wanted.none (Runs.load nagg25 rfl (Src.cellAt (j := 1) (Src.cut ((hs_59.at st_35 (mem_TR (A := [_, _]) (fun _ h_ => hs_30.1 _ (hs_5.1 _ h_))))) e_62 hc_64) rfl)) ?_
      refine WL.val Wanted.none (Runs.move rfl) ?_
      obtain ⟨⟨p_71, q_72⟩, H⟩ := H
      obtain ⟨a_73, e_74⟩ := ((hb_69.2.2.at st_35 (mem_T (A := [_, _]) (fun _ h_ => h_)))).addr_iv (x_33.toNat) (by omega)
      refine WL.val Wanted.none (Runs.indexAddr Tryd.underlying25 cells5 (by decide) rfl e_74 rfl p_71 (by rw [hb_69.1]; exact q_72) (o := (x_33).toNat) (by first | rfl | omega)) ?_
      refine WL.val Wanted.none (Runs.load nagg5 rfl (((hb_69.2.2.at st_35 (mem_T (A := [_, _]) (fun _ h_ => h_)))).cell_iv e_74 (by omega))) ?_
      obtain ⟨⟨p_75, q_76⟩, H⟩ := H
      obtain ⟨a_77, e_78⟩ := (st_35.src_sl (k := 0) rfl).addr_iv (x_33.toNat) (by omega)
      refine WL.val Wanted.none (Runs.indexAddr Tryd.underlying25 cells5 (by decide) rfl e_78 rfl p_75 (by rw [hn_32]; exact q_76) (o := (x_33).toNat) (by first | rfl | omega)) ?_
      obtain ⟨m_79, e_80, H⟩ := H
      refine WL.store_sl (i := 0) st_35 rfl cells5 rfl e_78 (by rw [iv_length]; omega) rfl rfl ?_
      intro w_81 st_82
      have hn_83 : 159 = m_79.length := by rw [e_80, List.length_set]; exact hn_32
      have st_82' : St w w_81 (.sl (some ⟨B_23, 0, none⟩) 159 159 (iv .u8 m_79) 5 1 :: .sl A_10 c_11 n_12 x_8 42 2 :: (T_29 ++ R)) := by rw [e_80, ← iv_set .u8 l_31 (x_33.toNat) (gn ((gx l0 (x_13.toNat)).2) (x_33.toNat))]; exact st_82
      refine WL.nil ?_
      refine QW.blk_n ?_
      refine QW.then_n ?_
      refine CW.region ?_
      refine WL.val Wanted.none (Runs.move rfl) ?_
      refine WL.val Wanted.none (Runs.add rfl rfl rfl) ?_
      refine WL.val Wanted.none (Runs.assign rfl) ?_
      refine WL.nil ?_
      exact QW.at _ (by repeat' constructor) ⟨T_29, m_79, IntKind.i64.wrap (x_33 + 1), rfl, H, hs_30, hn_83, st_82'⟩
     ·have h_55 : (decide (x_33 < 159)) = false := (decide_eq_false c_54)
      refine CW.cf rfl h_55 ?_
      refine CW.exit ?_
      refine QW.then_x ?_
      refine QW.then_x ?_
      refine QW.blk_x ?_
      refine QW.then_n ?_
      refine CW.region ?_
      refine WL.val Wanted.none (Runs.move rfl) ?_
      refine WL.val Wanted.none (Runs.move rfl) ?_
      refine WL.val Wanted.none (Runs.move rfl) ?_
      obtain ⟨⟨p_84, q_85⟩, H⟩ := H
      obtain ⟨x_86, hs_87, hr_88⟩ := hb0.2.2
      obtain ⟨a_89, e_90, ms_91, hc_92, hm_93⟩ := el_get (i := (x_13).toNat) ((hs_87.at st_35 (mem_TR (A := [_, _]) (fun _ h_ => hs_30.1 _ (hs_5.1 _ h_))))) (hr_88.mono (fun _ h_ => hs_30.1 _ (hs_5.1 _ h_))) (fz42 w) (by decide) (by omega)
      obtain ⟨A_94, n_95, c_96, em_98, hb_97⟩ := inv42 hm_93
      replace em_98 : ms_91 = ([.int .u64 ((gx l0 (x_13.toNat)).1)] : Cs) ++ ([.slice A_94 n_95 c_96] : Cs) := em_98
      subst em_98
      refine WL.val Wanted.none (Runs.indexAddr Tryd.underlying40 cells42 (by decide) rfl e_90 rfl p_84 (by rw [show n0 = l0.length from hb0.1]; exact q_85) (o := (x_13.toNat) * 2) (by first | rfl | omega)) ?_
      refine WL.val Wanted.none (Runs.fieldAddrB (off := 0) fld42_0 rfl rfl rfl) ?_
      refine WL.val Wanted.none (Runs.load nagg37 rfl (Src.cellAt (j := 0) (Src.cut ((hs_87.at st_35 (mem_TR (A := [_, _]) (fun _ h_ => hs_30.1 _ (hs_5.1 _ h_))))) e_90 hc_92) rfl)) ?_
      refine WL.val Wanted.none (Runs.move rfl) ?_
      refine WL.val Wanted.none (Runs.build_struct (ps := [(0, 1), (1, 1)]) (cs := (([.int .u64 ((gx l0 (x_13.toNat)).1)] : Cs) ++ ([.slice (some ⟨B_23, 0, none⟩) 159 159] : Cs))) plc42 zero42 rfl (by refine Fills.cons (o := 0) (ms := (([.int .u64 ((gx l0 (x_13.toNat)).1)] : Cs))) (show _ = some (0, (([.int .u64 ((gx l0 (x_13.toNat)).1)] : Cs)).length) by rw [show (([.int .u64 ((gx l0 (x_13.toNat)).1)] : Cs)).length = 1 from (by first | rfl | simp only [List.length_append, List.length_cons, List.length_nil, iv_length])] <;> rfl) rfl (by have h1_ : (([.int .u64 ((gx l0 (x_13.toNat)).1)] : Cs)).length = 1 := (by first | rfl | simp only [List.length_append, List.length_cons, List.length_nil, iv_length]); have h2_ : (([.int .u64 0] : Cs) ++ ([.slice none 0 0] : Cs)).length = 2 := (by first | rfl | simp only [List.length_append, List.length_cons, List.length_nil, iv_length]); omega) ?_; rw [show layV (([.int .u64 0] : Cs) ++ ([.slice none 0 0] : Cs)) 0 (([.int .u64 ((gx l0 (x_13.toNat)).1)] : Cs)) = (([.int .u64 ((gx l0 (x_13.toNat)).1)] : Cs) ++ ([.slice none 0 0] : Cs)) from (layV_mid (pre := (([] : Cs))) (mid := (([.int .u64 0] : Cs))) (post := (([.slice none 0 0] : Cs))) (by first | rfl | simp only [List.append_assoc, List.append_nil, List.nil_append, List.cons_append]) (by first | rfl | simp only [List.length_append, List.length_cons, List.length_nil, iv_length]) (Eq.trans (b := 1) (by first | rfl | simp only [List.length_append, List.length_cons, List.length_nil, iv_length]) (Eq.symm (by first | rfl | simp only [List.length_append, List.length_cons, List.length_nil, iv_length])))).trans (by first | rfl | simp only [List.append_assoc, List.append_nil, List.nil_append, List.cons_append])]; refine Fills.cons (o := 1) (ms := (([.slice (some ⟨B_23, 0, none⟩) 159 159] : Cs))) (show _ = some (1, (([.slice (some ⟨B_23, 0, none⟩) 159 159] : Cs)).length) by rw [show (([.slice (some ⟨B_23, 0, none⟩) 159 159] : Cs)).length = 1 from (by first | rfl | simp only [List.length_append, List.length_cons, List.length_nil, iv_length])] <;> rfl) rfl (by have h1_ : (([.slice (some ⟨B_23, 0, none⟩) 159 159] : Cs)).length = 1 := (by first | rfl | simp only [List.length_append, List.length_cons, List.length_nil, iv_length]); have h2_ : (([.int .u64 ((gx l0 (x_13.toNat)).1)] : Cs) ++ ([.slice none 0 0] : Cs)).length = 2 := (by first | rfl | simp only [List.length_append, List.length_cons, List.length_nil, iv_length]); omega) ?_; rw [show layV (([.int .u64 ((gx l0 (x_13.toNat)).1)] : Cs) ++ ([.slice none 0 0] : Cs)) 1 (([.slice (some ⟨B_23, 0, none⟩) 159 159] : Cs)) = (([.int .u64 ((gx l0 (x_13.toNat)).1)] : Cs) ++ ([.slice (some ⟨B_23, 0, none⟩) 159 159] : Cs)) from (layV_mid (pre := (([.int .u64 ((gx l0 (x_13.toNat)).1)] : Cs))) (mid := (([.slice none 0 0] : Cs))) (post := (([] : Cs))) (by first | rfl | simp only [List.append_assoc, List.append_nil, List.nil_append, List.cons_append]) (by first | rfl | simp only [List.length_append, List.length_cons, List.length_nil, iv_length]) (Eq.trans (b := 1) (by first | rfl | simp only [List.length_append, List.length_cons, List.length_nil, iv_length]) (Eq.symm (by first | rfl | simp only [List.length_append, List.length_cons, List.length_nil, iv_length])))).trans (by first | rfl | simp only [List.append_assoc, List.append_nil, List.nil_append, List.cons_append])]; exact Fills.nil)) ?_
      have hb_103c := st_35.cap (i := 0) rfl
      obtain ⟨T_99, hs_100, hm_101, st_102⟩ := St.freeze (A := []) (B := [_]) (T := T_29) (R := R) st_35
      have hb_103 : HB w T_99 (some ⟨B_23, 0, none⟩) 159 159 (iv .u8 l_31) l_31.length := ⟨hn_32, hb_103c, Hd.of_sl hm_101⟩
      replace st_102 : St w w_34 (.sl A_10 c_11 n_12 x_8 42 2 :: (T_99 ++ R)) := st_102
      obtain ⟨ii_104, z_105, h_106, h_107, h_108, h_109⟩ := slr42_1
      refine WL.buildSlRows (sz := 2) (cs := (([.int .u64 ((gx l0 (x_13.toNat)).1)] : Cs) ++ ([.slice (some ⟨B_23, 0, none⟩) 159 159] : Cs))) st_102 Tryd.underlying40 h_106 h_107 h_108 (by decide) (by decide) h_109 rfl (by refine Fills.cons (o := 0) (ms := (([.int .u64 ((gx l0 (x_13.toNat)).1)] : Cs) ++ ([.slice (some ⟨B_23, 0, none⟩) 159 159] : Cs))) (show _ = some (0, (([.int .u64 ((gx l0 (x_13.toNat)).1)] : Cs) ++ ([.slice (some ⟨B_23, 0, none⟩) 159 159] : Cs)).length) by rw [show (([.int .u64 ((gx l0 (x_13.toNat)).1)] : Cs) ++ ([.slice (some ⟨B_23, 0, none⟩) 159 159] : Cs)).length = 2 from (by first | rfl | simp only [List.length_append, List.length_cons, List.length_nil, iv_length])] <;> rfl) rfl (by have h1_ : (([.int .u64 ((gx l0 (x_13.toNat)).1)] : Cs) ++ ([.slice (some ⟨B_23, 0, none⟩) 159 159] : Cs)).length = 2 := (by first | rfl | simp only [List.length_append, List.length_cons, List.length_nil, iv_length]); have h2_ : (([.int .u64 0] : Cs) ++ ([.slice none 0 0] : Cs)).length = 2 := (by first | rfl | simp only [List.length_append, List.length_cons, List.length_nil, iv_length]); omega) ?_; rw [show layV (([.int .u64 0] : Cs) ++ ([.slice none 0 0] : Cs)) 0 (([.int .u64 ((gx l0 (x_13.toNat)).1)] : Cs) ++ ([.slice (some ⟨B_23, 0, none⟩) 159 159] : Cs)) = (([.int .u64 ((gx l0 (x_13.toNat)).1)] : Cs) ++ ([.slice (some ⟨B_23, 0, none⟩) 159 159] : Cs)) from (layV_mid (pre := (([] : Cs))) (mid := (([.int .u64 0] : Cs) ++ ([.slice none 0 0] : Cs))) (post := (([] : Cs))) (by first | rfl | simp only [List.append_assoc, List.append_nil, List.nil_append, List.cons_append]) (by first | rfl | simp only [List.length_append, List.length_cons, List.length_nil, iv_length]) (Eq.trans (b := 2) (by first | rfl | simp only [List.length_append, List.length_cons, List.length_nil, iv_length]) (Eq.symm (by first | rfl | simp only [List.length_append, List.length_cons, List.length_nil, iv_length])))).trans (by first | rfl | simp only [List.append_assoc, List.append_nil, List.nil_append, List.cons_append])]; exact Fills.nil) ?_
      intro B_110 w_111 st_112
      replace st_112 : St w w_111 (.cells B_110 (([.int .u64 ((gx l0 (x_13.toNat)).1)] : Cs) ++ ([.slice (some ⟨B_23, 0, none⟩) 159 159] : Cs)) 42 :: .sl A_10 c_11 n_12 x_8 42 2 :: (T_99 ++ R)) := st_112
      have st_114 := St.rows_sl (i := 0) (m := 1) (size := 2) st_112 rfl rfl (by decide)
      obtain ⟨x_115, e_116⟩ : ∃ x_ : Cs, x_ = ([.int .u64 ((gx l0 (x_13.toNat)).1)] : Cs) ++ ([.slice (some ⟨B_23, 0, none⟩) 159 159] : Cs) := ⟨_, rfl⟩
      have hx_117 : HRs T_99 (f42 w) x_115 ([((gx l0 (x_13.toNat)).1, l_31)] : List R42) := by rw [e_116]; exact (HRs.one (.cons rfl (.cons ⟨_, _, _, rfl, hb_103⟩ .nil)))
      replace st_114 : St w w_111 (.sl (some ⟨B_110, 0, none⟩) 1 1 x_115 42 2 :: .sl A_10 c_11 n_12 x_8 42 2 :: (T_99 ++ R)) := by rw [e_116]; exact st_114
      obtain ⟨m_118, e_119, H⟩ := H
      obtain ⟨z_120, H⟩ := H
      obtain ⟨n_123, hn_126⟩ : ∃ n_ : Nat, n_ = m_118.length := ⟨_, rfl⟩
      refine WL.appendR (i := 1) (N := n_123) (news := x_115) Wanted.none st_114 rfl Tryd.underlying40 elemS42 rfl rfl (st_114.src_sl (k := 0) rfl) (by have h1_ := (hx_117).length (fz42 w); have h2_ : 1 = ([((gx l0 (x_13.toNat)).1, l_31)] : List R42).length := rfl; rw [h1_, h2_]) (HLs.one hx_117) (by decide) (by have h1_ : n_12 = l_6.length := hn_7; have h2_ : 1 = ([((gx l0 (x_13.toNat)).1, l_31)] : List R42).length := rfl; rw [hn_126, e_119, List.length_append]; omega) (by rw [hn_126]; exact z_120) ?_
      intro A_121 c_122 w_124 st_125
      obtain ⟨x_127, e_128⟩ : ∃ x_ : Cs, x_ = x_8 ++ x_115 := ⟨_, rfl⟩
      have hx_129 : HRs T_99 (f42 w) x_127 m_118 := by rw [e_128, e_119]; exact HRs.append (hx_9.mono (fun _ h_ => hs_100.1 _ (hs_30.1 _ h_))) hx_117
      replace st_125 : St w w_124 (.sl (some ⟨B_110, 0, none⟩) 1 1 x_115 42 2 :: .sl A_121 c_122 n_123 x_127 42 2 :: (T_99 ++ R)) := by rw [e_128]; exact st_125
      refine WL.val Wanted.none (Runs.assign rfl) ?_
      refine WL.nil ?_
      refine QW.blk_n ?_
      refine QW.then_n ?_
      refine CW.region ?_
      refine WL.val Wanted.none (Runs.move rfl) ?_
      refine WL.val Wanted.none (Runs.add rfl rfl rfl) ?_
      refine WL.val Wanted.none (Runs.assign rfl) ?_
      refine WL.nil ?_
      have st_125' := (St.pickT (L := [_, _]) st_125 [1] (by decide))
      exact QW.at _ (by repeat' constructor) ⟨T_99, A_121, c_122, n_123, x_127, m_118, IntKind.i64.wrap (x_13 + 1), rfl, H, ((hs_5.trans hs_30).trans hs_100), hn_126, hx_129, st_125'⟩
    ·have h_53 : (decide (x_33 < (((gx l0 (x_13.toNat)).2).length : Int))) = false := (decide_eq_false c_52)
     refine WL.off ?_ ?_; exact Wanted.guard (dj := 31) (by rfl) (evb (by rfl) h_53) (by rfl)
     refine WL.off ?_ ?_; exact Wanted.guard (dj := 31) (by rfl) (evb (by rfl) h_53) (by rfl)
     refine WL.off ?_ ?_; exact Wanted.guard (dj := 31) (by rfl) (evb (by rfl) h_53) (by rfl)
     refine WL.val Wanted.none (Runs.pick_f (evb rfl h_53) rfl) ?_
     refine WL.nil (QW.then_n ?_)
     refine CW.cf rfl rfl ?_
     refine CW.exit ?_
     refine QW.then_x ?_
     refine QW.then_x ?_
     refine QW.blk_x ?_
     refine QW.then_n ?_
     refine CW.region ?_
     refine WL.val Wanted.none (Runs.move rfl) ?_
     refine WL.val Wanted.none (Runs.move rfl) ?_
     refine WL.val Wanted.none (Runs.move rfl) ?_
     obtain ⟨⟨p_130, q_131⟩, H⟩ := H
     obtain ⟨x_132, hs_133, hr_134⟩ := hb0.2.2
     obtain ⟨a_135, e_136, ms_137, hc_138, hm_139⟩ := el_get (i := (x_13).toNat) ((hs_133.at st_35 (mem_TR (A := [_, _]) (fun _ h_ => hs_30.1 _ (hs_5.1 _ h_))))) (hr_134.mono (fun _ h_ => hs_30.1 _ (hs_5.1 _ h_))) (fz42 w) (by decide) (by omega)
     obtain ⟨A_140, n_141, c_142, em_144, hb_143⟩ := inv42 hm_139
     replace em_144 : ms_137 = ([.int .u64 ((gx l0 (x_13.toNat)).1)] : Cs) ++ ([.slice A_140 n_141 c_142] : Cs) := em_144
     subst em_144
     refine WL.val Wanted.none (Runs.indexAddr Tryd.underlying40 cells42 (by decide) rfl e_136 rfl p_130 (by rw [show n0 = l0.length from hb0.1]; exact q_131) (o := (x_13.toNat) * 2) (by first | rfl | omega)) ?_
     refine WL.val Wanted.none (Runs.fieldAddrB (off := 0) fld42_0 rfl rfl rfl) ?_
     refine WL.val Wanted.none (Runs.load nagg37 rfl (Src.cellAt (j := 0) (Src.cut ((hs_133.at st_35 (mem_TR (A := [_, _]) (fun _ h_ => hs_30.1 _ (hs_5.1 _ h_))))) e_136 hc_138) rfl)) ?_
     refine WL.val Wanted.none (Runs.move rfl) ?_
     refine WL.val Wanted.none (Runs.build_struct (ps := [(0, 1), (1, 1)]) (cs := (([.int .u64 ((gx l0 (x_13.toNat)).1)] : Cs) ++ ([.slice (some ⟨B_23, 0, none⟩) 159 159] : Cs))) plc42 zero42 rfl (by refine Fills.cons (o := 0) (ms := (([.int .u64 ((gx l0 (x_13.toNat)).1)] : Cs))) (show _ = some (0, (([.int .u64 ((gx l0 (x_13.toNat)).1)] : Cs)).length) by rw [show (([.int .u64 ((gx l0 (x_13.toNat)).1)] : Cs)).length = 1 from (by first | rfl | simp only [List.length_append, List.length_cons, List.length_nil, iv_length])] <;> rfl) rfl (by have h1_ : (([.int .u64 ((gx l0 (x_13.toNat)).1)] : Cs)).length = 1 := (by first | rfl | simp only [List.length_append, List.length_cons, List.length_nil, iv_length]); have h2_ : (([.int .u64 0] : Cs) ++ ([.slice none 0 0] : Cs)).length = 2 := (by first | rfl | simp only [List.length_append, List.length_cons, List.length_nil, iv_length]); omega) ?_; rw [show layV (([.int .u64 0] : Cs) ++ ([.slice none 0 0] : Cs)) 0 (([.int .u64 ((gx l0 (x_13.toNat)).1)] : Cs)) = (([.int .u64 ((gx l0 (x_13.toNat)).1)] : Cs) ++ ([.slice none 0 0] : Cs)) from (layV_mid (pre := (([] : Cs))) (mid := (([.int .u64 0] : Cs))) (post := (([.slice none 0 0] : Cs))) (by first | rfl | simp only [List.append_assoc, List.append_nil, List.nil_append, List.cons_append]) (by first | rfl | simp only [List.length_append, List.length_cons, List.length_nil, iv_length]) (Eq.trans (b := 1) (by first | rfl | simp only [List.length_append, List.length_cons, List.length_nil, iv_length]) (Eq.symm (by first | rfl | simp only [List.length_append, List.length_cons, List.length_nil, iv_length])))).trans (by first | rfl | simp only [List.append_assoc, List.append_nil, List.nil_append, List.cons_append])]; refine Fills.cons (o := 1) (ms := (([.slice (some ⟨B_23, 0, none⟩) 159 159] : Cs))) (show _ = some (1, (([.slice (some ⟨B_23, 0, none⟩) 159 159] : Cs)).length) by rw [show (([.slice (some ⟨B_23, 0, none⟩) 159 159] : Cs)).length = 1 from (by first | rfl | simp only [List.length_append, List.length_cons, List.length_nil, iv_length])] <;> rfl) rfl (by have h1_ : (([.slice (some ⟨B_23, 0, none⟩) 159 159] : Cs)).length = 1 := (by first | rfl | simp only [List.length_append, List.length_cons, List.length_nil, iv_length]); have h2_ : (([.int .u64 ((gx l0 (x_13.toNat)).1)] : Cs) ++ ([.slice none 0 0] : Cs)).length = 2 := (by first | rfl | simp only [List.length_append, List.length_cons, List.length_nil, iv_length]); omega) ?_; rw [show layV (([.int .u64 ((gx l0 (x_13.toNat)).1)] : Cs) ++ ([.slice none 0 0] : Cs)) 1 (([.slice (some ⟨B_23, 0, none⟩) 159 159] : Cs)) = (([.int .u64 ((gx l0 (x_13.toNat)).1)] : Cs) ++ ([.slice (some ⟨B_23, 0, none⟩) 159 159] : Cs)) from (layV_mid (pre := (([.int .u64 ((gx l0 (x_13.toNat)).1)] : Cs))) (mid := (([.slice none 0 0] : Cs))) (post := (([] : Cs))) (by first | rfl | simp only [List.append_assoc, List.append_nil, List.nil_append, List.cons_append]) (by first | rfl | simp only [List.length_append, List.length_cons, List.length_nil, iv_length]) (Eq.trans (b := 1) (by first | rfl | simp only [List.length_append, List.length_cons, List.length_nil, iv_length]) (Eq.symm (by first | rfl | simp only [List.length_append, List.length_cons, List.length_nil, iv_length])))).trans (by first | rfl | simp only [List.append_assoc, List.append_nil, List.nil_append, List.cons_append])]; exact Fills.nil)) ?_
     have hb_149c := st_35.cap (i := 0) rfl
     obtain ⟨T_145, hs_146, hm_147, st_148⟩ := St.freeze (A := []) (B := [_]) (T := T_29) (R := R) st_35
     have hb_149 : HB w T_145 (some ⟨B_23, 0, none⟩) 159 159 (iv .u8 l_31) l_31.length := ⟨hn_32, hb_149c, Hd.of_sl hm_147⟩
     replace st_148 : St w w_34 (.sl A_10 c_11 n_12 x_8 42 2 :: (T_145 ++ R)) := st_148
     obtain ⟨ii_150, z_151, h_152, h_153, h_154, h_155⟩ := slr42_1
     refine WL.buildSlRows (sz := 2) (cs := (([.int .u64 ((gx l0 (x_13.toNat)).1)] : Cs) ++ ([.slice (some ⟨B_23, 0, none⟩) 159 159] : Cs))) st_148 Tryd.underlying40 h_152 h_153 h_154 (by decide) (by decide) h_155 rfl (by refine Fills.cons (o := 0) (ms := (([.int .u64 ((gx l0 (x_13.toNat)).1)] : Cs) ++ ([.slice (some ⟨B_23, 0, none⟩) 159 159] : Cs))) (show _ = some (0, (([.int .u64 ((gx l0 (x_13.toNat)).1)] : Cs) ++ ([.slice (some ⟨B_23, 0, none⟩) 159 159] : Cs)).length) by rw [show (([.int .u64 ((gx l0 (x_13.toNat)).1)] : Cs) ++ ([.slice (some ⟨B_23, 0, none⟩) 159 159] : Cs)).length = 2 from (by first | rfl | simp only [List.length_append, List.length_cons, List.length_nil, iv_length])] <;> rfl) rfl (by have h1_ : (([.int .u64 ((gx l0 (x_13.toNat)).1)] : Cs) ++ ([.slice (some ⟨B_23, 0, none⟩) 159 159] : Cs)).length = 2 := (by first | rfl | simp only [List.length_append, List.length_cons, List.length_nil, iv_length]); have h2_ : (([.int .u64 0] : Cs) ++ ([.slice none 0 0] : Cs)).length = 2 := (by first | rfl | simp only [List.length_append, List.length_cons, List.length_nil, iv_length]); omega) ?_; rw [show layV (([.int .u64 0] : Cs) ++ ([.slice none 0 0] : Cs)) 0 (([.int .u64 ((gx l0 (x_13.toNat)).1)] : Cs) ++ ([.slice (some ⟨B_23, 0, none⟩) 159 159] : Cs)) = (([.int .u64 ((gx l0 (x_13.toNat)).1)] : Cs) ++ ([.slice (some ⟨B_23, 0, none⟩) 159 159] : Cs)) from (layV_mid (pre := (([] : Cs))) (mid := (([.int .u64 0] : Cs) ++ ([.slice none 0 0] : Cs))) (post := (([] : Cs))) (by first | rfl | simp only [List.append_assoc, List.append_nil, List.nil_append, List.cons_append]) (by first | rfl | simp only [List.length_append, List.length_cons, List.length_nil, iv_length]) (Eq.trans (b := 2) (by first | rfl | simp only [List.length_append, List.length_cons, List.length_nil, iv_length]) (Eq.symm (by first | rfl | simp only [List.length_append, List.length_cons, List.length_nil, iv_length])))).trans (by first | rfl | simp only [List.append_assoc, List.append_nil, List.nil_append, List.cons_append])]; exact Fills.nil) ?_
     intro B_156 w_157 st_158
     replace st_158 : St w w_157 (.cells B_156 (([.int .u64 ((gx l0 (x_13.toNat)).1)] : Cs) ++ ([.slice (some ⟨B_23, 0, none⟩) 159 159] : Cs)) 42 :: .sl A_10 c_11 n_12 x_8 42 2 :: (T_145 ++ R)) := st_158
     have st_160 := St.rows_sl (i := 0) (m := 1) (size := 2) st_158 rfl rfl (by decide)
     obtain ⟨x_161, e_162⟩ : ∃ x_ : Cs, x_ = ([.int .u64 ((gx l0 (x_13.toNat)).1)] : Cs) ++ ([.slice (some ⟨B_23, 0, none⟩) 159 159] : Cs) := ⟨_, rfl⟩
     have hx_163 : HRs T_145 (f42 w) x_161 ([((gx l0 (x_13.toNat)).1, l_31)] : List R42) := by rw [e_162]; exact (HRs.one (.cons rfl (.cons ⟨_, _, _, rfl, hb_149⟩ .nil)))
     replace st_160 : St w w_157 (.sl (some ⟨B_156, 0, none⟩) 1 1 x_161 42 2 :: .sl A_10 c_11 n_12 x_8 42 2 :: (T_145 ++ R)) := by rw [e_162]; exact st_160
     obtain ⟨m_164, e_165, H⟩ := H
     obtain ⟨z_166, H⟩ := H
     obtain ⟨n_169, hn_172⟩ : ∃ n_ : Nat, n_ = m_164.length := ⟨_, rfl⟩
     refine WL.appendR (i := 1) (N := n_169) (news := x_161) Wanted.none st_160 rfl Tryd.underlying40 elemS42 rfl rfl (st_160.src_sl (k := 0) rfl) (by have h1_ := (hx_163).length (fz42 w); have h2_ : 1 = ([((gx l0 (x_13.toNat)).1, l_31)] : List R42).length := rfl; rw [h1_, h2_]) (HLs.one hx_163) (by decide) (by have h1_ : n_12 = l_6.length := hn_7; have h2_ : 1 = ([((gx l0 (x_13.toNat)).1, l_31)] : List R42).length := rfl; rw [hn_172, e_165, List.length_append]; omega) (by rw [hn_172]; exact z_166) ?_
     intro A_167 c_168 w_170 st_171
     obtain ⟨x_173, e_174⟩ : ∃ x_ : Cs, x_ = x_8 ++ x_161 := ⟨_, rfl⟩
     have hx_175 : HRs T_145 (f42 w) x_173 m_164 := by rw [e_174, e_165]; exact HRs.append (hx_9.mono (fun _ h_ => hs_146.1 _ (hs_30.1 _ h_))) hx_163
     replace st_171 : St w w_170 (.sl (some ⟨B_156, 0, none⟩) 1 1 x_161 42 2 :: .sl A_167 c_168 n_169 x_173 42 2 :: (T_145 ++ R)) := by rw [e_174]; exact st_171
     refine WL.val Wanted.none (Runs.assign rfl) ?_
     refine WL.nil ?_
     refine QW.blk_n ?_
     refine QW.then_n ?_
     refine CW.region ?_
     refine WL.val Wanted.none (Runs.move rfl) ?_
     refine WL.val Wanted.none (Runs.add rfl rfl rfl) ?_
     refine WL.val Wanted.none (Runs.assign rfl) ?_
     refine WL.nil ?_
     have st_171' := (St.pickT (L := [_, _]) st_171 [1] (by decide))
     exact QW.at _ (by repeat' constructor) ⟨T_145, A_167, c_168, n_169, x_173, m_164, IntKind.i64.wrap (x_13 + 1), rfl, H, ((hs_5.trans hs_30).trans hs_146), hn_172, hx_175, st_171'⟩
   ·have h_22 : (x_13 == 1) = false := (beq_eq_false_iff_ne.mpr c_21)
    refine CW.cf rfl h_22 ?_
    refine CW.skip ?_
    refine QW.then_n ?_
    refine CW.seq (CW.region ?_)
    refine WL.val Wanted.none (Runs.move rfl) ?_
    refine WL.make st_15 Tryd.underlying25 elem5 rfl rfl (by decide) (by decide) (by decide) (N := 160) rfl ?_
    intro B_176 w_177 st_178
    replace st_178 : St w w_177 (.sl (some ⟨B_176, 0, none⟩) 160 160 (iv .u8 (List.replicate 160 (0 : Int))) 5 1 :: .sl A_10 c_11 n_12 x_8 42 2 :: (T_4 ++ R)) := by rw [iv_replicate] at st_178; exact st_178
    have hn_179 : 160 = (List.replicate 160 (0 : Int)).length := by simp
    refine WL.val Wanted.none (Runs.assign rfl) ?_
    refine WL.nil (QW.then_n ?_)
    refine CW.seq ?_
    refine CW.seq (CW.region ?_)
    refine WL.val Wanted.none (Runs.assign rfl) ?_
    refine WL.nil (QW.then_n ?_)
    refine CW.block ?_
    obtain ⟨k_181, H⟩ := H
    refine CW.sub [(0, .slice A0 n0 c0), (1, .bool a1), (4, .slice none 0 0), (5, .slice A_10 n_12 c_11), (6, .int .i64 x_13), (10, .int .i64 x_13), (11, .slice A0 n0 c0), (12, .int .i64 (l0.length : Int)), (13, .bool (decide (x_13 < (l0.length : Int)))), (7, .int .i64 160), (16, .bool a1), (17, .bool a1), (18, .int .i64 x_13), (19, .bool (x_13 == 1)), (20, .bool (x_13 == 1)), (21, .int .i64 160), (22, .slice (some ⟨B_176, 0, none⟩) 160 160), (8, .slice (some ⟨B_176, 0, none⟩) 160 160), (9, .int .i64 0)] (by repeat' constructor) ?_
    refine CW.loop (fun kL3 l_ w_ => ∃ (T_182 : Pool) (l_184 : List Int) (x_186 : Int), l_ = [(0, .slice A0 n0 c0), (1, .bool a1), (4, .slice none 0 0), (5, .slice A_10 n_12 c_11), (6, .int .i64 x_13), (10, .int .i64 x_13), (11, .slice A0 n0 c0), (12, .int .i64 (l0.length : Int)), (13, .bool (decide (x_13 < (l0.length : Int)))), (7, .int .i64 160), (16, .bool a1), (17, .bool a1), (18, .int .i64 x_13), (19, .bool (x_13 == 1)), (20, .bool (x_13 == 1)), (21, .int .i64 160), (22, .slice (some ⟨B_176, 0, none⟩) 160 160), (8, .slice (some ⟨B_176, 0, none⟩) 160 160), (9, .int .i64 x_186)] ∧ reliquarylaw13_images.L3 l0 l_6 x_13 (reliquarylaw13_images.L1 l0 a1 lr0 kL1) kL3 l_184 x_186 ∧ (Pl T_4 T_182) ∧ (160 = l_184.length) ∧ St w w_ (.sl (some ⟨B_176, 0, none⟩) 160 160 (iv .u8 l_184) 5 1 :: .sl A_10 c_11 n_12 x_8 42 2 :: (T_182 ++ R))) (k := k_181) ⟨T_4, List.replicate 160 (0 : Int), 0, rfl, H, Pl.refl, hn_179, st_178⟩ (fun _ _ h => by obtain ⟨_, _, _, _, h, _⟩ := h; exact h.elim) ?_
    rintro kL3 l_189 w_187 ⟨T_182, l_184, x_186, rfl, H, hs_183, hn_185, st_188⟩
    refine CW.seq ?_
    refine CW.seq (CW.region ?_)
    refine WL.val Wanted.none (Runs.move rfl) ?_
    refine WL.val Wanted.none (Runs.move rfl) ?_
    refine WL.val Wanted.none (Runs.move rfl) ?_
    obtain ⟨⟨p_190, q_191⟩, H⟩ := H
    obtain ⟨x_192, hs_193, hr_194⟩ := hb0.2.2
    obtain ⟨a_195, e_196, ms_197, hc_198, hm_199⟩ := el_get (i := (x_13).toNat) ((hs_193.at st_188 (mem_TR (A := [_, _]) (fun _ h_ => hs_183.1 _ (hs_5.1 _ h_))))) (hr_194.mono (fun _ h_ => hs_183.1 _ (hs_5.1 _ h_))) (fz42 w) (by decide) (by omega)
    obtain ⟨A_200, n_201, c_202, em_204, hb_203⟩ := inv42 hm_199
    replace em_204 : ms_197 = ([.int .u64 ((gx l0 (x_13.toNat)).1)] : Cs) ++ ([.slice A_200 n_201 c_202] : Cs) := em_204
    subst em_204
    refine WL.val Wanted.none (Runs.indexAddr Tryd.underlying40 cells42 (by decide) rfl e_196 rfl p_190 (by rw [show n0 = l0.length from hb0.1]; exact q_191) (o := (x_13.toNat) * 2) (by first | rfl | omega)) ?_
    refine WL.val Wanted.none (Runs.fieldAddrB (off := 1) fld42_1 rfl rfl rfl) ?_
    refine WL.val Wanted.none (Runs.load nagg25 rfl (Src.cellAt (j := 1) (Src.cut ((hs_193.at st_188 (mem_TR (A := [_, _]) (fun _ h_ => hs_183.1 _ (hs_5.1 _ h_))))) e_196 hc_198) rfl)) ?_
    refine WL.val Wanted.none (Runs.len_sl Tryd.underlying25 rfl (by rw [hb_203.1])) ?_
    refine WL.val Wanted.none (Runs.lss rfl rfl rfl) ?_
    refine WL.val Wanted.none (Runs.move rfl) ?_
    rcases H with ⟨c_205, H⟩ | ⟨c_205, H⟩
    ·have h_206 : (decide (x_186 < (((gx l0 (x_13.toNat)).2).length : Int))) = true := (decide_eq_true c_205)
     refine WL.on ?_ ?_; exact Wanted.guard (dj := 31) (by rfl) (evb (by rfl) h_206) (by rfl)
     refine WL.val Wanted.none (Runs.move rfl) ?_
     refine WL.on ?_ ?_; exact Wanted.guard (dj := 31) (by rfl) (evb (by rfl) h_206) (by rfl)
     refine WL.val Wanted.none (Runs.move rfl) ?_
     refine WL.on ?_ ?_; exact Wanted.guard (dj := 31) (by rfl) (evb (by rfl) h_206) (by rfl)
     refine WL.val Wanted.none (Runs.lss rfl rfl rfl) ?_
     refine WL.val Wanted.none (Runs.pick_t (evb rfl h_206) rfl) ?_
     refine WL.nil (QW.then_n ?_)
     rcases H with ⟨c_207, H⟩ | ⟨c_207, H⟩
     ·have h_208 : (decide (x_186 < 160)) = true := (decide_eq_true c_207)
      refine CW.ct rfl h_208 ?_
      refine CW.skip ?_
      refine QW.then_n ?_
      refine CW.seq ?_
      refine CW.block ?_
      refine CW.region ?_
      refine WL.val Wanted.none (Runs.move rfl) ?_
      refine WL.val Wanted.none (Runs.move rfl) ?_
      refine WL.val Wanted.none (Runs.move rfl) ?_
      refine WL.val Wanted.none (Runs.move rfl) ?_
      obtain ⟨⟨p_209, q_210⟩, H⟩ := H
      obtain ⟨x_211, hs_212, hr_213⟩ := hb0.2.2
      obtain ⟨a_214, e_215, ms_216, hc_217, hm_218⟩ := el_get (i := (x_13).toNat) ((hs_212.at st_188 (mem_TR (A := [_, _]) (fun _ h_ => hs_183.1 _ (hs_5.1 _ h_))))) (hr_213.mono (fun _ h_ => hs_183.1 _ (hs_5.1 _ h_))) (fz42 w) (by decide) (by omega)
      obtain ⟨A_219, n_220, c_221, em_223, hb_222⟩ := inv42 hm_218
      replace em_223 : ms_216 = ([.int .u64 ((gx l0 (x_13.toNat)).1)] : Cs) ++ ([.slice A_219 n_220 c_221] : Cs) := em_223
      subst em_223
      refine WL.val Wanted.none (Runs.indexAddr Tryd.underlying40 cells42 (by decide) rfl e_215 rfl p_209 (by rw [show n0 = l0.length from hb0.1]; exact q_210) (o := (x_13.toNat) * 2) (by first | rfl | omega)) ?_
      refine WL.val Wanted.none (Runs.fieldAddrB (off := 1) fld42_1 rfl rfl rfl) ?_
      refine WL.val Wanted.none (Runs.load nagg25 rfl (Src.cellAt (j := 1) (Src.cut ((hs_212.at st_188 (mem_TR (A := [_, _]) (fun _ h_ => hs_183.1 _ (hs_5.1 _ h_))))) e_215 hc_217) rfl)) ?_
      refine WL.val Wanted.none (Runs.move rfl) ?_
      obtain ⟨⟨p_224, q_225⟩, H⟩ := H
      obtain ⟨a_226, e_227⟩ := ((hb_222.2.2.at st_188 (mem_T (A := [_, _]) (fun _ h_ => h_)))).addr_iv (x_186.toNat) (by omega)
      refine WL.val Wanted.none (Runs.indexAddr Tryd.underlying25 cells5 (by decide) rfl e_227 rfl p_224 (by rw [hb_222.1]; exact q_225) (o := (x_186).toNat) (by first | rfl | omega)) ?_
      refine WL.val Wanted.none (Runs.load nagg5 rfl (((hb_222.2.2.at st_188 (mem_T (A := [_, _]) (fun _ h_ => h_)))).cell_iv e_227 (by omega))) ?_
      obtain ⟨⟨p_228, q_229⟩, H⟩ := H
      obtain ⟨a_230, e_231⟩ := (st_188.src_sl (k := 0) rfl).addr_iv (x_186.toNat) (by omega)
      refine WL.val Wanted.none (Runs.indexAddr Tryd.underlying25 cells5 (by decide) rfl e_231 rfl p_228 (by rw [hn_185]; exact q_229) (o := (x_186).toNat) (by first | rfl | omega)) ?_
      obtain ⟨m_232, e_233, H⟩ := H
      refine WL.store_sl (i := 0) st_188 rfl cells5 rfl e_231 (by rw [iv_length]; omega) rfl rfl ?_
      intro w_234 st_235
      have hn_236 : 160 = m_232.length := by rw [e_233, List.length_set]; exact hn_185
      have st_235' : St w w_234 (.sl (some ⟨B_176, 0, none⟩) 160 160 (iv .u8 m_232) 5 1 :: .sl A_10 c_11 n_12 x_8 42 2 :: (T_182 ++ R)) := by rw [e_233, ← iv_set .u8 l_184 (x_186.toNat) (gn ((gx l0 (x_13.toNat)).2) (x_186.toNat))]; exact st_235
      refine WL.nil ?_
      refine QW.blk_n ?_
      refine QW.then_n ?_
      refine CW.region ?_
      refine WL.val Wanted.none (Runs.move rfl) ?_
      refine WL.val Wanted.none (Runs.add rfl rfl rfl) ?_
      refine WL.val Wanted.none (Runs.assign rfl) ?_
      refine WL.nil ?_
      exact QW.at _ (by repeat' constructor) ⟨T_182, m_232, IntKind.i64.wrap (x_186 + 1), rfl, H, hs_183, hn_236, st_235'⟩
     ·have h_208 : (decide (x_186 < 160)) = false := (decide_eq_false c_207)
      refine CW.cf rfl h_208 ?_
      refine CW.exit ?_
      refine QW.then_x ?_
      refine QW.then_x ?_
      refine QW.blk_x ?_
      refine QW.then_n ?_
      refine CW.region ?_
      refine WL.val Wanted.none (Runs.move rfl) ?_
      refine WL.val Wanted.none (Runs.move rfl) ?_
      refine WL.val Wanted.none (Runs.move rfl) ?_
      obtain ⟨⟨p_237, q_238⟩, H⟩ := H
      obtain ⟨x_239, hs_240, hr_241⟩ := hb0.2.2
      obtain ⟨a_242, e_243, ms_244, hc_245, hm_246⟩ := el_get (i := (x_13).toNat) ((hs_240.at st_188 (mem_TR (A := [_, _]) (fun _ h_ => hs_183.1 _ (hs_5.1 _ h_))))) (hr_241.mono (fun _ h_ => hs_183.1 _ (hs_5.1 _ h_))) (fz42 w) (by decide) (by omega)
      obtain ⟨A_247, n_248, c_249, em_251, hb_250⟩ := inv42 hm_246
      replace em_251 : ms_244 = ([.int .u64 ((gx l0 (x_13.toNat)).1)] : Cs) ++ ([.slice A_247 n_248 c_249] : Cs) := em_251
      subst em_251
      refine WL.val Wanted.none (Runs.indexAddr Tryd.underlying40 cells42 (by decide) rfl e_243 rfl p_237 (by rw [show n0 = l0.length from hb0.1]; exact q_238) (o := (x_13.toNat) * 2) (by first | rfl | omega)) ?_
      refine WL.val Wanted.none (Runs.fieldAddrB (off := 0) fld42_0 rfl rfl rfl) ?_
      refine WL.val Wanted.none (Runs.load nagg37 rfl (Src.cellAt (j := 0) (Src.cut ((hs_240.at st_188 (mem_TR (A := [_, _]) (fun _ h_ => hs_183.1 _ (hs_5.1 _ h_))))) e_243 hc_245) rfl)) ?_
      refine WL.val Wanted.none (Runs.move rfl) ?_
      refine WL.val Wanted.none (Runs.build_struct (ps := [(0, 1), (1, 1)]) (cs := (([.int .u64 ((gx l0 (x_13.toNat)).1)] : Cs) ++ ([.slice (some ⟨B_176, 0, none⟩) 160 160] : Cs))) plc42 zero42 rfl (by refine Fills.cons (o := 0) (ms := (([.int .u64 ((gx l0 (x_13.toNat)).1)] : Cs))) (show _ = some (0, (([.int .u64 ((gx l0 (x_13.toNat)).1)] : Cs)).length) by rw [show (([.int .u64 ((gx l0 (x_13.toNat)).1)] : Cs)).length = 1 from (by first | rfl | simp only [List.length_append, List.length_cons, List.length_nil, iv_length])] <;> rfl) rfl (by have h1_ : (([.int .u64 ((gx l0 (x_13.toNat)).1)] : Cs)).length = 1 := (by first | rfl | simp only [List.length_append, List.length_cons, List.length_nil, iv_length]); have h2_ : (([.int .u64 0] : Cs) ++ ([.slice none 0 0] : Cs)).length = 2 := (by first | rfl | simp only [List.length_append, List.length_cons, List.length_nil, iv_length]); omega) ?_; rw [show layV (([.int .u64 0] : Cs) ++ ([.slice none 0 0] : Cs)) 0 (([.int .u64 ((gx l0 (x_13.toNat)).1)] : Cs)) = (([.int .u64 ((gx l0 (x_13.toNat)).1)] : Cs) ++ ([.slice none 0 0] : Cs)) from (layV_mid (pre := (([] : Cs))) (mid := (([.int .u64 0] : Cs))) (post := (([.slice none 0 0] : Cs))) (by first | rfl | simp only [List.append_assoc, List.append_nil, List.nil_append, List.cons_append]) (by first | rfl | simp only [List.length_append, List.length_cons, List.length_nil, iv_length]) (Eq.trans (b := 1) (by first | rfl | simp only [List.length_append, List.length_cons, List.length_nil, iv_length]) (Eq.symm (by first | rfl | simp only [List.length_append, List.length_cons, List.length_nil, iv_length])))).trans (by first | rfl | simp only [List.append_assoc, List.append_nil, List.nil_append, List.cons_append])]; refine Fills.cons (o := 1) (ms := (([.slice (some ⟨B_176, 0, none⟩) 160 160] : Cs))) (show _ = some (1, (([.slice (some ⟨B_176, 0, none⟩) 160 160] : Cs)).length) by rw [show (([.slice (some ⟨B_176, 0, none⟩) 160 160] : Cs)).length = 1 from (by first | rfl | simp only [List.length_append, List.length_cons, List.length_nil, iv_length])] <;> rfl) rfl (by have h1_ : (([.slice (some ⟨B_176, 0, none⟩) 160 160] : Cs)).length = 1 := (by first | rfl | simp only [List.length_append, List.length_cons, List.length_nil, iv_length]); have h2_ : (([.int .u64 ((gx l0 (x_13.toNat)).1)] : Cs) ++ ([.slice none 0 0] : Cs)).length = 2 := (by first | rfl | simp only [List.length_append, List.length_cons, List.length_nil, iv_length]); omega) ?_; rw [show layV (([.int .u64 ((gx l0 (x_13.toNat)).1)] : Cs) ++ ([.slice none 0 0] : Cs)) 1 (([.slice (some ⟨B_176, 0, none⟩) 160 160] : Cs)) = (([.int .u64 ((gx l0 (x_13.toNat)).1)] : Cs) ++ ([.slice (some ⟨B_176, 0, none⟩) 160 160] : Cs)) from (layV_mid (pre := (([.int .u64 ((gx l0 (x_13.toNat)).1)] : Cs))) (mid := (([.slice none 0 0] : Cs))) (post := (([] : Cs))) (by first | rfl | simp only [List.append_assoc, List.append_nil, List.nil_append, List.cons_append]) (by first | rfl | simp only [List.length_append, List.length_cons, List.length_nil, iv_length]) (Eq.trans (b := 1) (by first | rfl | simp only [List.length_append, List.length_cons, List.length_nil, iv_length]) (Eq.symm (by first | rfl | simp only [List.length_append, List.length_cons, List.length_nil, iv_length])))).trans (by first | rfl | simp only [List.append_assoc, List.append_nil, List.nil_append, List.cons_append])]; exact Fills.nil)) ?_
      have hb_256c := st_188.cap (i := 0) rfl
      obtain ⟨T_252, hs_253, hm_254, st_255⟩ := St.freeze (A := []) (B := [_]) (T := T_182) (R := R) st_188
      have hb_256 : HB w T_252 (some ⟨B_176, 0, none⟩) 160 160 (iv .u8 l_184) l_184.length := ⟨hn_185, hb_256c, Hd.of_sl hm_254⟩
      replace st_255 : St w w_187 (.sl A_10 c_11 n_12 x_8 42 2 :: (T_252 ++ R)) := st_255
      obtain ⟨ii_257, z_258, h_259, h_260, h_261, h_262⟩ := slr42_1
      refine WL.buildSlRows (sz := 2) (cs := (([.int .u64 ((gx l0 (x_13.toNat)).1)] : Cs) ++ ([.slice (some ⟨B_176, 0, none⟩) 160 160] : Cs))) st_255 Tryd.underlying40 h_259 h_260 h_261 (by decide) (by decide) h_262 rfl (by refine Fills.cons (o := 0) (ms := (([.int .u64 ((gx l0 (x_13.toNat)).1)] : Cs) ++ ([.slice (some ⟨B_176, 0, none⟩) 160 160] : Cs))) (show _ = some (0, (([.int .u64 ((gx l0 (x_13.toNat)).1)] : Cs) ++ ([.slice (some ⟨B_176, 0, none⟩) 160 160] : Cs)).length) by rw [show (([.int .u64 ((gx l0 (x_13.toNat)).1)] : Cs) ++ ([.slice (some ⟨B_176, 0, none⟩) 160 160] : Cs)).length = 2 from (by first | rfl | simp only [List.length_append, List.length_cons, List.length_nil, iv_length])] <;> rfl) rfl (by have h1_ : (([.int .u64 ((gx l0 (x_13.toNat)).1)] : Cs) ++ ([.slice (some ⟨B_176, 0, none⟩) 160 160] : Cs)).length = 2 := (by first | rfl | simp only [List.length_append, List.length_cons, List.length_nil, iv_length]); have h2_ : (([.int .u64 0] : Cs) ++ ([.slice none 0 0] : Cs)).length = 2 := (by first | rfl | simp only [List.length_append, List.length_cons, List.length_nil, iv_length]); omega) ?_; rw [show layV (([.int .u64 0] : Cs) ++ ([.slice none 0 0] : Cs)) 0 (([.int .u64 ((gx l0 (x_13.toNat)).1)] : Cs) ++ ([.slice (some ⟨B_176, 0, none⟩) 160 160] : Cs)) = (([.int .u64 ((gx l0 (x_13.toNat)).1)] : Cs) ++ ([.slice (some ⟨B_176, 0, none⟩) 160 160] : Cs)) from (layV_mid (pre := (([] : Cs))) (mid := (([.int .u64 0] : Cs) ++ ([.slice none 0 0] : Cs))) (post := (([] : Cs))) (by first | rfl | simp only [List.append_assoc, List.append_nil, List.nil_append, List.cons_append]) (by first | rfl | simp only [List.length_append, List.length_cons, List.length_nil, iv_length]) (Eq.trans (b := 2) (by first | rfl | simp only [List.length_append, List.length_cons, List.length_nil, iv_length]) (Eq.symm (by first | rfl | simp only [List.length_append, List.length_cons, List.length_nil, iv_length])))).trans (by first | rfl | simp only [List.append_assoc, List.append_nil, List.nil_append, List.cons_append])]; exact Fills.nil) ?_
      intro B_263 w_264 st_265
      replace st_265 : St w w_264 (.cells B_263 (([.int .u64 ((gx l0 (x_13.toNat)).1)] : Cs) ++ ([.slice (some ⟨B_176, 0, none⟩) 160 160] : Cs)) 42 :: .sl A_10 c_11 n_12 x_8 42 2 :: (T_252 ++ R)) := st_265
      have st_267 := St.rows_sl (i := 0) (m := 1) (size := 2) st_265 rfl rfl (by decide)
      obtain ⟨x_268, e_269⟩ : ∃ x_ : Cs, x_ = ([.int .u64 ((gx l0 (x_13.toNat)).1)] : Cs) ++ ([.slice (some ⟨B_176, 0, none⟩) 160 160] : Cs) := ⟨_, rfl⟩
      have hx_270 : HRs T_252 (f42 w) x_268 ([((gx l0 (x_13.toNat)).1, l_184)] : List R42) := by rw [e_269]; exact (HRs.one (.cons rfl (.cons ⟨_, _, _, rfl, hb_256⟩ .nil)))
      replace st_267 : St w w_264 (.sl (some ⟨B_263, 0, none⟩) 1 1 x_268 42 2 :: .sl A_10 c_11 n_12 x_8 42 2 :: (T_252 ++ R)) := by rw [e_269]; exact st_267
      obtain ⟨m_271, e_272, H⟩ := H
      obtain ⟨z_273, H⟩ := H
      obtain ⟨n_276, hn_279⟩ : ∃ n_ : Nat, n_ = m_271.length := ⟨_, rfl⟩
      refine WL.appendR (i := 1) (N := n_276) (news := x_268) Wanted.none st_267 rfl Tryd.underlying40 elemS42 rfl rfl (st_267.src_sl (k := 0) rfl) (by have h1_ := (hx_270).length (fz42 w); have h2_ : 1 = ([((gx l0 (x_13.toNat)).1, l_184)] : List R42).length := rfl; rw [h1_, h2_]) (HLs.one hx_270) (by decide) (by have h1_ : n_12 = l_6.length := hn_7; have h2_ : 1 = ([((gx l0 (x_13.toNat)).1, l_184)] : List R42).length := rfl; rw [hn_279, e_272, List.length_append]; omega) (by rw [hn_279]; exact z_273) ?_
      intro A_274 c_275 w_277 st_278
      obtain ⟨x_280, e_281⟩ : ∃ x_ : Cs, x_ = x_8 ++ x_268 := ⟨_, rfl⟩
      have hx_282 : HRs T_252 (f42 w) x_280 m_271 := by rw [e_281, e_272]; exact HRs.append (hx_9.mono (fun _ h_ => hs_253.1 _ (hs_183.1 _ h_))) hx_270
      replace st_278 : St w w_277 (.sl (some ⟨B_263, 0, none⟩) 1 1 x_268 42 2 :: .sl A_274 c_275 n_276 x_280 42 2 :: (T_252 ++ R)) := by rw [e_281]; exact st_278
      refine WL.val Wanted.none (Runs.assign rfl) ?_
      refine WL.nil ?_
      refine QW.blk_n ?_
      refine QW.then_n ?_
      refine CW.region ?_
      refine WL.val Wanted.none (Runs.move rfl) ?_
      refine WL.val Wanted.none (Runs.add rfl rfl rfl) ?_
      refine WL.val Wanted.none (Runs.assign rfl) ?_
      refine WL.nil ?_
      have st_278' := (St.pickT (L := [_, _]) st_278 [1] (by decide))
      exact QW.at _ (by repeat' constructor) ⟨T_252, A_274, c_275, n_276, x_280, m_271, IntKind.i64.wrap (x_13 + 1), rfl, H, ((hs_5.trans hs_183).trans hs_253), hn_279, hx_282, st_278'⟩
    ·have h_206 : (decide (x_186 < (((gx l0 (x_13.toNat)).2).length : Int))) = false := (decide_eq_false c_205)
     refine WL.off ?_ ?_; exact Wanted.guard (dj := 31) (by rfl) (evb (by rfl) h_206) (by rfl)
     refine WL.off ?_ ?_; exact Wanted.guard (dj := 31) (by rfl) (evb (by rfl) h_206) (by rfl)
     refine WL.off ?_ ?_; exact Wanted.guard (dj := 31) (by rfl) (evb (by rfl) h_206) (by rfl)
     refine WL.val Wanted.none (Runs.pick_f (evb rfl h_206) rfl) ?_
     refine WL.nil (QW.then_n ?_)
     refine CW.cf rfl rfl ?_
     refine CW.exit ?_
     refine QW.then_x ?_
     refine QW.then_x ?_
     refine QW.blk_x ?_
     refine QW.then_n ?_
     refine CW.region ?_
     refine WL.val Wanted.none (Runs.move rfl) ?_
     refine WL.val Wanted.none (Runs.move rfl) ?_
     refine WL.val Wanted.none (Runs.move rfl) ?_
     obtain ⟨⟨p_283, q_284⟩, H⟩ := H
     obtain ⟨x_285, hs_286, hr_287⟩ := hb0.2.2
     obtain ⟨a_288, e_289, ms_290, hc_291, hm_292⟩ := el_get (i := (x_13).toNat) ((hs_286.at st_188 (mem_TR (A := [_, _]) (fun _ h_ => hs_183.1 _ (hs_5.1 _ h_))))) (hr_287.mono (fun _ h_ => hs_183.1 _ (hs_5.1 _ h_))) (fz42 w) (by decide) (by omega)
     obtain ⟨A_293, n_294, c_295, em_297, hb_296⟩ := inv42 hm_292
     replace em_297 : ms_290 = ([.int .u64 ((gx l0 (x_13.toNat)).1)] : Cs) ++ ([.slice A_293 n_294 c_295] : Cs) := em_297
     subst em_297
     refine WL.val Wanted.none (Runs.indexAddr Tryd.underlying40 cells42 (by decide) rfl e_289 rfl p_283 (by rw [show n0 = l0.length from hb0.1]; exact q_284) (o := (x_13.toNat) * 2) (by first | rfl | omega)) ?_
     refine WL.val Wanted.none (Runs.fieldAddrB (off := 0) fld42_0 rfl rfl rfl) ?_
     refine WL.val Wanted.none (Runs.load nagg37 rfl (Src.cellAt (j := 0) (Src.cut ((hs_286.at st_188 (mem_TR (A := [_, _]) (fun _ h_ => hs_183.1 _ (hs_5.1 _ h_))))) e_289 hc_291) rfl)) ?_
     refine WL.val Wanted.none (Runs.move rfl) ?_
     refine WL.val Wanted.none (Runs.build_struct (ps := [(0, 1), (1, 1)]) (cs := (([.int .u64 ((gx l0 (x_13.toNat)).1)] : Cs) ++ ([.slice (some ⟨B_176, 0, none⟩) 160 160] : Cs))) plc42 zero42 rfl (by refine Fills.cons (o := 0) (ms := (([.int .u64 ((gx l0 (x_13.toNat)).1)] : Cs))) (show _ = some (0, (([.int .u64 ((gx l0 (x_13.toNat)).1)] : Cs)).length) by rw [show (([.int .u64 ((gx l0 (x_13.toNat)).1)] : Cs)).length = 1 from (by first | rfl | simp only [List.length_append, List.length_cons, List.length_nil, iv_length])] <;> rfl) rfl (by have h1_ : (([.int .u64 ((gx l0 (x_13.toNat)).1)] : Cs)).length = 1 := (by first | rfl | simp only [List.length_append, List.length_cons, List.length_nil, iv_length]); have h2_ : (([.int .u64 0] : Cs) ++ ([.slice none 0 0] : Cs)).length = 2 := (by first | rfl | simp only [List.length_append, List.length_cons, List.length_nil, iv_length]); omega) ?_; rw [show layV (([.int .u64 0] : Cs) ++ ([.slice none 0 0] : Cs)) 0 (([.int .u64 ((gx l0 (x_13.toNat)).1)] : Cs)) = (([.int .u64 ((gx l0 (x_13.toNat)).1)] : Cs) ++ ([.slice none 0 0] : Cs)) from (layV_mid (pre := (([] : Cs))) (mid := (([.int .u64 0] : Cs))) (post := (([.slice none 0 0] : Cs))) (by first | rfl | simp only [List.append_assoc, List.append_nil, List.nil_append, List.cons_append]) (by first | rfl | simp only [List.length_append, List.length_cons, List.length_nil, iv_length]) (Eq.trans (b := 1) (by first | rfl | simp only [List.length_append, List.length_cons, List.length_nil, iv_length]) (Eq.symm (by first | rfl | simp only [List.length_append, List.length_cons, List.length_nil, iv_length])))).trans (by first | rfl | simp only [List.append_assoc, List.append_nil, List.nil_append, List.cons_append])]; refine Fills.cons (o := 1) (ms := (([.slice (some ⟨B_176, 0, none⟩) 160 160] : Cs))) (show _ = some (1, (([.slice (some ⟨B_176, 0, none⟩) 160 160] : Cs)).length) by rw [show (([.slice (some ⟨B_176, 0, none⟩) 160 160] : Cs)).length = 1 from (by first | rfl | simp only [List.length_append, List.length_cons, List.length_nil, iv_length])] <;> rfl) rfl (by have h1_ : (([.slice (some ⟨B_176, 0, none⟩) 160 160] : Cs)).length = 1 := (by first | rfl | simp only [List.length_append, List.length_cons, List.length_nil, iv_length]); have h2_ : (([.int .u64 ((gx l0 (x_13.toNat)).1)] : Cs) ++ ([.slice none 0 0] : Cs)).length = 2 := (by first | rfl | simp only [List.length_append, List.length_cons, List.length_nil, iv_length]); omega) ?_; rw [show layV (([.int .u64 ((gx l0 (x_13.toNat)).1)] : Cs) ++ ([.slice none 0 0] : Cs)) 1 (([.slice (some ⟨B_176, 0, none⟩) 160 160] : Cs)) = (([.int .u64 ((gx l0 (x_13.toNat)).1)] : Cs) ++ ([.slice (some ⟨B_176, 0, none⟩) 160 160] : Cs)) from (layV_mid (pre := (([.int .u64 ((gx l0 (x_13.toNat)).1)] : Cs))) (mid := (([.slice none 0 0] : Cs))) (post := (([] : Cs))) (by first | rfl | simp only [List.append_assoc, List.append_nil, List.nil_append, List.cons_append]) (by first | rfl | simp only [List.length_append, List.length_cons, List.length_nil, iv_length]) (Eq.trans (b := 1) (by first | rfl | simp only [List.length_append, List.length_cons, List.length_nil, iv_length]) (Eq.symm (by first | rfl | simp only [List.length_append, List.length_cons, List.length_nil, iv_length])))).trans (by first | rfl | simp only [List.append_assoc, List.append_nil, List.nil_append, List.cons_append])]; exact Fills.nil)) ?_
     have hb_302c := st_188.cap (i := 0) rfl
     obtain ⟨T_298, hs_299, hm_300, st_301⟩ := St.freeze (A := []) (B := [_]) (T := T_182) (R := R) st_188
     have hb_302 : HB w T_298 (some ⟨B_176, 0, none⟩) 160 160 (iv .u8 l_184) l_184.length := ⟨hn_185, hb_302c, Hd.of_sl hm_300⟩
     replace st_301 : St w w_187 (.sl A_10 c_11 n_12 x_8 42 2 :: (T_298 ++ R)) := st_301
     obtain ⟨ii_303, z_304, h_305, h_306, h_307, h_308⟩ := slr42_1
     refine WL.buildSlRows (sz := 2) (cs := (([.int .u64 ((gx l0 (x_13.toNat)).1)] : Cs) ++ ([.slice (some ⟨B_176, 0, none⟩) 160 160] : Cs))) st_301 Tryd.underlying40 h_305 h_306 h_307 (by decide) (by decide) h_308 rfl (by refine Fills.cons (o := 0) (ms := (([.int .u64 ((gx l0 (x_13.toNat)).1)] : Cs) ++ ([.slice (some ⟨B_176, 0, none⟩) 160 160] : Cs))) (show _ = some (0, (([.int .u64 ((gx l0 (x_13.toNat)).1)] : Cs) ++ ([.slice (some ⟨B_176, 0, none⟩) 160 160] : Cs)).length) by rw [show (([.int .u64 ((gx l0 (x_13.toNat)).1)] : Cs) ++ ([.slice (some ⟨B_176, 0, none⟩) 160 160] : Cs)).length = 2 from (by first | rfl | simp only [List.length_append, List.length_cons, List.length_nil, iv_length])] <;> rfl) rfl (by have h1_ : (([.int .u64 ((gx l0 (x_13.toNat)).1)] : Cs) ++ ([.slice (some ⟨B_176, 0, none⟩) 160 160] : Cs)).length = 2 := (by first | rfl | simp only [List.length_append, List.length_cons, List.length_nil, iv_length]); have h2_ : (([.int .u64 0] : Cs) ++ ([.slice none 0 0] : Cs)).length = 2 := (by first | rfl | simp only [List.length_append, List.length_cons, List.length_nil, iv_length]); omega) ?_; rw [show layV (([.int .u64 0] : Cs) ++ ([.slice none 0 0] : Cs)) 0 (([.int .u64 ((gx l0 (x_13.toNat)).1)] : Cs) ++ ([.slice (some ⟨B_176, 0, none⟩) 160 160] : Cs)) = (([.int .u64 ((gx l0 (x_13.toNat)).1)] : Cs) ++ ([.slice (some ⟨B_176, 0, none⟩) 160 160] : Cs)) from (layV_mid (pre := (([] : Cs))) (mid := (([.int .u64 0] : Cs) ++ ([.slice none 0 0] : Cs))) (post := (([] : Cs))) (by first | rfl | simp only [List.append_assoc, List.append_nil, List.nil_append, List.cons_append]) (by first | rfl | simp only [List.length_append, List.length_cons, List.length_nil, iv_length]) (Eq.trans (b := 2) (by first | rfl | simp only [List.length_append, List.length_cons, List.length_nil, iv_length]) (Eq.symm (by first | rfl | simp only [List.length_append, List.length_cons, List.length_nil, iv_length])))).trans (by first | rfl | simp only [List.append_assoc, List.append_nil, List.nil_append, List.cons_append])]; exact Fills.nil) ?_
     intro B_309 w_310 st_311
     replace st_311 : St w w_310 (.cells B_309 (([.int .u64 ((gx l0 (x_13.toNat)).1)] : Cs) ++ ([.slice (some ⟨B_176, 0, none⟩) 160 160] : Cs)) 42 :: .sl A_10 c_11 n_12 x_8 42 2 :: (T_298 ++ R)) := st_311
     have st_313 := St.rows_sl (i := 0) (m := 1) (size := 2) st_311 rfl rfl (by decide)
     obtain ⟨x_314, e_315⟩ : ∃ x_ : Cs, x_ = ([.int .u64 ((gx l0 (x_13.toNat)).1)] : Cs) ++ ([.slice (some ⟨B_176, 0, none⟩) 160 160] : Cs) := ⟨_, rfl⟩
     have hx_316 : HRs T_298 (f42 w) x_314 ([((gx l0 (x_13.toNat)).1, l_184)] : List R42) := by rw [e_315]; exact (HRs.one (.cons rfl (.cons ⟨_, _, _, rfl, hb_302⟩ .nil)))
     replace st_313 : St w w_310 (.sl (some ⟨B_309, 0, none⟩) 1 1 x_314 42 2 :: .sl A_10 c_11 n_12 x_8 42 2 :: (T_298 ++ R)) := by rw [e_315]; exact st_313
     obtain ⟨m_317, e_318, H⟩ := H
     obtain ⟨z_319, H⟩ := H
     obtain ⟨n_322, hn_325⟩ : ∃ n_ : Nat, n_ = m_317.length := ⟨_, rfl⟩
     refine WL.appendR (i := 1) (N := n_322) (news := x_314) Wanted.none st_313 rfl Tryd.underlying40 elemS42 rfl rfl (st_313.src_sl (k := 0) rfl) (by have h1_ := (hx_316).length (fz42 w); have h2_ : 1 = ([((gx l0 (x_13.toNat)).1, l_184)] : List R42).length := rfl; rw [h1_, h2_]) (HLs.one hx_316) (by decide) (by have h1_ : n_12 = l_6.length := hn_7; have h2_ : 1 = ([((gx l0 (x_13.toNat)).1, l_184)] : List R42).length := rfl; rw [hn_325, e_318, List.length_append]; omega) (by rw [hn_325]; exact z_319) ?_
     intro A_320 c_321 w_323 st_324
     obtain ⟨x_326, e_327⟩ : ∃ x_ : Cs, x_ = x_8 ++ x_314 := ⟨_, rfl⟩
     have hx_328 : HRs T_298 (f42 w) x_326 m_317 := by rw [e_327, e_318]; exact HRs.append (hx_9.mono (fun _ h_ => hs_299.1 _ (hs_183.1 _ h_))) hx_316
     replace st_324 : St w w_323 (.sl (some ⟨B_309, 0, none⟩) 1 1 x_314 42 2 :: .sl A_320 c_321 n_322 x_326 42 2 :: (T_298 ++ R)) := by rw [e_327]; exact st_324
     refine WL.val Wanted.none (Runs.assign rfl) ?_
     refine WL.nil ?_
     refine QW.blk_n ?_
     refine QW.then_n ?_
     refine CW.region ?_
     refine WL.val Wanted.none (Runs.move rfl) ?_
     refine WL.val Wanted.none (Runs.add rfl rfl rfl) ?_
     refine WL.val Wanted.none (Runs.assign rfl) ?_
     refine WL.nil ?_
     have st_324' := (St.pickT (L := [_, _]) st_324 [1] (by decide))
     exact QW.at _ (by repeat' constructor) ⟨T_298, A_320, c_321, n_322, x_326, m_317, IntKind.i64.wrap (x_13 + 1), rfl, H, ((hs_5.trans hs_183).trans hs_299), hn_325, hx_328, st_324'⟩
  ·have h_20 : a1 = false := (Bool.eq_false_iff.mpr c_19)
   refine WL.off ?_ ?_; exact Wanted.guard (dj := 17) (by rfl) (evb (by rfl) h_20) (by rfl)
   refine WL.off ?_ ?_; exact Wanted.guard (dj := 17) (by rfl) (evb (by rfl) h_20) (by rfl)
   refine WL.val Wanted.none (Runs.pick_f (evb rfl h_20) rfl) ?_
   refine WL.nil (QW.then_n ?_)
   refine CW.cf rfl rfl ?_
   refine CW.skip ?_
   refine QW.then_n ?_
   refine CW.seq (CW.region ?_)
   refine WL.val Wanted.none (Runs.move rfl) ?_
   refine WL.make st_15 Tryd.underlying25 elem5 rfl rfl (by decide) (by decide) (by decide) (N := 160) rfl ?_
   intro B_329 w_330 st_331
   replace st_331 : St w w_330 (.sl (some ⟨B_329, 0, none⟩) 160 160 (iv .u8 (List.replicate 160 (0 : Int))) 5 1 :: .sl A_10 c_11 n_12 x_8 42 2 :: (T_4 ++ R)) := by rw [iv_replicate] at st_331; exact st_331
   have hn_332 : 160 = (List.replicate 160 (0 : Int)).length := by simp
   refine WL.val Wanted.none (Runs.assign rfl) ?_
   refine WL.nil (QW.then_n ?_)
   refine CW.seq ?_
   refine CW.seq (CW.region ?_)
   refine WL.val Wanted.none (Runs.assign rfl) ?_
   refine WL.nil (QW.then_n ?_)
   refine CW.block ?_
   obtain ⟨k_334, H⟩ := H
   refine CW.sub [(0, .slice A0 n0 c0), (1, .bool a1), (4, .slice none 0 0), (5, .slice A_10 n_12 c_11), (6, .int .i64 x_13), (10, .int .i64 x_13), (11, .slice A0 n0 c0), (12, .int .i64 (l0.length : Int)), (13, .bool (decide (x_13 < (l0.length : Int)))), (7, .int .i64 160), (16, .bool a1), (17, .bool a1), (20, .bool false), (21, .int .i64 160), (22, .slice (some ⟨B_329, 0, none⟩) 160 160), (8, .slice (some ⟨B_329, 0, none⟩) 160 160), (9, .int .i64 0)] (by repeat' constructor) ?_
   refine CW.loop (fun kL4 l_ w_ => ∃ (T_335 : Pool) (l_337 : List Int) (x_339 : Int), l_ = [(0, .slice A0 n0 c0), (1, .bool a1), (4, .slice none 0 0), (5, .slice A_10 n_12 c_11), (6, .int .i64 x_13), (10, .int .i64 x_13), (11, .slice A0 n0 c0), (12, .int .i64 (l0.length : Int)), (13, .bool (decide (x_13 < (l0.length : Int)))), (7, .int .i64 160), (16, .bool a1), (17, .bool a1), (20, .bool false), (21, .int .i64 160), (22, .slice (some ⟨B_329, 0, none⟩) 160 160), (8, .slice (some ⟨B_329, 0, none⟩) 160 160), (9, .int .i64 x_339)] ∧ reliquarylaw13_images.L4 l0 l_6 x_13 (reliquarylaw13_images.L1 l0 a1 lr0 kL1) kL4 l_337 x_339 ∧ (Pl T_4 T_335) ∧ (160 = l_337.length) ∧ St w w_ (.sl (some ⟨B_329, 0, none⟩) 160 160 (iv .u8 l_337) 5 1 :: .sl A_10 c_11 n_12 x_8 42 2 :: (T_335 ++ R))) (k := k_334) ⟨T_4, List.replicate 160 (0 : Int), 0, rfl, H, Pl.refl, hn_332, st_331⟩ (fun _ _ h => by obtain ⟨_, _, _, _, h, _⟩ := h; exact h.elim) ?_
   rintro kL4 l_342 w_340 ⟨T_335, l_337, x_339, rfl, H, hs_336, hn_338, st_341⟩
   refine CW.seq ?_
   refine CW.seq (CW.region ?_)
   refine WL.val Wanted.none (Runs.move rfl) ?_
   refine WL.val Wanted.none (Runs.move rfl) ?_
   refine WL.val Wanted.none (Runs.move rfl) ?_
   obtain ⟨⟨p_343, q_344⟩, H⟩ := H
   obtain ⟨x_345, hs_346, hr_347⟩ := hb0.2.2
   obtain ⟨a_348, e_349, ms_350, hc_351, hm_352⟩ := el_get (i := (x_13).toNat) ((hs_346.at st_341 (mem_TR (A := [_, _]) (fun _ h_ => hs_336.1 _ (hs_5.1 _ h_))))) (hr_347.mono (fun _ h_ => hs_336.1 _ (hs_5.1 _ h_))) (fz42 w) (by decide) (by omega)
   obtain ⟨A_353, n_354, c_355, em_357, hb_356⟩ := inv42 hm_352
   replace em_357 : ms_350 = ([.int .u64 ((gx l0 (x_13.toNat)).1)] : Cs) ++ ([.slice A_353 n_354 c_355] : Cs) := em_357
   subst em_357
   refine WL.val Wanted.none (Runs.indexAddr Tryd.underlying40 cells42 (by decide) rfl e_349 rfl p_343 (by rw [show n0 = l0.length from hb0.1]; exact q_344) (o := (x_13.toNat) * 2) (by first | rfl | omega)) ?_
   refine WL.val Wanted.none (Runs.fieldAddrB (off := 1) fld42_1 rfl rfl rfl) ?_
   refine WL.val Wanted.none (Runs.load nagg25 rfl (Src.cellAt (j := 1) (Src.cut ((hs_346.at st_341 (mem_TR (A := [_, _]) (fun _ h_ => hs_336.1 _ (hs_5.1 _ h_))))) e_349 hc_351) rfl)) ?_
   refine WL.val Wanted.none (Runs.len_sl Tryd.underlying25 rfl (by rw [hb_356.1])) ?_
   refine WL.val Wanted.none (Runs.lss rfl rfl rfl) ?_
   refine WL.val Wanted.none (Runs.move rfl) ?_
   rcases H with ⟨c_358, H⟩ | ⟨c_358, H⟩
   ·have h_359 : (decide (x_339 < (((gx l0 (x_13.toNat)).2).length : Int))) = true := (decide_eq_true c_358)
    refine WL.on ?_ ?_; exact Wanted.guard (dj := 31) (by rfl) (evb (by rfl) h_359) (by rfl)
    refine WL.val Wanted.none (Runs.move rfl) ?_
    refine WL.on ?_ ?_; exact Wanted.guard (dj := 31) (by rfl) (evb (by rfl) h_359) (by rfl)
    refine WL.val Wanted.none (Runs.move rfl) ?_
    refine WL.on ?_ ?_; exact Wanted.guard (dj := 31) (by rfl) (evb (by rfl) h_359) (by rfl)
    refine WL.val Wanted.none (Runs.lss rfl rfl rfl) ?_
    refine WL.val Wanted.none (Runs.pick_t (evb rfl h_359) rfl) ?_
    refine WL.nil (QW.then_n ?_)
    rcases H with ⟨c_360, H⟩ | ⟨c_360, H⟩
    ·have h_361 : (decide (x_339 < 160)) = true := (decide_eq_true c_360)
     refine CW.ct rfl h_361 ?_
     refine CW.skip ?_
     refine QW.then_n ?_
     refine CW.seq ?_
     refine CW.block ?_
     refine CW.region ?_
     refine WL.val Wanted.none (Runs.move rfl) ?_
     refine WL.val Wanted.none (Runs.move rfl) ?_
     refine WL.val Wanted.none (Runs.move rfl) ?_
     refine WL.val Wanted.none (Runs.move rfl) ?_
     obtain ⟨⟨p_362, q_363⟩, H⟩ := H
     obtain ⟨x_364, hs_365, hr_366⟩ := hb0.2.2
     obtain ⟨a_367, e_368, ms_369, hc_370, hm_371⟩ := el_get (i := (x_13).toNat) ((hs_365.at st_341 (mem_TR (A := [_, _]) (fun _ h_ => hs_336.1 _ (hs_5.1 _ h_))))) (hr_366.mono (fun _ h_ => hs_336.1 _ (hs_5.1 _ h_))) (fz42 w) (by decide) (by omega)
     obtain ⟨A_372, n_373, c_374, em_376, hb_375⟩ := inv42 hm_371
     replace em_376 : ms_369 = ([.int .u64 ((gx l0 (x_13.toNat)).1)] : Cs) ++ ([.slice A_372 n_373 c_374] : Cs) := em_376
     subst em_376
     refine WL.val Wanted.none (Runs.indexAddr Tryd.underlying40 cells42 (by decide) rfl e_368 rfl p_362 (by rw [show n0 = l0.length from hb0.1]; exact q_363) (o := (x_13.toNat) * 2) (by first | rfl | omega)) ?_
     refine WL.val Wanted.none (Runs.fieldAddrB (off := 1) fld42_1 rfl rfl rfl) ?_
     refine WL.val Wanted.none (Runs.load nagg25 rfl (Src.cellAt (j := 1) (Src.cut ((hs_365.at st_341 (mem_TR (A := [_, _]) (fun _ h_ => hs_336.1 _ (hs_5.1 _ h_))))) e_368 hc_370) rfl)) ?_
     refine WL.val Wanted.none (Runs.move rfl) ?_
     obtain ⟨⟨p_377, q_378⟩, H⟩ := H
     obtain ⟨a_379, e_380⟩ := ((hb_375.2.2.at st_341 (mem_T (A := [_, _]) (fun _ h_ => h_)))).addr_iv (x_339.toNat) (by omega)
     refine WL.val Wanted.none (Runs.indexAddr Tryd.underlying25 cells5 (by decide) rfl e_380 rfl p_377 (by rw [hb_375.1]; exact q_378) (o := (x_339).toNat) (by first | rfl | omega)) ?_
     refine WL.val Wanted.none (Runs.load nagg5 rfl (((hb_375.2.2.at st_341 (mem_T (A := [_, _]) (fun _ h_ => h_)))).cell_iv e_380 (by omega))) ?_
     obtain ⟨⟨p_381, q_382⟩, H⟩ := H
     obtain ⟨a_383, e_384⟩ := (st_341.src_sl (k := 0) rfl).addr_iv (x_339.toNat) (by omega)
     refine WL.val Wanted.none (Runs.indexAddr Tryd.underlying25 cells5 (by decide) rfl e_384 rfl p_381 (by rw [hn_338]; exact q_382) (o := (x_339).toNat) (by first | rfl | omega)) ?_
     obtain ⟨m_385, e_386, H⟩ := H
     refine WL.store_sl (i := 0) st_341 rfl cells5 rfl e_384 (by rw [iv_length]; omega) rfl rfl ?_
     intro w_387 st_388
     have hn_389 : 160 = m_385.length := by rw [e_386, List.length_set]; exact hn_338
     have st_388' : St w w_387 (.sl (some ⟨B_329, 0, none⟩) 160 160 (iv .u8 m_385) 5 1 :: .sl A_10 c_11 n_12 x_8 42 2 :: (T_335 ++ R)) := by rw [e_386, ← iv_set .u8 l_337 (x_339.toNat) (gn ((gx l0 (x_13.toNat)).2) (x_339.toNat))]; exact st_388
     refine WL.nil ?_
     refine QW.blk_n ?_
     refine QW.then_n ?_
     refine CW.region ?_
     refine WL.val Wanted.none (Runs.move rfl) ?_
     refine WL.val Wanted.none (Runs.add rfl rfl rfl) ?_
     refine WL.val Wanted.none (Runs.assign rfl) ?_
     refine WL.nil ?_
     exact QW.at _ (by repeat' constructor) ⟨T_335, m_385, IntKind.i64.wrap (x_339 + 1), rfl, H, hs_336, hn_389, st_388'⟩
    ·have h_361 : (decide (x_339 < 160)) = false := (decide_eq_false c_360)
     refine CW.cf rfl h_361 ?_
     refine CW.exit ?_
     refine QW.then_x ?_
     refine QW.then_x ?_
     refine QW.blk_x ?_
     refine QW.then_n ?_
     refine CW.region ?_
     refine WL.val Wanted.none (Runs.move rfl) ?_
     refine WL.val Wanted.none (Runs.move rfl) ?_
     refine WL.val Wanted.none (Runs.move rfl) ?_
     obtain ⟨⟨p_390, q_391⟩, H⟩ := H
     obtain ⟨x_392, hs_393, hr_394⟩ := hb0.2.2
     obtain ⟨a_395, e_396, ms_397, hc_398, hm_399⟩ := el_get (i := (x_13).toNat) ((hs_393.at st_341 (mem_TR (A := [_, _]) (fun _ h_ => hs_336.1 _ (hs_5.1 _ h_))))) (hr_394.mono (fun _ h_ => hs_336.1 _ (hs_5.1 _ h_))) (fz42 w) (by decide) (by omega)
     obtain ⟨A_400, n_401, c_402, em_404, hb_403⟩ := inv42 hm_399
     replace em_404 : ms_397 = ([.int .u64 ((gx l0 (x_13.toNat)).1)] : Cs) ++ ([.slice A_400 n_401 c_402] : Cs) := em_404
     subst em_404
     refine WL.val Wanted.none (Runs.indexAddr Tryd.underlying40 cells42 (by decide) rfl e_396 rfl p_390 (by rw [show n0 = l0.length from hb0.1]; exact q_391) (o := (x_13.toNat) * 2) (by first | rfl | omega)) ?_
     refine WL.val Wanted.none (Runs.fieldAddrB (off := 0) fld42_0 rfl rfl rfl) ?_
     refine WL.val Wanted.none (Runs.load nagg37 rfl (Src.cellAt (j := 0) (Src.cut ((hs_393.at st_341 (mem_TR (A := [_, _]) (fun _ h_ => hs_336.1 _ (hs_5.1 _ h_))))) e_396 hc_398) rfl)) ?_
     refine WL.val Wanted.none (Runs.move rfl) ?_
     refine WL.val Wanted.none (Runs.build_struct (ps := [(0, 1), (1, 1)]) (cs := (([.int .u64 ((gx l0 (x_13.toNat)).1)] : Cs) ++ ([.slice (some ⟨B_329, 0, none⟩) 160 160] : Cs))) plc42 zero42 rfl (by refine Fills.cons (o := 0) (ms := (([.int .u64 ((gx l0 (x_13.toNat)).1)] : Cs))) (show _ = some (0, (([.int .u64 ((gx l0 (x_13.toNat)).1)] : Cs)).length) by rw [show (([.int .u64 ((gx l0 (x_13.toNat)).1)] : Cs)).length = 1 from (by first | rfl | simp only [List.length_append, List.length_cons, List.length_nil, iv_length])] <;> rfl) rfl (by have h1_ : (([.int .u64 ((gx l0 (x_13.toNat)).1)] : Cs)).length = 1 := (by first | rfl | simp only [List.length_append, List.length_cons, List.length_nil, iv_length]); have h2_ : (([.int .u64 0] : Cs) ++ ([.slice none 0 0] : Cs)).length = 2 := (by first | rfl | simp only [List.length_append, List.length_cons, List.length_nil, iv_length]); omega) ?_; rw [show layV (([.int .u64 0] : Cs) ++ ([.slice none 0 0] : Cs)) 0 (([.int .u64 ((gx l0 (x_13.toNat)).1)] : Cs)) = (([.int .u64 ((gx l0 (x_13.toNat)).1)] : Cs) ++ ([.slice none 0 0] : Cs)) from (layV_mid (pre := (([] : Cs))) (mid := (([.int .u64 0] : Cs))) (post := (([.slice none 0 0] : Cs))) (by first | rfl | simp only [List.append_assoc, List.append_nil, List.nil_append, List.cons_append]) (by first | rfl | simp only [List.length_append, List.length_cons, List.length_nil, iv_length]) (Eq.trans (b := 1) (by first | rfl | simp only [List.length_append, List.length_cons, List.length_nil, iv_length]) (Eq.symm (by first | rfl | simp only [List.length_append, List.length_cons, List.length_nil, iv_length])))).trans (by first | rfl | simp only [List.append_assoc, List.append_nil, List.nil_append, List.cons_append])]; refine Fills.cons (o := 1) (ms := (([.slice (some ⟨B_329, 0, none⟩) 160 160] : Cs))) (show _ = some (1, (([.slice (some ⟨B_329, 0, none⟩) 160 160] : Cs)).length) by rw [show (([.slice (some ⟨B_329, 0, none⟩) 160 160] : Cs)).length = 1 from (by first | rfl | simp only [List.length_append, List.length_cons, List.length_nil, iv_length])] <;> rfl) rfl (by have h1_ : (([.slice (some ⟨B_329, 0, none⟩) 160 160] : Cs)).length = 1 := (by first | rfl | simp only [List.length_append, List.length_cons, List.length_nil, iv_length]); have h2_ : (([.int .u64 ((gx l0 (x_13.toNat)).1)] : Cs) ++ ([.slice none 0 0] : Cs)).length = 2 := (by first | rfl | simp only [List.length_append, List.length_cons, List.length_nil, iv_length]); omega) ?_; rw [show layV (([.int .u64 ((gx l0 (x_13.toNat)).1)] : Cs) ++ ([.slice none 0 0] : Cs)) 1 (([.slice (some ⟨B_329, 0, none⟩) 160 160] : Cs)) = (([.int .u64 ((gx l0 (x_13.toNat)).1)] : Cs) ++ ([.slice (some ⟨B_329, 0, none⟩) 160 160] : Cs)) from (layV_mid (pre := (([.int .u64 ((gx l0 (x_13.toNat)).1)] : Cs))) (mid := (([.slice none 0 0] : Cs))) (post := (([] : Cs))) (by first | rfl | simp only [List.append_assoc, List.append_nil, List.nil_append, List.cons_append]) (by first | rfl | simp only [List.length_append, List.length_cons, List.length_nil, iv_length]) (Eq.trans (b := 1) (by first | rfl | simp only [List.length_append, List.length_cons, List.length_nil, iv_length]) (Eq.symm (by first | rfl | simp only [List.length_append, List.length_cons, List.length_nil, iv_length])))).trans (by first | rfl | simp only [List.append_assoc, List.append_nil, List.nil_append, List.cons_append])]; exact Fills.nil)) ?_
     have hb_409c := st_341.cap (i := 0) rfl
     obtain ⟨T_405, hs_406, hm_407, st_408⟩ := St.freeze (A := []) (B := [_]) (T := T_335) (R := R) st_341
     have hb_409 : HB w T_405 (some ⟨B_329, 0, none⟩) 160 160 (iv .u8 l_337) l_337.length := ⟨hn_338, hb_409c, Hd.of_sl hm_407⟩
     replace st_408 : St w w_340 (.sl A_10 c_11 n_12 x_8 42 2 :: (T_405 ++ R)) := st_408
     obtain ⟨ii_410, z_411, h_412, h_413, h_414, h_415⟩ := slr42_1
     refine WL.buildSlRows (sz := 2) (cs := (([.int .u64 ((gx l0 (x_13.toNat)).1)] : Cs) ++ ([.slice (some ⟨B_329, 0, none⟩) 160 160] : Cs))) st_408 Tryd.underlying40 h_412 h_413 h_414 (by decide) (by decide) h_415 rfl (by refine Fills.cons (o := 0) (ms := (([.int .u64 ((gx l0 (x_13.toNat)).1)] : Cs) ++ ([.slice (some ⟨B_329, 0, none⟩) 160 160] : Cs))) (show _ = some (0, (([.int .u64 ((gx l0 (x_13.toNat)).1)] : Cs) ++ ([.slice (some ⟨B_329, 0, none⟩) 160 160] : Cs)).length) by rw [show (([.int .u64 ((gx l0 (x_13.toNat)).1)] : Cs) ++ ([.slice (some ⟨B_329, 0, none⟩) 160 160] : Cs)).length = 2 from (by first | rfl | simp only [List.length_append, List.length_cons, List.length_nil, iv_length])] <;> rfl) rfl (by have h1_ : (([.int .u64 ((gx l0 (x_13.toNat)).1)] : Cs) ++ ([.slice (some ⟨B_329, 0, none⟩) 160 160] : Cs)).length = 2 := (by first | rfl | simp only [List.length_append, List.length_cons, List.length_nil, iv_length]); have h2_ : (([.int .u64 0] : Cs) ++ ([.slice none 0 0] : Cs)).length = 2 := (by first | rfl | simp only [List.length_append, List.length_cons, List.length_nil, iv_length]); omega) ?_; rw [show layV (([.int .u64 0] : Cs) ++ ([.slice none 0 0] : Cs)) 0 (([.int .u64 ((gx l0 (x_13.toNat)).1)] : Cs) ++ ([.slice (some ⟨B_329, 0, none⟩) 160 160] : Cs)) = (([.int .u64 ((gx l0 (x_13.toNat)).1)] : Cs) ++ ([.slice (some ⟨B_329, 0, none⟩) 160 160] : Cs)) from (layV_mid (pre := (([] : Cs))) (mid := (([.int .u64 0] : Cs) ++ ([.slice none 0 0] : Cs))) (post := (([] : Cs))) (by first | rfl | simp only [List.append_assoc, List.append_nil, List.nil_append, List.cons_append]) (by first | rfl | simp only [List.length_append, List.length_cons, List.length_nil, iv_length]) (Eq.trans (b := 2) (by first | rfl | simp only [List.length_append, List.length_cons, List.length_nil, iv_length]) (Eq.symm (by first | rfl | simp only [List.length_append, List.length_cons, List.length_nil, iv_length])))).trans (by first | rfl | simp only [List.append_assoc, List.append_nil, List.nil_append, List.cons_append])]; exact Fills.nil) ?_
     intro B_416 w_417 st_418
     replace st_418 : St w w_417 (.cells B_416 (([.int .u64 ((gx l0 (x_13.toNat)).1)] : Cs) ++ ([.slice (some ⟨B_329, 0, none⟩) 160 160] : Cs)) 42 :: .sl A_10 c_11 n_12 x_8 42 2 :: (T_405 ++ R)) := st_418
     have st_420 := St.rows_sl (i := 0) (m := 1) (size := 2) st_418 rfl rfl (by decide)
     obtain ⟨x_421, e_422⟩ : ∃ x_ : Cs, x_ = ([.int .u64 ((gx l0 (x_13.toNat)).1)] : Cs) ++ ([.slice (some ⟨B_329, 0, none⟩) 160 160] : Cs) := ⟨_, rfl⟩
     have hx_423 : HRs T_405 (f42 w) x_421 ([((gx l0 (x_13.toNat)).1, l_337)] : List R42) := by rw [e_422]; exact (HRs.one (.cons rfl (.cons ⟨_, _, _, rfl, hb_409⟩ .nil)))
     replace st_420 : St w w_417 (.sl (some ⟨B_416, 0, none⟩) 1 1 x_421 42 2 :: .sl A_10 c_11 n_12 x_8 42 2 :: (T_405 ++ R)) := by rw [e_422]; exact st_420
     obtain ⟨m_424, e_425, H⟩ := H
     obtain ⟨z_426, H⟩ := H
     obtain ⟨n_429, hn_432⟩ : ∃ n_ : Nat, n_ = m_424.length := ⟨_, rfl⟩
     refine WL.appendR (i := 1) (N := n_429) (news := x_421) Wanted.none st_420 rfl Tryd.underlying40 elemS42 rfl rfl (st_420.src_sl (k := 0) rfl) (by have h1_ := (hx_423).length (fz42 w); have h2_ : 1 = ([((gx l0 (x_13.toNat)).1, l_337)] : List R42).length := rfl; rw [h1_, h2_]) (HLs.one hx_423) (by decide) (by have h1_ : n_12 = l_6.length := hn_7; have h2_ : 1 = ([((gx l0 (x_13.toNat)).1, l_337)] : List R42).length := rfl; rw [hn_432, e_425, List.length_append]; omega) (by rw [hn_432]; exact z_426) ?_
     intro A_427 c_428 w_430 st_431
     obtain ⟨x_433, e_434⟩ : ∃ x_ : Cs, x_ = x_8 ++ x_421 := ⟨_, rfl⟩
     have hx_435 : HRs T_405 (f42 w) x_433 m_424 := by rw [e_434, e_425]; exact HRs.append (hx_9.mono (fun _ h_ => hs_406.1 _ (hs_336.1 _ h_))) hx_423
     replace st_431 : St w w_430 (.sl (some ⟨B_416, 0, none⟩) 1 1 x_421 42 2 :: .sl A_427 c_428 n_429 x_433 42 2 :: (T_405 ++ R)) := by rw [e_434]; exact st_431
     refine WL.val Wanted.none (Runs.assign rfl) ?_
     refine WL.nil ?_
     refine QW.blk_n ?_
     refine QW.then_n ?_
     refine CW.region ?_
     refine WL.val Wanted.none (Runs.move rfl) ?_
     refine WL.val Wanted.none (Runs.add rfl rfl rfl) ?_
     refine WL.val Wanted.none (Runs.assign rfl) ?_
     refine WL.nil ?_
     have st_431' := (St.pickT (L := [_, _]) st_431 [1] (by decide))
     exact QW.at _ (by repeat' constructor) ⟨T_405, A_427, c_428, n_429, x_433, m_424, IntKind.i64.wrap (x_13 + 1), rfl, H, ((hs_5.trans hs_336).trans hs_406), hn_432, hx_435, st_431'⟩
   ·have h_359 : (decide (x_339 < (((gx l0 (x_13.toNat)).2).length : Int))) = false := (decide_eq_false c_358)
    refine WL.off ?_ ?_; exact Wanted.guard (dj := 31) (by rfl) (evb (by rfl) h_359) (by rfl)
    refine WL.off ?_ ?_; exact Wanted.guard (dj := 31) (by rfl) (evb (by rfl) h_359) (by rfl)
    refine WL.off ?_ ?_; exact Wanted.guard (dj := 31) (by rfl) (evb (by rfl) h_359) (by rfl)
    refine WL.val Wanted.none (Runs.pick_f (evb rfl h_359) rfl) ?_
    refine WL.nil (QW.then_n ?_)
    refine CW.cf rfl rfl ?_
    refine CW.exit ?_
    refine QW.then_x ?_
    refine QW.then_x ?_
    refine QW.blk_x ?_
    refine QW.then_n ?_
    refine CW.region ?_
    refine WL.val Wanted.none (Runs.move rfl) ?_
    refine WL.val Wanted.none (Runs.move rfl) ?_
    refine WL.val Wanted.none (Runs.move rfl) ?_
    obtain ⟨⟨p_436, q_437⟩, H⟩ := H
    obtain ⟨x_438, hs_439, hr_440⟩ := hb0.2.2
    obtain ⟨a_441, e_442, ms_443, hc_444, hm_445⟩ := el_get (i := (x_13).toNat) ((hs_439.at st_341 (mem_TR (A := [_, _]) (fun _ h_ => hs_336.1 _ (hs_5.1 _ h_))))) (hr_440.mono (fun _ h_ => hs_336.1 _ (hs_5.1 _ h_))) (fz42 w) (by decide) (by omega)
    obtain ⟨A_446, n_447, c_448, em_450, hb_449⟩ := inv42 hm_445
    replace em_450 : ms_443 = ([.int .u64 ((gx l0 (x_13.toNat)).1)] : Cs) ++ ([.slice A_446 n_447 c_448] : Cs) := em_450
    subst em_450
    refine WL.val Wanted.none (Runs.indexAddr Tryd.underlying40 cells42 (by decide) rfl e_442 rfl p_436 (by rw [show n0 = l0.length from hb0.1]; exact q_437) (o := (x_13.toNat) * 2) (by first | rfl | omega)) ?_
    refine WL.val Wanted.none (Runs.fieldAddrB (off := 0) fld42_0 rfl rfl rfl) ?_
    refine WL.val Wanted.none (Runs.load nagg37 rfl (Src.cellAt (j := 0) (Src.cut ((hs_439.at st_341 (mem_TR (A := [_, _]) (fun _ h_ => hs_336.1 _ (hs_5.1 _ h_))))) e_442 hc_444) rfl)) ?_
    refine WL.val Wanted.none (Runs.move rfl) ?_
    refine WL.val Wanted.none (Runs.build_struct (ps := [(0, 1), (1, 1)]) (cs := (([.int .u64 ((gx l0 (x_13.toNat)).1)] : Cs) ++ ([.slice (some ⟨B_329, 0, none⟩) 160 160] : Cs))) plc42 zero42 rfl (by refine Fills.cons (o := 0) (ms := (([.int .u64 ((gx l0 (x_13.toNat)).1)] : Cs))) (show _ = some (0, (([.int .u64 ((gx l0 (x_13.toNat)).1)] : Cs)).length) by rw [show (([.int .u64 ((gx l0 (x_13.toNat)).1)] : Cs)).length = 1 from (by first | rfl | simp only [List.length_append, List.length_cons, List.length_nil, iv_length])] <;> rfl) rfl (by have h1_ : (([.int .u64 ((gx l0 (x_13.toNat)).1)] : Cs)).length = 1 := (by first | rfl | simp only [List.length_append, List.length_cons, List.length_nil, iv_length]); have h2_ : (([.int .u64 0] : Cs) ++ ([.slice none 0 0] : Cs)).length = 2 := (by first | rfl | simp only [List.length_append, List.length_cons, List.length_nil, iv_length]); omega) ?_; rw [show layV (([.int .u64 0] : Cs) ++ ([.slice none 0 0] : Cs)) 0 (([.int .u64 ((gx l0 (x_13.toNat)).1)] : Cs)) = (([.int .u64 ((gx l0 (x_13.toNat)).1)] : Cs) ++ ([.slice none 0 0] : Cs)) from (layV_mid (pre := (([] : Cs))) (mid := (([.int .u64 0] : Cs))) (post := (([.slice none 0 0] : Cs))) (by first | rfl | simp only [List.append_assoc, List.append_nil, List.nil_append, List.cons_append]) (by first | rfl | simp only [List.length_append, List.length_cons, List.length_nil, iv_length]) (Eq.trans (b := 1) (by first | rfl | simp only [List.length_append, List.length_cons, List.length_nil, iv_length]) (Eq.symm (by first | rfl | simp only [List.length_append, List.length_cons, List.length_nil, iv_length])))).trans (by first | rfl | simp only [List.append_assoc, List.append_nil, List.nil_append, List.cons_append])]; refine Fills.cons (o := 1) (ms := (([.slice (some ⟨B_329, 0, none⟩) 160 160] : Cs))) (show _ = some (1, (([.slice (some ⟨B_329, 0, none⟩) 160 160] : Cs)).length) by rw [show (([.slice (some ⟨B_329, 0, none⟩) 160 160] : Cs)).length = 1 from (by first | rfl | simp only [List.length_append, List.length_cons, List.length_nil, iv_length])] <;> rfl) rfl (by have h1_ : (([.slice (some ⟨B_329, 0, none⟩) 160 160] : Cs)).length = 1 := (by first | rfl | simp only [List.length_append, List.length_cons, List.length_nil, iv_length]); have h2_ : (([.int .u64 ((gx l0 (x_13.toNat)).1)] : Cs) ++ ([.slice none 0 0] : Cs)).length = 2 := (by first | rfl | simp only [List.length_append, List.length_cons, List.length_nil, iv_length]); omega) ?_; rw [show layV (([.int .u64 ((gx l0 (x_13.toNat)).1)] : Cs) ++ ([.slice none 0 0] : Cs)) 1 (([.slice (some ⟨B_329, 0, none⟩) 160 160] : Cs)) = (([.int .u64 ((gx l0 (x_13.toNat)).1)] : Cs) ++ ([.slice (some ⟨B_329, 0, none⟩) 160 160] : Cs)) from (layV_mid (pre := (([.int .u64 ((gx l0 (x_13.toNat)).1)] : Cs))) (mid := (([.slice none 0 0] : Cs))) (post := (([] : Cs))) (by first | rfl | simp only [List.append_assoc, List.append_nil, List.nil_append, List.cons_append]) (by first | rfl | simp only [List.length_append, List.length_cons, List.length_nil, iv_length]) (Eq.trans (b := 1) (by first | rfl | simp only [List.length_append, List.length_cons, List.length_nil, iv_length]) (Eq.symm (by first | rfl | simp only [List.length_append, List.length_cons, List.length_nil, iv_length])))).trans (by first | rfl | simp only [List.append_assoc, List.append_nil, List.nil_append, List.cons_append])]; exact Fills.nil)) ?_
    have hb_455c := st_341.cap (i := 0) rfl
    obtain ⟨T_451, hs_452, hm_453, st_454⟩ := St.freeze (A := []) (B := [_]) (T := T_335) (R := R) st_341
    have hb_455 : HB w T_451 (some ⟨B_329, 0, none⟩) 160 160 (iv .u8 l_337) l_337.length := ⟨hn_338, hb_455c, Hd.of_sl hm_453⟩
    replace st_454 : St w w_340 (.sl A_10 c_11 n_12 x_8 42 2 :: (T_451 ++ R)) := st_454
    obtain ⟨ii_456, z_457, h_458, h_459, h_460, h_461⟩ := slr42_1
    refine WL.buildSlRows (sz := 2) (cs := (([.int .u64 ((gx l0 (x_13.toNat)).1)] : Cs) ++ ([.slice (some ⟨B_329, 0, none⟩) 160 160] : Cs))) st_454 Tryd.underlying40 h_458 h_459 h_460 (by decide) (by decide) h_461 rfl (by refine Fills.cons (o := 0) (ms := (([.int .u64 ((gx l0 (x_13.toNat)).1)] : Cs) ++ ([.slice (some ⟨B_329, 0, none⟩) 160 160] : Cs))) (show _ = some (0, (([.int .u64 ((gx l0 (x_13.toNat)).1)] : Cs) ++ ([.slice (some ⟨B_329, 0, none⟩) 160 160] : Cs)).length) by rw [show (([.int .u64 ((gx l0 (x_13.toNat)).1)] : Cs) ++ ([.slice (some ⟨B_329, 0, none⟩) 160 160] : Cs)).length = 2 from (by first | rfl | simp only [List.length_append, List.length_cons, List.length_nil, iv_length])] <;> rfl) rfl (by have h1_ : (([.int .u64 ((gx l0 (x_13.toNat)).1)] : Cs) ++ ([.slice (some ⟨B_329, 0, none⟩) 160 160] : Cs)).length = 2 := (by first | rfl | simp only [List.length_append, List.length_cons, List.length_nil, iv_length]); have h2_ : (([.int .u64 0] : Cs) ++ ([.slice none 0 0] : Cs)).length = 2 := (by first | rfl | simp only [List.length_append, List.length_cons, List.length_nil, iv_length]); omega) ?_; rw [show layV (([.int .u64 0] : Cs) ++ ([.slice none 0 0] : Cs)) 0 (([.int .u64 ((gx l0 (x_13.toNat)).1)] : Cs) ++ ([.slice (some ⟨B_329, 0, none⟩) 160 160] : Cs)) = (([.int .u64 ((gx l0 (x_13.toNat)).1)] : Cs) ++ ([.slice (some ⟨B_329, 0, none⟩) 160 160] : Cs)) from (layV_mid (pre := (([] : Cs))) (mid := (([.int .u64 0] : Cs) ++ ([.slice none 0 0] : Cs))) (post := (([] : Cs))) (by first | rfl | simp only [List.append_assoc, List.append_nil, List.nil_append, List.cons_append]) (by first | rfl | simp only [List.length_append, List.length_cons, List.length_nil, iv_length]) (Eq.trans (b := 2) (by first | rfl | simp only [List.length_append, List.length_cons, List.length_nil, iv_length]) (Eq.symm (by first | rfl | simp only [List.length_append, List.length_cons, List.length_nil, iv_length])))).trans (by first | rfl | simp only [List.append_assoc, List.append_nil, List.nil_append, List.cons_append])]; exact Fills.nil) ?_
    intro B_462 w_463 st_464
    replace st_464 : St w w_463 (.cells B_462 (([.int .u64 ((gx l0 (x_13.toNat)).1)] : Cs) ++ ([.slice (some ⟨B_329, 0, none⟩) 160 160] : Cs)) 42 :: .sl A_10 c_11 n_12 x_8 42 2 :: (T_451 ++ R)) := st_464
    have st_466 := St.rows_sl (i := 0) (m := 1) (size := 2) st_464 rfl rfl (by decide)
    obtain ⟨x_467, e_468⟩ : ∃ x_ : Cs, x_ = ([.int .u64 ((gx l0 (x_13.toNat)).1)] : Cs) ++ ([.slice (some ⟨B_329, 0, none⟩) 160 160] : Cs) := ⟨_, rfl⟩
    have hx_469 : HRs T_451 (f42 w) x_467 ([((gx l0 (x_13.toNat)).1, l_337)] : List R42) := by rw [e_468]; exact (HRs.one (.cons rfl (.cons ⟨_, _, _, rfl, hb_455⟩ .nil)))
    replace st_466 : St w w_463 (.sl (some ⟨B_462, 0, none⟩) 1 1 x_467 42 2 :: .sl A_10 c_11 n_12 x_8 42 2 :: (T_451 ++ R)) := by rw [e_468]; exact st_466
    obtain ⟨m_470, e_471, H⟩ := H
    obtain ⟨z_472, H⟩ := H
    obtain ⟨n_475, hn_478⟩ : ∃ n_ : Nat, n_ = m_470.length := ⟨_, rfl⟩
    refine WL.appendR (i := 1) (N := n_475) (news := x_467) Wanted.none st_466 rfl Tryd.underlying40 elemS42 rfl rfl (st_466.src_sl (k := 0) rfl) (by have h1_ := (hx_469).length (fz42 w); have h2_ : 1 = ([((gx l0 (x_13.toNat)).1, l_337)] : List R42).length := rfl; rw [h1_, h2_]) (HLs.one hx_469) (by decide) (by have h1_ : n_12 = l_6.length := hn_7; have h2_ : 1 = ([((gx l0 (x_13.toNat)).1, l_337)] : List R42).length := rfl; rw [hn_478, e_471, List.length_append]; omega) (by rw [hn_478]; exact z_472) ?_
    intro A_473 c_474 w_476 st_477
    obtain ⟨x_479, e_480⟩ : ∃ x_ : Cs, x_ = x_8 ++ x_467 := ⟨_, rfl⟩
    have hx_481 : HRs T_451 (f42 w) x_479 m_470 := by rw [e_480, e_471]; exact HRs.append (hx_9.mono (fun _ h_ => hs_452.1 _ (hs_336.1 _ h_))) hx_469
    replace st_477 : St w w_476 (.sl (some ⟨B_462, 0, none⟩) 1 1 x_467 42 2 :: .sl A_473 c_474 n_475 x_479 42 2 :: (T_451 ++ R)) := by rw [e_480]; exact st_477
    refine WL.val Wanted.none (Runs.assign rfl) ?_
    refine WL.nil ?_
    refine QW.blk_n ?_
    refine QW.then_n ?_
    refine CW.region ?_
    refine WL.val Wanted.none (Runs.move rfl) ?_
    refine WL.val Wanted.none (Runs.add rfl rfl rfl) ?_
    refine WL.val Wanted.none (Runs.assign rfl) ?_
    refine WL.nil ?_
    have st_477' := (St.pickT (L := [_, _]) st_477 [1] (by decide))
    exact QW.at _ (by repeat' constructor) ⟨T_451, A_473, c_474, n_475, x_479, m_470, IntKind.i64.wrap (x_13 + 1), rfl, H, ((hs_5.trans hs_336).trans hs_452), hn_478, hx_481, st_477'⟩
 ·have h_18 : (decide (x_13 < (l0.length : Int))) = false := (decide_eq_false c_17)
  refine CW.cf rfl h_18 ?_
  refine CW.exit ?_
  refine QW.then_x ?_
  refine QW.then_x ?_
  refine QW.blk_x ?_
  refine QW.then_n ?_
  refine CW.sub [(4, .slice none 0 0), (5, .slice A_10 n_12 c_11)] ⟨rfl, rfl, trivial⟩ ?_
  refine CW.seq (CW.region ?_)
  refine WL.val Wanted.none (Runs.move rfl) ?_
  refine WL.val Wanted.none (Runs.assign rfl) ?_
  refine WL.nil (QW.then_n ?_)
  refine CW.ret ?_
  obtain rfl := H
  exact QW.ret1 rfl rfl ⟨T_4, A_10, n_12, c_11, x_8, hs_5, hn_7, hx_9, rfl, (St.pickT (L := [_]) st_15 [0] (by decide))⟩

/-! ### disk_Disk_Flush: function 26 -/
def disk_Disk_Flush.L1 (l0_1 : List R124) (a0_2 : Int) (a0_3 : Bool) (l0_4 : List R48) (ls0_0 : List R25) (ls0_1 : List R124) (as0_2 : Int) (as0_3 : Bool) (ls0_4 : List R48) (ar0 : Int) : Nat → (List R25) → Int → Prop
 | 0, _, _ => False
 | kL1 + 1, l_6, x_10 => ((x_10 < (l0_1.length : Int) ∧ ((0 ≤ x_10 ∧ x_10 < (l0_1.length : Int)) ∧ ((0 ≤ ((gx l0_1 (x_10.toNat)).1) ∧ ((gx l0_1 (x_10.toNat)).1) < (l_6.length : Int)) ∧ (∃ m_48 : List R25, m_48 = List.set l_6 (((gx l0_1 (x_10.toNat)).1).toNat) (gx l0_1 (x_10.toNat)).2 ∧ disk_Disk_Flush.L1 l0_1 a0_2 a0_3 l0_4 ls0_0 ls0_1 as0_2 as0_3 ls0_4 ar0 kL1 m_48 (IntKind.i64.wrap (x_10 + 1)))))) ∨ (¬ (x_10 < (l0_1.length : Int)) ∧ (∃ m_73 : List R48, m_73 = l0_4 ++ ([(3, 0)] : List R48) ∧ (m_73.length ≤ 1099511627776 ∧ ls0_0 = l_6 ∧ ls0_1 = ([] : List R124) ∧ as0_2 = a0_2 ∧ as0_3 = a0_3 ∧ ls0_4 = m_73 ∧ ar0 = 0))))
def disk_Disk_Flush.rel (l0_0 : List R25) (l0_1 : List R124) (a0_2 : Int) (a0_3 : Bool) (l0_4 : List R48) (ls0_0 : List R25) (ls0_1 : List R124) (as0_2 : Int) (as0_3 : Bool) (ls0_4 : List R48) (ar0 : Int) : Prop := ((a0_3 = true ∧ ls0_0 = l0_0 ∧ ls0_1 = l0_1 ∧ as0_2 = a0_2 ∧ as0_3 = a0_3 ∧ ls0_4 = l0_4 ∧ ar0 = 13) ∨ (¬ (a0_3 = true) ∧ (∃ k_ : Nat, disk_Disk_Flush.L1 l0_1 a0_2 a0_3 l0_4 ls0_0 ls0_1 as0_2 as0_3 ls0_4 ar0 k_ l0_0 0)))
set_option maxHeartbeats 1000000 in
set_option maxRecDepth 100000 in
theorem disk_Disk_Flush.calls (w w1 : World) (T R : Pool) (l0_0 : List R25) (l0_1 : List R124) (a0_2 : Int) (a0_3 : Bool) (l0_4 : List R48) (b0 : Nat) (A0_0 : Option Addr) (n0_0 : Nat) (c0_0 : Nat) (x0_0 : Cs) (A0_1 : Option Addr) (n0_1 : Nat) (c0_1 : Nat) (x0_1 : Cs) (A0_4 : Option Addr) (n0_4 : Nat) (c0_4 : Nat) (x0_4 : Cs) (st0 : St w w1 (.cells b0 (([.slice A0_0 n0_0 c0_0] : Cs) ++ (([.slice A0_1 n0_1 c0_1] : Cs) ++ (([.int .i64 a0_2] : Cs) ++ (([.bool a0_3] : Cs) ++ ([.slice A0_4 n0_4 c0_4] : Cs))))) 95 :: .sl A0_0 c0_0 n0_0 x0_0 25 1 :: .sl A0_1 c0_1 n0_1 x0_1 124 2 :: .sl A0_4 c0_4 n0_4 x0_4 48 2 :: (T ++ R))) (hn0_0 : n0_0 = l0_0.length) (hx0_0 : HRs T (f25 w) x0_0 l0_0) (hn0_1 : n0_1 = l0_1.length) (hx0_1 : HRs T (f124 w) x0_1 l0_1) (hn0_4 : n0_4 = l0_4.length) (hx0_4 : HRs T (f48 w) x0_4 l0_4) (ls0_0 : List R25) (ls0_1 : List R124) (as0_2 : Int) (as0_3 : Bool) (ls0_4 : List R48) (ar0 : Int) (H : disk_Disk_Flush.rel l0_0 l0_1 a0_2 a0_3 l0_4 ls0_0 ls0_1 as0_2 as0_3 ls0_4 ar0) :
  Calls Tryd.prog 26 #[.pointer (some ⟨b0, 0, none⟩)] w1 fun e w' => ∃ T' As0_0 ns0_0 cs0_0 xs0_0 As0_1 ns0_1 cs0_1 xs0_1 As0_4 ns0_4 cs0_4 xs0_4, Pl T T' ∧ ns0_0 = ls0_0.length ∧ HRs T' (f25 w) xs0_0 ls0_0 ∧ ns0_1 = ls0_1.length ∧ HRs T' (f124 w) xs0_1 ls0_1 ∧ ns0_4 = ls0_4.length ∧ HRs T' (f48 w) xs0_4 ls0_4 ∧ e = .returned (.int .i64 ar0) ∧ St w w' (.cells b0 (([.slice As0_0 ns0_0 cs0_0] : Cs) ++ (([.slice As0_1 ns0_1 cs0_1] : Cs) ++ (([.int .i64 as0_2] : Cs) ++ (([.bool as0_3] : Cs) ++ ([.slice As0_4 ns0_4 cs0_4] : Cs))))) 95 :: .sl As0_0 cs0_0 ns0_0 xs0_0 25 1 :: .sl As0_1 cs0_1 ns0_1 xs0_1 124 2 :: .sl As0_4 cs0_4 ns0_4 xs0_4 48 2 :: (T' ++ R)) := by
 refine CW.enter Tryd.func26 rfl (n := 45) rfl [.pointer (some ⟨b0, 0, none⟩)] (Nat.le_of_ble_eq_true rfl) ?_
 refine CW.sub [(0, .pointer (some ⟨b0, 0, none⟩))] ⟨rfl, trivial⟩ ?_
 refine CW.seq (CW.region ?_)
 refine WL.val Wanted.none (Runs.assign rfl) ?_
 refine WL.nil (QW.then_n ?_)
 refine CW.seq ?_
 refine CW.block ?_
 refine CW.seq (CW.region ?_)
 refine WL.val Wanted.none (Runs.move rfl) ?_
 refine WL.val Wanted.none (Runs.eql_ptr Tryd.underlying30 rfl rfl rfl) ?_
 refine WL.val Wanted.none (Runs.assign rfl) ?_
 refine WL.nil (QW.then_n ?_)
 refine CW.cf rfl rfl ?_
 refine CW.seq (CW.region ?_)
 refine WL.val Wanted.none (Runs.move rfl) ?_
 refine WL.val Wanted.none (Runs.nilCheck rfl) ?_
 refine WL.val Wanted.none (Runs.fieldAddr (off := 3) (p := 3) fld95_3 rfl rfl rfl) ?_
 refine WL.val Wanted.none (Runs.load nagg4 rfl (st0.cell (k := 0) rfl (part_one (u := .bool a0_3) (pre := (([.slice A0_0 n0_0 c0_0] : Cs) ++ (([.slice A0_1 n0_1 c0_1] : Cs) ++ ([.int .i64 a0_2] : Cs)))) (post := (([.slice A0_4 n0_4 c0_4] : Cs))) (by first | rfl | simp only [List.append_assoc, List.append_nil, List.nil_append, List.cons_append]) (by first | rfl | simp only [List.length_append, List.length_cons, List.length_nil, iv_length])))) ?_
 refine WL.val Wanted.none (Runs.assign rfl) ?_
 refine WL.nil (QW.then_n ?_)
 refine CW.sub [(0, .pointer (some ⟨b0, 0, none⟩)), (2, .int .i64 0), (8, .bool a0_3)] ⟨rfl, rfl, rfl, trivial⟩ ?_
 rcases H with ⟨c_1, H⟩ | ⟨c_1, H⟩
 ·have h_2 : a0_3 = true := c_1
  refine CW.ct rfl h_2 ?_
  refine CW.seq (CW.region ?_)
  refine WL.val Wanted.none (Runs.assign rfl) ?_
  refine WL.nil (QW.then_n ?_)
  refine CW.ret ?_
  refine QW.blk_r ?_
  refine QW.then_r ?_
  obtain ⟨rfl, rfl, rfl, rfl, rfl, rfl⟩ := H
  exact QW.ret1 rfl rfl ⟨T, A0_0, n0_0, c0_0, x0_0, A0_1, n0_1, c0_1, x0_1, A0_4, n0_4, c0_4, x0_4, Pl.refl, hn0_0, hx0_0, hn0_1, hx0_1, hn0_4, hx0_4, rfl, (St.pickT (L := [_, _, _, _]) st0 [0, 1, 2, 3] (by decide))⟩
 ·have h_2 : a0_3 = false := (Bool.eq_false_iff.mpr c_1)
  refine CW.cf rfl h_2 ?_
  refine CW.skip ?_
  refine QW.blk_n ?_
  refine QW.then_n ?_
  refine CW.seq ?_
  refine CW.seq (CW.region ?_)
  refine WL.val Wanted.none (Runs.move rfl) ?_
  refine WL.val Wanted.none (Runs.nilCheck rfl) ?_
  refine WL.val Wanted.none (Runs.fieldAddr (off := 1) (p := 1) fld95_1 rfl rfl rfl) ?_
  refine WL.val Wanted.none (Runs.load nagg93 rfl (st0.cell (k := 0) rfl (part_one (u := .slice A0_1 n0_1 c0_1) (pre := (([.slice A0_0 n0_0 c0_0] : Cs))) (post := (([.int .i64 a0_2] : Cs) ++ (([.bool a0_3] : Cs) ++ ([.slice A0_4 n0_4 c0_4] : Cs)))) (by first | rfl | simp only [List.append_assoc, List.append_nil, List.nil_append, List.cons_append]) (by first | rfl | simp only [List.length_append, List.length_cons, List.length_nil, iv_length])))) ?_
  refine WL.val Wanted.none (Runs.len_sl Tryd.underlying93 rfl (by rw [hn0_1])) ?_
  refine WL.val Wanted.none (Runs.move rfl) ?_
  refine WL.nil (QW.then_n ?_)
  refine CW.block ?_
  obtain ⟨k_3, H⟩ := H
  refine CW.sub [(0, .pointer (some ⟨b0, 0, none⟩)), (2, .int .i64 0), (16, .slice A0_1 n0_1 c0_1), (17, .int .i64 (l0_1.length : Int)), (18, .int .i64 0)] ⟨rfl, rfl, rfl, rfl, rfl, trivial⟩ ?_
  refine CW.loop (fun kL1 l_ w_ => ∃ (T_4 : Pool) (x_8 : Cs) (l_6 : List R25) (x_10 : Int), l_ = [(0, .pointer (some ⟨b0, 0, none⟩)), (2, .int .i64 0), (16, .slice A0_1 n0_1 c0_1), (17, .int .i64 (l0_1.length : Int)), (18, .int .i64 x_10)] ∧ disk_Disk_Flush.L1 l0_1 a0_2 a0_3 l0_4 ls0_0 ls0_1 as0_2 as0_3 ls0_4 ar0 kL1 l_6 x_10 ∧ (Pl T T_4) ∧ (n0_0 = l_6.length) ∧ (HRs T_4 (f25 w) x_8 l_6) ∧ St w w_ (.cells b0 (([.slice A0_0 n0_0 c0_0] : Cs) ++ (([.slice A0_1 n0_1 c0_1] : Cs) ++ (([.int .i64 a0_2] : Cs) ++ (([.bool a0_3] : Cs) ++ ([.slice A0_4 n0_4 c0_4] : Cs))))) 95 :: .sl A0_0 c0_0 n0_0 x_8 25 1 :: .sl A0_1 c0_1 n0_1 x0_1 124 2 :: .sl A0_4 c0_4 n0_4 x0_4 48 2 :: (T_4 ++ R))) (k := k_3) ⟨T, x0_0, l0_0, 0, rfl, H, Pl.refl, hn0_0, hx0_0, st0⟩ (fun _ _ h => by obtain ⟨_, _, _, _, _, h, _⟩ := h; exact h.elim) ?_
  rintro kL1 l_13 w_11 ⟨T_4, x_8, l_6, x_10, rfl, H, hs_5, hn_7, hx_9, st_12⟩
  refine CW.seq (CW.region ?_)
  refine WL.val Wanted.none (Runs.lss rfl rfl rfl) ?_
  refine WL.nil (QW.then_n ?_)
  refine CW.seq ?_
  rcases H with ⟨c_14, H⟩ | ⟨c_14, H⟩
  ·have h_15 : (decide (x_10 < (l0_1.length : Int))) = true := (decide_eq_true c_14)
   refine CW.ct rfl h_15 ?_
   refine CW.skip ?_
   refine QW.then_n ?_
   refine CW.seq ?_
   refine CW.block ?_
   refine CW.seq (CW.region ?_)
   obtain ⟨⟨p_16, q_17⟩, H⟩ := H
   obtain ⟨a_18, e_19, ms_20, hc_21, hm_22⟩ := el_get (i := (x_10).toNat) (st_12.src_sl (k := 2) rfl) (hx0_1.mono (fun _ h_ => hs_5.1 _ h_)) (fz124 w) (by decide) (by omega)
   obtain ⟨A_23, n_24, c_25, em_27, hb_26⟩ := inv124 hm_22
   replace em_27 : ms_20 = ([.int .i64 ((gx l0_1 (x_10.toNat)).1)] : Cs) ++ ([.slice A_23 n_24 c_25] : Cs) := em_27
   subst em_27
   refine WL.val Wanted.none (Runs.indexAddr Tryd.underlying93 cells124 (by decide) rfl e_19 rfl p_16 (by rw [show n0_1 = l0_1.length from hn0_1]; exact q_17) (o := (x_10.toNat) * 2) (by first | rfl | omega)) ?_
   refine WL.val Wanted.none (Runs.load_srcR row124 rfl (Src.cut (st_12.src_sl (k := 2) rfl) e_19 hc_21) rfl) ?_
   refine WL.alloc st_12 zero124 ?_
   intro B_28 w_29 st_30
   replace st_30 : St w w_29 (.cells B_28 (([.int .i64 0] : Cs) ++ ([.slice none 0 0] : Cs)) 124 :: .cells b0 (([.slice A0_0 n0_0 c0_0] : Cs) ++ (([.slice A0_1 n0_1 c0_1] : Cs) ++ (([.int .i64 a0_2] : Cs) ++ (([.bool a0_3] : Cs) ++ ([.slice A0_4 n0_4 c0_4] : Cs))))) 95 :: .sl A0_0 c0_0 n0_0 x_8 25 1 :: .sl A0_1 c0_1 n0_1 x0_1 124 2 :: .sl A0_4 c0_4 n0_4 x0_4 48 2 :: (T_4 ++ R)) := st_30
   refine WL.store_mid (i := 0) (pre := (([] : Cs))) (mid := (([.int .i64 0] : Cs) ++ ([.slice none 0 0] : Cs))) (post := (([] : Cs))) (ms := (([.int .i64 ((gx l0_1 (x_10.toNat)).1)] : Cs) ++ ([.slice A_23 n_24 c_25] : Cs))) st_30 rfl row124 (by first | rfl | simp only [List.append_assoc, List.append_nil, List.nil_append, List.cons_append]) (by first | rfl | simp only [List.length_append, List.length_cons, List.length_nil, iv_length]) rfl rfl (by first | rfl | simp only [List.length_append, List.length_cons, List.length_nil, iv_length]) (by first | rfl | simp only [List.length_append, List.length_cons, List.length_nil, iv_length]) (by intro u hu; simp only [List.mem_append, List.mem_singleton] at hu; rcases hu with hu | hu <;> first | exact one_iv _ _ u hu | (subst hu; rfl)) ?_
   intro w_32 st_33
   replace st_33 : St w w_32 (.cells B_28 (([.int .i64 ((gx l0_1 (x_10.toNat)).1)] : Cs) ++ ([.slice A_23 n_24 c_25] : Cs)) 124 :: .cells b0 (([.slice A0_0 n0_0 c0_0] : Cs) ++ (([.slice A0_1 n0_1 c0_1] : Cs) ++ (([.int .i64 a0_2] : Cs) ++ (([.bool a0_3] : Cs) ++ ([.slice A0_4 n0_4 c0_4] : Cs))))) 95 :: .sl A0_0 c0_0 n0_0 x_8 25 1 :: .sl A0_1 c0_1 n0_1 x0_1 124 2 :: .sl A0_4 c0_4 n0_4 x0_4 48 2 :: (T_4 ++ R)) := by have e_ : (([.int .i64 ((gx l0_1 (x_10.toNat)).1)] : Cs) ++ ([.slice A_23 n_24 c_25] : Cs)) = (([] : Cs)) ++ ((([.int .i64 ((gx l0_1 (x_10.toNat)).1)] : Cs) ++ ([.slice A_23 n_24 c_25] : Cs)) ++ (([] : Cs))) := (by first | rfl | simp only [List.append_assoc, List.append_nil, List.nil_append, List.cons_append]); have h_ : St w w_32 (.cells B_28 ((([] : Cs)) ++ ((([.int .i64 ((gx l0_1 (x_10.toNat)).1)] : Cs) ++ ([.slice A_23 n_24 c_25] : Cs)) ++ (([] : Cs)))) 124 :: .cells b0 (([.slice A0_0 n0_0 c0_0] : Cs) ++ (([.slice A0_1 n0_1 c0_1] : Cs) ++ (([.int .i64 a0_2] : Cs) ++ (([.bool a0_3] : Cs) ++ ([.slice A0_4 n0_4 c0_4] : Cs))))) 95 :: .sl A0_0 c0_0 n0_0 x_8 25 1 :: .sl A0_1 c0_1 n0_1 x0_1 124 2 :: .sl A0_4 c0_4 n0_4 x0_4 48 2 :: (T_4 ++ R)) := st_33; rw [← e_] at h_; exact h_
   refine WL.nil (QW.then_n ?_)
   refine CW.region_qt 9 wide (by kernel_rfl) st_33 ?_
   refine HL.val Wanted.none (fun wq sq => (Runs.move rfl)) ?_
   refine HL.val Wanted.none (fun wq sq => (Runs.nilCheck rfl)) ?_
   refine HL.val Wanted.none (fun wq sq => (Runs.fieldAddr (off := 0) (p := 0) fld95_0 rfl rfl rfl)) ?_
   refine HL.val Wanted.none (fun wq sq => (Runs.load nagg76 rfl (sq.cell (k := 1) rfl (part_one (u := .slice A0_0 n0_0 c0_0) (pre := (([] : Cs))) (post := (([.slice A0_1 n0_1 c0_1] : Cs) ++ (([.int .i64 a0_2] : Cs) ++ (([.bool a0_3] : Cs) ++ ([.slice A0_4 n0_4 c0_4] : Cs))))) (by first | rfl | simp only [List.append_assoc, List.append_nil, List.nil_append, List.cons_append]) (by first | rfl | simp only [List.length_append, List.length_cons, List.length_nil, iv_length]))))) ?_
   refine HL.val Wanted.none (fun wq sq => (Runs.fieldAddr (off := 0) (p := 0) fld124_0 rfl rfl rfl)) ?_
   refine HL.val Wanted.none (fun wq sq => (Runs.load nagg3 rfl (sq.cell (k := 0) rfl (part_one (u := .int .i64 ((gx l0_1 (x_10.toNat)).1)) (pre := (([] : Cs))) (post := (([.slice A_23 n_24 c_25] : Cs))) (by first | rfl | simp only [List.append_assoc, List.append_nil, List.nil_append, List.cons_append]) (by first | rfl | simp only [List.length_append, List.length_cons, List.length_nil, iv_length]))))) ?_
   refine HL.val Wanted.none (fun wq sq => (Runs.fieldAddr (off := 1) (p := 1) fld124_1 rfl rfl rfl)) ?_
   refine HL.val Wanted.none (fun wq sq => (Runs.load nagg25 rfl (sq.cell (k := 0) rfl (part_one (u := .slice A_23 n_24 c_25) (pre := (([.int .i64 ((gx l0_1 (x_10.toNat)).1)] : Cs))) (post := (([] : Cs))) (by first | rfl | simp only [List.append_assoc, List.append_nil, List.nil_append, List.cons_append]) (by first | rfl | simp only [List.length_append, List.length_cons, List.length_nil, iv_length]))))) ?_
   obtain ⟨⟨p_34, q_35⟩, H⟩ := H
   obtain ⟨a_36, e_37, ms_38, hc_39, hm_40⟩ := el_get (i := ((gx l0_1 (x_10.toNat)).1).toNat) (st_33.src_sl (k := 2) rfl) hx_9 (fz25 w) (by decide) (by omega)
   obtain ⟨A_41, n_42, c_43, em_45, hb_44⟩ := inv25 hm_40
   replace em_45 : ms_38 = ([.slice A_41 n_42 c_43] : Cs) := em_45
   subst em_45
   refine HL.val Wanted.none (fun wq sq => (Runs.indexAddr Tryd.underlying76 cells25 (by decide) rfl e_37 rfl p_34 (by rw [show n0_0 = l_6.length from hn_7]; exact q_35) (o := (((gx l0_1 (x_10.toNat)).1).toNat) * 1) (by first | rfl | omega))) ?_
   refine HL.nil (fun w_46 st_47 => ?_)
   obtain ⟨m_48, e_49, H⟩ := H
   have hl_56 := (hx_9).length (fz25 w)
   refine WL.storeF (i := 2) (o := (((gx l0_1 (x_10.toNat)).1).toNat) * 1) (f := 0) st_47 rfl e_37 cells25 rfl rfl (by omega) rfl ?_
   intro w_50 st_51
   obtain ⟨x_53, e_54⟩ : ∃ x_ : Cs, x_ = List.set x_8 ((((gx l0_1 (x_10.toNat)).1).toNat) * 1 + 0) (.slice A_23 n_24 c_25) := ⟨_, rfl⟩
   have hx_55 : HRs T_4 (f25 w) x_53 m_48 := by rw [e_54, e_49]; exact HRs.setF (j := 0) (u := .slice A_23 n_24 c_25) hx_9 (fz25 w) (by omega) (by decide) hc_39 (.cons ⟨_, _, _, rfl, hb_26⟩ .nil)
   have hn_52 : n0_0 = m_48.length := by rw [e_49, List.length_set]; exact hn_7
   replace st_51 : St w w_50 (.cells B_28 (([.int .i64 ((gx l0_1 (x_10.toNat)).1)] : Cs) ++ ([.slice A_23 n_24 c_25] : Cs)) 124 :: .cells b0 (([.slice A0_0 n0_0 c0_0] : Cs) ++ (([.slice A0_1 n0_1 c0_1] : Cs) ++ (([.int .i64 a0_2] : Cs) ++ (([.bool a0_3] : Cs) ++ ([.slice A0_4 n0_4 c0_4] : Cs))))) 95 :: .sl A0_0 c0_0 n0_0 x_53 25 1 :: .sl A0_1 c0_1 n0_1 x0_1 124 2 :: .sl A0_4 c0_4 n0_4 x0_4 48 2 :: (T_4 ++ R)) := by rw [e_54]; exact st_51
   refine WL.nil ?_
   refine QW.blk_n ?_
   refine QW.then_n ?_
   refine CW.region ?_
   refine WL.val Wanted.none (Runs.add rfl rfl rfl) ?_
   refine WL.val Wanted.none (Runs.move rfl) ?_
   refine WL.nil ?_
   have st_51' := (St.pickT (L := [_, _, _, _, _]) st_51 [1, 2, 3, 4] (by decide))
   exact QW.at _ (by repeat' constructor) ⟨T_4, x_53, m_48, IntKind.i64.wrap (x_10 + 1), rfl, H, hs_5, hn_52, hx_55, st_51'⟩
  ·have h_15 : (decide (x_10 < (l0_1.length : Int))) = false := (decide_eq_false c_14)
   refine CW.cf rfl h_15 ?_
   refine CW.exit ?_
   refine QW.then_x ?_
   refine QW.then_x ?_
   refine QW.blk_x ?_
   refine QW.then_n ?_
   refine CW.seq (CW.region ?_)
   refine WL.val Wanted.none (Runs.move rfl) ?_
   refine WL.val Wanted.none (Runs.nilCheck rfl) ?_
   refine WL.val Wanted.none (Runs.fieldAddr (off := 1) (p := 1) fld95_1 rfl rfl rfl) ?_
   refine WL.store_one (i := 0) (u0 := .slice A0_1 n0_1 c0_1) (pre := (([.slice A0_0 n0_0 c0_0] : Cs))) (post := (([.int .i64 a0_2] : Cs) ++ (([.bool a0_3] : Cs) ++ ([.slice A0_4 n0_4 c0_4] : Cs)))) st_12 rfl cells93 (by first | rfl | simp only [List.append_assoc, List.append_nil, List.nil_append, List.cons_append]) (by first | rfl | simp only [List.length_append, List.length_cons, List.length_nil, iv_length]) rfl rfl rfl ?_
   intro w_57 st_58
   replace st_58 : St w w_57 (.cells b0 (([.slice A0_0 n0_0 c0_0] : Cs) ++ (([.slice none 0 0] : Cs) ++ (([.int .i64 a0_2] : Cs) ++ (([.bool a0_3] : Cs) ++ ([.slice A0_4 n0_4 c0_4] : Cs))))) 95 :: .sl A0_0 c0_0 n0_0 x_8 25 1 :: .sl A0_1 c0_1 n0_1 x0_1 124 2 :: .sl A0_4 c0_4 n0_4 x0_4 48 2 :: (T_4 ++ R)) := by have e_ : (([.slice A0_0 n0_0 c0_0] : Cs) ++ (([.slice none 0 0] : Cs) ++ (([.int .i64 a0_2] : Cs) ++ (([.bool a0_3] : Cs) ++ ([.slice A0_4 n0_4 c0_4] : Cs))))) = (([.slice A0_0 n0_0 c0_0] : Cs)) ++ ((([.slice none 0 0] : Cs)) ++ (([.int .i64 a0_2] : Cs) ++ (([.bool a0_3] : Cs) ++ ([.slice A0_4 n0_4 c0_4] : Cs)))) := (by first | rfl | simp only [List.append_assoc, List.append_nil, List.nil_append, List.cons_append]); have h_ : St w w_57 (.cells b0 ((([.slice A0_0 n0_0 c0_0] : Cs)) ++ ((([.slice none 0 0] : Cs)) ++ (([.int .i64 a0_2] : Cs) ++ (([.bool a0_3] : Cs) ++ ([.slice A0_4 n0_4 c0_4] : Cs))))) 95 :: .sl A0_0 c0_0 n0_0 x_8 25 1 :: .sl A0_1 c0_1 n0_1 x0_1 124 2 :: .sl A0_4 c0_4 n0_4 x0_4 48 2 :: (T_4 ++ R)) := st_58; rw [← e_] at h_; exact h_
   refine WL.nil (QW.then_n ?_)
   refine CW.sub [(0, .pointer (some ⟨b0, 0, none⟩)), (2, .int .i64 0)] ⟨rfl, rfl, trivial⟩ ?_
   refine CW.seq (CW.region ?_)
   refine WL.val Wanted.none (Runs.move rfl) ?_
   refine WL.val Wanted.none (Runs.move rfl) ?_
   refine WL.val Wanted.none (Runs.nilCheck rfl) ?_
   refine WL.val Wanted.none (Runs.fieldAddr (off := 4) (p := 4) fld95_4 rfl rfl rfl) ?_
   refine WL.val Wanted.none (Runs.load nagg43 rfl (st_58.cell (k := 0) rfl (part_one (u := .slice A0_4 n0_4 c0_4) (pre := (([.slice A0_0 n0_0 c0_0] : Cs) ++ (([.slice none 0 0] : Cs) ++ (([.int .i64 a0_2] : Cs) ++ ([.bool a0_3] : Cs))))) (post := (([] : Cs))) (by first | rfl | simp only [List.append_assoc, List.append_nil, List.nil_append, List.cons_append]) (by first | rfl | simp only [List.length_append, List.length_cons, List.length_nil, iv_length])))) ?_
   refine WL.val Wanted.none (Runs.build_struct (ps := [(0, 1), (1, 1)]) (cs := (([.int .i64 3] : Cs) ++ ([.int .i64 0] : Cs))) plc48 zero48 rfl (by refine Fills.cons (o := 0) (ms := (([.int .i64 3] : Cs))) (show _ = some (0, (([.int .i64 3] : Cs)).length) by rw [show (([.int .i64 3] : Cs)).length = 1 from (by first | rfl | simp only [List.length_append, List.length_cons, List.length_nil, iv_length])] <;> rfl) rfl (by have h1_ : (([.int .i64 3] : Cs)).length = 1 := (by first | rfl | simp only [List.length_append, List.length_cons, List.length_nil, iv_length]); have h2_ : (([.int .i64 0] : Cs) ++ ([.int .i64 0] : Cs)).length = 2 := (by first | rfl | simp only [List.length_append, List.length_cons, List.length_nil, iv_length]); omega) ?_; rw [show layV (([.int .i64 0] : Cs) ++ ([.int .i64 0] : Cs)) 0 (([.int .i64 3] : Cs)) = (([.int .i64 3] : Cs) ++ ([.int .i64 0] : Cs)) from (layV_mid (pre := (([] : Cs))) (mid := (([.int .i64 0] : Cs))) (post := (([.int .i64 0] : Cs))) (by first | rfl | simp only [List.append_assoc, List.append_nil, List.nil_append, List.cons_append]) (by first | rfl | simp only [List.length_append, List.length_cons, List.length_nil, iv_length]) (Eq.trans (b := 1) (by first | rfl | simp only [List.length_append, List.length_cons, List.length_nil, iv_length]) (Eq.symm (by first | rfl | simp only [List.length_append, List.length_cons, List.length_nil, iv_length])))).trans (by first | rfl | simp only [List.append_assoc, List.append_nil, List.nil_append, List.cons_append])]; exact Fills.nil)) ?_
   obtain ⟨ii_59, z_60, h_61, h_62, h_63, h_64⟩ := slr48_1
   refine WL.buildSlRows (sz := 2) (cs := (([.int .i64 3] : Cs) ++ ([.int .i64 0] : Cs))) st_58 Tryd.underlying43 h_61 h_62 h_63 (by decide) (by decide) h_64 rfl (by refine Fills.cons (o := 0) (ms := (([.int .i64 3] : Cs) ++ ([.int .i64 0] : Cs))) (show _ = some (0, (([.int .i64 3] : Cs) ++ ([.int .i64 0] : Cs)).length) by rw [show (([.int .i64 3] : Cs) ++ ([.int .i64 0] : Cs)).length = 2 from (by first | rfl | simp only [List.length_append, List.length_cons, List.length_nil, iv_length])] <;> rfl) rfl (by have h1_ : (([.int .i64 3] : Cs) ++ ([.int .i64 0] : Cs)).length = 2 := (by first | rfl | simp only [List.length_append, List.length_cons, List.length_nil, iv_length]); have h2_ : (([.int .i64 0] : Cs) ++ ([.int .i64 0] : Cs)).length = 2 := (by first | rfl | simp only [List.length_append, List.length_cons, List.length_nil, iv_length]); omega) ?_; rw [show layV (([.int .i64 0] : Cs) ++ ([.int .i64 0] : Cs)) 0 (([.int .i64 3] : Cs) ++ ([.int .i64 0] : Cs)) = (([.int .i64 3] : Cs) ++ ([.int .i64 0] : Cs)) from (layV_mid (pre := (([] : Cs))) (mid := (([.int .i64 0] : Cs) ++ ([.int .i64 0] : Cs))) (post := (([] : Cs))) (by first | rfl | simp only [List.append_assoc, List.append_nil, List.nil_append, List.cons_append]) (by first | rfl | simp only [List.length_append, List.length_cons, List.length_nil, iv_length]) (Eq.trans (b := 2) (by first | rfl | simp only [List.length_append, List.length_cons, List.length_nil, iv_length]) (Eq.symm (by first | rfl | simp only [List.length_append, List.length_cons, List.length_nil, iv_length])))).trans (by first | rfl | simp only [List.append_assoc, List.append_nil, List.nil_append, List.cons_append])]; exact Fills.nil) ?_
   intro B_65 w_66 st_67
   replace st_67 : St w w_66 (.cells B_65 (([.int .i64 3] : Cs) ++ ([.int .i64 0] : Cs)) 48 :: .cells b0 (([.slice A0_0 n0_0 c0_0] : Cs) ++ (([.slice none 0 0] : Cs) ++ (([.int .i64 a0_2] : Cs) ++ (([.bool a0_3] : Cs) ++ ([.slice A0_4 n0_4 c0_4] : Cs))))) 95 :: .sl A0_0 c0_0 n0_0 x_8 25 1 :: .sl A0_1 c0_1 n0_1 x0_1 124 2 :: .sl A0_4 c0_4 n0_4 x0_4 48 2 :: (T_4 ++ R)) := st_67
   have st_69 := St.rows_sl (i := 0) (m := 1) (size := 2) st_67 rfl rfl (by decide)
   obtain ⟨x_70, e_71⟩ : ∃ x_ : Cs, x_ = ([.int .i64 3] : Cs) ++ ([.int .i64 0] : Cs) := ⟨_, rfl⟩
   have hx_72 : HRs T_4 (f48 w) x_70 ([(3, 0)] : List R48) := by rw [e_71]; exact (HRs.one (.cons rfl (.cons rfl .nil)))
   replace st_69 : St w w_66 (.sl (some ⟨B_65, 0, none⟩) 1 1 x_70 48 2 :: .cells b0 (([.slice A0_0 n0_0 c0_0] : Cs) ++ (([.slice none 0 0] : Cs) ++ (([.int .i64 a0_2] : Cs) ++ (([.bool a0_3] : Cs) ++ ([.slice A0_4 n0_4 c0_4] : Cs))))) 95 :: .sl A0_0 c0_0 n0_0 x_8 25 1 :: .sl A0_1 c0_1 n0_1 x0_1 124 2 :: .sl A0_4 c0_4 n0_4 x0_4 48 2 :: (T_4 ++ R)) := by rw [e_71]; exact st_69
   obtain ⟨m_73, e_74, H⟩ := H
   obtain ⟨z_75, H⟩ := H
   obtain ⟨n_78, hn_81⟩ : ∃ n_ : Nat, n_ = m_73.length := ⟨_, rfl⟩
   refine WL.appendR (i := 4) (N := n_78) (news := x_70) Wanted.none st_69 rfl Tryd.underlying43 elemS48 rfl rfl (st_69.src_sl (k := 0) rfl) (by have h1_ := (hx_72).length (fz48 w); have h2_ : 1 = ([(3, 0)] : List R48).length := rfl; rw [h1_, h2_]) (HLs.one hx_72) (by decide) (by have h1_ : n0_4 = l0_4.length := hn0_4; have h2_ : 1 = ([(3, 0)] : List R48).length := rfl; rw [hn_81, e_74, List.length_append]; omega) (by rw [hn_81]; exact z_75) ?_
   intro A_76 c_77 w_79 st_80
   obtain ⟨x_82, e_83⟩ : ∃ x_ : Cs, x_ = x0_4 ++ x_70 := ⟨_, rfl⟩
   have hx_84 : HRs T_4 (f48 w) x_82 m_73 := by rw [e_83, e_74]; exact HRs.append (hx0_4.mono (fun _ h_ => hs_5.1 _ h_)) hx_72
   replace st_80 : St w w_79 (.sl (some ⟨B_65, 0, none⟩) 1 1 x_70 48 2 :: .cells b0 (([.slice A0_0 n0_0 c0_0] : Cs) ++ (([.slice none 0 0] : Cs) ++ (([.int .i64 a0_2] : Cs) ++ (([.bool a0_3] : Cs) ++ ([.slice A0_4 n0_4 c0_4] : Cs))))) 95 :: .sl A0_0 c0_0 n0_0 x_8 25 1 :: .sl A0_1 c0_1 n0_1 x0_1 124 2 :: .sl A_76 c_77 n_78 x_82 48 2 :: (T_4 ++ R)) := by rw [e_83]; exact st_80
   refine WL.val Wanted.none (Runs.nilCheck rfl) ?_
   refine WL.val Wanted.none (Runs.fieldAddr (off := 4) (p := 4) fld95_4 rfl rfl rfl) ?_
   refine WL.store_one (i := 1) (u0 := .slice A0_4 n0_4 c0_4) (pre := (([.slice A0_0 n0_0 c0_0] : Cs) ++ (([.slice none 0 0] : Cs) ++ (([.int .i64 a0_2] : Cs) ++ ([.bool a0_3] : Cs))))) (post := (([] : Cs))) st_80 rfl cells43 (by first | rfl | simp only [List.append_assoc, List.append_nil, List.nil_append, List.cons_append]) (by first | rfl | simp only [List.length_append, List.length_cons, List.length_nil, iv_length]) rfl rfl rfl ?_
   intro w_85 st_86
   replace st_86 : St w w_85 (.sl (some ⟨B_65, 0, none⟩) 1 1 x_70 48 2 :: .cells b0 (([.slice A0_0 n0_0 c0_0] : Cs) ++ (([.slice none 0 0] : Cs) ++ (([.int .i64 a0_2] : Cs) ++ (([.bool a0_3] : Cs) ++ ([.slice A_76 n_78 c_77] : Cs))))) 95 :: .sl A0_0 c0_0 n0_0 x_8 25 1 :: .sl A0_1 c0_1 n0_1 x0_1 124 2 :: .sl A_76 c_77 n_78 x_82 48 2 :: (T_4 ++ R)) := by have e_ : (([.slice A0_0 n0_0 c0_0] : Cs) ++ (([.slice none 0 0] : Cs) ++ (([.int .i64 a0_2] : Cs) ++ (([.bool a0_3] : Cs) ++ ([.slice A_76 n_78 c_77] : Cs))))) = (([.slice A0_0 n0_0 c0_0] : Cs) ++ (([.slice none 0 0] : Cs) ++ (([.int .i64 a0_2] : Cs) ++ ([.bool a0_3] : Cs)))) ++ ((([.slice A_76 n_78 c_77] : Cs)) ++ (([] : Cs))) := (by first | rfl | simp only [List.append_assoc, List.append_nil, List.nil_append, List.cons_append]); have h_ : St w w_85 (.sl (some ⟨B_65, 0, none⟩) 1 1 x_70 48 2 :: .cells b0 ((([.slice A0_0 n0_0 c0_0] : Cs) ++ (([.slice none 0 0] : Cs) ++ (([.int .i64 a0_2] : Cs) ++ ([.bool a0_3] : Cs)))) ++ ((([.slice A_76 n_78 c_77] : Cs)) ++ (([] : Cs)))) 95 :: .sl A0_0 c0_0 n0_0 x_8 25 1 :: .sl A0_1 c0_1 n0_1 x0_1 124 2 :: .sl A_76 c_77 n_78 x_82 48 2 :: (T_4 ++ R)) := st_86; rw [← e_] at h_; exact h_
   refine WL.nil (QW.then_n ?_)
   refine CW.sub [(2, .int .i64 0)] ⟨rfl, trivial⟩ ?_
   refine CW.seq (CW.region ?_)
   refine WL.val Wanted.none (Runs.assign rfl) ?_
   refine WL.nil (QW.then_n ?_)
   refine CW.ret ?_
   have st_88 := st_86.nil_sl 124 2
   have st_88 : St w w_85 (.sl none 0 0 ([] : Cs) 124 2 :: .sl (some ⟨B_65, 0, none⟩) 1 1 x_70 48 2 :: .cells b0 (([.slice A0_0 n0_0 c0_0] : Cs) ++ (([.slice none 0 0] : Cs) ++ (([.int .i64 a0_2] : Cs) ++ (([.bool a0_3] : Cs) ++ ([.slice A_76 n_78 c_77] : Cs))))) 95 :: .sl A0_0 c0_0 n0_0 x_8 25 1 :: .sl A0_1 c0_1 n0_1 x0_1 124 2 :: .sl A_76 c_77 n_78 x_82 48 2 :: (T_4 ++ R)) := st_88
   obtain ⟨rfl, rfl, rfl, rfl, rfl, rfl⟩ := H
   exact QW.ret1 rfl rfl ⟨T_4, A0_0, n0_0, c0_0, x_8, none, 0, 0, ([] : Cs), A_76, n_78, c_77, x_82, hs_5, hn_7, hx_9, rfl, (HRs.nil : HRs T_4 (f124 w) [] []), hn_81, hx_84, rfl, (St.pickT (L := [_, _, _, _, _, _]) st_88 [2, 3, 0, 5] (by decide))⟩

/-! ### disk_Disk_Image: function 27 -/
def disk_Disk_Image.L1 (l0_0 : List R25) (l0_1 : List R124) (a0_2 : Int) (a0_3 : Bool) (l0_4 : List R48) (ls0_0 : List R25) (ls0_1 : List R124) (as0_2 : Int) (as0_3 : Bool) (ls0_4 : List R48) (lr0 : List R25) : Nat → (List R25) → Int → Prop
 | 0, _, _ => False
 | kL1 + 1, l_6, x_13 => ((x_13 < (l0_0.length : Int) ∧ ((0 ≤ x_13 ∧ x_13 < (l0_0.length : Int)) ∧ (∃ (r_35 : List Int), slices_Clone_s_byte_byte.rel (gx l0_0 (x_13.toNat)) r_35 ∧ (∃ m_53 : List R25, m_53 = l_6 ++ ([r_35] : List R25) ∧ (m_53.length ≤ 1099511627776 ∧ disk_Disk_Image.L1 l0_0 l0_1 a0_2 a0_3 l0_4 ls0_0 ls0_1 as0_2 as0_3 ls0_4 lr0 kL1 m_53 (IntKind.i64.wrap (x_13 + 1))))))) ∨ (¬ (x_13 < (l0_0.length : Int)) ∧ ls0_0 = l0_0 ∧ ls0_1 = l0_1 ∧ as0_2 = a0_2 ∧ as0_3 = a0_3 ∧ ls0_4 = l0_4 ∧ lr0 = l_6))
def disk_Disk_Image.rel (l0_0 : List R25) (l0_1 : List R124) (a0_2 : Int) (a0_3 : Bool) (l0_4 : List R48) (ls0_0 : List R25) (ls0_1 : List R124) (as0_2 : Int) (as0_3 : Bool) (ls0_4 : List R48) (lr0 : List R25) : Prop := (∃ k_ : Nat, disk_Disk_Image.L1 l0_0 l0_1 a0_2 a0_3 l0_4 ls0_0 ls0_1 as0_2 as0_3 ls0_4 lr0 k_ ([] : List R25) 0)
set_option maxHeartbeats 1000000 in
set_option maxRecDepth 100000 in
theorem disk_Disk_Image.calls (w w1 : World) (T R : Pool) (l0_0 : List R25) (l0_1 : List R124) (a0_2 : Int) (a0_3 : Bool) (l0_4 : List R48) (b0 : Nat) (A0_0 : Option Addr) (n0_0 : Nat) (c0_0 : Nat) (x0_0 : Cs) (A0_1 : Option Addr) (n0_1 : Nat) (c0_1 : Nat) (x0_1 : Cs) (A0_4 : Option Addr) (n0_4 : Nat) (c0_4 : Nat) (x0_4 : Cs) (st0 : St w w1 (.cells b0 (([.slice A0_0 n0_0 c0_0] : Cs) ++ (([.slice A0_1 n0_1 c0_1] : Cs) ++ (([.int .i64 a0_2] : Cs) ++ (([.bool a0_3] : Cs) ++ ([.slice A0_4 n0_4 c0_4] : Cs))))) 95 :: .sl A0_0 c0_0 n0_0 x0_0 25 1 :: .sl A0_1 c0_1 n0_1 x0_1 124 2 :: .sl A0_4 c0_4 n0_4 x0_4 48 2 :: (T ++ R))) (hn0_0 : n0_0 = l0_0.length) (hx0_0 : HRs T (f25 w) x0_0 l0_0) (hn0_1 : n0_1 = l0_1.length) (hx0_1 : HRs T (f124 w) x0_1 l0_1) (hn0_4 : n0_4 = l0_4.length) (hx0_4 : HRs T (f48 w) x0_4 l0_4) (ls0_0 : List R25) (ls0_1 : List R124) (as0_2 : Int) (as0_3 : Bool) (ls0_4 : List R48) (lr0 : List R25) (H : disk_Disk_Image.rel l0_0 l0_1 a0_2 a0_3 l0_4 ls0_0 ls0_1 as0_2 as0_3 ls0_4 lr0) :
  Calls Tryd.prog 27 #[.pointer (some ⟨b0, 0, none⟩)] w1 fun e w' => ∃ T' As0_0 ns0_0 cs0_0 xs0_0 As0_1 ns0_1 cs0_1 xs0_1 As0_4 ns0_4 cs0_4 xs0_4 Ar0 nr0 cr0 xr0, Pl T T' ∧ ns0_0 = ls0_0.length ∧ HRs T' (f25 w) xs0_0 ls0_0 ∧ ns0_1 = ls0_1.length ∧ HRs T' (f124 w) xs0_1 ls0_1 ∧ ns0_4 = ls0_4.length ∧ HRs T' (f48 w) xs0_4 ls0_4 ∧ nr0 = lr0.length ∧ HRs T' (f25 w) xr0 lr0 ∧ e = .returned (.slice Ar0 nr0 cr0) ∧ St w w' (.cells b0 (([.slice As0_0 ns0_0 cs0_0] : Cs) ++ (([.slice As0_1 ns0_1 cs0_1] : Cs) ++ (([.int .i64 as0_2] : Cs) ++ (([.bool as0_3] : Cs) ++ ([.slice As0_4 ns0_4 cs0_4] : Cs))))) 95 :: .sl As0_0 cs0_0 ns0_0 xs0_0 25 1 :: .sl As0_1 cs0_1 ns0_1 xs0_1 124 2 :: .sl As0_4 cs0_4 ns0_4 xs0_4 48 2 :: .sl Ar0 cr0 nr0 xr0 25 1 :: (T' ++ R)) := by
 refine CW.enter Tryd.func27 rfl (n := 24) rfl [.pointer (some ⟨b0, 0, none⟩)] (Nat.le_of_ble_eq_true rfl) ?_
 refine CW.sub [(0, .pointer (some ⟨b0, 0, none⟩))] ⟨rfl, trivial⟩ ?_
 refine CW.seq (CW.region ?_)
 refine WL.val Wanted.none (Runs.assign rfl) ?_
 refine WL.nil (QW.then_n ?_)
 refine CW.seq ?_
 refine CW.seq (CW.region ?_)
 refine WL.val Wanted.none (Runs.move rfl) ?_
 refine WL.val Wanted.none (Runs.eql_ptr Tryd.underlying30 rfl rfl rfl) ?_
 refine WL.nil (QW.then_n ?_)
 refine CW.cf rfl rfl ?_
 refine CW.skip ?_
 refine QW.then_n ?_
 refine CW.seq (CW.region ?_)
 refine WL.val Wanted.none (Runs.assign rfl) ?_
 refine WL.nil (QW.then_n ?_)
 refine CW.seq ?_
 refine CW.seq (CW.region ?_)
 refine WL.val Wanted.none (Runs.move rfl) ?_
 refine WL.val Wanted.none (Runs.nilCheck rfl) ?_
 refine WL.val Wanted.none (Runs.fieldAddr (off := 0) (p := 0) fld95_0 rfl rfl rfl) ?_
 refine WL.val Wanted.none (Runs.load nagg76 rfl (st0.cell (k := 0) rfl (part_one (u := .slice A0_0 n0_0 c0_0) (pre := (([] : Cs))) (post := (([.slice A0_1 n0_1 c0_1] : Cs) ++ (([.int .i64 a0_2] : Cs) ++ (([.bool a0_3] : Cs) ++ ([.slice A0_4 n0_4 c0_4] : Cs))))) (by first | rfl | simp only [List.append_assoc, List.append_nil, List.nil_append, List.cons_append]) (by first | rfl | simp only [List.length_append, List.length_cons, List.length_nil, iv_length])))) ?_
 refine WL.val Wanted.none (Runs.len_sl Tryd.underlying76 rfl (by rw [hn0_0])) ?_
 refine WL.val Wanted.none (Runs.move rfl) ?_
 refine WL.nil (QW.then_n ?_)
 refine CW.sub [(2, .slice none 0 0), (3, .slice none 0 0), (11, .slice A0_0 n0_0 c0_0), (12, .int .i64 (l0_0.length : Int)), (13, .int .i64 0)] ⟨rfl, rfl, rfl, rfl, rfl, trivial⟩ ?_
 refine CW.block ?_
 have st_2 := st0.nil_sl 25 1
 have st_2 : St w w1 (.sl none 0 0 ([] : Cs) 25 1 :: .cells b0 (([.slice A0_0 n0_0 c0_0] : Cs) ++ (([.slice A0_1 n0_1 c0_1] : Cs) ++ (([.int .i64 a0_2] : Cs) ++ (([.bool a0_3] : Cs) ++ ([.slice A0_4 n0_4 c0_4] : Cs))))) 95 :: .sl A0_0 c0_0 n0_0 x0_0 25 1 :: .sl A0_1 c0_1 n0_1 x0_1 124 2 :: .sl A0_4 c0_4 n0_4 x0_4 48 2 :: (T ++ R)) := st_2
 obtain ⟨k_3, H⟩ := H
 refine CW.sub [(2, .slice none 0 0), (3, .slice none 0 0), (11, .slice A0_0 n0_0 c0_0), (12, .int .i64 (l0_0.length : Int)), (13, .int .i64 0)] ⟨rfl, rfl, rfl, rfl, rfl, trivial⟩ ?_
 refine CW.loop (fun kL1 l_ w_ => ∃ (T_4 : Pool) (A_10 : Option Addr) (c_11 : Nat) (n_12 : Nat) (x_8 : Cs) (l_6 : List R25) (x_13 : Int), l_ = [(2, .slice none 0 0), (3, .slice A_10 n_12 c_11), (11, .slice A0_0 n0_0 c0_0), (12, .int .i64 (l0_0.length : Int)), (13, .int .i64 x_13)] ∧ disk_Disk_Image.L1 l0_0 l0_1 a0_2 a0_3 l0_4 ls0_0 ls0_1 as0_2 as0_3 ls0_4 lr0 kL1 l_6 x_13 ∧ (Pl T T_4) ∧ (n_12 = l_6.length) ∧ (HRs T_4 (f25 w) x_8 l_6) ∧ St w w_ (.sl A_10 c_11 n_12 x_8 25 1 :: .cells b0 (([.slice A0_0 n0_0 c0_0] : Cs) ++ (([.slice A0_1 n0_1 c0_1] : Cs) ++ (([.int .i64 a0_2] : Cs) ++ (([.bool a0_3] : Cs) ++ ([.slice A0_4 n0_4 c0_4] : Cs))))) 95 :: .sl A0_0 c0_0 n0_0 x0_0 25 1 :: .sl A0_1 c0_1 n0_1 x0_1 124 2 :: .sl A0_4 c0_4 n0_4 x0_4 48 2 :: (T_4 ++ R))) (k := k_3) ⟨T, none, 0, 0, ([] : Cs), ([] : List R25), 0, rfl, H, Pl.refl, rfl, (HRs.nil : HRs T (f25 w) [] []), st_2⟩ (fun _ _ h => by obtain ⟨_, _, _, _, _, _, _, _, h, _⟩ := h; exact h.elim) ?_
 rintro kL1 l_16 w_14 ⟨T_4, A_10, c_11, n_12, x_8, l_6, x_13, rfl, H, hs_5, hn_7, hx_9, st_15⟩
 refine CW.seq (CW.region ?_)
 refine WL.val Wanted.none (Runs.lss rfl rfl rfl) ?_
 refine WL.nil (QW.then_n ?_)
 refine CW.seq ?_
 rcases H with ⟨c_17, H⟩ | ⟨c_17, H⟩
 ·have h_18 : (decide (x_13 < (l0_0.length : Int))) = true := (decide_eq_true c_17)
  refine CW.ct rfl h_18 ?_
  refine CW.skip ?_
  refine QW.then_n ?_
  refine CW.seq ?_
  refine CW.block ?_
  refine CW.seq (CW.region ?_)
  obtain ⟨⟨p_19, q_20⟩, H⟩ := H
  obtain ⟨a_21, e_22, ms_23, hc_24, hm_25⟩ := el_get (i := (x_13).toNat) (st_15.src_sl (k := 2) rfl) (hx0_0.mono (fun _ h_ => hs_5.1 _ h_)) (fz25 w) (by decide) (by omega)
  obtain ⟨A_26, n_27, c_28, em_30, hb_29⟩ := inv25 hm_25
  replace em_30 : ms_23 = ([.slice A_26 n_27 c_28] : Cs) := em_30
  subst em_30
  refine WL.val Wanted.none (Runs.indexAddr Tryd.underlying76 cells25 (by decide) rfl e_22 rfl p_19 (by rw [show n0_0 = l0_0.length from hn0_0]; exact q_20) (o := (x_13.toNat) * 1) (by first | rfl | omega)) ?_
  refine WL.val Wanted.none (Runs.load nagg25 rfl (Src.cellAt (j := 0) (Src.cut (st_15.src_sl (k := 2) rfl) e_22 hc_24) rfl)) ?_
  refine WL.val Wanted.none (Runs.assign rfl) ?_
  refine WL.nil (QW.then_n ?_)
  refine CW.region ?_
  refine WL.val Wanted.none (Runs.move rfl) ?_
  refine WL.val Wanted.none (Runs.move rfl) ?_
  obtain ⟨r_35, hr_31, H⟩ := H
  refine WL.call Wanted.none ent48 rfl (slices_Clone_s_byte_byte.calls w_14 (gx l0_0 (x_13.toNat)) A_26 n_27 c_28 ((hb_29.2.2.at st_15 (mem_T (A := [_, _, _, _, _]) (fun _ h_ => h_)))) (hb_29.1) (hb_29.2.1) r_35 hr_31) ?_
  rintro _ w_32 ⟨A_36, c_37, n_38, hn_39, rfl, sc_34⟩
  have st_33 : St w w_32 (.sl A_36 c_37 n_38 (iv .u8 r_35) 5 1 :: .sl A_10 c_11 n_12 x_8 25 1 :: .cells b0 (([.slice A0_0 n0_0 c0_0] : Cs) ++ (([.slice A0_1 n0_1 c0_1] : Cs) ++ (([.int .i64 a0_2] : Cs) ++ (([.bool a0_3] : Cs) ++ ([.slice A0_4 n0_4 c0_4] : Cs))))) 95 :: .sl A0_0 c0_0 n0_0 x0_0 25 1 :: .sl A0_1 c0_1 n0_1 x0_1 124 2 :: .sl A0_4 c0_4 n0_4 x0_4 48 2 :: (T_4 ++ R)) := st_15.call sc_34
  refine ⟨_, rfl, ?_⟩
  have hb_45c := st_33.cap (i := 0) rfl
  obtain ⟨T_41, hs_42, hm_43, st_44⟩ := St.freeze (A := []) (B := [_, _, _, _, _]) (T := T_4) (R := R) st_33
  have hb_45 : HB w T_41 A_36 n_38 c_37 (iv .u8 r_35) r_35.length := ⟨hn_39, hb_45c, Hd.of_sl hm_43⟩
  replace st_44 : St w w_32 (.sl A_10 c_11 n_12 x_8 25 1 :: .cells b0 (([.slice A0_0 n0_0 c0_0] : Cs) ++ (([.slice A0_1 n0_1 c0_1] : Cs) ++ (([.int .i64 a0_2] : Cs) ++ (([.bool a0_3] : Cs) ++ ([.slice A0_4 n0_4 c0_4] : Cs))))) 95 :: .sl A0_0 c0_0 n0_0 x0_0 25 1 :: .sl A0_1 c0_1 n0_1 x0_1 124 2 :: .sl A0_4 c0_4 n0_4 x0_4 48 2 :: (T_41 ++ R)) := st_44
  refine WL.buildSl [.slice A_36 n_38 c_37] st_44 Tryd.underlying76 elem25 rfl rfl (by decide) (by decide) (by simp [Value.cells]) ?_
  intro B_46 w_47 st_48
  replace st_48 : St w w_47 (.sl (some ⟨B_46, 0, none⟩) 1 1 [.slice A_36 n_38 c_37] 25 1 :: .sl A_10 c_11 n_12 x_8 25 1 :: .cells b0 (([.slice A0_0 n0_0 c0_0] : Cs) ++ (([.slice A0_1 n0_1 c0_1] : Cs) ++ (([.int .i64 a0_2] : Cs) ++ (([.bool a0_3] : Cs) ++ ([.slice A0_4 n0_4 c0_4] : Cs))))) 95 :: .sl A0_0 c0_0 n0_0 x0_0 25 1 :: .sl A0_1 c0_1 n0_1 x0_1 124 2 :: .sl A0_4 c0_4 n0_4 x0_4 48 2 :: (T_41 ++ R)) := st_48
  obtain ⟨x_50, e_51⟩ : ∃ x_ : Cs, x_ = [.slice A_36 n_38 c_37] := ⟨_, rfl⟩
  have hx_52 : HRs T_41 (f25 w) x_50 ([r_35] : List R25) := by rw [e_51]; exact (HRs.one (.cons ⟨_, _, _, rfl, hb_45⟩ .nil))
  replace st_48 : St w w_47 (.sl (some ⟨B_46, 0, none⟩) 1 1 x_50 25 1 :: .sl A_10 c_11 n_12 x_8 25 1 :: .cells b0 (([.slice A0_0 n0_0 c0_0] : Cs) ++ (([.slice A0_1 n0_1 c0_1] : Cs) ++ (([.int .i64 a0_2] : Cs) ++ (([.bool a0_3] : Cs) ++ ([.slice A0_4 n0_4 c0_4] : Cs))))) 95 :: .sl A0_0 c0_0 n0_0 x0_0 25 1 :: .sl A0_1 c0_1 n0_1 x0_1 124 2 :: .sl A0_4 c0_4 n0_4 x0_4 48 2 :: (T_41 ++ R)) := by rw [e_51]; exact st_48
  obtain ⟨m_53, e_54, H⟩ := H
  obtain ⟨z_55, H⟩ := H
  obtain ⟨n_58, hn_61⟩ : ∃ n_ : Nat, n_ = m_53.length := ⟨_, rfl⟩
  refine WL.appendR (i := 1) (N := n_58) (news := x_50) Wanted.none st_48 rfl Tryd.underlying76 elemS25 rfl rfl (st_48.src_sl (k := 0) rfl) (by have h1_ := (hx_52).length (fz25 w); have h2_ : 1 = ([r_35] : List R25).length := rfl; rw [h1_, h2_]) (HLs.one hx_52) (by decide) (by have h1_ : n_12 = l_6.length := hn_7; have h2_ : 1 = ([r_35] : List R25).length := rfl; rw [hn_61, e_54, List.length_append]; omega) (by rw [hn_61]; exact z_55) ?_
  intro A_56 c_57 w_59 st_60
  obtain ⟨x_62, e_63⟩ : ∃ x_ : Cs, x_ = x_8 ++ x_50 := ⟨_, rfl⟩
  have hx_64 : HRs T_41 (f25 w) x_62 m_53 := by rw [e_63, e_54]; exact HRs.append (hx_9.mono (fun _ h_ => hs_42.1 _ h_)) hx_52
  replace st_60 : St w w_59 (.sl (some ⟨B_46, 0, none⟩) 1 1 x_50 25 1 :: .sl A_56 c_57 n_58 x_62 25 1 :: .cells b0 (([.slice A0_0 n0_0 c0_0] : Cs) ++ (([.slice A0_1 n0_1 c0_1] : Cs) ++ (([.int .i64 a0_2] : Cs) ++ (([.bool a0_3] : Cs) ++ ([.slice A0_4 n0_4 c0_4] : Cs))))) 95 :: .sl A0_0 c0_0 n0_0 x0_0 25 1 :: .sl A0_1 c0_1 n0_1 x0_1 124 2 :: .sl A0_4 c0_4 n0_4 x0_4 48 2 :: (T_41 ++ R)) := by rw [e_63]; exact st_60
  refine WL.val Wanted.none (Runs.assign rfl) ?_
  refine WL.nil ?_
  refine QW.blk_n ?_
  refine QW.then_n ?_
  refine CW.region ?_
  refine WL.val Wanted.none (Runs.add rfl rfl rfl) ?_
  refine WL.val Wanted.none (Runs.move rfl) ?_
  refine WL.nil ?_
  have st_60' := (St.pickT (L := [_, _, _, _, _, _]) st_60 [1, 2, 3, 4, 5] (by decide))
  exact QW.at _ (by repeat' constructor) ⟨T_41, A_56, c_57, n_58, x_62, m_53, IntKind.i64.wrap (x_13 + 1), rfl, H, (hs_5.trans hs_42), hn_61, hx_64, st_60'⟩
 ·have h_18 : (decide (x_13 < (l0_0.length : Int))) = false := (decide_eq_false c_17)
  refine CW.cf rfl h_18 ?_
  refine CW.exit ?_
  refine QW.then_x ?_
  refine QW.then_x ?_
  refine QW.blk_x ?_
  refine QW.then_n ?_
  refine CW.seq (CW.region ?_)
  refine WL.val Wanted.none (Runs.move rfl) ?_
  refine WL.val Wanted.none (Runs.assign rfl) ?_
  refine WL.nil (QW.then_n ?_)
  refine CW.sub [(2, .slice A_10 n_12 c_11)] ⟨rfl, trivial⟩ ?_
  refine CW.ret ?_
  obtain ⟨rfl, rfl, rfl, rfl, rfl, rfl⟩ := H
  exact QW.ret1 rfl rfl ⟨T_4, A0_0, n0_0, c0_0, x0_0, A0_1, n0_1, c0_1, x0_1, A0_4, n0_4, c0_4, x0_4, A_10, n_12, c_11, x_8, hs_5, hn0_0, (hx0_0.mono (fun _ h_ => hs_5.1 _ h_)), hn0_1, (hx0_1.mono (fun _ h_ => hs_5.1 _ h_)), hn0_4, (hx0_4.mono (fun _ h_ => hs_5.1 _ h_)), hn_7, hx_9, rfl, (St.pickT (L := [_, _, _, _, _]) st_15 [1, 2, 3, 4, 0] (by decide))⟩

end Go.Proofs.YtmhcjafkdmcgoaaDoor
