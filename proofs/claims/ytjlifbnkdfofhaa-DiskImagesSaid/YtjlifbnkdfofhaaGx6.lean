/- Walks: each function computes what its relation says, and a call of it ends so. Printed by a program of this session (wip/gen). -/
import Derived.Test.YtjlifbnkdfofhaaGx5
namespace Go.Proofs.Ytjlifbnkdfofhaa
open Go Go.Kr Go.RowKit
set_option linter.unusedVariables false
set_option linter.unusedSimpArgs false
/-! ### disk_Disk_Image: function 17 -/
def disk_Disk_Image.L1 (l0_0 : List R22) (l0_1 : List R69) (a0_2 : Int) (a0_3 : Bool) (l0_4 : List R71) (ls0_0 : List R22) (ls0_1 : List R69) (as0_2 : Int) (as0_3 : Bool) (ls0_4 : List R71) (lr0 : List R22) : Nat → (List R22) → Int → Prop
 | 0, _, _ => False
 | kL1 + 1, l_6, x_13 => ((x_13 < (l0_0.length : Int) ∧ ((0 ≤ x_13 ∧ x_13 < (l0_0.length : Int)) ∧ (∃ (r_35 : List Int), slices_Clone_s_byte_byte.rel (gx l0_0 (x_13.toNat)) r_35 ∧ (∃ m_53 : List R22, m_53 = l_6 ++ ([r_35] : List R22) ∧ (m_53.length ≤ 1099511627776 ∧ disk_Disk_Image.L1 l0_0 l0_1 a0_2 a0_3 l0_4 ls0_0 ls0_1 as0_2 as0_3 ls0_4 lr0 kL1 m_53 (IntKind.i64.wrap (x_13 + 1))))))) ∨ (¬ (x_13 < (l0_0.length : Int)) ∧ ls0_0 = l0_0 ∧ ls0_1 = l0_1 ∧ as0_2 = a0_2 ∧ as0_3 = a0_3 ∧ ls0_4 = l0_4 ∧ lr0 = l_6))
def disk_Disk_Image.rel (l0_0 : List R22) (l0_1 : List R69) (a0_2 : Int) (a0_3 : Bool) (l0_4 : List R71) (ls0_0 : List R22) (ls0_1 : List R69) (as0_2 : Int) (as0_3 : Bool) (ls0_4 : List R71) (lr0 : List R22) : Prop := (∃ k_ : Nat, disk_Disk_Image.L1 l0_0 l0_1 a0_2 a0_3 l0_4 ls0_0 ls0_1 as0_2 as0_3 ls0_4 lr0 k_ ([] : List R22) 0)
set_option maxHeartbeats 1000000 in
set_option maxRecDepth 100000 in
theorem disk_Disk_Image.calls (w w1 : World) (T R : Pool) (l0_0 : List R22) (l0_1 : List R69) (a0_2 : Int) (a0_3 : Bool) (l0_4 : List R71) (b0 : Nat) (A0_0 : Option Addr) (n0_0 : Nat) (c0_0 : Nat) (x0_0 : Cs) (A0_1 : Option Addr) (n0_1 : Nat) (c0_1 : Nat) (x0_1 : Cs) (A0_4 : Option Addr) (n0_4 : Nat) (c0_4 : Nat) (x0_4 : Cs) (st0 : St w w1 (.cells b0 (([.slice A0_0 n0_0 c0_0] : Cs) ++ (([.slice A0_1 n0_1 c0_1] : Cs) ++ (([.int .i64 a0_2] : Cs) ++ (([.bool a0_3] : Cs) ++ ([.slice A0_4 n0_4 c0_4] : Cs))))) 66 :: .sl A0_0 c0_0 n0_0 x0_0 22 1 :: .sl A0_1 c0_1 n0_1 x0_1 69 2 :: .sl A0_4 c0_4 n0_4 x0_4 71 2 :: (T ++ R))) (hn0_0 : n0_0 = l0_0.length) (hx0_0 : HRs T (f22 w) x0_0 l0_0) (hn0_1 : n0_1 = l0_1.length) (hx0_1 : HRs T (f69 w) x0_1 l0_1) (hn0_4 : n0_4 = l0_4.length) (hx0_4 : HRs T (f71 w) x0_4 l0_4) (ls0_0 : List R22) (ls0_1 : List R69) (as0_2 : Int) (as0_3 : Bool) (ls0_4 : List R71) (lr0 : List R22) (H : disk_Disk_Image.rel l0_0 l0_1 a0_2 a0_3 l0_4 ls0_0 ls0_1 as0_2 as0_3 ls0_4 lr0) :
  Calls Try.prog 17 #[.pointer (some ⟨b0, 0, none⟩)] w1 fun e w' => ∃ T' As0_0 ns0_0 cs0_0 xs0_0 As0_1 ns0_1 cs0_1 xs0_1 As0_4 ns0_4 cs0_4 xs0_4 Ar0 nr0 cr0 xr0, Pl T T' ∧ ns0_0 = ls0_0.length ∧ HRs T' (f22 w) xs0_0 ls0_0 ∧ ns0_1 = ls0_1.length ∧ HRs T' (f69 w) xs0_1 ls0_1 ∧ ns0_4 = ls0_4.length ∧ HRs T' (f71 w) xs0_4 ls0_4 ∧ nr0 = lr0.length ∧ HRs T' (f22 w) xr0 lr0 ∧ e = .returned (.slice Ar0 nr0 cr0) ∧ St w w' (.cells b0 (([.slice As0_0 ns0_0 cs0_0] : Cs) ++ (([.slice As0_1 ns0_1 cs0_1] : Cs) ++ (([.int .i64 as0_2] : Cs) ++ (([.bool as0_3] : Cs) ++ ([.slice As0_4 ns0_4 cs0_4] : Cs))))) 66 :: .sl As0_0 cs0_0 ns0_0 xs0_0 22 1 :: .sl As0_1 cs0_1 ns0_1 xs0_1 69 2 :: .sl As0_4 cs0_4 ns0_4 xs0_4 71 2 :: .sl Ar0 cr0 nr0 xr0 22 1 :: (T' ++ R)) := by
 refine CW.enter Try.func17 rfl (n := 24) rfl [.pointer (some ⟨b0, 0, none⟩)] (Nat.le_of_ble_eq_true rfl) ?_
 refine CW.sub [(0, .pointer (some ⟨b0, 0, none⟩))] ⟨rfl, trivial⟩ ?_
 refine CW.seq (CW.region ?_)
 refine WL.val Wanted.none (Runs.assign rfl) ?_
 refine WL.nil (QW.then_n ?_)
 refine CW.seq ?_
 refine CW.seq (CW.region ?_)
 refine WL.val Wanted.none (Runs.move rfl) ?_
 refine WL.val Wanted.none (Runs.eql_ptr Try.underlying25 rfl rfl rfl) ?_
 refine WL.nil (QW.then_n ?_)
 refine CW.cf rfl rfl ?_
 refine CW.skip ?_
 refine QW.then_n ?_
 refine CW.seq (CW.region ?_)
 refine WL.val Wanted.none (Runs.assign rfl) ?_
 refine WL.nil (QW.then_n ?_)
 refine CW.seq ?_
 refine CW.seq (CW.region ?_)
 refine WL.val Wanted.none (Runs.move rfl) ?_
 refine WL.val Wanted.none (Runs.nilCheck rfl) ?_
 refine WL.val Wanted.none (Runs.fieldAddr (off := 0) (p := 0) fld66_0 rfl rfl rfl) ?_
 refine WL.val Wanted.none (Runs.load nagg41 rfl (st0.cell (k := 0) rfl (part_one (u := .slice A0_0 n0_0 c0_0) (pre := (([] : Cs))) (post := (([.slice A0_1 n0_1 c0_1] : Cs) ++ (([.int .i64 a0_2] : Cs) ++ (([.bool a0_3] : Cs) ++ ([.slice A0_4 n0_4 c0_4] : Cs))))) (by first | rfl | simp only [List.append_assoc, List.append_nil, List.nil_append, List.cons_append]) (by first | rfl | simp only [List.length_append, List.length_cons, List.length_nil, iv_length])))) ?_
 refine WL.val Wanted.none (Runs.len_sl Try.underlying41 rfl (by rw [hn0_0])) ?_
 refine WL.val Wanted.none (Runs.move rfl) ?_
 refine WL.nil (QW.then_n ?_)
 refine CW.sub [(2, .slice none 0 0), (3, .slice none 0 0), (11, .slice A0_0 n0_0 c0_0), (12, .int .i64 (l0_0.length : Int)), (13, .int .i64 0)] ⟨rfl, rfl, rfl, rfl, rfl, trivial⟩ ?_
 refine CW.block ?_
 have st_2 := st0.nil_sl 22 1
 have st_2 : St w w1 (.sl none 0 0 ([] : Cs) 22 1 :: .cells b0 (([.slice A0_0 n0_0 c0_0] : Cs) ++ (([.slice A0_1 n0_1 c0_1] : Cs) ++ (([.int .i64 a0_2] : Cs) ++ (([.bool a0_3] : Cs) ++ ([.slice A0_4 n0_4 c0_4] : Cs))))) 66 :: .sl A0_0 c0_0 n0_0 x0_0 22 1 :: .sl A0_1 c0_1 n0_1 x0_1 69 2 :: .sl A0_4 c0_4 n0_4 x0_4 71 2 :: (T ++ R)) := st_2
 obtain ⟨k_3, H⟩ := H
 refine CW.sub [(2, .slice none 0 0), (3, .slice none 0 0), (11, .slice A0_0 n0_0 c0_0), (12, .int .i64 (l0_0.length : Int)), (13, .int .i64 0)] ⟨rfl, rfl, rfl, rfl, rfl, trivial⟩ ?_
 refine CW.loop (fun kL1 l_ w_ => ∃ (T_4 : Pool) (A_10 : Option Addr) (c_11 : Nat) (n_12 : Nat) (x_8 : Cs) (l_6 : List R22) (x_13 : Int), l_ = [(2, .slice none 0 0), (3, .slice A_10 n_12 c_11), (11, .slice A0_0 n0_0 c0_0), (12, .int .i64 (l0_0.length : Int)), (13, .int .i64 x_13)] ∧ disk_Disk_Image.L1 l0_0 l0_1 a0_2 a0_3 l0_4 ls0_0 ls0_1 as0_2 as0_3 ls0_4 lr0 kL1 l_6 x_13 ∧ (Pl T T_4) ∧ (n_12 = l_6.length) ∧ (HRs T_4 (f22 w) x_8 l_6) ∧ St w w_ (.sl A_10 c_11 n_12 x_8 22 1 :: .cells b0 (([.slice A0_0 n0_0 c0_0] : Cs) ++ (([.slice A0_1 n0_1 c0_1] : Cs) ++ (([.int .i64 a0_2] : Cs) ++ (([.bool a0_3] : Cs) ++ ([.slice A0_4 n0_4 c0_4] : Cs))))) 66 :: .sl A0_0 c0_0 n0_0 x0_0 22 1 :: .sl A0_1 c0_1 n0_1 x0_1 69 2 :: .sl A0_4 c0_4 n0_4 x0_4 71 2 :: (T_4 ++ R))) (k := k_3) ⟨T, none, 0, 0, ([] : Cs), ([] : List R22), 0, rfl, H, Pl.refl, rfl, (HRs.nil : HRs T (f22 w) [] []), st_2⟩ (fun _ _ h => by obtain ⟨_, _, _, _, _, _, _, _, h, _⟩ := h; exact h.elim) ?_
 rintro kL1 l_16 w_14 ⟨T_4, A_10, c_11, n_12, x_8, l_6, x_13, rfl, H, hs_5, hn_7, hx_9, st_15⟩
 refine CW.seq (CW.region ?_)
 refine WL.val Wanted.none (Runs.lss rfl rfl rfl) ?_
 refine WL.nil (QW.then_n ?_)
 refine CW.seq ?_
 rcases H with ⟨c_17, H⟩ | ⟨c_17, H⟩
 ·have h_18 : (decide (x_13 < (l0_0.length : Int))) = true := (decide_eq_true c_17)
  refine CW.ct rfl h_18 ?_
  refine CW.skip ?_
  refine QW.then_n ?_
  refine CW.seq ?_
  refine CW.block ?_
  refine CW.seq (CW.region ?_)
  obtain ⟨⟨p_19, q_20⟩, H⟩ := H
  obtain ⟨a_21, e_22, ms_23, hc_24, hm_25⟩ := el_get (i := (x_13).toNat) (st_15.src_sl (k := 2) rfl) (hx0_0.mono (fun _ h_ => hs_5.1 _ h_)) (fz22 w) (by decide) (by omega)
  obtain ⟨A_26, n_27, c_28, em_30, hb_29⟩ := inv22 hm_25
  replace em_30 : ms_23 = ([.slice A_26 n_27 c_28] : Cs) := em_30
  subst em_30
  refine WL.val Wanted.none (Runs.indexAddr Try.underlying41 cells22 (by decide) rfl e_22 rfl p_19 (by rw [show n0_0 = l0_0.length from hn0_0]; exact q_20) (o := (x_13.toNat) * 1) (by first | rfl | omega)) ?_
  refine WL.val Wanted.none (Runs.load nagg22 rfl (Src.cellAt (j := 0) (Src.cut (st_15.src_sl (k := 2) rfl) e_22 hc_24) rfl)) ?_
  refine WL.val Wanted.none (Runs.assign rfl) ?_
  refine WL.nil (QW.then_n ?_)
  refine CW.region ?_
  refine WL.val Wanted.none (Runs.move rfl) ?_
  refine WL.val Wanted.none (Runs.move rfl) ?_
  obtain ⟨r_35, hr_31, H⟩ := H
  refine WL.call Wanted.none ent29 rfl (slices_Clone_s_byte_byte.calls w_14 (gx l0_0 (x_13.toNat)) A_26 n_27 c_28 ((hb_29.2.2.at st_15 (mem_T (A := [_, _, _, _, _]) (fun _ h_ => h_)))) (hb_29.1) (hb_29.2.1) r_35 hr_31) ?_
  rintro _ w_32 ⟨A_36, c_37, n_38, hn_39, rfl, sc_34⟩
  have st_33 : St w w_32 (.sl A_36 c_37 n_38 (iv .u8 r_35) 5 1 :: .sl A_10 c_11 n_12 x_8 22 1 :: .cells b0 (([.slice A0_0 n0_0 c0_0] : Cs) ++ (([.slice A0_1 n0_1 c0_1] : Cs) ++ (([.int .i64 a0_2] : Cs) ++ (([.bool a0_3] : Cs) ++ ([.slice A0_4 n0_4 c0_4] : Cs))))) 66 :: .sl A0_0 c0_0 n0_0 x0_0 22 1 :: .sl A0_1 c0_1 n0_1 x0_1 69 2 :: .sl A0_4 c0_4 n0_4 x0_4 71 2 :: (T_4 ++ R)) := st_15.call sc_34
  refine ⟨_, rfl, ?_⟩
  have hb_45c := st_33.cap (i := 0) rfl
  obtain ⟨T_41, hs_42, hm_43, st_44⟩ := St.freeze (A := []) (B := [_, _, _, _, _]) (T := T_4) (R := R) st_33
  have hb_45 : HB w T_41 A_36 n_38 c_37 (iv .u8 r_35) r_35.length := ⟨hn_39, hb_45c, Hd.of_sl hm_43⟩
  replace st_44 : St w w_32 (.sl A_10 c_11 n_12 x_8 22 1 :: .cells b0 (([.slice A0_0 n0_0 c0_0] : Cs) ++ (([.slice A0_1 n0_1 c0_1] : Cs) ++ (([.int .i64 a0_2] : Cs) ++ (([.bool a0_3] : Cs) ++ ([.slice A0_4 n0_4 c0_4] : Cs))))) 66 :: .sl A0_0 c0_0 n0_0 x0_0 22 1 :: .sl A0_1 c0_1 n0_1 x0_1 69 2 :: .sl A0_4 c0_4 n0_4 x0_4 71 2 :: (T_41 ++ R)) := st_44
  refine WL.buildSl [.slice A_36 n_38 c_37] st_44 Try.underlying41 elem22 rfl rfl (by decide) (by decide) (by simp [Value.cells]) ?_
  intro B_46 w_47 st_48
  replace st_48 : St w w_47 (.sl (some ⟨B_46, 0, none⟩) 1 1 [.slice A_36 n_38 c_37] 22 1 :: .sl A_10 c_11 n_12 x_8 22 1 :: .cells b0 (([.slice A0_0 n0_0 c0_0] : Cs) ++ (([.slice A0_1 n0_1 c0_1] : Cs) ++ (([.int .i64 a0_2] : Cs) ++ (([.bool a0_3] : Cs) ++ ([.slice A0_4 n0_4 c0_4] : Cs))))) 66 :: .sl A0_0 c0_0 n0_0 x0_0 22 1 :: .sl A0_1 c0_1 n0_1 x0_1 69 2 :: .sl A0_4 c0_4 n0_4 x0_4 71 2 :: (T_41 ++ R)) := st_48
  obtain ⟨x_50, e_51⟩ : ∃ x_ : Cs, x_ = [.slice A_36 n_38 c_37] := ⟨_, rfl⟩
  have hx_52 : HRs T_41 (f22 w) x_50 ([r_35] : List R22) := by rw [e_51]; exact (HRs.one (.cons ⟨_, _, _, rfl, hb_45⟩ .nil))
  replace st_48 : St w w_47 (.sl (some ⟨B_46, 0, none⟩) 1 1 x_50 22 1 :: .sl A_10 c_11 n_12 x_8 22 1 :: .cells b0 (([.slice A0_0 n0_0 c0_0] : Cs) ++ (([.slice A0_1 n0_1 c0_1] : Cs) ++ (([.int .i64 a0_2] : Cs) ++ (([.bool a0_3] : Cs) ++ ([.slice A0_4 n0_4 c0_4] : Cs))))) 66 :: .sl A0_0 c0_0 n0_0 x0_0 22 1 :: .sl A0_1 c0_1 n0_1 x0_1 69 2 :: .sl A0_4 c0_4 n0_4 x0_4 71 2 :: (T_41 ++ R)) := by rw [e_51]; exact st_48
  obtain ⟨m_53, e_54, H⟩ := H
  obtain ⟨z_55, H⟩ := H
  obtain ⟨n_58, hn_61⟩ : ∃ n_ : Nat, n_ = m_53.length := ⟨_, rfl⟩
  refine WL.appendR (i := 1) (N := n_58) (news := x_50) Wanted.none st_48 rfl Try.underlying41 elemS22 rfl rfl (st_48.src_sl (k := 0) rfl) (by have h1_ := (hx_52).length (fz22 w); have h2_ : 1 = ([r_35] : List R22).length := rfl; rw [h1_, h2_]) (HLs.one hx_52) (by decide) (by have h1_ : n_12 = l_6.length := hn_7; have h2_ : 1 = ([r_35] : List R22).length := rfl; rw [hn_61, e_54, List.length_append]; omega) (by rw [hn_61]; exact z_55) ?_
  intro A_56 c_57 w_59 st_60
  obtain ⟨x_62, e_63⟩ : ∃ x_ : Cs, x_ = x_8 ++ x_50 := ⟨_, rfl⟩
  have hx_64 : HRs T_41 (f22 w) x_62 m_53 := by rw [e_63, e_54]; exact HRs.append (hx_9.mono (fun _ h_ => hs_42.1 _ h_)) hx_52
  replace st_60 : St w w_59 (.sl (some ⟨B_46, 0, none⟩) 1 1 x_50 22 1 :: .sl A_56 c_57 n_58 x_62 22 1 :: .cells b0 (([.slice A0_0 n0_0 c0_0] : Cs) ++ (([.slice A0_1 n0_1 c0_1] : Cs) ++ (([.int .i64 a0_2] : Cs) ++ (([.bool a0_3] : Cs) ++ ([.slice A0_4 n0_4 c0_4] : Cs))))) 66 :: .sl A0_0 c0_0 n0_0 x0_0 22 1 :: .sl A0_1 c0_1 n0_1 x0_1 69 2 :: .sl A0_4 c0_4 n0_4 x0_4 71 2 :: (T_41 ++ R)) := by rw [e_63]; exact st_60
  refine WL.val Wanted.none (Runs.assign rfl) ?_
  refine WL.nil ?_
  refine QW.blk_n ?_
  refine QW.then_n ?_
  refine CW.region ?_
  refine WL.val Wanted.none (Runs.add rfl rfl rfl) ?_
  refine WL.val Wanted.none (Runs.move rfl) ?_
  refine WL.nil ?_
  have st_60' := (St.pickT (L := [_, _, _, _, _, _]) st_60 [1, 2, 3, 4, 5] (by decide))
  exact QW.at _ (by repeat' constructor) ⟨T_41, A_56, c_57, n_58, x_62, m_53, IntKind.i64.wrap (x_13 + 1), rfl, H, (hs_5.trans hs_42), hn_61, hx_64, st_60'⟩
 ·have h_18 : (decide (x_13 < (l0_0.length : Int))) = false := (decide_eq_false c_17)
  refine CW.cf rfl h_18 ?_
  refine CW.exit ?_
  refine QW.then_x ?_
  refine QW.then_x ?_
  refine QW.blk_x ?_
  refine QW.then_n ?_
  refine CW.seq (CW.region ?_)
  refine WL.val Wanted.none (Runs.move rfl) ?_
  refine WL.val Wanted.none (Runs.assign rfl) ?_
  refine WL.nil (QW.then_n ?_)
  refine CW.sub [(2, .slice A_10 n_12 c_11)] ⟨rfl, trivial⟩ ?_
  refine CW.ret ?_
  obtain ⟨rfl, rfl, rfl, rfl, rfl, rfl⟩ := H
  exact QW.ret1 rfl rfl ⟨T_4, A0_0, n0_0, c0_0, x0_0, A0_1, n0_1, c0_1, x0_1, A0_4, n0_4, c0_4, x0_4, A_10, n_12, c_11, x_8, hs_5, hn0_0, (hx0_0.mono (fun _ h_ => hs_5.1 _ h_)), hn0_1, (hx0_1.mono (fun _ h_ => hs_5.1 _ h_)), hn0_4, (hx0_4.mono (fun _ h_ => hs_5.1 _ h_)), hn_7, hx_9, rfl, (St.pickT (L := [_, _, _, _, _]) st_15 [1, 2, 3, 4, 0] (by decide))⟩

/-! ### reliquaryref06_Image: function 21 -/
def reliquaryref06_Image.L1 (a0_0 : Int) (l0_1 : List R86) (l0_2 : List R86) (a0_3 : Int) (a0_4 : Bool) (l0_5 : List R81) (lr0 : List R9) : Nat → (List R9) → Int → Prop
 | 0, _, _ => False
 | kL1 + 1, l_10, x_17 => ((x_17 < a0_0 ∧ (∃ (a_28 : ByteArray), reliquaryref06_At.rel a0_0 l0_1 l0_2 a0_3 a0_4 l0_5 x_17 a_28 ∧ (∃ m_39 : List R9, m_39 = l_10 ++ ([a_28] : List R9) ∧ (m_39.length ≤ 1099511627776 ∧ reliquaryref06_Image.L1 a0_0 l0_1 l0_2 a0_3 a0_4 l0_5 lr0 kL1 m_39 (IntKind.i64.wrap (x_17 + 1)))))) ∨ (¬ (x_17 < a0_0) ∧ lr0 = l_10))
def reliquaryref06_Image.rel (a0_0 : Int) (l0_1 : List R86) (l0_2 : List R86) (a0_3 : Int) (a0_4 : Bool) (l0_5 : List R81) (lr0 : List R9) : Prop := (∃ k_ : Nat, reliquaryref06_Image.L1 a0_0 l0_1 l0_2 a0_3 a0_4 l0_5 lr0 k_ ([] : List R9) 0)
set_option maxHeartbeats 1000000 in
set_option maxRecDepth 100000 in
theorem reliquaryref06_Image.calls (w w1 : World) (T R : Pool) (a0_0 : Int) (l0_1 : List R86) (l0_2 : List R86) (a0_3 : Int) (a0_4 : Bool) (l0_5 : List R81) (A0_1 : Option Addr) (n0_1 : Nat) (c0_1 : Nat) (A0_2 : Option Addr) (n0_2 : Nat) (c0_2 : Nat) (A0_5 : Option Addr) (n0_5 : Nat) (c0_5 : Nat) (st0 : St w w1 ((T ++ R))) (hb0_1 : HS w T T A0_1 n0_1 c0_1 (f86 w) l0_1) (hb0_2 : HS w T T A0_2 n0_2 c0_2 (f86 w) l0_2) (hb0_5 : HS w T T A0_5 n0_5 c0_5 (f81 w) l0_5) (lr0 : List R9) (H : reliquaryref06_Image.rel a0_0 l0_1 l0_2 a0_3 a0_4 l0_5 lr0) :
  Calls Try.prog 21 #[.agg (([.int .i64 a0_0] : Cs) ++ (([.slice A0_1 n0_1 c0_1] : Cs) ++ (([.slice A0_2 n0_2 c0_2] : Cs) ++ (([.int .i64 a0_3] : Cs) ++ (([.bool a0_4] : Cs) ++ ([.slice A0_5 n0_5 c0_5] : Cs)))))).toArray] w1 fun e w' => ∃ T' Ar0 nr0 cr0 xr0, Pl T T' ∧ nr0 = lr0.length ∧ HRs T' (f9 w) xr0 lr0 ∧ e = .returned (.slice Ar0 nr0 cr0) ∧ St w w' (.sl Ar0 cr0 nr0 xr0 9 1 :: (T' ++ R)) := by
 refine CW.enter Try.func21 rfl (n := 18) rfl [.agg (([.int .i64 a0_0] : Cs) ++ (([.slice A0_1 n0_1 c0_1] : Cs) ++ (([.slice A0_2 n0_2 c0_2] : Cs) ++ (([.int .i64 a0_3] : Cs) ++ (([.bool a0_4] : Cs) ++ ([.slice A0_5 n0_5 c0_5] : Cs)))))).toArray] (Nat.le_of_ble_eq_true rfl) ?_
 refine CW.sub [(0, .agg (([.int .i64 a0_0] : Cs) ++ (([.slice A0_1 n0_1 c0_1] : Cs) ++ (([.slice A0_2 n0_2 c0_2] : Cs) ++ (([.int .i64 a0_3] : Cs) ++ (([.bool a0_4] : Cs) ++ ([.slice A0_5 n0_5 c0_5] : Cs)))))).toArray)] ⟨rfl, trivial⟩ ?_
 refine CW.seq (CW.region ?_)
 refine WL.box st0 rfl rfl ?_
 intro B_1 w_2 st_3
 replace st_3 : St w w_2 (.cells B_1 (([.int .i64 a0_0] : Cs) ++ (([.slice A0_1 n0_1 c0_1] : Cs) ++ (([.slice A0_2 n0_2 c0_2] : Cs) ++ (([.int .i64 a0_3] : Cs) ++ (([.bool a0_4] : Cs) ++ ([.slice A0_5 n0_5 c0_5] : Cs)))))) 48 :: (T ++ R)) := st_3
 refine WL.val Wanted.none (Runs.assign rfl) ?_
 refine WL.nil (QW.then_n ?_)
 refine CW.seq (CW.region ?_)
 refine WL.val Wanted.none (Runs.assign rfl) ?_
 refine WL.nil (QW.then_n ?_)
 refine CW.seq ?_
 refine CW.seq (CW.region ?_)
 refine WL.val Wanted.none (Runs.assign rfl) ?_
 refine WL.nil (QW.then_n ?_)
 refine CW.block ?_
 have st_6 := st_3.nil_sl 9 1
 have st_6 : St w w_2 (.sl none 0 0 ([] : Cs) 9 1 :: .cells B_1 (([.int .i64 a0_0] : Cs) ++ (([.slice A0_1 n0_1 c0_1] : Cs) ++ (([.slice A0_2 n0_2 c0_2] : Cs) ++ (([.int .i64 a0_3] : Cs) ++ (([.bool a0_4] : Cs) ++ ([.slice A0_5 n0_5 c0_5] : Cs)))))) 48 :: (T ++ R)) := st_6
 obtain ⟨k_7, H⟩ := H
 refine CW.sub [(1, .pointer (some ⟨B_1, 0, none⟩)), (2, .slice none 0 0), (3, .slice none 0 0), (4, .int .i64 0)] ⟨rfl, rfl, rfl, rfl, trivial⟩ ?_
 refine CW.loop (fun kL1 l_ w_ => ∃ (T_8 : Pool) (A_14 : Option Addr) (c_15 : Nat) (n_16 : Nat) (x_12 : Cs) (l_10 : List R9) (x_17 : Int), l_ = [(1, .pointer (some ⟨B_1, 0, none⟩)), (2, .slice none 0 0), (3, .slice A_14 n_16 c_15), (4, .int .i64 x_17)] ∧ reliquaryref06_Image.L1 a0_0 l0_1 l0_2 a0_3 a0_4 l0_5 lr0 kL1 l_10 x_17 ∧ (Pl T T_8) ∧ (n_16 = l_10.length) ∧ (HRs T_8 (f9 w) x_12 l_10) ∧ St w w_ (.sl A_14 c_15 n_16 x_12 9 1 :: .cells B_1 (([.int .i64 a0_0] : Cs) ++ (([.slice A0_1 n0_1 c0_1] : Cs) ++ (([.slice A0_2 n0_2 c0_2] : Cs) ++ (([.int .i64 a0_3] : Cs) ++ (([.bool a0_4] : Cs) ++ ([.slice A0_5 n0_5 c0_5] : Cs)))))) 48 :: (T_8 ++ R))) (k := k_7) ⟨T, none, 0, 0, ([] : Cs), ([] : List R9), 0, rfl, H, Pl.refl, rfl, (HRs.nil : HRs T (f9 w) [] []), st_6⟩ (fun _ _ h => by obtain ⟨_, _, _, _, _, _, _, _, h, _⟩ := h; exact h.elim) ?_
 rintro kL1 l_20 w_18 ⟨T_8, A_14, c_15, n_16, x_12, l_10, x_17, rfl, H, hs_9, hn_11, hx_13, st_19⟩
 refine CW.seq ?_
 refine CW.seq (CW.region ?_)
 refine WL.val Wanted.none (Runs.move rfl) ?_
 refine WL.val Wanted.none (Runs.fieldAddr (off := 0) (p := 0) fld48_0 rfl rfl rfl) ?_
 refine WL.val Wanted.none (Runs.load nagg3 rfl (st_19.cell (k := 1) rfl (part_one (u := .int .i64 a0_0) (pre := (([] : Cs))) (post := (([.slice A0_1 n0_1 c0_1] : Cs) ++ (([.slice A0_2 n0_2 c0_2] : Cs) ++ (([.int .i64 a0_3] : Cs) ++ (([.bool a0_4] : Cs) ++ ([.slice A0_5 n0_5 c0_5] : Cs)))))) (by first | rfl | simp only [List.append_assoc, List.append_nil, List.nil_append, List.cons_append]) (by first | rfl | simp only [List.length_append, List.length_cons, List.length_nil, iv_length])))) ?_
 refine WL.val Wanted.none (Runs.lss rfl rfl rfl) ?_
 refine WL.nil (QW.then_n ?_)
 rcases H with ⟨c_21, H⟩ | ⟨c_21, H⟩
 ·have h_22 : (decide (x_17 < a0_0)) = true := (decide_eq_true c_21)
  refine CW.ct rfl h_22 ?_
  refine CW.skip ?_
  refine QW.then_n ?_
  refine CW.seq ?_
  refine CW.block ?_
  refine CW.region ?_
  refine WL.val Wanted.none (Runs.move rfl) ?_
  refine WL.val Wanted.none (Runs.load_mid row48 rfl st_19 (i := 1) rfl (part_mid (pre := (([] : Cs))) (mid := (([.int .i64 a0_0] : Cs) ++ (([.slice A0_1 n0_1 c0_1] : Cs) ++ (([.slice A0_2 n0_2 c0_2] : Cs) ++ (([.int .i64 a0_3] : Cs) ++ (([.bool a0_4] : Cs) ++ ([.slice A0_5 n0_5 c0_5] : Cs))))))) (post := (([] : Cs))) (by first | rfl | simp only [List.append_assoc, List.append_nil, List.nil_append, List.cons_append]) (by first | rfl | simp only [List.length_append, List.length_cons, List.length_nil, iv_length]) (by first | rfl | simp only [List.length_append, List.length_cons, List.length_nil, iv_length])) (by first | rfl | simp only [List.length_append, List.length_cons, List.length_nil, iv_length])) ?_
  refine WL.val Wanted.none (Runs.move rfl) ?_
  have st_23 : St w w_18 ((T_8 ++ (.sl A_14 c_15 n_16 x_12 9 1 :: .cells B_1 (([.int .i64 a0_0] : Cs) ++ (([.slice A0_1 n0_1 c0_1] : Cs) ++ (([.slice A0_2 n0_2 c0_2] : Cs) ++ (([.int .i64 a0_3] : Cs) ++ (([.bool a0_4] : Cs) ++ ([.slice A0_5 n0_5 c0_5] : Cs)))))) 48 :: R))) := St.hide (A := []) (B := [_, _]) (T := T_8) (R := R) st_19
  obtain ⟨a_28, hr_24, H⟩ := H
  refine WL.call Wanted.none ent37 rfl (reliquaryref06_At.calls w w_18 T_8 (.sl A_14 c_15 n_16 x_12 9 1 :: .cells B_1 (([.int .i64 a0_0] : Cs) ++ (([.slice A0_1 n0_1 c0_1] : Cs) ++ (([.slice A0_2 n0_2 c0_2] : Cs) ++ (([.int .i64 a0_3] : Cs) ++ (([.bool a0_4] : Cs) ++ ([.slice A0_5 n0_5 c0_5] : Cs)))))) 48 :: R) a0_0 l0_1 l0_2 a0_3 a0_4 l0_5 x_17 A0_1 n0_1 c0_1 A0_2 n0_2 c0_2 A0_5 n0_5 c0_5  st_23 (hb0_1.mono (fun _ h_ => hs_9.1 _ h_) (fun _ h_ => hs_9.1 _ h_)) (hb0_2.mono (fun _ h_ => hs_9.1 _ h_) (fun _ h_ => hs_9.1 _ h_)) (hb0_5.mono (fun _ h_ => hs_9.1 _ h_) (fun _ h_ => hs_9.1 _ h_)) a_28 hr_24) ?_
  rintro _ w_29 ⟨T_25, hs_26, rfl, sc_31⟩
  have st_30 : St w w_29 (.sl A_14 c_15 n_16 x_12 9 1 :: .cells B_1 (([.int .i64 a0_0] : Cs) ++ (([.slice A0_1 n0_1 c0_1] : Cs) ++ (([.slice A0_2 n0_2 c0_2] : Cs) ++ (([.int .i64 a0_3] : Cs) ++ (([.bool a0_4] : Cs) ++ ([.slice A0_5 n0_5 c0_5] : Cs)))))) 48 :: (T_25 ++ R)) := St.unhide (A := []) (B := [_, _]) (T := T_25) (R := R) sc_31
  refine ⟨_, rfl, ?_⟩
  refine WL.buildSl [.string a_28] st_30 Try.underlying55 elem9 rfl rfl (by decide) (by decide) (by simp [Value.cells]) ?_
  intro B_32 w_33 st_34
  replace st_34 : St w w_33 (.sl (some ⟨B_32, 0, none⟩) 1 1 [.string a_28] 9 1 :: .sl A_14 c_15 n_16 x_12 9 1 :: .cells B_1 (([.int .i64 a0_0] : Cs) ++ (([.slice A0_1 n0_1 c0_1] : Cs) ++ (([.slice A0_2 n0_2 c0_2] : Cs) ++ (([.int .i64 a0_3] : Cs) ++ (([.bool a0_4] : Cs) ++ ([.slice A0_5 n0_5 c0_5] : Cs)))))) 48 :: (T_25 ++ R)) := st_34
  obtain ⟨x_36, e_37⟩ : ∃ x_ : Cs, x_ = [.string a_28] := ⟨_, rfl⟩
  have hx_38 : HRs T_25 (f9 w) x_36 ([a_28] : List R9) := by rw [e_37]; exact (HRs.one (.cons rfl .nil))
  replace st_34 : St w w_33 (.sl (some ⟨B_32, 0, none⟩) 1 1 x_36 9 1 :: .sl A_14 c_15 n_16 x_12 9 1 :: .cells B_1 (([.int .i64 a0_0] : Cs) ++ (([.slice A0_1 n0_1 c0_1] : Cs) ++ (([.slice A0_2 n0_2 c0_2] : Cs) ++ (([.int .i64 a0_3] : Cs) ++ (([.bool a0_4] : Cs) ++ ([.slice A0_5 n0_5 c0_5] : Cs)))))) 48 :: (T_25 ++ R)) := by rw [e_37]; exact st_34
  obtain ⟨m_39, e_40, H⟩ := H
  obtain ⟨z_41, H⟩ := H
  obtain ⟨n_44, hn_47⟩ : ∃ n_ : Nat, n_ = m_39.length := ⟨_, rfl⟩
  refine WL.appendR (i := 1) (N := n_44) (news := x_36) Wanted.none st_34 rfl Try.underlying55 elemS9 rfl rfl (st_34.src_sl (k := 0) rfl) (by have h1_ := (hx_38).length (fz9 w); have h2_ : 1 = ([a_28] : List R9).length := rfl; rw [h1_, h2_]) (HLs.one hx_38) (by decide) (by have h1_ : n_16 = l_10.length := hn_11; have h2_ : 1 = ([a_28] : List R9).length := rfl; rw [hn_47, e_40, List.length_append]; omega) (by rw [hn_47]; exact z_41) ?_
  intro A_42 c_43 w_45 st_46
  obtain ⟨x_48, e_49⟩ : ∃ x_ : Cs, x_ = x_12 ++ x_36 := ⟨_, rfl⟩
  have hx_50 : HRs T_25 (f9 w) x_48 m_39 := by rw [e_49, e_40]; exact HRs.append (hx_13.mono (fun _ h_ => hs_26.1 _ h_)) hx_38
  replace st_46 : St w w_45 (.sl (some ⟨B_32, 0, none⟩) 1 1 x_36 9 1 :: .sl A_42 c_43 n_44 x_48 9 1 :: .cells B_1 (([.int .i64 a0_0] : Cs) ++ (([.slice A0_1 n0_1 c0_1] : Cs) ++ (([.slice A0_2 n0_2 c0_2] : Cs) ++ (([.int .i64 a0_3] : Cs) ++ (([.bool a0_4] : Cs) ++ ([.slice A0_5 n0_5 c0_5] : Cs)))))) 48 :: (T_25 ++ R)) := by rw [e_49]; exact st_46
  refine WL.val Wanted.none (Runs.assign rfl) ?_
  refine WL.nil ?_
  refine QW.blk_n ?_
  refine QW.then_n ?_
  refine CW.region ?_
  refine WL.val Wanted.none (Runs.move rfl) ?_
  refine WL.val Wanted.none (Runs.add rfl rfl rfl) ?_
  refine WL.val Wanted.none (Runs.assign rfl) ?_
  refine WL.nil ?_
  have st_46' := (St.pickT (L := [_, _, _]) st_46 [1, 2] (by decide))
  exact QW.at _ (by repeat' constructor) ⟨T_25, A_42, c_43, n_44, x_48, m_39, IntKind.i64.wrap (x_17 + 1), rfl, H, (hs_9.trans hs_26), hn_47, hx_50, st_46'⟩
 ·have h_22 : (decide (x_17 < a0_0)) = false := (decide_eq_false c_21)
  refine CW.cf rfl h_22 ?_
  refine CW.exit ?_
  refine QW.then_x ?_
  refine QW.then_x ?_
  refine QW.blk_x ?_
  refine QW.then_n ?_
  refine CW.sub [(2, .slice none 0 0), (3, .slice A_14 n_16 c_15)] ⟨rfl, rfl, trivial⟩ ?_
  refine CW.seq (CW.region ?_)
  refine WL.val Wanted.none (Runs.move rfl) ?_
  refine WL.val Wanted.none (Runs.assign rfl) ?_
  refine WL.nil (QW.then_n ?_)
  refine CW.ret ?_
  obtain rfl := H
  exact QW.ret1 rfl rfl ⟨T_8, A_14, n_16, c_15, x_12, hs_9, hn_11, hx_13, rfl, (St.pickT (L := [_, _]) st_19 [0] (by decide))⟩

/-! ### disk_Disk_Restore_1: function 38 -/
def disk_Disk_Restore_1.rel (l0 : List Int) (r0 : Bool) : Prop := r0 = ((l0.length : Int) != 192)
set_option maxHeartbeats 4000000 in
set_option maxRecDepth 100000 in
theorem disk_Disk_Restore_1.calls (w : World) (l0 : List Int) (A0 : Option Addr) (n0 : Nat) (c0 : Nat)  (hs0 : Src w A0 (iv .u8 l0)) (hn0 : n0 = l0.length) (hc0 : n0 ≤ c0) (r0 : Bool) (H : disk_Disk_Restore_1.rel l0 r0) :
  Calls Try.prog 38 #[.slice A0 n0 c0] w fun e w' => e = .returned (.bool r0) ∧ St w w' [] := by
 refine CW.enter Try.func38 rfl (n := 6) rfl [.slice A0 n0 c0] (Nat.le_of_ble_eq_true rfl) ?_
 refine CW.sub [(0, .slice A0 n0 c0)] ⟨rfl, trivial⟩ ?_
 have st0 : St w w [] := St.refl w
 refine CW.seq (CW.region ?_)
 refine WL.val Wanted.none (Runs.assign rfl) ?_
 refine WL.nil (QW.then_n ?_)
 refine CW.seq (CW.region ?_)
 refine WL.val Wanted.none (Runs.move rfl) ?_
 refine WL.val Wanted.none (Runs.len_sl Try.underlying22 rfl (by rw [hn0])) ?_
 refine WL.val Wanted.none (Runs.neq rfl rfl rfl) ?_
 refine WL.val Wanted.none (Runs.assign rfl) ?_
 refine WL.nil (QW.then_n ?_)
 refine CW.ret ?_
 obtain rfl := H
 exact QW.ret1 rfl rfl ⟨rfl, st0.pick [] (by decide)⟩

/-! ### slices_IndexFunc_s_s_byte_s_byte_fn1_disk_Disk_Restore_1: function 48 -/
def slices_IndexFunc_s_s_byte_s_byte_fn1_disk_Disk_Restore_1.L1 (l0 : List R22) (ar0 : Int) : Nat → Int → Int → Prop
 | 0, _, _ => False
 | kL1 + 1, x_4, x_5 => ((x_5 < (l0.length : Int) ∧ ((0 ≤ x_5 ∧ x_5 < (l0.length : Int)) ∧ (∃ (r_30 : Bool), disk_Disk_Restore_1.rel (gx l0 (x_5.toNat)) r_30 ∧ ((r_30 = true ∧ ar0 = x_5) ∨ (¬ (r_30 = true) ∧ slices_IndexFunc_s_s_byte_s_byte_fn1_disk_Disk_Restore_1.L1 l0 ar0 kL1 x_4 (IntKind.i64.wrap (x_5 + 1))))))) ∨ (¬ (x_5 < (l0.length : Int)) ∧ ar0 = -1))
def slices_IndexFunc_s_s_byte_s_byte_fn1_disk_Disk_Restore_1.rel (l0 : List R22) (ar0 : Int) : Prop := (∃ k_ : Nat, slices_IndexFunc_s_s_byte_s_byte_fn1_disk_Disk_Restore_1.L1 l0 ar0 k_ 0 0)
set_option maxHeartbeats 1000000 in
set_option maxRecDepth 100000 in
theorem slices_IndexFunc_s_s_byte_s_byte_fn1_disk_Disk_Restore_1.calls (w w1 : World) (T R : Pool) (l0 : List R22) (A0 : Option Addr) (n0 : Nat) (c0 : Nat) (st0 : St w w1 ((T ++ R))) (hb0 : HS w (T ++ R) T A0 n0 c0 (f22 w) l0) (ar0 : Int) (H : slices_IndexFunc_s_s_byte_s_byte_fn1_disk_Disk_Restore_1.rel l0 ar0) :
  Calls Try.prog 48 #[.slice A0 n0 c0, .func (.func 38) #[] #[]] w1 fun e w' => ∃ T' , Pl T T' ∧ e = .returned (.int .i64 ar0) ∧ St w w' ((T' ++ R)) := by
 refine CW.enter Try.func48 rfl (n := 19) rfl [.slice A0 n0 c0, .func (.func 38) #[] #[]] (Nat.le_of_ble_eq_true rfl) ?_
 refine CW.sub [(0, .slice A0 n0 c0), (1, .func (.func 38) #[] #[])] ⟨rfl, rfl, trivial⟩ ?_
 refine CW.seq (CW.region ?_)
 refine WL.val Wanted.none (Runs.assign rfl) ?_
 refine WL.nil (QW.then_n ?_)
 refine CW.seq ?_
 refine CW.seq (CW.region ?_)
 refine WL.val Wanted.none (Runs.move rfl) ?_
 refine WL.val Wanted.none (Runs.len_sl Try.underlying41 rfl (by rw [hb0.1])) ?_
 refine WL.val Wanted.none (Runs.move rfl) ?_
 refine WL.nil (QW.then_n ?_)
 refine CW.block ?_
 obtain ⟨k_1, H⟩ := H
 refine CW.sub [(0, .slice A0 n0 c0), (1, .func (.func 38) #[] #[]), (4, .int .i64 0), (7, .int .i64 (l0.length : Int)), (8, .int .i64 0)] ⟨rfl, rfl, rfl, rfl, rfl, trivial⟩ ?_
 refine CW.loop (fun kL1 l_ w_ => ∃ (T_2 : Pool) (x_4 : Int) (x_5 : Int), l_ = [(0, .slice A0 n0 c0), (1, .func (.func 38) #[] #[]), (4, .int .i64 x_4), (7, .int .i64 (l0.length : Int)), (8, .int .i64 x_5)] ∧ slices_IndexFunc_s_s_byte_s_byte_fn1_disk_Disk_Restore_1.L1 l0 ar0 kL1 x_4 x_5 ∧ (Pl T T_2) ∧ St w w_ ((T_2 ++ R))) (k := k_1) ⟨T, 0, 0, rfl, H, Pl.refl, st0⟩ (fun _ _ h => by obtain ⟨_, _, _, _, h, _⟩ := h; exact h.elim) ?_
 rintro kL1 l_8 w_6 ⟨T_2, x_4, x_5, rfl, H, hs_3, st_7⟩
 refine CW.seq (CW.region ?_)
 refine WL.val Wanted.none (Runs.lss rfl rfl rfl) ?_
 refine WL.nil (QW.then_n ?_)
 refine CW.seq ?_
 rcases H with ⟨c_9, H⟩ | ⟨c_9, H⟩
 ·have h_10 : (decide (x_5 < (l0.length : Int))) = true := (decide_eq_true c_9)
  refine CW.ct rfl h_10 ?_
  refine CW.skip ?_
  refine QW.then_n ?_
  refine CW.seq ?_
  refine CW.block ?_
  refine CW.seq (CW.region ?_)
  refine WL.val Wanted.none (Runs.move rfl) ?_
  refine WL.val Wanted.none (Runs.assign rfl) ?_
  refine WL.nil (QW.then_n ?_)
  refine CW.seq (CW.region ?_)
  refine WL.val Wanted.none (Runs.move rfl) ?_
  refine WL.val Wanted.none (Runs.move rfl) ?_
  refine WL.val Wanted.none (Runs.move rfl) ?_
  obtain ⟨⟨p_11, q_12⟩, H⟩ := H
  obtain ⟨x_13, hs_14, hr_15⟩ := hb0.2.2
  obtain ⟨a_16, e_17, ms_18, hc_19, hm_20⟩ := el_get (i := (x_5).toNat) ((hs_14.at st_7 (mem_TR (A := []) (fun _ h_ => hs_3.1 _ h_)))) (hr_15.mono (fun _ h_ => hs_3.1 _ h_)) (fz22 w) (by decide) (by omega)
  obtain ⟨A_21, n_22, c_23, em_25, hb_24⟩ := inv22 hm_20
  replace em_25 : ms_18 = ([.slice A_21 n_22 c_23] : Cs) := em_25
  subst em_25
  refine WL.val Wanted.none (Runs.indexAddr Try.underlying41 cells22 (by decide) rfl e_17 rfl p_11 (by rw [show n0 = l0.length from hb0.1]; exact q_12) (o := (x_5.toNat) * 1) (by first | rfl | omega)) ?_
  refine WL.val Wanted.none (Runs.load nagg22 rfl (Src.cellAt (j := 0) (Src.cut ((hs_14.at st_7 (mem_TR (A := []) (fun _ h_ => hs_3.1 _ h_)))) e_17 hc_19) rfl)) ?_
  obtain ⟨r_30, hr_26, H⟩ := H
  refine WL.callv Wanted.none ent38 rfl rfl (disk_Disk_Restore_1.calls w_6 (gx l0 (x_5.toNat)) A_21 n_22 c_23 ((hb_24.2.2.at st_7 (mem_T (A := []) (fun _ h_ => h_)))) (hb_24.1) (hb_24.2.1) r_30 hr_26) ?_
  rintro _ w_27 ⟨rfl, sc_29⟩
  have st_28 : St w w_27 ((T_2 ++ R)) := st_7.call sc_29
  refine ⟨_, rfl, ?_⟩
  refine WL.nil (QW.then_n ?_)
  rcases H with ⟨c_31, H⟩ | ⟨c_31, H⟩
  ·have h_32 : r_30 = true := c_31
   refine CW.ct rfl h_32 ?_
   refine CW.seq (CW.region ?_)
   refine WL.val Wanted.none (Runs.move rfl) ?_
   refine WL.val Wanted.none (Runs.assign rfl) ?_
   refine WL.nil (QW.then_n ?_)
   refine CW.ret ?_
   refine QW.blk_r ?_
   refine QW.then_r ?_
   refine QW.then_r ?_
   refine QW.blk_r ?_
   refine QW.then_r ?_
   obtain rfl := H
   exact QW.ret1 rfl rfl ⟨T_2, hs_3, rfl, (St.pickT (L := []) st_28 [] (by decide))⟩
  ·have h_32 : r_30 = false := (Bool.eq_false_iff.mpr c_31)
   refine CW.cf rfl h_32 ?_
   refine CW.skip ?_
   refine QW.blk_n ?_
   refine QW.then_n ?_
   refine CW.region ?_
   refine WL.val Wanted.none (Runs.add rfl rfl rfl) ?_
   refine WL.val Wanted.none (Runs.move rfl) ?_
   refine WL.nil ?_
   exact QW.at _ (by repeat' constructor) ⟨T_2, x_4, IntKind.i64.wrap (x_5 + 1), rfl, H, hs_3, st_28⟩
 ·have h_10 : (decide (x_5 < (l0.length : Int))) = false := (decide_eq_false c_9)
  refine CW.cf rfl h_10 ?_
  refine CW.exit ?_
  refine QW.then_x ?_
  refine QW.then_x ?_
  refine QW.blk_x ?_
  refine QW.then_n ?_
  refine CW.seq (CW.region ?_)
  refine WL.val Wanted.none (Runs.assign rfl) ?_
  refine WL.nil (QW.then_n ?_)
  refine CW.ret ?_
  obtain rfl := H
  exact QW.ret1 rfl rfl ⟨T_2, hs_3, rfl, (St.pickT (L := []) st_7 [] (by decide))⟩

/-! ### slices_ContainsFunc_s_s_byte_s_byte_fn1_disk_Disk_Restore_1: function 39 -/
def slices_ContainsFunc_s_s_byte_s_byte_fn1_disk_Disk_Restore_1.rel (l0 : List R22) (ar0 : Bool) : Prop := (∃ (a_6 : Int), slices_IndexFunc_s_s_byte_s_byte_fn1_disk_Disk_Restore_1.rel l0 a_6 ∧ ar0 = (decide (a_6 ≥ 0)))
set_option maxHeartbeats 1000000 in
set_option maxRecDepth 100000 in
theorem slices_ContainsFunc_s_s_byte_s_byte_fn1_disk_Disk_Restore_1.calls (w w1 : World) (T R : Pool) (l0 : List R22) (A0 : Option Addr) (n0 : Nat) (c0 : Nat) (st0 : St w w1 ((T ++ R))) (hb0 : HS w (T ++ R) T A0 n0 c0 (f22 w) l0) (ar0 : Bool) (H : slices_ContainsFunc_s_s_byte_s_byte_fn1_disk_Disk_Restore_1.rel l0 ar0) :
  Calls Try.prog 39 #[.slice A0 n0 c0, .func (.func 38) #[] #[]] w1 fun e w' => ∃ T' , Pl T T' ∧ e = .returned (.bool ar0) ∧ St w w' ((T' ++ R)) := by
 refine CW.enter Try.func39 rfl (n := 9) rfl [.slice A0 n0 c0, .func (.func 38) #[] #[]] (Nat.le_of_ble_eq_true rfl) ?_
 refine CW.sub [(0, .slice A0 n0 c0), (1, .func (.func 38) #[] #[])] ⟨rfl, rfl, trivial⟩ ?_
 refine CW.seq (CW.region ?_)
 refine WL.val Wanted.none (Runs.assign rfl) ?_
 refine WL.nil (QW.then_n ?_)
 refine CW.seq (CW.region ?_)
 refine WL.val Wanted.none (Runs.move rfl) ?_
 refine WL.val Wanted.none (Runs.move rfl) ?_
 have st_1 : St w w1 ((T ++ (R))) := St.hide (A := []) (B := []) (T := T) (R := R) st0
 obtain ⟨a_6, hr_2, H⟩ := H
 refine WL.call Wanted.none ent48 rfl (slices_IndexFunc_s_s_byte_s_byte_fn1_disk_Disk_Restore_1.calls w w1 T (R) l0 A0 n0 c0  st_1 (hb0.mono (memo_TR (B := []) (fun _ h_ => h_)) (fun _ h_ => h_)) a_6 hr_2) ?_
 rintro _ w_7 ⟨T_3, hs_4, rfl, sc_9⟩
 have st_8 : St w w_7 ((T_3 ++ R)) := St.unhide (A := []) (B := []) (T := T_3) (R := R) sc_9
 refine ⟨_, rfl, ?_⟩
 refine WL.val Wanted.none (Runs.geq rfl rfl rfl) ?_
 refine WL.val Wanted.none (Runs.assign rfl) ?_
 refine WL.nil (QW.then_n ?_)
 refine CW.sub [(4, .bool (decide (a_6 ≥ 0)))] ⟨rfl, trivial⟩ ?_
 refine CW.ret ?_
 obtain rfl := H
 exact QW.ret1 rfl rfl ⟨T_3, hs_4, rfl, (St.pickT (L := []) st_8 [] (by decide))⟩

/-! ### disk_Disk_Restore: function 22 -/
def disk_Disk_Restore.L1 (a0_2 : Int) (a0_3 : Bool) (l0_4 : List R71) (l1 : List R22) (ls0_0 : List R22) (ls0_1 : List R69) (as0_2 : Int) (as0_3 : Bool) (ls0_4 : List R71) (ar0 : Int) : Nat → (List R22) → Int → Prop
 | 0, _, _ => False
 | kL1 + 1, l_17, x_21 => ((x_21 < (l1.length : Int) ∧ ((0 ≤ x_21 ∧ x_21 < (l1.length : Int)) ∧ (∃ (r_48 : List Int), slices_Clone_s_byte_byte.rel (gx l1 (x_21.toNat)) r_48 ∧ ((0 ≤ x_21 ∧ x_21 < (l_17.length : Int)) ∧ (∃ m_71 : List R22, m_71 = List.set l_17 (x_21.toNat) r_48 ∧ disk_Disk_Restore.L1 a0_2 a0_3 l0_4 l1 ls0_0 ls0_1 as0_2 as0_3 ls0_4 ar0 kL1 m_71 (IntKind.i64.wrap (x_21 + 1))))))) ∨ (¬ (x_21 < (l1.length : Int)) ∧ ls0_0 = l_17 ∧ ls0_1 = ([] : List R69) ∧ as0_2 = a0_2 ∧ as0_3 = a0_3 ∧ ls0_4 = l0_4 ∧ ar0 = 0))
def disk_Disk_Restore.rel (l0_0 : List R22) (l0_1 : List R69) (a0_2 : Int) (a0_3 : Bool) (l0_4 : List R71) (l1 : List R22) (ls0_0 : List R22) (ls0_1 : List R69) (as0_2 : Int) (as0_3 : Bool) (ls0_4 : List R71) (ar0 : Int) : Prop := (((l1.length : Int) ≠ (l0_0.length : Int) ∧ ls0_0 = l0_0 ∧ ls0_1 = l0_1 ∧ as0_2 = a0_2 ∧ as0_3 = a0_3 ∧ ls0_4 = l0_4 ∧ ar0 = 1) ∨ (¬ ((l1.length : Int) ≠ (l0_0.length : Int)) ∧ (∃ (a_8 : Bool), slices_ContainsFunc_s_s_byte_s_byte_fn1_disk_Disk_Restore_1.rel l1 a_8 ∧ ((a_8 = true ∧ ls0_0 = l0_0 ∧ ls0_1 = l0_1 ∧ as0_2 = a0_2 ∧ as0_3 = a0_3 ∧ ls0_4 = l0_4 ∧ ar0 = 1) ∨ (¬ (a_8 = true) ∧ (∃ k_ : Nat, disk_Disk_Restore.L1 a0_2 a0_3 l0_4 l1 ls0_0 ls0_1 as0_2 as0_3 ls0_4 ar0 k_ l0_0 0))))))
set_option maxHeartbeats 1000000 in
set_option maxRecDepth 100000 in
theorem disk_Disk_Restore.calls (w w1 : World) (T R : Pool) (l0_0 : List R22) (l0_1 : List R69) (a0_2 : Int) (a0_3 : Bool) (l0_4 : List R71) (l1 : List R22) (b0 : Nat) (A0_0 : Option Addr) (n0_0 : Nat) (c0_0 : Nat) (x0_0 : Cs) (A0_1 : Option Addr) (n0_1 : Nat) (c0_1 : Nat) (x0_1 : Cs) (A0_4 : Option Addr) (n0_4 : Nat) (c0_4 : Nat) (x0_4 : Cs) (A1 : Option Addr) (n1 : Nat) (c1 : Nat) (st0 : St w w1 (.cells b0 (([.slice A0_0 n0_0 c0_0] : Cs) ++ (([.slice A0_1 n0_1 c0_1] : Cs) ++ (([.int .i64 a0_2] : Cs) ++ (([.bool a0_3] : Cs) ++ ([.slice A0_4 n0_4 c0_4] : Cs))))) 66 :: .sl A0_0 c0_0 n0_0 x0_0 22 1 :: .sl A0_1 c0_1 n0_1 x0_1 69 2 :: .sl A0_4 c0_4 n0_4 x0_4 71 2 :: (T ++ R))) (hn0_0 : n0_0 = l0_0.length) (hx0_0 : HRs T (f22 w) x0_0 l0_0) (hn0_1 : n0_1 = l0_1.length) (hx0_1 : HRs T (f69 w) x0_1 l0_1) (hn0_4 : n0_4 = l0_4.length) (hx0_4 : HRs T (f71 w) x0_4 l0_4) (hb1 : HS w (T ++ R) T A1 n1 c1 (f22 w) l1) (ls0_0 : List R22) (ls0_1 : List R69) (as0_2 : Int) (as0_3 : Bool) (ls0_4 : List R71) (ar0 : Int) (H : disk_Disk_Restore.rel l0_0 l0_1 a0_2 a0_3 l0_4 l1 ls0_0 ls0_1 as0_2 as0_3 ls0_4 ar0) :
  Calls Try.prog 22 #[.pointer (some ⟨b0, 0, none⟩), .slice A1 n1 c1] w1 fun e w' => ∃ T' As0_0 ns0_0 cs0_0 xs0_0 As0_1 ns0_1 cs0_1 xs0_1 As0_4 ns0_4 cs0_4 xs0_4, Pl T T' ∧ ns0_0 = ls0_0.length ∧ HRs T' (f22 w) xs0_0 ls0_0 ∧ ns0_1 = ls0_1.length ∧ HRs T' (f69 w) xs0_1 ls0_1 ∧ ns0_4 = ls0_4.length ∧ HRs T' (f71 w) xs0_4 ls0_4 ∧ e = .returned (.int .i64 ar0) ∧ St w w' (.cells b0 (([.slice As0_0 ns0_0 cs0_0] : Cs) ++ (([.slice As0_1 ns0_1 cs0_1] : Cs) ++ (([.int .i64 as0_2] : Cs) ++ (([.bool as0_3] : Cs) ++ ([.slice As0_4 ns0_4 cs0_4] : Cs))))) 66 :: .sl As0_0 cs0_0 ns0_0 xs0_0 22 1 :: .sl As0_1 cs0_1 ns0_1 xs0_1 69 2 :: .sl As0_4 cs0_4 ns0_4 xs0_4 71 2 :: (T' ++ R)) := by
 refine CW.enter Try.func22 rfl (n := 44) rfl [.pointer (some ⟨b0, 0, none⟩), .slice A1 n1 c1] (Nat.le_of_ble_eq_true rfl) ?_
 refine CW.sub [(0, .pointer (some ⟨b0, 0, none⟩)), (1, .slice A1 n1 c1)] ⟨rfl, rfl, trivial⟩ ?_
 refine CW.seq (CW.region ?_)
 refine WL.val Wanted.none (Runs.assign rfl) ?_
 refine WL.nil (QW.then_n ?_)
 refine CW.seq (CW.region ?_)
 refine WL.val Wanted.none (Runs.assign rfl) ?_
 refine WL.nil (QW.then_n ?_)
 refine CW.seq ?_
 refine CW.seq (CW.region ?_)
 refine WL.val Wanted.none (Runs.move rfl) ?_
 refine WL.val Wanted.none (Runs.eql_ptr Try.underlying25 rfl rfl rfl) ?_
 refine WL.val Wanted.none (Runs.move rfl) ?_
 refine WL.on ?_ ?_; exact Wanted.guard (dj := 10) (by rfl) (by rfl) (by rfl)
 refine WL.val Wanted.none (Runs.move rfl) ?_
 refine WL.on ?_ ?_; exact Wanted.guard (dj := 10) (by rfl) (by rfl) (by rfl)
 refine WL.val Wanted.none (Runs.len_sl Try.underlying41 rfl (by rw [hb1.1])) ?_
 refine WL.on ?_ ?_; exact Wanted.guard (dj := 10) (by rfl) (by rfl) (by rfl)
 refine WL.val Wanted.none (Runs.move rfl) ?_
 refine WL.on ?_ ?_; exact Wanted.guard (dj := 10) (by rfl) (by rfl) (by rfl)
 refine WL.val Wanted.none (Runs.nilCheck rfl) ?_
 refine WL.on ?_ ?_; exact Wanted.guard (dj := 10) (by rfl) (by rfl) (by rfl)
 refine WL.val Wanted.none (Runs.fieldAddr (off := 0) (p := 0) fld66_0 rfl rfl rfl) ?_
 refine WL.on ?_ ?_; exact Wanted.guard (dj := 10) (by rfl) (by rfl) (by rfl)
 refine WL.val Wanted.none (Runs.load nagg41 rfl (st0.cell (k := 0) rfl (part_one (u := .slice A0_0 n0_0 c0_0) (pre := (([] : Cs))) (post := (([.slice A0_1 n0_1 c0_1] : Cs) ++ (([.int .i64 a0_2] : Cs) ++ (([.bool a0_3] : Cs) ++ ([.slice A0_4 n0_4 c0_4] : Cs))))) (by first | rfl | simp only [List.append_assoc, List.append_nil, List.nil_append, List.cons_append]) (by first | rfl | simp only [List.length_append, List.length_cons, List.length_nil, iv_length])))) ?_
 refine WL.on ?_ ?_; exact Wanted.guard (dj := 10) (by rfl) (by rfl) (by rfl)
 refine WL.val Wanted.none (Runs.len_sl Try.underlying41 rfl (by rw [hn0_0])) ?_
 refine WL.on ?_ ?_; exact Wanted.guard (dj := 10) (by rfl) (by rfl) (by rfl)
 refine WL.val Wanted.none (Runs.neq rfl rfl rfl) ?_
 refine WL.val Wanted.none (Runs.pick_f rfl rfl) ?_
 refine WL.val Wanted.none (Runs.move rfl) ?_
 rcases H with ⟨c_1, H⟩ | ⟨c_1, H⟩
 ·have h_2 : ((l1.length : Int) != (l0_0.length : Int)) = true := (bne_iff_ne.mpr c_1)
  refine WL.off ?_ ?_; exact Wanted.guard (dj := 20) (by rfl) (evb (by rfl) h_2) (by rfl)
  refine WL.off ?_ ?_; exact Wanted.guard (dj := 20) (by rfl) (evb (by rfl) h_2) (by rfl)
  refine WL.off ?_ ?_; exact Wanted.guard (dj := 20) (by rfl) (evb (by rfl) h_2) (by rfl)
  refine WL.val Wanted.none (Runs.pick_t (evb rfl h_2) rfl) ?_
  refine WL.nil (QW.then_n ?_)
  refine CW.sub [(0, .pointer (some ⟨b0, 0, none⟩)), (1, .slice A1 n1 c1), (4, .int .i64 0), (24, .bool true)] ⟨rfl, rfl, rfl, rfl, trivial⟩ ?_
  refine CW.ct rfl rfl ?_
  refine CW.seq (CW.region ?_)
  refine WL.val Wanted.none (Runs.assign rfl) ?_
  refine WL.nil (QW.then_n ?_)
  refine CW.ret ?_
  refine QW.then_r ?_
  obtain ⟨rfl, rfl, rfl, rfl, rfl, rfl⟩ := H
  exact QW.ret1 rfl rfl ⟨T, A0_0, n0_0, c0_0, x0_0, A0_1, n0_1, c0_1, x0_1, A0_4, n0_4, c0_4, x0_4, Pl.refl, hn0_0, hx0_0, hn0_1, hx0_1, hn0_4, hx0_4, rfl, (St.pickT (L := [_, _, _, _]) st0 [0, 1, 2, 3] (by decide))⟩
 ·have h_2 : ((l1.length : Int) != (l0_0.length : Int)) = false := (bne_eq_false_iff_eq.mpr (Decidable.not_not.mp c_1))
  refine WL.on ?_ ?_; exact Wanted.guard (dj := 20) (by rfl) (evb (by rfl) h_2) (by rfl)
  refine WL.val Wanted.none (Runs.move rfl) ?_
  refine WL.on ?_ ?_; exact Wanted.guard (dj := 20) (by rfl) (evb (by rfl) h_2) (by rfl)
  refine WL.val Wanted.none (Runs.move rfl) ?_
  refine WL.on ?_ ?_; exact Wanted.guard (dj := 20) (by rfl) (evb (by rfl) h_2) (by rfl)
  have st_3 : St w w1 ((T ++ (.cells b0 (([.slice A0_0 n0_0 c0_0] : Cs) ++ (([.slice A0_1 n0_1 c0_1] : Cs) ++ (([.int .i64 a0_2] : Cs) ++ (([.bool a0_3] : Cs) ++ ([.slice A0_4 n0_4 c0_4] : Cs))))) 66 :: .sl A0_0 c0_0 n0_0 x0_0 22 1 :: .sl A0_1 c0_1 n0_1 x0_1 69 2 :: .sl A0_4 c0_4 n0_4 x0_4 71 2 :: R))) := St.hide (A := []) (B := [_, _, _, _]) (T := T) (R := R) st0
  obtain ⟨a_8, hr_4, H⟩ := H
  refine WL.call Wanted.none ent39 rfl (slices_ContainsFunc_s_s_byte_s_byte_fn1_disk_Disk_Restore_1.calls w w1 T (.cells b0 (([.slice A0_0 n0_0 c0_0] : Cs) ++ (([.slice A0_1 n0_1 c0_1] : Cs) ++ (([.int .i64 a0_2] : Cs) ++ (([.bool a0_3] : Cs) ++ ([.slice A0_4 n0_4 c0_4] : Cs))))) 66 :: .sl A0_0 c0_0 n0_0 x0_0 22 1 :: .sl A0_1 c0_1 n0_1 x0_1 69 2 :: .sl A0_4 c0_4 n0_4 x0_4 71 2 :: R) l1 A1 n1 c1  st_3 (hb1.mono (memo_TR (B := [_, _, _, _]) (fun _ h_ => h_)) (fun _ h_ => h_)) a_8 hr_4) ?_
  rintro _ w_9 ⟨T_5, hs_6, rfl, sc_11⟩
  have st_10 : St w w_9 (.cells b0 (([.slice A0_0 n0_0 c0_0] : Cs) ++ (([.slice A0_1 n0_1 c0_1] : Cs) ++ (([.int .i64 a0_2] : Cs) ++ (([.bool a0_3] : Cs) ++ ([.slice A0_4 n0_4 c0_4] : Cs))))) 66 :: .sl A0_0 c0_0 n0_0 x0_0 22 1 :: .sl A0_1 c0_1 n0_1 x0_1 69 2 :: .sl A0_4 c0_4 n0_4 x0_4 71 2 :: (T_5 ++ R)) := St.unhide (A := []) (B := [_, _, _, _]) (T := T_5) (R := R) sc_11
  refine ⟨_, rfl, ?_⟩
  refine WL.val Wanted.none (Runs.pick_f (evb rfl h_2) rfl) ?_
  refine WL.nil (QW.then_n ?_)
  refine CW.sub [(0, .pointer (some ⟨b0, 0, none⟩)), (1, .slice A1 n1 c1), (4, .int .i64 0), (24, .bool a_8)] ⟨rfl, rfl, rfl, rfl, trivial⟩ ?_
  rcases H with ⟨c_12, H⟩ | ⟨c_12, H⟩
  ·have h_13 : a_8 = true := c_12
   refine CW.ct rfl h_13 ?_
   refine CW.seq (CW.region ?_)
   refine WL.val Wanted.none (Runs.assign rfl) ?_
   refine WL.nil (QW.then_n ?_)
   refine CW.ret ?_
   refine QW.then_r ?_
   obtain ⟨rfl, rfl, rfl, rfl, rfl, rfl⟩ := H
   exact QW.ret1 rfl rfl ⟨T_5, A0_0, n0_0, c0_0, x0_0, A0_1, n0_1, c0_1, x0_1, A0_4, n0_4, c0_4, x0_4, hs_6, hn0_0, (hx0_0.mono (fun _ h_ => hs_6.1 _ h_)), hn0_1, (hx0_1.mono (fun _ h_ => hs_6.1 _ h_)), hn0_4, (hx0_4.mono (fun _ h_ => hs_6.1 _ h_)), rfl, (St.pickT (L := [_, _, _, _]) st_10 [0, 1, 2, 3] (by decide))⟩
  ·have h_13 : a_8 = false := (Bool.eq_false_iff.mpr c_12)
   refine CW.cf rfl h_13 ?_
   refine CW.skip ?_
   refine QW.then_n ?_
   refine CW.seq ?_
   refine CW.seq (CW.region ?_)
   refine WL.val Wanted.none (Runs.move rfl) ?_
   refine WL.val Wanted.none (Runs.len_sl Try.underlying41 rfl (by rw [hb1.1])) ?_
   refine WL.val Wanted.none (Runs.move rfl) ?_
   refine WL.nil (QW.then_n ?_)
   refine CW.block ?_
   obtain ⟨k_14, H⟩ := H
   refine CW.sub [(0, .pointer (some ⟨b0, 0, none⟩)), (4, .int .i64 0), (25, .slice A1 n1 c1), (26, .int .i64 (l1.length : Int)), (27, .int .i64 0)] ⟨rfl, rfl, rfl, rfl, rfl, trivial⟩ ?_
   refine CW.loop (fun kL1 l_ w_ => ∃ (T_15 : Pool) (x_19 : Cs) (l_17 : List R22) (x_21 : Int), l_ = [(0, .pointer (some ⟨b0, 0, none⟩)), (4, .int .i64 0), (25, .slice A1 n1 c1), (26, .int .i64 (l1.length : Int)), (27, .int .i64 x_21)] ∧ disk_Disk_Restore.L1 a0_2 a0_3 l0_4 l1 ls0_0 ls0_1 as0_2 as0_3 ls0_4 ar0 kL1 l_17 x_21 ∧ (Pl T_5 T_15) ∧ (n0_0 = l_17.length) ∧ (HRs T_15 (f22 w) x_19 l_17) ∧ St w w_ (.cells b0 (([.slice A0_0 n0_0 c0_0] : Cs) ++ (([.slice A0_1 n0_1 c0_1] : Cs) ++ (([.int .i64 a0_2] : Cs) ++ (([.bool a0_3] : Cs) ++ ([.slice A0_4 n0_4 c0_4] : Cs))))) 66 :: .sl A0_0 c0_0 n0_0 x_19 22 1 :: .sl A0_1 c0_1 n0_1 x0_1 69 2 :: .sl A0_4 c0_4 n0_4 x0_4 71 2 :: (T_15 ++ R))) (k := k_14) ⟨T_5, x0_0, l0_0, 0, rfl, H, Pl.refl, hn0_0, (hx0_0.mono (fun _ h_ => hs_6.1 _ h_)), st_10⟩ (fun _ _ h => by obtain ⟨_, _, _, _, _, h, _⟩ := h; exact h.elim) ?_
   rintro kL1 l_24 w_22 ⟨T_15, x_19, l_17, x_21, rfl, H, hs_16, hn_18, hx_20, st_23⟩
   refine CW.seq (CW.region ?_)
   refine WL.val Wanted.none (Runs.lss rfl rfl rfl) ?_
   refine WL.nil (QW.then_n ?_)
   refine CW.seq ?_
   rcases H with ⟨c_25, H⟩ | ⟨c_25, H⟩
   ·have h_26 : (decide (x_21 < (l1.length : Int))) = true := (decide_eq_true c_25)
    refine CW.ct rfl h_26 ?_
    refine CW.skip ?_
    refine QW.then_n ?_
    refine CW.seq ?_
    refine CW.block ?_
    refine CW.seq (CW.region ?_)
    refine WL.val Wanted.none (Runs.move rfl) ?_
    obtain ⟨⟨p_27, q_28⟩, H⟩ := H
    obtain ⟨x_29, hs_30, hr_31⟩ := hb1.2.2
    obtain ⟨a_32, e_33, ms_34, hc_35, hm_36⟩ := el_get (i := (x_21).toNat) ((hs_30.at st_23 (mem_TR (A := [_, _, _, _]) (fun _ h_ => hs_16.1 _ (hs_6.1 _ h_))))) (hr_31.mono (fun _ h_ => hs_16.1 _ (hs_6.1 _ h_))) (fz22 w) (by decide) (by omega)
    obtain ⟨A_37, n_38, c_39, em_41, hb_40⟩ := inv22 hm_36
    replace em_41 : ms_34 = ([.slice A_37 n_38 c_39] : Cs) := em_41
    subst em_41
    refine WL.val Wanted.none (Runs.indexAddr Try.underlying41 cells22 (by decide) rfl e_33 rfl p_27 (by rw [show n1 = l1.length from hb1.1]; exact q_28) (o := (x_21.toNat) * 1) (by first | rfl | omega)) ?_
    refine WL.val Wanted.none (Runs.load nagg22 rfl (Src.cellAt (j := 0) (Src.cut ((hs_30.at st_23 (mem_TR (A := [_, _, _, _]) (fun _ h_ => hs_16.1 _ (hs_6.1 _ h_))))) e_33 hc_35) rfl)) ?_
    refine WL.val Wanted.none (Runs.assign rfl) ?_
    refine WL.val Wanted.none (Runs.assign rfl) ?_
    refine WL.nil (QW.then_n ?_)
    refine CW.region_awh (C := fun w_ => St w w_ (.cells b0 (([.slice A0_0 n0_0 c0_0] : Cs) ++ (([.slice A0_1 n0_1 c0_1] : Cs) ++ (([.int .i64 a0_2] : Cs) ++ (([.bool a0_3] : Cs) ++ ([.slice A0_4 n0_4 c0_4] : Cs))))) 66 :: .sl A0_0 c0_0 n0_0 x_19 22 1 :: .sl A0_1 c0_1 n0_1 x0_1 69 2 :: .sl A0_4 c0_4 n0_4 x0_4 71 2 :: (T_15 ++ R))) 7 wide (by kernel_rfl) st_23 (fun w_42 st_43 => ?_)
    refine AWH.take 0 rfl (by decide) (by kernel_rfl) (by kernel_rfl) st_43 Wanted.none (fun wq sq => (Runs.move rfl)) ?_
    refine AWH.take 1 rfl (by decide) (by kernel_rfl) (by kernel_rfl) st_43 Wanted.none (fun wq sq => (Runs.nilCheck rfl)) ?_
    refine AWH.take 2 rfl (by decide) (by kernel_rfl) (by kernel_rfl) st_43 Wanted.none (fun wq sq => (Runs.fieldAddr (off := 0) (p := 0) fld66_0 rfl rfl rfl)) ?_
    refine AWH.take 3 rfl (by decide) (by kernel_rfl) (by kernel_rfl) st_43 Wanted.none (fun wq sq => (Runs.load nagg41 rfl (sq.cell (k := 0) rfl (part_one (u := .slice A0_0 n0_0 c0_0) (pre := (([] : Cs))) (post := (([.slice A0_1 n0_1 c0_1] : Cs) ++ (([.int .i64 a0_2] : Cs) ++ (([.bool a0_3] : Cs) ++ ([.slice A0_4 n0_4 c0_4] : Cs))))) (by first | rfl | simp only [List.append_assoc, List.append_nil, List.nil_append, List.cons_append]) (by first | rfl | simp only [List.length_append, List.length_cons, List.length_nil, iv_length]))))) ?_
    refine AWH.take 4 rfl (by decide) (by kernel_rfl) (by kernel_rfl) st_43 Wanted.none (fun wq sq => (Runs.move rfl)) ?_
    refine AWH.take 5 rfl (by decide) (by kernel_rfl) (by kernel_rfl) st_43 Wanted.none (fun wq sq => (Runs.move rfl)) ?_
    refine AWH.step 6 rfl (by decide) (by kernel_rfl) (fun inv_ hs_ hk_ hc_ hn_ => ?_)
    obtain ⟨r_48, hr_44, H⟩ := H
    refine WL.call Wanted.none ent29 rfl (slices_Clone_s_byte_byte.calls w_42 (gx l1 (x_21.toNat)) A_37 n_38 c_39 ((hb_40.2.2.at st_43 (mem_T (A := [_, _, _, _]) (fun _ h_ => h_)))) (hb_40.1) (hb_40.2.1) r_48 hr_44) ?_
    rintro _ w_45 ⟨A_49, c_50, n_51, hn_52, rfl, sc_47⟩
    have st_46 : St w w_45 (.sl A_49 c_50 n_51 (iv .u8 r_48) 5 1 :: .cells b0 (([.slice A0_0 n0_0 c0_0] : Cs) ++ (([.slice A0_1 n0_1 c0_1] : Cs) ++ (([.int .i64 a0_2] : Cs) ++ (([.bool a0_3] : Cs) ++ ([.slice A0_4 n0_4 c0_4] : Cs))))) 66 :: .sl A0_0 c0_0 n0_0 x_19 22 1 :: .sl A0_1 c0_1 n0_1 x0_1 69 2 :: .sl A0_4 c0_4 n0_4 x0_4 71 2 :: (T_15 ++ R)) := st_43.call sc_47
    refine ⟨_, rfl, ?_⟩
    refine WL.nil ?_
    refine AWH.back (St.subset st_43 st_46 (List.forall_mem_cons.2 ⟨List.mem_of_getElem? (i := 1) rfl, (List.forall_mem_cons.2 ⟨List.mem_of_getElem? (i := 2) rfl, (List.forall_mem_cons.2 ⟨List.mem_of_getElem? (i := 3) rfl, (List.forall_mem_cons.2 ⟨List.mem_of_getElem? (i := 4) rfl, (mem_TR (A := [_, _, _, _, _]) (fun _ h_ => h_))⟩)⟩)⟩)⟩)) inv_ hs_ hk_ hc_ hn_ ?_
    refine AWH.tail (by kernel_rfl) ?_
    obtain ⟨⟨p_54, q_55⟩, H⟩ := H
    obtain ⟨a_56, e_57, ms_58, hc_59, hm_60⟩ := el_get (i := (x_21).toNat) (st_46.src_sl (k := 2) rfl) hx_20 (fz22 w) (by decide) (by omega)
    obtain ⟨A_61, n_62, c_63, em_65, hb_64⟩ := inv22 hm_60
    replace em_65 : ms_58 = ([.slice A_61 n_62 c_63] : Cs) := em_65
    subst em_65
    refine AW.take 7 rfl (by kernel_rfl) (by kernel_rfl) (by kernel_rfl) Wanted.none (fun _ => (Runs.indexAddr Try.underlying41 cells22 (by decide) rfl e_57 rfl p_54 (by rw [show n0_0 = l_17.length from hn_18]; exact q_55) (o := (x_21.toNat) * 1) (by first | rfl | omega))) ?_
    refine AW.step 8 rfl (by kernel_rfl) ?_
    have hb_70c := st_46.cap (i := 0) rfl
    obtain ⟨T_66, hs_67, hm_68, st_69⟩ := St.freeze (A := []) (B := [_, _, _, _]) (T := T_15) (R := R) st_46
    have hb_70 : HB w T_66 A_49 n_51 c_50 (iv .u8 r_48) r_48.length := ⟨hn_52, hb_70c, Hd.of_sl hm_68⟩
    replace st_69 : St w w_45 (.cells b0 (([.slice A0_0 n0_0 c0_0] : Cs) ++ (([.slice A0_1 n0_1 c0_1] : Cs) ++ (([.int .i64 a0_2] : Cs) ++ (([.bool a0_3] : Cs) ++ ([.slice A0_4 n0_4 c0_4] : Cs))))) 66 :: .sl A0_0 c0_0 n0_0 x_19 22 1 :: .sl A0_1 c0_1 n0_1 x0_1 69 2 :: .sl A0_4 c0_4 n0_4 x0_4 71 2 :: (T_66 ++ R)) := st_69
    obtain ⟨m_71, e_72, H⟩ := H
    have hl_79 := ((hx_20.mono (fun _ h_ => hs_67.1 _ h_))).length (fz22 w)
    refine WL.storeF (i := 1) (o := (x_21.toNat) * 1) (f := 0) st_69 rfl e_57 cells22 rfl rfl (by omega) rfl ?_
    intro w_73 st_74
    obtain ⟨x_76, e_77⟩ : ∃ x_ : Cs, x_ = List.set x_19 ((x_21.toNat) * 1 + 0) (.slice A_49 n_51 c_50) := ⟨_, rfl⟩
    have hx_78 : HRs T_66 (f22 w) x_76 m_71 := by rw [e_77, e_72]; exact HRs.setF (j := 0) (u := .slice A_49 n_51 c_50) (hx_20.mono (fun _ h_ => hs_67.1 _ h_)) (fz22 w) (by omega) (by decide) hc_59 (.cons ⟨_, _, _, rfl, hb_70⟩ .nil)
    have hn_75 : n0_0 = m_71.length := by rw [e_72, List.length_set]; exact hn_18
    replace st_74 : St w w_73 (.cells b0 (([.slice A0_0 n0_0 c0_0] : Cs) ++ (([.slice A0_1 n0_1 c0_1] : Cs) ++ (([.int .i64 a0_2] : Cs) ++ (([.bool a0_3] : Cs) ++ ([.slice A0_4 n0_4 c0_4] : Cs))))) 66 :: .sl A0_0 c0_0 n0_0 x_76 22 1 :: .sl A0_1 c0_1 n0_1 x0_1 69 2 :: .sl A0_4 c0_4 n0_4 x0_4 71 2 :: (T_66 ++ R)) := by rw [e_77]; exact st_74
    refine WL.nil ?_
    refine AW.back  ?_
    refine AW.done (by kernel_rfl) ?_
    refine QW.blk_n ?_
    refine QW.then_n ?_
    refine CW.region ?_
    refine WL.val Wanted.none (Runs.add rfl rfl rfl) ?_
    refine WL.val Wanted.none (Runs.move rfl) ?_
    refine WL.nil ?_
    exact QW.at _ (by repeat' constructor) ⟨T_66, x_76, m_71, IntKind.i64.wrap (x_21 + 1), rfl, H, (hs_16.trans hs_67), hn_75, hx_78, st_74⟩
   ·have h_26 : (decide (x_21 < (l1.length : Int))) = false := (decide_eq_false c_25)
    refine CW.cf rfl h_26 ?_
    refine CW.exit ?_
    refine QW.then_x ?_
    refine QW.then_x ?_
    refine QW.blk_x ?_
    refine QW.then_n ?_
    refine CW.seq (CW.region ?_)
    refine WL.val Wanted.none (Runs.move rfl) ?_
    refine WL.val Wanted.none (Runs.nilCheck rfl) ?_
    refine WL.val Wanted.none (Runs.fieldAddr (off := 1) (p := 1) fld66_1 rfl rfl rfl) ?_
    refine WL.store_one (i := 0) (u0 := .slice A0_1 n0_1 c0_1) (pre := (([.slice A0_0 n0_0 c0_0] : Cs))) (post := (([.int .i64 a0_2] : Cs) ++ (([.bool a0_3] : Cs) ++ ([.slice A0_4 n0_4 c0_4] : Cs)))) st_23 rfl cells64 (by first | rfl | simp only [List.append_assoc, List.append_nil, List.nil_append, List.cons_append]) (by first | rfl | simp only [List.length_append, List.length_cons, List.length_nil, iv_length]) rfl rfl rfl ?_
    intro w_80 st_81
    replace st_81 : St w w_80 (.cells b0 (([.slice A0_0 n0_0 c0_0] : Cs) ++ (([.slice none 0 0] : Cs) ++ (([.int .i64 a0_2] : Cs) ++ (([.bool a0_3] : Cs) ++ ([.slice A0_4 n0_4 c0_4] : Cs))))) 66 :: .sl A0_0 c0_0 n0_0 x_19 22 1 :: .sl A0_1 c0_1 n0_1 x0_1 69 2 :: .sl A0_4 c0_4 n0_4 x0_4 71 2 :: (T_15 ++ R)) := by have e_ : (([.slice A0_0 n0_0 c0_0] : Cs) ++ (([.slice none 0 0] : Cs) ++ (([.int .i64 a0_2] : Cs) ++ (([.bool a0_3] : Cs) ++ ([.slice A0_4 n0_4 c0_4] : Cs))))) = (([.slice A0_0 n0_0 c0_0] : Cs)) ++ ((([.slice none 0 0] : Cs)) ++ (([.int .i64 a0_2] : Cs) ++ (([.bool a0_3] : Cs) ++ ([.slice A0_4 n0_4 c0_4] : Cs)))) := (by first | rfl | simp only [List.append_assoc, List.append_nil, List.nil_append, List.cons_append]); have h_ : St w w_80 (.cells b0 ((([.slice A0_0 n0_0 c0_0] : Cs)) ++ ((([.slice none 0 0] : Cs)) ++ (([.int .i64 a0_2] : Cs) ++ (([.bool a0_3] : Cs) ++ ([.slice A0_4 n0_4 c0_4] : Cs))))) 66 :: .sl A0_0 c0_0 n0_0 x_19 22 1 :: .sl A0_1 c0_1 n0_1 x0_1 69 2 :: .sl A0_4 c0_4 n0_4 x0_4 71 2 :: (T_15 ++ R)) := st_81; rw [← e_] at h_; exact h_
    refine WL.nil (QW.then_n ?_)
    refine CW.sub [(4, .int .i64 0)] ⟨rfl, trivial⟩ ?_
    refine CW.seq (CW.region ?_)
    refine WL.val Wanted.none (Runs.assign rfl) ?_
    refine WL.nil (QW.then_n ?_)
    refine CW.ret ?_
    have st_83 := st_81.nil_sl 69 2
    have st_83 : St w w_80 (.sl none 0 0 ([] : Cs) 69 2 :: .cells b0 (([.slice A0_0 n0_0 c0_0] : Cs) ++ (([.slice none 0 0] : Cs) ++ (([.int .i64 a0_2] : Cs) ++ (([.bool a0_3] : Cs) ++ ([.slice A0_4 n0_4 c0_4] : Cs))))) 66 :: .sl A0_0 c0_0 n0_0 x_19 22 1 :: .sl A0_1 c0_1 n0_1 x0_1 69 2 :: .sl A0_4 c0_4 n0_4 x0_4 71 2 :: (T_15 ++ R)) := st_83
    obtain ⟨rfl, rfl, rfl, rfl, rfl, rfl⟩ := H
    exact QW.ret1 rfl rfl ⟨T_15, A0_0, n0_0, c0_0, x_19, none, 0, 0, ([] : Cs), A0_4, n0_4, c0_4, x0_4, (hs_6.trans hs_16), hn_18, hx_20, rfl, (HRs.nil : HRs T_15 (f69 w) [] []), hn0_4, (hx0_4.mono (fun _ h_ => hs_16.1 _ (hs_6.1 _ h_))), rfl, (St.pickT (L := [_, _, _, _, _]) st_83 [1, 2, 0, 4] (by decide))⟩

/-! ### reliquaryref06_Restore: function 23 -/
def reliquaryref06_Restore.L1 (a0_0 : Int) (l0_1 : List R86) (l0_2 : List R86) (a0_3 : Int) (a0_4 : Bool) (l0_5 : List R81) (l1 : List R9) (ar0_0 : Int) (lr0_1 : List R86) (lr0_2 : List R86) (ar0_3 : Int) (ar0_4 : Bool) (lr0_5 : List R81) (ar1 : Int) : Nat → (List R86) → Int → Int → Prop
 | 0, _, _, _ => False
 | kL1 + 1, l_18, x_25, x_26 => ((x_26 < (l1.length : Int) ∧ ((0 ≤ x_26 ∧ x_26 < (l1.length : Int)) ∧ ((((gx l1 (x_26.toNat)).size : Int) ≠ 192 ∧ ar0_0 = a0_0 ∧ lr0_1 = l0_1 ∧ lr0_2 = l0_2 ∧ ar0_3 = a0_3 ∧ ar0_4 = a0_4 ∧ lr0_5 = l0_5 ∧ ar1 = 1) ∨ (¬ (((gx l1 (x_26.toNat)).size : Int) ≠ 192) ∧ ((0 ≤ x_26 ∧ x_26 < (l1.length : Int)) ∧ (∃ m_72 : List R86, m_72 = l_18 ++ ([(x_26, (gx l1 (x_26.toNat)))] : List R86) ∧ (m_72.length ≤ 1099511627776 ∧ reliquaryref06_Restore.L1 a0_0 l0_1 l0_2 a0_3 a0_4 l0_5 l1 ar0_0 lr0_1 lr0_2 ar0_3 ar0_4 lr0_5 ar1 kL1 m_72 x_25 (IntKind.i64.wrap (x_26 + 1))))))))) ∨ (¬ (x_26 < (l1.length : Int)) ∧ ar0_0 = a0_0 ∧ lr0_1 = l_18 ∧ lr0_2 = [] ∧ ar0_3 = a0_3 ∧ ar0_4 = a0_4 ∧ lr0_5 = l0_5 ∧ ar1 = 0))
def reliquaryref06_Restore.rel (a0_0 : Int) (l0_1 : List R86) (l0_2 : List R86) (a0_3 : Int) (a0_4 : Bool) (l0_5 : List R81) (l1 : List R9) (ar0_0 : Int) (lr0_1 : List R86) (lr0_2 : List R86) (ar0_3 : Int) (ar0_4 : Bool) (lr0_5 : List R81) (ar1 : Int) : Prop := (((l1.length : Int) ≠ a0_0 ∧ ar0_0 = a0_0 ∧ lr0_1 = l0_1 ∧ lr0_2 = l0_2 ∧ ar0_3 = a0_3 ∧ ar0_4 = a0_4 ∧ lr0_5 = l0_5 ∧ ar1 = 1) ∨ (¬ ((l1.length : Int) ≠ a0_0) ∧ (∃ k_ : Nat, reliquaryref06_Restore.L1 a0_0 l0_1 l0_2 a0_3 a0_4 l0_5 l1 ar0_0 lr0_1 lr0_2 ar0_3 ar0_4 lr0_5 ar1 k_ ([] : List R86) 0 0)))
set_option maxHeartbeats 1000000 in
set_option maxRecDepth 100000 in
theorem reliquaryref06_Restore.calls (w w1 : World) (T R : Pool) (a0_0 : Int) (l0_1 : List R86) (l0_2 : List R86) (a0_3 : Int) (a0_4 : Bool) (l0_5 : List R81) (l1 : List R9) (A0_1 : Option Addr) (n0_1 : Nat) (c0_1 : Nat) (A0_2 : Option Addr) (n0_2 : Nat) (c0_2 : Nat) (A0_5 : Option Addr) (n0_5 : Nat) (c0_5 : Nat) (A1 : Option Addr) (n1 : Nat) (c1 : Nat) (st0 : St w w1 ((T ++ R))) (hb0_1 : HS w T T A0_1 n0_1 c0_1 (f86 w) l0_1) (hb0_2 : HS w T T A0_2 n0_2 c0_2 (f86 w) l0_2) (hb0_5 : HS w T T A0_5 n0_5 c0_5 (f81 w) l0_5) (hb1 : HS w (T ++ R) T A1 n1 c1 (f9 w) l1) (ar0_0 : Int) (lr0_1 : List R86) (lr0_2 : List R86) (ar0_3 : Int) (ar0_4 : Bool) (lr0_5 : List R81) (ar1 : Int) (H : reliquaryref06_Restore.rel a0_0 l0_1 l0_2 a0_3 a0_4 l0_5 l1 ar0_0 lr0_1 lr0_2 ar0_3 ar0_4 lr0_5 ar1) :
  Calls Try.prog 23 #[.agg (([.int .i64 a0_0] : Cs) ++ (([.slice A0_1 n0_1 c0_1] : Cs) ++ (([.slice A0_2 n0_2 c0_2] : Cs) ++ (([.int .i64 a0_3] : Cs) ++ (([.bool a0_4] : Cs) ++ ([.slice A0_5 n0_5 c0_5] : Cs)))))).toArray, .slice A1 n1 c1] w1 fun e w' => ∃ T' Ar0_1 nr0_1 cr0_1 Ar0_2 nr0_2 cr0_2 Ar0_5 nr0_5 cr0_5, Pl T T' ∧ HS w T' T' Ar0_1 nr0_1 cr0_1 (f86 w) lr0_1 ∧ HS w T' T' Ar0_2 nr0_2 cr0_2 (f86 w) lr0_2 ∧ HS w T' T' Ar0_5 nr0_5 cr0_5 (f81 w) lr0_5 ∧ e = .returned (.tuple #[.agg (([.int .i64 ar0_0] : Cs) ++ (([.slice Ar0_1 nr0_1 cr0_1] : Cs) ++ (([.slice Ar0_2 nr0_2 cr0_2] : Cs) ++ (([.int .i64 ar0_3] : Cs) ++ (([.bool ar0_4] : Cs) ++ ([.slice Ar0_5 nr0_5 cr0_5] : Cs)))))).toArray, .int .i64 ar1]) ∧ St w w' ((T' ++ R)) := by
 refine CW.enter Try.func23 rfl (n := 40) rfl [.agg (([.int .i64 a0_0] : Cs) ++ (([.slice A0_1 n0_1 c0_1] : Cs) ++ (([.slice A0_2 n0_2 c0_2] : Cs) ++ (([.int .i64 a0_3] : Cs) ++ (([.bool a0_4] : Cs) ++ ([.slice A0_5 n0_5 c0_5] : Cs)))))).toArray, .slice A1 n1 c1] (Nat.le_of_ble_eq_true rfl) ?_
 refine CW.sub [(0, .agg (([.int .i64 a0_0] : Cs) ++ (([.slice A0_1 n0_1 c0_1] : Cs) ++ (([.slice A0_2 n0_2 c0_2] : Cs) ++ (([.int .i64 a0_3] : Cs) ++ (([.bool a0_4] : Cs) ++ ([.slice A0_5 n0_5 c0_5] : Cs)))))).toArray), (1, .slice A1 n1 c1)] ⟨rfl, rfl, trivial⟩ ?_
 refine CW.seq (CW.region ?_)
 refine WL.box st0 rfl rfl ?_
 intro B_1 w_2 st_3
 replace st_3 : St w w_2 (.cells B_1 (([.int .i64 a0_0] : Cs) ++ (([.slice A0_1 n0_1 c0_1] : Cs) ++ (([.slice A0_2 n0_2 c0_2] : Cs) ++ (([.int .i64 a0_3] : Cs) ++ (([.bool a0_4] : Cs) ++ ([.slice A0_5 n0_5 c0_5] : Cs)))))) 48 :: (T ++ R)) := st_3
 refine WL.alloc st_3 zero48 ?_
 intro B_5 w_6 st_7
 replace st_7 : St w w_6 (.cells B_5 (([.int .i64 0] : Cs) ++ (([.slice none 0 0] : Cs) ++ (([.slice none 0 0] : Cs) ++ (([.int .i64 0] : Cs) ++ (([.bool false] : Cs) ++ ([.slice none 0 0] : Cs)))))) 48 :: .cells B_1 (([.int .i64 a0_0] : Cs) ++ (([.slice A0_1 n0_1 c0_1] : Cs) ++ (([.slice A0_2 n0_2 c0_2] : Cs) ++ (([.int .i64 a0_3] : Cs) ++ (([.bool a0_4] : Cs) ++ ([.slice A0_5 n0_5 c0_5] : Cs)))))) 48 :: (T ++ R)) := st_7
 refine WL.val Wanted.none (Runs.assign rfl) ?_
 refine WL.nil (QW.then_n ?_)
 refine CW.seq ?_
 refine CW.seq (CW.region ?_)
 refine WL.val Wanted.none (Runs.move rfl) ?_
 refine WL.val Wanted.none (Runs.len_sl Try.underlying55 rfl (by rw [hb1.1])) ?_
 refine WL.val Wanted.none (Runs.fieldAddr (off := 0) (p := 0) fld48_0 rfl rfl rfl) ?_
 refine WL.val Wanted.none (Runs.load nagg3 rfl (st_7.cell (k := 1) rfl (part_one (u := .int .i64 a0_0) (pre := (([] : Cs))) (post := (([.slice A0_1 n0_1 c0_1] : Cs) ++ (([.slice A0_2 n0_2 c0_2] : Cs) ++ (([.int .i64 a0_3] : Cs) ++ (([.bool a0_4] : Cs) ++ ([.slice A0_5 n0_5 c0_5] : Cs)))))) (by first | rfl | simp only [List.append_assoc, List.append_nil, List.nil_append, List.cons_append]) (by first | rfl | simp only [List.length_append, List.length_cons, List.length_nil, iv_length])))) ?_
 refine WL.val Wanted.none (Runs.neq rfl rfl rfl) ?_
 refine WL.nil (QW.then_n ?_)
 rcases H with ⟨c_9, H⟩ | ⟨c_9, H⟩
 ·have h_10 : ((l1.length : Int) != a0_0) = true := (bne_iff_ne.mpr c_9)
  refine CW.ct rfl h_10 ?_
  refine CW.seq (CW.region ?_)
  refine WL.val Wanted.none (Runs.load_mid row48 rfl st_7 (i := 1) rfl (part_mid (pre := (([] : Cs))) (mid := (([.int .i64 a0_0] : Cs) ++ (([.slice A0_1 n0_1 c0_1] : Cs) ++ (([.slice A0_2 n0_2 c0_2] : Cs) ++ (([.int .i64 a0_3] : Cs) ++ (([.bool a0_4] : Cs) ++ ([.slice A0_5 n0_5 c0_5] : Cs))))))) (post := (([] : Cs))) (by first | rfl | simp only [List.append_assoc, List.append_nil, List.nil_append, List.cons_append]) (by first | rfl | simp only [List.length_append, List.length_cons, List.length_nil, iv_length]) (by first | rfl | simp only [List.length_append, List.length_cons, List.length_nil, iv_length])) (by first | rfl | simp only [List.length_append, List.length_cons, List.length_nil, iv_length])) ?_
  refine WL.store_mid (i := 0) (pre := (([] : Cs))) (mid := (([.int .i64 0] : Cs) ++ (([.slice none 0 0] : Cs) ++ (([.slice none 0 0] : Cs) ++ (([.int .i64 0] : Cs) ++ (([.bool false] : Cs) ++ ([.slice none 0 0] : Cs))))))) (post := (([] : Cs))) (ms := (([.int .i64 a0_0] : Cs) ++ (([.slice A0_1 n0_1 c0_1] : Cs) ++ (([.slice A0_2 n0_2 c0_2] : Cs) ++ (([.int .i64 a0_3] : Cs) ++ (([.bool a0_4] : Cs) ++ ([.slice A0_5 n0_5 c0_5] : Cs))))))) st_7 rfl row48 (by first | rfl | simp only [List.append_assoc, List.append_nil, List.nil_append, List.cons_append]) (by first | rfl | simp only [List.length_append, List.length_cons, List.length_nil, iv_length]) rfl rfl (by first | rfl | simp only [List.length_append, List.length_cons, List.length_nil, iv_length]) (by first | rfl | simp only [List.length_append, List.length_cons, List.length_nil, iv_length]) (by intro u hu; simp only [List.mem_append, List.mem_singleton] at hu; rcases hu with hu | hu | hu | hu | hu | hu <;> first | exact one_iv _ _ u hu | (subst hu; rfl)) ?_
  intro w_11 st_12
  replace st_12 : St w w_11 (.cells B_5 (([.int .i64 a0_0] : Cs) ++ (([.slice A0_1 n0_1 c0_1] : Cs) ++ (([.slice A0_2 n0_2 c0_2] : Cs) ++ (([.int .i64 a0_3] : Cs) ++ (([.bool a0_4] : Cs) ++ ([.slice A0_5 n0_5 c0_5] : Cs)))))) 48 :: .cells B_1 (([.int .i64 a0_0] : Cs) ++ (([.slice A0_1 n0_1 c0_1] : Cs) ++ (([.slice A0_2 n0_2 c0_2] : Cs) ++ (([.int .i64 a0_3] : Cs) ++ (([.bool a0_4] : Cs) ++ ([.slice A0_5 n0_5 c0_5] : Cs)))))) 48 :: (T ++ R)) := by have e_ : (([.int .i64 a0_0] : Cs) ++ (([.slice A0_1 n0_1 c0_1] : Cs) ++ (([.slice A0_2 n0_2 c0_2] : Cs) ++ (([.int .i64 a0_3] : Cs) ++ (([.bool a0_4] : Cs) ++ ([.slice A0_5 n0_5 c0_5] : Cs)))))) = (([] : Cs)) ++ ((([.int .i64 a0_0] : Cs) ++ (([.slice A0_1 n0_1 c0_1] : Cs) ++ (([.slice A0_2 n0_2 c0_2] : Cs) ++ (([.int .i64 a0_3] : Cs) ++ (([.bool a0_4] : Cs) ++ ([.slice A0_5 n0_5 c0_5] : Cs)))))) ++ (([] : Cs))) := (by first | rfl | simp only [List.append_assoc, List.append_nil, List.nil_append, List.cons_append]); have h_ : St w w_11 (.cells B_5 ((([] : Cs)) ++ ((([.int .i64 a0_0] : Cs) ++ (([.slice A0_1 n0_1 c0_1] : Cs) ++ (([.slice A0_2 n0_2 c0_2] : Cs) ++ (([.int .i64 a0_3] : Cs) ++ (([.bool a0_4] : Cs) ++ ([.slice A0_5 n0_5 c0_5] : Cs)))))) ++ (([] : Cs)))) 48 :: .cells B_1 (([.int .i64 a0_0] : Cs) ++ (([.slice A0_1 n0_1 c0_1] : Cs) ++ (([.slice A0_2 n0_2 c0_2] : Cs) ++ (([.int .i64 a0_3] : Cs) ++ (([.bool a0_4] : Cs) ++ ([.slice A0_5 n0_5 c0_5] : Cs)))))) 48 :: (T ++ R)) := st_12; rw [← e_] at h_; exact h_
  refine WL.val Wanted.none (Runs.assign rfl) ?_
  refine WL.nil (QW.then_n ?_)
  refine CW.sub [(1, .slice A1 n1 c1), (2, .pointer (some ⟨B_1, 0, none⟩)), (4, .pointer (some ⟨B_5, 0, none⟩)), (5, .int .i64 1)] ⟨rfl, rfl, rfl, rfl, trivial⟩ ?_
  refine CW.ret ?_
  refine QW.then_r ?_
  obtain ⟨rfl, rfl, rfl, rfl, rfl, rfl, rfl⟩ := H
  exact QW.retN2 rfl (Res.row rfl row48 st_12 (i := 0) rfl (by first | rfl | simp only [List.length_append, List.length_cons, List.length_nil, iv_length])) (Res.tmp rfl) ⟨T, A0_1, n0_1, c0_1, A0_2, n0_2, c0_2, A0_5, n0_5, c0_5, Pl.refl, hb0_1, hb0_2, hb0_5, rfl, (St.pickT (L := [_, _]) st_12 [] (by decide))⟩
 ·have h_10 : ((l1.length : Int) != a0_0) = false := (bne_eq_false_iff_eq.mpr (Decidable.not_not.mp c_9))
  refine CW.cf rfl h_10 ?_
  refine CW.skip ?_
  refine QW.then_n ?_
  refine CW.sub [(1, .slice A1 n1 c1), (2, .pointer (some ⟨B_1, 0, none⟩)), (4, .pointer (some ⟨B_5, 0, none⟩)), (5, .int .i64 0)] ⟨rfl, rfl, rfl, rfl, trivial⟩ ?_
  refine CW.seq (CW.region ?_)
  refine WL.val Wanted.none (Runs.assign rfl) ?_
  refine WL.nil (QW.then_n ?_)
  refine CW.seq ?_
  refine CW.seq (CW.region ?_)
  refine WL.val Wanted.none (Runs.assign rfl) ?_
  refine WL.nil (QW.then_n ?_)
  refine CW.block ?_
  have st_14 := st_7.nil_sl 86 2
  have st_14 : St w w_6 (.sl none 0 0 ([] : Cs) 86 2 :: .cells B_5 (([.int .i64 0] : Cs) ++ (([.slice none 0 0] : Cs) ++ (([.slice none 0 0] : Cs) ++ (([.int .i64 0] : Cs) ++ (([.bool false] : Cs) ++ ([.slice none 0 0] : Cs)))))) 48 :: .cells B_1 (([.int .i64 a0_0] : Cs) ++ (([.slice A0_1 n0_1 c0_1] : Cs) ++ (([.slice A0_2 n0_2 c0_2] : Cs) ++ (([.int .i64 a0_3] : Cs) ++ (([.bool a0_4] : Cs) ++ ([.slice A0_5 n0_5 c0_5] : Cs)))))) 48 :: (T ++ R)) := st_14
  obtain ⟨k_15, H⟩ := H
  refine CW.sub [(1, .slice A1 n1 c1), (2, .pointer (some ⟨B_1, 0, none⟩)), (4, .pointer (some ⟨B_5, 0, none⟩)), (5, .int .i64 0), (6, .slice none 0 0), (7, .int .i64 0)] (by repeat' constructor) ?_
  refine CW.loop (fun kL1 l_ w_ => ∃ (T_16 : Pool) (A_22 : Option Addr) (c_23 : Nat) (n_24 : Nat) (x_20 : Cs) (l_18 : List R86) (x_25 : Int) (x_26 : Int), l_ = [(1, .slice A1 n1 c1), (2, .pointer (some ⟨B_1, 0, none⟩)), (4, .pointer (some ⟨B_5, 0, none⟩)), (5, .int .i64 x_25), (6, .slice A_22 n_24 c_23), (7, .int .i64 x_26)] ∧ reliquaryref06_Restore.L1 a0_0 l0_1 l0_2 a0_3 a0_4 l0_5 l1 ar0_0 lr0_1 lr0_2 ar0_3 ar0_4 lr0_5 ar1 kL1 l_18 x_25 x_26 ∧ (Pl T T_16) ∧ (n_24 = l_18.length) ∧ (HRs T_16 (f86 w) x_20 l_18) ∧ St w w_ (.sl A_22 c_23 n_24 x_20 86 2 :: .cells B_5 (([.int .i64 0] : Cs) ++ (([.slice none 0 0] : Cs) ++ (([.slice none 0 0] : Cs) ++ (([.int .i64 0] : Cs) ++ (([.bool false] : Cs) ++ ([.slice none 0 0] : Cs)))))) 48 :: .cells B_1 (([.int .i64 a0_0] : Cs) ++ (([.slice A0_1 n0_1 c0_1] : Cs) ++ (([.slice A0_2 n0_2 c0_2] : Cs) ++ (([.int .i64 a0_3] : Cs) ++ (([.bool a0_4] : Cs) ++ ([.slice A0_5 n0_5 c0_5] : Cs)))))) 48 :: (T_16 ++ R))) (k := k_15) ⟨T, none, 0, 0, ([] : Cs), ([] : List R86), 0, 0, rfl, H, Pl.refl, rfl, (HRs.nil : HRs T (f86 w) [] []), st_14⟩ (fun _ _ h => by obtain ⟨_, _, _, _, _, _, _, _, _, h, _⟩ := h; exact h.elim) ?_
  rintro kL1 l_29 w_27 ⟨T_16, A_22, c_23, n_24, x_20, l_18, x_25, x_26, rfl, H, hs_17, hn_19, hx_21, st_28⟩
  refine CW.seq ?_
  refine CW.seq (CW.region ?_)
  refine WL.val Wanted.none (Runs.move rfl) ?_
  refine WL.val Wanted.none (Runs.move rfl) ?_
  refine WL.val Wanted.none (Runs.len_sl Try.underlying55 rfl (by rw [hb1.1])) ?_
  refine WL.val Wanted.none (Runs.lss rfl rfl rfl) ?_
  refine WL.nil (QW.then_n ?_)
  rcases H with ⟨c_30, H⟩ | ⟨c_30, H⟩
  ·have h_31 : (decide (x_26 < (l1.length : Int))) = true := (decide_eq_true c_30)
   refine CW.ct rfl h_31 ?_
   refine CW.skip ?_
   refine QW.then_n ?_
   refine CW.seq ?_
   refine CW.block ?_
   refine CW.seq ?_
   refine CW.seq (CW.region ?_)
   refine WL.val Wanted.none (Runs.move rfl) ?_
   refine WL.val Wanted.none (Runs.move rfl) ?_
   obtain ⟨⟨p_32, q_33⟩, H⟩ := H
   obtain ⟨x_34, hs_35, hr_36⟩ := hb1.2.2
   obtain ⟨a_37, e_38, ms_39, hc_40, hm_41⟩ := el_get (i := (x_26).toNat) ((hs_35.at st_28 (mem_TR (A := [_, _, _]) (fun _ h_ => hs_17.1 _ h_)))) (hr_36.mono (fun _ h_ => hs_17.1 _ h_)) (fz9 w) (by decide) (by omega)
   obtain em_42 := inv9 hm_41
   replace em_42 : ms_39 = ([.string (gx l1 (x_26.toNat))] : Cs) := em_42
   subst em_42
   refine WL.val Wanted.none (Runs.indexAddr Try.underlying55 cells9 (by decide) rfl e_38 rfl p_32 (by rw [show n1 = l1.length from hb1.1]; exact q_33) (o := (x_26.toNat) * 1) (by first | rfl | omega)) ?_
   refine WL.val Wanted.none (Runs.load nagg9 rfl (Src.cellAt (j := 0) (Src.cut ((hs_35.at st_28 (mem_TR (A := [_, _, _]) (fun _ h_ => hs_17.1 _ h_)))) e_38 hc_40) rfl)) ?_
   refine WL.val Wanted.none (Runs.len_str Try.underlying9 rfl) ?_
   refine WL.val Wanted.none (Runs.neq rfl rfl rfl) ?_
   refine WL.nil (QW.then_n ?_)
   rcases H with ⟨c_43, H⟩ | ⟨c_43, H⟩
   ·have h_44 : (((gx l1 (x_26.toNat)).size : Int) != 192) = true := (bne_iff_ne.mpr c_43)
    refine CW.ct rfl h_44 ?_
    refine CW.seq (CW.region ?_)
    refine WL.val Wanted.none (Runs.load_mid row48 rfl st_28 (i := 2) rfl (part_mid (pre := (([] : Cs))) (mid := (([.int .i64 a0_0] : Cs) ++ (([.slice A0_1 n0_1 c0_1] : Cs) ++ (([.slice A0_2 n0_2 c0_2] : Cs) ++ (([.int .i64 a0_3] : Cs) ++ (([.bool a0_4] : Cs) ++ ([.slice A0_5 n0_5 c0_5] : Cs))))))) (post := (([] : Cs))) (by first | rfl | simp only [List.append_assoc, List.append_nil, List.nil_append, List.cons_append]) (by first | rfl | simp only [List.length_append, List.length_cons, List.length_nil, iv_length]) (by first | rfl | simp only [List.length_append, List.length_cons, List.length_nil, iv_length])) (by first | rfl | simp only [List.length_append, List.length_cons, List.length_nil, iv_length])) ?_
    refine WL.store_mid (i := 1) (pre := (([] : Cs))) (mid := (([.int .i64 0] : Cs) ++ (([.slice none 0 0] : Cs) ++ (([.slice none 0 0] : Cs) ++ (([.int .i64 0] : Cs) ++ (([.bool false] : Cs) ++ ([.slice none 0 0] : Cs))))))) (post := (([] : Cs))) (ms := (([.int .i64 a0_0] : Cs) ++ (([.slice A0_1 n0_1 c0_1] : Cs) ++ (([.slice A0_2 n0_2 c0_2] : Cs) ++ (([.int .i64 a0_3] : Cs) ++ (([.bool a0_4] : Cs) ++ ([.slice A0_5 n0_5 c0_5] : Cs))))))) st_28 rfl row48 (by first | rfl | simp only [List.append_assoc, List.append_nil, List.nil_append, List.cons_append]) (by first | rfl | simp only [List.length_append, List.length_cons, List.length_nil, iv_length]) rfl rfl (by first | rfl | simp only [List.length_append, List.length_cons, List.length_nil, iv_length]) (by first | rfl | simp only [List.length_append, List.length_cons, List.length_nil, iv_length]) (by intro u hu; simp only [List.mem_append, List.mem_singleton] at hu; rcases hu with hu | hu | hu | hu | hu | hu <;> first | exact one_iv _ _ u hu | (subst hu; rfl)) ?_
    intro w_45 st_46
    replace st_46 : St w w_45 (.sl A_22 c_23 n_24 x_20 86 2 :: .cells B_5 (([.int .i64 a0_0] : Cs) ++ (([.slice A0_1 n0_1 c0_1] : Cs) ++ (([.slice A0_2 n0_2 c0_2] : Cs) ++ (([.int .i64 a0_3] : Cs) ++ (([.bool a0_4] : Cs) ++ ([.slice A0_5 n0_5 c0_5] : Cs)))))) 48 :: .cells B_1 (([.int .i64 a0_0] : Cs) ++ (([.slice A0_1 n0_1 c0_1] : Cs) ++ (([.slice A0_2 n0_2 c0_2] : Cs) ++ (([.int .i64 a0_3] : Cs) ++ (([.bool a0_4] : Cs) ++ ([.slice A0_5 n0_5 c0_5] : Cs)))))) 48 :: (T_16 ++ R)) := by have e_ : (([.int .i64 a0_0] : Cs) ++ (([.slice A0_1 n0_1 c0_1] : Cs) ++ (([.slice A0_2 n0_2 c0_2] : Cs) ++ (([.int .i64 a0_3] : Cs) ++ (([.bool a0_4] : Cs) ++ ([.slice A0_5 n0_5 c0_5] : Cs)))))) = (([] : Cs)) ++ ((([.int .i64 a0_0] : Cs) ++ (([.slice A0_1 n0_1 c0_1] : Cs) ++ (([.slice A0_2 n0_2 c0_2] : Cs) ++ (([.int .i64 a0_3] : Cs) ++ (([.bool a0_4] : Cs) ++ ([.slice A0_5 n0_5 c0_5] : Cs)))))) ++ (([] : Cs))) := (by first | rfl | simp only [List.append_assoc, List.append_nil, List.nil_append, List.cons_append]); have h_ : St w w_45 (.sl A_22 c_23 n_24 x_20 86 2 :: .cells B_5 ((([] : Cs)) ++ ((([.int .i64 a0_0] : Cs) ++ (([.slice A0_1 n0_1 c0_1] : Cs) ++ (([.slice A0_2 n0_2 c0_2] : Cs) ++ (([.int .i64 a0_3] : Cs) ++ (([.bool a0_4] : Cs) ++ ([.slice A0_5 n0_5 c0_5] : Cs)))))) ++ (([] : Cs)))) 48 :: .cells B_1 (([.int .i64 a0_0] : Cs) ++ (([.slice A0_1 n0_1 c0_1] : Cs) ++ (([.slice A0_2 n0_2 c0_2] : Cs) ++ (([.int .i64 a0_3] : Cs) ++ (([.bool a0_4] : Cs) ++ ([.slice A0_5 n0_5 c0_5] : Cs)))))) 48 :: (T_16 ++ R)) := st_46; rw [← e_] at h_; exact h_
    refine WL.val Wanted.none (Runs.assign rfl) ?_
    refine WL.nil (QW.then_n ?_)
    refine CW.ret ?_
    refine QW.then_r ?_
    refine QW.blk_r ?_
    refine QW.then_r ?_
    refine QW.then_r ?_
    refine QW.blk_r ?_
    refine QW.then_r ?_
    obtain ⟨rfl, rfl, rfl, rfl, rfl, rfl, rfl⟩ := H
    exact QW.retN2 rfl (Res.row rfl row48 st_46 (i := 1) rfl (by first | rfl | simp only [List.length_append, List.length_cons, List.length_nil, iv_length])) (Res.tmp rfl) ⟨T_16, A0_1, n0_1, c0_1, A0_2, n0_2, c0_2, A0_5, n0_5, c0_5, hs_17, (hb0_1.mono (fun _ h_ => hs_17.1 _ h_) (fun _ h_ => hs_17.1 _ h_)), (hb0_2.mono (fun _ h_ => hs_17.1 _ h_) (fun _ h_ => hs_17.1 _ h_)), (hb0_5.mono (fun _ h_ => hs_17.1 _ h_) (fun _ h_ => hs_17.1 _ h_)), rfl, (St.pickT (L := [_, _, _]) st_46 [] (by decide))⟩
   ·have h_44 : (((gx l1 (x_26.toNat)).size : Int) != 192) = false := (bne_eq_false_iff_eq.mpr (Decidable.not_not.mp c_43))
    refine CW.cf rfl h_44 ?_
    refine CW.skip ?_
    refine QW.then_n ?_
    refine CW.region ?_
    refine WL.val Wanted.none (Runs.move rfl) ?_
    refine WL.val Wanted.none (Runs.move rfl) ?_
    refine WL.val Wanted.none (Runs.move rfl) ?_
    refine WL.val Wanted.none (Runs.move rfl) ?_
    obtain ⟨⟨p_47, q_48⟩, H⟩ := H
    obtain ⟨x_49, hs_50, hr_51⟩ := hb1.2.2
    obtain ⟨a_52, e_53, ms_54, hc_55, hm_56⟩ := el_get (i := (x_26).toNat) ((hs_50.at st_28 (mem_TR (A := [_, _, _]) (fun _ h_ => hs_17.1 _ h_)))) (hr_51.mono (fun _ h_ => hs_17.1 _ h_)) (fz9 w) (by decide) (by omega)
    obtain em_57 := inv9 hm_56
    replace em_57 : ms_54 = ([.string (gx l1 (x_26.toNat))] : Cs) := em_57
    subst em_57
    refine WL.val Wanted.none (Runs.indexAddr Try.underlying55 cells9 (by decide) rfl e_53 rfl p_47 (by rw [show n1 = l1.length from hb1.1]; exact q_48) (o := (x_26.toNat) * 1) (by first | rfl | omega)) ?_
    refine WL.val Wanted.none (Runs.load nagg9 rfl (Src.cellAt (j := 0) (Src.cut ((hs_50.at st_28 (mem_TR (A := [_, _, _]) (fun _ h_ => hs_17.1 _ h_)))) e_53 hc_55) rfl)) ?_
    refine WL.val Wanted.none (Runs.build_struct (ps := [(0, 1), (1, 1)]) (cs := (([.int .i64 x_26] : Cs) ++ ([.string (gx l1 (x_26.toNat))] : Cs))) plc86 zero86 rfl (by refine Fills.cons (o := 0) (ms := (([.int .i64 x_26] : Cs))) (show _ = some (0, (([.int .i64 x_26] : Cs)).length) by rw [show (([.int .i64 x_26] : Cs)).length = 1 from (by first | rfl | simp only [List.length_append, List.length_cons, List.length_nil, iv_length])] <;> rfl) rfl (by have h1_ : (([.int .i64 x_26] : Cs)).length = 1 := (by first | rfl | simp only [List.length_append, List.length_cons, List.length_nil, iv_length]); have h2_ : (([.int .i64 0] : Cs) ++ ([.string ByteArray.empty] : Cs)).length = 2 := (by first | rfl | simp only [List.length_append, List.length_cons, List.length_nil, iv_length]); omega) ?_; rw [show layV (([.int .i64 0] : Cs) ++ ([.string ByteArray.empty] : Cs)) 0 (([.int .i64 x_26] : Cs)) = (([.int .i64 x_26] : Cs) ++ ([.string ByteArray.empty] : Cs)) from (layV_mid (pre := (([] : Cs))) (mid := (([.int .i64 0] : Cs))) (post := (([.string ByteArray.empty] : Cs))) (by first | rfl | simp only [List.append_assoc, List.append_nil, List.nil_append, List.cons_append]) (by first | rfl | simp only [List.length_append, List.length_cons, List.length_nil, iv_length]) (Eq.trans (b := 1) (by first | rfl | simp only [List.length_append, List.length_cons, List.length_nil, iv_length]) (Eq.symm (by first | rfl | simp only [List.length_append, List.length_cons, List.length_nil, iv_length])))).trans (by first | rfl | simp only [List.append_assoc, List.append_nil, List.nil_append, List.cons_append])]; refine Fills.cons (o := 1) (ms := (([.string (gx l1 (x_26.toNat))] : Cs))) (show _ = some (1, (([.string (gx l1 (x_26.toNat))] : Cs)).length) by rw [show (([.string (gx l1 (x_26.toNat))] : Cs)).length = 1 from (by first | rfl | simp only [List.length_append, List.length_cons, List.length_nil, iv_length])] <;> rfl) rfl (by have h1_ : (([.string (gx l1 (x_26.toNat))] : Cs)).length = 1 := (by first | rfl | simp only [List.length_append, List.length_cons, List.length_nil, iv_length]); have h2_ : (([.int .i64 x_26] : Cs) ++ ([.string ByteArray.empty] : Cs)).length = 2 := (by first | rfl | simp only [List.length_append, List.length_cons, List.length_nil, iv_length]); omega) ?_; rw [show layV (([.int .i64 x_26] : Cs) ++ ([.string ByteArray.empty] : Cs)) 1 (([.string (gx l1 (x_26.toNat))] : Cs)) = (([.int .i64 x_26] : Cs) ++ ([.string (gx l1 (x_26.toNat))] : Cs)) from (layV_mid (pre := (([.int .i64 x_26] : Cs))) (mid := (([.string ByteArray.empty] : Cs))) (post := (([] : Cs))) (by first | rfl | simp only [List.append_assoc, List.append_nil, List.nil_append, List.cons_append]) (by first | rfl | simp only [List.length_append, List.length_cons, List.length_nil, iv_length]) (Eq.trans (b := 1) (by first | rfl | simp only [List.length_append, List.length_cons, List.length_nil, iv_length]) (Eq.symm (by first | rfl | simp only [List.length_append, List.length_cons, List.length_nil, iv_length])))).trans (by first | rfl | simp only [List.append_assoc, List.append_nil, List.nil_append, List.cons_append])]; exact Fills.nil)) ?_
    obtain ⟨ii_58, z_59, h_60, h_61, h_62, h_63⟩ := slr86_1
    refine WL.buildSlRows (sz := 2) (cs := (([.int .i64 x_26] : Cs) ++ ([.string (gx l1 (x_26.toNat))] : Cs))) st_28 Try.underlying45 h_60 h_61 h_62 (by decide) (by decide) h_63 rfl (by refine Fills.cons (o := 0) (ms := (([.int .i64 x_26] : Cs) ++ ([.string (gx l1 (x_26.toNat))] : Cs))) (show _ = some (0, (([.int .i64 x_26] : Cs) ++ ([.string (gx l1 (x_26.toNat))] : Cs)).length) by rw [show (([.int .i64 x_26] : Cs) ++ ([.string (gx l1 (x_26.toNat))] : Cs)).length = 2 from (by first | rfl | simp only [List.length_append, List.length_cons, List.length_nil, iv_length])] <;> rfl) rfl (by have h1_ : (([.int .i64 x_26] : Cs) ++ ([.string (gx l1 (x_26.toNat))] : Cs)).length = 2 := (by first | rfl | simp only [List.length_append, List.length_cons, List.length_nil, iv_length]); have h2_ : (([.int .i64 0] : Cs) ++ ([.string ByteArray.empty] : Cs)).length = 2 := (by first | rfl | simp only [List.length_append, List.length_cons, List.length_nil, iv_length]); omega) ?_; rw [show layV (([.int .i64 0] : Cs) ++ ([.string ByteArray.empty] : Cs)) 0 (([.int .i64 x_26] : Cs) ++ ([.string (gx l1 (x_26.toNat))] : Cs)) = (([.int .i64 x_26] : Cs) ++ ([.string (gx l1 (x_26.toNat))] : Cs)) from (layV_mid (pre := (([] : Cs))) (mid := (([.int .i64 0] : Cs) ++ ([.string ByteArray.empty] : Cs))) (post := (([] : Cs))) (by first | rfl | simp only [List.append_assoc, List.append_nil, List.nil_append, List.cons_append]) (by first | rfl | simp only [List.length_append, List.length_cons, List.length_nil, iv_length]) (Eq.trans (b := 2) (by first | rfl | simp only [List.length_append, List.length_cons, List.length_nil, iv_length]) (Eq.symm (by first | rfl | simp only [List.length_append, List.length_cons, List.length_nil, iv_length])))).trans (by first | rfl | simp only [List.append_assoc, List.append_nil, List.nil_append, List.cons_append])]; exact Fills.nil) ?_
    intro B_64 w_65 st_66
    replace st_66 : St w w_65 (.cells B_64 (([.int .i64 x_26] : Cs) ++ ([.string (gx l1 (x_26.toNat))] : Cs)) 86 :: .sl A_22 c_23 n_24 x_20 86 2 :: .cells B_5 (([.int .i64 0] : Cs) ++ (([.slice none 0 0] : Cs) ++ (([.slice none 0 0] : Cs) ++ (([.int .i64 0] : Cs) ++ (([.bool false] : Cs) ++ ([.slice none 0 0] : Cs)))))) 48 :: .cells B_1 (([.int .i64 a0_0] : Cs) ++ (([.slice A0_1 n0_1 c0_1] : Cs) ++ (([.slice A0_2 n0_2 c0_2] : Cs) ++ (([.int .i64 a0_3] : Cs) ++ (([.bool a0_4] : Cs) ++ ([.slice A0_5 n0_5 c0_5] : Cs)))))) 48 :: (T_16 ++ R)) := st_66
    have st_68 := St.rows_sl (i := 0) (m := 1) (size := 2) st_66 rfl rfl (by decide)
    obtain ⟨x_69, e_70⟩ : ∃ x_ : Cs, x_ = ([.int .i64 x_26] : Cs) ++ ([.string (gx l1 (x_26.toNat))] : Cs) := ⟨_, rfl⟩
    have hx_71 : HRs T_16 (f86 w) x_69 ([(x_26, (gx l1 (x_26.toNat)))] : List R86) := by rw [e_70]; exact (HRs.one (.cons rfl (.cons rfl .nil)))
    replace st_68 : St w w_65 (.sl (some ⟨B_64, 0, none⟩) 1 1 x_69 86 2 :: .sl A_22 c_23 n_24 x_20 86 2 :: .cells B_5 (([.int .i64 0] : Cs) ++ (([.slice none 0 0] : Cs) ++ (([.slice none 0 0] : Cs) ++ (([.int .i64 0] : Cs) ++ (([.bool false] : Cs) ++ ([.slice none 0 0] : Cs)))))) 48 :: .cells B_1 (([.int .i64 a0_0] : Cs) ++ (([.slice A0_1 n0_1 c0_1] : Cs) ++ (([.slice A0_2 n0_2 c0_2] : Cs) ++ (([.int .i64 a0_3] : Cs) ++ (([.bool a0_4] : Cs) ++ ([.slice A0_5 n0_5 c0_5] : Cs)))))) 48 :: (T_16 ++ R)) := by rw [e_70]; exact st_68
    obtain ⟨m_72, e_73, H⟩ := H
    obtain ⟨z_74, H⟩ := H
    obtain ⟨n_77, hn_80⟩ : ∃ n_ : Nat, n_ = m_72.length := ⟨_, rfl⟩
    refine WL.appendR (i := 1) (N := n_77) (news := x_69) Wanted.none st_68 rfl Try.underlying45 elemS86 rfl rfl (st_68.src_sl (k := 0) rfl) (by have h1_ := (hx_71).length (fz86 w); have h2_ : 1 = ([(x_26, (gx l1 (x_26.toNat)))] : List R86).length := rfl; rw [h1_, h2_]) (HLs.one hx_71) (by decide) (by have h1_ : n_24 = l_18.length := hn_19; have h2_ : 1 = ([(x_26, (gx l1 (x_26.toNat)))] : List R86).length := rfl; rw [hn_80, e_73, List.length_append]; omega) (by rw [hn_80]; exact z_74) ?_
    intro A_75 c_76 w_78 st_79
    obtain ⟨x_81, e_82⟩ : ∃ x_ : Cs, x_ = x_20 ++ x_69 := ⟨_, rfl⟩
    have hx_83 : HRs T_16 (f86 w) x_81 m_72 := by rw [e_82, e_73]; exact HRs.append hx_21 hx_71
    replace st_79 : St w w_78 (.sl (some ⟨B_64, 0, none⟩) 1 1 x_69 86 2 :: .sl A_75 c_76 n_77 x_81 86 2 :: .cells B_5 (([.int .i64 0] : Cs) ++ (([.slice none 0 0] : Cs) ++ (([.slice none 0 0] : Cs) ++ (([.int .i64 0] : Cs) ++ (([.bool false] : Cs) ++ ([.slice none 0 0] : Cs)))))) 48 :: .cells B_1 (([.int .i64 a0_0] : Cs) ++ (([.slice A0_1 n0_1 c0_1] : Cs) ++ (([.slice A0_2 n0_2 c0_2] : Cs) ++ (([.int .i64 a0_3] : Cs) ++ (([.bool a0_4] : Cs) ++ ([.slice A0_5 n0_5 c0_5] : Cs)))))) 48 :: (T_16 ++ R)) := by rw [e_82]; exact st_79
    refine WL.val Wanted.none (Runs.assign rfl) ?_
    refine WL.nil ?_
    refine QW.blk_n ?_
    refine QW.then_n ?_
    refine CW.region ?_
    refine WL.val Wanted.none (Runs.move rfl) ?_
    refine WL.val Wanted.none (Runs.add rfl rfl rfl) ?_
    refine WL.val Wanted.none (Runs.assign rfl) ?_
    refine WL.nil ?_
    have st_79' := (St.pickT (L := [_, _, _, _]) st_79 [1, 2, 3] (by decide))
    exact QW.at _ (by repeat' constructor) ⟨T_16, A_75, c_76, n_77, x_81, m_72, x_25, IntKind.i64.wrap (x_26 + 1), rfl, H, hs_17, hn_80, hx_83, st_79'⟩
  ·have h_31 : (decide (x_26 < (l1.length : Int))) = false := (decide_eq_false c_30)
   refine CW.cf rfl h_31 ?_
   refine CW.exit ?_
   refine QW.then_x ?_
   refine QW.then_x ?_
   refine QW.blk_x ?_
   refine QW.then_n ?_
   refine CW.sub [(2, .pointer (some ⟨B_1, 0, none⟩)), (4, .pointer (some ⟨B_5, 0, none⟩)), (5, .int .i64 x_25), (6, .slice A_22 n_24 c_23)] ⟨rfl, rfl, rfl, rfl, trivial⟩ ?_
   refine CW.seq (CW.region ?_)
   refine WL.val Wanted.none (Runs.move rfl) ?_
   refine WL.val Wanted.none (Runs.fieldAddr (off := 1) (p := 1) fld48_1 rfl rfl rfl) ?_
   refine WL.store_one (i := 2) (u0 := .slice A0_1 n0_1 c0_1) (pre := (([.int .i64 a0_0] : Cs))) (post := (([.slice A0_2 n0_2 c0_2] : Cs) ++ (([.int .i64 a0_3] : Cs) ++ (([.bool a0_4] : Cs) ++ ([.slice A0_5 n0_5 c0_5] : Cs))))) st_28 rfl cells45 (by first | rfl | simp only [List.append_assoc, List.append_nil, List.nil_append, List.cons_append]) (by first | rfl | simp only [List.length_append, List.length_cons, List.length_nil, iv_length]) rfl rfl rfl ?_
   intro w_84 st_85
   replace st_85 : St w w_84 (.sl A_22 c_23 n_24 x_20 86 2 :: .cells B_5 (([.int .i64 0] : Cs) ++ (([.slice none 0 0] : Cs) ++ (([.slice none 0 0] : Cs) ++ (([.int .i64 0] : Cs) ++ (([.bool false] : Cs) ++ ([.slice none 0 0] : Cs)))))) 48 :: .cells B_1 (([.int .i64 a0_0] : Cs) ++ (([.slice A_22 n_24 c_23] : Cs) ++ (([.slice A0_2 n0_2 c0_2] : Cs) ++ (([.int .i64 a0_3] : Cs) ++ (([.bool a0_4] : Cs) ++ ([.slice A0_5 n0_5 c0_5] : Cs)))))) 48 :: (T_16 ++ R)) := by have e_ : (([.int .i64 a0_0] : Cs) ++ (([.slice A_22 n_24 c_23] : Cs) ++ (([.slice A0_2 n0_2 c0_2] : Cs) ++ (([.int .i64 a0_3] : Cs) ++ (([.bool a0_4] : Cs) ++ ([.slice A0_5 n0_5 c0_5] : Cs)))))) = (([.int .i64 a0_0] : Cs)) ++ ((([.slice A_22 n_24 c_23] : Cs)) ++ (([.slice A0_2 n0_2 c0_2] : Cs) ++ (([.int .i64 a0_3] : Cs) ++ (([.bool a0_4] : Cs) ++ ([.slice A0_5 n0_5 c0_5] : Cs))))) := (by first | rfl | simp only [List.append_assoc, List.append_nil, List.nil_append, List.cons_append]); have h_ : St w w_84 (.sl A_22 c_23 n_24 x_20 86 2 :: .cells B_5 (([.int .i64 0] : Cs) ++ (([.slice none 0 0] : Cs) ++ (([.slice none 0 0] : Cs) ++ (([.int .i64 0] : Cs) ++ (([.bool false] : Cs) ++ ([.slice none 0 0] : Cs)))))) 48 :: .cells B_1 ((([.int .i64 a0_0] : Cs)) ++ ((([.slice A_22 n_24 c_23] : Cs)) ++ (([.slice A0_2 n0_2 c0_2] : Cs) ++ (([.int .i64 a0_3] : Cs) ++ (([.bool a0_4] : Cs) ++ ([.slice A0_5 n0_5 c0_5] : Cs)))))) 48 :: (T_16 ++ R)) := st_85; rw [← e_] at h_; exact h_
   refine WL.nil (QW.then_n ?_)
   refine CW.seq (CW.region ?_)
   refine WL.val Wanted.none (Runs.fieldAddr (off := 2) (p := 2) fld48_2 rfl rfl rfl) ?_
   refine WL.store_one (i := 2) (u0 := .slice A0_2 n0_2 c0_2) (pre := (([.int .i64 a0_0] : Cs) ++ ([.slice A_22 n_24 c_23] : Cs))) (post := (([.int .i64 a0_3] : Cs) ++ (([.bool a0_4] : Cs) ++ ([.slice A0_5 n0_5 c0_5] : Cs)))) st_85 rfl cells45 (by first | rfl | simp only [List.append_assoc, List.append_nil, List.nil_append, List.cons_append]) (by first | rfl | simp only [List.length_append, List.length_cons, List.length_nil, iv_length]) rfl rfl rfl ?_
   intro w_86 st_87
   replace st_87 : St w w_86 (.sl A_22 c_23 n_24 x_20 86 2 :: .cells B_5 (([.int .i64 0] : Cs) ++ (([.slice none 0 0] : Cs) ++ (([.slice none 0 0] : Cs) ++ (([.int .i64 0] : Cs) ++ (([.bool false] : Cs) ++ ([.slice none 0 0] : Cs)))))) 48 :: .cells B_1 (([.int .i64 a0_0] : Cs) ++ (([.slice A_22 n_24 c_23] : Cs) ++ (([.slice none 0 0] : Cs) ++ (([.int .i64 a0_3] : Cs) ++ (([.bool a0_4] : Cs) ++ ([.slice A0_5 n0_5 c0_5] : Cs)))))) 48 :: (T_16 ++ R)) := by have e_ : (([.int .i64 a0_0] : Cs) ++ (([.slice A_22 n_24 c_23] : Cs) ++ (([.slice none 0 0] : Cs) ++ (([.int .i64 a0_3] : Cs) ++ (([.bool a0_4] : Cs) ++ ([.slice A0_5 n0_5 c0_5] : Cs)))))) = (([.int .i64 a0_0] : Cs) ++ ([.slice A_22 n_24 c_23] : Cs)) ++ ((([.slice none 0 0] : Cs)) ++ (([.int .i64 a0_3] : Cs) ++ (([.bool a0_4] : Cs) ++ ([.slice A0_5 n0_5 c0_5] : Cs)))) := (by first | rfl | simp only [List.append_assoc, List.append_nil, List.nil_append, List.cons_append]); have h_ : St w w_86 (.sl A_22 c_23 n_24 x_20 86 2 :: .cells B_5 (([.int .i64 0] : Cs) ++ (([.slice none 0 0] : Cs) ++ (([.slice none 0 0] : Cs) ++ (([.int .i64 0] : Cs) ++ (([.bool false] : Cs) ++ ([.slice none 0 0] : Cs)))))) 48 :: .cells B_1 ((([.int .i64 a0_0] : Cs) ++ ([.slice A_22 n_24 c_23] : Cs)) ++ ((([.slice none 0 0] : Cs)) ++ (([.int .i64 a0_3] : Cs) ++ (([.bool a0_4] : Cs) ++ ([.slice A0_5 n0_5 c0_5] : Cs))))) 48 :: (T_16 ++ R)) := st_87; rw [← e_] at h_; exact h_
   refine WL.nil (QW.then_n ?_)
   refine CW.seq (CW.region ?_)
   refine WL.val Wanted.none (Runs.load_mid row48 rfl st_87 (i := 2) rfl (part_mid (pre := (([] : Cs))) (mid := (([.int .i64 a0_0] : Cs) ++ (([.slice A_22 n_24 c_23] : Cs) ++ (([.slice none 0 0] : Cs) ++ (([.int .i64 a0_3] : Cs) ++ (([.bool a0_4] : Cs) ++ ([.slice A0_5 n0_5 c0_5] : Cs))))))) (post := (([] : Cs))) (by first | rfl | simp only [List.append_assoc, List.append_nil, List.nil_append, List.cons_append]) (by first | rfl | simp only [List.length_append, List.length_cons, List.length_nil, iv_length]) (by first | rfl | simp only [List.length_append, List.length_cons, List.length_nil, iv_length])) (by first | rfl | simp only [List.length_append, List.length_cons, List.length_nil, iv_length])) ?_
   refine WL.store_mid (i := 1) (pre := (([] : Cs))) (mid := (([.int .i64 0] : Cs) ++ (([.slice none 0 0] : Cs) ++ (([.slice none 0 0] : Cs) ++ (([.int .i64 0] : Cs) ++ (([.bool false] : Cs) ++ ([.slice none 0 0] : Cs))))))) (post := (([] : Cs))) (ms := (([.int .i64 a0_0] : Cs) ++ (([.slice A_22 n_24 c_23] : Cs) ++ (([.slice none 0 0] : Cs) ++ (([.int .i64 a0_3] : Cs) ++ (([.bool a0_4] : Cs) ++ ([.slice A0_5 n0_5 c0_5] : Cs))))))) st_87 rfl row48 (by first | rfl | simp only [List.append_assoc, List.append_nil, List.nil_append, List.cons_append]) (by first | rfl | simp only [List.length_append, List.length_cons, List.length_nil, iv_length]) rfl rfl (by first | rfl | simp only [List.length_append, List.length_cons, List.length_nil, iv_length]) (by first | rfl | simp only [List.length_append, List.length_cons, List.length_nil, iv_length]) (by intro u hu; simp only [List.mem_append, List.mem_singleton] at hu; rcases hu with hu | hu | hu | hu | hu | hu <;> first | exact one_iv _ _ u hu | (subst hu; rfl)) ?_
   intro w_88 st_89
   replace st_89 : St w w_88 (.sl A_22 c_23 n_24 x_20 86 2 :: .cells B_5 (([.int .i64 a0_0] : Cs) ++ (([.slice A_22 n_24 c_23] : Cs) ++ (([.slice none 0 0] : Cs) ++ (([.int .i64 a0_3] : Cs) ++ (([.bool a0_4] : Cs) ++ ([.slice A0_5 n0_5 c0_5] : Cs)))))) 48 :: .cells B_1 (([.int .i64 a0_0] : Cs) ++ (([.slice A_22 n_24 c_23] : Cs) ++ (([.slice none 0 0] : Cs) ++ (([.int .i64 a0_3] : Cs) ++ (([.bool a0_4] : Cs) ++ ([.slice A0_5 n0_5 c0_5] : Cs)))))) 48 :: (T_16 ++ R)) := by have e_ : (([.int .i64 a0_0] : Cs) ++ (([.slice A_22 n_24 c_23] : Cs) ++ (([.slice none 0 0] : Cs) ++ (([.int .i64 a0_3] : Cs) ++ (([.bool a0_4] : Cs) ++ ([.slice A0_5 n0_5 c0_5] : Cs)))))) = (([] : Cs)) ++ ((([.int .i64 a0_0] : Cs) ++ (([.slice A_22 n_24 c_23] : Cs) ++ (([.slice none 0 0] : Cs) ++ (([.int .i64 a0_3] : Cs) ++ (([.bool a0_4] : Cs) ++ ([.slice A0_5 n0_5 c0_5] : Cs)))))) ++ (([] : Cs))) := (by first | rfl | simp only [List.append_assoc, List.append_nil, List.nil_append, List.cons_append]); have h_ : St w w_88 (.sl A_22 c_23 n_24 x_20 86 2 :: .cells B_5 ((([] : Cs)) ++ ((([.int .i64 a0_0] : Cs) ++ (([.slice A_22 n_24 c_23] : Cs) ++ (([.slice none 0 0] : Cs) ++ (([.int .i64 a0_3] : Cs) ++ (([.bool a0_4] : Cs) ++ ([.slice A0_5 n0_5 c0_5] : Cs)))))) ++ (([] : Cs)))) 48 :: .cells B_1 (([.int .i64 a0_0] : Cs) ++ (([.slice A_22 n_24 c_23] : Cs) ++ (([.slice none 0 0] : Cs) ++ (([.int .i64 a0_3] : Cs) ++ (([.bool a0_4] : Cs) ++ ([.slice A0_5 n0_5 c0_5] : Cs)))))) 48 :: (T_16 ++ R)) := st_89; rw [← e_] at h_; exact h_
   refine WL.val Wanted.none (Runs.assign rfl) ?_
   refine WL.nil (QW.then_n ?_)
   refine CW.sub [(4, .pointer (some ⟨B_5, 0, none⟩)), (5, .int .i64 0)] ⟨rfl, rfl, trivial⟩ ?_
   refine CW.ret ?_
   have hb_94c := st_89.cap (i := 0) rfl
   obtain ⟨T_90, hs_91, hm_92, st_93⟩ := St.freeze (A := []) (B := [_, _]) (T := T_16) (R := R) st_89
   have hb_94 : HS w T_90 T_90 A_22 n_24 c_23 (f86 w) l_18 := HS.mk hn_19 hb_94c (Hd.of_sl hm_92) (hx_21.mono (fun _ h_ => hs_91.1 _ h_))
   replace st_93 : St w w_88 (.cells B_5 (([.int .i64 a0_0] : Cs) ++ (([.slice A_22 n_24 c_23] : Cs) ++ (([.slice none 0 0] : Cs) ++ (([.int .i64 a0_3] : Cs) ++ (([.bool a0_4] : Cs) ++ ([.slice A0_5 n0_5 c0_5] : Cs)))))) 48 :: .cells B_1 (([.int .i64 a0_0] : Cs) ++ (([.slice A_22 n_24 c_23] : Cs) ++ (([.slice none 0 0] : Cs) ++ (([.int .i64 a0_3] : Cs) ++ (([.bool a0_4] : Cs) ++ ([.slice A0_5 n0_5 c0_5] : Cs)))))) 48 :: (T_90 ++ R)) := st_93
   obtain ⟨rfl, rfl, rfl, rfl, rfl, rfl, rfl⟩ := H
   exact QW.retN2 rfl (Res.row rfl row48 st_93 (i := 0) rfl (by first | rfl | simp only [List.length_append, List.length_cons, List.length_nil, iv_length])) (Res.tmp rfl) ⟨T_90, A_22, n_24, c_23, none, 0, 0, A0_5, n0_5, c0_5, (hs_17.trans hs_91), hb_94, HS.nil, (hb0_5.mono (fun _ h_ => hs_91.1 _ (hs_17.1 _ h_)) (fun _ h_ => hs_91.1 _ (hs_17.1 _ h_))), rfl, (St.pickT (L := [_, _]) st_93 [] (by decide))⟩

/-! ### reliquarylaw06_same: function 20 -/
def reliquarylaw06_same.L2 (l1_5 : List R81) (ls0_0 : List R22) (ls0_1 : List R69) (as0_2 : Int) (as0_3 : Bool) (ls0_4 : List R71) (ar0 : Bool) (l_61 : List R71) (l_101_0 : List R22) (l_101_1 : List R69) (a_105_2 : Int) (a_105_3 : Bool) (l_101_4 : List R71) : Nat → Bool → Int → Prop
 | 0, _, _ => False
 | kL2 + 1, b_150, x_151 => ((x_151 < (l_61.length : Int) ∧ ((0 ≤ x_151 ∧ x_151 < (l_61.length : Int)) ∧ ((0 ≤ x_151 ∧ x_151 < (l1_5.length : Int)) ∧ ((((gx l_61 (x_151.toNat)).1) ≠ ((gx l1_5 (x_151.toNat)).1) ∧ ls0_0 = l_101_0 ∧ ls0_1 = l_101_1 ∧ as0_2 = a_105_2 ∧ as0_3 = a_105_3 ∧ ls0_4 = l_101_4 ∧ ar0 = false) ∨ (¬ (((gx l_61 (x_151.toNat)).1) ≠ ((gx l1_5 (x_151.toNat)).1)) ∧ ((0 ≤ x_151 ∧ x_151 < (l_61.length : Int)) ∧ ((0 ≤ x_151 ∧ x_151 < (l1_5.length : Int)) ∧ ((((gx l_61 (x_151.toNat)).2) ≠ ((gx l1_5 (x_151.toNat)).2) ∧ ls0_0 = l_101_0 ∧ ls0_1 = l_101_1 ∧ as0_2 = a_105_2 ∧ as0_3 = a_105_3 ∧ ls0_4 = l_101_4 ∧ ar0 = false) ∨ (¬ (((gx l_61 (x_151.toNat)).2) ≠ ((gx l1_5 (x_151.toNat)).2)) ∧ reliquarylaw06_same.L2 l1_5 ls0_0 ls0_1 as0_2 as0_3 ls0_4 ar0 l_61 l_101_0 l_101_1 a_105_2 a_105_3 l_101_4 kL2 b_150 (IntKind.i64.wrap (x_151 + 1))))))))))) ∨ (¬ (x_151 < (l_61.length : Int)) ∧ ls0_0 = l_101_0 ∧ ls0_1 = l_101_1 ∧ as0_2 = a_105_2 ∧ as0_3 = a_105_3 ∧ ls0_4 = l_101_4 ∧ ar0 = true))
def reliquarylaw06_same.L1 (l1_5 : List R81) (ls0_0 : List R22) (ls0_1 : List R69) (as0_2 : Int) (as0_3 : Bool) (ls0_4 : List R71) (ar0 : Bool) (l_22 : List R22) (l_37 : List R9) (l_61 : List R71) (l_101_0 : List R22) (l_101_1 : List R69) (a_105_2 : Int) (a_105_3 : Bool) (l_101_4 : List R71) : Nat → Bool → Int → Prop
 | 0, _, _ => False
 | kL1 + 1, b_116, x_117 => ((x_117 < (l_22.length : Int) ∧ ((0 ≤ x_117 ∧ x_117 < (l_22.length : Int)) ∧ ((0 ≤ x_117 ∧ x_117 < (l_37.length : Int)) ∧ ((¬ ((strOfNums (gx l_22 (x_117.toNat))).toList = (gx l_37 (x_117.toNat)).toList) ∧ ls0_0 = l_101_0 ∧ ls0_1 = l_101_1 ∧ as0_2 = a_105_2 ∧ as0_3 = a_105_3 ∧ ls0_4 = l_101_4 ∧ ar0 = false) ∨ (¬ (¬ ((strOfNums (gx l_22 (x_117.toNat))).toList = (gx l_37 (x_117.toNat)).toList)) ∧ reliquarylaw06_same.L1 l1_5 ls0_0 ls0_1 as0_2 as0_3 ls0_4 ar0 l_22 l_37 l_61 l_101_0 l_101_1 a_105_2 a_105_3 l_101_4 kL1 b_116 (IntKind.i64.wrap (x_117 + 1))))))) ∨ (¬ (x_117 < (l_22.length : Int)) ∧ (∃ k_ : Nat, reliquarylaw06_same.L2 l1_5 ls0_0 ls0_1 as0_2 as0_3 ls0_4 ar0 l_61 l_101_0 l_101_1 a_105_2 a_105_3 l_101_4 k_ b_116 0)))
def reliquarylaw06_same.rel (l0_0 : List R22) (l0_1 : List R69) (a0_2 : Int) (a0_3 : Bool) (l0_4 : List R71) (a1_0 : Int) (l1_1 : List R86) (l1_2 : List R86) (a1_3 : Int) (a1_4 : Bool) (l1_5 : List R81) (ls0_0 : List R22) (ls0_1 : List R69) (as0_2 : Int) (as0_3 : Bool) (ls0_4 : List R71) (ar0 : Bool) : Prop := (∃ (l_13_0 : List R22) (l_13_1 : List R69) (a_17_2 : Int) (a_17_3 : Bool) (l_13_4 : List R71) (l_22 : List R22), disk_Disk_Image.rel l0_0 l0_1 a0_2 a0_3 l0_4 l_13_0 l_13_1 a_17_2 a_17_3 l_13_4 l_22 ∧ (∃ (l_37 : List R9), reliquaryref06_Image.rel a1_0 l1_1 l1_2 a1_3 a1_4 l1_5 l_37 ∧ (∃ (l_52_0 : List R22) (l_52_1 : List R69) (a_56_2 : Int) (a_56_3 : Bool) (l_52_4 : List R71) (l_61 : List R71), disk_Disk_Ops.rel l_13_0 l_13_1 a_17_2 a_17_3 l_13_4 l_52_0 l_52_1 a_56_2 a_56_3 l_52_4 l_61 ∧ (((l_22.length : Int) ≠ (l_37.length : Int) ∧ ls0_0 = l_52_0 ∧ ls0_1 = l_52_1 ∧ as0_2 = a_56_2 ∧ as0_3 = a_56_3 ∧ ls0_4 = l_52_4 ∧ ar0 = false) ∨ (¬ ((l_22.length : Int) ≠ (l_37.length : Int)) ∧ (∃ (l_80_0 : List R22) (l_80_1 : List R69) (a_84_2 : Int) (a_84_3 : Bool) (l_80_4 : List R71) (a_86 : Int), disk_Disk_Pending.rel l_52_0 l_52_1 a_56_2 a_56_3 l_52_4 l_80_0 l_80_1 a_84_2 a_84_3 l_80_4 a_86 ∧ ((a_86 ≠ (l1_2.length : Int) ∧ ls0_0 = l_80_0 ∧ ls0_1 = l_80_1 ∧ as0_2 = a_84_2 ∧ as0_3 = a_84_3 ∧ ls0_4 = l_80_4 ∧ ar0 = false) ∨ (¬ (a_86 ≠ (l1_2.length : Int)) ∧ (((l_61.length : Int) ≠ (l1_5.length : Int) ∧ ls0_0 = l_80_0 ∧ ls0_1 = l_80_1 ∧ as0_2 = a_84_2 ∧ as0_3 = a_84_3 ∧ ls0_4 = l_80_4 ∧ ar0 = false) ∨ (¬ ((l_61.length : Int) ≠ (l1_5.length : Int)) ∧ (∃ (l_101_0 : List R22) (l_101_1 : List R69) (a_105_2 : Int) (a_105_3 : Bool) (l_101_4 : List R71) (a_107 : Int), disk_Disk_Size.rel l_80_0 l_80_1 a_84_2 a_84_3 l_80_4 l_101_0 l_101_1 a_105_2 a_105_3 l_101_4 a_107 ∧ ((a_107 ≠ a1_0 ∧ ls0_0 = l_101_0 ∧ ls0_1 = l_101_1 ∧ as0_2 = a_105_2 ∧ as0_3 = a_105_3 ∧ ls0_4 = l_101_4 ∧ ar0 = false) ∨ (¬ (a_107 ≠ a1_0) ∧ (∃ k_ : Nat, reliquarylaw06_same.L1 l1_5 ls0_0 ls0_1 as0_2 as0_3 ls0_4 ar0 l_22 l_37 l_61 l_101_0 l_101_1 a_105_2 a_105_3 l_101_4 k_ false 0))))))))))))))
set_option maxHeartbeats 1000000 in
set_option maxRecDepth 100000 in
theorem reliquarylaw06_same.calls (w w1 : World) (T R : Pool) (l0_0 : List R22) (l0_1 : List R69) (a0_2 : Int) (a0_3 : Bool) (l0_4 : List R71) (a1_0 : Int) (l1_1 : List R86) (l1_2 : List R86) (a1_3 : Int) (a1_4 : Bool) (l1_5 : List R81) (b0 : Nat) (A0_0 : Option Addr) (n0_0 : Nat) (c0_0 : Nat) (x0_0 : Cs) (A0_1 : Option Addr) (n0_1 : Nat) (c0_1 : Nat) (x0_1 : Cs) (A0_4 : Option Addr) (n0_4 : Nat) (c0_4 : Nat) (x0_4 : Cs) (A1_1 : Option Addr) (n1_1 : Nat) (c1_1 : Nat) (A1_2 : Option Addr) (n1_2 : Nat) (c1_2 : Nat) (A1_5 : Option Addr) (n1_5 : Nat) (c1_5 : Nat) (st0 : St w w1 (.cells b0 (([.slice A0_0 n0_0 c0_0] : Cs) ++ (([.slice A0_1 n0_1 c0_1] : Cs) ++ (([.int .i64 a0_2] : Cs) ++ (([.bool a0_3] : Cs) ++ ([.slice A0_4 n0_4 c0_4] : Cs))))) 66 :: .sl A0_0 c0_0 n0_0 x0_0 22 1 :: .sl A0_1 c0_1 n0_1 x0_1 69 2 :: .sl A0_4 c0_4 n0_4 x0_4 71 2 :: (T ++ R))) (hn0_0 : n0_0 = l0_0.length) (hx0_0 : HRs T (f22 w) x0_0 l0_0) (hn0_1 : n0_1 = l0_1.length) (hx0_1 : HRs T (f69 w) x0_1 l0_1) (hn0_4 : n0_4 = l0_4.length) (hx0_4 : HRs T (f71 w) x0_4 l0_4) (hb1_1 : HS w T T A1_1 n1_1 c1_1 (f86 w) l1_1) (hb1_2 : HS w T T A1_2 n1_2 c1_2 (f86 w) l1_2) (hb1_5 : HS w T T A1_5 n1_5 c1_5 (f81 w) l1_5) (ls0_0 : List R22) (ls0_1 : List R69) (as0_2 : Int) (as0_3 : Bool) (ls0_4 : List R71) (ar0 : Bool) (H : reliquarylaw06_same.rel l0_0 l0_1 a0_2 a0_3 l0_4 a1_0 l1_1 l1_2 a1_3 a1_4 l1_5 ls0_0 ls0_1 as0_2 as0_3 ls0_4 ar0) :
  Calls Try.prog 20 #[.pointer (some ⟨b0, 0, none⟩), .agg (([.int .i64 a1_0] : Cs) ++ (([.slice A1_1 n1_1 c1_1] : Cs) ++ (([.slice A1_2 n1_2 c1_2] : Cs) ++ (([.int .i64 a1_3] : Cs) ++ (([.bool a1_4] : Cs) ++ ([.slice A1_5 n1_5 c1_5] : Cs)))))).toArray] w1 fun e w' => ∃ T' As0_0 ns0_0 cs0_0 xs0_0 As0_1 ns0_1 cs0_1 xs0_1 As0_4 ns0_4 cs0_4 xs0_4, Pl T T' ∧ ns0_0 = ls0_0.length ∧ HRs T' (f22 w) xs0_0 ls0_0 ∧ ns0_1 = ls0_1.length ∧ HRs T' (f69 w) xs0_1 ls0_1 ∧ ns0_4 = ls0_4.length ∧ HRs T' (f71 w) xs0_4 ls0_4 ∧ e = .returned (.bool ar0) ∧ St w w' (.cells b0 (([.slice As0_0 ns0_0 cs0_0] : Cs) ++ (([.slice As0_1 ns0_1 cs0_1] : Cs) ++ (([.int .i64 as0_2] : Cs) ++ (([.bool as0_3] : Cs) ++ ([.slice As0_4 ns0_4 cs0_4] : Cs))))) 66 :: .sl As0_0 cs0_0 ns0_0 xs0_0 22 1 :: .sl As0_1 cs0_1 ns0_1 xs0_1 69 2 :: .sl As0_4 cs0_4 ns0_4 xs0_4 71 2 :: (T' ++ R)) := by
 refine CW.enter Try.func20 rfl (n := 92) rfl [.pointer (some ⟨b0, 0, none⟩), .agg (([.int .i64 a1_0] : Cs) ++ (([.slice A1_1 n1_1 c1_1] : Cs) ++ (([.slice A1_2 n1_2 c1_2] : Cs) ++ (([.int .i64 a1_3] : Cs) ++ (([.bool a1_4] : Cs) ++ ([.slice A1_5 n1_5 c1_5] : Cs)))))).toArray] (Nat.le_of_ble_eq_true rfl) ?_
 refine CW.sub [(0, .pointer (some ⟨b0, 0, none⟩)), (1, .agg (([.int .i64 a1_0] : Cs) ++ (([.slice A1_1 n1_1 c1_1] : Cs) ++ (([.slice A1_2 n1_2 c1_2] : Cs) ++ (([.int .i64 a1_3] : Cs) ++ (([.bool a1_4] : Cs) ++ ([.slice A1_5 n1_5 c1_5] : Cs)))))).toArray)] ⟨rfl, rfl, trivial⟩ ?_
 refine CW.seq (CW.region ?_)
 refine WL.box st0 rfl rfl ?_
 intro B_1 w_2 st_3
 replace st_3 : St w w_2 (.cells B_1 (([.int .i64 a1_0] : Cs) ++ (([.slice A1_1 n1_1 c1_1] : Cs) ++ (([.slice A1_2 n1_2 c1_2] : Cs) ++ (([.int .i64 a1_3] : Cs) ++ (([.bool a1_4] : Cs) ++ ([.slice A1_5 n1_5 c1_5] : Cs)))))) 48 :: .cells b0 (([.slice A0_0 n0_0 c0_0] : Cs) ++ (([.slice A0_1 n0_1 c0_1] : Cs) ++ (([.int .i64 a0_2] : Cs) ++ (([.bool a0_3] : Cs) ++ ([.slice A0_4 n0_4 c0_4] : Cs))))) 66 :: .sl A0_0 c0_0 n0_0 x0_0 22 1 :: .sl A0_1 c0_1 n0_1 x0_1 69 2 :: .sl A0_4 c0_4 n0_4 x0_4 71 2 :: (T ++ R)) := st_3
 refine WL.val Wanted.none (Runs.assign rfl) ?_
 refine WL.nil (QW.then_n ?_)
 refine CW.seq (CW.region ?_)
 refine WL.val Wanted.none (Runs.move rfl) ?_
 have st_5 := (St.pickT (L := [_, _, _, _, _]) st_3 [1, 2, 3, 4, 0] (by decide))
 replace st_5 : St w w_2 (.cells b0 (([.slice A0_0 n0_0 c0_0] : Cs) ++ (([.slice A0_1 n0_1 c0_1] : Cs) ++ (([.int .i64 a0_2] : Cs) ++ (([.bool a0_3] : Cs) ++ ([.slice A0_4 n0_4 c0_4] : Cs))))) 66 :: .sl A0_0 c0_0 n0_0 x0_0 22 1 :: .sl A0_1 c0_1 n0_1 x0_1 69 2 :: .sl A0_4 c0_4 n0_4 x0_4 71 2 :: .cells B_1 (([.int .i64 a1_0] : Cs) ++ (([.slice A1_1 n1_1 c1_1] : Cs) ++ (([.slice A1_2 n1_2 c1_2] : Cs) ++ (([.int .i64 a1_3] : Cs) ++ (([.bool a1_4] : Cs) ++ ([.slice A1_5 n1_5 c1_5] : Cs)))))) 48 :: (T ++ R)) := st_5
 have st_6 : St w w_2 (.cells b0 (([.slice A0_0 n0_0 c0_0] : Cs) ++ (([.slice A0_1 n0_1 c0_1] : Cs) ++ (([.int .i64 a0_2] : Cs) ++ (([.bool a0_3] : Cs) ++ ([.slice A0_4 n0_4 c0_4] : Cs))))) 66 :: .sl A0_0 c0_0 n0_0 x0_0 22 1 :: .sl A0_1 c0_1 n0_1 x0_1 69 2 :: .sl A0_4 c0_4 n0_4 x0_4 71 2 :: (T ++ (.cells B_1 (([.int .i64 a1_0] : Cs) ++ (([.slice A1_1 n1_1 c1_1] : Cs) ++ (([.slice A1_2 n1_2 c1_2] : Cs) ++ (([.int .i64 a1_3] : Cs) ++ (([.bool a1_4] : Cs) ++ ([.slice A1_5 n1_5 c1_5] : Cs)))))) 48 :: R))) := St.hide (A := [_, _, _, _]) (B := [_]) (T := T) (R := R) st_5
 obtain ⟨l_13_0, l_13_1, a_17_2, a_17_3, l_13_4, l_22, hr_7, H⟩ := H
 refine WL.call Wanted.none ent17 rfl (disk_Disk_Image.calls w w_2 T (.cells B_1 (([.int .i64 a1_0] : Cs) ++ (([.slice A1_1 n1_1 c1_1] : Cs) ++ (([.slice A1_2 n1_2 c1_2] : Cs) ++ (([.int .i64 a1_3] : Cs) ++ (([.bool a1_4] : Cs) ++ ([.slice A1_5 n1_5 c1_5] : Cs)))))) 48 :: R) l0_0 l0_1 a0_2 a0_3 l0_4 b0 A0_0 n0_0 c0_0 x0_0 A0_1 n0_1 c0_1 x0_1 A0_4 n0_4 c0_4 x0_4  st_6 (hn0_0) hx0_0 (hn0_1) hx0_1 (hn0_4) hx0_4 l_13_0 l_13_1 a_17_2 a_17_3 l_13_4 l_22 hr_7) ?_
 rintro _ w_26 ⟨T_8, A_10_0, n_11_0, c_12_0, x_14_0, A_10_1, n_11_1, c_12_1, x_14_1, A_10_4, n_11_4, c_12_4, x_14_4, A_19, n_20, c_21, x_23, hs_9, hn_15_0, hx_16_0, hn_15_1, hx_16_1, hn_15_4, hx_16_4, hn_24, hx_25, rfl, sc_28⟩
 have st_27 : St w w_26 (.cells b0 (([.slice A_10_0 n_11_0 c_12_0] : Cs) ++ (([.slice A_10_1 n_11_1 c_12_1] : Cs) ++ (([.int .i64 a_17_2] : Cs) ++ (([.bool a_17_3] : Cs) ++ ([.slice A_10_4 n_11_4 c_12_4] : Cs))))) 66 :: .sl A_10_0 c_12_0 n_11_0 x_14_0 22 1 :: .sl A_10_1 c_12_1 n_11_1 x_14_1 69 2 :: .sl A_10_4 c_12_4 n_11_4 x_14_4 71 2 :: .sl A_19 c_21 n_20 x_23 22 1 :: .cells B_1 (([.int .i64 a1_0] : Cs) ++ (([.slice A1_1 n1_1 c1_1] : Cs) ++ (([.slice A1_2 n1_2 c1_2] : Cs) ++ (([.int .i64 a1_3] : Cs) ++ (([.bool a1_4] : Cs) ++ ([.slice A1_5 n1_5 c1_5] : Cs)))))) 48 :: (T_8 ++ R)) := St.unhide (A := [_, _, _, _, _]) (B := [_]) (T := T_8) (R := R) sc_28
 refine ⟨_, rfl, ?_⟩
 refine WL.val Wanted.none (Runs.assign rfl) ?_
 refine WL.nil (QW.then_n ?_)
 refine CW.seq (CW.region ?_)
 refine WL.val Wanted.none (Runs.load_mid row48 rfl st_27 (i := 5) rfl (part_mid (pre := (([] : Cs))) (mid := (([.int .i64 a1_0] : Cs) ++ (([.slice A1_1 n1_1 c1_1] : Cs) ++ (([.slice A1_2 n1_2 c1_2] : Cs) ++ (([.int .i64 a1_3] : Cs) ++ (([.bool a1_4] : Cs) ++ ([.slice A1_5 n1_5 c1_5] : Cs))))))) (post := (([] : Cs))) (by first | rfl | simp only [List.append_assoc, List.append_nil, List.nil_append, List.cons_append]) (by first | rfl | simp only [List.length_append, List.length_cons, List.length_nil, iv_length]) (by first | rfl | simp only [List.length_append, List.length_cons, List.length_nil, iv_length])) (by first | rfl | simp only [List.length_append, List.length_cons, List.length_nil, iv_length])) ?_
 have st_29 : St w w_26 ((T_8 ++ (.cells b0 (([.slice A_10_0 n_11_0 c_12_0] : Cs) ++ (([.slice A_10_1 n_11_1 c_12_1] : Cs) ++ (([.int .i64 a_17_2] : Cs) ++ (([.bool a_17_3] : Cs) ++ ([.slice A_10_4 n_11_4 c_12_4] : Cs))))) 66 :: .sl A_10_0 c_12_0 n_11_0 x_14_0 22 1 :: .sl A_10_1 c_12_1 n_11_1 x_14_1 69 2 :: .sl A_10_4 c_12_4 n_11_4 x_14_4 71 2 :: .sl A_19 c_21 n_20 x_23 22 1 :: .cells B_1 (([.int .i64 a1_0] : Cs) ++ (([.slice A1_1 n1_1 c1_1] : Cs) ++ (([.slice A1_2 n1_2 c1_2] : Cs) ++ (([.int .i64 a1_3] : Cs) ++ (([.bool a1_4] : Cs) ++ ([.slice A1_5 n1_5 c1_5] : Cs)))))) 48 :: R))) := St.hide (A := []) (B := [_, _, _, _, _, _]) (T := T_8) (R := R) st_27
 obtain ⟨l_37, hr_30, H⟩ := H
 refine WL.call Wanted.none ent21 rfl (reliquaryref06_Image.calls w w_26 T_8 (.cells b0 (([.slice A_10_0 n_11_0 c_12_0] : Cs) ++ (([.slice A_10_1 n_11_1 c_12_1] : Cs) ++ (([.int .i64 a_17_2] : Cs) ++ (([.bool a_17_3] : Cs) ++ ([.slice A_10_4 n_11_4 c_12_4] : Cs))))) 66 :: .sl A_10_0 c_12_0 n_11_0 x_14_0 22 1 :: .sl A_10_1 c_12_1 n_11_1 x_14_1 69 2 :: .sl A_10_4 c_12_4 n_11_4 x_14_4 71 2 :: .sl A_19 c_21 n_20 x_23 22 1 :: .cells B_1 (([.int .i64 a1_0] : Cs) ++ (([.slice A1_1 n1_1 c1_1] : Cs) ++ (([.slice A1_2 n1_2 c1_2] : Cs) ++ (([.int .i64 a1_3] : Cs) ++ (([.bool a1_4] : Cs) ++ ([.slice A1_5 n1_5 c1_5] : Cs)))))) 48 :: R) a1_0 l1_1 l1_2 a1_3 a1_4 l1_5 A1_1 n1_1 c1_1 A1_2 n1_2 c1_2 A1_5 n1_5 c1_5  st_29 (hb1_1.mono (fun _ h_ => hs_9.1 _ h_) (fun _ h_ => hs_9.1 _ h_)) (hb1_2.mono (fun _ h_ => hs_9.1 _ h_) (fun _ h_ => hs_9.1 _ h_)) (hb1_5.mono (fun _ h_ => hs_9.1 _ h_) (fun _ h_ => hs_9.1 _ h_)) l_37 hr_30) ?_
 rintro _ w_41 ⟨T_31, A_34, n_35, c_36, x_38, hs_32, hn_39, hx_40, rfl, sc_43⟩
 have st_42 : St w w_41 (.sl A_34 c_36 n_35 x_38 9 1 :: .cells b0 (([.slice A_10_0 n_11_0 c_12_0] : Cs) ++ (([.slice A_10_1 n_11_1 c_12_1] : Cs) ++ (([.int .i64 a_17_2] : Cs) ++ (([.bool a_17_3] : Cs) ++ ([.slice A_10_4 n_11_4 c_12_4] : Cs))))) 66 :: .sl A_10_0 c_12_0 n_11_0 x_14_0 22 1 :: .sl A_10_1 c_12_1 n_11_1 x_14_1 69 2 :: .sl A_10_4 c_12_4 n_11_4 x_14_4 71 2 :: .sl A_19 c_21 n_20 x_23 22 1 :: .cells B_1 (([.int .i64 a1_0] : Cs) ++ (([.slice A1_1 n1_1 c1_1] : Cs) ++ (([.slice A1_2 n1_2 c1_2] : Cs) ++ (([.int .i64 a1_3] : Cs) ++ (([.bool a1_4] : Cs) ++ ([.slice A1_5 n1_5 c1_5] : Cs)))))) 48 :: (T_31 ++ R)) := St.unhide (A := [_]) (B := [_, _, _, _, _, _]) (T := T_31) (R := R) sc_43
 refine ⟨_, rfl, ?_⟩
 refine WL.val Wanted.none (Runs.assign rfl) ?_
 refine WL.nil (QW.then_n ?_)
 refine CW.seq (CW.region ?_)
 refine WL.val Wanted.none (Runs.move rfl) ?_
 have st_44 := (St.pickT (L := [_, _, _, _, _, _, _]) st_42 [1, 2, 3, 4, 0, 5, 6] (by decide))
 replace st_44 : St w w_41 (.cells b0 (([.slice A_10_0 n_11_0 c_12_0] : Cs) ++ (([.slice A_10_1 n_11_1 c_12_1] : Cs) ++ (([.int .i64 a_17_2] : Cs) ++ (([.bool a_17_3] : Cs) ++ ([.slice A_10_4 n_11_4 c_12_4] : Cs))))) 66 :: .sl A_10_0 c_12_0 n_11_0 x_14_0 22 1 :: .sl A_10_1 c_12_1 n_11_1 x_14_1 69 2 :: .sl A_10_4 c_12_4 n_11_4 x_14_4 71 2 :: .sl A_34 c_36 n_35 x_38 9 1 :: .sl A_19 c_21 n_20 x_23 22 1 :: .cells B_1 (([.int .i64 a1_0] : Cs) ++ (([.slice A1_1 n1_1 c1_1] : Cs) ++ (([.slice A1_2 n1_2 c1_2] : Cs) ++ (([.int .i64 a1_3] : Cs) ++ (([.bool a1_4] : Cs) ++ ([.slice A1_5 n1_5 c1_5] : Cs)))))) 48 :: (T_31 ++ R)) := st_44
 have st_45 : St w w_41 (.cells b0 (([.slice A_10_0 n_11_0 c_12_0] : Cs) ++ (([.slice A_10_1 n_11_1 c_12_1] : Cs) ++ (([.int .i64 a_17_2] : Cs) ++ (([.bool a_17_3] : Cs) ++ ([.slice A_10_4 n_11_4 c_12_4] : Cs))))) 66 :: .sl A_10_0 c_12_0 n_11_0 x_14_0 22 1 :: .sl A_10_1 c_12_1 n_11_1 x_14_1 69 2 :: .sl A_10_4 c_12_4 n_11_4 x_14_4 71 2 :: (T_31 ++ (.sl A_34 c_36 n_35 x_38 9 1 :: .sl A_19 c_21 n_20 x_23 22 1 :: .cells B_1 (([.int .i64 a1_0] : Cs) ++ (([.slice A1_1 n1_1 c1_1] : Cs) ++ (([.slice A1_2 n1_2 c1_2] : Cs) ++ (([.int .i64 a1_3] : Cs) ++ (([.bool a1_4] : Cs) ++ ([.slice A1_5 n1_5 c1_5] : Cs)))))) 48 :: R))) := St.hide (A := [_, _, _, _]) (B := [_, _, _]) (T := T_31) (R := R) st_44
 obtain ⟨l_52_0, l_52_1, a_56_2, a_56_3, l_52_4, l_61, hr_46, H⟩ := H
 refine WL.call Wanted.none ent27 rfl (disk_Disk_Ops.calls w w_41 T_31 (.sl A_34 c_36 n_35 x_38 9 1 :: .sl A_19 c_21 n_20 x_23 22 1 :: .cells B_1 (([.int .i64 a1_0] : Cs) ++ (([.slice A1_1 n1_1 c1_1] : Cs) ++ (([.slice A1_2 n1_2 c1_2] : Cs) ++ (([.int .i64 a1_3] : Cs) ++ (([.bool a1_4] : Cs) ++ ([.slice A1_5 n1_5 c1_5] : Cs)))))) 48 :: R) l_13_0 l_13_1 a_17_2 a_17_3 l_13_4 b0 A_10_0 n_11_0 c_12_0 x_14_0 A_10_1 n_11_1 c_12_1 x_14_1 A_10_4 n_11_4 c_12_4 x_14_4  st_45 (hn_15_0) (hx_16_0.mono (fun _ h_ => hs_32.1 _ h_)) (hn_15_1) (hx_16_1.mono (fun _ h_ => hs_32.1 _ h_)) (hn_15_4) (hx_16_4.mono (fun _ h_ => hs_32.1 _ h_)) l_52_0 l_52_1 a_56_2 a_56_3 l_52_4 l_61 hr_46) ?_
 rintro _ w_65 ⟨T_47, A_49_0, n_50_0, c_51_0, x_53_0, A_49_1, n_50_1, c_51_1, x_53_1, A_49_4, n_50_4, c_51_4, x_53_4, A_58, n_59, c_60, x_62, hs_48, hn_54_0, hx_55_0, hn_54_1, hx_55_1, hn_54_4, hx_55_4, hn_63, hx_64, rfl, sc_67⟩
 have st_66 : St w w_65 (.cells b0 (([.slice A_49_0 n_50_0 c_51_0] : Cs) ++ (([.slice A_49_1 n_50_1 c_51_1] : Cs) ++ (([.int .i64 a_56_2] : Cs) ++ (([.bool a_56_3] : Cs) ++ ([.slice A_49_4 n_50_4 c_51_4] : Cs))))) 66 :: .sl A_49_0 c_51_0 n_50_0 x_53_0 22 1 :: .sl A_49_1 c_51_1 n_50_1 x_53_1 69 2 :: .sl A_49_4 c_51_4 n_50_4 x_53_4 71 2 :: .sl A_58 c_60 n_59 x_62 71 2 :: .sl A_34 c_36 n_35 x_38 9 1 :: .sl A_19 c_21 n_20 x_23 22 1 :: .cells B_1 (([.int .i64 a1_0] : Cs) ++ (([.slice A1_1 n1_1 c1_1] : Cs) ++ (([.slice A1_2 n1_2 c1_2] : Cs) ++ (([.int .i64 a1_3] : Cs) ++ (([.bool a1_4] : Cs) ++ ([.slice A1_5 n1_5 c1_5] : Cs)))))) 48 :: (T_47 ++ R)) := St.unhide (A := [_, _, _, _, _]) (B := [_, _, _]) (T := T_47) (R := R) sc_67
 refine ⟨_, rfl, ?_⟩
 refine WL.val Wanted.none (Runs.assign rfl) ?_
 refine WL.nil (QW.then_n ?_)
 refine CW.sub [(0, .pointer (some ⟨b0, 0, none⟩)), (3, .pointer (some ⟨B_1, 0, none⟩)), (4, .bool false), (5, .slice A_19 n_20 c_21), (6, .slice A_34 n_35 c_36), (7, .slice A_58 n_59 c_60)] (by repeat' constructor) ?_
 refine CW.seq ?_
 refine CW.seq ?_
 refine CW.region_awh (C := fun w_ => St w w_ (.sl A_58 c_60 n_59 x_62 71 2 :: .sl A_34 c_36 n_35 x_38 9 1 :: .sl A_19 c_21 n_20 x_23 22 1 :: .cells B_1 (([.int .i64 a1_0] : Cs) ++ (([.slice A1_1 n1_1 c1_1] : Cs) ++ (([.slice A1_2 n1_2 c1_2] : Cs) ++ (([.int .i64 a1_3] : Cs) ++ (([.bool a1_4] : Cs) ++ ([.slice A1_5 n1_5 c1_5] : Cs)))))) 48 :: (T_47 ++ R))) 26 wide (by kernel_rfl) st_66 (fun w_68 st_69 => ?_)
 have st_70 : St w w_68 (.sl A_58 c_60 n_59 x_62 71 2 :: .sl A_34 c_36 n_35 x_38 9 1 :: .sl A_19 c_21 n_20 x_23 22 1 :: .cells B_1 (([.int .i64 a1_0] : Cs) ++ (([.slice A1_1 n1_1 c1_1] : Cs) ++ (([.slice A1_2 n1_2 c1_2] : Cs) ++ (([.int .i64 a1_3] : Cs) ++ (([.bool a1_4] : Cs) ++ ([.slice A1_5 n1_5 c1_5] : Cs)))))) 48 :: (T_47 ++ R)) := (St.pickT (L := [_, _, _, _, _, _, _, _]) st_69 [4, 5, 6, 7] (by decide))
 refine AWH.take 0 rfl (by decide) (by kernel_rfl) (by kernel_rfl) (St.subset st_70 st_69 (List.forall_mem_cons.2 ⟨List.mem_of_getElem? (i := 4) rfl, (List.forall_mem_cons.2 ⟨List.mem_of_getElem? (i := 5) rfl, (List.forall_mem_cons.2 ⟨List.mem_of_getElem? (i := 6) rfl, (List.forall_mem_cons.2 ⟨List.mem_of_getElem? (i := 7) rfl, (mem_TR (A := [_, _, _, _, _, _, _, _]) (fun _ h_ => h_))⟩)⟩)⟩)⟩)) Wanted.none (fun wq sq => (Runs.move rfl)) ?_
 refine AWH.take 1 rfl (by decide) (by kernel_rfl) (by kernel_rfl) (St.subset st_70 st_69 (List.forall_mem_cons.2 ⟨List.mem_of_getElem? (i := 4) rfl, (List.forall_mem_cons.2 ⟨List.mem_of_getElem? (i := 5) rfl, (List.forall_mem_cons.2 ⟨List.mem_of_getElem? (i := 6) rfl, (List.forall_mem_cons.2 ⟨List.mem_of_getElem? (i := 7) rfl, (mem_TR (A := [_, _, _, _, _, _, _, _]) (fun _ h_ => h_))⟩)⟩)⟩)⟩)) Wanted.none (fun wq sq => (Runs.len_sl Try.underlying41 rfl (by rw [hn_24]))) ?_
 refine AWH.take 2 rfl (by decide) (by kernel_rfl) (by kernel_rfl) (St.subset st_70 st_69 (List.forall_mem_cons.2 ⟨List.mem_of_getElem? (i := 4) rfl, (List.forall_mem_cons.2 ⟨List.mem_of_getElem? (i := 5) rfl, (List.forall_mem_cons.2 ⟨List.mem_of_getElem? (i := 6) rfl, (List.forall_mem_cons.2 ⟨List.mem_of_getElem? (i := 7) rfl, (mem_TR (A := [_, _, _, _, _, _, _, _]) (fun _ h_ => h_))⟩)⟩)⟩)⟩)) Wanted.none (fun wq sq => (Runs.move rfl)) ?_
 refine AWH.take 3 rfl (by decide) (by kernel_rfl) (by kernel_rfl) (St.subset st_70 st_69 (List.forall_mem_cons.2 ⟨List.mem_of_getElem? (i := 4) rfl, (List.forall_mem_cons.2 ⟨List.mem_of_getElem? (i := 5) rfl, (List.forall_mem_cons.2 ⟨List.mem_of_getElem? (i := 6) rfl, (List.forall_mem_cons.2 ⟨List.mem_of_getElem? (i := 7) rfl, (mem_TR (A := [_, _, _, _, _, _, _, _]) (fun _ h_ => h_))⟩)⟩)⟩)⟩)) Wanted.none (fun wq sq => (Runs.len_sl Try.underlying55 rfl (by rw [hn_39]))) ?_
 refine AWH.take 4 rfl (by decide) (by kernel_rfl) (by kernel_rfl) (St.subset st_70 st_69 (List.forall_mem_cons.2 ⟨List.mem_of_getElem? (i := 4) rfl, (List.forall_mem_cons.2 ⟨List.mem_of_getElem? (i := 5) rfl, (List.forall_mem_cons.2 ⟨List.mem_of_getElem? (i := 6) rfl, (List.forall_mem_cons.2 ⟨List.mem_of_getElem? (i := 7) rfl, (mem_TR (A := [_, _, _, _, _, _, _, _]) (fun _ h_ => h_))⟩)⟩)⟩)⟩)) Wanted.none (fun wq sq => (Runs.neq rfl rfl rfl)) ?_
 refine AWH.take 5 rfl (by decide) (by kernel_rfl) (by kernel_rfl) (St.subset st_70 st_69 (List.forall_mem_cons.2 ⟨List.mem_of_getElem? (i := 4) rfl, (List.forall_mem_cons.2 ⟨List.mem_of_getElem? (i := 5) rfl, (List.forall_mem_cons.2 ⟨List.mem_of_getElem? (i := 6) rfl, (List.forall_mem_cons.2 ⟨List.mem_of_getElem? (i := 7) rfl, (mem_TR (A := [_, _, _, _, _, _, _, _]) (fun _ h_ => h_))⟩)⟩)⟩)⟩)) Wanted.none (fun wq sq => (Runs.move rfl)) ?_
 rcases H with ⟨c_71, H⟩ | ⟨c_71, H⟩
 ·have h_72 : ((l_22.length : Int) != (l_37.length : Int)) = true := (bne_iff_ne.mpr c_71)
  refine AWH.takeoff 6 rfl (by decide) (by kernel_rfl) (by kernel_rfl) (St.subset st_70 st_69 (List.forall_mem_cons.2 ⟨List.mem_of_getElem? (i := 4) rfl, (List.forall_mem_cons.2 ⟨List.mem_of_getElem? (i := 5) rfl, (List.forall_mem_cons.2 ⟨List.mem_of_getElem? (i := 6) rfl, (List.forall_mem_cons.2 ⟨List.mem_of_getElem? (i := 7) rfl, (mem_TR (A := [_, _, _, _, _, _, _, _]) (fun _ h_ => h_))⟩)⟩)⟩)⟩)) ?_ ?_; exact Wanted.guard (dj := 21) (by rfl) (evb (by rfl) h_72) (by rfl)
  refine AWH.takeoff 7 rfl (by decide) (by kernel_rfl) (by kernel_rfl) (St.subset st_70 st_69 (List.forall_mem_cons.2 ⟨List.mem_of_getElem? (i := 4) rfl, (List.forall_mem_cons.2 ⟨List.mem_of_getElem? (i := 5) rfl, (List.forall_mem_cons.2 ⟨List.mem_of_getElem? (i := 6) rfl, (List.forall_mem_cons.2 ⟨List.mem_of_getElem? (i := 7) rfl, (mem_TR (A := [_, _, _, _, _, _, _, _]) (fun _ h_ => h_))⟩)⟩)⟩)⟩)) ?_ ?_; exact Wanted.guard (dj := 21) (by rfl) (evb (by rfl) h_72) (by rfl)
  refine AWH.takeoff 8 rfl (by decide) (by kernel_rfl) (by kernel_rfl) (St.subset st_70 st_69 (List.forall_mem_cons.2 ⟨List.mem_of_getElem? (i := 4) rfl, (List.forall_mem_cons.2 ⟨List.mem_of_getElem? (i := 5) rfl, (List.forall_mem_cons.2 ⟨List.mem_of_getElem? (i := 6) rfl, (List.forall_mem_cons.2 ⟨List.mem_of_getElem? (i := 7) rfl, (mem_TR (A := [_, _, _, _, _, _, _, _]) (fun _ h_ => h_))⟩)⟩)⟩)⟩)) ?_ ?_; exact Wanted.guard (dj := 21) (by rfl) (evb (by rfl) h_72) (by rfl)
  refine AWH.takeoff 9 rfl (by decide) (by kernel_rfl) (by kernel_rfl) (St.subset st_70 st_69 (List.forall_mem_cons.2 ⟨List.mem_of_getElem? (i := 4) rfl, (List.forall_mem_cons.2 ⟨List.mem_of_getElem? (i := 5) rfl, (List.forall_mem_cons.2 ⟨List.mem_of_getElem? (i := 6) rfl, (List.forall_mem_cons.2 ⟨List.mem_of_getElem? (i := 7) rfl, (mem_TR (A := [_, _, _, _, _, _, _, _]) (fun _ h_ => h_))⟩)⟩)⟩)⟩)) ?_ ?_; exact Wanted.guard (dj := 21) (by rfl) (evb (by rfl) h_72) (by rfl)
  refine AWH.takeoff 10 rfl (by decide) (by kernel_rfl) (by kernel_rfl) (St.subset st_70 st_69 (List.forall_mem_cons.2 ⟨List.mem_of_getElem? (i := 4) rfl, (List.forall_mem_cons.2 ⟨List.mem_of_getElem? (i := 5) rfl, (List.forall_mem_cons.2 ⟨List.mem_of_getElem? (i := 6) rfl, (List.forall_mem_cons.2 ⟨List.mem_of_getElem? (i := 7) rfl, (mem_TR (A := [_, _, _, _, _, _, _, _]) (fun _ h_ => h_))⟩)⟩)⟩)⟩)) ?_ ?_; exact Wanted.guard (dj := 21) (by rfl) (evb (by rfl) h_72) (by rfl)
  refine AWH.takeoff 11 rfl (by decide) (by kernel_rfl) (by kernel_rfl) (St.subset st_70 st_69 (List.forall_mem_cons.2 ⟨List.mem_of_getElem? (i := 4) rfl, (List.forall_mem_cons.2 ⟨List.mem_of_getElem? (i := 5) rfl, (List.forall_mem_cons.2 ⟨List.mem_of_getElem? (i := 6) rfl, (List.forall_mem_cons.2 ⟨List.mem_of_getElem? (i := 7) rfl, (mem_TR (A := [_, _, _, _, _, _, _, _]) (fun _ h_ => h_))⟩)⟩)⟩)⟩)) ?_ ?_; exact Wanted.guard (dj := 21) (by rfl) (evb (by rfl) h_72) (by rfl)
  refine AWH.take 12 rfl (by decide) (by kernel_rfl) (by kernel_rfl) (St.subset st_70 st_69 (List.forall_mem_cons.2 ⟨List.mem_of_getElem? (i := 4) rfl, (List.forall_mem_cons.2 ⟨List.mem_of_getElem? (i := 5) rfl, (List.forall_mem_cons.2 ⟨List.mem_of_getElem? (i := 6) rfl, (List.forall_mem_cons.2 ⟨List.mem_of_getElem? (i := 7) rfl, (mem_TR (A := [_, _, _, _, _, _, _, _]) (fun _ h_ => h_))⟩)⟩)⟩)⟩)) Wanted.none (fun wq sq => (Runs.pick_t (evb rfl h_72) rfl)) ?_
  refine AWH.take 13 rfl (by decide) (by kernel_rfl) (by kernel_rfl) (St.subset st_70 st_69 (List.forall_mem_cons.2 ⟨List.mem_of_getElem? (i := 4) rfl, (List.forall_mem_cons.2 ⟨List.mem_of_getElem? (i := 5) rfl, (List.forall_mem_cons.2 ⟨List.mem_of_getElem? (i := 6) rfl, (List.forall_mem_cons.2 ⟨List.mem_of_getElem? (i := 7) rfl, (mem_TR (A := [_, _, _, _, _, _, _, _]) (fun _ h_ => h_))⟩)⟩)⟩)⟩)) Wanted.none (fun wq sq => (Runs.move rfl)) ?_
  refine AWH.takeoff 14 rfl (by decide) (by kernel_rfl) (by kernel_rfl) (St.subset st_70 st_69 (List.forall_mem_cons.2 ⟨List.mem_of_getElem? (i := 4) rfl, (List.forall_mem_cons.2 ⟨List.mem_of_getElem? (i := 5) rfl, (List.forall_mem_cons.2 ⟨List.mem_of_getElem? (i := 6) rfl, (List.forall_mem_cons.2 ⟨List.mem_of_getElem? (i := 7) rfl, (mem_TR (A := [_, _, _, _, _, _, _, _]) (fun _ h_ => h_))⟩)⟩)⟩)⟩)) ?_ ?_; exact Wanted.guard (dj := 29) (by rfl) (by rfl) (by rfl)
  refine AWH.takeoff 15 rfl (by decide) (by kernel_rfl) (by kernel_rfl) (St.subset st_70 st_69 (List.forall_mem_cons.2 ⟨List.mem_of_getElem? (i := 4) rfl, (List.forall_mem_cons.2 ⟨List.mem_of_getElem? (i := 5) rfl, (List.forall_mem_cons.2 ⟨List.mem_of_getElem? (i := 6) rfl, (List.forall_mem_cons.2 ⟨List.mem_of_getElem? (i := 7) rfl, (mem_TR (A := [_, _, _, _, _, _, _, _]) (fun _ h_ => h_))⟩)⟩)⟩)⟩)) ?_ ?_; exact Wanted.guard (dj := 29) (by rfl) (by rfl) (by rfl)
  refine AWH.takeoff 16 rfl (by decide) (by kernel_rfl) (by kernel_rfl) (St.subset st_70 st_69 (List.forall_mem_cons.2 ⟨List.mem_of_getElem? (i := 4) rfl, (List.forall_mem_cons.2 ⟨List.mem_of_getElem? (i := 5) rfl, (List.forall_mem_cons.2 ⟨List.mem_of_getElem? (i := 6) rfl, (List.forall_mem_cons.2 ⟨List.mem_of_getElem? (i := 7) rfl, (mem_TR (A := [_, _, _, _, _, _, _, _]) (fun _ h_ => h_))⟩)⟩)⟩)⟩)) ?_ ?_; exact Wanted.guard (dj := 29) (by rfl) (by rfl) (by rfl)
  refine AWH.takeoff 17 rfl (by decide) (by kernel_rfl) (by kernel_rfl) (St.subset st_70 st_69 (List.forall_mem_cons.2 ⟨List.mem_of_getElem? (i := 4) rfl, (List.forall_mem_cons.2 ⟨List.mem_of_getElem? (i := 5) rfl, (List.forall_mem_cons.2 ⟨List.mem_of_getElem? (i := 6) rfl, (List.forall_mem_cons.2 ⟨List.mem_of_getElem? (i := 7) rfl, (mem_TR (A := [_, _, _, _, _, _, _, _]) (fun _ h_ => h_))⟩)⟩)⟩)⟩)) ?_ ?_; exact Wanted.guard (dj := 29) (by rfl) (by rfl) (by rfl)
  refine AWH.takeoff 18 rfl (by decide) (by kernel_rfl) (by kernel_rfl) (St.subset st_70 st_69 (List.forall_mem_cons.2 ⟨List.mem_of_getElem? (i := 4) rfl, (List.forall_mem_cons.2 ⟨List.mem_of_getElem? (i := 5) rfl, (List.forall_mem_cons.2 ⟨List.mem_of_getElem? (i := 6) rfl, (List.forall_mem_cons.2 ⟨List.mem_of_getElem? (i := 7) rfl, (mem_TR (A := [_, _, _, _, _, _, _, _]) (fun _ h_ => h_))⟩)⟩)⟩)⟩)) ?_ ?_; exact Wanted.guard (dj := 29) (by rfl) (by rfl) (by rfl)
  refine AWH.takeoff 19 rfl (by decide) (by kernel_rfl) (by kernel_rfl) (St.subset st_70 st_69 (List.forall_mem_cons.2 ⟨List.mem_of_getElem? (i := 4) rfl, (List.forall_mem_cons.2 ⟨List.mem_of_getElem? (i := 5) rfl, (List.forall_mem_cons.2 ⟨List.mem_of_getElem? (i := 6) rfl, (List.forall_mem_cons.2 ⟨List.mem_of_getElem? (i := 7) rfl, (mem_TR (A := [_, _, _, _, _, _, _, _]) (fun _ h_ => h_))⟩)⟩)⟩)⟩)) ?_ ?_; exact Wanted.guard (dj := 29) (by rfl) (by rfl) (by rfl)
  refine AWH.take 20 rfl (by decide) (by kernel_rfl) (by kernel_rfl) (St.subset st_70 st_69 (List.forall_mem_cons.2 ⟨List.mem_of_getElem? (i := 4) rfl, (List.forall_mem_cons.2 ⟨List.mem_of_getElem? (i := 5) rfl, (List.forall_mem_cons.2 ⟨List.mem_of_getElem? (i := 6) rfl, (List.forall_mem_cons.2 ⟨List.mem_of_getElem? (i := 7) rfl, (mem_TR (A := [_, _, _, _, _, _, _, _]) (fun _ h_ => h_))⟩)⟩)⟩)⟩)) Wanted.none (fun wq sq => (Runs.pick_t rfl rfl)) ?_
  refine AWH.take 21 rfl (by decide) (by kernel_rfl) (by kernel_rfl) (St.subset st_70 st_69 (List.forall_mem_cons.2 ⟨List.mem_of_getElem? (i := 4) rfl, (List.forall_mem_cons.2 ⟨List.mem_of_getElem? (i := 5) rfl, (List.forall_mem_cons.2 ⟨List.mem_of_getElem? (i := 6) rfl, (List.forall_mem_cons.2 ⟨List.mem_of_getElem? (i := 7) rfl, (mem_TR (A := [_, _, _, _, _, _, _, _]) (fun _ h_ => h_))⟩)⟩)⟩)⟩)) Wanted.none (fun wq sq => (Runs.move rfl)) ?_
  refine AWH.takeoff 22 rfl (by decide) (by kernel_rfl) (by kernel_rfl) (St.subset st_70 st_69 (List.forall_mem_cons.2 ⟨List.mem_of_getElem? (i := 4) rfl, (List.forall_mem_cons.2 ⟨List.mem_of_getElem? (i := 5) rfl, (List.forall_mem_cons.2 ⟨List.mem_of_getElem? (i := 6) rfl, (List.forall_mem_cons.2 ⟨List.mem_of_getElem? (i := 7) rfl, (mem_TR (A := [_, _, _, _, _, _, _, _]) (fun _ h_ => h_))⟩)⟩)⟩)⟩)) ?_ ?_; exact Wanted.guard (dj := 37) (by rfl) (by rfl) (by rfl)
  refine AWH.takeoff 23 rfl (by decide) (by kernel_rfl) (by kernel_rfl) (St.subset st_70 st_69 (List.forall_mem_cons.2 ⟨List.mem_of_getElem? (i := 4) rfl, (List.forall_mem_cons.2 ⟨List.mem_of_getElem? (i := 5) rfl, (List.forall_mem_cons.2 ⟨List.mem_of_getElem? (i := 6) rfl, (List.forall_mem_cons.2 ⟨List.mem_of_getElem? (i := 7) rfl, (mem_TR (A := [_, _, _, _, _, _, _, _]) (fun _ h_ => h_))⟩)⟩)⟩)⟩)) ?_ ?_; exact Wanted.guard (dj := 37) (by rfl) (by rfl) (by rfl)
  refine AWH.takeoff 24 rfl (by decide) (by kernel_rfl) (by kernel_rfl) (St.subset st_70 st_69 (List.forall_mem_cons.2 ⟨List.mem_of_getElem? (i := 4) rfl, (List.forall_mem_cons.2 ⟨List.mem_of_getElem? (i := 5) rfl, (List.forall_mem_cons.2 ⟨List.mem_of_getElem? (i := 6) rfl, (List.forall_mem_cons.2 ⟨List.mem_of_getElem? (i := 7) rfl, (mem_TR (A := [_, _, _, _, _, _, _, _]) (fun _ h_ => h_))⟩)⟩)⟩)⟩)) ?_ ?_; exact Wanted.guard (dj := 37) (by rfl) (by rfl) (by rfl)
  refine AWH.takeoff 25 rfl (by decide) (by kernel_rfl) (by kernel_rfl) (St.subset st_70 st_69 (List.forall_mem_cons.2 ⟨List.mem_of_getElem? (i := 4) rfl, (List.forall_mem_cons.2 ⟨List.mem_of_getElem? (i := 5) rfl, (List.forall_mem_cons.2 ⟨List.mem_of_getElem? (i := 6) rfl, (List.forall_mem_cons.2 ⟨List.mem_of_getElem? (i := 7) rfl, (mem_TR (A := [_, _, _, _, _, _, _, _]) (fun _ h_ => h_))⟩)⟩)⟩)⟩)) ?_ ?_; exact Wanted.guard (dj := 37) (by rfl) (by rfl) (by rfl)
  refine AWH.tail (by kernel_rfl) ?_
  refine AW.takeoff 26 rfl (by kernel_rfl) (by kernel_rfl) (by kernel_rfl)  ?_ ?_; exact Wanted.guard (dj := 37) (by rfl) (by rfl) (by rfl)
  refine AW.take 27 rfl (by kernel_rfl) (by kernel_rfl) (by kernel_rfl) Wanted.none (fun _ => (Runs.pick_t rfl rfl)) ?_
  refine AW.done (by kernel_rfl) ?_
  refine QW.then_n ?_
  refine CW.sub [(3, .pointer (some ⟨B_1, 0, none⟩)), (4, .bool false), (5, .slice A_19 n_20 c_21), (6, .slice A_34 n_35 c_36), (7, .slice A_58 n_59 c_60), (43, .bool true)] (by repeat' constructor) ?_
  refine CW.ct rfl rfl ?_
  refine CW.seq (CW.region ?_)
  refine WL.val Wanted.none (Runs.assign rfl) ?_
  refine WL.nil (QW.then_n ?_)
  refine CW.ret ?_
  refine QW.then_r ?_
  obtain ⟨rfl, rfl, rfl, rfl, rfl, rfl⟩ := H
  exact QW.ret1 rfl rfl ⟨T_47, A_49_0, n_50_0, c_51_0, x_53_0, A_49_1, n_50_1, c_51_1, x_53_1, A_49_4, n_50_4, c_51_4, x_53_4, ((hs_9.trans hs_32).trans hs_48), hn_54_0, hx_55_0, hn_54_1, hx_55_1, hn_54_4, hx_55_4, rfl, (St.pickT (L := [_, _, _, _, _, _, _, _]) st_69 [0, 1, 2, 3] (by decide))⟩
 ·have h_72 : ((l_22.length : Int) != (l_37.length : Int)) = false := (bne_eq_false_iff_eq.mpr (Decidable.not_not.mp c_71))
  refine AWH.take 6 rfl (by decide) (by kernel_rfl) (by kernel_rfl) (St.subset st_70 st_69 (List.forall_mem_cons.2 ⟨List.mem_of_getElem? (i := 4) rfl, (List.forall_mem_cons.2 ⟨List.mem_of_getElem? (i := 5) rfl, (List.forall_mem_cons.2 ⟨List.mem_of_getElem? (i := 6) rfl, (List.forall_mem_cons.2 ⟨List.mem_of_getElem? (i := 7) rfl, (mem_TR (A := [_, _, _, _, _, _, _, _]) (fun _ h_ => h_))⟩)⟩)⟩)⟩)) ?_ (fun wq sq => (Runs.move rfl)) ?_; exact Wanted.guard (dj := 21) (by rfl) (evb (by rfl) h_72) (by rfl)
  refine AWH.take 8 rfl (by decide) (by kernel_rfl) (by kernel_rfl) (St.subset st_70 st_69 (List.forall_mem_cons.2 ⟨List.mem_of_getElem? (i := 4) rfl, (List.forall_mem_cons.2 ⟨List.mem_of_getElem? (i := 5) rfl, (List.forall_mem_cons.2 ⟨List.mem_of_getElem? (i := 6) rfl, (List.forall_mem_cons.2 ⟨List.mem_of_getElem? (i := 7) rfl, (mem_TR (A := [_, _, _, _, _, _, _, _]) (fun _ h_ => h_))⟩)⟩)⟩)⟩)) ?_ (fun wq sq => (Runs.fieldAddr (off := 2) (p := 2) fld48_2 rfl rfl rfl)) ?_; exact Wanted.guard (dj := 21) (by rfl) (evb (by rfl) h_72) (by rfl)
  refine AWH.take 9 rfl (by decide) (by kernel_rfl) (by kernel_rfl) (St.subset st_70 st_69 (List.forall_mem_cons.2 ⟨List.mem_of_getElem? (i := 4) rfl, (List.forall_mem_cons.2 ⟨List.mem_of_getElem? (i := 5) rfl, (List.forall_mem_cons.2 ⟨List.mem_of_getElem? (i := 6) rfl, (List.forall_mem_cons.2 ⟨List.mem_of_getElem? (i := 7) rfl, (mem_TR (A := [_, _, _, _, _, _, _, _]) (fun _ h_ => h_))⟩)⟩)⟩)⟩)) ?_ (fun wq sq => (Runs.load nagg45 rfl (sq.cell (k := 3) rfl (part_one (u := .slice A1_2 n1_2 c1_2) (pre := (([.int .i64 a1_0] : Cs) ++ ([.slice A1_1 n1_1 c1_1] : Cs))) (post := (([.int .i64 a1_3] : Cs) ++ (([.bool a1_4] : Cs) ++ ([.slice A1_5 n1_5 c1_5] : Cs)))) (by first | rfl | simp only [List.append_assoc, List.append_nil, List.nil_append, List.cons_append]) (by first | rfl | simp only [List.length_append, List.length_cons, List.length_nil, iv_length]))))) ?_; exact Wanted.guard (dj := 21) (by rfl) (evb (by rfl) h_72) (by rfl)
  refine AWH.take 10 rfl (by decide) (by kernel_rfl) (by kernel_rfl) (St.subset st_70 st_69 (List.forall_mem_cons.2 ⟨List.mem_of_getElem? (i := 4) rfl, (List.forall_mem_cons.2 ⟨List.mem_of_getElem? (i := 5) rfl, (List.forall_mem_cons.2 ⟨List.mem_of_getElem? (i := 6) rfl, (List.forall_mem_cons.2 ⟨List.mem_of_getElem? (i := 7) rfl, (mem_TR (A := [_, _, _, _, _, _, _, _]) (fun _ h_ => h_))⟩)⟩)⟩)⟩)) ?_ (fun wq sq => (Runs.len_sl Try.underlying45 rfl (by rw [hb1_2.1]))) ?_; exact Wanted.guard (dj := 21) (by rfl) (evb (by rfl) h_72) (by rfl)
  refine AWH.step 7 rfl (by decide) (by kernel_rfl) (fun inv_ hs_ hk_ hc_ hn_ => ?_); refine WL.on ?_ ?_; exact Wanted.guard (dj := 21) (by rfl) (evb (by rfl) h_72) (by rfl)
  have st_73 : St w w_68 (.cells b0 (([.slice A_49_0 n_50_0 c_51_0] : Cs) ++ (([.slice A_49_1 n_50_1 c_51_1] : Cs) ++ (([.int .i64 a_56_2] : Cs) ++ (([.bool a_56_3] : Cs) ++ ([.slice A_49_4 n_50_4 c_51_4] : Cs))))) 66 :: .sl A_49_0 c_51_0 n_50_0 x_53_0 22 1 :: .sl A_49_1 c_51_1 n_50_1 x_53_1 69 2 :: .sl A_49_4 c_51_4 n_50_4 x_53_4 71 2 :: (T_47 ++ (.sl A_58 c_60 n_59 x_62 71 2 :: .sl A_34 c_36 n_35 x_38 9 1 :: .sl A_19 c_21 n_20 x_23 22 1 :: .cells B_1 (([.int .i64 a1_0] : Cs) ++ (([.slice A1_1 n1_1 c1_1] : Cs) ++ (([.slice A1_2 n1_2 c1_2] : Cs) ++ (([.int .i64 a1_3] : Cs) ++ (([.bool a1_4] : Cs) ++ ([.slice A1_5 n1_5 c1_5] : Cs)))))) 48 :: R))) := St.hide (A := [_, _, _, _]) (B := [_, _, _, _]) (T := T_47) (R := R) st_69
  obtain ⟨l_80_0, l_80_1, a_84_2, a_84_3, l_80_4, a_86, hr_74, H⟩ := H
  refine WL.call Wanted.none ent13 rfl (disk_Disk_Pending.calls w w_68 T_47 (.sl A_58 c_60 n_59 x_62 71 2 :: .sl A_34 c_36 n_35 x_38 9 1 :: .sl A_19 c_21 n_20 x_23 22 1 :: .cells B_1 (([.int .i64 a1_0] : Cs) ++ (([.slice A1_1 n1_1 c1_1] : Cs) ++ (([.slice A1_2 n1_2 c1_2] : Cs) ++ (([.int .i64 a1_3] : Cs) ++ (([.bool a1_4] : Cs) ++ ([.slice A1_5 n1_5 c1_5] : Cs)))))) 48 :: R) l_52_0 l_52_1 a_56_2 a_56_3 l_52_4 b0 A_49_0 n_50_0 c_51_0 x_53_0 A_49_1 n_50_1 c_51_1 x_53_1 A_49_4 n_50_4 c_51_4 x_53_4  st_73 (hn_54_0) hx_55_0 (hn_54_1) hx_55_1 (hn_54_4) hx_55_4 l_80_0 l_80_1 a_84_2 a_84_3 l_80_4 a_86 hr_74) ?_
  rintro _ w_87 ⟨T_75, A_77_0, n_78_0, c_79_0, x_81_0, A_77_1, n_78_1, c_79_1, x_81_1, A_77_4, n_78_4, c_79_4, x_81_4, hs_76, hn_82_0, hx_83_0, hn_82_1, hx_83_1, hn_82_4, hx_83_4, rfl, sc_89⟩
  have st_88 : St w w_87 (.cells b0 (([.slice A_77_0 n_78_0 c_79_0] : Cs) ++ (([.slice A_77_1 n_78_1 c_79_1] : Cs) ++ (([.int .i64 a_84_2] : Cs) ++ (([.bool a_84_3] : Cs) ++ ([.slice A_77_4 n_78_4 c_79_4] : Cs))))) 66 :: .sl A_77_0 c_79_0 n_78_0 x_81_0 22 1 :: .sl A_77_1 c_79_1 n_78_1 x_81_1 69 2 :: .sl A_77_4 c_79_4 n_78_4 x_81_4 71 2 :: .sl A_58 c_60 n_59 x_62 71 2 :: .sl A_34 c_36 n_35 x_38 9 1 :: .sl A_19 c_21 n_20 x_23 22 1 :: .cells B_1 (([.int .i64 a1_0] : Cs) ++ (([.slice A1_1 n1_1 c1_1] : Cs) ++ (([.slice A1_2 n1_2 c1_2] : Cs) ++ (([.int .i64 a1_3] : Cs) ++ (([.bool a1_4] : Cs) ++ ([.slice A1_5 n1_5 c1_5] : Cs)))))) 48 :: (T_75 ++ R)) := St.unhide (A := [_, _, _, _]) (B := [_, _, _, _]) (T := T_75) (R := R) sc_89
  refine ⟨_, rfl, ?_⟩
  refine WL.nil ?_
  refine AWH.back (St.subset st_70 st_88 (List.forall_mem_cons.2 ⟨List.mem_of_getElem? (i := 4) rfl, (List.forall_mem_cons.2 ⟨List.mem_of_getElem? (i := 5) rfl, (List.forall_mem_cons.2 ⟨List.mem_of_getElem? (i := 6) rfl, (List.forall_mem_cons.2 ⟨List.mem_of_getElem? (i := 7) rfl, (mem_TR (A := [_, _, _, _, _, _, _, _]) (fun _ h_ => hs_76.1 _ h_))⟩)⟩)⟩)⟩)) inv_ hs_ hk_ hc_ hn_ ?_
  refine AWH.take 11 rfl (by decide) (by kernel_rfl) (by kernel_rfl) (St.subset st_70 st_88 (List.forall_mem_cons.2 ⟨List.mem_of_getElem? (i := 4) rfl, (List.forall_mem_cons.2 ⟨List.mem_of_getElem? (i := 5) rfl, (List.forall_mem_cons.2 ⟨List.mem_of_getElem? (i := 6) rfl, (List.forall_mem_cons.2 ⟨List.mem_of_getElem? (i := 7) rfl, (mem_TR (A := [_, _, _, _, _, _, _, _]) (fun _ h_ => hs_76.1 _ h_))⟩)⟩)⟩)⟩)) ?_ (fun wq sq => (Runs.neq rfl rfl rfl)) ?_; exact Wanted.guard (dj := 21) (by rfl) (evb (by rfl) h_72) (by rfl)
  refine AWH.take 12 rfl (by decide) (by kernel_rfl) (by kernel_rfl) (St.subset st_70 st_88 (List.forall_mem_cons.2 ⟨List.mem_of_getElem? (i := 4) rfl, (List.forall_mem_cons.2 ⟨List.mem_of_getElem? (i := 5) rfl, (List.forall_mem_cons.2 ⟨List.mem_of_getElem? (i := 6) rfl, (List.forall_mem_cons.2 ⟨List.mem_of_getElem? (i := 7) rfl, (mem_TR (A := [_, _, _, _, _, _, _, _]) (fun _ h_ => hs_76.1 _ h_))⟩)⟩)⟩)⟩)) Wanted.none (fun wq sq => (Runs.pick_f (evb rfl h_72) rfl)) ?_
  refine AWH.take 13 rfl (by decide) (by kernel_rfl) (by kernel_rfl) (St.subset st_70 st_88 (List.forall_mem_cons.2 ⟨List.mem_of_getElem? (i := 4) rfl, (List.forall_mem_cons.2 ⟨List.mem_of_getElem? (i := 5) rfl, (List.forall_mem_cons.2 ⟨List.mem_of_getElem? (i := 6) rfl, (List.forall_mem_cons.2 ⟨List.mem_of_getElem? (i := 7) rfl, (mem_TR (A := [_, _, _, _, _, _, _, _]) (fun _ h_ => hs_76.1 _ h_))⟩)⟩)⟩)⟩)) Wanted.none (fun wq sq => (Runs.move rfl)) ?_
  rcases H with ⟨c_90, H⟩ | ⟨c_90, H⟩
  ·have h_91 : (a_86 != (l1_2.length : Int)) = true := (bne_iff_ne.mpr c_90)
   refine AWH.takeoff 14 rfl (by decide) (by kernel_rfl) (by kernel_rfl) (St.subset st_70 st_88 (List.forall_mem_cons.2 ⟨List.mem_of_getElem? (i := 4) rfl, (List.forall_mem_cons.2 ⟨List.mem_of_getElem? (i := 5) rfl, (List.forall_mem_cons.2 ⟨List.mem_of_getElem? (i := 6) rfl, (List.forall_mem_cons.2 ⟨List.mem_of_getElem? (i := 7) rfl, (mem_TR (A := [_, _, _, _, _, _, _, _]) (fun _ h_ => hs_76.1 _ h_))⟩)⟩)⟩)⟩)) ?_ ?_; exact Wanted.guard (dj := 29) (by rfl) (evb (by rfl) h_91) (by rfl)
   refine AWH.takeoff 15 rfl (by decide) (by kernel_rfl) (by kernel_rfl) (St.subset st_70 st_88 (List.forall_mem_cons.2 ⟨List.mem_of_getElem? (i := 4) rfl, (List.forall_mem_cons.2 ⟨List.mem_of_getElem? (i := 5) rfl, (List.forall_mem_cons.2 ⟨List.mem_of_getElem? (i := 6) rfl, (List.forall_mem_cons.2 ⟨List.mem_of_getElem? (i := 7) rfl, (mem_TR (A := [_, _, _, _, _, _, _, _]) (fun _ h_ => hs_76.1 _ h_))⟩)⟩)⟩)⟩)) ?_ ?_; exact Wanted.guard (dj := 29) (by rfl) (evb (by rfl) h_91) (by rfl)
   refine AWH.takeoff 16 rfl (by decide) (by kernel_rfl) (by kernel_rfl) (St.subset st_70 st_88 (List.forall_mem_cons.2 ⟨List.mem_of_getElem? (i := 4) rfl, (List.forall_mem_cons.2 ⟨List.mem_of_getElem? (i := 5) rfl, (List.forall_mem_cons.2 ⟨List.mem_of_getElem? (i := 6) rfl, (List.forall_mem_cons.2 ⟨List.mem_of_getElem? (i := 7) rfl, (mem_TR (A := [_, _, _, _, _, _, _, _]) (fun _ h_ => hs_76.1 _ h_))⟩)⟩)⟩)⟩)) ?_ ?_; exact Wanted.guard (dj := 29) (by rfl) (evb (by rfl) h_91) (by rfl)
   refine AWH.takeoff 17 rfl (by decide) (by kernel_rfl) (by kernel_rfl) (St.subset st_70 st_88 (List.forall_mem_cons.2 ⟨List.mem_of_getElem? (i := 4) rfl, (List.forall_mem_cons.2 ⟨List.mem_of_getElem? (i := 5) rfl, (List.forall_mem_cons.2 ⟨List.mem_of_getElem? (i := 6) rfl, (List.forall_mem_cons.2 ⟨List.mem_of_getElem? (i := 7) rfl, (mem_TR (A := [_, _, _, _, _, _, _, _]) (fun _ h_ => hs_76.1 _ h_))⟩)⟩)⟩)⟩)) ?_ ?_; exact Wanted.guard (dj := 29) (by rfl) (evb (by rfl) h_91) (by rfl)
   refine AWH.takeoff 18 rfl (by decide) (by kernel_rfl) (by kernel_rfl) (St.subset st_70 st_88 (List.forall_mem_cons.2 ⟨List.mem_of_getElem? (i := 4) rfl, (List.forall_mem_cons.2 ⟨List.mem_of_getElem? (i := 5) rfl, (List.forall_mem_cons.2 ⟨List.mem_of_getElem? (i := 6) rfl, (List.forall_mem_cons.2 ⟨List.mem_of_getElem? (i := 7) rfl, (mem_TR (A := [_, _, _, _, _, _, _, _]) (fun _ h_ => hs_76.1 _ h_))⟩)⟩)⟩)⟩)) ?_ ?_; exact Wanted.guard (dj := 29) (by rfl) (evb (by rfl) h_91) (by rfl)
   refine AWH.takeoff 19 rfl (by decide) (by kernel_rfl) (by kernel_rfl) (St.subset st_70 st_88 (List.forall_mem_cons.2 ⟨List.mem_of_getElem? (i := 4) rfl, (List.forall_mem_cons.2 ⟨List.mem_of_getElem? (i := 5) rfl, (List.forall_mem_cons.2 ⟨List.mem_of_getElem? (i := 6) rfl, (List.forall_mem_cons.2 ⟨List.mem_of_getElem? (i := 7) rfl, (mem_TR (A := [_, _, _, _, _, _, _, _]) (fun _ h_ => hs_76.1 _ h_))⟩)⟩)⟩)⟩)) ?_ ?_; exact Wanted.guard (dj := 29) (by rfl) (evb (by rfl) h_91) (by rfl)
   refine AWH.take 20 rfl (by decide) (by kernel_rfl) (by kernel_rfl) (St.subset st_70 st_88 (List.forall_mem_cons.2 ⟨List.mem_of_getElem? (i := 4) rfl, (List.forall_mem_cons.2 ⟨List.mem_of_getElem? (i := 5) rfl, (List.forall_mem_cons.2 ⟨List.mem_of_getElem? (i := 6) rfl, (List.forall_mem_cons.2 ⟨List.mem_of_getElem? (i := 7) rfl, (mem_TR (A := [_, _, _, _, _, _, _, _]) (fun _ h_ => hs_76.1 _ h_))⟩)⟩)⟩)⟩)) Wanted.none (fun wq sq => (Runs.pick_t (evb rfl h_91) rfl)) ?_
   refine AWH.take 21 rfl (by decide) (by kernel_rfl) (by kernel_rfl) (St.subset st_70 st_88 (List.forall_mem_cons.2 ⟨List.mem_of_getElem? (i := 4) rfl, (List.forall_mem_cons.2 ⟨List.mem_of_getElem? (i := 5) rfl, (List.forall_mem_cons.2 ⟨List.mem_of_getElem? (i := 6) rfl, (List.forall_mem_cons.2 ⟨List.mem_of_getElem? (i := 7) rfl, (mem_TR (A := [_, _, _, _, _, _, _, _]) (fun _ h_ => hs_76.1 _ h_))⟩)⟩)⟩)⟩)) Wanted.none (fun wq sq => (Runs.move rfl)) ?_
   refine AWH.takeoff 22 rfl (by decide) (by kernel_rfl) (by kernel_rfl) (St.subset st_70 st_88 (List.forall_mem_cons.2 ⟨List.mem_of_getElem? (i := 4) rfl, (List.forall_mem_cons.2 ⟨List.mem_of_getElem? (i := 5) rfl, (List.forall_mem_cons.2 ⟨List.mem_of_getElem? (i := 6) rfl, (List.forall_mem_cons.2 ⟨List.mem_of_getElem? (i := 7) rfl, (mem_TR (A := [_, _, _, _, _, _, _, _]) (fun _ h_ => hs_76.1 _ h_))⟩)⟩)⟩)⟩)) ?_ ?_; exact Wanted.guard (dj := 37) (by rfl) (by rfl) (by rfl)
   refine AWH.takeoff 23 rfl (by decide) (by kernel_rfl) (by kernel_rfl) (St.subset st_70 st_88 (List.forall_mem_cons.2 ⟨List.mem_of_getElem? (i := 4) rfl, (List.forall_mem_cons.2 ⟨List.mem_of_getElem? (i := 5) rfl, (List.forall_mem_cons.2 ⟨List.mem_of_getElem? (i := 6) rfl, (List.forall_mem_cons.2 ⟨List.mem_of_getElem? (i := 7) rfl, (mem_TR (A := [_, _, _, _, _, _, _, _]) (fun _ h_ => hs_76.1 _ h_))⟩)⟩)⟩)⟩)) ?_ ?_; exact Wanted.guard (dj := 37) (by rfl) (by rfl) (by rfl)
   refine AWH.takeoff 24 rfl (by decide) (by kernel_rfl) (by kernel_rfl) (St.subset st_70 st_88 (List.forall_mem_cons.2 ⟨List.mem_of_getElem? (i := 4) rfl, (List.forall_mem_cons.2 ⟨List.mem_of_getElem? (i := 5) rfl, (List.forall_mem_cons.2 ⟨List.mem_of_getElem? (i := 6) rfl, (List.forall_mem_cons.2 ⟨List.mem_of_getElem? (i := 7) rfl, (mem_TR (A := [_, _, _, _, _, _, _, _]) (fun _ h_ => hs_76.1 _ h_))⟩)⟩)⟩)⟩)) ?_ ?_; exact Wanted.guard (dj := 37) (by rfl) (by rfl) (by rfl)
   refine AWH.takeoff 25 rfl (by decide) (by kernel_rfl) (by kernel_rfl) (St.subset st_70 st_88 (List.forall_mem_cons.2 ⟨List.mem_of_getElem? (i := 4) rfl, (List.forall_mem_cons.2 ⟨List.mem_of_getElem? (i := 5) rfl, (List.forall_mem_cons.2 ⟨List.mem_of_getElem? (i := 6) rfl, (List.forall_mem_cons.2 ⟨List.mem_of_getElem? (i := 7) rfl, (mem_TR (A := [_, _, _, _, _, _, _, _]) (fun _ h_ => hs_76.1 _ h_))⟩)⟩)⟩)⟩)) ?_ ?_; exact Wanted.guard (dj := 37) (by rfl) (by rfl) (by rfl)
   refine AWH.tail (by kernel_rfl) ?_
   refine AW.takeoff 26 rfl (by kernel_rfl) (by kernel_rfl) (by kernel_rfl)  ?_ ?_; exact Wanted.guard (dj := 37) (by rfl) (by rfl) (by rfl)
   refine AW.take 27 rfl (by kernel_rfl) (by kernel_rfl) (by kernel_rfl) Wanted.none (fun _ => (Runs.pick_t rfl rfl)) ?_
   refine AW.done (by kernel_rfl) ?_
   refine QW.then_n ?_
   refine CW.sub [(3, .pointer (some ⟨B_1, 0, none⟩)), (4, .bool false), (5, .slice A_19 n_20 c_21), (6, .slice A_34 n_35 c_36), (7, .slice A_58 n_59 c_60), (43, .bool true)] (by repeat' constructor) ?_
   refine CW.ct rfl rfl ?_
   refine CW.seq (CW.region ?_)
   refine WL.val Wanted.none (Runs.assign rfl) ?_
   refine WL.nil (QW.then_n ?_)
   refine CW.ret ?_
   refine QW.then_r ?_
   obtain ⟨rfl, rfl, rfl, rfl, rfl, rfl⟩ := H
   exact QW.ret1 rfl rfl ⟨T_75, A_77_0, n_78_0, c_79_0, x_81_0, A_77_1, n_78_1, c_79_1, x_81_1, A_77_4, n_78_4, c_79_4, x_81_4, (((hs_9.trans hs_32).trans hs_48).trans hs_76), hn_82_0, hx_83_0, hn_82_1, hx_83_1, hn_82_4, hx_83_4, rfl, (St.pickT (L := [_, _, _, _, _, _, _, _]) st_88 [0, 1, 2, 3] (by decide))⟩
  ·have h_91 : (a_86 != (l1_2.length : Int)) = false := (bne_eq_false_iff_eq.mpr (Decidable.not_not.mp c_90))
   refine AWH.take 14 rfl (by decide) (by kernel_rfl) (by kernel_rfl) (St.subset st_70 st_88 (List.forall_mem_cons.2 ⟨List.mem_of_getElem? (i := 4) rfl, (List.forall_mem_cons.2 ⟨List.mem_of_getElem? (i := 5) rfl, (List.forall_mem_cons.2 ⟨List.mem_of_getElem? (i := 6) rfl, (List.forall_mem_cons.2 ⟨List.mem_of_getElem? (i := 7) rfl, (mem_TR (A := [_, _, _, _, _, _, _, _]) (fun _ h_ => hs_76.1 _ h_))⟩)⟩)⟩)⟩)) ?_ (fun wq sq => (Runs.move rfl)) ?_; exact Wanted.guard (dj := 29) (by rfl) (evb (by rfl) h_91) (by rfl)
   refine AWH.take 15 rfl (by decide) (by kernel_rfl) (by kernel_rfl) (St.subset st_70 st_88 (List.forall_mem_cons.2 ⟨List.mem_of_getElem? (i := 4) rfl, (List.forall_mem_cons.2 ⟨List.mem_of_getElem? (i := 5) rfl, (List.forall_mem_cons.2 ⟨List.mem_of_getElem? (i := 6) rfl, (List.forall_mem_cons.2 ⟨List.mem_of_getElem? (i := 7) rfl, (mem_TR (A := [_, _, _, _, _, _, _, _]) (fun _ h_ => hs_76.1 _ h_))⟩)⟩)⟩)⟩)) ?_ (fun wq sq => (Runs.len_sl Try.underlying61 rfl (by rw [hn_63]))) ?_; exact Wanted.guard (dj := 29) (by rfl) (evb (by rfl) h_91) (by rfl)
   refine AWH.take 16 rfl (by decide) (by kernel_rfl) (by kernel_rfl) (St.subset st_70 st_88 (List.forall_mem_cons.2 ⟨List.mem_of_getElem? (i := 4) rfl, (List.forall_mem_cons.2 ⟨List.mem_of_getElem? (i := 5) rfl, (List.forall_mem_cons.2 ⟨List.mem_of_getElem? (i := 6) rfl, (List.forall_mem_cons.2 ⟨List.mem_of_getElem? (i := 7) rfl, (mem_TR (A := [_, _, _, _, _, _, _, _]) (fun _ h_ => hs_76.1 _ h_))⟩)⟩)⟩)⟩)) ?_ (fun wq sq => (Runs.fieldAddr (off := 5) (p := 5) fld48_5 rfl rfl rfl)) ?_; exact Wanted.guard (dj := 29) (by rfl) (evb (by rfl) h_91) (by rfl)
   refine AWH.take 17 rfl (by decide) (by kernel_rfl) (by kernel_rfl) (St.subset st_70 st_88 (List.forall_mem_cons.2 ⟨List.mem_of_getElem? (i := 4) rfl, (List.forall_mem_cons.2 ⟨List.mem_of_getElem? (i := 5) rfl, (List.forall_mem_cons.2 ⟨List.mem_of_getElem? (i := 6) rfl, (List.forall_mem_cons.2 ⟨List.mem_of_getElem? (i := 7) rfl, (mem_TR (A := [_, _, _, _, _, _, _, _]) (fun _ h_ => hs_76.1 _ h_))⟩)⟩)⟩)⟩)) ?_ (fun wq sq => (Runs.load nagg46 rfl (sq.cell (k := 3) rfl (part_one (u := .slice A1_5 n1_5 c1_5) (pre := (([.int .i64 a1_0] : Cs) ++ (([.slice A1_1 n1_1 c1_1] : Cs) ++ (([.slice A1_2 n1_2 c1_2] : Cs) ++ (([.int .i64 a1_3] : Cs) ++ ([.bool a1_4] : Cs)))))) (post := (([] : Cs))) (by first | rfl | simp only [List.append_assoc, List.append_nil, List.nil_append, List.cons_append]) (by first | rfl | simp only [List.length_append, List.length_cons, List.length_nil, iv_length]))))) ?_; exact Wanted.guard (dj := 29) (by rfl) (evb (by rfl) h_91) (by rfl)
   refine AWH.take 18 rfl (by decide) (by kernel_rfl) (by kernel_rfl) (St.subset st_70 st_88 (List.forall_mem_cons.2 ⟨List.mem_of_getElem? (i := 4) rfl, (List.forall_mem_cons.2 ⟨List.mem_of_getElem? (i := 5) rfl, (List.forall_mem_cons.2 ⟨List.mem_of_getElem? (i := 6) rfl, (List.forall_mem_cons.2 ⟨List.mem_of_getElem? (i := 7) rfl, (mem_TR (A := [_, _, _, _, _, _, _, _]) (fun _ h_ => hs_76.1 _ h_))⟩)⟩)⟩)⟩)) ?_ (fun wq sq => (Runs.len_sl Try.underlying46 rfl (by rw [hb1_5.1]))) ?_; exact Wanted.guard (dj := 29) (by rfl) (evb (by rfl) h_91) (by rfl)
   refine AWH.take 19 rfl (by decide) (by kernel_rfl) (by kernel_rfl) (St.subset st_70 st_88 (List.forall_mem_cons.2 ⟨List.mem_of_getElem? (i := 4) rfl, (List.forall_mem_cons.2 ⟨List.mem_of_getElem? (i := 5) rfl, (List.forall_mem_cons.2 ⟨List.mem_of_getElem? (i := 6) rfl, (List.forall_mem_cons.2 ⟨List.mem_of_getElem? (i := 7) rfl, (mem_TR (A := [_, _, _, _, _, _, _, _]) (fun _ h_ => hs_76.1 _ h_))⟩)⟩)⟩)⟩)) ?_ (fun wq sq => (Runs.neq rfl rfl rfl)) ?_; exact Wanted.guard (dj := 29) (by rfl) (evb (by rfl) h_91) (by rfl)
   refine AWH.take 20 rfl (by decide) (by kernel_rfl) (by kernel_rfl) (St.subset st_70 st_88 (List.forall_mem_cons.2 ⟨List.mem_of_getElem? (i := 4) rfl, (List.forall_mem_cons.2 ⟨List.mem_of_getElem? (i := 5) rfl, (List.forall_mem_cons.2 ⟨List.mem_of_getElem? (i := 6) rfl, (List.forall_mem_cons.2 ⟨List.mem_of_getElem? (i := 7) rfl, (mem_TR (A := [_, _, _, _, _, _, _, _]) (fun _ h_ => hs_76.1 _ h_))⟩)⟩)⟩)⟩)) Wanted.none (fun wq sq => (Runs.pick_f (evb rfl h_91) rfl)) ?_
   refine AWH.take 21 rfl (by decide) (by kernel_rfl) (by kernel_rfl) (St.subset st_70 st_88 (List.forall_mem_cons.2 ⟨List.mem_of_getElem? (i := 4) rfl, (List.forall_mem_cons.2 ⟨List.mem_of_getElem? (i := 5) rfl, (List.forall_mem_cons.2 ⟨List.mem_of_getElem? (i := 6) rfl, (List.forall_mem_cons.2 ⟨List.mem_of_getElem? (i := 7) rfl, (mem_TR (A := [_, _, _, _, _, _, _, _]) (fun _ h_ => hs_76.1 _ h_))⟩)⟩)⟩)⟩)) Wanted.none (fun wq sq => (Runs.move rfl)) ?_
   rcases H with ⟨c_92, H⟩ | ⟨c_92, H⟩
   ·have h_93 : ((l_61.length : Int) != (l1_5.length : Int)) = true := (bne_iff_ne.mpr c_92)
    refine AWH.takeoff 22 rfl (by decide) (by kernel_rfl) (by kernel_rfl) (St.subset st_70 st_88 (List.forall_mem_cons.2 ⟨List.mem_of_getElem? (i := 4) rfl, (List.forall_mem_cons.2 ⟨List.mem_of_getElem? (i := 5) rfl, (List.forall_mem_cons.2 ⟨List.mem_of_getElem? (i := 6) rfl, (List.forall_mem_cons.2 ⟨List.mem_of_getElem? (i := 7) rfl, (mem_TR (A := [_, _, _, _, _, _, _, _]) (fun _ h_ => hs_76.1 _ h_))⟩)⟩)⟩)⟩)) ?_ ?_; exact Wanted.guard (dj := 37) (by rfl) (evb (by rfl) h_93) (by rfl)
    refine AWH.takeoff 23 rfl (by decide) (by kernel_rfl) (by kernel_rfl) (St.subset st_70 st_88 (List.forall_mem_cons.2 ⟨List.mem_of_getElem? (i := 4) rfl, (List.forall_mem_cons.2 ⟨List.mem_of_getElem? (i := 5) rfl, (List.forall_mem_cons.2 ⟨List.mem_of_getElem? (i := 6) rfl, (List.forall_mem_cons.2 ⟨List.mem_of_getElem? (i := 7) rfl, (mem_TR (A := [_, _, _, _, _, _, _, _]) (fun _ h_ => hs_76.1 _ h_))⟩)⟩)⟩)⟩)) ?_ ?_; exact Wanted.guard (dj := 37) (by rfl) (evb (by rfl) h_93) (by rfl)
    refine AWH.takeoff 24 rfl (by decide) (by kernel_rfl) (by kernel_rfl) (St.subset st_70 st_88 (List.forall_mem_cons.2 ⟨List.mem_of_getElem? (i := 4) rfl, (List.forall_mem_cons.2 ⟨List.mem_of_getElem? (i := 5) rfl, (List.forall_mem_cons.2 ⟨List.mem_of_getElem? (i := 6) rfl, (List.forall_mem_cons.2 ⟨List.mem_of_getElem? (i := 7) rfl, (mem_TR (A := [_, _, _, _, _, _, _, _]) (fun _ h_ => hs_76.1 _ h_))⟩)⟩)⟩)⟩)) ?_ ?_; exact Wanted.guard (dj := 37) (by rfl) (evb (by rfl) h_93) (by rfl)
    refine AWH.takeoff 25 rfl (by decide) (by kernel_rfl) (by kernel_rfl) (St.subset st_70 st_88 (List.forall_mem_cons.2 ⟨List.mem_of_getElem? (i := 4) rfl, (List.forall_mem_cons.2 ⟨List.mem_of_getElem? (i := 5) rfl, (List.forall_mem_cons.2 ⟨List.mem_of_getElem? (i := 6) rfl, (List.forall_mem_cons.2 ⟨List.mem_of_getElem? (i := 7) rfl, (mem_TR (A := [_, _, _, _, _, _, _, _]) (fun _ h_ => hs_76.1 _ h_))⟩)⟩)⟩)⟩)) ?_ ?_; exact Wanted.guard (dj := 37) (by rfl) (evb (by rfl) h_93) (by rfl)
    refine AWH.tail (by kernel_rfl) ?_
    refine AW.takeoff 26 rfl (by kernel_rfl) (by kernel_rfl) (by kernel_rfl)  ?_ ?_; exact Wanted.guard (dj := 37) (by rfl) (evb (by rfl) h_93) (by rfl)
    refine AW.take 27 rfl (by kernel_rfl) (by kernel_rfl) (by kernel_rfl) Wanted.none (fun _ => (Runs.pick_t (evb rfl h_93) rfl)) ?_
    refine AW.done (by kernel_rfl) ?_
    refine QW.then_n ?_
    refine CW.sub [(3, .pointer (some ⟨B_1, 0, none⟩)), (4, .bool false), (5, .slice A_19 n_20 c_21), (6, .slice A_34 n_35 c_36), (7, .slice A_58 n_59 c_60), (43, .bool true)] (by repeat' constructor) ?_
    refine CW.ct rfl rfl ?_
    refine CW.seq (CW.region ?_)
    refine WL.val Wanted.none (Runs.assign rfl) ?_
    refine WL.nil (QW.then_n ?_)
    refine CW.ret ?_
    refine QW.then_r ?_
    obtain ⟨rfl, rfl, rfl, rfl, rfl, rfl⟩ := H
    exact QW.ret1 rfl rfl ⟨T_75, A_77_0, n_78_0, c_79_0, x_81_0, A_77_1, n_78_1, c_79_1, x_81_1, A_77_4, n_78_4, c_79_4, x_81_4, (((hs_9.trans hs_32).trans hs_48).trans hs_76), hn_82_0, hx_83_0, hn_82_1, hx_83_1, hn_82_4, hx_83_4, rfl, (St.pickT (L := [_, _, _, _, _, _, _, _]) st_88 [0, 1, 2, 3] (by decide))⟩
   ·have h_93 : ((l_61.length : Int) != (l1_5.length : Int)) = false := (bne_eq_false_iff_eq.mpr (Decidable.not_not.mp c_92))
    refine AWH.take 22 rfl (by decide) (by kernel_rfl) (by kernel_rfl) (St.subset st_70 st_88 (List.forall_mem_cons.2 ⟨List.mem_of_getElem? (i := 4) rfl, (List.forall_mem_cons.2 ⟨List.mem_of_getElem? (i := 5) rfl, (List.forall_mem_cons.2 ⟨List.mem_of_getElem? (i := 6) rfl, (List.forall_mem_cons.2 ⟨List.mem_of_getElem? (i := 7) rfl, (mem_TR (A := [_, _, _, _, _, _, _, _]) (fun _ h_ => hs_76.1 _ h_))⟩)⟩)⟩)⟩)) ?_ (fun wq sq => (Runs.move rfl)) ?_; exact Wanted.guard (dj := 37) (by rfl) (evb (by rfl) h_93) (by rfl)
    refine AWH.take 24 rfl (by decide) (by kernel_rfl) (by kernel_rfl) (St.subset st_70 st_88 (List.forall_mem_cons.2 ⟨List.mem_of_getElem? (i := 4) rfl, (List.forall_mem_cons.2 ⟨List.mem_of_getElem? (i := 5) rfl, (List.forall_mem_cons.2 ⟨List.mem_of_getElem? (i := 6) rfl, (List.forall_mem_cons.2 ⟨List.mem_of_getElem? (i := 7) rfl, (mem_TR (A := [_, _, _, _, _, _, _, _]) (fun _ h_ => hs_76.1 _ h_))⟩)⟩)⟩)⟩)) ?_ (fun wq sq => (Runs.fieldAddr (off := 0) (p := 0) fld48_0 rfl rfl rfl)) ?_; exact Wanted.guard (dj := 37) (by rfl) (evb (by rfl) h_93) (by rfl)
    refine AWH.take 25 rfl (by decide) (by kernel_rfl) (by kernel_rfl) (St.subset st_70 st_88 (List.forall_mem_cons.2 ⟨List.mem_of_getElem? (i := 4) rfl, (List.forall_mem_cons.2 ⟨List.mem_of_getElem? (i := 5) rfl, (List.forall_mem_cons.2 ⟨List.mem_of_getElem? (i := 6) rfl, (List.forall_mem_cons.2 ⟨List.mem_of_getElem? (i := 7) rfl, (mem_TR (A := [_, _, _, _, _, _, _, _]) (fun _ h_ => hs_76.1 _ h_))⟩)⟩)⟩)⟩)) ?_ (fun wq sq => (Runs.load nagg3 rfl (sq.cell (k := 3) rfl (part_one (u := .int .i64 a1_0) (pre := (([] : Cs))) (post := (([.slice A1_1 n1_1 c1_1] : Cs) ++ (([.slice A1_2 n1_2 c1_2] : Cs) ++ (([.int .i64 a1_3] : Cs) ++ (([.bool a1_4] : Cs) ++ ([.slice A1_5 n1_5 c1_5] : Cs)))))) (by first | rfl | simp only [List.append_assoc, List.append_nil, List.nil_append, List.cons_append]) (by first | rfl | simp only [List.length_append, List.length_cons, List.length_nil, iv_length]))))) ?_; exact Wanted.guard (dj := 37) (by rfl) (evb (by rfl) h_93) (by rfl)
    refine AWH.step 23 rfl (by decide) (by kernel_rfl) (fun inv_ hs_ hk_ hc_ hn_ => ?_); refine WL.on ?_ ?_; exact Wanted.guard (dj := 37) (by rfl) (evb (by rfl) h_93) (by rfl)
    have st_94 : St w w_87 (.cells b0 (([.slice A_77_0 n_78_0 c_79_0] : Cs) ++ (([.slice A_77_1 n_78_1 c_79_1] : Cs) ++ (([.int .i64 a_84_2] : Cs) ++ (([.bool a_84_3] : Cs) ++ ([.slice A_77_4 n_78_4 c_79_4] : Cs))))) 66 :: .sl A_77_0 c_79_0 n_78_0 x_81_0 22 1 :: .sl A_77_1 c_79_1 n_78_1 x_81_1 69 2 :: .sl A_77_4 c_79_4 n_78_4 x_81_4 71 2 :: (T_75 ++ (.sl A_58 c_60 n_59 x_62 71 2 :: .sl A_34 c_36 n_35 x_38 9 1 :: .sl A_19 c_21 n_20 x_23 22 1 :: .cells B_1 (([.int .i64 a1_0] : Cs) ++ (([.slice A1_1 n1_1 c1_1] : Cs) ++ (([.slice A1_2 n1_2 c1_2] : Cs) ++ (([.int .i64 a1_3] : Cs) ++ (([.bool a1_4] : Cs) ++ ([.slice A1_5 n1_5 c1_5] : Cs)))))) 48 :: R))) := St.hide (A := [_, _, _, _]) (B := [_, _, _, _]) (T := T_75) (R := R) st_88
    obtain ⟨l_101_0, l_101_1, a_105_2, a_105_3, l_101_4, a_107, hr_95, H⟩ := H
    refine WL.call Wanted.none ent26 rfl (disk_Disk_Size.calls w w_87 T_75 (.sl A_58 c_60 n_59 x_62 71 2 :: .sl A_34 c_36 n_35 x_38 9 1 :: .sl A_19 c_21 n_20 x_23 22 1 :: .cells B_1 (([.int .i64 a1_0] : Cs) ++ (([.slice A1_1 n1_1 c1_1] : Cs) ++ (([.slice A1_2 n1_2 c1_2] : Cs) ++ (([.int .i64 a1_3] : Cs) ++ (([.bool a1_4] : Cs) ++ ([.slice A1_5 n1_5 c1_5] : Cs)))))) 48 :: R) l_80_0 l_80_1 a_84_2 a_84_3 l_80_4 b0 A_77_0 n_78_0 c_79_0 x_81_0 A_77_1 n_78_1 c_79_1 x_81_1 A_77_4 n_78_4 c_79_4 x_81_4  st_94 (hn_82_0) hx_83_0 (hn_82_1) hx_83_1 (hn_82_4) hx_83_4 l_101_0 l_101_1 a_105_2 a_105_3 l_101_4 a_107 hr_95) ?_
    rintro _ w_108 ⟨T_96, A_98_0, n_99_0, c_100_0, x_102_0, A_98_1, n_99_1, c_100_1, x_102_1, A_98_4, n_99_4, c_100_4, x_102_4, hs_97, hn_103_0, hx_104_0, hn_103_1, hx_104_1, hn_103_4, hx_104_4, rfl, sc_110⟩
    have st_109 : St w w_108 (.cells b0 (([.slice A_98_0 n_99_0 c_100_0] : Cs) ++ (([.slice A_98_1 n_99_1 c_100_1] : Cs) ++ (([.int .i64 a_105_2] : Cs) ++ (([.bool a_105_3] : Cs) ++ ([.slice A_98_4 n_99_4 c_100_4] : Cs))))) 66 :: .sl A_98_0 c_100_0 n_99_0 x_102_0 22 1 :: .sl A_98_1 c_100_1 n_99_1 x_102_1 69 2 :: .sl A_98_4 c_100_4 n_99_4 x_102_4 71 2 :: .sl A_58 c_60 n_59 x_62 71 2 :: .sl A_34 c_36 n_35 x_38 9 1 :: .sl A_19 c_21 n_20 x_23 22 1 :: .cells B_1 (([.int .i64 a1_0] : Cs) ++ (([.slice A1_1 n1_1 c1_1] : Cs) ++ (([.slice A1_2 n1_2 c1_2] : Cs) ++ (([.int .i64 a1_3] : Cs) ++ (([.bool a1_4] : Cs) ++ ([.slice A1_5 n1_5 c1_5] : Cs)))))) 48 :: (T_96 ++ R)) := St.unhide (A := [_, _, _, _]) (B := [_, _, _, _]) (T := T_96) (R := R) sc_110
    refine ⟨_, rfl, ?_⟩
    refine WL.nil ?_
    refine AWH.back (St.subset st_70 st_109 (List.forall_mem_cons.2 ⟨List.mem_of_getElem? (i := 4) rfl, (List.forall_mem_cons.2 ⟨List.mem_of_getElem? (i := 5) rfl, (List.forall_mem_cons.2 ⟨List.mem_of_getElem? (i := 6) rfl, (List.forall_mem_cons.2 ⟨List.mem_of_getElem? (i := 7) rfl, (mem_TR (A := [_, _, _, _, _, _, _, _]) (fun _ h_ => hs_97.1 _ (hs_76.1 _ h_)))⟩)⟩)⟩)⟩)) inv_ hs_ hk_ hc_ hn_ ?_
    refine AWH.tail (by kernel_rfl) ?_
    refine AW.take 26 rfl (by kernel_rfl) (by kernel_rfl) (by kernel_rfl) ?_ (fun _ => (Runs.neq rfl rfl rfl)) ?_; exact Wanted.guard (dj := 37) (by rfl) (evb (by rfl) h_93) (by rfl)
    refine AW.take 27 rfl (by kernel_rfl) (by kernel_rfl) (by kernel_rfl) Wanted.none (fun _ => (Runs.pick_f (evb rfl h_93) rfl)) ?_
    refine AW.done (by kernel_rfl) ?_
    refine QW.then_n ?_
    refine CW.sub [(3, .pointer (some ⟨B_1, 0, none⟩)), (4, .bool false), (5, .slice A_19 n_20 c_21), (6, .slice A_34 n_35 c_36), (7, .slice A_58 n_59 c_60), (43, .bool (a_107 != a1_0))] (by repeat' constructor) ?_
    rcases H with ⟨c_111, H⟩ | ⟨c_111, H⟩
    ·have h_112 : (a_107 != a1_0) = true := (bne_iff_ne.mpr c_111)
     refine CW.ct rfl h_112 ?_
     refine CW.seq (CW.region ?_)
     refine WL.val Wanted.none (Runs.assign rfl) ?_
     refine WL.nil (QW.then_n ?_)
     refine CW.ret ?_
     refine QW.then_r ?_
     obtain ⟨rfl, rfl, rfl, rfl, rfl, rfl⟩ := H
     exact QW.ret1 rfl rfl ⟨T_96, A_98_0, n_99_0, c_100_0, x_102_0, A_98_1, n_99_1, c_100_1, x_102_1, A_98_4, n_99_4, c_100_4, x_102_4, ((((hs_9.trans hs_32).trans hs_48).trans hs_76).trans hs_97), hn_103_0, hx_104_0, hn_103_1, hx_104_1, hn_103_4, hx_104_4, rfl, (St.pickT (L := [_, _, _, _, _, _, _, _]) st_109 [0, 1, 2, 3] (by decide))⟩
    ·have h_112 : (a_107 != a1_0) = false := (bne_eq_false_iff_eq.mpr (Decidable.not_not.mp c_111))
     refine CW.cf rfl h_112 ?_
     refine CW.skip ?_
     refine QW.then_n ?_
     refine CW.seq ?_
     refine CW.seq (CW.region ?_)
     refine WL.val Wanted.none (Runs.assign rfl) ?_
     refine WL.nil (QW.then_n ?_)
     refine CW.block ?_
     obtain ⟨k_113, H⟩ := H
     refine CW.sub [(3, .pointer (some ⟨B_1, 0, none⟩)), (4, .bool false), (5, .slice A_19 n_20 c_21), (6, .slice A_34 n_35 c_36), (7, .slice A_58 n_59 c_60), (8, .int .i64 0)] (by repeat' constructor) ?_
     refine CW.loop (fun kL1 l_ w_ => ∃ (T_114 : Pool) (b_116 : Bool) (x_117 : Int), l_ = [(3, .pointer (some ⟨B_1, 0, none⟩)), (4, .bool b_116), (5, .slice A_19 n_20 c_21), (6, .slice A_34 n_35 c_36), (7, .slice A_58 n_59 c_60), (8, .int .i64 x_117)] ∧ reliquarylaw06_same.L1 l1_5 ls0_0 ls0_1 as0_2 as0_3 ls0_4 ar0 l_22 l_37 l_61 l_101_0 l_101_1 a_105_2 a_105_3 l_101_4 kL1 b_116 x_117 ∧ (Pl T_96 T_114) ∧ St w w_ (.cells b0 (([.slice A_98_0 n_99_0 c_100_0] : Cs) ++ (([.slice A_98_1 n_99_1 c_100_1] : Cs) ++ (([.int .i64 a_105_2] : Cs) ++ (([.bool a_105_3] : Cs) ++ ([.slice A_98_4 n_99_4 c_100_4] : Cs))))) 66 :: .sl A_98_0 c_100_0 n_99_0 x_102_0 22 1 :: .sl A_98_1 c_100_1 n_99_1 x_102_1 69 2 :: .sl A_98_4 c_100_4 n_99_4 x_102_4 71 2 :: .sl A_58 c_60 n_59 x_62 71 2 :: .sl A_34 c_36 n_35 x_38 9 1 :: .sl A_19 c_21 n_20 x_23 22 1 :: .cells B_1 (([.int .i64 a1_0] : Cs) ++ (([.slice A1_1 n1_1 c1_1] : Cs) ++ (([.slice A1_2 n1_2 c1_2] : Cs) ++ (([.int .i64 a1_3] : Cs) ++ (([.bool a1_4] : Cs) ++ ([.slice A1_5 n1_5 c1_5] : Cs)))))) 48 :: (T_114 ++ R))) (k := k_113) ⟨T_96, false, 0, rfl, H, Pl.refl, st_109⟩ (fun _ _ h => by obtain ⟨_, _, _, _, h, _⟩ := h; exact h.elim) ?_
     rintro kL1 l_120 w_118 ⟨T_114, b_116, x_117, rfl, H, hs_115, st_119⟩
     refine CW.seq ?_
     refine CW.seq (CW.region ?_)
     refine WL.val Wanted.none (Runs.move rfl) ?_
     refine WL.val Wanted.none (Runs.move rfl) ?_
     refine WL.val Wanted.none (Runs.len_sl Try.underlying41 rfl (by rw [hn_24])) ?_
     refine WL.val Wanted.none (Runs.lss rfl rfl rfl) ?_
     refine WL.nil (QW.then_n ?_)
     rcases H with ⟨c_121, H⟩ | ⟨c_121, H⟩
     ·have h_122 : (decide (x_117 < (l_22.length : Int))) = true := (decide_eq_true c_121)
      refine CW.ct rfl h_122 ?_
      refine CW.skip ?_
      refine QW.then_n ?_
      refine CW.seq ?_
      refine CW.block ?_
      refine CW.seq ?_
      refine CW.region_qa wide (by kernel_rfl) st_119 ?_
      refine HL.val Wanted.none (fun wq sq => (Runs.move rfl)) ?_
      refine HL.val Wanted.none (fun wq sq => (Runs.move rfl)) ?_
      obtain ⟨⟨p_123, q_124⟩, H⟩ := H
      obtain ⟨a_125, e_126, ms_127, hc_128, hm_129⟩ := el_get (i := (x_117).toNat) (st_119.src_sl (k := 6) rfl) (hx_25.mono (fun _ h_ => hs_115.1 _ (hs_97.1 _ (hs_76.1 _ (hs_48.1 _ (hs_32.1 _ h_)))))) (fz22 w) (by decide) (by omega)
      obtain ⟨A_130, n_131, c_132, em_134, hb_133⟩ := inv22 hm_129
      replace em_134 : ms_127 = ([.slice A_130 n_131 c_132] : Cs) := em_134
      subst em_134
      refine HL.val Wanted.none (fun wq sq => (Runs.indexAddr Try.underlying41 cells22 (by decide) rfl e_126 rfl p_123 (by rw [show n_20 = l_22.length from hn_24]; exact q_124) (o := (x_117.toNat) * 1) (by first | rfl | omega))) ?_
      refine HL.val Wanted.none (fun wq sq => (Runs.load nagg22 rfl (Src.cellAt (j := 0) (Src.cut (sq.src_sl (k := 6) rfl) e_126 hc_128) rfl))) ?_
      refine HL.val Wanted.none (fun wq sq => (Runs.bytes_str Try.underlying22 Try.underlying5 Try.underlying9 rfl ((hb_133.2.2.at sq (mem_T (A := [_, _, _, _, _, _, _, _]) (fun _ h_ => h_)))) hb_133.1)) ?_
      refine HL.val Wanted.none (fun wq sq => (Runs.move rfl)) ?_
      refine HL.val Wanted.none (fun wq sq => (Runs.move rfl)) ?_
      obtain ⟨⟨p_135, q_136⟩, H⟩ := H
      obtain ⟨a_137, e_138, ms_139, hc_140, hm_141⟩ := el_get (i := (x_117).toNat) (st_119.src_sl (k := 5) rfl) (hx_40.mono (fun _ h_ => hs_115.1 _ (hs_97.1 _ (hs_76.1 _ (hs_48.1 _ h_))))) (fz9 w) (by decide) (by omega)
      obtain em_142 := inv9 hm_141
      replace em_142 : ms_139 = ([.string (gx l_37 (x_117.toNat))] : Cs) := em_142
      subst em_142
      refine HL.val Wanted.none (fun wq sq => (Runs.indexAddr Try.underlying55 cells9 (by decide) rfl e_138 rfl p_135 (by rw [show n_35 = l_37.length from hn_39]; exact q_136) (o := (x_117.toNat) * 1) (by first | rfl | omega))) ?_
      refine HL.val Wanted.none (fun wq sq => (Runs.load nagg9 rfl (Src.cellAt (j := 0) (Src.cut (sq.src_sl (k := 5) rfl) e_138 hc_140) rfl))) ?_
      refine HL.val Wanted.none (fun wq sq => (Runs.nes rfl rfl rfl)) ?_
      refine HL.nil (fun w_143 st_144 => ?_)
      refine WL.nil (QW.then_n ?_)
      rcases H with ⟨c_145, H⟩ | ⟨c_145, H⟩
      ·have h_146 : (!((strOfNums (gx l_22 (x_117.toNat))).toList == (gx l_37 (x_117.toNat)).toList)) = true := (not_t (beq_eq_false_iff_ne.mpr c_145))
       refine CW.ct rfl h_146 ?_
       refine CW.seq (CW.region ?_)
       refine WL.val Wanted.none (Runs.assign rfl) ?_
       refine WL.nil (QW.then_n ?_)
       refine CW.ret ?_
       refine QW.blk_r ?_
       refine QW.then_r ?_
       refine QW.then_r ?_
       refine QW.blk_r ?_
       refine QW.then_r ?_
       obtain ⟨rfl, rfl, rfl, rfl, rfl, rfl⟩ := H
       exact QW.ret1 rfl rfl ⟨T_114, A_98_0, n_99_0, c_100_0, x_102_0, A_98_1, n_99_1, c_100_1, x_102_1, A_98_4, n_99_4, c_100_4, x_102_4, (((((hs_9.trans hs_32).trans hs_48).trans hs_76).trans hs_97).trans hs_115), hn_103_0, (hx_104_0.mono (fun _ h_ => hs_115.1 _ h_)), hn_103_1, (hx_104_1.mono (fun _ h_ => hs_115.1 _ h_)), hn_103_4, (hx_104_4.mono (fun _ h_ => hs_115.1 _ h_)), rfl, (St.pickT (L := [_, _, _, _, _, _, _, _]) st_144 [0, 1, 2, 3] (by decide))⟩
      ·have h_146 : (!((strOfNums (gx l_22 (x_117.toNat))).toList == (gx l_37 (x_117.toNat)).toList)) = false := (not_f (beq_iff_eq.mpr (Decidable.not_not.mp c_145)))
       refine CW.cf rfl h_146 ?_
       refine CW.skip ?_
       refine QW.blk_n ?_
       refine QW.then_n ?_
       refine CW.region ?_
       refine WL.val Wanted.none (Runs.move rfl) ?_
       refine WL.val Wanted.none (Runs.add rfl rfl rfl) ?_
       refine WL.val Wanted.none (Runs.assign rfl) ?_
       refine WL.nil ?_
       exact QW.at _ (by repeat' constructor) ⟨T_114, b_116, IntKind.i64.wrap (x_117 + 1), rfl, H, hs_115, st_144⟩
     ·have h_122 : (decide (x_117 < (l_22.length : Int))) = false := (decide_eq_false c_121)
      refine CW.cf rfl h_122 ?_
      refine CW.exit ?_
      refine QW.then_x ?_
      refine QW.then_x ?_
      refine QW.blk_x ?_
      refine QW.then_n ?_
      refine CW.sub [(3, .pointer (some ⟨B_1, 0, none⟩)), (4, .bool b_116), (7, .slice A_58 n_59 c_60)] ⟨rfl, rfl, rfl, trivial⟩ ?_
      refine CW.seq ?_
      refine CW.seq (CW.region ?_)
      refine WL.val Wanted.none (Runs.assign rfl) ?_
      refine WL.nil (QW.then_n ?_)
      refine CW.block ?_
      obtain ⟨k_147, H⟩ := H
      refine CW.sub [(3, .pointer (some ⟨B_1, 0, none⟩)), (4, .bool b_116), (7, .slice A_58 n_59 c_60), (9, .int .i64 0)] ⟨rfl, rfl, rfl, rfl, trivial⟩ ?_
      refine CW.loop (fun kL2 l_ w_ => ∃ (T_148 : Pool) (b_150 : Bool) (x_151 : Int), l_ = [(3, .pointer (some ⟨B_1, 0, none⟩)), (4, .bool b_150), (7, .slice A_58 n_59 c_60), (9, .int .i64 x_151)] ∧ reliquarylaw06_same.L2 l1_5 ls0_0 ls0_1 as0_2 as0_3 ls0_4 ar0 l_61 l_101_0 l_101_1 a_105_2 a_105_3 l_101_4 kL2 b_150 x_151 ∧ (Pl T_114 T_148) ∧ St w w_ (.cells b0 (([.slice A_98_0 n_99_0 c_100_0] : Cs) ++ (([.slice A_98_1 n_99_1 c_100_1] : Cs) ++ (([.int .i64 a_105_2] : Cs) ++ (([.bool a_105_3] : Cs) ++ ([.slice A_98_4 n_99_4 c_100_4] : Cs))))) 66 :: .sl A_98_0 c_100_0 n_99_0 x_102_0 22 1 :: .sl A_98_1 c_100_1 n_99_1 x_102_1 69 2 :: .sl A_98_4 c_100_4 n_99_4 x_102_4 71 2 :: .sl A_58 c_60 n_59 x_62 71 2 :: .sl A_34 c_36 n_35 x_38 9 1 :: .sl A_19 c_21 n_20 x_23 22 1 :: .cells B_1 (([.int .i64 a1_0] : Cs) ++ (([.slice A1_1 n1_1 c1_1] : Cs) ++ (([.slice A1_2 n1_2 c1_2] : Cs) ++ (([.int .i64 a1_3] : Cs) ++ (([.bool a1_4] : Cs) ++ ([.slice A1_5 n1_5 c1_5] : Cs)))))) 48 :: (T_148 ++ R))) (k := k_147) ⟨T_114, b_116, 0, rfl, H, Pl.refl, st_119⟩ (fun _ _ h => by obtain ⟨_, _, _, _, h, _⟩ := h; exact h.elim) ?_
      rintro kL2 l_154 w_152 ⟨T_148, b_150, x_151, rfl, H, hs_149, st_153⟩
      refine CW.seq ?_
      refine CW.seq (CW.region ?_)
      refine WL.val Wanted.none (Runs.move rfl) ?_
      refine WL.val Wanted.none (Runs.move rfl) ?_
      refine WL.val Wanted.none (Runs.len_sl Try.underlying61 rfl (by rw [hn_63])) ?_
      refine WL.val Wanted.none (Runs.lss rfl rfl rfl) ?_
      refine WL.nil (QW.then_n ?_)
      rcases H with ⟨c_155, H⟩ | ⟨c_155, H⟩
      ·have h_156 : (decide (x_151 < (l_61.length : Int))) = true := (decide_eq_true c_155)
       refine CW.ct rfl h_156 ?_
       refine CW.skip ?_
       refine QW.then_n ?_
       refine CW.seq ?_
       refine CW.block ?_
       refine CW.seq ?_
       refine CW.region_qa wide (by kernel_rfl) st_153 ?_
       refine HL.val Wanted.none (fun wq sq => (Runs.move rfl)) ?_
       refine HL.val Wanted.none (fun wq sq => (Runs.move rfl)) ?_
       obtain ⟨⟨p_157, q_158⟩, H⟩ := H
       obtain ⟨a_159, e_160, ms_161, hc_162, hm_163⟩ := el_get (i := (x_151).toNat) (st_153.src_sl (k := 4) rfl) (hx_64.mono (fun _ h_ => hs_149.1 _ (hs_115.1 _ (hs_97.1 _ (hs_76.1 _ h_))))) (fz71 w) (by decide) (by omega)
       obtain em_164 := inv71 hm_163
       replace em_164 : ms_161 = ([.int .i64 ((gx l_61 (x_151.toNat)).1)] : Cs) ++ ([.int .i64 ((gx l_61 (x_151.toNat)).2)] : Cs) := em_164
       subst em_164
       refine HL.val Wanted.none (fun wq sq => (Runs.indexAddr Try.underlying61 cells71 (by decide) rfl e_160 rfl p_157 (by rw [show n_59 = l_61.length from hn_63]; exact q_158) (o := (x_151.toNat) * 2) (by first | rfl | omega))) ?_
       refine HL.val Wanted.none (fun wq sq => (Runs.fieldAddrB (off := 0) fld71_0 rfl rfl rfl)) ?_
       refine HL.val Wanted.none (fun wq sq => (Runs.load nagg3 rfl (Src.cellAt (j := 0) (Src.cut (sq.src_sl (k := 4) rfl) e_160 hc_162) rfl))) ?_
       refine HL.val Wanted.none (fun wq sq => (Runs.fieldAddr (off := 5) (p := 5) fld48_5 rfl rfl rfl)) ?_
       refine HL.val Wanted.none (fun wq sq => (Runs.load nagg46 rfl (sq.cell (k := 7) rfl (part_one (u := .slice A1_5 n1_5 c1_5) (pre := (([.int .i64 a1_0] : Cs) ++ (([.slice A1_1 n1_1 c1_1] : Cs) ++ (([.slice A1_2 n1_2 c1_2] : Cs) ++ (([.int .i64 a1_3] : Cs) ++ ([.bool a1_4] : Cs)))))) (post := (([] : Cs))) (by first | rfl | simp only [List.append_assoc, List.append_nil, List.nil_append, List.cons_append]) (by first | rfl | simp only [List.length_append, List.length_cons, List.length_nil, iv_length]))))) ?_
       refine HL.val Wanted.none (fun wq sq => (Runs.move rfl)) ?_
       obtain ⟨⟨p_165, q_166⟩, H⟩ := H
       obtain ⟨x_167, hs_168, hr_169⟩ := hb1_5.2.2
       obtain ⟨a_170, e_171, ms_172, hc_173, hm_174⟩ := el_get (i := (x_151).toNat) ((hs_168.at st_153 (mem_T (A := [_, _, _, _, _, _, _, _]) (fun _ h_ => hs_149.1 _ (hs_115.1 _ (hs_97.1 _ (hs_76.1 _ (hs_48.1 _ (hs_32.1 _ (hs_9.1 _ h_)))))))))) (hr_169.mono (fun _ h_ => hs_149.1 _ (hs_115.1 _ (hs_97.1 _ (hs_76.1 _ (hs_48.1 _ (hs_32.1 _ (hs_9.1 _ h_)))))))) (fz81 w) (by decide) (by omega)
       obtain em_175 := inv81 hm_174
       replace em_175 : ms_172 = ([.int .i64 ((gx l1_5 (x_151.toNat)).1)] : Cs) ++ ([.int .i64 ((gx l1_5 (x_151.toNat)).2)] : Cs) := em_175
       subst em_175
       refine HL.val Wanted.none (fun wq sq => (Runs.indexAddr Try.underlying46 cells81 (by decide) rfl e_171 rfl p_165 (by rw [show n1_5 = l1_5.length from hb1_5.1]; exact q_166) (o := (x_151.toNat) * 2) (by first | rfl | omega))) ?_
       refine HL.val Wanted.none (fun wq sq => (Runs.fieldAddrB (off := 0) fld81_0 rfl rfl rfl)) ?_
       refine HL.val Wanted.none (fun wq sq => (Runs.load nagg3 rfl (Src.cellAt (j := 0) (Src.cut ((hs_168.at sq (mem_T (A := [_, _, _, _, _, _, _, _]) (fun _ h_ => hs_149.1 _ (hs_115.1 _ (hs_97.1 _ (hs_76.1 _ (hs_48.1 _ (hs_32.1 _ (hs_9.1 _ h_)))))))))) e_171 hc_173) rfl))) ?_
       refine HL.val Wanted.none (fun wq sq => (Runs.neq rfl rfl rfl)) ?_
       refine HL.val Wanted.none (fun wq sq => (Runs.move rfl)) ?_
       rcases H with ⟨c_176, H⟩ | ⟨c_176, H⟩
       ·have h_177 : (((gx l_61 (x_151.toNat)).1) != ((gx l1_5 (x_151.toNat)).1)) = true := (bne_iff_ne.mpr c_176)
        refine HL.off ?_ ?_; exact Wanted.guard (dj := 78) (by rfl) (evb (by rfl) h_177) (by rfl)
        refine HL.off ?_ ?_; exact Wanted.guard (dj := 78) (by rfl) (evb (by rfl) h_177) (by rfl)
        refine HL.off ?_ ?_; exact Wanted.guard (dj := 78) (by rfl) (evb (by rfl) h_177) (by rfl)
        refine HL.off ?_ ?_; exact Wanted.guard (dj := 78) (by rfl) (evb (by rfl) h_177) (by rfl)
        refine HL.off ?_ ?_; exact Wanted.guard (dj := 78) (by rfl) (evb (by rfl) h_177) (by rfl)
        refine HL.off ?_ ?_; exact Wanted.guard (dj := 78) (by rfl) (evb (by rfl) h_177) (by rfl)
        refine HL.off ?_ ?_; exact Wanted.guard (dj := 78) (by rfl) (evb (by rfl) h_177) (by rfl)
        refine HL.off ?_ ?_; exact Wanted.guard (dj := 78) (by rfl) (evb (by rfl) h_177) (by rfl)
        refine HL.off ?_ ?_; exact Wanted.guard (dj := 78) (by rfl) (evb (by rfl) h_177) (by rfl)
        refine HL.off ?_ ?_; exact Wanted.guard (dj := 78) (by rfl) (evb (by rfl) h_177) (by rfl)
        refine HL.off ?_ ?_; exact Wanted.guard (dj := 78) (by rfl) (evb (by rfl) h_177) (by rfl)
        refine HL.off ?_ ?_; exact Wanted.guard (dj := 78) (by rfl) (evb (by rfl) h_177) (by rfl)
        refine HL.val Wanted.none (fun wq sq => (Runs.pick_t (evb rfl h_177) rfl)) ?_
        refine HL.nil (fun w_178 st_179 => ?_)
        refine WL.nil (QW.then_n ?_)
        refine CW.ct rfl rfl ?_
        refine CW.seq (CW.region ?_)
        refine WL.val Wanted.none (Runs.assign rfl) ?_
        refine WL.nil (QW.then_n ?_)
        refine CW.ret ?_
        refine QW.blk_r ?_
        refine QW.then_r ?_
        refine QW.then_r ?_
        refine QW.blk_r ?_
        refine QW.then_r ?_
        obtain ⟨rfl, rfl, rfl, rfl, rfl, rfl⟩ := H
        exact QW.ret1 rfl rfl ⟨T_148, A_98_0, n_99_0, c_100_0, x_102_0, A_98_1, n_99_1, c_100_1, x_102_1, A_98_4, n_99_4, c_100_4, x_102_4, ((((((hs_9.trans hs_32).trans hs_48).trans hs_76).trans hs_97).trans hs_115).trans hs_149), hn_103_0, (hx_104_0.mono (fun _ h_ => hs_149.1 _ (hs_115.1 _ h_))), hn_103_1, (hx_104_1.mono (fun _ h_ => hs_149.1 _ (hs_115.1 _ h_))), hn_103_4, (hx_104_4.mono (fun _ h_ => hs_149.1 _ (hs_115.1 _ h_))), rfl, (St.pickT (L := [_, _, _, _, _, _, _, _]) st_179 [0, 1, 2, 3] (by decide))⟩
       ·have h_177 : (((gx l_61 (x_151.toNat)).1) != ((gx l1_5 (x_151.toNat)).1)) = false := (bne_eq_false_iff_eq.mpr (Decidable.not_not.mp c_176))
        refine HL.on ?_ ?_; exact Wanted.guard (dj := 78) (by rfl) (evb (by rfl) h_177) (by rfl)
        refine HL.val Wanted.none (fun wq sq => (Runs.move rfl)) ?_
        refine HL.on ?_ ?_; exact Wanted.guard (dj := 78) (by rfl) (evb (by rfl) h_177) (by rfl)
        refine HL.val Wanted.none (fun wq sq => (Runs.move rfl)) ?_
        refine HL.on ?_ ?_; exact Wanted.guard (dj := 78) (by rfl) (evb (by rfl) h_177) (by rfl)
        obtain ⟨⟨p_180, q_181⟩, H⟩ := H
        obtain ⟨a_182, e_183, ms_184, hc_185, hm_186⟩ := el_get (i := (x_151).toNat) (st_153.src_sl (k := 4) rfl) (hx_64.mono (fun _ h_ => hs_149.1 _ (hs_115.1 _ (hs_97.1 _ (hs_76.1 _ h_))))) (fz71 w) (by decide) (by omega)
        obtain em_187 := inv71 hm_186
        replace em_187 : ms_184 = ([.int .i64 ((gx l_61 (x_151.toNat)).1)] : Cs) ++ ([.int .i64 ((gx l_61 (x_151.toNat)).2)] : Cs) := em_187
        subst em_187
        refine HL.val Wanted.none (fun wq sq => (Runs.indexAddr Try.underlying61 cells71 (by decide) rfl e_183 rfl p_180 (by rw [show n_59 = l_61.length from hn_63]; exact q_181) (o := (x_151.toNat) * 2) (by first | rfl | omega))) ?_
        refine HL.on ?_ ?_; exact Wanted.guard (dj := 78) (by rfl) (evb (by rfl) h_177) (by rfl)
        refine HL.val Wanted.none (fun wq sq => (Runs.fieldAddrB (off := 1) fld71_1 rfl rfl rfl)) ?_
        refine HL.on ?_ ?_; exact Wanted.guard (dj := 78) (by rfl) (evb (by rfl) h_177) (by rfl)
        refine HL.val Wanted.none (fun wq sq => (Runs.load nagg3 rfl (Src.cellAt (j := 1) (Src.cut (sq.src_sl (k := 4) rfl) e_183 hc_185) rfl))) ?_
        refine HL.on ?_ ?_; exact Wanted.guard (dj := 78) (by rfl) (evb (by rfl) h_177) (by rfl)
        refine HL.val Wanted.none (fun wq sq => (Runs.fieldAddr (off := 5) (p := 5) fld48_5 rfl rfl rfl)) ?_
        refine HL.on ?_ ?_; exact Wanted.guard (dj := 78) (by rfl) (evb (by rfl) h_177) (by rfl)
        refine HL.val Wanted.none (fun wq sq => (Runs.load nagg46 rfl (sq.cell (k := 7) rfl (part_one (u := .slice A1_5 n1_5 c1_5) (pre := (([.int .i64 a1_0] : Cs) ++ (([.slice A1_1 n1_1 c1_1] : Cs) ++ (([.slice A1_2 n1_2 c1_2] : Cs) ++ (([.int .i64 a1_3] : Cs) ++ ([.bool a1_4] : Cs)))))) (post := (([] : Cs))) (by first | rfl | simp only [List.append_assoc, List.append_nil, List.nil_append, List.cons_append]) (by first | rfl | simp only [List.length_append, List.length_cons, List.length_nil, iv_length]))))) ?_
        refine HL.on ?_ ?_; exact Wanted.guard (dj := 78) (by rfl) (evb (by rfl) h_177) (by rfl)
        refine HL.val Wanted.none (fun wq sq => (Runs.move rfl)) ?_
        refine HL.on ?_ ?_; exact Wanted.guard (dj := 78) (by rfl) (evb (by rfl) h_177) (by rfl)
        obtain ⟨⟨p_188, q_189⟩, H⟩ := H
        obtain ⟨x_190, hs_191, hr_192⟩ := hb1_5.2.2
        obtain ⟨a_193, e_194, ms_195, hc_196, hm_197⟩ := el_get (i := (x_151).toNat) ((hs_191.at st_153 (mem_T (A := [_, _, _, _, _, _, _, _]) (fun _ h_ => hs_149.1 _ (hs_115.1 _ (hs_97.1 _ (hs_76.1 _ (hs_48.1 _ (hs_32.1 _ (hs_9.1 _ h_)))))))))) (hr_192.mono (fun _ h_ => hs_149.1 _ (hs_115.1 _ (hs_97.1 _ (hs_76.1 _ (hs_48.1 _ (hs_32.1 _ (hs_9.1 _ h_)))))))) (fz81 w) (by decide) (by omega)
        obtain em_198 := inv81 hm_197
        replace em_198 : ms_195 = ([.int .i64 ((gx l1_5 (x_151.toNat)).1)] : Cs) ++ ([.int .i64 ((gx l1_5 (x_151.toNat)).2)] : Cs) := em_198
        subst em_198
        refine HL.val Wanted.none (fun wq sq => (Runs.indexAddr Try.underlying46 cells81 (by decide) rfl e_194 rfl p_188 (by rw [show n1_5 = l1_5.length from hb1_5.1]; exact q_189) (o := (x_151.toNat) * 2) (by first | rfl | omega))) ?_
        refine HL.on ?_ ?_; exact Wanted.guard (dj := 78) (by rfl) (evb (by rfl) h_177) (by rfl)
        refine HL.val Wanted.none (fun wq sq => (Runs.fieldAddrB (off := 1) fld81_1 rfl rfl rfl)) ?_
        refine HL.on ?_ ?_; exact Wanted.guard (dj := 78) (by rfl) (evb (by rfl) h_177) (by rfl)
        refine HL.val Wanted.none (fun wq sq => (Runs.load nagg3 rfl (Src.cellAt (j := 1) (Src.cut ((hs_191.at sq (mem_T (A := [_, _, _, _, _, _, _, _]) (fun _ h_ => hs_149.1 _ (hs_115.1 _ (hs_97.1 _ (hs_76.1 _ (hs_48.1 _ (hs_32.1 _ (hs_9.1 _ h_)))))))))) e_194 hc_196) rfl))) ?_
        refine HL.on ?_ ?_; exact Wanted.guard (dj := 78) (by rfl) (evb (by rfl) h_177) (by rfl)
        refine HL.val Wanted.none (fun wq sq => (Runs.neq rfl rfl rfl)) ?_
        refine HL.val Wanted.none (fun wq sq => (Runs.pick_f (evb rfl h_177) rfl)) ?_
        refine HL.nil (fun w_199 st_200 => ?_)
        refine WL.nil (QW.then_n ?_)
        rcases H with ⟨c_201, H⟩ | ⟨c_201, H⟩
        ·have h_202 : (((gx l_61 (x_151.toNat)).2) != ((gx l1_5 (x_151.toNat)).2)) = true := (bne_iff_ne.mpr c_201)
         refine CW.ct rfl h_202 ?_
         refine CW.seq (CW.region ?_)
         refine WL.val Wanted.none (Runs.assign rfl) ?_
         refine WL.nil (QW.then_n ?_)
         refine CW.ret ?_
         refine QW.blk_r ?_
         refine QW.then_r ?_
         refine QW.then_r ?_
         refine QW.blk_r ?_
         refine QW.then_r ?_
         obtain ⟨rfl, rfl, rfl, rfl, rfl, rfl⟩ := H
         exact QW.ret1 rfl rfl ⟨T_148, A_98_0, n_99_0, c_100_0, x_102_0, A_98_1, n_99_1, c_100_1, x_102_1, A_98_4, n_99_4, c_100_4, x_102_4, ((((((hs_9.trans hs_32).trans hs_48).trans hs_76).trans hs_97).trans hs_115).trans hs_149), hn_103_0, (hx_104_0.mono (fun _ h_ => hs_149.1 _ (hs_115.1 _ h_))), hn_103_1, (hx_104_1.mono (fun _ h_ => hs_149.1 _ (hs_115.1 _ h_))), hn_103_4, (hx_104_4.mono (fun _ h_ => hs_149.1 _ (hs_115.1 _ h_))), rfl, (St.pickT (L := [_, _, _, _, _, _, _, _]) st_200 [0, 1, 2, 3] (by decide))⟩
        ·have h_202 : (((gx l_61 (x_151.toNat)).2) != ((gx l1_5 (x_151.toNat)).2)) = false := (bne_eq_false_iff_eq.mpr (Decidable.not_not.mp c_201))
         refine CW.cf rfl h_202 ?_
         refine CW.skip ?_
         refine QW.blk_n ?_
         refine QW.then_n ?_
         refine CW.region ?_
         refine WL.val Wanted.none (Runs.move rfl) ?_
         refine WL.val Wanted.none (Runs.add rfl rfl rfl) ?_
         refine WL.val Wanted.none (Runs.assign rfl) ?_
         refine WL.nil ?_
         exact QW.at _ (by repeat' constructor) ⟨T_148, b_150, IntKind.i64.wrap (x_151 + 1), rfl, H, hs_149, st_200⟩
      ·have h_156 : (decide (x_151 < (l_61.length : Int))) = false := (decide_eq_false c_155)
       refine CW.cf rfl h_156 ?_
       refine CW.exit ?_
       refine QW.then_x ?_
       refine QW.then_x ?_
       refine QW.blk_x ?_
       refine QW.then_n ?_
       refine CW.sub [(4, .bool b_150)] ⟨rfl, trivial⟩ ?_
       refine CW.seq (CW.region ?_)
       refine WL.val Wanted.none (Runs.assign rfl) ?_
       refine WL.nil (QW.then_n ?_)
       refine CW.ret ?_
       obtain ⟨rfl, rfl, rfl, rfl, rfl, rfl⟩ := H
       exact QW.ret1 rfl rfl ⟨T_148, A_98_0, n_99_0, c_100_0, x_102_0, A_98_1, n_99_1, c_100_1, x_102_1, A_98_4, n_99_4, c_100_4, x_102_4, ((((((hs_9.trans hs_32).trans hs_48).trans hs_76).trans hs_97).trans hs_115).trans hs_149), hn_103_0, (hx_104_0.mono (fun _ h_ => hs_149.1 _ (hs_115.1 _ h_))), hn_103_1, (hx_104_1.mono (fun _ h_ => hs_149.1 _ (hs_115.1 _ h_))), hn_103_4, (hx_104_4.mono (fun _ h_ => hs_149.1 _ (hs_115.1 _ h_))), rfl, (St.pickT (L := [_, _, _, _, _, _, _, _]) st_153 [0, 1, 2, 3] (by decide))⟩

end Go.Proofs.Ytjlifbnkdfofhaa
