/- Walks: each function computes what its relation says, and a call of it ends so. Printed by a program of this session (wip/gen). -/
import Derived.Test.YtjlifbnkdfofhaaGx2
namespace Go.Proofs.Ytjlifbnkdfofhaa
open Go Go.Kr Go.RowKit
set_option linter.unusedVariables false
set_option linter.unusedSimpArgs false
/-! ### disk_Disk_Image: function 17 -/
def disk_Disk_Image.L1 (l0_0 : List R22) (l0_1 : List R69) (a0_2 : Int) (a0_3 : Bool) (l0_4 : List R71) (ls0_0 : List R22) (ls0_1 : List R69) (as0_2 : Int) (as0_3 : Bool) (ls0_4 : List R71) (lr0 : List R22) : Nat → (List R22) → Int → Prop
  | 0, _, _ => False
  | kL1 + 1, l_6, x_13 => ((x_13 < (l0_0.length : Int) ∧ ((0 ≤ x_13 ∧ x_13 < (l0_0.length : Int)) ∧ (∃ (r_35 : List Int), slices_Clone_s_byte_byte.rel (gx l0_0 ((x_13).toNat)) r_35 ∧ (∃ m_53 : List R22, m_53 = l_6 ++ ([r_35] : List R22) ∧ (m_53.length ≤ 1099511627776 ∧ disk_Disk_Image.L1 l0_0 l0_1 a0_2 a0_3 l0_4 ls0_0 ls0_1 as0_2 as0_3 ls0_4 lr0 kL1 m_53 (IntKind.i64.wrap (x_13 + 1))))))) ∨ (¬ (x_13 < (l0_0.length : Int)) ∧ ls0_0 = l0_0 ∧ ls0_1 = l0_1 ∧ as0_2 = a0_2 ∧ as0_3 = a0_3 ∧ ls0_4 = l0_4 ∧ lr0 = l_6))
def disk_Disk_Image.rel (l0_0 : List R22) (l0_1 : List R69) (a0_2 : Int) (a0_3 : Bool) (l0_4 : List R71) (ls0_0 : List R22) (ls0_1 : List R69) (as0_2 : Int) (as0_3 : Bool) (ls0_4 : List R71) (lr0 : List R22) : Prop := (∃ k_ : Nat, disk_Disk_Image.L1 l0_0 l0_1 a0_2 a0_3 l0_4 ls0_0 ls0_1 as0_2 as0_3 ls0_4 lr0 k_ ([] : List R22) 0)
set_option maxHeartbeats 1000000 in
set_option maxRecDepth 100000 in
theorem disk_Disk_Image.calls (w w1 : World) (T R : Pool) (l0_0 : List R22) (l0_1 : List R69) (a0_2 : Int) (a0_3 : Bool) (l0_4 : List R71) (b0 : Nat) (A0_0 : Option Addr) (n0_0 : Nat) (c0_0 : Nat) (x0_0 : Cells) (A0_1 : Option Addr) (n0_1 : Nat) (c0_1 : Nat) (x0_1 : Cells) (A0_4 : Option Addr) (n0_4 : Nat) (c0_4 : Nat) (x0_4 : Cells) (st0 : St w w1 (.cells b0 (([.slice A0_0 n0_0 c0_0] : List Value) ++ (([.slice A0_1 n0_1 c0_1] : List Value) ++ (([.int .i64 a0_2] : List Value) ++ (([.bool a0_3] : List Value) ++ ([.slice A0_4 n0_4 c0_4] : List Value))))) 66 :: .sl A0_0 c0_0 n0_0 x0_0 22 1 :: .sl A0_1 c0_1 n0_1 x0_1 69 2 :: .sl A0_4 c0_4 n0_4 x0_4 71 2 :: (T ++ R))) (hn0_0 : n0_0 = l0_0.length) (hx0_0 : HRs T (f22 w) x0_0 l0_0) (hn0_1 : n0_1 = l0_1.length) (hx0_1 : HRs T (f69 w) x0_1 l0_1) (hn0_4 : n0_4 = l0_4.length) (hx0_4 : HRs T (f71 w) x0_4 l0_4) (ls0_0 : List R22) (ls0_1 : List R69) (as0_2 : Int) (as0_3 : Bool) (ls0_4 : List R71) (lr0 : List R22) (H : disk_Disk_Image.rel l0_0 l0_1 a0_2 a0_3 l0_4 ls0_0 ls0_1 as0_2 as0_3 ls0_4 lr0) :
    Calls Try.prog 17 #[.pointer (some ⟨b0, 0, none⟩)] w1 fun e w' => ∃ T' As0_0 ns0_0 cs0_0 xs0_0 As0_1 ns0_1 cs0_1 xs0_1 As0_4 ns0_4 cs0_4 xs0_4 Ar0 nr0 cr0 xr0, Pl T T' ∧ ns0_0 = ls0_0.length ∧ HRs T' (f22 w) xs0_0 ls0_0 ∧ ns0_1 = ls0_1.length ∧ HRs T' (f69 w) xs0_1 ls0_1 ∧ ns0_4 = ls0_4.length ∧ HRs T' (f71 w) xs0_4 ls0_4 ∧ nr0 = lr0.length ∧ HRs T' (f22 w) xr0 lr0 ∧ e = .returned (.slice Ar0 nr0 cr0) ∧ St w w' (.cells b0 (([.slice As0_0 ns0_0 cs0_0] : List Value) ++ (([.slice As0_1 ns0_1 cs0_1] : List Value) ++ (([.int .i64 as0_2] : List Value) ++ (([.bool as0_3] : List Value) ++ ([.slice As0_4 ns0_4 cs0_4] : List Value))))) 66 :: .sl As0_0 cs0_0 ns0_0 xs0_0 22 1 :: .sl As0_1 cs0_1 ns0_1 xs0_1 69 2 :: .sl As0_4 cs0_4 ns0_4 xs0_4 71 2 :: .sl Ar0 cr0 nr0 xr0 22 1 :: (T' ++ R)) := by
  refine CW.enter Try.func17 rfl (n := 24) rfl [.pointer (some ⟨b0, 0, none⟩)] (Nat.le_of_ble_eq_true rfl) ?_
  refine CW.sub [(0, .pointer (some ⟨b0, 0, none⟩))] ⟨rfl, trivial⟩ ?_
  refine CW.seq ?_
  refine CW.region ?_
  refine WL.val Wanted.none (Runs.assign rfl) ?_
  refine WL.nil ?_
  refine QW.then_n ?_
  refine CW.seq ?_
  refine CW.seq ?_
  refine CW.region ?_
  refine WL.val Wanted.none (Runs.move rfl) ?_
  refine WL.val Wanted.none (Runs.eql_ptr Try.underlying25 rfl rfl rfl) ?_
  refine WL.nil ?_
  refine QW.then_n ?_
  refine CW.cf rfl rfl ?_
  refine CW.skip ?_
  refine QW.then_n ?_
  refine CW.seq ?_
  refine CW.region ?_
  refine WL.val Wanted.none (Runs.assign rfl) ?_
  refine WL.nil ?_
  refine QW.then_n ?_
  refine CW.seq ?_
  refine CW.seq ?_
  refine CW.region ?_
  refine WL.val Wanted.none (Runs.move rfl) ?_
  refine WL.val Wanted.none (Runs.nilCheck rfl) ?_
  refine WL.val Wanted.none (Runs.fieldAddr (off := 0) (p := 0) fld66_0 rfl rfl rfl) ?_
  refine WL.val Wanted.none (Runs.load nagg41 rfl (st0.cell (k := 0) rfl (part_one (u := .slice A0_0 n0_0 c0_0) (pre := (([] : List Value))) (post := (([.slice A0_1 n0_1 c0_1] : List Value) ++ (([.int .i64 a0_2] : List Value) ++ (([.bool a0_3] : List Value) ++ ([.slice A0_4 n0_4 c0_4] : List Value))))) (by first | rfl | simp only [List.append_assoc, List.append_nil, List.nil_append, List.cons_append]) (by first | rfl | simp only [List.length_append, List.length_cons, List.length_nil, iv_length])))) ?_
  refine WL.val Wanted.none (Runs.len_sl Try.underlying41 rfl (by rw [hn0_0])) ?_
  refine WL.val Wanted.none (Runs.move rfl) ?_
  refine WL.nil ?_
  refine QW.then_n ?_
  refine CW.sub [(2, .slice none 0 0), (3, .slice none 0 0), (11, .slice A0_0 n0_0 c0_0), (12, .int .i64 (l0_0.length : Int)), (13, .int .i64 0)] ⟨rfl, rfl, rfl, rfl, rfl, trivial⟩ ?_
  refine CW.block ?_
  have st_2 := st0.nil_sl 22 1
  have st_2 : St w w1 (.sl none 0 0 ([] : Cells) 22 1 :: .cells b0 (([.slice A0_0 n0_0 c0_0] : List Value) ++ (([.slice A0_1 n0_1 c0_1] : List Value) ++ (([.int .i64 a0_2] : List Value) ++ (([.bool a0_3] : List Value) ++ ([.slice A0_4 n0_4 c0_4] : List Value))))) 66 :: .sl A0_0 c0_0 n0_0 x0_0 22 1 :: .sl A0_1 c0_1 n0_1 x0_1 69 2 :: .sl A0_4 c0_4 n0_4 x0_4 71 2 :: (T ++ R)) := st_2
  obtain ⟨k_3, H⟩ := H
  refine CW.sub [(2, .slice none 0 0), (3, .slice none 0 0), (11, .slice A0_0 n0_0 c0_0), (12, .int .i64 (l0_0.length : Int)), (13, .int .i64 0)] ⟨rfl, rfl, rfl, rfl, rfl, trivial⟩ ?_
  refine CW.loop (fun kL1 l_ w_ => ∃ (T_4 : Pool) (A_10 : Option Addr) (c_11 : Nat) (n_12 : Nat) (x_8 : Cells) (l_6 : List R22) (x_13 : Int), l_ = [(2, .slice none 0 0), (3, .slice A_10 n_12 c_11), (11, .slice A0_0 n0_0 c0_0), (12, .int .i64 (l0_0.length : Int)), (13, .int .i64 x_13)] ∧ disk_Disk_Image.L1 l0_0 l0_1 a0_2 a0_3 l0_4 ls0_0 ls0_1 as0_2 as0_3 ls0_4 lr0 kL1 l_6 x_13 ∧ (Pl T T_4) ∧ (n_12 = l_6.length) ∧ (HRs T_4 (f22 w) x_8 l_6) ∧ St w w_ (.sl A_10 c_11 n_12 x_8 22 1 :: .cells b0 (([.slice A0_0 n0_0 c0_0] : List Value) ++ (([.slice A0_1 n0_1 c0_1] : List Value) ++ (([.int .i64 a0_2] : List Value) ++ (([.bool a0_3] : List Value) ++ ([.slice A0_4 n0_4 c0_4] : List Value))))) 66 :: .sl A0_0 c0_0 n0_0 x0_0 22 1 :: .sl A0_1 c0_1 n0_1 x0_1 69 2 :: .sl A0_4 c0_4 n0_4 x0_4 71 2 :: (T_4 ++ R))) (k := k_3) ⟨T, none, 0, 0, ([] : Cells), ([] : List R22), 0, rfl, H, Pl.refl, rfl, (HRs.nil : HRs T (f22 w) [] []), st_2⟩ (fun _ _ h => by obtain ⟨_, _, _, _, _, _, _, _, h, _⟩ := h; exact h.elim) ?_
  rintro kL1 l_16 w_14 ⟨T_4, A_10, c_11, n_12, x_8, l_6, x_13, rfl, H, hs_5, hn_7, hx_9, st_15⟩
  refine CW.seq ?_
  refine CW.region ?_
  refine WL.val Wanted.none (Runs.lss rfl rfl rfl) ?_
  refine WL.nil ?_
  refine QW.then_n ?_
  refine CW.seq ?_
  rcases H with ⟨c_17, H⟩ | ⟨c_17, H⟩
  · have h_18 : (decide (x_13 < (l0_0.length : Int))) = true := (decide_eq_true c_17)
    refine CW.ct rfl h_18 ?_
    refine CW.skip ?_
    refine QW.then_n ?_
    refine CW.seq ?_
    refine CW.block ?_
    refine CW.seq ?_
    refine CW.region ?_
    obtain ⟨⟨p_19, q_20⟩, H⟩ := H
    obtain ⟨a_21, e_22, ms_23, hc_24, hm_25⟩ := el_get (i := (x_13).toNat) (st_15.src_sl (k := 2) rfl) (hx0_0.mono (fun _ h_ => hs_5.1 _ h_)) (fz22 w) (by decide) (by omega)
    obtain ⟨A_26, n_27, c_28, em_30, hb_29⟩ := inv22 hm_25
    replace em_30 : ms_23 = ([.slice A_26 n_27 c_28] : List Value) := em_30
    subst em_30
    refine WL.val Wanted.none (Runs.indexAddr Try.underlying41 cells22 (by decide) rfl e_22 rfl p_19 (by rw [show n0_0 = l0_0.length from hn0_0]; exact q_20) (o := ((x_13).toNat) * 1) (by first | rfl | omega)) ?_
    refine WL.val Wanted.none (Runs.load nagg22 rfl (Src.cellAt (j := 0) (Src.cut (st_15.src_sl (k := 2) rfl) e_22 hc_24) rfl)) ?_
    refine WL.val Wanted.none (Runs.assign rfl) ?_
    refine WL.nil ?_
    refine QW.then_n ?_
    refine CW.region ?_
    refine WL.val Wanted.none (Runs.move rfl) ?_
    refine WL.val Wanted.none (Runs.move rfl) ?_
    obtain ⟨r_35, hr_31, H⟩ := H
    refine WL.call Wanted.none ent29 rfl (slices_Clone_s_byte_byte.calls w_14 (gx l0_0 ((x_13).toNat)) A_26 n_27 c_28 ((hb_29.2.2.at st_15 (mem_T (A := [_, _, _, _, _]) (fun _ h_ => h_)))) (hb_29.1) (hb_29.2.1) r_35 hr_31) ?_
    rintro _ w_32 ⟨A_36, c_37, n_38, hn_39, rfl, sc_34⟩
    have st_33 : St w w_32 (.sl A_36 c_37 n_38 (iv .u8 r_35) 5 1 :: .sl A_10 c_11 n_12 x_8 22 1 :: .cells b0 (([.slice A0_0 n0_0 c0_0] : List Value) ++ (([.slice A0_1 n0_1 c0_1] : List Value) ++ (([.int .i64 a0_2] : List Value) ++ (([.bool a0_3] : List Value) ++ ([.slice A0_4 n0_4 c0_4] : List Value))))) 66 :: .sl A0_0 c0_0 n0_0 x0_0 22 1 :: .sl A0_1 c0_1 n0_1 x0_1 69 2 :: .sl A0_4 c0_4 n0_4 x0_4 71 2 :: (T_4 ++ R)) := st_15.call sc_34
    refine ⟨_, rfl, ?_⟩
    have hb_45c := st_33.cap (i := 0) rfl
    obtain ⟨T_41, hs_42, hm_43, st_44⟩ := St.freeze (A := []) (B := [_, _, _, _, _]) (T := T_4) (R := R) st_33
    have hb_45 : HB w T_41 A_36 n_38 c_37 (iv .u8 r_35) r_35.length := ⟨hn_39, hb_45c, Hd.of_sl hm_43⟩
    replace st_44 : St w w_32 (.sl A_10 c_11 n_12 x_8 22 1 :: .cells b0 (([.slice A0_0 n0_0 c0_0] : List Value) ++ (([.slice A0_1 n0_1 c0_1] : List Value) ++ (([.int .i64 a0_2] : List Value) ++ (([.bool a0_3] : List Value) ++ ([.slice A0_4 n0_4 c0_4] : List Value))))) 66 :: .sl A0_0 c0_0 n0_0 x0_0 22 1 :: .sl A0_1 c0_1 n0_1 x0_1 69 2 :: .sl A0_4 c0_4 n0_4 x0_4 71 2 :: (T_41 ++ R)) := st_44
    refine WL.buildSl [.slice A_36 n_38 c_37] st_44 Try.underlying41 elem22 rfl rfl (by decide) (by decide) (by simp [Value.cells]) ?_
    intro B_46 w_47 st_48
    replace st_48 : St w w_47 (.sl (some ⟨B_46, 0, none⟩) 1 1 [.slice A_36 n_38 c_37] 22 1 :: .sl A_10 c_11 n_12 x_8 22 1 :: .cells b0 (([.slice A0_0 n0_0 c0_0] : List Value) ++ (([.slice A0_1 n0_1 c0_1] : List Value) ++ (([.int .i64 a0_2] : List Value) ++ (([.bool a0_3] : List Value) ++ ([.slice A0_4 n0_4 c0_4] : List Value))))) 66 :: .sl A0_0 c0_0 n0_0 x0_0 22 1 :: .sl A0_1 c0_1 n0_1 x0_1 69 2 :: .sl A0_4 c0_4 n0_4 x0_4 71 2 :: (T_41 ++ R)) := st_48
    obtain ⟨x_50, e_51⟩ : ∃ x_ : Cells, x_ = [.slice A_36 n_38 c_37] := ⟨_, rfl⟩
    have hx_52 : HRs T_41 (f22 w) x_50 ([r_35] : List R22) := by rw [e_51]; exact (HRs.one (.cons ⟨_, _, _, rfl, hb_45⟩ .nil))
    replace st_48 : St w w_47 (.sl (some ⟨B_46, 0, none⟩) 1 1 x_50 22 1 :: .sl A_10 c_11 n_12 x_8 22 1 :: .cells b0 (([.slice A0_0 n0_0 c0_0] : List Value) ++ (([.slice A0_1 n0_1 c0_1] : List Value) ++ (([.int .i64 a0_2] : List Value) ++ (([.bool a0_3] : List Value) ++ ([.slice A0_4 n0_4 c0_4] : List Value))))) 66 :: .sl A0_0 c0_0 n0_0 x0_0 22 1 :: .sl A0_1 c0_1 n0_1 x0_1 69 2 :: .sl A0_4 c0_4 n0_4 x0_4 71 2 :: (T_41 ++ R)) := by rw [e_51]; exact st_48
    obtain ⟨m_53, e_54, H⟩ := H
    obtain ⟨z_55, H⟩ := H
    obtain ⟨n_58, hn_61⟩ : ∃ n_ : Nat, n_ = m_53.length := ⟨_, rfl⟩
    refine WL.appendR (i := 1) (N := n_58) (news := x_50) Wanted.none st_48 rfl Try.underlying41 elemS22 rfl rfl (st_48.src_sl (k := 0) rfl) (by have h1_ := (hx_52).length (fz22 w); have h2_ : 1 = ([r_35] : List R22).length := rfl; rw [h1_, h2_]) (HLs.one hx_52) (by decide) (by have h1_ : n_12 = l_6.length := hn_7; have h2_ : 1 = ([r_35] : List R22).length := rfl; rw [hn_61, e_54, List.length_append]; omega) (by rw [hn_61]; exact z_55) ?_
    intro A_56 c_57 w_59 st_60
    obtain ⟨x_62, e_63⟩ : ∃ x_ : Cells, x_ = x_8 ++ x_50 := ⟨_, rfl⟩
    have hx_64 : HRs T_41 (f22 w) x_62 m_53 := by rw [e_63, e_54]; exact HRs.append (hx_9.mono (fun _ h_ => hs_42.1 _ h_)) hx_52
    replace st_60 : St w w_59 (.sl (some ⟨B_46, 0, none⟩) 1 1 x_50 22 1 :: .sl A_56 c_57 n_58 x_62 22 1 :: .cells b0 (([.slice A0_0 n0_0 c0_0] : List Value) ++ (([.slice A0_1 n0_1 c0_1] : List Value) ++ (([.int .i64 a0_2] : List Value) ++ (([.bool a0_3] : List Value) ++ ([.slice A0_4 n0_4 c0_4] : List Value))))) 66 :: .sl A0_0 c0_0 n0_0 x0_0 22 1 :: .sl A0_1 c0_1 n0_1 x0_1 69 2 :: .sl A0_4 c0_4 n0_4 x0_4 71 2 :: (T_41 ++ R)) := by rw [e_63]; exact st_60
    refine WL.val Wanted.none (Runs.assign rfl) ?_
    refine WL.nil ?_
    refine QW.blk_n ?_
    refine QW.then_n ?_
    refine CW.region ?_
    refine WL.val Wanted.none (Runs.add rfl rfl rfl) ?_
    refine WL.val Wanted.none (Runs.move rfl) ?_
    refine WL.nil ?_
    have st_60' := (St.pickT (L := [_, _, _, _, _, _]) st_60 [1, 2, 3, 4, 5] (by decide))
    exact QW.at [(2, .slice none 0 0), (3, .slice A_56 n_58 c_57), (11, .slice A0_0 n0_0 c0_0), (12, .int .i64 (l0_0.length : Int)), (13, .int .i64 (IntKind.i64.wrap (x_13 + 1)))] ⟨rfl, rfl, rfl, rfl, rfl, trivial⟩ ⟨T_41, A_56, c_57, n_58, x_62, m_53, IntKind.i64.wrap (x_13 + 1), rfl, H, (hs_5.trans hs_42), hn_61, hx_64, st_60'⟩
  · have h_18 : (decide (x_13 < (l0_0.length : Int))) = false := (decide_eq_false c_17)
    refine CW.cf rfl h_18 ?_
    refine CW.exit ?_
    refine QW.then_x ?_
    refine QW.then_x ?_
    refine QW.blk_x ?_
    refine QW.then_n ?_
    refine CW.seq ?_
    refine CW.region ?_
    refine WL.val Wanted.none (Runs.move rfl) ?_
    refine WL.val Wanted.none (Runs.assign rfl) ?_
    refine WL.nil ?_
    refine QW.then_n ?_
    refine CW.sub [(2, .slice A_10 n_12 c_11)] ⟨rfl, trivial⟩ ?_
    refine CW.ret ?_
    obtain ⟨rfl, rfl, rfl, rfl, rfl, rfl⟩ := H
    exact QW.ret1 rfl rfl ⟨T_4, A0_0, n0_0, c0_0, x0_0, A0_1, n0_1, c0_1, x0_1, A0_4, n0_4, c0_4, x0_4, A_10, n_12, c_11, x_8, hs_5, hn0_0, (hx0_0.mono (fun _ h_ => hs_5.1 _ h_)), hn0_1, (hx0_1.mono (fun _ h_ => hs_5.1 _ h_)), hn0_4, (hx0_4.mono (fun _ h_ => hs_5.1 _ h_)), hn_7, hx_9, rfl, (St.pickT (L := [_, _, _, _, _]) st_15 [1, 2, 3, 4, 0] (by decide))⟩
set_option maxHeartbeats 1000000 in
set_option maxRecDepth 100000 in
theorem disk_Disk_Image.calls_own (w w1 : World) (T R : Pool) (l0_0 : List R22) (l0_1 : List R69) (a0_2 : Int) (a0_3 : Bool) (l0_4 : List R71) (b0 : Nat) (A0_0 : Option Addr) (n0_0 : Nat) (c0_0 : Nat) (x0_0 : Cells) (A0_1 : Option Addr) (n0_1 : Nat) (c0_1 : Nat) (x0_1 : Cells) (A0_4 : Option Addr) (n0_4 : Nat) (c0_4 : Nat) (x0_4 : Cells) (st0 : St w w1 (.cells b0 (([.slice A0_0 n0_0 c0_0] : List Value) ++ (([.slice A0_1 n0_1 c0_1] : List Value) ++ (([.int .i64 a0_2] : List Value) ++ (([.bool a0_3] : List Value) ++ ([.slice A0_4 n0_4 c0_4] : List Value))))) 66 :: .sl A0_0 c0_0 n0_0 x0_0 22 1 :: .sl A0_1 c0_1 n0_1 x0_1 69 2 :: .sl A0_4 c0_4 n0_4 x0_4 71 2 :: (T ++ R))) (hn0_0 : n0_0 = l0_0.length) (hx0_0 : HRs T (f22 w) x0_0 l0_0) (hn0_1 : n0_1 = l0_1.length) (hx0_1 : HRs T (f69 w) x0_1 l0_1) (hn0_4 : n0_4 = l0_4.length) (hx0_4 : HRs T (f71 w) x0_4 l0_4) (ls0_0 : List R22) (ls0_1 : List R69) (as0_2 : Int) (as0_3 : Bool) (ls0_4 : List R71) (lr0 : List R22) (H : disk_Disk_Image.rel l0_0 l0_1 a0_2 a0_3 l0_4 ls0_0 ls0_1 as0_2 as0_3 ls0_4 lr0) :
    Calls Try.prog 17 #[.pointer (some ⟨b0, 0, none⟩)] w1 fun e w' => ∃ N Ar0 nr0 cr0 xr0, celly N = true ∧ nr0 = lr0.length ∧ OwnR 5 N xr0 lr0 ∧ e = .returned (.slice Ar0 nr0 cr0) ∧ St w w' (.cells b0 (([.slice A0_0 n0_0 c0_0] : List Value) ++ (([.slice A0_1 n0_1 c0_1] : List Value) ++ (([.int .i64 a0_2] : List Value) ++ (([.bool a0_3] : List Value) ++ ([.slice A0_4 n0_4 c0_4] : List Value))))) 66 :: .sl A0_0 c0_0 n0_0 x0_0 22 1 :: .sl A0_1 c0_1 n0_1 x0_1 69 2 :: .sl A0_4 c0_4 n0_4 x0_4 71 2 :: .sl Ar0 cr0 nr0 xr0 22 1 :: (N ++ (T ++ R))) := by
  refine CW.enter Try.func17 rfl (n := 24) rfl [.pointer (some ⟨b0, 0, none⟩)] (Nat.le_of_ble_eq_true rfl) ?_
  refine CW.sub [(0, .pointer (some ⟨b0, 0, none⟩))] ⟨rfl, trivial⟩ ?_
  refine CW.seq ?_
  refine CW.region ?_
  refine WL.val Wanted.none (Runs.assign rfl) ?_
  refine WL.nil ?_
  refine QW.then_n ?_
  refine CW.seq ?_
  refine CW.seq ?_
  refine CW.region ?_
  refine WL.val Wanted.none (Runs.move rfl) ?_
  refine WL.val Wanted.none (Runs.eql_ptr Try.underlying25 rfl rfl rfl) ?_
  refine WL.nil ?_
  refine QW.then_n ?_
  refine CW.cf rfl rfl ?_
  refine CW.skip ?_
  refine QW.then_n ?_
  refine CW.seq ?_
  refine CW.region ?_
  refine WL.val Wanted.none (Runs.assign rfl) ?_
  refine WL.nil ?_
  refine QW.then_n ?_
  refine CW.seq ?_
  refine CW.seq ?_
  refine CW.region ?_
  refine WL.val Wanted.none (Runs.move rfl) ?_
  refine WL.val Wanted.none (Runs.nilCheck rfl) ?_
  refine WL.val Wanted.none (Runs.fieldAddr (off := 0) (p := 0) fld66_0 rfl rfl rfl) ?_
  refine WL.val Wanted.none (Runs.load nagg41 rfl (st0.cell (k := 0) rfl (part_one (u := .slice A0_0 n0_0 c0_0) (pre := (([] : List Value))) (post := (([.slice A0_1 n0_1 c0_1] : List Value) ++ (([.int .i64 a0_2] : List Value) ++ (([.bool a0_3] : List Value) ++ ([.slice A0_4 n0_4 c0_4] : List Value))))) (by first | rfl | simp only [List.append_assoc, List.append_nil, List.nil_append, List.cons_append]) (by first | rfl | simp only [List.length_append, List.length_cons, List.length_nil, iv_length])))) ?_
  refine WL.val Wanted.none (Runs.len_sl Try.underlying41 rfl (by rw [hn0_0])) ?_
  refine WL.val Wanted.none (Runs.move rfl) ?_
  refine WL.nil ?_
  refine QW.then_n ?_
  refine CW.sub [(2, .slice none 0 0), (3, .slice none 0 0), (11, .slice A0_0 n0_0 c0_0), (12, .int .i64 (l0_0.length : Int)), (13, .int .i64 0)] ⟨rfl, rfl, rfl, rfl, rfl, trivial⟩ ?_
  refine CW.block ?_
  have st_2 := st0.nil_sl 22 1
  have st_2 : St w w1 (.sl none 0 0 ([] : Cells) 22 1 :: .cells b0 (([.slice A0_0 n0_0 c0_0] : List Value) ++ (([.slice A0_1 n0_1 c0_1] : List Value) ++ (([.int .i64 a0_2] : List Value) ++ (([.bool a0_3] : List Value) ++ ([.slice A0_4 n0_4 c0_4] : List Value))))) 66 :: .sl A0_0 c0_0 n0_0 x0_0 22 1 :: .sl A0_1 c0_1 n0_1 x0_1 69 2 :: .sl A0_4 c0_4 n0_4 x0_4 71 2 :: (T ++ R)) := st_2
  obtain ⟨k_3, H⟩ := H
  refine CW.sub [(2, .slice none 0 0), (3, .slice none 0 0), (11, .slice A0_0 n0_0 c0_0), (12, .int .i64 (l0_0.length : Int)), (13, .int .i64 0)] ⟨rfl, rfl, rfl, rfl, rfl, trivial⟩ ?_
  refine CW.loop (fun kL1 l_ w_ => ∃ (T_4 : Pool) (A_10 : Option Addr) (c_11 : Nat) (n_12 : Nat) (x_8 : Cells) (l_6 : List R22) (x_13 : Int), l_ = [(2, .slice none 0 0), (3, .slice A_10 n_12 c_11), (11, .slice A0_0 n0_0 c0_0), (12, .int .i64 (l0_0.length : Int)), (13, .int .i64 x_13)] ∧ disk_Disk_Image.L1 l0_0 l0_1 a0_2 a0_3 l0_4 ls0_0 ls0_1 as0_2 as0_3 ls0_4 lr0 kL1 l_6 x_13 ∧ (celly T_4 = true) ∧ (n_12 = l_6.length) ∧ (OwnR 5 T_4 x_8 l_6) ∧ St w w_ (.sl A_10 c_11 n_12 x_8 22 1 :: .cells b0 (([.slice A0_0 n0_0 c0_0] : List Value) ++ (([.slice A0_1 n0_1 c0_1] : List Value) ++ (([.int .i64 a0_2] : List Value) ++ (([.bool a0_3] : List Value) ++ ([.slice A0_4 n0_4 c0_4] : List Value))))) 66 :: .sl A0_0 c0_0 n0_0 x0_0 22 1 :: .sl A0_1 c0_1 n0_1 x0_1 69 2 :: .sl A0_4 c0_4 n0_4 x0_4 71 2 :: (T_4 ++ (T ++ R)))) (k := k_3) ⟨([] : Pool), none, 0, 0, ([] : Cells), ([] : List R22), 0, rfl, H, rfl, rfl, OwnR.nil 5, st_2⟩ (fun _ _ h => by obtain ⟨_, _, _, _, _, _, _, _, h, _⟩ := h; exact h.elim) ?_
  rintro kL1 l_16 w_14 ⟨T_4, A_10, c_11, n_12, x_8, l_6, x_13, rfl, H, hs_5, hn_7, hx_9, st_15⟩
  refine CW.seq ?_
  refine CW.region ?_
  refine WL.val Wanted.none (Runs.lss rfl rfl rfl) ?_
  refine WL.nil ?_
  refine QW.then_n ?_
  refine CW.seq ?_
  rcases H with ⟨c_17, H⟩ | ⟨c_17, H⟩
  · have h_18 : (decide (x_13 < (l0_0.length : Int))) = true := (decide_eq_true c_17)
    refine CW.ct rfl h_18 ?_
    refine CW.skip ?_
    refine QW.then_n ?_
    refine CW.seq ?_
    refine CW.block ?_
    refine CW.seq ?_
    refine CW.region ?_
    obtain ⟨⟨p_19, q_20⟩, H⟩ := H
    obtain ⟨a_21, e_22, ms_23, hc_24, hm_25⟩ := el_get (i := (x_13).toNat) (st_15.src_sl (k := 2) rfl) hx0_0 (fz22 w) (by decide) (by omega)
    obtain ⟨A_26, n_27, c_28, em_30, hb_29⟩ := inv22 hm_25
    replace em_30 : ms_23 = ([.slice A_26 n_27 c_28] : List Value) := em_30
    subst em_30
    refine WL.val Wanted.none (Runs.indexAddr Try.underlying41 cells22 (by decide) rfl e_22 rfl p_19 (by rw [show n0_0 = l0_0.length from hn0_0]; exact q_20) (o := ((x_13).toNat) * 1) (by first | rfl | omega)) ?_
    refine WL.val Wanted.none (Runs.load nagg22 rfl (Src.cellAt (j := 0) (Src.cut (st_15.src_sl (k := 2) rfl) e_22 hc_24) rfl)) ?_
    refine WL.val Wanted.none (Runs.assign rfl) ?_
    refine WL.nil ?_
    refine QW.then_n ?_
    refine CW.region ?_
    refine WL.val Wanted.none (Runs.move rfl) ?_
    refine WL.val Wanted.none (Runs.move rfl) ?_
    obtain ⟨r_35, hr_31, H⟩ := H
    refine WL.call Wanted.none ent29 rfl (slices_Clone_s_byte_byte.calls w_14 (gx l0_0 ((x_13).toNat)) A_26 n_27 c_28 ((hb_29.2.2.at st_15 (fun x_ h_ => List.mem_append_right [_, _, _, _, _] (List.mem_append_right _ (List.mem_append_left _ h_))))) (hb_29.1) (hb_29.2.1) r_35 hr_31) ?_
    rintro _ w_32 ⟨A_36, c_37, n_38, hn_39, rfl, sc_34⟩
    have st_33 : St w w_32 (.sl A_36 c_37 n_38 (iv .u8 r_35) 5 1 :: .sl A_10 c_11 n_12 x_8 22 1 :: .cells b0 (([.slice A0_0 n0_0 c0_0] : List Value) ++ (([.slice A0_1 n0_1 c0_1] : List Value) ++ (([.int .i64 a0_2] : List Value) ++ (([.bool a0_3] : List Value) ++ ([.slice A0_4 n0_4 c0_4] : List Value))))) 66 :: .sl A0_0 c0_0 n0_0 x0_0 22 1 :: .sl A0_1 c0_1 n0_1 x0_1 69 2 :: .sl A0_4 c0_4 n0_4 x0_4 71 2 :: (T_4 ++ (T ++ R))) := st_15.call sc_34
    refine ⟨_, rfl, ?_⟩
    have st_44 := St.pool (A := []) (B := [_, _, _, _, _]) (T := T_4) (R := T ++ R) st_33
    replace st_44 : St w w_32 (.sl A_10 c_11 n_12 x_8 22 1 :: .cells b0 (([.slice A0_0 n0_0 c0_0] : List Value) ++ (([.slice A0_1 n0_1 c0_1] : List Value) ++ (([.int .i64 a0_2] : List Value) ++ (([.bool a0_3] : List Value) ++ ([.slice A0_4 n0_4 c0_4] : List Value))))) 66 :: .sl A0_0 c0_0 n0_0 x0_0 22 1 :: .sl A0_1 c0_1 n0_1 x0_1 69 2 :: .sl A0_4 c0_4 n0_4 x0_4 71 2 :: ((.sl A_36 c_37 n_38 (iv .u8 r_35) 5 1 :: T_4) ++ (T ++ R))) := st_44
    refine WL.buildSl [.slice A_36 n_38 c_37] st_44 Try.underlying41 elem22 rfl rfl (by decide) (by decide) (by simp [Value.cells]) ?_
    intro B_46 w_47 st_48
    replace st_48 : St w w_47 (.sl (some ⟨B_46, 0, none⟩) 1 1 [.slice A_36 n_38 c_37] 22 1 :: .sl A_10 c_11 n_12 x_8 22 1 :: .cells b0 (([.slice A0_0 n0_0 c0_0] : List Value) ++ (([.slice A0_1 n0_1 c0_1] : List Value) ++ (([.int .i64 a0_2] : List Value) ++ (([.bool a0_3] : List Value) ++ ([.slice A0_4 n0_4 c0_4] : List Value))))) 66 :: .sl A0_0 c0_0 n0_0 x0_0 22 1 :: .sl A0_1 c0_1 n0_1 x0_1 69 2 :: .sl A0_4 c0_4 n0_4 x0_4 71 2 :: ((.sl A_36 c_37 n_38 (iv .u8 r_35) 5 1 :: T_4) ++ (T ++ R))) := st_48
    obtain ⟨x_50, e_51⟩ : ∃ x_ : Cells, x_ = [.slice A_36 n_38 c_37] := ⟨_, rfl⟩
    replace st_48 : St w w_47 (.sl (some ⟨B_46, 0, none⟩) 1 1 x_50 22 1 :: .sl A_10 c_11 n_12 x_8 22 1 :: .cells b0 (([.slice A0_0 n0_0 c0_0] : List Value) ++ (([.slice A0_1 n0_1 c0_1] : List Value) ++ (([.int .i64 a0_2] : List Value) ++ (([.bool a0_3] : List Value) ++ ([.slice A0_4 n0_4 c0_4] : List Value))))) 66 :: .sl A0_0 c0_0 n0_0 x0_0 22 1 :: .sl A0_1 c0_1 n0_1 x0_1 69 2 :: .sl A0_4 c0_4 n0_4 x0_4 71 2 :: ((.sl A_36 c_37 n_38 (iv .u8 r_35) 5 1 :: T_4) ++ (T ++ R))) := by rw [e_51]; exact st_48
    obtain ⟨m_53, e_54, H⟩ := H
    obtain ⟨z_55, H⟩ := H
    obtain ⟨n_58, hn_61⟩ : ∃ n_ : Nat, n_ = m_53.length := ⟨_, rfl⟩
    refine WL.appendR (i := 1) (N := n_58) (news := x_50) Wanted.none st_48 rfl Try.underlying41 elemS22 rfl rfl (st_48.src_sl (k := 0) rfl) (by rw [e_51]; rfl) (by rw [e_51]; intro u_ hu_; rw [List.mem_singleton.1 hu_]; rfl) (by decide) (by have h1_ : n_12 = l_6.length := hn_7; have h2_ : 1 = ([r_35] : List R22).length := rfl; rw [hn_61, e_54, List.length_append]; omega) (by rw [hn_61]; exact z_55) ?_
    intro A_56 c_57 w_59 st_60
    obtain ⟨x_62, e_63⟩ : ∃ x_ : Cells, x_ = x_8 ++ x_50 := ⟨_, rfl⟩
    have hx_64 : OwnR 5 (.sl A_36 c_37 n_38 (iv .u8 r_35) 5 1 :: T_4) x_62 m_53 := by rw [e_63, e_54, e_51]; exact hx_9.snoc hn_39
    replace st_60 : St w w_59 (.sl (some ⟨B_46, 0, none⟩) 1 1 x_50 22 1 :: .sl A_56 c_57 n_58 x_62 22 1 :: .cells b0 (([.slice A0_0 n0_0 c0_0] : List Value) ++ (([.slice A0_1 n0_1 c0_1] : List Value) ++ (([.int .i64 a0_2] : List Value) ++ (([.bool a0_3] : List Value) ++ ([.slice A0_4 n0_4 c0_4] : List Value))))) 66 :: .sl A0_0 c0_0 n0_0 x0_0 22 1 :: .sl A0_1 c0_1 n0_1 x0_1 69 2 :: .sl A0_4 c0_4 n0_4 x0_4 71 2 :: ((.sl A_36 c_37 n_38 (iv .u8 r_35) 5 1 :: T_4) ++ (T ++ R))) := by rw [e_63]; exact st_60
    refine WL.val Wanted.none (Runs.assign rfl) ?_
    refine WL.nil ?_
    refine QW.blk_n ?_
    refine QW.then_n ?_
    refine CW.region ?_
    refine WL.val Wanted.none (Runs.add rfl rfl rfl) ?_
    refine WL.val Wanted.none (Runs.move rfl) ?_
    refine WL.nil ?_
    have st_60' := (St.pickT (L := [_, _, _, _, _, _]) st_60 [1, 2, 3, 4, 5] (by decide))
    exact QW.at [(2, .slice none 0 0), (3, .slice A_56 n_58 c_57), (11, .slice A0_0 n0_0 c0_0), (12, .int .i64 (l0_0.length : Int)), (13, .int .i64 (IntKind.i64.wrap (x_13 + 1)))] ⟨rfl, rfl, rfl, rfl, rfl, trivial⟩ ⟨(.sl A_36 c_37 n_38 (iv .u8 r_35) 5 1 :: T_4), A_56, c_57, n_58, x_62, m_53, IntKind.i64.wrap (x_13 + 1), rfl, H, hs_5, hn_61, hx_64, st_60'⟩
  · have h_18 : (decide (x_13 < (l0_0.length : Int))) = false := (decide_eq_false c_17)
    refine CW.cf rfl h_18 ?_
    refine CW.exit ?_
    refine QW.then_x ?_
    refine QW.then_x ?_
    refine QW.blk_x ?_
    refine QW.then_n ?_
    refine CW.seq ?_
    refine CW.region ?_
    refine WL.val Wanted.none (Runs.move rfl) ?_
    refine WL.val Wanted.none (Runs.assign rfl) ?_
    refine WL.nil ?_
    refine QW.then_n ?_
    refine CW.sub [(2, .slice A_10 n_12 c_11)] ⟨rfl, trivial⟩ ?_
    refine CW.ret ?_
    obtain ⟨rfl, rfl, rfl, rfl, rfl, rfl⟩ := H
    exact QW.ret1 rfl rfl ⟨T_4, A_10, n_12, c_11, x_8, hs_5, hn_7, hx_9, rfl, (St.pickT (L := [_, _, _, _, _]) st_15 [1, 2, 3, 4, 0] (by decide))⟩

/-! ### reliquarylaw06_DiskLast: function 5 -/
def reliquarylaw06_DiskLast.rel (a0 : Int) (a1 : Int) (a2 : Bool) (a3 : Int)  : Prop := (reliquarylaw06_awake.rel  ∧ (∃ (o_7 : Option ((List R22) × (List R69) × Int × Bool × (List R71))) (a_11 : Int), disk_New.rel 3 o_7 a_11 ∧ ((∃ (l_22_0 : List R22) (l_22_1 : List R69) (a_26_2 : Int) (a_26_3 : Bool) (l_22_4 : List R71), o_7 = some (l_22_0, l_22_1, a_26_2, a_26_3, l_22_4) ∧ (∃ (l_49 : List Int), reliquarylaw06_full.rel 0 0 [a0] [] false l_49 ∧ (∃ (l_72 : List Int), reliquarylaw06_full.rel 0 0 [a1] [] false l_72 ∧ (∃ (l_86_0 : List R22) (l_86_1 : List R69) (a_90_2 : Int) (a_90_3 : Bool) (l_86_4 : List R71) (a_92 : Int), disk_Disk_Write.rel l_22_0 l_22_1 a_26_2 a_26_3 l_22_4 1 l_49 l_86_0 l_86_1 a_90_2 a_90_3 l_86_4 a_92 ∧ (∃ (l_103_0 : List R22) (l_103_1 : List R69) (a_107_2 : Int) (a_107_3 : Bool) (l_103_4 : List R71) (a_109 : Int), disk_Disk_Write.rel l_86_0 l_86_1 a_90_2 a_90_3 l_86_4 1 l_72 l_103_0 l_103_1 a_107_2 a_107_3 l_103_4 a_109 ∧ ((a2 = true ∧ (∃ (l_122_0 : List R22) (l_122_1 : List R69) (a_126_2 : Int) (a_126_3 : Bool) (l_122_4 : List R71) (a_128 : Int), disk_Disk_Flush.rel l_103_0 l_103_1 a_107_2 a_107_3 l_103_4 l_122_0 l_122_1 a_126_2 a_126_3 l_122_4 a_128 ∧ ((0 ≤ (0 : Int) ∧ (0 : Int) < (l_72.length : Int)) ∧ ((0 ≤ (0 : Int) ∧ (0 : Int) < (l_72.length : Int)) ∧ (∃ m_140 : List Int, m_140 = List.set l_72 0 (bits .xor .u8 (gn l_72 0) a3) ∧ (∃ (l_152_0 : List R22) (l_152_1 : List R69) (a_156_2 : Int) (a_156_3 : Bool) (l_152_4 : List R71) (l_161 : List Int) (a_165 : Int), disk_Disk_Read.rel l_122_0 l_122_1 a_126_2 a_126_3 l_122_4 1 l_152_0 l_152_1 a_156_2 a_156_3 l_152_4 l_161 a_165 ∧ (¬ (a_165 ≠ 0) ∧ (¬ ((l_161.length : Int) ≠ 192) ∧ ((0 ≤ (0 : Int) ∧ (0 : Int) < (l_161.length : Int)) ∧ (¬ ((gn l_161 0) ≠ a1) ∧ ((0 ≤ (0 : Int) ∧ (0 : Int) < (l_161.length : Int)) ∧ ((0 ≤ (0 : Int) ∧ (0 : Int) < (l_161.length : Int)) ∧ (∃ m_187 : List Int, m_187 = List.set l_161 0 (bits .xor .u8 (gn l_161 0) a3) ∧ (∃ (l_199_0 : List R22) (l_199_1 : List R69) (a_203_2 : Int) (a_203_3 : Bool) (l_199_4 : List R71) (l_208 : List Int) (a_212 : Int), disk_Disk_Read.rel l_152_0 l_152_1 a_156_2 a_156_3 l_152_4 1 l_199_0 l_199_1 a_203_2 a_203_3 l_199_4 l_208 a_212 ∧ (∃ (l_223_0 : List R22) (l_223_1 : List R69) (a_227_2 : Int) (a_227_3 : Bool) (l_223_4 : List R71) (l_232 : List Int) (a_236 : Int), disk_Disk_Read.rel l_199_0 l_199_1 a_203_2 a_203_3 l_199_4 2 l_223_0 l_223_1 a_227_2 a_227_3 l_223_4 l_232 a_236 ∧ (∃ (l_247_0 : List R22) (l_247_1 : List R69) (a_251_2 : Int) (a_251_3 : Bool) (l_247_4 : List R71) (l_256 : List R22), disk_Disk_Image.rel l_223_0 l_223_1 a_227_2 a_227_3 l_223_4 l_247_0 l_247_1 a_251_2 a_251_3 l_247_4 l_256 ∧ (¬ ((l_256.length : Int) ≠ 3) ∧ ((0 ≤ (2 : Int) ∧ (2 : Int) < (l_256.length : Int)) ∧ ((0 ≤ (0 : Int) ∧ (0 : Int) < ((gx l_256 2).length : Int)) ∧ ((0 ≤ (0 : Int) ∧ (0 : Int) < ((gx l_256 2).length : Int)) ∧ (∃ m_288 : List Int, m_288 = List.set (gx l_256 2) 0 (bits .xor .u8 (gn (gx l_256 2) 0) 1) ∧ (∃ (l_301_0 : List R22) (l_301_1 : List R69) (a_305_2 : Int) (a_305_3 : Bool) (l_301_4 : List R71) (l_310 : List Int) (a_314 : Int), disk_Disk_Read.rel l_223_0 l_223_1 a_227_2 a_227_3 l_223_4 2 l_301_0 l_301_1 a_305_2 a_305_3 l_301_4 l_310 a_314 ∧ (a_92 = 0 ∧ (a_109 = 0 ∧ (a_212 = 0 ∧ ((0 ≤ (0 : Int) ∧ (0 : Int) < (l_208.length : Int)) ∧ ((gn l_208 0) = a1 ∧ (a_236 = 0 ∧ ((0 ≤ (0 : Int) ∧ (0 : Int) < (l_232.length : Int)) ∧ ((gn l_232 0) = 0 ∧ (a_314 = 0 ∧ ((0 ≤ (0 : Int) ∧ (0 : Int) < (l_310.length : Int)) ∧ (gn l_310 0) = 0)))))))))))))))))))))))))))))))) ∨ (¬ (a2 = true) ∧ ((0 ≤ (0 : Int) ∧ (0 : Int) < (l_72.length : Int)) ∧ ((0 ≤ (0 : Int) ∧ (0 : Int) < (l_72.length : Int)) ∧ (∃ m_352 : List Int, m_352 = List.set l_72 0 (bits .xor .u8 (gn l_72 0) a3) ∧ (∃ (l_364_0 : List R22) (l_364_1 : List R69) (a_368_2 : Int) (a_368_3 : Bool) (l_364_4 : List R71) (l_373 : List Int) (a_377 : Int), disk_Disk_Read.rel l_103_0 l_103_1 a_107_2 a_107_3 l_103_4 1 l_364_0 l_364_1 a_368_2 a_368_3 l_364_4 l_373 a_377 ∧ (¬ (a_377 ≠ 0) ∧ (¬ ((l_373.length : Int) ≠ 192) ∧ ((0 ≤ (0 : Int) ∧ (0 : Int) < (l_373.length : Int)) ∧ (¬ ((gn l_373 0) ≠ a1) ∧ ((0 ≤ (0 : Int) ∧ (0 : Int) < (l_373.length : Int)) ∧ ((0 ≤ (0 : Int) ∧ (0 : Int) < (l_373.length : Int)) ∧ (∃ m_399 : List Int, m_399 = List.set l_373 0 (bits .xor .u8 (gn l_373 0) a3) ∧ (∃ (l_411_0 : List R22) (l_411_1 : List R69) (a_415_2 : Int) (a_415_3 : Bool) (l_411_4 : List R71) (l_420 : List Int) (a_424 : Int), disk_Disk_Read.rel l_364_0 l_364_1 a_368_2 a_368_3 l_364_4 1 l_411_0 l_411_1 a_415_2 a_415_3 l_411_4 l_420 a_424 ∧ (∃ (l_435_0 : List R22) (l_435_1 : List R69) (a_439_2 : Int) (a_439_3 : Bool) (l_435_4 : List R71) (l_444 : List Int) (a_448 : Int), disk_Disk_Read.rel l_411_0 l_411_1 a_415_2 a_415_3 l_411_4 2 l_435_0 l_435_1 a_439_2 a_439_3 l_435_4 l_444 a_448 ∧ (∃ (l_459_0 : List R22) (l_459_1 : List R69) (a_463_2 : Int) (a_463_3 : Bool) (l_459_4 : List R71) (l_468 : List R22), disk_Disk_Image.rel l_435_0 l_435_1 a_439_2 a_439_3 l_435_4 l_459_0 l_459_1 a_463_2 a_463_3 l_459_4 l_468 ∧ (¬ ((l_468.length : Int) ≠ 3) ∧ ((0 ≤ (2 : Int) ∧ (2 : Int) < (l_468.length : Int)) ∧ ((0 ≤ (0 : Int) ∧ (0 : Int) < ((gx l_468 2).length : Int)) ∧ ((0 ≤ (0 : Int) ∧ (0 : Int) < ((gx l_468 2).length : Int)) ∧ (∃ m_500 : List Int, m_500 = List.set (gx l_468 2) 0 (bits .xor .u8 (gn (gx l_468 2) 0) 1) ∧ (∃ (l_513_0 : List R22) (l_513_1 : List R69) (a_517_2 : Int) (a_517_3 : Bool) (l_513_4 : List R71) (l_522 : List Int) (a_526 : Int), disk_Disk_Read.rel l_435_0 l_435_1 a_439_2 a_439_3 l_435_4 2 l_513_0 l_513_1 a_517_2 a_517_3 l_513_4 l_522 a_526 ∧ (a_92 = 0 ∧ (a_109 = 0 ∧ (a_424 = 0 ∧ ((0 ≤ (0 : Int) ∧ (0 : Int) < (l_420.length : Int)) ∧ ((gn l_420 0) = a1 ∧ (a_448 = 0 ∧ ((0 ≤ (0 : Int) ∧ (0 : Int) < (l_444.length : Int)) ∧ ((gn l_444 0) = 0 ∧ (a_526 = 0 ∧ ((0 ≤ (0 : Int) ∧ (0 : Int) < (l_522.length : Int)) ∧ (gn l_522 0) = 0))))))))))))))))))))))))))))))))))))))))
set_option maxHeartbeats 4000000 in
set_option maxRecDepth 100000 in
theorem reliquarylaw06_DiskLast.calls (w : World) (a0 : Int) (a1 : Int) (a2 : Bool) (a3 : Int)     (H : reliquarylaw06_DiskLast.rel a0 a1 a2 a3 ) :
    Calls Try.prog 5 #[.int .u8 a0, .int .u8 a1, .bool a2, .int .u8 a3] w fun e w' => e = .returned (.bool true) ∧ Below w.heap.size w w' := by
  refine CW.enter Try.func5 rfl (n := 146) rfl [.int .u8 a0, .int .u8 a1, .bool a2, .int .u8 a3] (Nat.le_of_ble_eq_true rfl) ?_
  refine CW.sub [(0, .int .u8 a0), (1, .int .u8 a1), (2, .bool a2), (3, .int .u8 a3)] ⟨rfl, rfl, rfl, rfl, trivial⟩ ?_
  obtain ⟨T, R, hT, hR, st0⟩ := St.start w
  refine CW.seq ?_
  refine CW.region ?_
  refine WL.val Wanted.none (Runs.assign rfl) ?_
  refine WL.nil ?_
  refine QW.then_n ?_
  refine CW.seq ?_
  refine CW.region ?_
  obtain ⟨hr_1, H⟩ := H
  refine WL.call Wanted.none ent9 rfl (reliquarylaw06_awake.calls w hr_1) ?_
  rintro _ w_2 ⟨rfl, sc_4⟩
  have st_3 : St w w_2 ((T ++ R)) := st0.below sc_4
  refine ⟨_, rfl, ?_⟩
  refine WL.val Wanted.none (Runs.assign rfl) ?_
  refine WL.nil ?_
  refine QW.then_n ?_
  refine CW.seq ?_
  refine CW.seq ?_
  refine CW.region ?_
  refine WL.val Wanted.none (Runs.move rfl) ?_
  refine WL.val Wanted.none (Runs.not rfl rfl) ?_
  refine WL.nil ?_
  refine QW.then_n ?_
  refine CW.cf rfl rfl ?_
  refine CW.skip ?_
  refine QW.then_n ?_
  refine CW.seq ?_
  refine CW.region ?_
  have st_5 : St w w_2 ((T ++ (R))) := St.hide (A := []) (B := []) (T := T) (R := R) st_3
  obtain ⟨o_7, a_11, hr_6, H⟩ := H
  obtain ⟨l_22_0, l_22_1, a_26_2, a_26_3, l_22_4, rfl, H⟩ := H
  refine WL.call Wanted.none ent10 rfl (disk_New.calls_obj w w_2 T (R) 3  st_5 l_22_0 l_22_1 a_26_2 a_26_3 l_22_4 a_11 (some (l_22_0, l_22_1, a_26_2, a_26_3, l_22_4)) rfl hr_6) ?_
  rintro _ w_29 ⟨T_15, b_18, A_19_0, n_20_0, c_21_0, x_23_0, A_19_1, n_20_1, c_21_1, x_23_1, A_19_4, n_20_4, c_21_4, x_23_4, hs_16, hn_24_0, hx_25_0, hn_24_1, hx_25_1, hn_24_4, hx_25_4, rfl, sc_31⟩
  have st_30 : St w w_29 (.cells b_18 (([.slice A_19_0 n_20_0 c_21_0] : List Value) ++ (([.slice A_19_1 n_20_1 c_21_1] : List Value) ++ (([.int .i64 a_26_2] : List Value) ++ (([.bool a_26_3] : List Value) ++ ([.slice A_19_4 n_20_4 c_21_4] : List Value))))) 66 :: .sl A_19_0 c_21_0 n_20_0 x_23_0 22 1 :: .sl A_19_1 c_21_1 n_20_1 x_23_1 69 2 :: .sl A_19_4 c_21_4 n_20_4 x_23_4 71 2 :: (T_15 ++ R)) := St.unhide (A := [_, _, _, _]) (B := []) (T := T_15) (R := R) sc_31
  refine ⟨_, rfl, ?_⟩
  refine WL.val Wanted.none (Runs.move rfl) ?_
  refine WL.val Wanted.none (Runs.extract rfl rfl) ?_
  refine WL.val Wanted.none (Runs.extract rfl rfl) ?_
  refine WL.val Wanted.none (Runs.assign rfl) ?_
  refine WL.val Wanted.none (Runs.assign rfl) ?_
  refine WL.nil ?_
  refine QW.then_n ?_
  refine CW.sub [(0, .int .u8 a0), (1, .int .u8 a1), (2, .bool a2), (3, .int .u8 a3), (8, .bool false), (10, .pointer (some ⟨b_18, 0, none⟩)), (11, .int .i64 0)] ⟨rfl, rfl, rfl, rfl, rfl, rfl, rfl, trivial⟩ ?_
  refine CW.seq ?_
  refine CW.seq ?_
  refine CW.region ?_
  refine WL.val Wanted.none (Runs.move rfl) ?_
  refine WL.val Wanted.none (Runs.neq (b := false) rfl rfl (by decide)) ?_
  refine WL.nil ?_
  refine QW.then_n ?_
  refine CW.cf rfl rfl ?_
  refine CW.skip ?_
  refine QW.then_n ?_
  refine CW.seq ?_
  refine CW.region ?_
  refine WL.val Wanted.none (Runs.move rfl) ?_
  refine WL.buildSl [.int .u8 a0] st_30 Try.underlying22 elem5 rfl rfl (by decide) (by decide) (by simp [Value.cells]) ?_
  intro B_32 w_33 st_34
  replace st_34 : St w w_33 (.sl (some ⟨B_32, 0, none⟩) 1 1 (iv .u8 [a0]) 5 1 :: .cells b_18 (([.slice A_19_0 n_20_0 c_21_0] : List Value) ++ (([.slice A_19_1 n_20_1 c_21_1] : List Value) ++ (([.int .i64 a_26_2] : List Value) ++ (([.bool a_26_3] : List Value) ++ ([.slice A_19_4 n_20_4 c_21_4] : List Value))))) 66 :: .sl A_19_0 c_21_0 n_20_0 x_23_0 22 1 :: .sl A_19_1 c_21_1 n_20_1 x_23_1 69 2 :: .sl A_19_4 c_21_4 n_20_4 x_23_4 71 2 :: (T_15 ++ R)) := st_34
  refine WL.val Wanted.none (Runs.build_struct (ps := [(0, 1), (1, 1), (2, 1), (3, 1), (4, 1)]) (cs := (([.int .i64 0] : List Value) ++ (([.int .i64 0] : List Value) ++ (([.slice (some ⟨B_32, 0, none⟩) 1 1] : List Value) ++ (([.slice none 0 0] : List Value) ++ ([.bool false] : List Value)))))) plc33 zero33 rfl (by refine Fills.cons (o := 2) (ms := (([.slice (some ⟨B_32, 0, none⟩) 1 1] : List Value))) (show _ = some (2, (([.slice (some ⟨B_32, 0, none⟩) 1 1] : List Value)).length) by rw [show (([.slice (some ⟨B_32, 0, none⟩) 1 1] : List Value)).length = 1 from (by first | rfl | simp only [List.length_append, List.length_cons, List.length_nil, iv_length])] <;> rfl) rfl (by have h1_ : (([.slice (some ⟨B_32, 0, none⟩) 1 1] : List Value)).length = 1 := (by first | rfl | simp only [List.length_append, List.length_cons, List.length_nil, iv_length]); have h2_ : (([.int .i64 0] : List Value) ++ (([.int .i64 0] : List Value) ++ (([.slice none 0 0] : List Value) ++ (([.slice none 0 0] : List Value) ++ ([.bool false] : List Value))))).length = 5 := (by first | rfl | simp only [List.length_append, List.length_cons, List.length_nil, iv_length]); omega) ?_; rw [show layV (([.int .i64 0] : List Value) ++ (([.int .i64 0] : List Value) ++ (([.slice none 0 0] : List Value) ++ (([.slice none 0 0] : List Value) ++ ([.bool false] : List Value))))) 2 (([.slice (some ⟨B_32, 0, none⟩) 1 1] : List Value)) = (([.int .i64 0] : List Value) ++ (([.int .i64 0] : List Value) ++ (([.slice (some ⟨B_32, 0, none⟩) 1 1] : List Value) ++ (([.slice none 0 0] : List Value) ++ ([.bool false] : List Value))))) from (layV_mid (pre := (([.int .i64 0] : List Value) ++ ([.int .i64 0] : List Value))) (mid := (([.slice none 0 0] : List Value))) (post := (([.slice none 0 0] : List Value) ++ ([.bool false] : List Value))) (by first | rfl | simp only [List.append_assoc, List.append_nil, List.nil_append, List.cons_append]) (by first | rfl | simp only [List.length_append, List.length_cons, List.length_nil, iv_length]) (Eq.trans (b := 1) (by first | rfl | simp only [List.length_append, List.length_cons, List.length_nil, iv_length]) (Eq.symm (by first | rfl | simp only [List.length_append, List.length_cons, List.length_nil, iv_length])))).trans (by first | rfl | simp only [List.append_assoc, List.append_nil, List.nil_append, List.cons_append])]; exact Fills.nil)) ?_
  have hb_40c := st_34.cap (i := 0) rfl
  obtain ⟨T_36, hs_37, hm_38, st_39⟩ := St.freeze (A := []) (B := [_, _, _, _]) (T := T_15) (R := R) st_34
  have hb_40 : HB w T_36 (some ⟨B_32, 0, none⟩) 1 1 (iv .u8 [a0]) [a0].length := ⟨rfl, hb_40c, Hd.of_sl hm_38⟩
  replace st_39 : St w w_33 (.cells b_18 (([.slice A_19_0 n_20_0 c_21_0] : List Value) ++ (([.slice A_19_1 n_20_1 c_21_1] : List Value) ++ (([.int .i64 a_26_2] : List Value) ++ (([.bool a_26_3] : List Value) ++ ([.slice A_19_4 n_20_4 c_21_4] : List Value))))) 66 :: .sl A_19_0 c_21_0 n_20_0 x_23_0 22 1 :: .sl A_19_1 c_21_1 n_20_1 x_23_1 69 2 :: .sl A_19_4 c_21_4 n_20_4 x_23_4 71 2 :: (T_36 ++ R)) := st_39
  have st_41 : St w w_33 ((T_36 ++ (.cells b_18 (([.slice A_19_0 n_20_0 c_21_0] : List Value) ++ (([.slice A_19_1 n_20_1 c_21_1] : List Value) ++ (([.int .i64 a_26_2] : List Value) ++ (([.bool a_26_3] : List Value) ++ ([.slice A_19_4 n_20_4 c_21_4] : List Value))))) 66 :: .sl A_19_0 c_21_0 n_20_0 x_23_0 22 1 :: .sl A_19_1 c_21_1 n_20_1 x_23_1 69 2 :: .sl A_19_4 c_21_4 n_20_4 x_23_4 71 2 :: R))) := St.hide (A := []) (B := [_, _, _, _]) (T := T_36) (R := R) st_39
  obtain ⟨l_49, hr_42, H⟩ := H
  refine WL.call Wanted.none ent12 rfl (reliquarylaw06_full.calls w w_33 T_36 (.cells b_18 (([.slice A_19_0 n_20_0 c_21_0] : List Value) ++ (([.slice A_19_1 n_20_1 c_21_1] : List Value) ++ (([.int .i64 a_26_2] : List Value) ++ (([.bool a_26_3] : List Value) ++ ([.slice A_19_4 n_20_4 c_21_4] : List Value))))) 66 :: .sl A_19_0 c_21_0 n_20_0 x_23_0 22 1 :: .sl A_19_1 c_21_1 n_20_1 x_23_1 69 2 :: .sl A_19_4 c_21_4 n_20_4 x_23_4 71 2 :: R) 0 0 [a0] [] false (some ⟨B_32, 0, none⟩) 1 1 none 0 0  st_41 hb_40 HB.nil l_49 hr_42) ?_
  rintro _ w_52 ⟨T_43, A_46, n_47, c_48, hs_44, hn_51, rfl, sc_54⟩
  have st_53 : St w w_52 (.sl A_46 c_48 n_47 (iv .u8 l_49) 5 1 :: .cells b_18 (([.slice A_19_0 n_20_0 c_21_0] : List Value) ++ (([.slice A_19_1 n_20_1 c_21_1] : List Value) ++ (([.int .i64 a_26_2] : List Value) ++ (([.bool a_26_3] : List Value) ++ ([.slice A_19_4 n_20_4 c_21_4] : List Value))))) 66 :: .sl A_19_0 c_21_0 n_20_0 x_23_0 22 1 :: .sl A_19_1 c_21_1 n_20_1 x_23_1 69 2 :: .sl A_19_4 c_21_4 n_20_4 x_23_4 71 2 :: (T_43 ++ R)) := St.unhide (A := [_]) (B := [_, _, _, _]) (T := T_43) (R := R) sc_54
  refine ⟨_, rfl, ?_⟩
  refine WL.val Wanted.none (Runs.assign rfl) ?_
  refine WL.nil ?_
  refine QW.then_n ?_
  refine CW.sub [(1, .int .u8 a1), (2, .bool a2), (3, .int .u8 a3), (8, .bool false), (10, .pointer (some ⟨b_18, 0, none⟩)), (12, .slice A_46 n_47 c_48)] ⟨rfl, rfl, rfl, rfl, rfl, rfl, trivial⟩ ?_
  refine CW.seq ?_
  refine CW.region ?_
  refine WL.val Wanted.none (Runs.move rfl) ?_
  refine WL.buildSl [.int .u8 a1] st_53 Try.underlying22 elem5 rfl rfl (by decide) (by decide) (by simp [Value.cells]) ?_
  intro B_55 w_56 st_57
  replace st_57 : St w w_56 (.sl (some ⟨B_55, 0, none⟩) 1 1 (iv .u8 [a1]) 5 1 :: .sl A_46 c_48 n_47 (iv .u8 l_49) 5 1 :: .cells b_18 (([.slice A_19_0 n_20_0 c_21_0] : List Value) ++ (([.slice A_19_1 n_20_1 c_21_1] : List Value) ++ (([.int .i64 a_26_2] : List Value) ++ (([.bool a_26_3] : List Value) ++ ([.slice A_19_4 n_20_4 c_21_4] : List Value))))) 66 :: .sl A_19_0 c_21_0 n_20_0 x_23_0 22 1 :: .sl A_19_1 c_21_1 n_20_1 x_23_1 69 2 :: .sl A_19_4 c_21_4 n_20_4 x_23_4 71 2 :: (T_43 ++ R)) := st_57
  refine WL.val Wanted.none (Runs.build_struct (ps := [(0, 1), (1, 1), (2, 1), (3, 1), (4, 1)]) (cs := (([.int .i64 0] : List Value) ++ (([.int .i64 0] : List Value) ++ (([.slice (some ⟨B_55, 0, none⟩) 1 1] : List Value) ++ (([.slice none 0 0] : List Value) ++ ([.bool false] : List Value)))))) plc33 zero33 rfl (by refine Fills.cons (o := 2) (ms := (([.slice (some ⟨B_55, 0, none⟩) 1 1] : List Value))) (show _ = some (2, (([.slice (some ⟨B_55, 0, none⟩) 1 1] : List Value)).length) by rw [show (([.slice (some ⟨B_55, 0, none⟩) 1 1] : List Value)).length = 1 from (by first | rfl | simp only [List.length_append, List.length_cons, List.length_nil, iv_length])] <;> rfl) rfl (by have h1_ : (([.slice (some ⟨B_55, 0, none⟩) 1 1] : List Value)).length = 1 := (by first | rfl | simp only [List.length_append, List.length_cons, List.length_nil, iv_length]); have h2_ : (([.int .i64 0] : List Value) ++ (([.int .i64 0] : List Value) ++ (([.slice none 0 0] : List Value) ++ (([.slice none 0 0] : List Value) ++ ([.bool false] : List Value))))).length = 5 := (by first | rfl | simp only [List.length_append, List.length_cons, List.length_nil, iv_length]); omega) ?_; rw [show layV (([.int .i64 0] : List Value) ++ (([.int .i64 0] : List Value) ++ (([.slice none 0 0] : List Value) ++ (([.slice none 0 0] : List Value) ++ ([.bool false] : List Value))))) 2 (([.slice (some ⟨B_55, 0, none⟩) 1 1] : List Value)) = (([.int .i64 0] : List Value) ++ (([.int .i64 0] : List Value) ++ (([.slice (some ⟨B_55, 0, none⟩) 1 1] : List Value) ++ (([.slice none 0 0] : List Value) ++ ([.bool false] : List Value))))) from (layV_mid (pre := (([.int .i64 0] : List Value) ++ ([.int .i64 0] : List Value))) (mid := (([.slice none 0 0] : List Value))) (post := (([.slice none 0 0] : List Value) ++ ([.bool false] : List Value))) (by first | rfl | simp only [List.append_assoc, List.append_nil, List.nil_append, List.cons_append]) (by first | rfl | simp only [List.length_append, List.length_cons, List.length_nil, iv_length]) (Eq.trans (b := 1) (by first | rfl | simp only [List.length_append, List.length_cons, List.length_nil, iv_length]) (Eq.symm (by first | rfl | simp only [List.length_append, List.length_cons, List.length_nil, iv_length])))).trans (by first | rfl | simp only [List.append_assoc, List.append_nil, List.nil_append, List.cons_append])]; exact Fills.nil)) ?_
  have hb_63c := st_57.cap (i := 0) rfl
  obtain ⟨T_59, hs_60, hm_61, st_62⟩ := St.freeze (A := []) (B := [_, _, _, _, _]) (T := T_43) (R := R) st_57
  have hb_63 : HB w T_59 (some ⟨B_55, 0, none⟩) 1 1 (iv .u8 [a1]) [a1].length := ⟨rfl, hb_63c, Hd.of_sl hm_61⟩
  replace st_62 : St w w_56 (.sl A_46 c_48 n_47 (iv .u8 l_49) 5 1 :: .cells b_18 (([.slice A_19_0 n_20_0 c_21_0] : List Value) ++ (([.slice A_19_1 n_20_1 c_21_1] : List Value) ++ (([.int .i64 a_26_2] : List Value) ++ (([.bool a_26_3] : List Value) ++ ([.slice A_19_4 n_20_4 c_21_4] : List Value))))) 66 :: .sl A_19_0 c_21_0 n_20_0 x_23_0 22 1 :: .sl A_19_1 c_21_1 n_20_1 x_23_1 69 2 :: .sl A_19_4 c_21_4 n_20_4 x_23_4 71 2 :: (T_59 ++ R)) := st_62
  have st_64 : St w w_56 ((T_59 ++ (.sl A_46 c_48 n_47 (iv .u8 l_49) 5 1 :: .cells b_18 (([.slice A_19_0 n_20_0 c_21_0] : List Value) ++ (([.slice A_19_1 n_20_1 c_21_1] : List Value) ++ (([.int .i64 a_26_2] : List Value) ++ (([.bool a_26_3] : List Value) ++ ([.slice A_19_4 n_20_4 c_21_4] : List Value))))) 66 :: .sl A_19_0 c_21_0 n_20_0 x_23_0 22 1 :: .sl A_19_1 c_21_1 n_20_1 x_23_1 69 2 :: .sl A_19_4 c_21_4 n_20_4 x_23_4 71 2 :: R))) := St.hide (A := []) (B := [_, _, _, _, _]) (T := T_59) (R := R) st_62
  obtain ⟨l_72, hr_65, H⟩ := H
  refine WL.call Wanted.none ent12 rfl (reliquarylaw06_full.calls w w_56 T_59 (.sl A_46 c_48 n_47 (iv .u8 l_49) 5 1 :: .cells b_18 (([.slice A_19_0 n_20_0 c_21_0] : List Value) ++ (([.slice A_19_1 n_20_1 c_21_1] : List Value) ++ (([.int .i64 a_26_2] : List Value) ++ (([.bool a_26_3] : List Value) ++ ([.slice A_19_4 n_20_4 c_21_4] : List Value))))) 66 :: .sl A_19_0 c_21_0 n_20_0 x_23_0 22 1 :: .sl A_19_1 c_21_1 n_20_1 x_23_1 69 2 :: .sl A_19_4 c_21_4 n_20_4 x_23_4 71 2 :: R) 0 0 [a1] [] false (some ⟨B_55, 0, none⟩) 1 1 none 0 0  st_64 hb_63 HB.nil l_72 hr_65) ?_
  rintro _ w_75 ⟨T_66, A_69, n_70, c_71, hs_67, hn_74, rfl, sc_77⟩
  have st_76 : St w w_75 (.sl A_69 c_71 n_70 (iv .u8 l_72) 5 1 :: .sl A_46 c_48 n_47 (iv .u8 l_49) 5 1 :: .cells b_18 (([.slice A_19_0 n_20_0 c_21_0] : List Value) ++ (([.slice A_19_1 n_20_1 c_21_1] : List Value) ++ (([.int .i64 a_26_2] : List Value) ++ (([.bool a_26_3] : List Value) ++ ([.slice A_19_4 n_20_4 c_21_4] : List Value))))) 66 :: .sl A_19_0 c_21_0 n_20_0 x_23_0 22 1 :: .sl A_19_1 c_21_1 n_20_1 x_23_1 69 2 :: .sl A_19_4 c_21_4 n_20_4 x_23_4 71 2 :: (T_66 ++ R)) := St.unhide (A := [_]) (B := [_, _, _, _, _]) (T := T_66) (R := R) sc_77
  refine ⟨_, rfl, ?_⟩
  refine WL.val Wanted.none (Runs.assign rfl) ?_
  refine WL.nil ?_
  refine QW.then_n ?_
  refine CW.seq ?_
  refine CW.region ?_
  refine WL.val Wanted.none (Runs.move rfl) ?_
  refine WL.val Wanted.none (Runs.move rfl) ?_
  have st_78 := (St.pickT (L := [_, _, _, _, _, _]) st_76 [2, 3, 4, 5, 0, 1] (by decide))
  replace st_78 : St w w_75 (.cells b_18 (([.slice A_19_0 n_20_0 c_21_0] : List Value) ++ (([.slice A_19_1 n_20_1 c_21_1] : List Value) ++ (([.int .i64 a_26_2] : List Value) ++ (([.bool a_26_3] : List Value) ++ ([.slice A_19_4 n_20_4 c_21_4] : List Value))))) 66 :: .sl A_19_0 c_21_0 n_20_0 x_23_0 22 1 :: .sl A_19_1 c_21_1 n_20_1 x_23_1 69 2 :: .sl A_19_4 c_21_4 n_20_4 x_23_4 71 2 :: .sl A_69 c_71 n_70 (iv .u8 l_72) 5 1 :: .sl A_46 c_48 n_47 (iv .u8 l_49) 5 1 :: (T_66 ++ R)) := st_78
  have st_79 : St w w_75 (.cells b_18 (([.slice A_19_0 n_20_0 c_21_0] : List Value) ++ (([.slice A_19_1 n_20_1 c_21_1] : List Value) ++ (([.int .i64 a_26_2] : List Value) ++ (([.bool a_26_3] : List Value) ++ ([.slice A_19_4 n_20_4 c_21_4] : List Value))))) 66 :: .sl A_19_0 c_21_0 n_20_0 x_23_0 22 1 :: .sl A_19_1 c_21_1 n_20_1 x_23_1 69 2 :: .sl A_19_4 c_21_4 n_20_4 x_23_4 71 2 :: (T_66 ++ (.sl A_69 c_71 n_70 (iv .u8 l_72) 5 1 :: .sl A_46 c_48 n_47 (iv .u8 l_49) 5 1 :: R))) := St.hide (A := [_, _, _, _]) (B := [_, _]) (T := T_66) (R := R) st_78
  obtain ⟨l_86_0, l_86_1, a_90_2, a_90_3, l_86_4, a_92, hr_80, H⟩ := H
  refine WL.call Wanted.none ent11 rfl (disk_Disk_Write.calls w w_75 T_66 (.sl A_69 c_71 n_70 (iv .u8 l_72) 5 1 :: .sl A_46 c_48 n_47 (iv .u8 l_49) 5 1 :: R) l_22_0 l_22_1 a_26_2 a_26_3 l_22_4 1 l_49 b_18 A_19_0 n_20_0 c_21_0 x_23_0 A_19_1 n_20_1 c_21_1 x_23_1 A_19_4 n_20_4 c_21_4 x_23_4 A_46 n_47 c_48  st_79 (hn_24_0) (hx_25_0.mono (fun _ h_ => hs_67.1 _ (hs_60.1 _ (hs_44.1 _ (hs_37.1 _ h_))))) (hn_24_1) (hx_25_1.mono (fun _ h_ => hs_67.1 _ (hs_60.1 _ (hs_44.1 _ (hs_37.1 _ h_))))) (hn_24_4) (hx_25_4.mono (fun _ h_ => hs_67.1 _ (hs_60.1 _ (hs_44.1 _ (hs_37.1 _ h_))))) ⟨hn_51, st_78.cap (i := 5) rfl, fun W_ L_ st hT => st.src_mem (hT _ (List.mem_append_right _ (List.mem_of_getElem? (i := 1) rfl)))⟩ l_86_0 l_86_1 a_90_2 a_90_3 l_86_4 a_92 hr_80) ?_
  rintro _ w_93 ⟨T_81, A_83_0, n_84_0, c_85_0, x_87_0, A_83_1, n_84_1, c_85_1, x_87_1, A_83_4, n_84_4, c_85_4, x_87_4, hs_82, hn_88_0, hx_89_0, hn_88_1, hx_89_1, hn_88_4, hx_89_4, rfl, sc_95⟩
  have st_94 : St w w_93 (.cells b_18 (([.slice A_83_0 n_84_0 c_85_0] : List Value) ++ (([.slice A_83_1 n_84_1 c_85_1] : List Value) ++ (([.int .i64 a_90_2] : List Value) ++ (([.bool a_90_3] : List Value) ++ ([.slice A_83_4 n_84_4 c_85_4] : List Value))))) 66 :: .sl A_83_0 c_85_0 n_84_0 x_87_0 22 1 :: .sl A_83_1 c_85_1 n_84_1 x_87_1 69 2 :: .sl A_83_4 c_85_4 n_84_4 x_87_4 71 2 :: .sl A_69 c_71 n_70 (iv .u8 l_72) 5 1 :: .sl A_46 c_48 n_47 (iv .u8 l_49) 5 1 :: (T_81 ++ R)) := St.unhide (A := [_, _, _, _]) (B := [_, _]) (T := T_81) (R := R) sc_95
  refine ⟨_, rfl, ?_⟩
  refine WL.val Wanted.none (Runs.assign rfl) ?_
  refine WL.nil ?_
  refine QW.then_n ?_
  refine CW.sub [(1, .int .u8 a1), (2, .bool a2), (3, .int .u8 a3), (8, .bool false), (10, .pointer (some ⟨b_18, 0, none⟩)), (13, .slice A_69 n_70 c_71), (14, .int .i64 a_92)] ⟨rfl, rfl, rfl, rfl, rfl, rfl, rfl, trivial⟩ ?_
  refine CW.seq ?_
  refine CW.region ?_
  refine WL.val Wanted.none (Runs.move rfl) ?_
  refine WL.val Wanted.none (Runs.move rfl) ?_
  have st_96 : St w w_93 (.cells b_18 (([.slice A_83_0 n_84_0 c_85_0] : List Value) ++ (([.slice A_83_1 n_84_1 c_85_1] : List Value) ++ (([.int .i64 a_90_2] : List Value) ++ (([.bool a_90_3] : List Value) ++ ([.slice A_83_4 n_84_4 c_85_4] : List Value))))) 66 :: .sl A_83_0 c_85_0 n_84_0 x_87_0 22 1 :: .sl A_83_1 c_85_1 n_84_1 x_87_1 69 2 :: .sl A_83_4 c_85_4 n_84_4 x_87_4 71 2 :: (T_81 ++ (.sl A_69 c_71 n_70 (iv .u8 l_72) 5 1 :: .sl A_46 c_48 n_47 (iv .u8 l_49) 5 1 :: R))) := St.hide (A := [_, _, _, _]) (B := [_, _]) (T := T_81) (R := R) st_94
  obtain ⟨l_103_0, l_103_1, a_107_2, a_107_3, l_103_4, a_109, hr_97, H⟩ := H
  refine WL.call Wanted.none ent11 rfl (disk_Disk_Write.calls w w_93 T_81 (.sl A_69 c_71 n_70 (iv .u8 l_72) 5 1 :: .sl A_46 c_48 n_47 (iv .u8 l_49) 5 1 :: R) l_86_0 l_86_1 a_90_2 a_90_3 l_86_4 1 l_72 b_18 A_83_0 n_84_0 c_85_0 x_87_0 A_83_1 n_84_1 c_85_1 x_87_1 A_83_4 n_84_4 c_85_4 x_87_4 A_69 n_70 c_71  st_96 (hn_88_0) hx_89_0 (hn_88_1) hx_89_1 (hn_88_4) hx_89_4 ⟨hn_74, st_94.cap (i := 4) rfl, fun W_ L_ st hT => st.src_mem (hT _ (List.mem_append_right _ (List.mem_of_getElem? (i := 0) rfl)))⟩ l_103_0 l_103_1 a_107_2 a_107_3 l_103_4 a_109 hr_97) ?_
  rintro _ w_110 ⟨T_98, A_100_0, n_101_0, c_102_0, x_104_0, A_100_1, n_101_1, c_102_1, x_104_1, A_100_4, n_101_4, c_102_4, x_104_4, hs_99, hn_105_0, hx_106_0, hn_105_1, hx_106_1, hn_105_4, hx_106_4, rfl, sc_112⟩
  have st_111 : St w w_110 (.cells b_18 (([.slice A_100_0 n_101_0 c_102_0] : List Value) ++ (([.slice A_100_1 n_101_1 c_102_1] : List Value) ++ (([.int .i64 a_107_2] : List Value) ++ (([.bool a_107_3] : List Value) ++ ([.slice A_100_4 n_101_4 c_102_4] : List Value))))) 66 :: .sl A_100_0 c_102_0 n_101_0 x_104_0 22 1 :: .sl A_100_1 c_102_1 n_101_1 x_104_1 69 2 :: .sl A_100_4 c_102_4 n_101_4 x_104_4 71 2 :: .sl A_69 c_71 n_70 (iv .u8 l_72) 5 1 :: .sl A_46 c_48 n_47 (iv .u8 l_49) 5 1 :: (T_98 ++ R)) := St.unhide (A := [_, _, _, _]) (B := [_, _]) (T := T_98) (R := R) sc_112
  refine ⟨_, rfl, ?_⟩
  refine WL.val Wanted.none (Runs.assign rfl) ?_
  refine WL.nil ?_
  refine QW.then_n ?_
  refine CW.seq ?_
  refine CW.seq ?_
  refine CW.region ?_
  refine WL.val Wanted.none (Runs.move rfl) ?_
  refine WL.nil ?_
  refine QW.then_n ?_
  rcases H with ⟨c_113, H⟩ | ⟨c_113, H⟩
  · have h_114 : a2 = true := c_113
    refine CW.ct rfl h_114 ?_
    refine CW.region ?_
    refine WL.val Wanted.none (Runs.move rfl) ?_
    have st_115 : St w w_110 (.cells b_18 (([.slice A_100_0 n_101_0 c_102_0] : List Value) ++ (([.slice A_100_1 n_101_1 c_102_1] : List Value) ++ (([.int .i64 a_107_2] : List Value) ++ (([.bool a_107_3] : List Value) ++ ([.slice A_100_4 n_101_4 c_102_4] : List Value))))) 66 :: .sl A_100_0 c_102_0 n_101_0 x_104_0 22 1 :: .sl A_100_1 c_102_1 n_101_1 x_104_1 69 2 :: .sl A_100_4 c_102_4 n_101_4 x_104_4 71 2 :: (T_98 ++ (.sl A_69 c_71 n_70 (iv .u8 l_72) 5 1 :: .sl A_46 c_48 n_47 (iv .u8 l_49) 5 1 :: R))) := St.hide (A := [_, _, _, _]) (B := [_, _]) (T := T_98) (R := R) st_111
    obtain ⟨l_122_0, l_122_1, a_126_2, a_126_3, l_122_4, a_128, hr_116, H⟩ := H
    refine WL.call Wanted.none ent16 rfl (disk_Disk_Flush.calls w w_110 T_98 (.sl A_69 c_71 n_70 (iv .u8 l_72) 5 1 :: .sl A_46 c_48 n_47 (iv .u8 l_49) 5 1 :: R) l_103_0 l_103_1 a_107_2 a_107_3 l_103_4 b_18 A_100_0 n_101_0 c_102_0 x_104_0 A_100_1 n_101_1 c_102_1 x_104_1 A_100_4 n_101_4 c_102_4 x_104_4  st_115 (hn_105_0) hx_106_0 (hn_105_1) hx_106_1 (hn_105_4) hx_106_4 l_122_0 l_122_1 a_126_2 a_126_3 l_122_4 a_128 hr_116) ?_
    rintro _ w_129 ⟨T_117, A_119_0, n_120_0, c_121_0, x_123_0, A_119_1, n_120_1, c_121_1, x_123_1, A_119_4, n_120_4, c_121_4, x_123_4, hs_118, hn_124_0, hx_125_0, hn_124_1, hx_125_1, hn_124_4, hx_125_4, rfl, sc_131⟩
    have st_130 : St w w_129 (.cells b_18 (([.slice A_119_0 n_120_0 c_121_0] : List Value) ++ (([.slice A_119_1 n_120_1 c_121_1] : List Value) ++ (([.int .i64 a_126_2] : List Value) ++ (([.bool a_126_3] : List Value) ++ ([.slice A_119_4 n_120_4 c_121_4] : List Value))))) 66 :: .sl A_119_0 c_121_0 n_120_0 x_123_0 22 1 :: .sl A_119_1 c_121_1 n_120_1 x_123_1 69 2 :: .sl A_119_4 c_121_4 n_120_4 x_123_4 71 2 :: .sl A_69 c_71 n_70 (iv .u8 l_72) 5 1 :: .sl A_46 c_48 n_47 (iv .u8 l_49) 5 1 :: (T_117 ++ R)) := St.unhide (A := [_, _, _, _]) (B := [_, _]) (T := T_117) (R := R) sc_131
    refine ⟨_, rfl, ?_⟩
    refine WL.nil ?_
    refine QW.then_n ?_
    refine CW.sub [(1, .int .u8 a1), (3, .int .u8 a3), (8, .bool false), (10, .pointer (some ⟨b_18, 0, none⟩)), (13, .slice A_69 n_70 c_71), (14, .int .i64 a_92), (15, .int .i64 a_109)] ⟨rfl, rfl, rfl, rfl, rfl, rfl, rfl, trivial⟩ ?_
    refine CW.seq ?_
    refine CW.region ?_
    refine WL.val Wanted.none (Runs.move rfl) ?_
    obtain ⟨⟨p_132, q_133⟩, H⟩ := H
    obtain ⟨a_134, e_135⟩ := (st_130.src_sl (k := 4) rfl).addr_iv 0 (by omega)
    refine WL.val Wanted.none (Runs.indexAddr Try.underlying22 cells5 (by decide) rfl e_135 rfl p_132 (by rw [hn_74]; exact q_133) (o := 0) (by first | rfl | omega)) ?_
    refine WL.val Wanted.none (Runs.load nagg5 rfl ((st_130.src_sl (k := 4) rfl).cell_iv e_135 (by omega))) ?_
    refine WL.val Wanted.none (Runs.move rfl) ?_
    refine WL.val Wanted.none (Runs.bxor rfl rfl rfl) ?_
    obtain ⟨⟨p_136, q_137⟩, H⟩ := H
    obtain ⟨a_138, e_139⟩ := (st_130.src_sl (k := 4) rfl).addr_iv 0 (by omega)
    refine WL.val Wanted.none (Runs.indexAddr Try.underlying22 cells5 (by decide) rfl e_139 rfl p_136 (by rw [hn_74]; exact q_137) (o := 0) (by first | rfl | omega)) ?_
    obtain ⟨m_140, e_141, H⟩ := H
    refine WL.store_sl (i := 4) st_130 rfl cells5 rfl e_139 (by rw [iv_length]; omega) rfl rfl ?_
    intro w_142 st_143
    have hn_144 : n_70 = m_140.length := by rw [e_141, List.length_set]; exact hn_74
    have st_143' : St w w_142 (.cells b_18 (([.slice A_119_0 n_120_0 c_121_0] : List Value) ++ (([.slice A_119_1 n_120_1 c_121_1] : List Value) ++ (([.int .i64 a_126_2] : List Value) ++ (([.bool a_126_3] : List Value) ++ ([.slice A_119_4 n_120_4 c_121_4] : List Value))))) 66 :: .sl A_119_0 c_121_0 n_120_0 x_123_0 22 1 :: .sl A_119_1 c_121_1 n_120_1 x_123_1 69 2 :: .sl A_119_4 c_121_4 n_120_4 x_123_4 71 2 :: .sl A_69 c_71 n_70 (iv .u8 m_140) 5 1 :: .sl A_46 c_48 n_47 (iv .u8 l_49) 5 1 :: (T_117 ++ R)) := by rw [e_141, ← iv_set .u8 l_72 0 (bits .xor .u8 (gn l_72 0) a3)]; exact st_143
    refine WL.nil ?_
    refine QW.then_n ?_
    refine CW.sub [(1, .int .u8 a1), (3, .int .u8 a3), (8, .bool false), (10, .pointer (some ⟨b_18, 0, none⟩)), (14, .int .i64 a_92), (15, .int .i64 a_109)] ⟨rfl, rfl, rfl, rfl, rfl, rfl, trivial⟩ ?_
    refine CW.seq ?_
    refine CW.region ?_
    refine WL.val Wanted.none (Runs.move rfl) ?_
    have st_145 : St w w_142 (.cells b_18 (([.slice A_119_0 n_120_0 c_121_0] : List Value) ++ (([.slice A_119_1 n_120_1 c_121_1] : List Value) ++ (([.int .i64 a_126_2] : List Value) ++ (([.bool a_126_3] : List Value) ++ ([.slice A_119_4 n_120_4 c_121_4] : List Value))))) 66 :: .sl A_119_0 c_121_0 n_120_0 x_123_0 22 1 :: .sl A_119_1 c_121_1 n_120_1 x_123_1 69 2 :: .sl A_119_4 c_121_4 n_120_4 x_123_4 71 2 :: (T_117 ++ (.sl A_69 c_71 n_70 (iv .u8 m_140) 5 1 :: .sl A_46 c_48 n_47 (iv .u8 l_49) 5 1 :: R))) := St.hide (A := [_, _, _, _]) (B := [_, _]) (T := T_117) (R := R) st_143'
    obtain ⟨l_152_0, l_152_1, a_156_2, a_156_3, l_152_4, l_161, a_165, hr_146, H⟩ := H
    refine WL.call Wanted.none ent15 rfl (disk_Disk_Read.calls w w_142 T_117 (.sl A_69 c_71 n_70 (iv .u8 m_140) 5 1 :: .sl A_46 c_48 n_47 (iv .u8 l_49) 5 1 :: R) l_122_0 l_122_1 a_126_2 a_126_3 l_122_4 1 b_18 A_119_0 n_120_0 c_121_0 x_123_0 A_119_1 n_120_1 c_121_1 x_123_1 A_119_4 n_120_4 c_121_4 x_123_4 (hs_118.2 (hs_99.2 (hs_82.2 (hs_67.2 (hs_60.2 (hs_44.2 (hs_37.2 (hs_16.2 hT)))))))) (show celly (.sl A_69 c_71 n_70 (iv .u8 m_140) 5 1 :: .sl A_46 c_48 n_47 (iv .u8 l_49) 5 1 :: R) = true from hR) st_145 (hn_124_0) hx_125_0 (hn_124_1) hx_125_1 (hn_124_4) hx_125_4 l_152_0 l_152_1 a_156_2 a_156_3 l_152_4 l_161 a_165 hr_146) ?_
    rintro _ w_166 ⟨T_147, A_149_0, n_150_0, c_151_0, x_153_0, A_149_1, n_150_1, c_151_1, x_153_1, A_149_4, n_150_4, c_151_4, x_153_4, A_158, n_159, c_160, hs_148, hn_154_0, hx_155_0, hn_154_1, hx_155_1, hn_154_4, hx_155_4, hn_163, rfl, sc_168⟩
    have st_167 : St w w_166 (.cells b_18 (([.slice A_149_0 n_150_0 c_151_0] : List Value) ++ (([.slice A_149_1 n_150_1 c_151_1] : List Value) ++ (([.int .i64 a_156_2] : List Value) ++ (([.bool a_156_3] : List Value) ++ ([.slice A_149_4 n_150_4 c_151_4] : List Value))))) 66 :: .sl A_149_0 c_151_0 n_150_0 x_153_0 22 1 :: .sl A_149_1 c_151_1 n_150_1 x_153_1 69 2 :: .sl A_149_4 c_151_4 n_150_4 x_153_4 71 2 :: .sl A_158 c_160 n_159 (iv .u8 l_161) 5 1 :: .sl A_69 c_71 n_70 (iv .u8 m_140) 5 1 :: .sl A_46 c_48 n_47 (iv .u8 l_49) 5 1 :: (T_147 ++ R)) := St.unhide (A := [_, _, _, _, _]) (B := [_, _]) (T := T_147) (R := R) sc_168
    refine ⟨_, rfl, ?_⟩
    refine WL.val Wanted.none (Runs.move rfl) ?_
    refine WL.val Wanted.none (Runs.extract rfl rfl) ?_
    refine WL.val Wanted.none (Runs.extract rfl rfl) ?_
    refine WL.val Wanted.none (Runs.assign rfl) ?_
    refine WL.val Wanted.none (Runs.assign rfl) ?_
    refine WL.nil ?_
    refine QW.then_n ?_
    refine CW.seq ?_
    refine CW.seq ?_
    refine CW.region ?_
    refine WL.val Wanted.none (Runs.move rfl) ?_
    refine WL.val Wanted.none (Runs.neq rfl rfl rfl) ?_
    refine WL.val Wanted.none (Runs.move rfl) ?_
    obtain ⟨c_169, H⟩ := H
    have h_170 : (a_165 != 0) = false := (bne_eq_false_iff_eq.mpr (Decidable.not_not.mp c_169))
    refine WL.on ?_ ?_; exact Wanted.guard (dj := 64) (by rfl) (evb (by rfl) h_170) (by rfl)
    refine WL.val Wanted.none (Runs.move rfl) ?_
    refine WL.on ?_ ?_; exact Wanted.guard (dj := 64) (by rfl) (evb (by rfl) h_170) (by rfl)
    refine WL.val Wanted.none (Runs.len_sl Try.underlying22 rfl (by rw [hn_163])) ?_
    refine WL.on ?_ ?_; exact Wanted.guard (dj := 64) (by rfl) (evb (by rfl) h_170) (by rfl)
    refine WL.val Wanted.none (Runs.neq rfl rfl rfl) ?_
    refine WL.val Wanted.none (Runs.pick_f (evb rfl h_170) rfl) ?_
    refine WL.val Wanted.none (Runs.move rfl) ?_
    obtain ⟨c_171, H⟩ := H
    have h_172 : ((l_161.length : Int) != 192) = false := (bne_eq_false_iff_eq.mpr (Decidable.not_not.mp c_171))
    refine WL.on ?_ ?_; exact Wanted.guard (dj := 69) (by rfl) (evb (by rfl) h_172) (by rfl)
    refine WL.val Wanted.none (Runs.move rfl) ?_
    refine WL.on ?_ ?_; exact Wanted.guard (dj := 69) (by rfl) (evb (by rfl) h_172) (by rfl)
    obtain ⟨⟨p_173, q_174⟩, H⟩ := H
    obtain ⟨a_175, e_176⟩ := (st_167.src_sl (k := 4) rfl).addr_iv 0 (by omega)
    refine WL.val Wanted.none (Runs.indexAddr Try.underlying22 cells5 (by decide) rfl e_176 rfl p_173 (by rw [hn_163]; exact q_174) (o := 0) (by first | rfl | omega)) ?_
    refine WL.on ?_ ?_; exact Wanted.guard (dj := 69) (by rfl) (evb (by rfl) h_172) (by rfl)
    refine WL.val Wanted.none (Runs.load nagg5 rfl ((st_167.src_sl (k := 4) rfl).cell_iv e_176 (by omega))) ?_
    refine WL.on ?_ ?_; exact Wanted.guard (dj := 69) (by rfl) (evb (by rfl) h_172) (by rfl)
    refine WL.val Wanted.none (Runs.move rfl) ?_
    refine WL.on ?_ ?_; exact Wanted.guard (dj := 69) (by rfl) (evb (by rfl) h_172) (by rfl)
    refine WL.val Wanted.none (Runs.neq rfl rfl rfl) ?_
    refine WL.val Wanted.none (Runs.pick_f (evb rfl h_172) rfl) ?_
    refine WL.nil ?_
    refine QW.then_n ?_
    refine CW.sub [(1, .int .u8 a1), (3, .int .u8 a3), (8, .bool false), (10, .pointer (some ⟨b_18, 0, none⟩)), (14, .int .i64 a_92), (15, .int .i64 a_109), (16, .slice A_158 n_159 c_160), (75, .bool ((gn l_161 0) != a1))] ⟨rfl, rfl, rfl, rfl, rfl, rfl, rfl, rfl, trivial⟩ ?_
    obtain ⟨c_177, H⟩ := H
    have h_178 : ((gn l_161 0) != a1) = false := (bne_eq_false_iff_eq.mpr (Decidable.not_not.mp c_177))
    refine CW.cf rfl h_178 ?_
    refine CW.skip ?_
    refine QW.then_n ?_
    refine CW.seq ?_
    refine CW.region ?_
    refine WL.val Wanted.none (Runs.move rfl) ?_
    obtain ⟨⟨p_179, q_180⟩, H⟩ := H
    obtain ⟨a_181, e_182⟩ := (st_167.src_sl (k := 4) rfl).addr_iv 0 (by omega)
    refine WL.val Wanted.none (Runs.indexAddr Try.underlying22 cells5 (by decide) rfl e_182 rfl p_179 (by rw [hn_163]; exact q_180) (o := 0) (by first | rfl | omega)) ?_
    refine WL.val Wanted.none (Runs.load nagg5 rfl ((st_167.src_sl (k := 4) rfl).cell_iv e_182 (by omega))) ?_
    refine WL.val Wanted.none (Runs.move rfl) ?_
    refine WL.val Wanted.none (Runs.bxor rfl rfl rfl) ?_
    obtain ⟨⟨p_183, q_184⟩, H⟩ := H
    obtain ⟨a_185, e_186⟩ := (st_167.src_sl (k := 4) rfl).addr_iv 0 (by omega)
    refine WL.val Wanted.none (Runs.indexAddr Try.underlying22 cells5 (by decide) rfl e_186 rfl p_183 (by rw [hn_163]; exact q_184) (o := 0) (by first | rfl | omega)) ?_
    obtain ⟨m_187, e_188, H⟩ := H
    refine WL.store_sl (i := 4) st_167 rfl cells5 rfl e_186 (by rw [iv_length]; omega) rfl rfl ?_
    intro w_189 st_190
    have hn_191 : n_159 = m_187.length := by rw [e_188, List.length_set]; exact hn_163
    have st_190' : St w w_189 (.cells b_18 (([.slice A_149_0 n_150_0 c_151_0] : List Value) ++ (([.slice A_149_1 n_150_1 c_151_1] : List Value) ++ (([.int .i64 a_156_2] : List Value) ++ (([.bool a_156_3] : List Value) ++ ([.slice A_149_4 n_150_4 c_151_4] : List Value))))) 66 :: .sl A_149_0 c_151_0 n_150_0 x_153_0 22 1 :: .sl A_149_1 c_151_1 n_150_1 x_153_1 69 2 :: .sl A_149_4 c_151_4 n_150_4 x_153_4 71 2 :: .sl A_158 c_160 n_159 (iv .u8 m_187) 5 1 :: .sl A_69 c_71 n_70 (iv .u8 m_140) 5 1 :: .sl A_46 c_48 n_47 (iv .u8 l_49) 5 1 :: (T_147 ++ R)) := by rw [e_188, ← iv_set .u8 l_161 0 (bits .xor .u8 (gn l_161 0) a3)]; exact st_190
    refine WL.nil ?_
    refine QW.then_n ?_
    refine CW.sub [(1, .int .u8 a1), (8, .bool false), (10, .pointer (some ⟨b_18, 0, none⟩)), (14, .int .i64 a_92), (15, .int .i64 a_109)] ⟨rfl, rfl, rfl, rfl, rfl, trivial⟩ ?_
    refine CW.seq ?_
    refine CW.region ?_
    refine WL.val Wanted.none (Runs.move rfl) ?_
    have st_192 : St w w_189 (.cells b_18 (([.slice A_149_0 n_150_0 c_151_0] : List Value) ++ (([.slice A_149_1 n_150_1 c_151_1] : List Value) ++ (([.int .i64 a_156_2] : List Value) ++ (([.bool a_156_3] : List Value) ++ ([.slice A_149_4 n_150_4 c_151_4] : List Value))))) 66 :: .sl A_149_0 c_151_0 n_150_0 x_153_0 22 1 :: .sl A_149_1 c_151_1 n_150_1 x_153_1 69 2 :: .sl A_149_4 c_151_4 n_150_4 x_153_4 71 2 :: (T_147 ++ (.sl A_158 c_160 n_159 (iv .u8 m_187) 5 1 :: .sl A_69 c_71 n_70 (iv .u8 m_140) 5 1 :: .sl A_46 c_48 n_47 (iv .u8 l_49) 5 1 :: R))) := St.hide (A := [_, _, _, _]) (B := [_, _, _]) (T := T_147) (R := R) st_190'
    obtain ⟨l_199_0, l_199_1, a_203_2, a_203_3, l_199_4, l_208, a_212, hr_193, H⟩ := H
    refine WL.call Wanted.none ent15 rfl (disk_Disk_Read.calls w w_189 T_147 (.sl A_158 c_160 n_159 (iv .u8 m_187) 5 1 :: .sl A_69 c_71 n_70 (iv .u8 m_140) 5 1 :: .sl A_46 c_48 n_47 (iv .u8 l_49) 5 1 :: R) l_152_0 l_152_1 a_156_2 a_156_3 l_152_4 1 b_18 A_149_0 n_150_0 c_151_0 x_153_0 A_149_1 n_150_1 c_151_1 x_153_1 A_149_4 n_150_4 c_151_4 x_153_4 (hs_148.2 (hs_118.2 (hs_99.2 (hs_82.2 (hs_67.2 (hs_60.2 (hs_44.2 (hs_37.2 (hs_16.2 hT))))))))) (show celly (.sl A_158 c_160 n_159 (iv .u8 m_187) 5 1 :: .sl A_69 c_71 n_70 (iv .u8 m_140) 5 1 :: .sl A_46 c_48 n_47 (iv .u8 l_49) 5 1 :: R) = true from hR) st_192 (hn_154_0) hx_155_0 (hn_154_1) hx_155_1 (hn_154_4) hx_155_4 l_199_0 l_199_1 a_203_2 a_203_3 l_199_4 l_208 a_212 hr_193) ?_
    rintro _ w_213 ⟨T_194, A_196_0, n_197_0, c_198_0, x_200_0, A_196_1, n_197_1, c_198_1, x_200_1, A_196_4, n_197_4, c_198_4, x_200_4, A_205, n_206, c_207, hs_195, hn_201_0, hx_202_0, hn_201_1, hx_202_1, hn_201_4, hx_202_4, hn_210, rfl, sc_215⟩
    have st_214 : St w w_213 (.cells b_18 (([.slice A_196_0 n_197_0 c_198_0] : List Value) ++ (([.slice A_196_1 n_197_1 c_198_1] : List Value) ++ (([.int .i64 a_203_2] : List Value) ++ (([.bool a_203_3] : List Value) ++ ([.slice A_196_4 n_197_4 c_198_4] : List Value))))) 66 :: .sl A_196_0 c_198_0 n_197_0 x_200_0 22 1 :: .sl A_196_1 c_198_1 n_197_1 x_200_1 69 2 :: .sl A_196_4 c_198_4 n_197_4 x_200_4 71 2 :: .sl A_205 c_207 n_206 (iv .u8 l_208) 5 1 :: .sl A_158 c_160 n_159 (iv .u8 m_187) 5 1 :: .sl A_69 c_71 n_70 (iv .u8 m_140) 5 1 :: .sl A_46 c_48 n_47 (iv .u8 l_49) 5 1 :: (T_194 ++ R)) := St.unhide (A := [_, _, _, _, _]) (B := [_, _, _]) (T := T_194) (R := R) sc_215
    refine ⟨_, rfl, ?_⟩
    refine WL.val Wanted.none (Runs.move rfl) ?_
    refine WL.val Wanted.none (Runs.extract rfl rfl) ?_
    refine WL.val Wanted.none (Runs.extract rfl rfl) ?_
    refine WL.val Wanted.none (Runs.assign rfl) ?_
    refine WL.val Wanted.none (Runs.assign rfl) ?_
    refine WL.nil ?_
    refine QW.then_n ?_
    refine CW.seq ?_
    refine CW.region ?_
    refine WL.val Wanted.none (Runs.move rfl) ?_
    have st_216 : St w w_213 (.cells b_18 (([.slice A_196_0 n_197_0 c_198_0] : List Value) ++ (([.slice A_196_1 n_197_1 c_198_1] : List Value) ++ (([.int .i64 a_203_2] : List Value) ++ (([.bool a_203_3] : List Value) ++ ([.slice A_196_4 n_197_4 c_198_4] : List Value))))) 66 :: .sl A_196_0 c_198_0 n_197_0 x_200_0 22 1 :: .sl A_196_1 c_198_1 n_197_1 x_200_1 69 2 :: .sl A_196_4 c_198_4 n_197_4 x_200_4 71 2 :: (T_194 ++ (.sl A_205 c_207 n_206 (iv .u8 l_208) 5 1 :: .sl A_158 c_160 n_159 (iv .u8 m_187) 5 1 :: .sl A_69 c_71 n_70 (iv .u8 m_140) 5 1 :: .sl A_46 c_48 n_47 (iv .u8 l_49) 5 1 :: R))) := St.hide (A := [_, _, _, _]) (B := [_, _, _, _]) (T := T_194) (R := R) st_214
    obtain ⟨l_223_0, l_223_1, a_227_2, a_227_3, l_223_4, l_232, a_236, hr_217, H⟩ := H
    refine WL.call Wanted.none ent15 rfl (disk_Disk_Read.calls w w_213 T_194 (.sl A_205 c_207 n_206 (iv .u8 l_208) 5 1 :: .sl A_158 c_160 n_159 (iv .u8 m_187) 5 1 :: .sl A_69 c_71 n_70 (iv .u8 m_140) 5 1 :: .sl A_46 c_48 n_47 (iv .u8 l_49) 5 1 :: R) l_199_0 l_199_1 a_203_2 a_203_3 l_199_4 2 b_18 A_196_0 n_197_0 c_198_0 x_200_0 A_196_1 n_197_1 c_198_1 x_200_1 A_196_4 n_197_4 c_198_4 x_200_4 (hs_195.2 (hs_148.2 (hs_118.2 (hs_99.2 (hs_82.2 (hs_67.2 (hs_60.2 (hs_44.2 (hs_37.2 (hs_16.2 hT)))))))))) (show celly (.sl A_205 c_207 n_206 (iv .u8 l_208) 5 1 :: .sl A_158 c_160 n_159 (iv .u8 m_187) 5 1 :: .sl A_69 c_71 n_70 (iv .u8 m_140) 5 1 :: .sl A_46 c_48 n_47 (iv .u8 l_49) 5 1 :: R) = true from hR) st_216 (hn_201_0) hx_202_0 (hn_201_1) hx_202_1 (hn_201_4) hx_202_4 l_223_0 l_223_1 a_227_2 a_227_3 l_223_4 l_232 a_236 hr_217) ?_
    rintro _ w_237 ⟨T_218, A_220_0, n_221_0, c_222_0, x_224_0, A_220_1, n_221_1, c_222_1, x_224_1, A_220_4, n_221_4, c_222_4, x_224_4, A_229, n_230, c_231, hs_219, hn_225_0, hx_226_0, hn_225_1, hx_226_1, hn_225_4, hx_226_4, hn_234, rfl, sc_239⟩
    have st_238 : St w w_237 (.cells b_18 (([.slice A_220_0 n_221_0 c_222_0] : List Value) ++ (([.slice A_220_1 n_221_1 c_222_1] : List Value) ++ (([.int .i64 a_227_2] : List Value) ++ (([.bool a_227_3] : List Value) ++ ([.slice A_220_4 n_221_4 c_222_4] : List Value))))) 66 :: .sl A_220_0 c_222_0 n_221_0 x_224_0 22 1 :: .sl A_220_1 c_222_1 n_221_1 x_224_1 69 2 :: .sl A_220_4 c_222_4 n_221_4 x_224_4 71 2 :: .sl A_229 c_231 n_230 (iv .u8 l_232) 5 1 :: .sl A_205 c_207 n_206 (iv .u8 l_208) 5 1 :: .sl A_158 c_160 n_159 (iv .u8 m_187) 5 1 :: .sl A_69 c_71 n_70 (iv .u8 m_140) 5 1 :: .sl A_46 c_48 n_47 (iv .u8 l_49) 5 1 :: (T_218 ++ R)) := St.unhide (A := [_, _, _, _, _]) (B := [_, _, _, _]) (T := T_218) (R := R) sc_239
    refine ⟨_, rfl, ?_⟩
    refine WL.val Wanted.none (Runs.move rfl) ?_
    refine WL.val Wanted.none (Runs.extract rfl rfl) ?_
    refine WL.val Wanted.none (Runs.extract rfl rfl) ?_
    refine WL.val Wanted.none (Runs.assign rfl) ?_
    refine WL.val Wanted.none (Runs.assign rfl) ?_
    refine WL.nil ?_
    refine QW.then_n ?_
    refine CW.sub [(1, .int .u8 a1), (8, .bool false), (10, .pointer (some ⟨b_18, 0, none⟩)), (14, .int .i64 a_92), (15, .int .i64 a_109), (18, .slice A_205 n_206 c_207), (19, .int .i64 a_212), (20, .slice A_229 n_230 c_231), (21, .int .i64 a_236)] ⟨rfl, rfl, rfl, rfl, rfl, rfl, rfl, rfl, rfl, trivial⟩ ?_
    refine CW.seq ?_
    refine CW.region ?_
    refine WL.val Wanted.none (Runs.move rfl) ?_
    have st_240 : St w w_237 (.cells b_18 (([.slice A_220_0 n_221_0 c_222_0] : List Value) ++ (([.slice A_220_1 n_221_1 c_222_1] : List Value) ++ (([.int .i64 a_227_2] : List Value) ++ (([.bool a_227_3] : List Value) ++ ([.slice A_220_4 n_221_4 c_222_4] : List Value))))) 66 :: .sl A_220_0 c_222_0 n_221_0 x_224_0 22 1 :: .sl A_220_1 c_222_1 n_221_1 x_224_1 69 2 :: .sl A_220_4 c_222_4 n_221_4 x_224_4 71 2 :: (T_218 ++ (.sl A_229 c_231 n_230 (iv .u8 l_232) 5 1 :: .sl A_205 c_207 n_206 (iv .u8 l_208) 5 1 :: .sl A_158 c_160 n_159 (iv .u8 m_187) 5 1 :: .sl A_69 c_71 n_70 (iv .u8 m_140) 5 1 :: .sl A_46 c_48 n_47 (iv .u8 l_49) 5 1 :: R))) := St.hide (A := [_, _, _, _]) (B := [_, _, _, _, _]) (T := T_218) (R := R) st_238
    obtain ⟨l_247_0, l_247_1, a_251_2, a_251_3, l_247_4, l_256, hr_241, H⟩ := H
    refine WL.call Wanted.none ent17 rfl (disk_Disk_Image.calls_own w w_237 T_218 (.sl A_229 c_231 n_230 (iv .u8 l_232) 5 1 :: .sl A_205 c_207 n_206 (iv .u8 l_208) 5 1 :: .sl A_158 c_160 n_159 (iv .u8 m_187) 5 1 :: .sl A_69 c_71 n_70 (iv .u8 m_140) 5 1 :: .sl A_46 c_48 n_47 (iv .u8 l_49) 5 1 :: R) l_223_0 l_223_1 a_227_2 a_227_3 l_223_4 b_18 A_220_0 n_221_0 c_222_0 x_224_0 A_220_1 n_221_1 c_222_1 x_224_1 A_220_4 n_221_4 c_222_4 x_224_4 st_240 (hn_225_0) hx_226_0 (hn_225_1) hx_226_1 (hn_225_4) hx_226_4 l_247_0 l_247_1 a_251_2 a_251_3 l_247_4 l_256 hr_241) ?_
    rintro _ w_260 ⟨N_263, A_253, n_254, c_255, x_257, hN_264, hn_258, hO_265, rfl, sc_261⟩
    obtain ⟨R, hNR_266, hR, st_262⟩ := St.bring (A := [_, _, _, _, _]) (N := N_263) (T := T_218) (B := [.sl A_229 c_231 n_230 (iv .u8 l_232) 5 1, .sl A_205 c_207 n_206 (iv .u8 l_208) 5 1, .sl A_158 c_160 n_159 (iv .u8 m_187) 5 1, .sl A_69 c_71 n_70 (iv .u8 m_140) 5 1, .sl A_46 c_48 n_47 (iv .u8 l_49) 5 1]) (R := R) sc_261 hN_264 hR
    replace st_262 : St w w_260 (.cells b_18 (([.slice A_220_0 n_221_0 c_222_0] : List Value) ++ (([.slice A_220_1 n_221_1 c_222_1] : List Value) ++ (([.int .i64 a_227_2] : List Value) ++ (([.bool a_227_3] : List Value) ++ ([.slice A_220_4 n_221_4 c_222_4] : List Value))))) 66 :: .sl A_220_0 c_222_0 n_221_0 x_224_0 22 1 :: .sl A_220_1 c_222_1 n_221_1 x_224_1 69 2 :: .sl A_220_4 c_222_4 n_221_4 x_224_4 71 2 :: .sl A_253 c_255 n_254 x_257 22 1 :: .sl A_229 c_231 n_230 (iv .u8 l_232) 5 1 :: .sl A_205 c_207 n_206 (iv .u8 l_208) 5 1 :: .sl A_158 c_160 n_159 (iv .u8 m_187) 5 1 :: .sl A_69 c_71 n_70 (iv .u8 m_140) 5 1 :: .sl A_46 c_48 n_47 (iv .u8 l_49) 5 1 :: (T_218 ++ R)) := st_262
    refine ⟨_, rfl, ?_⟩
    refine WL.val Wanted.none (Runs.assign rfl) ?_
    refine WL.nil ?_
    refine QW.then_n ?_
    refine CW.seq ?_
    refine CW.seq ?_
    refine CW.region ?_
    refine WL.val Wanted.none (Runs.move rfl) ?_
    refine WL.val Wanted.none (Runs.len_sl Try.underlying41 rfl (by rw [hn_258])) ?_
    refine WL.val Wanted.none (Runs.neq rfl rfl rfl) ?_
    refine WL.nil ?_
    refine QW.then_n ?_
    obtain ⟨c_267, H⟩ := H
    have h_268 : ((l_256.length : Int) != 3) = false := (bne_eq_false_iff_eq.mpr (Decidable.not_not.mp c_267))
    refine CW.cf rfl h_268 ?_
    refine CW.skip ?_
    refine QW.then_n ?_
    refine CW.seq ?_
    refine CW.region ?_
    refine WL.val Wanted.none (Runs.move rfl) ?_
    obtain ⟨⟨p_269, q_270⟩, H⟩ := H
    obtain ⟨A_271, c_272, hx_273, hm_274⟩ := hO_265.2 2 (by omega)
    obtain ⟨a_275, e_276, hc_277⟩ := (st_262.src_sl (k := 4) rfl) 2 _ hx_273
    refine WL.val Wanted.none (Runs.indexAddr Try.underlying41 cells22 (by decide) rfl e_276 rfl p_269 (by rw [show n_254 = l_256.length from hn_258]; exact q_270) (o := 2) (by decide)) ?_
    refine WL.val Wanted.none (Runs.load nagg22 rfl hc_277) ?_
    obtain ⟨R, hR, st_278⟩ := St.unpack (L := [_, _, _, _, _, _, _, _, _, _]) (T := T_218) (R := R) st_262 hR (hNR_266 _ hm_274)
    replace st_278 : St w w_260 (.sl A_271 c_272 ((gx l_256 2).length) (iv .u8 (gx l_256 2)) 5 1 :: .cells b_18 (([.slice A_220_0 n_221_0 c_222_0] : List Value) ++ (([.slice A_220_1 n_221_1 c_222_1] : List Value) ++ (([.int .i64 a_227_2] : List Value) ++ (([.bool a_227_3] : List Value) ++ ([.slice A_220_4 n_221_4 c_222_4] : List Value))))) 66 :: .sl A_220_0 c_222_0 n_221_0 x_224_0 22 1 :: .sl A_220_1 c_222_1 n_221_1 x_224_1 69 2 :: .sl A_220_4 c_222_4 n_221_4 x_224_4 71 2 :: .sl A_253 c_255 n_254 x_257 22 1 :: .sl A_229 c_231 n_230 (iv .u8 l_232) 5 1 :: .sl A_205 c_207 n_206 (iv .u8 l_208) 5 1 :: .sl A_158 c_160 n_159 (iv .u8 m_187) 5 1 :: .sl A_69 c_71 n_70 (iv .u8 m_140) 5 1 :: .sl A_46 c_48 n_47 (iv .u8 l_49) 5 1 :: (T_218 ++ R)) := st_278
    obtain ⟨⟨p_280, q_281⟩, H⟩ := H
    obtain ⟨a_282, e_283⟩ := (st_278.src_sl (k := 0) rfl).addr_iv 0 (by omega)
    refine WL.val Wanted.none (Runs.indexAddr Try.underlying22 cells5 (by decide) rfl e_283 rfl p_280 q_281 (o := 0) (by first | rfl | omega)) ?_
    refine WL.val Wanted.none (Runs.load nagg5 rfl ((st_278.src_sl (k := 0) rfl).cell_iv e_283 (by omega))) ?_
    refine WL.val Wanted.none (Runs.bxor rfl rfl rfl) ?_
    obtain ⟨⟨p_284, q_285⟩, H⟩ := H
    obtain ⟨a_286, e_287⟩ := (st_278.src_sl (k := 0) rfl).addr_iv 0 (by omega)
    refine WL.val Wanted.none (Runs.indexAddr Try.underlying22 cells5 (by decide) rfl e_287 rfl p_284 q_285 (o := 0) (by first | rfl | omega)) ?_
    obtain ⟨m_288, e_289, H⟩ := H
    refine WL.store_sl (i := 0) st_278 rfl cells5 rfl e_287 (by rw [iv_length]; omega) rfl rfl ?_
    intro w_290 st_291
    have hn_292 : (gx l_256 2).length = m_288.length := by rw [e_289, List.length_set]
    have st_291' : St w w_290 (.sl A_271 c_272 ((gx l_256 2).length) (iv .u8 m_288) 5 1 :: .cells b_18 (([.slice A_220_0 n_221_0 c_222_0] : List Value) ++ (([.slice A_220_1 n_221_1 c_222_1] : List Value) ++ (([.int .i64 a_227_2] : List Value) ++ (([.bool a_227_3] : List Value) ++ ([.slice A_220_4 n_221_4 c_222_4] : List Value))))) 66 :: .sl A_220_0 c_222_0 n_221_0 x_224_0 22 1 :: .sl A_220_1 c_222_1 n_221_1 x_224_1 69 2 :: .sl A_220_4 c_222_4 n_221_4 x_224_4 71 2 :: .sl A_253 c_255 n_254 x_257 22 1 :: .sl A_229 c_231 n_230 (iv .u8 l_232) 5 1 :: .sl A_205 c_207 n_206 (iv .u8 l_208) 5 1 :: .sl A_158 c_160 n_159 (iv .u8 m_187) 5 1 :: .sl A_69 c_71 n_70 (iv .u8 m_140) 5 1 :: .sl A_46 c_48 n_47 (iv .u8 l_49) 5 1 :: (T_218 ++ R)) := by rw [e_289, ← iv_set .u8 (gx l_256 2) 0 (bits .xor .u8 (gn (gx l_256 2) 0) 1)]; exact st_291
    refine WL.nil ?_
    refine QW.then_n ?_
    refine CW.sub [(1, .int .u8 a1), (8, .bool false), (10, .pointer (some ⟨b_18, 0, none⟩)), (14, .int .i64 a_92), (15, .int .i64 a_109), (18, .slice A_205 n_206 c_207), (19, .int .i64 a_212), (20, .slice A_229 n_230 c_231), (21, .int .i64 a_236)] ⟨rfl, rfl, rfl, rfl, rfl, rfl, rfl, rfl, rfl, trivial⟩ ?_
    refine CW.seq ?_
    refine CW.region ?_
    refine WL.val Wanted.none (Runs.move rfl) ?_
    have st_293 := (St.pickT (L := [_, _, _, _, _, _, _, _, _, _, _]) st_291' [1, 2, 3, 4, 0, 5, 6, 7, 8, 9, 10] (by decide))
    replace st_293 : St w w_290 (.cells b_18 (([.slice A_220_0 n_221_0 c_222_0] : List Value) ++ (([.slice A_220_1 n_221_1 c_222_1] : List Value) ++ (([.int .i64 a_227_2] : List Value) ++ (([.bool a_227_3] : List Value) ++ ([.slice A_220_4 n_221_4 c_222_4] : List Value))))) 66 :: .sl A_220_0 c_222_0 n_221_0 x_224_0 22 1 :: .sl A_220_1 c_222_1 n_221_1 x_224_1 69 2 :: .sl A_220_4 c_222_4 n_221_4 x_224_4 71 2 :: .sl A_271 c_272 ((gx l_256 2).length) (iv .u8 m_288) 5 1 :: .sl A_253 c_255 n_254 x_257 22 1 :: .sl A_229 c_231 n_230 (iv .u8 l_232) 5 1 :: .sl A_205 c_207 n_206 (iv .u8 l_208) 5 1 :: .sl A_158 c_160 n_159 (iv .u8 m_187) 5 1 :: .sl A_69 c_71 n_70 (iv .u8 m_140) 5 1 :: .sl A_46 c_48 n_47 (iv .u8 l_49) 5 1 :: (T_218 ++ R)) := st_293
    have st_294 : St w w_290 (.cells b_18 (([.slice A_220_0 n_221_0 c_222_0] : List Value) ++ (([.slice A_220_1 n_221_1 c_222_1] : List Value) ++ (([.int .i64 a_227_2] : List Value) ++ (([.bool a_227_3] : List Value) ++ ([.slice A_220_4 n_221_4 c_222_4] : List Value))))) 66 :: .sl A_220_0 c_222_0 n_221_0 x_224_0 22 1 :: .sl A_220_1 c_222_1 n_221_1 x_224_1 69 2 :: .sl A_220_4 c_222_4 n_221_4 x_224_4 71 2 :: (T_218 ++ (.sl A_271 c_272 ((gx l_256 2).length) (iv .u8 m_288) 5 1 :: .sl A_253 c_255 n_254 x_257 22 1 :: .sl A_229 c_231 n_230 (iv .u8 l_232) 5 1 :: .sl A_205 c_207 n_206 (iv .u8 l_208) 5 1 :: .sl A_158 c_160 n_159 (iv .u8 m_187) 5 1 :: .sl A_69 c_71 n_70 (iv .u8 m_140) 5 1 :: .sl A_46 c_48 n_47 (iv .u8 l_49) 5 1 :: R))) := St.hide (A := [_, _, _, _]) (B := [_, _, _, _, _, _, _]) (T := T_218) (R := R) st_293
    obtain ⟨l_301_0, l_301_1, a_305_2, a_305_3, l_301_4, l_310, a_314, hr_295, H⟩ := H
    refine WL.call Wanted.none ent15 rfl (disk_Disk_Read.calls w w_290 T_218 (.sl A_271 c_272 ((gx l_256 2).length) (iv .u8 m_288) 5 1 :: .sl A_253 c_255 n_254 x_257 22 1 :: .sl A_229 c_231 n_230 (iv .u8 l_232) 5 1 :: .sl A_205 c_207 n_206 (iv .u8 l_208) 5 1 :: .sl A_158 c_160 n_159 (iv .u8 m_187) 5 1 :: .sl A_69 c_71 n_70 (iv .u8 m_140) 5 1 :: .sl A_46 c_48 n_47 (iv .u8 l_49) 5 1 :: R) l_223_0 l_223_1 a_227_2 a_227_3 l_223_4 2 b_18 A_220_0 n_221_0 c_222_0 x_224_0 A_220_1 n_221_1 c_222_1 x_224_1 A_220_4 n_221_4 c_222_4 x_224_4 (hs_219.2 (hs_195.2 (hs_148.2 (hs_118.2 (hs_99.2 (hs_82.2 (hs_67.2 (hs_60.2 (hs_44.2 (hs_37.2 (hs_16.2 hT))))))))))) (show celly (.sl A_271 c_272 ((gx l_256 2).length) (iv .u8 m_288) 5 1 :: .sl A_253 c_255 n_254 x_257 22 1 :: .sl A_229 c_231 n_230 (iv .u8 l_232) 5 1 :: .sl A_205 c_207 n_206 (iv .u8 l_208) 5 1 :: .sl A_158 c_160 n_159 (iv .u8 m_187) 5 1 :: .sl A_69 c_71 n_70 (iv .u8 m_140) 5 1 :: .sl A_46 c_48 n_47 (iv .u8 l_49) 5 1 :: R) = true from hR) st_294 (hn_225_0) hx_226_0 (hn_225_1) hx_226_1 (hn_225_4) hx_226_4 l_301_0 l_301_1 a_305_2 a_305_3 l_301_4 l_310 a_314 hr_295) ?_
    rintro _ w_315 ⟨T_296, A_298_0, n_299_0, c_300_0, x_302_0, A_298_1, n_299_1, c_300_1, x_302_1, A_298_4, n_299_4, c_300_4, x_302_4, A_307, n_308, c_309, hs_297, hn_303_0, hx_304_0, hn_303_1, hx_304_1, hn_303_4, hx_304_4, hn_312, rfl, sc_317⟩
    have st_316 : St w w_315 (.cells b_18 (([.slice A_298_0 n_299_0 c_300_0] : List Value) ++ (([.slice A_298_1 n_299_1 c_300_1] : List Value) ++ (([.int .i64 a_305_2] : List Value) ++ (([.bool a_305_3] : List Value) ++ ([.slice A_298_4 n_299_4 c_300_4] : List Value))))) 66 :: .sl A_298_0 c_300_0 n_299_0 x_302_0 22 1 :: .sl A_298_1 c_300_1 n_299_1 x_302_1 69 2 :: .sl A_298_4 c_300_4 n_299_4 x_302_4 71 2 :: .sl A_307 c_309 n_308 (iv .u8 l_310) 5 1 :: .sl A_271 c_272 ((gx l_256 2).length) (iv .u8 m_288) 5 1 :: .sl A_253 c_255 n_254 x_257 22 1 :: .sl A_229 c_231 n_230 (iv .u8 l_232) 5 1 :: .sl A_205 c_207 n_206 (iv .u8 l_208) 5 1 :: .sl A_158 c_160 n_159 (iv .u8 m_187) 5 1 :: .sl A_69 c_71 n_70 (iv .u8 m_140) 5 1 :: .sl A_46 c_48 n_47 (iv .u8 l_49) 5 1 :: (T_296 ++ R)) := St.unhide (A := [_, _, _, _, _]) (B := [_, _, _, _, _, _, _]) (T := T_296) (R := R) sc_317
    refine ⟨_, rfl, ?_⟩
    refine WL.val Wanted.none (Runs.move rfl) ?_
    refine WL.val Wanted.none (Runs.extract rfl rfl) ?_
    refine WL.val Wanted.none (Runs.extract rfl rfl) ?_
    refine WL.val Wanted.none (Runs.assign rfl) ?_
    refine WL.val Wanted.none (Runs.assign rfl) ?_
    refine WL.nil ?_
    refine QW.then_n ?_
    refine CW.sub [(1, .int .u8 a1), (8, .bool false), (14, .int .i64 a_92), (15, .int .i64 a_109), (18, .slice A_205 n_206 c_207), (19, .int .i64 a_212), (20, .slice A_229 n_230 c_231), (21, .int .i64 a_236), (23, .slice A_307 n_308 c_309), (24, .int .i64 a_314)] ⟨rfl, rfl, rfl, rfl, rfl, rfl, rfl, rfl, rfl, rfl, trivial⟩ ?_
    refine CW.seq ?_
    refine CW.region ?_
    refine WL.val Wanted.none (Runs.move rfl) ?_
    refine WL.val Wanted.none (Runs.eql rfl rfl rfl) ?_
    refine WL.val Wanted.none (Runs.move rfl) ?_
    obtain ⟨c_318, H⟩ := H
    have h_319 : (a_92 == 0) = true := (beq_iff_eq.mpr c_318)
    refine WL.on ?_ ?_; exact Wanted.guard (dj := 111) (by rfl) (evb (by rfl) h_319) (by rfl)
    refine WL.val Wanted.none (Runs.move rfl) ?_
    refine WL.on ?_ ?_; exact Wanted.guard (dj := 111) (by rfl) (evb (by rfl) h_319) (by rfl)
    refine WL.val Wanted.none (Runs.eql rfl rfl rfl) ?_
    refine WL.val Wanted.none (Runs.pick_t (evb rfl h_319) rfl) ?_
    refine WL.val Wanted.none (Runs.move rfl) ?_
    obtain ⟨c_320, H⟩ := H
    have h_321 : (a_109 == 0) = true := (beq_iff_eq.mpr c_320)
    refine WL.on ?_ ?_; exact Wanted.guard (dj := 115) (by rfl) (evb (by rfl) h_321) (by rfl)
    refine WL.val Wanted.none (Runs.move rfl) ?_
    refine WL.on ?_ ?_; exact Wanted.guard (dj := 115) (by rfl) (evb (by rfl) h_321) (by rfl)
    refine WL.val Wanted.none (Runs.eql rfl rfl rfl) ?_
    refine WL.val Wanted.none (Runs.pick_t (evb rfl h_321) rfl) ?_
    refine WL.val Wanted.none (Runs.move rfl) ?_
    obtain ⟨c_322, H⟩ := H
    have h_323 : (a_212 == 0) = true := (beq_iff_eq.mpr c_322)
    refine WL.on ?_ ?_; exact Wanted.guard (dj := 119) (by rfl) (evb (by rfl) h_323) (by rfl)
    refine WL.val Wanted.none (Runs.move rfl) ?_
    refine WL.on ?_ ?_; exact Wanted.guard (dj := 119) (by rfl) (evb (by rfl) h_323) (by rfl)
    obtain ⟨⟨p_324, q_325⟩, H⟩ := H
    obtain ⟨a_326, e_327⟩ := (st_316.src_sl (k := 8) rfl).addr_iv 0 (by omega)
    refine WL.val Wanted.none (Runs.indexAddr Try.underlying22 cells5 (by decide) rfl e_327 rfl p_324 (by rw [hn_210]; exact q_325) (o := 0) (by first | rfl | omega)) ?_
    refine WL.on ?_ ?_; exact Wanted.guard (dj := 119) (by rfl) (evb (by rfl) h_323) (by rfl)
    refine WL.val Wanted.none (Runs.load nagg5 rfl ((st_316.src_sl (k := 8) rfl).cell_iv e_327 (by omega))) ?_
    refine WL.on ?_ ?_; exact Wanted.guard (dj := 119) (by rfl) (evb (by rfl) h_323) (by rfl)
    refine WL.val Wanted.none (Runs.move rfl) ?_
    refine WL.on ?_ ?_; exact Wanted.guard (dj := 119) (by rfl) (evb (by rfl) h_323) (by rfl)
    refine WL.val Wanted.none (Runs.eql rfl rfl rfl) ?_
    refine WL.val Wanted.none (Runs.pick_t (evb rfl h_323) rfl) ?_
    refine WL.val Wanted.none (Runs.move rfl) ?_
    obtain ⟨c_328, H⟩ := H
    have h_329 : ((gn l_208 0) == a1) = true := (beq_iff_eq.mpr c_328)
    refine WL.on ?_ ?_; exact Wanted.guard (dj := 126) (by rfl) (evb (by rfl) h_329) (by rfl)
    refine WL.val Wanted.none (Runs.move rfl) ?_
    refine WL.on ?_ ?_; exact Wanted.guard (dj := 126) (by rfl) (evb (by rfl) h_329) (by rfl)
    refine WL.val Wanted.none (Runs.eql rfl rfl rfl) ?_
    refine WL.val Wanted.none (Runs.pick_t (evb rfl h_329) rfl) ?_
    refine WL.val Wanted.none (Runs.move rfl) ?_
    obtain ⟨c_330, H⟩ := H
    have h_331 : (a_236 == 0) = true := (beq_iff_eq.mpr c_330)
    refine WL.on ?_ ?_; exact Wanted.guard (dj := 130) (by rfl) (evb (by rfl) h_331) (by rfl)
    refine WL.val Wanted.none (Runs.move rfl) ?_
    refine WL.on ?_ ?_; exact Wanted.guard (dj := 130) (by rfl) (evb (by rfl) h_331) (by rfl)
    obtain ⟨⟨p_332, q_333⟩, H⟩ := H
    obtain ⟨a_334, e_335⟩ := (st_316.src_sl (k := 7) rfl).addr_iv 0 (by omega)
    refine WL.val Wanted.none (Runs.indexAddr Try.underlying22 cells5 (by decide) rfl e_335 rfl p_332 (by rw [hn_234]; exact q_333) (o := 0) (by first | rfl | omega)) ?_
    refine WL.on ?_ ?_; exact Wanted.guard (dj := 130) (by rfl) (evb (by rfl) h_331) (by rfl)
    refine WL.val Wanted.none (Runs.load nagg5 rfl ((st_316.src_sl (k := 7) rfl).cell_iv e_335 (by omega))) ?_
    refine WL.on ?_ ?_; exact Wanted.guard (dj := 130) (by rfl) (evb (by rfl) h_331) (by rfl)
    refine WL.val Wanted.none (Runs.eql rfl rfl rfl) ?_
    refine WL.val Wanted.none (Runs.pick_t (evb rfl h_331) rfl) ?_
    refine WL.val Wanted.none (Runs.move rfl) ?_
    obtain ⟨c_336, H⟩ := H
    have h_337 : ((gn l_232 0) == 0) = true := (beq_iff_eq.mpr c_336)
    refine WL.on ?_ ?_; exact Wanted.guard (dj := 136) (by rfl) (evb (by rfl) h_337) (by rfl)
    refine WL.val Wanted.none (Runs.move rfl) ?_
    refine WL.on ?_ ?_; exact Wanted.guard (dj := 136) (by rfl) (evb (by rfl) h_337) (by rfl)
    refine WL.val Wanted.none (Runs.eql rfl rfl rfl) ?_
    refine WL.val Wanted.none (Runs.pick_t (evb rfl h_337) rfl) ?_
    refine WL.val Wanted.none (Runs.move rfl) ?_
    obtain ⟨c_338, H⟩ := H
    have h_339 : (a_314 == 0) = true := (beq_iff_eq.mpr c_338)
    refine WL.on ?_ ?_; exact Wanted.guard (dj := 140) (by rfl) (evb (by rfl) h_339) (by rfl)
    refine WL.val Wanted.none (Runs.move rfl) ?_
    refine WL.on ?_ ?_; exact Wanted.guard (dj := 140) (by rfl) (evb (by rfl) h_339) (by rfl)
    obtain ⟨⟨p_340, q_341⟩, H⟩ := H
    obtain ⟨a_342, e_343⟩ := (st_316.src_sl (k := 4) rfl).addr_iv 0 (by omega)
    refine WL.val Wanted.none (Runs.indexAddr Try.underlying22 cells5 (by decide) rfl e_343 rfl p_340 (by rw [hn_312]; exact q_341) (o := 0) (by first | rfl | omega)) ?_
    refine WL.on ?_ ?_; exact Wanted.guard (dj := 140) (by rfl) (evb (by rfl) h_339) (by rfl)
    refine WL.val Wanted.none (Runs.load nagg5 rfl ((st_316.src_sl (k := 4) rfl).cell_iv e_343 (by omega))) ?_
    refine WL.on ?_ ?_; exact Wanted.guard (dj := 140) (by rfl) (evb (by rfl) h_339) (by rfl)
    refine WL.val Wanted.none (Runs.eql rfl rfl rfl) ?_
    refine WL.val Wanted.none (Runs.pick_t (evb rfl h_339) rfl) ?_
    refine WL.val Wanted.none (Runs.assign rfl) ?_
    refine WL.nil ?_
    refine QW.then_n ?_
    refine CW.sub [(8, .bool ((gn l_310 0) == 0))] ⟨rfl, trivial⟩ ?_
    refine CW.ret ?_
    have hz : ((gn l_310 0) == 0) = true := (beq_iff_eq.mpr H)
    exact QW.ret1 rfl (evb rfl hz) ⟨rfl, st_316.ext⟩
  · have h_114 : a2 = false := (Bool.eq_false_iff.mpr c_113)
    refine CW.cf rfl h_114 ?_
    refine CW.skip ?_
    refine QW.then_n ?_
    refine CW.seq ?_
    refine CW.region ?_
    refine WL.val Wanted.none (Runs.move rfl) ?_
    obtain ⟨⟨p_344, q_345⟩, H⟩ := H
    obtain ⟨a_346, e_347⟩ := (st_111.src_sl (k := 4) rfl).addr_iv 0 (by omega)
    refine WL.val Wanted.none (Runs.indexAddr Try.underlying22 cells5 (by decide) rfl e_347 rfl p_344 (by rw [hn_74]; exact q_345) (o := 0) (by first | rfl | omega)) ?_
    refine WL.val Wanted.none (Runs.load nagg5 rfl ((st_111.src_sl (k := 4) rfl).cell_iv e_347 (by omega))) ?_
    refine WL.val Wanted.none (Runs.move rfl) ?_
    refine WL.val Wanted.none (Runs.bxor rfl rfl rfl) ?_
    obtain ⟨⟨p_348, q_349⟩, H⟩ := H
    obtain ⟨a_350, e_351⟩ := (st_111.src_sl (k := 4) rfl).addr_iv 0 (by omega)
    refine WL.val Wanted.none (Runs.indexAddr Try.underlying22 cells5 (by decide) rfl e_351 rfl p_348 (by rw [hn_74]; exact q_349) (o := 0) (by first | rfl | omega)) ?_
    obtain ⟨m_352, e_353, H⟩ := H
    refine WL.store_sl (i := 4) st_111 rfl cells5 rfl e_351 (by rw [iv_length]; omega) rfl rfl ?_
    intro w_354 st_355
    have hn_356 : n_70 = m_352.length := by rw [e_353, List.length_set]; exact hn_74
    have st_355' : St w w_354 (.cells b_18 (([.slice A_100_0 n_101_0 c_102_0] : List Value) ++ (([.slice A_100_1 n_101_1 c_102_1] : List Value) ++ (([.int .i64 a_107_2] : List Value) ++ (([.bool a_107_3] : List Value) ++ ([.slice A_100_4 n_101_4 c_102_4] : List Value))))) 66 :: .sl A_100_0 c_102_0 n_101_0 x_104_0 22 1 :: .sl A_100_1 c_102_1 n_101_1 x_104_1 69 2 :: .sl A_100_4 c_102_4 n_101_4 x_104_4 71 2 :: .sl A_69 c_71 n_70 (iv .u8 m_352) 5 1 :: .sl A_46 c_48 n_47 (iv .u8 l_49) 5 1 :: (T_98 ++ R)) := by rw [e_353, ← iv_set .u8 l_72 0 (bits .xor .u8 (gn l_72 0) a3)]; exact st_355
    refine WL.nil ?_
    refine QW.then_n ?_
    refine CW.sub [(1, .int .u8 a1), (3, .int .u8 a3), (8, .bool false), (10, .pointer (some ⟨b_18, 0, none⟩)), (14, .int .i64 a_92), (15, .int .i64 a_109)] ⟨rfl, rfl, rfl, rfl, rfl, rfl, trivial⟩ ?_
    refine CW.seq ?_
    refine CW.region ?_
    refine WL.val Wanted.none (Runs.move rfl) ?_
    have st_357 : St w w_354 (.cells b_18 (([.slice A_100_0 n_101_0 c_102_0] : List Value) ++ (([.slice A_100_1 n_101_1 c_102_1] : List Value) ++ (([.int .i64 a_107_2] : List Value) ++ (([.bool a_107_3] : List Value) ++ ([.slice A_100_4 n_101_4 c_102_4] : List Value))))) 66 :: .sl A_100_0 c_102_0 n_101_0 x_104_0 22 1 :: .sl A_100_1 c_102_1 n_101_1 x_104_1 69 2 :: .sl A_100_4 c_102_4 n_101_4 x_104_4 71 2 :: (T_98 ++ (.sl A_69 c_71 n_70 (iv .u8 m_352) 5 1 :: .sl A_46 c_48 n_47 (iv .u8 l_49) 5 1 :: R))) := St.hide (A := [_, _, _, _]) (B := [_, _]) (T := T_98) (R := R) st_355'
    obtain ⟨l_364_0, l_364_1, a_368_2, a_368_3, l_364_4, l_373, a_377, hr_358, H⟩ := H
    refine WL.call Wanted.none ent15 rfl (disk_Disk_Read.calls w w_354 T_98 (.sl A_69 c_71 n_70 (iv .u8 m_352) 5 1 :: .sl A_46 c_48 n_47 (iv .u8 l_49) 5 1 :: R) l_103_0 l_103_1 a_107_2 a_107_3 l_103_4 1 b_18 A_100_0 n_101_0 c_102_0 x_104_0 A_100_1 n_101_1 c_102_1 x_104_1 A_100_4 n_101_4 c_102_4 x_104_4 (hs_99.2 (hs_82.2 (hs_67.2 (hs_60.2 (hs_44.2 (hs_37.2 (hs_16.2 hT))))))) (show celly (.sl A_69 c_71 n_70 (iv .u8 m_352) 5 1 :: .sl A_46 c_48 n_47 (iv .u8 l_49) 5 1 :: R) = true from hR) st_357 (hn_105_0) hx_106_0 (hn_105_1) hx_106_1 (hn_105_4) hx_106_4 l_364_0 l_364_1 a_368_2 a_368_3 l_364_4 l_373 a_377 hr_358) ?_
    rintro _ w_378 ⟨T_359, A_361_0, n_362_0, c_363_0, x_365_0, A_361_1, n_362_1, c_363_1, x_365_1, A_361_4, n_362_4, c_363_4, x_365_4, A_370, n_371, c_372, hs_360, hn_366_0, hx_367_0, hn_366_1, hx_367_1, hn_366_4, hx_367_4, hn_375, rfl, sc_380⟩
    have st_379 : St w w_378 (.cells b_18 (([.slice A_361_0 n_362_0 c_363_0] : List Value) ++ (([.slice A_361_1 n_362_1 c_363_1] : List Value) ++ (([.int .i64 a_368_2] : List Value) ++ (([.bool a_368_3] : List Value) ++ ([.slice A_361_4 n_362_4 c_363_4] : List Value))))) 66 :: .sl A_361_0 c_363_0 n_362_0 x_365_0 22 1 :: .sl A_361_1 c_363_1 n_362_1 x_365_1 69 2 :: .sl A_361_4 c_363_4 n_362_4 x_365_4 71 2 :: .sl A_370 c_372 n_371 (iv .u8 l_373) 5 1 :: .sl A_69 c_71 n_70 (iv .u8 m_352) 5 1 :: .sl A_46 c_48 n_47 (iv .u8 l_49) 5 1 :: (T_359 ++ R)) := St.unhide (A := [_, _, _, _, _]) (B := [_, _]) (T := T_359) (R := R) sc_380
    refine ⟨_, rfl, ?_⟩
    refine WL.val Wanted.none (Runs.move rfl) ?_
    refine WL.val Wanted.none (Runs.extract rfl rfl) ?_
    refine WL.val Wanted.none (Runs.extract rfl rfl) ?_
    refine WL.val Wanted.none (Runs.assign rfl) ?_
    refine WL.val Wanted.none (Runs.assign rfl) ?_
    refine WL.nil ?_
    refine QW.then_n ?_
    refine CW.seq ?_
    refine CW.seq ?_
    refine CW.region ?_
    refine WL.val Wanted.none (Runs.move rfl) ?_
    refine WL.val Wanted.none (Runs.neq rfl rfl rfl) ?_
    refine WL.val Wanted.none (Runs.move rfl) ?_
    obtain ⟨c_381, H⟩ := H
    have h_382 : (a_377 != 0) = false := (bne_eq_false_iff_eq.mpr (Decidable.not_not.mp c_381))
    refine WL.on ?_ ?_; exact Wanted.guard (dj := 64) (by rfl) (evb (by rfl) h_382) (by rfl)
    refine WL.val Wanted.none (Runs.move rfl) ?_
    refine WL.on ?_ ?_; exact Wanted.guard (dj := 64) (by rfl) (evb (by rfl) h_382) (by rfl)
    refine WL.val Wanted.none (Runs.len_sl Try.underlying22 rfl (by rw [hn_375])) ?_
    refine WL.on ?_ ?_; exact Wanted.guard (dj := 64) (by rfl) (evb (by rfl) h_382) (by rfl)
    refine WL.val Wanted.none (Runs.neq rfl rfl rfl) ?_
    refine WL.val Wanted.none (Runs.pick_f (evb rfl h_382) rfl) ?_
    refine WL.val Wanted.none (Runs.move rfl) ?_
    obtain ⟨c_383, H⟩ := H
    have h_384 : ((l_373.length : Int) != 192) = false := (bne_eq_false_iff_eq.mpr (Decidable.not_not.mp c_383))
    refine WL.on ?_ ?_; exact Wanted.guard (dj := 69) (by rfl) (evb (by rfl) h_384) (by rfl)
    refine WL.val Wanted.none (Runs.move rfl) ?_
    refine WL.on ?_ ?_; exact Wanted.guard (dj := 69) (by rfl) (evb (by rfl) h_384) (by rfl)
    obtain ⟨⟨p_385, q_386⟩, H⟩ := H
    obtain ⟨a_387, e_388⟩ := (st_379.src_sl (k := 4) rfl).addr_iv 0 (by omega)
    refine WL.val Wanted.none (Runs.indexAddr Try.underlying22 cells5 (by decide) rfl e_388 rfl p_385 (by rw [hn_375]; exact q_386) (o := 0) (by first | rfl | omega)) ?_
    refine WL.on ?_ ?_; exact Wanted.guard (dj := 69) (by rfl) (evb (by rfl) h_384) (by rfl)
    refine WL.val Wanted.none (Runs.load nagg5 rfl ((st_379.src_sl (k := 4) rfl).cell_iv e_388 (by omega))) ?_
    refine WL.on ?_ ?_; exact Wanted.guard (dj := 69) (by rfl) (evb (by rfl) h_384) (by rfl)
    refine WL.val Wanted.none (Runs.move rfl) ?_
    refine WL.on ?_ ?_; exact Wanted.guard (dj := 69) (by rfl) (evb (by rfl) h_384) (by rfl)
    refine WL.val Wanted.none (Runs.neq rfl rfl rfl) ?_
    refine WL.val Wanted.none (Runs.pick_f (evb rfl h_384) rfl) ?_
    refine WL.nil ?_
    refine QW.then_n ?_
    refine CW.sub [(1, .int .u8 a1), (3, .int .u8 a3), (8, .bool false), (10, .pointer (some ⟨b_18, 0, none⟩)), (14, .int .i64 a_92), (15, .int .i64 a_109), (16, .slice A_370 n_371 c_372), (75, .bool ((gn l_373 0) != a1))] ⟨rfl, rfl, rfl, rfl, rfl, rfl, rfl, rfl, trivial⟩ ?_
    obtain ⟨c_389, H⟩ := H
    have h_390 : ((gn l_373 0) != a1) = false := (bne_eq_false_iff_eq.mpr (Decidable.not_not.mp c_389))
    refine CW.cf rfl h_390 ?_
    refine CW.skip ?_
    refine QW.then_n ?_
    refine CW.seq ?_
    refine CW.region ?_
    refine WL.val Wanted.none (Runs.move rfl) ?_
    obtain ⟨⟨p_391, q_392⟩, H⟩ := H
    obtain ⟨a_393, e_394⟩ := (st_379.src_sl (k := 4) rfl).addr_iv 0 (by omega)
    refine WL.val Wanted.none (Runs.indexAddr Try.underlying22 cells5 (by decide) rfl e_394 rfl p_391 (by rw [hn_375]; exact q_392) (o := 0) (by first | rfl | omega)) ?_
    refine WL.val Wanted.none (Runs.load nagg5 rfl ((st_379.src_sl (k := 4) rfl).cell_iv e_394 (by omega))) ?_
    refine WL.val Wanted.none (Runs.move rfl) ?_
    refine WL.val Wanted.none (Runs.bxor rfl rfl rfl) ?_
    obtain ⟨⟨p_395, q_396⟩, H⟩ := H
    obtain ⟨a_397, e_398⟩ := (st_379.src_sl (k := 4) rfl).addr_iv 0 (by omega)
    refine WL.val Wanted.none (Runs.indexAddr Try.underlying22 cells5 (by decide) rfl e_398 rfl p_395 (by rw [hn_375]; exact q_396) (o := 0) (by first | rfl | omega)) ?_
    obtain ⟨m_399, e_400, H⟩ := H
    refine WL.store_sl (i := 4) st_379 rfl cells5 rfl e_398 (by rw [iv_length]; omega) rfl rfl ?_
    intro w_401 st_402
    have hn_403 : n_371 = m_399.length := by rw [e_400, List.length_set]; exact hn_375
    have st_402' : St w w_401 (.cells b_18 (([.slice A_361_0 n_362_0 c_363_0] : List Value) ++ (([.slice A_361_1 n_362_1 c_363_1] : List Value) ++ (([.int .i64 a_368_2] : List Value) ++ (([.bool a_368_3] : List Value) ++ ([.slice A_361_4 n_362_4 c_363_4] : List Value))))) 66 :: .sl A_361_0 c_363_0 n_362_0 x_365_0 22 1 :: .sl A_361_1 c_363_1 n_362_1 x_365_1 69 2 :: .sl A_361_4 c_363_4 n_362_4 x_365_4 71 2 :: .sl A_370 c_372 n_371 (iv .u8 m_399) 5 1 :: .sl A_69 c_71 n_70 (iv .u8 m_352) 5 1 :: .sl A_46 c_48 n_47 (iv .u8 l_49) 5 1 :: (T_359 ++ R)) := by rw [e_400, ← iv_set .u8 l_373 0 (bits .xor .u8 (gn l_373 0) a3)]; exact st_402
    refine WL.nil ?_
    refine QW.then_n ?_
    refine CW.sub [(1, .int .u8 a1), (8, .bool false), (10, .pointer (some ⟨b_18, 0, none⟩)), (14, .int .i64 a_92), (15, .int .i64 a_109)] ⟨rfl, rfl, rfl, rfl, rfl, trivial⟩ ?_
    refine CW.seq ?_
    refine CW.region ?_
    refine WL.val Wanted.none (Runs.move rfl) ?_
    have st_404 : St w w_401 (.cells b_18 (([.slice A_361_0 n_362_0 c_363_0] : List Value) ++ (([.slice A_361_1 n_362_1 c_363_1] : List Value) ++ (([.int .i64 a_368_2] : List Value) ++ (([.bool a_368_3] : List Value) ++ ([.slice A_361_4 n_362_4 c_363_4] : List Value))))) 66 :: .sl A_361_0 c_363_0 n_362_0 x_365_0 22 1 :: .sl A_361_1 c_363_1 n_362_1 x_365_1 69 2 :: .sl A_361_4 c_363_4 n_362_4 x_365_4 71 2 :: (T_359 ++ (.sl A_370 c_372 n_371 (iv .u8 m_399) 5 1 :: .sl A_69 c_71 n_70 (iv .u8 m_352) 5 1 :: .sl A_46 c_48 n_47 (iv .u8 l_49) 5 1 :: R))) := St.hide (A := [_, _, _, _]) (B := [_, _, _]) (T := T_359) (R := R) st_402'
    obtain ⟨l_411_0, l_411_1, a_415_2, a_415_3, l_411_4, l_420, a_424, hr_405, H⟩ := H
    refine WL.call Wanted.none ent15 rfl (disk_Disk_Read.calls w w_401 T_359 (.sl A_370 c_372 n_371 (iv .u8 m_399) 5 1 :: .sl A_69 c_71 n_70 (iv .u8 m_352) 5 1 :: .sl A_46 c_48 n_47 (iv .u8 l_49) 5 1 :: R) l_364_0 l_364_1 a_368_2 a_368_3 l_364_4 1 b_18 A_361_0 n_362_0 c_363_0 x_365_0 A_361_1 n_362_1 c_363_1 x_365_1 A_361_4 n_362_4 c_363_4 x_365_4 (hs_360.2 (hs_99.2 (hs_82.2 (hs_67.2 (hs_60.2 (hs_44.2 (hs_37.2 (hs_16.2 hT)))))))) (show celly (.sl A_370 c_372 n_371 (iv .u8 m_399) 5 1 :: .sl A_69 c_71 n_70 (iv .u8 m_352) 5 1 :: .sl A_46 c_48 n_47 (iv .u8 l_49) 5 1 :: R) = true from hR) st_404 (hn_366_0) hx_367_0 (hn_366_1) hx_367_1 (hn_366_4) hx_367_4 l_411_0 l_411_1 a_415_2 a_415_3 l_411_4 l_420 a_424 hr_405) ?_
    rintro _ w_425 ⟨T_406, A_408_0, n_409_0, c_410_0, x_412_0, A_408_1, n_409_1, c_410_1, x_412_1, A_408_4, n_409_4, c_410_4, x_412_4, A_417, n_418, c_419, hs_407, hn_413_0, hx_414_0, hn_413_1, hx_414_1, hn_413_4, hx_414_4, hn_422, rfl, sc_427⟩
    have st_426 : St w w_425 (.cells b_18 (([.slice A_408_0 n_409_0 c_410_0] : List Value) ++ (([.slice A_408_1 n_409_1 c_410_1] : List Value) ++ (([.int .i64 a_415_2] : List Value) ++ (([.bool a_415_3] : List Value) ++ ([.slice A_408_4 n_409_4 c_410_4] : List Value))))) 66 :: .sl A_408_0 c_410_0 n_409_0 x_412_0 22 1 :: .sl A_408_1 c_410_1 n_409_1 x_412_1 69 2 :: .sl A_408_4 c_410_4 n_409_4 x_412_4 71 2 :: .sl A_417 c_419 n_418 (iv .u8 l_420) 5 1 :: .sl A_370 c_372 n_371 (iv .u8 m_399) 5 1 :: .sl A_69 c_71 n_70 (iv .u8 m_352) 5 1 :: .sl A_46 c_48 n_47 (iv .u8 l_49) 5 1 :: (T_406 ++ R)) := St.unhide (A := [_, _, _, _, _]) (B := [_, _, _]) (T := T_406) (R := R) sc_427
    refine ⟨_, rfl, ?_⟩
    refine WL.val Wanted.none (Runs.move rfl) ?_
    refine WL.val Wanted.none (Runs.extract rfl rfl) ?_
    refine WL.val Wanted.none (Runs.extract rfl rfl) ?_
    refine WL.val Wanted.none (Runs.assign rfl) ?_
    refine WL.val Wanted.none (Runs.assign rfl) ?_
    refine WL.nil ?_
    refine QW.then_n ?_
    refine CW.seq ?_
    refine CW.region ?_
    refine WL.val Wanted.none (Runs.move rfl) ?_
    have st_428 : St w w_425 (.cells b_18 (([.slice A_408_0 n_409_0 c_410_0] : List Value) ++ (([.slice A_408_1 n_409_1 c_410_1] : List Value) ++ (([.int .i64 a_415_2] : List Value) ++ (([.bool a_415_3] : List Value) ++ ([.slice A_408_4 n_409_4 c_410_4] : List Value))))) 66 :: .sl A_408_0 c_410_0 n_409_0 x_412_0 22 1 :: .sl A_408_1 c_410_1 n_409_1 x_412_1 69 2 :: .sl A_408_4 c_410_4 n_409_4 x_412_4 71 2 :: (T_406 ++ (.sl A_417 c_419 n_418 (iv .u8 l_420) 5 1 :: .sl A_370 c_372 n_371 (iv .u8 m_399) 5 1 :: .sl A_69 c_71 n_70 (iv .u8 m_352) 5 1 :: .sl A_46 c_48 n_47 (iv .u8 l_49) 5 1 :: R))) := St.hide (A := [_, _, _, _]) (B := [_, _, _, _]) (T := T_406) (R := R) st_426
    obtain ⟨l_435_0, l_435_1, a_439_2, a_439_3, l_435_4, l_444, a_448, hr_429, H⟩ := H
    refine WL.call Wanted.none ent15 rfl (disk_Disk_Read.calls w w_425 T_406 (.sl A_417 c_419 n_418 (iv .u8 l_420) 5 1 :: .sl A_370 c_372 n_371 (iv .u8 m_399) 5 1 :: .sl A_69 c_71 n_70 (iv .u8 m_352) 5 1 :: .sl A_46 c_48 n_47 (iv .u8 l_49) 5 1 :: R) l_411_0 l_411_1 a_415_2 a_415_3 l_411_4 2 b_18 A_408_0 n_409_0 c_410_0 x_412_0 A_408_1 n_409_1 c_410_1 x_412_1 A_408_4 n_409_4 c_410_4 x_412_4 (hs_407.2 (hs_360.2 (hs_99.2 (hs_82.2 (hs_67.2 (hs_60.2 (hs_44.2 (hs_37.2 (hs_16.2 hT))))))))) (show celly (.sl A_417 c_419 n_418 (iv .u8 l_420) 5 1 :: .sl A_370 c_372 n_371 (iv .u8 m_399) 5 1 :: .sl A_69 c_71 n_70 (iv .u8 m_352) 5 1 :: .sl A_46 c_48 n_47 (iv .u8 l_49) 5 1 :: R) = true from hR) st_428 (hn_413_0) hx_414_0 (hn_413_1) hx_414_1 (hn_413_4) hx_414_4 l_435_0 l_435_1 a_439_2 a_439_3 l_435_4 l_444 a_448 hr_429) ?_
    rintro _ w_449 ⟨T_430, A_432_0, n_433_0, c_434_0, x_436_0, A_432_1, n_433_1, c_434_1, x_436_1, A_432_4, n_433_4, c_434_4, x_436_4, A_441, n_442, c_443, hs_431, hn_437_0, hx_438_0, hn_437_1, hx_438_1, hn_437_4, hx_438_4, hn_446, rfl, sc_451⟩
    have st_450 : St w w_449 (.cells b_18 (([.slice A_432_0 n_433_0 c_434_0] : List Value) ++ (([.slice A_432_1 n_433_1 c_434_1] : List Value) ++ (([.int .i64 a_439_2] : List Value) ++ (([.bool a_439_3] : List Value) ++ ([.slice A_432_4 n_433_4 c_434_4] : List Value))))) 66 :: .sl A_432_0 c_434_0 n_433_0 x_436_0 22 1 :: .sl A_432_1 c_434_1 n_433_1 x_436_1 69 2 :: .sl A_432_4 c_434_4 n_433_4 x_436_4 71 2 :: .sl A_441 c_443 n_442 (iv .u8 l_444) 5 1 :: .sl A_417 c_419 n_418 (iv .u8 l_420) 5 1 :: .sl A_370 c_372 n_371 (iv .u8 m_399) 5 1 :: .sl A_69 c_71 n_70 (iv .u8 m_352) 5 1 :: .sl A_46 c_48 n_47 (iv .u8 l_49) 5 1 :: (T_430 ++ R)) := St.unhide (A := [_, _, _, _, _]) (B := [_, _, _, _]) (T := T_430) (R := R) sc_451
    refine ⟨_, rfl, ?_⟩
    refine WL.val Wanted.none (Runs.move rfl) ?_
    refine WL.val Wanted.none (Runs.extract rfl rfl) ?_
    refine WL.val Wanted.none (Runs.extract rfl rfl) ?_
    refine WL.val Wanted.none (Runs.assign rfl) ?_
    refine WL.val Wanted.none (Runs.assign rfl) ?_
    refine WL.nil ?_
    refine QW.then_n ?_
    refine CW.sub [(1, .int .u8 a1), (8, .bool false), (10, .pointer (some ⟨b_18, 0, none⟩)), (14, .int .i64 a_92), (15, .int .i64 a_109), (18, .slice A_417 n_418 c_419), (19, .int .i64 a_424), (20, .slice A_441 n_442 c_443), (21, .int .i64 a_448)] ⟨rfl, rfl, rfl, rfl, rfl, rfl, rfl, rfl, rfl, trivial⟩ ?_
    refine CW.seq ?_
    refine CW.region ?_
    refine WL.val Wanted.none (Runs.move rfl) ?_
    have st_452 : St w w_449 (.cells b_18 (([.slice A_432_0 n_433_0 c_434_0] : List Value) ++ (([.slice A_432_1 n_433_1 c_434_1] : List Value) ++ (([.int .i64 a_439_2] : List Value) ++ (([.bool a_439_3] : List Value) ++ ([.slice A_432_4 n_433_4 c_434_4] : List Value))))) 66 :: .sl A_432_0 c_434_0 n_433_0 x_436_0 22 1 :: .sl A_432_1 c_434_1 n_433_1 x_436_1 69 2 :: .sl A_432_4 c_434_4 n_433_4 x_436_4 71 2 :: (T_430 ++ (.sl A_441 c_443 n_442 (iv .u8 l_444) 5 1 :: .sl A_417 c_419 n_418 (iv .u8 l_420) 5 1 :: .sl A_370 c_372 n_371 (iv .u8 m_399) 5 1 :: .sl A_69 c_71 n_70 (iv .u8 m_352) 5 1 :: .sl A_46 c_48 n_47 (iv .u8 l_49) 5 1 :: R))) := St.hide (A := [_, _, _, _]) (B := [_, _, _, _, _]) (T := T_430) (R := R) st_450
    obtain ⟨l_459_0, l_459_1, a_463_2, a_463_3, l_459_4, l_468, hr_453, H⟩ := H
    refine WL.call Wanted.none ent17 rfl (disk_Disk_Image.calls_own w w_449 T_430 (.sl A_441 c_443 n_442 (iv .u8 l_444) 5 1 :: .sl A_417 c_419 n_418 (iv .u8 l_420) 5 1 :: .sl A_370 c_372 n_371 (iv .u8 m_399) 5 1 :: .sl A_69 c_71 n_70 (iv .u8 m_352) 5 1 :: .sl A_46 c_48 n_47 (iv .u8 l_49) 5 1 :: R) l_435_0 l_435_1 a_439_2 a_439_3 l_435_4 b_18 A_432_0 n_433_0 c_434_0 x_436_0 A_432_1 n_433_1 c_434_1 x_436_1 A_432_4 n_433_4 c_434_4 x_436_4 st_452 (hn_437_0) hx_438_0 (hn_437_1) hx_438_1 (hn_437_4) hx_438_4 l_459_0 l_459_1 a_463_2 a_463_3 l_459_4 l_468 hr_453) ?_
    rintro _ w_472 ⟨N_475, A_465, n_466, c_467, x_469, hN_476, hn_470, hO_477, rfl, sc_473⟩
    obtain ⟨R, hNR_478, hR, st_474⟩ := St.bring (A := [_, _, _, _, _]) (N := N_475) (T := T_430) (B := [.sl A_441 c_443 n_442 (iv .u8 l_444) 5 1, .sl A_417 c_419 n_418 (iv .u8 l_420) 5 1, .sl A_370 c_372 n_371 (iv .u8 m_399) 5 1, .sl A_69 c_71 n_70 (iv .u8 m_352) 5 1, .sl A_46 c_48 n_47 (iv .u8 l_49) 5 1]) (R := R) sc_473 hN_476 hR
    replace st_474 : St w w_472 (.cells b_18 (([.slice A_432_0 n_433_0 c_434_0] : List Value) ++ (([.slice A_432_1 n_433_1 c_434_1] : List Value) ++ (([.int .i64 a_439_2] : List Value) ++ (([.bool a_439_3] : List Value) ++ ([.slice A_432_4 n_433_4 c_434_4] : List Value))))) 66 :: .sl A_432_0 c_434_0 n_433_0 x_436_0 22 1 :: .sl A_432_1 c_434_1 n_433_1 x_436_1 69 2 :: .sl A_432_4 c_434_4 n_433_4 x_436_4 71 2 :: .sl A_465 c_467 n_466 x_469 22 1 :: .sl A_441 c_443 n_442 (iv .u8 l_444) 5 1 :: .sl A_417 c_419 n_418 (iv .u8 l_420) 5 1 :: .sl A_370 c_372 n_371 (iv .u8 m_399) 5 1 :: .sl A_69 c_71 n_70 (iv .u8 m_352) 5 1 :: .sl A_46 c_48 n_47 (iv .u8 l_49) 5 1 :: (T_430 ++ R)) := st_474
    refine ⟨_, rfl, ?_⟩
    refine WL.val Wanted.none (Runs.assign rfl) ?_
    refine WL.nil ?_
    refine QW.then_n ?_
    refine CW.seq ?_
    refine CW.seq ?_
    refine CW.region ?_
    refine WL.val Wanted.none (Runs.move rfl) ?_
    refine WL.val Wanted.none (Runs.len_sl Try.underlying41 rfl (by rw [hn_470])) ?_
    refine WL.val Wanted.none (Runs.neq rfl rfl rfl) ?_
    refine WL.nil ?_
    refine QW.then_n ?_
    obtain ⟨c_479, H⟩ := H
    have h_480 : ((l_468.length : Int) != 3) = false := (bne_eq_false_iff_eq.mpr (Decidable.not_not.mp c_479))
    refine CW.cf rfl h_480 ?_
    refine CW.skip ?_
    refine QW.then_n ?_
    refine CW.seq ?_
    refine CW.region ?_
    refine WL.val Wanted.none (Runs.move rfl) ?_
    obtain ⟨⟨p_481, q_482⟩, H⟩ := H
    obtain ⟨A_483, c_484, hx_485, hm_486⟩ := hO_477.2 2 (by omega)
    obtain ⟨a_487, e_488, hc_489⟩ := (st_474.src_sl (k := 4) rfl) 2 _ hx_485
    refine WL.val Wanted.none (Runs.indexAddr Try.underlying41 cells22 (by decide) rfl e_488 rfl p_481 (by rw [show n_466 = l_468.length from hn_470]; exact q_482) (o := 2) (by decide)) ?_
    refine WL.val Wanted.none (Runs.load nagg22 rfl hc_489) ?_
    obtain ⟨R, hR, st_490⟩ := St.unpack (L := [_, _, _, _, _, _, _, _, _, _]) (T := T_430) (R := R) st_474 hR (hNR_478 _ hm_486)
    replace st_490 : St w w_472 (.sl A_483 c_484 ((gx l_468 2).length) (iv .u8 (gx l_468 2)) 5 1 :: .cells b_18 (([.slice A_432_0 n_433_0 c_434_0] : List Value) ++ (([.slice A_432_1 n_433_1 c_434_1] : List Value) ++ (([.int .i64 a_439_2] : List Value) ++ (([.bool a_439_3] : List Value) ++ ([.slice A_432_4 n_433_4 c_434_4] : List Value))))) 66 :: .sl A_432_0 c_434_0 n_433_0 x_436_0 22 1 :: .sl A_432_1 c_434_1 n_433_1 x_436_1 69 2 :: .sl A_432_4 c_434_4 n_433_4 x_436_4 71 2 :: .sl A_465 c_467 n_466 x_469 22 1 :: .sl A_441 c_443 n_442 (iv .u8 l_444) 5 1 :: .sl A_417 c_419 n_418 (iv .u8 l_420) 5 1 :: .sl A_370 c_372 n_371 (iv .u8 m_399) 5 1 :: .sl A_69 c_71 n_70 (iv .u8 m_352) 5 1 :: .sl A_46 c_48 n_47 (iv .u8 l_49) 5 1 :: (T_430 ++ R)) := st_490
    obtain ⟨⟨p_492, q_493⟩, H⟩ := H
    obtain ⟨a_494, e_495⟩ := (st_490.src_sl (k := 0) rfl).addr_iv 0 (by omega)
    refine WL.val Wanted.none (Runs.indexAddr Try.underlying22 cells5 (by decide) rfl e_495 rfl p_492 q_493 (o := 0) (by first | rfl | omega)) ?_
    refine WL.val Wanted.none (Runs.load nagg5 rfl ((st_490.src_sl (k := 0) rfl).cell_iv e_495 (by omega))) ?_
    refine WL.val Wanted.none (Runs.bxor rfl rfl rfl) ?_
    obtain ⟨⟨p_496, q_497⟩, H⟩ := H
    obtain ⟨a_498, e_499⟩ := (st_490.src_sl (k := 0) rfl).addr_iv 0 (by omega)
    refine WL.val Wanted.none (Runs.indexAddr Try.underlying22 cells5 (by decide) rfl e_499 rfl p_496 q_497 (o := 0) (by first | rfl | omega)) ?_
    obtain ⟨m_500, e_501, H⟩ := H
    refine WL.store_sl (i := 0) st_490 rfl cells5 rfl e_499 (by rw [iv_length]; omega) rfl rfl ?_
    intro w_502 st_503
    have hn_504 : (gx l_468 2).length = m_500.length := by rw [e_501, List.length_set]
    have st_503' : St w w_502 (.sl A_483 c_484 ((gx l_468 2).length) (iv .u8 m_500) 5 1 :: .cells b_18 (([.slice A_432_0 n_433_0 c_434_0] : List Value) ++ (([.slice A_432_1 n_433_1 c_434_1] : List Value) ++ (([.int .i64 a_439_2] : List Value) ++ (([.bool a_439_3] : List Value) ++ ([.slice A_432_4 n_433_4 c_434_4] : List Value))))) 66 :: .sl A_432_0 c_434_0 n_433_0 x_436_0 22 1 :: .sl A_432_1 c_434_1 n_433_1 x_436_1 69 2 :: .sl A_432_4 c_434_4 n_433_4 x_436_4 71 2 :: .sl A_465 c_467 n_466 x_469 22 1 :: .sl A_441 c_443 n_442 (iv .u8 l_444) 5 1 :: .sl A_417 c_419 n_418 (iv .u8 l_420) 5 1 :: .sl A_370 c_372 n_371 (iv .u8 m_399) 5 1 :: .sl A_69 c_71 n_70 (iv .u8 m_352) 5 1 :: .sl A_46 c_48 n_47 (iv .u8 l_49) 5 1 :: (T_430 ++ R)) := by rw [e_501, ← iv_set .u8 (gx l_468 2) 0 (bits .xor .u8 (gn (gx l_468 2) 0) 1)]; exact st_503
    refine WL.nil ?_
    refine QW.then_n ?_
    refine CW.sub [(1, .int .u8 a1), (8, .bool false), (10, .pointer (some ⟨b_18, 0, none⟩)), (14, .int .i64 a_92), (15, .int .i64 a_109), (18, .slice A_417 n_418 c_419), (19, .int .i64 a_424), (20, .slice A_441 n_442 c_443), (21, .int .i64 a_448)] ⟨rfl, rfl, rfl, rfl, rfl, rfl, rfl, rfl, rfl, trivial⟩ ?_
    refine CW.seq ?_
    refine CW.region ?_
    refine WL.val Wanted.none (Runs.move rfl) ?_
    have st_505 := (St.pickT (L := [_, _, _, _, _, _, _, _, _, _, _]) st_503' [1, 2, 3, 4, 0, 5, 6, 7, 8, 9, 10] (by decide))
    replace st_505 : St w w_502 (.cells b_18 (([.slice A_432_0 n_433_0 c_434_0] : List Value) ++ (([.slice A_432_1 n_433_1 c_434_1] : List Value) ++ (([.int .i64 a_439_2] : List Value) ++ (([.bool a_439_3] : List Value) ++ ([.slice A_432_4 n_433_4 c_434_4] : List Value))))) 66 :: .sl A_432_0 c_434_0 n_433_0 x_436_0 22 1 :: .sl A_432_1 c_434_1 n_433_1 x_436_1 69 2 :: .sl A_432_4 c_434_4 n_433_4 x_436_4 71 2 :: .sl A_483 c_484 ((gx l_468 2).length) (iv .u8 m_500) 5 1 :: .sl A_465 c_467 n_466 x_469 22 1 :: .sl A_441 c_443 n_442 (iv .u8 l_444) 5 1 :: .sl A_417 c_419 n_418 (iv .u8 l_420) 5 1 :: .sl A_370 c_372 n_371 (iv .u8 m_399) 5 1 :: .sl A_69 c_71 n_70 (iv .u8 m_352) 5 1 :: .sl A_46 c_48 n_47 (iv .u8 l_49) 5 1 :: (T_430 ++ R)) := st_505
    have st_506 : St w w_502 (.cells b_18 (([.slice A_432_0 n_433_0 c_434_0] : List Value) ++ (([.slice A_432_1 n_433_1 c_434_1] : List Value) ++ (([.int .i64 a_439_2] : List Value) ++ (([.bool a_439_3] : List Value) ++ ([.slice A_432_4 n_433_4 c_434_4] : List Value))))) 66 :: .sl A_432_0 c_434_0 n_433_0 x_436_0 22 1 :: .sl A_432_1 c_434_1 n_433_1 x_436_1 69 2 :: .sl A_432_4 c_434_4 n_433_4 x_436_4 71 2 :: (T_430 ++ (.sl A_483 c_484 ((gx l_468 2).length) (iv .u8 m_500) 5 1 :: .sl A_465 c_467 n_466 x_469 22 1 :: .sl A_441 c_443 n_442 (iv .u8 l_444) 5 1 :: .sl A_417 c_419 n_418 (iv .u8 l_420) 5 1 :: .sl A_370 c_372 n_371 (iv .u8 m_399) 5 1 :: .sl A_69 c_71 n_70 (iv .u8 m_352) 5 1 :: .sl A_46 c_48 n_47 (iv .u8 l_49) 5 1 :: R))) := St.hide (A := [_, _, _, _]) (B := [_, _, _, _, _, _, _]) (T := T_430) (R := R) st_505
    obtain ⟨l_513_0, l_513_1, a_517_2, a_517_3, l_513_4, l_522, a_526, hr_507, H⟩ := H
    refine WL.call Wanted.none ent15 rfl (disk_Disk_Read.calls w w_502 T_430 (.sl A_483 c_484 ((gx l_468 2).length) (iv .u8 m_500) 5 1 :: .sl A_465 c_467 n_466 x_469 22 1 :: .sl A_441 c_443 n_442 (iv .u8 l_444) 5 1 :: .sl A_417 c_419 n_418 (iv .u8 l_420) 5 1 :: .sl A_370 c_372 n_371 (iv .u8 m_399) 5 1 :: .sl A_69 c_71 n_70 (iv .u8 m_352) 5 1 :: .sl A_46 c_48 n_47 (iv .u8 l_49) 5 1 :: R) l_435_0 l_435_1 a_439_2 a_439_3 l_435_4 2 b_18 A_432_0 n_433_0 c_434_0 x_436_0 A_432_1 n_433_1 c_434_1 x_436_1 A_432_4 n_433_4 c_434_4 x_436_4 (hs_431.2 (hs_407.2 (hs_360.2 (hs_99.2 (hs_82.2 (hs_67.2 (hs_60.2 (hs_44.2 (hs_37.2 (hs_16.2 hT)))))))))) (show celly (.sl A_483 c_484 ((gx l_468 2).length) (iv .u8 m_500) 5 1 :: .sl A_465 c_467 n_466 x_469 22 1 :: .sl A_441 c_443 n_442 (iv .u8 l_444) 5 1 :: .sl A_417 c_419 n_418 (iv .u8 l_420) 5 1 :: .sl A_370 c_372 n_371 (iv .u8 m_399) 5 1 :: .sl A_69 c_71 n_70 (iv .u8 m_352) 5 1 :: .sl A_46 c_48 n_47 (iv .u8 l_49) 5 1 :: R) = true from hR) st_506 (hn_437_0) hx_438_0 (hn_437_1) hx_438_1 (hn_437_4) hx_438_4 l_513_0 l_513_1 a_517_2 a_517_3 l_513_4 l_522 a_526 hr_507) ?_
    rintro _ w_527 ⟨T_508, A_510_0, n_511_0, c_512_0, x_514_0, A_510_1, n_511_1, c_512_1, x_514_1, A_510_4, n_511_4, c_512_4, x_514_4, A_519, n_520, c_521, hs_509, hn_515_0, hx_516_0, hn_515_1, hx_516_1, hn_515_4, hx_516_4, hn_524, rfl, sc_529⟩
    have st_528 : St w w_527 (.cells b_18 (([.slice A_510_0 n_511_0 c_512_0] : List Value) ++ (([.slice A_510_1 n_511_1 c_512_1] : List Value) ++ (([.int .i64 a_517_2] : List Value) ++ (([.bool a_517_3] : List Value) ++ ([.slice A_510_4 n_511_4 c_512_4] : List Value))))) 66 :: .sl A_510_0 c_512_0 n_511_0 x_514_0 22 1 :: .sl A_510_1 c_512_1 n_511_1 x_514_1 69 2 :: .sl A_510_4 c_512_4 n_511_4 x_514_4 71 2 :: .sl A_519 c_521 n_520 (iv .u8 l_522) 5 1 :: .sl A_483 c_484 ((gx l_468 2).length) (iv .u8 m_500) 5 1 :: .sl A_465 c_467 n_466 x_469 22 1 :: .sl A_441 c_443 n_442 (iv .u8 l_444) 5 1 :: .sl A_417 c_419 n_418 (iv .u8 l_420) 5 1 :: .sl A_370 c_372 n_371 (iv .u8 m_399) 5 1 :: .sl A_69 c_71 n_70 (iv .u8 m_352) 5 1 :: .sl A_46 c_48 n_47 (iv .u8 l_49) 5 1 :: (T_508 ++ R)) := St.unhide (A := [_, _, _, _, _]) (B := [_, _, _, _, _, _, _]) (T := T_508) (R := R) sc_529
    refine ⟨_, rfl, ?_⟩
    refine WL.val Wanted.none (Runs.move rfl) ?_
    refine WL.val Wanted.none (Runs.extract rfl rfl) ?_
    refine WL.val Wanted.none (Runs.extract rfl rfl) ?_
    refine WL.val Wanted.none (Runs.assign rfl) ?_
    refine WL.val Wanted.none (Runs.assign rfl) ?_
    refine WL.nil ?_
    refine QW.then_n ?_
    refine CW.sub [(1, .int .u8 a1), (8, .bool false), (14, .int .i64 a_92), (15, .int .i64 a_109), (18, .slice A_417 n_418 c_419), (19, .int .i64 a_424), (20, .slice A_441 n_442 c_443), (21, .int .i64 a_448), (23, .slice A_519 n_520 c_521), (24, .int .i64 a_526)] ⟨rfl, rfl, rfl, rfl, rfl, rfl, rfl, rfl, rfl, rfl, trivial⟩ ?_
    refine CW.seq ?_
    refine CW.region ?_
    refine WL.val Wanted.none (Runs.move rfl) ?_
    refine WL.val Wanted.none (Runs.eql rfl rfl rfl) ?_
    refine WL.val Wanted.none (Runs.move rfl) ?_
    obtain ⟨c_530, H⟩ := H
    have h_531 : (a_92 == 0) = true := (beq_iff_eq.mpr c_530)
    refine WL.on ?_ ?_; exact Wanted.guard (dj := 111) (by rfl) (evb (by rfl) h_531) (by rfl)
    refine WL.val Wanted.none (Runs.move rfl) ?_
    refine WL.on ?_ ?_; exact Wanted.guard (dj := 111) (by rfl) (evb (by rfl) h_531) (by rfl)
    refine WL.val Wanted.none (Runs.eql rfl rfl rfl) ?_
    refine WL.val Wanted.none (Runs.pick_t (evb rfl h_531) rfl) ?_
    refine WL.val Wanted.none (Runs.move rfl) ?_
    obtain ⟨c_532, H⟩ := H
    have h_533 : (a_109 == 0) = true := (beq_iff_eq.mpr c_532)
    refine WL.on ?_ ?_; exact Wanted.guard (dj := 115) (by rfl) (evb (by rfl) h_533) (by rfl)
    refine WL.val Wanted.none (Runs.move rfl) ?_
    refine WL.on ?_ ?_; exact Wanted.guard (dj := 115) (by rfl) (evb (by rfl) h_533) (by rfl)
    refine WL.val Wanted.none (Runs.eql rfl rfl rfl) ?_
    refine WL.val Wanted.none (Runs.pick_t (evb rfl h_533) rfl) ?_
    refine WL.val Wanted.none (Runs.move rfl) ?_
    obtain ⟨c_534, H⟩ := H
    have h_535 : (a_424 == 0) = true := (beq_iff_eq.mpr c_534)
    refine WL.on ?_ ?_; exact Wanted.guard (dj := 119) (by rfl) (evb (by rfl) h_535) (by rfl)
    refine WL.val Wanted.none (Runs.move rfl) ?_
    refine WL.on ?_ ?_; exact Wanted.guard (dj := 119) (by rfl) (evb (by rfl) h_535) (by rfl)
    obtain ⟨⟨p_536, q_537⟩, H⟩ := H
    obtain ⟨a_538, e_539⟩ := (st_528.src_sl (k := 8) rfl).addr_iv 0 (by omega)
    refine WL.val Wanted.none (Runs.indexAddr Try.underlying22 cells5 (by decide) rfl e_539 rfl p_536 (by rw [hn_422]; exact q_537) (o := 0) (by first | rfl | omega)) ?_
    refine WL.on ?_ ?_; exact Wanted.guard (dj := 119) (by rfl) (evb (by rfl) h_535) (by rfl)
    refine WL.val Wanted.none (Runs.load nagg5 rfl ((st_528.src_sl (k := 8) rfl).cell_iv e_539 (by omega))) ?_
    refine WL.on ?_ ?_; exact Wanted.guard (dj := 119) (by rfl) (evb (by rfl) h_535) (by rfl)
    refine WL.val Wanted.none (Runs.move rfl) ?_
    refine WL.on ?_ ?_; exact Wanted.guard (dj := 119) (by rfl) (evb (by rfl) h_535) (by rfl)
    refine WL.val Wanted.none (Runs.eql rfl rfl rfl) ?_
    refine WL.val Wanted.none (Runs.pick_t (evb rfl h_535) rfl) ?_
    refine WL.val Wanted.none (Runs.move rfl) ?_
    obtain ⟨c_540, H⟩ := H
    have h_541 : ((gn l_420 0) == a1) = true := (beq_iff_eq.mpr c_540)
    refine WL.on ?_ ?_; exact Wanted.guard (dj := 126) (by rfl) (evb (by rfl) h_541) (by rfl)
    refine WL.val Wanted.none (Runs.move rfl) ?_
    refine WL.on ?_ ?_; exact Wanted.guard (dj := 126) (by rfl) (evb (by rfl) h_541) (by rfl)
    refine WL.val Wanted.none (Runs.eql rfl rfl rfl) ?_
    refine WL.val Wanted.none (Runs.pick_t (evb rfl h_541) rfl) ?_
    refine WL.val Wanted.none (Runs.move rfl) ?_
    obtain ⟨c_542, H⟩ := H
    have h_543 : (a_448 == 0) = true := (beq_iff_eq.mpr c_542)
    refine WL.on ?_ ?_; exact Wanted.guard (dj := 130) (by rfl) (evb (by rfl) h_543) (by rfl)
    refine WL.val Wanted.none (Runs.move rfl) ?_
    refine WL.on ?_ ?_; exact Wanted.guard (dj := 130) (by rfl) (evb (by rfl) h_543) (by rfl)
    obtain ⟨⟨p_544, q_545⟩, H⟩ := H
    obtain ⟨a_546, e_547⟩ := (st_528.src_sl (k := 7) rfl).addr_iv 0 (by omega)
    refine WL.val Wanted.none (Runs.indexAddr Try.underlying22 cells5 (by decide) rfl e_547 rfl p_544 (by rw [hn_446]; exact q_545) (o := 0) (by first | rfl | omega)) ?_
    refine WL.on ?_ ?_; exact Wanted.guard (dj := 130) (by rfl) (evb (by rfl) h_543) (by rfl)
    refine WL.val Wanted.none (Runs.load nagg5 rfl ((st_528.src_sl (k := 7) rfl).cell_iv e_547 (by omega))) ?_
    refine WL.on ?_ ?_; exact Wanted.guard (dj := 130) (by rfl) (evb (by rfl) h_543) (by rfl)
    refine WL.val Wanted.none (Runs.eql rfl rfl rfl) ?_
    refine WL.val Wanted.none (Runs.pick_t (evb rfl h_543) rfl) ?_
    refine WL.val Wanted.none (Runs.move rfl) ?_
    obtain ⟨c_548, H⟩ := H
    have h_549 : ((gn l_444 0) == 0) = true := (beq_iff_eq.mpr c_548)
    refine WL.on ?_ ?_; exact Wanted.guard (dj := 136) (by rfl) (evb (by rfl) h_549) (by rfl)
    refine WL.val Wanted.none (Runs.move rfl) ?_
    refine WL.on ?_ ?_; exact Wanted.guard (dj := 136) (by rfl) (evb (by rfl) h_549) (by rfl)
    refine WL.val Wanted.none (Runs.eql rfl rfl rfl) ?_
    refine WL.val Wanted.none (Runs.pick_t (evb rfl h_549) rfl) ?_
    refine WL.val Wanted.none (Runs.move rfl) ?_
    obtain ⟨c_550, H⟩ := H
    have h_551 : (a_526 == 0) = true := (beq_iff_eq.mpr c_550)
    refine WL.on ?_ ?_; exact Wanted.guard (dj := 140) (by rfl) (evb (by rfl) h_551) (by rfl)
    refine WL.val Wanted.none (Runs.move rfl) ?_
    refine WL.on ?_ ?_; exact Wanted.guard (dj := 140) (by rfl) (evb (by rfl) h_551) (by rfl)
    obtain ⟨⟨p_552, q_553⟩, H⟩ := H
    obtain ⟨a_554, e_555⟩ := (st_528.src_sl (k := 4) rfl).addr_iv 0 (by omega)
    refine WL.val Wanted.none (Runs.indexAddr Try.underlying22 cells5 (by decide) rfl e_555 rfl p_552 (by rw [hn_524]; exact q_553) (o := 0) (by first | rfl | omega)) ?_
    refine WL.on ?_ ?_; exact Wanted.guard (dj := 140) (by rfl) (evb (by rfl) h_551) (by rfl)
    refine WL.val Wanted.none (Runs.load nagg5 rfl ((st_528.src_sl (k := 4) rfl).cell_iv e_555 (by omega))) ?_
    refine WL.on ?_ ?_; exact Wanted.guard (dj := 140) (by rfl) (evb (by rfl) h_551) (by rfl)
    refine WL.val Wanted.none (Runs.eql rfl rfl rfl) ?_
    refine WL.val Wanted.none (Runs.pick_t (evb rfl h_551) rfl) ?_
    refine WL.val Wanted.none (Runs.assign rfl) ?_
    refine WL.nil ?_
    refine QW.then_n ?_
    refine CW.sub [(8, .bool ((gn l_522 0) == 0))] ⟨rfl, trivial⟩ ?_
    refine CW.ret ?_
    have hz : ((gn l_522 0) == 0) = true := (beq_iff_eq.mpr H)
    exact QW.ret1 rfl (evb rfl hz) ⟨rfl, st_528.ext⟩

end Go.Proofs.Ytjlifbnkdfofhaa
