/- Walks: each function computes what its relation says, and a call of it ends so. Printed by a program of this session (wip/gen). -/
import Derived.Test.YtjlifbnkdfofhaaGx2
namespace Go.Proofs.Ytjlifbnkdfofhaa
open Go Go.Kr Go.RowKit
set_option linter.unusedVariables false
set_option linter.unusedSimpArgs false
/-! ### reliquaryref06_noted: function 46 -/
def reliquaryref06_noted.rel (a0_0 : Int) (l0_1 : List R86) (l0_2 : List R86) (a0_3 : Int) (a0_4 : Bool) (l0_5 : List R81) (a1 : Int) (a2 : Int) (ar0_0 : Int) (lr0_1 : List R86) (lr0_2 : List R86) (ar0_3 : Int) (ar0_4 : Bool) (lr0_5 : List R81) : Prop := (∃ m_14 : List R81, m_14 = ([] : List R81) ++ l0_5 ∧ (m_14.length ≤ 1099511627776 ∧ (∃ m_40 : List R81, m_40 = m_14 ++ ([(a1, a2)] : List R81) ∧ (m_40.length ≤ 1099511627776 ∧ ar0_0 = a0_0 ∧ lr0_1 = l0_1 ∧ lr0_2 = l0_2 ∧ ar0_3 = a0_3 ∧ ar0_4 = a0_4 ∧ lr0_5 = m_40))))
set_option maxHeartbeats 1000000 in
set_option maxRecDepth 100000 in
theorem reliquaryref06_noted.calls (w w1 : World) (T R : Pool) (a0_0 : Int) (l0_1 : List R86) (l0_2 : List R86) (a0_3 : Int) (a0_4 : Bool) (l0_5 : List R81) (a1 : Int) (a2 : Int) (A0_1 : Option Addr) (n0_1 : Nat) (c0_1 : Nat) (A0_2 : Option Addr) (n0_2 : Nat) (c0_2 : Nat) (A0_5 : Option Addr) (n0_5 : Nat) (c0_5 : Nat) (st0 : St w w1 ((T ++ R))) (hb0_1 : HS w T T A0_1 n0_1 c0_1 (f86 w) l0_1) (hb0_2 : HS w T T A0_2 n0_2 c0_2 (f86 w) l0_2) (hb0_5 : HS w T T A0_5 n0_5 c0_5 (f81 w) l0_5) (ar0_0 : Int) (lr0_1 : List R86) (lr0_2 : List R86) (ar0_3 : Int) (ar0_4 : Bool) (lr0_5 : List R81) (H : reliquaryref06_noted.rel a0_0 l0_1 l0_2 a0_3 a0_4 l0_5 a1 a2 ar0_0 lr0_1 lr0_2 ar0_3 ar0_4 lr0_5) :
  Calls Try.prog 46 #[.agg (([.int .i64 a0_0] : Cs) ++ (([.slice A0_1 n0_1 c0_1] : Cs) ++ (([.slice A0_2 n0_2 c0_2] : Cs) ++ (([.int .i64 a0_3] : Cs) ++ (([.bool a0_4] : Cs) ++ ([.slice A0_5 n0_5 c0_5] : Cs)))))).toArray, .int .i64 a1, .int .i64 a2] w1 fun e w' => ∃ T' Ar0_1 nr0_1 cr0_1 Ar0_2 nr0_2 cr0_2 Ar0_5 nr0_5 cr0_5, Pl T T' ∧ HS w T' T' Ar0_1 nr0_1 cr0_1 (f86 w) lr0_1 ∧ HS w T' T' Ar0_2 nr0_2 cr0_2 (f86 w) lr0_2 ∧ HS w T' T' Ar0_5 nr0_5 cr0_5 (f81 w) lr0_5 ∧ e = .returned (.agg (([.int .i64 ar0_0] : Cs) ++ (([.slice Ar0_1 nr0_1 cr0_1] : Cs) ++ (([.slice Ar0_2 nr0_2 cr0_2] : Cs) ++ (([.int .i64 ar0_3] : Cs) ++ (([.bool ar0_4] : Cs) ++ ([.slice Ar0_5 nr0_5 cr0_5] : Cs)))))).toArray) ∧ St w w' ((T' ++ R)) := by
 refine CW.enter Try.func46 rfl (n := 20) rfl [.agg (([.int .i64 a0_0] : Cs) ++ (([.slice A0_1 n0_1 c0_1] : Cs) ++ (([.slice A0_2 n0_2 c0_2] : Cs) ++ (([.int .i64 a0_3] : Cs) ++ (([.bool a0_4] : Cs) ++ ([.slice A0_5 n0_5 c0_5] : Cs)))))).toArray, .int .i64 a1, .int .i64 a2] (Nat.le_of_ble_eq_true rfl) ?_
 refine CW.sub [(0, .agg (([.int .i64 a0_0] : Cs) ++ (([.slice A0_1 n0_1 c0_1] : Cs) ++ (([.slice A0_2 n0_2 c0_2] : Cs) ++ (([.int .i64 a0_3] : Cs) ++ (([.bool a0_4] : Cs) ++ ([.slice A0_5 n0_5 c0_5] : Cs)))))).toArray), (1, .int .i64 a1), (2, .int .i64 a2)] ⟨rfl, rfl, rfl, trivial⟩ ?_
 refine CW.seq (CW.region ?_)
 refine WL.box st0 rfl rfl ?_
 intro B_1 w_2 st_3
 replace st_3 : St w w_2 (.cells B_1 (([.int .i64 a0_0] : Cs) ++ (([.slice A0_1 n0_1 c0_1] : Cs) ++ (([.slice A0_2 n0_2 c0_2] : Cs) ++ (([.int .i64 a0_3] : Cs) ++ (([.bool a0_4] : Cs) ++ ([.slice A0_5 n0_5 c0_5] : Cs)))))) 48 :: (T ++ R)) := st_3
 refine WL.alloc st_3 zero48 ?_
 intro B_5 w_6 st_7
 replace st_7 : St w w_6 (.cells B_5 (([.int .i64 0] : Cs) ++ (([.slice none 0 0] : Cs) ++ (([.slice none 0 0] : Cs) ++ (([.int .i64 0] : Cs) ++ (([.bool false] : Cs) ++ ([.slice none 0 0] : Cs)))))) 48 :: .cells B_1 (([.int .i64 a0_0] : Cs) ++ (([.slice A0_1 n0_1 c0_1] : Cs) ++ (([.slice A0_2 n0_2 c0_2] : Cs) ++ (([.int .i64 a0_3] : Cs) ++ (([.bool a0_4] : Cs) ++ ([.slice A0_5 n0_5 c0_5] : Cs)))))) 48 :: (T ++ R)) := st_7
 refine WL.nil (QW.then_n ?_)
 refine CW.seq (CW.region ?_)
 refine WL.val Wanted.none (Runs.assign rfl) ?_
 refine WL.nil (QW.then_n ?_)
 refine CW.seq (CW.region ?_)
 refine WL.val Wanted.none (Runs.move rfl) ?_
 refine WL.val Wanted.none (Runs.fieldAddr (off := 5) (p := 5) fld48_5 rfl rfl rfl) ?_
 refine WL.val Wanted.none (Runs.load nagg46 rfl (st_7.cell (k := 1) rfl (part_one (u := .slice A0_5 n0_5 c0_5) (pre := (([.int .i64 a0_0] : Cs) ++ (([.slice A0_1 n0_1 c0_1] : Cs) ++ (([.slice A0_2 n0_2 c0_2] : Cs) ++ (([.int .i64 a0_3] : Cs) ++ ([.bool a0_4] : Cs)))))) (post := (([] : Cs))) (by first | rfl | simp only [List.append_assoc, List.append_nil, List.nil_append, List.cons_append]) (by first | rfl | simp only [List.length_append, List.length_cons, List.length_nil, iv_length])))) ?_
 have st_10 := st_7.nil_sl 81 2
 have st_10 : St w w_6 (.sl none 0 0 ([] : Cs) 81 2 :: .cells B_5 (([.int .i64 0] : Cs) ++ (([.slice none 0 0] : Cs) ++ (([.slice none 0 0] : Cs) ++ (([.int .i64 0] : Cs) ++ (([.bool false] : Cs) ++ ([.slice none 0 0] : Cs)))))) 48 :: .cells B_1 (([.int .i64 a0_0] : Cs) ++ (([.slice A0_1 n0_1 c0_1] : Cs) ++ (([.slice A0_2 n0_2 c0_2] : Cs) ++ (([.int .i64 a0_3] : Cs) ++ (([.bool a0_4] : Cs) ++ ([.slice A0_5 n0_5 c0_5] : Cs)))))) 48 :: (T ++ R)) := st_10
 obtain ⟨x_11, hs_12, hr_13⟩ := hb0_5.2.2
 obtain ⟨m_14, e_15, H⟩ := H
 obtain ⟨z_16, H⟩ := H
 obtain ⟨n_19, hn_22⟩ : ∃ n_ : Nat, n_ = m_14.length := ⟨_, rfl⟩
 refine WL.appendR (i := 0) (N := n_19) (news := x_11) Wanted.none st_10 rfl Try.underlying46 elemS81 rfl rfl ((hs_12.at st_10 (mem_T (A := [_, _, _]) (fun _ h_ => h_)))) (by have h1_ := (hr_13).length (fz81 w); have h2_ : n0_5 = l0_5.length := hb0_5.1; rw [h1_, h2_]) (HLs.one hr_13) (by decide) (by have h1_ : 0 = ([] : List R81).length := rfl; have h2_ : n0_5 = l0_5.length := hb0_5.1; rw [hn_22, e_15, List.length_append]; omega) (by rw [hn_22]; exact z_16) ?_
 intro A_17 c_18 w_20 st_21
 obtain ⟨x_23, e_24⟩ : ∃ x_ : Cs, x_ = ([] : Cs) ++ x_11 := ⟨_, rfl⟩
 have hx_25 : HRs T (f81 w) x_23 m_14 := by rw [e_24, e_15]; exact HRs.append (HRs.nil : HRs T (f81 w) [] []) hr_13
 replace st_21 : St w w_20 (.sl A_17 c_18 n_19 x_23 81 2 :: .cells B_5 (([.int .i64 0] : Cs) ++ (([.slice none 0 0] : Cs) ++ (([.slice none 0 0] : Cs) ++ (([.int .i64 0] : Cs) ++ (([.bool false] : Cs) ++ ([.slice none 0 0] : Cs)))))) 48 :: .cells B_1 (([.int .i64 a0_0] : Cs) ++ (([.slice A0_1 n0_1 c0_1] : Cs) ++ (([.slice A0_2 n0_2 c0_2] : Cs) ++ (([.int .i64 a0_3] : Cs) ++ (([.bool a0_4] : Cs) ++ ([.slice A0_5 n0_5 c0_5] : Cs)))))) 48 :: (T ++ R)) := by rw [e_24]; exact st_21
 refine WL.val Wanted.none (Runs.assign rfl) ?_
 refine WL.nil (QW.then_n ?_)
 refine CW.seq (CW.region ?_)
 refine WL.val Wanted.none (Runs.move rfl) ?_
 refine WL.val Wanted.none (Runs.move rfl) ?_
 refine WL.val Wanted.none (Runs.move rfl) ?_
 refine WL.val Wanted.none (Runs.build_struct (ps := [(0, 1), (1, 1)]) (cs := (([.int .i64 a1] : Cs) ++ ([.int .i64 a2] : Cs))) plc81 zero81 rfl (by refine Fills.cons (o := 0) (ms := (([.int .i64 a1] : Cs))) (show _ = some (0, (([.int .i64 a1] : Cs)).length) by rw [show (([.int .i64 a1] : Cs)).length = 1 from (by first | rfl | simp only [List.length_append, List.length_cons, List.length_nil, iv_length])] <;> rfl) rfl (by have h1_ : (([.int .i64 a1] : Cs)).length = 1 := (by first | rfl | simp only [List.length_append, List.length_cons, List.length_nil, iv_length]); have h2_ : (([.int .i64 0] : Cs) ++ ([.int .i64 0] : Cs)).length = 2 := (by first | rfl | simp only [List.length_append, List.length_cons, List.length_nil, iv_length]); omega) ?_; rw [show layV (([.int .i64 0] : Cs) ++ ([.int .i64 0] : Cs)) 0 (([.int .i64 a1] : Cs)) = (([.int .i64 a1] : Cs) ++ ([.int .i64 0] : Cs)) from (layV_mid (pre := (([] : Cs))) (mid := (([.int .i64 0] : Cs))) (post := (([.int .i64 0] : Cs))) (by first | rfl | simp only [List.append_assoc, List.append_nil, List.nil_append, List.cons_append]) (by first | rfl | simp only [List.length_append, List.length_cons, List.length_nil, iv_length]) (Eq.trans (b := 1) (by first | rfl | simp only [List.length_append, List.length_cons, List.length_nil, iv_length]) (Eq.symm (by first | rfl | simp only [List.length_append, List.length_cons, List.length_nil, iv_length])))).trans (by first | rfl | simp only [List.append_assoc, List.append_nil, List.nil_append, List.cons_append])]; refine Fills.cons (o := 1) (ms := (([.int .i64 a2] : Cs))) (show _ = some (1, (([.int .i64 a2] : Cs)).length) by rw [show (([.int .i64 a2] : Cs)).length = 1 from (by first | rfl | simp only [List.length_append, List.length_cons, List.length_nil, iv_length])] <;> rfl) rfl (by have h1_ : (([.int .i64 a2] : Cs)).length = 1 := (by first | rfl | simp only [List.length_append, List.length_cons, List.length_nil, iv_length]); have h2_ : (([.int .i64 a1] : Cs) ++ ([.int .i64 0] : Cs)).length = 2 := (by first | rfl | simp only [List.length_append, List.length_cons, List.length_nil, iv_length]); omega) ?_; rw [show layV (([.int .i64 a1] : Cs) ++ ([.int .i64 0] : Cs)) 1 (([.int .i64 a2] : Cs)) = (([.int .i64 a1] : Cs) ++ ([.int .i64 a2] : Cs)) from (layV_mid (pre := (([.int .i64 a1] : Cs))) (mid := (([.int .i64 0] : Cs))) (post := (([] : Cs))) (by first | rfl | simp only [List.append_assoc, List.append_nil, List.nil_append, List.cons_append]) (by first | rfl | simp only [List.length_append, List.length_cons, List.length_nil, iv_length]) (Eq.trans (b := 1) (by first | rfl | simp only [List.length_append, List.length_cons, List.length_nil, iv_length]) (Eq.symm (by first | rfl | simp only [List.length_append, List.length_cons, List.length_nil, iv_length])))).trans (by first | rfl | simp only [List.append_assoc, List.append_nil, List.nil_append, List.cons_append])]; exact Fills.nil)) ?_
 obtain ⟨ii_26, z_27, h_28, h_29, h_30, h_31⟩ := slr81_1
 refine WL.buildSlRows (sz := 2) (cs := (([.int .i64 a1] : Cs) ++ ([.int .i64 a2] : Cs))) st_21 Try.underlying46 h_28 h_29 h_30 (by decide) (by decide) h_31 rfl (by refine Fills.cons (o := 0) (ms := (([.int .i64 a1] : Cs) ++ ([.int .i64 a2] : Cs))) (show _ = some (0, (([.int .i64 a1] : Cs) ++ ([.int .i64 a2] : Cs)).length) by rw [show (([.int .i64 a1] : Cs) ++ ([.int .i64 a2] : Cs)).length = 2 from (by first | rfl | simp only [List.length_append, List.length_cons, List.length_nil, iv_length])] <;> rfl) rfl (by have h1_ : (([.int .i64 a1] : Cs) ++ ([.int .i64 a2] : Cs)).length = 2 := (by first | rfl | simp only [List.length_append, List.length_cons, List.length_nil, iv_length]); have h2_ : (([.int .i64 0] : Cs) ++ ([.int .i64 0] : Cs)).length = 2 := (by first | rfl | simp only [List.length_append, List.length_cons, List.length_nil, iv_length]); omega) ?_; rw [show layV (([.int .i64 0] : Cs) ++ ([.int .i64 0] : Cs)) 0 (([.int .i64 a1] : Cs) ++ ([.int .i64 a2] : Cs)) = (([.int .i64 a1] : Cs) ++ ([.int .i64 a2] : Cs)) from (layV_mid (pre := (([] : Cs))) (mid := (([.int .i64 0] : Cs) ++ ([.int .i64 0] : Cs))) (post := (([] : Cs))) (by first | rfl | simp only [List.append_assoc, List.append_nil, List.nil_append, List.cons_append]) (by first | rfl | simp only [List.length_append, List.length_cons, List.length_nil, iv_length]) (Eq.trans (b := 2) (by first | rfl | simp only [List.length_append, List.length_cons, List.length_nil, iv_length]) (Eq.symm (by first | rfl | simp only [List.length_append, List.length_cons, List.length_nil, iv_length])))).trans (by first | rfl | simp only [List.append_assoc, List.append_nil, List.nil_append, List.cons_append])]; exact Fills.nil) ?_
 intro B_32 w_33 st_34
 replace st_34 : St w w_33 (.cells B_32 (([.int .i64 a1] : Cs) ++ ([.int .i64 a2] : Cs)) 81 :: .sl A_17 c_18 n_19 x_23 81 2 :: .cells B_5 (([.int .i64 0] : Cs) ++ (([.slice none 0 0] : Cs) ++ (([.slice none 0 0] : Cs) ++ (([.int .i64 0] : Cs) ++ (([.bool false] : Cs) ++ ([.slice none 0 0] : Cs)))))) 48 :: .cells B_1 (([.int .i64 a0_0] : Cs) ++ (([.slice A0_1 n0_1 c0_1] : Cs) ++ (([.slice A0_2 n0_2 c0_2] : Cs) ++ (([.int .i64 a0_3] : Cs) ++ (([.bool a0_4] : Cs) ++ ([.slice A0_5 n0_5 c0_5] : Cs)))))) 48 :: (T ++ R)) := st_34
 have st_36 := St.rows_sl (i := 0) (m := 1) (size := 2) st_34 rfl rfl (by decide)
 obtain ⟨x_37, e_38⟩ : ∃ x_ : Cs, x_ = ([.int .i64 a1] : Cs) ++ ([.int .i64 a2] : Cs) := ⟨_, rfl⟩
 have hx_39 : HRs T (f81 w) x_37 ([(a1, a2)] : List R81) := by rw [e_38]; exact (HRs.one (.cons rfl (.cons rfl .nil)))
 replace st_36 : St w w_33 (.sl (some ⟨B_32, 0, none⟩) 1 1 x_37 81 2 :: .sl A_17 c_18 n_19 x_23 81 2 :: .cells B_5 (([.int .i64 0] : Cs) ++ (([.slice none 0 0] : Cs) ++ (([.slice none 0 0] : Cs) ++ (([.int .i64 0] : Cs) ++ (([.bool false] : Cs) ++ ([.slice none 0 0] : Cs)))))) 48 :: .cells B_1 (([.int .i64 a0_0] : Cs) ++ (([.slice A0_1 n0_1 c0_1] : Cs) ++ (([.slice A0_2 n0_2 c0_2] : Cs) ++ (([.int .i64 a0_3] : Cs) ++ (([.bool a0_4] : Cs) ++ ([.slice A0_5 n0_5 c0_5] : Cs)))))) 48 :: (T ++ R)) := by rw [e_38]; exact st_36
 obtain ⟨m_40, e_41, H⟩ := H
 obtain ⟨z_42, H⟩ := H
 obtain ⟨n_45, hn_48⟩ : ∃ n_ : Nat, n_ = m_40.length := ⟨_, rfl⟩
 refine WL.appendR (i := 1) (N := n_45) (news := x_37) Wanted.none st_36 rfl Try.underlying46 elemS81 rfl rfl (st_36.src_sl (k := 0) rfl) (by have h1_ := (hx_39).length (fz81 w); have h2_ : 1 = ([(a1, a2)] : List R81).length := rfl; rw [h1_, h2_]) (HLs.one hx_39) (by decide) (by have h1_ : n_19 = m_14.length := hn_22; have h2_ : 1 = ([(a1, a2)] : List R81).length := rfl; rw [hn_48, e_41, List.length_append]; omega) (by rw [hn_48]; exact z_42) ?_
 intro A_43 c_44 w_46 st_47
 obtain ⟨x_49, e_50⟩ : ∃ x_ : Cs, x_ = x_23 ++ x_37 := ⟨_, rfl⟩
 have hx_51 : HRs T (f81 w) x_49 m_40 := by rw [e_50, e_41]; exact HRs.append hx_25 hx_39
 replace st_47 : St w w_46 (.sl (some ⟨B_32, 0, none⟩) 1 1 x_37 81 2 :: .sl A_43 c_44 n_45 x_49 81 2 :: .cells B_5 (([.int .i64 0] : Cs) ++ (([.slice none 0 0] : Cs) ++ (([.slice none 0 0] : Cs) ++ (([.int .i64 0] : Cs) ++ (([.bool false] : Cs) ++ ([.slice none 0 0] : Cs)))))) 48 :: .cells B_1 (([.int .i64 a0_0] : Cs) ++ (([.slice A0_1 n0_1 c0_1] : Cs) ++ (([.slice A0_2 n0_2 c0_2] : Cs) ++ (([.int .i64 a0_3] : Cs) ++ (([.bool a0_4] : Cs) ++ ([.slice A0_5 n0_5 c0_5] : Cs)))))) 48 :: (T ++ R)) := by rw [e_50]; exact st_47
 refine WL.val Wanted.none (Runs.fieldAddr (off := 5) (p := 5) fld48_5 rfl rfl rfl) ?_
 refine WL.store_one (i := 3) (u0 := .slice A0_5 n0_5 c0_5) (pre := (([.int .i64 a0_0] : Cs) ++ (([.slice A0_1 n0_1 c0_1] : Cs) ++ (([.slice A0_2 n0_2 c0_2] : Cs) ++ (([.int .i64 a0_3] : Cs) ++ ([.bool a0_4] : Cs)))))) (post := (([] : Cs))) st_47 rfl cells46 (by first | rfl | simp only [List.append_assoc, List.append_nil, List.nil_append, List.cons_append]) (by first | rfl | simp only [List.length_append, List.length_cons, List.length_nil, iv_length]) rfl rfl rfl ?_
 intro w_52 st_53
 replace st_53 : St w w_52 (.sl (some ⟨B_32, 0, none⟩) 1 1 x_37 81 2 :: .sl A_43 c_44 n_45 x_49 81 2 :: .cells B_5 (([.int .i64 0] : Cs) ++ (([.slice none 0 0] : Cs) ++ (([.slice none 0 0] : Cs) ++ (([.int .i64 0] : Cs) ++ (([.bool false] : Cs) ++ ([.slice none 0 0] : Cs)))))) 48 :: .cells B_1 (([.int .i64 a0_0] : Cs) ++ (([.slice A0_1 n0_1 c0_1] : Cs) ++ (([.slice A0_2 n0_2 c0_2] : Cs) ++ (([.int .i64 a0_3] : Cs) ++ (([.bool a0_4] : Cs) ++ ([.slice A_43 n_45 c_44] : Cs)))))) 48 :: (T ++ R)) := by have e_ : (([.int .i64 a0_0] : Cs) ++ (([.slice A0_1 n0_1 c0_1] : Cs) ++ (([.slice A0_2 n0_2 c0_2] : Cs) ++ (([.int .i64 a0_3] : Cs) ++ (([.bool a0_4] : Cs) ++ ([.slice A_43 n_45 c_44] : Cs)))))) = (([.int .i64 a0_0] : Cs) ++ (([.slice A0_1 n0_1 c0_1] : Cs) ++ (([.slice A0_2 n0_2 c0_2] : Cs) ++ (([.int .i64 a0_3] : Cs) ++ ([.bool a0_4] : Cs))))) ++ ((([.slice A_43 n_45 c_44] : Cs)) ++ (([] : Cs))) := (by first | rfl | simp only [List.append_assoc, List.append_nil, List.nil_append, List.cons_append]); have h_ : St w w_52 (.sl (some ⟨B_32, 0, none⟩) 1 1 x_37 81 2 :: .sl A_43 c_44 n_45 x_49 81 2 :: .cells B_5 (([.int .i64 0] : Cs) ++ (([.slice none 0 0] : Cs) ++ (([.slice none 0 0] : Cs) ++ (([.int .i64 0] : Cs) ++ (([.bool false] : Cs) ++ ([.slice none 0 0] : Cs)))))) 48 :: .cells B_1 ((([.int .i64 a0_0] : Cs) ++ (([.slice A0_1 n0_1 c0_1] : Cs) ++ (([.slice A0_2 n0_2 c0_2] : Cs) ++ (([.int .i64 a0_3] : Cs) ++ ([.bool a0_4] : Cs))))) ++ ((([.slice A_43 n_45 c_44] : Cs)) ++ (([] : Cs)))) 48 :: (T ++ R)) := st_53; rw [← e_] at h_; exact h_
 refine WL.nil (QW.then_n ?_)
 refine CW.sub [(3, .pointer (some ⟨B_1, 0, none⟩)), (6, .pointer (some ⟨B_5, 0, none⟩))] ⟨rfl, rfl, trivial⟩ ?_
 refine CW.seq (CW.region ?_)
 refine WL.val Wanted.none (Runs.load_mid row48 rfl st_53 (i := 3) rfl (part_mid (pre := (([] : Cs))) (mid := (([.int .i64 a0_0] : Cs) ++ (([.slice A0_1 n0_1 c0_1] : Cs) ++ (([.slice A0_2 n0_2 c0_2] : Cs) ++ (([.int .i64 a0_3] : Cs) ++ (([.bool a0_4] : Cs) ++ ([.slice A_43 n_45 c_44] : Cs))))))) (post := (([] : Cs))) (by first | rfl | simp only [List.append_assoc, List.append_nil, List.nil_append, List.cons_append]) (by first | rfl | simp only [List.length_append, List.length_cons, List.length_nil, iv_length]) (by first | rfl | simp only [List.length_append, List.length_cons, List.length_nil, iv_length])) (by first | rfl | simp only [List.length_append, List.length_cons, List.length_nil, iv_length])) ?_
 refine WL.store_mid (i := 2) (pre := (([] : Cs))) (mid := (([.int .i64 0] : Cs) ++ (([.slice none 0 0] : Cs) ++ (([.slice none 0 0] : Cs) ++ (([.int .i64 0] : Cs) ++ (([.bool false] : Cs) ++ ([.slice none 0 0] : Cs))))))) (post := (([] : Cs))) (ms := (([.int .i64 a0_0] : Cs) ++ (([.slice A0_1 n0_1 c0_1] : Cs) ++ (([.slice A0_2 n0_2 c0_2] : Cs) ++ (([.int .i64 a0_3] : Cs) ++ (([.bool a0_4] : Cs) ++ ([.slice A_43 n_45 c_44] : Cs))))))) st_53 rfl row48 (by first | rfl | simp only [List.append_assoc, List.append_nil, List.nil_append, List.cons_append]) (by first | rfl | simp only [List.length_append, List.length_cons, List.length_nil, iv_length]) rfl rfl (by first | rfl | simp only [List.length_append, List.length_cons, List.length_nil, iv_length]) (by first | rfl | simp only [List.length_append, List.length_cons, List.length_nil, iv_length]) (by intro u hu; simp only [List.mem_append, List.mem_singleton] at hu; rcases hu with hu | hu | hu | hu | hu | hu <;> first | exact one_iv _ _ u hu | (subst hu; rfl)) ?_
 intro w_54 st_55
 replace st_55 : St w w_54 (.sl (some ⟨B_32, 0, none⟩) 1 1 x_37 81 2 :: .sl A_43 c_44 n_45 x_49 81 2 :: .cells B_5 (([.int .i64 a0_0] : Cs) ++ (([.slice A0_1 n0_1 c0_1] : Cs) ++ (([.slice A0_2 n0_2 c0_2] : Cs) ++ (([.int .i64 a0_3] : Cs) ++ (([.bool a0_4] : Cs) ++ ([.slice A_43 n_45 c_44] : Cs)))))) 48 :: .cells B_1 (([.int .i64 a0_0] : Cs) ++ (([.slice A0_1 n0_1 c0_1] : Cs) ++ (([.slice A0_2 n0_2 c0_2] : Cs) ++ (([.int .i64 a0_3] : Cs) ++ (([.bool a0_4] : Cs) ++ ([.slice A_43 n_45 c_44] : Cs)))))) 48 :: (T ++ R)) := by have e_ : (([.int .i64 a0_0] : Cs) ++ (([.slice A0_1 n0_1 c0_1] : Cs) ++ (([.slice A0_2 n0_2 c0_2] : Cs) ++ (([.int .i64 a0_3] : Cs) ++ (([.bool a0_4] : Cs) ++ ([.slice A_43 n_45 c_44] : Cs)))))) = (([] : Cs)) ++ ((([.int .i64 a0_0] : Cs) ++ (([.slice A0_1 n0_1 c0_1] : Cs) ++ (([.slice A0_2 n0_2 c0_2] : Cs) ++ (([.int .i64 a0_3] : Cs) ++ (([.bool a0_4] : Cs) ++ ([.slice A_43 n_45 c_44] : Cs)))))) ++ (([] : Cs))) := (by first | rfl | simp only [List.append_assoc, List.append_nil, List.nil_append, List.cons_append]); have h_ : St w w_54 (.sl (some ⟨B_32, 0, none⟩) 1 1 x_37 81 2 :: .sl A_43 c_44 n_45 x_49 81 2 :: .cells B_5 ((([] : Cs)) ++ ((([.int .i64 a0_0] : Cs) ++ (([.slice A0_1 n0_1 c0_1] : Cs) ++ (([.slice A0_2 n0_2 c0_2] : Cs) ++ (([.int .i64 a0_3] : Cs) ++ (([.bool a0_4] : Cs) ++ ([.slice A_43 n_45 c_44] : Cs)))))) ++ (([] : Cs)))) 48 :: .cells B_1 (([.int .i64 a0_0] : Cs) ++ (([.slice A0_1 n0_1 c0_1] : Cs) ++ (([.slice A0_2 n0_2 c0_2] : Cs) ++ (([.int .i64 a0_3] : Cs) ++ (([.bool a0_4] : Cs) ++ ([.slice A_43 n_45 c_44] : Cs)))))) 48 :: (T ++ R)) := st_55; rw [← e_] at h_; exact h_
 refine WL.nil (QW.then_n ?_)
 refine CW.ret ?_
 have hb_60c := st_55.cap (i := 1) rfl
 obtain ⟨T_56, hs_57, hm_58, st_59⟩ := St.freeze (A := [_]) (B := [_, _]) (T := T) (R := R) st_55
 have hb_60 : HS w T_56 T_56 A_43 n_45 c_44 (f81 w) m_40 := HS.mk hn_48 hb_60c (Hd.of_sl hm_58) (hx_51.mono (fun _ h_ => hs_57.1 _ h_))
 replace st_59 : St w w_54 (.sl (some ⟨B_32, 0, none⟩) 1 1 x_37 81 2 :: .cells B_5 (([.int .i64 a0_0] : Cs) ++ (([.slice A0_1 n0_1 c0_1] : Cs) ++ (([.slice A0_2 n0_2 c0_2] : Cs) ++ (([.int .i64 a0_3] : Cs) ++ (([.bool a0_4] : Cs) ++ ([.slice A_43 n_45 c_44] : Cs)))))) 48 :: .cells B_1 (([.int .i64 a0_0] : Cs) ++ (([.slice A0_1 n0_1 c0_1] : Cs) ++ (([.slice A0_2 n0_2 c0_2] : Cs) ++ (([.int .i64 a0_3] : Cs) ++ (([.bool a0_4] : Cs) ++ ([.slice A_43 n_45 c_44] : Cs)))))) 48 :: (T_56 ++ R)) := st_59
 obtain ⟨rfl, rfl, rfl, rfl, rfl, rfl⟩ := H
 exact QW.retN1 rfl (Res.row rfl row48 st_59 (i := 1) rfl (by first | rfl | simp only [List.length_append, List.length_cons, List.length_nil, iv_length])) ⟨T_56, A0_1, n0_1, c0_1, A0_2, n0_2, c0_2, A_43, n_45, c_44, hs_57, (hb0_1.mono (fun _ h_ => hs_57.1 _ h_) (fun _ h_ => hs_57.1 _ h_)), (hb0_2.mono (fun _ h_ => hs_57.1 _ h_) (fun _ h_ => hs_57.1 _ h_)), hb_60, rfl, (St.pickT (L := [_, _, _]) st_59 [] (by decide))⟩

/-! ### reliquaryref06_Write: function 31 -/
def reliquaryref06_Write.rel (a0_0 : Int) (l0_1 : List R86) (l0_2 : List R86) (a0_3 : Int) (a0_4 : Bool) (l0_5 : List R81) (a1 : Int) (a2 : ByteArray) (ar0_0 : Int) (lr0_1 : List R86) (lr0_2 : List R86) (ar0_3 : Int) (ar0_4 : Bool) (lr0_5 : List R81) (ar1 : Int) : Prop := ((a0_4 = true ∧ ar0_0 = a0_0 ∧ lr0_1 = l0_1 ∧ lr0_2 = l0_2 ∧ ar0_3 = a0_3 ∧ ar0_4 = a0_4 ∧ lr0_5 = l0_5 ∧ ar1 = 13) ∨ (¬ (a0_4 = true) ∧ (∃ (a_18 : Int), reliquaryref06_fits.rel a0_0 l0_1 l0_2 a0_3 a0_4 l0_5 a1 a2 a_18 ∧ ((a_18 ≠ 0 ∧ ar0_0 = a0_0 ∧ lr0_1 = l0_1 ∧ lr0_2 = l0_2 ∧ ar0_3 = a0_3 ∧ ar0_4 = a0_4 ∧ lr0_5 = l0_5 ∧ ar1 = a_18) ∨ (¬ (a_18 ≠ 0) ∧ ((a0_3 = 0 ∧ ar0_0 = a0_0 ∧ lr0_1 = l0_1 ∧ lr0_2 = l0_2 ∧ ar0_3 = a0_3 ∧ ar0_4 = true ∧ lr0_5 = l0_5 ∧ ar1 = 13) ∨ (¬ (a0_3 = 0) ∧ ((a0_3 > 0 ∧ (∃ (l_44 : List R86), reliquaryref06_more.rel l0_2 a1 a2 l_44 ∧ (∃ (a_63_0 : Int) (l_67_1 : List R86) (l_67_2 : List R86) (a_63_3 : Int) (a_63_4 : Bool) (l_67_5 : List R81), reliquaryref06_noted.rel a0_0 l0_1 l_44 (IntKind.i64.wrap (a0_3 - 1)) a0_4 l0_5 2 a1 a_63_0 l_67_1 l_67_2 a_63_3 a_63_4 l_67_5 ∧ ar0_0 = a_63_0 ∧ lr0_1 = l_67_1 ∧ lr0_2 = l_67_2 ∧ ar0_3 = a_63_3 ∧ ar0_4 = a_63_4 ∧ lr0_5 = l_67_5 ∧ ar1 = 0))) ∨ (¬ (a0_3 > 0) ∧ (∃ (l_83 : List R86), reliquaryref06_more.rel l0_2 a1 a2 l_83 ∧ (∃ (a_102_0 : Int) (l_106_1 : List R86) (l_106_2 : List R86) (a_102_3 : Int) (a_102_4 : Bool) (l_106_5 : List R81), reliquaryref06_noted.rel a0_0 l0_1 l_83 a0_3 a0_4 l0_5 2 a1 a_102_0 l_106_1 l_106_2 a_102_3 a_102_4 l_106_5 ∧ ar0_0 = a_102_0 ∧ lr0_1 = l_106_1 ∧ lr0_2 = l_106_2 ∧ ar0_3 = a_102_3 ∧ ar0_4 = a_102_4 ∧ lr0_5 = l_106_5 ∧ ar1 = 0)))))))))))
set_option maxHeartbeats 1000000 in
set_option maxRecDepth 100000 in
theorem reliquaryref06_Write.calls (w w1 : World) (T R : Pool) (a0_0 : Int) (l0_1 : List R86) (l0_2 : List R86) (a0_3 : Int) (a0_4 : Bool) (l0_5 : List R81) (a1 : Int) (a2 : ByteArray) (A0_1 : Option Addr) (n0_1 : Nat) (c0_1 : Nat) (A0_2 : Option Addr) (n0_2 : Nat) (c0_2 : Nat) (A0_5 : Option Addr) (n0_5 : Nat) (c0_5 : Nat) (st0 : St w w1 ((T ++ R))) (hb0_1 : HS w T T A0_1 n0_1 c0_1 (f86 w) l0_1) (hb0_2 : HS w T T A0_2 n0_2 c0_2 (f86 w) l0_2) (hb0_5 : HS w T T A0_5 n0_5 c0_5 (f81 w) l0_5) (ar0_0 : Int) (lr0_1 : List R86) (lr0_2 : List R86) (ar0_3 : Int) (ar0_4 : Bool) (lr0_5 : List R81) (ar1 : Int) (H : reliquaryref06_Write.rel a0_0 l0_1 l0_2 a0_3 a0_4 l0_5 a1 a2 ar0_0 lr0_1 lr0_2 ar0_3 ar0_4 lr0_5 ar1) :
  Calls Try.prog 31 #[.agg (([.int .i64 a0_0] : Cs) ++ (([.slice A0_1 n0_1 c0_1] : Cs) ++ (([.slice A0_2 n0_2 c0_2] : Cs) ++ (([.int .i64 a0_3] : Cs) ++ (([.bool a0_4] : Cs) ++ ([.slice A0_5 n0_5 c0_5] : Cs)))))).toArray, .int .i64 a1, .string a2] w1 fun e w' => ∃ T' Ar0_1 nr0_1 cr0_1 Ar0_2 nr0_2 cr0_2 Ar0_5 nr0_5 cr0_5, Pl T T' ∧ HS w T' T' Ar0_1 nr0_1 cr0_1 (f86 w) lr0_1 ∧ HS w T' T' Ar0_2 nr0_2 cr0_2 (f86 w) lr0_2 ∧ HS w T' T' Ar0_5 nr0_5 cr0_5 (f81 w) lr0_5 ∧ e = .returned (.tuple #[.agg (([.int .i64 ar0_0] : Cs) ++ (([.slice Ar0_1 nr0_1 cr0_1] : Cs) ++ (([.slice Ar0_2 nr0_2 cr0_2] : Cs) ++ (([.int .i64 ar0_3] : Cs) ++ (([.bool ar0_4] : Cs) ++ ([.slice Ar0_5 nr0_5 cr0_5] : Cs)))))).toArray, .int .i64 ar1]) ∧ St w w' ((T' ++ R)) := by
 refine CW.enter Try.func31 rfl (n := 42) rfl [.agg (([.int .i64 a0_0] : Cs) ++ (([.slice A0_1 n0_1 c0_1] : Cs) ++ (([.slice A0_2 n0_2 c0_2] : Cs) ++ (([.int .i64 a0_3] : Cs) ++ (([.bool a0_4] : Cs) ++ ([.slice A0_5 n0_5 c0_5] : Cs)))))).toArray, .int .i64 a1, .string a2] (Nat.le_of_ble_eq_true rfl) ?_
 refine CW.sub [(0, .agg (([.int .i64 a0_0] : Cs) ++ (([.slice A0_1 n0_1 c0_1] : Cs) ++ (([.slice A0_2 n0_2 c0_2] : Cs) ++ (([.int .i64 a0_3] : Cs) ++ (([.bool a0_4] : Cs) ++ ([.slice A0_5 n0_5 c0_5] : Cs)))))).toArray), (1, .int .i64 a1), (2, .string a2)] ⟨rfl, rfl, rfl, trivial⟩ ?_
 refine CW.seq (CW.region ?_)
 refine WL.box st0 rfl rfl ?_
 intro B_1 w_2 st_3
 replace st_3 : St w w_2 (.cells B_1 (([.int .i64 a0_0] : Cs) ++ (([.slice A0_1 n0_1 c0_1] : Cs) ++ (([.slice A0_2 n0_2 c0_2] : Cs) ++ (([.int .i64 a0_3] : Cs) ++ (([.bool a0_4] : Cs) ++ ([.slice A0_5 n0_5 c0_5] : Cs)))))) 48 :: (T ++ R)) := st_3
 refine WL.alloc st_3 zero48 ?_
 intro B_5 w_6 st_7
 replace st_7 : St w w_6 (.cells B_5 (([.int .i64 0] : Cs) ++ (([.slice none 0 0] : Cs) ++ (([.slice none 0 0] : Cs) ++ (([.int .i64 0] : Cs) ++ (([.bool false] : Cs) ++ ([.slice none 0 0] : Cs)))))) 48 :: .cells B_1 (([.int .i64 a0_0] : Cs) ++ (([.slice A0_1 n0_1 c0_1] : Cs) ++ (([.slice A0_2 n0_2 c0_2] : Cs) ++ (([.int .i64 a0_3] : Cs) ++ (([.bool a0_4] : Cs) ++ ([.slice A0_5 n0_5 c0_5] : Cs)))))) 48 :: (T ++ R)) := st_7
 refine WL.val Wanted.none (Runs.assign rfl) ?_
 refine WL.nil (QW.then_n ?_)
 refine CW.seq ?_
 refine CW.seq (CW.region ?_)
 refine WL.val Wanted.none (Runs.fieldAddr (off := 4) (p := 4) fld48_4 rfl rfl rfl) ?_
 refine WL.val Wanted.none (Runs.load nagg4 rfl (st_7.cell (k := 1) rfl (part_one (u := .bool a0_4) (pre := (([.int .i64 a0_0] : Cs) ++ (([.slice A0_1 n0_1 c0_1] : Cs) ++ (([.slice A0_2 n0_2 c0_2] : Cs) ++ ([.int .i64 a0_3] : Cs))))) (post := (([.slice A0_5 n0_5 c0_5] : Cs))) (by first | rfl | simp only [List.append_assoc, List.append_nil, List.nil_append, List.cons_append]) (by first | rfl | simp only [List.length_append, List.length_cons, List.length_nil, iv_length])))) ?_
 refine WL.nil (QW.then_n ?_)
 rcases H with ⟨c_9, H⟩ | ⟨c_9, H⟩
 ·have h_10 : a0_4 = true := c_9
  refine CW.ct rfl h_10 ?_
  refine CW.seq (CW.region ?_)
  refine WL.val Wanted.none (Runs.load_mid row48 rfl st_7 (i := 1) rfl (part_mid (pre := (([] : Cs))) (mid := (([.int .i64 a0_0] : Cs) ++ (([.slice A0_1 n0_1 c0_1] : Cs) ++ (([.slice A0_2 n0_2 c0_2] : Cs) ++ (([.int .i64 a0_3] : Cs) ++ (([.bool a0_4] : Cs) ++ ([.slice A0_5 n0_5 c0_5] : Cs))))))) (post := (([] : Cs))) (by first | rfl | simp only [List.append_assoc, List.append_nil, List.nil_append, List.cons_append]) (by first | rfl | simp only [List.length_append, List.length_cons, List.length_nil, iv_length]) (by first | rfl | simp only [List.length_append, List.length_cons, List.length_nil, iv_length])) (by first | rfl | simp only [List.length_append, List.length_cons, List.length_nil, iv_length])) ?_
  refine WL.store_mid (i := 0) (pre := (([] : Cs))) (mid := (([.int .i64 0] : Cs) ++ (([.slice none 0 0] : Cs) ++ (([.slice none 0 0] : Cs) ++ (([.int .i64 0] : Cs) ++ (([.bool false] : Cs) ++ ([.slice none 0 0] : Cs))))))) (post := (([] : Cs))) (ms := (([.int .i64 a0_0] : Cs) ++ (([.slice A0_1 n0_1 c0_1] : Cs) ++ (([.slice A0_2 n0_2 c0_2] : Cs) ++ (([.int .i64 a0_3] : Cs) ++ (([.bool a0_4] : Cs) ++ ([.slice A0_5 n0_5 c0_5] : Cs))))))) st_7 rfl row48 (by first | rfl | simp only [List.append_assoc, List.append_nil, List.nil_append, List.cons_append]) (by first | rfl | simp only [List.length_append, List.length_cons, List.length_nil, iv_length]) rfl rfl (by first | rfl | simp only [List.length_append, List.length_cons, List.length_nil, iv_length]) (by first | rfl | simp only [List.length_append, List.length_cons, List.length_nil, iv_length]) (by intro u hu; simp only [List.mem_append, List.mem_singleton] at hu; rcases hu with hu | hu | hu | hu | hu | hu <;> first | exact one_iv _ _ u hu | (subst hu; rfl)) ?_
  intro w_11 st_12
  replace st_12 : St w w_11 (.cells B_5 (([.int .i64 a0_0] : Cs) ++ (([.slice A0_1 n0_1 c0_1] : Cs) ++ (([.slice A0_2 n0_2 c0_2] : Cs) ++ (([.int .i64 a0_3] : Cs) ++ (([.bool a0_4] : Cs) ++ ([.slice A0_5 n0_5 c0_5] : Cs)))))) 48 :: .cells B_1 (([.int .i64 a0_0] : Cs) ++ (([.slice A0_1 n0_1 c0_1] : Cs) ++ (([.slice A0_2 n0_2 c0_2] : Cs) ++ (([.int .i64 a0_3] : Cs) ++ (([.bool a0_4] : Cs) ++ ([.slice A0_5 n0_5 c0_5] : Cs)))))) 48 :: (T ++ R)) := by have e_ : (([.int .i64 a0_0] : Cs) ++ (([.slice A0_1 n0_1 c0_1] : Cs) ++ (([.slice A0_2 n0_2 c0_2] : Cs) ++ (([.int .i64 a0_3] : Cs) ++ (([.bool a0_4] : Cs) ++ ([.slice A0_5 n0_5 c0_5] : Cs)))))) = (([] : Cs)) ++ ((([.int .i64 a0_0] : Cs) ++ (([.slice A0_1 n0_1 c0_1] : Cs) ++ (([.slice A0_2 n0_2 c0_2] : Cs) ++ (([.int .i64 a0_3] : Cs) ++ (([.bool a0_4] : Cs) ++ ([.slice A0_5 n0_5 c0_5] : Cs)))))) ++ (([] : Cs))) := (by first | rfl | simp only [List.append_assoc, List.append_nil, List.nil_append, List.cons_append]); have h_ : St w w_11 (.cells B_5 ((([] : Cs)) ++ ((([.int .i64 a0_0] : Cs) ++ (([.slice A0_1 n0_1 c0_1] : Cs) ++ (([.slice A0_2 n0_2 c0_2] : Cs) ++ (([.int .i64 a0_3] : Cs) ++ (([.bool a0_4] : Cs) ++ ([.slice A0_5 n0_5 c0_5] : Cs)))))) ++ (([] : Cs)))) 48 :: .cells B_1 (([.int .i64 a0_0] : Cs) ++ (([.slice A0_1 n0_1 c0_1] : Cs) ++ (([.slice A0_2 n0_2 c0_2] : Cs) ++ (([.int .i64 a0_3] : Cs) ++ (([.bool a0_4] : Cs) ++ ([.slice A0_5 n0_5 c0_5] : Cs)))))) 48 :: (T ++ R)) := st_12; rw [← e_] at h_; exact h_
  refine WL.val Wanted.none (Runs.assign rfl) ?_
  refine WL.nil (QW.then_n ?_)
  refine CW.ret ?_
  refine QW.then_r ?_
  obtain ⟨rfl, rfl, rfl, rfl, rfl, rfl, rfl⟩ := H
  exact QW.retN2 rfl (Res.row rfl row48 st_12 (i := 0) rfl (by first | rfl | simp only [List.length_append, List.length_cons, List.length_nil, iv_length])) (Res.tmp rfl) ⟨T, A0_1, n0_1, c0_1, A0_2, n0_2, c0_2, A0_5, n0_5, c0_5, Pl.refl, hb0_1, hb0_2, hb0_5, rfl, (St.pickT (L := [_, _]) st_12 [] (by decide))⟩
 ·have h_10 : a0_4 = false := (Bool.eq_false_iff.mpr c_9)
  refine CW.cf rfl h_10 ?_
  refine CW.skip ?_
  refine QW.then_n ?_
  refine CW.seq (CW.region ?_)
  refine WL.val Wanted.none (Runs.load_mid row48 rfl st_7 (i := 1) rfl (part_mid (pre := (([] : Cs))) (mid := (([.int .i64 a0_0] : Cs) ++ (([.slice A0_1 n0_1 c0_1] : Cs) ++ (([.slice A0_2 n0_2 c0_2] : Cs) ++ (([.int .i64 a0_3] : Cs) ++ (([.bool a0_4] : Cs) ++ ([.slice A0_5 n0_5 c0_5] : Cs))))))) (post := (([] : Cs))) (by first | rfl | simp only [List.append_assoc, List.append_nil, List.nil_append, List.cons_append]) (by first | rfl | simp only [List.length_append, List.length_cons, List.length_nil, iv_length]) (by first | rfl | simp only [List.length_append, List.length_cons, List.length_nil, iv_length])) (by first | rfl | simp only [List.length_append, List.length_cons, List.length_nil, iv_length])) ?_
  refine WL.val Wanted.none (Runs.move rfl) ?_
  refine WL.val Wanted.none (Runs.move rfl) ?_
  have st_13 : St w w_6 ((T ++ (.cells B_5 (([.int .i64 0] : Cs) ++ (([.slice none 0 0] : Cs) ++ (([.slice none 0 0] : Cs) ++ (([.int .i64 0] : Cs) ++ (([.bool false] : Cs) ++ ([.slice none 0 0] : Cs)))))) 48 :: .cells B_1 (([.int .i64 a0_0] : Cs) ++ (([.slice A0_1 n0_1 c0_1] : Cs) ++ (([.slice A0_2 n0_2 c0_2] : Cs) ++ (([.int .i64 a0_3] : Cs) ++ (([.bool a0_4] : Cs) ++ ([.slice A0_5 n0_5 c0_5] : Cs)))))) 48 :: R))) := St.hide (A := []) (B := [_, _]) (T := T) (R := R) st_7
  obtain ⟨a_18, hr_14, H⟩ := H
  refine WL.call Wanted.none ent44 rfl (reliquaryref06_fits.calls w w_6 T (.cells B_5 (([.int .i64 0] : Cs) ++ (([.slice none 0 0] : Cs) ++ (([.slice none 0 0] : Cs) ++ (([.int .i64 0] : Cs) ++ (([.bool false] : Cs) ++ ([.slice none 0 0] : Cs)))))) 48 :: .cells B_1 (([.int .i64 a0_0] : Cs) ++ (([.slice A0_1 n0_1 c0_1] : Cs) ++ (([.slice A0_2 n0_2 c0_2] : Cs) ++ (([.int .i64 a0_3] : Cs) ++ (([.bool a0_4] : Cs) ++ ([.slice A0_5 n0_5 c0_5] : Cs)))))) 48 :: R) a0_0 l0_1 l0_2 a0_3 a0_4 l0_5 a1 a2 A0_1 n0_1 c0_1 A0_2 n0_2 c0_2 A0_5 n0_5 c0_5  st_13 hb0_1 hb0_2 hb0_5 a_18 hr_14) ?_
  rintro _ w_19 ⟨T_15, hs_16, rfl, sc_21⟩
  have st_20 : St w w_19 (.cells B_5 (([.int .i64 0] : Cs) ++ (([.slice none 0 0] : Cs) ++ (([.slice none 0 0] : Cs) ++ (([.int .i64 0] : Cs) ++ (([.bool false] : Cs) ++ ([.slice none 0 0] : Cs)))))) 48 :: .cells B_1 (([.int .i64 a0_0] : Cs) ++ (([.slice A0_1 n0_1 c0_1] : Cs) ++ (([.slice A0_2 n0_2 c0_2] : Cs) ++ (([.int .i64 a0_3] : Cs) ++ (([.bool a0_4] : Cs) ++ ([.slice A0_5 n0_5 c0_5] : Cs)))))) 48 :: (T_15 ++ R)) := St.unhide (A := []) (B := [_, _]) (T := T_15) (R := R) sc_21
  refine ⟨_, rfl, ?_⟩
  refine WL.val Wanted.none (Runs.assign rfl) ?_
  refine WL.nil (QW.then_n ?_)
  refine CW.sub [(1, .int .i64 a1), (2, .string a2), (3, .pointer (some ⟨B_1, 0, none⟩)), (6, .pointer (some ⟨B_5, 0, none⟩)), (7, .int .i64 0), (8, .int .i64 a_18)] (by repeat' constructor) ?_
  refine CW.seq ?_
  refine CW.seq (CW.region ?_)
  refine WL.val Wanted.none (Runs.move rfl) ?_
  refine WL.val Wanted.none (Runs.neq rfl rfl rfl) ?_
  refine WL.nil (QW.then_n ?_)
  rcases H with ⟨c_22, H⟩ | ⟨c_22, H⟩
  ·have h_23 : (a_18 != 0) = true := (bne_iff_ne.mpr c_22)
   refine CW.ct rfl h_23 ?_
   refine CW.seq (CW.region ?_)
   refine WL.val Wanted.none (Runs.load_mid row48 rfl st_20 (i := 1) rfl (part_mid (pre := (([] : Cs))) (mid := (([.int .i64 a0_0] : Cs) ++ (([.slice A0_1 n0_1 c0_1] : Cs) ++ (([.slice A0_2 n0_2 c0_2] : Cs) ++ (([.int .i64 a0_3] : Cs) ++ (([.bool a0_4] : Cs) ++ ([.slice A0_5 n0_5 c0_5] : Cs))))))) (post := (([] : Cs))) (by first | rfl | simp only [List.append_assoc, List.append_nil, List.nil_append, List.cons_append]) (by first | rfl | simp only [List.length_append, List.length_cons, List.length_nil, iv_length]) (by first | rfl | simp only [List.length_append, List.length_cons, List.length_nil, iv_length])) (by first | rfl | simp only [List.length_append, List.length_cons, List.length_nil, iv_length])) ?_
   refine WL.val Wanted.none (Runs.move rfl) ?_
   refine WL.store_mid (i := 0) (pre := (([] : Cs))) (mid := (([.int .i64 0] : Cs) ++ (([.slice none 0 0] : Cs) ++ (([.slice none 0 0] : Cs) ++ (([.int .i64 0] : Cs) ++ (([.bool false] : Cs) ++ ([.slice none 0 0] : Cs))))))) (post := (([] : Cs))) (ms := (([.int .i64 a0_0] : Cs) ++ (([.slice A0_1 n0_1 c0_1] : Cs) ++ (([.slice A0_2 n0_2 c0_2] : Cs) ++ (([.int .i64 a0_3] : Cs) ++ (([.bool a0_4] : Cs) ++ ([.slice A0_5 n0_5 c0_5] : Cs))))))) st_20 rfl row48 (by first | rfl | simp only [List.append_assoc, List.append_nil, List.nil_append, List.cons_append]) (by first | rfl | simp only [List.length_append, List.length_cons, List.length_nil, iv_length]) rfl rfl (by first | rfl | simp only [List.length_append, List.length_cons, List.length_nil, iv_length]) (by first | rfl | simp only [List.length_append, List.length_cons, List.length_nil, iv_length]) (by intro u hu; simp only [List.mem_append, List.mem_singleton] at hu; rcases hu with hu | hu | hu | hu | hu | hu <;> first | exact one_iv _ _ u hu | (subst hu; rfl)) ?_
   intro w_24 st_25
   replace st_25 : St w w_24 (.cells B_5 (([.int .i64 a0_0] : Cs) ++ (([.slice A0_1 n0_1 c0_1] : Cs) ++ (([.slice A0_2 n0_2 c0_2] : Cs) ++ (([.int .i64 a0_3] : Cs) ++ (([.bool a0_4] : Cs) ++ ([.slice A0_5 n0_5 c0_5] : Cs)))))) 48 :: .cells B_1 (([.int .i64 a0_0] : Cs) ++ (([.slice A0_1 n0_1 c0_1] : Cs) ++ (([.slice A0_2 n0_2 c0_2] : Cs) ++ (([.int .i64 a0_3] : Cs) ++ (([.bool a0_4] : Cs) ++ ([.slice A0_5 n0_5 c0_5] : Cs)))))) 48 :: (T_15 ++ R)) := by have e_ : (([.int .i64 a0_0] : Cs) ++ (([.slice A0_1 n0_1 c0_1] : Cs) ++ (([.slice A0_2 n0_2 c0_2] : Cs) ++ (([.int .i64 a0_3] : Cs) ++ (([.bool a0_4] : Cs) ++ ([.slice A0_5 n0_5 c0_5] : Cs)))))) = (([] : Cs)) ++ ((([.int .i64 a0_0] : Cs) ++ (([.slice A0_1 n0_1 c0_1] : Cs) ++ (([.slice A0_2 n0_2 c0_2] : Cs) ++ (([.int .i64 a0_3] : Cs) ++ (([.bool a0_4] : Cs) ++ ([.slice A0_5 n0_5 c0_5] : Cs)))))) ++ (([] : Cs))) := (by first | rfl | simp only [List.append_assoc, List.append_nil, List.nil_append, List.cons_append]); have h_ : St w w_24 (.cells B_5 ((([] : Cs)) ++ ((([.int .i64 a0_0] : Cs) ++ (([.slice A0_1 n0_1 c0_1] : Cs) ++ (([.slice A0_2 n0_2 c0_2] : Cs) ++ (([.int .i64 a0_3] : Cs) ++ (([.bool a0_4] : Cs) ++ ([.slice A0_5 n0_5 c0_5] : Cs)))))) ++ (([] : Cs)))) 48 :: .cells B_1 (([.int .i64 a0_0] : Cs) ++ (([.slice A0_1 n0_1 c0_1] : Cs) ++ (([.slice A0_2 n0_2 c0_2] : Cs) ++ (([.int .i64 a0_3] : Cs) ++ (([.bool a0_4] : Cs) ++ ([.slice A0_5 n0_5 c0_5] : Cs)))))) 48 :: (T_15 ++ R)) := st_25; rw [← e_] at h_; exact h_
   refine WL.val Wanted.none (Runs.assign rfl) ?_
   refine WL.nil (QW.then_n ?_)
   refine CW.ret ?_
   refine QW.then_r ?_
   obtain ⟨rfl, rfl, rfl, rfl, rfl, rfl, rfl⟩ := H
   exact QW.retN2 rfl (Res.row rfl row48 st_25 (i := 0) rfl (by first | rfl | simp only [List.length_append, List.length_cons, List.length_nil, iv_length])) (Res.tmp rfl) ⟨T_15, A0_1, n0_1, c0_1, A0_2, n0_2, c0_2, A0_5, n0_5, c0_5, hs_16, (hb0_1.mono (fun _ h_ => hs_16.1 _ h_) (fun _ h_ => hs_16.1 _ h_)), (hb0_2.mono (fun _ h_ => hs_16.1 _ h_) (fun _ h_ => hs_16.1 _ h_)), (hb0_5.mono (fun _ h_ => hs_16.1 _ h_) (fun _ h_ => hs_16.1 _ h_)), rfl, (St.pickT (L := [_, _]) st_25 [] (by decide))⟩
  ·have h_23 : (a_18 != 0) = false := (bne_eq_false_iff_eq.mpr (Decidable.not_not.mp c_22))
   refine CW.cf rfl h_23 ?_
   refine CW.skip ?_
   refine QW.then_n ?_
   refine CW.seq ?_
   refine CW.seq (CW.region ?_)
   refine WL.val Wanted.none (Runs.fieldAddr (off := 3) (p := 3) fld48_3 rfl rfl rfl) ?_
   refine WL.val Wanted.none (Runs.load nagg3 rfl (st_20.cell (k := 1) rfl (part_one (u := .int .i64 a0_3) (pre := (([.int .i64 a0_0] : Cs) ++ (([.slice A0_1 n0_1 c0_1] : Cs) ++ ([.slice A0_2 n0_2 c0_2] : Cs)))) (post := (([.bool a0_4] : Cs) ++ ([.slice A0_5 n0_5 c0_5] : Cs))) (by first | rfl | simp only [List.append_assoc, List.append_nil, List.nil_append, List.cons_append]) (by first | rfl | simp only [List.length_append, List.length_cons, List.length_nil, iv_length])))) ?_
   refine WL.val Wanted.none (Runs.eql rfl rfl rfl) ?_
   refine WL.nil (QW.then_n ?_)
   rcases H with ⟨c_26, H⟩ | ⟨c_26, H⟩
   ·have h_27 : (a0_3 == 0) = true := (beq_iff_eq.mpr c_26)
    refine CW.ct rfl h_27 ?_
    refine CW.seq (CW.region ?_)
    refine WL.val Wanted.none (Runs.fieldAddr (off := 4) (p := 4) fld48_4 rfl rfl rfl) ?_
    refine WL.store_one (i := 1) (u0 := .bool a0_4) (pre := (([.int .i64 a0_0] : Cs) ++ (([.slice A0_1 n0_1 c0_1] : Cs) ++ (([.slice A0_2 n0_2 c0_2] : Cs) ++ ([.int .i64 a0_3] : Cs))))) (post := (([.slice A0_5 n0_5 c0_5] : Cs))) st_20 rfl cells4 (by first | rfl | simp only [List.append_assoc, List.append_nil, List.nil_append, List.cons_append]) (by first | rfl | simp only [List.length_append, List.length_cons, List.length_nil, iv_length]) rfl rfl rfl ?_
    intro w_28 st_29
    replace st_29 : St w w_28 (.cells B_5 (([.int .i64 0] : Cs) ++ (([.slice none 0 0] : Cs) ++ (([.slice none 0 0] : Cs) ++ (([.int .i64 0] : Cs) ++ (([.bool false] : Cs) ++ ([.slice none 0 0] : Cs)))))) 48 :: .cells B_1 (([.int .i64 a0_0] : Cs) ++ (([.slice A0_1 n0_1 c0_1] : Cs) ++ (([.slice A0_2 n0_2 c0_2] : Cs) ++ (([.int .i64 a0_3] : Cs) ++ (([.bool true] : Cs) ++ ([.slice A0_5 n0_5 c0_5] : Cs)))))) 48 :: (T_15 ++ R)) := by have e_ : (([.int .i64 a0_0] : Cs) ++ (([.slice A0_1 n0_1 c0_1] : Cs) ++ (([.slice A0_2 n0_2 c0_2] : Cs) ++ (([.int .i64 a0_3] : Cs) ++ (([.bool true] : Cs) ++ ([.slice A0_5 n0_5 c0_5] : Cs)))))) = (([.int .i64 a0_0] : Cs) ++ (([.slice A0_1 n0_1 c0_1] : Cs) ++ (([.slice A0_2 n0_2 c0_2] : Cs) ++ ([.int .i64 a0_3] : Cs)))) ++ ((([.bool true] : Cs)) ++ (([.slice A0_5 n0_5 c0_5] : Cs))) := (by first | rfl | simp only [List.append_assoc, List.append_nil, List.nil_append, List.cons_append]); have h_ : St w w_28 (.cells B_5 (([.int .i64 0] : Cs) ++ (([.slice none 0 0] : Cs) ++ (([.slice none 0 0] : Cs) ++ (([.int .i64 0] : Cs) ++ (([.bool false] : Cs) ++ ([.slice none 0 0] : Cs)))))) 48 :: .cells B_1 ((([.int .i64 a0_0] : Cs) ++ (([.slice A0_1 n0_1 c0_1] : Cs) ++ (([.slice A0_2 n0_2 c0_2] : Cs) ++ ([.int .i64 a0_3] : Cs)))) ++ ((([.bool true] : Cs)) ++ (([.slice A0_5 n0_5 c0_5] : Cs)))) 48 :: (T_15 ++ R)) := st_29; rw [← e_] at h_; exact h_
    refine WL.nil (QW.then_n ?_)
    refine CW.sub [(1, .int .i64 a1), (2, .string a2), (3, .pointer (some ⟨B_1, 0, none⟩)), (6, .pointer (some ⟨B_5, 0, none⟩)), (7, .int .i64 0)] ⟨rfl, rfl, rfl, rfl, rfl, trivial⟩ ?_
    refine CW.seq (CW.region ?_)
    refine WL.val Wanted.none (Runs.load_mid row48 rfl st_29 (i := 1) rfl (part_mid (pre := (([] : Cs))) (mid := (([.int .i64 a0_0] : Cs) ++ (([.slice A0_1 n0_1 c0_1] : Cs) ++ (([.slice A0_2 n0_2 c0_2] : Cs) ++ (([.int .i64 a0_3] : Cs) ++ (([.bool true] : Cs) ++ ([.slice A0_5 n0_5 c0_5] : Cs))))))) (post := (([] : Cs))) (by first | rfl | simp only [List.append_assoc, List.append_nil, List.nil_append, List.cons_append]) (by first | rfl | simp only [List.length_append, List.length_cons, List.length_nil, iv_length]) (by first | rfl | simp only [List.length_append, List.length_cons, List.length_nil, iv_length])) (by first | rfl | simp only [List.length_append, List.length_cons, List.length_nil, iv_length])) ?_
    refine WL.store_mid (i := 0) (pre := (([] : Cs))) (mid := (([.int .i64 0] : Cs) ++ (([.slice none 0 0] : Cs) ++ (([.slice none 0 0] : Cs) ++ (([.int .i64 0] : Cs) ++ (([.bool false] : Cs) ++ ([.slice none 0 0] : Cs))))))) (post := (([] : Cs))) (ms := (([.int .i64 a0_0] : Cs) ++ (([.slice A0_1 n0_1 c0_1] : Cs) ++ (([.slice A0_2 n0_2 c0_2] : Cs) ++ (([.int .i64 a0_3] : Cs) ++ (([.bool true] : Cs) ++ ([.slice A0_5 n0_5 c0_5] : Cs))))))) st_29 rfl row48 (by first | rfl | simp only [List.append_assoc, List.append_nil, List.nil_append, List.cons_append]) (by first | rfl | simp only [List.length_append, List.length_cons, List.length_nil, iv_length]) rfl rfl (by first | rfl | simp only [List.length_append, List.length_cons, List.length_nil, iv_length]) (by first | rfl | simp only [List.length_append, List.length_cons, List.length_nil, iv_length]) (by intro u hu; simp only [List.mem_append, List.mem_singleton] at hu; rcases hu with hu | hu | hu | hu | hu | hu <;> first | exact one_iv _ _ u hu | (subst hu; rfl)) ?_
    intro w_30 st_31
    replace st_31 : St w w_30 (.cells B_5 (([.int .i64 a0_0] : Cs) ++ (([.slice A0_1 n0_1 c0_1] : Cs) ++ (([.slice A0_2 n0_2 c0_2] : Cs) ++ (([.int .i64 a0_3] : Cs) ++ (([.bool true] : Cs) ++ ([.slice A0_5 n0_5 c0_5] : Cs)))))) 48 :: .cells B_1 (([.int .i64 a0_0] : Cs) ++ (([.slice A0_1 n0_1 c0_1] : Cs) ++ (([.slice A0_2 n0_2 c0_2] : Cs) ++ (([.int .i64 a0_3] : Cs) ++ (([.bool true] : Cs) ++ ([.slice A0_5 n0_5 c0_5] : Cs)))))) 48 :: (T_15 ++ R)) := by have e_ : (([.int .i64 a0_0] : Cs) ++ (([.slice A0_1 n0_1 c0_1] : Cs) ++ (([.slice A0_2 n0_2 c0_2] : Cs) ++ (([.int .i64 a0_3] : Cs) ++ (([.bool true] : Cs) ++ ([.slice A0_5 n0_5 c0_5] : Cs)))))) = (([] : Cs)) ++ ((([.int .i64 a0_0] : Cs) ++ (([.slice A0_1 n0_1 c0_1] : Cs) ++ (([.slice A0_2 n0_2 c0_2] : Cs) ++ (([.int .i64 a0_3] : Cs) ++ (([.bool true] : Cs) ++ ([.slice A0_5 n0_5 c0_5] : Cs)))))) ++ (([] : Cs))) := (by first | rfl | simp only [List.append_assoc, List.append_nil, List.nil_append, List.cons_append]); have h_ : St w w_30 (.cells B_5 ((([] : Cs)) ++ ((([.int .i64 a0_0] : Cs) ++ (([.slice A0_1 n0_1 c0_1] : Cs) ++ (([.slice A0_2 n0_2 c0_2] : Cs) ++ (([.int .i64 a0_3] : Cs) ++ (([.bool true] : Cs) ++ ([.slice A0_5 n0_5 c0_5] : Cs)))))) ++ (([] : Cs)))) 48 :: .cells B_1 (([.int .i64 a0_0] : Cs) ++ (([.slice A0_1 n0_1 c0_1] : Cs) ++ (([.slice A0_2 n0_2 c0_2] : Cs) ++ (([.int .i64 a0_3] : Cs) ++ (([.bool true] : Cs) ++ ([.slice A0_5 n0_5 c0_5] : Cs)))))) 48 :: (T_15 ++ R)) := st_31; rw [← e_] at h_; exact h_
    refine WL.val Wanted.none (Runs.assign rfl) ?_
    refine WL.nil (QW.then_n ?_)
    refine CW.ret ?_
    refine QW.then_r ?_
    obtain ⟨rfl, rfl, rfl, rfl, rfl, rfl, rfl⟩ := H
    exact QW.retN2 rfl (Res.row rfl row48 st_31 (i := 0) rfl (by first | rfl | simp only [List.length_append, List.length_cons, List.length_nil, iv_length])) (Res.tmp rfl) ⟨T_15, A0_1, n0_1, c0_1, A0_2, n0_2, c0_2, A0_5, n0_5, c0_5, hs_16, (hb0_1.mono (fun _ h_ => hs_16.1 _ h_) (fun _ h_ => hs_16.1 _ h_)), (hb0_2.mono (fun _ h_ => hs_16.1 _ h_) (fun _ h_ => hs_16.1 _ h_)), (hb0_5.mono (fun _ h_ => hs_16.1 _ h_) (fun _ h_ => hs_16.1 _ h_)), rfl, (St.pickT (L := [_, _]) st_31 [] (by decide))⟩
   ·have h_27 : (a0_3 == 0) = false := (beq_eq_false_iff_ne.mpr c_26)
    refine CW.cf rfl h_27 ?_
    refine CW.skip ?_
    refine QW.then_n ?_
    refine CW.sub [(1, .int .i64 a1), (2, .string a2), (3, .pointer (some ⟨B_1, 0, none⟩)), (6, .pointer (some ⟨B_5, 0, none⟩)), (7, .int .i64 0)] ⟨rfl, rfl, rfl, rfl, rfl, trivial⟩ ?_
    refine CW.seq ?_
    refine CW.seq (CW.region ?_)
    refine WL.val Wanted.none (Runs.fieldAddr (off := 3) (p := 3) fld48_3 rfl rfl rfl) ?_
    refine WL.val Wanted.none (Runs.load nagg3 rfl (st_20.cell (k := 1) rfl (part_one (u := .int .i64 a0_3) (pre := (([.int .i64 a0_0] : Cs) ++ (([.slice A0_1 n0_1 c0_1] : Cs) ++ ([.slice A0_2 n0_2 c0_2] : Cs)))) (post := (([.bool a0_4] : Cs) ++ ([.slice A0_5 n0_5 c0_5] : Cs))) (by first | rfl | simp only [List.append_assoc, List.append_nil, List.nil_append, List.cons_append]) (by first | rfl | simp only [List.length_append, List.length_cons, List.length_nil, iv_length])))) ?_
    refine WL.val Wanted.none (Runs.gtr rfl rfl rfl) ?_
    refine WL.nil (QW.then_n ?_)
    rcases H with ⟨c_32, H⟩ | ⟨c_32, H⟩
    ·have h_33 : (decide (a0_3 > 0)) = true := (decide_eq_true c_32)
     refine CW.ct rfl h_33 ?_
     refine CW.region ?_
     refine WL.val Wanted.none (Runs.fieldAddr (off := 3) (p := 3) fld48_3 rfl rfl rfl) ?_
     refine WL.val Wanted.none (Runs.load nagg3 rfl (st_20.cell (k := 1) rfl (part_one (u := .int .i64 a0_3) (pre := (([.int .i64 a0_0] : Cs) ++ (([.slice A0_1 n0_1 c0_1] : Cs) ++ ([.slice A0_2 n0_2 c0_2] : Cs)))) (post := (([.bool a0_4] : Cs) ++ ([.slice A0_5 n0_5 c0_5] : Cs))) (by first | rfl | simp only [List.append_assoc, List.append_nil, List.nil_append, List.cons_append]) (by first | rfl | simp only [List.length_append, List.length_cons, List.length_nil, iv_length])))) ?_
     refine WL.val Wanted.none (Runs.sub rfl rfl rfl) ?_
     refine WL.val Wanted.none (Runs.fieldAddr (off := 3) (p := 3) fld48_3 rfl rfl rfl) ?_
     refine WL.store_one (i := 1) (u0 := .int .i64 a0_3) (pre := (([.int .i64 a0_0] : Cs) ++ (([.slice A0_1 n0_1 c0_1] : Cs) ++ ([.slice A0_2 n0_2 c0_2] : Cs)))) (post := (([.bool a0_4] : Cs) ++ ([.slice A0_5 n0_5 c0_5] : Cs))) st_20 rfl cells3 (by first | rfl | simp only [List.append_assoc, List.append_nil, List.nil_append, List.cons_append]) (by first | rfl | simp only [List.length_append, List.length_cons, List.length_nil, iv_length]) rfl rfl rfl ?_
     intro w_34 st_35
     replace st_35 : St w w_34 (.cells B_5 (([.int .i64 0] : Cs) ++ (([.slice none 0 0] : Cs) ++ (([.slice none 0 0] : Cs) ++ (([.int .i64 0] : Cs) ++ (([.bool false] : Cs) ++ ([.slice none 0 0] : Cs)))))) 48 :: .cells B_1 (([.int .i64 a0_0] : Cs) ++ (([.slice A0_1 n0_1 c0_1] : Cs) ++ (([.slice A0_2 n0_2 c0_2] : Cs) ++ (([.int .i64 (IntKind.i64.wrap (a0_3 - 1))] : Cs) ++ (([.bool a0_4] : Cs) ++ ([.slice A0_5 n0_5 c0_5] : Cs)))))) 48 :: (T_15 ++ R)) := by have e_ : (([.int .i64 a0_0] : Cs) ++ (([.slice A0_1 n0_1 c0_1] : Cs) ++ (([.slice A0_2 n0_2 c0_2] : Cs) ++ (([.int .i64 (IntKind.i64.wrap (a0_3 - 1))] : Cs) ++ (([.bool a0_4] : Cs) ++ ([.slice A0_5 n0_5 c0_5] : Cs)))))) = (([.int .i64 a0_0] : Cs) ++ (([.slice A0_1 n0_1 c0_1] : Cs) ++ ([.slice A0_2 n0_2 c0_2] : Cs))) ++ ((([.int .i64 (IntKind.i64.wrap (a0_3 - 1))] : Cs)) ++ (([.bool a0_4] : Cs) ++ ([.slice A0_5 n0_5 c0_5] : Cs))) := (by first | rfl | simp only [List.append_assoc, List.append_nil, List.nil_append, List.cons_append]); have h_ : St w w_34 (.cells B_5 (([.int .i64 0] : Cs) ++ (([.slice none 0 0] : Cs) ++ (([.slice none 0 0] : Cs) ++ (([.int .i64 0] : Cs) ++ (([.bool false] : Cs) ++ ([.slice none 0 0] : Cs)))))) 48 :: .cells B_1 ((([.int .i64 a0_0] : Cs) ++ (([.slice A0_1 n0_1 c0_1] : Cs) ++ ([.slice A0_2 n0_2 c0_2] : Cs))) ++ ((([.int .i64 (IntKind.i64.wrap (a0_3 - 1))] : Cs)) ++ (([.bool a0_4] : Cs) ++ ([.slice A0_5 n0_5 c0_5] : Cs)))) 48 :: (T_15 ++ R)) := st_35; rw [← e_] at h_; exact h_
     refine WL.nil (QW.then_n ?_)
     refine CW.sub [(1, .int .i64 a1), (2, .string a2), (3, .pointer (some ⟨B_1, 0, none⟩)), (6, .pointer (some ⟨B_5, 0, none⟩)), (7, .int .i64 0)] ⟨rfl, rfl, rfl, rfl, rfl, trivial⟩ ?_
     refine CW.seq (CW.region ?_)
     refine WL.val Wanted.none (Runs.fieldAddr (off := 2) (p := 2) fld48_2 rfl rfl rfl) ?_
     refine WL.val Wanted.none (Runs.load nagg45 rfl (st_35.cell (k := 1) rfl (part_one (u := .slice A0_2 n0_2 c0_2) (pre := (([.int .i64 a0_0] : Cs) ++ ([.slice A0_1 n0_1 c0_1] : Cs))) (post := (([.int .i64 (IntKind.i64.wrap (a0_3 - 1))] : Cs) ++ (([.bool a0_4] : Cs) ++ ([.slice A0_5 n0_5 c0_5] : Cs)))) (by first | rfl | simp only [List.append_assoc, List.append_nil, List.nil_append, List.cons_append]) (by first | rfl | simp only [List.length_append, List.length_cons, List.length_nil, iv_length])))) ?_
     refine WL.val Wanted.none (Runs.move rfl) ?_
     refine WL.val Wanted.none (Runs.move rfl) ?_
     refine WL.val Wanted.none (Runs.build_struct (ps := [(0, 1), (1, 1)]) (cs := (([.int .i64 a1] : Cs) ++ ([.string a2] : Cs))) plc86 zero86 rfl (by refine Fills.cons (o := 0) (ms := (([.int .i64 a1] : Cs))) (show _ = some (0, (([.int .i64 a1] : Cs)).length) by rw [show (([.int .i64 a1] : Cs)).length = 1 from (by first | rfl | simp only [List.length_append, List.length_cons, List.length_nil, iv_length])] <;> rfl) rfl (by have h1_ : (([.int .i64 a1] : Cs)).length = 1 := (by first | rfl | simp only [List.length_append, List.length_cons, List.length_nil, iv_length]); have h2_ : (([.int .i64 0] : Cs) ++ ([.string ByteArray.empty] : Cs)).length = 2 := (by first | rfl | simp only [List.length_append, List.length_cons, List.length_nil, iv_length]); omega) ?_; rw [show layV (([.int .i64 0] : Cs) ++ ([.string ByteArray.empty] : Cs)) 0 (([.int .i64 a1] : Cs)) = (([.int .i64 a1] : Cs) ++ ([.string ByteArray.empty] : Cs)) from (layV_mid (pre := (([] : Cs))) (mid := (([.int .i64 0] : Cs))) (post := (([.string ByteArray.empty] : Cs))) (by first | rfl | simp only [List.append_assoc, List.append_nil, List.nil_append, List.cons_append]) (by first | rfl | simp only [List.length_append, List.length_cons, List.length_nil, iv_length]) (Eq.trans (b := 1) (by first | rfl | simp only [List.length_append, List.length_cons, List.length_nil, iv_length]) (Eq.symm (by first | rfl | simp only [List.length_append, List.length_cons, List.length_nil, iv_length])))).trans (by first | rfl | simp only [List.append_assoc, List.append_nil, List.nil_append, List.cons_append])]; refine Fills.cons (o := 1) (ms := (([.string a2] : Cs))) (show _ = some (1, (([.string a2] : Cs)).length) by rw [show (([.string a2] : Cs)).length = 1 from (by first | rfl | simp only [List.length_append, List.length_cons, List.length_nil, iv_length])] <;> rfl) rfl (by have h1_ : (([.string a2] : Cs)).length = 1 := (by first | rfl | simp only [List.length_append, List.length_cons, List.length_nil, iv_length]); have h2_ : (([.int .i64 a1] : Cs) ++ ([.string ByteArray.empty] : Cs)).length = 2 := (by first | rfl | simp only [List.length_append, List.length_cons, List.length_nil, iv_length]); omega) ?_; rw [show layV (([.int .i64 a1] : Cs) ++ ([.string ByteArray.empty] : Cs)) 1 (([.string a2] : Cs)) = (([.int .i64 a1] : Cs) ++ ([.string a2] : Cs)) from (layV_mid (pre := (([.int .i64 a1] : Cs))) (mid := (([.string ByteArray.empty] : Cs))) (post := (([] : Cs))) (by first | rfl | simp only [List.append_assoc, List.append_nil, List.nil_append, List.cons_append]) (by first | rfl | simp only [List.length_append, List.length_cons, List.length_nil, iv_length]) (Eq.trans (b := 1) (by first | rfl | simp only [List.length_append, List.length_cons, List.length_nil, iv_length]) (Eq.symm (by first | rfl | simp only [List.length_append, List.length_cons, List.length_nil, iv_length])))).trans (by first | rfl | simp only [List.append_assoc, List.append_nil, List.nil_append, List.cons_append])]; exact Fills.nil)) ?_
     have st_36 : St w w_34 ((T_15 ++ (.cells B_5 (([.int .i64 0] : Cs) ++ (([.slice none 0 0] : Cs) ++ (([.slice none 0 0] : Cs) ++ (([.int .i64 0] : Cs) ++ (([.bool false] : Cs) ++ ([.slice none 0 0] : Cs)))))) 48 :: .cells B_1 (([.int .i64 a0_0] : Cs) ++ (([.slice A0_1 n0_1 c0_1] : Cs) ++ (([.slice A0_2 n0_2 c0_2] : Cs) ++ (([.int .i64 (IntKind.i64.wrap (a0_3 - 1))] : Cs) ++ (([.bool a0_4] : Cs) ++ ([.slice A0_5 n0_5 c0_5] : Cs)))))) 48 :: R))) := St.hide (A := []) (B := [_, _]) (T := T_15) (R := R) st_35
     obtain ⟨l_44, hr_37, H⟩ := H
     refine WL.call Wanted.none ent45 rfl (reliquaryref06_more.calls w w_34 T_15 (.cells B_5 (([.int .i64 0] : Cs) ++ (([.slice none 0 0] : Cs) ++ (([.slice none 0 0] : Cs) ++ (([.int .i64 0] : Cs) ++ (([.bool false] : Cs) ++ ([.slice none 0 0] : Cs)))))) 48 :: .cells B_1 (([.int .i64 a0_0] : Cs) ++ (([.slice A0_1 n0_1 c0_1] : Cs) ++ (([.slice A0_2 n0_2 c0_2] : Cs) ++ (([.int .i64 (IntKind.i64.wrap (a0_3 - 1))] : Cs) ++ (([.bool a0_4] : Cs) ++ ([.slice A0_5 n0_5 c0_5] : Cs)))))) 48 :: R) l0_2 a1 a2 A0_2 n0_2 c0_2  st_36 (hb0_2.mono (memo_T (B := [_, _]) (fun _ h_ => hs_16.1 _ h_)) (fun _ h_ => hs_16.1 _ h_)) l_44 hr_37) ?_
     rintro _ w_48 ⟨T_38, A_41, n_42, c_43, x_45, hs_39, hn_46, hx_47, rfl, sc_50⟩
     have st_49 : St w w_48 (.sl A_41 c_43 n_42 x_45 86 2 :: .cells B_5 (([.int .i64 0] : Cs) ++ (([.slice none 0 0] : Cs) ++ (([.slice none 0 0] : Cs) ++ (([.int .i64 0] : Cs) ++ (([.bool false] : Cs) ++ ([.slice none 0 0] : Cs)))))) 48 :: .cells B_1 (([.int .i64 a0_0] : Cs) ++ (([.slice A0_1 n0_1 c0_1] : Cs) ++ (([.slice A0_2 n0_2 c0_2] : Cs) ++ (([.int .i64 (IntKind.i64.wrap (a0_3 - 1))] : Cs) ++ (([.bool a0_4] : Cs) ++ ([.slice A0_5 n0_5 c0_5] : Cs)))))) 48 :: (T_38 ++ R)) := St.unhide (A := [_]) (B := [_, _]) (T := T_38) (R := R) sc_50
     refine ⟨_, rfl, ?_⟩
     refine WL.val Wanted.none (Runs.fieldAddr (off := 2) (p := 2) fld48_2 rfl rfl rfl) ?_
     refine WL.store_one (i := 2) (u0 := .slice A0_2 n0_2 c0_2) (pre := (([.int .i64 a0_0] : Cs) ++ ([.slice A0_1 n0_1 c0_1] : Cs))) (post := (([.int .i64 (IntKind.i64.wrap (a0_3 - 1))] : Cs) ++ (([.bool a0_4] : Cs) ++ ([.slice A0_5 n0_5 c0_5] : Cs)))) st_49 rfl cells45 (by first | rfl | simp only [List.append_assoc, List.append_nil, List.nil_append, List.cons_append]) (by first | rfl | simp only [List.length_append, List.length_cons, List.length_nil, iv_length]) rfl rfl rfl ?_
     intro w_51 st_52
     replace st_52 : St w w_51 (.sl A_41 c_43 n_42 x_45 86 2 :: .cells B_5 (([.int .i64 0] : Cs) ++ (([.slice none 0 0] : Cs) ++ (([.slice none 0 0] : Cs) ++ (([.int .i64 0] : Cs) ++ (([.bool false] : Cs) ++ ([.slice none 0 0] : Cs)))))) 48 :: .cells B_1 (([.int .i64 a0_0] : Cs) ++ (([.slice A0_1 n0_1 c0_1] : Cs) ++ (([.slice A_41 n_42 c_43] : Cs) ++ (([.int .i64 (IntKind.i64.wrap (a0_3 - 1))] : Cs) ++ (([.bool a0_4] : Cs) ++ ([.slice A0_5 n0_5 c0_5] : Cs)))))) 48 :: (T_38 ++ R)) := by have e_ : (([.int .i64 a0_0] : Cs) ++ (([.slice A0_1 n0_1 c0_1] : Cs) ++ (([.slice A_41 n_42 c_43] : Cs) ++ (([.int .i64 (IntKind.i64.wrap (a0_3 - 1))] : Cs) ++ (([.bool a0_4] : Cs) ++ ([.slice A0_5 n0_5 c0_5] : Cs)))))) = (([.int .i64 a0_0] : Cs) ++ ([.slice A0_1 n0_1 c0_1] : Cs)) ++ ((([.slice A_41 n_42 c_43] : Cs)) ++ (([.int .i64 (IntKind.i64.wrap (a0_3 - 1))] : Cs) ++ (([.bool a0_4] : Cs) ++ ([.slice A0_5 n0_5 c0_5] : Cs)))) := (by first | rfl | simp only [List.append_assoc, List.append_nil, List.nil_append, List.cons_append]); have h_ : St w w_51 (.sl A_41 c_43 n_42 x_45 86 2 :: .cells B_5 (([.int .i64 0] : Cs) ++ (([.slice none 0 0] : Cs) ++ (([.slice none 0 0] : Cs) ++ (([.int .i64 0] : Cs) ++ (([.bool false] : Cs) ++ ([.slice none 0 0] : Cs)))))) 48 :: .cells B_1 ((([.int .i64 a0_0] : Cs) ++ ([.slice A0_1 n0_1 c0_1] : Cs)) ++ ((([.slice A_41 n_42 c_43] : Cs)) ++ (([.int .i64 (IntKind.i64.wrap (a0_3 - 1))] : Cs) ++ (([.bool a0_4] : Cs) ++ ([.slice A0_5 n0_5 c0_5] : Cs))))) 48 :: (T_38 ++ R)) := st_52; rw [← e_] at h_; exact h_
     refine WL.nil (QW.then_n ?_)
     refine CW.sub [(1, .int .i64 a1), (3, .pointer (some ⟨B_1, 0, none⟩)), (6, .pointer (some ⟨B_5, 0, none⟩)), (7, .int .i64 0)] ⟨rfl, rfl, rfl, rfl, trivial⟩ ?_
     refine CW.seq (CW.region ?_)
     refine WL.val Wanted.none (Runs.load_mid row48 rfl st_52 (i := 2) rfl (part_mid (pre := (([] : Cs))) (mid := (([.int .i64 a0_0] : Cs) ++ (([.slice A0_1 n0_1 c0_1] : Cs) ++ (([.slice A_41 n_42 c_43] : Cs) ++ (([.int .i64 (IntKind.i64.wrap (a0_3 - 1))] : Cs) ++ (([.bool a0_4] : Cs) ++ ([.slice A0_5 n0_5 c0_5] : Cs))))))) (post := (([] : Cs))) (by first | rfl | simp only [List.append_assoc, List.append_nil, List.nil_append, List.cons_append]) (by first | rfl | simp only [List.length_append, List.length_cons, List.length_nil, iv_length]) (by first | rfl | simp only [List.length_append, List.length_cons, List.length_nil, iv_length])) (by first | rfl | simp only [List.length_append, List.length_cons, List.length_nil, iv_length])) ?_
     refine WL.val Wanted.none (Runs.move rfl) ?_
     have hb_57c := st_52.cap (i := 0) rfl
     obtain ⟨T_53, hs_54, hm_55, st_56⟩ := St.freeze (A := []) (B := [_, _]) (T := T_38) (R := R) st_52
     have hb_57 : HS w T_53 T_53 A_41 n_42 c_43 (f86 w) l_44 := HS.mk hn_46 hb_57c (Hd.of_sl hm_55) (hx_47.mono (fun _ h_ => hs_54.1 _ h_))
     replace st_56 : St w w_51 (.cells B_5 (([.int .i64 0] : Cs) ++ (([.slice none 0 0] : Cs) ++ (([.slice none 0 0] : Cs) ++ (([.int .i64 0] : Cs) ++ (([.bool false] : Cs) ++ ([.slice none 0 0] : Cs)))))) 48 :: .cells B_1 (([.int .i64 a0_0] : Cs) ++ (([.slice A0_1 n0_1 c0_1] : Cs) ++ (([.slice A_41 n_42 c_43] : Cs) ++ (([.int .i64 (IntKind.i64.wrap (a0_3 - 1))] : Cs) ++ (([.bool a0_4] : Cs) ++ ([.slice A0_5 n0_5 c0_5] : Cs)))))) 48 :: (T_53 ++ R)) := st_56
     have st_58 : St w w_51 ((T_53 ++ (.cells B_5 (([.int .i64 0] : Cs) ++ (([.slice none 0 0] : Cs) ++ (([.slice none 0 0] : Cs) ++ (([.int .i64 0] : Cs) ++ (([.bool false] : Cs) ++ ([.slice none 0 0] : Cs)))))) 48 :: .cells B_1 (([.int .i64 a0_0] : Cs) ++ (([.slice A0_1 n0_1 c0_1] : Cs) ++ (([.slice A_41 n_42 c_43] : Cs) ++ (([.int .i64 (IntKind.i64.wrap (a0_3 - 1))] : Cs) ++ (([.bool a0_4] : Cs) ++ ([.slice A0_5 n0_5 c0_5] : Cs)))))) 48 :: R))) := St.hide (A := []) (B := [_, _]) (T := T_53) (R := R) st_56
     obtain ⟨a_63_0, l_67_1, l_67_2, a_63_3, a_63_4, l_67_5, hr_59, H⟩ := H
     refine WL.call Wanted.none ent46 rfl (reliquaryref06_noted.calls w w_51 T_53 (.cells B_5 (([.int .i64 0] : Cs) ++ (([.slice none 0 0] : Cs) ++ (([.slice none 0 0] : Cs) ++ (([.int .i64 0] : Cs) ++ (([.bool false] : Cs) ++ ([.slice none 0 0] : Cs)))))) 48 :: .cells B_1 (([.int .i64 a0_0] : Cs) ++ (([.slice A0_1 n0_1 c0_1] : Cs) ++ (([.slice A_41 n_42 c_43] : Cs) ++ (([.int .i64 (IntKind.i64.wrap (a0_3 - 1))] : Cs) ++ (([.bool a0_4] : Cs) ++ ([.slice A0_5 n0_5 c0_5] : Cs)))))) 48 :: R) a0_0 l0_1 l_44 (IntKind.i64.wrap (a0_3 - 1)) a0_4 l0_5 2 a1 A0_1 n0_1 c0_1 A_41 n_42 c_43 A0_5 n0_5 c0_5  st_58 (hb0_1.mono (fun _ h_ => hs_54.1 _ (hs_39.1 _ (hs_16.1 _ h_))) (fun _ h_ => hs_54.1 _ (hs_39.1 _ (hs_16.1 _ h_)))) hb_57 (hb0_5.mono (fun _ h_ => hs_54.1 _ (hs_39.1 _ (hs_16.1 _ h_))) (fun _ h_ => hs_54.1 _ (hs_39.1 _ (hs_16.1 _ h_)))) a_63_0 l_67_1 l_67_2 a_63_3 a_63_4 l_67_5 hr_59) ?_
     rintro _ w_70 ⟨T_60, A_64_1, n_65_1, c_66_1, A_64_2, n_65_2, c_66_2, A_64_5, n_65_5, c_66_5, hs_61, hb_69_1, hb_69_2, hb_69_5, rfl, sc_72⟩
     have st_71 : St w w_70 (.cells B_5 (([.int .i64 0] : Cs) ++ (([.slice none 0 0] : Cs) ++ (([.slice none 0 0] : Cs) ++ (([.int .i64 0] : Cs) ++ (([.bool false] : Cs) ++ ([.slice none 0 0] : Cs)))))) 48 :: .cells B_1 (([.int .i64 a0_0] : Cs) ++ (([.slice A0_1 n0_1 c0_1] : Cs) ++ (([.slice A_41 n_42 c_43] : Cs) ++ (([.int .i64 (IntKind.i64.wrap (a0_3 - 1))] : Cs) ++ (([.bool a0_4] : Cs) ++ ([.slice A0_5 n0_5 c0_5] : Cs)))))) 48 :: (T_60 ++ R)) := St.unhide (A := []) (B := [_, _]) (T := T_60) (R := R) sc_72
     refine ⟨_, rfl, ?_⟩
     refine WL.store_mid (i := 0) (pre := (([] : Cs))) (mid := (([.int .i64 0] : Cs) ++ (([.slice none 0 0] : Cs) ++ (([.slice none 0 0] : Cs) ++ (([.int .i64 0] : Cs) ++ (([.bool false] : Cs) ++ ([.slice none 0 0] : Cs))))))) (post := (([] : Cs))) (ms := (([.int .i64 a_63_0] : Cs) ++ (([.slice A_64_1 n_65_1 c_66_1] : Cs) ++ (([.slice A_64_2 n_65_2 c_66_2] : Cs) ++ (([.int .i64 a_63_3] : Cs) ++ (([.bool a_63_4] : Cs) ++ ([.slice A_64_5 n_65_5 c_66_5] : Cs))))))) st_71 rfl row48 (by first | rfl | simp only [List.append_assoc, List.append_nil, List.nil_append, List.cons_append]) (by first | rfl | simp only [List.length_append, List.length_cons, List.length_nil, iv_length]) rfl rfl (by first | rfl | simp only [List.length_append, List.length_cons, List.length_nil, iv_length]) (by first | rfl | simp only [List.length_append, List.length_cons, List.length_nil, iv_length]) (by intro u hu; simp only [List.mem_append, List.mem_singleton] at hu; rcases hu with hu | hu | hu | hu | hu | hu <;> first | exact one_iv _ _ u hu | (subst hu; rfl)) ?_
     intro w_73 st_74
     replace st_74 : St w w_73 (.cells B_5 (([.int .i64 a_63_0] : Cs) ++ (([.slice A_64_1 n_65_1 c_66_1] : Cs) ++ (([.slice A_64_2 n_65_2 c_66_2] : Cs) ++ (([.int .i64 a_63_3] : Cs) ++ (([.bool a_63_4] : Cs) ++ ([.slice A_64_5 n_65_5 c_66_5] : Cs)))))) 48 :: .cells B_1 (([.int .i64 a0_0] : Cs) ++ (([.slice A0_1 n0_1 c0_1] : Cs) ++ (([.slice A_41 n_42 c_43] : Cs) ++ (([.int .i64 (IntKind.i64.wrap (a0_3 - 1))] : Cs) ++ (([.bool a0_4] : Cs) ++ ([.slice A0_5 n0_5 c0_5] : Cs)))))) 48 :: (T_60 ++ R)) := by have e_ : (([.int .i64 a_63_0] : Cs) ++ (([.slice A_64_1 n_65_1 c_66_1] : Cs) ++ (([.slice A_64_2 n_65_2 c_66_2] : Cs) ++ (([.int .i64 a_63_3] : Cs) ++ (([.bool a_63_4] : Cs) ++ ([.slice A_64_5 n_65_5 c_66_5] : Cs)))))) = (([] : Cs)) ++ ((([.int .i64 a_63_0] : Cs) ++ (([.slice A_64_1 n_65_1 c_66_1] : Cs) ++ (([.slice A_64_2 n_65_2 c_66_2] : Cs) ++ (([.int .i64 a_63_3] : Cs) ++ (([.bool a_63_4] : Cs) ++ ([.slice A_64_5 n_65_5 c_66_5] : Cs)))))) ++ (([] : Cs))) := (by first | rfl | simp only [List.append_assoc, List.append_nil, List.nil_append, List.cons_append]); have h_ : St w w_73 (.cells B_5 ((([] : Cs)) ++ ((([.int .i64 a_63_0] : Cs) ++ (([.slice A_64_1 n_65_1 c_66_1] : Cs) ++ (([.slice A_64_2 n_65_2 c_66_2] : Cs) ++ (([.int .i64 a_63_3] : Cs) ++ (([.bool a_63_4] : Cs) ++ ([.slice A_64_5 n_65_5 c_66_5] : Cs)))))) ++ (([] : Cs)))) 48 :: .cells B_1 (([.int .i64 a0_0] : Cs) ++ (([.slice A0_1 n0_1 c0_1] : Cs) ++ (([.slice A_41 n_42 c_43] : Cs) ++ (([.int .i64 (IntKind.i64.wrap (a0_3 - 1))] : Cs) ++ (([.bool a0_4] : Cs) ++ ([.slice A0_5 n0_5 c0_5] : Cs)))))) 48 :: (T_60 ++ R)) := st_74; rw [← e_] at h_; exact h_
     refine WL.val Wanted.none (Runs.assign rfl) ?_
     refine WL.nil (QW.then_n ?_)
     refine CW.ret ?_
     obtain ⟨rfl, rfl, rfl, rfl, rfl, rfl, rfl⟩ := H
     exact QW.retN2 rfl (Res.row rfl row48 st_74 (i := 0) rfl (by first | rfl | simp only [List.length_append, List.length_cons, List.length_nil, iv_length])) (Res.tmp rfl) ⟨T_60, A_64_1, n_65_1, c_66_1, A_64_2, n_65_2, c_66_2, A_64_5, n_65_5, c_66_5, (((hs_16.trans hs_39).trans hs_54).trans hs_61), hb_69_1, hb_69_2, hb_69_5, rfl, (St.pickT (L := [_, _]) st_74 [] (by decide))⟩
    ·have h_33 : (decide (a0_3 > 0)) = false := (decide_eq_false c_32)
     refine CW.cf rfl h_33 ?_
     refine CW.skip ?_
     refine QW.then_n ?_
     refine CW.seq (CW.region ?_)
     refine WL.val Wanted.none (Runs.fieldAddr (off := 2) (p := 2) fld48_2 rfl rfl rfl) ?_
     refine WL.val Wanted.none (Runs.load nagg45 rfl (st_20.cell (k := 1) rfl (part_one (u := .slice A0_2 n0_2 c0_2) (pre := (([.int .i64 a0_0] : Cs) ++ ([.slice A0_1 n0_1 c0_1] : Cs))) (post := (([.int .i64 a0_3] : Cs) ++ (([.bool a0_4] : Cs) ++ ([.slice A0_5 n0_5 c0_5] : Cs)))) (by first | rfl | simp only [List.append_assoc, List.append_nil, List.nil_append, List.cons_append]) (by first | rfl | simp only [List.length_append, List.length_cons, List.length_nil, iv_length])))) ?_
     refine WL.val Wanted.none (Runs.move rfl) ?_
     refine WL.val Wanted.none (Runs.move rfl) ?_
     refine WL.val Wanted.none (Runs.build_struct (ps := [(0, 1), (1, 1)]) (cs := (([.int .i64 a1] : Cs) ++ ([.string a2] : Cs))) plc86 zero86 rfl (by refine Fills.cons (o := 0) (ms := (([.int .i64 a1] : Cs))) (show _ = some (0, (([.int .i64 a1] : Cs)).length) by rw [show (([.int .i64 a1] : Cs)).length = 1 from (by first | rfl | simp only [List.length_append, List.length_cons, List.length_nil, iv_length])] <;> rfl) rfl (by have h1_ : (([.int .i64 a1] : Cs)).length = 1 := (by first | rfl | simp only [List.length_append, List.length_cons, List.length_nil, iv_length]); have h2_ : (([.int .i64 0] : Cs) ++ ([.string ByteArray.empty] : Cs)).length = 2 := (by first | rfl | simp only [List.length_append, List.length_cons, List.length_nil, iv_length]); omega) ?_; rw [show layV (([.int .i64 0] : Cs) ++ ([.string ByteArray.empty] : Cs)) 0 (([.int .i64 a1] : Cs)) = (([.int .i64 a1] : Cs) ++ ([.string ByteArray.empty] : Cs)) from (layV_mid (pre := (([] : Cs))) (mid := (([.int .i64 0] : Cs))) (post := (([.string ByteArray.empty] : Cs))) (by first | rfl | simp only [List.append_assoc, List.append_nil, List.nil_append, List.cons_append]) (by first | rfl | simp only [List.length_append, List.length_cons, List.length_nil, iv_length]) (Eq.trans (b := 1) (by first | rfl | simp only [List.length_append, List.length_cons, List.length_nil, iv_length]) (Eq.symm (by first | rfl | simp only [List.length_append, List.length_cons, List.length_nil, iv_length])))).trans (by first | rfl | simp only [List.append_assoc, List.append_nil, List.nil_append, List.cons_append])]; refine Fills.cons (o := 1) (ms := (([.string a2] : Cs))) (show _ = some (1, (([.string a2] : Cs)).length) by rw [show (([.string a2] : Cs)).length = 1 from (by first | rfl | simp only [List.length_append, List.length_cons, List.length_nil, iv_length])] <;> rfl) rfl (by have h1_ : (([.string a2] : Cs)).length = 1 := (by first | rfl | simp only [List.length_append, List.length_cons, List.length_nil, iv_length]); have h2_ : (([.int .i64 a1] : Cs) ++ ([.string ByteArray.empty] : Cs)).length = 2 := (by first | rfl | simp only [List.length_append, List.length_cons, List.length_nil, iv_length]); omega) ?_; rw [show layV (([.int .i64 a1] : Cs) ++ ([.string ByteArray.empty] : Cs)) 1 (([.string a2] : Cs)) = (([.int .i64 a1] : Cs) ++ ([.string a2] : Cs)) from (layV_mid (pre := (([.int .i64 a1] : Cs))) (mid := (([.string ByteArray.empty] : Cs))) (post := (([] : Cs))) (by first | rfl | simp only [List.append_assoc, List.append_nil, List.nil_append, List.cons_append]) (by first | rfl | simp only [List.length_append, List.length_cons, List.length_nil, iv_length]) (Eq.trans (b := 1) (by first | rfl | simp only [List.length_append, List.length_cons, List.length_nil, iv_length]) (Eq.symm (by first | rfl | simp only [List.length_append, List.length_cons, List.length_nil, iv_length])))).trans (by first | rfl | simp only [List.append_assoc, List.append_nil, List.nil_append, List.cons_append])]; exact Fills.nil)) ?_
     have st_75 : St w w_19 ((T_15 ++ (.cells B_5 (([.int .i64 0] : Cs) ++ (([.slice none 0 0] : Cs) ++ (([.slice none 0 0] : Cs) ++ (([.int .i64 0] : Cs) ++ (([.bool false] : Cs) ++ ([.slice none 0 0] : Cs)))))) 48 :: .cells B_1 (([.int .i64 a0_0] : Cs) ++ (([.slice A0_1 n0_1 c0_1] : Cs) ++ (([.slice A0_2 n0_2 c0_2] : Cs) ++ (([.int .i64 a0_3] : Cs) ++ (([.bool a0_4] : Cs) ++ ([.slice A0_5 n0_5 c0_5] : Cs)))))) 48 :: R))) := St.hide (A := []) (B := [_, _]) (T := T_15) (R := R) st_20
     obtain ⟨l_83, hr_76, H⟩ := H
     refine WL.call Wanted.none ent45 rfl (reliquaryref06_more.calls w w_19 T_15 (.cells B_5 (([.int .i64 0] : Cs) ++ (([.slice none 0 0] : Cs) ++ (([.slice none 0 0] : Cs) ++ (([.int .i64 0] : Cs) ++ (([.bool false] : Cs) ++ ([.slice none 0 0] : Cs)))))) 48 :: .cells B_1 (([.int .i64 a0_0] : Cs) ++ (([.slice A0_1 n0_1 c0_1] : Cs) ++ (([.slice A0_2 n0_2 c0_2] : Cs) ++ (([.int .i64 a0_3] : Cs) ++ (([.bool a0_4] : Cs) ++ ([.slice A0_5 n0_5 c0_5] : Cs)))))) 48 :: R) l0_2 a1 a2 A0_2 n0_2 c0_2  st_75 (hb0_2.mono (memo_T (B := [_, _]) (fun _ h_ => hs_16.1 _ h_)) (fun _ h_ => hs_16.1 _ h_)) l_83 hr_76) ?_
     rintro _ w_87 ⟨T_77, A_80, n_81, c_82, x_84, hs_78, hn_85, hx_86, rfl, sc_89⟩
     have st_88 : St w w_87 (.sl A_80 c_82 n_81 x_84 86 2 :: .cells B_5 (([.int .i64 0] : Cs) ++ (([.slice none 0 0] : Cs) ++ (([.slice none 0 0] : Cs) ++ (([.int .i64 0] : Cs) ++ (([.bool false] : Cs) ++ ([.slice none 0 0] : Cs)))))) 48 :: .cells B_1 (([.int .i64 a0_0] : Cs) ++ (([.slice A0_1 n0_1 c0_1] : Cs) ++ (([.slice A0_2 n0_2 c0_2] : Cs) ++ (([.int .i64 a0_3] : Cs) ++ (([.bool a0_4] : Cs) ++ ([.slice A0_5 n0_5 c0_5] : Cs)))))) 48 :: (T_77 ++ R)) := St.unhide (A := [_]) (B := [_, _]) (T := T_77) (R := R) sc_89
     refine ⟨_, rfl, ?_⟩
     refine WL.val Wanted.none (Runs.fieldAddr (off := 2) (p := 2) fld48_2 rfl rfl rfl) ?_
     refine WL.store_one (i := 2) (u0 := .slice A0_2 n0_2 c0_2) (pre := (([.int .i64 a0_0] : Cs) ++ ([.slice A0_1 n0_1 c0_1] : Cs))) (post := (([.int .i64 a0_3] : Cs) ++ (([.bool a0_4] : Cs) ++ ([.slice A0_5 n0_5 c0_5] : Cs)))) st_88 rfl cells45 (by first | rfl | simp only [List.append_assoc, List.append_nil, List.nil_append, List.cons_append]) (by first | rfl | simp only [List.length_append, List.length_cons, List.length_nil, iv_length]) rfl rfl rfl ?_
     intro w_90 st_91
     replace st_91 : St w w_90 (.sl A_80 c_82 n_81 x_84 86 2 :: .cells B_5 (([.int .i64 0] : Cs) ++ (([.slice none 0 0] : Cs) ++ (([.slice none 0 0] : Cs) ++ (([.int .i64 0] : Cs) ++ (([.bool false] : Cs) ++ ([.slice none 0 0] : Cs)))))) 48 :: .cells B_1 (([.int .i64 a0_0] : Cs) ++ (([.slice A0_1 n0_1 c0_1] : Cs) ++ (([.slice A_80 n_81 c_82] : Cs) ++ (([.int .i64 a0_3] : Cs) ++ (([.bool a0_4] : Cs) ++ ([.slice A0_5 n0_5 c0_5] : Cs)))))) 48 :: (T_77 ++ R)) := by have e_ : (([.int .i64 a0_0] : Cs) ++ (([.slice A0_1 n0_1 c0_1] : Cs) ++ (([.slice A_80 n_81 c_82] : Cs) ++ (([.int .i64 a0_3] : Cs) ++ (([.bool a0_4] : Cs) ++ ([.slice A0_5 n0_5 c0_5] : Cs)))))) = (([.int .i64 a0_0] : Cs) ++ ([.slice A0_1 n0_1 c0_1] : Cs)) ++ ((([.slice A_80 n_81 c_82] : Cs)) ++ (([.int .i64 a0_3] : Cs) ++ (([.bool a0_4] : Cs) ++ ([.slice A0_5 n0_5 c0_5] : Cs)))) := (by first | rfl | simp only [List.append_assoc, List.append_nil, List.nil_append, List.cons_append]); have h_ : St w w_90 (.sl A_80 c_82 n_81 x_84 86 2 :: .cells B_5 (([.int .i64 0] : Cs) ++ (([.slice none 0 0] : Cs) ++ (([.slice none 0 0] : Cs) ++ (([.int .i64 0] : Cs) ++ (([.bool false] : Cs) ++ ([.slice none 0 0] : Cs)))))) 48 :: .cells B_1 ((([.int .i64 a0_0] : Cs) ++ ([.slice A0_1 n0_1 c0_1] : Cs)) ++ ((([.slice A_80 n_81 c_82] : Cs)) ++ (([.int .i64 a0_3] : Cs) ++ (([.bool a0_4] : Cs) ++ ([.slice A0_5 n0_5 c0_5] : Cs))))) 48 :: (T_77 ++ R)) := st_91; rw [← e_] at h_; exact h_
     refine WL.nil (QW.then_n ?_)
     refine CW.sub [(1, .int .i64 a1), (3, .pointer (some ⟨B_1, 0, none⟩)), (6, .pointer (some ⟨B_5, 0, none⟩)), (7, .int .i64 0)] ⟨rfl, rfl, rfl, rfl, trivial⟩ ?_
     refine CW.seq (CW.region ?_)
     refine WL.val Wanted.none (Runs.load_mid row48 rfl st_91 (i := 2) rfl (part_mid (pre := (([] : Cs))) (mid := (([.int .i64 a0_0] : Cs) ++ (([.slice A0_1 n0_1 c0_1] : Cs) ++ (([.slice A_80 n_81 c_82] : Cs) ++ (([.int .i64 a0_3] : Cs) ++ (([.bool a0_4] : Cs) ++ ([.slice A0_5 n0_5 c0_5] : Cs))))))) (post := (([] : Cs))) (by first | rfl | simp only [List.append_assoc, List.append_nil, List.nil_append, List.cons_append]) (by first | rfl | simp only [List.length_append, List.length_cons, List.length_nil, iv_length]) (by first | rfl | simp only [List.length_append, List.length_cons, List.length_nil, iv_length])) (by first | rfl | simp only [List.length_append, List.length_cons, List.length_nil, iv_length])) ?_
     refine WL.val Wanted.none (Runs.move rfl) ?_
     have hb_96c := st_91.cap (i := 0) rfl
     obtain ⟨T_92, hs_93, hm_94, st_95⟩ := St.freeze (A := []) (B := [_, _]) (T := T_77) (R := R) st_91
     have hb_96 : HS w T_92 T_92 A_80 n_81 c_82 (f86 w) l_83 := HS.mk hn_85 hb_96c (Hd.of_sl hm_94) (hx_86.mono (fun _ h_ => hs_93.1 _ h_))
     replace st_95 : St w w_90 (.cells B_5 (([.int .i64 0] : Cs) ++ (([.slice none 0 0] : Cs) ++ (([.slice none 0 0] : Cs) ++ (([.int .i64 0] : Cs) ++ (([.bool false] : Cs) ++ ([.slice none 0 0] : Cs)))))) 48 :: .cells B_1 (([.int .i64 a0_0] : Cs) ++ (([.slice A0_1 n0_1 c0_1] : Cs) ++ (([.slice A_80 n_81 c_82] : Cs) ++ (([.int .i64 a0_3] : Cs) ++ (([.bool a0_4] : Cs) ++ ([.slice A0_5 n0_5 c0_5] : Cs)))))) 48 :: (T_92 ++ R)) := st_95
     have st_97 : St w w_90 ((T_92 ++ (.cells B_5 (([.int .i64 0] : Cs) ++ (([.slice none 0 0] : Cs) ++ (([.slice none 0 0] : Cs) ++ (([.int .i64 0] : Cs) ++ (([.bool false] : Cs) ++ ([.slice none 0 0] : Cs)))))) 48 :: .cells B_1 (([.int .i64 a0_0] : Cs) ++ (([.slice A0_1 n0_1 c0_1] : Cs) ++ (([.slice A_80 n_81 c_82] : Cs) ++ (([.int .i64 a0_3] : Cs) ++ (([.bool a0_4] : Cs) ++ ([.slice A0_5 n0_5 c0_5] : Cs)))))) 48 :: R))) := St.hide (A := []) (B := [_, _]) (T := T_92) (R := R) st_95
     obtain ⟨a_102_0, l_106_1, l_106_2, a_102_3, a_102_4, l_106_5, hr_98, H⟩ := H
     refine WL.call Wanted.none ent46 rfl (reliquaryref06_noted.calls w w_90 T_92 (.cells B_5 (([.int .i64 0] : Cs) ++ (([.slice none 0 0] : Cs) ++ (([.slice none 0 0] : Cs) ++ (([.int .i64 0] : Cs) ++ (([.bool false] : Cs) ++ ([.slice none 0 0] : Cs)))))) 48 :: .cells B_1 (([.int .i64 a0_0] : Cs) ++ (([.slice A0_1 n0_1 c0_1] : Cs) ++ (([.slice A_80 n_81 c_82] : Cs) ++ (([.int .i64 a0_3] : Cs) ++ (([.bool a0_4] : Cs) ++ ([.slice A0_5 n0_5 c0_5] : Cs)))))) 48 :: R) a0_0 l0_1 l_83 a0_3 a0_4 l0_5 2 a1 A0_1 n0_1 c0_1 A_80 n_81 c_82 A0_5 n0_5 c0_5  st_97 (hb0_1.mono (fun _ h_ => hs_93.1 _ (hs_78.1 _ (hs_16.1 _ h_))) (fun _ h_ => hs_93.1 _ (hs_78.1 _ (hs_16.1 _ h_)))) hb_96 (hb0_5.mono (fun _ h_ => hs_93.1 _ (hs_78.1 _ (hs_16.1 _ h_))) (fun _ h_ => hs_93.1 _ (hs_78.1 _ (hs_16.1 _ h_)))) a_102_0 l_106_1 l_106_2 a_102_3 a_102_4 l_106_5 hr_98) ?_
     rintro _ w_109 ⟨T_99, A_103_1, n_104_1, c_105_1, A_103_2, n_104_2, c_105_2, A_103_5, n_104_5, c_105_5, hs_100, hb_108_1, hb_108_2, hb_108_5, rfl, sc_111⟩
     have st_110 : St w w_109 (.cells B_5 (([.int .i64 0] : Cs) ++ (([.slice none 0 0] : Cs) ++ (([.slice none 0 0] : Cs) ++ (([.int .i64 0] : Cs) ++ (([.bool false] : Cs) ++ ([.slice none 0 0] : Cs)))))) 48 :: .cells B_1 (([.int .i64 a0_0] : Cs) ++ (([.slice A0_1 n0_1 c0_1] : Cs) ++ (([.slice A_80 n_81 c_82] : Cs) ++ (([.int .i64 a0_3] : Cs) ++ (([.bool a0_4] : Cs) ++ ([.slice A0_5 n0_5 c0_5] : Cs)))))) 48 :: (T_99 ++ R)) := St.unhide (A := []) (B := [_, _]) (T := T_99) (R := R) sc_111
     refine ⟨_, rfl, ?_⟩
     refine WL.store_mid (i := 0) (pre := (([] : Cs))) (mid := (([.int .i64 0] : Cs) ++ (([.slice none 0 0] : Cs) ++ (([.slice none 0 0] : Cs) ++ (([.int .i64 0] : Cs) ++ (([.bool false] : Cs) ++ ([.slice none 0 0] : Cs))))))) (post := (([] : Cs))) (ms := (([.int .i64 a_102_0] : Cs) ++ (([.slice A_103_1 n_104_1 c_105_1] : Cs) ++ (([.slice A_103_2 n_104_2 c_105_2] : Cs) ++ (([.int .i64 a_102_3] : Cs) ++ (([.bool a_102_4] : Cs) ++ ([.slice A_103_5 n_104_5 c_105_5] : Cs))))))) st_110 rfl row48 (by first | rfl | simp only [List.append_assoc, List.append_nil, List.nil_append, List.cons_append]) (by first | rfl | simp only [List.length_append, List.length_cons, List.length_nil, iv_length]) rfl rfl (by first | rfl | simp only [List.length_append, List.length_cons, List.length_nil, iv_length]) (by first | rfl | simp only [List.length_append, List.length_cons, List.length_nil, iv_length]) (by intro u hu; simp only [List.mem_append, List.mem_singleton] at hu; rcases hu with hu | hu | hu | hu | hu | hu <;> first | exact one_iv _ _ u hu | (subst hu; rfl)) ?_
     intro w_112 st_113
     replace st_113 : St w w_112 (.cells B_5 (([.int .i64 a_102_0] : Cs) ++ (([.slice A_103_1 n_104_1 c_105_1] : Cs) ++ (([.slice A_103_2 n_104_2 c_105_2] : Cs) ++ (([.int .i64 a_102_3] : Cs) ++ (([.bool a_102_4] : Cs) ++ ([.slice A_103_5 n_104_5 c_105_5] : Cs)))))) 48 :: .cells B_1 (([.int .i64 a0_0] : Cs) ++ (([.slice A0_1 n0_1 c0_1] : Cs) ++ (([.slice A_80 n_81 c_82] : Cs) ++ (([.int .i64 a0_3] : Cs) ++ (([.bool a0_4] : Cs) ++ ([.slice A0_5 n0_5 c0_5] : Cs)))))) 48 :: (T_99 ++ R)) := by have e_ : (([.int .i64 a_102_0] : Cs) ++ (([.slice A_103_1 n_104_1 c_105_1] : Cs) ++ (([.slice A_103_2 n_104_2 c_105_2] : Cs) ++ (([.int .i64 a_102_3] : Cs) ++ (([.bool a_102_4] : Cs) ++ ([.slice A_103_5 n_104_5 c_105_5] : Cs)))))) = (([] : Cs)) ++ ((([.int .i64 a_102_0] : Cs) ++ (([.slice A_103_1 n_104_1 c_105_1] : Cs) ++ (([.slice A_103_2 n_104_2 c_105_2] : Cs) ++ (([.int .i64 a_102_3] : Cs) ++ (([.bool a_102_4] : Cs) ++ ([.slice A_103_5 n_104_5 c_105_5] : Cs)))))) ++ (([] : Cs))) := (by first | rfl | simp only [List.append_assoc, List.append_nil, List.nil_append, List.cons_append]); have h_ : St w w_112 (.cells B_5 ((([] : Cs)) ++ ((([.int .i64 a_102_0] : Cs) ++ (([.slice A_103_1 n_104_1 c_105_1] : Cs) ++ (([.slice A_103_2 n_104_2 c_105_2] : Cs) ++ (([.int .i64 a_102_3] : Cs) ++ (([.bool a_102_4] : Cs) ++ ([.slice A_103_5 n_104_5 c_105_5] : Cs)))))) ++ (([] : Cs)))) 48 :: .cells B_1 (([.int .i64 a0_0] : Cs) ++ (([.slice A0_1 n0_1 c0_1] : Cs) ++ (([.slice A_80 n_81 c_82] : Cs) ++ (([.int .i64 a0_3] : Cs) ++ (([.bool a0_4] : Cs) ++ ([.slice A0_5 n0_5 c0_5] : Cs)))))) 48 :: (T_99 ++ R)) := st_113; rw [← e_] at h_; exact h_
     refine WL.val Wanted.none (Runs.assign rfl) ?_
     refine WL.nil (QW.then_n ?_)
     refine CW.ret ?_
     obtain ⟨rfl, rfl, rfl, rfl, rfl, rfl, rfl⟩ := H
     exact QW.retN2 rfl (Res.row rfl row48 st_113 (i := 0) rfl (by first | rfl | simp only [List.length_append, List.length_cons, List.length_nil, iv_length])) (Res.tmp rfl) ⟨T_99, A_103_1, n_104_1, c_105_1, A_103_2, n_104_2, c_105_2, A_103_5, n_104_5, c_105_5, (((hs_16.trans hs_78).trans hs_93).trans hs_100), hb_108_1, hb_108_2, hb_108_5, rfl, (St.pickT (L := [_, _]) st_113 [] (by decide))⟩

/-! ### reliquaryref06_last: function 47 -/
def reliquaryref06_last.L1 (l0 : List R86) (a1 : Int) (ar0 : ByteArray) (ar1 : Bool) : Nat → ByteArray → Bool → Int → Prop
 | 0, _, _, _ => False
 | kL1 + 1, s_4, b_5, x_6 => ((x_6 ≥ 0 ∧ ((0 ≤ x_6 ∧ x_6 < (l0.length : Int)) ∧ ((((gx l0 (x_6.toNat)).1) = a1 ∧ ((0 ≤ x_6 ∧ x_6 < (l0.length : Int)) ∧ ar0 = (gx l0 (x_6.toNat)).2 ∧ ar1 = true)) ∨ (¬ (((gx l0 (x_6.toNat)).1) = a1) ∧ reliquaryref06_last.L1 l0 a1 ar0 ar1 kL1 s_4 b_5 (IntKind.i64.wrap (x_6 - 1)))))) ∨ (¬ (x_6 ≥ 0) ∧ ar0 = (⟨#[]⟩ : ByteArray) ∧ ar1 = false))
def reliquaryref06_last.rel (l0 : List R86) (a1 : Int) (ar0 : ByteArray) (ar1 : Bool) : Prop := (∃ k_ : Nat, reliquaryref06_last.L1 l0 a1 ar0 ar1 k_ (⟨#[]⟩ : ByteArray) false (IntKind.i64.wrap ((l0.length : Int) - 1)))
set_option maxHeartbeats 1000000 in
set_option maxRecDepth 100000 in
theorem reliquaryref06_last.calls (w w1 : World) (T R : Pool) (l0 : List R86) (a1 : Int) (A0 : Option Addr) (n0 : Nat) (c0 : Nat) (st0 : St w w1 ((T ++ R))) (hb0 : HS w (T ++ R) T A0 n0 c0 (f86 w) l0) (ar0 : ByteArray) (ar1 : Bool) (H : reliquaryref06_last.rel l0 a1 ar0 ar1) :
  Calls Try.prog 47 #[.slice A0 n0 c0, .int .i64 a1] w1 fun e w' => ∃ T' , Pl T T' ∧ e = .returned (.tuple #[.string ar0, .bool ar1]) ∧ St w w' ((T' ++ R)) := by
 refine CW.enter Try.func47 rfl (n := 26) rfl [.slice A0 n0 c0, .int .i64 a1] (Nat.le_of_ble_eq_true rfl) ?_
 refine CW.sub [(0, .slice A0 n0 c0), (1, .int .i64 a1)] ⟨rfl, rfl, trivial⟩ ?_
 refine CW.seq (CW.region ?_)
 refine WL.val Wanted.none (Runs.assign rfl) ?_
 refine WL.val Wanted.none (Runs.assign rfl) ?_
 refine WL.nil (QW.then_n ?_)
 refine CW.seq ?_
 refine CW.seq (CW.region ?_)
 refine WL.val Wanted.none (Runs.move rfl) ?_
 refine WL.val Wanted.none (Runs.len_sl Try.underlying45 rfl (by rw [hb0.1])) ?_
 refine WL.val Wanted.none (Runs.sub rfl rfl rfl) ?_
 refine WL.val Wanted.none (Runs.assign rfl) ?_
 refine WL.nil (QW.then_n ?_)
 refine CW.block ?_
 obtain ⟨k_1, H⟩ := H
 refine CW.sub [(0, .slice A0 n0 c0), (1, .int .i64 a1), (4, .string (⟨#[]⟩ : ByteArray)), (5, .bool false), (6, .int .i64 (IntKind.i64.wrap ((l0.length : Int) - 1)))] ⟨rfl, rfl, rfl, rfl, rfl, trivial⟩ ?_
 refine CW.loop (fun kL1 l_ w_ => ∃ (T_2 : Pool) (s_4 : ByteArray) (b_5 : Bool) (x_6 : Int), l_ = [(0, .slice A0 n0 c0), (1, .int .i64 a1), (4, .string s_4), (5, .bool b_5), (6, .int .i64 x_6)] ∧ reliquaryref06_last.L1 l0 a1 ar0 ar1 kL1 s_4 b_5 x_6 ∧ (Pl T T_2) ∧ St w w_ ((T_2 ++ R))) (k := k_1) ⟨T, (⟨#[]⟩ : ByteArray), false, IntKind.i64.wrap ((l0.length : Int) - 1), rfl, H, Pl.refl, st0⟩ (fun _ _ h => by obtain ⟨_, _, _, _, _, h, _⟩ := h; exact h.elim) ?_
 rintro kL1 l_9 w_7 ⟨T_2, s_4, b_5, x_6, rfl, H, hs_3, st_8⟩
 refine CW.seq ?_
 refine CW.seq (CW.region ?_)
 refine WL.val Wanted.none (Runs.move rfl) ?_
 refine WL.val Wanted.none (Runs.geq rfl rfl rfl) ?_
 refine WL.nil (QW.then_n ?_)
 rcases H with ⟨c_10, H⟩ | ⟨c_10, H⟩
 ·have h_11 : (decide (x_6 ≥ 0)) = true := (decide_eq_true c_10)
  refine CW.ct rfl h_11 ?_
  refine CW.skip ?_
  refine QW.then_n ?_
  refine CW.seq ?_
  refine CW.block ?_
  refine CW.seq (CW.region ?_)
  refine WL.val Wanted.none (Runs.move rfl) ?_
  refine WL.val Wanted.none (Runs.move rfl) ?_
  obtain ⟨⟨p_12, q_13⟩, H⟩ := H
  obtain ⟨x_14, hs_15, hr_16⟩ := hb0.2.2
  obtain ⟨a_17, e_18, ms_19, hc_20, hm_21⟩ := el_get (i := (x_6).toNat) ((hs_15.at st_8 (mem_TR (A := []) (fun _ h_ => hs_3.1 _ h_)))) (hr_16.mono (fun _ h_ => hs_3.1 _ h_)) (fz86 w) (by decide) (by omega)
  obtain em_22 := inv86 hm_21
  replace em_22 : ms_19 = ([.int .i64 ((gx l0 (x_6.toNat)).1)] : Cs) ++ ([.string ((gx l0 (x_6.toNat)).2)] : Cs) := em_22
  subst em_22
  refine WL.val Wanted.none (Runs.indexAddr Try.underlying45 cells86 (by decide) rfl e_18 rfl p_12 (by rw [show n0 = l0.length from hb0.1]; exact q_13) (o := (x_6.toNat) * 2) (by first | rfl | omega)) ?_
  refine WL.val Wanted.none (Runs.fieldAddrB (off := 0) fld86_0 rfl rfl rfl) ?_
  refine WL.val Wanted.none (Runs.load nagg3 rfl (Src.cellAt (j := 0) (Src.cut ((hs_15.at st_8 (mem_TR (A := []) (fun _ h_ => hs_3.1 _ h_)))) e_18 hc_20) rfl)) ?_
  refine WL.val Wanted.none (Runs.move rfl) ?_
  refine WL.val Wanted.none (Runs.eql rfl rfl rfl) ?_
  refine WL.nil (QW.then_n ?_)
  rcases H with ⟨c_23, H⟩ | ⟨c_23, H⟩
  ·have h_24 : (((gx l0 (x_6.toNat)).1) == a1) = true := (beq_iff_eq.mpr c_23)
   refine CW.ct rfl h_24 ?_
   refine CW.seq (CW.region ?_)
   refine WL.val Wanted.none (Runs.move rfl) ?_
   refine WL.val Wanted.none (Runs.move rfl) ?_
   obtain ⟨⟨p_25, q_26⟩, H⟩ := H
   obtain ⟨x_27, hs_28, hr_29⟩ := hb0.2.2
   obtain ⟨a_30, e_31, ms_32, hc_33, hm_34⟩ := el_get (i := (x_6).toNat) ((hs_28.at st_8 (mem_TR (A := []) (fun _ h_ => hs_3.1 _ h_)))) (hr_29.mono (fun _ h_ => hs_3.1 _ h_)) (fz86 w) (by decide) (by omega)
   obtain em_35 := inv86 hm_34
   replace em_35 : ms_32 = ([.int .i64 ((gx l0 (x_6.toNat)).1)] : Cs) ++ ([.string ((gx l0 (x_6.toNat)).2)] : Cs) := em_35
   subst em_35
   refine WL.val Wanted.none (Runs.indexAddr Try.underlying45 cells86 (by decide) rfl e_31 rfl p_25 (by rw [show n0 = l0.length from hb0.1]; exact q_26) (o := (x_6.toNat) * 2) (by first | rfl | omega)) ?_
   refine WL.val Wanted.none (Runs.fieldAddrB (off := 1) fld86_1 rfl rfl rfl) ?_
   refine WL.val Wanted.none (Runs.load nagg9 rfl (Src.cellAt (j := 1) (Src.cut ((hs_28.at st_8 (mem_TR (A := []) (fun _ h_ => hs_3.1 _ h_)))) e_31 hc_33) rfl)) ?_
   refine WL.val Wanted.none (Runs.assign rfl) ?_
   refine WL.val Wanted.none (Runs.assign rfl) ?_
   refine WL.nil (QW.then_n ?_)
   refine CW.ret ?_
   refine QW.blk_r ?_
   refine QW.then_r ?_
   refine QW.then_r ?_
   refine QW.blk_r ?_
   refine QW.then_r ?_
   obtain ⟨rfl, rfl⟩ := H
   exact QW.ret2 rfl rfl rfl ⟨T_2, hs_3, rfl, (St.pickT (L := []) st_8 [] (by decide))⟩
  ·have h_24 : (((gx l0 (x_6.toNat)).1) == a1) = false := (beq_eq_false_iff_ne.mpr c_23)
   refine CW.cf rfl h_24 ?_
   refine CW.skip ?_
   refine QW.blk_n ?_
   refine QW.then_n ?_
   refine CW.region ?_
   refine WL.val Wanted.none (Runs.move rfl) ?_
   refine WL.val Wanted.none (Runs.sub rfl rfl rfl) ?_
   refine WL.val Wanted.none (Runs.assign rfl) ?_
   refine WL.nil ?_
   exact QW.at _ (by repeat' constructor) ⟨T_2, s_4, b_5, IntKind.i64.wrap (x_6 - 1), rfl, H, hs_3, st_8⟩
 ·have h_11 : (decide (x_6 ≥ 0)) = false := (decide_eq_false c_10)
  refine CW.cf rfl h_11 ?_
  refine CW.exit ?_
  refine QW.then_x ?_
  refine QW.then_x ?_
  refine QW.blk_x ?_
  refine QW.then_n ?_
  refine CW.seq (CW.region ?_)
  refine WL.val Wanted.none (Runs.assign rfl) ?_
  refine WL.val Wanted.none (Runs.assign rfl) ?_
  refine WL.nil (QW.then_n ?_)
  refine CW.ret ?_
  obtain ⟨rfl, rfl⟩ := H
  exact QW.ret2 rfl rfl rfl ⟨T_2, hs_3, rfl, (St.pickT (L := []) st_8 [] (by decide))⟩

/-! ### reliquaryref06_At: function 37 -/
def reliquaryref06_At.rel (a0_0 : Int) (l0_1 : List R86) (l0_2 : List R86) (a0_3 : Int) (a0_4 : Bool) (l0_5 : List R81) (a1 : Int) (ar0 : ByteArray) : Prop := (∃ (a_10 : ByteArray) (a_12 : Bool), reliquaryref06_last.rel l0_1 a1 a_10 a_12 ∧ ((a_12 = true ∧ ar0 = a_10) ∨ (¬ (a_12 = true) ∧ ar0 = strOfNums (List.replicate 192 (0 : Int)))))
set_option maxHeartbeats 1000000 in
set_option maxRecDepth 100000 in
theorem reliquaryref06_At.calls (w w1 : World) (T R : Pool) (a0_0 : Int) (l0_1 : List R86) (l0_2 : List R86) (a0_3 : Int) (a0_4 : Bool) (l0_5 : List R81) (a1 : Int) (A0_1 : Option Addr) (n0_1 : Nat) (c0_1 : Nat) (A0_2 : Option Addr) (n0_2 : Nat) (c0_2 : Nat) (A0_5 : Option Addr) (n0_5 : Nat) (c0_5 : Nat) (st0 : St w w1 ((T ++ R))) (hb0_1 : HS w T T A0_1 n0_1 c0_1 (f86 w) l0_1) (hb0_2 : HS w T T A0_2 n0_2 c0_2 (f86 w) l0_2) (hb0_5 : HS w T T A0_5 n0_5 c0_5 (f81 w) l0_5) (ar0 : ByteArray) (H : reliquaryref06_At.rel a0_0 l0_1 l0_2 a0_3 a0_4 l0_5 a1 ar0) :
  Calls Try.prog 37 #[.agg (([.int .i64 a0_0] : Cs) ++ (([.slice A0_1 n0_1 c0_1] : Cs) ++ (([.slice A0_2 n0_2 c0_2] : Cs) ++ (([.int .i64 a0_3] : Cs) ++ (([.bool a0_4] : Cs) ++ ([.slice A0_5 n0_5 c0_5] : Cs)))))).toArray, .int .i64 a1] w1 fun e w' => ∃ T' , Pl T T' ∧ e = .returned (.string ar0) ∧ St w w' ((T' ++ R)) := by
 refine CW.enter Try.func37 rfl (n := 18) rfl [.agg (([.int .i64 a0_0] : Cs) ++ (([.slice A0_1 n0_1 c0_1] : Cs) ++ (([.slice A0_2 n0_2 c0_2] : Cs) ++ (([.int .i64 a0_3] : Cs) ++ (([.bool a0_4] : Cs) ++ ([.slice A0_5 n0_5 c0_5] : Cs)))))).toArray, .int .i64 a1] (Nat.le_of_ble_eq_true rfl) ?_
 refine CW.sub [(0, .agg (([.int .i64 a0_0] : Cs) ++ (([.slice A0_1 n0_1 c0_1] : Cs) ++ (([.slice A0_2 n0_2 c0_2] : Cs) ++ (([.int .i64 a0_3] : Cs) ++ (([.bool a0_4] : Cs) ++ ([.slice A0_5 n0_5 c0_5] : Cs)))))).toArray), (1, .int .i64 a1)] ⟨rfl, rfl, trivial⟩ ?_
 refine CW.seq (CW.region ?_)
 refine WL.box st0 rfl rfl ?_
 intro B_1 w_2 st_3
 replace st_3 : St w w_2 (.cells B_1 (([.int .i64 a0_0] : Cs) ++ (([.slice A0_1 n0_1 c0_1] : Cs) ++ (([.slice A0_2 n0_2 c0_2] : Cs) ++ (([.int .i64 a0_3] : Cs) ++ (([.bool a0_4] : Cs) ++ ([.slice A0_5 n0_5 c0_5] : Cs)))))) 48 :: (T ++ R)) := st_3
 refine WL.val Wanted.none (Runs.assign rfl) ?_
 refine WL.nil (QW.then_n ?_)
 refine CW.seq (CW.region ?_)
 refine WL.val Wanted.none (Runs.fieldAddr (off := 1) (p := 1) fld48_1 rfl rfl rfl) ?_
 refine WL.val Wanted.none (Runs.load nagg45 rfl (st_3.cell (k := 0) rfl (part_one (u := .slice A0_1 n0_1 c0_1) (pre := (([.int .i64 a0_0] : Cs))) (post := (([.slice A0_2 n0_2 c0_2] : Cs) ++ (([.int .i64 a0_3] : Cs) ++ (([.bool a0_4] : Cs) ++ ([.slice A0_5 n0_5 c0_5] : Cs))))) (by first | rfl | simp only [List.append_assoc, List.append_nil, List.nil_append, List.cons_append]) (by first | rfl | simp only [List.length_append, List.length_cons, List.length_nil, iv_length])))) ?_
 refine WL.val Wanted.none (Runs.move rfl) ?_
 have st_5 : St w w_2 ((T ++ (.cells B_1 (([.int .i64 a0_0] : Cs) ++ (([.slice A0_1 n0_1 c0_1] : Cs) ++ (([.slice A0_2 n0_2 c0_2] : Cs) ++ (([.int .i64 a0_3] : Cs) ++ (([.bool a0_4] : Cs) ++ ([.slice A0_5 n0_5 c0_5] : Cs)))))) 48 :: R))) := St.hide (A := []) (B := [_]) (T := T) (R := R) st_3
 obtain ⟨a_10, a_12, hr_6, H⟩ := H
 refine WL.call Wanted.none ent47 rfl (reliquaryref06_last.calls w w_2 T (.cells B_1 (([.int .i64 a0_0] : Cs) ++ (([.slice A0_1 n0_1 c0_1] : Cs) ++ (([.slice A0_2 n0_2 c0_2] : Cs) ++ (([.int .i64 a0_3] : Cs) ++ (([.bool a0_4] : Cs) ++ ([.slice A0_5 n0_5 c0_5] : Cs)))))) 48 :: R) l0_1 a1 A0_1 n0_1 c0_1  st_5 (hb0_1.mono (memo_T (B := [_]) (fun _ h_ => h_)) (fun _ h_ => h_)) a_10 a_12 hr_6) ?_
 rintro _ w_13 ⟨T_7, hs_8, rfl, sc_15⟩
 have st_14 : St w w_13 (.cells B_1 (([.int .i64 a0_0] : Cs) ++ (([.slice A0_1 n0_1 c0_1] : Cs) ++ (([.slice A0_2 n0_2 c0_2] : Cs) ++ (([.int .i64 a0_3] : Cs) ++ (([.bool a0_4] : Cs) ++ ([.slice A0_5 n0_5 c0_5] : Cs)))))) 48 :: (T_7 ++ R)) := St.unhide (A := []) (B := [_]) (T := T_7) (R := R) sc_15
 refine ⟨_, rfl, ?_⟩
 refine WL.val Wanted.none (Runs.move rfl) ?_
 refine WL.val Wanted.none (Runs.extract rfl rfl) ?_
 refine WL.val Wanted.none (Runs.extract rfl rfl) ?_
 refine WL.val Wanted.none (Runs.assign rfl) ?_
 refine WL.val Wanted.none (Runs.assign rfl) ?_
 refine WL.nil (QW.then_n ?_)
 refine CW.sub [(4, .string (⟨#[]⟩ : ByteArray)), (5, .string a_10), (6, .bool a_12)] ⟨rfl, rfl, rfl, trivial⟩ ?_
 refine CW.seq ?_
 refine CW.seq (CW.region ?_)
 refine WL.val Wanted.none (Runs.move rfl) ?_
 refine WL.nil (QW.then_n ?_)
 rcases H with ⟨c_16, H⟩ | ⟨c_16, H⟩
 ·have h_17 : a_12 = true := c_16
  refine CW.ct rfl h_17 ?_
  refine CW.seq (CW.region ?_)
  refine WL.val Wanted.none (Runs.move rfl) ?_
  refine WL.val Wanted.none (Runs.assign rfl) ?_
  refine WL.nil (QW.then_n ?_)
  refine CW.ret ?_
  refine QW.then_r ?_
  obtain rfl := H
  exact QW.ret1 rfl rfl ⟨T_7, hs_8, rfl, (St.pickT (L := [_]) st_14 [] (by decide))⟩
 ·have h_17 : a_12 = false := (Bool.eq_false_iff.mpr c_16)
  refine CW.cf rfl h_17 ?_
  refine CW.skip ?_
  refine QW.then_n ?_
  refine CW.seq (CW.region ?_)
  refine WL.make st_14 Try.underlying22 elem5 rfl rfl (by decide) (by decide) (by decide) (N := 192) rfl ?_
  intro B_18 w_19 st_20
  replace st_20 : St w w_19 (.sl (some ⟨B_18, 0, none⟩) 192 192 (iv .u8 (List.replicate 192 (0 : Int))) 5 1 :: .cells B_1 (([.int .i64 a0_0] : Cs) ++ (([.slice A0_1 n0_1 c0_1] : Cs) ++ (([.slice A0_2 n0_2 c0_2] : Cs) ++ (([.int .i64 a0_3] : Cs) ++ (([.bool a0_4] : Cs) ++ ([.slice A0_5 n0_5 c0_5] : Cs)))))) 48 :: (T_7 ++ R)) := by rw [iv_replicate] at st_20; exact st_20
  have hn_21 : 192 = (List.replicate 192 (0 : Int)).length := by simp
  refine WL.val Wanted.none (Runs.bytes_str Try.underlying22 Try.underlying5 Try.underlying9 rfl (st_20.src_sl (k := 0) rfl) hn_21) ?_
  refine WL.val Wanted.none (Runs.assign rfl) ?_
  refine WL.nil (QW.then_n ?_)
  refine CW.ret ?_
  obtain rfl := H
  exact QW.ret1 rfl rfl ⟨T_7, hs_8, rfl, (St.pickT (L := [_, _]) st_20 [] (by decide))⟩

/-! ### reliquaryref06_Read: function 32 -/
def reliquaryref06_Read.rel (a0_0 : Int) (l0_1 : List R86) (l0_2 : List R86) (a0_3 : Int) (a0_4 : Bool) (l0_5 : List R81) (a1 : Int) (ar0_0 : Int) (lr0_1 : List R86) (lr0_2 : List R86) (ar0_3 : Int) (ar0_4 : Bool) (lr0_5 : List R81) (ar1 : ByteArray) (ar2 : Int) : Prop := ((a0_4 = true ∧ ar0_0 = a0_0 ∧ lr0_1 = l0_1 ∧ lr0_2 = l0_2 ∧ ar0_3 = a0_3 ∧ ar0_4 = a0_4 ∧ lr0_5 = l0_5 ∧ ar1 = (⟨#[]⟩ : ByteArray) ∧ ar2 = 13) ∨ (¬ (a0_4 = true) ∧ ((a1 < 0 ∧ ar0_0 = a0_0 ∧ lr0_1 = l0_1 ∧ lr0_2 = l0_2 ∧ ar0_3 = a0_3 ∧ ar0_4 = a0_4 ∧ lr0_5 = l0_5 ∧ ar1 = (⟨#[]⟩ : ByteArray) ∧ ar2 = 12) ∨ (¬ (a1 < 0) ∧ ((a1 ≥ a0_0 ∧ ar0_0 = a0_0 ∧ lr0_1 = l0_1 ∧ lr0_2 = l0_2 ∧ ar0_3 = a0_3 ∧ ar0_4 = a0_4 ∧ lr0_5 = l0_5 ∧ ar1 = (⟨#[]⟩ : ByteArray) ∧ ar2 = 12) ∨ (¬ (a1 ≥ a0_0) ∧ (∃ (a_26 : ByteArray) (a_28 : Bool), reliquaryref06_last.rel l0_2 a1 a_26 a_28 ∧ ((¬ (a_28 = true) ∧ (∃ (a_39 : ByteArray), reliquaryref06_At.rel a0_0 l0_1 l0_2 a0_3 a0_4 l0_5 a1 a_39 ∧ (∃ (a_48_0 : Int) (l_52_1 : List R86) (l_52_2 : List R86) (a_48_3 : Int) (a_48_4 : Bool) (l_52_5 : List R81), reliquaryref06_noted.rel a0_0 l0_1 l0_2 a0_3 a0_4 l0_5 1 a1 a_48_0 l_52_1 l_52_2 a_48_3 a_48_4 l_52_5 ∧ ar0_0 = a_48_0 ∧ lr0_1 = l_52_1 ∧ lr0_2 = l_52_2 ∧ ar0_3 = a_48_3 ∧ ar0_4 = a_48_4 ∧ lr0_5 = l_52_5 ∧ ar1 = a_39 ∧ ar2 = 0))) ∨ (¬ (¬ (a_28 = true)) ∧ (∃ (a_65_0 : Int) (l_69_1 : List R86) (l_69_2 : List R86) (a_65_3 : Int) (a_65_4 : Bool) (l_69_5 : List R81), reliquaryref06_noted.rel a0_0 l0_1 l0_2 a0_3 a0_4 l0_5 1 a1 a_65_0 l_69_1 l_69_2 a_65_3 a_65_4 l_69_5 ∧ ar0_0 = a_65_0 ∧ lr0_1 = l_69_1 ∧ lr0_2 = l_69_2 ∧ ar0_3 = a_65_3 ∧ ar0_4 = a_65_4 ∧ lr0_5 = l_69_5 ∧ ar1 = a_26 ∧ ar2 = 0))))))))))
set_option maxHeartbeats 1000000 in
set_option maxRecDepth 100000 in
theorem reliquaryref06_Read.calls (w w1 : World) (T R : Pool) (a0_0 : Int) (l0_1 : List R86) (l0_2 : List R86) (a0_3 : Int) (a0_4 : Bool) (l0_5 : List R81) (a1 : Int) (A0_1 : Option Addr) (n0_1 : Nat) (c0_1 : Nat) (A0_2 : Option Addr) (n0_2 : Nat) (c0_2 : Nat) (A0_5 : Option Addr) (n0_5 : Nat) (c0_5 : Nat) (st0 : St w w1 ((T ++ R))) (hb0_1 : HS w T T A0_1 n0_1 c0_1 (f86 w) l0_1) (hb0_2 : HS w T T A0_2 n0_2 c0_2 (f86 w) l0_2) (hb0_5 : HS w T T A0_5 n0_5 c0_5 (f81 w) l0_5) (ar0_0 : Int) (lr0_1 : List R86) (lr0_2 : List R86) (ar0_3 : Int) (ar0_4 : Bool) (lr0_5 : List R81) (ar1 : ByteArray) (ar2 : Int) (H : reliquaryref06_Read.rel a0_0 l0_1 l0_2 a0_3 a0_4 l0_5 a1 ar0_0 lr0_1 lr0_2 ar0_3 ar0_4 lr0_5 ar1 ar2) :
  Calls Try.prog 32 #[.agg (([.int .i64 a0_0] : Cs) ++ (([.slice A0_1 n0_1 c0_1] : Cs) ++ (([.slice A0_2 n0_2 c0_2] : Cs) ++ (([.int .i64 a0_3] : Cs) ++ (([.bool a0_4] : Cs) ++ ([.slice A0_5 n0_5 c0_5] : Cs)))))).toArray, .int .i64 a1] w1 fun e w' => ∃ T' Ar0_1 nr0_1 cr0_1 Ar0_2 nr0_2 cr0_2 Ar0_5 nr0_5 cr0_5, Pl T T' ∧ HS w T' T' Ar0_1 nr0_1 cr0_1 (f86 w) lr0_1 ∧ HS w T' T' Ar0_2 nr0_2 cr0_2 (f86 w) lr0_2 ∧ HS w T' T' Ar0_5 nr0_5 cr0_5 (f81 w) lr0_5 ∧ e = .returned (.tuple #[.agg (([.int .i64 ar0_0] : Cs) ++ (([.slice Ar0_1 nr0_1 cr0_1] : Cs) ++ (([.slice Ar0_2 nr0_2 cr0_2] : Cs) ++ (([.int .i64 ar0_3] : Cs) ++ (([.bool ar0_4] : Cs) ++ ([.slice Ar0_5 nr0_5 cr0_5] : Cs)))))).toArray, .string ar1, .int .i64 ar2]) ∧ St w w' ((T' ++ R)) := by
 refine CW.enter Try.func32 rfl (n := 37) rfl [.agg (([.int .i64 a0_0] : Cs) ++ (([.slice A0_1 n0_1 c0_1] : Cs) ++ (([.slice A0_2 n0_2 c0_2] : Cs) ++ (([.int .i64 a0_3] : Cs) ++ (([.bool a0_4] : Cs) ++ ([.slice A0_5 n0_5 c0_5] : Cs)))))).toArray, .int .i64 a1] (Nat.le_of_ble_eq_true rfl) ?_
 refine CW.sub [(0, .agg (([.int .i64 a0_0] : Cs) ++ (([.slice A0_1 n0_1 c0_1] : Cs) ++ (([.slice A0_2 n0_2 c0_2] : Cs) ++ (([.int .i64 a0_3] : Cs) ++ (([.bool a0_4] : Cs) ++ ([.slice A0_5 n0_5 c0_5] : Cs)))))).toArray), (1, .int .i64 a1)] ⟨rfl, rfl, trivial⟩ ?_
 refine CW.seq (CW.region ?_)
 refine WL.box st0 rfl rfl ?_
 intro B_1 w_2 st_3
 replace st_3 : St w w_2 (.cells B_1 (([.int .i64 a0_0] : Cs) ++ (([.slice A0_1 n0_1 c0_1] : Cs) ++ (([.slice A0_2 n0_2 c0_2] : Cs) ++ (([.int .i64 a0_3] : Cs) ++ (([.bool a0_4] : Cs) ++ ([.slice A0_5 n0_5 c0_5] : Cs)))))) 48 :: (T ++ R)) := st_3
 refine WL.alloc st_3 zero48 ?_
 intro B_5 w_6 st_7
 replace st_7 : St w w_6 (.cells B_5 (([.int .i64 0] : Cs) ++ (([.slice none 0 0] : Cs) ++ (([.slice none 0 0] : Cs) ++ (([.int .i64 0] : Cs) ++ (([.bool false] : Cs) ++ ([.slice none 0 0] : Cs)))))) 48 :: .cells B_1 (([.int .i64 a0_0] : Cs) ++ (([.slice A0_1 n0_1 c0_1] : Cs) ++ (([.slice A0_2 n0_2 c0_2] : Cs) ++ (([.int .i64 a0_3] : Cs) ++ (([.bool a0_4] : Cs) ++ ([.slice A0_5 n0_5 c0_5] : Cs)))))) 48 :: (T ++ R)) := st_7
 refine WL.val Wanted.none (Runs.assign rfl) ?_
 refine WL.val Wanted.none (Runs.assign rfl) ?_
 refine WL.nil (QW.then_n ?_)
 refine CW.seq ?_
 refine CW.seq (CW.region ?_)
 refine WL.val Wanted.none (Runs.fieldAddr (off := 4) (p := 4) fld48_4 rfl rfl rfl) ?_
 refine WL.val Wanted.none (Runs.load nagg4 rfl (st_7.cell (k := 1) rfl (part_one (u := .bool a0_4) (pre := (([.int .i64 a0_0] : Cs) ++ (([.slice A0_1 n0_1 c0_1] : Cs) ++ (([.slice A0_2 n0_2 c0_2] : Cs) ++ ([.int .i64 a0_3] : Cs))))) (post := (([.slice A0_5 n0_5 c0_5] : Cs))) (by first | rfl | simp only [List.append_assoc, List.append_nil, List.nil_append, List.cons_append]) (by first | rfl | simp only [List.length_append, List.length_cons, List.length_nil, iv_length])))) ?_
 refine WL.nil (QW.then_n ?_)
 rcases H with ⟨c_9, H⟩ | ⟨c_9, H⟩
 ·have h_10 : a0_4 = true := c_9
  refine CW.ct rfl h_10 ?_
  refine CW.seq (CW.region ?_)
  refine WL.val Wanted.none (Runs.load_mid row48 rfl st_7 (i := 1) rfl (part_mid (pre := (([] : Cs))) (mid := (([.int .i64 a0_0] : Cs) ++ (([.slice A0_1 n0_1 c0_1] : Cs) ++ (([.slice A0_2 n0_2 c0_2] : Cs) ++ (([.int .i64 a0_3] : Cs) ++ (([.bool a0_4] : Cs) ++ ([.slice A0_5 n0_5 c0_5] : Cs))))))) (post := (([] : Cs))) (by first | rfl | simp only [List.append_assoc, List.append_nil, List.nil_append, List.cons_append]) (by first | rfl | simp only [List.length_append, List.length_cons, List.length_nil, iv_length]) (by first | rfl | simp only [List.length_append, List.length_cons, List.length_nil, iv_length])) (by first | rfl | simp only [List.length_append, List.length_cons, List.length_nil, iv_length])) ?_
  refine WL.store_mid (i := 0) (pre := (([] : Cs))) (mid := (([.int .i64 0] : Cs) ++ (([.slice none 0 0] : Cs) ++ (([.slice none 0 0] : Cs) ++ (([.int .i64 0] : Cs) ++ (([.bool false] : Cs) ++ ([.slice none 0 0] : Cs))))))) (post := (([] : Cs))) (ms := (([.int .i64 a0_0] : Cs) ++ (([.slice A0_1 n0_1 c0_1] : Cs) ++ (([.slice A0_2 n0_2 c0_2] : Cs) ++ (([.int .i64 a0_3] : Cs) ++ (([.bool a0_4] : Cs) ++ ([.slice A0_5 n0_5 c0_5] : Cs))))))) st_7 rfl row48 (by first | rfl | simp only [List.append_assoc, List.append_nil, List.nil_append, List.cons_append]) (by first | rfl | simp only [List.length_append, List.length_cons, List.length_nil, iv_length]) rfl rfl (by first | rfl | simp only [List.length_append, List.length_cons, List.length_nil, iv_length]) (by first | rfl | simp only [List.length_append, List.length_cons, List.length_nil, iv_length]) (by intro u hu; simp only [List.mem_append, List.mem_singleton] at hu; rcases hu with hu | hu | hu | hu | hu | hu <;> first | exact one_iv _ _ u hu | (subst hu; rfl)) ?_
  intro w_11 st_12
  replace st_12 : St w w_11 (.cells B_5 (([.int .i64 a0_0] : Cs) ++ (([.slice A0_1 n0_1 c0_1] : Cs) ++ (([.slice A0_2 n0_2 c0_2] : Cs) ++ (([.int .i64 a0_3] : Cs) ++ (([.bool a0_4] : Cs) ++ ([.slice A0_5 n0_5 c0_5] : Cs)))))) 48 :: .cells B_1 (([.int .i64 a0_0] : Cs) ++ (([.slice A0_1 n0_1 c0_1] : Cs) ++ (([.slice A0_2 n0_2 c0_2] : Cs) ++ (([.int .i64 a0_3] : Cs) ++ (([.bool a0_4] : Cs) ++ ([.slice A0_5 n0_5 c0_5] : Cs)))))) 48 :: (T ++ R)) := by have e_ : (([.int .i64 a0_0] : Cs) ++ (([.slice A0_1 n0_1 c0_1] : Cs) ++ (([.slice A0_2 n0_2 c0_2] : Cs) ++ (([.int .i64 a0_3] : Cs) ++ (([.bool a0_4] : Cs) ++ ([.slice A0_5 n0_5 c0_5] : Cs)))))) = (([] : Cs)) ++ ((([.int .i64 a0_0] : Cs) ++ (([.slice A0_1 n0_1 c0_1] : Cs) ++ (([.slice A0_2 n0_2 c0_2] : Cs) ++ (([.int .i64 a0_3] : Cs) ++ (([.bool a0_4] : Cs) ++ ([.slice A0_5 n0_5 c0_5] : Cs)))))) ++ (([] : Cs))) := (by first | rfl | simp only [List.append_assoc, List.append_nil, List.nil_append, List.cons_append]); have h_ : St w w_11 (.cells B_5 ((([] : Cs)) ++ ((([.int .i64 a0_0] : Cs) ++ (([.slice A0_1 n0_1 c0_1] : Cs) ++ (([.slice A0_2 n0_2 c0_2] : Cs) ++ (([.int .i64 a0_3] : Cs) ++ (([.bool a0_4] : Cs) ++ ([.slice A0_5 n0_5 c0_5] : Cs)))))) ++ (([] : Cs)))) 48 :: .cells B_1 (([.int .i64 a0_0] : Cs) ++ (([.slice A0_1 n0_1 c0_1] : Cs) ++ (([.slice A0_2 n0_2 c0_2] : Cs) ++ (([.int .i64 a0_3] : Cs) ++ (([.bool a0_4] : Cs) ++ ([.slice A0_5 n0_5 c0_5] : Cs)))))) 48 :: (T ++ R)) := st_12; rw [← e_] at h_; exact h_
  refine WL.val Wanted.none (Runs.assign rfl) ?_
  refine WL.val Wanted.none (Runs.assign rfl) ?_
  refine WL.nil (QW.then_n ?_)
  refine CW.ret ?_
  refine QW.then_r ?_
  obtain ⟨rfl, rfl, rfl, rfl, rfl, rfl, rfl, rfl⟩ := H
  exact QW.retN3 rfl (Res.row rfl row48 st_12 (i := 0) rfl (by first | rfl | simp only [List.length_append, List.length_cons, List.length_nil, iv_length])) (Res.tmp rfl) (Res.tmp rfl) ⟨T, A0_1, n0_1, c0_1, A0_2, n0_2, c0_2, A0_5, n0_5, c0_5, Pl.refl, hb0_1, hb0_2, hb0_5, rfl, (St.pickT (L := [_, _]) st_12 [] (by decide))⟩
 ·have h_10 : a0_4 = false := (Bool.eq_false_iff.mpr c_9)
  refine CW.cf rfl h_10 ?_
  refine CW.skip ?_
  refine QW.then_n ?_
  refine CW.seq ?_
  refine CW.seq (CW.region ?_)
  refine WL.val Wanted.none (Runs.move rfl) ?_
  refine WL.val Wanted.none (Runs.lss rfl rfl rfl) ?_
  refine WL.val Wanted.none (Runs.move rfl) ?_
  rcases H with ⟨c_13, H⟩ | ⟨c_13, H⟩
  ·have h_14 : (decide (a1 < 0)) = true := (decide_eq_true c_13)
   refine WL.off ?_ ?_; exact Wanted.guard (dj := 14) (by rfl) (evb (by rfl) h_14) (by rfl)
   refine WL.off ?_ ?_; exact Wanted.guard (dj := 14) (by rfl) (evb (by rfl) h_14) (by rfl)
   refine WL.off ?_ ?_; exact Wanted.guard (dj := 14) (by rfl) (evb (by rfl) h_14) (by rfl)
   refine WL.off ?_ ?_; exact Wanted.guard (dj := 14) (by rfl) (evb (by rfl) h_14) (by rfl)
   refine WL.val Wanted.none (Runs.pick_t (evb rfl h_14) rfl) ?_
   refine WL.nil (QW.then_n ?_)
   refine CW.sub [(1, .int .i64 a1), (2, .pointer (some ⟨B_1, 0, none⟩)), (4, .pointer (some ⟨B_5, 0, none⟩)), (5, .string (⟨#[]⟩ : ByteArray)), (6, .int .i64 0), (19, .bool true)] (by repeat' constructor) ?_
   refine CW.ct rfl rfl ?_
   refine CW.seq (CW.region ?_)
   refine WL.val Wanted.none (Runs.load_mid row48 rfl st_7 (i := 1) rfl (part_mid (pre := (([] : Cs))) (mid := (([.int .i64 a0_0] : Cs) ++ (([.slice A0_1 n0_1 c0_1] : Cs) ++ (([.slice A0_2 n0_2 c0_2] : Cs) ++ (([.int .i64 a0_3] : Cs) ++ (([.bool a0_4] : Cs) ++ ([.slice A0_5 n0_5 c0_5] : Cs))))))) (post := (([] : Cs))) (by first | rfl | simp only [List.append_assoc, List.append_nil, List.nil_append, List.cons_append]) (by first | rfl | simp only [List.length_append, List.length_cons, List.length_nil, iv_length]) (by first | rfl | simp only [List.length_append, List.length_cons, List.length_nil, iv_length])) (by first | rfl | simp only [List.length_append, List.length_cons, List.length_nil, iv_length])) ?_
   refine WL.store_mid (i := 0) (pre := (([] : Cs))) (mid := (([.int .i64 0] : Cs) ++ (([.slice none 0 0] : Cs) ++ (([.slice none 0 0] : Cs) ++ (([.int .i64 0] : Cs) ++ (([.bool false] : Cs) ++ ([.slice none 0 0] : Cs))))))) (post := (([] : Cs))) (ms := (([.int .i64 a0_0] : Cs) ++ (([.slice A0_1 n0_1 c0_1] : Cs) ++ (([.slice A0_2 n0_2 c0_2] : Cs) ++ (([.int .i64 a0_3] : Cs) ++ (([.bool a0_4] : Cs) ++ ([.slice A0_5 n0_5 c0_5] : Cs))))))) st_7 rfl row48 (by first | rfl | simp only [List.append_assoc, List.append_nil, List.nil_append, List.cons_append]) (by first | rfl | simp only [List.length_append, List.length_cons, List.length_nil, iv_length]) rfl rfl (by first | rfl | simp only [List.length_append, List.length_cons, List.length_nil, iv_length]) (by first | rfl | simp only [List.length_append, List.length_cons, List.length_nil, iv_length]) (by intro u hu; simp only [List.mem_append, List.mem_singleton] at hu; rcases hu with hu | hu | hu | hu | hu | hu <;> first | exact one_iv _ _ u hu | (subst hu; rfl)) ?_
   intro w_15 st_16
   replace st_16 : St w w_15 (.cells B_5 (([.int .i64 a0_0] : Cs) ++ (([.slice A0_1 n0_1 c0_1] : Cs) ++ (([.slice A0_2 n0_2 c0_2] : Cs) ++ (([.int .i64 a0_3] : Cs) ++ (([.bool a0_4] : Cs) ++ ([.slice A0_5 n0_5 c0_5] : Cs)))))) 48 :: .cells B_1 (([.int .i64 a0_0] : Cs) ++ (([.slice A0_1 n0_1 c0_1] : Cs) ++ (([.slice A0_2 n0_2 c0_2] : Cs) ++ (([.int .i64 a0_3] : Cs) ++ (([.bool a0_4] : Cs) ++ ([.slice A0_5 n0_5 c0_5] : Cs)))))) 48 :: (T ++ R)) := by have e_ : (([.int .i64 a0_0] : Cs) ++ (([.slice A0_1 n0_1 c0_1] : Cs) ++ (([.slice A0_2 n0_2 c0_2] : Cs) ++ (([.int .i64 a0_3] : Cs) ++ (([.bool a0_4] : Cs) ++ ([.slice A0_5 n0_5 c0_5] : Cs)))))) = (([] : Cs)) ++ ((([.int .i64 a0_0] : Cs) ++ (([.slice A0_1 n0_1 c0_1] : Cs) ++ (([.slice A0_2 n0_2 c0_2] : Cs) ++ (([.int .i64 a0_3] : Cs) ++ (([.bool a0_4] : Cs) ++ ([.slice A0_5 n0_5 c0_5] : Cs)))))) ++ (([] : Cs))) := (by first | rfl | simp only [List.append_assoc, List.append_nil, List.nil_append, List.cons_append]); have h_ : St w w_15 (.cells B_5 ((([] : Cs)) ++ ((([.int .i64 a0_0] : Cs) ++ (([.slice A0_1 n0_1 c0_1] : Cs) ++ (([.slice A0_2 n0_2 c0_2] : Cs) ++ (([.int .i64 a0_3] : Cs) ++ (([.bool a0_4] : Cs) ++ ([.slice A0_5 n0_5 c0_5] : Cs)))))) ++ (([] : Cs)))) 48 :: .cells B_1 (([.int .i64 a0_0] : Cs) ++ (([.slice A0_1 n0_1 c0_1] : Cs) ++ (([.slice A0_2 n0_2 c0_2] : Cs) ++ (([.int .i64 a0_3] : Cs) ++ (([.bool a0_4] : Cs) ++ ([.slice A0_5 n0_5 c0_5] : Cs)))))) 48 :: (T ++ R)) := st_16; rw [← e_] at h_; exact h_
   refine WL.val Wanted.none (Runs.assign rfl) ?_
   refine WL.val Wanted.none (Runs.assign rfl) ?_
   refine WL.nil (QW.then_n ?_)
   refine CW.ret ?_
   refine QW.then_r ?_
   obtain ⟨rfl, rfl, rfl, rfl, rfl, rfl, rfl, rfl⟩ := H
   exact QW.retN3 rfl (Res.row rfl row48 st_16 (i := 0) rfl (by first | rfl | simp only [List.length_append, List.length_cons, List.length_nil, iv_length])) (Res.tmp rfl) (Res.tmp rfl) ⟨T, A0_1, n0_1, c0_1, A0_2, n0_2, c0_2, A0_5, n0_5, c0_5, Pl.refl, hb0_1, hb0_2, hb0_5, rfl, (St.pickT (L := [_, _]) st_16 [] (by decide))⟩
  ·have h_14 : (decide (a1 < 0)) = false := (decide_eq_false c_13)
   refine WL.on ?_ ?_; exact Wanted.guard (dj := 14) (by rfl) (evb (by rfl) h_14) (by rfl)
   refine WL.val Wanted.none (Runs.move rfl) ?_
   refine WL.on ?_ ?_; exact Wanted.guard (dj := 14) (by rfl) (evb (by rfl) h_14) (by rfl)
   refine WL.val Wanted.none (Runs.fieldAddr (off := 0) (p := 0) fld48_0 rfl rfl rfl) ?_
   refine WL.on ?_ ?_; exact Wanted.guard (dj := 14) (by rfl) (evb (by rfl) h_14) (by rfl)
   refine WL.val Wanted.none (Runs.load nagg3 rfl (st_7.cell (k := 1) rfl (part_one (u := .int .i64 a0_0) (pre := (([] : Cs))) (post := (([.slice A0_1 n0_1 c0_1] : Cs) ++ (([.slice A0_2 n0_2 c0_2] : Cs) ++ (([.int .i64 a0_3] : Cs) ++ (([.bool a0_4] : Cs) ++ ([.slice A0_5 n0_5 c0_5] : Cs)))))) (by first | rfl | simp only [List.append_assoc, List.append_nil, List.nil_append, List.cons_append]) (by first | rfl | simp only [List.length_append, List.length_cons, List.length_nil, iv_length])))) ?_
   refine WL.on ?_ ?_; exact Wanted.guard (dj := 14) (by rfl) (evb (by rfl) h_14) (by rfl)
   refine WL.val Wanted.none (Runs.geq rfl rfl rfl) ?_
   refine WL.val Wanted.none (Runs.pick_f (evb rfl h_14) rfl) ?_
   refine WL.nil (QW.then_n ?_)
   refine CW.sub [(1, .int .i64 a1), (2, .pointer (some ⟨B_1, 0, none⟩)), (4, .pointer (some ⟨B_5, 0, none⟩)), (5, .string (⟨#[]⟩ : ByteArray)), (6, .int .i64 0), (19, .bool (decide (a1 ≥ a0_0)))] (by repeat' constructor) ?_
   rcases H with ⟨c_17, H⟩ | ⟨c_17, H⟩
   ·have h_18 : (decide (a1 ≥ a0_0)) = true := (decide_eq_true c_17)
    refine CW.ct rfl h_18 ?_
    refine CW.seq (CW.region ?_)
    refine WL.val Wanted.none (Runs.load_mid row48 rfl st_7 (i := 1) rfl (part_mid (pre := (([] : Cs))) (mid := (([.int .i64 a0_0] : Cs) ++ (([.slice A0_1 n0_1 c0_1] : Cs) ++ (([.slice A0_2 n0_2 c0_2] : Cs) ++ (([.int .i64 a0_3] : Cs) ++ (([.bool a0_4] : Cs) ++ ([.slice A0_5 n0_5 c0_5] : Cs))))))) (post := (([] : Cs))) (by first | rfl | simp only [List.append_assoc, List.append_nil, List.nil_append, List.cons_append]) (by first | rfl | simp only [List.length_append, List.length_cons, List.length_nil, iv_length]) (by first | rfl | simp only [List.length_append, List.length_cons, List.length_nil, iv_length])) (by first | rfl | simp only [List.length_append, List.length_cons, List.length_nil, iv_length])) ?_
    refine WL.store_mid (i := 0) (pre := (([] : Cs))) (mid := (([.int .i64 0] : Cs) ++ (([.slice none 0 0] : Cs) ++ (([.slice none 0 0] : Cs) ++ (([.int .i64 0] : Cs) ++ (([.bool false] : Cs) ++ ([.slice none 0 0] : Cs))))))) (post := (([] : Cs))) (ms := (([.int .i64 a0_0] : Cs) ++ (([.slice A0_1 n0_1 c0_1] : Cs) ++ (([.slice A0_2 n0_2 c0_2] : Cs) ++ (([.int .i64 a0_3] : Cs) ++ (([.bool a0_4] : Cs) ++ ([.slice A0_5 n0_5 c0_5] : Cs))))))) st_7 rfl row48 (by first | rfl | simp only [List.append_assoc, List.append_nil, List.nil_append, List.cons_append]) (by first | rfl | simp only [List.length_append, List.length_cons, List.length_nil, iv_length]) rfl rfl (by first | rfl | simp only [List.length_append, List.length_cons, List.length_nil, iv_length]) (by first | rfl | simp only [List.length_append, List.length_cons, List.length_nil, iv_length]) (by intro u hu; simp only [List.mem_append, List.mem_singleton] at hu; rcases hu with hu | hu | hu | hu | hu | hu <;> first | exact one_iv _ _ u hu | (subst hu; rfl)) ?_
    intro w_19 st_20
    replace st_20 : St w w_19 (.cells B_5 (([.int .i64 a0_0] : Cs) ++ (([.slice A0_1 n0_1 c0_1] : Cs) ++ (([.slice A0_2 n0_2 c0_2] : Cs) ++ (([.int .i64 a0_3] : Cs) ++ (([.bool a0_4] : Cs) ++ ([.slice A0_5 n0_5 c0_5] : Cs)))))) 48 :: .cells B_1 (([.int .i64 a0_0] : Cs) ++ (([.slice A0_1 n0_1 c0_1] : Cs) ++ (([.slice A0_2 n0_2 c0_2] : Cs) ++ (([.int .i64 a0_3] : Cs) ++ (([.bool a0_4] : Cs) ++ ([.slice A0_5 n0_5 c0_5] : Cs)))))) 48 :: (T ++ R)) := by have e_ : (([.int .i64 a0_0] : Cs) ++ (([.slice A0_1 n0_1 c0_1] : Cs) ++ (([.slice A0_2 n0_2 c0_2] : Cs) ++ (([.int .i64 a0_3] : Cs) ++ (([.bool a0_4] : Cs) ++ ([.slice A0_5 n0_5 c0_5] : Cs)))))) = (([] : Cs)) ++ ((([.int .i64 a0_0] : Cs) ++ (([.slice A0_1 n0_1 c0_1] : Cs) ++ (([.slice A0_2 n0_2 c0_2] : Cs) ++ (([.int .i64 a0_3] : Cs) ++ (([.bool a0_4] : Cs) ++ ([.slice A0_5 n0_5 c0_5] : Cs)))))) ++ (([] : Cs))) := (by first | rfl | simp only [List.append_assoc, List.append_nil, List.nil_append, List.cons_append]); have h_ : St w w_19 (.cells B_5 ((([] : Cs)) ++ ((([.int .i64 a0_0] : Cs) ++ (([.slice A0_1 n0_1 c0_1] : Cs) ++ (([.slice A0_2 n0_2 c0_2] : Cs) ++ (([.int .i64 a0_3] : Cs) ++ (([.bool a0_4] : Cs) ++ ([.slice A0_5 n0_5 c0_5] : Cs)))))) ++ (([] : Cs)))) 48 :: .cells B_1 (([.int .i64 a0_0] : Cs) ++ (([.slice A0_1 n0_1 c0_1] : Cs) ++ (([.slice A0_2 n0_2 c0_2] : Cs) ++ (([.int .i64 a0_3] : Cs) ++ (([.bool a0_4] : Cs) ++ ([.slice A0_5 n0_5 c0_5] : Cs)))))) 48 :: (T ++ R)) := st_20; rw [← e_] at h_; exact h_
    refine WL.val Wanted.none (Runs.assign rfl) ?_
    refine WL.val Wanted.none (Runs.assign rfl) ?_
    refine WL.nil (QW.then_n ?_)
    refine CW.ret ?_
    refine QW.then_r ?_
    obtain ⟨rfl, rfl, rfl, rfl, rfl, rfl, rfl, rfl⟩ := H
    exact QW.retN3 rfl (Res.row rfl row48 st_20 (i := 0) rfl (by first | rfl | simp only [List.length_append, List.length_cons, List.length_nil, iv_length])) (Res.tmp rfl) (Res.tmp rfl) ⟨T, A0_1, n0_1, c0_1, A0_2, n0_2, c0_2, A0_5, n0_5, c0_5, Pl.refl, hb0_1, hb0_2, hb0_5, rfl, (St.pickT (L := [_, _]) st_20 [] (by decide))⟩
   ·have h_18 : (decide (a1 ≥ a0_0)) = false := (decide_eq_false c_17)
    refine CW.cf rfl h_18 ?_
    refine CW.skip ?_
    refine QW.then_n ?_
    refine CW.seq (CW.region ?_)
    refine WL.val Wanted.none (Runs.fieldAddr (off := 2) (p := 2) fld48_2 rfl rfl rfl) ?_
    refine WL.val Wanted.none (Runs.load nagg45 rfl (st_7.cell (k := 1) rfl (part_one (u := .slice A0_2 n0_2 c0_2) (pre := (([.int .i64 a0_0] : Cs) ++ ([.slice A0_1 n0_1 c0_1] : Cs))) (post := (([.int .i64 a0_3] : Cs) ++ (([.bool a0_4] : Cs) ++ ([.slice A0_5 n0_5 c0_5] : Cs)))) (by first | rfl | simp only [List.append_assoc, List.append_nil, List.nil_append, List.cons_append]) (by first | rfl | simp only [List.length_append, List.length_cons, List.length_nil, iv_length])))) ?_
    refine WL.val Wanted.none (Runs.move rfl) ?_
    have st_21 : St w w_6 ((T ++ (.cells B_5 (([.int .i64 0] : Cs) ++ (([.slice none 0 0] : Cs) ++ (([.slice none 0 0] : Cs) ++ (([.int .i64 0] : Cs) ++ (([.bool false] : Cs) ++ ([.slice none 0 0] : Cs)))))) 48 :: .cells B_1 (([.int .i64 a0_0] : Cs) ++ (([.slice A0_1 n0_1 c0_1] : Cs) ++ (([.slice A0_2 n0_2 c0_2] : Cs) ++ (([.int .i64 a0_3] : Cs) ++ (([.bool a0_4] : Cs) ++ ([.slice A0_5 n0_5 c0_5] : Cs)))))) 48 :: R))) := St.hide (A := []) (B := [_, _]) (T := T) (R := R) st_7
    obtain ⟨a_26, a_28, hr_22, H⟩ := H
    refine WL.call Wanted.none ent47 rfl (reliquaryref06_last.calls w w_6 T (.cells B_5 (([.int .i64 0] : Cs) ++ (([.slice none 0 0] : Cs) ++ (([.slice none 0 0] : Cs) ++ (([.int .i64 0] : Cs) ++ (([.bool false] : Cs) ++ ([.slice none 0 0] : Cs)))))) 48 :: .cells B_1 (([.int .i64 a0_0] : Cs) ++ (([.slice A0_1 n0_1 c0_1] : Cs) ++ (([.slice A0_2 n0_2 c0_2] : Cs) ++ (([.int .i64 a0_3] : Cs) ++ (([.bool a0_4] : Cs) ++ ([.slice A0_5 n0_5 c0_5] : Cs)))))) 48 :: R) l0_2 a1 A0_2 n0_2 c0_2  st_21 (hb0_2.mono (memo_T (B := [_, _]) (fun _ h_ => h_)) (fun _ h_ => h_)) a_26 a_28 hr_22) ?_
    rintro _ w_29 ⟨T_23, hs_24, rfl, sc_31⟩
    have st_30 : St w w_29 (.cells B_5 (([.int .i64 0] : Cs) ++ (([.slice none 0 0] : Cs) ++ (([.slice none 0 0] : Cs) ++ (([.int .i64 0] : Cs) ++ (([.bool false] : Cs) ++ ([.slice none 0 0] : Cs)))))) 48 :: .cells B_1 (([.int .i64 a0_0] : Cs) ++ (([.slice A0_1 n0_1 c0_1] : Cs) ++ (([.slice A0_2 n0_2 c0_2] : Cs) ++ (([.int .i64 a0_3] : Cs) ++ (([.bool a0_4] : Cs) ++ ([.slice A0_5 n0_5 c0_5] : Cs)))))) 48 :: (T_23 ++ R)) := St.unhide (A := []) (B := [_, _]) (T := T_23) (R := R) sc_31
    refine ⟨_, rfl, ?_⟩
    refine WL.val Wanted.none (Runs.move rfl) ?_
    refine WL.val Wanted.none (Runs.extract rfl rfl) ?_
    refine WL.val Wanted.none (Runs.extract rfl rfl) ?_
    refine WL.val Wanted.none (Runs.assign rfl) ?_
    refine WL.val Wanted.none (Runs.assign rfl) ?_
    refine WL.nil (QW.then_n ?_)
    refine CW.sub [(1, .int .i64 a1), (2, .pointer (some ⟨B_1, 0, none⟩)), (4, .pointer (some ⟨B_5, 0, none⟩)), (5, .string (⟨#[]⟩ : ByteArray)), (6, .int .i64 0), (7, .string a_26), (8, .bool a_28)] (by repeat' constructor) ?_
    refine CW.seq ?_
    refine CW.seq (CW.region ?_)
    refine WL.val Wanted.none (Runs.move rfl) ?_
    refine WL.val Wanted.none (Runs.not rfl rfl) ?_
    refine WL.nil (QW.then_n ?_)
    rcases H with ⟨c_32, H⟩ | ⟨c_32, H⟩
    ·have h_33 : (!a_28) = true := (not_t (Bool.eq_false_iff.mpr c_32))
     refine CW.ct rfl h_33 ?_
     refine CW.region ?_
     refine WL.val Wanted.none (Runs.load_mid row48 rfl st_30 (i := 1) rfl (part_mid (pre := (([] : Cs))) (mid := (([.int .i64 a0_0] : Cs) ++ (([.slice A0_1 n0_1 c0_1] : Cs) ++ (([.slice A0_2 n0_2 c0_2] : Cs) ++ (([.int .i64 a0_3] : Cs) ++ (([.bool a0_4] : Cs) ++ ([.slice A0_5 n0_5 c0_5] : Cs))))))) (post := (([] : Cs))) (by first | rfl | simp only [List.append_assoc, List.append_nil, List.nil_append, List.cons_append]) (by first | rfl | simp only [List.length_append, List.length_cons, List.length_nil, iv_length]) (by first | rfl | simp only [List.length_append, List.length_cons, List.length_nil, iv_length])) (by first | rfl | simp only [List.length_append, List.length_cons, List.length_nil, iv_length])) ?_
     refine WL.val Wanted.none (Runs.move rfl) ?_
     have st_34 : St w w_29 ((T_23 ++ (.cells B_5 (([.int .i64 0] : Cs) ++ (([.slice none 0 0] : Cs) ++ (([.slice none 0 0] : Cs) ++ (([.int .i64 0] : Cs) ++ (([.bool false] : Cs) ++ ([.slice none 0 0] : Cs)))))) 48 :: .cells B_1 (([.int .i64 a0_0] : Cs) ++ (([.slice A0_1 n0_1 c0_1] : Cs) ++ (([.slice A0_2 n0_2 c0_2] : Cs) ++ (([.int .i64 a0_3] : Cs) ++ (([.bool a0_4] : Cs) ++ ([.slice A0_5 n0_5 c0_5] : Cs)))))) 48 :: R))) := St.hide (A := []) (B := [_, _]) (T := T_23) (R := R) st_30
     obtain ⟨a_39, hr_35, H⟩ := H
     refine WL.call Wanted.none ent37 rfl (reliquaryref06_At.calls w w_29 T_23 (.cells B_5 (([.int .i64 0] : Cs) ++ (([.slice none 0 0] : Cs) ++ (([.slice none 0 0] : Cs) ++ (([.int .i64 0] : Cs) ++ (([.bool false] : Cs) ++ ([.slice none 0 0] : Cs)))))) 48 :: .cells B_1 (([.int .i64 a0_0] : Cs) ++ (([.slice A0_1 n0_1 c0_1] : Cs) ++ (([.slice A0_2 n0_2 c0_2] : Cs) ++ (([.int .i64 a0_3] : Cs) ++ (([.bool a0_4] : Cs) ++ ([.slice A0_5 n0_5 c0_5] : Cs)))))) 48 :: R) a0_0 l0_1 l0_2 a0_3 a0_4 l0_5 a1 A0_1 n0_1 c0_1 A0_2 n0_2 c0_2 A0_5 n0_5 c0_5  st_34 (hb0_1.mono (fun _ h_ => hs_24.1 _ h_) (fun _ h_ => hs_24.1 _ h_)) (hb0_2.mono (fun _ h_ => hs_24.1 _ h_) (fun _ h_ => hs_24.1 _ h_)) (hb0_5.mono (fun _ h_ => hs_24.1 _ h_) (fun _ h_ => hs_24.1 _ h_)) a_39 hr_35) ?_
     rintro _ w_40 ⟨T_36, hs_37, rfl, sc_42⟩
     have st_41 : St w w_40 (.cells B_5 (([.int .i64 0] : Cs) ++ (([.slice none 0 0] : Cs) ++ (([.slice none 0 0] : Cs) ++ (([.int .i64 0] : Cs) ++ (([.bool false] : Cs) ++ ([.slice none 0 0] : Cs)))))) 48 :: .cells B_1 (([.int .i64 a0_0] : Cs) ++ (([.slice A0_1 n0_1 c0_1] : Cs) ++ (([.slice A0_2 n0_2 c0_2] : Cs) ++ (([.int .i64 a0_3] : Cs) ++ (([.bool a0_4] : Cs) ++ ([.slice A0_5 n0_5 c0_5] : Cs)))))) 48 :: (T_36 ++ R)) := St.unhide (A := []) (B := [_, _]) (T := T_36) (R := R) sc_42
     refine ⟨_, rfl, ?_⟩
     refine WL.val Wanted.none (Runs.assign rfl) ?_
     refine WL.nil (QW.then_n ?_)
     refine CW.sub [(1, .int .i64 a1), (2, .pointer (some ⟨B_1, 0, none⟩)), (4, .pointer (some ⟨B_5, 0, none⟩)), (5, .string (⟨#[]⟩ : ByteArray)), (6, .int .i64 0), (7, .string a_39)] (by repeat' constructor) ?_
     refine CW.seq (CW.region ?_)
     refine WL.val Wanted.none (Runs.load_mid row48 rfl st_41 (i := 1) rfl (part_mid (pre := (([] : Cs))) (mid := (([.int .i64 a0_0] : Cs) ++ (([.slice A0_1 n0_1 c0_1] : Cs) ++ (([.slice A0_2 n0_2 c0_2] : Cs) ++ (([.int .i64 a0_3] : Cs) ++ (([.bool a0_4] : Cs) ++ ([.slice A0_5 n0_5 c0_5] : Cs))))))) (post := (([] : Cs))) (by first | rfl | simp only [List.append_assoc, List.append_nil, List.nil_append, List.cons_append]) (by first | rfl | simp only [List.length_append, List.length_cons, List.length_nil, iv_length]) (by first | rfl | simp only [List.length_append, List.length_cons, List.length_nil, iv_length])) (by first | rfl | simp only [List.length_append, List.length_cons, List.length_nil, iv_length])) ?_
     refine WL.val Wanted.none (Runs.move rfl) ?_
     have st_43 : St w w_40 ((T_36 ++ (.cells B_5 (([.int .i64 0] : Cs) ++ (([.slice none 0 0] : Cs) ++ (([.slice none 0 0] : Cs) ++ (([.int .i64 0] : Cs) ++ (([.bool false] : Cs) ++ ([.slice none 0 0] : Cs)))))) 48 :: .cells B_1 (([.int .i64 a0_0] : Cs) ++ (([.slice A0_1 n0_1 c0_1] : Cs) ++ (([.slice A0_2 n0_2 c0_2] : Cs) ++ (([.int .i64 a0_3] : Cs) ++ (([.bool a0_4] : Cs) ++ ([.slice A0_5 n0_5 c0_5] : Cs)))))) 48 :: R))) := St.hide (A := []) (B := [_, _]) (T := T_36) (R := R) st_41
     obtain ⟨a_48_0, l_52_1, l_52_2, a_48_3, a_48_4, l_52_5, hr_44, H⟩ := H
     refine WL.call Wanted.none ent46 rfl (reliquaryref06_noted.calls w w_40 T_36 (.cells B_5 (([.int .i64 0] : Cs) ++ (([.slice none 0 0] : Cs) ++ (([.slice none 0 0] : Cs) ++ (([.int .i64 0] : Cs) ++ (([.bool false] : Cs) ++ ([.slice none 0 0] : Cs)))))) 48 :: .cells B_1 (([.int .i64 a0_0] : Cs) ++ (([.slice A0_1 n0_1 c0_1] : Cs) ++ (([.slice A0_2 n0_2 c0_2] : Cs) ++ (([.int .i64 a0_3] : Cs) ++ (([.bool a0_4] : Cs) ++ ([.slice A0_5 n0_5 c0_5] : Cs)))))) 48 :: R) a0_0 l0_1 l0_2 a0_3 a0_4 l0_5 1 a1 A0_1 n0_1 c0_1 A0_2 n0_2 c0_2 A0_5 n0_5 c0_5  st_43 (hb0_1.mono (fun _ h_ => hs_37.1 _ (hs_24.1 _ h_)) (fun _ h_ => hs_37.1 _ (hs_24.1 _ h_))) (hb0_2.mono (fun _ h_ => hs_37.1 _ (hs_24.1 _ h_)) (fun _ h_ => hs_37.1 _ (hs_24.1 _ h_))) (hb0_5.mono (fun _ h_ => hs_37.1 _ (hs_24.1 _ h_)) (fun _ h_ => hs_37.1 _ (hs_24.1 _ h_))) a_48_0 l_52_1 l_52_2 a_48_3 a_48_4 l_52_5 hr_44) ?_
     rintro _ w_55 ⟨T_45, A_49_1, n_50_1, c_51_1, A_49_2, n_50_2, c_51_2, A_49_5, n_50_5, c_51_5, hs_46, hb_54_1, hb_54_2, hb_54_5, rfl, sc_57⟩
     have st_56 : St w w_55 (.cells B_5 (([.int .i64 0] : Cs) ++ (([.slice none 0 0] : Cs) ++ (([.slice none 0 0] : Cs) ++ (([.int .i64 0] : Cs) ++ (([.bool false] : Cs) ++ ([.slice none 0 0] : Cs)))))) 48 :: .cells B_1 (([.int .i64 a0_0] : Cs) ++ (([.slice A0_1 n0_1 c0_1] : Cs) ++ (([.slice A0_2 n0_2 c0_2] : Cs) ++ (([.int .i64 a0_3] : Cs) ++ (([.bool a0_4] : Cs) ++ ([.slice A0_5 n0_5 c0_5] : Cs)))))) 48 :: (T_45 ++ R)) := St.unhide (A := []) (B := [_, _]) (T := T_45) (R := R) sc_57
     refine ⟨_, rfl, ?_⟩
     refine WL.val Wanted.none (Runs.move rfl) ?_
     refine WL.store_mid (i := 0) (pre := (([] : Cs))) (mid := (([.int .i64 0] : Cs) ++ (([.slice none 0 0] : Cs) ++ (([.slice none 0 0] : Cs) ++ (([.int .i64 0] : Cs) ++ (([.bool false] : Cs) ++ ([.slice none 0 0] : Cs))))))) (post := (([] : Cs))) (ms := (([.int .i64 a_48_0] : Cs) ++ (([.slice A_49_1 n_50_1 c_51_1] : Cs) ++ (([.slice A_49_2 n_50_2 c_51_2] : Cs) ++ (([.int .i64 a_48_3] : Cs) ++ (([.bool a_48_4] : Cs) ++ ([.slice A_49_5 n_50_5 c_51_5] : Cs))))))) st_56 rfl row48 (by first | rfl | simp only [List.append_assoc, List.append_nil, List.nil_append, List.cons_append]) (by first | rfl | simp only [List.length_append, List.length_cons, List.length_nil, iv_length]) rfl rfl (by first | rfl | simp only [List.length_append, List.length_cons, List.length_nil, iv_length]) (by first | rfl | simp only [List.length_append, List.length_cons, List.length_nil, iv_length]) (by intro u hu; simp only [List.mem_append, List.mem_singleton] at hu; rcases hu with hu | hu | hu | hu | hu | hu <;> first | exact one_iv _ _ u hu | (subst hu; rfl)) ?_
     intro w_58 st_59
     replace st_59 : St w w_58 (.cells B_5 (([.int .i64 a_48_0] : Cs) ++ (([.slice A_49_1 n_50_1 c_51_1] : Cs) ++ (([.slice A_49_2 n_50_2 c_51_2] : Cs) ++ (([.int .i64 a_48_3] : Cs) ++ (([.bool a_48_4] : Cs) ++ ([.slice A_49_5 n_50_5 c_51_5] : Cs)))))) 48 :: .cells B_1 (([.int .i64 a0_0] : Cs) ++ (([.slice A0_1 n0_1 c0_1] : Cs) ++ (([.slice A0_2 n0_2 c0_2] : Cs) ++ (([.int .i64 a0_3] : Cs) ++ (([.bool a0_4] : Cs) ++ ([.slice A0_5 n0_5 c0_5] : Cs)))))) 48 :: (T_45 ++ R)) := by have e_ : (([.int .i64 a_48_0] : Cs) ++ (([.slice A_49_1 n_50_1 c_51_1] : Cs) ++ (([.slice A_49_2 n_50_2 c_51_2] : Cs) ++ (([.int .i64 a_48_3] : Cs) ++ (([.bool a_48_4] : Cs) ++ ([.slice A_49_5 n_50_5 c_51_5] : Cs)))))) = (([] : Cs)) ++ ((([.int .i64 a_48_0] : Cs) ++ (([.slice A_49_1 n_50_1 c_51_1] : Cs) ++ (([.slice A_49_2 n_50_2 c_51_2] : Cs) ++ (([.int .i64 a_48_3] : Cs) ++ (([.bool a_48_4] : Cs) ++ ([.slice A_49_5 n_50_5 c_51_5] : Cs)))))) ++ (([] : Cs))) := (by first | rfl | simp only [List.append_assoc, List.append_nil, List.nil_append, List.cons_append]); have h_ : St w w_58 (.cells B_5 ((([] : Cs)) ++ ((([.int .i64 a_48_0] : Cs) ++ (([.slice A_49_1 n_50_1 c_51_1] : Cs) ++ (([.slice A_49_2 n_50_2 c_51_2] : Cs) ++ (([.int .i64 a_48_3] : Cs) ++ (([.bool a_48_4] : Cs) ++ ([.slice A_49_5 n_50_5 c_51_5] : Cs)))))) ++ (([] : Cs)))) 48 :: .cells B_1 (([.int .i64 a0_0] : Cs) ++ (([.slice A0_1 n0_1 c0_1] : Cs) ++ (([.slice A0_2 n0_2 c0_2] : Cs) ++ (([.int .i64 a0_3] : Cs) ++ (([.bool a0_4] : Cs) ++ ([.slice A0_5 n0_5 c0_5] : Cs)))))) 48 :: (T_45 ++ R)) := st_59; rw [← e_] at h_; exact h_
     refine WL.val Wanted.none (Runs.assign rfl) ?_
     refine WL.val Wanted.none (Runs.assign rfl) ?_
     refine WL.nil (QW.then_n ?_)
     refine CW.sub [(4, .pointer (some ⟨B_5, 0, none⟩)), (5, .string a_39), (6, .int .i64 0)] ⟨rfl, rfl, rfl, trivial⟩ ?_
     refine CW.ret ?_
     obtain ⟨rfl, rfl, rfl, rfl, rfl, rfl, rfl, rfl⟩ := H
     exact QW.retN3 rfl (Res.row rfl row48 st_59 (i := 0) rfl (by first | rfl | simp only [List.length_append, List.length_cons, List.length_nil, iv_length])) (Res.tmp rfl) (Res.tmp rfl) ⟨T_45, A_49_1, n_50_1, c_51_1, A_49_2, n_50_2, c_51_2, A_49_5, n_50_5, c_51_5, ((hs_24.trans hs_37).trans hs_46), hb_54_1, hb_54_2, hb_54_5, rfl, (St.pickT (L := [_, _]) st_59 [] (by decide))⟩
    ·have h_33 : (!a_28) = false := (not_f (Decidable.not_not.mp c_32))
     refine CW.cf rfl h_33 ?_
     refine CW.skip ?_
     refine QW.then_n ?_
     refine CW.seq (CW.region ?_)
     refine WL.val Wanted.none (Runs.load_mid row48 rfl st_30 (i := 1) rfl (part_mid (pre := (([] : Cs))) (mid := (([.int .i64 a0_0] : Cs) ++ (([.slice A0_1 n0_1 c0_1] : Cs) ++ (([.slice A0_2 n0_2 c0_2] : Cs) ++ (([.int .i64 a0_3] : Cs) ++ (([.bool a0_4] : Cs) ++ ([.slice A0_5 n0_5 c0_5] : Cs))))))) (post := (([] : Cs))) (by first | rfl | simp only [List.append_assoc, List.append_nil, List.nil_append, List.cons_append]) (by first | rfl | simp only [List.length_append, List.length_cons, List.length_nil, iv_length]) (by first | rfl | simp only [List.length_append, List.length_cons, List.length_nil, iv_length])) (by first | rfl | simp only [List.length_append, List.length_cons, List.length_nil, iv_length])) ?_
     refine WL.val Wanted.none (Runs.move rfl) ?_
     have st_60 : St w w_29 ((T_23 ++ (.cells B_5 (([.int .i64 0] : Cs) ++ (([.slice none 0 0] : Cs) ++ (([.slice none 0 0] : Cs) ++ (([.int .i64 0] : Cs) ++ (([.bool false] : Cs) ++ ([.slice none 0 0] : Cs)))))) 48 :: .cells B_1 (([.int .i64 a0_0] : Cs) ++ (([.slice A0_1 n0_1 c0_1] : Cs) ++ (([.slice A0_2 n0_2 c0_2] : Cs) ++ (([.int .i64 a0_3] : Cs) ++ (([.bool a0_4] : Cs) ++ ([.slice A0_5 n0_5 c0_5] : Cs)))))) 48 :: R))) := St.hide (A := []) (B := [_, _]) (T := T_23) (R := R) st_30
     obtain ⟨a_65_0, l_69_1, l_69_2, a_65_3, a_65_4, l_69_5, hr_61, H⟩ := H
     refine WL.call Wanted.none ent46 rfl (reliquaryref06_noted.calls w w_29 T_23 (.cells B_5 (([.int .i64 0] : Cs) ++ (([.slice none 0 0] : Cs) ++ (([.slice none 0 0] : Cs) ++ (([.int .i64 0] : Cs) ++ (([.bool false] : Cs) ++ ([.slice none 0 0] : Cs)))))) 48 :: .cells B_1 (([.int .i64 a0_0] : Cs) ++ (([.slice A0_1 n0_1 c0_1] : Cs) ++ (([.slice A0_2 n0_2 c0_2] : Cs) ++ (([.int .i64 a0_3] : Cs) ++ (([.bool a0_4] : Cs) ++ ([.slice A0_5 n0_5 c0_5] : Cs)))))) 48 :: R) a0_0 l0_1 l0_2 a0_3 a0_4 l0_5 1 a1 A0_1 n0_1 c0_1 A0_2 n0_2 c0_2 A0_5 n0_5 c0_5  st_60 (hb0_1.mono (fun _ h_ => hs_24.1 _ h_) (fun _ h_ => hs_24.1 _ h_)) (hb0_2.mono (fun _ h_ => hs_24.1 _ h_) (fun _ h_ => hs_24.1 _ h_)) (hb0_5.mono (fun _ h_ => hs_24.1 _ h_) (fun _ h_ => hs_24.1 _ h_)) a_65_0 l_69_1 l_69_2 a_65_3 a_65_4 l_69_5 hr_61) ?_
     rintro _ w_72 ⟨T_62, A_66_1, n_67_1, c_68_1, A_66_2, n_67_2, c_68_2, A_66_5, n_67_5, c_68_5, hs_63, hb_71_1, hb_71_2, hb_71_5, rfl, sc_74⟩
     have st_73 : St w w_72 (.cells B_5 (([.int .i64 0] : Cs) ++ (([.slice none 0 0] : Cs) ++ (([.slice none 0 0] : Cs) ++ (([.int .i64 0] : Cs) ++ (([.bool false] : Cs) ++ ([.slice none 0 0] : Cs)))))) 48 :: .cells B_1 (([.int .i64 a0_0] : Cs) ++ (([.slice A0_1 n0_1 c0_1] : Cs) ++ (([.slice A0_2 n0_2 c0_2] : Cs) ++ (([.int .i64 a0_3] : Cs) ++ (([.bool a0_4] : Cs) ++ ([.slice A0_5 n0_5 c0_5] : Cs)))))) 48 :: (T_62 ++ R)) := St.unhide (A := []) (B := [_, _]) (T := T_62) (R := R) sc_74
     refine ⟨_, rfl, ?_⟩
     refine WL.val Wanted.none (Runs.move rfl) ?_
     refine WL.store_mid (i := 0) (pre := (([] : Cs))) (mid := (([.int .i64 0] : Cs) ++ (([.slice none 0 0] : Cs) ++ (([.slice none 0 0] : Cs) ++ (([.int .i64 0] : Cs) ++ (([.bool false] : Cs) ++ ([.slice none 0 0] : Cs))))))) (post := (([] : Cs))) (ms := (([.int .i64 a_65_0] : Cs) ++ (([.slice A_66_1 n_67_1 c_68_1] : Cs) ++ (([.slice A_66_2 n_67_2 c_68_2] : Cs) ++ (([.int .i64 a_65_3] : Cs) ++ (([.bool a_65_4] : Cs) ++ ([.slice A_66_5 n_67_5 c_68_5] : Cs))))))) st_73 rfl row48 (by first | rfl | simp only [List.append_assoc, List.append_nil, List.nil_append, List.cons_append]) (by first | rfl | simp only [List.length_append, List.length_cons, List.length_nil, iv_length]) rfl rfl (by first | rfl | simp only [List.length_append, List.length_cons, List.length_nil, iv_length]) (by first | rfl | simp only [List.length_append, List.length_cons, List.length_nil, iv_length]) (by intro u hu; simp only [List.mem_append, List.mem_singleton] at hu; rcases hu with hu | hu | hu | hu | hu | hu <;> first | exact one_iv _ _ u hu | (subst hu; rfl)) ?_
     intro w_75 st_76
     replace st_76 : St w w_75 (.cells B_5 (([.int .i64 a_65_0] : Cs) ++ (([.slice A_66_1 n_67_1 c_68_1] : Cs) ++ (([.slice A_66_2 n_67_2 c_68_2] : Cs) ++ (([.int .i64 a_65_3] : Cs) ++ (([.bool a_65_4] : Cs) ++ ([.slice A_66_5 n_67_5 c_68_5] : Cs)))))) 48 :: .cells B_1 (([.int .i64 a0_0] : Cs) ++ (([.slice A0_1 n0_1 c0_1] : Cs) ++ (([.slice A0_2 n0_2 c0_2] : Cs) ++ (([.int .i64 a0_3] : Cs) ++ (([.bool a0_4] : Cs) ++ ([.slice A0_5 n0_5 c0_5] : Cs)))))) 48 :: (T_62 ++ R)) := by have e_ : (([.int .i64 a_65_0] : Cs) ++ (([.slice A_66_1 n_67_1 c_68_1] : Cs) ++ (([.slice A_66_2 n_67_2 c_68_2] : Cs) ++ (([.int .i64 a_65_3] : Cs) ++ (([.bool a_65_4] : Cs) ++ ([.slice A_66_5 n_67_5 c_68_5] : Cs)))))) = (([] : Cs)) ++ ((([.int .i64 a_65_0] : Cs) ++ (([.slice A_66_1 n_67_1 c_68_1] : Cs) ++ (([.slice A_66_2 n_67_2 c_68_2] : Cs) ++ (([.int .i64 a_65_3] : Cs) ++ (([.bool a_65_4] : Cs) ++ ([.slice A_66_5 n_67_5 c_68_5] : Cs)))))) ++ (([] : Cs))) := (by first | rfl | simp only [List.append_assoc, List.append_nil, List.nil_append, List.cons_append]); have h_ : St w w_75 (.cells B_5 ((([] : Cs)) ++ ((([.int .i64 a_65_0] : Cs) ++ (([.slice A_66_1 n_67_1 c_68_1] : Cs) ++ (([.slice A_66_2 n_67_2 c_68_2] : Cs) ++ (([.int .i64 a_65_3] : Cs) ++ (([.bool a_65_4] : Cs) ++ ([.slice A_66_5 n_67_5 c_68_5] : Cs)))))) ++ (([] : Cs)))) 48 :: .cells B_1 (([.int .i64 a0_0] : Cs) ++ (([.slice A0_1 n0_1 c0_1] : Cs) ++ (([.slice A0_2 n0_2 c0_2] : Cs) ++ (([.int .i64 a0_3] : Cs) ++ (([.bool a0_4] : Cs) ++ ([.slice A0_5 n0_5 c0_5] : Cs)))))) 48 :: (T_62 ++ R)) := st_76; rw [← e_] at h_; exact h_
     refine WL.val Wanted.none (Runs.assign rfl) ?_
     refine WL.val Wanted.none (Runs.assign rfl) ?_
     refine WL.nil (QW.then_n ?_)
     refine CW.sub [(4, .pointer (some ⟨B_5, 0, none⟩)), (5, .string a_26), (6, .int .i64 0)] ⟨rfl, rfl, rfl, trivial⟩ ?_
     refine CW.ret ?_
     obtain ⟨rfl, rfl, rfl, rfl, rfl, rfl, rfl, rfl⟩ := H
     exact QW.retN3 rfl (Res.row rfl row48 st_76 (i := 0) rfl (by first | rfl | simp only [List.length_append, List.length_cons, List.length_nil, iv_length])) (Res.tmp rfl) (Res.tmp rfl) ⟨T_62, A_66_1, n_67_1, c_68_1, A_66_2, n_67_2, c_68_2, A_66_5, n_67_5, c_68_5, (hs_24.trans hs_63), hb_71_1, hb_71_2, hb_71_5, rfl, (St.pickT (L := [_, _]) st_76 [] (by decide))⟩

/-! ### disk_Disk_Flush: function 16 -/
def disk_Disk_Flush.L1 (l0_1 : List R69) (a0_2 : Int) (a0_3 : Bool) (l0_4 : List R71) (ls0_0 : List R22) (ls0_1 : List R69) (as0_2 : Int) (as0_3 : Bool) (ls0_4 : List R71) (ar0 : Int) : Nat → (List R22) → Int → Prop
 | 0, _, _ => False
 | kL1 + 1, l_6, x_10 => ((x_10 < (l0_1.length : Int) ∧ ((0 ≤ x_10 ∧ x_10 < (l0_1.length : Int)) ∧ ((0 ≤ ((gx l0_1 (x_10.toNat)).1) ∧ ((gx l0_1 (x_10.toNat)).1) < (l_6.length : Int)) ∧ (∃ m_48 : List R22, m_48 = List.set l_6 (((gx l0_1 (x_10.toNat)).1).toNat) (gx l0_1 (x_10.toNat)).2 ∧ disk_Disk_Flush.L1 l0_1 a0_2 a0_3 l0_4 ls0_0 ls0_1 as0_2 as0_3 ls0_4 ar0 kL1 m_48 (IntKind.i64.wrap (x_10 + 1)))))) ∨ (¬ (x_10 < (l0_1.length : Int)) ∧ (∃ m_73 : List R71, m_73 = l0_4 ++ ([(3, 0)] : List R71) ∧ (m_73.length ≤ 1099511627776 ∧ ls0_0 = l_6 ∧ ls0_1 = ([] : List R69) ∧ as0_2 = a0_2 ∧ as0_3 = a0_3 ∧ ls0_4 = m_73 ∧ ar0 = 0))))
def disk_Disk_Flush.rel (l0_0 : List R22) (l0_1 : List R69) (a0_2 : Int) (a0_3 : Bool) (l0_4 : List R71) (ls0_0 : List R22) (ls0_1 : List R69) (as0_2 : Int) (as0_3 : Bool) (ls0_4 : List R71) (ar0 : Int) : Prop := ((a0_3 = true ∧ ls0_0 = l0_0 ∧ ls0_1 = l0_1 ∧ as0_2 = a0_2 ∧ as0_3 = a0_3 ∧ ls0_4 = l0_4 ∧ ar0 = 13) ∨ (¬ (a0_3 = true) ∧ (∃ k_ : Nat, disk_Disk_Flush.L1 l0_1 a0_2 a0_3 l0_4 ls0_0 ls0_1 as0_2 as0_3 ls0_4 ar0 k_ l0_0 0)))
set_option maxHeartbeats 1000000 in
set_option maxRecDepth 100000 in
theorem disk_Disk_Flush.calls (w w1 : World) (T R : Pool) (l0_0 : List R22) (l0_1 : List R69) (a0_2 : Int) (a0_3 : Bool) (l0_4 : List R71) (b0 : Nat) (A0_0 : Option Addr) (n0_0 : Nat) (c0_0 : Nat) (x0_0 : Cs) (A0_1 : Option Addr) (n0_1 : Nat) (c0_1 : Nat) (x0_1 : Cs) (A0_4 : Option Addr) (n0_4 : Nat) (c0_4 : Nat) (x0_4 : Cs) (st0 : St w w1 (.cells b0 (([.slice A0_0 n0_0 c0_0] : Cs) ++ (([.slice A0_1 n0_1 c0_1] : Cs) ++ (([.int .i64 a0_2] : Cs) ++ (([.bool a0_3] : Cs) ++ ([.slice A0_4 n0_4 c0_4] : Cs))))) 66 :: .sl A0_0 c0_0 n0_0 x0_0 22 1 :: .sl A0_1 c0_1 n0_1 x0_1 69 2 :: .sl A0_4 c0_4 n0_4 x0_4 71 2 :: (T ++ R))) (hn0_0 : n0_0 = l0_0.length) (hx0_0 : HRs T (f22 w) x0_0 l0_0) (hn0_1 : n0_1 = l0_1.length) (hx0_1 : HRs T (f69 w) x0_1 l0_1) (hn0_4 : n0_4 = l0_4.length) (hx0_4 : HRs T (f71 w) x0_4 l0_4) (ls0_0 : List R22) (ls0_1 : List R69) (as0_2 : Int) (as0_3 : Bool) (ls0_4 : List R71) (ar0 : Int) (H : disk_Disk_Flush.rel l0_0 l0_1 a0_2 a0_3 l0_4 ls0_0 ls0_1 as0_2 as0_3 ls0_4 ar0) :
  Calls Try.prog 16 #[.pointer (some ⟨b0, 0, none⟩)] w1 fun e w' => ∃ T' As0_0 ns0_0 cs0_0 xs0_0 As0_1 ns0_1 cs0_1 xs0_1 As0_4 ns0_4 cs0_4 xs0_4, Pl T T' ∧ ns0_0 = ls0_0.length ∧ HRs T' (f22 w) xs0_0 ls0_0 ∧ ns0_1 = ls0_1.length ∧ HRs T' (f69 w) xs0_1 ls0_1 ∧ ns0_4 = ls0_4.length ∧ HRs T' (f71 w) xs0_4 ls0_4 ∧ e = .returned (.int .i64 ar0) ∧ St w w' (.cells b0 (([.slice As0_0 ns0_0 cs0_0] : Cs) ++ (([.slice As0_1 ns0_1 cs0_1] : Cs) ++ (([.int .i64 as0_2] : Cs) ++ (([.bool as0_3] : Cs) ++ ([.slice As0_4 ns0_4 cs0_4] : Cs))))) 66 :: .sl As0_0 cs0_0 ns0_0 xs0_0 22 1 :: .sl As0_1 cs0_1 ns0_1 xs0_1 69 2 :: .sl As0_4 cs0_4 ns0_4 xs0_4 71 2 :: (T' ++ R)) := by
 refine CW.enter Try.func16 rfl (n := 45) rfl [.pointer (some ⟨b0, 0, none⟩)] (Nat.le_of_ble_eq_true rfl) ?_
 refine CW.sub [(0, .pointer (some ⟨b0, 0, none⟩))] ⟨rfl, trivial⟩ ?_
 refine CW.seq (CW.region ?_)
 refine WL.val Wanted.none (Runs.assign rfl) ?_
 refine WL.nil (QW.then_n ?_)
 refine CW.seq ?_
 refine CW.block ?_
 refine CW.seq (CW.region ?_)
 refine WL.val Wanted.none (Runs.move rfl) ?_
 refine WL.val Wanted.none (Runs.eql_ptr Try.underlying25 rfl rfl rfl) ?_
 refine WL.val Wanted.none (Runs.assign rfl) ?_
 refine WL.nil (QW.then_n ?_)
 refine CW.cf rfl rfl ?_
 refine CW.seq (CW.region ?_)
 refine WL.val Wanted.none (Runs.move rfl) ?_
 refine WL.val Wanted.none (Runs.nilCheck rfl) ?_
 refine WL.val Wanted.none (Runs.fieldAddr (off := 3) (p := 3) fld66_3 rfl rfl rfl) ?_
 refine WL.val Wanted.none (Runs.load nagg4 rfl (st0.cell (k := 0) rfl (part_one (u := .bool a0_3) (pre := (([.slice A0_0 n0_0 c0_0] : Cs) ++ (([.slice A0_1 n0_1 c0_1] : Cs) ++ ([.int .i64 a0_2] : Cs)))) (post := (([.slice A0_4 n0_4 c0_4] : Cs))) (by first | rfl | simp only [List.append_assoc, List.append_nil, List.nil_append, List.cons_append]) (by first | rfl | simp only [List.length_append, List.length_cons, List.length_nil, iv_length])))) ?_
 refine WL.val Wanted.none (Runs.assign rfl) ?_
 refine WL.nil (QW.then_n ?_)
 refine CW.sub [(0, .pointer (some ⟨b0, 0, none⟩)), (2, .int .i64 0), (8, .bool a0_3)] ⟨rfl, rfl, rfl, trivial⟩ ?_
 rcases H with ⟨c_1, H⟩ | ⟨c_1, H⟩
 ·have h_2 : a0_3 = true := c_1
  refine CW.ct rfl h_2 ?_
  refine CW.seq (CW.region ?_)
  refine WL.val Wanted.none (Runs.assign rfl) ?_
  refine WL.nil (QW.then_n ?_)
  refine CW.ret ?_
  refine QW.blk_r ?_
  refine QW.then_r ?_
  obtain ⟨rfl, rfl, rfl, rfl, rfl, rfl⟩ := H
  exact QW.ret1 rfl rfl ⟨T, A0_0, n0_0, c0_0, x0_0, A0_1, n0_1, c0_1, x0_1, A0_4, n0_4, c0_4, x0_4, Pl.refl, hn0_0, hx0_0, hn0_1, hx0_1, hn0_4, hx0_4, rfl, (St.pickT (L := [_, _, _, _]) st0 [0, 1, 2, 3] (by decide))⟩
 ·have h_2 : a0_3 = false := (Bool.eq_false_iff.mpr c_1)
  refine CW.cf rfl h_2 ?_
  refine CW.skip ?_
  refine QW.blk_n ?_
  refine QW.then_n ?_
  refine CW.seq ?_
  refine CW.seq (CW.region ?_)
  refine WL.val Wanted.none (Runs.move rfl) ?_
  refine WL.val Wanted.none (Runs.nilCheck rfl) ?_
  refine WL.val Wanted.none (Runs.fieldAddr (off := 1) (p := 1) fld66_1 rfl rfl rfl) ?_
  refine WL.val Wanted.none (Runs.load nagg64 rfl (st0.cell (k := 0) rfl (part_one (u := .slice A0_1 n0_1 c0_1) (pre := (([.slice A0_0 n0_0 c0_0] : Cs))) (post := (([.int .i64 a0_2] : Cs) ++ (([.bool a0_3] : Cs) ++ ([.slice A0_4 n0_4 c0_4] : Cs)))) (by first | rfl | simp only [List.append_assoc, List.append_nil, List.nil_append, List.cons_append]) (by first | rfl | simp only [List.length_append, List.length_cons, List.length_nil, iv_length])))) ?_
  refine WL.val Wanted.none (Runs.len_sl Try.underlying64 rfl (by rw [hn0_1])) ?_
  refine WL.val Wanted.none (Runs.move rfl) ?_
  refine WL.nil (QW.then_n ?_)
  refine CW.block ?_
  obtain ⟨k_3, H⟩ := H
  refine CW.sub [(0, .pointer (some ⟨b0, 0, none⟩)), (2, .int .i64 0), (16, .slice A0_1 n0_1 c0_1), (17, .int .i64 (l0_1.length : Int)), (18, .int .i64 0)] ⟨rfl, rfl, rfl, rfl, rfl, trivial⟩ ?_
  refine CW.loop (fun kL1 l_ w_ => ∃ (T_4 : Pool) (x_8 : Cs) (l_6 : List R22) (x_10 : Int), l_ = [(0, .pointer (some ⟨b0, 0, none⟩)), (2, .int .i64 0), (16, .slice A0_1 n0_1 c0_1), (17, .int .i64 (l0_1.length : Int)), (18, .int .i64 x_10)] ∧ disk_Disk_Flush.L1 l0_1 a0_2 a0_3 l0_4 ls0_0 ls0_1 as0_2 as0_3 ls0_4 ar0 kL1 l_6 x_10 ∧ (Pl T T_4) ∧ (n0_0 = l_6.length) ∧ (HRs T_4 (f22 w) x_8 l_6) ∧ St w w_ (.cells b0 (([.slice A0_0 n0_0 c0_0] : Cs) ++ (([.slice A0_1 n0_1 c0_1] : Cs) ++ (([.int .i64 a0_2] : Cs) ++ (([.bool a0_3] : Cs) ++ ([.slice A0_4 n0_4 c0_4] : Cs))))) 66 :: .sl A0_0 c0_0 n0_0 x_8 22 1 :: .sl A0_1 c0_1 n0_1 x0_1 69 2 :: .sl A0_4 c0_4 n0_4 x0_4 71 2 :: (T_4 ++ R))) (k := k_3) ⟨T, x0_0, l0_0, 0, rfl, H, Pl.refl, hn0_0, hx0_0, st0⟩ (fun _ _ h => by obtain ⟨_, _, _, _, _, h, _⟩ := h; exact h.elim) ?_
  rintro kL1 l_13 w_11 ⟨T_4, x_8, l_6, x_10, rfl, H, hs_5, hn_7, hx_9, st_12⟩
  refine CW.seq (CW.region ?_)
  refine WL.val Wanted.none (Runs.lss rfl rfl rfl) ?_
  refine WL.nil (QW.then_n ?_)
  refine CW.seq ?_
  rcases H with ⟨c_14, H⟩ | ⟨c_14, H⟩
  ·have h_15 : (decide (x_10 < (l0_1.length : Int))) = true := (decide_eq_true c_14)
   refine CW.ct rfl h_15 ?_
   refine CW.skip ?_
   refine QW.then_n ?_
   refine CW.seq ?_
   refine CW.block ?_
   refine CW.seq (CW.region ?_)
   obtain ⟨⟨p_16, q_17⟩, H⟩ := H
   obtain ⟨a_18, e_19, ms_20, hc_21, hm_22⟩ := el_get (i := (x_10).toNat) (st_12.src_sl (k := 2) rfl) (hx0_1.mono (fun _ h_ => hs_5.1 _ h_)) (fz69 w) (by decide) (by omega)
   obtain ⟨A_23, n_24, c_25, em_27, hb_26⟩ := inv69 hm_22
   replace em_27 : ms_20 = ([.int .i64 ((gx l0_1 (x_10.toNat)).1)] : Cs) ++ ([.slice A_23 n_24 c_25] : Cs) := em_27
   subst em_27
   refine WL.val Wanted.none (Runs.indexAddr Try.underlying64 cells69 (by decide) rfl e_19 rfl p_16 (by rw [show n0_1 = l0_1.length from hn0_1]; exact q_17) (o := (x_10.toNat) * 2) (by first | rfl | omega)) ?_
   refine WL.val Wanted.none (Runs.load_srcR row69 rfl (Src.cut (st_12.src_sl (k := 2) rfl) e_19 hc_21) rfl) ?_
   refine WL.alloc st_12 zero69 ?_
   intro B_28 w_29 st_30
   replace st_30 : St w w_29 (.cells B_28 (([.int .i64 0] : Cs) ++ ([.slice none 0 0] : Cs)) 69 :: .cells b0 (([.slice A0_0 n0_0 c0_0] : Cs) ++ (([.slice A0_1 n0_1 c0_1] : Cs) ++ (([.int .i64 a0_2] : Cs) ++ (([.bool a0_3] : Cs) ++ ([.slice A0_4 n0_4 c0_4] : Cs))))) 66 :: .sl A0_0 c0_0 n0_0 x_8 22 1 :: .sl A0_1 c0_1 n0_1 x0_1 69 2 :: .sl A0_4 c0_4 n0_4 x0_4 71 2 :: (T_4 ++ R)) := st_30
   refine WL.store_mid (i := 0) (pre := (([] : Cs))) (mid := (([.int .i64 0] : Cs) ++ ([.slice none 0 0] : Cs))) (post := (([] : Cs))) (ms := (([.int .i64 ((gx l0_1 (x_10.toNat)).1)] : Cs) ++ ([.slice A_23 n_24 c_25] : Cs))) st_30 rfl row69 (by first | rfl | simp only [List.append_assoc, List.append_nil, List.nil_append, List.cons_append]) (by first | rfl | simp only [List.length_append, List.length_cons, List.length_nil, iv_length]) rfl rfl (by first | rfl | simp only [List.length_append, List.length_cons, List.length_nil, iv_length]) (by first | rfl | simp only [List.length_append, List.length_cons, List.length_nil, iv_length]) (by intro u hu; simp only [List.mem_append, List.mem_singleton] at hu; rcases hu with hu | hu <;> first | exact one_iv _ _ u hu | (subst hu; rfl)) ?_
   intro w_32 st_33
   replace st_33 : St w w_32 (.cells B_28 (([.int .i64 ((gx l0_1 (x_10.toNat)).1)] : Cs) ++ ([.slice A_23 n_24 c_25] : Cs)) 69 :: .cells b0 (([.slice A0_0 n0_0 c0_0] : Cs) ++ (([.slice A0_1 n0_1 c0_1] : Cs) ++ (([.int .i64 a0_2] : Cs) ++ (([.bool a0_3] : Cs) ++ ([.slice A0_4 n0_4 c0_4] : Cs))))) 66 :: .sl A0_0 c0_0 n0_0 x_8 22 1 :: .sl A0_1 c0_1 n0_1 x0_1 69 2 :: .sl A0_4 c0_4 n0_4 x0_4 71 2 :: (T_4 ++ R)) := by have e_ : (([.int .i64 ((gx l0_1 (x_10.toNat)).1)] : Cs) ++ ([.slice A_23 n_24 c_25] : Cs)) = (([] : Cs)) ++ ((([.int .i64 ((gx l0_1 (x_10.toNat)).1)] : Cs) ++ ([.slice A_23 n_24 c_25] : Cs)) ++ (([] : Cs))) := (by first | rfl | simp only [List.append_assoc, List.append_nil, List.nil_append, List.cons_append]); have h_ : St w w_32 (.cells B_28 ((([] : Cs)) ++ ((([.int .i64 ((gx l0_1 (x_10.toNat)).1)] : Cs) ++ ([.slice A_23 n_24 c_25] : Cs)) ++ (([] : Cs)))) 69 :: .cells b0 (([.slice A0_0 n0_0 c0_0] : Cs) ++ (([.slice A0_1 n0_1 c0_1] : Cs) ++ (([.int .i64 a0_2] : Cs) ++ (([.bool a0_3] : Cs) ++ ([.slice A0_4 n0_4 c0_4] : Cs))))) 66 :: .sl A0_0 c0_0 n0_0 x_8 22 1 :: .sl A0_1 c0_1 n0_1 x0_1 69 2 :: .sl A0_4 c0_4 n0_4 x0_4 71 2 :: (T_4 ++ R)) := st_33; rw [← e_] at h_; exact h_
   refine WL.nil (QW.then_n ?_)
   refine CW.region_qt 9 wide (by kernel_rfl) st_33 ?_
   refine HL.val Wanted.none (fun wq sq => (Runs.move rfl)) ?_
   refine HL.val Wanted.none (fun wq sq => (Runs.nilCheck rfl)) ?_
   refine HL.val Wanted.none (fun wq sq => (Runs.fieldAddr (off := 0) (p := 0) fld66_0 rfl rfl rfl)) ?_
   refine HL.val Wanted.none (fun wq sq => (Runs.load nagg41 rfl (sq.cell (k := 1) rfl (part_one (u := .slice A0_0 n0_0 c0_0) (pre := (([] : Cs))) (post := (([.slice A0_1 n0_1 c0_1] : Cs) ++ (([.int .i64 a0_2] : Cs) ++ (([.bool a0_3] : Cs) ++ ([.slice A0_4 n0_4 c0_4] : Cs))))) (by first | rfl | simp only [List.append_assoc, List.append_nil, List.nil_append, List.cons_append]) (by first | rfl | simp only [List.length_append, List.length_cons, List.length_nil, iv_length]))))) ?_
   refine HL.val Wanted.none (fun wq sq => (Runs.fieldAddr (off := 0) (p := 0) fld69_0 rfl rfl rfl)) ?_
   refine HL.val Wanted.none (fun wq sq => (Runs.load nagg3 rfl (sq.cell (k := 0) rfl (part_one (u := .int .i64 ((gx l0_1 (x_10.toNat)).1)) (pre := (([] : Cs))) (post := (([.slice A_23 n_24 c_25] : Cs))) (by first | rfl | simp only [List.append_assoc, List.append_nil, List.nil_append, List.cons_append]) (by first | rfl | simp only [List.length_append, List.length_cons, List.length_nil, iv_length]))))) ?_
   refine HL.val Wanted.none (fun wq sq => (Runs.fieldAddr (off := 1) (p := 1) fld69_1 rfl rfl rfl)) ?_
   refine HL.val Wanted.none (fun wq sq => (Runs.load nagg22 rfl (sq.cell (k := 0) rfl (part_one (u := .slice A_23 n_24 c_25) (pre := (([.int .i64 ((gx l0_1 (x_10.toNat)).1)] : Cs))) (post := (([] : Cs))) (by first | rfl | simp only [List.append_assoc, List.append_nil, List.nil_append, List.cons_append]) (by first | rfl | simp only [List.length_append, List.length_cons, List.length_nil, iv_length]))))) ?_
   obtain ⟨⟨p_34, q_35⟩, H⟩ := H
   obtain ⟨a_36, e_37, ms_38, hc_39, hm_40⟩ := el_get (i := ((gx l0_1 (x_10.toNat)).1).toNat) (st_33.src_sl (k := 2) rfl) hx_9 (fz22 w) (by decide) (by omega)
   obtain ⟨A_41, n_42, c_43, em_45, hb_44⟩ := inv22 hm_40
   replace em_45 : ms_38 = ([.slice A_41 n_42 c_43] : Cs) := em_45
   subst em_45
   refine HL.val Wanted.none (fun wq sq => (Runs.indexAddr Try.underlying41 cells22 (by decide) rfl e_37 rfl p_34 (by rw [show n0_0 = l_6.length from hn_7]; exact q_35) (o := (((gx l0_1 (x_10.toNat)).1).toNat) * 1) (by first | rfl | omega))) ?_
   refine HL.nil (fun w_46 st_47 => ?_)
   obtain ⟨m_48, e_49, H⟩ := H
   have hl_56 := (hx_9).length (fz22 w)
   refine WL.storeF (i := 2) (o := (((gx l0_1 (x_10.toNat)).1).toNat) * 1) (f := 0) st_47 rfl e_37 cells22 rfl rfl (by omega) rfl ?_
   intro w_50 st_51
   obtain ⟨x_53, e_54⟩ : ∃ x_ : Cs, x_ = List.set x_8 ((((gx l0_1 (x_10.toNat)).1).toNat) * 1 + 0) (.slice A_23 n_24 c_25) := ⟨_, rfl⟩
   have hx_55 : HRs T_4 (f22 w) x_53 m_48 := by rw [e_54, e_49]; exact HRs.setF (j := 0) (u := .slice A_23 n_24 c_25) hx_9 (fz22 w) (by omega) (by decide) hc_39 (.cons ⟨_, _, _, rfl, hb_26⟩ .nil)
   have hn_52 : n0_0 = m_48.length := by rw [e_49, List.length_set]; exact hn_7
   replace st_51 : St w w_50 (.cells B_28 (([.int .i64 ((gx l0_1 (x_10.toNat)).1)] : Cs) ++ ([.slice A_23 n_24 c_25] : Cs)) 69 :: .cells b0 (([.slice A0_0 n0_0 c0_0] : Cs) ++ (([.slice A0_1 n0_1 c0_1] : Cs) ++ (([.int .i64 a0_2] : Cs) ++ (([.bool a0_3] : Cs) ++ ([.slice A0_4 n0_4 c0_4] : Cs))))) 66 :: .sl A0_0 c0_0 n0_0 x_53 22 1 :: .sl A0_1 c0_1 n0_1 x0_1 69 2 :: .sl A0_4 c0_4 n0_4 x0_4 71 2 :: (T_4 ++ R)) := by rw [e_54]; exact st_51
   refine WL.nil ?_
   refine QW.blk_n ?_
   refine QW.then_n ?_
   refine CW.region ?_
   refine WL.val Wanted.none (Runs.add rfl rfl rfl) ?_
   refine WL.val Wanted.none (Runs.move rfl) ?_
   refine WL.nil ?_
   have st_51' := (St.pickT (L := [_, _, _, _, _]) st_51 [1, 2, 3, 4] (by decide))
   exact QW.at _ (by repeat' constructor) ⟨T_4, x_53, m_48, IntKind.i64.wrap (x_10 + 1), rfl, H, hs_5, hn_52, hx_55, st_51'⟩
  ·have h_15 : (decide (x_10 < (l0_1.length : Int))) = false := (decide_eq_false c_14)
   refine CW.cf rfl h_15 ?_
   refine CW.exit ?_
   refine QW.then_x ?_
   refine QW.then_x ?_
   refine QW.blk_x ?_
   refine QW.then_n ?_
   refine CW.seq (CW.region ?_)
   refine WL.val Wanted.none (Runs.move rfl) ?_
   refine WL.val Wanted.none (Runs.nilCheck rfl) ?_
   refine WL.val Wanted.none (Runs.fieldAddr (off := 1) (p := 1) fld66_1 rfl rfl rfl) ?_
   refine WL.store_one (i := 0) (u0 := .slice A0_1 n0_1 c0_1) (pre := (([.slice A0_0 n0_0 c0_0] : Cs))) (post := (([.int .i64 a0_2] : Cs) ++ (([.bool a0_3] : Cs) ++ ([.slice A0_4 n0_4 c0_4] : Cs)))) st_12 rfl cells64 (by first | rfl | simp only [List.append_assoc, List.append_nil, List.nil_append, List.cons_append]) (by first | rfl | simp only [List.length_append, List.length_cons, List.length_nil, iv_length]) rfl rfl rfl ?_
   intro w_57 st_58
   replace st_58 : St w w_57 (.cells b0 (([.slice A0_0 n0_0 c0_0] : Cs) ++ (([.slice none 0 0] : Cs) ++ (([.int .i64 a0_2] : Cs) ++ (([.bool a0_3] : Cs) ++ ([.slice A0_4 n0_4 c0_4] : Cs))))) 66 :: .sl A0_0 c0_0 n0_0 x_8 22 1 :: .sl A0_1 c0_1 n0_1 x0_1 69 2 :: .sl A0_4 c0_4 n0_4 x0_4 71 2 :: (T_4 ++ R)) := by have e_ : (([.slice A0_0 n0_0 c0_0] : Cs) ++ (([.slice none 0 0] : Cs) ++ (([.int .i64 a0_2] : Cs) ++ (([.bool a0_3] : Cs) ++ ([.slice A0_4 n0_4 c0_4] : Cs))))) = (([.slice A0_0 n0_0 c0_0] : Cs)) ++ ((([.slice none 0 0] : Cs)) ++ (([.int .i64 a0_2] : Cs) ++ (([.bool a0_3] : Cs) ++ ([.slice A0_4 n0_4 c0_4] : Cs)))) := (by first | rfl | simp only [List.append_assoc, List.append_nil, List.nil_append, List.cons_append]); have h_ : St w w_57 (.cells b0 ((([.slice A0_0 n0_0 c0_0] : Cs)) ++ ((([.slice none 0 0] : Cs)) ++ (([.int .i64 a0_2] : Cs) ++ (([.bool a0_3] : Cs) ++ ([.slice A0_4 n0_4 c0_4] : Cs))))) 66 :: .sl A0_0 c0_0 n0_0 x_8 22 1 :: .sl A0_1 c0_1 n0_1 x0_1 69 2 :: .sl A0_4 c0_4 n0_4 x0_4 71 2 :: (T_4 ++ R)) := st_58; rw [← e_] at h_; exact h_
   refine WL.nil (QW.then_n ?_)
   refine CW.sub [(0, .pointer (some ⟨b0, 0, none⟩)), (2, .int .i64 0)] ⟨rfl, rfl, trivial⟩ ?_
   refine CW.seq (CW.region ?_)
   refine WL.val Wanted.none (Runs.move rfl) ?_
   refine WL.val Wanted.none (Runs.move rfl) ?_
   refine WL.val Wanted.none (Runs.nilCheck rfl) ?_
   refine WL.val Wanted.none (Runs.fieldAddr (off := 4) (p := 4) fld66_4 rfl rfl rfl) ?_
   refine WL.val Wanted.none (Runs.load nagg61 rfl (st_58.cell (k := 0) rfl (part_one (u := .slice A0_4 n0_4 c0_4) (pre := (([.slice A0_0 n0_0 c0_0] : Cs) ++ (([.slice none 0 0] : Cs) ++ (([.int .i64 a0_2] : Cs) ++ ([.bool a0_3] : Cs))))) (post := (([] : Cs))) (by first | rfl | simp only [List.append_assoc, List.append_nil, List.nil_append, List.cons_append]) (by first | rfl | simp only [List.length_append, List.length_cons, List.length_nil, iv_length])))) ?_
   refine WL.val Wanted.none (Runs.build_struct (ps := [(0, 1), (1, 1)]) (cs := (([.int .i64 3] : Cs) ++ ([.int .i64 0] : Cs))) plc71 zero71 rfl (by refine Fills.cons (o := 0) (ms := (([.int .i64 3] : Cs))) (show _ = some (0, (([.int .i64 3] : Cs)).length) by rw [show (([.int .i64 3] : Cs)).length = 1 from (by first | rfl | simp only [List.length_append, List.length_cons, List.length_nil, iv_length])] <;> rfl) rfl (by have h1_ : (([.int .i64 3] : Cs)).length = 1 := (by first | rfl | simp only [List.length_append, List.length_cons, List.length_nil, iv_length]); have h2_ : (([.int .i64 0] : Cs) ++ ([.int .i64 0] : Cs)).length = 2 := (by first | rfl | simp only [List.length_append, List.length_cons, List.length_nil, iv_length]); omega) ?_; rw [show layV (([.int .i64 0] : Cs) ++ ([.int .i64 0] : Cs)) 0 (([.int .i64 3] : Cs)) = (([.int .i64 3] : Cs) ++ ([.int .i64 0] : Cs)) from (layV_mid (pre := (([] : Cs))) (mid := (([.int .i64 0] : Cs))) (post := (([.int .i64 0] : Cs))) (by first | rfl | simp only [List.append_assoc, List.append_nil, List.nil_append, List.cons_append]) (by first | rfl | simp only [List.length_append, List.length_cons, List.length_nil, iv_length]) (Eq.trans (b := 1) (by first | rfl | simp only [List.length_append, List.length_cons, List.length_nil, iv_length]) (Eq.symm (by first | rfl | simp only [List.length_append, List.length_cons, List.length_nil, iv_length])))).trans (by first | rfl | simp only [List.append_assoc, List.append_nil, List.nil_append, List.cons_append])]; exact Fills.nil)) ?_
   obtain ⟨ii_59, z_60, h_61, h_62, h_63, h_64⟩ := slr71_1
   refine WL.buildSlRows (sz := 2) (cs := (([.int .i64 3] : Cs) ++ ([.int .i64 0] : Cs))) st_58 Try.underlying61 h_61 h_62 h_63 (by decide) (by decide) h_64 rfl (by refine Fills.cons (o := 0) (ms := (([.int .i64 3] : Cs) ++ ([.int .i64 0] : Cs))) (show _ = some (0, (([.int .i64 3] : Cs) ++ ([.int .i64 0] : Cs)).length) by rw [show (([.int .i64 3] : Cs) ++ ([.int .i64 0] : Cs)).length = 2 from (by first | rfl | simp only [List.length_append, List.length_cons, List.length_nil, iv_length])] <;> rfl) rfl (by have h1_ : (([.int .i64 3] : Cs) ++ ([.int .i64 0] : Cs)).length = 2 := (by first | rfl | simp only [List.length_append, List.length_cons, List.length_nil, iv_length]); have h2_ : (([.int .i64 0] : Cs) ++ ([.int .i64 0] : Cs)).length = 2 := (by first | rfl | simp only [List.length_append, List.length_cons, List.length_nil, iv_length]); omega) ?_; rw [show layV (([.int .i64 0] : Cs) ++ ([.int .i64 0] : Cs)) 0 (([.int .i64 3] : Cs) ++ ([.int .i64 0] : Cs)) = (([.int .i64 3] : Cs) ++ ([.int .i64 0] : Cs)) from (layV_mid (pre := (([] : Cs))) (mid := (([.int .i64 0] : Cs) ++ ([.int .i64 0] : Cs))) (post := (([] : Cs))) (by first | rfl | simp only [List.append_assoc, List.append_nil, List.nil_append, List.cons_append]) (by first | rfl | simp only [List.length_append, List.length_cons, List.length_nil, iv_length]) (Eq.trans (b := 2) (by first | rfl | simp only [List.length_append, List.length_cons, List.length_nil, iv_length]) (Eq.symm (by first | rfl | simp only [List.length_append, List.length_cons, List.length_nil, iv_length])))).trans (by first | rfl | simp only [List.append_assoc, List.append_nil, List.nil_append, List.cons_append])]; exact Fills.nil) ?_
   intro B_65 w_66 st_67
   replace st_67 : St w w_66 (.cells B_65 (([.int .i64 3] : Cs) ++ ([.int .i64 0] : Cs)) 71 :: .cells b0 (([.slice A0_0 n0_0 c0_0] : Cs) ++ (([.slice none 0 0] : Cs) ++ (([.int .i64 a0_2] : Cs) ++ (([.bool a0_3] : Cs) ++ ([.slice A0_4 n0_4 c0_4] : Cs))))) 66 :: .sl A0_0 c0_0 n0_0 x_8 22 1 :: .sl A0_1 c0_1 n0_1 x0_1 69 2 :: .sl A0_4 c0_4 n0_4 x0_4 71 2 :: (T_4 ++ R)) := st_67
   have st_69 := St.rows_sl (i := 0) (m := 1) (size := 2) st_67 rfl rfl (by decide)
   obtain ⟨x_70, e_71⟩ : ∃ x_ : Cs, x_ = ([.int .i64 3] : Cs) ++ ([.int .i64 0] : Cs) := ⟨_, rfl⟩
   have hx_72 : HRs T_4 (f71 w) x_70 ([(3, 0)] : List R71) := by rw [e_71]; exact (HRs.one (.cons rfl (.cons rfl .nil)))
   replace st_69 : St w w_66 (.sl (some ⟨B_65, 0, none⟩) 1 1 x_70 71 2 :: .cells b0 (([.slice A0_0 n0_0 c0_0] : Cs) ++ (([.slice none 0 0] : Cs) ++ (([.int .i64 a0_2] : Cs) ++ (([.bool a0_3] : Cs) ++ ([.slice A0_4 n0_4 c0_4] : Cs))))) 66 :: .sl A0_0 c0_0 n0_0 x_8 22 1 :: .sl A0_1 c0_1 n0_1 x0_1 69 2 :: .sl A0_4 c0_4 n0_4 x0_4 71 2 :: (T_4 ++ R)) := by rw [e_71]; exact st_69
   obtain ⟨m_73, e_74, H⟩ := H
   obtain ⟨z_75, H⟩ := H
   obtain ⟨n_78, hn_81⟩ : ∃ n_ : Nat, n_ = m_73.length := ⟨_, rfl⟩
   refine WL.appendR (i := 4) (N := n_78) (news := x_70) Wanted.none st_69 rfl Try.underlying61 elemS71 rfl rfl (st_69.src_sl (k := 0) rfl) (by have h1_ := (hx_72).length (fz71 w); have h2_ : 1 = ([(3, 0)] : List R71).length := rfl; rw [h1_, h2_]) (HLs.one hx_72) (by decide) (by have h1_ : n0_4 = l0_4.length := hn0_4; have h2_ : 1 = ([(3, 0)] : List R71).length := rfl; rw [hn_81, e_74, List.length_append]; omega) (by rw [hn_81]; exact z_75) ?_
   intro A_76 c_77 w_79 st_80
   obtain ⟨x_82, e_83⟩ : ∃ x_ : Cs, x_ = x0_4 ++ x_70 := ⟨_, rfl⟩
   have hx_84 : HRs T_4 (f71 w) x_82 m_73 := by rw [e_83, e_74]; exact HRs.append (hx0_4.mono (fun _ h_ => hs_5.1 _ h_)) hx_72
   replace st_80 : St w w_79 (.sl (some ⟨B_65, 0, none⟩) 1 1 x_70 71 2 :: .cells b0 (([.slice A0_0 n0_0 c0_0] : Cs) ++ (([.slice none 0 0] : Cs) ++ (([.int .i64 a0_2] : Cs) ++ (([.bool a0_3] : Cs) ++ ([.slice A0_4 n0_4 c0_4] : Cs))))) 66 :: .sl A0_0 c0_0 n0_0 x_8 22 1 :: .sl A0_1 c0_1 n0_1 x0_1 69 2 :: .sl A_76 c_77 n_78 x_82 71 2 :: (T_4 ++ R)) := by rw [e_83]; exact st_80
   refine WL.val Wanted.none (Runs.nilCheck rfl) ?_
   refine WL.val Wanted.none (Runs.fieldAddr (off := 4) (p := 4) fld66_4 rfl rfl rfl) ?_
   refine WL.store_one (i := 1) (u0 := .slice A0_4 n0_4 c0_4) (pre := (([.slice A0_0 n0_0 c0_0] : Cs) ++ (([.slice none 0 0] : Cs) ++ (([.int .i64 a0_2] : Cs) ++ ([.bool a0_3] : Cs))))) (post := (([] : Cs))) st_80 rfl cells61 (by first | rfl | simp only [List.append_assoc, List.append_nil, List.nil_append, List.cons_append]) (by first | rfl | simp only [List.length_append, List.length_cons, List.length_nil, iv_length]) rfl rfl rfl ?_
   intro w_85 st_86
   replace st_86 : St w w_85 (.sl (some ⟨B_65, 0, none⟩) 1 1 x_70 71 2 :: .cells b0 (([.slice A0_0 n0_0 c0_0] : Cs) ++ (([.slice none 0 0] : Cs) ++ (([.int .i64 a0_2] : Cs) ++ (([.bool a0_3] : Cs) ++ ([.slice A_76 n_78 c_77] : Cs))))) 66 :: .sl A0_0 c0_0 n0_0 x_8 22 1 :: .sl A0_1 c0_1 n0_1 x0_1 69 2 :: .sl A_76 c_77 n_78 x_82 71 2 :: (T_4 ++ R)) := by have e_ : (([.slice A0_0 n0_0 c0_0] : Cs) ++ (([.slice none 0 0] : Cs) ++ (([.int .i64 a0_2] : Cs) ++ (([.bool a0_3] : Cs) ++ ([.slice A_76 n_78 c_77] : Cs))))) = (([.slice A0_0 n0_0 c0_0] : Cs) ++ (([.slice none 0 0] : Cs) ++ (([.int .i64 a0_2] : Cs) ++ ([.bool a0_3] : Cs)))) ++ ((([.slice A_76 n_78 c_77] : Cs)) ++ (([] : Cs))) := (by first | rfl | simp only [List.append_assoc, List.append_nil, List.nil_append, List.cons_append]); have h_ : St w w_85 (.sl (some ⟨B_65, 0, none⟩) 1 1 x_70 71 2 :: .cells b0 ((([.slice A0_0 n0_0 c0_0] : Cs) ++ (([.slice none 0 0] : Cs) ++ (([.int .i64 a0_2] : Cs) ++ ([.bool a0_3] : Cs)))) ++ ((([.slice A_76 n_78 c_77] : Cs)) ++ (([] : Cs)))) 66 :: .sl A0_0 c0_0 n0_0 x_8 22 1 :: .sl A0_1 c0_1 n0_1 x0_1 69 2 :: .sl A_76 c_77 n_78 x_82 71 2 :: (T_4 ++ R)) := st_86; rw [← e_] at h_; exact h_
   refine WL.nil (QW.then_n ?_)
   refine CW.sub [(2, .int .i64 0)] ⟨rfl, trivial⟩ ?_
   refine CW.seq (CW.region ?_)
   refine WL.val Wanted.none (Runs.assign rfl) ?_
   refine WL.nil (QW.then_n ?_)
   refine CW.ret ?_
   have st_88 := st_86.nil_sl 69 2
   have st_88 : St w w_85 (.sl none 0 0 ([] : Cs) 69 2 :: .sl (some ⟨B_65, 0, none⟩) 1 1 x_70 71 2 :: .cells b0 (([.slice A0_0 n0_0 c0_0] : Cs) ++ (([.slice none 0 0] : Cs) ++ (([.int .i64 a0_2] : Cs) ++ (([.bool a0_3] : Cs) ++ ([.slice A_76 n_78 c_77] : Cs))))) 66 :: .sl A0_0 c0_0 n0_0 x_8 22 1 :: .sl A0_1 c0_1 n0_1 x0_1 69 2 :: .sl A_76 c_77 n_78 x_82 71 2 :: (T_4 ++ R)) := st_88
   obtain ⟨rfl, rfl, rfl, rfl, rfl, rfl⟩ := H
   exact QW.ret1 rfl rfl ⟨T_4, A0_0, n0_0, c0_0, x_8, none, 0, 0, ([] : Cs), A_76, n_78, c_77, x_82, hs_5, hn_7, hx_9, rfl, (HRs.nil : HRs T_4 (f69 w) [] []), hn_81, hx_84, rfl, (St.pickT (L := [_, _, _, _, _, _]) st_88 [2, 3, 0, 5] (by decide))⟩

end Go.Proofs.Ytjlifbnkdfofhaa
