/- Walks: each function computes what its relation says, and a call of it ends so. Printed by a program of this session (wip/gen). -/
import Derived.Test.YtjlifbnkdfofhaaGx3
namespace Go.Proofs.Ytjlifbnkdfofhaa
open Go Go.Kr Go.RowKit
set_option linter.unusedVariables false
set_option linter.unusedSimpArgs false
/-! ### reliquaryref06_Flush: function 33 -/
def reliquaryref06_Flush.L1 (a0_0 : Int) (l0_2 : List R86) (a0_3 : Int) (a0_4 : Bool) (l0_5 : List R81) (ar0_0 : Int) (lr0_1 : List R86) (lr0_2 : List R86) (ar0_3 : Int) (ar0_4 : Bool) (lr0_5 : List R81) (ar1 : Int) : Nat → (List R86) → Int → Prop
 | 0, _, _ => False
 | kL1 + 1, l_27, x_29 => ((x_29 < (l0_2.length : Int) ∧ ((0 ≤ x_29 ∧ x_29 < (l0_2.length : Int)) ∧ (∃ (l_56 : List R86), reliquaryref06_more.rel l_27 ((gx l0_2 (x_29.toNat)).1) ((gx l0_2 (x_29.toNat)).2) l_56 ∧ reliquaryref06_Flush.L1 a0_0 l0_2 a0_3 a0_4 l0_5 ar0_0 lr0_1 lr0_2 ar0_3 ar0_4 lr0_5 ar1 kL1 l_56 (IntKind.i64.wrap (x_29 + 1))))) ∨ (¬ (x_29 < (l0_2.length : Int)) ∧ (∃ (a_77_0 : Int) (l_81_1 : List R86) (l_81_2 : List R86) (a_77_3 : Int) (a_77_4 : Bool) (l_81_5 : List R81), reliquaryref06_noted.rel a0_0 l_27 [] a0_3 a0_4 l0_5 3 0 a_77_0 l_81_1 l_81_2 a_77_3 a_77_4 l_81_5 ∧ ar0_0 = a_77_0 ∧ lr0_1 = l_81_1 ∧ lr0_2 = l_81_2 ∧ ar0_3 = a_77_3 ∧ ar0_4 = a_77_4 ∧ lr0_5 = l_81_5 ∧ ar1 = 0)))
def reliquaryref06_Flush.rel (a0_0 : Int) (l0_1 : List R86) (l0_2 : List R86) (a0_3 : Int) (a0_4 : Bool) (l0_5 : List R81) (ar0_0 : Int) (lr0_1 : List R86) (lr0_2 : List R86) (ar0_3 : Int) (ar0_4 : Bool) (lr0_5 : List R81) (ar1 : Int) : Prop := ((a0_4 = true ∧ ar0_0 = a0_0 ∧ lr0_1 = l0_1 ∧ lr0_2 = l0_2 ∧ ar0_3 = a0_3 ∧ ar0_4 = a0_4 ∧ lr0_5 = l0_5 ∧ ar1 = 13) ∨ (¬ (a0_4 = true) ∧ (∃ k_ : Nat, reliquaryref06_Flush.L1 a0_0 l0_2 a0_3 a0_4 l0_5 ar0_0 lr0_1 lr0_2 ar0_3 ar0_4 lr0_5 ar1 k_ l0_1 0)))
set_option maxHeartbeats 1000000 in
set_option maxRecDepth 100000 in
theorem reliquaryref06_Flush.calls (w w1 : World) (T R : Pool) (a0_0 : Int) (l0_1 : List R86) (l0_2 : List R86) (a0_3 : Int) (a0_4 : Bool) (l0_5 : List R81) (A0_1 : Option Addr) (n0_1 : Nat) (c0_1 : Nat) (A0_2 : Option Addr) (n0_2 : Nat) (c0_2 : Nat) (A0_5 : Option Addr) (n0_5 : Nat) (c0_5 : Nat) (st0 : St w w1 ((T ++ R))) (hb0_1 : HS w T T A0_1 n0_1 c0_1 (f86 w) l0_1) (hb0_2 : HS w T T A0_2 n0_2 c0_2 (f86 w) l0_2) (hb0_5 : HS w T T A0_5 n0_5 c0_5 (f81 w) l0_5) (ar0_0 : Int) (lr0_1 : List R86) (lr0_2 : List R86) (ar0_3 : Int) (ar0_4 : Bool) (lr0_5 : List R81) (ar1 : Int) (H : reliquaryref06_Flush.rel a0_0 l0_1 l0_2 a0_3 a0_4 l0_5 ar0_0 lr0_1 lr0_2 ar0_3 ar0_4 lr0_5 ar1) :
  Calls Try.prog 33 #[.agg (([.int .i64 a0_0] : Cs) ++ (([.slice A0_1 n0_1 c0_1] : Cs) ++ (([.slice A0_2 n0_2 c0_2] : Cs) ++ (([.int .i64 a0_3] : Cs) ++ (([.bool a0_4] : Cs) ++ ([.slice A0_5 n0_5 c0_5] : Cs)))))).toArray] w1 fun e w' => ∃ T' Ar0_1 nr0_1 cr0_1 Ar0_2 nr0_2 cr0_2 Ar0_5 nr0_5 cr0_5, Pl T T' ∧ HS w T' T' Ar0_1 nr0_1 cr0_1 (f86 w) lr0_1 ∧ HS w T' T' Ar0_2 nr0_2 cr0_2 (f86 w) lr0_2 ∧ HS w T' T' Ar0_5 nr0_5 cr0_5 (f81 w) lr0_5 ∧ e = .returned (.tuple #[.agg (([.int .i64 ar0_0] : Cs) ++ (([.slice Ar0_1 nr0_1 cr0_1] : Cs) ++ (([.slice Ar0_2 nr0_2 cr0_2] : Cs) ++ (([.int .i64 ar0_3] : Cs) ++ (([.bool ar0_4] : Cs) ++ ([.slice Ar0_5 nr0_5 cr0_5] : Cs)))))).toArray, .int .i64 ar1]) ∧ St w w' ((T' ++ R)) := by
 refine CW.enter Try.func33 rfl (n := 27) rfl [.agg (([.int .i64 a0_0] : Cs) ++ (([.slice A0_1 n0_1 c0_1] : Cs) ++ (([.slice A0_2 n0_2 c0_2] : Cs) ++ (([.int .i64 a0_3] : Cs) ++ (([.bool a0_4] : Cs) ++ ([.slice A0_5 n0_5 c0_5] : Cs)))))).toArray] (Nat.le_of_ble_eq_true rfl) ?_
 refine CW.sub [(0, .agg (([.int .i64 a0_0] : Cs) ++ (([.slice A0_1 n0_1 c0_1] : Cs) ++ (([.slice A0_2 n0_2 c0_2] : Cs) ++ (([.int .i64 a0_3] : Cs) ++ (([.bool a0_4] : Cs) ++ ([.slice A0_5 n0_5 c0_5] : Cs)))))).toArray)] ⟨rfl, trivial⟩ ?_
 refine CW.seq (CW.region ?_)
 refine WL.box st0 rfl rfl ?_
 intro B_1 w_2 st_3
 replace st_3 : St w w_2 (.cells B_1 (([.int .i64 a0_0] : Cs) ++ (([.slice A0_1 n0_1 c0_1] : Cs) ++ (([.slice A0_2 n0_2 c0_2] : Cs) ++ (([.int .i64 a0_3] : Cs) ++ (([.bool a0_4] : Cs) ++ ([.slice A0_5 n0_5 c0_5] : Cs)))))) 48 :: (T ++ R)) := st_3
 refine WL.alloc st_3 zero48 ?_
 intro B_5 w_6 st_7
 replace st_7 : St w w_6 (.cells B_5 (([.int .i64 0] : Cs) ++ (([.slice none 0 0] : Cs) ++ (([.slice none 0 0] : Cs) ++ (([.int .i64 0] : Cs) ++ (([.bool false] : Cs) ++ ([.slice none 0 0] : Cs)))))) 48 :: .cells B_1 (([.int .i64 a0_0] : Cs) ++ (([.slice A0_1 n0_1 c0_1] : Cs) ++ (([.slice A0_2 n0_2 c0_2] : Cs) ++ (([.int .i64 a0_3] : Cs) ++ (([.bool a0_4] : Cs) ++ ([.slice A0_5 n0_5 c0_5] : Cs)))))) 48 :: (T ++ R)) := st_7
 refine WL.val Wanted.none (Runs.assign rfl) ?_
 refine WL.nil (QW.then_n ?_)
 refine CW.seq ?_
 refine CW.seq (CW.region ?_)
 refine WL.val Wanted.none (Runs.fieldAddr (off := 4) (p := 4) fld48_4 rfl rfl rfl) ?_
 refine WL.val Wanted.none (Runs.load nagg4 rfl (st_7.cell (k := 1) rfl (part_one (u := .bool a0_4) (pre := (([.int .i64 a0_0] : Cs) ++ (([.slice A0_1 n0_1 c0_1] : Cs) ++ (([.slice A0_2 n0_2 c0_2] : Cs) ++ ([.int .i64 a0_3] : Cs))))) (post := (([.slice A0_5 n0_5 c0_5] : Cs))) (by first | rfl | simp only [List.append_assoc, List.append_nil, List.nil_append, List.cons_append]) (by first | rfl | simp only [List.length_append, List.length_cons, List.length_nil, iv_length])))) ?_
 refine WL.nil (QW.then_n ?_)
 rcases H with ⟨c_9, H⟩ | ⟨c_9, H⟩
 ·have h_10 : a0_4 = true := c_9
  refine CW.ct rfl h_10 ?_
  refine CW.seq (CW.region ?_)
  refine WL.val Wanted.none (Runs.load_mid row48 rfl st_7 (i := 1) rfl (part_mid (pre := (([] : Cs))) (mid := (([.int .i64 a0_0] : Cs) ++ (([.slice A0_1 n0_1 c0_1] : Cs) ++ (([.slice A0_2 n0_2 c0_2] : Cs) ++ (([.int .i64 a0_3] : Cs) ++ (([.bool a0_4] : Cs) ++ ([.slice A0_5 n0_5 c0_5] : Cs))))))) (post := (([] : Cs))) (by first | rfl | simp only [List.append_assoc, List.append_nil, List.nil_append, List.cons_append]) (by first | rfl | simp only [List.length_append, List.length_cons, List.length_nil, iv_length]) (by first | rfl | simp only [List.length_append, List.length_cons, List.length_nil, iv_length])) (by first | rfl | simp only [List.length_append, List.length_cons, List.length_nil, iv_length])) ?_
  refine WL.store_mid (i := 0) (pre := (([] : Cs))) (mid := (([.int .i64 0] : Cs) ++ (([.slice none 0 0] : Cs) ++ (([.slice none 0 0] : Cs) ++ (([.int .i64 0] : Cs) ++ (([.bool false] : Cs) ++ ([.slice none 0 0] : Cs))))))) (post := (([] : Cs))) (ms := (([.int .i64 a0_0] : Cs) ++ (([.slice A0_1 n0_1 c0_1] : Cs) ++ (([.slice A0_2 n0_2 c0_2] : Cs) ++ (([.int .i64 a0_3] : Cs) ++ (([.bool a0_4] : Cs) ++ ([.slice A0_5 n0_5 c0_5] : Cs))))))) st_7 rfl row48 (by first | rfl | simp only [List.append_assoc, List.append_nil, List.nil_append, List.cons_append]) (by first | rfl | simp only [List.length_append, List.length_cons, List.length_nil, iv_length]) rfl rfl (by first | rfl | simp only [List.length_append, List.length_cons, List.length_nil, iv_length]) (by first | rfl | simp only [List.length_append, List.length_cons, List.length_nil, iv_length]) (by intro u hu; simp only [List.mem_append, List.mem_singleton] at hu; rcases hu with hu | hu | hu | hu | hu | hu <;> first | exact one_iv _ _ u hu | (subst hu; rfl)) ?_
  intro w_11 st_12
  replace st_12 : St w w_11 (.cells B_5 (([.int .i64 a0_0] : Cs) ++ (([.slice A0_1 n0_1 c0_1] : Cs) ++ (([.slice A0_2 n0_2 c0_2] : Cs) ++ (([.int .i64 a0_3] : Cs) ++ (([.bool a0_4] : Cs) ++ ([.slice A0_5 n0_5 c0_5] : Cs)))))) 48 :: .cells B_1 (([.int .i64 a0_0] : Cs) ++ (([.slice A0_1 n0_1 c0_1] : Cs) ++ (([.slice A0_2 n0_2 c0_2] : Cs) ++ (([.int .i64 a0_3] : Cs) ++ (([.bool a0_4] : Cs) ++ ([.slice A0_5 n0_5 c0_5] : Cs)))))) 48 :: (T ++ R)) := by have e_ : (([.int .i64 a0_0] : Cs) ++ (([.slice A0_1 n0_1 c0_1] : Cs) ++ (([.slice A0_2 n0_2 c0_2] : Cs) ++ (([.int .i64 a0_3] : Cs) ++ (([.bool a0_4] : Cs) ++ ([.slice A0_5 n0_5 c0_5] : Cs)))))) = (([] : Cs)) ++ ((([.int .i64 a0_0] : Cs) ++ (([.slice A0_1 n0_1 c0_1] : Cs) ++ (([.slice A0_2 n0_2 c0_2] : Cs) ++ (([.int .i64 a0_3] : Cs) ++ (([.bool a0_4] : Cs) ++ ([.slice A0_5 n0_5 c0_5] : Cs)))))) ++ (([] : Cs))) := (by first | rfl | simp only [List.append_assoc, List.append_nil, List.nil_append, List.cons_append]); have h_ : St w w_11 (.cells B_5 ((([] : Cs)) ++ ((([.int .i64 a0_0] : Cs) ++ (([.slice A0_1 n0_1 c0_1] : Cs) ++ (([.slice A0_2 n0_2 c0_2] : Cs) ++ (([.int .i64 a0_3] : Cs) ++ (([.bool a0_4] : Cs) ++ ([.slice A0_5 n0_5 c0_5] : Cs)))))) ++ (([] : Cs)))) 48 :: .cells B_1 (([.int .i64 a0_0] : Cs) ++ (([.slice A0_1 n0_1 c0_1] : Cs) ++ (([.slice A0_2 n0_2 c0_2] : Cs) ++ (([.int .i64 a0_3] : Cs) ++ (([.bool a0_4] : Cs) ++ ([.slice A0_5 n0_5 c0_5] : Cs)))))) 48 :: (T ++ R)) := st_12; rw [← e_] at h_; exact h_
  refine WL.val Wanted.none (Runs.assign rfl) ?_
  refine WL.nil (QW.then_n ?_)
  refine CW.ret ?_
  refine QW.then_r ?_
  obtain ⟨rfl, rfl, rfl, rfl, rfl, rfl, rfl⟩ := H
  exact QW.retN2 rfl (Res.row rfl row48 st_12 (i := 0) rfl (by first | rfl | simp only [List.length_append, List.length_cons, List.length_nil, iv_length])) (Res.tmp rfl) ⟨T, A0_1, n0_1, c0_1, A0_2, n0_2, c0_2, A0_5, n0_5, c0_5, Pl.refl, hb0_1, hb0_2, hb0_5, rfl, (St.pickT (L := [_, _]) st_12 [] (by decide))⟩
 ·have h_10 : a0_4 = false := (Bool.eq_false_iff.mpr c_9)
  refine CW.cf rfl h_10 ?_
  refine CW.skip ?_
  refine QW.then_n ?_
  refine CW.seq ?_
  refine CW.seq (CW.region ?_)
  refine WL.val Wanted.none (Runs.assign rfl) ?_
  refine WL.nil (QW.then_n ?_)
  refine CW.block ?_
  obtain ⟨k_13, H⟩ := H
  refine CW.sub [(1, .pointer (some ⟨B_1, 0, none⟩)), (2, .pointer (some ⟨B_5, 0, none⟩)), (3, .int .i64 0), (4, .int .i64 0)] ⟨rfl, rfl, rfl, rfl, trivial⟩ ?_
  refine CW.loop (fun kL1 l_ w_ => ∃ (T_22 : Pool) (A_24 : Option Addr) (n_25 : Nat) (c_26 : Nat) (l_27 : List R86) (x_29 : Int), l_ = [(1, .pointer (some ⟨B_1, 0, none⟩)), (2, .pointer (some ⟨B_5, 0, none⟩)), (3, .int .i64 0), (4, .int .i64 x_29)] ∧ reliquaryref06_Flush.L1 a0_0 l0_2 a0_3 a0_4 l0_5 ar0_0 lr0_1 lr0_2 ar0_3 ar0_4 lr0_5 ar1 kL1 l_27 x_29 ∧ (Pl T T_22) ∧ (HS w T_22 T_22 A_24 n_25 c_26 (f86 w) l_27) ∧ St w w_ (.cells B_5 (([.int .i64 0] : Cs) ++ (([.slice none 0 0] : Cs) ++ (([.slice none 0 0] : Cs) ++ (([.int .i64 0] : Cs) ++ (([.bool false] : Cs) ++ ([.slice none 0 0] : Cs)))))) 48 :: .cells B_1 (([.int .i64 a0_0] : Cs) ++ (([.slice A_24 n_25 c_26] : Cs) ++ (([.slice A0_2 n0_2 c0_2] : Cs) ++ (([.int .i64 a0_3] : Cs) ++ (([.bool a0_4] : Cs) ++ ([.slice A0_5 n0_5 c0_5] : Cs)))))) 48 :: (T_22 ++ R))) (k := k_13) ⟨T, A0_1, n0_1, c0_1, l0_1, 0, rfl, H, Pl.refl, hb0_1, st_7⟩ (fun _ _ h => by obtain ⟨_, _, _, _, _, _, _, h, _⟩ := h; exact h.elim) ?_
  rintro kL1 l_32 w_30 ⟨T_22, A_24, n_25, c_26, l_27, x_29, rfl, H, hs_23, hb_28, st_31⟩
  refine CW.seq ?_
  refine CW.seq (CW.region ?_)
  refine WL.val Wanted.none (Runs.move rfl) ?_
  refine WL.val Wanted.none (Runs.fieldAddr (off := 2) (p := 2) fld48_2 rfl rfl rfl) ?_
  refine WL.val Wanted.none (Runs.load nagg45 rfl (st_31.cell (k := 1) rfl (part_one (u := .slice A0_2 n0_2 c0_2) (pre := (([.int .i64 a0_0] : Cs) ++ ([.slice A_24 n_25 c_26] : Cs))) (post := (([.int .i64 a0_3] : Cs) ++ (([.bool a0_4] : Cs) ++ ([.slice A0_5 n0_5 c0_5] : Cs)))) (by first | rfl | simp only [List.append_assoc, List.append_nil, List.nil_append, List.cons_append]) (by first | rfl | simp only [List.length_append, List.length_cons, List.length_nil, iv_length])))) ?_
  refine WL.val Wanted.none (Runs.len_sl Try.underlying45 rfl (by rw [hb0_2.1])) ?_
  refine WL.val Wanted.none (Runs.lss rfl rfl rfl) ?_
  refine WL.nil (QW.then_n ?_)
  rcases H with ⟨c_33, H⟩ | ⟨c_33, H⟩
  ·have h_34 : (decide (x_29 < (l0_2.length : Int))) = true := (decide_eq_true c_33)
   refine CW.ct rfl h_34 ?_
   refine CW.skip ?_
   refine QW.then_n ?_
   refine CW.seq ?_
   refine CW.block ?_
   refine CW.region_qt 7 wide (by kernel_rfl) st_31 ?_
   refine HL.val Wanted.none (fun wq sq => (Runs.fieldAddr (off := 1) (p := 1) fld48_1 rfl rfl rfl)) ?_
   refine HL.val Wanted.none (fun wq sq => (Runs.load nagg45 rfl (sq.cell (k := 1) rfl (part_one (u := .slice A_24 n_25 c_26) (pre := (([.int .i64 a0_0] : Cs))) (post := (([.slice A0_2 n0_2 c0_2] : Cs) ++ (([.int .i64 a0_3] : Cs) ++ (([.bool a0_4] : Cs) ++ ([.slice A0_5 n0_5 c0_5] : Cs))))) (by first | rfl | simp only [List.append_assoc, List.append_nil, List.nil_append, List.cons_append]) (by first | rfl | simp only [List.length_append, List.length_cons, List.length_nil, iv_length]))))) ?_
   refine HL.val Wanted.none (fun wq sq => (Runs.fieldAddr (off := 2) (p := 2) fld48_2 rfl rfl rfl)) ?_
   refine HL.val Wanted.none (fun wq sq => (Runs.load nagg45 rfl (sq.cell (k := 1) rfl (part_one (u := .slice A0_2 n0_2 c0_2) (pre := (([.int .i64 a0_0] : Cs) ++ ([.slice A_24 n_25 c_26] : Cs))) (post := (([.int .i64 a0_3] : Cs) ++ (([.bool a0_4] : Cs) ++ ([.slice A0_5 n0_5 c0_5] : Cs)))) (by first | rfl | simp only [List.append_assoc, List.append_nil, List.nil_append, List.cons_append]) (by first | rfl | simp only [List.length_append, List.length_cons, List.length_nil, iv_length]))))) ?_
   refine HL.val Wanted.none (fun wq sq => (Runs.move rfl)) ?_
   obtain ⟨⟨p_35, q_36⟩, H⟩ := H
   obtain ⟨x_37, hs_38, hr_39⟩ := hb0_2.2.2
   obtain ⟨a_40, e_41, ms_42, hc_43, hm_44⟩ := el_get (i := (x_29).toNat) ((hs_38.at st_31 (mem_T (A := [_, _]) (fun _ h_ => hs_23.1 _ h_)))) (hr_39.mono (fun _ h_ => hs_23.1 _ h_)) (fz86 w) (by decide) (by omega)
   obtain em_45 := inv86 hm_44
   replace em_45 : ms_42 = ([.int .i64 ((gx l0_2 (x_29.toNat)).1)] : Cs) ++ ([.string ((gx l0_2 (x_29.toNat)).2)] : Cs) := em_45
   subst em_45
   refine HL.val Wanted.none (fun wq sq => (Runs.indexAddr Try.underlying45 cells86 (by decide) rfl e_41 rfl p_35 (by rw [show n0_2 = l0_2.length from hb0_2.1]; exact q_36) (o := (x_29.toNat) * 2) (by first | rfl | omega))) ?_
   refine HL.val Wanted.none (fun wq sq => (Runs.load_srcR row86 rfl (Src.cut ((hs_38.at sq (mem_T (A := [_, _]) (fun _ h_ => hs_23.1 _ h_)))) e_41 hc_43) rfl)) ?_
   refine HL.nil (fun w_46 st_47 => ?_)
   have st_48 : St w w_46 ((T_22 ++ (.cells B_5 (([.int .i64 0] : Cs) ++ (([.slice none 0 0] : Cs) ++ (([.slice none 0 0] : Cs) ++ (([.int .i64 0] : Cs) ++ (([.bool false] : Cs) ++ ([.slice none 0 0] : Cs)))))) 48 :: .cells B_1 (([.int .i64 a0_0] : Cs) ++ (([.slice A_24 n_25 c_26] : Cs) ++ (([.slice A0_2 n0_2 c0_2] : Cs) ++ (([.int .i64 a0_3] : Cs) ++ (([.bool a0_4] : Cs) ++ ([.slice A0_5 n0_5 c0_5] : Cs)))))) 48 :: R))) := St.hide (A := []) (B := [_, _]) (T := T_22) (R := R) st_47
   obtain ⟨l_56, hr_49, H⟩ := H
   refine WL.call Wanted.none ent45 rfl (reliquaryref06_more.calls w w_46 T_22 (.cells B_5 (([.int .i64 0] : Cs) ++ (([.slice none 0 0] : Cs) ++ (([.slice none 0 0] : Cs) ++ (([.int .i64 0] : Cs) ++ (([.bool false] : Cs) ++ ([.slice none 0 0] : Cs)))))) 48 :: .cells B_1 (([.int .i64 a0_0] : Cs) ++ (([.slice A_24 n_25 c_26] : Cs) ++ (([.slice A0_2 n0_2 c0_2] : Cs) ++ (([.int .i64 a0_3] : Cs) ++ (([.bool a0_4] : Cs) ++ ([.slice A0_5 n0_5 c0_5] : Cs)))))) 48 :: R) l_27 ((gx l0_2 (x_29.toNat)).1) ((gx l0_2 (x_29.toNat)).2) A_24 n_25 c_26  st_48 (hb_28.mono (memo_T (B := [_, _]) (fun _ h_ => h_)) (fun _ h_ => h_)) l_56 hr_49) ?_
   rintro _ w_60 ⟨T_50, A_53, n_54, c_55, x_57, hs_51, hn_58, hx_59, rfl, sc_62⟩
   have st_61 : St w w_60 (.sl A_53 c_55 n_54 x_57 86 2 :: .cells B_5 (([.int .i64 0] : Cs) ++ (([.slice none 0 0] : Cs) ++ (([.slice none 0 0] : Cs) ++ (([.int .i64 0] : Cs) ++ (([.bool false] : Cs) ++ ([.slice none 0 0] : Cs)))))) 48 :: .cells B_1 (([.int .i64 a0_0] : Cs) ++ (([.slice A_24 n_25 c_26] : Cs) ++ (([.slice A0_2 n0_2 c0_2] : Cs) ++ (([.int .i64 a0_3] : Cs) ++ (([.bool a0_4] : Cs) ++ ([.slice A0_5 n0_5 c0_5] : Cs)))))) 48 :: (T_50 ++ R)) := St.unhide (A := [_]) (B := [_, _]) (T := T_50) (R := R) sc_62
   refine ⟨_, rfl, ?_⟩
   refine WL.val Wanted.none (Runs.fieldAddr (off := 1) (p := 1) fld48_1 rfl rfl rfl) ?_
   refine WL.store_one (i := 2) (u0 := .slice A_24 n_25 c_26) (pre := (([.int .i64 a0_0] : Cs))) (post := (([.slice A0_2 n0_2 c0_2] : Cs) ++ (([.int .i64 a0_3] : Cs) ++ (([.bool a0_4] : Cs) ++ ([.slice A0_5 n0_5 c0_5] : Cs))))) st_61 rfl cells45 (by first | rfl | simp only [List.append_assoc, List.append_nil, List.nil_append, List.cons_append]) (by first | rfl | simp only [List.length_append, List.length_cons, List.length_nil, iv_length]) rfl rfl rfl ?_
   intro w_63 st_64
   replace st_64 : St w w_63 (.sl A_53 c_55 n_54 x_57 86 2 :: .cells B_5 (([.int .i64 0] : Cs) ++ (([.slice none 0 0] : Cs) ++ (([.slice none 0 0] : Cs) ++ (([.int .i64 0] : Cs) ++ (([.bool false] : Cs) ++ ([.slice none 0 0] : Cs)))))) 48 :: .cells B_1 (([.int .i64 a0_0] : Cs) ++ (([.slice A_53 n_54 c_55] : Cs) ++ (([.slice A0_2 n0_2 c0_2] : Cs) ++ (([.int .i64 a0_3] : Cs) ++ (([.bool a0_4] : Cs) ++ ([.slice A0_5 n0_5 c0_5] : Cs)))))) 48 :: (T_50 ++ R)) := by have e_ : (([.int .i64 a0_0] : Cs) ++ (([.slice A_53 n_54 c_55] : Cs) ++ (([.slice A0_2 n0_2 c0_2] : Cs) ++ (([.int .i64 a0_3] : Cs) ++ (([.bool a0_4] : Cs) ++ ([.slice A0_5 n0_5 c0_5] : Cs)))))) = (([.int .i64 a0_0] : Cs)) ++ ((([.slice A_53 n_54 c_55] : Cs)) ++ (([.slice A0_2 n0_2 c0_2] : Cs) ++ (([.int .i64 a0_3] : Cs) ++ (([.bool a0_4] : Cs) ++ ([.slice A0_5 n0_5 c0_5] : Cs))))) := (by first | rfl | simp only [List.append_assoc, List.append_nil, List.nil_append, List.cons_append]); have h_ : St w w_63 (.sl A_53 c_55 n_54 x_57 86 2 :: .cells B_5 (([.int .i64 0] : Cs) ++ (([.slice none 0 0] : Cs) ++ (([.slice none 0 0] : Cs) ++ (([.int .i64 0] : Cs) ++ (([.bool false] : Cs) ++ ([.slice none 0 0] : Cs)))))) 48 :: .cells B_1 ((([.int .i64 a0_0] : Cs)) ++ ((([.slice A_53 n_54 c_55] : Cs)) ++ (([.slice A0_2 n0_2 c0_2] : Cs) ++ (([.int .i64 a0_3] : Cs) ++ (([.bool a0_4] : Cs) ++ ([.slice A0_5 n0_5 c0_5] : Cs)))))) 48 :: (T_50 ++ R)) := st_64; rw [← e_] at h_; exact h_
   refine WL.nil ?_
   refine QW.blk_n ?_
   refine QW.then_n ?_
   refine CW.region ?_
   refine WL.val Wanted.none (Runs.move rfl) ?_
   refine WL.val Wanted.none (Runs.add rfl rfl rfl) ?_
   refine WL.val Wanted.none (Runs.assign rfl) ?_
   refine WL.nil ?_
   have hb_69c := st_64.cap (i := 0) rfl
   obtain ⟨T_65, hs_66, hm_67, st_68⟩ := St.freeze (A := []) (B := [_, _]) (T := T_50) (R := R) st_64
   have hb_69 : HS w T_65 T_65 A_53 n_54 c_55 (f86 w) l_56 := HS.mk hn_58 hb_69c (Hd.of_sl hm_67) (hx_59.mono (fun _ h_ => hs_66.1 _ h_))
   replace st_68 : St w w_63 (.cells B_5 (([.int .i64 0] : Cs) ++ (([.slice none 0 0] : Cs) ++ (([.slice none 0 0] : Cs) ++ (([.int .i64 0] : Cs) ++ (([.bool false] : Cs) ++ ([.slice none 0 0] : Cs)))))) 48 :: .cells B_1 (([.int .i64 a0_0] : Cs) ++ (([.slice A_53 n_54 c_55] : Cs) ++ (([.slice A0_2 n0_2 c0_2] : Cs) ++ (([.int .i64 a0_3] : Cs) ++ (([.bool a0_4] : Cs) ++ ([.slice A0_5 n0_5 c0_5] : Cs)))))) 48 :: (T_65 ++ R)) := st_68
   exact QW.at _ (by repeat' constructor) ⟨T_65, A_53, n_54, c_55, l_56, IntKind.i64.wrap (x_29 + 1), rfl, H, ((hs_23.trans hs_51).trans hs_66), hb_69, st_68⟩
  ·have h_34 : (decide (x_29 < (l0_2.length : Int))) = false := (decide_eq_false c_33)
   refine CW.cf rfl h_34 ?_
   refine CW.exit ?_
   refine QW.then_x ?_
   refine QW.then_x ?_
   refine QW.blk_x ?_
   refine QW.then_n ?_
   refine CW.sub [(1, .pointer (some ⟨B_1, 0, none⟩)), (2, .pointer (some ⟨B_5, 0, none⟩)), (3, .int .i64 0)] ⟨rfl, rfl, rfl, trivial⟩ ?_
   refine CW.seq (CW.region ?_)
   refine WL.val Wanted.none (Runs.fieldAddr (off := 2) (p := 2) fld48_2 rfl rfl rfl) ?_
   refine WL.store_one (i := 1) (u0 := .slice A0_2 n0_2 c0_2) (pre := (([.int .i64 a0_0] : Cs) ++ ([.slice A_24 n_25 c_26] : Cs))) (post := (([.int .i64 a0_3] : Cs) ++ (([.bool a0_4] : Cs) ++ ([.slice A0_5 n0_5 c0_5] : Cs)))) st_31 rfl cells45 (by first | rfl | simp only [List.append_assoc, List.append_nil, List.nil_append, List.cons_append]) (by first | rfl | simp only [List.length_append, List.length_cons, List.length_nil, iv_length]) rfl rfl rfl ?_
   intro w_70 st_71
   replace st_71 : St w w_70 (.cells B_5 (([.int .i64 0] : Cs) ++ (([.slice none 0 0] : Cs) ++ (([.slice none 0 0] : Cs) ++ (([.int .i64 0] : Cs) ++ (([.bool false] : Cs) ++ ([.slice none 0 0] : Cs)))))) 48 :: .cells B_1 (([.int .i64 a0_0] : Cs) ++ (([.slice A_24 n_25 c_26] : Cs) ++ (([.slice none 0 0] : Cs) ++ (([.int .i64 a0_3] : Cs) ++ (([.bool a0_4] : Cs) ++ ([.slice A0_5 n0_5 c0_5] : Cs)))))) 48 :: (T_22 ++ R)) := by have e_ : (([.int .i64 a0_0] : Cs) ++ (([.slice A_24 n_25 c_26] : Cs) ++ (([.slice none 0 0] : Cs) ++ (([.int .i64 a0_3] : Cs) ++ (([.bool a0_4] : Cs) ++ ([.slice A0_5 n0_5 c0_5] : Cs)))))) = (([.int .i64 a0_0] : Cs) ++ ([.slice A_24 n_25 c_26] : Cs)) ++ ((([.slice none 0 0] : Cs)) ++ (([.int .i64 a0_3] : Cs) ++ (([.bool a0_4] : Cs) ++ ([.slice A0_5 n0_5 c0_5] : Cs)))) := (by first | rfl | simp only [List.append_assoc, List.append_nil, List.nil_append, List.cons_append]); have h_ : St w w_70 (.cells B_5 (([.int .i64 0] : Cs) ++ (([.slice none 0 0] : Cs) ++ (([.slice none 0 0] : Cs) ++ (([.int .i64 0] : Cs) ++ (([.bool false] : Cs) ++ ([.slice none 0 0] : Cs)))))) 48 :: .cells B_1 ((([.int .i64 a0_0] : Cs) ++ ([.slice A_24 n_25 c_26] : Cs)) ++ ((([.slice none 0 0] : Cs)) ++ (([.int .i64 a0_3] : Cs) ++ (([.bool a0_4] : Cs) ++ ([.slice A0_5 n0_5 c0_5] : Cs))))) 48 :: (T_22 ++ R)) := st_71; rw [← e_] at h_; exact h_
   refine WL.nil (QW.then_n ?_)
   refine CW.seq (CW.region ?_)
   refine WL.val Wanted.none (Runs.load_mid row48 rfl st_71 (i := 1) rfl (part_mid (pre := (([] : Cs))) (mid := (([.int .i64 a0_0] : Cs) ++ (([.slice A_24 n_25 c_26] : Cs) ++ (([.slice none 0 0] : Cs) ++ (([.int .i64 a0_3] : Cs) ++ (([.bool a0_4] : Cs) ++ ([.slice A0_5 n0_5 c0_5] : Cs))))))) (post := (([] : Cs))) (by first | rfl | simp only [List.append_assoc, List.append_nil, List.nil_append, List.cons_append]) (by first | rfl | simp only [List.length_append, List.length_cons, List.length_nil, iv_length]) (by first | rfl | simp only [List.length_append, List.length_cons, List.length_nil, iv_length])) (by first | rfl | simp only [List.length_append, List.length_cons, List.length_nil, iv_length])) ?_
   have st_72 : St w w_70 ((T_22 ++ (.cells B_5 (([.int .i64 0] : Cs) ++ (([.slice none 0 0] : Cs) ++ (([.slice none 0 0] : Cs) ++ (([.int .i64 0] : Cs) ++ (([.bool false] : Cs) ++ ([.slice none 0 0] : Cs)))))) 48 :: .cells B_1 (([.int .i64 a0_0] : Cs) ++ (([.slice A_24 n_25 c_26] : Cs) ++ (([.slice none 0 0] : Cs) ++ (([.int .i64 a0_3] : Cs) ++ (([.bool a0_4] : Cs) ++ ([.slice A0_5 n0_5 c0_5] : Cs)))))) 48 :: R))) := St.hide (A := []) (B := [_, _]) (T := T_22) (R := R) st_71
   obtain ⟨a_77_0, l_81_1, l_81_2, a_77_3, a_77_4, l_81_5, hr_73, H⟩ := H
   refine WL.call Wanted.none ent46 rfl (reliquaryref06_noted.calls w w_70 T_22 (.cells B_5 (([.int .i64 0] : Cs) ++ (([.slice none 0 0] : Cs) ++ (([.slice none 0 0] : Cs) ++ (([.int .i64 0] : Cs) ++ (([.bool false] : Cs) ++ ([.slice none 0 0] : Cs)))))) 48 :: .cells B_1 (([.int .i64 a0_0] : Cs) ++ (([.slice A_24 n_25 c_26] : Cs) ++ (([.slice none 0 0] : Cs) ++ (([.int .i64 a0_3] : Cs) ++ (([.bool a0_4] : Cs) ++ ([.slice A0_5 n0_5 c0_5] : Cs)))))) 48 :: R) a0_0 l_27 [] a0_3 a0_4 l0_5 3 0 A_24 n_25 c_26 none 0 0 A0_5 n0_5 c0_5  st_72 hb_28 HS.nil (hb0_5.mono (fun _ h_ => hs_23.1 _ h_) (fun _ h_ => hs_23.1 _ h_)) a_77_0 l_81_1 l_81_2 a_77_3 a_77_4 l_81_5 hr_73) ?_
   rintro _ w_84 ⟨T_74, A_78_1, n_79_1, c_80_1, A_78_2, n_79_2, c_80_2, A_78_5, n_79_5, c_80_5, hs_75, hb_83_1, hb_83_2, hb_83_5, rfl, sc_86⟩
   have st_85 : St w w_84 (.cells B_5 (([.int .i64 0] : Cs) ++ (([.slice none 0 0] : Cs) ++ (([.slice none 0 0] : Cs) ++ (([.int .i64 0] : Cs) ++ (([.bool false] : Cs) ++ ([.slice none 0 0] : Cs)))))) 48 :: .cells B_1 (([.int .i64 a0_0] : Cs) ++ (([.slice A_24 n_25 c_26] : Cs) ++ (([.slice none 0 0] : Cs) ++ (([.int .i64 a0_3] : Cs) ++ (([.bool a0_4] : Cs) ++ ([.slice A0_5 n0_5 c0_5] : Cs)))))) 48 :: (T_74 ++ R)) := St.unhide (A := []) (B := [_, _]) (T := T_74) (R := R) sc_86
   refine ⟨_, rfl, ?_⟩
   refine WL.store_mid (i := 0) (pre := (([] : Cs))) (mid := (([.int .i64 0] : Cs) ++ (([.slice none 0 0] : Cs) ++ (([.slice none 0 0] : Cs) ++ (([.int .i64 0] : Cs) ++ (([.bool false] : Cs) ++ ([.slice none 0 0] : Cs))))))) (post := (([] : Cs))) (ms := (([.int .i64 a_77_0] : Cs) ++ (([.slice A_78_1 n_79_1 c_80_1] : Cs) ++ (([.slice A_78_2 n_79_2 c_80_2] : Cs) ++ (([.int .i64 a_77_3] : Cs) ++ (([.bool a_77_4] : Cs) ++ ([.slice A_78_5 n_79_5 c_80_5] : Cs))))))) st_85 rfl row48 (by first | rfl | simp only [List.append_assoc, List.append_nil, List.nil_append, List.cons_append]) (by first | rfl | simp only [List.length_append, List.length_cons, List.length_nil, iv_length]) rfl rfl (by first | rfl | simp only [List.length_append, List.length_cons, List.length_nil, iv_length]) (by first | rfl | simp only [List.length_append, List.length_cons, List.length_nil, iv_length]) (by intro u hu; simp only [List.mem_append, List.mem_singleton] at hu; rcases hu with hu | hu | hu | hu | hu | hu <;> first | exact one_iv _ _ u hu | (subst hu; rfl)) ?_
   intro w_87 st_88
   replace st_88 : St w w_87 (.cells B_5 (([.int .i64 a_77_0] : Cs) ++ (([.slice A_78_1 n_79_1 c_80_1] : Cs) ++ (([.slice A_78_2 n_79_2 c_80_2] : Cs) ++ (([.int .i64 a_77_3] : Cs) ++ (([.bool a_77_4] : Cs) ++ ([.slice A_78_5 n_79_5 c_80_5] : Cs)))))) 48 :: .cells B_1 (([.int .i64 a0_0] : Cs) ++ (([.slice A_24 n_25 c_26] : Cs) ++ (([.slice none 0 0] : Cs) ++ (([.int .i64 a0_3] : Cs) ++ (([.bool a0_4] : Cs) ++ ([.slice A0_5 n0_5 c0_5] : Cs)))))) 48 :: (T_74 ++ R)) := by have e_ : (([.int .i64 a_77_0] : Cs) ++ (([.slice A_78_1 n_79_1 c_80_1] : Cs) ++ (([.slice A_78_2 n_79_2 c_80_2] : Cs) ++ (([.int .i64 a_77_3] : Cs) ++ (([.bool a_77_4] : Cs) ++ ([.slice A_78_5 n_79_5 c_80_5] : Cs)))))) = (([] : Cs)) ++ ((([.int .i64 a_77_0] : Cs) ++ (([.slice A_78_1 n_79_1 c_80_1] : Cs) ++ (([.slice A_78_2 n_79_2 c_80_2] : Cs) ++ (([.int .i64 a_77_3] : Cs) ++ (([.bool a_77_4] : Cs) ++ ([.slice A_78_5 n_79_5 c_80_5] : Cs)))))) ++ (([] : Cs))) := (by first | rfl | simp only [List.append_assoc, List.append_nil, List.nil_append, List.cons_append]); have h_ : St w w_87 (.cells B_5 ((([] : Cs)) ++ ((([.int .i64 a_77_0] : Cs) ++ (([.slice A_78_1 n_79_1 c_80_1] : Cs) ++ (([.slice A_78_2 n_79_2 c_80_2] : Cs) ++ (([.int .i64 a_77_3] : Cs) ++ (([.bool a_77_4] : Cs) ++ ([.slice A_78_5 n_79_5 c_80_5] : Cs)))))) ++ (([] : Cs)))) 48 :: .cells B_1 (([.int .i64 a0_0] : Cs) ++ (([.slice A_24 n_25 c_26] : Cs) ++ (([.slice none 0 0] : Cs) ++ (([.int .i64 a0_3] : Cs) ++ (([.bool a0_4] : Cs) ++ ([.slice A0_5 n0_5 c0_5] : Cs)))))) 48 :: (T_74 ++ R)) := st_88; rw [← e_] at h_; exact h_
   refine WL.val Wanted.none (Runs.assign rfl) ?_
   refine WL.nil (QW.then_n ?_)
   refine CW.ret ?_
   obtain ⟨rfl, rfl, rfl, rfl, rfl, rfl, rfl⟩ := H
   exact QW.retN2 rfl (Res.row rfl row48 st_88 (i := 0) rfl (by first | rfl | simp only [List.length_append, List.length_cons, List.length_nil, iv_length])) (Res.tmp rfl) ⟨T_74, A_78_1, n_79_1, c_80_1, A_78_2, n_79_2, c_80_2, A_78_5, n_79_5, c_80_5, (hs_23.trans hs_75), hb_83_1, hb_83_2, hb_83_5, rfl, (St.pickT (L := [_, _]) st_88 [] (by decide))⟩

/-! ### disk_Disk_Stop: function 24 -/
def disk_Disk_Stop.rel (l0_0 : List R22) (l0_1 : List R69) (a0_2 : Int) (a0_3 : Bool) (l0_4 : List R71) (a1 : Int) (ls0_0 : List R22) (ls0_1 : List R69) (as0_2 : Int) (as0_3 : Bool) (ls0_4 : List R71) : Prop := ls0_0 = l0_0 ∧ ls0_1 = l0_1 ∧ as0_2 = maxI a1 (-1) ∧ as0_3 = a0_3 ∧ ls0_4 = l0_4
set_option maxHeartbeats 1000000 in
set_option maxRecDepth 100000 in
theorem disk_Disk_Stop.calls (w w1 : World) (T R : Pool) (l0_0 : List R22) (l0_1 : List R69) (a0_2 : Int) (a0_3 : Bool) (l0_4 : List R71) (a1 : Int) (b0 : Nat) (A0_0 : Option Addr) (n0_0 : Nat) (c0_0 : Nat) (x0_0 : Cs) (A0_1 : Option Addr) (n0_1 : Nat) (c0_1 : Nat) (x0_1 : Cs) (A0_4 : Option Addr) (n0_4 : Nat) (c0_4 : Nat) (x0_4 : Cs) (st0 : St w w1 (.cells b0 (([.slice A0_0 n0_0 c0_0] : Cs) ++ (([.slice A0_1 n0_1 c0_1] : Cs) ++ (([.int .i64 a0_2] : Cs) ++ (([.bool a0_3] : Cs) ++ ([.slice A0_4 n0_4 c0_4] : Cs))))) 66 :: .sl A0_0 c0_0 n0_0 x0_0 22 1 :: .sl A0_1 c0_1 n0_1 x0_1 69 2 :: .sl A0_4 c0_4 n0_4 x0_4 71 2 :: (T ++ R))) (hn0_0 : n0_0 = l0_0.length) (hx0_0 : HRs T (f22 w) x0_0 l0_0) (hn0_1 : n0_1 = l0_1.length) (hx0_1 : HRs T (f69 w) x0_1 l0_1) (hn0_4 : n0_4 = l0_4.length) (hx0_4 : HRs T (f71 w) x0_4 l0_4) (ls0_0 : List R22) (ls0_1 : List R69) (as0_2 : Int) (as0_3 : Bool) (ls0_4 : List R71) (H : disk_Disk_Stop.rel l0_0 l0_1 a0_2 a0_3 l0_4 a1 ls0_0 ls0_1 as0_2 as0_3 ls0_4) :
  Calls Try.prog 24 #[.pointer (some ⟨b0, 0, none⟩), .int .i64 a1] w1 fun e w' => ∃ T' As0_0 ns0_0 cs0_0 xs0_0 As0_1 ns0_1 cs0_1 xs0_1 As0_4 ns0_4 cs0_4 xs0_4, Pl T T' ∧ ns0_0 = ls0_0.length ∧ HRs T' (f22 w) xs0_0 ls0_0 ∧ ns0_1 = ls0_1.length ∧ HRs T' (f69 w) xs0_1 ls0_1 ∧ ns0_4 = ls0_4.length ∧ HRs T' (f71 w) xs0_4 ls0_4 ∧ e = .returned (.tuple #[]) ∧ St w w' (.cells b0 (([.slice As0_0 ns0_0 cs0_0] : Cs) ++ (([.slice As0_1 ns0_1 cs0_1] : Cs) ++ (([.int .i64 as0_2] : Cs) ++ (([.bool as0_3] : Cs) ++ ([.slice As0_4 ns0_4 cs0_4] : Cs))))) 66 :: .sl As0_0 cs0_0 ns0_0 xs0_0 22 1 :: .sl As0_1 cs0_1 ns0_1 xs0_1 69 2 :: .sl As0_4 cs0_4 ns0_4 xs0_4 71 2 :: (T' ++ R)) := by
 refine CW.enter Try.func24 rfl (n := 11) rfl [.pointer (some ⟨b0, 0, none⟩), .int .i64 a1] (Nat.le_of_ble_eq_true rfl) ?_
 refine CW.sub [(0, .pointer (some ⟨b0, 0, none⟩)), (1, .int .i64 a1)] ⟨rfl, rfl, trivial⟩ ?_
 refine CW.seq (CW.region ?_)
 refine WL.val Wanted.none (Runs.move rfl) ?_
 refine WL.val Wanted.none (Runs.neq_ptr Try.underlying25 rfl rfl rfl) ?_
 refine WL.nil (QW.then_n ?_)
 refine CW.ct rfl rfl ?_
 refine CW.region ?_
 refine WL.val Wanted.none (Runs.move rfl) ?_
 refine WL.val Wanted.none (Runs.move rfl) ?_
 refine WL.val Wanted.none (Runs.max2 rfl rfl rfl) ?_
 refine WL.val Wanted.none (Runs.nilCheck rfl) ?_
 refine WL.val Wanted.none (Runs.fieldAddr (off := 2) (p := 2) fld66_2 rfl rfl rfl) ?_
 refine WL.store_one (i := 0) (u0 := .int .i64 a0_2) (pre := (([.slice A0_0 n0_0 c0_0] : Cs) ++ ([.slice A0_1 n0_1 c0_1] : Cs))) (post := (([.bool a0_3] : Cs) ++ ([.slice A0_4 n0_4 c0_4] : Cs))) st0 rfl cells3 (by first | rfl | simp only [List.append_assoc, List.append_nil, List.nil_append, List.cons_append]) (by first | rfl | simp only [List.length_append, List.length_cons, List.length_nil, iv_length]) rfl rfl rfl ?_
 intro w_1 st_2
 replace st_2 : St w w_1 (.cells b0 (([.slice A0_0 n0_0 c0_0] : Cs) ++ (([.slice A0_1 n0_1 c0_1] : Cs) ++ (([.int .i64 (maxI a1 (-1))] : Cs) ++ (([.bool a0_3] : Cs) ++ ([.slice A0_4 n0_4 c0_4] : Cs))))) 66 :: .sl A0_0 c0_0 n0_0 x0_0 22 1 :: .sl A0_1 c0_1 n0_1 x0_1 69 2 :: .sl A0_4 c0_4 n0_4 x0_4 71 2 :: (T ++ R)) := by have e_ : (([.slice A0_0 n0_0 c0_0] : Cs) ++ (([.slice A0_1 n0_1 c0_1] : Cs) ++ (([.int .i64 (maxI a1 (-1))] : Cs) ++ (([.bool a0_3] : Cs) ++ ([.slice A0_4 n0_4 c0_4] : Cs))))) = (([.slice A0_0 n0_0 c0_0] : Cs) ++ ([.slice A0_1 n0_1 c0_1] : Cs)) ++ ((([.int .i64 (maxI a1 (-1))] : Cs)) ++ (([.bool a0_3] : Cs) ++ ([.slice A0_4 n0_4 c0_4] : Cs))) := (by first | rfl | simp only [List.append_assoc, List.append_nil, List.nil_append, List.cons_append]); have h_ : St w w_1 (.cells b0 ((([.slice A0_0 n0_0 c0_0] : Cs) ++ ([.slice A0_1 n0_1 c0_1] : Cs)) ++ ((([.int .i64 (maxI a1 (-1))] : Cs)) ++ (([.bool a0_3] : Cs) ++ ([.slice A0_4 n0_4 c0_4] : Cs)))) 66 :: .sl A0_0 c0_0 n0_0 x0_0 22 1 :: .sl A0_1 c0_1 n0_1 x0_1 69 2 :: .sl A0_4 c0_4 n0_4 x0_4 71 2 :: (T ++ R)) := st_2; rw [← e_] at h_; exact h_
 refine WL.nil ?_
 obtain ⟨rfl, rfl, rfl, rfl, rfl⟩ := H
 exact QW.end0 rfl ⟨T, A0_0, n0_0, c0_0, x0_0, A0_1, n0_1, c0_1, x0_1, A0_4, n0_4, c0_4, x0_4, Pl.refl, hn0_0, hx0_0, hn0_1, hx0_1, hn0_4, hx0_4, rfl, (St.pickT (L := [_, _, _, _]) st_2 [0, 1, 2, 3] (by decide))⟩

/-! ### reliquaryref06_Stop: function 34 -/
def reliquaryref06_Stop.rel (a0_0 : Int) (l0_1 : List R86) (l0_2 : List R86) (a0_3 : Int) (a0_4 : Bool) (l0_5 : List R81) (a1 : Int) (ar0_0 : Int) (lr0_1 : List R86) (lr0_2 : List R86) (ar0_3 : Int) (ar0_4 : Bool) (lr0_5 : List R81) : Prop := ((a1 < 0 ∧ ar0_0 = a0_0 ∧ lr0_1 = l0_1 ∧ lr0_2 = l0_2 ∧ ar0_3 = -1 ∧ ar0_4 = a0_4 ∧ lr0_5 = l0_5) ∨ (¬ (a1 < 0) ∧ ar0_0 = a0_0 ∧ lr0_1 = l0_1 ∧ lr0_2 = l0_2 ∧ ar0_3 = a1 ∧ ar0_4 = a0_4 ∧ lr0_5 = l0_5))
set_option maxHeartbeats 1000000 in
set_option maxRecDepth 100000 in
theorem reliquaryref06_Stop.calls (w w1 : World) (T R : Pool) (a0_0 : Int) (l0_1 : List R86) (l0_2 : List R86) (a0_3 : Int) (a0_4 : Bool) (l0_5 : List R81) (a1 : Int) (A0_1 : Option Addr) (n0_1 : Nat) (c0_1 : Nat) (A0_2 : Option Addr) (n0_2 : Nat) (c0_2 : Nat) (A0_5 : Option Addr) (n0_5 : Nat) (c0_5 : Nat) (st0 : St w w1 ((T ++ R))) (hb0_1 : HS w T T A0_1 n0_1 c0_1 (f86 w) l0_1) (hb0_2 : HS w T T A0_2 n0_2 c0_2 (f86 w) l0_2) (hb0_5 : HS w T T A0_5 n0_5 c0_5 (f81 w) l0_5) (ar0_0 : Int) (lr0_1 : List R86) (lr0_2 : List R86) (ar0_3 : Int) (ar0_4 : Bool) (lr0_5 : List R81) (H : reliquaryref06_Stop.rel a0_0 l0_1 l0_2 a0_3 a0_4 l0_5 a1 ar0_0 lr0_1 lr0_2 ar0_3 ar0_4 lr0_5) :
  Calls Try.prog 34 #[.agg (([.int .i64 a0_0] : Cs) ++ (([.slice A0_1 n0_1 c0_1] : Cs) ++ (([.slice A0_2 n0_2 c0_2] : Cs) ++ (([.int .i64 a0_3] : Cs) ++ (([.bool a0_4] : Cs) ++ ([.slice A0_5 n0_5 c0_5] : Cs)))))).toArray, .int .i64 a1] w1 fun e w' => ∃ T' Ar0_1 nr0_1 cr0_1 Ar0_2 nr0_2 cr0_2 Ar0_5 nr0_5 cr0_5, Pl T T' ∧ HS w T' T' Ar0_1 nr0_1 cr0_1 (f86 w) lr0_1 ∧ HS w T' T' Ar0_2 nr0_2 cr0_2 (f86 w) lr0_2 ∧ HS w T' T' Ar0_5 nr0_5 cr0_5 (f81 w) lr0_5 ∧ e = .returned (.agg (([.int .i64 ar0_0] : Cs) ++ (([.slice Ar0_1 nr0_1 cr0_1] : Cs) ++ (([.slice Ar0_2 nr0_2 cr0_2] : Cs) ++ (([.int .i64 ar0_3] : Cs) ++ (([.bool ar0_4] : Cs) ++ ([.slice Ar0_5 nr0_5 cr0_5] : Cs)))))).toArray) ∧ St w w' ((T' ++ R)) := by
 refine CW.enter Try.func34 rfl (n := 11) rfl [.agg (([.int .i64 a0_0] : Cs) ++ (([.slice A0_1 n0_1 c0_1] : Cs) ++ (([.slice A0_2 n0_2 c0_2] : Cs) ++ (([.int .i64 a0_3] : Cs) ++ (([.bool a0_4] : Cs) ++ ([.slice A0_5 n0_5 c0_5] : Cs)))))).toArray, .int .i64 a1] (Nat.le_of_ble_eq_true rfl) ?_
 refine CW.sub [(0, .agg (([.int .i64 a0_0] : Cs) ++ (([.slice A0_1 n0_1 c0_1] : Cs) ++ (([.slice A0_2 n0_2 c0_2] : Cs) ++ (([.int .i64 a0_3] : Cs) ++ (([.bool a0_4] : Cs) ++ ([.slice A0_5 n0_5 c0_5] : Cs)))))).toArray), (1, .int .i64 a1)] ⟨rfl, rfl, trivial⟩ ?_
 refine CW.seq (CW.region ?_)
 refine WL.box st0 rfl rfl ?_
 intro B_1 w_2 st_3
 replace st_3 : St w w_2 (.cells B_1 (([.int .i64 a0_0] : Cs) ++ (([.slice A0_1 n0_1 c0_1] : Cs) ++ (([.slice A0_2 n0_2 c0_2] : Cs) ++ (([.int .i64 a0_3] : Cs) ++ (([.bool a0_4] : Cs) ++ ([.slice A0_5 n0_5 c0_5] : Cs)))))) 48 :: (T ++ R)) := st_3
 refine WL.alloc st_3 zero48 ?_
 intro B_5 w_6 st_7
 replace st_7 : St w w_6 (.cells B_5 (([.int .i64 0] : Cs) ++ (([.slice none 0 0] : Cs) ++ (([.slice none 0 0] : Cs) ++ (([.int .i64 0] : Cs) ++ (([.bool false] : Cs) ++ ([.slice none 0 0] : Cs)))))) 48 :: .cells B_1 (([.int .i64 a0_0] : Cs) ++ (([.slice A0_1 n0_1 c0_1] : Cs) ++ (([.slice A0_2 n0_2 c0_2] : Cs) ++ (([.int .i64 a0_3] : Cs) ++ (([.bool a0_4] : Cs) ++ ([.slice A0_5 n0_5 c0_5] : Cs)))))) 48 :: (T ++ R)) := st_7
 refine WL.nil (QW.then_n ?_)
 refine CW.seq (CW.region ?_)
 refine WL.val Wanted.none (Runs.move rfl) ?_
 refine WL.val Wanted.none (Runs.fieldAddr (off := 3) (p := 3) fld48_3 rfl rfl rfl) ?_
 refine WL.store_one (i := 1) (u0 := .int .i64 a0_3) (pre := (([.int .i64 a0_0] : Cs) ++ (([.slice A0_1 n0_1 c0_1] : Cs) ++ ([.slice A0_2 n0_2 c0_2] : Cs)))) (post := (([.bool a0_4] : Cs) ++ ([.slice A0_5 n0_5 c0_5] : Cs))) st_7 rfl cells3 (by first | rfl | simp only [List.append_assoc, List.append_nil, List.nil_append, List.cons_append]) (by first | rfl | simp only [List.length_append, List.length_cons, List.length_nil, iv_length]) rfl rfl rfl ?_
 intro w_9 st_10
 replace st_10 : St w w_9 (.cells B_5 (([.int .i64 0] : Cs) ++ (([.slice none 0 0] : Cs) ++ (([.slice none 0 0] : Cs) ++ (([.int .i64 0] : Cs) ++ (([.bool false] : Cs) ++ ([.slice none 0 0] : Cs)))))) 48 :: .cells B_1 (([.int .i64 a0_0] : Cs) ++ (([.slice A0_1 n0_1 c0_1] : Cs) ++ (([.slice A0_2 n0_2 c0_2] : Cs) ++ (([.int .i64 a1] : Cs) ++ (([.bool a0_4] : Cs) ++ ([.slice A0_5 n0_5 c0_5] : Cs)))))) 48 :: (T ++ R)) := by have e_ : (([.int .i64 a0_0] : Cs) ++ (([.slice A0_1 n0_1 c0_1] : Cs) ++ (([.slice A0_2 n0_2 c0_2] : Cs) ++ (([.int .i64 a1] : Cs) ++ (([.bool a0_4] : Cs) ++ ([.slice A0_5 n0_5 c0_5] : Cs)))))) = (([.int .i64 a0_0] : Cs) ++ (([.slice A0_1 n0_1 c0_1] : Cs) ++ ([.slice A0_2 n0_2 c0_2] : Cs))) ++ ((([.int .i64 a1] : Cs)) ++ (([.bool a0_4] : Cs) ++ ([.slice A0_5 n0_5 c0_5] : Cs))) := (by first | rfl | simp only [List.append_assoc, List.append_nil, List.nil_append, List.cons_append]); have h_ : St w w_9 (.cells B_5 (([.int .i64 0] : Cs) ++ (([.slice none 0 0] : Cs) ++ (([.slice none 0 0] : Cs) ++ (([.int .i64 0] : Cs) ++ (([.bool false] : Cs) ++ ([.slice none 0 0] : Cs)))))) 48 :: .cells B_1 ((([.int .i64 a0_0] : Cs) ++ (([.slice A0_1 n0_1 c0_1] : Cs) ++ ([.slice A0_2 n0_2 c0_2] : Cs))) ++ ((([.int .i64 a1] : Cs)) ++ (([.bool a0_4] : Cs) ++ ([.slice A0_5 n0_5 c0_5] : Cs)))) 48 :: (T ++ R)) := st_10; rw [← e_] at h_; exact h_
 refine WL.nil (QW.then_n ?_)
 refine CW.seq ?_
 refine CW.seq (CW.region ?_)
 refine WL.val Wanted.none (Runs.move rfl) ?_
 refine WL.val Wanted.none (Runs.lss rfl rfl rfl) ?_
 refine WL.nil (QW.then_n ?_)
 rcases H with ⟨c_11, H⟩ | ⟨c_11, H⟩
 ·have h_12 : (decide (a1 < 0)) = true := (decide_eq_true c_11)
  refine CW.ct rfl h_12 ?_
  refine CW.region ?_
  refine WL.val Wanted.none (Runs.fieldAddr (off := 3) (p := 3) fld48_3 rfl rfl rfl) ?_
  refine WL.store_one (i := 1) (u0 := .int .i64 a1) (pre := (([.int .i64 a0_0] : Cs) ++ (([.slice A0_1 n0_1 c0_1] : Cs) ++ ([.slice A0_2 n0_2 c0_2] : Cs)))) (post := (([.bool a0_4] : Cs) ++ ([.slice A0_5 n0_5 c0_5] : Cs))) st_10 rfl cells3 (by first | rfl | simp only [List.append_assoc, List.append_nil, List.nil_append, List.cons_append]) (by first | rfl | simp only [List.length_append, List.length_cons, List.length_nil, iv_length]) rfl rfl rfl ?_
  intro w_13 st_14
  replace st_14 : St w w_13 (.cells B_5 (([.int .i64 0] : Cs) ++ (([.slice none 0 0] : Cs) ++ (([.slice none 0 0] : Cs) ++ (([.int .i64 0] : Cs) ++ (([.bool false] : Cs) ++ ([.slice none 0 0] : Cs)))))) 48 :: .cells B_1 (([.int .i64 a0_0] : Cs) ++ (([.slice A0_1 n0_1 c0_1] : Cs) ++ (([.slice A0_2 n0_2 c0_2] : Cs) ++ (([.int .i64 (-1)] : Cs) ++ (([.bool a0_4] : Cs) ++ ([.slice A0_5 n0_5 c0_5] : Cs)))))) 48 :: (T ++ R)) := by have e_ : (([.int .i64 a0_0] : Cs) ++ (([.slice A0_1 n0_1 c0_1] : Cs) ++ (([.slice A0_2 n0_2 c0_2] : Cs) ++ (([.int .i64 (-1)] : Cs) ++ (([.bool a0_4] : Cs) ++ ([.slice A0_5 n0_5 c0_5] : Cs)))))) = (([.int .i64 a0_0] : Cs) ++ (([.slice A0_1 n0_1 c0_1] : Cs) ++ ([.slice A0_2 n0_2 c0_2] : Cs))) ++ ((([.int .i64 (-1)] : Cs)) ++ (([.bool a0_4] : Cs) ++ ([.slice A0_5 n0_5 c0_5] : Cs))) := (by first | rfl | simp only [List.append_assoc, List.append_nil, List.nil_append, List.cons_append]); have h_ : St w w_13 (.cells B_5 (([.int .i64 0] : Cs) ++ (([.slice none 0 0] : Cs) ++ (([.slice none 0 0] : Cs) ++ (([.int .i64 0] : Cs) ++ (([.bool false] : Cs) ++ ([.slice none 0 0] : Cs)))))) 48 :: .cells B_1 ((([.int .i64 a0_0] : Cs) ++ (([.slice A0_1 n0_1 c0_1] : Cs) ++ ([.slice A0_2 n0_2 c0_2] : Cs))) ++ ((([.int .i64 (-1)] : Cs)) ++ (([.bool a0_4] : Cs) ++ ([.slice A0_5 n0_5 c0_5] : Cs)))) 48 :: (T ++ R)) := st_14; rw [← e_] at h_; exact h_
  refine WL.nil (QW.then_n ?_)
  refine CW.sub [(2, .pointer (some ⟨B_1, 0, none⟩)), (4, .pointer (some ⟨B_5, 0, none⟩))] ⟨rfl, rfl, trivial⟩ ?_
  refine CW.seq (CW.region ?_)
  refine WL.val Wanted.none (Runs.load_mid row48 rfl st_14 (i := 1) rfl (part_mid (pre := (([] : Cs))) (mid := (([.int .i64 a0_0] : Cs) ++ (([.slice A0_1 n0_1 c0_1] : Cs) ++ (([.slice A0_2 n0_2 c0_2] : Cs) ++ (([.int .i64 (-1)] : Cs) ++ (([.bool a0_4] : Cs) ++ ([.slice A0_5 n0_5 c0_5] : Cs))))))) (post := (([] : Cs))) (by first | rfl | simp only [List.append_assoc, List.append_nil, List.nil_append, List.cons_append]) (by first | rfl | simp only [List.length_append, List.length_cons, List.length_nil, iv_length]) (by first | rfl | simp only [List.length_append, List.length_cons, List.length_nil, iv_length])) (by first | rfl | simp only [List.length_append, List.length_cons, List.length_nil, iv_length])) ?_
  refine WL.store_mid (i := 0) (pre := (([] : Cs))) (mid := (([.int .i64 0] : Cs) ++ (([.slice none 0 0] : Cs) ++ (([.slice none 0 0] : Cs) ++ (([.int .i64 0] : Cs) ++ (([.bool false] : Cs) ++ ([.slice none 0 0] : Cs))))))) (post := (([] : Cs))) (ms := (([.int .i64 a0_0] : Cs) ++ (([.slice A0_1 n0_1 c0_1] : Cs) ++ (([.slice A0_2 n0_2 c0_2] : Cs) ++ (([.int .i64 (-1)] : Cs) ++ (([.bool a0_4] : Cs) ++ ([.slice A0_5 n0_5 c0_5] : Cs))))))) st_14 rfl row48 (by first | rfl | simp only [List.append_assoc, List.append_nil, List.nil_append, List.cons_append]) (by first | rfl | simp only [List.length_append, List.length_cons, List.length_nil, iv_length]) rfl rfl (by first | rfl | simp only [List.length_append, List.length_cons, List.length_nil, iv_length]) (by first | rfl | simp only [List.length_append, List.length_cons, List.length_nil, iv_length]) (by intro u hu; simp only [List.mem_append, List.mem_singleton] at hu; rcases hu with hu | hu | hu | hu | hu | hu <;> first | exact one_iv _ _ u hu | (subst hu; rfl)) ?_
  intro w_15 st_16
  replace st_16 : St w w_15 (.cells B_5 (([.int .i64 a0_0] : Cs) ++ (([.slice A0_1 n0_1 c0_1] : Cs) ++ (([.slice A0_2 n0_2 c0_2] : Cs) ++ (([.int .i64 (-1)] : Cs) ++ (([.bool a0_4] : Cs) ++ ([.slice A0_5 n0_5 c0_5] : Cs)))))) 48 :: .cells B_1 (([.int .i64 a0_0] : Cs) ++ (([.slice A0_1 n0_1 c0_1] : Cs) ++ (([.slice A0_2 n0_2 c0_2] : Cs) ++ (([.int .i64 (-1)] : Cs) ++ (([.bool a0_4] : Cs) ++ ([.slice A0_5 n0_5 c0_5] : Cs)))))) 48 :: (T ++ R)) := by have e_ : (([.int .i64 a0_0] : Cs) ++ (([.slice A0_1 n0_1 c0_1] : Cs) ++ (([.slice A0_2 n0_2 c0_2] : Cs) ++ (([.int .i64 (-1)] : Cs) ++ (([.bool a0_4] : Cs) ++ ([.slice A0_5 n0_5 c0_5] : Cs)))))) = (([] : Cs)) ++ ((([.int .i64 a0_0] : Cs) ++ (([.slice A0_1 n0_1 c0_1] : Cs) ++ (([.slice A0_2 n0_2 c0_2] : Cs) ++ (([.int .i64 (-1)] : Cs) ++ (([.bool a0_4] : Cs) ++ ([.slice A0_5 n0_5 c0_5] : Cs)))))) ++ (([] : Cs))) := (by first | rfl | simp only [List.append_assoc, List.append_nil, List.nil_append, List.cons_append]); have h_ : St w w_15 (.cells B_5 ((([] : Cs)) ++ ((([.int .i64 a0_0] : Cs) ++ (([.slice A0_1 n0_1 c0_1] : Cs) ++ (([.slice A0_2 n0_2 c0_2] : Cs) ++ (([.int .i64 (-1)] : Cs) ++ (([.bool a0_4] : Cs) ++ ([.slice A0_5 n0_5 c0_5] : Cs)))))) ++ (([] : Cs)))) 48 :: .cells B_1 (([.int .i64 a0_0] : Cs) ++ (([.slice A0_1 n0_1 c0_1] : Cs) ++ (([.slice A0_2 n0_2 c0_2] : Cs) ++ (([.int .i64 (-1)] : Cs) ++ (([.bool a0_4] : Cs) ++ ([.slice A0_5 n0_5 c0_5] : Cs)))))) 48 :: (T ++ R)) := st_16; rw [← e_] at h_; exact h_
  refine WL.nil (QW.then_n ?_)
  refine CW.ret ?_
  obtain ⟨rfl, rfl, rfl, rfl, rfl, rfl⟩ := H
  exact QW.retN1 rfl (Res.row rfl row48 st_16 (i := 0) rfl (by first | rfl | simp only [List.length_append, List.length_cons, List.length_nil, iv_length])) ⟨T, A0_1, n0_1, c0_1, A0_2, n0_2, c0_2, A0_5, n0_5, c0_5, Pl.refl, hb0_1, hb0_2, hb0_5, rfl, (St.pickT (L := [_, _]) st_16 [] (by decide))⟩
 ·have h_12 : (decide (a1 < 0)) = false := (decide_eq_false c_11)
  refine CW.cf rfl h_12 ?_
  refine CW.skip ?_
  refine QW.then_n ?_
  refine CW.sub [(2, .pointer (some ⟨B_1, 0, none⟩)), (4, .pointer (some ⟨B_5, 0, none⟩))] ⟨rfl, rfl, trivial⟩ ?_
  refine CW.seq (CW.region ?_)
  refine WL.val Wanted.none (Runs.load_mid row48 rfl st_10 (i := 1) rfl (part_mid (pre := (([] : Cs))) (mid := (([.int .i64 a0_0] : Cs) ++ (([.slice A0_1 n0_1 c0_1] : Cs) ++ (([.slice A0_2 n0_2 c0_2] : Cs) ++ (([.int .i64 a1] : Cs) ++ (([.bool a0_4] : Cs) ++ ([.slice A0_5 n0_5 c0_5] : Cs))))))) (post := (([] : Cs))) (by first | rfl | simp only [List.append_assoc, List.append_nil, List.nil_append, List.cons_append]) (by first | rfl | simp only [List.length_append, List.length_cons, List.length_nil, iv_length]) (by first | rfl | simp only [List.length_append, List.length_cons, List.length_nil, iv_length])) (by first | rfl | simp only [List.length_append, List.length_cons, List.length_nil, iv_length])) ?_
  refine WL.store_mid (i := 0) (pre := (([] : Cs))) (mid := (([.int .i64 0] : Cs) ++ (([.slice none 0 0] : Cs) ++ (([.slice none 0 0] : Cs) ++ (([.int .i64 0] : Cs) ++ (([.bool false] : Cs) ++ ([.slice none 0 0] : Cs))))))) (post := (([] : Cs))) (ms := (([.int .i64 a0_0] : Cs) ++ (([.slice A0_1 n0_1 c0_1] : Cs) ++ (([.slice A0_2 n0_2 c0_2] : Cs) ++ (([.int .i64 a1] : Cs) ++ (([.bool a0_4] : Cs) ++ ([.slice A0_5 n0_5 c0_5] : Cs))))))) st_10 rfl row48 (by first | rfl | simp only [List.append_assoc, List.append_nil, List.nil_append, List.cons_append]) (by first | rfl | simp only [List.length_append, List.length_cons, List.length_nil, iv_length]) rfl rfl (by first | rfl | simp only [List.length_append, List.length_cons, List.length_nil, iv_length]) (by first | rfl | simp only [List.length_append, List.length_cons, List.length_nil, iv_length]) (by intro u hu; simp only [List.mem_append, List.mem_singleton] at hu; rcases hu with hu | hu | hu | hu | hu | hu <;> first | exact one_iv _ _ u hu | (subst hu; rfl)) ?_
  intro w_17 st_18
  replace st_18 : St w w_17 (.cells B_5 (([.int .i64 a0_0] : Cs) ++ (([.slice A0_1 n0_1 c0_1] : Cs) ++ (([.slice A0_2 n0_2 c0_2] : Cs) ++ (([.int .i64 a1] : Cs) ++ (([.bool a0_4] : Cs) ++ ([.slice A0_5 n0_5 c0_5] : Cs)))))) 48 :: .cells B_1 (([.int .i64 a0_0] : Cs) ++ (([.slice A0_1 n0_1 c0_1] : Cs) ++ (([.slice A0_2 n0_2 c0_2] : Cs) ++ (([.int .i64 a1] : Cs) ++ (([.bool a0_4] : Cs) ++ ([.slice A0_5 n0_5 c0_5] : Cs)))))) 48 :: (T ++ R)) := by have e_ : (([.int .i64 a0_0] : Cs) ++ (([.slice A0_1 n0_1 c0_1] : Cs) ++ (([.slice A0_2 n0_2 c0_2] : Cs) ++ (([.int .i64 a1] : Cs) ++ (([.bool a0_4] : Cs) ++ ([.slice A0_5 n0_5 c0_5] : Cs)))))) = (([] : Cs)) ++ ((([.int .i64 a0_0] : Cs) ++ (([.slice A0_1 n0_1 c0_1] : Cs) ++ (([.slice A0_2 n0_2 c0_2] : Cs) ++ (([.int .i64 a1] : Cs) ++ (([.bool a0_4] : Cs) ++ ([.slice A0_5 n0_5 c0_5] : Cs)))))) ++ (([] : Cs))) := (by first | rfl | simp only [List.append_assoc, List.append_nil, List.nil_append, List.cons_append]); have h_ : St w w_17 (.cells B_5 ((([] : Cs)) ++ ((([.int .i64 a0_0] : Cs) ++ (([.slice A0_1 n0_1 c0_1] : Cs) ++ (([.slice A0_2 n0_2 c0_2] : Cs) ++ (([.int .i64 a1] : Cs) ++ (([.bool a0_4] : Cs) ++ ([.slice A0_5 n0_5 c0_5] : Cs)))))) ++ (([] : Cs)))) 48 :: .cells B_1 (([.int .i64 a0_0] : Cs) ++ (([.slice A0_1 n0_1 c0_1] : Cs) ++ (([.slice A0_2 n0_2 c0_2] : Cs) ++ (([.int .i64 a1] : Cs) ++ (([.bool a0_4] : Cs) ++ ([.slice A0_5 n0_5 c0_5] : Cs)))))) 48 :: (T ++ R)) := st_18; rw [← e_] at h_; exact h_
  refine WL.nil (QW.then_n ?_)
  refine CW.ret ?_
  obtain ⟨rfl, rfl, rfl, rfl, rfl, rfl⟩ := H
  exact QW.retN1 rfl (Res.row rfl row48 st_18 (i := 0) rfl (by first | rfl | simp only [List.length_append, List.length_cons, List.length_nil, iv_length])) ⟨T, A0_1, n0_1, c0_1, A0_2, n0_2, c0_2, A0_5, n0_5, c0_5, Pl.refl, hb0_1, hb0_2, hb0_5, rfl, (St.pickT (L := [_, _]) st_18 [] (by decide))⟩

/-! ### reliquaryref06_Crash: function 35 -/
def reliquaryref06_Crash.L1 (a0_0 : Int) (l0_2 : List R86) (l0_5 : List R81) (l1 : List Bool) (ar0_0 : Int) (lr0_1 : List R86) (lr0_2 : List R86) (ar0_3 : Int) (ar0_4 : Bool) (lr0_5 : List R81) : Nat → (List R86) → Int → Prop
 | 0, _, _ => False
 | kL1 + 1, l_23, x_25 => ((x_25 < (l0_2.length : Int) ∧ ((x_25 < (l1.length : Int) ∧ ((0 ≤ x_25 ∧ x_25 < (l1.length : Int)) ∧ ((gb l1 (x_25.toNat) = true ∧ ((0 ≤ x_25 ∧ x_25 < (l0_2.length : Int)) ∧ (∃ (l_60 : List R86), reliquaryref06_more.rel l_23 ((gx l0_2 (x_25.toNat)).1) ((gx l0_2 (x_25.toNat)).2) l_60 ∧ reliquaryref06_Crash.L1 a0_0 l0_2 l0_5 l1 ar0_0 lr0_1 lr0_2 ar0_3 ar0_4 lr0_5 kL1 l_60 (IntKind.i64.wrap (x_25 + 1))))) ∨ (¬ (gb l1 (x_25.toNat) = true) ∧ reliquaryref06_Crash.L1 a0_0 l0_2 l0_5 l1 ar0_0 lr0_1 lr0_2 ar0_3 ar0_4 lr0_5 kL1 l_23 (IntKind.i64.wrap (x_25 + 1)))))) ∨ (¬ (x_25 < (l1.length : Int)) ∧ ar0_0 = a0_0 ∧ lr0_1 = l_23 ∧ lr0_2 = [] ∧ ar0_3 = -1 ∧ ar0_4 = false ∧ lr0_5 = l0_5))) ∨ (¬ (x_25 < (l0_2.length : Int)) ∧ ar0_0 = a0_0 ∧ lr0_1 = l_23 ∧ lr0_2 = [] ∧ ar0_3 = -1 ∧ ar0_4 = false ∧ lr0_5 = l0_5))
def reliquaryref06_Crash.rel (a0_0 : Int) (l0_1 : List R86) (l0_2 : List R86) (a0_3 : Int) (a0_4 : Bool) (l0_5 : List R81) (l1 : List Bool) (ar0_0 : Int) (lr0_1 : List R86) (lr0_2 : List R86) (ar0_3 : Int) (ar0_4 : Bool) (lr0_5 : List R81) : Prop := (∃ k_ : Nat, reliquaryref06_Crash.L1 a0_0 l0_2 l0_5 l1 ar0_0 lr0_1 lr0_2 ar0_3 ar0_4 lr0_5 k_ l0_1 0)
set_option maxHeartbeats 1000000 in
set_option maxRecDepth 100000 in
theorem reliquaryref06_Crash.calls (w w1 : World) (T R : Pool) (a0_0 : Int) (l0_1 : List R86) (l0_2 : List R86) (a0_3 : Int) (a0_4 : Bool) (l0_5 : List R81) (l1 : List Bool) (A0_1 : Option Addr) (n0_1 : Nat) (c0_1 : Nat) (A0_2 : Option Addr) (n0_2 : Nat) (c0_2 : Nat) (A0_5 : Option Addr) (n0_5 : Nat) (c0_5 : Nat) (A1 : Option Addr) (n1 : Nat) (c1 : Nat) (st0 : St w w1 ((T ++ R))) (hb0_1 : HS w T T A0_1 n0_1 c0_1 (f86 w) l0_1) (hb0_2 : HS w T T A0_2 n0_2 c0_2 (f86 w) l0_2) (hb0_5 : HS w T T A0_5 n0_5 c0_5 (f81 w) l0_5) (hb1 : HB w (T ++ R) A1 n1 c1 (bv l1) l1.length) (ar0_0 : Int) (lr0_1 : List R86) (lr0_2 : List R86) (ar0_3 : Int) (ar0_4 : Bool) (lr0_5 : List R81) (H : reliquaryref06_Crash.rel a0_0 l0_1 l0_2 a0_3 a0_4 l0_5 l1 ar0_0 lr0_1 lr0_2 ar0_3 ar0_4 lr0_5) :
  Calls Try.prog 35 #[.agg (([.int .i64 a0_0] : Cs) ++ (([.slice A0_1 n0_1 c0_1] : Cs) ++ (([.slice A0_2 n0_2 c0_2] : Cs) ++ (([.int .i64 a0_3] : Cs) ++ (([.bool a0_4] : Cs) ++ ([.slice A0_5 n0_5 c0_5] : Cs)))))).toArray, .slice A1 n1 c1] w1 fun e w' => ∃ T' Ar0_1 nr0_1 cr0_1 Ar0_2 nr0_2 cr0_2 Ar0_5 nr0_5 cr0_5, Pl T T' ∧ HS w T' T' Ar0_1 nr0_1 cr0_1 (f86 w) lr0_1 ∧ HS w T' T' Ar0_2 nr0_2 cr0_2 (f86 w) lr0_2 ∧ HS w T' T' Ar0_5 nr0_5 cr0_5 (f81 w) lr0_5 ∧ e = .returned (.agg (([.int .i64 ar0_0] : Cs) ++ (([.slice Ar0_1 nr0_1 cr0_1] : Cs) ++ (([.slice Ar0_2 nr0_2 cr0_2] : Cs) ++ (([.int .i64 ar0_3] : Cs) ++ (([.bool ar0_4] : Cs) ++ ([.slice Ar0_5 nr0_5 cr0_5] : Cs)))))).toArray) ∧ St w w' ((T' ++ R)) := by
 refine CW.enter Try.func35 rfl (n := 36) rfl [.agg (([.int .i64 a0_0] : Cs) ++ (([.slice A0_1 n0_1 c0_1] : Cs) ++ (([.slice A0_2 n0_2 c0_2] : Cs) ++ (([.int .i64 a0_3] : Cs) ++ (([.bool a0_4] : Cs) ++ ([.slice A0_5 n0_5 c0_5] : Cs)))))).toArray, .slice A1 n1 c1] (Nat.le_of_ble_eq_true rfl) ?_
 refine CW.sub [(0, .agg (([.int .i64 a0_0] : Cs) ++ (([.slice A0_1 n0_1 c0_1] : Cs) ++ (([.slice A0_2 n0_2 c0_2] : Cs) ++ (([.int .i64 a0_3] : Cs) ++ (([.bool a0_4] : Cs) ++ ([.slice A0_5 n0_5 c0_5] : Cs)))))).toArray), (1, .slice A1 n1 c1)] ⟨rfl, rfl, trivial⟩ ?_
 refine CW.seq (CW.region ?_)
 refine WL.box st0 rfl rfl ?_
 intro B_1 w_2 st_3
 replace st_3 : St w w_2 (.cells B_1 (([.int .i64 a0_0] : Cs) ++ (([.slice A0_1 n0_1 c0_1] : Cs) ++ (([.slice A0_2 n0_2 c0_2] : Cs) ++ (([.int .i64 a0_3] : Cs) ++ (([.bool a0_4] : Cs) ++ ([.slice A0_5 n0_5 c0_5] : Cs)))))) 48 :: (T ++ R)) := st_3
 refine WL.alloc st_3 zero48 ?_
 intro B_5 w_6 st_7
 replace st_7 : St w w_6 (.cells B_5 (([.int .i64 0] : Cs) ++ (([.slice none 0 0] : Cs) ++ (([.slice none 0 0] : Cs) ++ (([.int .i64 0] : Cs) ++ (([.bool false] : Cs) ++ ([.slice none 0 0] : Cs)))))) 48 :: .cells B_1 (([.int .i64 a0_0] : Cs) ++ (([.slice A0_1 n0_1 c0_1] : Cs) ++ (([.slice A0_2 n0_2 c0_2] : Cs) ++ (([.int .i64 a0_3] : Cs) ++ (([.bool a0_4] : Cs) ++ ([.slice A0_5 n0_5 c0_5] : Cs)))))) 48 :: (T ++ R)) := st_7
 refine WL.nil (QW.then_n ?_)
 refine CW.seq ?_
 refine CW.seq (CW.region ?_)
 refine WL.val Wanted.none (Runs.assign rfl) ?_
 refine WL.nil (QW.then_n ?_)
 refine CW.block ?_
 obtain ⟨k_9, H⟩ := H
 refine CW.sub [(1, .slice A1 n1 c1), (2, .pointer (some ⟨B_1, 0, none⟩)), (4, .pointer (some ⟨B_5, 0, none⟩)), (5, .int .i64 0)] ⟨rfl, rfl, rfl, rfl, trivial⟩ ?_
 refine CW.loop (fun kL1 l_ w_ => ∃ (T_18 : Pool) (A_20 : Option Addr) (n_21 : Nat) (c_22 : Nat) (l_23 : List R86) (x_25 : Int), l_ = [(1, .slice A1 n1 c1), (2, .pointer (some ⟨B_1, 0, none⟩)), (4, .pointer (some ⟨B_5, 0, none⟩)), (5, .int .i64 x_25)] ∧ reliquaryref06_Crash.L1 a0_0 l0_2 l0_5 l1 ar0_0 lr0_1 lr0_2 ar0_3 ar0_4 lr0_5 kL1 l_23 x_25 ∧ (Pl T T_18) ∧ (HS w T_18 T_18 A_20 n_21 c_22 (f86 w) l_23) ∧ St w w_ (.cells B_5 (([.int .i64 0] : Cs) ++ (([.slice none 0 0] : Cs) ++ (([.slice none 0 0] : Cs) ++ (([.int .i64 0] : Cs) ++ (([.bool false] : Cs) ++ ([.slice none 0 0] : Cs)))))) 48 :: .cells B_1 (([.int .i64 a0_0] : Cs) ++ (([.slice A_20 n_21 c_22] : Cs) ++ (([.slice A0_2 n0_2 c0_2] : Cs) ++ (([.int .i64 a0_3] : Cs) ++ (([.bool a0_4] : Cs) ++ ([.slice A0_5 n0_5 c0_5] : Cs)))))) 48 :: (T_18 ++ R))) (k := k_9) ⟨T, A0_1, n0_1, c0_1, l0_1, 0, rfl, H, Pl.refl, hb0_1, st_7⟩ (fun _ _ h => by obtain ⟨_, _, _, _, _, _, _, h, _⟩ := h; exact h.elim) ?_
 rintro kL1 l_28 w_26 ⟨T_18, A_20, n_21, c_22, l_23, x_25, rfl, H, hs_19, hb_24, st_27⟩
 refine CW.seq ?_
 refine CW.seq (CW.region ?_)
 refine WL.val Wanted.none (Runs.move rfl) ?_
 refine WL.val Wanted.none (Runs.fieldAddr (off := 2) (p := 2) fld48_2 rfl rfl rfl) ?_
 refine WL.val Wanted.none (Runs.load nagg45 rfl (st_27.cell (k := 1) rfl (part_one (u := .slice A0_2 n0_2 c0_2) (pre := (([.int .i64 a0_0] : Cs) ++ ([.slice A_20 n_21 c_22] : Cs))) (post := (([.int .i64 a0_3] : Cs) ++ (([.bool a0_4] : Cs) ++ ([.slice A0_5 n0_5 c0_5] : Cs)))) (by first | rfl | simp only [List.append_assoc, List.append_nil, List.nil_append, List.cons_append]) (by first | rfl | simp only [List.length_append, List.length_cons, List.length_nil, iv_length])))) ?_
 refine WL.val Wanted.none (Runs.len_sl Try.underlying45 rfl (by rw [hb0_2.1])) ?_
 refine WL.val Wanted.none (Runs.lss rfl rfl rfl) ?_
 refine WL.val Wanted.none (Runs.move rfl) ?_
 rcases H with ⟨c_29, H⟩ | ⟨c_29, H⟩
 ·have h_30 : (decide (x_25 < (l0_2.length : Int))) = true := (decide_eq_true c_29)
  refine WL.on ?_ ?_; exact Wanted.guard (dj := 11) (by rfl) (evb (by rfl) h_30) (by rfl)
  refine WL.val Wanted.none (Runs.move rfl) ?_
  refine WL.on ?_ ?_; exact Wanted.guard (dj := 11) (by rfl) (evb (by rfl) h_30) (by rfl)
  refine WL.val Wanted.none (Runs.move rfl) ?_
  refine WL.on ?_ ?_; exact Wanted.guard (dj := 11) (by rfl) (evb (by rfl) h_30) (by rfl)
  refine WL.val Wanted.none (Runs.len_sl Try.underlying23 rfl (by rw [hb1.1])) ?_
  refine WL.on ?_ ?_; exact Wanted.guard (dj := 11) (by rfl) (evb (by rfl) h_30) (by rfl)
  refine WL.val Wanted.none (Runs.lss rfl rfl rfl) ?_
  refine WL.val Wanted.none (Runs.pick_t (evb rfl h_30) rfl) ?_
  refine WL.nil (QW.then_n ?_)
  rcases H with ⟨c_31, H⟩ | ⟨c_31, H⟩
  ·have h_32 : (decide (x_25 < (l1.length : Int))) = true := (decide_eq_true c_31)
   refine CW.ct rfl h_32 ?_
   refine CW.skip ?_
   refine QW.then_n ?_
   refine CW.seq ?_
   refine CW.block ?_
   refine CW.seq (CW.region ?_)
   refine WL.val Wanted.none (Runs.move rfl) ?_
   refine WL.val Wanted.none (Runs.move rfl) ?_
   obtain ⟨⟨p_33, q_34⟩, H⟩ := H
   obtain ⟨a_35, e_36⟩ := ((hb1.2.2.at st_27 (mem_TR (A := [_, _]) (fun _ h_ => hs_19.1 _ h_)))).addr_bv (x_25.toNat) (by omega)
   refine WL.val Wanted.none (Runs.indexAddr Try.underlying23 cells4 (by decide) rfl e_36 rfl p_33 (by rw [hb1.1]; exact q_34) (o := (x_25).toNat) (by first | rfl | omega)) ?_
   refine WL.val Wanted.none (Runs.load nagg4 rfl (((hb1.2.2.at st_27 (mem_TR (A := [_, _]) (fun _ h_ => hs_19.1 _ h_)))).cell_bv e_36 (by omega))) ?_
   refine WL.nil (QW.then_n ?_)
   rcases H with ⟨c_37, H⟩ | ⟨c_37, H⟩
   ·have h_38 : (gb l1 (x_25.toNat)) = true := c_37
    refine CW.ct rfl h_38 ?_
    refine CW.region_qt 7 wide (by kernel_rfl) st_27 ?_
    refine HL.val Wanted.none (fun wq sq => (Runs.fieldAddr (off := 1) (p := 1) fld48_1 rfl rfl rfl)) ?_
    refine HL.val Wanted.none (fun wq sq => (Runs.load nagg45 rfl (sq.cell (k := 1) rfl (part_one (u := .slice A_20 n_21 c_22) (pre := (([.int .i64 a0_0] : Cs))) (post := (([.slice A0_2 n0_2 c0_2] : Cs) ++ (([.int .i64 a0_3] : Cs) ++ (([.bool a0_4] : Cs) ++ ([.slice A0_5 n0_5 c0_5] : Cs))))) (by first | rfl | simp only [List.append_assoc, List.append_nil, List.nil_append, List.cons_append]) (by first | rfl | simp only [List.length_append, List.length_cons, List.length_nil, iv_length]))))) ?_
    refine HL.val Wanted.none (fun wq sq => (Runs.fieldAddr (off := 2) (p := 2) fld48_2 rfl rfl rfl)) ?_
    refine HL.val Wanted.none (fun wq sq => (Runs.load nagg45 rfl (sq.cell (k := 1) rfl (part_one (u := .slice A0_2 n0_2 c0_2) (pre := (([.int .i64 a0_0] : Cs) ++ ([.slice A_20 n_21 c_22] : Cs))) (post := (([.int .i64 a0_3] : Cs) ++ (([.bool a0_4] : Cs) ++ ([.slice A0_5 n0_5 c0_5] : Cs)))) (by first | rfl | simp only [List.append_assoc, List.append_nil, List.nil_append, List.cons_append]) (by first | rfl | simp only [List.length_append, List.length_cons, List.length_nil, iv_length]))))) ?_
    refine HL.val Wanted.none (fun wq sq => (Runs.move rfl)) ?_
    obtain ⟨⟨p_39, q_40⟩, H⟩ := H
    obtain ⟨x_41, hs_42, hr_43⟩ := hb0_2.2.2
    obtain ⟨a_44, e_45, ms_46, hc_47, hm_48⟩ := el_get (i := (x_25).toNat) ((hs_42.at st_27 (mem_T (A := [_, _]) (fun _ h_ => hs_19.1 _ h_)))) (hr_43.mono (fun _ h_ => hs_19.1 _ h_)) (fz86 w) (by decide) (by omega)
    obtain em_49 := inv86 hm_48
    replace em_49 : ms_46 = ([.int .i64 ((gx l0_2 (x_25.toNat)).1)] : Cs) ++ ([.string ((gx l0_2 (x_25.toNat)).2)] : Cs) := em_49
    subst em_49
    refine HL.val Wanted.none (fun wq sq => (Runs.indexAddr Try.underlying45 cells86 (by decide) rfl e_45 rfl p_39 (by rw [show n0_2 = l0_2.length from hb0_2.1]; exact q_40) (o := (x_25.toNat) * 2) (by first | rfl | omega))) ?_
    refine HL.val Wanted.none (fun wq sq => (Runs.load_srcR row86 rfl (Src.cut ((hs_42.at sq (mem_T (A := [_, _]) (fun _ h_ => hs_19.1 _ h_)))) e_45 hc_47) rfl)) ?_
    refine HL.nil (fun w_50 st_51 => ?_)
    have st_52 : St w w_50 ((T_18 ++ (.cells B_5 (([.int .i64 0] : Cs) ++ (([.slice none 0 0] : Cs) ++ (([.slice none 0 0] : Cs) ++ (([.int .i64 0] : Cs) ++ (([.bool false] : Cs) ++ ([.slice none 0 0] : Cs)))))) 48 :: .cells B_1 (([.int .i64 a0_0] : Cs) ++ (([.slice A_20 n_21 c_22] : Cs) ++ (([.slice A0_2 n0_2 c0_2] : Cs) ++ (([.int .i64 a0_3] : Cs) ++ (([.bool a0_4] : Cs) ++ ([.slice A0_5 n0_5 c0_5] : Cs)))))) 48 :: R))) := St.hide (A := []) (B := [_, _]) (T := T_18) (R := R) st_51
    obtain ⟨l_60, hr_53, H⟩ := H
    refine WL.call Wanted.none ent45 rfl (reliquaryref06_more.calls w w_50 T_18 (.cells B_5 (([.int .i64 0] : Cs) ++ (([.slice none 0 0] : Cs) ++ (([.slice none 0 0] : Cs) ++ (([.int .i64 0] : Cs) ++ (([.bool false] : Cs) ++ ([.slice none 0 0] : Cs)))))) 48 :: .cells B_1 (([.int .i64 a0_0] : Cs) ++ (([.slice A_20 n_21 c_22] : Cs) ++ (([.slice A0_2 n0_2 c0_2] : Cs) ++ (([.int .i64 a0_3] : Cs) ++ (([.bool a0_4] : Cs) ++ ([.slice A0_5 n0_5 c0_5] : Cs)))))) 48 :: R) l_23 ((gx l0_2 (x_25.toNat)).1) ((gx l0_2 (x_25.toNat)).2) A_20 n_21 c_22  st_52 (hb_24.mono (memo_T (B := [_, _]) (fun _ h_ => h_)) (fun _ h_ => h_)) l_60 hr_53) ?_
    rintro _ w_64 ⟨T_54, A_57, n_58, c_59, x_61, hs_55, hn_62, hx_63, rfl, sc_66⟩
    have st_65 : St w w_64 (.sl A_57 c_59 n_58 x_61 86 2 :: .cells B_5 (([.int .i64 0] : Cs) ++ (([.slice none 0 0] : Cs) ++ (([.slice none 0 0] : Cs) ++ (([.int .i64 0] : Cs) ++ (([.bool false] : Cs) ++ ([.slice none 0 0] : Cs)))))) 48 :: .cells B_1 (([.int .i64 a0_0] : Cs) ++ (([.slice A_20 n_21 c_22] : Cs) ++ (([.slice A0_2 n0_2 c0_2] : Cs) ++ (([.int .i64 a0_3] : Cs) ++ (([.bool a0_4] : Cs) ++ ([.slice A0_5 n0_5 c0_5] : Cs)))))) 48 :: (T_54 ++ R)) := St.unhide (A := [_]) (B := [_, _]) (T := T_54) (R := R) sc_66
    refine ⟨_, rfl, ?_⟩
    refine WL.val Wanted.none (Runs.fieldAddr (off := 1) (p := 1) fld48_1 rfl rfl rfl) ?_
    refine WL.store_one (i := 2) (u0 := .slice A_20 n_21 c_22) (pre := (([.int .i64 a0_0] : Cs))) (post := (([.slice A0_2 n0_2 c0_2] : Cs) ++ (([.int .i64 a0_3] : Cs) ++ (([.bool a0_4] : Cs) ++ ([.slice A0_5 n0_5 c0_5] : Cs))))) st_65 rfl cells45 (by first | rfl | simp only [List.append_assoc, List.append_nil, List.nil_append, List.cons_append]) (by first | rfl | simp only [List.length_append, List.length_cons, List.length_nil, iv_length]) rfl rfl rfl ?_
    intro w_67 st_68
    replace st_68 : St w w_67 (.sl A_57 c_59 n_58 x_61 86 2 :: .cells B_5 (([.int .i64 0] : Cs) ++ (([.slice none 0 0] : Cs) ++ (([.slice none 0 0] : Cs) ++ (([.int .i64 0] : Cs) ++ (([.bool false] : Cs) ++ ([.slice none 0 0] : Cs)))))) 48 :: .cells B_1 (([.int .i64 a0_0] : Cs) ++ (([.slice A_57 n_58 c_59] : Cs) ++ (([.slice A0_2 n0_2 c0_2] : Cs) ++ (([.int .i64 a0_3] : Cs) ++ (([.bool a0_4] : Cs) ++ ([.slice A0_5 n0_5 c0_5] : Cs)))))) 48 :: (T_54 ++ R)) := by have e_ : (([.int .i64 a0_0] : Cs) ++ (([.slice A_57 n_58 c_59] : Cs) ++ (([.slice A0_2 n0_2 c0_2] : Cs) ++ (([.int .i64 a0_3] : Cs) ++ (([.bool a0_4] : Cs) ++ ([.slice A0_5 n0_5 c0_5] : Cs)))))) = (([.int .i64 a0_0] : Cs)) ++ ((([.slice A_57 n_58 c_59] : Cs)) ++ (([.slice A0_2 n0_2 c0_2] : Cs) ++ (([.int .i64 a0_3] : Cs) ++ (([.bool a0_4] : Cs) ++ ([.slice A0_5 n0_5 c0_5] : Cs))))) := (by first | rfl | simp only [List.append_assoc, List.append_nil, List.nil_append, List.cons_append]); have h_ : St w w_67 (.sl A_57 c_59 n_58 x_61 86 2 :: .cells B_5 (([.int .i64 0] : Cs) ++ (([.slice none 0 0] : Cs) ++ (([.slice none 0 0] : Cs) ++ (([.int .i64 0] : Cs) ++ (([.bool false] : Cs) ++ ([.slice none 0 0] : Cs)))))) 48 :: .cells B_1 ((([.int .i64 a0_0] : Cs)) ++ ((([.slice A_57 n_58 c_59] : Cs)) ++ (([.slice A0_2 n0_2 c0_2] : Cs) ++ (([.int .i64 a0_3] : Cs) ++ (([.bool a0_4] : Cs) ++ ([.slice A0_5 n0_5 c0_5] : Cs)))))) 48 :: (T_54 ++ R)) := st_68; rw [← e_] at h_; exact h_
    refine WL.nil ?_
    refine QW.blk_n ?_
    refine QW.then_n ?_
    refine CW.region ?_
    refine WL.val Wanted.none (Runs.move rfl) ?_
    refine WL.val Wanted.none (Runs.add rfl rfl rfl) ?_
    refine WL.val Wanted.none (Runs.assign rfl) ?_
    refine WL.nil ?_
    have hb_73c := st_68.cap (i := 0) rfl
    obtain ⟨T_69, hs_70, hm_71, st_72⟩ := St.freeze (A := []) (B := [_, _]) (T := T_54) (R := R) st_68
    have hb_73 : HS w T_69 T_69 A_57 n_58 c_59 (f86 w) l_60 := HS.mk hn_62 hb_73c (Hd.of_sl hm_71) (hx_63.mono (fun _ h_ => hs_70.1 _ h_))
    replace st_72 : St w w_67 (.cells B_5 (([.int .i64 0] : Cs) ++ (([.slice none 0 0] : Cs) ++ (([.slice none 0 0] : Cs) ++ (([.int .i64 0] : Cs) ++ (([.bool false] : Cs) ++ ([.slice none 0 0] : Cs)))))) 48 :: .cells B_1 (([.int .i64 a0_0] : Cs) ++ (([.slice A_57 n_58 c_59] : Cs) ++ (([.slice A0_2 n0_2 c0_2] : Cs) ++ (([.int .i64 a0_3] : Cs) ++ (([.bool a0_4] : Cs) ++ ([.slice A0_5 n0_5 c0_5] : Cs)))))) 48 :: (T_69 ++ R)) := st_72
    exact QW.at _ (by repeat' constructor) ⟨T_69, A_57, n_58, c_59, l_60, IntKind.i64.wrap (x_25 + 1), rfl, H, ((hs_19.trans hs_55).trans hs_70), hb_73, st_72⟩
   ·have h_38 : (gb l1 (x_25.toNat)) = false := (Bool.eq_false_iff.mpr c_37)
    refine CW.cf rfl h_38 ?_
    refine CW.skip ?_
    refine QW.blk_n ?_
    refine QW.then_n ?_
    refine CW.region ?_
    refine WL.val Wanted.none (Runs.move rfl) ?_
    refine WL.val Wanted.none (Runs.add rfl rfl rfl) ?_
    refine WL.val Wanted.none (Runs.assign rfl) ?_
    refine WL.nil ?_
    exact QW.at _ (by repeat' constructor) ⟨T_18, A_20, n_21, c_22, l_23, IntKind.i64.wrap (x_25 + 1), rfl, H, hs_19, hb_24, st_27⟩
  ·have h_32 : (decide (x_25 < (l1.length : Int))) = false := (decide_eq_false c_31)
   refine CW.cf rfl h_32 ?_
   refine CW.exit ?_
   refine QW.then_x ?_
   refine QW.then_x ?_
   refine QW.blk_x ?_
   refine QW.then_n ?_
   refine CW.sub [(2, .pointer (some ⟨B_1, 0, none⟩)), (4, .pointer (some ⟨B_5, 0, none⟩))] ⟨rfl, rfl, trivial⟩ ?_
   refine CW.seq (CW.region ?_)
   refine WL.val Wanted.none (Runs.fieldAddr (off := 2) (p := 2) fld48_2 rfl rfl rfl) ?_
   refine WL.store_one (i := 1) (u0 := .slice A0_2 n0_2 c0_2) (pre := (([.int .i64 a0_0] : Cs) ++ ([.slice A_20 n_21 c_22] : Cs))) (post := (([.int .i64 a0_3] : Cs) ++ (([.bool a0_4] : Cs) ++ ([.slice A0_5 n0_5 c0_5] : Cs)))) st_27 rfl cells45 (by first | rfl | simp only [List.append_assoc, List.append_nil, List.nil_append, List.cons_append]) (by first | rfl | simp only [List.length_append, List.length_cons, List.length_nil, iv_length]) rfl rfl rfl ?_
   intro w_74 st_75
   replace st_75 : St w w_74 (.cells B_5 (([.int .i64 0] : Cs) ++ (([.slice none 0 0] : Cs) ++ (([.slice none 0 0] : Cs) ++ (([.int .i64 0] : Cs) ++ (([.bool false] : Cs) ++ ([.slice none 0 0] : Cs)))))) 48 :: .cells B_1 (([.int .i64 a0_0] : Cs) ++ (([.slice A_20 n_21 c_22] : Cs) ++ (([.slice none 0 0] : Cs) ++ (([.int .i64 a0_3] : Cs) ++ (([.bool a0_4] : Cs) ++ ([.slice A0_5 n0_5 c0_5] : Cs)))))) 48 :: (T_18 ++ R)) := by have e_ : (([.int .i64 a0_0] : Cs) ++ (([.slice A_20 n_21 c_22] : Cs) ++ (([.slice none 0 0] : Cs) ++ (([.int .i64 a0_3] : Cs) ++ (([.bool a0_4] : Cs) ++ ([.slice A0_5 n0_5 c0_5] : Cs)))))) = (([.int .i64 a0_0] : Cs) ++ ([.slice A_20 n_21 c_22] : Cs)) ++ ((([.slice none 0 0] : Cs)) ++ (([.int .i64 a0_3] : Cs) ++ (([.bool a0_4] : Cs) ++ ([.slice A0_5 n0_5 c0_5] : Cs)))) := (by first | rfl | simp only [List.append_assoc, List.append_nil, List.nil_append, List.cons_append]); have h_ : St w w_74 (.cells B_5 (([.int .i64 0] : Cs) ++ (([.slice none 0 0] : Cs) ++ (([.slice none 0 0] : Cs) ++ (([.int .i64 0] : Cs) ++ (([.bool false] : Cs) ++ ([.slice none 0 0] : Cs)))))) 48 :: .cells B_1 ((([.int .i64 a0_0] : Cs) ++ ([.slice A_20 n_21 c_22] : Cs)) ++ ((([.slice none 0 0] : Cs)) ++ (([.int .i64 a0_3] : Cs) ++ (([.bool a0_4] : Cs) ++ ([.slice A0_5 n0_5 c0_5] : Cs))))) 48 :: (T_18 ++ R)) := st_75; rw [← e_] at h_; exact h_
   refine WL.nil (QW.then_n ?_)
   refine CW.seq (CW.region ?_)
   refine WL.val Wanted.none (Runs.fieldAddr (off := 4) (p := 4) fld48_4 rfl rfl rfl) ?_
   refine WL.store_one (i := 1) (u0 := .bool a0_4) (pre := (([.int .i64 a0_0] : Cs) ++ (([.slice A_20 n_21 c_22] : Cs) ++ (([.slice none 0 0] : Cs) ++ ([.int .i64 a0_3] : Cs))))) (post := (([.slice A0_5 n0_5 c0_5] : Cs))) st_75 rfl cells4 (by first | rfl | simp only [List.append_assoc, List.append_nil, List.nil_append, List.cons_append]) (by first | rfl | simp only [List.length_append, List.length_cons, List.length_nil, iv_length]) rfl rfl rfl ?_
   intro w_76 st_77
   replace st_77 : St w w_76 (.cells B_5 (([.int .i64 0] : Cs) ++ (([.slice none 0 0] : Cs) ++ (([.slice none 0 0] : Cs) ++ (([.int .i64 0] : Cs) ++ (([.bool false] : Cs) ++ ([.slice none 0 0] : Cs)))))) 48 :: .cells B_1 (([.int .i64 a0_0] : Cs) ++ (([.slice A_20 n_21 c_22] : Cs) ++ (([.slice none 0 0] : Cs) ++ (([.int .i64 a0_3] : Cs) ++ (([.bool false] : Cs) ++ ([.slice A0_5 n0_5 c0_5] : Cs)))))) 48 :: (T_18 ++ R)) := by have e_ : (([.int .i64 a0_0] : Cs) ++ (([.slice A_20 n_21 c_22] : Cs) ++ (([.slice none 0 0] : Cs) ++ (([.int .i64 a0_3] : Cs) ++ (([.bool false] : Cs) ++ ([.slice A0_5 n0_5 c0_5] : Cs)))))) = (([.int .i64 a0_0] : Cs) ++ (([.slice A_20 n_21 c_22] : Cs) ++ (([.slice none 0 0] : Cs) ++ ([.int .i64 a0_3] : Cs)))) ++ ((([.bool false] : Cs)) ++ (([.slice A0_5 n0_5 c0_5] : Cs))) := (by first | rfl | simp only [List.append_assoc, List.append_nil, List.nil_append, List.cons_append]); have h_ : St w w_76 (.cells B_5 (([.int .i64 0] : Cs) ++ (([.slice none 0 0] : Cs) ++ (([.slice none 0 0] : Cs) ++ (([.int .i64 0] : Cs) ++ (([.bool false] : Cs) ++ ([.slice none 0 0] : Cs)))))) 48 :: .cells B_1 ((([.int .i64 a0_0] : Cs) ++ (([.slice A_20 n_21 c_22] : Cs) ++ (([.slice none 0 0] : Cs) ++ ([.int .i64 a0_3] : Cs)))) ++ ((([.bool false] : Cs)) ++ (([.slice A0_5 n0_5 c0_5] : Cs)))) 48 :: (T_18 ++ R)) := st_77; rw [← e_] at h_; exact h_
   refine WL.nil (QW.then_n ?_)
   refine CW.seq (CW.region ?_)
   refine WL.val Wanted.none (Runs.fieldAddr (off := 3) (p := 3) fld48_3 rfl rfl rfl) ?_
   refine WL.store_one (i := 1) (u0 := .int .i64 a0_3) (pre := (([.int .i64 a0_0] : Cs) ++ (([.slice A_20 n_21 c_22] : Cs) ++ ([.slice none 0 0] : Cs)))) (post := (([.bool false] : Cs) ++ ([.slice A0_5 n0_5 c0_5] : Cs))) st_77 rfl cells3 (by first | rfl | simp only [List.append_assoc, List.append_nil, List.nil_append, List.cons_append]) (by first | rfl | simp only [List.length_append, List.length_cons, List.length_nil, iv_length]) rfl rfl rfl ?_
   intro w_78 st_79
   replace st_79 : St w w_78 (.cells B_5 (([.int .i64 0] : Cs) ++ (([.slice none 0 0] : Cs) ++ (([.slice none 0 0] : Cs) ++ (([.int .i64 0] : Cs) ++ (([.bool false] : Cs) ++ ([.slice none 0 0] : Cs)))))) 48 :: .cells B_1 (([.int .i64 a0_0] : Cs) ++ (([.slice A_20 n_21 c_22] : Cs) ++ (([.slice none 0 0] : Cs) ++ (([.int .i64 (-1)] : Cs) ++ (([.bool false] : Cs) ++ ([.slice A0_5 n0_5 c0_5] : Cs)))))) 48 :: (T_18 ++ R)) := by have e_ : (([.int .i64 a0_0] : Cs) ++ (([.slice A_20 n_21 c_22] : Cs) ++ (([.slice none 0 0] : Cs) ++ (([.int .i64 (-1)] : Cs) ++ (([.bool false] : Cs) ++ ([.slice A0_5 n0_5 c0_5] : Cs)))))) = (([.int .i64 a0_0] : Cs) ++ (([.slice A_20 n_21 c_22] : Cs) ++ ([.slice none 0 0] : Cs))) ++ ((([.int .i64 (-1)] : Cs)) ++ (([.bool false] : Cs) ++ ([.slice A0_5 n0_5 c0_5] : Cs))) := (by first | rfl | simp only [List.append_assoc, List.append_nil, List.nil_append, List.cons_append]); have h_ : St w w_78 (.cells B_5 (([.int .i64 0] : Cs) ++ (([.slice none 0 0] : Cs) ++ (([.slice none 0 0] : Cs) ++ (([.int .i64 0] : Cs) ++ (([.bool false] : Cs) ++ ([.slice none 0 0] : Cs)))))) 48 :: .cells B_1 ((([.int .i64 a0_0] : Cs) ++ (([.slice A_20 n_21 c_22] : Cs) ++ ([.slice none 0 0] : Cs))) ++ ((([.int .i64 (-1)] : Cs)) ++ (([.bool false] : Cs) ++ ([.slice A0_5 n0_5 c0_5] : Cs)))) 48 :: (T_18 ++ R)) := st_79; rw [← e_] at h_; exact h_
   refine WL.nil (QW.then_n ?_)
   refine CW.seq (CW.region ?_)
   refine WL.val Wanted.none (Runs.load_mid row48 rfl st_79 (i := 1) rfl (part_mid (pre := (([] : Cs))) (mid := (([.int .i64 a0_0] : Cs) ++ (([.slice A_20 n_21 c_22] : Cs) ++ (([.slice none 0 0] : Cs) ++ (([.int .i64 (-1)] : Cs) ++ (([.bool false] : Cs) ++ ([.slice A0_5 n0_5 c0_5] : Cs))))))) (post := (([] : Cs))) (by first | rfl | simp only [List.append_assoc, List.append_nil, List.nil_append, List.cons_append]) (by first | rfl | simp only [List.length_append, List.length_cons, List.length_nil, iv_length]) (by first | rfl | simp only [List.length_append, List.length_cons, List.length_nil, iv_length])) (by first | rfl | simp only [List.length_append, List.length_cons, List.length_nil, iv_length])) ?_
   refine WL.store_mid (i := 0) (pre := (([] : Cs))) (mid := (([.int .i64 0] : Cs) ++ (([.slice none 0 0] : Cs) ++ (([.slice none 0 0] : Cs) ++ (([.int .i64 0] : Cs) ++ (([.bool false] : Cs) ++ ([.slice none 0 0] : Cs))))))) (post := (([] : Cs))) (ms := (([.int .i64 a0_0] : Cs) ++ (([.slice A_20 n_21 c_22] : Cs) ++ (([.slice none 0 0] : Cs) ++ (([.int .i64 (-1)] : Cs) ++ (([.bool false] : Cs) ++ ([.slice A0_5 n0_5 c0_5] : Cs))))))) st_79 rfl row48 (by first | rfl | simp only [List.append_assoc, List.append_nil, List.nil_append, List.cons_append]) (by first | rfl | simp only [List.length_append, List.length_cons, List.length_nil, iv_length]) rfl rfl (by first | rfl | simp only [List.length_append, List.length_cons, List.length_nil, iv_length]) (by first | rfl | simp only [List.length_append, List.length_cons, List.length_nil, iv_length]) (by intro u hu; simp only [List.mem_append, List.mem_singleton] at hu; rcases hu with hu | hu | hu | hu | hu | hu <;> first | exact one_iv _ _ u hu | (subst hu; rfl)) ?_
   intro w_80 st_81
   replace st_81 : St w w_80 (.cells B_5 (([.int .i64 a0_0] : Cs) ++ (([.slice A_20 n_21 c_22] : Cs) ++ (([.slice none 0 0] : Cs) ++ (([.int .i64 (-1)] : Cs) ++ (([.bool false] : Cs) ++ ([.slice A0_5 n0_5 c0_5] : Cs)))))) 48 :: .cells B_1 (([.int .i64 a0_0] : Cs) ++ (([.slice A_20 n_21 c_22] : Cs) ++ (([.slice none 0 0] : Cs) ++ (([.int .i64 (-1)] : Cs) ++ (([.bool false] : Cs) ++ ([.slice A0_5 n0_5 c0_5] : Cs)))))) 48 :: (T_18 ++ R)) := by have e_ : (([.int .i64 a0_0] : Cs) ++ (([.slice A_20 n_21 c_22] : Cs) ++ (([.slice none 0 0] : Cs) ++ (([.int .i64 (-1)] : Cs) ++ (([.bool false] : Cs) ++ ([.slice A0_5 n0_5 c0_5] : Cs)))))) = (([] : Cs)) ++ ((([.int .i64 a0_0] : Cs) ++ (([.slice A_20 n_21 c_22] : Cs) ++ (([.slice none 0 0] : Cs) ++ (([.int .i64 (-1)] : Cs) ++ (([.bool false] : Cs) ++ ([.slice A0_5 n0_5 c0_5] : Cs)))))) ++ (([] : Cs))) := (by first | rfl | simp only [List.append_assoc, List.append_nil, List.nil_append, List.cons_append]); have h_ : St w w_80 (.cells B_5 ((([] : Cs)) ++ ((([.int .i64 a0_0] : Cs) ++ (([.slice A_20 n_21 c_22] : Cs) ++ (([.slice none 0 0] : Cs) ++ (([.int .i64 (-1)] : Cs) ++ (([.bool false] : Cs) ++ ([.slice A0_5 n0_5 c0_5] : Cs)))))) ++ (([] : Cs)))) 48 :: .cells B_1 (([.int .i64 a0_0] : Cs) ++ (([.slice A_20 n_21 c_22] : Cs) ++ (([.slice none 0 0] : Cs) ++ (([.int .i64 (-1)] : Cs) ++ (([.bool false] : Cs) ++ ([.slice A0_5 n0_5 c0_5] : Cs)))))) 48 :: (T_18 ++ R)) := st_81; rw [← e_] at h_; exact h_
   refine WL.nil (QW.then_n ?_)
   refine CW.ret ?_
   obtain ⟨rfl, rfl, rfl, rfl, rfl, rfl⟩ := H
   exact QW.retN1 rfl (Res.row rfl row48 st_81 (i := 0) rfl (by first | rfl | simp only [List.length_append, List.length_cons, List.length_nil, iv_length])) ⟨T_18, A_20, n_21, c_22, none, 0, 0, A0_5, n0_5, c0_5, hs_19, hb_24, HS.nil, (hb0_5.mono (fun _ h_ => hs_19.1 _ h_) (fun _ h_ => hs_19.1 _ h_)), rfl, (St.pickT (L := [_, _]) st_81 [] (by decide))⟩
 ·have h_30 : (decide (x_25 < (l0_2.length : Int))) = false := (decide_eq_false c_29)
  refine WL.off ?_ ?_; exact Wanted.guard (dj := 11) (by rfl) (evb (by rfl) h_30) (by rfl)
  refine WL.off ?_ ?_; exact Wanted.guard (dj := 11) (by rfl) (evb (by rfl) h_30) (by rfl)
  refine WL.off ?_ ?_; exact Wanted.guard (dj := 11) (by rfl) (evb (by rfl) h_30) (by rfl)
  refine WL.off ?_ ?_; exact Wanted.guard (dj := 11) (by rfl) (evb (by rfl) h_30) (by rfl)
  refine WL.val Wanted.none (Runs.pick_f (evb rfl h_30) rfl) ?_
  refine WL.nil (QW.then_n ?_)
  refine CW.cf rfl rfl ?_
  refine CW.exit ?_
  refine QW.then_x ?_
  refine QW.then_x ?_
  refine QW.blk_x ?_
  refine QW.then_n ?_
  refine CW.sub [(2, .pointer (some ⟨B_1, 0, none⟩)), (4, .pointer (some ⟨B_5, 0, none⟩))] ⟨rfl, rfl, trivial⟩ ?_
  refine CW.seq (CW.region ?_)
  refine WL.val Wanted.none (Runs.fieldAddr (off := 2) (p := 2) fld48_2 rfl rfl rfl) ?_
  refine WL.store_one (i := 1) (u0 := .slice A0_2 n0_2 c0_2) (pre := (([.int .i64 a0_0] : Cs) ++ ([.slice A_20 n_21 c_22] : Cs))) (post := (([.int .i64 a0_3] : Cs) ++ (([.bool a0_4] : Cs) ++ ([.slice A0_5 n0_5 c0_5] : Cs)))) st_27 rfl cells45 (by first | rfl | simp only [List.append_assoc, List.append_nil, List.nil_append, List.cons_append]) (by first | rfl | simp only [List.length_append, List.length_cons, List.length_nil, iv_length]) rfl rfl rfl ?_
  intro w_82 st_83
  replace st_83 : St w w_82 (.cells B_5 (([.int .i64 0] : Cs) ++ (([.slice none 0 0] : Cs) ++ (([.slice none 0 0] : Cs) ++ (([.int .i64 0] : Cs) ++ (([.bool false] : Cs) ++ ([.slice none 0 0] : Cs)))))) 48 :: .cells B_1 (([.int .i64 a0_0] : Cs) ++ (([.slice A_20 n_21 c_22] : Cs) ++ (([.slice none 0 0] : Cs) ++ (([.int .i64 a0_3] : Cs) ++ (([.bool a0_4] : Cs) ++ ([.slice A0_5 n0_5 c0_5] : Cs)))))) 48 :: (T_18 ++ R)) := by have e_ : (([.int .i64 a0_0] : Cs) ++ (([.slice A_20 n_21 c_22] : Cs) ++ (([.slice none 0 0] : Cs) ++ (([.int .i64 a0_3] : Cs) ++ (([.bool a0_4] : Cs) ++ ([.slice A0_5 n0_5 c0_5] : Cs)))))) = (([.int .i64 a0_0] : Cs) ++ ([.slice A_20 n_21 c_22] : Cs)) ++ ((([.slice none 0 0] : Cs)) ++ (([.int .i64 a0_3] : Cs) ++ (([.bool a0_4] : Cs) ++ ([.slice A0_5 n0_5 c0_5] : Cs)))) := (by first | rfl | simp only [List.append_assoc, List.append_nil, List.nil_append, List.cons_append]); have h_ : St w w_82 (.cells B_5 (([.int .i64 0] : Cs) ++ (([.slice none 0 0] : Cs) ++ (([.slice none 0 0] : Cs) ++ (([.int .i64 0] : Cs) ++ (([.bool false] : Cs) ++ ([.slice none 0 0] : Cs)))))) 48 :: .cells B_1 ((([.int .i64 a0_0] : Cs) ++ ([.slice A_20 n_21 c_22] : Cs)) ++ ((([.slice none 0 0] : Cs)) ++ (([.int .i64 a0_3] : Cs) ++ (([.bool a0_4] : Cs) ++ ([.slice A0_5 n0_5 c0_5] : Cs))))) 48 :: (T_18 ++ R)) := st_83; rw [← e_] at h_; exact h_
  refine WL.nil (QW.then_n ?_)
  refine CW.seq (CW.region ?_)
  refine WL.val Wanted.none (Runs.fieldAddr (off := 4) (p := 4) fld48_4 rfl rfl rfl) ?_
  refine WL.store_one (i := 1) (u0 := .bool a0_4) (pre := (([.int .i64 a0_0] : Cs) ++ (([.slice A_20 n_21 c_22] : Cs) ++ (([.slice none 0 0] : Cs) ++ ([.int .i64 a0_3] : Cs))))) (post := (([.slice A0_5 n0_5 c0_5] : Cs))) st_83 rfl cells4 (by first | rfl | simp only [List.append_assoc, List.append_nil, List.nil_append, List.cons_append]) (by first | rfl | simp only [List.length_append, List.length_cons, List.length_nil, iv_length]) rfl rfl rfl ?_
  intro w_84 st_85
  replace st_85 : St w w_84 (.cells B_5 (([.int .i64 0] : Cs) ++ (([.slice none 0 0] : Cs) ++ (([.slice none 0 0] : Cs) ++ (([.int .i64 0] : Cs) ++ (([.bool false] : Cs) ++ ([.slice none 0 0] : Cs)))))) 48 :: .cells B_1 (([.int .i64 a0_0] : Cs) ++ (([.slice A_20 n_21 c_22] : Cs) ++ (([.slice none 0 0] : Cs) ++ (([.int .i64 a0_3] : Cs) ++ (([.bool false] : Cs) ++ ([.slice A0_5 n0_5 c0_5] : Cs)))))) 48 :: (T_18 ++ R)) := by have e_ : (([.int .i64 a0_0] : Cs) ++ (([.slice A_20 n_21 c_22] : Cs) ++ (([.slice none 0 0] : Cs) ++ (([.int .i64 a0_3] : Cs) ++ (([.bool false] : Cs) ++ ([.slice A0_5 n0_5 c0_5] : Cs)))))) = (([.int .i64 a0_0] : Cs) ++ (([.slice A_20 n_21 c_22] : Cs) ++ (([.slice none 0 0] : Cs) ++ ([.int .i64 a0_3] : Cs)))) ++ ((([.bool false] : Cs)) ++ (([.slice A0_5 n0_5 c0_5] : Cs))) := (by first | rfl | simp only [List.append_assoc, List.append_nil, List.nil_append, List.cons_append]); have h_ : St w w_84 (.cells B_5 (([.int .i64 0] : Cs) ++ (([.slice none 0 0] : Cs) ++ (([.slice none 0 0] : Cs) ++ (([.int .i64 0] : Cs) ++ (([.bool false] : Cs) ++ ([.slice none 0 0] : Cs)))))) 48 :: .cells B_1 ((([.int .i64 a0_0] : Cs) ++ (([.slice A_20 n_21 c_22] : Cs) ++ (([.slice none 0 0] : Cs) ++ ([.int .i64 a0_3] : Cs)))) ++ ((([.bool false] : Cs)) ++ (([.slice A0_5 n0_5 c0_5] : Cs)))) 48 :: (T_18 ++ R)) := st_85; rw [← e_] at h_; exact h_
  refine WL.nil (QW.then_n ?_)
  refine CW.seq (CW.region ?_)
  refine WL.val Wanted.none (Runs.fieldAddr (off := 3) (p := 3) fld48_3 rfl rfl rfl) ?_
  refine WL.store_one (i := 1) (u0 := .int .i64 a0_3) (pre := (([.int .i64 a0_0] : Cs) ++ (([.slice A_20 n_21 c_22] : Cs) ++ ([.slice none 0 0] : Cs)))) (post := (([.bool false] : Cs) ++ ([.slice A0_5 n0_5 c0_5] : Cs))) st_85 rfl cells3 (by first | rfl | simp only [List.append_assoc, List.append_nil, List.nil_append, List.cons_append]) (by first | rfl | simp only [List.length_append, List.length_cons, List.length_nil, iv_length]) rfl rfl rfl ?_
  intro w_86 st_87
  replace st_87 : St w w_86 (.cells B_5 (([.int .i64 0] : Cs) ++ (([.slice none 0 0] : Cs) ++ (([.slice none 0 0] : Cs) ++ (([.int .i64 0] : Cs) ++ (([.bool false] : Cs) ++ ([.slice none 0 0] : Cs)))))) 48 :: .cells B_1 (([.int .i64 a0_0] : Cs) ++ (([.slice A_20 n_21 c_22] : Cs) ++ (([.slice none 0 0] : Cs) ++ (([.int .i64 (-1)] : Cs) ++ (([.bool false] : Cs) ++ ([.slice A0_5 n0_5 c0_5] : Cs)))))) 48 :: (T_18 ++ R)) := by have e_ : (([.int .i64 a0_0] : Cs) ++ (([.slice A_20 n_21 c_22] : Cs) ++ (([.slice none 0 0] : Cs) ++ (([.int .i64 (-1)] : Cs) ++ (([.bool false] : Cs) ++ ([.slice A0_5 n0_5 c0_5] : Cs)))))) = (([.int .i64 a0_0] : Cs) ++ (([.slice A_20 n_21 c_22] : Cs) ++ ([.slice none 0 0] : Cs))) ++ ((([.int .i64 (-1)] : Cs)) ++ (([.bool false] : Cs) ++ ([.slice A0_5 n0_5 c0_5] : Cs))) := (by first | rfl | simp only [List.append_assoc, List.append_nil, List.nil_append, List.cons_append]); have h_ : St w w_86 (.cells B_5 (([.int .i64 0] : Cs) ++ (([.slice none 0 0] : Cs) ++ (([.slice none 0 0] : Cs) ++ (([.int .i64 0] : Cs) ++ (([.bool false] : Cs) ++ ([.slice none 0 0] : Cs)))))) 48 :: .cells B_1 ((([.int .i64 a0_0] : Cs) ++ (([.slice A_20 n_21 c_22] : Cs) ++ ([.slice none 0 0] : Cs))) ++ ((([.int .i64 (-1)] : Cs)) ++ (([.bool false] : Cs) ++ ([.slice A0_5 n0_5 c0_5] : Cs)))) 48 :: (T_18 ++ R)) := st_87; rw [← e_] at h_; exact h_
  refine WL.nil (QW.then_n ?_)
  refine CW.seq (CW.region ?_)
  refine WL.val Wanted.none (Runs.load_mid row48 rfl st_87 (i := 1) rfl (part_mid (pre := (([] : Cs))) (mid := (([.int .i64 a0_0] : Cs) ++ (([.slice A_20 n_21 c_22] : Cs) ++ (([.slice none 0 0] : Cs) ++ (([.int .i64 (-1)] : Cs) ++ (([.bool false] : Cs) ++ ([.slice A0_5 n0_5 c0_5] : Cs))))))) (post := (([] : Cs))) (by first | rfl | simp only [List.append_assoc, List.append_nil, List.nil_append, List.cons_append]) (by first | rfl | simp only [List.length_append, List.length_cons, List.length_nil, iv_length]) (by first | rfl | simp only [List.length_append, List.length_cons, List.length_nil, iv_length])) (by first | rfl | simp only [List.length_append, List.length_cons, List.length_nil, iv_length])) ?_
  refine WL.store_mid (i := 0) (pre := (([] : Cs))) (mid := (([.int .i64 0] : Cs) ++ (([.slice none 0 0] : Cs) ++ (([.slice none 0 0] : Cs) ++ (([.int .i64 0] : Cs) ++ (([.bool false] : Cs) ++ ([.slice none 0 0] : Cs))))))) (post := (([] : Cs))) (ms := (([.int .i64 a0_0] : Cs) ++ (([.slice A_20 n_21 c_22] : Cs) ++ (([.slice none 0 0] : Cs) ++ (([.int .i64 (-1)] : Cs) ++ (([.bool false] : Cs) ++ ([.slice A0_5 n0_5 c0_5] : Cs))))))) st_87 rfl row48 (by first | rfl | simp only [List.append_assoc, List.append_nil, List.nil_append, List.cons_append]) (by first | rfl | simp only [List.length_append, List.length_cons, List.length_nil, iv_length]) rfl rfl (by first | rfl | simp only [List.length_append, List.length_cons, List.length_nil, iv_length]) (by first | rfl | simp only [List.length_append, List.length_cons, List.length_nil, iv_length]) (by intro u hu; simp only [List.mem_append, List.mem_singleton] at hu; rcases hu with hu | hu | hu | hu | hu | hu <;> first | exact one_iv _ _ u hu | (subst hu; rfl)) ?_
  intro w_88 st_89
  replace st_89 : St w w_88 (.cells B_5 (([.int .i64 a0_0] : Cs) ++ (([.slice A_20 n_21 c_22] : Cs) ++ (([.slice none 0 0] : Cs) ++ (([.int .i64 (-1)] : Cs) ++ (([.bool false] : Cs) ++ ([.slice A0_5 n0_5 c0_5] : Cs)))))) 48 :: .cells B_1 (([.int .i64 a0_0] : Cs) ++ (([.slice A_20 n_21 c_22] : Cs) ++ (([.slice none 0 0] : Cs) ++ (([.int .i64 (-1)] : Cs) ++ (([.bool false] : Cs) ++ ([.slice A0_5 n0_5 c0_5] : Cs)))))) 48 :: (T_18 ++ R)) := by have e_ : (([.int .i64 a0_0] : Cs) ++ (([.slice A_20 n_21 c_22] : Cs) ++ (([.slice none 0 0] : Cs) ++ (([.int .i64 (-1)] : Cs) ++ (([.bool false] : Cs) ++ ([.slice A0_5 n0_5 c0_5] : Cs)))))) = (([] : Cs)) ++ ((([.int .i64 a0_0] : Cs) ++ (([.slice A_20 n_21 c_22] : Cs) ++ (([.slice none 0 0] : Cs) ++ (([.int .i64 (-1)] : Cs) ++ (([.bool false] : Cs) ++ ([.slice A0_5 n0_5 c0_5] : Cs)))))) ++ (([] : Cs))) := (by first | rfl | simp only [List.append_assoc, List.append_nil, List.nil_append, List.cons_append]); have h_ : St w w_88 (.cells B_5 ((([] : Cs)) ++ ((([.int .i64 a0_0] : Cs) ++ (([.slice A_20 n_21 c_22] : Cs) ++ (([.slice none 0 0] : Cs) ++ (([.int .i64 (-1)] : Cs) ++ (([.bool false] : Cs) ++ ([.slice A0_5 n0_5 c0_5] : Cs)))))) ++ (([] : Cs)))) 48 :: .cells B_1 (([.int .i64 a0_0] : Cs) ++ (([.slice A_20 n_21 c_22] : Cs) ++ (([.slice none 0 0] : Cs) ++ (([.int .i64 (-1)] : Cs) ++ (([.bool false] : Cs) ++ ([.slice A0_5 n0_5 c0_5] : Cs)))))) 48 :: (T_18 ++ R)) := st_89; rw [← e_] at h_; exact h_
  refine WL.nil (QW.then_n ?_)
  refine CW.ret ?_
  obtain ⟨rfl, rfl, rfl, rfl, rfl, rfl⟩ := H
  exact QW.retN1 rfl (Res.row rfl row48 st_89 (i := 0) rfl (by first | rfl | simp only [List.length_append, List.length_cons, List.length_nil, iv_length])) ⟨T_18, A_20, n_21, c_22, none, 0, 0, A0_5, n0_5, c0_5, hs_19, hb_24, HS.nil, (hb0_5.mono (fun _ h_ => hs_19.1 _ h_) (fun _ h_ => hs_19.1 _ h_)), rfl, (St.pickT (L := [_, _]) st_89 [] (by decide))⟩

/-! ### disk_Disk_Tamper_1: function 41 -/
def disk_Disk_Tamper_1.rel (a0_0 : Int) (l0_1 : List Int) (ac0 : Int) (ar0 : Bool) : Prop := ar0 = (a0_0 == ac0)
set_option maxHeartbeats 1000000 in
set_option maxRecDepth 100000 in
theorem disk_Disk_Tamper_1.calls (w w1 : World) (T R : Pool) (a0_0 : Int) (l0_1 : List Int) (ac0 : Int) (A0_1 : Option Addr) (n0_1 : Nat) (c0_1 : Nat) (bc0 : Nat) (st0 : St w w1 ((T ++ R))) (hb0_1 : HB w T A0_1 n0_1 c0_1 (iv .u8 l0_1) l0_1.length) (hcellc0 : Hd w (T ++ R) fun W_ => W_.cell? ⟨bc0, 0, none⟩ = some (.int .i64 ac0)) (ar0 : Bool) (H : disk_Disk_Tamper_1.rel a0_0 l0_1 ac0 ar0) :
  Calls Try.prog 41 #[.agg (([.int .i64 a0_0] : Cs) ++ ([.slice A0_1 n0_1 c0_1] : Cs)).toArray, .pointer (some ⟨bc0, 0, none⟩)] w1 fun e w' => ∃ T' , Pl T T' ∧ e = .returned (.bool ar0) ∧ St w w' ((T' ++ R)) := by
 refine CW.enter Try.func41 rfl (n := 8) rfl [.agg (([.int .i64 a0_0] : Cs) ++ ([.slice A0_1 n0_1 c0_1] : Cs)).toArray, .pointer (some ⟨bc0, 0, none⟩)] (Nat.le_of_ble_eq_true rfl) ?_
 refine CW.sub [(0, .agg (([.int .i64 a0_0] : Cs) ++ ([.slice A0_1 n0_1 c0_1] : Cs)).toArray), (1, .pointer (some ⟨bc0, 0, none⟩))] ⟨rfl, rfl, trivial⟩ ?_
 refine CW.seq (CW.region ?_)
 refine WL.box st0 rfl rfl ?_
 intro B_1 w_2 st_3
 replace st_3 : St w w_2 (.cells B_1 (([.int .i64 a0_0] : Cs) ++ ([.slice A0_1 n0_1 c0_1] : Cs)) 69 :: (T ++ R)) := st_3
 refine WL.val Wanted.none (Runs.assign rfl) ?_
 refine WL.nil (QW.then_n ?_)
 refine CW.seq (CW.region ?_)
 refine WL.val Wanted.none (Runs.fieldAddr (off := 0) (p := 0) fld69_0 rfl rfl rfl) ?_
 refine WL.val Wanted.none (Runs.load nagg3 rfl (st_3.cell (k := 0) rfl (part_one (u := .int .i64 a0_0) (pre := (([] : Cs))) (post := (([.slice A0_1 n0_1 c0_1] : Cs))) (by first | rfl | simp only [List.append_assoc, List.append_nil, List.nil_append, List.cons_append]) (by first | rfl | simp only [List.length_append, List.length_cons, List.length_nil, iv_length])))) ?_
 refine WL.val Wanted.none (Runs.load nagg3 rfl (hcellc0.at st_3 (mem_TR (A := [_]) (fun _ h_ => h_)))) ?_
 refine WL.val Wanted.none (Runs.eql rfl rfl rfl) ?_
 refine WL.val Wanted.none (Runs.assign rfl) ?_
 refine WL.nil (QW.then_n ?_)
 refine CW.sub [(3, .bool (a0_0 == ac0))] ⟨rfl, trivial⟩ ?_
 refine CW.ret ?_
 obtain rfl := H
 exact QW.ret1 rfl rfl ⟨T, Pl.refl, rfl, (St.pickT (L := [_]) st_3 [] (by decide))⟩

/-! ### slices_IndexFunc_s_disk_write_disk_write_clo1_disk_Disk_Tamper_1: function 49 -/
def slices_IndexFunc_s_disk_write_disk_write_clo1_disk_Disk_Tamper_1.L1 (l0 : List R69) (a1_0 : Int) (ar0 : Int) : Nat → Int → Int → Prop
 | 0, _, _ => False
 | kL1 + 1, x_4, x_5 => ((x_5 < (l0.length : Int) ∧ ((0 ≤ x_5 ∧ x_5 < (l0.length : Int)) ∧ (∃ (a_31 : Bool), disk_Disk_Tamper_1.rel ((gx l0 (x_5.toNat)).1) ((gx l0 (x_5.toNat)).2) a1_0 a_31 ∧ ((a_31 = true ∧ ar0 = x_5) ∨ (¬ (a_31 = true) ∧ slices_IndexFunc_s_disk_write_disk_write_clo1_disk_Disk_Tamper_1.L1 l0 a1_0 ar0 kL1 x_4 (IntKind.i64.wrap (x_5 + 1))))))) ∨ (¬ (x_5 < (l0.length : Int)) ∧ ar0 = -1))
def slices_IndexFunc_s_disk_write_disk_write_clo1_disk_Disk_Tamper_1.rel (l0 : List R69) (a1_0 : Int) (ar0 : Int) : Prop := (∃ k_ : Nat, slices_IndexFunc_s_disk_write_disk_write_clo1_disk_Disk_Tamper_1.L1 l0 a1_0 ar0 k_ 0 0)
set_option maxHeartbeats 1000000 in
set_option maxRecDepth 100000 in
theorem slices_IndexFunc_s_disk_write_disk_write_clo1_disk_Disk_Tamper_1.calls (w w1 : World) (T R : Pool) (l0 : List R69) (a1_0 : Int) (A0 : Option Addr) (n0 : Nat) (c0 : Nat) (b1_0 : Nat) (st0 : St w w1 ((T ++ R))) (hb0 : HS w (T ++ R) T A0 n0 c0 (f69 w) l0) (hcell1_0 : Hd w (T ++ R) fun W_ => W_.cell? ⟨b1_0, 0, none⟩ = some (.int .i64 a1_0)) (ar0 : Int) (H : slices_IndexFunc_s_disk_write_disk_write_clo1_disk_Disk_Tamper_1.rel l0 a1_0 ar0) :
  Calls Try.prog 49 #[.slice A0 n0 c0, .func (.func 41) #[] #[.pointer (some ⟨b1_0, 0, none⟩)]] w1 fun e w' => ∃ T' , Pl T T' ∧ e = .returned (.int .i64 ar0) ∧ St w w' ((T' ++ R)) := by
 refine CW.enter Try.func49 rfl (n := 19) rfl [.slice A0 n0 c0, .func (.func 41) #[] #[.pointer (some ⟨b1_0, 0, none⟩)]] (Nat.le_of_ble_eq_true rfl) ?_
 refine CW.sub [(0, .slice A0 n0 c0), (1, .func (.func 41) #[] #[.pointer (some ⟨b1_0, 0, none⟩)])] ⟨rfl, rfl, trivial⟩ ?_
 refine CW.seq (CW.region ?_)
 refine WL.val Wanted.none (Runs.assign rfl) ?_
 refine WL.nil (QW.then_n ?_)
 refine CW.seq ?_
 refine CW.seq (CW.region ?_)
 refine WL.val Wanted.none (Runs.move rfl) ?_
 refine WL.val Wanted.none (Runs.len_sl Try.underlying64 rfl (by rw [hb0.1])) ?_
 refine WL.val Wanted.none (Runs.move rfl) ?_
 refine WL.nil (QW.then_n ?_)
 refine CW.block ?_
 obtain ⟨k_1, H⟩ := H
 refine CW.sub [(0, .slice A0 n0 c0), (1, .func (.func 41) #[] #[.pointer (some ⟨b1_0, 0, none⟩)]), (4, .int .i64 0), (7, .int .i64 (l0.length : Int)), (8, .int .i64 0)] ⟨rfl, rfl, rfl, rfl, rfl, trivial⟩ ?_
 refine CW.loop (fun kL1 l_ w_ => ∃ (T_2 : Pool) (x_4 : Int) (x_5 : Int), l_ = [(0, .slice A0 n0 c0), (1, .func (.func 41) #[] #[.pointer (some ⟨b1_0, 0, none⟩)]), (4, .int .i64 x_4), (7, .int .i64 (l0.length : Int)), (8, .int .i64 x_5)] ∧ slices_IndexFunc_s_disk_write_disk_write_clo1_disk_Disk_Tamper_1.L1 l0 a1_0 ar0 kL1 x_4 x_5 ∧ (Pl T T_2) ∧ St w w_ ((T_2 ++ R))) (k := k_1) ⟨T, 0, 0, rfl, H, Pl.refl, st0⟩ (fun _ _ h => by obtain ⟨_, _, _, _, h, _⟩ := h; exact h.elim) ?_
 rintro kL1 l_8 w_6 ⟨T_2, x_4, x_5, rfl, H, hs_3, st_7⟩
 refine CW.seq (CW.region ?_)
 refine WL.val Wanted.none (Runs.lss rfl rfl rfl) ?_
 refine WL.nil (QW.then_n ?_)
 refine CW.seq ?_
 rcases H with ⟨c_9, H⟩ | ⟨c_9, H⟩
 ·have h_10 : (decide (x_5 < (l0.length : Int))) = true := (decide_eq_true c_9)
  refine CW.ct rfl h_10 ?_
  refine CW.skip ?_
  refine QW.then_n ?_
  refine CW.seq ?_
  refine CW.block ?_
  refine CW.seq (CW.region ?_)
  refine WL.val Wanted.none (Runs.move rfl) ?_
  refine WL.val Wanted.none (Runs.assign rfl) ?_
  refine WL.nil (QW.then_n ?_)
  refine CW.seq (CW.region ?_)
  refine WL.val Wanted.none (Runs.move rfl) ?_
  refine WL.val Wanted.none (Runs.move rfl) ?_
  refine WL.val Wanted.none (Runs.move rfl) ?_
  obtain ⟨⟨p_11, q_12⟩, H⟩ := H
  obtain ⟨x_13, hs_14, hr_15⟩ := hb0.2.2
  obtain ⟨a_16, e_17, ms_18, hc_19, hm_20⟩ := el_get (i := (x_5).toNat) ((hs_14.at st_7 (mem_TR (A := []) (fun _ h_ => hs_3.1 _ h_)))) (hr_15.mono (fun _ h_ => hs_3.1 _ h_)) (fz69 w) (by decide) (by omega)
  obtain ⟨A_21, n_22, c_23, em_25, hb_24⟩ := inv69 hm_20
  replace em_25 : ms_18 = ([.int .i64 ((gx l0 (x_5.toNat)).1)] : Cs) ++ ([.slice A_21 n_22 c_23] : Cs) := em_25
  subst em_25
  refine WL.val Wanted.none (Runs.indexAddr Try.underlying64 cells69 (by decide) rfl e_17 rfl p_11 (by rw [show n0 = l0.length from hb0.1]; exact q_12) (o := (x_5.toNat) * 2) (by first | rfl | omega)) ?_
  refine WL.val Wanted.none (Runs.load_srcR row69 rfl (Src.cut ((hs_14.at st_7 (mem_TR (A := []) (fun _ h_ => hs_3.1 _ h_)))) e_17 hc_19) rfl) ?_
  have st_26 : St w w_6 ((T_2 ++ (R))) := St.hide (A := []) (B := []) (T := T_2) (R := R) st_7
  obtain ⟨a_31, hr_27, H⟩ := H
  refine WL.callv Wanted.none ent41 rfl rfl (disk_Disk_Tamper_1.calls w w_6 T_2 (R) ((gx l0 (x_5.toNat)).1) ((gx l0 (x_5.toNat)).2) a1_0 A_21 n_22 c_23 b1_0  st_26 hb_24 (hcell1_0.mono (memo_TR (B := []) (fun _ h_ => hs_3.1 _ h_))) a_31 hr_27) ?_
  rintro _ w_32 ⟨T_28, hs_29, rfl, sc_34⟩
  have st_33 : St w w_32 ((T_28 ++ R)) := St.unhide (A := []) (B := []) (T := T_28) (R := R) sc_34
  refine ⟨_, rfl, ?_⟩
  refine WL.nil (QW.then_n ?_)
  rcases H with ⟨c_35, H⟩ | ⟨c_35, H⟩
  ·have h_36 : a_31 = true := c_35
   refine CW.ct rfl h_36 ?_
   refine CW.seq (CW.region ?_)
   refine WL.val Wanted.none (Runs.move rfl) ?_
   refine WL.val Wanted.none (Runs.assign rfl) ?_
   refine WL.nil (QW.then_n ?_)
   refine CW.ret ?_
   refine QW.blk_r ?_
   refine QW.then_r ?_
   refine QW.then_r ?_
   refine QW.blk_r ?_
   refine QW.then_r ?_
   obtain rfl := H
   exact QW.ret1 rfl rfl ⟨T_28, (hs_3.trans hs_29), rfl, (St.pickT (L := []) st_33 [] (by decide))⟩
  ·have h_36 : a_31 = false := (Bool.eq_false_iff.mpr c_35)
   refine CW.cf rfl h_36 ?_
   refine CW.skip ?_
   refine QW.blk_n ?_
   refine QW.then_n ?_
   refine CW.region ?_
   refine WL.val Wanted.none (Runs.add rfl rfl rfl) ?_
   refine WL.val Wanted.none (Runs.move rfl) ?_
   refine WL.nil ?_
   exact QW.at _ (by repeat' constructor) ⟨T_28, x_4, IntKind.i64.wrap (x_5 + 1), rfl, H, (hs_3.trans hs_29), st_33⟩
 ·have h_10 : (decide (x_5 < (l0.length : Int))) = false := (decide_eq_false c_9)
  refine CW.cf rfl h_10 ?_
  refine CW.exit ?_
  refine QW.then_x ?_
  refine QW.then_x ?_
  refine QW.blk_x ?_
  refine QW.then_n ?_
  refine CW.seq (CW.region ?_)
  refine WL.val Wanted.none (Runs.assign rfl) ?_
  refine WL.nil (QW.then_n ?_)
  refine CW.ret ?_
  obtain rfl := H
  exact QW.ret1 rfl rfl ⟨T_2, hs_3, rfl, (St.pickT (L := []) st_7 [] (by decide))⟩

/-! ### slices_DeleteFunc_s_disk_write_disk_write_clo1_disk_Disk_Tamper_1_own0: function 40 -/
def slices_DeleteFunc_s_disk_write_disk_write_clo1_disk_Disk_Tamper_1_own0.L1 (a1_0 : Int) (lr0 : List R69) : Nat → (List R69) → Int → Int → Prop
 | 0, _, _, _ => False
 | kL1 + 1, l_15, x_19, x_20 => ((x_20 < (l_15.length : Int) ∧ ((0 ≤ x_20 ∧ x_20 < (l_15.length : Int)) ∧ (∃ (a_49 : Bool), disk_Disk_Tamper_1.rel ((gx l_15 (x_20.toNat)).1) ((gx l_15 (x_20.toNat)).2) a1_0 a_49 ∧ ((¬ (a_49 = true) ∧ ((0 ≤ x_19 ∧ x_19 < (l_15.length : Int)) ∧ (∃ m_67 : List R69, m_67 = List.set l_15 (x_19.toNat) ((gx l_15 (x_20.toNat)).1, (gx l_15 (x_20.toNat)).2) ∧ slices_DeleteFunc_s_disk_write_disk_write_clo1_disk_Disk_Tamper_1_own0.L1 a1_0 lr0 kL1 m_67 (IntKind.i64.wrap (x_19 + 1)) (IntKind.i64.wrap (x_20 + 1))))) ∨ (¬ (¬ (a_49 = true)) ∧ slices_DeleteFunc_s_disk_write_disk_write_clo1_disk_Disk_Tamper_1_own0.L1 a1_0 lr0 kL1 l_15 x_19 (IntKind.i64.wrap (x_20 + 1))))))) ∨ (¬ (x_20 < (l_15.length : Int)) ∧ ((0 ≤ x_19 ∧ x_19 ≤ (l_15.length : Int) ∧ (l_15.length : Int) ≤ (l_15.length : Int)) ∧ (0 < l_15.length ∧ (∃ m_90 : List R69, m_90 = List.take (x_19.toNat) l_15 ∧ lr0 = m_90)))))
def slices_DeleteFunc_s_disk_write_disk_write_clo1_disk_Disk_Tamper_1_own0.rel (l0 : List R69) (a1_0 : Int) (lr0 : List R69) : Prop := (∃ (a_6 : Int), slices_IndexFunc_s_disk_write_disk_write_clo1_disk_Disk_Tamper_1.rel l0 a1_0 a_6 ∧ ((a_6 = (-1) ∧ lr0 = l0) ∨ (¬ (a_6 = (-1)) ∧ (∃ k_ : Nat, slices_DeleteFunc_s_disk_write_disk_write_clo1_disk_Disk_Tamper_1_own0.L1 a1_0 lr0 k_ l0 a_6 (IntKind.i64.wrap (a_6 + 1))))))
set_option maxHeartbeats 1000000 in
set_option maxRecDepth 100000 in
theorem slices_DeleteFunc_s_disk_write_disk_write_clo1_disk_Disk_Tamper_1_own0.calls (w w1 : World) (T R : Pool) (l0 : List R69) (a1_0 : Int) (A0 : Option Addr) (n0 : Nat) (c0 : Nat) (x0 : Cs) (b1_0 : Nat) (st0 : St w w1 (.sl A0 c0 n0 x0 69 2 :: (T ++ R))) (hn0 : n0 = l0.length) (hx0 : HRs T (f69 w) x0 l0) (hcell1_0 : Hd w (T ++ R) fun W_ => W_.cell? ⟨b1_0, 0, none⟩ = some (.int .i64 a1_0)) (lr0 : List R69) (H : slices_DeleteFunc_s_disk_write_disk_write_clo1_disk_Disk_Tamper_1_own0.rel l0 a1_0 lr0) :
  Calls Try.prog 40 #[.slice A0 n0 c0, .func (.func 41) #[] #[.pointer (some ⟨b1_0, 0, none⟩)]] w1 fun e w' => ∃ T' Ar0 nr0 cr0 xr0, Pl T T' ∧ nr0 = lr0.length ∧ HRs T' (f69 w) xr0 lr0 ∧ e = .returned (.slice Ar0 nr0 cr0) ∧ St w w' (.sl Ar0 cr0 nr0 xr0 69 2 :: (T' ++ R)) := by
 refine CW.enter Try.func40 rfl (n := 42) rfl [.slice A0 n0 c0, .func (.func 41) #[] #[.pointer (some ⟨b1_0, 0, none⟩)]] (Nat.le_of_ble_eq_true rfl) ?_
 refine CW.sub [(0, .slice A0 n0 c0), (1, .func (.func 41) #[] #[.pointer (some ⟨b1_0, 0, none⟩)])] ⟨rfl, rfl, trivial⟩ ?_
 refine CW.seq (CW.region ?_)
 refine WL.val Wanted.none (Runs.assign rfl) ?_
 refine WL.nil (QW.then_n ?_)
 refine CW.seq (CW.region ?_)
 refine WL.val Wanted.none (Runs.move rfl) ?_
 refine WL.val Wanted.none (Runs.move rfl) ?_
 have st_1 : St w w1 ((T ++ (.sl A0 c0 n0 x0 69 2 :: R))) := St.hide (A := []) (B := [_]) (T := T) (R := R) st0
 obtain ⟨a_6, hr_2, H⟩ := H
 refine WL.call Wanted.none ent49 rfl (slices_IndexFunc_s_disk_write_disk_write_clo1_disk_Disk_Tamper_1.calls w w1 T (.sl A0 c0 n0 x0 69 2 :: R) l0 a1_0 A0 n0 c0 b1_0  st_1 (HS.mk hn0 (st0.cap (i := 0) rfl) (fun W_ L_ st hT => st.src_mem (hT _ (List.mem_append_right _ (List.mem_of_getElem? (i := 0) rfl)))) hx0) (hcell1_0.mono (memo_TR (B := [_]) (fun _ h_ => h_))) a_6 hr_2) ?_
 rintro _ w_7 ⟨T_3, hs_4, rfl, sc_9⟩
 have st_8 : St w w_7 (.sl A0 c0 n0 x0 69 2 :: (T_3 ++ R)) := St.unhide (A := []) (B := [_]) (T := T_3) (R := R) sc_9
 refine ⟨_, rfl, ?_⟩
 refine WL.val Wanted.none (Runs.assign rfl) ?_
 refine WL.nil (QW.then_n ?_)
 refine CW.seq ?_
 refine CW.seq (CW.region ?_)
 refine WL.val Wanted.none (Runs.move rfl) ?_
 refine WL.val Wanted.none (Runs.eql rfl rfl rfl) ?_
 refine WL.nil (QW.then_n ?_)
 rcases H with ⟨c_10, H⟩ | ⟨c_10, H⟩
 ·have h_11 : (a_6 == (-1)) = true := (beq_iff_eq.mpr c_10)
  refine CW.ct rfl h_11 ?_
  refine CW.seq (CW.region ?_)
  refine WL.val Wanted.none (Runs.move rfl) ?_
  refine WL.val Wanted.none (Runs.assign rfl) ?_
  refine WL.nil (QW.then_n ?_)
  refine CW.sub [(0, .slice A0 n0 c0), (1, .func (.func 41) #[] #[.pointer (some ⟨b1_0, 0, none⟩)]), (4, .slice A0 n0 c0), (5, .int .i64 a_6)] ⟨rfl, rfl, rfl, rfl, trivial⟩ ?_
  refine CW.ret ?_
  refine QW.then_r ?_
  obtain rfl := H
  exact QW.ret1 rfl rfl ⟨T_3, A0, n0, c0, x0, hs_4, hn0, (hx0.mono (fun _ h_ => hs_4.1 _ h_)), rfl, (St.pickT (L := [_]) st_8 [0] (by decide))⟩
 ·have h_11 : (a_6 == (-1)) = false := (beq_eq_false_iff_ne.mpr c_10)
  refine CW.cf rfl h_11 ?_
  refine CW.skip ?_
  refine QW.then_n ?_
  refine CW.seq ?_
  refine CW.seq (CW.region ?_)
  refine WL.val Wanted.none (Runs.move rfl) ?_
  refine WL.val Wanted.none (Runs.add rfl rfl rfl) ?_
  refine WL.val Wanted.none (Runs.assign rfl) ?_
  refine WL.nil (QW.then_n ?_)
  refine CW.sub [(0, .slice A0 n0 c0), (1, .func (.func 41) #[] #[.pointer (some ⟨b1_0, 0, none⟩)]), (4, .slice none 0 0), (5, .int .i64 a_6), (6, .int .i64 (IntKind.i64.wrap (a_6 + 1)))] ⟨rfl, rfl, rfl, rfl, rfl, trivial⟩ ?_
  refine CW.block ?_
  obtain ⟨k_12, H⟩ := H
  refine CW.sub [(0, .slice A0 n0 c0), (1, .func (.func 41) #[] #[.pointer (some ⟨b1_0, 0, none⟩)]), (4, .slice none 0 0), (5, .int .i64 a_6), (6, .int .i64 (IntKind.i64.wrap (a_6 + 1)))] ⟨rfl, rfl, rfl, rfl, rfl, trivial⟩ ?_
  refine CW.loop (fun kL1 l_ w_ => ∃ (T_13 : Pool) (x_17 : Cs) (l_15 : List R69) (x_19 : Int) (x_20 : Int), l_ = [(0, .slice A0 n0 c0), (1, .func (.func 41) #[] #[.pointer (some ⟨b1_0, 0, none⟩)]), (4, .slice none 0 0), (5, .int .i64 x_19), (6, .int .i64 x_20)] ∧ slices_DeleteFunc_s_disk_write_disk_write_clo1_disk_Disk_Tamper_1_own0.L1 a1_0 lr0 kL1 l_15 x_19 x_20 ∧ (Pl T_3 T_13) ∧ (n0 = l_15.length) ∧ (HRs T_13 (f69 w) x_17 l_15) ∧ St w w_ (.sl A0 c0 n0 x_17 69 2 :: (T_13 ++ R))) (k := k_12) ⟨T_3, x0, l0, a_6, IntKind.i64.wrap (a_6 + 1), rfl, H, Pl.refl, hn0, (hx0.mono (fun _ h_ => hs_4.1 _ h_)), st_8⟩ (fun _ _ h => by obtain ⟨_, _, _, _, _, _, h, _⟩ := h; exact h.elim) ?_
  rintro kL1 l_23 w_21 ⟨T_13, x_17, l_15, x_19, x_20, rfl, H, hs_14, hn_16, hx_18, st_22⟩
  refine CW.seq ?_
  refine CW.seq (CW.region ?_)
  refine WL.val Wanted.none (Runs.move rfl) ?_
  refine WL.val Wanted.none (Runs.move rfl) ?_
  refine WL.val Wanted.none (Runs.len_sl Try.underlying64 rfl (by rw [hn_16])) ?_
  refine WL.val Wanted.none (Runs.lss rfl rfl rfl) ?_
  refine WL.nil (QW.then_n ?_)
  rcases H with ⟨c_24, H⟩ | ⟨c_24, H⟩
  ·have h_25 : (decide (x_20 < (l_15.length : Int))) = true := (decide_eq_true c_24)
   refine CW.ct rfl h_25 ?_
   refine CW.skip ?_
   refine QW.then_n ?_
   refine CW.seq ?_
   refine CW.block ?_
   refine CW.seq (CW.region ?_)
   refine WL.val Wanted.none (Runs.move rfl) ?_
   refine WL.val Wanted.none (Runs.move rfl) ?_
   obtain ⟨⟨p_26, q_27⟩, H⟩ := H
   obtain ⟨a_28, e_29, ms_30, hc_31, hm_32⟩ := el_get (i := (x_20).toNat) (st_22.src_sl (k := 0) rfl) hx_18 (fz69 w) (by decide) (by omega)
   obtain ⟨A_33, n_34, c_35, em_37, hb_36⟩ := inv69 hm_32
   replace em_37 : ms_30 = ([.int .i64 ((gx l_15 (x_20.toNat)).1)] : Cs) ++ ([.slice A_33 n_34 c_35] : Cs) := em_37
   subst em_37
   refine WL.val Wanted.none (Runs.indexAddr Try.underlying64 cells69 (by decide) rfl e_29 rfl p_26 (by rw [show n0 = l_15.length from hn_16]; exact q_27) (o := (x_20.toNat) * 2) (by first | rfl | omega)) ?_
   refine WL.val Wanted.none (Runs.load_srcR row69 rfl (Src.cut (st_22.src_sl (k := 0) rfl) e_29 hc_31) rfl) ?_
   refine WL.alloc st_22 zero69 ?_
   intro B_38 w_39 st_40
   replace st_40 : St w w_39 (.cells B_38 (([.int .i64 0] : Cs) ++ ([.slice none 0 0] : Cs)) 69 :: .sl A0 c0 n0 x_17 69 2 :: (T_13 ++ R)) := st_40
   refine WL.store_mid (i := 0) (pre := (([] : Cs))) (mid := (([.int .i64 0] : Cs) ++ ([.slice none 0 0] : Cs))) (post := (([] : Cs))) (ms := (([.int .i64 ((gx l_15 (x_20.toNat)).1)] : Cs) ++ ([.slice A_33 n_34 c_35] : Cs))) st_40 rfl row69 (by first | rfl | simp only [List.append_assoc, List.append_nil, List.nil_append, List.cons_append]) (by first | rfl | simp only [List.length_append, List.length_cons, List.length_nil, iv_length]) rfl rfl (by first | rfl | simp only [List.length_append, List.length_cons, List.length_nil, iv_length]) (by first | rfl | simp only [List.length_append, List.length_cons, List.length_nil, iv_length]) (by intro u hu; simp only [List.mem_append, List.mem_singleton] at hu; rcases hu with hu | hu <;> first | exact one_iv _ _ u hu | (subst hu; rfl)) ?_
   intro w_42 st_43
   replace st_43 : St w w_42 (.cells B_38 (([.int .i64 ((gx l_15 (x_20.toNat)).1)] : Cs) ++ ([.slice A_33 n_34 c_35] : Cs)) 69 :: .sl A0 c0 n0 x_17 69 2 :: (T_13 ++ R)) := by have e_ : (([.int .i64 ((gx l_15 (x_20.toNat)).1)] : Cs) ++ ([.slice A_33 n_34 c_35] : Cs)) = (([] : Cs)) ++ ((([.int .i64 ((gx l_15 (x_20.toNat)).1)] : Cs) ++ ([.slice A_33 n_34 c_35] : Cs)) ++ (([] : Cs))) := (by first | rfl | simp only [List.append_assoc, List.append_nil, List.nil_append, List.cons_append]); have h_ : St w w_42 (.cells B_38 ((([] : Cs)) ++ ((([.int .i64 ((gx l_15 (x_20.toNat)).1)] : Cs) ++ ([.slice A_33 n_34 c_35] : Cs)) ++ (([] : Cs)))) 69 :: .sl A0 c0 n0 x_17 69 2 :: (T_13 ++ R)) := st_43; rw [← e_] at h_; exact h_
   refine WL.nil (QW.then_n ?_)
   refine CW.seq (CW.region ?_)
   refine WL.val Wanted.none (Runs.move rfl) ?_
   refine WL.val Wanted.none (Runs.load_mid row69 rfl st_43 (i := 0) rfl (part_mid (pre := (([] : Cs))) (mid := (([.int .i64 ((gx l_15 (x_20.toNat)).1)] : Cs) ++ ([.slice A_33 n_34 c_35] : Cs))) (post := (([] : Cs))) (by first | rfl | simp only [List.append_assoc, List.append_nil, List.nil_append, List.cons_append]) (by first | rfl | simp only [List.length_append, List.length_cons, List.length_nil, iv_length]) (by first | rfl | simp only [List.length_append, List.length_cons, List.length_nil, iv_length])) (by first | rfl | simp only [List.length_append, List.length_cons, List.length_nil, iv_length])) ?_
   have st_44 : St w w_42 ((T_13 ++ (.cells B_38 (([.int .i64 ((gx l_15 (x_20.toNat)).1)] : Cs) ++ ([.slice A_33 n_34 c_35] : Cs)) 69 :: .sl A0 c0 n0 x_17 69 2 :: R))) := St.hide (A := []) (B := [_, _]) (T := T_13) (R := R) st_43
   obtain ⟨a_49, hr_45, H⟩ := H
   refine WL.callv Wanted.none ent41 rfl rfl (disk_Disk_Tamper_1.calls w w_42 T_13 (.cells B_38 (([.int .i64 ((gx l_15 (x_20.toNat)).1)] : Cs) ++ ([.slice A_33 n_34 c_35] : Cs)) 69 :: .sl A0 c0 n0 x_17 69 2 :: R) ((gx l_15 (x_20.toNat)).1) ((gx l_15 (x_20.toNat)).2) a1_0 A_33 n_34 c_35 b1_0  st_44 hb_36 (hcell1_0.mono (memo_TR (B := [_, _]) (fun _ h_ => hs_14.1 _ (hs_4.1 _ h_)))) a_49 hr_45) ?_
   rintro _ w_50 ⟨T_46, hs_47, rfl, sc_52⟩
   have st_51 : St w w_50 (.cells B_38 (([.int .i64 ((gx l_15 (x_20.toNat)).1)] : Cs) ++ ([.slice A_33 n_34 c_35] : Cs)) 69 :: .sl A0 c0 n0 x_17 69 2 :: (T_46 ++ R)) := St.unhide (A := []) (B := [_, _]) (T := T_46) (R := R) sc_52
   refine ⟨_, rfl, ?_⟩
   refine WL.val Wanted.none (Runs.not rfl rfl) ?_
   refine WL.nil (QW.then_n ?_)
   rcases H with ⟨c_53, H⟩ | ⟨c_53, H⟩
   ·have h_54 : (!a_49) = true := (not_t (Bool.eq_false_iff.mpr c_53))
    refine CW.ct rfl h_54 ?_
    refine CW.seq (CW.region ?_)
    refine WL.val Wanted.none (Runs.move rfl) ?_
    refine WL.val Wanted.none (Runs.move rfl) ?_
    refine WL.val Wanted.none (Runs.load_mid row69 rfl st_51 (i := 0) rfl (part_mid (pre := (([] : Cs))) (mid := (([.int .i64 ((gx l_15 (x_20.toNat)).1)] : Cs) ++ ([.slice A_33 n_34 c_35] : Cs))) (post := (([] : Cs))) (by first | rfl | simp only [List.append_assoc, List.append_nil, List.nil_append, List.cons_append]) (by first | rfl | simp only [List.length_append, List.length_cons, List.length_nil, iv_length]) (by first | rfl | simp only [List.length_append, List.length_cons, List.length_nil, iv_length])) (by first | rfl | simp only [List.length_append, List.length_cons, List.length_nil, iv_length])) ?_
    obtain ⟨⟨p_55, q_56⟩, H⟩ := H
    obtain ⟨a_57, e_58, ms_59, hc_60, hm_61⟩ := el_get (i := (x_19).toNat) (st_51.src_sl (k := 1) rfl) (hx_18.mono (fun _ h_ => hs_47.1 _ h_)) (fz69 w) (by decide) (by omega)
    obtain ⟨A_62, n_63, c_64, em_66, hb_65⟩ := inv69 hm_61
    replace em_66 : ms_59 = ([.int .i64 ((gx l_15 (x_19.toNat)).1)] : Cs) ++ ([.slice A_62 n_63 c_64] : Cs) := em_66
    subst em_66
    refine WL.val Wanted.none (Runs.indexAddr Try.underlying64 cells69 (by decide) rfl e_58 rfl p_55 (by rw [show n0 = l_15.length from hn_16]; exact q_56) (o := (x_19.toNat) * 2) (by first | rfl | omega)) ?_
    obtain ⟨m_67, e_68, H⟩ := H
    have hl_75 := ((hx_18.mono (fun _ h_ => hs_47.1 _ h_))).length (fz69 w)
    refine WL.storeR (i := 1) (o := (x_19.toNat) * 2) (ms := ([.int .i64 ((gx l_15 (x_20.toNat)).1)] : Cs) ++ ([.slice A_33 n_34 c_35] : Cs)) st_51 rfl e_58 row69 rfl rfl rfl (by omega) (HLs.one (T := T_46) (xs := f69 w ((gx l_15 (x_20.toNat)).1, (gx l_15 (x_20.toNat)).2)) (.cons rfl (.cons ⟨_, _, _, rfl, (hb_36.mono (fun _ h_ => hs_47.1 _ h_))⟩ .nil))) ?_
    intro w_69 st_70
    obtain ⟨x_72, e_73⟩ : ∃ x_ : Cs, x_ = List.take ((x_19.toNat) * 2) x_17 ++ (([.int .i64 ((gx l_15 (x_20.toNat)).1)] : Cs) ++ ([.slice A_33 n_34 c_35] : Cs)) ++ List.drop ((x_19.toNat) * 2 + (([.int .i64 ((gx l_15 (x_20.toNat)).1)] : Cs) ++ ([.slice A_33 n_34 c_35] : Cs)).length) x_17 := ⟨_, rfl⟩
    have hx_74 : HRs T_46 (f69 w) x_72 m_67 := by rw [e_73, e_68]; exact HRs.set (ms := ([.int .i64 ((gx l_15 (x_20.toNat)).1)] : Cs) ++ ([.slice A_33 n_34 c_35] : Cs)) (hx_18.mono (fun _ h_ => hs_47.1 _ h_)) (fz69 w) (by omega) (.cons rfl (.cons ⟨_, _, _, rfl, (hb_36.mono (fun _ h_ => hs_47.1 _ h_))⟩ .nil))
    have hn_71 : n0 = m_67.length := by rw [e_68, List.length_set]; exact hn_16
    replace st_70 : St w w_69 (.cells B_38 (([.int .i64 ((gx l_15 (x_20.toNat)).1)] : Cs) ++ ([.slice A_33 n_34 c_35] : Cs)) 69 :: .sl A0 c0 n0 x_72 69 2 :: (T_46 ++ R)) := by rw [e_73]; exact st_70
    refine WL.nil (QW.then_n ?_)
    refine CW.region ?_
    refine WL.val Wanted.none (Runs.move rfl) ?_
    refine WL.val Wanted.none (Runs.add rfl rfl rfl) ?_
    refine WL.val Wanted.none (Runs.assign rfl) ?_
    refine WL.nil ?_
    refine QW.blk_n ?_
    refine QW.then_n ?_
    refine CW.region ?_
    refine WL.val Wanted.none (Runs.move rfl) ?_
    refine WL.val Wanted.none (Runs.add rfl rfl rfl) ?_
    refine WL.val Wanted.none (Runs.assign rfl) ?_
    refine WL.nil ?_
    have st_70' := (St.pickT (L := [_, _]) st_70 [1] (by decide))
    exact QW.at _ (by repeat' constructor) ⟨T_46, x_72, m_67, IntKind.i64.wrap (x_19 + 1), IntKind.i64.wrap (x_20 + 1), rfl, H, (hs_14.trans hs_47), hn_71, hx_74, st_70'⟩
   ·have h_54 : (!a_49) = false := (not_f (Decidable.not_not.mp c_53))
    refine CW.cf rfl h_54 ?_
    refine CW.skip ?_
    refine QW.blk_n ?_
    refine QW.then_n ?_
    refine CW.region ?_
    refine WL.val Wanted.none (Runs.move rfl) ?_
    refine WL.val Wanted.none (Runs.add rfl rfl rfl) ?_
    refine WL.val Wanted.none (Runs.assign rfl) ?_
    refine WL.nil ?_
    have st_51' := (St.pickT (L := [_, _]) st_51 [1] (by decide))
    exact QW.at _ (by repeat' constructor) ⟨T_46, x_17, l_15, x_19, IntKind.i64.wrap (x_20 + 1), rfl, H, (hs_14.trans hs_47), hn_16, (hx_18.mono (fun _ h_ => hs_47.1 _ h_)), st_51'⟩
  ·have h_25 : (decide (x_20 < (l_15.length : Int))) = false := (decide_eq_false c_24)
   refine CW.cf rfl h_25 ?_
   refine CW.exit ?_
   refine QW.then_x ?_
   refine QW.then_x ?_
   refine QW.blk_x ?_
   refine QW.then_n ?_
   refine CW.sub [(0, .slice A0 n0 c0), (4, .slice none 0 0), (5, .int .i64 x_19)] ⟨rfl, rfl, rfl, trivial⟩ ?_
   refine CW.seq (CW.region ?_)
   refine WL.val Wanted.none (Runs.move rfl) ?_
   refine WL.val Wanted.none (Runs.move rfl) ?_
   obtain ⟨⟨p_76, q_77, r_78⟩, H⟩ := H
   have hc_85 : n0 ≤ c0 := st_22.cap (i := 0) rfl
   have hn_86 : n0 = l_15.length := hn_16
   obtain ⟨A_79, e_82⟩ : ∃ B_, B_ = subS A0 (x_19).toNat c0 2 := ⟨_, rfl⟩
   obtain ⟨n_81, e_84⟩ : ∃ n_ : Nat, n_ = ((l_15.length : Int)).toNat - (x_19).toNat := ⟨_, rfl⟩
   obtain ⟨c_80, e_83⟩ : ∃ c_ : Nat, c_ = c0 - (x_19).toNat := ⟨_, rfl⟩
   have hz_87 : n_81 = (prt l_15 x_19 (l_15.length : Int)).length := by rw [prt_length p_76 q_77 r_78]; exact e_84
   have hc_88 : n_81 ≤ c_80 := by have h_ := e_83; omega
   refine WL.val Wanted.none (Runs.sliceS_l Try.underlying64 cells69 (by decide) rfl rfl p_76 (by omega) e_82 (N := n_81) (by rw [e_84, hn_86]; rfl) e_83) ?_
   obtain ⟨hm_89, H⟩ := H
   obtain ⟨m_90, e_91, H⟩ := H
   obtain ⟨n_98, e_99⟩ : ∃ n_ : Nat, n_ = (x_19).toNat := ⟨_, rfl⟩
   refine WL.clearR (q := 0) (j := n_98) st_22 rfl Try.underlying64 elemS69 (by decide) rfl (by rw [e_99]; exact e_82) (by rw [e_99, hn_86, e_84]; omega) (by omega) (by omega) ?_
   intro w_92 st_93
   obtain ⟨x_94, e_95⟩ : ∃ x_ : Cs, x_ = List.take (n_98 * 2) x_17 := ⟨_, rfl⟩
   have hx_96 : HRs T_13 (f69 w) x_94 m_90 := by rw [e_95, e_91, e_99]; exact HRs.takeR hx_18 (fz69 w) _
   have hn_97 : n_98 = m_90.length := by rw [e_91, List.length_take, e_99]; omega
   replace st_93 : St w w_92 (.sl A0 c0 n_98 x_94 69 2 :: (T_13 ++ R)) := by rw [e_95]; exact st_93
   refine WL.nil (QW.then_n ?_)
   refine CW.seq (CW.region ?_)
   refine WL.val Wanted.none (Runs.move rfl) ?_
   refine WL.val Wanted.none (Runs.move rfl) ?_
   refine WL.val Wanted.none (Runs.sliceS_h Try.underlying64 cells69 (by decide) rfl rfl (by omega) (by have h_ := st_93.cap (i := 0) rfl; omega) (subS_zero _ _ _) e_99) ?_
   refine WL.val Wanted.none (Runs.assign rfl) ?_
   refine WL.nil (QW.then_n ?_)
   refine CW.sub [(4, .slice A0 n_98 c0)] ⟨rfl, trivial⟩ ?_
   refine CW.ret ?_
   obtain rfl := H
   exact QW.ret1 rfl rfl ⟨T_13, A0, n_98, c0, x_94, (hs_4.trans hs_14), hn_97, hx_96, rfl, (St.pickT (L := [_]) st_93 [0] (by decide))⟩

/-! ### disk_Disk_Tamper: function 25 -/
def disk_Disk_Tamper.rel (l0_0 : List R22) (l0_1 : List R69) (a0_2 : Int) (a0_3 : Bool) (l0_4 : List R71) (a1 : Int) (l2 : List Int) (ls0_0 : List R22) (ls0_1 : List R69) (as0_2 : Int) (as0_3 : Bool) (ls0_4 : List R71) (ar0 : Int) : Prop := (∃ (l_13_0 : List R22) (l_13_1 : List R69) (a_17_2 : Int) (a_17_3 : Bool) (l_13_4 : List R71) (a_19 : Int), disk_Disk_fits.rel l0_0 l0_1 a0_2 a0_3 l0_4 a1 l2 l_13_0 l_13_1 a_17_2 a_17_3 l_13_4 a_19 ∧ ((a_19 ≠ 0 ∧ ls0_0 = l_13_0 ∧ ls0_1 = l_13_1 ∧ as0_2 = a_17_2 ∧ as0_3 = a_17_3 ∧ ls0_4 = l_13_4 ∧ ar0 = a_19) ∨ (¬ (a_19 ≠ 0) ∧ (∃ (r_31 : List Int), slices_Clone_s_byte_byte.rel l2 r_31 ∧ ((0 ≤ a1 ∧ a1 < (l_13_0.length : Int)) ∧ (∃ m_54 : List R22, m_54 = List.set l_13_0 (a1.toNat) r_31 ∧ (∃ (l_72 : List R69), slices_DeleteFunc_s_disk_write_disk_write_clo1_disk_Disk_Tamper_1_own0.rel l_13_1 a1 l_72 ∧ ls0_0 = m_54 ∧ ls0_1 = l_72 ∧ as0_2 = a_17_2 ∧ as0_3 = a_17_3 ∧ ls0_4 = l_13_4 ∧ ar0 = 0)))))))
set_option maxHeartbeats 1000000 in
set_option maxRecDepth 100000 in
theorem disk_Disk_Tamper.calls (w w1 : World) (T R : Pool) (l0_0 : List R22) (l0_1 : List R69) (a0_2 : Int) (a0_3 : Bool) (l0_4 : List R71) (a1 : Int) (l2 : List Int) (b0 : Nat) (A0_0 : Option Addr) (n0_0 : Nat) (c0_0 : Nat) (x0_0 : Cs) (A0_1 : Option Addr) (n0_1 : Nat) (c0_1 : Nat) (x0_1 : Cs) (A0_4 : Option Addr) (n0_4 : Nat) (c0_4 : Nat) (x0_4 : Cs) (A2 : Option Addr) (n2 : Nat) (c2 : Nat) (st0 : St w w1 (.cells b0 (([.slice A0_0 n0_0 c0_0] : Cs) ++ (([.slice A0_1 n0_1 c0_1] : Cs) ++ (([.int .i64 a0_2] : Cs) ++ (([.bool a0_3] : Cs) ++ ([.slice A0_4 n0_4 c0_4] : Cs))))) 66 :: .sl A0_0 c0_0 n0_0 x0_0 22 1 :: .sl A0_1 c0_1 n0_1 x0_1 69 2 :: .sl A0_4 c0_4 n0_4 x0_4 71 2 :: (T ++ R))) (hn0_0 : n0_0 = l0_0.length) (hx0_0 : HRs T (f22 w) x0_0 l0_0) (hn0_1 : n0_1 = l0_1.length) (hx0_1 : HRs T (f69 w) x0_1 l0_1) (hn0_4 : n0_4 = l0_4.length) (hx0_4 : HRs T (f71 w) x0_4 l0_4) (hb2 : HB w (T ++ R) A2 n2 c2 (iv .u8 l2) l2.length) (ls0_0 : List R22) (ls0_1 : List R69) (as0_2 : Int) (as0_3 : Bool) (ls0_4 : List R71) (ar0 : Int) (H : disk_Disk_Tamper.rel l0_0 l0_1 a0_2 a0_3 l0_4 a1 l2 ls0_0 ls0_1 as0_2 as0_3 ls0_4 ar0) :
  Calls Try.prog 25 #[.pointer (some ⟨b0, 0, none⟩), .int .i64 a1, .slice A2 n2 c2] w1 fun e w' => ∃ T' As0_0 ns0_0 cs0_0 xs0_0 As0_1 ns0_1 cs0_1 xs0_1 As0_4 ns0_4 cs0_4 xs0_4, Pl T T' ∧ ns0_0 = ls0_0.length ∧ HRs T' (f22 w) xs0_0 ls0_0 ∧ ns0_1 = ls0_1.length ∧ HRs T' (f69 w) xs0_1 ls0_1 ∧ ns0_4 = ls0_4.length ∧ HRs T' (f71 w) xs0_4 ls0_4 ∧ e = .returned (.int .i64 ar0) ∧ St w w' (.cells b0 (([.slice As0_0 ns0_0 cs0_0] : Cs) ++ (([.slice As0_1 ns0_1 cs0_1] : Cs) ++ (([.int .i64 as0_2] : Cs) ++ (([.bool as0_3] : Cs) ++ ([.slice As0_4 ns0_4 cs0_4] : Cs))))) 66 :: .sl As0_0 cs0_0 ns0_0 xs0_0 22 1 :: .sl As0_1 cs0_1 ns0_1 xs0_1 69 2 :: .sl As0_4 cs0_4 ns0_4 xs0_4 71 2 :: (T' ++ R)) := by
 refine CW.enter Try.func25 rfl (n := 34) rfl [.pointer (some ⟨b0, 0, none⟩), .int .i64 a1, .slice A2 n2 c2] (Nat.le_of_ble_eq_true rfl) ?_
 refine CW.sub [(0, .pointer (some ⟨b0, 0, none⟩)), (1, .int .i64 a1), (2, .slice A2 n2 c2)] ⟨rfl, rfl, rfl, trivial⟩ ?_
 refine CW.seq (CW.region ?_)
 refine WL.box st0 rfl rfl ?_
 intro B_1 w_2 st_3
 replace st_3 : St w w_2 (.cells B_1 [.int .i64 a1] 3 :: .cells b0 (([.slice A0_0 n0_0 c0_0] : Cs) ++ (([.slice A0_1 n0_1 c0_1] : Cs) ++ (([.int .i64 a0_2] : Cs) ++ (([.bool a0_3] : Cs) ++ ([.slice A0_4 n0_4 c0_4] : Cs))))) 66 :: .sl A0_0 c0_0 n0_0 x0_0 22 1 :: .sl A0_1 c0_1 n0_1 x0_1 69 2 :: .sl A0_4 c0_4 n0_4 x0_4 71 2 :: (T ++ R)) := st_3
 refine WL.val Wanted.none (Runs.assign rfl) ?_
 refine WL.nil (QW.then_n ?_)
 refine CW.seq ?_
 refine CW.seq (CW.region ?_)
 refine WL.val Wanted.none (Runs.move rfl) ?_
 refine WL.val Wanted.none (Runs.eql_ptr Try.underlying25 rfl rfl rfl) ?_
 refine WL.nil (QW.then_n ?_)
 refine CW.cf rfl rfl ?_
 refine CW.skip ?_
 refine QW.then_n ?_
 refine CW.seq ?_
 refine CW.seq (CW.region ?_)
 refine WL.val Wanted.none (Runs.move rfl) ?_
 refine WL.val Wanted.none (Runs.load nagg3 rfl (st_3.cell (k := 0) rfl rfl)) ?_
 refine WL.val Wanted.none (Runs.move rfl) ?_
 have st_5 := (St.pickT (L := [_, _, _, _, _]) st_3 [1, 2, 3, 4, 0] (by decide))
 replace st_5 : St w w_2 (.cells b0 (([.slice A0_0 n0_0 c0_0] : Cs) ++ (([.slice A0_1 n0_1 c0_1] : Cs) ++ (([.int .i64 a0_2] : Cs) ++ (([.bool a0_3] : Cs) ++ ([.slice A0_4 n0_4 c0_4] : Cs))))) 66 :: .sl A0_0 c0_0 n0_0 x0_0 22 1 :: .sl A0_1 c0_1 n0_1 x0_1 69 2 :: .sl A0_4 c0_4 n0_4 x0_4 71 2 :: .cells B_1 [.int .i64 a1] 3 :: (T ++ R)) := st_5
 have st_6 : St w w_2 (.cells b0 (([.slice A0_0 n0_0 c0_0] : Cs) ++ (([.slice A0_1 n0_1 c0_1] : Cs) ++ (([.int .i64 a0_2] : Cs) ++ (([.bool a0_3] : Cs) ++ ([.slice A0_4 n0_4 c0_4] : Cs))))) 66 :: .sl A0_0 c0_0 n0_0 x0_0 22 1 :: .sl A0_1 c0_1 n0_1 x0_1 69 2 :: .sl A0_4 c0_4 n0_4 x0_4 71 2 :: (T ++ (.cells B_1 [.int .i64 a1] 3 :: R))) := St.hide (A := [_, _, _, _]) (B := [_]) (T := T) (R := R) st_5
 obtain ⟨l_13_0, l_13_1, a_17_2, a_17_3, l_13_4, a_19, hr_7, H⟩ := H
 refine WL.call Wanted.none ent28 rfl (disk_Disk_fits.calls w w_2 T (.cells B_1 [.int .i64 a1] 3 :: R) l0_0 l0_1 a0_2 a0_3 l0_4 a1 l2 b0 A0_0 n0_0 c0_0 x0_0 A0_1 n0_1 c0_1 x0_1 A0_4 n0_4 c0_4 x0_4 A2 n2 c2  st_6 (hn0_0) hx0_0 (hn0_1) hx0_1 (hn0_4) hx0_4 (hb2.mono (memo_TR (B := [_]) (fun _ h_ => h_))) l_13_0 l_13_1 a_17_2 a_17_3 l_13_4 a_19 hr_7) ?_
 rintro _ w_20 ⟨T_8, A_10_0, n_11_0, c_12_0, x_14_0, A_10_1, n_11_1, c_12_1, x_14_1, A_10_4, n_11_4, c_12_4, x_14_4, hs_9, hn_15_0, hx_16_0, hn_15_1, hx_16_1, hn_15_4, hx_16_4, rfl, sc_22⟩
 have st_21 : St w w_20 (.cells b0 (([.slice A_10_0 n_11_0 c_12_0] : Cs) ++ (([.slice A_10_1 n_11_1 c_12_1] : Cs) ++ (([.int .i64 a_17_2] : Cs) ++ (([.bool a_17_3] : Cs) ++ ([.slice A_10_4 n_11_4 c_12_4] : Cs))))) 66 :: .sl A_10_0 c_12_0 n_11_0 x_14_0 22 1 :: .sl A_10_1 c_12_1 n_11_1 x_14_1 69 2 :: .sl A_10_4 c_12_4 n_11_4 x_14_4 71 2 :: .cells B_1 [.int .i64 a1] 3 :: (T_8 ++ R)) := St.unhide (A := [_, _, _, _]) (B := [_]) (T := T_8) (R := R) sc_22
 refine ⟨_, rfl, ?_⟩
 refine WL.val Wanted.none (Runs.assign rfl) ?_
 refine WL.nil (QW.then_n ?_)
 refine CW.sub [(0, .pointer (some ⟨b0, 0, none⟩)), (2, .slice A2 n2 c2), (4, .pointer (some ⟨B_1, 0, none⟩)), (6, .int .i64 0), (7, .int .i64 a_19)] ⟨rfl, rfl, rfl, rfl, rfl, trivial⟩ ?_
 refine CW.seq (CW.region ?_)
 refine WL.val Wanted.none (Runs.move rfl) ?_
 refine WL.val Wanted.none (Runs.neq rfl rfl rfl) ?_
 refine WL.nil (QW.then_n ?_)
 rcases H with ⟨c_23, H⟩ | ⟨c_23, H⟩
 ·have h_24 : (a_19 != 0) = true := (bne_iff_ne.mpr c_23)
  refine CW.ct rfl h_24 ?_
  refine CW.seq (CW.region ?_)
  refine WL.val Wanted.none (Runs.move rfl) ?_
  refine WL.val Wanted.none (Runs.assign rfl) ?_
  refine WL.nil (QW.then_n ?_)
  refine CW.ret ?_
  refine QW.then_r ?_
  obtain ⟨rfl, rfl, rfl, rfl, rfl, rfl⟩ := H
  exact QW.ret1 rfl rfl ⟨T_8, A_10_0, n_11_0, c_12_0, x_14_0, A_10_1, n_11_1, c_12_1, x_14_1, A_10_4, n_11_4, c_12_4, x_14_4, hs_9, hn_15_0, hx_16_0, hn_15_1, hx_16_1, hn_15_4, hx_16_4, rfl, (St.pickT (L := [_, _, _, _, _]) st_21 [0, 1, 2, 3] (by decide))⟩
 ·have h_24 : (a_19 != 0) = false := (bne_eq_false_iff_eq.mpr (Decidable.not_not.mp c_23))
  refine CW.cf rfl h_24 ?_
  refine CW.skip ?_
  refine QW.then_n ?_
  refine CW.seq ?_
  refine CW.region_awh (C := fun w_ => St w w_ (.cells b0 (([.slice A_10_0 n_11_0 c_12_0] : Cs) ++ (([.slice A_10_1 n_11_1 c_12_1] : Cs) ++ (([.int .i64 a_17_2] : Cs) ++ (([.bool a_17_3] : Cs) ++ ([.slice A_10_4 n_11_4 c_12_4] : Cs))))) 66 :: .sl A_10_0 c_12_0 n_11_0 x_14_0 22 1 :: .sl A_10_1 c_12_1 n_11_1 x_14_1 69 2 :: .sl A_10_4 c_12_4 n_11_4 x_14_4 71 2 :: .cells B_1 [.int .i64 a1] 3 :: (T_8 ++ R))) 7 wide (by kernel_rfl) st_21 (fun w_25 st_26 => ?_)
  refine AWH.take 0 rfl (by decide) (by kernel_rfl) (by kernel_rfl) st_26 Wanted.none (fun wq sq => (Runs.move rfl)) ?_
  refine AWH.take 1 rfl (by decide) (by kernel_rfl) (by kernel_rfl) st_26 Wanted.none (fun wq sq => (Runs.nilCheck rfl)) ?_
  refine AWH.take 2 rfl (by decide) (by kernel_rfl) (by kernel_rfl) st_26 Wanted.none (fun wq sq => (Runs.fieldAddr (off := 0) (p := 0) fld66_0 rfl rfl rfl)) ?_
  refine AWH.take 3 rfl (by decide) (by kernel_rfl) (by kernel_rfl) st_26 Wanted.none (fun wq sq => (Runs.load nagg41 rfl (sq.cell (k := 0) rfl (part_one (u := .slice A_10_0 n_11_0 c_12_0) (pre := (([] : Cs))) (post := (([.slice A_10_1 n_11_1 c_12_1] : Cs) ++ (([.int .i64 a_17_2] : Cs) ++ (([.bool a_17_3] : Cs) ++ ([.slice A_10_4 n_11_4 c_12_4] : Cs))))) (by first | rfl | simp only [List.append_assoc, List.append_nil, List.nil_append, List.cons_append]) (by first | rfl | simp only [List.length_append, List.length_cons, List.length_nil, iv_length]))))) ?_
  refine AWH.take 4 rfl (by decide) (by kernel_rfl) (by kernel_rfl) st_26 Wanted.none (fun wq sq => (Runs.load nagg3 rfl (sq.cell (k := 4) rfl rfl))) ?_
  refine AWH.take 5 rfl (by decide) (by kernel_rfl) (by kernel_rfl) st_26 Wanted.none (fun wq sq => (Runs.move rfl)) ?_
  refine AWH.step 6 rfl (by decide) (by kernel_rfl) (fun inv_ hs_ hk_ hc_ hn_ => ?_)
  obtain ⟨r_31, hr_27, H⟩ := H
  refine WL.call Wanted.none ent29 rfl (slices_Clone_s_byte_byte.calls w_25 l2 A2 n2 c2 ((hb2.2.2.at st_26 (mem_TR (A := [_, _, _, _, _]) (fun _ h_ => hs_9.1 _ h_)))) (hb2.1) (hb2.2.1) r_31 hr_27) ?_
  rintro _ w_28 ⟨A_32, c_33, n_34, hn_35, rfl, sc_30⟩
  have st_29 : St w w_28 (.sl A_32 c_33 n_34 (iv .u8 r_31) 5 1 :: .cells b0 (([.slice A_10_0 n_11_0 c_12_0] : Cs) ++ (([.slice A_10_1 n_11_1 c_12_1] : Cs) ++ (([.int .i64 a_17_2] : Cs) ++ (([.bool a_17_3] : Cs) ++ ([.slice A_10_4 n_11_4 c_12_4] : Cs))))) 66 :: .sl A_10_0 c_12_0 n_11_0 x_14_0 22 1 :: .sl A_10_1 c_12_1 n_11_1 x_14_1 69 2 :: .sl A_10_4 c_12_4 n_11_4 x_14_4 71 2 :: .cells B_1 [.int .i64 a1] 3 :: (T_8 ++ R)) := st_26.call sc_30
  refine ⟨_, rfl, ?_⟩
  refine WL.nil ?_
  refine AWH.back (St.subset st_26 st_29 (List.forall_mem_cons.2 ⟨List.mem_of_getElem? (i := 1) rfl, (List.forall_mem_cons.2 ⟨List.mem_of_getElem? (i := 2) rfl, (List.forall_mem_cons.2 ⟨List.mem_of_getElem? (i := 3) rfl, (List.forall_mem_cons.2 ⟨List.mem_of_getElem? (i := 4) rfl, (List.forall_mem_cons.2 ⟨List.mem_of_getElem? (i := 5) rfl, (mem_TR (A := [_, _, _, _, _, _]) (fun _ h_ => h_))⟩)⟩)⟩)⟩)⟩)) inv_ hs_ hk_ hc_ hn_ ?_
  refine AWH.tail (by kernel_rfl) ?_
  obtain ⟨⟨p_37, q_38⟩, H⟩ := H
  obtain ⟨a_39, e_40, ms_41, hc_42, hm_43⟩ := el_get (i := (a1).toNat) (st_29.src_sl (k := 2) rfl) hx_16_0 (fz22 w) (by decide) (by omega)
  obtain ⟨A_44, n_45, c_46, em_48, hb_47⟩ := inv22 hm_43
  replace em_48 : ms_41 = ([.slice A_44 n_45 c_46] : Cs) := em_48
  subst em_48
  refine AW.take 7 rfl (by kernel_rfl) (by kernel_rfl) (by kernel_rfl) Wanted.none (fun _ => (Runs.indexAddr Try.underlying41 cells22 (by decide) rfl e_40 rfl p_37 (by rw [show n_11_0 = l_13_0.length from hn_15_0]; exact q_38) (o := (a1.toNat) * 1) (by first | rfl | omega))) ?_
  refine AW.step 8 rfl (by kernel_rfl) ?_
  have hb_53c := st_29.cap (i := 0) rfl
  obtain ⟨T_49, hs_50, hm_51, st_52⟩ := St.freeze (A := []) (B := [_, _, _, _, _]) (T := T_8) (R := R) st_29
  have hb_53 : HB w T_49 A_32 n_34 c_33 (iv .u8 r_31) r_31.length := ⟨hn_35, hb_53c, Hd.of_sl hm_51⟩
  replace st_52 : St w w_28 (.cells b0 (([.slice A_10_0 n_11_0 c_12_0] : Cs) ++ (([.slice A_10_1 n_11_1 c_12_1] : Cs) ++ (([.int .i64 a_17_2] : Cs) ++ (([.bool a_17_3] : Cs) ++ ([.slice A_10_4 n_11_4 c_12_4] : Cs))))) 66 :: .sl A_10_0 c_12_0 n_11_0 x_14_0 22 1 :: .sl A_10_1 c_12_1 n_11_1 x_14_1 69 2 :: .sl A_10_4 c_12_4 n_11_4 x_14_4 71 2 :: .cells B_1 [.int .i64 a1] 3 :: (T_49 ++ R)) := st_52
  obtain ⟨m_54, e_55, H⟩ := H
  have hl_62 := ((hx_16_0.mono (fun _ h_ => hs_50.1 _ h_))).length (fz22 w)
  refine WL.storeF (i := 1) (o := (a1.toNat) * 1) (f := 0) st_52 rfl e_40 cells22 rfl rfl (by omega) rfl ?_
  intro w_56 st_57
  obtain ⟨x_59, e_60⟩ : ∃ x_ : Cs, x_ = List.set x_14_0 ((a1.toNat) * 1 + 0) (.slice A_32 n_34 c_33) := ⟨_, rfl⟩
  have hx_61 : HRs T_49 (f22 w) x_59 m_54 := by rw [e_60, e_55]; exact HRs.setF (j := 0) (u := .slice A_32 n_34 c_33) (hx_16_0.mono (fun _ h_ => hs_50.1 _ h_)) (fz22 w) (by omega) (by decide) hc_42 (.cons ⟨_, _, _, rfl, hb_53⟩ .nil)
  have hn_58 : n_11_0 = m_54.length := by rw [e_55, List.length_set]; exact hn_15_0
  replace st_57 : St w w_56 (.cells b0 (([.slice A_10_0 n_11_0 c_12_0] : Cs) ++ (([.slice A_10_1 n_11_1 c_12_1] : Cs) ++ (([.int .i64 a_17_2] : Cs) ++ (([.bool a_17_3] : Cs) ++ ([.slice A_10_4 n_11_4 c_12_4] : Cs))))) 66 :: .sl A_10_0 c_12_0 n_11_0 x_59 22 1 :: .sl A_10_1 c_12_1 n_11_1 x_14_1 69 2 :: .sl A_10_4 c_12_4 n_11_4 x_14_4 71 2 :: .cells B_1 [.int .i64 a1] 3 :: (T_49 ++ R)) := by rw [e_60]; exact st_57
  refine WL.nil ?_
  refine AW.back  ?_
  refine AW.done (by kernel_rfl) ?_
  refine QW.then_n ?_
  refine CW.sub [(0, .pointer (some ⟨b0, 0, none⟩)), (4, .pointer (some ⟨B_1, 0, none⟩)), (6, .int .i64 0)] ⟨rfl, rfl, rfl, trivial⟩ ?_
  refine CW.seq (CW.region ?_)
  refine WL.val Wanted.none (Runs.move rfl) ?_
  refine WL.val Wanted.none (Runs.move rfl) ?_
  refine WL.val Wanted.none (Runs.nilCheck rfl) ?_
  refine WL.val Wanted.none (Runs.fieldAddr (off := 1) (p := 1) fld66_1 rfl rfl rfl) ?_
  refine WL.val Wanted.none (Runs.load nagg64 rfl (st_57.cell (k := 0) rfl (part_one (u := .slice A_10_1 n_11_1 c_12_1) (pre := (([.slice A_10_0 n_11_0 c_12_0] : Cs))) (post := (([.int .i64 a_17_2] : Cs) ++ (([.bool a_17_3] : Cs) ++ ([.slice A_10_4 n_11_4 c_12_4] : Cs)))) (by first | rfl | simp only [List.append_assoc, List.append_nil, List.nil_append, List.cons_append]) (by first | rfl | simp only [List.length_append, List.length_cons, List.length_nil, iv_length])))) ?_
  refine WL.val Wanted.none (Runs.makeFunc rfl) ?_
  have st_63 := (St.pickT (L := [_, _, _, _, _]) st_57 [2, 0, 1, 3, 4] (by decide))
  replace st_63 : St w w_56 (.sl A_10_1 c_12_1 n_11_1 x_14_1 69 2 :: .cells b0 (([.slice A_10_0 n_11_0 c_12_0] : Cs) ++ (([.slice A_10_1 n_11_1 c_12_1] : Cs) ++ (([.int .i64 a_17_2] : Cs) ++ (([.bool a_17_3] : Cs) ++ ([.slice A_10_4 n_11_4 c_12_4] : Cs))))) 66 :: .sl A_10_0 c_12_0 n_11_0 x_59 22 1 :: .sl A_10_4 c_12_4 n_11_4 x_14_4 71 2 :: .cells B_1 [.int .i64 a1] 3 :: (T_49 ++ R)) := st_63
  have st_64 : St w w_56 (.sl A_10_1 c_12_1 n_11_1 x_14_1 69 2 :: (T_49 ++ (.cells b0 (([.slice A_10_0 n_11_0 c_12_0] : Cs) ++ (([.slice A_10_1 n_11_1 c_12_1] : Cs) ++ (([.int .i64 a_17_2] : Cs) ++ (([.bool a_17_3] : Cs) ++ ([.slice A_10_4 n_11_4 c_12_4] : Cs))))) 66 :: .sl A_10_0 c_12_0 n_11_0 x_59 22 1 :: .sl A_10_4 c_12_4 n_11_4 x_14_4 71 2 :: .cells B_1 [.int .i64 a1] 3 :: R))) := St.hide (A := [_]) (B := [_, _, _, _]) (T := T_49) (R := R) st_63
  obtain ⟨l_72, hr_65, H⟩ := H
  refine WL.call Wanted.none ent40 rfl (slices_DeleteFunc_s_disk_write_disk_write_clo1_disk_Disk_Tamper_1_own0.calls w w_56 T_49 (.cells b0 (([.slice A_10_0 n_11_0 c_12_0] : Cs) ++ (([.slice A_10_1 n_11_1 c_12_1] : Cs) ++ (([.int .i64 a_17_2] : Cs) ++ (([.bool a_17_3] : Cs) ++ ([.slice A_10_4 n_11_4 c_12_4] : Cs))))) 66 :: .sl A_10_0 c_12_0 n_11_0 x_59 22 1 :: .sl A_10_4 c_12_4 n_11_4 x_14_4 71 2 :: .cells B_1 [.int .i64 a1] 3 :: R) l_13_1 a1 A_10_1 n_11_1 c_12_1 x_14_1 B_1  st_64 (hn_15_1) (hx_16_1.mono (fun _ h_ => hs_50.1 _ h_)) (fun W_ L_ st hT => st.cell_mem (hT _ (List.mem_append_right _ (List.mem_of_getElem? (i := 3) rfl))) rfl) l_72 hr_65) ?_
  rintro _ w_76 ⟨T_66, A_69, n_70, c_71, x_73, hs_67, hn_74, hx_75, rfl, sc_78⟩
  have st_77 : St w w_76 (.sl A_69 c_71 n_70 x_73 69 2 :: .cells b0 (([.slice A_10_0 n_11_0 c_12_0] : Cs) ++ (([.slice A_10_1 n_11_1 c_12_1] : Cs) ++ (([.int .i64 a_17_2] : Cs) ++ (([.bool a_17_3] : Cs) ++ ([.slice A_10_4 n_11_4 c_12_4] : Cs))))) 66 :: .sl A_10_0 c_12_0 n_11_0 x_59 22 1 :: .sl A_10_4 c_12_4 n_11_4 x_14_4 71 2 :: .cells B_1 [.int .i64 a1] 3 :: (T_66 ++ R)) := St.unhide (A := [_]) (B := [_, _, _, _]) (T := T_66) (R := R) sc_78
  refine ⟨_, rfl, ?_⟩
  refine WL.val Wanted.none (Runs.nilCheck rfl) ?_
  refine WL.val Wanted.none (Runs.fieldAddr (off := 1) (p := 1) fld66_1 rfl rfl rfl) ?_
  refine WL.store_one (i := 1) (u0 := .slice A_10_1 n_11_1 c_12_1) (pre := (([.slice A_10_0 n_11_0 c_12_0] : Cs))) (post := (([.int .i64 a_17_2] : Cs) ++ (([.bool a_17_3] : Cs) ++ ([.slice A_10_4 n_11_4 c_12_4] : Cs)))) st_77 rfl cells64 (by first | rfl | simp only [List.append_assoc, List.append_nil, List.nil_append, List.cons_append]) (by first | rfl | simp only [List.length_append, List.length_cons, List.length_nil, iv_length]) rfl rfl rfl ?_
  intro w_79 st_80
  replace st_80 : St w w_79 (.sl A_69 c_71 n_70 x_73 69 2 :: .cells b0 (([.slice A_10_0 n_11_0 c_12_0] : Cs) ++ (([.slice A_69 n_70 c_71] : Cs) ++ (([.int .i64 a_17_2] : Cs) ++ (([.bool a_17_3] : Cs) ++ ([.slice A_10_4 n_11_4 c_12_4] : Cs))))) 66 :: .sl A_10_0 c_12_0 n_11_0 x_59 22 1 :: .sl A_10_4 c_12_4 n_11_4 x_14_4 71 2 :: .cells B_1 [.int .i64 a1] 3 :: (T_66 ++ R)) := by have e_ : (([.slice A_10_0 n_11_0 c_12_0] : Cs) ++ (([.slice A_69 n_70 c_71] : Cs) ++ (([.int .i64 a_17_2] : Cs) ++ (([.bool a_17_3] : Cs) ++ ([.slice A_10_4 n_11_4 c_12_4] : Cs))))) = (([.slice A_10_0 n_11_0 c_12_0] : Cs)) ++ ((([.slice A_69 n_70 c_71] : Cs)) ++ (([.int .i64 a_17_2] : Cs) ++ (([.bool a_17_3] : Cs) ++ ([.slice A_10_4 n_11_4 c_12_4] : Cs)))) := (by first | rfl | simp only [List.append_assoc, List.append_nil, List.nil_append, List.cons_append]); have h_ : St w w_79 (.sl A_69 c_71 n_70 x_73 69 2 :: .cells b0 ((([.slice A_10_0 n_11_0 c_12_0] : Cs)) ++ ((([.slice A_69 n_70 c_71] : Cs)) ++ (([.int .i64 a_17_2] : Cs) ++ (([.bool a_17_3] : Cs) ++ ([.slice A_10_4 n_11_4 c_12_4] : Cs))))) 66 :: .sl A_10_0 c_12_0 n_11_0 x_59 22 1 :: .sl A_10_4 c_12_4 n_11_4 x_14_4 71 2 :: .cells B_1 [.int .i64 a1] 3 :: (T_66 ++ R)) := st_80; rw [← e_] at h_; exact h_
  refine WL.nil (QW.then_n ?_)
  refine CW.sub [(6, .int .i64 0)] ⟨rfl, trivial⟩ ?_
  refine CW.seq (CW.region ?_)
  refine WL.val Wanted.none (Runs.assign rfl) ?_
  refine WL.nil (QW.then_n ?_)
  refine CW.ret ?_
  obtain ⟨rfl, rfl, rfl, rfl, rfl, rfl⟩ := H
  exact QW.ret1 rfl rfl ⟨T_66, A_10_0, n_11_0, c_12_0, x_59, A_69, n_70, c_71, x_73, A_10_4, n_11_4, c_12_4, x_14_4, ((hs_9.trans hs_50).trans hs_67), hn_58, (hx_61.mono (fun _ h_ => hs_67.1 _ h_)), hn_74, hx_75, hn_15_4, (hx_16_4.mono (fun _ h_ => hs_67.1 _ (hs_50.1 _ h_))), rfl, (St.pickT (L := [_, _, _, _, _]) st_80 [1, 2, 0, 3] (by decide))⟩

/-! ### reliquaryref06_Tamper: function 36 -/
def reliquaryref06_Tamper.L1 (a0_0 : Int) (l0_2 : List R86) (a0_3 : Int) (a0_4 : Bool) (l0_5 : List R81) (a1 : Int) (ar0_0 : Int) (lr0_1 : List R86) (lr0_2 : List R86) (ar0_3 : Int) (ar0_4 : Bool) (lr0_5 : List R81) (ar1 : Int) (l_30 : List R86) : Nat → (List R86) → Int → Prop
 | 0, _, _ => False
 | kL1 + 1, l_44, x_51 => ((x_51 < (l0_2.length : Int) ∧ ((0 ≤ x_51 ∧ x_51 < (l0_2.length : Int)) ∧ ((((gx l0_2 (x_51.toNat)).1) ≠ a1 ∧ ((0 ≤ x_51 ∧ x_51 < (l0_2.length : Int)) ∧ (∃ m_95 : List R86, m_95 = l_44 ++ ([((gx l0_2 (x_51.toNat)).1, (gx l0_2 (x_51.toNat)).2)] : List R86) ∧ (m_95.length ≤ 1099511627776 ∧ reliquaryref06_Tamper.L1 a0_0 l0_2 a0_3 a0_4 l0_5 a1 ar0_0 lr0_1 lr0_2 ar0_3 ar0_4 lr0_5 ar1 l_30 kL1 m_95 (IntKind.i64.wrap (x_51 + 1)))))) ∨ (¬ (((gx l0_2 (x_51.toNat)).1) ≠ a1) ∧ reliquaryref06_Tamper.L1 a0_0 l0_2 a0_3 a0_4 l0_5 a1 ar0_0 lr0_1 lr0_2 ar0_3 ar0_4 lr0_5 ar1 l_30 kL1 l_44 (IntKind.i64.wrap (x_51 + 1)))))) ∨ (¬ (x_51 < (l0_2.length : Int)) ∧ ar0_0 = a0_0 ∧ lr0_1 = l_30 ∧ lr0_2 = l_44 ∧ ar0_3 = a0_3 ∧ ar0_4 = a0_4 ∧ lr0_5 = l0_5 ∧ ar1 = 0))
def reliquaryref06_Tamper.rel (a0_0 : Int) (l0_1 : List R86) (l0_2 : List R86) (a0_3 : Int) (a0_4 : Bool) (l0_5 : List R81) (a1 : Int) (a2 : ByteArray) (ar0_0 : Int) (lr0_1 : List R86) (lr0_2 : List R86) (ar0_3 : Int) (ar0_4 : Bool) (lr0_5 : List R81) (ar1 : Int) : Prop := (∃ (a_14 : Int), reliquaryref06_fits.rel a0_0 l0_1 l0_2 a0_3 a0_4 l0_5 a1 a2 a_14 ∧ ((a_14 ≠ 0 ∧ ar0_0 = a0_0 ∧ lr0_1 = l0_1 ∧ lr0_2 = l0_2 ∧ ar0_3 = a0_3 ∧ ar0_4 = a0_4 ∧ lr0_5 = l0_5 ∧ ar1 = a_14) ∨ (¬ (a_14 ≠ 0) ∧ (∃ (l_30 : List R86), reliquaryref06_more.rel l0_1 a1 a2 l_30 ∧ (∃ k_ : Nat, reliquaryref06_Tamper.L1 a0_0 l0_2 a0_3 a0_4 l0_5 a1 ar0_0 lr0_1 lr0_2 ar0_3 ar0_4 lr0_5 ar1 l_30 k_ ([] : List R86) 0)))))
set_option maxHeartbeats 1000000 in
set_option maxRecDepth 100000 in
theorem reliquaryref06_Tamper.calls (w w1 : World) (T R : Pool) (a0_0 : Int) (l0_1 : List R86) (l0_2 : List R86) (a0_3 : Int) (a0_4 : Bool) (l0_5 : List R81) (a1 : Int) (a2 : ByteArray) (A0_1 : Option Addr) (n0_1 : Nat) (c0_1 : Nat) (A0_2 : Option Addr) (n0_2 : Nat) (c0_2 : Nat) (A0_5 : Option Addr) (n0_5 : Nat) (c0_5 : Nat) (st0 : St w w1 ((T ++ R))) (hb0_1 : HS w T T A0_1 n0_1 c0_1 (f86 w) l0_1) (hb0_2 : HS w T T A0_2 n0_2 c0_2 (f86 w) l0_2) (hb0_5 : HS w T T A0_5 n0_5 c0_5 (f81 w) l0_5) (ar0_0 : Int) (lr0_1 : List R86) (lr0_2 : List R86) (ar0_3 : Int) (ar0_4 : Bool) (lr0_5 : List R81) (ar1 : Int) (H : reliquaryref06_Tamper.rel a0_0 l0_1 l0_2 a0_3 a0_4 l0_5 a1 a2 ar0_0 lr0_1 lr0_2 ar0_3 ar0_4 lr0_5 ar1) :
  Calls Try.prog 36 #[.agg (([.int .i64 a0_0] : Cs) ++ (([.slice A0_1 n0_1 c0_1] : Cs) ++ (([.slice A0_2 n0_2 c0_2] : Cs) ++ (([.int .i64 a0_3] : Cs) ++ (([.bool a0_4] : Cs) ++ ([.slice A0_5 n0_5 c0_5] : Cs)))))).toArray, .int .i64 a1, .string a2] w1 fun e w' => ∃ T' Ar0_1 nr0_1 cr0_1 Ar0_2 nr0_2 cr0_2 Ar0_5 nr0_5 cr0_5, Pl T T' ∧ HS w T' T' Ar0_1 nr0_1 cr0_1 (f86 w) lr0_1 ∧ HS w T' T' Ar0_2 nr0_2 cr0_2 (f86 w) lr0_2 ∧ HS w T' T' Ar0_5 nr0_5 cr0_5 (f81 w) lr0_5 ∧ e = .returned (.tuple #[.agg (([.int .i64 ar0_0] : Cs) ++ (([.slice Ar0_1 nr0_1 cr0_1] : Cs) ++ (([.slice Ar0_2 nr0_2 cr0_2] : Cs) ++ (([.int .i64 ar0_3] : Cs) ++ (([.bool ar0_4] : Cs) ++ ([.slice Ar0_5 nr0_5 cr0_5] : Cs)))))).toArray, .int .i64 ar1]) ∧ St w w' ((T' ++ R)) := by
 refine CW.enter Try.func36 rfl (n := 52) rfl [.agg (([.int .i64 a0_0] : Cs) ++ (([.slice A0_1 n0_1 c0_1] : Cs) ++ (([.slice A0_2 n0_2 c0_2] : Cs) ++ (([.int .i64 a0_3] : Cs) ++ (([.bool a0_4] : Cs) ++ ([.slice A0_5 n0_5 c0_5] : Cs)))))).toArray, .int .i64 a1, .string a2] (Nat.le_of_ble_eq_true rfl) ?_
 refine CW.sub [(0, .agg (([.int .i64 a0_0] : Cs) ++ (([.slice A0_1 n0_1 c0_1] : Cs) ++ (([.slice A0_2 n0_2 c0_2] : Cs) ++ (([.int .i64 a0_3] : Cs) ++ (([.bool a0_4] : Cs) ++ ([.slice A0_5 n0_5 c0_5] : Cs)))))).toArray), (1, .int .i64 a1), (2, .string a2)] ⟨rfl, rfl, rfl, trivial⟩ ?_
 refine CW.seq (CW.region ?_)
 refine WL.box st0 rfl rfl ?_
 intro B_1 w_2 st_3
 replace st_3 : St w w_2 (.cells B_1 (([.int .i64 a0_0] : Cs) ++ (([.slice A0_1 n0_1 c0_1] : Cs) ++ (([.slice A0_2 n0_2 c0_2] : Cs) ++ (([.int .i64 a0_3] : Cs) ++ (([.bool a0_4] : Cs) ++ ([.slice A0_5 n0_5 c0_5] : Cs)))))) 48 :: (T ++ R)) := st_3
 refine WL.alloc st_3 zero48 ?_
 intro B_5 w_6 st_7
 replace st_7 : St w w_6 (.cells B_5 (([.int .i64 0] : Cs) ++ (([.slice none 0 0] : Cs) ++ (([.slice none 0 0] : Cs) ++ (([.int .i64 0] : Cs) ++ (([.bool false] : Cs) ++ ([.slice none 0 0] : Cs)))))) 48 :: .cells B_1 (([.int .i64 a0_0] : Cs) ++ (([.slice A0_1 n0_1 c0_1] : Cs) ++ (([.slice A0_2 n0_2 c0_2] : Cs) ++ (([.int .i64 a0_3] : Cs) ++ (([.bool a0_4] : Cs) ++ ([.slice A0_5 n0_5 c0_5] : Cs)))))) 48 :: (T ++ R)) := st_7
 refine WL.val Wanted.none (Runs.assign rfl) ?_
 refine WL.nil (QW.then_n ?_)
 refine CW.seq (CW.region ?_)
 refine WL.val Wanted.none (Runs.load_mid row48 rfl st_7 (i := 1) rfl (part_mid (pre := (([] : Cs))) (mid := (([.int .i64 a0_0] : Cs) ++ (([.slice A0_1 n0_1 c0_1] : Cs) ++ (([.slice A0_2 n0_2 c0_2] : Cs) ++ (([.int .i64 a0_3] : Cs) ++ (([.bool a0_4] : Cs) ++ ([.slice A0_5 n0_5 c0_5] : Cs))))))) (post := (([] : Cs))) (by first | rfl | simp only [List.append_assoc, List.append_nil, List.nil_append, List.cons_append]) (by first | rfl | simp only [List.length_append, List.length_cons, List.length_nil, iv_length]) (by first | rfl | simp only [List.length_append, List.length_cons, List.length_nil, iv_length])) (by first | rfl | simp only [List.length_append, List.length_cons, List.length_nil, iv_length])) ?_
 refine WL.val Wanted.none (Runs.move rfl) ?_
 refine WL.val Wanted.none (Runs.move rfl) ?_
 have st_9 : St w w_6 ((T ++ (.cells B_5 (([.int .i64 0] : Cs) ++ (([.slice none 0 0] : Cs) ++ (([.slice none 0 0] : Cs) ++ (([.int .i64 0] : Cs) ++ (([.bool false] : Cs) ++ ([.slice none 0 0] : Cs)))))) 48 :: .cells B_1 (([.int .i64 a0_0] : Cs) ++ (([.slice A0_1 n0_1 c0_1] : Cs) ++ (([.slice A0_2 n0_2 c0_2] : Cs) ++ (([.int .i64 a0_3] : Cs) ++ (([.bool a0_4] : Cs) ++ ([.slice A0_5 n0_5 c0_5] : Cs)))))) 48 :: R))) := St.hide (A := []) (B := [_, _]) (T := T) (R := R) st_7
 obtain ⟨a_14, hr_10, H⟩ := H
 refine WL.call Wanted.none ent44 rfl (reliquaryref06_fits.calls w w_6 T (.cells B_5 (([.int .i64 0] : Cs) ++ (([.slice none 0 0] : Cs) ++ (([.slice none 0 0] : Cs) ++ (([.int .i64 0] : Cs) ++ (([.bool false] : Cs) ++ ([.slice none 0 0] : Cs)))))) 48 :: .cells B_1 (([.int .i64 a0_0] : Cs) ++ (([.slice A0_1 n0_1 c0_1] : Cs) ++ (([.slice A0_2 n0_2 c0_2] : Cs) ++ (([.int .i64 a0_3] : Cs) ++ (([.bool a0_4] : Cs) ++ ([.slice A0_5 n0_5 c0_5] : Cs)))))) 48 :: R) a0_0 l0_1 l0_2 a0_3 a0_4 l0_5 a1 a2 A0_1 n0_1 c0_1 A0_2 n0_2 c0_2 A0_5 n0_5 c0_5  st_9 hb0_1 hb0_2 hb0_5 a_14 hr_10) ?_
 rintro _ w_15 ⟨T_11, hs_12, rfl, sc_17⟩
 have st_16 : St w w_15 (.cells B_5 (([.int .i64 0] : Cs) ++ (([.slice none 0 0] : Cs) ++ (([.slice none 0 0] : Cs) ++ (([.int .i64 0] : Cs) ++ (([.bool false] : Cs) ++ ([.slice none 0 0] : Cs)))))) 48 :: .cells B_1 (([.int .i64 a0_0] : Cs) ++ (([.slice A0_1 n0_1 c0_1] : Cs) ++ (([.slice A0_2 n0_2 c0_2] : Cs) ++ (([.int .i64 a0_3] : Cs) ++ (([.bool a0_4] : Cs) ++ ([.slice A0_5 n0_5 c0_5] : Cs)))))) 48 :: (T_11 ++ R)) := St.unhide (A := []) (B := [_, _]) (T := T_11) (R := R) sc_17
 refine ⟨_, rfl, ?_⟩
 refine WL.val Wanted.none (Runs.assign rfl) ?_
 refine WL.nil (QW.then_n ?_)
 refine CW.seq ?_
 refine CW.seq (CW.region ?_)
 refine WL.val Wanted.none (Runs.move rfl) ?_
 refine WL.val Wanted.none (Runs.neq rfl rfl rfl) ?_
 refine WL.nil (QW.then_n ?_)
 refine CW.sub [(1, .int .i64 a1), (2, .string a2), (3, .pointer (some ⟨B_1, 0, none⟩)), (6, .pointer (some ⟨B_5, 0, none⟩)), (7, .int .i64 0), (8, .int .i64 a_14), (16, .bool (a_14 != 0))] (by repeat' constructor) ?_
 rcases H with ⟨c_18, H⟩ | ⟨c_18, H⟩
 ·have h_19 : (a_14 != 0) = true := (bne_iff_ne.mpr c_18)
  refine CW.ct rfl h_19 ?_
  refine CW.seq (CW.region ?_)
  refine WL.val Wanted.none (Runs.load_mid row48 rfl st_16 (i := 1) rfl (part_mid (pre := (([] : Cs))) (mid := (([.int .i64 a0_0] : Cs) ++ (([.slice A0_1 n0_1 c0_1] : Cs) ++ (([.slice A0_2 n0_2 c0_2] : Cs) ++ (([.int .i64 a0_3] : Cs) ++ (([.bool a0_4] : Cs) ++ ([.slice A0_5 n0_5 c0_5] : Cs))))))) (post := (([] : Cs))) (by first | rfl | simp only [List.append_assoc, List.append_nil, List.nil_append, List.cons_append]) (by first | rfl | simp only [List.length_append, List.length_cons, List.length_nil, iv_length]) (by first | rfl | simp only [List.length_append, List.length_cons, List.length_nil, iv_length])) (by first | rfl | simp only [List.length_append, List.length_cons, List.length_nil, iv_length])) ?_
  refine WL.val Wanted.none (Runs.move rfl) ?_
  refine WL.store_mid (i := 0) (pre := (([] : Cs))) (mid := (([.int .i64 0] : Cs) ++ (([.slice none 0 0] : Cs) ++ (([.slice none 0 0] : Cs) ++ (([.int .i64 0] : Cs) ++ (([.bool false] : Cs) ++ ([.slice none 0 0] : Cs))))))) (post := (([] : Cs))) (ms := (([.int .i64 a0_0] : Cs) ++ (([.slice A0_1 n0_1 c0_1] : Cs) ++ (([.slice A0_2 n0_2 c0_2] : Cs) ++ (([.int .i64 a0_3] : Cs) ++ (([.bool a0_4] : Cs) ++ ([.slice A0_5 n0_5 c0_5] : Cs))))))) st_16 rfl row48 (by first | rfl | simp only [List.append_assoc, List.append_nil, List.nil_append, List.cons_append]) (by first | rfl | simp only [List.length_append, List.length_cons, List.length_nil, iv_length]) rfl rfl (by first | rfl | simp only [List.length_append, List.length_cons, List.length_nil, iv_length]) (by first | rfl | simp only [List.length_append, List.length_cons, List.length_nil, iv_length]) (by intro u hu; simp only [List.mem_append, List.mem_singleton] at hu; rcases hu with hu | hu | hu | hu | hu | hu <;> first | exact one_iv _ _ u hu | (subst hu; rfl)) ?_
  intro w_20 st_21
  replace st_21 : St w w_20 (.cells B_5 (([.int .i64 a0_0] : Cs) ++ (([.slice A0_1 n0_1 c0_1] : Cs) ++ (([.slice A0_2 n0_2 c0_2] : Cs) ++ (([.int .i64 a0_3] : Cs) ++ (([.bool a0_4] : Cs) ++ ([.slice A0_5 n0_5 c0_5] : Cs)))))) 48 :: .cells B_1 (([.int .i64 a0_0] : Cs) ++ (([.slice A0_1 n0_1 c0_1] : Cs) ++ (([.slice A0_2 n0_2 c0_2] : Cs) ++ (([.int .i64 a0_3] : Cs) ++ (([.bool a0_4] : Cs) ++ ([.slice A0_5 n0_5 c0_5] : Cs)))))) 48 :: (T_11 ++ R)) := by have e_ : (([.int .i64 a0_0] : Cs) ++ (([.slice A0_1 n0_1 c0_1] : Cs) ++ (([.slice A0_2 n0_2 c0_2] : Cs) ++ (([.int .i64 a0_3] : Cs) ++ (([.bool a0_4] : Cs) ++ ([.slice A0_5 n0_5 c0_5] : Cs)))))) = (([] : Cs)) ++ ((([.int .i64 a0_0] : Cs) ++ (([.slice A0_1 n0_1 c0_1] : Cs) ++ (([.slice A0_2 n0_2 c0_2] : Cs) ++ (([.int .i64 a0_3] : Cs) ++ (([.bool a0_4] : Cs) ++ ([.slice A0_5 n0_5 c0_5] : Cs)))))) ++ (([] : Cs))) := (by first | rfl | simp only [List.append_assoc, List.append_nil, List.nil_append, List.cons_append]); have h_ : St w w_20 (.cells B_5 ((([] : Cs)) ++ ((([.int .i64 a0_0] : Cs) ++ (([.slice A0_1 n0_1 c0_1] : Cs) ++ (([.slice A0_2 n0_2 c0_2] : Cs) ++ (([.int .i64 a0_3] : Cs) ++ (([.bool a0_4] : Cs) ++ ([.slice A0_5 n0_5 c0_5] : Cs)))))) ++ (([] : Cs)))) 48 :: .cells B_1 (([.int .i64 a0_0] : Cs) ++ (([.slice A0_1 n0_1 c0_1] : Cs) ++ (([.slice A0_2 n0_2 c0_2] : Cs) ++ (([.int .i64 a0_3] : Cs) ++ (([.bool a0_4] : Cs) ++ ([.slice A0_5 n0_5 c0_5] : Cs)))))) 48 :: (T_11 ++ R)) := st_21; rw [← e_] at h_; exact h_
  refine WL.val Wanted.none (Runs.assign rfl) ?_
  refine WL.nil (QW.then_n ?_)
  refine CW.ret ?_
  refine QW.then_r ?_
  obtain ⟨rfl, rfl, rfl, rfl, rfl, rfl, rfl⟩ := H
  exact QW.retN2 rfl (Res.row rfl row48 st_21 (i := 0) rfl (by first | rfl | simp only [List.length_append, List.length_cons, List.length_nil, iv_length])) (Res.tmp rfl) ⟨T_11, A0_1, n0_1, c0_1, A0_2, n0_2, c0_2, A0_5, n0_5, c0_5, hs_12, (hb0_1.mono (fun _ h_ => hs_12.1 _ h_) (fun _ h_ => hs_12.1 _ h_)), (hb0_2.mono (fun _ h_ => hs_12.1 _ h_) (fun _ h_ => hs_12.1 _ h_)), (hb0_5.mono (fun _ h_ => hs_12.1 _ h_) (fun _ h_ => hs_12.1 _ h_)), rfl, (St.pickT (L := [_, _]) st_21 [] (by decide))⟩
 ·have h_19 : (a_14 != 0) = false := (bne_eq_false_iff_eq.mpr (Decidable.not_not.mp c_18))
  refine CW.cf rfl h_19 ?_
  refine CW.skip ?_
  refine QW.then_n ?_
  refine CW.seq (CW.region ?_)
  refine WL.val Wanted.none (Runs.fieldAddr (off := 1) (p := 1) fld48_1 rfl rfl rfl) ?_
  refine WL.val Wanted.none (Runs.load nagg45 rfl (st_16.cell (k := 1) rfl (part_one (u := .slice A0_1 n0_1 c0_1) (pre := (([.int .i64 a0_0] : Cs))) (post := (([.slice A0_2 n0_2 c0_2] : Cs) ++ (([.int .i64 a0_3] : Cs) ++ (([.bool a0_4] : Cs) ++ ([.slice A0_5 n0_5 c0_5] : Cs))))) (by first | rfl | simp only [List.append_assoc, List.append_nil, List.nil_append, List.cons_append]) (by first | rfl | simp only [List.length_append, List.length_cons, List.length_nil, iv_length])))) ?_
  refine WL.val Wanted.none (Runs.move rfl) ?_
  refine WL.val Wanted.none (Runs.move rfl) ?_
  refine WL.val Wanted.none (Runs.build_struct (ps := [(0, 1), (1, 1)]) (cs := (([.int .i64 a1] : Cs) ++ ([.string a2] : Cs))) plc86 zero86 rfl (by refine Fills.cons (o := 0) (ms := (([.int .i64 a1] : Cs))) (show _ = some (0, (([.int .i64 a1] : Cs)).length) by rw [show (([.int .i64 a1] : Cs)).length = 1 from (by first | rfl | simp only [List.length_append, List.length_cons, List.length_nil, iv_length])] <;> rfl) rfl (by have h1_ : (([.int .i64 a1] : Cs)).length = 1 := (by first | rfl | simp only [List.length_append, List.length_cons, List.length_nil, iv_length]); have h2_ : (([.int .i64 0] : Cs) ++ ([.string ByteArray.empty] : Cs)).length = 2 := (by first | rfl | simp only [List.length_append, List.length_cons, List.length_nil, iv_length]); omega) ?_; rw [show layV (([.int .i64 0] : Cs) ++ ([.string ByteArray.empty] : Cs)) 0 (([.int .i64 a1] : Cs)) = (([.int .i64 a1] : Cs) ++ ([.string ByteArray.empty] : Cs)) from (layV_mid (pre := (([] : Cs))) (mid := (([.int .i64 0] : Cs))) (post := (([.string ByteArray.empty] : Cs))) (by first | rfl | simp only [List.append_assoc, List.append_nil, List.nil_append, List.cons_append]) (by first | rfl | simp only [List.length_append, List.length_cons, List.length_nil, iv_length]) (Eq.trans (b := 1) (by first | rfl | simp only [List.length_append, List.length_cons, List.length_nil, iv_length]) (Eq.symm (by first | rfl | simp only [List.length_append, List.length_cons, List.length_nil, iv_length])))).trans (by first | rfl | simp only [List.append_assoc, List.append_nil, List.nil_append, List.cons_append])]; refine Fills.cons (o := 1) (ms := (([.string a2] : Cs))) (show _ = some (1, (([.string a2] : Cs)).length) by rw [show (([.string a2] : Cs)).length = 1 from (by first | rfl | simp only [List.length_append, List.length_cons, List.length_nil, iv_length])] <;> rfl) rfl (by have h1_ : (([.string a2] : Cs)).length = 1 := (by first | rfl | simp only [List.length_append, List.length_cons, List.length_nil, iv_length]); have h2_ : (([.int .i64 a1] : Cs) ++ ([.string ByteArray.empty] : Cs)).length = 2 := (by first | rfl | simp only [List.length_append, List.length_cons, List.length_nil, iv_length]); omega) ?_; rw [show layV (([.int .i64 a1] : Cs) ++ ([.string ByteArray.empty] : Cs)) 1 (([.string a2] : Cs)) = (([.int .i64 a1] : Cs) ++ ([.string a2] : Cs)) from (layV_mid (pre := (([.int .i64 a1] : Cs))) (mid := (([.string ByteArray.empty] : Cs))) (post := (([] : Cs))) (by first | rfl | simp only [List.append_assoc, List.append_nil, List.nil_append, List.cons_append]) (by first | rfl | simp only [List.length_append, List.length_cons, List.length_nil, iv_length]) (Eq.trans (b := 1) (by first | rfl | simp only [List.length_append, List.length_cons, List.length_nil, iv_length]) (Eq.symm (by first | rfl | simp only [List.length_append, List.length_cons, List.length_nil, iv_length])))).trans (by first | rfl | simp only [List.append_assoc, List.append_nil, List.nil_append, List.cons_append])]; exact Fills.nil)) ?_
  have st_22 : St w w_15 ((T_11 ++ (.cells B_5 (([.int .i64 0] : Cs) ++ (([.slice none 0 0] : Cs) ++ (([.slice none 0 0] : Cs) ++ (([.int .i64 0] : Cs) ++ (([.bool false] : Cs) ++ ([.slice none 0 0] : Cs)))))) 48 :: .cells B_1 (([.int .i64 a0_0] : Cs) ++ (([.slice A0_1 n0_1 c0_1] : Cs) ++ (([.slice A0_2 n0_2 c0_2] : Cs) ++ (([.int .i64 a0_3] : Cs) ++ (([.bool a0_4] : Cs) ++ ([.slice A0_5 n0_5 c0_5] : Cs)))))) 48 :: R))) := St.hide (A := []) (B := [_, _]) (T := T_11) (R := R) st_16
  obtain ⟨l_30, hr_23, H⟩ := H
  refine WL.call Wanted.none ent45 rfl (reliquaryref06_more.calls w w_15 T_11 (.cells B_5 (([.int .i64 0] : Cs) ++ (([.slice none 0 0] : Cs) ++ (([.slice none 0 0] : Cs) ++ (([.int .i64 0] : Cs) ++ (([.bool false] : Cs) ++ ([.slice none 0 0] : Cs)))))) 48 :: .cells B_1 (([.int .i64 a0_0] : Cs) ++ (([.slice A0_1 n0_1 c0_1] : Cs) ++ (([.slice A0_2 n0_2 c0_2] : Cs) ++ (([.int .i64 a0_3] : Cs) ++ (([.bool a0_4] : Cs) ++ ([.slice A0_5 n0_5 c0_5] : Cs)))))) 48 :: R) l0_1 a1 a2 A0_1 n0_1 c0_1  st_22 (hb0_1.mono (memo_T (B := [_, _]) (fun _ h_ => hs_12.1 _ h_)) (fun _ h_ => hs_12.1 _ h_)) l_30 hr_23) ?_
  rintro _ w_34 ⟨T_24, A_27, n_28, c_29, x_31, hs_25, hn_32, hx_33, rfl, sc_36⟩
  have st_35 : St w w_34 (.sl A_27 c_29 n_28 x_31 86 2 :: .cells B_5 (([.int .i64 0] : Cs) ++ (([.slice none 0 0] : Cs) ++ (([.slice none 0 0] : Cs) ++ (([.int .i64 0] : Cs) ++ (([.bool false] : Cs) ++ ([.slice none 0 0] : Cs)))))) 48 :: .cells B_1 (([.int .i64 a0_0] : Cs) ++ (([.slice A0_1 n0_1 c0_1] : Cs) ++ (([.slice A0_2 n0_2 c0_2] : Cs) ++ (([.int .i64 a0_3] : Cs) ++ (([.bool a0_4] : Cs) ++ ([.slice A0_5 n0_5 c0_5] : Cs)))))) 48 :: (T_24 ++ R)) := St.unhide (A := [_]) (B := [_, _]) (T := T_24) (R := R) sc_36
  refine ⟨_, rfl, ?_⟩
  refine WL.val Wanted.none (Runs.fieldAddr (off := 1) (p := 1) fld48_1 rfl rfl rfl) ?_
  refine WL.store_one (i := 2) (u0 := .slice A0_1 n0_1 c0_1) (pre := (([.int .i64 a0_0] : Cs))) (post := (([.slice A0_2 n0_2 c0_2] : Cs) ++ (([.int .i64 a0_3] : Cs) ++ (([.bool a0_4] : Cs) ++ ([.slice A0_5 n0_5 c0_5] : Cs))))) st_35 rfl cells45 (by first | rfl | simp only [List.append_assoc, List.append_nil, List.nil_append, List.cons_append]) (by first | rfl | simp only [List.length_append, List.length_cons, List.length_nil, iv_length]) rfl rfl rfl ?_
  intro w_37 st_38
  replace st_38 : St w w_37 (.sl A_27 c_29 n_28 x_31 86 2 :: .cells B_5 (([.int .i64 0] : Cs) ++ (([.slice none 0 0] : Cs) ++ (([.slice none 0 0] : Cs) ++ (([.int .i64 0] : Cs) ++ (([.bool false] : Cs) ++ ([.slice none 0 0] : Cs)))))) 48 :: .cells B_1 (([.int .i64 a0_0] : Cs) ++ (([.slice A_27 n_28 c_29] : Cs) ++ (([.slice A0_2 n0_2 c0_2] : Cs) ++ (([.int .i64 a0_3] : Cs) ++ (([.bool a0_4] : Cs) ++ ([.slice A0_5 n0_5 c0_5] : Cs)))))) 48 :: (T_24 ++ R)) := by have e_ : (([.int .i64 a0_0] : Cs) ++ (([.slice A_27 n_28 c_29] : Cs) ++ (([.slice A0_2 n0_2 c0_2] : Cs) ++ (([.int .i64 a0_3] : Cs) ++ (([.bool a0_4] : Cs) ++ ([.slice A0_5 n0_5 c0_5] : Cs)))))) = (([.int .i64 a0_0] : Cs)) ++ ((([.slice A_27 n_28 c_29] : Cs)) ++ (([.slice A0_2 n0_2 c0_2] : Cs) ++ (([.int .i64 a0_3] : Cs) ++ (([.bool a0_4] : Cs) ++ ([.slice A0_5 n0_5 c0_5] : Cs))))) := (by first | rfl | simp only [List.append_assoc, List.append_nil, List.nil_append, List.cons_append]); have h_ : St w w_37 (.sl A_27 c_29 n_28 x_31 86 2 :: .cells B_5 (([.int .i64 0] : Cs) ++ (([.slice none 0 0] : Cs) ++ (([.slice none 0 0] : Cs) ++ (([.int .i64 0] : Cs) ++ (([.bool false] : Cs) ++ ([.slice none 0 0] : Cs)))))) 48 :: .cells B_1 ((([.int .i64 a0_0] : Cs)) ++ ((([.slice A_27 n_28 c_29] : Cs)) ++ (([.slice A0_2 n0_2 c0_2] : Cs) ++ (([.int .i64 a0_3] : Cs) ++ (([.bool a0_4] : Cs) ++ ([.slice A0_5 n0_5 c0_5] : Cs)))))) 48 :: (T_24 ++ R)) := st_38; rw [← e_] at h_; exact h_
  refine WL.nil (QW.then_n ?_)
  refine CW.sub [(1, .int .i64 a1), (3, .pointer (some ⟨B_1, 0, none⟩)), (6, .pointer (some ⟨B_5, 0, none⟩)), (7, .int .i64 0)] ⟨rfl, rfl, rfl, rfl, trivial⟩ ?_
  refine CW.seq (CW.region ?_)
  refine WL.val Wanted.none (Runs.assign rfl) ?_
  refine WL.nil (QW.then_n ?_)
  refine CW.seq ?_
  refine CW.seq (CW.region ?_)
  refine WL.val Wanted.none (Runs.assign rfl) ?_
  refine WL.nil (QW.then_n ?_)
  refine CW.block ?_
  have st_40 := st_38.nil_sl 86 2
  have st_40 : St w w_37 (.sl none 0 0 ([] : Cs) 86 2 :: .sl A_27 c_29 n_28 x_31 86 2 :: .cells B_5 (([.int .i64 0] : Cs) ++ (([.slice none 0 0] : Cs) ++ (([.slice none 0 0] : Cs) ++ (([.int .i64 0] : Cs) ++ (([.bool false] : Cs) ++ ([.slice none 0 0] : Cs)))))) 48 :: .cells B_1 (([.int .i64 a0_0] : Cs) ++ (([.slice A_27 n_28 c_29] : Cs) ++ (([.slice A0_2 n0_2 c0_2] : Cs) ++ (([.int .i64 a0_3] : Cs) ++ (([.bool a0_4] : Cs) ++ ([.slice A0_5 n0_5 c0_5] : Cs)))))) 48 :: (T_24 ++ R)) := st_40
  obtain ⟨k_41, H⟩ := H
  refine CW.sub [(1, .int .i64 a1), (3, .pointer (some ⟨B_1, 0, none⟩)), (6, .pointer (some ⟨B_5, 0, none⟩)), (7, .int .i64 0), (9, .slice none 0 0), (10, .int .i64 0)] (by repeat' constructor) ?_
  refine CW.loop (fun kL1 l_ w_ => ∃ (T_42 : Pool) (A_48 : Option Addr) (c_49 : Nat) (n_50 : Nat) (x_46 : Cs) (l_44 : List R86) (x_51 : Int), l_ = [(1, .int .i64 a1), (3, .pointer (some ⟨B_1, 0, none⟩)), (6, .pointer (some ⟨B_5, 0, none⟩)), (7, .int .i64 0), (9, .slice A_48 n_50 c_49), (10, .int .i64 x_51)] ∧ reliquaryref06_Tamper.L1 a0_0 l0_2 a0_3 a0_4 l0_5 a1 ar0_0 lr0_1 lr0_2 ar0_3 ar0_4 lr0_5 ar1 l_30 kL1 l_44 x_51 ∧ (Pl T_24 T_42) ∧ (n_50 = l_44.length) ∧ (HRs T_42 (f86 w) x_46 l_44) ∧ St w w_ (.sl A_48 c_49 n_50 x_46 86 2 :: .sl A_27 c_29 n_28 x_31 86 2 :: .cells B_5 (([.int .i64 0] : Cs) ++ (([.slice none 0 0] : Cs) ++ (([.slice none 0 0] : Cs) ++ (([.int .i64 0] : Cs) ++ (([.bool false] : Cs) ++ ([.slice none 0 0] : Cs)))))) 48 :: .cells B_1 (([.int .i64 a0_0] : Cs) ++ (([.slice A_27 n_28 c_29] : Cs) ++ (([.slice A0_2 n0_2 c0_2] : Cs) ++ (([.int .i64 a0_3] : Cs) ++ (([.bool a0_4] : Cs) ++ ([.slice A0_5 n0_5 c0_5] : Cs)))))) 48 :: (T_42 ++ R))) (k := k_41) ⟨T_24, none, 0, 0, ([] : Cs), ([] : List R86), 0, rfl, H, Pl.refl, rfl, (HRs.nil : HRs T_24 (f86 w) [] []), st_40⟩ (fun _ _ h => by obtain ⟨_, _, _, _, _, _, _, _, h, _⟩ := h; exact h.elim) ?_
  rintro kL1 l_54 w_52 ⟨T_42, A_48, c_49, n_50, x_46, l_44, x_51, rfl, H, hs_43, hn_45, hx_47, st_53⟩
  refine CW.seq ?_
  refine CW.seq (CW.region ?_)
  refine WL.val Wanted.none (Runs.move rfl) ?_
  refine WL.val Wanted.none (Runs.fieldAddr (off := 2) (p := 2) fld48_2 rfl rfl rfl) ?_
  refine WL.val Wanted.none (Runs.load nagg45 rfl (st_53.cell (k := 3) rfl (part_one (u := .slice A0_2 n0_2 c0_2) (pre := (([.int .i64 a0_0] : Cs) ++ ([.slice A_27 n_28 c_29] : Cs))) (post := (([.int .i64 a0_3] : Cs) ++ (([.bool a0_4] : Cs) ++ ([.slice A0_5 n0_5 c0_5] : Cs)))) (by first | rfl | simp only [List.append_assoc, List.append_nil, List.nil_append, List.cons_append]) (by first | rfl | simp only [List.length_append, List.length_cons, List.length_nil, iv_length])))) ?_
  refine WL.val Wanted.none (Runs.len_sl Try.underlying45 rfl (by rw [hb0_2.1])) ?_
  refine WL.val Wanted.none (Runs.lss rfl rfl rfl) ?_
  refine WL.nil (QW.then_n ?_)
  rcases H with ⟨c_55, H⟩ | ⟨c_55, H⟩
  ·have h_56 : (decide (x_51 < (l0_2.length : Int))) = true := (decide_eq_true c_55)
   refine CW.ct rfl h_56 ?_
   refine CW.skip ?_
   refine QW.then_n ?_
   refine CW.seq ?_
   refine CW.block ?_
   refine CW.seq (CW.region ?_)
   refine WL.val Wanted.none (Runs.fieldAddr (off := 2) (p := 2) fld48_2 rfl rfl rfl) ?_
   refine WL.val Wanted.none (Runs.load nagg45 rfl (st_53.cell (k := 3) rfl (part_one (u := .slice A0_2 n0_2 c0_2) (pre := (([.int .i64 a0_0] : Cs) ++ ([.slice A_27 n_28 c_29] : Cs))) (post := (([.int .i64 a0_3] : Cs) ++ (([.bool a0_4] : Cs) ++ ([.slice A0_5 n0_5 c0_5] : Cs)))) (by first | rfl | simp only [List.append_assoc, List.append_nil, List.nil_append, List.cons_append]) (by first | rfl | simp only [List.length_append, List.length_cons, List.length_nil, iv_length])))) ?_
   refine WL.val Wanted.none (Runs.move rfl) ?_
   obtain ⟨⟨p_57, q_58⟩, H⟩ := H
   obtain ⟨x_59, hs_60, hr_61⟩ := hb0_2.2.2
   obtain ⟨a_62, e_63, ms_64, hc_65, hm_66⟩ := el_get (i := (x_51).toNat) ((hs_60.at st_53 (mem_T (A := [_, _, _, _]) (fun _ h_ => hs_43.1 _ (hs_25.1 _ (hs_12.1 _ h_)))))) (hr_61.mono (fun _ h_ => hs_43.1 _ (hs_25.1 _ (hs_12.1 _ h_)))) (fz86 w) (by decide) (by omega)
   obtain em_67 := inv86 hm_66
   replace em_67 : ms_64 = ([.int .i64 ((gx l0_2 (x_51.toNat)).1)] : Cs) ++ ([.string ((gx l0_2 (x_51.toNat)).2)] : Cs) := em_67
   subst em_67
   refine WL.val Wanted.none (Runs.indexAddr Try.underlying45 cells86 (by decide) rfl e_63 rfl p_57 (by rw [show n0_2 = l0_2.length from hb0_2.1]; exact q_58) (o := (x_51.toNat) * 2) (by first | rfl | omega)) ?_
   refine WL.val Wanted.none (Runs.fieldAddrB (off := 0) fld86_0 rfl rfl rfl) ?_
   refine WL.val Wanted.none (Runs.load nagg3 rfl (Src.cellAt (j := 0) (Src.cut ((hs_60.at st_53 (mem_T (A := [_, _, _, _]) (fun _ h_ => hs_43.1 _ (hs_25.1 _ (hs_12.1 _ h_)))))) e_63 hc_65) rfl)) ?_
   refine WL.val Wanted.none (Runs.move rfl) ?_
   refine WL.val Wanted.none (Runs.neq rfl rfl rfl) ?_
   refine WL.nil (QW.then_n ?_)
   rcases H with ⟨c_68, H⟩ | ⟨c_68, H⟩
   ·have h_69 : (((gx l0_2 (x_51.toNat)).1) != a1) = true := (bne_iff_ne.mpr c_68)
    refine CW.ct rfl h_69 ?_
    refine CW.region ?_
    refine WL.val Wanted.none (Runs.move rfl) ?_
    refine WL.val Wanted.none (Runs.fieldAddr (off := 2) (p := 2) fld48_2 rfl rfl rfl) ?_
    refine WL.val Wanted.none (Runs.load nagg45 rfl (st_53.cell (k := 3) rfl (part_one (u := .slice A0_2 n0_2 c0_2) (pre := (([.int .i64 a0_0] : Cs) ++ ([.slice A_27 n_28 c_29] : Cs))) (post := (([.int .i64 a0_3] : Cs) ++ (([.bool a0_4] : Cs) ++ ([.slice A0_5 n0_5 c0_5] : Cs)))) (by first | rfl | simp only [List.append_assoc, List.append_nil, List.nil_append, List.cons_append]) (by first | rfl | simp only [List.length_append, List.length_cons, List.length_nil, iv_length])))) ?_
    refine WL.val Wanted.none (Runs.move rfl) ?_
    obtain ⟨⟨p_70, q_71⟩, H⟩ := H
    obtain ⟨x_72, hs_73, hr_74⟩ := hb0_2.2.2
    obtain ⟨a_75, e_76, ms_77, hc_78, hm_79⟩ := el_get (i := (x_51).toNat) ((hs_73.at st_53 (mem_T (A := [_, _, _, _]) (fun _ h_ => hs_43.1 _ (hs_25.1 _ (hs_12.1 _ h_)))))) (hr_74.mono (fun _ h_ => hs_43.1 _ (hs_25.1 _ (hs_12.1 _ h_)))) (fz86 w) (by decide) (by omega)
    obtain em_80 := inv86 hm_79
    replace em_80 : ms_77 = ([.int .i64 ((gx l0_2 (x_51.toNat)).1)] : Cs) ++ ([.string ((gx l0_2 (x_51.toNat)).2)] : Cs) := em_80
    subst em_80
    refine WL.val Wanted.none (Runs.indexAddr Try.underlying45 cells86 (by decide) rfl e_76 rfl p_70 (by rw [show n0_2 = l0_2.length from hb0_2.1]; exact q_71) (o := (x_51.toNat) * 2) (by first | rfl | omega)) ?_
    refine WL.val Wanted.none (Runs.load_srcR row86 rfl (Src.cut ((hs_73.at st_53 (mem_T (A := [_, _, _, _]) (fun _ h_ => hs_43.1 _ (hs_25.1 _ (hs_12.1 _ h_)))))) e_76 hc_78) rfl) ?_
    obtain ⟨ii_81, z_82, h_83, h_84, h_85, h_86⟩ := slr86_1
    refine WL.buildSlRows (sz := 2) (cs := (([.int .i64 ((gx l0_2 (x_51.toNat)).1)] : Cs) ++ ([.string ((gx l0_2 (x_51.toNat)).2)] : Cs))) st_53 Try.underlying45 h_83 h_84 h_85 (by decide) (by decide) h_86 rfl (by refine Fills.cons (o := 0) (ms := (([.int .i64 ((gx l0_2 (x_51.toNat)).1)] : Cs) ++ ([.string ((gx l0_2 (x_51.toNat)).2)] : Cs))) (show _ = some (0, (([.int .i64 ((gx l0_2 (x_51.toNat)).1)] : Cs) ++ ([.string ((gx l0_2 (x_51.toNat)).2)] : Cs)).length) by rw [show (([.int .i64 ((gx l0_2 (x_51.toNat)).1)] : Cs) ++ ([.string ((gx l0_2 (x_51.toNat)).2)] : Cs)).length = 2 from (by first | rfl | simp only [List.length_append, List.length_cons, List.length_nil, iv_length])] <;> rfl) rfl (by have h1_ : (([.int .i64 ((gx l0_2 (x_51.toNat)).1)] : Cs) ++ ([.string ((gx l0_2 (x_51.toNat)).2)] : Cs)).length = 2 := (by first | rfl | simp only [List.length_append, List.length_cons, List.length_nil, iv_length]); have h2_ : (([.int .i64 0] : Cs) ++ ([.string ByteArray.empty] : Cs)).length = 2 := (by first | rfl | simp only [List.length_append, List.length_cons, List.length_nil, iv_length]); omega) ?_; rw [show layV (([.int .i64 0] : Cs) ++ ([.string ByteArray.empty] : Cs)) 0 (([.int .i64 ((gx l0_2 (x_51.toNat)).1)] : Cs) ++ ([.string ((gx l0_2 (x_51.toNat)).2)] : Cs)) = (([.int .i64 ((gx l0_2 (x_51.toNat)).1)] : Cs) ++ ([.string ((gx l0_2 (x_51.toNat)).2)] : Cs)) from (layV_mid (pre := (([] : Cs))) (mid := (([.int .i64 0] : Cs) ++ ([.string ByteArray.empty] : Cs))) (post := (([] : Cs))) (by first | rfl | simp only [List.append_assoc, List.append_nil, List.nil_append, List.cons_append]) (by first | rfl | simp only [List.length_append, List.length_cons, List.length_nil, iv_length]) (Eq.trans (b := 2) (by first | rfl | simp only [List.length_append, List.length_cons, List.length_nil, iv_length]) (Eq.symm (by first | rfl | simp only [List.length_append, List.length_cons, List.length_nil, iv_length])))).trans (by first | rfl | simp only [List.append_assoc, List.append_nil, List.nil_append, List.cons_append])]; exact Fills.nil) ?_
    intro B_87 w_88 st_89
    replace st_89 : St w w_88 (.cells B_87 (([.int .i64 ((gx l0_2 (x_51.toNat)).1)] : Cs) ++ ([.string ((gx l0_2 (x_51.toNat)).2)] : Cs)) 86 :: .sl A_48 c_49 n_50 x_46 86 2 :: .sl A_27 c_29 n_28 x_31 86 2 :: .cells B_5 (([.int .i64 0] : Cs) ++ (([.slice none 0 0] : Cs) ++ (([.slice none 0 0] : Cs) ++ (([.int .i64 0] : Cs) ++ (([.bool false] : Cs) ++ ([.slice none 0 0] : Cs)))))) 48 :: .cells B_1 (([.int .i64 a0_0] : Cs) ++ (([.slice A_27 n_28 c_29] : Cs) ++ (([.slice A0_2 n0_2 c0_2] : Cs) ++ (([.int .i64 a0_3] : Cs) ++ (([.bool a0_4] : Cs) ++ ([.slice A0_5 n0_5 c0_5] : Cs)))))) 48 :: (T_42 ++ R)) := st_89
    have st_91 := St.rows_sl (i := 0) (m := 1) (size := 2) st_89 rfl rfl (by decide)
    obtain ⟨x_92, e_93⟩ : ∃ x_ : Cs, x_ = ([.int .i64 ((gx l0_2 (x_51.toNat)).1)] : Cs) ++ ([.string ((gx l0_2 (x_51.toNat)).2)] : Cs) := ⟨_, rfl⟩
    have hx_94 : HRs T_42 (f86 w) x_92 ([((gx l0_2 (x_51.toNat)).1, (gx l0_2 (x_51.toNat)).2)] : List R86) := by rw [e_93]; exact (HRs.one (.cons rfl (.cons rfl .nil)))
    replace st_91 : St w w_88 (.sl (some ⟨B_87, 0, none⟩) 1 1 x_92 86 2 :: .sl A_48 c_49 n_50 x_46 86 2 :: .sl A_27 c_29 n_28 x_31 86 2 :: .cells B_5 (([.int .i64 0] : Cs) ++ (([.slice none 0 0] : Cs) ++ (([.slice none 0 0] : Cs) ++ (([.int .i64 0] : Cs) ++ (([.bool false] : Cs) ++ ([.slice none 0 0] : Cs)))))) 48 :: .cells B_1 (([.int .i64 a0_0] : Cs) ++ (([.slice A_27 n_28 c_29] : Cs) ++ (([.slice A0_2 n0_2 c0_2] : Cs) ++ (([.int .i64 a0_3] : Cs) ++ (([.bool a0_4] : Cs) ++ ([.slice A0_5 n0_5 c0_5] : Cs)))))) 48 :: (T_42 ++ R)) := by rw [e_93]; exact st_91
    obtain ⟨m_95, e_96, H⟩ := H
    obtain ⟨z_97, H⟩ := H
    obtain ⟨n_100, hn_103⟩ : ∃ n_ : Nat, n_ = m_95.length := ⟨_, rfl⟩
    refine WL.appendR (i := 1) (N := n_100) (news := x_92) Wanted.none st_91 rfl Try.underlying45 elemS86 rfl rfl (st_91.src_sl (k := 0) rfl) (by have h1_ := (hx_94).length (fz86 w); have h2_ : 1 = ([((gx l0_2 (x_51.toNat)).1, (gx l0_2 (x_51.toNat)).2)] : List R86).length := rfl; rw [h1_, h2_]) (HLs.one hx_94) (by decide) (by have h1_ : n_50 = l_44.length := hn_45; have h2_ : 1 = ([((gx l0_2 (x_51.toNat)).1, (gx l0_2 (x_51.toNat)).2)] : List R86).length := rfl; rw [hn_103, e_96, List.length_append]; omega) (by rw [hn_103]; exact z_97) ?_
    intro A_98 c_99 w_101 st_102
    obtain ⟨x_104, e_105⟩ : ∃ x_ : Cs, x_ = x_46 ++ x_92 := ⟨_, rfl⟩
    have hx_106 : HRs T_42 (f86 w) x_104 m_95 := by rw [e_105, e_96]; exact HRs.append hx_47 hx_94
    replace st_102 : St w w_101 (.sl (some ⟨B_87, 0, none⟩) 1 1 x_92 86 2 :: .sl A_98 c_99 n_100 x_104 86 2 :: .sl A_27 c_29 n_28 x_31 86 2 :: .cells B_5 (([.int .i64 0] : Cs) ++ (([.slice none 0 0] : Cs) ++ (([.slice none 0 0] : Cs) ++ (([.int .i64 0] : Cs) ++ (([.bool false] : Cs) ++ ([.slice none 0 0] : Cs)))))) 48 :: .cells B_1 (([.int .i64 a0_0] : Cs) ++ (([.slice A_27 n_28 c_29] : Cs) ++ (([.slice A0_2 n0_2 c0_2] : Cs) ++ (([.int .i64 a0_3] : Cs) ++ (([.bool a0_4] : Cs) ++ ([.slice A0_5 n0_5 c0_5] : Cs)))))) 48 :: (T_42 ++ R)) := by rw [e_105]; exact st_102
    refine WL.val Wanted.none (Runs.assign rfl) ?_
    refine WL.nil ?_
    refine QW.blk_n ?_
    refine QW.then_n ?_
    refine CW.region ?_
    refine WL.val Wanted.none (Runs.move rfl) ?_
    refine WL.val Wanted.none (Runs.add rfl rfl rfl) ?_
    refine WL.val Wanted.none (Runs.assign rfl) ?_
    refine WL.nil ?_
    have st_102' := (St.pickT (L := [_, _, _, _, _]) st_102 [1, 2, 3, 4] (by decide))
    exact QW.at _ (by repeat' constructor) ⟨T_42, A_98, c_99, n_100, x_104, m_95, IntKind.i64.wrap (x_51 + 1), rfl, H, hs_43, hn_103, hx_106, st_102'⟩
   ·have h_69 : (((gx l0_2 (x_51.toNat)).1) != a1) = false := (bne_eq_false_iff_eq.mpr (Decidable.not_not.mp c_68))
    refine CW.cf rfl h_69 ?_
    refine CW.skip ?_
    refine QW.blk_n ?_
    refine QW.then_n ?_
    refine CW.region ?_
    refine WL.val Wanted.none (Runs.move rfl) ?_
    refine WL.val Wanted.none (Runs.add rfl rfl rfl) ?_
    refine WL.val Wanted.none (Runs.assign rfl) ?_
    refine WL.nil ?_
    exact QW.at _ (by repeat' constructor) ⟨T_42, A_48, c_49, n_50, x_46, l_44, IntKind.i64.wrap (x_51 + 1), rfl, H, hs_43, hn_45, hx_47, st_53⟩
  ·have h_56 : (decide (x_51 < (l0_2.length : Int))) = false := (decide_eq_false c_55)
   refine CW.cf rfl h_56 ?_
   refine CW.exit ?_
   refine QW.then_x ?_
   refine QW.then_x ?_
   refine QW.blk_x ?_
   refine QW.then_n ?_
   refine CW.sub [(3, .pointer (some ⟨B_1, 0, none⟩)), (6, .pointer (some ⟨B_5, 0, none⟩)), (7, .int .i64 0), (9, .slice A_48 n_50 c_49)] ⟨rfl, rfl, rfl, rfl, trivial⟩ ?_
   refine CW.seq (CW.region ?_)
   refine WL.val Wanted.none (Runs.move rfl) ?_
   refine WL.val Wanted.none (Runs.fieldAddr (off := 2) (p := 2) fld48_2 rfl rfl rfl) ?_
   refine WL.store_one (i := 3) (u0 := .slice A0_2 n0_2 c0_2) (pre := (([.int .i64 a0_0] : Cs) ++ ([.slice A_27 n_28 c_29] : Cs))) (post := (([.int .i64 a0_3] : Cs) ++ (([.bool a0_4] : Cs) ++ ([.slice A0_5 n0_5 c0_5] : Cs)))) st_53 rfl cells45 (by first | rfl | simp only [List.append_assoc, List.append_nil, List.nil_append, List.cons_append]) (by first | rfl | simp only [List.length_append, List.length_cons, List.length_nil, iv_length]) rfl rfl rfl ?_
   intro w_107 st_108
   replace st_108 : St w w_107 (.sl A_48 c_49 n_50 x_46 86 2 :: .sl A_27 c_29 n_28 x_31 86 2 :: .cells B_5 (([.int .i64 0] : Cs) ++ (([.slice none 0 0] : Cs) ++ (([.slice none 0 0] : Cs) ++ (([.int .i64 0] : Cs) ++ (([.bool false] : Cs) ++ ([.slice none 0 0] : Cs)))))) 48 :: .cells B_1 (([.int .i64 a0_0] : Cs) ++ (([.slice A_27 n_28 c_29] : Cs) ++ (([.slice A_48 n_50 c_49] : Cs) ++ (([.int .i64 a0_3] : Cs) ++ (([.bool a0_4] : Cs) ++ ([.slice A0_5 n0_5 c0_5] : Cs)))))) 48 :: (T_42 ++ R)) := by have e_ : (([.int .i64 a0_0] : Cs) ++ (([.slice A_27 n_28 c_29] : Cs) ++ (([.slice A_48 n_50 c_49] : Cs) ++ (([.int .i64 a0_3] : Cs) ++ (([.bool a0_4] : Cs) ++ ([.slice A0_5 n0_5 c0_5] : Cs)))))) = (([.int .i64 a0_0] : Cs) ++ ([.slice A_27 n_28 c_29] : Cs)) ++ ((([.slice A_48 n_50 c_49] : Cs)) ++ (([.int .i64 a0_3] : Cs) ++ (([.bool a0_4] : Cs) ++ ([.slice A0_5 n0_5 c0_5] : Cs)))) := (by first | rfl | simp only [List.append_assoc, List.append_nil, List.nil_append, List.cons_append]); have h_ : St w w_107 (.sl A_48 c_49 n_50 x_46 86 2 :: .sl A_27 c_29 n_28 x_31 86 2 :: .cells B_5 (([.int .i64 0] : Cs) ++ (([.slice none 0 0] : Cs) ++ (([.slice none 0 0] : Cs) ++ (([.int .i64 0] : Cs) ++ (([.bool false] : Cs) ++ ([.slice none 0 0] : Cs)))))) 48 :: .cells B_1 ((([.int .i64 a0_0] : Cs) ++ ([.slice A_27 n_28 c_29] : Cs)) ++ ((([.slice A_48 n_50 c_49] : Cs)) ++ (([.int .i64 a0_3] : Cs) ++ (([.bool a0_4] : Cs) ++ ([.slice A0_5 n0_5 c0_5] : Cs))))) 48 :: (T_42 ++ R)) := st_108; rw [← e_] at h_; exact h_
   refine WL.nil (QW.then_n ?_)
   refine CW.seq (CW.region ?_)
   refine WL.val Wanted.none (Runs.load_mid row48 rfl st_108 (i := 3) rfl (part_mid (pre := (([] : Cs))) (mid := (([.int .i64 a0_0] : Cs) ++ (([.slice A_27 n_28 c_29] : Cs) ++ (([.slice A_48 n_50 c_49] : Cs) ++ (([.int .i64 a0_3] : Cs) ++ (([.bool a0_4] : Cs) ++ ([.slice A0_5 n0_5 c0_5] : Cs))))))) (post := (([] : Cs))) (by first | rfl | simp only [List.append_assoc, List.append_nil, List.nil_append, List.cons_append]) (by first | rfl | simp only [List.length_append, List.length_cons, List.length_nil, iv_length]) (by first | rfl | simp only [List.length_append, List.length_cons, List.length_nil, iv_length])) (by first | rfl | simp only [List.length_append, List.length_cons, List.length_nil, iv_length])) ?_
   refine WL.store_mid (i := 2) (pre := (([] : Cs))) (mid := (([.int .i64 0] : Cs) ++ (([.slice none 0 0] : Cs) ++ (([.slice none 0 0] : Cs) ++ (([.int .i64 0] : Cs) ++ (([.bool false] : Cs) ++ ([.slice none 0 0] : Cs))))))) (post := (([] : Cs))) (ms := (([.int .i64 a0_0] : Cs) ++ (([.slice A_27 n_28 c_29] : Cs) ++ (([.slice A_48 n_50 c_49] : Cs) ++ (([.int .i64 a0_3] : Cs) ++ (([.bool a0_4] : Cs) ++ ([.slice A0_5 n0_5 c0_5] : Cs))))))) st_108 rfl row48 (by first | rfl | simp only [List.append_assoc, List.append_nil, List.nil_append, List.cons_append]) (by first | rfl | simp only [List.length_append, List.length_cons, List.length_nil, iv_length]) rfl rfl (by first | rfl | simp only [List.length_append, List.length_cons, List.length_nil, iv_length]) (by first | rfl | simp only [List.length_append, List.length_cons, List.length_nil, iv_length]) (by intro u hu; simp only [List.mem_append, List.mem_singleton] at hu; rcases hu with hu | hu | hu | hu | hu | hu <;> first | exact one_iv _ _ u hu | (subst hu; rfl)) ?_
   intro w_109 st_110
   replace st_110 : St w w_109 (.sl A_48 c_49 n_50 x_46 86 2 :: .sl A_27 c_29 n_28 x_31 86 2 :: .cells B_5 (([.int .i64 a0_0] : Cs) ++ (([.slice A_27 n_28 c_29] : Cs) ++ (([.slice A_48 n_50 c_49] : Cs) ++ (([.int .i64 a0_3] : Cs) ++ (([.bool a0_4] : Cs) ++ ([.slice A0_5 n0_5 c0_5] : Cs)))))) 48 :: .cells B_1 (([.int .i64 a0_0] : Cs) ++ (([.slice A_27 n_28 c_29] : Cs) ++ (([.slice A_48 n_50 c_49] : Cs) ++ (([.int .i64 a0_3] : Cs) ++ (([.bool a0_4] : Cs) ++ ([.slice A0_5 n0_5 c0_5] : Cs)))))) 48 :: (T_42 ++ R)) := by have e_ : (([.int .i64 a0_0] : Cs) ++ (([.slice A_27 n_28 c_29] : Cs) ++ (([.slice A_48 n_50 c_49] : Cs) ++ (([.int .i64 a0_3] : Cs) ++ (([.bool a0_4] : Cs) ++ ([.slice A0_5 n0_5 c0_5] : Cs)))))) = (([] : Cs)) ++ ((([.int .i64 a0_0] : Cs) ++ (([.slice A_27 n_28 c_29] : Cs) ++ (([.slice A_48 n_50 c_49] : Cs) ++ (([.int .i64 a0_3] : Cs) ++ (([.bool a0_4] : Cs) ++ ([.slice A0_5 n0_5 c0_5] : Cs)))))) ++ (([] : Cs))) := (by first | rfl | simp only [List.append_assoc, List.append_nil, List.nil_append, List.cons_append]); have h_ : St w w_109 (.sl A_48 c_49 n_50 x_46 86 2 :: .sl A_27 c_29 n_28 x_31 86 2 :: .cells B_5 ((([] : Cs)) ++ ((([.int .i64 a0_0] : Cs) ++ (([.slice A_27 n_28 c_29] : Cs) ++ (([.slice A_48 n_50 c_49] : Cs) ++ (([.int .i64 a0_3] : Cs) ++ (([.bool a0_4] : Cs) ++ ([.slice A0_5 n0_5 c0_5] : Cs)))))) ++ (([] : Cs)))) 48 :: .cells B_1 (([.int .i64 a0_0] : Cs) ++ (([.slice A_27 n_28 c_29] : Cs) ++ (([.slice A_48 n_50 c_49] : Cs) ++ (([.int .i64 a0_3] : Cs) ++ (([.bool a0_4] : Cs) ++ ([.slice A0_5 n0_5 c0_5] : Cs)))))) 48 :: (T_42 ++ R)) := st_110; rw [← e_] at h_; exact h_
   refine WL.val Wanted.none (Runs.assign rfl) ?_
   refine WL.nil (QW.then_n ?_)
   refine CW.ret ?_
   have hb_115c := st_110.cap (i := 1) rfl
   obtain ⟨T_111, hs_112, hm_113, st_114⟩ := St.freeze (A := [_]) (B := [_, _]) (T := T_42) (R := R) st_110
   have hb_115 : HS w T_111 T_111 A_27 n_28 c_29 (f86 w) l_30 := HS.mk hn_32 hb_115c (Hd.of_sl hm_113) (hx_33.mono (fun _ h_ => hs_112.1 _ (hs_43.1 _ h_)))
   replace st_114 : St w w_109 (.sl A_48 c_49 n_50 x_46 86 2 :: .cells B_5 (([.int .i64 a0_0] : Cs) ++ (([.slice A_27 n_28 c_29] : Cs) ++ (([.slice A_48 n_50 c_49] : Cs) ++ (([.int .i64 a0_3] : Cs) ++ (([.bool a0_4] : Cs) ++ ([.slice A0_5 n0_5 c0_5] : Cs)))))) 48 :: .cells B_1 (([.int .i64 a0_0] : Cs) ++ (([.slice A_27 n_28 c_29] : Cs) ++ (([.slice A_48 n_50 c_49] : Cs) ++ (([.int .i64 a0_3] : Cs) ++ (([.bool a0_4] : Cs) ++ ([.slice A0_5 n0_5 c0_5] : Cs)))))) 48 :: (T_111 ++ R)) := st_114
   have hb_120c := st_114.cap (i := 0) rfl
   obtain ⟨T_116, hs_117, hm_118, st_119⟩ := St.freeze (A := []) (B := [_, _]) (T := T_111) (R := R) st_114
   have hb_120 : HS w T_116 T_116 A_48 n_50 c_49 (f86 w) l_44 := HS.mk hn_45 hb_120c (Hd.of_sl hm_118) (hx_47.mono (fun _ h_ => hs_117.1 _ (hs_112.1 _ h_)))
   replace st_119 : St w w_109 (.cells B_5 (([.int .i64 a0_0] : Cs) ++ (([.slice A_27 n_28 c_29] : Cs) ++ (([.slice A_48 n_50 c_49] : Cs) ++ (([.int .i64 a0_3] : Cs) ++ (([.bool a0_4] : Cs) ++ ([.slice A0_5 n0_5 c0_5] : Cs)))))) 48 :: .cells B_1 (([.int .i64 a0_0] : Cs) ++ (([.slice A_27 n_28 c_29] : Cs) ++ (([.slice A_48 n_50 c_49] : Cs) ++ (([.int .i64 a0_3] : Cs) ++ (([.bool a0_4] : Cs) ++ ([.slice A0_5 n0_5 c0_5] : Cs)))))) 48 :: (T_116 ++ R)) := st_119
   obtain ⟨rfl, rfl, rfl, rfl, rfl, rfl, rfl⟩ := H
   exact QW.retN2 rfl (Res.row rfl row48 st_119 (i := 0) rfl (by first | rfl | simp only [List.length_append, List.length_cons, List.length_nil, iv_length])) (Res.tmp rfl) ⟨T_116, A_27, n_28, c_29, A_48, n_50, c_49, A0_5, n0_5, c0_5, ((((hs_12.trans hs_25).trans hs_43).trans hs_112).trans hs_117), (hb_115.mono (fun _ h_ => hs_117.1 _ h_) (fun _ h_ => hs_117.1 _ h_)), hb_120, (hb0_5.mono (fun _ h_ => hs_117.1 _ (hs_112.1 _ (hs_43.1 _ (hs_25.1 _ (hs_12.1 _ h_))))) (fun _ h_ => hs_117.1 _ (hs_112.1 _ (hs_43.1 _ (hs_25.1 _ (hs_12.1 _ h_)))))), rfl, (St.pickT (L := [_, _]) st_119 [] (by decide))⟩

end Go.Proofs.Ytjlifbnkdfofhaa
