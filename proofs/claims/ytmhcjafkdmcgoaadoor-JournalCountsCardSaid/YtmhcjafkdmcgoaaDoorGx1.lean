/- Walks: each function computes what its relation says, and a call of it ends so. Printed by a program of this session (wip/gen). -/
import Derived.Test.YtmhcjafkdmcgoaaDoorGx0
namespace Go.Proofs.YtmhcjafkdmcgoaaDoor
open Go Go.Kr Go.RowKit
set_option linter.unusedVariables false
set_option linter.unusedSimpArgs false
/-! ### disk_New: function 11 -/
def disk_New.L1 (a0 : Int) (or0 : Option ((List R25) × (List R124) × Int × Bool × (List R48))) (ar1 : Int) : Nat → (List R25) → Int → Prop
 | 0, _, _ => False
 | kL1 + 1, l_18, x_25 => ((x_25 < a0 ∧ (∃ m_51 : List R25, m_51 = l_18 ++ ([List.replicate 192 (0 : Int)] : List R25) ∧ (m_51.length ≤ 1099511627776 ∧ disk_New.L1 a0 or0 ar1 kL1 m_51 (IntKind.i64.wrap (x_25 + 1))))) ∨ (¬ (x_25 < a0) ∧ or0 = some (l_18, ([] : List R124), -1, false, ([] : List R48)) ∧ ar1 = 0))
def disk_New.rel (a0 : Int) (or0 : Option ((List R25) × (List R124) × Int × Bool × (List R48))) (ar1 : Int) : Prop := ((a0 < 1 ∧ or0 = none ∧ ar1 = 1) ∨ (¬ (a0 < 1) ∧ ((a0 > 4096 ∧ or0 = none ∧ ar1 = 1) ∨ (¬ (a0 > 4096) ∧ (∃ k_ : Nat, disk_New.L1 a0 or0 ar1 k_ ([] : List R25) 0)))))
set_option maxHeartbeats 1000000 in
set_option maxRecDepth 100000 in
theorem disk_New.calls_obj (w w1 : World) (T R : Pool) (a0 : Int)  (st0 : St w w1 ((T ++ R)))  (lr0_0 : List R25) (lr0_1 : List R124) (ar0_2 : Int) (ar0_3 : Bool) (lr0_4 : List R48) (ar1 : Int) (or0 : Option ((List R25) × (List R124) × Int × Bool × (List R48))) (ho_ : or0 = some (lr0_0, lr0_1, ar0_2, ar0_3, lr0_4)) (H : disk_New.rel a0 or0 ar1) :
  Calls Tryd.prog 11 #[.int .i64 a0] w1 fun e w' => ∃ T' br0 Ar0_0 nr0_0 cr0_0 xr0_0 Ar0_1 nr0_1 cr0_1 xr0_1 Ar0_4 nr0_4 cr0_4 xr0_4, Pl T T' ∧ nr0_0 = lr0_0.length ∧ HRs T' (f25 w) xr0_0 lr0_0 ∧ nr0_1 = lr0_1.length ∧ HRs T' (f124 w) xr0_1 lr0_1 ∧ nr0_4 = lr0_4.length ∧ HRs T' (f48 w) xr0_4 lr0_4 ∧ e = .returned (.tuple #[.pointer (some ⟨br0, 0, none⟩), .int .i64 0]) ∧ St w w' (.cells br0 (([.slice Ar0_0 nr0_0 cr0_0] : Cs) ++ (([.slice Ar0_1 nr0_1 cr0_1] : Cs) ++ (([.int .i64 ar0_2] : Cs) ++ (([.bool ar0_3] : Cs) ++ ([.slice Ar0_4 nr0_4 cr0_4] : Cs))))) 95 :: .sl Ar0_0 cr0_0 nr0_0 xr0_0 25 1 :: .sl Ar0_1 cr0_1 nr0_1 xr0_1 124 2 :: .sl Ar0_4 cr0_4 nr0_4 xr0_4 48 2 :: (T' ++ R)) := by
 refine CW.enter Tryd.func11 rfl (n := 28) rfl [.int .i64 a0] (Nat.le_of_ble_eq_true rfl) ?_
 refine CW.sub [(0, .int .i64 a0)] ⟨rfl, trivial⟩ ?_
 refine CW.seq (CW.region ?_)
 refine WL.val Wanted.none (Runs.assign rfl) ?_
 refine WL.val Wanted.none (Runs.assign rfl) ?_
 refine WL.nil (QW.then_n ?_)
 refine CW.seq ?_
 refine CW.seq (CW.region ?_)
 refine WL.val Wanted.none (Runs.move rfl) ?_
 refine WL.val Wanted.none (Runs.lss rfl rfl rfl) ?_
 refine WL.val Wanted.none (Runs.move rfl) ?_
 rcases H with ⟨c_1, H⟩ | ⟨c_1, H⟩
 ·have h_2 : (decide (a0 < 1)) = true := (decide_eq_true c_1)
  refine WL.off ?_ ?_; exact Wanted.guard (dj := 7) (by rfl) (evb (by rfl) h_2) (by rfl)
  refine WL.off ?_ ?_; exact Wanted.guard (dj := 7) (by rfl) (evb (by rfl) h_2) (by rfl)
  refine WL.val Wanted.none (Runs.pick_t (evb rfl h_2) rfl) ?_
  refine WL.nil (QW.then_n ?_)
  refine CW.ct rfl rfl ?_
  refine CW.seq (CW.region ?_)
  refine WL.val Wanted.none (Runs.assign rfl) ?_
  refine WL.val Wanted.none (Runs.assign rfl) ?_
  refine WL.nil (QW.then_n ?_)
  refine CW.sub [(0, .int .i64 a0), (2, .pointer none), (3, .int .i64 1)] ⟨rfl, rfl, rfl, trivial⟩ ?_
  refine CW.ret ?_
  refine QW.then_r ?_
  exact nomatch (ho_.symm.trans H.1)
 ·have h_2 : (decide (a0 < 1)) = false := (decide_eq_false c_1)
  refine WL.on ?_ ?_; exact Wanted.guard (dj := 7) (by rfl) (evb (by rfl) h_2) (by rfl)
  refine WL.val Wanted.none (Runs.move rfl) ?_
  refine WL.on ?_ ?_; exact Wanted.guard (dj := 7) (by rfl) (evb (by rfl) h_2) (by rfl)
  refine WL.val Wanted.none (Runs.gtr rfl rfl rfl) ?_
  refine WL.val Wanted.none (Runs.pick_f (evb rfl h_2) rfl) ?_
  refine WL.nil (QW.then_n ?_)
  rcases H with ⟨c_3, H⟩ | ⟨c_3, H⟩
  ·have h_4 : (decide (a0 > 4096)) = true := (decide_eq_true c_3)
   refine CW.ct rfl h_4 ?_
   refine CW.seq (CW.region ?_)
   refine WL.val Wanted.none (Runs.assign rfl) ?_
   refine WL.val Wanted.none (Runs.assign rfl) ?_
   refine WL.nil (QW.then_n ?_)
   refine CW.sub [(0, .int .i64 a0), (2, .pointer none), (3, .int .i64 1)] ⟨rfl, rfl, rfl, trivial⟩ ?_
   refine CW.ret ?_
   refine QW.then_r ?_
   exact nomatch (ho_.symm.trans H.1)
  ·have h_4 : (decide (a0 > 4096)) = false := (decide_eq_false c_3)
   refine CW.cf rfl h_4 ?_
   refine CW.skip ?_
   refine QW.then_n ?_
   refine CW.sub [(0, .int .i64 a0), (2, .pointer none), (3, .int .i64 0)] ⟨rfl, rfl, rfl, trivial⟩ ?_
   refine CW.seq (CW.region ?_)
   refine WL.val Wanted.none (Runs.build_struct (ps := [(0, 1), (1, 1), (2, 1), (3, 1), (4, 1)]) (cs := (([.slice none 0 0] : Cs) ++ (([.slice none 0 0] : Cs) ++ (([.int .i64 (-1)] : Cs) ++ (([.bool false] : Cs) ++ ([.slice none 0 0] : Cs)))))) plc95 zero95 rfl (by refine Fills.cons (o := 2) (ms := (([.int .i64 (-1)] : Cs))) (show _ = some (2, (([.int .i64 (-1)] : Cs)).length) by rw [show (([.int .i64 (-1)] : Cs)).length = 1 from (by first | rfl | simp only [List.length_append, List.length_cons, List.length_nil, iv_length])] <;> rfl) rfl (by have h1_ : (([.int .i64 (-1)] : Cs)).length = 1 := (by first | rfl | simp only [List.length_append, List.length_cons, List.length_nil, iv_length]); have h2_ : (([.slice none 0 0] : Cs) ++ (([.slice none 0 0] : Cs) ++ (([.int .i64 0] : Cs) ++ (([.bool false] : Cs) ++ ([.slice none 0 0] : Cs))))).length = 5 := (by first | rfl | simp only [List.length_append, List.length_cons, List.length_nil, iv_length]); omega) ?_; rw [show layV (([.slice none 0 0] : Cs) ++ (([.slice none 0 0] : Cs) ++ (([.int .i64 0] : Cs) ++ (([.bool false] : Cs) ++ ([.slice none 0 0] : Cs))))) 2 (([.int .i64 (-1)] : Cs)) = (([.slice none 0 0] : Cs) ++ (([.slice none 0 0] : Cs) ++ (([.int .i64 (-1)] : Cs) ++ (([.bool false] : Cs) ++ ([.slice none 0 0] : Cs))))) from (layV_mid (pre := (([.slice none 0 0] : Cs) ++ ([.slice none 0 0] : Cs))) (mid := (([.int .i64 0] : Cs))) (post := (([.bool false] : Cs) ++ ([.slice none 0 0] : Cs))) (by first | rfl | simp only [List.append_assoc, List.append_nil, List.nil_append, List.cons_append]) (by first | rfl | simp only [List.length_append, List.length_cons, List.length_nil, iv_length]) (Eq.trans (b := 1) (by first | rfl | simp only [List.length_append, List.length_cons, List.length_nil, iv_length]) (Eq.symm (by first | rfl | simp only [List.length_append, List.length_cons, List.length_nil, iv_length])))).trans (by first | rfl | simp only [List.append_assoc, List.append_nil, List.nil_append, List.cons_append])]; exact Fills.nil)) ?_
   refine WL.box st0 rfl rfl ?_
   intro B_5 w_6 st_7
   replace st_7 : St w w_6 (.cells B_5 (([.slice none 0 0] : Cs) ++ (([.slice none 0 0] : Cs) ++ (([.int .i64 (-1)] : Cs) ++ (([.bool false] : Cs) ++ ([.slice none 0 0] : Cs))))) 95 :: (T ++ R)) := st_7
   have st_10 := st_7.nil_sl 25 1
   have st_10 : St w w_6 (.sl none 0 0 ([] : Cs) 25 1 :: .cells B_5 (([.slice none 0 0] : Cs) ++ (([.slice none 0 0] : Cs) ++ (([.int .i64 (-1)] : Cs) ++ (([.bool false] : Cs) ++ ([.slice none 0 0] : Cs))))) 95 :: (T ++ R)) := st_10
   have st_12 := st_10.nil_sl 124 2
   have st_12 : St w w_6 (.sl none 0 0 ([] : Cs) 124 2 :: .sl none 0 0 ([] : Cs) 25 1 :: .cells B_5 (([.slice none 0 0] : Cs) ++ (([.slice none 0 0] : Cs) ++ (([.int .i64 (-1)] : Cs) ++ (([.bool false] : Cs) ++ ([.slice none 0 0] : Cs))))) 95 :: (T ++ R)) := st_12
   have st_14 := st_12.nil_sl 48 2
   have st_14 : St w w_6 (.sl none 0 0 ([] : Cs) 48 2 :: .sl none 0 0 ([] : Cs) 124 2 :: .sl none 0 0 ([] : Cs) 25 1 :: .cells B_5 (([.slice none 0 0] : Cs) ++ (([.slice none 0 0] : Cs) ++ (([.int .i64 (-1)] : Cs) ++ (([.bool false] : Cs) ++ ([.slice none 0 0] : Cs))))) 95 :: (T ++ R)) := st_14
   refine WL.val Wanted.none (Runs.assign rfl) ?_
   refine WL.nil (QW.then_n ?_)
   refine CW.seq ?_
   refine CW.seq (CW.region ?_)
   refine WL.val Wanted.none (Runs.move rfl) ?_
   refine WL.val Wanted.none (Runs.move rfl) ?_
   refine WL.nil (QW.then_n ?_)
   refine CW.block ?_
   obtain ⟨k_15, H⟩ := H
   refine CW.sub [(2, .pointer none), (3, .int .i64 0), (4, .pointer (some ⟨B_5, 0, none⟩)), (13, .int .i64 a0), (14, .int .i64 0)] ⟨rfl, rfl, rfl, rfl, rfl, trivial⟩ ?_
   refine CW.loop (fun kL1 l_ w_ => ∃ (T_16 : Pool) (A_22 : Option Addr) (c_23 : Nat) (n_24 : Nat) (x_20 : Cs) (l_18 : List R25) (x_25 : Int), l_ = [(2, .pointer none), (3, .int .i64 0), (4, .pointer (some ⟨B_5, 0, none⟩)), (13, .int .i64 a0), (14, .int .i64 x_25)] ∧ disk_New.L1 a0 or0 ar1 kL1 l_18 x_25 ∧ (Pl T T_16) ∧ (n_24 = l_18.length) ∧ (HRs T_16 (f25 w) x_20 l_18) ∧ St w w_ (.sl none 0 0 ([] : Cs) 48 2 :: .sl none 0 0 ([] : Cs) 124 2 :: .sl A_22 c_23 n_24 x_20 25 1 :: .cells B_5 (([.slice A_22 n_24 c_23] : Cs) ++ (([.slice none 0 0] : Cs) ++ (([.int .i64 (-1)] : Cs) ++ (([.bool false] : Cs) ++ ([.slice none 0 0] : Cs))))) 95 :: (T_16 ++ R))) (k := k_15) ⟨T, none, 0, 0, ([] : Cs), ([] : List R25), 0, rfl, H, Pl.refl, rfl, (HRs.nil : HRs T (f25 w) [] []), st_14⟩ (fun _ _ h => by obtain ⟨_, _, _, _, _, _, _, _, h, _⟩ := h; exact h.elim) ?_
   rintro kL1 l_28 w_26 ⟨T_16, A_22, c_23, n_24, x_20, l_18, x_25, rfl, H, hs_17, hn_19, hx_21, st_27⟩
   refine CW.seq (CW.region ?_)
   refine WL.val Wanted.none (Runs.lss rfl rfl rfl) ?_
   refine WL.nil (QW.then_n ?_)
   refine CW.seq ?_
   rcases H with ⟨c_29, H⟩ | ⟨c_29, H⟩
   ·have h_30 : (decide (x_25 < a0)) = true := (decide_eq_true c_29)
    refine CW.ct rfl h_30 ?_
    refine CW.skip ?_
    refine QW.then_n ?_
    refine CW.seq ?_
    refine CW.block ?_
    refine CW.region_awh (C := fun w_ => St w w_ (.sl none 0 0 ([] : Cs) 48 2 :: .sl none 0 0 ([] : Cs) 124 2 :: .cells B_5 (([.slice A_22 n_24 c_23] : Cs) ++ (([.slice none 0 0] : Cs) ++ (([.int .i64 (-1)] : Cs) ++ (([.bool false] : Cs) ++ ([.slice none 0 0] : Cs))))) 95 :: (T_16 ++ R))) 8 wide (by kernel_rfl) st_27 (fun w_31 st_32 => ?_)
    have st_33 : St w w_31 (.sl none 0 0 ([] : Cs) 48 2 :: .sl none 0 0 ([] : Cs) 124 2 :: .cells B_5 (([.slice A_22 n_24 c_23] : Cs) ++ (([.slice none 0 0] : Cs) ++ (([.int .i64 (-1)] : Cs) ++ (([.bool false] : Cs) ++ ([.slice none 0 0] : Cs))))) 95 :: (T_16 ++ R)) := (St.pickT (L := [_, _, _, _]) st_32 [0, 1, 3] (by decide))
    refine AWH.take 0 rfl (by decide) (by kernel_rfl) (by kernel_rfl) (St.subset st_33 st_32 (List.forall_mem_cons.2 ⟨List.mem_of_getElem? (i := 0) rfl, (List.forall_mem_cons.2 ⟨List.mem_of_getElem? (i := 1) rfl, (List.forall_mem_cons.2 ⟨List.mem_of_getElem? (i := 3) rfl, (mem_TR (A := [_, _, _, _]) (fun _ h_ => h_))⟩)⟩)⟩)) Wanted.none (fun wq sq => (Runs.move rfl)) ?_
    refine AWH.take 1 rfl (by decide) (by kernel_rfl) (by kernel_rfl) (St.subset st_33 st_32 (List.forall_mem_cons.2 ⟨List.mem_of_getElem? (i := 0) rfl, (List.forall_mem_cons.2 ⟨List.mem_of_getElem? (i := 1) rfl, (List.forall_mem_cons.2 ⟨List.mem_of_getElem? (i := 3) rfl, (mem_TR (A := [_, _, _, _]) (fun _ h_ => h_))⟩)⟩)⟩)) Wanted.none (fun wq sq => (Runs.move rfl)) ?_
    refine AWH.take 2 rfl (by decide) (by kernel_rfl) (by kernel_rfl) (St.subset st_33 st_32 (List.forall_mem_cons.2 ⟨List.mem_of_getElem? (i := 0) rfl, (List.forall_mem_cons.2 ⟨List.mem_of_getElem? (i := 1) rfl, (List.forall_mem_cons.2 ⟨List.mem_of_getElem? (i := 3) rfl, (mem_TR (A := [_, _, _, _]) (fun _ h_ => h_))⟩)⟩)⟩)) Wanted.none (fun wq sq => (Runs.nilCheck rfl)) ?_
    refine AWH.take 3 rfl (by decide) (by kernel_rfl) (by kernel_rfl) (St.subset st_33 st_32 (List.forall_mem_cons.2 ⟨List.mem_of_getElem? (i := 0) rfl, (List.forall_mem_cons.2 ⟨List.mem_of_getElem? (i := 1) rfl, (List.forall_mem_cons.2 ⟨List.mem_of_getElem? (i := 3) rfl, (mem_TR (A := [_, _, _, _]) (fun _ h_ => h_))⟩)⟩)⟩)) Wanted.none (fun wq sq => (Runs.fieldAddr (off := 0) (p := 0) fld95_0 rfl rfl rfl)) ?_
    refine AWH.take 4 rfl (by decide) (by kernel_rfl) (by kernel_rfl) (St.subset st_33 st_32 (List.forall_mem_cons.2 ⟨List.mem_of_getElem? (i := 0) rfl, (List.forall_mem_cons.2 ⟨List.mem_of_getElem? (i := 1) rfl, (List.forall_mem_cons.2 ⟨List.mem_of_getElem? (i := 3) rfl, (mem_TR (A := [_, _, _, _]) (fun _ h_ => h_))⟩)⟩)⟩)) Wanted.none (fun wq sq => (Runs.load nagg76 rfl (sq.cell (k := 2) rfl (part_one (u := .slice A_22 n_24 c_23) (pre := (([] : Cs))) (post := (([.slice none 0 0] : Cs) ++ (([.int .i64 (-1)] : Cs) ++ (([.bool false] : Cs) ++ ([.slice none 0 0] : Cs))))) (by first | rfl | simp only [List.append_assoc, List.append_nil, List.nil_append, List.cons_append]) (by first | rfl | simp only [List.length_append, List.length_cons, List.length_nil, iv_length]))))) ?_
    refine AWH.step 5 rfl (by decide) (by kernel_rfl) (fun inv_ hs_ hk_ hc_ hn_ => ?_)
    refine WL.make st_32 Tryd.underlying25 elem5 rfl rfl (by decide) (by decide) (by decide) (N := 192) rfl ?_
    intro B_34 w_35 st_36
    replace st_36 : St w w_35 (.sl (some ⟨B_34, 0, none⟩) 192 192 (iv .u8 (List.replicate 192 (0 : Int))) 5 1 :: .sl none 0 0 ([] : Cs) 48 2 :: .sl none 0 0 ([] : Cs) 124 2 :: .sl A_22 c_23 n_24 x_20 25 1 :: .cells B_5 (([.slice A_22 n_24 c_23] : Cs) ++ (([.slice none 0 0] : Cs) ++ (([.int .i64 (-1)] : Cs) ++ (([.bool false] : Cs) ++ ([.slice none 0 0] : Cs))))) 95 :: (T_16 ++ R)) := by rw [iv_replicate] at st_36; exact st_36
    have hn_37 : 192 = (List.replicate 192 (0 : Int)).length := by simp
    refine WL.nil ?_
    refine AWH.back (St.subset st_33 st_36 (List.forall_mem_cons.2 ⟨List.mem_of_getElem? (i := 1) rfl, (List.forall_mem_cons.2 ⟨List.mem_of_getElem? (i := 2) rfl, (List.forall_mem_cons.2 ⟨List.mem_of_getElem? (i := 4) rfl, (mem_TR (A := [_, _, _, _, _]) (fun _ h_ => h_))⟩)⟩)⟩)) inv_ hs_ hk_ hc_ hn_ ?_
    refine AWH.step 6 rfl (by decide) (by kernel_rfl) (fun inv_ hs_ hk_ hc_ hn_ => ?_)
    have hb_43c := st_36.cap (i := 0) rfl
    obtain ⟨T_39, hs_40, hm_41, st_42⟩ := St.freeze (A := []) (B := [_, _, _, _]) (T := T_16) (R := R) st_36
    have hb_43 : HB w T_39 (some ⟨B_34, 0, none⟩) 192 192 (iv .u8 (List.replicate 192 (0 : Int))) (List.replicate 192 (0 : Int)).length := ⟨hn_37, hb_43c, Hd.of_sl hm_41⟩
    replace st_42 : St w w_35 (.sl none 0 0 ([] : Cs) 48 2 :: .sl none 0 0 ([] : Cs) 124 2 :: .sl A_22 c_23 n_24 x_20 25 1 :: .cells B_5 (([.slice A_22 n_24 c_23] : Cs) ++ (([.slice none 0 0] : Cs) ++ (([.int .i64 (-1)] : Cs) ++ (([.bool false] : Cs) ++ ([.slice none 0 0] : Cs))))) 95 :: (T_39 ++ R)) := st_42
    refine WL.buildSl [.slice (some ⟨B_34, 0, none⟩) 192 192] st_42 Tryd.underlying76 elem25 rfl rfl (by decide) (by decide) (by simp [Value.cells]) ?_
    intro B_44 w_45 st_46
    replace st_46 : St w w_45 (.sl (some ⟨B_44, 0, none⟩) 1 1 [.slice (some ⟨B_34, 0, none⟩) 192 192] 25 1 :: .sl none 0 0 ([] : Cs) 48 2 :: .sl none 0 0 ([] : Cs) 124 2 :: .sl A_22 c_23 n_24 x_20 25 1 :: .cells B_5 (([.slice A_22 n_24 c_23] : Cs) ++ (([.slice none 0 0] : Cs) ++ (([.int .i64 (-1)] : Cs) ++ (([.bool false] : Cs) ++ ([.slice none 0 0] : Cs))))) 95 :: (T_39 ++ R)) := st_46
    obtain ⟨x_48, e_49⟩ : ∃ x_ : Cs, x_ = [.slice (some ⟨B_34, 0, none⟩) 192 192] := ⟨_, rfl⟩
    have hx_50 : HRs T_39 (f25 w) x_48 ([List.replicate 192 (0 : Int)] : List R25) := by rw [e_49]; exact (HRs.one (.cons ⟨_, _, _, rfl, hb_43⟩ .nil))
    replace st_46 : St w w_45 (.sl (some ⟨B_44, 0, none⟩) 1 1 x_48 25 1 :: .sl none 0 0 ([] : Cs) 48 2 :: .sl none 0 0 ([] : Cs) 124 2 :: .sl A_22 c_23 n_24 x_20 25 1 :: .cells B_5 (([.slice A_22 n_24 c_23] : Cs) ++ (([.slice none 0 0] : Cs) ++ (([.int .i64 (-1)] : Cs) ++ (([.bool false] : Cs) ++ ([.slice none 0 0] : Cs))))) 95 :: (T_39 ++ R)) := by rw [e_49]; exact st_46
    refine WL.nil ?_
    refine AWH.back (St.subset st_33 st_46 (List.forall_mem_cons.2 ⟨List.mem_of_getElem? (i := 1) rfl, (List.forall_mem_cons.2 ⟨List.mem_of_getElem? (i := 2) rfl, (List.forall_mem_cons.2 ⟨List.mem_of_getElem? (i := 4) rfl, (mem_TR (A := [_, _, _, _, _]) (fun _ h_ => hs_40.1 _ h_))⟩)⟩)⟩)) inv_ hs_ hk_ hc_ hn_ ?_
    refine AWH.step 7 rfl (by decide) (by kernel_rfl) (fun inv_ hs_ hk_ hc_ hn_ => ?_)
    obtain ⟨m_51, e_52, H⟩ := H
    obtain ⟨z_53, H⟩ := H
    obtain ⟨n_56, hn_59⟩ : ∃ n_ : Nat, n_ = m_51.length := ⟨_, rfl⟩
    refine WL.appendR (i := 3) (N := n_56) (news := x_48) Wanted.none st_46 rfl Tryd.underlying76 elemS25 rfl rfl (st_46.src_sl (k := 0) rfl) (by have h1_ := (hx_50).length (fz25 w); have h2_ : 1 = ([List.replicate 192 (0 : Int)] : List R25).length := rfl; rw [h1_, h2_]) (HLs.one hx_50) (by decide) (by have h1_ : n_24 = l_18.length := hn_19; have h2_ : 1 = ([List.replicate 192 (0 : Int)] : List R25).length := rfl; rw [hn_59, e_52, List.length_append]; omega) (by rw [hn_59]; exact z_53) ?_
    intro A_54 c_55 w_57 st_58
    obtain ⟨x_60, e_61⟩ : ∃ x_ : Cs, x_ = x_20 ++ x_48 := ⟨_, rfl⟩
    have hx_62 : HRs T_39 (f25 w) x_60 m_51 := by rw [e_61, e_52]; exact HRs.append (hx_21.mono (fun _ h_ => hs_40.1 _ h_)) hx_50
    replace st_58 : St w w_57 (.sl (some ⟨B_44, 0, none⟩) 1 1 x_48 25 1 :: .sl none 0 0 ([] : Cs) 48 2 :: .sl none 0 0 ([] : Cs) 124 2 :: .sl A_54 c_55 n_56 x_60 25 1 :: .cells B_5 (([.slice A_22 n_24 c_23] : Cs) ++ (([.slice none 0 0] : Cs) ++ (([.int .i64 (-1)] : Cs) ++ (([.bool false] : Cs) ++ ([.slice none 0 0] : Cs))))) 95 :: (T_39 ++ R)) := by rw [e_61]; exact st_58
    refine WL.nil ?_
    refine AWH.back (St.subset st_33 st_58 (List.forall_mem_cons.2 ⟨List.mem_of_getElem? (i := 1) rfl, (List.forall_mem_cons.2 ⟨List.mem_of_getElem? (i := 2) rfl, (List.forall_mem_cons.2 ⟨List.mem_of_getElem? (i := 4) rfl, (mem_TR (A := [_, _, _, _, _]) (fun _ h_ => hs_40.1 _ h_))⟩)⟩)⟩)) inv_ hs_ hk_ hc_ hn_ ?_
    refine AWH.tail (by kernel_rfl) ?_
    refine AW.take 8 rfl (by kernel_rfl) (by kernel_rfl) (by kernel_rfl) Wanted.none (fun _ => (Runs.nilCheck rfl)) ?_
    refine AW.take 9 rfl (by kernel_rfl) (by kernel_rfl) (by kernel_rfl) Wanted.none (fun _ => (Runs.fieldAddr (off := 0) (p := 0) fld95_0 rfl rfl rfl)) ?_
    refine AW.step 10 rfl (by kernel_rfl) ?_
    refine WL.store_one (i := 4) (u0 := .slice A_22 n_24 c_23) (pre := (([] : Cs))) (post := (([.slice none 0 0] : Cs) ++ (([.int .i64 (-1)] : Cs) ++ (([.bool false] : Cs) ++ ([.slice none 0 0] : Cs))))) st_58 rfl cells76 (by first | rfl | simp only [List.append_assoc, List.append_nil, List.nil_append, List.cons_append]) (by first | rfl | simp only [List.length_append, List.length_cons, List.length_nil, iv_length]) rfl rfl rfl ?_
    intro w_63 st_64
    replace st_64 : St w w_63 (.sl (some ⟨B_44, 0, none⟩) 1 1 x_48 25 1 :: .sl none 0 0 ([] : Cs) 48 2 :: .sl none 0 0 ([] : Cs) 124 2 :: .sl A_54 c_55 n_56 x_60 25 1 :: .cells B_5 (([.slice A_54 n_56 c_55] : Cs) ++ (([.slice none 0 0] : Cs) ++ (([.int .i64 (-1)] : Cs) ++ (([.bool false] : Cs) ++ ([.slice none 0 0] : Cs))))) 95 :: (T_39 ++ R)) := by have e_ : (([.slice A_54 n_56 c_55] : Cs) ++ (([.slice none 0 0] : Cs) ++ (([.int .i64 (-1)] : Cs) ++ (([.bool false] : Cs) ++ ([.slice none 0 0] : Cs))))) = (([] : Cs)) ++ ((([.slice A_54 n_56 c_55] : Cs)) ++ (([.slice none 0 0] : Cs) ++ (([.int .i64 (-1)] : Cs) ++ (([.bool false] : Cs) ++ ([.slice none 0 0] : Cs))))) := (by first | rfl | simp only [List.append_assoc, List.append_nil, List.nil_append, List.cons_append]); have h_ : St w w_63 (.sl (some ⟨B_44, 0, none⟩) 1 1 x_48 25 1 :: .sl none 0 0 ([] : Cs) 48 2 :: .sl none 0 0 ([] : Cs) 124 2 :: .sl A_54 c_55 n_56 x_60 25 1 :: .cells B_5 ((([] : Cs)) ++ ((([.slice A_54 n_56 c_55] : Cs)) ++ (([.slice none 0 0] : Cs) ++ (([.int .i64 (-1)] : Cs) ++ (([.bool false] : Cs) ++ ([.slice none 0 0] : Cs)))))) 95 :: (T_39 ++ R)) := st_64; rw [← e_] at h_; exact h_
    refine WL.nil ?_
    refine AW.back  ?_
    refine AW.done (by kernel_rfl) ?_
    refine QW.blk_n ?_
    refine QW.then_n ?_
    refine CW.region ?_
    refine WL.val Wanted.none (Runs.add rfl rfl rfl) ?_
    refine WL.val Wanted.none (Runs.move rfl) ?_
    refine WL.nil ?_
    have st_64' := (St.pickT (L := [_, _, _, _, _]) st_64 [1, 2, 3, 4] (by decide))
    exact QW.at _ (by repeat' constructor) ⟨T_39, A_54, c_55, n_56, x_60, m_51, IntKind.i64.wrap (x_25 + 1), rfl, H, (hs_17.trans hs_40), hn_59, hx_62, st_64'⟩
   ·have h_30 : (decide (x_25 < a0)) = false := (decide_eq_false c_29)
    refine CW.cf rfl h_30 ?_
    refine CW.exit ?_
    refine QW.then_x ?_
    refine QW.then_x ?_
    refine QW.blk_x ?_
    refine QW.then_n ?_
    refine CW.seq (CW.region ?_)
    refine WL.val Wanted.none (Runs.move rfl) ?_
    refine WL.val Wanted.none (Runs.assign rfl) ?_
    refine WL.val Wanted.none (Runs.assign rfl) ?_
    refine WL.nil (QW.then_n ?_)
    refine CW.ret ?_
    obtain ⟨h_, rfl⟩ := H
    replace h_ := ho_.symm.trans h_
    cases h_
    exact QW.ret2 rfl rfl rfl ⟨T_16, B_5, A_22, n_24, c_23, x_20, none, 0, 0, ([] : Cs), none, 0, 0, ([] : Cs), hs_17, hn_19, hx_21, rfl, ((HRs.nil : HRs T (f124 w) [] []).mono (fun _ h_ => hs_17.1 _ h_)), rfl, ((HRs.nil : HRs T (f48 w) [] []).mono (fun _ h_ => hs_17.1 _ h_)), rfl, (St.pickT (L := [_, _, _, _]) st_27 [3, 2, 1, 0] (by decide))⟩

/-! ### journal_may: function 36 -/
def journal_may.rel (a0_0 : Int) (a0_1 : Int) (l0_2 : List Int) (a1 : Int) (r0 : Bool) : Prop := ((a0_0 < a1 ∧ r0 = (decide (a0_1 ≤ a1))) ∨ (¬ (a0_0 < a1) ∧ r0 = false))
set_option maxHeartbeats 4000000 in
set_option maxRecDepth 100000 in
theorem journal_may.calls (w : World) (a0_0 : Int) (a0_1 : Int) (l0_2 : List Int) (a1 : Int)   (hl0_2 : l0_2.length = 32) (r0 : Bool) (H : journal_may.rel a0_0 a0_1 l0_2 a1 r0) :
  Calls Tryd.prog 36 #[.agg (([.int .u64 a0_0] : Cs) ++ (([.int .u64 a0_1] : Cs) ++ iv .u8 l0_2)).toArray, .int .u64 a1] w fun e w' => e = .returned (.bool r0) ∧ St w w' [] := by
 refine CW.enter Tryd.func36 rfl (n := 15) rfl [.agg (([.int .u64 a0_0] : Cs) ++ (([.int .u64 a0_1] : Cs) ++ iv .u8 l0_2)).toArray, .int .u64 a1] (Nat.le_of_ble_eq_true rfl) ?_
 refine CW.sub [(0, .agg (([.int .u64 a0_0] : Cs) ++ (([.int .u64 a0_1] : Cs) ++ iv .u8 l0_2)).toArray), (1, .int .u64 a1)] ⟨rfl, rfl, trivial⟩ ?_
 have st0 : St w w [] := St.refl w
 refine CW.seq (CW.region ?_)
 refine WL.box st0 rfl rfl ?_
 intro B_1 w_2 st_3
 replace st_3 : St w w_2 [.cells B_1 (([.int .u64 a0_0] : Cs) ++ (([.int .u64 a0_1] : Cs) ++ iv .u8 l0_2)) 39] := st_3
 refine WL.val Wanted.none (Runs.assign rfl) ?_
 refine WL.nil (QW.then_n ?_)
 refine CW.seq (CW.region ?_)
 refine WL.val Wanted.none (Runs.fieldAddr (off := 0) (p := 0) fld39_0 rfl rfl rfl) ?_
 refine WL.val Wanted.none (Runs.load nagg37 rfl (st_3.cell (k := 0) rfl (part_one (u := .int .u64 a0_0) (pre := (([] : Cs))) (post := (([.int .u64 a0_1] : Cs) ++ iv .u8 l0_2)) (by first | rfl | simp only [List.append_assoc, List.append_nil, List.nil_append, List.cons_append]) (by first | rfl | simp only [List.length_append, List.length_cons, List.length_nil, iv_length])))) ?_
 refine WL.val Wanted.none (Runs.move rfl) ?_
 refine WL.val Wanted.none (Runs.lss rfl rfl rfl) ?_
 refine WL.val Wanted.none (Runs.move rfl) ?_
 rcases H with ⟨c_5, H⟩ | ⟨c_5, H⟩
 ·have h_6 : (decide (a0_0 < a1)) = true := (decide_eq_true c_5)
  refine WL.on ?_ ?_; exact Wanted.guard (dj := 9) (by rfl) (evb (by rfl) h_6) (by rfl)
  refine WL.val Wanted.none (Runs.fieldAddr (off := 1) (p := 1) fld39_1 rfl rfl rfl) ?_
  refine WL.on ?_ ?_; exact Wanted.guard (dj := 9) (by rfl) (evb (by rfl) h_6) (by rfl)
  refine WL.val Wanted.none (Runs.load nagg37 rfl (st_3.cell (k := 0) rfl (part_one (u := .int .u64 a0_1) (pre := (([.int .u64 a0_0] : Cs))) (post := (iv .u8 l0_2)) (by first | rfl | simp only [List.append_assoc, List.append_nil, List.nil_append, List.cons_append]) (by first | rfl | simp only [List.length_append, List.length_cons, List.length_nil, iv_length])))) ?_
  refine WL.on ?_ ?_; exact Wanted.guard (dj := 9) (by rfl) (evb (by rfl) h_6) (by rfl)
  refine WL.val Wanted.none (Runs.move rfl) ?_
  refine WL.on ?_ ?_; exact Wanted.guard (dj := 9) (by rfl) (evb (by rfl) h_6) (by rfl)
  refine WL.val Wanted.none (Runs.leq rfl rfl rfl) ?_
  refine WL.val Wanted.none (Runs.pick_t (evb rfl h_6) rfl) ?_
  refine WL.val Wanted.none (Runs.assign rfl) ?_
  refine WL.nil (QW.then_n ?_)
  refine CW.sub [(4, .bool (decide (a0_1 ≤ a1)))] ⟨rfl, trivial⟩ ?_
  refine CW.ret ?_
  obtain rfl := H
  exact QW.ret1 rfl rfl ⟨rfl, st_3.pick [] (by decide)⟩
 ·have h_6 : (decide (a0_0 < a1)) = false := (decide_eq_false c_5)
  refine WL.off ?_ ?_; exact Wanted.guard (dj := 9) (by rfl) (evb (by rfl) h_6) (by rfl)
  refine WL.off ?_ ?_; exact Wanted.guard (dj := 9) (by rfl) (evb (by rfl) h_6) (by rfl)
  refine WL.off ?_ ?_; exact Wanted.guard (dj := 9) (by rfl) (evb (by rfl) h_6) (by rfl)
  refine WL.off ?_ ?_; exact Wanted.guard (dj := 9) (by rfl) (evb (by rfl) h_6) (by rfl)
  refine WL.val Wanted.none (Runs.pick_f (evb rfl h_6) rfl) ?_
  refine WL.val Wanted.none (Runs.assign rfl) ?_
  refine WL.nil (QW.then_n ?_)
  refine CW.sub [(4, .bool false)] ⟨rfl, trivial⟩ ?_
  refine CW.ret ?_
  obtain rfl := H
  exact QW.ret1 rfl rfl ⟨rfl, st_3.pick [] (by decide)⟩

/-! ### disk_Disk_Size: function 35 -/
def disk_Disk_Size.rel (l0_0 : List R25) (l0_1 : List R124) (a0_2 : Int) (a0_3 : Bool) (l0_4 : List R48) (ls0_0 : List R25) (ls0_1 : List R124) (as0_2 : Int) (as0_3 : Bool) (ls0_4 : List R48) (ar0 : Int) : Prop := ls0_0 = l0_0 ∧ ls0_1 = l0_1 ∧ as0_2 = a0_2 ∧ as0_3 = a0_3 ∧ ls0_4 = l0_4 ∧ ar0 = (l0_0.length : Int)
set_option maxHeartbeats 1000000 in
set_option maxRecDepth 100000 in
theorem disk_Disk_Size.calls (w w1 : World) (T R : Pool) (l0_0 : List R25) (l0_1 : List R124) (a0_2 : Int) (a0_3 : Bool) (l0_4 : List R48) (b0 : Nat) (A0_0 : Option Addr) (n0_0 : Nat) (c0_0 : Nat) (x0_0 : Cs) (A0_1 : Option Addr) (n0_1 : Nat) (c0_1 : Nat) (x0_1 : Cs) (A0_4 : Option Addr) (n0_4 : Nat) (c0_4 : Nat) (x0_4 : Cs) (st0 : St w w1 (.cells b0 (([.slice A0_0 n0_0 c0_0] : Cs) ++ (([.slice A0_1 n0_1 c0_1] : Cs) ++ (([.int .i64 a0_2] : Cs) ++ (([.bool a0_3] : Cs) ++ ([.slice A0_4 n0_4 c0_4] : Cs))))) 95 :: .sl A0_0 c0_0 n0_0 x0_0 25 1 :: .sl A0_1 c0_1 n0_1 x0_1 124 2 :: .sl A0_4 c0_4 n0_4 x0_4 48 2 :: (T ++ R))) (hn0_0 : n0_0 = l0_0.length) (hx0_0 : HRs T (f25 w) x0_0 l0_0) (hn0_1 : n0_1 = l0_1.length) (hx0_1 : HRs T (f124 w) x0_1 l0_1) (hn0_4 : n0_4 = l0_4.length) (hx0_4 : HRs T (f48 w) x0_4 l0_4) (ls0_0 : List R25) (ls0_1 : List R124) (as0_2 : Int) (as0_3 : Bool) (ls0_4 : List R48) (ar0 : Int) (H : disk_Disk_Size.rel l0_0 l0_1 a0_2 a0_3 l0_4 ls0_0 ls0_1 as0_2 as0_3 ls0_4 ar0) :
  Calls Tryd.prog 35 #[.pointer (some ⟨b0, 0, none⟩)] w1 fun e w' => ∃ T' As0_0 ns0_0 cs0_0 xs0_0 As0_1 ns0_1 cs0_1 xs0_1 As0_4 ns0_4 cs0_4 xs0_4, Pl T T' ∧ ns0_0 = ls0_0.length ∧ HRs T' (f25 w) xs0_0 ls0_0 ∧ ns0_1 = ls0_1.length ∧ HRs T' (f124 w) xs0_1 ls0_1 ∧ ns0_4 = ls0_4.length ∧ HRs T' (f48 w) xs0_4 ls0_4 ∧ e = .returned (.int .i64 ar0) ∧ St w w' (.cells b0 (([.slice As0_0 ns0_0 cs0_0] : Cs) ++ (([.slice As0_1 ns0_1 cs0_1] : Cs) ++ (([.int .i64 as0_2] : Cs) ++ (([.bool as0_3] : Cs) ++ ([.slice As0_4 ns0_4 cs0_4] : Cs))))) 95 :: .sl As0_0 cs0_0 ns0_0 xs0_0 25 1 :: .sl As0_1 cs0_1 ns0_1 xs0_1 124 2 :: .sl As0_4 cs0_4 ns0_4 xs0_4 48 2 :: (T' ++ R)) := by
 refine CW.enter Tryd.func35 rfl (n := 10) rfl [.pointer (some ⟨b0, 0, none⟩)] (Nat.le_of_ble_eq_true rfl) ?_
 refine CW.sub [(0, .pointer (some ⟨b0, 0, none⟩))] ⟨rfl, trivial⟩ ?_
 refine CW.seq (CW.region ?_)
 refine WL.val Wanted.none (Runs.assign rfl) ?_
 refine WL.nil (QW.then_n ?_)
 refine CW.seq ?_
 refine CW.seq (CW.region ?_)
 refine WL.val Wanted.none (Runs.move rfl) ?_
 refine WL.val Wanted.none (Runs.eql_ptr Tryd.underlying30 rfl rfl rfl) ?_
 refine WL.nil (QW.then_n ?_)
 refine CW.cf rfl rfl ?_
 refine CW.skip ?_
 refine QW.then_n ?_
 refine CW.seq (CW.region ?_)
 refine WL.val Wanted.none (Runs.move rfl) ?_
 refine WL.val Wanted.none (Runs.nilCheck rfl) ?_
 refine WL.val Wanted.none (Runs.fieldAddr (off := 0) (p := 0) fld95_0 rfl rfl rfl) ?_
 refine WL.val Wanted.none (Runs.load nagg76 rfl (st0.cell (k := 0) rfl (part_one (u := .slice A0_0 n0_0 c0_0) (pre := (([] : Cs))) (post := (([.slice A0_1 n0_1 c0_1] : Cs) ++ (([.int .i64 a0_2] : Cs) ++ (([.bool a0_3] : Cs) ++ ([.slice A0_4 n0_4 c0_4] : Cs))))) (by first | rfl | simp only [List.append_assoc, List.append_nil, List.nil_append, List.cons_append]) (by first | rfl | simp only [List.length_append, List.length_cons, List.length_nil, iv_length])))) ?_
 refine WL.val Wanted.none (Runs.len_sl Tryd.underlying76 rfl (by rw [hn0_0])) ?_
 refine WL.val Wanted.none (Runs.assign rfl) ?_
 refine WL.nil (QW.then_n ?_)
 refine CW.sub [(2, .int .i64 (l0_0.length : Int))] ⟨rfl, trivial⟩ ?_
 refine CW.ret ?_
 obtain ⟨rfl, rfl, rfl, rfl, rfl, rfl⟩ := H
 exact QW.ret1 rfl rfl ⟨T, A0_0, n0_0, c0_0, x0_0, A0_1, n0_1, c0_1, x0_1, A0_4, n0_4, c0_4, x0_4, Pl.refl, hn0_0, hx0_0, hn0_1, hx0_1, hn0_4, hx0_4, rfl, (St.pickT (L := [_, _, _, _]) st0 [0, 1, 2, 3] (by decide))⟩

/-! ### journal_New: function 12 -/
def journal_New.rel (l0_0 : List R25) (l0_1 : List R124) (a0_2 : Int) (a0_3 : Bool) (l0_4 : List R48) (l1 : List Int) (a2 : Int) (a3 : Int) (a4_0 : Int) (a4_1 : Int) (l4_2 : List Int) (a5 : Int) (a6 : Int) (ls0_0 : List R25) (ls0_1 : List R124) (as0_2 : Int) (as0_3 : Bool) (ls0_4 : List R48) (or0 : Option ((List Int) × Int × Int × Int × Int × (List Int) × Int × Int)) (ar1 : Int) : Prop := ((a2 < 0 ∧ or0 = none ∧ ls0_0 = l0_0 ∧ ls0_1 = l0_1 ∧ as0_2 = a0_2 ∧ as0_3 = a0_3 ∧ ls0_4 = l0_4 ∧ ar1 = 1) ∨ (¬ (a2 < 0) ∧ ((a3 < 1 ∧ or0 = none ∧ ls0_0 = l0_0 ∧ ls0_1 = l0_1 ∧ as0_2 = a0_2 ∧ as0_3 = a0_3 ∧ ls0_4 = l0_4 ∧ ar1 = 1) ∨ (¬ (a3 < 1) ∧ (∃ (l_21_0 : List R25) (l_21_1 : List R124) (a_25_2 : Int) (a_25_3 : Bool) (l_21_4 : List R48) (a_27 : Int), disk_Disk_Size.rel l0_0 l0_1 a0_2 a0_3 l0_4 l_21_0 l_21_1 a_25_2 a_25_3 l_21_4 a_27 ∧ ((a2 > a_27 ∧ or0 = none ∧ ls0_0 = l_21_0 ∧ ls0_1 = l_21_1 ∧ as0_2 = a_25_2 ∧ as0_3 = a_25_3 ∧ ls0_4 = l_21_4 ∧ ar1 = 1) ∨ (¬ (a2 > a_27) ∧ (∃ (l_40_0 : List R25) (l_40_1 : List R124) (a_44_2 : Int) (a_44_3 : Bool) (l_40_4 : List R48) (a_46 : Int), disk_Disk_Size.rel l_21_0 l_21_1 a_25_2 a_25_3 l_21_4 l_40_0 l_40_1 a_44_2 a_44_3 l_40_4 a_46 ∧ (((IntKind.i64.wrap (a_46 - a2)) < a3 ∧ or0 = none ∧ ls0_0 = l_40_0 ∧ ls0_1 = l_40_1 ∧ as0_2 = a_44_2 ∧ as0_3 = a_44_3 ∧ ls0_4 = l_40_4 ∧ ar1 = 1) ∨ (¬ ((IntKind.i64.wrap (a_46 - a2)) < a3) ∧ (∃ (r_56 : Bool), journal_may.rel a4_0 a4_1 l4_2 (IntKind.u64.wrap a3) r_56 ∧ ((¬ (r_56 = true) ∧ or0 = none ∧ ls0_0 = l_40_0 ∧ ls0_1 = l_40_1 ∧ as0_2 = a_44_2 ∧ as0_3 = a_44_3 ∧ ls0_4 = l_40_4 ∧ ar1 = 1) ∨ (¬ (¬ (r_56 = true)) ∧ ((a5 < 1 ∧ or0 = none ∧ ls0_0 = l_40_0 ∧ ls0_1 = l_40_1 ∧ as0_2 = a_44_2 ∧ as0_3 = a_44_3 ∧ ls0_4 = l_40_4 ∧ ar1 = 1) ∨ (¬ (a5 < 1) ∧ ((a6 > 9223372036854775807 ∧ or0 = none ∧ ls0_0 = l_40_0 ∧ ls0_1 = l_40_1 ∧ as0_2 = a_44_2 ∧ as0_3 = a_44_3 ∧ ls0_4 = l_40_4 ∧ ar1 = 1) ∨ (¬ (a6 > 9223372036854775807) ∧ or0 = some (l1, a2, IntKind.u64.wrap a3, a4_0, a4_1, l4_2, a5, a6) ∧ ls0_0 = l_40_0 ∧ ls0_1 = l_40_1 ∧ as0_2 = a_44_2 ∧ as0_3 = a_44_3 ∧ ls0_4 = l_40_4 ∧ ar1 = 0)))))))))))))))))
set_option maxHeartbeats 1000000 in
set_option maxRecDepth 100000 in
theorem journal_New.calls_obj (w w1 : World) (T R : Pool) (l0_0 : List R25) (l0_1 : List R124) (a0_2 : Int) (a0_3 : Bool) (l0_4 : List R48) (l1 : List Int) (a2 : Int) (a3 : Int) (a4_0 : Int) (a4_1 : Int) (l4_2 : List Int) (a5 : Int) (a6 : Int) (b0 : Nat) (A0_0 : Option Addr) (n0_0 : Nat) (c0_0 : Nat) (x0_0 : Cs) (A0_1 : Option Addr) (n0_1 : Nat) (c0_1 : Nat) (x0_1 : Cs) (A0_4 : Option Addr) (n0_4 : Nat) (c0_4 : Nat) (x0_4 : Cs) (st0 : St w w1 (.cells b0 (([.slice A0_0 n0_0 c0_0] : Cs) ++ (([.slice A0_1 n0_1 c0_1] : Cs) ++ (([.int .i64 a0_2] : Cs) ++ (([.bool a0_3] : Cs) ++ ([.slice A0_4 n0_4 c0_4] : Cs))))) 95 :: .sl A0_0 c0_0 n0_0 x0_0 25 1 :: .sl A0_1 c0_1 n0_1 x0_1 124 2 :: .sl A0_4 c0_4 n0_4 x0_4 48 2 :: (T ++ R))) (hn0_0 : n0_0 = l0_0.length) (hx0_0 : HRs T (f25 w) x0_0 l0_0) (hn0_1 : n0_1 = l0_1.length) (hx0_1 : HRs T (f124 w) x0_1 l0_1) (hn0_4 : n0_4 = l0_4.length) (hx0_4 : HRs T (f48 w) x0_4 l0_4) (hl1 : l1.length = 32) (hl4_2 : l4_2.length = 32) (ls0_0 : List R25) (ls0_1 : List R124) (as0_2 : Int) (as0_3 : Bool) (ls0_4 : List R48) (lr0_1 : List Int) (ar0_2 : Int) (ar0_3 : Int) (ar0_4 : Int) (ar0_5 : Int) (lr0_6 : List Int) (ar0_7 : Int) (ar0_8 : Int) (ar1 : Int) (or0 : Option ((List Int) × Int × Int × Int × Int × (List Int) × Int × Int)) (ho_ : or0 = some (lr0_1, ar0_2, ar0_3, ar0_4, ar0_5, lr0_6, ar0_7, ar0_8)) (H : journal_New.rel l0_0 l0_1 a0_2 a0_3 l0_4 l1 a2 a3 a4_0 a4_1 l4_2 a5 a6 ls0_0 ls0_1 as0_2 as0_3 ls0_4 or0 ar1) :
  Calls Tryd.prog 12 #[.pointer (some ⟨b0, 0, none⟩), .agg (iv .u8 l1).toArray, .int .i64 a2, .int .i64 a3, .agg (([.int .u64 a4_0] : Cs) ++ (([.int .u64 a4_1] : Cs) ++ iv .u8 l4_2)).toArray, .int .u64 a5, .int .u64 a6] w1 fun e w' => ∃ T' As0_0 ns0_0 cs0_0 xs0_0 As0_1 ns0_1 cs0_1 xs0_1 As0_4 ns0_4 cs0_4 xs0_4 br0, Pl T T' ∧ ns0_0 = ls0_0.length ∧ HRs T' (f25 w) xs0_0 ls0_0 ∧ ns0_1 = ls0_1.length ∧ HRs T' (f124 w) xs0_1 ls0_1 ∧ ns0_4 = ls0_4.length ∧ HRs T' (f48 w) xs0_4 ls0_4 ∧ lr0_1.length = 32 ∧ lr0_6.length = 32 ∧ e = .returned (.tuple #[.pointer (some ⟨br0, 0, none⟩), .int .i64 0]) ∧ St w w' (.cells b0 (([.slice As0_0 ns0_0 cs0_0] : Cs) ++ (([.slice As0_1 ns0_1 cs0_1] : Cs) ++ (([.int .i64 as0_2] : Cs) ++ (([.bool as0_3] : Cs) ++ ([.slice As0_4 ns0_4 cs0_4] : Cs))))) 95 :: .sl As0_0 cs0_0 ns0_0 xs0_0 25 1 :: .sl As0_1 cs0_1 ns0_1 xs0_1 124 2 :: .sl As0_4 cs0_4 ns0_4 xs0_4 48 2 :: .cells br0 (([.pointer (some ⟨b0, 0, none⟩)] : Cs) ++ (iv .u8 lr0_1 ++ (([.int .i64 ar0_2] : Cs) ++ (([.int .u64 ar0_3] : Cs) ++ (([.int .u64 ar0_4] : Cs) ++ (([.int .u64 ar0_5] : Cs) ++ (iv .u8 lr0_6 ++ (([.int .u64 ar0_7] : Cs) ++ ([.int .u64 ar0_8] : Cs))))))))) 98 :: (T' ++ R)) := by
 refine CW.enter Tryd.func12 rfl (n := 61) rfl [.pointer (some ⟨b0, 0, none⟩), .agg (iv .u8 l1).toArray, .int .i64 a2, .int .i64 a3, .agg (([.int .u64 a4_0] : Cs) ++ (([.int .u64 a4_1] : Cs) ++ iv .u8 l4_2)).toArray, .int .u64 a5, .int .u64 a6] (Nat.le_of_ble_eq_true rfl) ?_
 refine CW.sub [(0, .pointer (some ⟨b0, 0, none⟩)), (1, .agg (iv .u8 l1).toArray), (2, .int .i64 a2), (3, .int .i64 a3), (4, .agg (([.int .u64 a4_0] : Cs) ++ (([.int .u64 a4_1] : Cs) ++ iv .u8 l4_2)).toArray), (5, .int .u64 a5), (6, .int .u64 a6)] (by repeat' constructor) ?_
 refine CW.seq (CW.region ?_)
 refine WL.box st0 rfl rfl ?_
 intro B_1 w_2 st_3
 replace st_3 : St w w_2 (.cells B_1 (iv .u8 l1) 23 :: .cells b0 (([.slice A0_0 n0_0 c0_0] : Cs) ++ (([.slice A0_1 n0_1 c0_1] : Cs) ++ (([.int .i64 a0_2] : Cs) ++ (([.bool a0_3] : Cs) ++ ([.slice A0_4 n0_4 c0_4] : Cs))))) 95 :: .sl A0_0 c0_0 n0_0 x0_0 25 1 :: .sl A0_1 c0_1 n0_1 x0_1 124 2 :: .sl A0_4 c0_4 n0_4 x0_4 48 2 :: (T ++ R)) := st_3
 refine WL.box st_3 rfl rfl ?_
 intro B_5 w_6 st_7
 replace st_7 : St w w_6 (.cells B_5 (([.int .u64 a4_0] : Cs) ++ (([.int .u64 a4_1] : Cs) ++ iv .u8 l4_2)) 39 :: .cells B_1 (iv .u8 l1) 23 :: .cells b0 (([.slice A0_0 n0_0 c0_0] : Cs) ++ (([.slice A0_1 n0_1 c0_1] : Cs) ++ (([.int .i64 a0_2] : Cs) ++ (([.bool a0_3] : Cs) ++ ([.slice A0_4 n0_4 c0_4] : Cs))))) 95 :: .sl A0_0 c0_0 n0_0 x0_0 25 1 :: .sl A0_1 c0_1 n0_1 x0_1 124 2 :: .sl A0_4 c0_4 n0_4 x0_4 48 2 :: (T ++ R)) := st_7
 refine WL.val Wanted.none (Runs.assign rfl) ?_
 refine WL.val Wanted.none (Runs.assign rfl) ?_
 refine WL.nil (QW.then_n ?_)
 refine CW.seq ?_
 refine CW.seq (CW.region ?_)
 refine WL.val Wanted.none (Runs.move rfl) ?_
 refine WL.val Wanted.none (Runs.lss rfl rfl rfl) ?_
 refine WL.val Wanted.none (Runs.move rfl) ?_
 rcases H with ⟨c_9, H⟩ | ⟨c_9, H⟩
 ·have h_10 : (decide (a2 < 0)) = true := (decide_eq_true c_9)
  refine WL.off ?_ ?_; exact Wanted.guard (dj := 18) (by rfl) (evb (by rfl) h_10) (by rfl)
  refine WL.off ?_ ?_; exact Wanted.guard (dj := 18) (by rfl) (evb (by rfl) h_10) (by rfl)
  refine WL.val Wanted.none (Runs.pick_t (evb rfl h_10) rfl) ?_
  refine WL.val Wanted.none (Runs.move rfl) ?_
  refine WL.off ?_ ?_; exact Wanted.guard (dj := 22) (by rfl) (by rfl) (by rfl)
  refine WL.off ?_ ?_; exact Wanted.guard (dj := 22) (by rfl) (by rfl) (by rfl)
  refine WL.off ?_ ?_; exact Wanted.guard (dj := 22) (by rfl) (by rfl) (by rfl)
  refine WL.off ?_ ?_; exact Wanted.guard (dj := 22) (by rfl) (by rfl) (by rfl)
  refine WL.val Wanted.none (Runs.pick_t rfl rfl) ?_
  refine WL.val Wanted.none (Runs.move rfl) ?_
  refine WL.off ?_ ?_; exact Wanted.guard (dj := 28) (by rfl) (by rfl) (by rfl)
  refine WL.off ?_ ?_; exact Wanted.guard (dj := 28) (by rfl) (by rfl) (by rfl)
  refine WL.off ?_ ?_; exact Wanted.guard (dj := 28) (by rfl) (by rfl) (by rfl)
  refine WL.off ?_ ?_; exact Wanted.guard (dj := 28) (by rfl) (by rfl) (by rfl)
  refine WL.off ?_ ?_; exact Wanted.guard (dj := 28) (by rfl) (by rfl) (by rfl)
  refine WL.off ?_ ?_; exact Wanted.guard (dj := 28) (by rfl) (by rfl) (by rfl)
  refine WL.val Wanted.none (Runs.pick_t rfl rfl) ?_
  refine WL.val Wanted.none (Runs.move rfl) ?_
  refine WL.off ?_ ?_; exact Wanted.guard (dj := 36) (by rfl) (by rfl) (by rfl)
  refine WL.off ?_ ?_; exact Wanted.guard (dj := 36) (by rfl) (by rfl) (by rfl)
  refine WL.off ?_ ?_; exact Wanted.guard (dj := 36) (by rfl) (by rfl) (by rfl)
  refine WL.off ?_ ?_; exact Wanted.guard (dj := 36) (by rfl) (by rfl) (by rfl)
  refine WL.off ?_ ?_; exact Wanted.guard (dj := 36) (by rfl) (by rfl) (by rfl)
  refine WL.val Wanted.none (Runs.pick_t rfl rfl) ?_
  refine WL.val Wanted.none (Runs.move rfl) ?_
  refine WL.off ?_ ?_; exact Wanted.guard (dj := 43) (by rfl) (by rfl) (by rfl)
  refine WL.off ?_ ?_; exact Wanted.guard (dj := 43) (by rfl) (by rfl) (by rfl)
  refine WL.val Wanted.none (Runs.pick_t rfl rfl) ?_
  refine WL.val Wanted.none (Runs.move rfl) ?_
  refine WL.off ?_ ?_; exact Wanted.guard (dj := 47) (by rfl) (by rfl) (by rfl)
  refine WL.off ?_ ?_; exact Wanted.guard (dj := 47) (by rfl) (by rfl) (by rfl)
  refine WL.val Wanted.none (Runs.pick_t rfl rfl) ?_
  refine WL.nil (QW.then_n ?_)
  refine CW.sub [(0, .pointer (some ⟨b0, 0, none⟩)), (2, .int .i64 a2), (3, .int .i64 a3), (5, .int .u64 a5), (6, .int .u64 a6), (8, .pointer (some ⟨B_1, 0, none⟩)), (11, .pointer (some ⟨B_5, 0, none⟩)), (14, .pointer none), (15, .int .i64 0), (50, .bool true)] (by repeat' constructor) ?_
  refine CW.ct rfl rfl ?_
  refine CW.seq (CW.region ?_)
  refine WL.val Wanted.none (Runs.assign rfl) ?_
  refine WL.val Wanted.none (Runs.assign rfl) ?_
  refine WL.nil (QW.then_n ?_)
  refine CW.ret ?_
  refine QW.then_r ?_
  exact nomatch (ho_.symm.trans H.1)
 ·have h_10 : (decide (a2 < 0)) = false := (decide_eq_false c_9)
  refine WL.on ?_ ?_; exact Wanted.guard (dj := 18) (by rfl) (evb (by rfl) h_10) (by rfl)
  refine WL.val Wanted.none (Runs.move rfl) ?_
  refine WL.on ?_ ?_; exact Wanted.guard (dj := 18) (by rfl) (evb (by rfl) h_10) (by rfl)
  refine WL.val Wanted.none (Runs.lss rfl rfl rfl) ?_
  refine WL.val Wanted.none (Runs.pick_f (evb rfl h_10) rfl) ?_
  refine WL.val Wanted.none (Runs.move rfl) ?_
  rcases H with ⟨c_11, H⟩ | ⟨c_11, H⟩
  ·have h_12 : (decide (a3 < 1)) = true := (decide_eq_true c_11)
   refine WL.off ?_ ?_; exact Wanted.guard (dj := 22) (by rfl) (evb (by rfl) h_12) (by rfl)
   refine WL.off ?_ ?_; exact Wanted.guard (dj := 22) (by rfl) (evb (by rfl) h_12) (by rfl)
   refine WL.off ?_ ?_; exact Wanted.guard (dj := 22) (by rfl) (evb (by rfl) h_12) (by rfl)
   refine WL.off ?_ ?_; exact Wanted.guard (dj := 22) (by rfl) (evb (by rfl) h_12) (by rfl)
   refine WL.val Wanted.none (Runs.pick_t (evb rfl h_12) rfl) ?_
   refine WL.val Wanted.none (Runs.move rfl) ?_
   refine WL.off ?_ ?_; exact Wanted.guard (dj := 28) (by rfl) (by rfl) (by rfl)
   refine WL.off ?_ ?_; exact Wanted.guard (dj := 28) (by rfl) (by rfl) (by rfl)
   refine WL.off ?_ ?_; exact Wanted.guard (dj := 28) (by rfl) (by rfl) (by rfl)
   refine WL.off ?_ ?_; exact Wanted.guard (dj := 28) (by rfl) (by rfl) (by rfl)
   refine WL.off ?_ ?_; exact Wanted.guard (dj := 28) (by rfl) (by rfl) (by rfl)
   refine WL.off ?_ ?_; exact Wanted.guard (dj := 28) (by rfl) (by rfl) (by rfl)
   refine WL.val Wanted.none (Runs.pick_t rfl rfl) ?_
   refine WL.val Wanted.none (Runs.move rfl) ?_
   refine WL.off ?_ ?_; exact Wanted.guard (dj := 36) (by rfl) (by rfl) (by rfl)
   refine WL.off ?_ ?_; exact Wanted.guard (dj := 36) (by rfl) (by rfl) (by rfl)
   refine WL.off ?_ ?_; exact Wanted.guard (dj := 36) (by rfl) (by rfl) (by rfl)
   refine WL.off ?_ ?_; exact Wanted.guard (dj := 36) (by rfl) (by rfl) (by rfl)
   refine WL.off ?_ ?_; exact Wanted.guard (dj := 36) (by rfl) (by rfl) (by rfl)
   refine WL.val Wanted.none (Runs.pick_t rfl rfl) ?_
   refine WL.val Wanted.none (Runs.move rfl) ?_
   refine WL.off ?_ ?_; exact Wanted.guard (dj := 43) (by rfl) (by rfl) (by rfl)
   refine WL.off ?_ ?_; exact Wanted.guard (dj := 43) (by rfl) (by rfl) (by rfl)
   refine WL.val Wanted.none (Runs.pick_t rfl rfl) ?_
   refine WL.val Wanted.none (Runs.move rfl) ?_
   refine WL.off ?_ ?_; exact Wanted.guard (dj := 47) (by rfl) (by rfl) (by rfl)
   refine WL.off ?_ ?_; exact Wanted.guard (dj := 47) (by rfl) (by rfl) (by rfl)
   refine WL.val Wanted.none (Runs.pick_t rfl rfl) ?_
   refine WL.nil (QW.then_n ?_)
   refine CW.sub [(0, .pointer (some ⟨b0, 0, none⟩)), (2, .int .i64 a2), (3, .int .i64 a3), (5, .int .u64 a5), (6, .int .u64 a6), (8, .pointer (some ⟨B_1, 0, none⟩)), (11, .pointer (some ⟨B_5, 0, none⟩)), (14, .pointer none), (15, .int .i64 0), (50, .bool true)] (by repeat' constructor) ?_
   refine CW.ct rfl rfl ?_
   refine CW.seq (CW.region ?_)
   refine WL.val Wanted.none (Runs.assign rfl) ?_
   refine WL.val Wanted.none (Runs.assign rfl) ?_
   refine WL.nil (QW.then_n ?_)
   refine CW.ret ?_
   refine QW.then_r ?_
   exact nomatch (ho_.symm.trans H.1)
  ·have h_12 : (decide (a3 < 1)) = false := (decide_eq_false c_11)
   refine WL.on ?_ ?_; exact Wanted.guard (dj := 22) (by rfl) (evb (by rfl) h_12) (by rfl)
   refine WL.val Wanted.none (Runs.move rfl) ?_
   refine WL.on ?_ ?_; exact Wanted.guard (dj := 22) (by rfl) (evb (by rfl) h_12) (by rfl)
   refine WL.val Wanted.none (Runs.move rfl) ?_
   refine WL.on ?_ ?_; exact Wanted.guard (dj := 22) (by rfl) (evb (by rfl) h_12) (by rfl)
   have st_13 := (St.pickT (L := [_, _, _, _, _, _]) st_7 [2, 3, 4, 5, 0, 1] (by decide))
   replace st_13 : St w w_6 (.cells b0 (([.slice A0_0 n0_0 c0_0] : Cs) ++ (([.slice A0_1 n0_1 c0_1] : Cs) ++ (([.int .i64 a0_2] : Cs) ++ (([.bool a0_3] : Cs) ++ ([.slice A0_4 n0_4 c0_4] : Cs))))) 95 :: .sl A0_0 c0_0 n0_0 x0_0 25 1 :: .sl A0_1 c0_1 n0_1 x0_1 124 2 :: .sl A0_4 c0_4 n0_4 x0_4 48 2 :: .cells B_5 (([.int .u64 a4_0] : Cs) ++ (([.int .u64 a4_1] : Cs) ++ iv .u8 l4_2)) 39 :: .cells B_1 (iv .u8 l1) 23 :: (T ++ R)) := st_13
   have st_14 : St w w_6 (.cells b0 (([.slice A0_0 n0_0 c0_0] : Cs) ++ (([.slice A0_1 n0_1 c0_1] : Cs) ++ (([.int .i64 a0_2] : Cs) ++ (([.bool a0_3] : Cs) ++ ([.slice A0_4 n0_4 c0_4] : Cs))))) 95 :: .sl A0_0 c0_0 n0_0 x0_0 25 1 :: .sl A0_1 c0_1 n0_1 x0_1 124 2 :: .sl A0_4 c0_4 n0_4 x0_4 48 2 :: (T ++ (.cells B_5 (([.int .u64 a4_0] : Cs) ++ (([.int .u64 a4_1] : Cs) ++ iv .u8 l4_2)) 39 :: .cells B_1 (iv .u8 l1) 23 :: R))) := St.hide (A := [_, _, _, _]) (B := [_, _]) (T := T) (R := R) st_13
   obtain ⟨l_21_0, l_21_1, a_25_2, a_25_3, l_21_4, a_27, hr_15, H⟩ := H
   refine WL.call Wanted.none ent35 rfl (disk_Disk_Size.calls w w_6 T (.cells B_5 (([.int .u64 a4_0] : Cs) ++ (([.int .u64 a4_1] : Cs) ++ iv .u8 l4_2)) 39 :: .cells B_1 (iv .u8 l1) 23 :: R) l0_0 l0_1 a0_2 a0_3 l0_4 b0 A0_0 n0_0 c0_0 x0_0 A0_1 n0_1 c0_1 x0_1 A0_4 n0_4 c0_4 x0_4  st_14 (hn0_0) hx0_0 (hn0_1) hx0_1 (hn0_4) hx0_4 l_21_0 l_21_1 a_25_2 a_25_3 l_21_4 a_27 hr_15) ?_
   rintro _ w_28 ⟨T_16, A_18_0, n_19_0, c_20_0, x_22_0, A_18_1, n_19_1, c_20_1, x_22_1, A_18_4, n_19_4, c_20_4, x_22_4, hs_17, hn_23_0, hx_24_0, hn_23_1, hx_24_1, hn_23_4, hx_24_4, rfl, sc_30⟩
   have st_29 : St w w_28 (.cells b0 (([.slice A_18_0 n_19_0 c_20_0] : Cs) ++ (([.slice A_18_1 n_19_1 c_20_1] : Cs) ++ (([.int .i64 a_25_2] : Cs) ++ (([.bool a_25_3] : Cs) ++ ([.slice A_18_4 n_19_4 c_20_4] : Cs))))) 95 :: .sl A_18_0 c_20_0 n_19_0 x_22_0 25 1 :: .sl A_18_1 c_20_1 n_19_1 x_22_1 124 2 :: .sl A_18_4 c_20_4 n_19_4 x_22_4 48 2 :: .cells B_5 (([.int .u64 a4_0] : Cs) ++ (([.int .u64 a4_1] : Cs) ++ iv .u8 l4_2)) 39 :: .cells B_1 (iv .u8 l1) 23 :: (T_16 ++ R)) := St.unhide (A := [_, _, _, _]) (B := [_, _]) (T := T_16) (R := R) sc_30
   refine ⟨_, rfl, ?_⟩
   refine WL.on ?_ ?_; exact Wanted.guard (dj := 22) (by rfl) (evb (by rfl) h_12) (by rfl)
   refine WL.val Wanted.none (Runs.gtr rfl rfl rfl) ?_
   refine WL.val Wanted.none (Runs.pick_f (evb rfl h_12) rfl) ?_
   refine WL.val Wanted.none (Runs.move rfl) ?_
   rcases H with ⟨c_31, H⟩ | ⟨c_31, H⟩
   ·have h_32 : (decide (a2 > a_27)) = true := (decide_eq_true c_31)
    refine WL.off ?_ ?_; exact Wanted.guard (dj := 28) (by rfl) (evb (by rfl) h_32) (by rfl)
    refine WL.off ?_ ?_; exact Wanted.guard (dj := 28) (by rfl) (evb (by rfl) h_32) (by rfl)
    refine WL.off ?_ ?_; exact Wanted.guard (dj := 28) (by rfl) (evb (by rfl) h_32) (by rfl)
    refine WL.off ?_ ?_; exact Wanted.guard (dj := 28) (by rfl) (evb (by rfl) h_32) (by rfl)
    refine WL.off ?_ ?_; exact Wanted.guard (dj := 28) (by rfl) (evb (by rfl) h_32) (by rfl)
    refine WL.off ?_ ?_; exact Wanted.guard (dj := 28) (by rfl) (evb (by rfl) h_32) (by rfl)
    refine WL.val Wanted.none (Runs.pick_t (evb rfl h_32) rfl) ?_
    refine WL.val Wanted.none (Runs.move rfl) ?_
    refine WL.off ?_ ?_; exact Wanted.guard (dj := 36) (by rfl) (by rfl) (by rfl)
    refine WL.off ?_ ?_; exact Wanted.guard (dj := 36) (by rfl) (by rfl) (by rfl)
    refine WL.off ?_ ?_; exact Wanted.guard (dj := 36) (by rfl) (by rfl) (by rfl)
    refine WL.off ?_ ?_; exact Wanted.guard (dj := 36) (by rfl) (by rfl) (by rfl)
    refine WL.off ?_ ?_; exact Wanted.guard (dj := 36) (by rfl) (by rfl) (by rfl)
    refine WL.val Wanted.none (Runs.pick_t rfl rfl) ?_
    refine WL.val Wanted.none (Runs.move rfl) ?_
    refine WL.off ?_ ?_; exact Wanted.guard (dj := 43) (by rfl) (by rfl) (by rfl)
    refine WL.off ?_ ?_; exact Wanted.guard (dj := 43) (by rfl) (by rfl) (by rfl)
    refine WL.val Wanted.none (Runs.pick_t rfl rfl) ?_
    refine WL.val Wanted.none (Runs.move rfl) ?_
    refine WL.off ?_ ?_; exact Wanted.guard (dj := 47) (by rfl) (by rfl) (by rfl)
    refine WL.off ?_ ?_; exact Wanted.guard (dj := 47) (by rfl) (by rfl) (by rfl)
    refine WL.val Wanted.none (Runs.pick_t rfl rfl) ?_
    refine WL.nil (QW.then_n ?_)
    refine CW.sub [(0, .pointer (some ⟨b0, 0, none⟩)), (2, .int .i64 a2), (3, .int .i64 a3), (5, .int .u64 a5), (6, .int .u64 a6), (8, .pointer (some ⟨B_1, 0, none⟩)), (11, .pointer (some ⟨B_5, 0, none⟩)), (14, .pointer none), (15, .int .i64 0), (50, .bool true)] (by repeat' constructor) ?_
    refine CW.ct rfl rfl ?_
    refine CW.seq (CW.region ?_)
    refine WL.val Wanted.none (Runs.assign rfl) ?_
    refine WL.val Wanted.none (Runs.assign rfl) ?_
    refine WL.nil (QW.then_n ?_)
    refine CW.ret ?_
    refine QW.then_r ?_
    exact nomatch (ho_.symm.trans H.1)
   ·have h_32 : (decide (a2 > a_27)) = false := (decide_eq_false c_31)
    refine WL.on ?_ ?_; exact Wanted.guard (dj := 28) (by rfl) (evb (by rfl) h_32) (by rfl)
    refine WL.val Wanted.none (Runs.move rfl) ?_
    refine WL.on ?_ ?_; exact Wanted.guard (dj := 28) (by rfl) (evb (by rfl) h_32) (by rfl)
    have st_33 : St w w_28 (.cells b0 (([.slice A_18_0 n_19_0 c_20_0] : Cs) ++ (([.slice A_18_1 n_19_1 c_20_1] : Cs) ++ (([.int .i64 a_25_2] : Cs) ++ (([.bool a_25_3] : Cs) ++ ([.slice A_18_4 n_19_4 c_20_4] : Cs))))) 95 :: .sl A_18_0 c_20_0 n_19_0 x_22_0 25 1 :: .sl A_18_1 c_20_1 n_19_1 x_22_1 124 2 :: .sl A_18_4 c_20_4 n_19_4 x_22_4 48 2 :: (T_16 ++ (.cells B_5 (([.int .u64 a4_0] : Cs) ++ (([.int .u64 a4_1] : Cs) ++ iv .u8 l4_2)) 39 :: .cells B_1 (iv .u8 l1) 23 :: R))) := St.hide (A := [_, _, _, _]) (B := [_, _]) (T := T_16) (R := R) st_29
    obtain ⟨l_40_0, l_40_1, a_44_2, a_44_3, l_40_4, a_46, hr_34, H⟩ := H
    refine WL.call Wanted.none ent35 rfl (disk_Disk_Size.calls w w_28 T_16 (.cells B_5 (([.int .u64 a4_0] : Cs) ++ (([.int .u64 a4_1] : Cs) ++ iv .u8 l4_2)) 39 :: .cells B_1 (iv .u8 l1) 23 :: R) l_21_0 l_21_1 a_25_2 a_25_3 l_21_4 b0 A_18_0 n_19_0 c_20_0 x_22_0 A_18_1 n_19_1 c_20_1 x_22_1 A_18_4 n_19_4 c_20_4 x_22_4  st_33 (hn_23_0) hx_24_0 (hn_23_1) hx_24_1 (hn_23_4) hx_24_4 l_40_0 l_40_1 a_44_2 a_44_3 l_40_4 a_46 hr_34) ?_
    rintro _ w_47 ⟨T_35, A_37_0, n_38_0, c_39_0, x_41_0, A_37_1, n_38_1, c_39_1, x_41_1, A_37_4, n_38_4, c_39_4, x_41_4, hs_36, hn_42_0, hx_43_0, hn_42_1, hx_43_1, hn_42_4, hx_43_4, rfl, sc_49⟩
    have st_48 : St w w_47 (.cells b0 (([.slice A_37_0 n_38_0 c_39_0] : Cs) ++ (([.slice A_37_1 n_38_1 c_39_1] : Cs) ++ (([.int .i64 a_44_2] : Cs) ++ (([.bool a_44_3] : Cs) ++ ([.slice A_37_4 n_38_4 c_39_4] : Cs))))) 95 :: .sl A_37_0 c_39_0 n_38_0 x_41_0 25 1 :: .sl A_37_1 c_39_1 n_38_1 x_41_1 124 2 :: .sl A_37_4 c_39_4 n_38_4 x_41_4 48 2 :: .cells B_5 (([.int .u64 a4_0] : Cs) ++ (([.int .u64 a4_1] : Cs) ++ iv .u8 l4_2)) 39 :: .cells B_1 (iv .u8 l1) 23 :: (T_35 ++ R)) := St.unhide (A := [_, _, _, _]) (B := [_, _]) (T := T_35) (R := R) sc_49
    refine ⟨_, rfl, ?_⟩
    refine WL.on ?_ ?_; exact Wanted.guard (dj := 28) (by rfl) (evb (by rfl) h_32) (by rfl)
    refine WL.val Wanted.none (Runs.move rfl) ?_
    refine WL.on ?_ ?_; exact Wanted.guard (dj := 28) (by rfl) (evb (by rfl) h_32) (by rfl)
    refine WL.val Wanted.none (Runs.sub rfl rfl rfl) ?_
    refine WL.on ?_ ?_; exact Wanted.guard (dj := 28) (by rfl) (evb (by rfl) h_32) (by rfl)
    refine WL.val Wanted.none (Runs.move rfl) ?_
    refine WL.on ?_ ?_; exact Wanted.guard (dj := 28) (by rfl) (evb (by rfl) h_32) (by rfl)
    refine WL.val Wanted.none (Runs.lss rfl rfl rfl) ?_
    refine WL.val Wanted.none (Runs.pick_f (evb rfl h_32) rfl) ?_
    refine WL.val Wanted.none (Runs.move rfl) ?_
    rcases H with ⟨c_50, H⟩ | ⟨c_50, H⟩
    ·have h_51 : (decide ((IntKind.i64.wrap (a_46 - a2)) < a3)) = true := (decide_eq_true c_50)
     refine WL.off ?_ ?_; exact Wanted.guard (dj := 36) (by rfl) (evb (by rfl) h_51) (by rfl)
     refine WL.off ?_ ?_; exact Wanted.guard (dj := 36) (by rfl) (evb (by rfl) h_51) (by rfl)
     refine WL.off ?_ ?_; exact Wanted.guard (dj := 36) (by rfl) (evb (by rfl) h_51) (by rfl)
     refine WL.off ?_ ?_; exact Wanted.guard (dj := 36) (by rfl) (evb (by rfl) h_51) (by rfl)
     refine WL.off ?_ ?_; exact Wanted.guard (dj := 36) (by rfl) (evb (by rfl) h_51) (by rfl)
     refine WL.val Wanted.none (Runs.pick_t (evb rfl h_51) rfl) ?_
     refine WL.val Wanted.none (Runs.move rfl) ?_
     refine WL.off ?_ ?_; exact Wanted.guard (dj := 43) (by rfl) (by rfl) (by rfl)
     refine WL.off ?_ ?_; exact Wanted.guard (dj := 43) (by rfl) (by rfl) (by rfl)
     refine WL.val Wanted.none (Runs.pick_t rfl rfl) ?_
     refine WL.val Wanted.none (Runs.move rfl) ?_
     refine WL.off ?_ ?_; exact Wanted.guard (dj := 47) (by rfl) (by rfl) (by rfl)
     refine WL.off ?_ ?_; exact Wanted.guard (dj := 47) (by rfl) (by rfl) (by rfl)
     refine WL.val Wanted.none (Runs.pick_t rfl rfl) ?_
     refine WL.nil (QW.then_n ?_)
     refine CW.sub [(0, .pointer (some ⟨b0, 0, none⟩)), (2, .int .i64 a2), (3, .int .i64 a3), (5, .int .u64 a5), (6, .int .u64 a6), (8, .pointer (some ⟨B_1, 0, none⟩)), (11, .pointer (some ⟨B_5, 0, none⟩)), (14, .pointer none), (15, .int .i64 0), (50, .bool true)] (by repeat' constructor) ?_
     refine CW.ct rfl rfl ?_
     refine CW.seq (CW.region ?_)
     refine WL.val Wanted.none (Runs.assign rfl) ?_
     refine WL.val Wanted.none (Runs.assign rfl) ?_
     refine WL.nil (QW.then_n ?_)
     refine CW.ret ?_
     refine QW.then_r ?_
     exact nomatch (ho_.symm.trans H.1)
    ·have h_51 : (decide ((IntKind.i64.wrap (a_46 - a2)) < a3)) = false := (decide_eq_false c_50)
     refine WL.on ?_ ?_; exact Wanted.guard (dj := 36) (by rfl) (evb (by rfl) h_51) (by rfl)
     refine WL.val Wanted.none (Runs.load_mid row39 rfl st_48 (i := 4) rfl (part_mid (pre := (([] : Cs))) (mid := (([.int .u64 a4_0] : Cs) ++ (([.int .u64 a4_1] : Cs) ++ iv .u8 l4_2))) (post := (([] : Cs))) (by first | rfl | simp only [List.append_assoc, List.append_nil, List.nil_append, List.cons_append]) (by first | rfl | simp only [List.length_append, List.length_cons, List.length_nil, iv_length]) (by first | rfl | simp only [List.length_append, List.length_cons, List.length_nil, iv_length, hl4_2])) (by first | rfl | simp only [List.length_append, List.length_cons, List.length_nil, iv_length, hl4_2])) ?_
     refine WL.on ?_ ?_; exact Wanted.guard (dj := 36) (by rfl) (evb (by rfl) h_51) (by rfl)
     refine WL.val Wanted.none (Runs.move rfl) ?_
     refine WL.on ?_ ?_; exact Wanted.guard (dj := 36) (by rfl) (evb (by rfl) h_51) (by rfl)
     refine WL.val Wanted.none (Runs.conv Tryd.underlying37 ⟨_, Tryd.underlying3⟩ rfl rfl) ?_
     refine WL.on ?_ ?_; exact Wanted.guard (dj := 36) (by rfl) (evb (by rfl) h_51) (by rfl)
     obtain ⟨r_56, hr_52, H⟩ := H
     refine WL.call Wanted.none ent36 rfl (journal_may.calls w_47 a4_0 a4_1 l4_2 (IntKind.u64.wrap a3) hl4_2 r_56 hr_52) ?_
     rintro _ w_53 ⟨rfl, sc_55⟩
     have st_54 : St w w_53 (.cells b0 (([.slice A_37_0 n_38_0 c_39_0] : Cs) ++ (([.slice A_37_1 n_38_1 c_39_1] : Cs) ++ (([.int .i64 a_44_2] : Cs) ++ (([.bool a_44_3] : Cs) ++ ([.slice A_37_4 n_38_4 c_39_4] : Cs))))) 95 :: .sl A_37_0 c_39_0 n_38_0 x_41_0 25 1 :: .sl A_37_1 c_39_1 n_38_1 x_41_1 124 2 :: .sl A_37_4 c_39_4 n_38_4 x_41_4 48 2 :: .cells B_5 (([.int .u64 a4_0] : Cs) ++ (([.int .u64 a4_1] : Cs) ++ iv .u8 l4_2)) 39 :: .cells B_1 (iv .u8 l1) 23 :: (T_35 ++ R)) := st_48.call sc_55
     refine ⟨_, rfl, ?_⟩
     refine WL.on ?_ ?_; exact Wanted.guard (dj := 36) (by rfl) (evb (by rfl) h_51) (by rfl)
     refine WL.val Wanted.none (Runs.not rfl rfl) ?_
     refine WL.val Wanted.none (Runs.pick_f (evb rfl h_51) rfl) ?_
     refine WL.val Wanted.none (Runs.move rfl) ?_
     rcases H with ⟨c_57, H⟩ | ⟨c_57, H⟩
     ·have h_58 : (!r_56) = true := (not_t (Bool.eq_false_iff.mpr c_57))
      refine WL.off ?_ ?_; exact Wanted.guard (dj := 43) (by rfl) (evb (by rfl) h_58) (by rfl)
      refine WL.off ?_ ?_; exact Wanted.guard (dj := 43) (by rfl) (evb (by rfl) h_58) (by rfl)
      refine WL.val Wanted.none (Runs.pick_t (evb rfl h_58) rfl) ?_
      refine WL.val Wanted.none (Runs.move rfl) ?_
      refine WL.off ?_ ?_; exact Wanted.guard (dj := 47) (by rfl) (by rfl) (by rfl)
      refine WL.off ?_ ?_; exact Wanted.guard (dj := 47) (by rfl) (by rfl) (by rfl)
      refine WL.val Wanted.none (Runs.pick_t rfl rfl) ?_
      refine WL.nil (QW.then_n ?_)
      refine CW.sub [(0, .pointer (some ⟨b0, 0, none⟩)), (2, .int .i64 a2), (3, .int .i64 a3), (5, .int .u64 a5), (6, .int .u64 a6), (8, .pointer (some ⟨B_1, 0, none⟩)), (11, .pointer (some ⟨B_5, 0, none⟩)), (14, .pointer none), (15, .int .i64 0), (50, .bool true)] (by repeat' constructor) ?_
      refine CW.ct rfl rfl ?_
      refine CW.seq (CW.region ?_)
      refine WL.val Wanted.none (Runs.assign rfl) ?_
      refine WL.val Wanted.none (Runs.assign rfl) ?_
      refine WL.nil (QW.then_n ?_)
      refine CW.ret ?_
      refine QW.then_r ?_
      exact nomatch (ho_.symm.trans H.1)
     ·have h_58 : (!r_56) = false := (not_f (Decidable.not_not.mp c_57))
      refine WL.on ?_ ?_; exact Wanted.guard (dj := 43) (by rfl) (evb (by rfl) h_58) (by rfl)
      refine WL.val Wanted.none (Runs.move rfl) ?_
      refine WL.on ?_ ?_; exact Wanted.guard (dj := 43) (by rfl) (evb (by rfl) h_58) (by rfl)
      refine WL.val Wanted.none (Runs.lss rfl rfl rfl) ?_
      refine WL.val Wanted.none (Runs.pick_f (evb rfl h_58) rfl) ?_
      refine WL.val Wanted.none (Runs.move rfl) ?_
      rcases H with ⟨c_59, H⟩ | ⟨c_59, H⟩
      ·have h_60 : (decide (a5 < 1)) = true := (decide_eq_true c_59)
       refine WL.off ?_ ?_; exact Wanted.guard (dj := 47) (by rfl) (evb (by rfl) h_60) (by rfl)
       refine WL.off ?_ ?_; exact Wanted.guard (dj := 47) (by rfl) (evb (by rfl) h_60) (by rfl)
       refine WL.val Wanted.none (Runs.pick_t (evb rfl h_60) rfl) ?_
       refine WL.nil (QW.then_n ?_)
       refine CW.sub [(0, .pointer (some ⟨b0, 0, none⟩)), (2, .int .i64 a2), (3, .int .i64 a3), (5, .int .u64 a5), (6, .int .u64 a6), (8, .pointer (some ⟨B_1, 0, none⟩)), (11, .pointer (some ⟨B_5, 0, none⟩)), (14, .pointer none), (15, .int .i64 0), (50, .bool true)] (by repeat' constructor) ?_
       refine CW.ct rfl rfl ?_
       refine CW.seq (CW.region ?_)
       refine WL.val Wanted.none (Runs.assign rfl) ?_
       refine WL.val Wanted.none (Runs.assign rfl) ?_
       refine WL.nil (QW.then_n ?_)
       refine CW.ret ?_
       refine QW.then_r ?_
       exact nomatch (ho_.symm.trans H.1)
      ·have h_60 : (decide (a5 < 1)) = false := (decide_eq_false c_59)
       refine WL.on ?_ ?_; exact Wanted.guard (dj := 47) (by rfl) (evb (by rfl) h_60) (by rfl)
       refine WL.val Wanted.none (Runs.move rfl) ?_
       refine WL.on ?_ ?_; exact Wanted.guard (dj := 47) (by rfl) (evb (by rfl) h_60) (by rfl)
       refine WL.val Wanted.none (Runs.gtr rfl rfl rfl) ?_
       refine WL.val Wanted.none (Runs.pick_f (evb rfl h_60) rfl) ?_
       refine WL.nil (QW.then_n ?_)
       refine CW.sub [(0, .pointer (some ⟨b0, 0, none⟩)), (2, .int .i64 a2), (3, .int .i64 a3), (5, .int .u64 a5), (6, .int .u64 a6), (8, .pointer (some ⟨B_1, 0, none⟩)), (11, .pointer (some ⟨B_5, 0, none⟩)), (14, .pointer none), (15, .int .i64 0), (50, .bool (decide (a6 > 9223372036854775807)))] (by repeat' constructor) ?_
       rcases H with ⟨c_61, H⟩ | ⟨c_61, H⟩
       ·have h_62 : (decide (a6 > 9223372036854775807)) = true := (decide_eq_true c_61)
        refine CW.ct rfl h_62 ?_
        refine CW.seq (CW.region ?_)
        refine WL.val Wanted.none (Runs.assign rfl) ?_
        refine WL.val Wanted.none (Runs.assign rfl) ?_
        refine WL.nil (QW.then_n ?_)
        refine CW.ret ?_
        refine QW.then_r ?_
        exact nomatch (ho_.symm.trans H.1)
       ·have h_62 : (decide (a6 > 9223372036854775807)) = false := (decide_eq_false c_61)
        refine CW.cf rfl h_62 ?_
        refine CW.skip ?_
        refine QW.then_n ?_
        refine CW.seq (CW.region ?_)
        refine WL.val Wanted.none (Runs.move rfl) ?_
        refine WL.val Wanted.none (Runs.load_arr arr23 rfl (st_54.blk (i := 5) rfl) hl1) ?_
        refine WL.val Wanted.none (Runs.move rfl) ?_
        refine WL.val Wanted.none (Runs.move rfl) ?_
        refine WL.val Wanted.none (Runs.conv Tryd.underlying37 ⟨_, Tryd.underlying3⟩ rfl rfl) ?_
        refine WL.val Wanted.none (Runs.load_mid row39 rfl st_54 (i := 4) rfl (part_mid (pre := (([] : Cs))) (mid := (([.int .u64 a4_0] : Cs) ++ (([.int .u64 a4_1] : Cs) ++ iv .u8 l4_2))) (post := (([] : Cs))) (by first | rfl | simp only [List.append_assoc, List.append_nil, List.nil_append, List.cons_append]) (by first | rfl | simp only [List.length_append, List.length_cons, List.length_nil, iv_length]) (by first | rfl | simp only [List.length_append, List.length_cons, List.length_nil, iv_length, hl4_2])) (by first | rfl | simp only [List.length_append, List.length_cons, List.length_nil, iv_length, hl4_2])) ?_
        refine WL.val Wanted.none (Runs.move rfl) ?_
        refine WL.val Wanted.none (Runs.move rfl) ?_
        refine WL.val Wanted.none (Runs.build_struct (ps := [(0, 1), (1, 32), (33, 1), (34, 1), (35, 34), (69, 1), (70, 1)]) (cs := (([.pointer (some ⟨b0, 0, none⟩)] : Cs) ++ (iv .u8 l1 ++ (([.int .i64 a2] : Cs) ++ (([.int .u64 (IntKind.u64.wrap a3)] : Cs) ++ (([.int .u64 a4_0] : Cs) ++ (([.int .u64 a4_1] : Cs) ++ (iv .u8 l4_2 ++ (([.int .u64 a5] : Cs) ++ ([.int .u64 a6] : Cs)))))))))) plc98 zero98 rfl (by refine Fills.cons (o := 0) (ms := (([.pointer (some ⟨b0, 0, none⟩)] : Cs))) (show _ = some (0, (([.pointer (some ⟨b0, 0, none⟩)] : Cs)).length) by rw [show (([.pointer (some ⟨b0, 0, none⟩)] : Cs)).length = 1 from (by first | rfl | simp only [List.length_append, List.length_cons, List.length_nil, iv_length])] <;> rfl) rfl (by have h1_ : (([.pointer (some ⟨b0, 0, none⟩)] : Cs)).length = 1 := (by first | rfl | simp only [List.length_append, List.length_cons, List.length_nil, iv_length]); have h2_ : (([.pointer none] : Cs) ++ (iv .u8 (List.replicate 32 (0 : Int)) ++ (([.int .i64 0] : Cs) ++ (([.int .u64 0] : Cs) ++ (([.int .u64 0] : Cs) ++ (([.int .u64 0] : Cs) ++ (iv .u8 (List.replicate 32 (0 : Int)) ++ (([.int .u64 0] : Cs) ++ ([.int .u64 0] : Cs))))))))).length = 71 := (by first | rfl | simp only [List.length_append, List.length_cons, List.length_nil, iv_length, List.length_replicate]); omega) ?_; rw [show layV (([.pointer none] : Cs) ++ (iv .u8 (List.replicate 32 (0 : Int)) ++ (([.int .i64 0] : Cs) ++ (([.int .u64 0] : Cs) ++ (([.int .u64 0] : Cs) ++ (([.int .u64 0] : Cs) ++ (iv .u8 (List.replicate 32 (0 : Int)) ++ (([.int .u64 0] : Cs) ++ ([.int .u64 0] : Cs))))))))) 0 (([.pointer (some ⟨b0, 0, none⟩)] : Cs)) = (([.pointer (some ⟨b0, 0, none⟩)] : Cs) ++ (iv .u8 (List.replicate 32 (0 : Int)) ++ (([.int .i64 0] : Cs) ++ (([.int .u64 0] : Cs) ++ (([.int .u64 0] : Cs) ++ (([.int .u64 0] : Cs) ++ (iv .u8 (List.replicate 32 (0 : Int)) ++ (([.int .u64 0] : Cs) ++ ([.int .u64 0] : Cs))))))))) from (layV_mid (pre := (([] : Cs))) (mid := (([.pointer none] : Cs))) (post := (iv .u8 (List.replicate 32 (0 : Int)) ++ (([.int .i64 0] : Cs) ++ (([.int .u64 0] : Cs) ++ (([.int .u64 0] : Cs) ++ (([.int .u64 0] : Cs) ++ (iv .u8 (List.replicate 32 (0 : Int)) ++ (([.int .u64 0] : Cs) ++ ([.int .u64 0] : Cs))))))))) (by first | rfl | simp only [List.append_assoc, List.append_nil, List.nil_append, List.cons_append]) (by first | rfl | simp only [List.length_append, List.length_cons, List.length_nil, iv_length]) (Eq.trans (b := 1) (by first | rfl | simp only [List.length_append, List.length_cons, List.length_nil, iv_length]) (Eq.symm (by first | rfl | simp only [List.length_append, List.length_cons, List.length_nil, iv_length])))).trans (by first | rfl | simp only [List.append_assoc, List.append_nil, List.nil_append, List.cons_append])]; refine Fills.cons (o := 1) (ms := (iv .u8 l1)) (show _ = some (1, (iv .u8 l1).length) by rw [show (iv .u8 l1).length = 32 from (by first | rfl | simp only [List.length_append, List.length_cons, List.length_nil, iv_length, hl1])] <;> rfl) rfl (by have h1_ : (iv .u8 l1).length = 32 := (by first | rfl | simp only [List.length_append, List.length_cons, List.length_nil, iv_length, hl1]); have h2_ : (([.pointer (some ⟨b0, 0, none⟩)] : Cs) ++ (iv .u8 (List.replicate 32 (0 : Int)) ++ (([.int .i64 0] : Cs) ++ (([.int .u64 0] : Cs) ++ (([.int .u64 0] : Cs) ++ (([.int .u64 0] : Cs) ++ (iv .u8 (List.replicate 32 (0 : Int)) ++ (([.int .u64 0] : Cs) ++ ([.int .u64 0] : Cs))))))))).length = 71 := (by first | rfl | simp only [List.length_append, List.length_cons, List.length_nil, iv_length, List.length_replicate]); omega) ?_; rw [show layV (([.pointer (some ⟨b0, 0, none⟩)] : Cs) ++ (iv .u8 (List.replicate 32 (0 : Int)) ++ (([.int .i64 0] : Cs) ++ (([.int .u64 0] : Cs) ++ (([.int .u64 0] : Cs) ++ (([.int .u64 0] : Cs) ++ (iv .u8 (List.replicate 32 (0 : Int)) ++ (([.int .u64 0] : Cs) ++ ([.int .u64 0] : Cs))))))))) 1 (iv .u8 l1) = (([.pointer (some ⟨b0, 0, none⟩)] : Cs) ++ (iv .u8 l1 ++ (([.int .i64 0] : Cs) ++ (([.int .u64 0] : Cs) ++ (([.int .u64 0] : Cs) ++ (([.int .u64 0] : Cs) ++ (iv .u8 (List.replicate 32 (0 : Int)) ++ (([.int .u64 0] : Cs) ++ ([.int .u64 0] : Cs))))))))) from (layV_mid (pre := (([.pointer (some ⟨b0, 0, none⟩)] : Cs))) (mid := (iv .u8 (List.replicate 32 (0 : Int)))) (post := (([.int .i64 0] : Cs) ++ (([.int .u64 0] : Cs) ++ (([.int .u64 0] : Cs) ++ (([.int .u64 0] : Cs) ++ (iv .u8 (List.replicate 32 (0 : Int)) ++ (([.int .u64 0] : Cs) ++ ([.int .u64 0] : Cs)))))))) (by first | rfl | simp only [List.append_assoc, List.append_nil, List.nil_append, List.cons_append]) (by first | rfl | simp only [List.length_append, List.length_cons, List.length_nil, iv_length]) (Eq.trans (b := 32) (by first | rfl | simp only [List.length_append, List.length_cons, List.length_nil, iv_length, List.length_replicate]) (Eq.symm (by first | rfl | simp only [List.length_append, List.length_cons, List.length_nil, iv_length, hl1])))).trans (by first | rfl | simp only [List.append_assoc, List.append_nil, List.nil_append, List.cons_append])]; refine Fills.cons (o := 33) (ms := (([.int .i64 a2] : Cs))) (show _ = some (33, (([.int .i64 a2] : Cs)).length) by rw [show (([.int .i64 a2] : Cs)).length = 1 from (by first | rfl | simp only [List.length_append, List.length_cons, List.length_nil, iv_length])] <;> rfl) rfl (by have h1_ : (([.int .i64 a2] : Cs)).length = 1 := (by first | rfl | simp only [List.length_append, List.length_cons, List.length_nil, iv_length]); have h2_ : (([.pointer (some ⟨b0, 0, none⟩)] : Cs) ++ (iv .u8 l1 ++ (([.int .i64 0] : Cs) ++ (([.int .u64 0] : Cs) ++ (([.int .u64 0] : Cs) ++ (([.int .u64 0] : Cs) ++ (iv .u8 (List.replicate 32 (0 : Int)) ++ (([.int .u64 0] : Cs) ++ ([.int .u64 0] : Cs))))))))).length = 71 := (by first | rfl | simp only [List.length_append, List.length_cons, List.length_nil, iv_length, hl1, List.length_replicate]); omega) ?_; rw [show layV (([.pointer (some ⟨b0, 0, none⟩)] : Cs) ++ (iv .u8 l1 ++ (([.int .i64 0] : Cs) ++ (([.int .u64 0] : Cs) ++ (([.int .u64 0] : Cs) ++ (([.int .u64 0] : Cs) ++ (iv .u8 (List.replicate 32 (0 : Int)) ++ (([.int .u64 0] : Cs) ++ ([.int .u64 0] : Cs))))))))) 33 (([.int .i64 a2] : Cs)) = (([.pointer (some ⟨b0, 0, none⟩)] : Cs) ++ (iv .u8 l1 ++ (([.int .i64 a2] : Cs) ++ (([.int .u64 0] : Cs) ++ (([.int .u64 0] : Cs) ++ (([.int .u64 0] : Cs) ++ (iv .u8 (List.replicate 32 (0 : Int)) ++ (([.int .u64 0] : Cs) ++ ([.int .u64 0] : Cs))))))))) from (layV_mid (pre := (([.pointer (some ⟨b0, 0, none⟩)] : Cs) ++ iv .u8 l1)) (mid := (([.int .i64 0] : Cs))) (post := (([.int .u64 0] : Cs) ++ (([.int .u64 0] : Cs) ++ (([.int .u64 0] : Cs) ++ (iv .u8 (List.replicate 32 (0 : Int)) ++ (([.int .u64 0] : Cs) ++ ([.int .u64 0] : Cs))))))) (by first | rfl | simp only [List.append_assoc, List.append_nil, List.nil_append, List.cons_append]) (by first | rfl | simp only [List.length_append, List.length_cons, List.length_nil, iv_length, hl1]) (Eq.trans (b := 1) (by first | rfl | simp only [List.length_append, List.length_cons, List.length_nil, iv_length]) (Eq.symm (by first | rfl | simp only [List.length_append, List.length_cons, List.length_nil, iv_length])))).trans (by first | rfl | simp only [List.append_assoc, List.append_nil, List.nil_append, List.cons_append])]; refine Fills.cons (o := 34) (ms := (([.int .u64 (IntKind.u64.wrap a3)] : Cs))) (show _ = some (34, (([.int .u64 (IntKind.u64.wrap a3)] : Cs)).length) by rw [show (([.int .u64 (IntKind.u64.wrap a3)] : Cs)).length = 1 from (by first | rfl | simp only [List.length_append, List.length_cons, List.length_nil, iv_length])] <;> rfl) rfl (by have h1_ : (([.int .u64 (IntKind.u64.wrap a3)] : Cs)).length = 1 := (by first | rfl | simp only [List.length_append, List.length_cons, List.length_nil, iv_length]); have h2_ : (([.pointer (some ⟨b0, 0, none⟩)] : Cs) ++ (iv .u8 l1 ++ (([.int .i64 a2] : Cs) ++ (([.int .u64 0] : Cs) ++ (([.int .u64 0] : Cs) ++ (([.int .u64 0] : Cs) ++ (iv .u8 (List.replicate 32 (0 : Int)) ++ (([.int .u64 0] : Cs) ++ ([.int .u64 0] : Cs))))))))).length = 71 := (by first | rfl | simp only [List.length_append, List.length_cons, List.length_nil, iv_length, hl1, List.length_replicate]); omega) ?_; rw [show layV (([.pointer (some ⟨b0, 0, none⟩)] : Cs) ++ (iv .u8 l1 ++ (([.int .i64 a2] : Cs) ++ (([.int .u64 0] : Cs) ++ (([.int .u64 0] : Cs) ++ (([.int .u64 0] : Cs) ++ (iv .u8 (List.replicate 32 (0 : Int)) ++ (([.int .u64 0] : Cs) ++ ([.int .u64 0] : Cs))))))))) 34 (([.int .u64 (IntKind.u64.wrap a3)] : Cs)) = (([.pointer (some ⟨b0, 0, none⟩)] : Cs) ++ (iv .u8 l1 ++ (([.int .i64 a2] : Cs) ++ (([.int .u64 (IntKind.u64.wrap a3)] : Cs) ++ (([.int .u64 0] : Cs) ++ (([.int .u64 0] : Cs) ++ (iv .u8 (List.replicate 32 (0 : Int)) ++ (([.int .u64 0] : Cs) ++ ([.int .u64 0] : Cs))))))))) from (layV_mid (pre := (([.pointer (some ⟨b0, 0, none⟩)] : Cs) ++ (iv .u8 l1 ++ ([.int .i64 a2] : Cs)))) (mid := (([.int .u64 0] : Cs))) (post := (([.int .u64 0] : Cs) ++ (([.int .u64 0] : Cs) ++ (iv .u8 (List.replicate 32 (0 : Int)) ++ (([.int .u64 0] : Cs) ++ ([.int .u64 0] : Cs)))))) (by first | rfl | simp only [List.append_assoc, List.append_nil, List.nil_append, List.cons_append]) (by first | rfl | simp only [List.length_append, List.length_cons, List.length_nil, iv_length, hl1]) (Eq.trans (b := 1) (by first | rfl | simp only [List.length_append, List.length_cons, List.length_nil, iv_length]) (Eq.symm (by first | rfl | simp only [List.length_append, List.length_cons, List.length_nil, iv_length])))).trans (by first | rfl | simp only [List.append_assoc, List.append_nil, List.nil_append, List.cons_append])]; refine Fills.cons (o := 35) (ms := (([.int .u64 a4_0] : Cs) ++ (([.int .u64 a4_1] : Cs) ++ iv .u8 l4_2))) (show _ = some (35, (([.int .u64 a4_0] : Cs) ++ (([.int .u64 a4_1] : Cs) ++ iv .u8 l4_2)).length) by rw [show (([.int .u64 a4_0] : Cs) ++ (([.int .u64 a4_1] : Cs) ++ iv .u8 l4_2)).length = 34 from (by first | rfl | simp only [List.length_append, List.length_cons, List.length_nil, iv_length, hl4_2])] <;> rfl) rfl (by have h1_ : (([.int .u64 a4_0] : Cs) ++ (([.int .u64 a4_1] : Cs) ++ iv .u8 l4_2)).length = 34 := (by first | rfl | simp only [List.length_append, List.length_cons, List.length_nil, iv_length, hl4_2]); have h2_ : (([.pointer (some ⟨b0, 0, none⟩)] : Cs) ++ (iv .u8 l1 ++ (([.int .i64 a2] : Cs) ++ (([.int .u64 (IntKind.u64.wrap a3)] : Cs) ++ (([.int .u64 0] : Cs) ++ (([.int .u64 0] : Cs) ++ (iv .u8 (List.replicate 32 (0 : Int)) ++ (([.int .u64 0] : Cs) ++ ([.int .u64 0] : Cs))))))))).length = 71 := (by first | rfl | simp only [List.length_append, List.length_cons, List.length_nil, iv_length, hl1, List.length_replicate]); omega) ?_; rw [show layV (([.pointer (some ⟨b0, 0, none⟩)] : Cs) ++ (iv .u8 l1 ++ (([.int .i64 a2] : Cs) ++ (([.int .u64 (IntKind.u64.wrap a3)] : Cs) ++ (([.int .u64 0] : Cs) ++ (([.int .u64 0] : Cs) ++ (iv .u8 (List.replicate 32 (0 : Int)) ++ (([.int .u64 0] : Cs) ++ ([.int .u64 0] : Cs))))))))) 35 (([.int .u64 a4_0] : Cs) ++ (([.int .u64 a4_1] : Cs) ++ iv .u8 l4_2)) = (([.pointer (some ⟨b0, 0, none⟩)] : Cs) ++ (iv .u8 l1 ++ (([.int .i64 a2] : Cs) ++ (([.int .u64 (IntKind.u64.wrap a3)] : Cs) ++ (([.int .u64 a4_0] : Cs) ++ (([.int .u64 a4_1] : Cs) ++ (iv .u8 l4_2 ++ (([.int .u64 0] : Cs) ++ ([.int .u64 0] : Cs))))))))) from (layV_mid (pre := (([.pointer (some ⟨b0, 0, none⟩)] : Cs) ++ (iv .u8 l1 ++ (([.int .i64 a2] : Cs) ++ ([.int .u64 (IntKind.u64.wrap a3)] : Cs))))) (mid := (([.int .u64 0] : Cs) ++ (([.int .u64 0] : Cs) ++ iv .u8 (List.replicate 32 (0 : Int))))) (post := (([.int .u64 0] : Cs) ++ ([.int .u64 0] : Cs))) (by first | rfl | simp only [List.append_assoc, List.append_nil, List.nil_append, List.cons_append]) (by first | rfl | simp only [List.length_append, List.length_cons, List.length_nil, iv_length, hl1]) (Eq.trans (b := 34) (by first | rfl | simp only [List.length_append, List.length_cons, List.length_nil, iv_length, List.length_replicate]) (Eq.symm (by first | rfl | simp only [List.length_append, List.length_cons, List.length_nil, iv_length, hl4_2])))).trans (by first | rfl | simp only [List.append_assoc, List.append_nil, List.nil_append, List.cons_append])]; refine Fills.cons (o := 69) (ms := (([.int .u64 a5] : Cs))) (show _ = some (69, (([.int .u64 a5] : Cs)).length) by rw [show (([.int .u64 a5] : Cs)).length = 1 from (by first | rfl | simp only [List.length_append, List.length_cons, List.length_nil, iv_length])] <;> rfl) rfl (by have h1_ : (([.int .u64 a5] : Cs)).length = 1 := (by first | rfl | simp only [List.length_append, List.length_cons, List.length_nil, iv_length]); have h2_ : (([.pointer (some ⟨b0, 0, none⟩)] : Cs) ++ (iv .u8 l1 ++ (([.int .i64 a2] : Cs) ++ (([.int .u64 (IntKind.u64.wrap a3)] : Cs) ++ (([.int .u64 a4_0] : Cs) ++ (([.int .u64 a4_1] : Cs) ++ (iv .u8 l4_2 ++ (([.int .u64 0] : Cs) ++ ([.int .u64 0] : Cs))))))))).length = 71 := (by first | rfl | simp only [List.length_append, List.length_cons, List.length_nil, iv_length, hl1, hl4_2]); omega) ?_; rw [show layV (([.pointer (some ⟨b0, 0, none⟩)] : Cs) ++ (iv .u8 l1 ++ (([.int .i64 a2] : Cs) ++ (([.int .u64 (IntKind.u64.wrap a3)] : Cs) ++ (([.int .u64 a4_0] : Cs) ++ (([.int .u64 a4_1] : Cs) ++ (iv .u8 l4_2 ++ (([.int .u64 0] : Cs) ++ ([.int .u64 0] : Cs))))))))) 69 (([.int .u64 a5] : Cs)) = (([.pointer (some ⟨b0, 0, none⟩)] : Cs) ++ (iv .u8 l1 ++ (([.int .i64 a2] : Cs) ++ (([.int .u64 (IntKind.u64.wrap a3)] : Cs) ++ (([.int .u64 a4_0] : Cs) ++ (([.int .u64 a4_1] : Cs) ++ (iv .u8 l4_2 ++ (([.int .u64 a5] : Cs) ++ ([.int .u64 0] : Cs))))))))) from (layV_mid (pre := (([.pointer (some ⟨b0, 0, none⟩)] : Cs) ++ (iv .u8 l1 ++ (([.int .i64 a2] : Cs) ++ (([.int .u64 (IntKind.u64.wrap a3)] : Cs) ++ (([.int .u64 a4_0] : Cs) ++ (([.int .u64 a4_1] : Cs) ++ iv .u8 l4_2))))))) (mid := (([.int .u64 0] : Cs))) (post := (([.int .u64 0] : Cs))) (by first | rfl | simp only [List.append_assoc, List.append_nil, List.nil_append, List.cons_append]) (by first | rfl | simp only [List.length_append, List.length_cons, List.length_nil, iv_length, hl1, hl4_2]) (Eq.trans (b := 1) (by first | rfl | simp only [List.length_append, List.length_cons, List.length_nil, iv_length]) (Eq.symm (by first | rfl | simp only [List.length_append, List.length_cons, List.length_nil, iv_length])))).trans (by first | rfl | simp only [List.append_assoc, List.append_nil, List.nil_append, List.cons_append])]; refine Fills.cons (o := 70) (ms := (([.int .u64 a6] : Cs))) (show _ = some (70, (([.int .u64 a6] : Cs)).length) by rw [show (([.int .u64 a6] : Cs)).length = 1 from (by first | rfl | simp only [List.length_append, List.length_cons, List.length_nil, iv_length])] <;> rfl) rfl (by have h1_ : (([.int .u64 a6] : Cs)).length = 1 := (by first | rfl | simp only [List.length_append, List.length_cons, List.length_nil, iv_length]); have h2_ : (([.pointer (some ⟨b0, 0, none⟩)] : Cs) ++ (iv .u8 l1 ++ (([.int .i64 a2] : Cs) ++ (([.int .u64 (IntKind.u64.wrap a3)] : Cs) ++ (([.int .u64 a4_0] : Cs) ++ (([.int .u64 a4_1] : Cs) ++ (iv .u8 l4_2 ++ (([.int .u64 a5] : Cs) ++ ([.int .u64 0] : Cs))))))))).length = 71 := (by first | rfl | simp only [List.length_append, List.length_cons, List.length_nil, iv_length, hl1, hl4_2]); omega) ?_; rw [show layV (([.pointer (some ⟨b0, 0, none⟩)] : Cs) ++ (iv .u8 l1 ++ (([.int .i64 a2] : Cs) ++ (([.int .u64 (IntKind.u64.wrap a3)] : Cs) ++ (([.int .u64 a4_0] : Cs) ++ (([.int .u64 a4_1] : Cs) ++ (iv .u8 l4_2 ++ (([.int .u64 a5] : Cs) ++ ([.int .u64 0] : Cs))))))))) 70 (([.int .u64 a6] : Cs)) = (([.pointer (some ⟨b0, 0, none⟩)] : Cs) ++ (iv .u8 l1 ++ (([.int .i64 a2] : Cs) ++ (([.int .u64 (IntKind.u64.wrap a3)] : Cs) ++ (([.int .u64 a4_0] : Cs) ++ (([.int .u64 a4_1] : Cs) ++ (iv .u8 l4_2 ++ (([.int .u64 a5] : Cs) ++ ([.int .u64 a6] : Cs))))))))) from (layV_mid (pre := (([.pointer (some ⟨b0, 0, none⟩)] : Cs) ++ (iv .u8 l1 ++ (([.int .i64 a2] : Cs) ++ (([.int .u64 (IntKind.u64.wrap a3)] : Cs) ++ (([.int .u64 a4_0] : Cs) ++ (([.int .u64 a4_1] : Cs) ++ (iv .u8 l4_2 ++ ([.int .u64 a5] : Cs))))))))) (mid := (([.int .u64 0] : Cs))) (post := (([] : Cs))) (by first | rfl | simp only [List.append_assoc, List.append_nil, List.nil_append, List.cons_append]) (by first | rfl | simp only [List.length_append, List.length_cons, List.length_nil, iv_length, hl1, hl4_2]) (Eq.trans (b := 1) (by first | rfl | simp only [List.length_append, List.length_cons, List.length_nil, iv_length]) (Eq.symm (by first | rfl | simp only [List.length_append, List.length_cons, List.length_nil, iv_length])))).trans (by first | rfl | simp only [List.append_assoc, List.append_nil, List.nil_append, List.cons_append])]; exact Fills.nil)) ?_
        refine WL.box st_54 rfl rfl ?_
        intro B_63 w_64 st_65
        replace st_65 : St w w_64 (.cells B_63 (([.pointer (some ⟨b0, 0, none⟩)] : Cs) ++ (iv .u8 l1 ++ (([.int .i64 a2] : Cs) ++ (([.int .u64 (IntKind.u64.wrap a3)] : Cs) ++ (([.int .u64 a4_0] : Cs) ++ (([.int .u64 a4_1] : Cs) ++ (iv .u8 l4_2 ++ (([.int .u64 a5] : Cs) ++ ([.int .u64 a6] : Cs))))))))) 98 :: .cells b0 (([.slice A_37_0 n_38_0 c_39_0] : Cs) ++ (([.slice A_37_1 n_38_1 c_39_1] : Cs) ++ (([.int .i64 a_44_2] : Cs) ++ (([.bool a_44_3] : Cs) ++ ([.slice A_37_4 n_38_4 c_39_4] : Cs))))) 95 :: .sl A_37_0 c_39_0 n_38_0 x_41_0 25 1 :: .sl A_37_1 c_39_1 n_38_1 x_41_1 124 2 :: .sl A_37_4 c_39_4 n_38_4 x_41_4 48 2 :: .cells B_5 (([.int .u64 a4_0] : Cs) ++ (([.int .u64 a4_1] : Cs) ++ iv .u8 l4_2)) 39 :: .cells B_1 (iv .u8 l1) 23 :: (T_35 ++ R)) := st_65
        refine WL.val Wanted.none (Runs.assign rfl) ?_
        refine WL.val Wanted.none (Runs.assign rfl) ?_
        refine WL.nil (QW.then_n ?_)
        refine CW.sub [(14, .pointer (some ⟨B_63, 0, none⟩)), (15, .int .i64 0)] ⟨rfl, rfl, trivial⟩ ?_
        refine CW.ret ?_
        obtain ⟨h_, rfl, rfl, rfl, rfl, rfl, rfl⟩ := H
        replace h_ := ho_.symm.trans h_
        cases h_
        exact QW.ret2 rfl rfl rfl ⟨T_35, A_37_0, n_38_0, c_39_0, x_41_0, A_37_1, n_38_1, c_39_1, x_41_1, A_37_4, n_38_4, c_39_4, x_41_4, B_63, (hs_17.trans hs_36), hn_42_0, hx_43_0, hn_42_1, hx_43_1, hn_42_4, hx_43_4, hl1, hl4_2, rfl, (St.pickT (L := [_, _, _, _, _, _, _]) st_65 [1, 2, 3, 4, 0] (by decide))⟩

/-! ### record_Of_1: function 58 -/
def record_Of_1.rel (a0_0 : Int) (l0_1 : List Int) (ar0 : Bool) : Prop := ar0 = ((l0_1.length : Int) != 160)
set_option maxHeartbeats 1000000 in
set_option maxRecDepth 100000 in
theorem record_Of_1.calls (w w1 : World) (T R : Pool) (a0_0 : Int) (l0_1 : List Int) (A0_1 : Option Addr) (n0_1 : Nat) (c0_1 : Nat) (st0 : St w w1 ((T ++ R))) (hb0_1 : HB w T A0_1 n0_1 c0_1 (iv .u8 l0_1) l0_1.length) (ar0 : Bool) (H : record_Of_1.rel a0_0 l0_1 ar0) :
  Calls Tryd.prog 58 #[.agg (([.int .u64 a0_0] : Cs) ++ ([.slice A0_1 n0_1 c0_1] : Cs)).toArray] w1 fun e w' => ∃ T' , Pl T T' ∧ e = .returned (.bool ar0) ∧ St w w' ((T' ++ R)) := by
 refine CW.enter Tryd.func58 rfl (n := 7) rfl [.agg (([.int .u64 a0_0] : Cs) ++ ([.slice A0_1 n0_1 c0_1] : Cs)).toArray] (Nat.le_of_ble_eq_true rfl) ?_
 refine CW.sub [(0, .agg (([.int .u64 a0_0] : Cs) ++ ([.slice A0_1 n0_1 c0_1] : Cs)).toArray)] ⟨rfl, trivial⟩ ?_
 refine CW.seq (CW.region ?_)
 refine WL.box st0 rfl rfl ?_
 intro B_1 w_2 st_3
 replace st_3 : St w w_2 (.cells B_1 (([.int .u64 a0_0] : Cs) ++ ([.slice A0_1 n0_1 c0_1] : Cs)) 42 :: (T ++ R)) := st_3
 refine WL.val Wanted.none (Runs.assign rfl) ?_
 refine WL.nil (QW.then_n ?_)
 refine CW.seq (CW.region ?_)
 refine WL.val Wanted.none (Runs.fieldAddr (off := 1) (p := 1) fld42_1 rfl rfl rfl) ?_
 refine WL.val Wanted.none (Runs.load nagg25 rfl (st_3.cell (k := 0) rfl (part_one (u := .slice A0_1 n0_1 c0_1) (pre := (([.int .u64 a0_0] : Cs))) (post := (([] : Cs))) (by first | rfl | simp only [List.append_assoc, List.append_nil, List.nil_append, List.cons_append]) (by first | rfl | simp only [List.length_append, List.length_cons, List.length_nil, iv_length])))) ?_
 refine WL.val Wanted.none (Runs.len_sl Tryd.underlying25 rfl (by rw [hb0_1.1])) ?_
 refine WL.val Wanted.none (Runs.neq rfl rfl rfl) ?_
 refine WL.val Wanted.none (Runs.assign rfl) ?_
 refine WL.nil (QW.then_n ?_)
 refine CW.sub [(2, .bool ((l0_1.length : Int) != 160))] ⟨rfl, trivial⟩ ?_
 refine CW.ret ?_
 obtain rfl := H
 exact QW.ret1 rfl rfl ⟨T, Pl.refl, rfl, (St.pickT (L := [_]) st_3 [] (by decide))⟩

/-! ### slices_IndexFunc_s_api_Image_api_Image_fn1_record_Of_1: function 77 -/
def slices_IndexFunc_s_api_Image_api_Image_fn1_record_Of_1.L1 (l0 : List R42) (ar0 : Int) : Nat → Int → Int → Prop
 | 0, _, _ => False
 | kL1 + 1, x_4, x_5 => ((x_5 < (l0.length : Int) ∧ ((0 ≤ x_5 ∧ x_5 < (l0.length : Int)) ∧ (∃ (a_31 : Bool), record_Of_1.rel ((gx l0 (x_5.toNat)).1) ((gx l0 (x_5.toNat)).2) a_31 ∧ ((a_31 = true ∧ ar0 = x_5) ∨ (¬ (a_31 = true) ∧ slices_IndexFunc_s_api_Image_api_Image_fn1_record_Of_1.L1 l0 ar0 kL1 x_4 (IntKind.i64.wrap (x_5 + 1))))))) ∨ (¬ (x_5 < (l0.length : Int)) ∧ ar0 = -1))
def slices_IndexFunc_s_api_Image_api_Image_fn1_record_Of_1.rel (l0 : List R42) (ar0 : Int) : Prop := (∃ k_ : Nat, slices_IndexFunc_s_api_Image_api_Image_fn1_record_Of_1.L1 l0 ar0 k_ 0 0)
set_option maxHeartbeats 1000000 in
set_option maxRecDepth 100000 in
theorem slices_IndexFunc_s_api_Image_api_Image_fn1_record_Of_1.calls (w w1 : World) (T R : Pool) (l0 : List R42) (A0 : Option Addr) (n0 : Nat) (c0 : Nat) (st0 : St w w1 ((T ++ R))) (hb0 : HS w (T ++ R) T A0 n0 c0 (f42 w) l0) (ar0 : Int) (H : slices_IndexFunc_s_api_Image_api_Image_fn1_record_Of_1.rel l0 ar0) :
  Calls Tryd.prog 77 #[.slice A0 n0 c0, .func (.func 58) #[] #[]] w1 fun e w' => ∃ T' , Pl T T' ∧ e = .returned (.int .i64 ar0) ∧ St w w' ((T' ++ R)) := by
 refine CW.enter Tryd.func77 rfl (n := 19) rfl [.slice A0 n0 c0, .func (.func 58) #[] #[]] (Nat.le_of_ble_eq_true rfl) ?_
 refine CW.sub [(0, .slice A0 n0 c0), (1, .func (.func 58) #[] #[])] ⟨rfl, rfl, trivial⟩ ?_
 refine CW.seq (CW.region ?_)
 refine WL.val Wanted.none (Runs.assign rfl) ?_
 refine WL.nil (QW.then_n ?_)
 refine CW.seq ?_
 refine CW.seq (CW.region ?_)
 refine WL.val Wanted.none (Runs.move rfl) ?_
 refine WL.val Wanted.none (Runs.len_sl Tryd.underlying40 rfl (by rw [hb0.1])) ?_
 refine WL.val Wanted.none (Runs.move rfl) ?_
 refine WL.nil (QW.then_n ?_)
 refine CW.block ?_
 obtain ⟨k_1, H⟩ := H
 refine CW.sub [(0, .slice A0 n0 c0), (1, .func (.func 58) #[] #[]), (4, .int .i64 0), (7, .int .i64 (l0.length : Int)), (8, .int .i64 0)] ⟨rfl, rfl, rfl, rfl, rfl, trivial⟩ ?_
 refine CW.loop (fun kL1 l_ w_ => ∃ (T_2 : Pool) (x_4 : Int) (x_5 : Int), l_ = [(0, .slice A0 n0 c0), (1, .func (.func 58) #[] #[]), (4, .int .i64 x_4), (7, .int .i64 (l0.length : Int)), (8, .int .i64 x_5)] ∧ slices_IndexFunc_s_api_Image_api_Image_fn1_record_Of_1.L1 l0 ar0 kL1 x_4 x_5 ∧ (Pl T T_2) ∧ St w w_ ((T_2 ++ R))) (k := k_1) ⟨T, 0, 0, rfl, H, Pl.refl, st0⟩ (fun _ _ h => by obtain ⟨_, _, _, _, h, _⟩ := h; exact h.elim) ?_
 rintro kL1 l_8 w_6 ⟨T_2, x_4, x_5, rfl, H, hs_3, st_7⟩
 refine CW.seq (CW.region ?_)
 refine WL.val Wanted.none (Runs.lss rfl rfl rfl) ?_
 refine WL.nil (QW.then_n ?_)
 refine CW.seq ?_
 rcases H with ⟨c_9, H⟩ | ⟨c_9, H⟩
 ·have h_10 : (decide (x_5 < (l0.length : Int))) = true := (decide_eq_true c_9)
  refine CW.ct rfl h_10 ?_
  refine CW.skip ?_
  refine QW.then_n ?_
  refine CW.seq ?_
  refine CW.block ?_
  refine CW.seq (CW.region ?_)
  refine WL.val Wanted.none (Runs.move rfl) ?_
  refine WL.val Wanted.none (Runs.assign rfl) ?_
  refine WL.nil (QW.then_n ?_)
  refine CW.seq (CW.region ?_)
  refine WL.val Wanted.none (Runs.move rfl) ?_
  refine WL.val Wanted.none (Runs.move rfl) ?_
  refine WL.val Wanted.none (Runs.move rfl) ?_
  obtain ⟨⟨p_11, q_12⟩, H⟩ := H
  obtain ⟨x_13, hs_14, hr_15⟩ := hb0.2.2
  obtain ⟨a_16, e_17, ms_18, hc_19, hm_20⟩ := el_get (i := (x_5).toNat) ((hs_14.at st_7 (mem_TR (A := []) (fun _ h_ => hs_3.1 _ h_)))) (hr_15.mono (fun _ h_ => hs_3.1 _ h_)) (fz42 w) (by decide) (by omega)
  obtain ⟨A_21, n_22, c_23, em_25, hb_24⟩ := inv42 hm_20
  replace em_25 : ms_18 = ([.int .u64 ((gx l0 (x_5.toNat)).1)] : Cs) ++ ([.slice A_21 n_22 c_23] : Cs) := em_25
  subst em_25
  refine WL.val Wanted.none (Runs.indexAddr Tryd.underlying40 cells42 (by decide) rfl e_17 rfl p_11 (by rw [show n0 = l0.length from hb0.1]; exact q_12) (o := (x_5.toNat) * 2) (by first | rfl | omega)) ?_
  refine WL.val Wanted.none (Runs.load_srcR row42 rfl (Src.cut ((hs_14.at st_7 (mem_TR (A := []) (fun _ h_ => hs_3.1 _ h_)))) e_17 hc_19) rfl) ?_
  have st_26 : St w w_6 ((T_2 ++ (R))) := St.hide (A := []) (B := []) (T := T_2) (R := R) st_7
  obtain ⟨a_31, hr_27, H⟩ := H
  refine WL.callv Wanted.none ent58 rfl rfl (record_Of_1.calls w w_6 T_2 (R) ((gx l0 (x_5.toNat)).1) ((gx l0 (x_5.toNat)).2) A_21 n_22 c_23  st_26 hb_24 a_31 hr_27) ?_
  rintro _ w_32 ⟨T_28, hs_29, rfl, sc_34⟩
  have st_33 : St w w_32 ((T_28 ++ R)) := St.unhide (A := []) (B := []) (T := T_28) (R := R) sc_34
  refine ⟨_, rfl, ?_⟩
  refine WL.nil (QW.then_n ?_)
  rcases H with ⟨c_35, H⟩ | ⟨c_35, H⟩
  ·have h_36 : a_31 = true := c_35
   refine CW.ct rfl h_36 ?_
   refine CW.seq (CW.region ?_)
   refine WL.val Wanted.none (Runs.move rfl) ?_
   refine WL.val Wanted.none (Runs.assign rfl) ?_
   refine WL.nil (QW.then_n ?_)
   refine CW.ret ?_
   refine QW.blk_r ?_
   refine QW.then_r ?_
   refine QW.then_r ?_
   refine QW.blk_r ?_
   refine QW.then_r ?_
   obtain rfl := H
   exact QW.ret1 rfl rfl ⟨T_28, (hs_3.trans hs_29), rfl, (St.pickT (L := []) st_33 [] (by decide))⟩
  ·have h_36 : a_31 = false := (Bool.eq_false_iff.mpr c_35)
   refine CW.cf rfl h_36 ?_
   refine CW.skip ?_
   refine QW.blk_n ?_
   refine QW.then_n ?_
   refine CW.region ?_
   refine WL.val Wanted.none (Runs.add rfl rfl rfl) ?_
   refine WL.val Wanted.none (Runs.move rfl) ?_
   refine WL.nil ?_
   exact QW.at _ (by repeat' constructor) ⟨T_28, x_4, IntKind.i64.wrap (x_5 + 1), rfl, H, (hs_3.trans hs_29), st_33⟩
 ·have h_10 : (decide (x_5 < (l0.length : Int))) = false := (decide_eq_false c_9)
  refine CW.cf rfl h_10 ?_
  refine CW.exit ?_
  refine QW.then_x ?_
  refine QW.then_x ?_
  refine QW.blk_x ?_
  refine QW.then_n ?_
  refine CW.seq (CW.region ?_)
  refine WL.val Wanted.none (Runs.assign rfl) ?_
  refine WL.nil (QW.then_n ?_)
  refine CW.ret ?_
  obtain rfl := H
  exact QW.ret1 rfl rfl ⟨T_2, hs_3, rfl, (St.pickT (L := []) st_7 [] (by decide))⟩

/-! ### slices_ContainsFunc_s_api_Image_api_Image_fn1_record_Of_1: function 59 -/
def slices_ContainsFunc_s_api_Image_api_Image_fn1_record_Of_1.rel (l0 : List R42) (ar0 : Bool) : Prop := (∃ (a_6 : Int), slices_IndexFunc_s_api_Image_api_Image_fn1_record_Of_1.rel l0 a_6 ∧ ar0 = (decide (a_6 ≥ 0)))
set_option maxHeartbeats 1000000 in
set_option maxRecDepth 100000 in
theorem slices_ContainsFunc_s_api_Image_api_Image_fn1_record_Of_1.calls (w w1 : World) (T R : Pool) (l0 : List R42) (A0 : Option Addr) (n0 : Nat) (c0 : Nat) (st0 : St w w1 ((T ++ R))) (hb0 : HS w (T ++ R) T A0 n0 c0 (f42 w) l0) (ar0 : Bool) (H : slices_ContainsFunc_s_api_Image_api_Image_fn1_record_Of_1.rel l0 ar0) :
  Calls Tryd.prog 59 #[.slice A0 n0 c0, .func (.func 58) #[] #[]] w1 fun e w' => ∃ T' , Pl T T' ∧ e = .returned (.bool ar0) ∧ St w w' ((T' ++ R)) := by
 refine CW.enter Tryd.func59 rfl (n := 9) rfl [.slice A0 n0 c0, .func (.func 58) #[] #[]] (Nat.le_of_ble_eq_true rfl) ?_
 refine CW.sub [(0, .slice A0 n0 c0), (1, .func (.func 58) #[] #[])] ⟨rfl, rfl, trivial⟩ ?_
 refine CW.seq (CW.region ?_)
 refine WL.val Wanted.none (Runs.assign rfl) ?_
 refine WL.nil (QW.then_n ?_)
 refine CW.seq (CW.region ?_)
 refine WL.val Wanted.none (Runs.move rfl) ?_
 refine WL.val Wanted.none (Runs.move rfl) ?_
 have st_1 : St w w1 ((T ++ (R))) := St.hide (A := []) (B := []) (T := T) (R := R) st0
 obtain ⟨a_6, hr_2, H⟩ := H
 refine WL.call Wanted.none ent77 rfl (slices_IndexFunc_s_api_Image_api_Image_fn1_record_Of_1.calls w w1 T (R) l0 A0 n0 c0  st_1 (hb0.mono (memo_TR (B := []) (fun _ h_ => h_)) (fun _ h_ => h_)) a_6 hr_2) ?_
 rintro _ w_7 ⟨T_3, hs_4, rfl, sc_9⟩
 have st_8 : St w w_7 ((T_3 ++ R)) := St.unhide (A := []) (B := []) (T := T_3) (R := R) sc_9
 refine ⟨_, rfl, ?_⟩
 refine WL.val Wanted.none (Runs.geq rfl rfl rfl) ?_
 refine WL.val Wanted.none (Runs.assign rfl) ?_
 refine WL.nil (QW.then_n ?_)
 refine CW.sub [(4, .bool (decide (a_6 ≥ 0)))] ⟨rfl, trivial⟩ ?_
 refine CW.ret ?_
 obtain rfl := H
 exact QW.ret1 rfl rfl ⟨T_3, hs_4, rfl, (St.pickT (L := []) st_8 [] (by decide))⟩

/-! ### slices_Clone_s_byte_byte: function 48 -/
def slices_Clone_s_byte_byte.rel (l0 : List Int) (r0 : List Int) : Prop := (l0 = [] → r0 = []) ∧ (∃ m_7 : List Int, m_7 = ([] : List Int) ++ l0 ∧ (m_7.length ≤ 1099511627776 ∧ r0 = m_7))
set_option maxHeartbeats 4000000 in
set_option maxRecDepth 100000 in
theorem slices_Clone_s_byte_byte.calls (w : World) (l0 : List Int) (A0 : Option Addr) (n0 : Nat) (c0 : Nat)  (hs0 : Src w A0 (iv .u8 l0)) (hn0 : n0 = l0.length) (hc0 : n0 ≤ c0) (r0 : List Int) (H : slices_Clone_s_byte_byte.rel l0 r0) :
  Calls Tryd.prog 48 #[.slice A0 n0 c0] w fun e w' => ∃ B0 q0 z0, z0 = r0.length ∧ e = .returned (.slice B0 z0 q0) ∧ St w w' [.sl B0 q0 z0 (iv .u8 r0) 5 1] := by
 rcases A0 with _ | A_
 ·replace H := H.1 (nil_of_src hs0)
  refine CW.enter Tryd.func48 rfl (n := 8) rfl [.slice none n0 c0] (Nat.le_of_ble_eq_true rfl) ?_
  refine CW.sub [(0, .slice none n0 c0)] ⟨rfl, trivial⟩ ?_
  have st0 : St w w [] := St.refl w
  refine CW.seq (CW.region ?_)
  refine WL.val Wanted.none (Runs.assign rfl) ?_
  refine WL.nil (QW.then_n ?_)
  refine CW.seq ?_
  refine CW.seq (CW.region ?_)
  refine WL.val Wanted.none (Runs.move rfl) ?_
  refine WL.val Wanted.none (Runs.eql_nil Tryd.underlying25 rfl rfl rfl) ?_
  refine WL.nil (QW.then_n ?_)
  refine CW.ct rfl rfl ?_
  refine CW.seq (CW.region ?_)
  refine WL.val Wanted.none (Runs.assign rfl) ?_
  refine WL.nil (QW.then_n ?_)
  refine CW.ret ?_
  refine QW.then_r ?_
  have st_2 := st0.nil_sl 5 1
  have st_2 : St w w [.sl none 0 0 (iv .u8 ([] : List Int)) 5 1] := st_2
  obtain rfl := H
  exact QW.ret1 rfl rfl ⟨none, 0, 0, rfl, rfl, st_2.pick [0] (by decide)⟩
 ·replace H := H.2
  refine CW.enter Tryd.func48 rfl (n := 8) rfl [.slice (some A_) n0 c0] (Nat.le_of_ble_eq_true rfl) ?_
  refine CW.sub [(0, .slice (some A_) n0 c0)] ⟨rfl, trivial⟩ ?_
  have st0 : St w w [] := St.refl w
  refine CW.seq (CW.region ?_)
  refine WL.val Wanted.none (Runs.assign rfl) ?_
  refine WL.nil (QW.then_n ?_)
  refine CW.seq ?_
  refine CW.seq (CW.region ?_)
  refine WL.val Wanted.none (Runs.move rfl) ?_
  refine WL.val Wanted.none (Runs.eql_nil Tryd.underlying25 rfl rfl rfl) ?_
  refine WL.nil (QW.then_n ?_)
  refine CW.cf rfl rfl ?_
  refine CW.skip ?_
  refine QW.then_n ?_
  refine CW.seq (CW.region ?_)
  refine WL.buildSl0 st0 Tryd.underlying25 elem5 ?_
  intro B_3 w_4 st_5
  replace st_5 : St w w_4 [.sl (some ⟨B_3, 0, none⟩) 0 0 (iv .u8 ([] : List Int)) 5 1] := st_5
  refine WL.val Wanted.none (Runs.move rfl) ?_
  obtain ⟨m_7, e_8, H⟩ := H
  obtain ⟨z_9, H⟩ := H
  obtain ⟨n_12, hn_15⟩ : ∃ n_ : Nat, n_ = m_7.length := ⟨_, rfl⟩
  refine WL.append (i := 0) Wanted.none st_5 rfl Tryd.underlying25 elem5 rfl rfl (hs0.ext st_5) (by rw [iv_length]; exact (hn0).symm) (one_iv .u8 _) (by decide) (N := n_12) (by rw [hn_15, e_8, List.length_append]; exact congr (congrArg HAdd.hAdd (rfl)) (hn0)) (by rw [hn_15]; exact z_9) ?_
  intro A_10 c_11 w_13 st_14
  have st_14' : St w w_13 [.sl A_10 c_11 n_12 (iv .u8 m_7) 5 1] := by rw [e_8, ← iv_append .u8 ([] : List Int) l0]; exact st_14
  refine WL.val Wanted.none (Runs.assign rfl) ?_
  refine WL.nil (QW.then_n ?_)
  refine CW.sub [(2, .slice A_10 n_12 c_11)] ⟨rfl, trivial⟩ ?_
  refine CW.ret ?_
  obtain rfl := H
  exact QW.ret1 rfl rfl ⟨A_10, c_11, n_12, hn_15, rfl, st_14'.pick [0] (by decide)⟩

/-! ### record_Of: function 38 -/
def record_Of.L1 (l0 : List R42) (lr0 : List R104) (ar1 : Int) : Nat → (List R104) → Int → Prop
 | 0, _, _ => False
 | kL1 + 1, l_23, x_30 => ((x_30 < (l0.length : Int) ∧ ((0 ≤ x_30 ∧ x_30 < (l0.length : Int)) ∧ (∃ (r_61 : List Int), slices_Clone_s_byte_byte.rel ((gx l0 (x_30.toNat)).2) r_61 ∧ (∃ m_88 : List R104, m_88 = l_23 ++ ([((gx l0 (x_30.toNat)).1, r_61, x_30 == (IntKind.i64.wrap ((l0.length : Int) - 1)))] : List R104) ∧ (m_88.length ≤ 1099511627776 ∧ record_Of.L1 l0 lr0 ar1 kL1 m_88 (IntKind.i64.wrap (x_30 + 1))))))) ∨ (¬ (x_30 < (l0.length : Int)) ∧ lr0 = l_23 ∧ ar1 = 0))
def record_Of.rel (l0 : List R42) (lr0 : List R104) (ar1 : Int) : Prop := (((l0.length : Int) = 0 ∧ lr0 = ([] : List R104) ∧ ar1 = 1) ∨ (¬ ((l0.length : Int) = 0) ∧ (∃ (a_10 : Bool), slices_ContainsFunc_s_api_Image_api_Image_fn1_record_Of_1.rel l0 a_10 ∧ ((a_10 = true ∧ lr0 = ([] : List R104) ∧ ar1 = 1) ∨ (¬ (a_10 = true) ∧ (∃ k_ : Nat, record_Of.L1 l0 lr0 ar1 k_ ([] : List R104) 0))))))
set_option maxHeartbeats 1000000 in
set_option maxRecDepth 100000 in
theorem record_Of.calls (w w1 : World) (T R : Pool) (l0 : List R42) (A0 : Option Addr) (n0 : Nat) (c0 : Nat) (st0 : St w w1 ((T ++ R))) (hb0 : HS w (T ++ R) T A0 n0 c0 (f42 w) l0) (lr0 : List R104) (ar1 : Int) (H : record_Of.rel l0 lr0 ar1) :
  Calls Tryd.prog 38 #[.slice A0 n0 c0] w1 fun e w' => ∃ T' Ar0 nr0 cr0 xr0, Pl T T' ∧ nr0 = lr0.length ∧ HRs T' (f104 w) xr0 lr0 ∧ e = .returned (.tuple #[.slice Ar0 nr0 cr0, .int .i64 ar1]) ∧ St w w' (.sl Ar0 cr0 nr0 xr0 104 3 :: (T' ++ R)) := by
 refine CW.enter Tryd.func38 rfl (n := 39) rfl [.slice A0 n0 c0] (Nat.le_of_ble_eq_true rfl) ?_
 refine CW.sub [(0, .slice A0 n0 c0)] ⟨rfl, trivial⟩ ?_
 refine CW.seq (CW.region ?_)
 refine WL.val Wanted.none (Runs.assign rfl) ?_
 refine WL.val Wanted.none (Runs.assign rfl) ?_
 refine WL.nil (QW.then_n ?_)
 refine CW.seq (CW.region ?_)
 refine WL.val Wanted.none (Runs.assign rfl) ?_
 refine WL.nil (QW.then_n ?_)
 refine CW.seq ?_
 refine CW.seq (CW.region ?_)
 refine WL.val Wanted.none (Runs.move rfl) ?_
 refine WL.val Wanted.none (Runs.len_sl Tryd.underlying40 rfl (by rw [hb0.1])) ?_
 refine WL.val Wanted.none (Runs.eql rfl rfl rfl) ?_
 refine WL.val Wanted.none (Runs.move rfl) ?_
 rcases H with ⟨c_1, H⟩ | ⟨c_1, H⟩
 ·have h_2 : ((l0.length : Int) == 0) = true := (beq_iff_eq.mpr c_1)
  refine WL.off ?_ ?_; exact Wanted.guard (dj := 11) (by rfl) (evb (by rfl) h_2) (by rfl)
  refine WL.off ?_ ?_; exact Wanted.guard (dj := 11) (by rfl) (evb (by rfl) h_2) (by rfl)
  refine WL.off ?_ ?_; exact Wanted.guard (dj := 11) (by rfl) (evb (by rfl) h_2) (by rfl)
  refine WL.val Wanted.none (Runs.pick_t (evb rfl h_2) rfl) ?_
  refine WL.nil (QW.then_n ?_)
  refine CW.sub [(0, .slice A0 n0 c0), (2, .slice none 0 0), (3, .int .i64 0), (15, .bool true)] ⟨rfl, rfl, rfl, rfl, trivial⟩ ?_
  refine CW.ct rfl rfl ?_
  refine CW.seq (CW.region ?_)
  refine WL.val Wanted.none (Runs.assign rfl) ?_
  refine WL.val Wanted.none (Runs.assign rfl) ?_
  refine WL.nil (QW.then_n ?_)
  refine CW.ret ?_
  refine QW.then_r ?_
  have st_4 := st0.nil_sl 104 3
  have st_4 : St w w1 (.sl none 0 0 ([] : Cs) 104 3 :: (T ++ R)) := st_4
  obtain ⟨rfl, rfl⟩ := H
  exact QW.ret2 rfl rfl rfl ⟨T, none, 0, 0, ([] : Cs), Pl.refl, rfl, (HRs.nil : HRs T (f104 w) [] []), rfl, (St.pickT (L := [_]) st_4 [0] (by decide))⟩
 ·have h_2 : ((l0.length : Int) == 0) = false := (beq_eq_false_iff_ne.mpr c_1)
  refine WL.on ?_ ?_; exact Wanted.guard (dj := 11) (by rfl) (evb (by rfl) h_2) (by rfl)
  refine WL.val Wanted.none (Runs.move rfl) ?_
  refine WL.on ?_ ?_; exact Wanted.guard (dj := 11) (by rfl) (evb (by rfl) h_2) (by rfl)
  refine WL.val Wanted.none (Runs.move rfl) ?_
  refine WL.on ?_ ?_; exact Wanted.guard (dj := 11) (by rfl) (evb (by rfl) h_2) (by rfl)
  have st_5 : St w w1 ((T ++ (R))) := St.hide (A := []) (B := []) (T := T) (R := R) st0
  obtain ⟨a_10, hr_6, H⟩ := H
  refine WL.call Wanted.none ent59 rfl (slices_ContainsFunc_s_api_Image_api_Image_fn1_record_Of_1.calls w w1 T (R) l0 A0 n0 c0  st_5 (hb0.mono (memo_TR (B := []) (fun _ h_ => h_)) (fun _ h_ => h_)) a_10 hr_6) ?_
  rintro _ w_11 ⟨T_7, hs_8, rfl, sc_13⟩
  have st_12 : St w w_11 ((T_7 ++ R)) := St.unhide (A := []) (B := []) (T := T_7) (R := R) sc_13
  refine ⟨_, rfl, ?_⟩
  refine WL.val Wanted.none (Runs.pick_f (evb rfl h_2) rfl) ?_
  refine WL.nil (QW.then_n ?_)
  refine CW.sub [(0, .slice A0 n0 c0), (2, .slice none 0 0), (3, .int .i64 0), (15, .bool a_10)] ⟨rfl, rfl, rfl, rfl, trivial⟩ ?_
  rcases H with ⟨c_14, H⟩ | ⟨c_14, H⟩
  ·have h_15 : a_10 = true := c_14
   refine CW.ct rfl h_15 ?_
   refine CW.seq (CW.region ?_)
   refine WL.val Wanted.none (Runs.assign rfl) ?_
   refine WL.val Wanted.none (Runs.assign rfl) ?_
   refine WL.nil (QW.then_n ?_)
   refine CW.ret ?_
   refine QW.then_r ?_
   have st_17 := st_12.nil_sl 104 3
   have st_17 : St w w_11 (.sl none 0 0 ([] : Cs) 104 3 :: (T_7 ++ R)) := st_17
   obtain ⟨rfl, rfl⟩ := H
   exact QW.ret2 rfl rfl rfl ⟨T_7, none, 0, 0, ([] : Cs), hs_8, rfl, (HRs.nil : HRs T_7 (f104 w) [] []), rfl, (St.pickT (L := [_]) st_17 [0] (by decide))⟩
  ·have h_15 : a_10 = false := (Bool.eq_false_iff.mpr c_14)
   refine CW.cf rfl h_15 ?_
   refine CW.skip ?_
   refine QW.then_n ?_
   refine CW.seq (CW.region ?_)
   refine WL.val Wanted.none (Runs.assign rfl) ?_
   refine WL.nil (QW.then_n ?_)
   refine CW.seq ?_
   refine CW.seq (CW.region ?_)
   refine WL.val Wanted.none (Runs.move rfl) ?_
   refine WL.val Wanted.none (Runs.len_sl Tryd.underlying40 rfl (by rw [hb0.1])) ?_
   refine WL.val Wanted.none (Runs.move rfl) ?_
   refine WL.nil (QW.then_n ?_)
   refine CW.block ?_
   have st_19 := st_12.nil_sl 104 3
   have st_19 : St w w_11 (.sl none 0 0 ([] : Cs) 104 3 :: (T_7 ++ R)) := st_19
   obtain ⟨k_20, H⟩ := H
   refine CW.sub [(0, .slice A0 n0 c0), (2, .slice none 0 0), (3, .int .i64 0), (5, .slice none 0 0), (16, .slice A0 n0 c0), (17, .int .i64 (l0.length : Int)), (18, .int .i64 0)] (by repeat' constructor) ?_
   refine CW.loop (fun kL1 l_ w_ => ∃ (T_21 : Pool) (A_27 : Option Addr) (c_28 : Nat) (n_29 : Nat) (x_25 : Cs) (l_23 : List R104) (x_30 : Int), l_ = [(0, .slice A0 n0 c0), (2, .slice none 0 0), (3, .int .i64 0), (5, .slice A_27 n_29 c_28), (16, .slice A0 n0 c0), (17, .int .i64 (l0.length : Int)), (18, .int .i64 x_30)] ∧ record_Of.L1 l0 lr0 ar1 kL1 l_23 x_30 ∧ (Pl T_7 T_21) ∧ (n_29 = l_23.length) ∧ (HRs T_21 (f104 w) x_25 l_23) ∧ St w w_ (.sl A_27 c_28 n_29 x_25 104 3 :: (T_21 ++ R))) (k := k_20) ⟨T_7, none, 0, 0, ([] : Cs), ([] : List R104), 0, rfl, H, Pl.refl, rfl, (HRs.nil : HRs T_7 (f104 w) [] []), st_19⟩ (fun _ _ h => by obtain ⟨_, _, _, _, _, _, _, _, h, _⟩ := h; exact h.elim) ?_
   rintro kL1 l_33 w_31 ⟨T_21, A_27, c_28, n_29, x_25, l_23, x_30, rfl, H, hs_22, hn_24, hx_26, st_32⟩
   refine CW.seq (CW.region ?_)
   refine WL.val Wanted.none (Runs.lss rfl rfl rfl) ?_
   refine WL.nil (QW.then_n ?_)
   refine CW.seq ?_
   rcases H with ⟨c_34, H⟩ | ⟨c_34, H⟩
   ·have h_35 : (decide (x_30 < (l0.length : Int))) = true := (decide_eq_true c_34)
    refine CW.ct rfl h_35 ?_
    refine CW.skip ?_
    refine QW.then_n ?_
    refine CW.seq ?_
    refine CW.block ?_
    refine CW.seq (CW.region ?_)
    refine WL.val Wanted.none (Runs.move rfl) ?_
    obtain ⟨⟨p_36, q_37⟩, H⟩ := H
    obtain ⟨x_38, hs_39, hr_40⟩ := hb0.2.2
    obtain ⟨a_41, e_42, ms_43, hc_44, hm_45⟩ := el_get (i := (x_30).toNat) ((hs_39.at st_32 (mem_TR (A := [_]) (fun _ h_ => hs_22.1 _ (hs_8.1 _ h_))))) (hr_40.mono (fun _ h_ => hs_22.1 _ (hs_8.1 _ h_))) (fz42 w) (by decide) (by omega)
    obtain ⟨A_46, n_47, c_48, em_50, hb_49⟩ := inv42 hm_45
    replace em_50 : ms_43 = ([.int .u64 ((gx l0 (x_30.toNat)).1)] : Cs) ++ ([.slice A_46 n_47 c_48] : Cs) := em_50
    subst em_50
    refine WL.val Wanted.none (Runs.indexAddr Tryd.underlying40 cells42 (by decide) rfl e_42 rfl p_36 (by rw [show n0 = l0.length from hb0.1]; exact q_37) (o := (x_30.toNat) * 2) (by first | rfl | omega)) ?_
    refine WL.val Wanted.none (Runs.load_srcR row42 rfl (Src.cut ((hs_39.at st_32 (mem_TR (A := [_]) (fun _ h_ => hs_22.1 _ (hs_8.1 _ h_))))) e_42 hc_44) rfl) ?_
    refine WL.alloc st_32 zero42 ?_
    intro B_51 w_52 st_53
    replace st_53 : St w w_52 (.cells B_51 (([.int .u64 0] : Cs) ++ ([.slice none 0 0] : Cs)) 42 :: .sl A_27 c_28 n_29 x_25 104 3 :: (T_21 ++ R)) := st_53
    refine WL.val Wanted.none (Runs.assign rfl) ?_
    refine WL.store_mid (i := 0) (pre := (([] : Cs))) (mid := (([.int .u64 0] : Cs) ++ ([.slice none 0 0] : Cs))) (post := (([] : Cs))) (ms := (([.int .u64 ((gx l0 (x_30.toNat)).1)] : Cs) ++ ([.slice A_46 n_47 c_48] : Cs))) st_53 rfl row42 (by first | rfl | simp only [List.append_assoc, List.append_nil, List.nil_append, List.cons_append]) (by first | rfl | simp only [List.length_append, List.length_cons, List.length_nil, iv_length]) rfl rfl (by first | rfl | simp only [List.length_append, List.length_cons, List.length_nil, iv_length]) (by first | rfl | simp only [List.length_append, List.length_cons, List.length_nil, iv_length]) (by intro u hu; simp only [List.mem_append, List.mem_singleton] at hu; rcases hu with hu | hu <;> first | exact one_iv _ _ u hu | (subst hu; rfl)) ?_
    intro w_55 st_56
    replace st_56 : St w w_55 (.cells B_51 (([.int .u64 ((gx l0 (x_30.toNat)).1)] : Cs) ++ ([.slice A_46 n_47 c_48] : Cs)) 42 :: .sl A_27 c_28 n_29 x_25 104 3 :: (T_21 ++ R)) := by have e_ : (([.int .u64 ((gx l0 (x_30.toNat)).1)] : Cs) ++ ([.slice A_46 n_47 c_48] : Cs)) = (([] : Cs)) ++ ((([.int .u64 ((gx l0 (x_30.toNat)).1)] : Cs) ++ ([.slice A_46 n_47 c_48] : Cs)) ++ (([] : Cs))) := (by first | rfl | simp only [List.append_assoc, List.append_nil, List.nil_append, List.cons_append]); have h_ : St w w_55 (.cells B_51 ((([] : Cs)) ++ ((([.int .u64 ((gx l0 (x_30.toNat)).1)] : Cs) ++ ([.slice A_46 n_47 c_48] : Cs)) ++ (([] : Cs)))) 42 :: .sl A_27 c_28 n_29 x_25 104 3 :: (T_21 ++ R)) := st_56; rw [← e_] at h_; exact h_
    refine WL.nil (QW.then_n ?_)
    refine CW.seq (CW.region ?_)
    refine WL.val Wanted.none (Runs.fieldAddr (off := 1) (p := 1) fld42_1 rfl rfl rfl) ?_
    refine WL.val Wanted.none (Runs.load nagg25 rfl (st_56.cell (k := 0) rfl (part_one (u := .slice A_46 n_47 c_48) (pre := (([.int .u64 ((gx l0 (x_30.toNat)).1)] : Cs))) (post := (([] : Cs))) (by first | rfl | simp only [List.append_assoc, List.append_nil, List.nil_append, List.cons_append]) (by first | rfl | simp only [List.length_append, List.length_cons, List.length_nil, iv_length])))) ?_
    obtain ⟨r_61, hr_57, H⟩ := H
    refine WL.call Wanted.none ent48 rfl (slices_Clone_s_byte_byte.calls w_55 ((gx l0 (x_30.toNat)).2) A_46 n_47 c_48 ((hb_49.2.2.at st_56 (mem_T (A := [_, _]) (fun _ h_ => h_)))) (hb_49.1) (hb_49.2.1) r_61 hr_57) ?_
    rintro _ w_58 ⟨A_62, c_63, n_64, hn_65, rfl, sc_60⟩
    have st_59 : St w w_58 (.sl A_62 c_63 n_64 (iv .u8 r_61) 5 1 :: .cells B_51 (([.int .u64 ((gx l0 (x_30.toNat)).1)] : Cs) ++ ([.slice A_46 n_47 c_48] : Cs)) 42 :: .sl A_27 c_28 n_29 x_25 104 3 :: (T_21 ++ R)) := st_56.call sc_60
    refine ⟨_, rfl, ?_⟩
    refine WL.val Wanted.none (Runs.fieldAddr (off := 1) (p := 1) fld42_1 rfl rfl rfl) ?_
    refine WL.store_one (i := 1) (u0 := .slice A_46 n_47 c_48) (pre := (([.int .u64 ((gx l0 (x_30.toNat)).1)] : Cs))) (post := (([] : Cs))) st_59 rfl cells25 (by first | rfl | simp only [List.append_assoc, List.append_nil, List.nil_append, List.cons_append]) (by first | rfl | simp only [List.length_append, List.length_cons, List.length_nil, iv_length]) rfl rfl rfl ?_
    intro w_67 st_68
    replace st_68 : St w w_67 (.sl A_62 c_63 n_64 (iv .u8 r_61) 5 1 :: .cells B_51 (([.int .u64 ((gx l0 (x_30.toNat)).1)] : Cs) ++ ([.slice A_62 n_64 c_63] : Cs)) 42 :: .sl A_27 c_28 n_29 x_25 104 3 :: (T_21 ++ R)) := by have e_ : (([.int .u64 ((gx l0 (x_30.toNat)).1)] : Cs) ++ ([.slice A_62 n_64 c_63] : Cs)) = (([.int .u64 ((gx l0 (x_30.toNat)).1)] : Cs)) ++ ((([.slice A_62 n_64 c_63] : Cs)) ++ (([] : Cs))) := (by first | rfl | simp only [List.append_assoc, List.append_nil, List.nil_append, List.cons_append]); have h_ : St w w_67 (.sl A_62 c_63 n_64 (iv .u8 r_61) 5 1 :: .cells B_51 ((([.int .u64 ((gx l0 (x_30.toNat)).1)] : Cs)) ++ ((([.slice A_62 n_64 c_63] : Cs)) ++ (([] : Cs)))) 42 :: .sl A_27 c_28 n_29 x_25 104 3 :: (T_21 ++ R)) := st_68; rw [← e_] at h_; exact h_
    refine WL.nil (QW.then_n ?_)
    refine CW.region ?_
    refine WL.val Wanted.none (Runs.move rfl) ?_
    refine WL.val Wanted.none (Runs.load_mid row42 rfl st_68 (i := 1) rfl (part_mid (pre := (([] : Cs))) (mid := (([.int .u64 ((gx l0 (x_30.toNat)).1)] : Cs) ++ ([.slice A_62 n_64 c_63] : Cs))) (post := (([] : Cs))) (by first | rfl | simp only [List.append_assoc, List.append_nil, List.nil_append, List.cons_append]) (by first | rfl | simp only [List.length_append, List.length_cons, List.length_nil, iv_length]) (by first | rfl | simp only [List.length_append, List.length_cons, List.length_nil, iv_length])) (by first | rfl | simp only [List.length_append, List.length_cons, List.length_nil, iv_length])) ?_
    refine WL.val Wanted.none (Runs.move rfl) ?_
    refine WL.val Wanted.none (Runs.move rfl) ?_
    refine WL.val Wanted.none (Runs.len_sl Tryd.underlying40 rfl (by rw [hb0.1])) ?_
    refine WL.val Wanted.none (Runs.sub rfl rfl rfl) ?_
    refine WL.val Wanted.none (Runs.eql rfl rfl rfl) ?_
    refine WL.val Wanted.none (Runs.build_struct (ps := [(0, 2), (2, 1)]) (cs := (([.int .u64 ((gx l0 (x_30.toNat)).1)] : Cs) ++ (([.slice A_62 n_64 c_63] : Cs) ++ ([.bool (x_30 == (IntKind.i64.wrap ((l0.length : Int) - 1)))] : Cs)))) plc104 zero104 rfl (by refine Fills.cons (o := 0) (ms := (([.int .u64 ((gx l0 (x_30.toNat)).1)] : Cs) ++ ([.slice A_62 n_64 c_63] : Cs))) (show _ = some (0, (([.int .u64 ((gx l0 (x_30.toNat)).1)] : Cs) ++ ([.slice A_62 n_64 c_63] : Cs)).length) by rw [show (([.int .u64 ((gx l0 (x_30.toNat)).1)] : Cs) ++ ([.slice A_62 n_64 c_63] : Cs)).length = 2 from (by first | rfl | simp only [List.length_append, List.length_cons, List.length_nil, iv_length])] <;> rfl) rfl (by have h1_ : (([.int .u64 ((gx l0 (x_30.toNat)).1)] : Cs) ++ ([.slice A_62 n_64 c_63] : Cs)).length = 2 := (by first | rfl | simp only [List.length_append, List.length_cons, List.length_nil, iv_length]); have h2_ : (([.int .u64 0] : Cs) ++ (([.slice none 0 0] : Cs) ++ ([.bool false] : Cs))).length = 3 := (by first | rfl | simp only [List.length_append, List.length_cons, List.length_nil, iv_length]); omega) ?_; rw [show layV (([.int .u64 0] : Cs) ++ (([.slice none 0 0] : Cs) ++ ([.bool false] : Cs))) 0 (([.int .u64 ((gx l0 (x_30.toNat)).1)] : Cs) ++ ([.slice A_62 n_64 c_63] : Cs)) = (([.int .u64 ((gx l0 (x_30.toNat)).1)] : Cs) ++ (([.slice A_62 n_64 c_63] : Cs) ++ ([.bool false] : Cs))) from (layV_mid (pre := (([] : Cs))) (mid := (([.int .u64 0] : Cs) ++ ([.slice none 0 0] : Cs))) (post := (([.bool false] : Cs))) (by first | rfl | simp only [List.append_assoc, List.append_nil, List.nil_append, List.cons_append]) (by first | rfl | simp only [List.length_append, List.length_cons, List.length_nil, iv_length]) (Eq.trans (b := 2) (by first | rfl | simp only [List.length_append, List.length_cons, List.length_nil, iv_length]) (Eq.symm (by first | rfl | simp only [List.length_append, List.length_cons, List.length_nil, iv_length])))).trans (by first | rfl | simp only [List.append_assoc, List.append_nil, List.nil_append, List.cons_append])]; refine Fills.cons (o := 2) (ms := (([.bool (x_30 == (IntKind.i64.wrap ((l0.length : Int) - 1)))] : Cs))) (show _ = some (2, (([.bool (x_30 == (IntKind.i64.wrap ((l0.length : Int) - 1)))] : Cs)).length) by rw [show (([.bool (x_30 == (IntKind.i64.wrap ((l0.length : Int) - 1)))] : Cs)).length = 1 from (by first | rfl | simp only [List.length_append, List.length_cons, List.length_nil, iv_length])] <;> rfl) rfl (by have h1_ : (([.bool (x_30 == (IntKind.i64.wrap ((l0.length : Int) - 1)))] : Cs)).length = 1 := (by first | rfl | simp only [List.length_append, List.length_cons, List.length_nil, iv_length]); have h2_ : (([.int .u64 ((gx l0 (x_30.toNat)).1)] : Cs) ++ (([.slice A_62 n_64 c_63] : Cs) ++ ([.bool false] : Cs))).length = 3 := (by first | rfl | simp only [List.length_append, List.length_cons, List.length_nil, iv_length]); omega) ?_; rw [show layV (([.int .u64 ((gx l0 (x_30.toNat)).1)] : Cs) ++ (([.slice A_62 n_64 c_63] : Cs) ++ ([.bool false] : Cs))) 2 (([.bool (x_30 == (IntKind.i64.wrap ((l0.length : Int) - 1)))] : Cs)) = (([.int .u64 ((gx l0 (x_30.toNat)).1)] : Cs) ++ (([.slice A_62 n_64 c_63] : Cs) ++ ([.bool (x_30 == (IntKind.i64.wrap ((l0.length : Int) - 1)))] : Cs))) from (layV_mid (pre := (([.int .u64 ((gx l0 (x_30.toNat)).1)] : Cs) ++ ([.slice A_62 n_64 c_63] : Cs))) (mid := (([.bool false] : Cs))) (post := (([] : Cs))) (by first | rfl | simp only [List.append_assoc, List.append_nil, List.nil_append, List.cons_append]) (by first | rfl | simp only [List.length_append, List.length_cons, List.length_nil, iv_length]) (Eq.trans (b := 1) (by first | rfl | simp only [List.length_append, List.length_cons, List.length_nil, iv_length]) (Eq.symm (by first | rfl | simp only [List.length_append, List.length_cons, List.length_nil, iv_length])))).trans (by first | rfl | simp only [List.append_assoc, List.append_nil, List.nil_append, List.cons_append])]; exact Fills.nil)) ?_
    have hb_73c := st_68.cap (i := 0) rfl
    obtain ⟨T_69, hs_70, hm_71, st_72⟩ := St.freeze (A := []) (B := [_, _]) (T := T_21) (R := R) st_68
    have hb_73 : HB w T_69 A_62 n_64 c_63 (iv .u8 r_61) r_61.length := ⟨hn_65, hb_73c, Hd.of_sl hm_71⟩
    replace st_72 : St w w_67 (.cells B_51 (([.int .u64 ((gx l0 (x_30.toNat)).1)] : Cs) ++ ([.slice A_62 n_64 c_63] : Cs)) 42 :: .sl A_27 c_28 n_29 x_25 104 3 :: (T_69 ++ R)) := st_72
    obtain ⟨ii_74, z_75, h_76, h_77, h_78, h_79⟩ := slr104_1
    refine WL.buildSlRows (sz := 3) (cs := (([.int .u64 ((gx l0 (x_30.toNat)).1)] : Cs) ++ (([.slice A_62 n_64 c_63] : Cs) ++ ([.bool (x_30 == (IntKind.i64.wrap ((l0.length : Int) - 1)))] : Cs)))) st_72 Tryd.underlying100 h_76 h_77 h_78 (by decide) (by decide) h_79 rfl (by refine Fills.cons (o := 0) (ms := (([.int .u64 ((gx l0 (x_30.toNat)).1)] : Cs) ++ (([.slice A_62 n_64 c_63] : Cs) ++ ([.bool (x_30 == (IntKind.i64.wrap ((l0.length : Int) - 1)))] : Cs)))) (show _ = some (0, (([.int .u64 ((gx l0 (x_30.toNat)).1)] : Cs) ++ (([.slice A_62 n_64 c_63] : Cs) ++ ([.bool (x_30 == (IntKind.i64.wrap ((l0.length : Int) - 1)))] : Cs))).length) by rw [show (([.int .u64 ((gx l0 (x_30.toNat)).1)] : Cs) ++ (([.slice A_62 n_64 c_63] : Cs) ++ ([.bool (x_30 == (IntKind.i64.wrap ((l0.length : Int) - 1)))] : Cs))).length = 3 from (by first | rfl | simp only [List.length_append, List.length_cons, List.length_nil, iv_length])] <;> rfl) rfl (by have h1_ : (([.int .u64 ((gx l0 (x_30.toNat)).1)] : Cs) ++ (([.slice A_62 n_64 c_63] : Cs) ++ ([.bool (x_30 == (IntKind.i64.wrap ((l0.length : Int) - 1)))] : Cs))).length = 3 := (by first | rfl | simp only [List.length_append, List.length_cons, List.length_nil, iv_length]); have h2_ : (([.int .u64 0] : Cs) ++ (([.slice none 0 0] : Cs) ++ ([.bool false] : Cs))).length = 3 := (by first | rfl | simp only [List.length_append, List.length_cons, List.length_nil, iv_length]); omega) ?_; rw [show layV (([.int .u64 0] : Cs) ++ (([.slice none 0 0] : Cs) ++ ([.bool false] : Cs))) 0 (([.int .u64 ((gx l0 (x_30.toNat)).1)] : Cs) ++ (([.slice A_62 n_64 c_63] : Cs) ++ ([.bool (x_30 == (IntKind.i64.wrap ((l0.length : Int) - 1)))] : Cs))) = (([.int .u64 ((gx l0 (x_30.toNat)).1)] : Cs) ++ (([.slice A_62 n_64 c_63] : Cs) ++ ([.bool (x_30 == (IntKind.i64.wrap ((l0.length : Int) - 1)))] : Cs))) from (layV_mid (pre := (([] : Cs))) (mid := (([.int .u64 0] : Cs) ++ (([.slice none 0 0] : Cs) ++ ([.bool false] : Cs)))) (post := (([] : Cs))) (by first | rfl | simp only [List.append_assoc, List.append_nil, List.nil_append, List.cons_append]) (by first | rfl | simp only [List.length_append, List.length_cons, List.length_nil, iv_length]) (Eq.trans (b := 3) (by first | rfl | simp only [List.length_append, List.length_cons, List.length_nil, iv_length]) (Eq.symm (by first | rfl | simp only [List.length_append, List.length_cons, List.length_nil, iv_length])))).trans (by first | rfl | simp only [List.append_assoc, List.append_nil, List.nil_append, List.cons_append])]; exact Fills.nil) ?_
    intro B_80 w_81 st_82
    replace st_82 : St w w_81 (.cells B_80 (([.int .u64 ((gx l0 (x_30.toNat)).1)] : Cs) ++ (([.slice A_62 n_64 c_63] : Cs) ++ ([.bool (x_30 == (IntKind.i64.wrap ((l0.length : Int) - 1)))] : Cs))) 104 :: .cells B_51 (([.int .u64 ((gx l0 (x_30.toNat)).1)] : Cs) ++ ([.slice A_62 n_64 c_63] : Cs)) 42 :: .sl A_27 c_28 n_29 x_25 104 3 :: (T_69 ++ R)) := st_82
    have st_84 := St.rows_sl (i := 0) (m := 1) (size := 3) st_82 rfl rfl (by decide)
    obtain ⟨x_85, e_86⟩ : ∃ x_ : Cs, x_ = ([.int .u64 ((gx l0 (x_30.toNat)).1)] : Cs) ++ (([.slice A_62 n_64 c_63] : Cs) ++ ([.bool (x_30 == (IntKind.i64.wrap ((l0.length : Int) - 1)))] : Cs)) := ⟨_, rfl⟩
    have hx_87 : HRs T_69 (f104 w) x_85 ([((gx l0 (x_30.toNat)).1, r_61, x_30 == (IntKind.i64.wrap ((l0.length : Int) - 1)))] : List R104) := by rw [e_86]; exact (HRs.one (.cons rfl (.cons ⟨_, _, _, rfl, hb_73⟩ (.cons rfl .nil))))
    replace st_84 : St w w_81 (.sl (some ⟨B_80, 0, none⟩) 1 1 x_85 104 3 :: .cells B_51 (([.int .u64 ((gx l0 (x_30.toNat)).1)] : Cs) ++ ([.slice A_62 n_64 c_63] : Cs)) 42 :: .sl A_27 c_28 n_29 x_25 104 3 :: (T_69 ++ R)) := by rw [e_86]; exact st_84
    obtain ⟨m_88, e_89, H⟩ := H
    obtain ⟨z_90, H⟩ := H
    obtain ⟨n_93, hn_96⟩ : ∃ n_ : Nat, n_ = m_88.length := ⟨_, rfl⟩
    refine WL.appendR (i := 2) (N := n_93) (news := x_85) Wanted.none st_84 rfl Tryd.underlying100 elemS104 rfl rfl (st_84.src_sl (k := 0) rfl) (by have h1_ := (hx_87).length (fz104 w); have h2_ : 1 = ([((gx l0 (x_30.toNat)).1, r_61, x_30 == (IntKind.i64.wrap ((l0.length : Int) - 1)))] : List R104).length := rfl; rw [h1_, h2_]) (HLs.one hx_87) (by decide) (by have h1_ : n_29 = l_23.length := hn_24; have h2_ : 1 = ([((gx l0 (x_30.toNat)).1, r_61, x_30 == (IntKind.i64.wrap ((l0.length : Int) - 1)))] : List R104).length := rfl; rw [hn_96, e_89, List.length_append]; omega) (by rw [hn_96]; exact z_90) ?_
    intro A_91 c_92 w_94 st_95
    obtain ⟨x_97, e_98⟩ : ∃ x_ : Cs, x_ = x_25 ++ x_85 := ⟨_, rfl⟩
    have hx_99 : HRs T_69 (f104 w) x_97 m_88 := by rw [e_98, e_89]; exact HRs.append (hx_26.mono (fun _ h_ => hs_70.1 _ h_)) hx_87
    replace st_95 : St w w_94 (.sl (some ⟨B_80, 0, none⟩) 1 1 x_85 104 3 :: .cells B_51 (([.int .u64 ((gx l0 (x_30.toNat)).1)] : Cs) ++ ([.slice A_62 n_64 c_63] : Cs)) 42 :: .sl A_91 c_92 n_93 x_97 104 3 :: (T_69 ++ R)) := by rw [e_98]; exact st_95
    refine WL.val Wanted.none (Runs.assign rfl) ?_
    refine WL.nil ?_
    refine QW.blk_n ?_
    refine QW.then_n ?_
    refine CW.region ?_
    refine WL.val Wanted.none (Runs.add rfl rfl rfl) ?_
    refine WL.val Wanted.none (Runs.move rfl) ?_
    refine WL.nil ?_
    have st_95' := (St.pickT (L := [_, _, _]) st_95 [2] (by decide))
    exact QW.at _ (by repeat' constructor) ⟨T_69, A_91, c_92, n_93, x_97, m_88, IntKind.i64.wrap (x_30 + 1), rfl, H, (hs_22.trans hs_70), hn_96, hx_99, st_95'⟩
   ·have h_35 : (decide (x_30 < (l0.length : Int))) = false := (decide_eq_false c_34)
    refine CW.cf rfl h_35 ?_
    refine CW.exit ?_
    refine QW.then_x ?_
    refine QW.then_x ?_
    refine QW.blk_x ?_
    refine QW.then_n ?_
    refine CW.seq (CW.region ?_)
    refine WL.val Wanted.none (Runs.move rfl) ?_
    refine WL.val Wanted.none (Runs.assign rfl) ?_
    refine WL.val Wanted.none (Runs.assign rfl) ?_
    refine WL.nil (QW.then_n ?_)
    refine CW.sub [(2, .slice A_27 n_29 c_28), (3, .int .i64 0)] ⟨rfl, rfl, trivial⟩ ?_
    refine CW.ret ?_
    obtain ⟨rfl, rfl⟩ := H
    exact QW.ret2 rfl rfl rfl ⟨T_21, A_27, n_29, c_28, x_25, (hs_8.trans hs_22), hn_24, hx_26, rfl, (St.pickT (L := [_]) st_32 [0] (by decide))⟩

/-! ### journal_Journal_Room: function 16 -/
def journal_Journal_Room.rel (l0_0_0 : List R25) (l0_0_1 : List R124) (a0_0_2 : Int) (a0_0_3 : Bool) (l0_0_4 : List R48) (l0_1 : List Int) (a0_2 : Int) (a0_3 : Int) (a0_4 : Int) (a0_5 : Int) (l0_6 : List Int) (a0_7 : Int) (a0_8 : Int) (ls0_0_0 : List R25) (ls0_0_1 : List R124) (as0_0_2 : Int) (as0_0_3 : Bool) (ls0_0_4 : List R48) (ls0_1 : List Int) (as0_2 : Int) (as0_3 : Int) (as0_4 : Int) (as0_5 : Int) (ls0_6 : List Int) (as0_7 : Int) (as0_8 : Int) (ar0 : Int) : Prop := ls0_0_0 = l0_0_0 ∧ ls0_0_1 = l0_0_1 ∧ as0_0_2 = a0_0_2 ∧ as0_0_3 = a0_0_3 ∧ ls0_0_4 = l0_0_4 ∧ ls0_1 = l0_1 ∧ as0_2 = a0_2 ∧ as0_3 = a0_3 ∧ as0_4 = a0_4 ∧ as0_5 = a0_5 ∧ ls0_6 = l0_6 ∧ as0_7 = a0_7 ∧ as0_8 = a0_8 ∧ ar0 = IntKind.u64.wrap (a0_3 - a0_5)
set_option maxHeartbeats 1000000 in
set_option maxRecDepth 100000 in
theorem journal_Journal_Room.calls (w w1 : World) (T R : Pool) (l0_0_0 : List R25) (l0_0_1 : List R124) (a0_0_2 : Int) (a0_0_3 : Bool) (l0_0_4 : List R48) (l0_1 : List Int) (a0_2 : Int) (a0_3 : Int) (a0_4 : Int) (a0_5 : Int) (l0_6 : List Int) (a0_7 : Int) (a0_8 : Int) (b0 : Nat) (b0_0 : Nat) (A0_0_0 : Option Addr) (n0_0_0 : Nat) (c0_0_0 : Nat) (x0_0_0 : Cs) (A0_0_1 : Option Addr) (n0_0_1 : Nat) (c0_0_1 : Nat) (x0_0_1 : Cs) (A0_0_4 : Option Addr) (n0_0_4 : Nat) (c0_0_4 : Nat) (x0_0_4 : Cs) (st0 : St w w1 (.cells b0 (([.pointer (some ⟨b0_0, 0, none⟩)] : Cs) ++ (iv .u8 l0_1 ++ (([.int .i64 a0_2] : Cs) ++ (([.int .u64 a0_3] : Cs) ++ (([.int .u64 a0_4] : Cs) ++ (([.int .u64 a0_5] : Cs) ++ (iv .u8 l0_6 ++ (([.int .u64 a0_7] : Cs) ++ ([.int .u64 a0_8] : Cs))))))))) 98 :: .cells b0_0 (([.slice A0_0_0 n0_0_0 c0_0_0] : Cs) ++ (([.slice A0_0_1 n0_0_1 c0_0_1] : Cs) ++ (([.int .i64 a0_0_2] : Cs) ++ (([.bool a0_0_3] : Cs) ++ ([.slice A0_0_4 n0_0_4 c0_0_4] : Cs))))) 95 :: .sl A0_0_0 c0_0_0 n0_0_0 x0_0_0 25 1 :: .sl A0_0_1 c0_0_1 n0_0_1 x0_0_1 124 2 :: .sl A0_0_4 c0_0_4 n0_0_4 x0_0_4 48 2 :: (T ++ R))) (hn0_0_0 : n0_0_0 = l0_0_0.length) (hx0_0_0 : HRs T (f25 w) x0_0_0 l0_0_0) (hn0_0_1 : n0_0_1 = l0_0_1.length) (hx0_0_1 : HRs T (f124 w) x0_0_1 l0_0_1) (hn0_0_4 : n0_0_4 = l0_0_4.length) (hx0_0_4 : HRs T (f48 w) x0_0_4 l0_0_4) (hl0_1 : l0_1.length = 32) (hl0_6 : l0_6.length = 32) (ls0_0_0 : List R25) (ls0_0_1 : List R124) (as0_0_2 : Int) (as0_0_3 : Bool) (ls0_0_4 : List R48) (ls0_1 : List Int) (as0_2 : Int) (as0_3 : Int) (as0_4 : Int) (as0_5 : Int) (ls0_6 : List Int) (as0_7 : Int) (as0_8 : Int) (ar0 : Int) (H : journal_Journal_Room.rel l0_0_0 l0_0_1 a0_0_2 a0_0_3 l0_0_4 l0_1 a0_2 a0_3 a0_4 a0_5 l0_6 a0_7 a0_8 ls0_0_0 ls0_0_1 as0_0_2 as0_0_3 ls0_0_4 ls0_1 as0_2 as0_3 as0_4 as0_5 ls0_6 as0_7 as0_8 ar0) :
  Calls Tryd.prog 16 #[.pointer (some ⟨b0, 0, none⟩)] w1 fun e w' => ∃ T' As0_0_0 ns0_0_0 cs0_0_0 xs0_0_0 As0_0_1 ns0_0_1 cs0_0_1 xs0_0_1 As0_0_4 ns0_0_4 cs0_0_4 xs0_0_4, Pl T T' ∧ ns0_0_0 = ls0_0_0.length ∧ HRs T' (f25 w) xs0_0_0 ls0_0_0 ∧ ns0_0_1 = ls0_0_1.length ∧ HRs T' (f124 w) xs0_0_1 ls0_0_1 ∧ ns0_0_4 = ls0_0_4.length ∧ HRs T' (f48 w) xs0_0_4 ls0_0_4 ∧ ls0_1.length = 32 ∧ ls0_6.length = 32 ∧ e = .returned (.int .u64 ar0) ∧ St w w' (.cells b0 (([.pointer (some ⟨b0_0, 0, none⟩)] : Cs) ++ (iv .u8 ls0_1 ++ (([.int .i64 as0_2] : Cs) ++ (([.int .u64 as0_3] : Cs) ++ (([.int .u64 as0_4] : Cs) ++ (([.int .u64 as0_5] : Cs) ++ (iv .u8 ls0_6 ++ (([.int .u64 as0_7] : Cs) ++ ([.int .u64 as0_8] : Cs))))))))) 98 :: .cells b0_0 (([.slice As0_0_0 ns0_0_0 cs0_0_0] : Cs) ++ (([.slice As0_0_1 ns0_0_1 cs0_0_1] : Cs) ++ (([.int .i64 as0_0_2] : Cs) ++ (([.bool as0_0_3] : Cs) ++ ([.slice As0_0_4 ns0_0_4 cs0_0_4] : Cs))))) 95 :: .sl As0_0_0 cs0_0_0 ns0_0_0 xs0_0_0 25 1 :: .sl As0_0_1 cs0_0_1 ns0_0_1 xs0_0_1 124 2 :: .sl As0_0_4 cs0_0_4 ns0_0_4 xs0_0_4 48 2 :: (T' ++ R)) := by
 refine CW.enter Tryd.func16 rfl (n := 15) rfl [.pointer (some ⟨b0, 0, none⟩)] (Nat.le_of_ble_eq_true rfl) ?_
 refine CW.sub [(0, .pointer (some ⟨b0, 0, none⟩))] ⟨rfl, trivial⟩ ?_
 refine CW.seq (CW.region ?_)
 refine WL.val Wanted.none (Runs.assign rfl) ?_
 refine WL.nil (QW.then_n ?_)
 refine CW.seq ?_
 refine CW.seq (CW.region ?_)
 refine WL.val Wanted.none (Runs.move rfl) ?_
 refine WL.val Wanted.none (Runs.eql_ptr Tryd.underlying34 rfl rfl rfl) ?_
 refine WL.nil (QW.then_n ?_)
 refine CW.cf rfl rfl ?_
 refine CW.skip ?_
 refine QW.then_n ?_
 refine CW.seq ?_
 refine CW.region_qa wide (by kernel_rfl) st0 ?_
 refine HL.val Wanted.none (fun wq sq => (Runs.move rfl)) ?_
 refine HL.val Wanted.none (fun wq sq => (Runs.nilCheck rfl)) ?_
 refine HL.val Wanted.none (fun wq sq => (Runs.fieldAddr (off := 34) (p := 34) fld98_3 rfl rfl rfl)) ?_
 refine HL.val Wanted.none (fun wq sq => (Runs.load nagg37 rfl (sq.cell (k := 0) rfl (part_one (u := .int .u64 a0_3) (pre := (([.pointer (some ⟨b0_0, 0, none⟩)] : Cs) ++ (iv .u8 l0_1 ++ ([.int .i64 a0_2] : Cs)))) (post := (([.int .u64 a0_4] : Cs) ++ (([.int .u64 a0_5] : Cs) ++ (iv .u8 l0_6 ++ (([.int .u64 a0_7] : Cs) ++ ([.int .u64 a0_8] : Cs)))))) (by first | rfl | simp only [List.append_assoc, List.append_nil, List.nil_append, List.cons_append]) (by first | rfl | simp only [List.length_append, List.length_cons, List.length_nil, iv_length, hl0_1]))))) ?_
 refine HL.val Wanted.none (fun wq sq => (Runs.move rfl)) ?_
 refine HL.val Wanted.none (fun wq sq => (Runs.nilCheck rfl)) ?_
 refine HL.val Wanted.none (fun wq sq => (Runs.fieldAddr (off := 35) (p := 35) fld98_4 rfl rfl rfl)) ?_
 refine HL.val Wanted.none (fun wq sq => (Runs.fieldAddr (off := 1) (p := 36) fld39_1 rfl rfl rfl)) ?_
 refine HL.val Wanted.none (fun wq sq => (Runs.load nagg37 rfl (sq.cell (k := 0) rfl (part_one (u := .int .u64 a0_5) (pre := (([.pointer (some ⟨b0_0, 0, none⟩)] : Cs) ++ (iv .u8 l0_1 ++ (([.int .i64 a0_2] : Cs) ++ (([.int .u64 a0_3] : Cs) ++ ([.int .u64 a0_4] : Cs)))))) (post := (iv .u8 l0_6 ++ (([.int .u64 a0_7] : Cs) ++ ([.int .u64 a0_8] : Cs)))) (by first | rfl | simp only [List.append_assoc, List.append_nil, List.nil_append, List.cons_append]) (by first | rfl | simp only [List.length_append, List.length_cons, List.length_nil, iv_length, hl0_1]))))) ?_
 refine HL.val Wanted.none (fun wq sq => (Runs.sub rfl rfl rfl)) ?_
 refine HL.val Wanted.none (fun wq sq => (Runs.assign rfl)) ?_
 refine HL.nil (fun w_1 st_2 => ?_)
 refine WL.nil (QW.then_n ?_)
 refine CW.sub [(2, .int .u64 (IntKind.u64.wrap (a0_3 - a0_5)))] ⟨rfl, trivial⟩ ?_
 refine CW.ret ?_
 obtain ⟨rfl, rfl, rfl, rfl, rfl, rfl, rfl, rfl, rfl, rfl, rfl, rfl, rfl, rfl⟩ := H
 exact QW.ret1 rfl rfl ⟨T, A0_0_0, n0_0_0, c0_0_0, x0_0_0, A0_0_1, n0_0_1, c0_0_1, x0_0_1, A0_0_4, n0_0_4, c0_0_4, x0_0_4, Pl.refl, hn0_0_0, hx0_0_0, hn0_0_1, hx0_0_1, hn0_0_4, hx0_0_4, hl0_1, hl0_6, rfl, (St.pickT (L := [_, _, _, _, _]) st_2 [0, 1, 2, 3, 4] (by decide))⟩

/-! ### word_Pad: function 60 -/
def word_Pad.rel (l0 : List Int) (a1 : Int) (r0 : List Int) : Prop := ((a1 < 1 ∧ r0 = []) ∨ (¬ (a1 < 1) ∧ ((0 ≤ a1 ∧ a1 ≤ 1099511627776) ∧ (∃ m_14 : List Int, m_14 = cpy (List.replicate (a1).toNat (0 : Int)) (0) ((List.replicate (a1).toNat (0 : Int)).length) l0 ∧ r0 = m_14))))
set_option maxHeartbeats 4000000 in
set_option maxRecDepth 100000 in
theorem word_Pad.calls (w : World) (l0 : List Int) (a1 : Int) (A0 : Option Addr) (n0 : Nat) (c0 : Nat)  (hs0 : Src w A0 (iv .u8 l0)) (hn0 : n0 = l0.length) (hc0 : n0 ≤ c0) (r0 : List Int) (H : word_Pad.rel l0 a1 r0) :
  Calls Tryd.prog 60 #[.slice A0 n0 c0, .int .i64 a1] w fun e w' => ∃ B0 q0 z0, z0 = r0.length ∧ e = .returned (.slice B0 z0 q0) ∧ St w w' [.sl B0 q0 z0 (iv .u8 r0) 5 1] := by
 refine CW.enter Tryd.func60 rfl (n := 14) rfl [.slice A0 n0 c0, .int .i64 a1] (Nat.le_of_ble_eq_true rfl) ?_
 refine CW.sub [(0, .slice A0 n0 c0), (1, .int .i64 a1)] ⟨rfl, rfl, trivial⟩ ?_
 have st0 : St w w [] := St.refl w
 refine CW.seq (CW.region ?_)
 refine WL.val Wanted.none (Runs.assign rfl) ?_
 refine WL.nil (QW.then_n ?_)
 refine CW.seq ?_
 refine CW.seq (CW.region ?_)
 refine WL.val Wanted.none (Runs.move rfl) ?_
 refine WL.val Wanted.none (Runs.lss rfl rfl rfl) ?_
 refine WL.nil (QW.then_n ?_)
 rcases H with ⟨c_1, H⟩ | ⟨c_1, H⟩
 ·have h_2 : (decide (a1 < 1)) = true := (decide_eq_true c_1)
  refine CW.ct rfl h_2 ?_
  refine CW.seq (CW.region ?_)
  refine WL.val Wanted.none (Runs.assign rfl) ?_
  refine WL.nil (QW.then_n ?_)
  refine CW.ret ?_
  refine QW.then_r ?_
  have st_4 := st0.nil_sl 5 1
  have st_4 : St w w [.sl none 0 0 (iv .u8 ([] : List Int)) 5 1] := st_4
  obtain rfl := H
  exact QW.ret1 rfl rfl ⟨none, 0, 0, rfl, rfl, st_4.pick [0] (by decide)⟩
 ·have h_2 : (decide (a1 < 1)) = false := (decide_eq_false c_1)
  refine CW.cf rfl h_2 ?_
  refine CW.skip ?_
  refine QW.then_n ?_
  refine CW.seq (CW.region ?_)
  refine WL.val Wanted.none (Runs.move rfl) ?_
  obtain ⟨⟨p_5, q_6⟩, H⟩ := H
  obtain ⟨n_7, e_8⟩ : ∃ n_ : Nat, n_ = (a1).toNat := ⟨_, rfl⟩
  refine WL.make st0 Tryd.underlying25 elem5 rfl rfl p_5 q_6 (by decide) (N := n_7) e_8 ?_
  intro B_9 w_10 st_11
  replace st_11 : St w w_10 [.sl (some ⟨B_9, 0, none⟩) n_7 n_7 (iv .u8 (List.replicate (a1).toNat (0 : Int))) 5 1] := by rw [← e_8]; rw [iv_replicate] at st_11; exact st_11
  have hn_12 : n_7 = (List.replicate (a1).toNat (0 : Int)).length := by rw [List.length_replicate]; exact e_8
  refine WL.val Wanted.none (Runs.assign rfl) ?_
  refine WL.nil (QW.then_n ?_)
  refine CW.seq (CW.region ?_)
  refine WL.val Wanted.none (Runs.move rfl) ?_
  refine WL.val Wanted.none (Runs.move rfl) ?_
  obtain ⟨m_14, e_15, H⟩ := H
  have hfit_ : 0 + n_7 ≤ n_7 := by have := hn_12; omega
  refine WL.copy_sl (i := 0) (o := 0) st_11 rfl Tryd.underlying25 cells5 rfl rfl (fun _ => map_add_zero) hfit_ (hs0.ext st_11) (hn0.trans (iv_length .u8 _).symm) (one_iv .u8 _) ?_
  intro w_16 st_17
  have hn_18 : m_14.length = (List.replicate (a1).toNat (0 : Int)).length := by rw [e_15]; exact cpy_length (by have := (show n_7 = (List.replicate (a1).toNat (0 : Int)).length from hn_12); have := hn_12; omega)
  have hn_19 : n_7 = m_14.length := by rw [hn_18]; exact hn_12
  have st_17' : St w w_16 [.sl (some ⟨B_9, 0, none⟩) n_7 n_7 (iv .u8 m_14) 5 1] := by rw [e_15, ← (show n_7 = (List.replicate (a1).toNat (0 : Int)).length from hn_12), ← cpy_iv .u8]; exact st_17
  have z_20 := iv_length .u8 l0
  refine WL.nil (QW.then_n ?_)
  refine CW.sub [(4, .slice none 0 0), (5, .slice (some ⟨B_9, 0, none⟩) n_7 n_7)] ⟨rfl, rfl, trivial⟩ ?_
  refine CW.seq (CW.region ?_)
  refine WL.val Wanted.none (Runs.move rfl) ?_
  refine WL.val Wanted.none (Runs.assign rfl) ?_
  refine WL.nil (QW.then_n ?_)
  refine CW.ret ?_
  obtain rfl := H
  exact QW.ret1 rfl rfl ⟨(some ⟨B_9, 0, none⟩), n_7, n_7, hn_19, rfl, st_17'.pick [0] (by decide)⟩

/-! ### word_size: function 56 -/
def word_size.rel (a0 : Int) (r0 : Bool) : Prop := ((a0 ≥ 1 ∧ r0 = (decide (a0 ≤ 8))) ∨ (¬ (a0 ≥ 1) ∧ r0 = false))
set_option maxHeartbeats 4000000 in
set_option maxRecDepth 100000 in
theorem word_size.calls (w : World) (a0 : Int)    (r0 : Bool) (H : word_size.rel a0 r0) :
  Calls Tryd.prog 56 #[.int .i64 a0] w fun e w' => e = .returned (.bool r0) ∧ St w w' [] := by
 refine CW.enter Tryd.func56 rfl (n := 9) rfl [.int .i64 a0] (Nat.le_of_ble_eq_true rfl) ?_
 refine CW.sub [(0, .int .i64 a0)] ⟨rfl, trivial⟩ ?_
 have st0 : St w w [] := St.refl w
 refine CW.seq (CW.region ?_)
 refine WL.val Wanted.none (Runs.assign rfl) ?_
 refine WL.nil (QW.then_n ?_)
 refine CW.seq (CW.region ?_)
 refine WL.val Wanted.none (Runs.move rfl) ?_
 refine WL.val Wanted.none (Runs.geq rfl rfl rfl) ?_
 refine WL.val Wanted.none (Runs.move rfl) ?_
 rcases H with ⟨c_1, H⟩ | ⟨c_1, H⟩
 ·have h_2 : (decide (a0 ≥ 1)) = true := (decide_eq_true c_1)
  refine WL.on ?_ ?_; exact Wanted.guard (dj := 5) (by rfl) (evb (by rfl) h_2) (by rfl)
  refine WL.val Wanted.none (Runs.move rfl) ?_
  refine WL.on ?_ ?_; exact Wanted.guard (dj := 5) (by rfl) (evb (by rfl) h_2) (by rfl)
  refine WL.val Wanted.none (Runs.leq rfl rfl rfl) ?_
  refine WL.val Wanted.none (Runs.pick_t (evb rfl h_2) rfl) ?_
  refine WL.val Wanted.none (Runs.assign rfl) ?_
  refine WL.nil (QW.then_n ?_)
  refine CW.sub [(2, .bool (decide (a0 ≤ 8)))] ⟨rfl, trivial⟩ ?_
  refine CW.ret ?_
  obtain rfl := H
  exact QW.ret1 rfl rfl ⟨rfl, st0.pick [] (by decide)⟩
 ·have h_2 : (decide (a0 ≥ 1)) = false := (decide_eq_false c_1)
  refine WL.off ?_ ?_; exact Wanted.guard (dj := 5) (by rfl) (evb (by rfl) h_2) (by rfl)
  refine WL.off ?_ ?_; exact Wanted.guard (dj := 5) (by rfl) (evb (by rfl) h_2) (by rfl)
  refine WL.val Wanted.none (Runs.pick_f (evb rfl h_2) rfl) ?_
  refine WL.val Wanted.none (Runs.assign rfl) ?_
  refine WL.nil (QW.then_n ?_)
  refine CW.sub [(2, .bool false)] ⟨rfl, trivial⟩ ?_
  refine CW.ret ?_
  obtain rfl := H
  exact QW.ret1 rfl rfl ⟨rfl, st0.pick [] (by decide)⟩

/-! ### word_Put: function 32 -/
def word_Put.L1 (a0 : Int) (a1 : Int) (r0 : List Int) : Nat → (List Int) → Int → Prop
 | 0, _, _ => False
 | kL1 + 1, l_20, x_22 => ((x_22 < a1 ∧ (0 ≤ (IntKind.u64.wrap (IntKind.i64.wrap (8 * x_22))) ∧ (∃ x_29 : Int, x_29 = shrI .u64 a0 (IntKind.u64.wrap (IntKind.i64.wrap (8 * x_22))) ∧ ((0 ≤ x_22 ∧ x_22 < (l_20.length : Int)) ∧ (∃ m_35 : List Int, m_35 = List.set l_20 (x_22.toNat) (IntKind.u8.wrap x_29) ∧ word_Put.L1 a0 a1 r0 kL1 m_35 (IntKind.i64.wrap (x_22 + 1))))))) ∨ (¬ (x_22 < a1) ∧ r0 = l_20))
def word_Put.rel (a0 : Int) (a1 : Int) (r0 : List Int) : Prop := (∃ (r_5 : Bool), word_size.rel a1 r_5 ∧ ((¬ (r_5 = true) ∧ r0 = []) ∨ (¬ (¬ (r_5 = true)) ∧ ((0 ≤ a1 ∧ a1 ≤ 1099511627776) ∧ (∃ k_ : Nat, word_Put.L1 a0 a1 r0 k_ (List.replicate (a1).toNat (0 : Int)) 0)))))
set_option maxHeartbeats 4000000 in
set_option maxRecDepth 100000 in
theorem word_Put.calls (w : World) (a0 : Int) (a1 : Int)    (r0 : List Int) (H : word_Put.rel a0 a1 r0) :
  Calls Tryd.prog 32 #[.int .u64 a0, .int .i64 a1] w fun e w' => ∃ B0 q0 z0, z0 = r0.length ∧ e = .returned (.slice B0 z0 q0) ∧ St w w' [.sl B0 q0 z0 (iv .u8 r0) 5 1] := by
 refine CW.enter Tryd.func32 rfl (n := 27) rfl [.int .u64 a0, .int .i64 a1] (Nat.le_of_ble_eq_true rfl) ?_
 refine CW.sub [(0, .int .u64 a0), (1, .int .i64 a1)] ⟨rfl, rfl, trivial⟩ ?_
 have st0 : St w w [] := St.refl w
 refine CW.seq (CW.region ?_)
 refine WL.val Wanted.none (Runs.assign rfl) ?_
 refine WL.nil (QW.then_n ?_)
 refine CW.seq ?_
 refine CW.seq (CW.region ?_)
 refine WL.val Wanted.none (Runs.move rfl) ?_
 obtain ⟨r_5, hr_1, H⟩ := H
 refine WL.call Wanted.none ent56 rfl (word_size.calls w a1 r_5 hr_1) ?_
 rintro _ w_2 ⟨rfl, sc_4⟩
 have st_3 : St w w_2 [] := st0.call sc_4
 refine ⟨_, rfl, ?_⟩
 refine WL.val Wanted.none (Runs.not rfl rfl) ?_
 refine WL.nil (QW.then_n ?_)
 rcases H with ⟨c_6, H⟩ | ⟨c_6, H⟩
 ·have h_7 : (!r_5) = true := (not_t (Bool.eq_false_iff.mpr c_6))
  refine CW.ct rfl h_7 ?_
  refine CW.seq (CW.region ?_)
  refine WL.val Wanted.none (Runs.assign rfl) ?_
  refine WL.nil (QW.then_n ?_)
  refine CW.ret ?_
  refine QW.then_r ?_
  have st_9 := st_3.nil_sl 5 1
  have st_9 : St w w_2 [.sl none 0 0 (iv .u8 ([] : List Int)) 5 1] := st_9
  obtain rfl := H
  exact QW.ret1 rfl rfl ⟨none, 0, 0, rfl, rfl, st_9.pick [0] (by decide)⟩
 ·have h_7 : (!r_5) = false := (not_f (Decidable.not_not.mp c_6))
  refine CW.cf rfl h_7 ?_
  refine CW.skip ?_
  refine QW.then_n ?_
  refine CW.seq (CW.region ?_)
  refine WL.val Wanted.none (Runs.move rfl) ?_
  obtain ⟨⟨p_10, q_11⟩, H⟩ := H
  obtain ⟨n_12, e_13⟩ : ∃ n_ : Nat, n_ = (a1).toNat := ⟨_, rfl⟩
  refine WL.make st_3 Tryd.underlying25 elem5 rfl rfl p_10 q_11 (by decide) (N := n_12) e_13 ?_
  intro B_14 w_15 st_16
  replace st_16 : St w w_15 [.sl (some ⟨B_14, 0, none⟩) n_12 n_12 (iv .u8 (List.replicate (a1).toNat (0 : Int))) 5 1] := by rw [← e_13]; rw [iv_replicate] at st_16; exact st_16
  have hn_17 : n_12 = (List.replicate (a1).toNat (0 : Int)).length := by rw [List.length_replicate]; exact e_13
  refine WL.val Wanted.none (Runs.assign rfl) ?_
  refine WL.nil (QW.then_n ?_)
  refine CW.seq ?_
  refine CW.seq (CW.region ?_)
  refine WL.val Wanted.none (Runs.move rfl) ?_
  refine WL.val Wanted.none (Runs.move rfl) ?_
  refine WL.nil (QW.then_n ?_)
  refine CW.sub [(0, .int .u64 a0), (4, .slice none 0 0), (5, .slice (some ⟨B_14, 0, none⟩) n_12 n_12), (12, .int .i64 a1), (13, .int .i64 0)] ⟨rfl, rfl, rfl, rfl, rfl, trivial⟩ ?_
  refine CW.block ?_
  obtain ⟨k_19, H⟩ := H
  refine CW.sub [(0, .int .u64 a0), (4, .slice none 0 0), (5, .slice (some ⟨B_14, 0, none⟩) n_12 n_12), (12, .int .i64 a1), (13, .int .i64 0)] ⟨rfl, rfl, rfl, rfl, rfl, trivial⟩ ?_
  refine CW.loop (fun kL1 l_ w_ => ∃ (l_20 : List Int) (x_22 : Int), l_ = [(0, .int .u64 a0), (4, .slice none 0 0), (5, .slice (some ⟨B_14, 0, none⟩) n_12 n_12), (12, .int .i64 a1), (13, .int .i64 x_22)] ∧ word_Put.L1 a0 a1 r0 kL1 l_20 x_22 ∧ (n_12 = l_20.length) ∧ St w w_ [.sl (some ⟨B_14, 0, none⟩) n_12 n_12 (iv .u8 l_20) 5 1]) (k := k_19) ⟨List.replicate (a1).toNat (0 : Int), 0, rfl, H, hn_17, st_16⟩ (fun _ _ h => by obtain ⟨_, _, _, h, _⟩ := h; exact h.elim) ?_
  rintro kL1 l_25 w_23 ⟨l_20, x_22, rfl, H, hn_21, st_24⟩
  refine CW.seq (CW.region ?_)
  refine WL.val Wanted.none (Runs.lss rfl rfl rfl) ?_
  refine WL.nil (QW.then_n ?_)
  refine CW.seq ?_
  rcases H with ⟨c_26, H⟩ | ⟨c_26, H⟩
  ·have h_27 : (decide (x_22 < a1)) = true := (decide_eq_true c_26)
   refine CW.ct rfl h_27 ?_
   refine CW.skip ?_
   refine QW.then_n ?_
   refine CW.seq ?_
   refine CW.block ?_
   refine CW.seq (CW.region ?_)
   refine WL.val Wanted.none (Runs.move rfl) ?_
   refine WL.val Wanted.none (Runs.assign rfl) ?_
   refine WL.nil (QW.then_n ?_)
   refine CW.region ?_
   refine WL.val Wanted.none (Runs.move rfl) ?_
   refine WL.val Wanted.none (Runs.move rfl) ?_
   refine WL.val Wanted.none (Runs.move rfl) ?_
   refine WL.val Wanted.none (Runs.move rfl) ?_
   refine WL.val Wanted.none (Runs.mul rfl rfl rfl) ?_
   refine WL.val Wanted.none (Runs.conv Tryd.underlying133 ⟨_, Tryd.underlying3⟩ rfl rfl) ?_
   obtain ⟨z_28, H⟩ := H
   obtain ⟨x_29, e_30, H⟩ := H
   refine WL.val Wanted.none (Runs.shr rfl rfl z_28 e_30) ?_
   refine WL.val Wanted.none (Runs.conv Tryd.underlying5 ⟨_, Tryd.underlying37⟩ rfl rfl) ?_
   obtain ⟨⟨p_31, q_32⟩, H⟩ := H
   obtain ⟨a_33, e_34⟩ := (st_24.src_sl (k := 0) rfl).addr_iv (x_22.toNat) (by omega)
   refine WL.val Wanted.none (Runs.indexAddr Tryd.underlying25 cells5 (by decide) rfl e_34 rfl p_31 (by rw [hn_21]; exact q_32) (o := (x_22).toNat) (by first | rfl | omega)) ?_
   obtain ⟨m_35, e_36, H⟩ := H
   refine WL.store_sl (i := 0) st_24 rfl cells5 rfl e_34 (by rw [iv_length]; omega) rfl rfl ?_
   intro w_37 st_38
   have hn_39 : n_12 = m_35.length := by rw [e_36, List.length_set]; exact hn_21
   have st_38' : St w w_37 [.sl (some ⟨B_14, 0, none⟩) n_12 n_12 (iv .u8 m_35) 5 1] := by rw [e_36, ← iv_set .u8 l_20 (x_22.toNat) (IntKind.u8.wrap x_29)]; exact st_38
   refine WL.nil ?_
   refine QW.blk_n ?_
   refine QW.then_n ?_
   refine CW.region ?_
   refine WL.val Wanted.none (Runs.add rfl rfl rfl) ?_
   refine WL.val Wanted.none (Runs.move rfl) ?_
   refine WL.nil ?_
   exact QW.at _ (by repeat' constructor) ⟨m_35, IntKind.i64.wrap (x_22 + 1), rfl, H, hn_39, st_38'⟩
  ·have h_27 : (decide (x_22 < a1)) = false := (decide_eq_false c_26)
   refine CW.cf rfl h_27 ?_
   refine CW.exit ?_
   refine QW.then_x ?_
   refine QW.then_x ?_
   refine QW.blk_x ?_
   refine QW.then_n ?_
   refine CW.seq (CW.region ?_)
   refine WL.val Wanted.none (Runs.move rfl) ?_
   refine WL.val Wanted.none (Runs.assign rfl) ?_
   refine WL.nil (QW.then_n ?_)
   refine CW.sub [(4, .slice (some ⟨B_14, 0, none⟩) n_12 n_12)] ⟨rfl, trivial⟩ ?_
   refine CW.ret ?_
   obtain rfl := H
   exact QW.ret1 rfl rfl ⟨(some ⟨B_14, 0, none⟩), n_12, n_12, hn_21, rfl, st_24.pick [0] (by decide)⟩

/-! ### slices_Grow_s_byte_byte_nil0: function 74 -/
def slices_Grow_s_byte_byte_nil0.rel (a1 : Int) (r0 : List Int) : Prop := (¬ (a1 < 0) ∧ (((IntKind.i64.wrap (a1 - (IntKind.i64.wrap (0 - 0)))) > 0 ∧ ((0 < (IntKind.i64.wrap (a1 - (IntKind.i64.wrap (0 - 0)))) ∧ (IntKind.i64.wrap (a1 - (IntKind.i64.wrap (0 - 0)))) ≤ 1099511627776) ∧ (0 ≤ (List.replicate (IntKind.i64.wrap (a1 - (IntKind.i64.wrap (0 - 0)))).toNat (0 : Int)).length ∧ r0 = (List.take 0 (List.replicate (IntKind.i64.wrap (a1 - (IntKind.i64.wrap (0 - 0)))).toNat (0 : Int)))))) ∨ (¬ ((IntKind.i64.wrap (a1 - (IntKind.i64.wrap (0 - 0)))) > 0) ∧ r0 = [])))
set_option maxHeartbeats 4000000 in
set_option maxRecDepth 100000 in
theorem slices_Grow_s_byte_byte_nil0.calls (w : World) (a1 : Int)    (r0 : List Int) (H : slices_Grow_s_byte_byte_nil0.rel a1 r0) :
  Calls Tryd.prog 74 #[.slice none 0 0, .int .i64 a1] w fun e w' => ∃ B0 q0 z0, z0 = r0.length ∧ e = .returned (.slice B0 z0 q0) ∧ St w w' [.sl B0 q0 z0 (iv .u8 r0) 5 1] := by
 refine CW.enter Tryd.func74 rfl (n := 27) rfl [.slice none 0 0, .int .i64 a1] (Nat.le_of_ble_eq_true rfl) ?_
 refine CW.sub [(0, .slice none 0 0), (1, .int .i64 a1)] ⟨rfl, rfl, trivial⟩ ?_
 have st0 : St w w [] := St.refl w
 refine CW.seq (CW.region ?_)
 refine WL.val Wanted.none (Runs.assign rfl) ?_
 refine WL.nil (QW.then_n ?_)
 refine CW.seq ?_
 refine CW.seq (CW.region ?_)
 refine WL.val Wanted.none (Runs.move rfl) ?_
 refine WL.val Wanted.none (Runs.lss rfl rfl rfl) ?_
 refine WL.nil (QW.then_n ?_)
 obtain ⟨c_1, H⟩ := H
 have h_2 : (decide (a1 < 0)) = false := (decide_eq_false c_1)
 refine CW.cf rfl h_2 ?_
 refine CW.skip ?_
 refine QW.then_n ?_
 refine CW.seq ?_
 refine CW.seq (CW.region ?_)
 refine WL.val Wanted.none (Runs.move rfl) ?_
 refine WL.val Wanted.none (Runs.move rfl) ?_
 refine WL.val Wanted.none (Runs.cap_sl Tryd.underlying25 rfl rfl) ?_
 refine WL.val Wanted.none (Runs.move rfl) ?_
 refine WL.val Wanted.none (Runs.len_sl Tryd.underlying25 rfl rfl) ?_
 refine WL.val Wanted.none (Runs.sub rfl rfl rfl) ?_
 refine WL.val Wanted.none (Runs.sub rfl rfl rfl) ?_
 refine WL.val Wanted.none (Runs.assign rfl) ?_
 refine WL.nil (QW.then_n ?_)
 refine CW.sub [(0, .slice none 0 0), (1, .int .i64 (IntKind.i64.wrap (a1 - (IntKind.i64.wrap (0 - 0))))), (4, .slice none 0 0)] ⟨rfl, rfl, rfl, trivial⟩ ?_
 refine CW.seq (CW.region ?_)
 refine WL.val Wanted.none (Runs.move rfl) ?_
 refine WL.val Wanted.none (Runs.gtr rfl rfl rfl) ?_
 refine WL.nil (QW.then_n ?_)
 rcases H with ⟨c_3, H⟩ | ⟨c_3, H⟩
 ·have h_4 : (decide ((IntKind.i64.wrap (a1 - (IntKind.i64.wrap (0 - 0)))) > 0)) = true := (decide_eq_true c_3)
  refine CW.ct rfl h_4 ?_
  refine CW.region ?_
  refine WL.val Wanted.none (Runs.move rfl) ?_
  refine WL.val Wanted.none (Runs.move rfl) ?_
  refine WL.val Wanted.none (Runs.cap_sl Tryd.underlying25 rfl rfl) ?_
  refine WL.val Wanted.none (Runs.slice_h (A := none) (c := 0) (m := 0) (B := none) (N := 0) Tryd.underlying25 cells5 rfl rfl (by decide) (by decide) rfl rfl) ?_
  refine WL.val Wanted.none (Runs.move rfl) ?_
  obtain ⟨⟨p_6, q_7⟩, H⟩ := H
  obtain ⟨n_8, e_9⟩ : ∃ n_ : Nat, n_ = (IntKind.i64.wrap (a1 - (IntKind.i64.wrap (0 - 0)))).toNat := ⟨_, rfl⟩
  refine WL.append_make (N := n_8) st0 Tryd.underlying25 Tryd.underlying3 elem5 rfl rfl p_6 q_7 (by decide) e_9 ?_
  intro B_11 c_12 w_10 st_14
  replace st_14 : St w w_10 [.sl (some ⟨B_11, 0, none⟩) c_12 n_8 (iv .u8 (List.replicate (IntKind.i64.wrap (a1 - (IntKind.i64.wrap (0 - 0)))).toNat (0 : Int))) 5 1] := by rw [← e_9]; rw [iv_replicate] at st_14; exact st_14
  have hn_15 : n_8 = (List.replicate (IntKind.i64.wrap (a1 - (IntKind.i64.wrap (0 - 0)))).toNat (0 : Int)).length := by rw [List.length_replicate]; exact e_9
  refine WL.val Wanted.none (Runs.move rfl) ?_
  refine WL.val Wanted.none (Runs.len_sl Tryd.underlying25 rfl rfl) ?_
  obtain ⟨h_17, H⟩ := H
  rw [← hn_15] at h_17
  have h_17c : n_8 ≤ c_12 := st_14.cap (i := 0) rfl
  have st_16 := st_14.trunc (i := 0) rfl 0 h_17
  have hn_18 : 0 = (List.take 0 (List.replicate (IntKind.i64.wrap (a1 - (IntKind.i64.wrap (0 - 0)))).toNat (0 : Int))).length := by rw [List.length_take]; omega
  have st_16' : St w w_10 [.sl (some ⟨B_11, 0, none⟩) c_12 0 (iv .u8 (List.take 0 (List.replicate (IntKind.i64.wrap (a1 - (IntKind.i64.wrap (0 - 0)))).toNat (0 : Int)))) 5 1] := by rw [← iv_take]; exact st_16
  refine WL.val Wanted.none (Runs.slice_hp Tryd.underlying25 cells5 rfl rfl (by decide) (by omega) rfl) ?_
  refine WL.val Wanted.none (Runs.assign rfl) ?_
  refine WL.nil (QW.then_n ?_)
  refine CW.sub [(0, .slice (some ⟨B_11, 0, none⟩) 0 c_12), (4, .slice none 0 0)] ⟨rfl, rfl, trivial⟩ ?_
  refine CW.seq (CW.region ?_)
  refine WL.val Wanted.none (Runs.move rfl) ?_
  refine WL.val Wanted.none (Runs.assign rfl) ?_
  refine WL.nil (QW.then_n ?_)
  refine CW.ret ?_
  obtain rfl := H
  exact QW.ret1 rfl rfl ⟨(some ⟨B_11, 0, none⟩), c_12, 0, hn_18, rfl, st_16'.pick [0] (by decide)⟩
 ·have h_4 : (decide ((IntKind.i64.wrap (a1 - (IntKind.i64.wrap (0 - 0)))) > 0)) = false := (decide_eq_false c_3)
  refine CW.cf rfl h_4 ?_
  refine CW.skip ?_
  refine QW.then_n ?_
  refine CW.seq (CW.region ?_)
  refine WL.val Wanted.none (Runs.move rfl) ?_
  refine WL.val Wanted.none (Runs.assign rfl) ?_
  refine WL.nil (QW.then_n ?_)
  refine CW.ret ?_
  have st_21 := st0.nil_sl 5 1
  have st_21 : St w w [.sl none 0 0 (iv .u8 ([] : List Int)) 5 1] := st_21
  obtain rfl := H
  exact QW.ret1 rfl rfl ⟨none, 0, 0, rfl, rfl, st_21.pick [0] (by decide)⟩

/-! ### slices_Concat_s_byte_byte: function 55 -/
def slices_Concat_s_byte_byte.L2 (l0 : List R25) (lr0 : List Int) : Nat → (List Int) → Int → Prop
 | 0, _, _ => False
 | kL2 + 1, l_45, x_48 => ((x_48 < (l0.length : Int) ∧ ((0 ≤ x_48 ∧ x_48 < (l0.length : Int)) ∧ (∃ m_69 : List Int, m_69 = l_45 ++ (gx l0 (x_48.toNat)) ∧ (m_69.length ≤ 1099511627776 ∧ slices_Concat_s_byte_byte.L2 l0 lr0 kL2 m_69 (IntKind.i64.wrap (x_48 + 1)))))) ∨ (¬ (x_48 < (l0.length : Int)) ∧ lr0 = l_45))
def slices_Concat_s_byte_byte.L1 (l0 : List R25) (lr0 : List Int) : Nat → Int → Int → Prop
 | 0, _, _ => False
 | kL1 + 1, x_4, x_5 => ((x_5 < (l0.length : Int) ∧ ((0 ≤ x_5 ∧ x_5 < (l0.length : Int)) ∧ (∃ x_26 : Int, x_26 = IntKind.i64.wrap (x_4 + ((gx l0 (x_5.toNat)).length : Int)) ∧ (¬ (x_26 < 0) ∧ slices_Concat_s_byte_byte.L1 l0 lr0 kL1 x_26 (IntKind.i64.wrap (x_5 + 1)))))) ∨ (¬ (x_5 < (l0.length : Int)) ∧ (∃ (r_34 : List Int), slices_Grow_s_byte_byte_nil0.rel x_4 r_34 ∧ (∃ k_ : Nat, slices_Concat_s_byte_byte.L2 l0 lr0 k_ r_34 0))))
def slices_Concat_s_byte_byte.rel (l0 : List R25) (lr0 : List Int) : Prop := (∃ k_ : Nat, slices_Concat_s_byte_byte.L1 l0 lr0 k_ 0 0)
set_option maxHeartbeats 1000000 in
set_option maxRecDepth 100000 in
theorem slices_Concat_s_byte_byte.calls (w w1 : World) (T R : Pool) (l0 : List R25) (A0 : Option Addr) (n0 : Nat) (c0 : Nat) (st0 : St w w1 ((T ++ R))) (hb0 : HS w (T ++ R) T A0 n0 c0 (f25 w) l0) (lr0 : List Int) (H : slices_Concat_s_byte_byte.rel l0 lr0) :
  Calls Tryd.prog 55 #[.slice A0 n0 c0] w1 fun e w' => ∃ T' Ar0 nr0 cr0, Pl T T' ∧ nr0 = lr0.length ∧ e = .returned (.slice Ar0 nr0 cr0) ∧ St w w' (.sl Ar0 cr0 nr0 (iv .u8 lr0) 5 1 :: (T' ++ R)) := by
 refine CW.enter Tryd.func55 rfl (n := 36) rfl [.slice A0 n0 c0] (Nat.le_of_ble_eq_true rfl) ?_
 refine CW.sub [(0, .slice A0 n0 c0)] ⟨rfl, trivial⟩ ?_
 refine CW.seq (CW.region ?_)
 refine WL.val Wanted.none (Runs.assign rfl) ?_
 refine WL.nil (QW.then_n ?_)
 refine CW.seq (CW.region ?_)
 refine WL.val Wanted.none (Runs.assign rfl) ?_
 refine WL.nil (QW.then_n ?_)
 refine CW.seq ?_
 refine CW.seq (CW.region ?_)
 refine WL.val Wanted.none (Runs.move rfl) ?_
 refine WL.val Wanted.none (Runs.len_sl Tryd.underlying76 rfl (by rw [hb0.1])) ?_
 refine WL.val Wanted.none (Runs.move rfl) ?_
 refine WL.nil (QW.then_n ?_)
 refine CW.block ?_
 obtain ⟨k_1, H⟩ := H
 refine CW.sub [(0, .slice A0 n0 c0), (2, .slice none 0 0), (3, .int .i64 0), (9, .slice A0 n0 c0), (10, .int .i64 (l0.length : Int)), (11, .int .i64 0)] (by repeat' constructor) ?_
 refine CW.loop (fun kL1 l_ w_ => ∃ (T_2 : Pool) (x_4 : Int) (x_5 : Int), l_ = [(0, .slice A0 n0 c0), (2, .slice none 0 0), (3, .int .i64 x_4), (9, .slice A0 n0 c0), (10, .int .i64 (l0.length : Int)), (11, .int .i64 x_5)] ∧ slices_Concat_s_byte_byte.L1 l0 lr0 kL1 x_4 x_5 ∧ (Pl T T_2) ∧ St w w_ ((T_2 ++ R))) (k := k_1) ⟨T, 0, 0, rfl, H, Pl.refl, st0⟩ (fun _ _ h => by obtain ⟨_, _, _, _, h, _⟩ := h; exact h.elim) ?_
 rintro kL1 l_8 w_6 ⟨T_2, x_4, x_5, rfl, H, hs_3, st_7⟩
 refine CW.seq (CW.region ?_)
 refine WL.val Wanted.none (Runs.lss rfl rfl rfl) ?_
 refine WL.nil (QW.then_n ?_)
 refine CW.seq ?_
 rcases H with ⟨c_9, H⟩ | ⟨c_9, H⟩
 ·have h_10 : (decide (x_5 < (l0.length : Int))) = true := (decide_eq_true c_9)
  refine CW.ct rfl h_10 ?_
  refine CW.skip ?_
  refine QW.then_n ?_
  refine CW.seq ?_
  refine CW.block ?_
  refine CW.seq (CW.region ?_)
  obtain ⟨⟨p_11, q_12⟩, H⟩ := H
  obtain ⟨x_13, hs_14, hr_15⟩ := hb0.2.2
  obtain ⟨a_16, e_17, ms_18, hc_19, hm_20⟩ := el_get (i := (x_5).toNat) ((hs_14.at st_7 (mem_TR (A := []) (fun _ h_ => hs_3.1 _ h_)))) (hr_15.mono (fun _ h_ => hs_3.1 _ h_)) (fz25 w) (by decide) (by omega)
  obtain ⟨A_21, n_22, c_23, em_25, hb_24⟩ := inv25 hm_20
  replace em_25 : ms_18 = ([.slice A_21 n_22 c_23] : Cs) := em_25
  subst em_25
  refine WL.val Wanted.none (Runs.indexAddr Tryd.underlying76 cells25 (by decide) rfl e_17 rfl p_11 (by rw [show n0 = l0.length from hb0.1]; exact q_12) (o := (x_5.toNat) * 1) (by first | rfl | omega)) ?_
  refine WL.val Wanted.none (Runs.load nagg25 rfl (Src.cellAt (j := 0) (Src.cut ((hs_14.at st_7 (mem_TR (A := []) (fun _ h_ => hs_3.1 _ h_)))) e_17 hc_19) rfl)) ?_
  refine WL.val Wanted.none (Runs.assign rfl) ?_
  refine WL.nil (QW.then_n ?_)
  refine CW.seq (CW.region ?_)
  refine WL.val Wanted.none (Runs.move rfl) ?_
  refine WL.val Wanted.none (Runs.move rfl) ?_
  refine WL.val Wanted.none (Runs.len_sl Tryd.underlying25 rfl (by rw [hb_24.1])) ?_
  obtain ⟨x_26, e_27, H⟩ := H
  refine WL.val Wanted.none (Runs.add rfl rfl e_27) ?_
  refine WL.val Wanted.none (Runs.assign rfl) ?_
  refine WL.nil (QW.then_n ?_)
  refine CW.seq (CW.region ?_)
  refine WL.val Wanted.none (Runs.move rfl) ?_
  refine WL.val Wanted.none (Runs.lss rfl rfl rfl) ?_
  refine WL.nil (QW.then_n ?_)
  obtain ⟨c_28, H⟩ := H
  have h_29 : (decide (x_26 < 0)) = false := (decide_eq_false c_28)
  refine CW.cf rfl h_29 ?_
  refine CW.skip ?_
  refine QW.blk_n ?_
  refine QW.then_n ?_
  refine CW.region ?_
  refine WL.val Wanted.none (Runs.add rfl rfl rfl) ?_
  refine WL.val Wanted.none (Runs.move rfl) ?_
  refine WL.nil ?_
  exact QW.at _ (by repeat' constructor) ⟨T_2, x_26, IntKind.i64.wrap (x_5 + 1), rfl, H, hs_3, st_7⟩
 ·have h_10 : (decide (x_5 < (l0.length : Int))) = false := (decide_eq_false c_9)
  refine CW.cf rfl h_10 ?_
  refine CW.exit ?_
  refine QW.then_x ?_
  refine QW.then_x ?_
  refine QW.blk_x ?_
  refine QW.then_n ?_
  refine CW.seq (CW.region ?_)
  refine WL.val Wanted.none (Runs.move rfl) ?_
  obtain ⟨r_34, hr_30, H⟩ := H
  refine WL.call Wanted.none ent74 rfl (slices_Grow_s_byte_byte_nil0.calls w_6 x_4 r_34 hr_30) ?_
  rintro _ w_31 ⟨A_35, c_36, n_37, hn_38, rfl, sc_33⟩
  have st_32 : St w w_31 (.sl A_35 c_36 n_37 (iv .u8 r_34) 5 1 :: (T_2 ++ R)) := st_7.call sc_33
  refine ⟨_, rfl, ?_⟩
  refine WL.val Wanted.none (Runs.assign rfl) ?_
  refine WL.nil (QW.then_n ?_)
  refine CW.sub [(0, .slice A0 n0 c0), (2, .slice none 0 0), (6, .slice A_35 n_37 c_36)] ⟨rfl, rfl, rfl, trivial⟩ ?_
  refine CW.seq ?_
  refine CW.seq (CW.region ?_)
  refine WL.val Wanted.none (Runs.move rfl) ?_
  refine WL.val Wanted.none (Runs.len_sl Tryd.underlying76 rfl (by rw [hb0.1])) ?_
  refine WL.val Wanted.none (Runs.move rfl) ?_
  refine WL.nil (QW.then_n ?_)
  refine CW.block ?_
  obtain ⟨k_40, H⟩ := H
  refine CW.sub [(2, .slice none 0 0), (6, .slice A_35 n_37 c_36), (25, .slice A0 n0 c0), (26, .int .i64 (l0.length : Int)), (27, .int .i64 0)] ⟨rfl, rfl, rfl, rfl, rfl, trivial⟩ ?_
  refine CW.loop (fun kL2 l_ w_ => ∃ (T_41 : Pool) (A_43 : Option Addr) (c_44 : Nat) (n_46 : Nat) (l_45 : List Int) (x_48 : Int), l_ = [(2, .slice none 0 0), (6, .slice A_43 n_46 c_44), (25, .slice A0 n0 c0), (26, .int .i64 (l0.length : Int)), (27, .int .i64 x_48)] ∧ slices_Concat_s_byte_byte.L2 l0 lr0 kL2 l_45 x_48 ∧ (Pl T_2 T_41) ∧ (n_46 = l_45.length) ∧ St w w_ (.sl A_43 c_44 n_46 (iv .u8 l_45) 5 1 :: (T_41 ++ R))) (k := k_40) ⟨T_2, A_35, c_36, n_37, r_34, 0, rfl, H, Pl.refl, hn_38, st_32⟩ (fun _ _ h => by obtain ⟨_, _, _, _, _, _, _, h, _⟩ := h; exact h.elim) ?_
  rintro kL2 l_51 w_49 ⟨T_41, A_43, c_44, n_46, l_45, x_48, rfl, H, hs_42, hn_47, st_50⟩
  refine CW.seq (CW.region ?_)
  refine WL.val Wanted.none (Runs.lss rfl rfl rfl) ?_
  refine WL.nil (QW.then_n ?_)
  refine CW.seq ?_
  rcases H with ⟨c_52, H⟩ | ⟨c_52, H⟩
  ·have h_53 : (decide (x_48 < (l0.length : Int))) = true := (decide_eq_true c_52)
   refine CW.ct rfl h_53 ?_
   refine CW.skip ?_
   refine QW.then_n ?_
   refine CW.seq ?_
   refine CW.block ?_
   refine CW.seq (CW.region ?_)
   obtain ⟨⟨p_54, q_55⟩, H⟩ := H
   obtain ⟨x_56, hs_57, hr_58⟩ := hb0.2.2
   obtain ⟨a_59, e_60, ms_61, hc_62, hm_63⟩ := el_get (i := (x_48).toNat) ((hs_57.at st_50 (mem_TR (A := [_]) (fun _ h_ => hs_42.1 _ (hs_3.1 _ h_))))) (hr_58.mono (fun _ h_ => hs_42.1 _ (hs_3.1 _ h_))) (fz25 w) (by decide) (by omega)
   obtain ⟨A_64, n_65, c_66, em_68, hb_67⟩ := inv25 hm_63
   replace em_68 : ms_61 = ([.slice A_64 n_65 c_66] : Cs) := em_68
   subst em_68
   refine WL.val Wanted.none (Runs.indexAddr Tryd.underlying76 cells25 (by decide) rfl e_60 rfl p_54 (by rw [show n0 = l0.length from hb0.1]; exact q_55) (o := (x_48.toNat) * 1) (by first | rfl | omega)) ?_
   refine WL.val Wanted.none (Runs.load nagg25 rfl (Src.cellAt (j := 0) (Src.cut ((hs_57.at st_50 (mem_TR (A := [_]) (fun _ h_ => hs_42.1 _ (hs_3.1 _ h_))))) e_60 hc_62) rfl)) ?_
   refine WL.val Wanted.none (Runs.assign rfl) ?_
   refine WL.nil (QW.then_n ?_)
   refine CW.region ?_
   refine WL.val Wanted.none (Runs.move rfl) ?_
   refine WL.val Wanted.none (Runs.move rfl) ?_
   obtain ⟨m_69, e_70, H⟩ := H
   obtain ⟨z_71, H⟩ := H
   obtain ⟨n_74, hn_77⟩ : ∃ n_ : Nat, n_ = m_69.length := ⟨_, rfl⟩
   refine WL.append (i := 0) Wanted.none st_50 rfl Tryd.underlying25 elem5 rfl rfl ((hb_67.2.2.at st_50 (mem_T (A := [_]) (fun _ h_ => h_)))) (by rw [iv_length]; exact (hb_67.1).symm) (one_iv .u8 _) (by decide) (N := n_74) (by rw [hn_77, e_70, List.length_append]; exact congr (congrArg HAdd.hAdd (hn_47)) (hb_67.1)) (by rw [hn_77]; exact z_71) ?_
   intro A_72 c_73 w_75 st_76
   have st_76' : St w w_75 (.sl A_72 c_73 n_74 (iv .u8 m_69) 5 1 :: (T_41 ++ R)) := by rw [e_70, ← iv_append .u8 l_45 (gx l0 (x_48.toNat))]; exact st_76
   refine WL.val Wanted.none (Runs.assign rfl) ?_
   refine WL.nil ?_
   refine QW.blk_n ?_
   refine QW.then_n ?_
   refine CW.region ?_
   refine WL.val Wanted.none (Runs.add rfl rfl rfl) ?_
   refine WL.val Wanted.none (Runs.move rfl) ?_
   refine WL.nil ?_
   exact QW.at _ (by repeat' constructor) ⟨T_41, A_72, c_73, n_74, m_69, IntKind.i64.wrap (x_48 + 1), rfl, H, hs_42, hn_77, st_76'⟩
  ·have h_53 : (decide (x_48 < (l0.length : Int))) = false := (decide_eq_false c_52)
   refine CW.cf rfl h_53 ?_
   refine CW.exit ?_
   refine QW.then_x ?_
   refine QW.then_x ?_
   refine QW.blk_x ?_
   refine QW.then_n ?_
   refine CW.seq (CW.region ?_)
   refine WL.val Wanted.none (Runs.move rfl) ?_
   refine WL.val Wanted.none (Runs.assign rfl) ?_
   refine WL.nil (QW.then_n ?_)
   refine CW.sub [(2, .slice A_43 n_46 c_44)] ⟨rfl, trivial⟩ ?_
   refine CW.ret ?_
   obtain rfl := H
   exact QW.ret1 rfl rfl ⟨T_41, A_43, n_46, c_44, (hs_3.trans hs_42), hn_47, rfl, (St.pickT (L := [_]) st_50 [0] (by decide))⟩

/-! ### record_Put: function 40 -/
def record_Put.rel (a0_0 : Int) (l0_1 : List Int) (a0_2 : Bool) (lr0 : List Int) (ar1 : Int) : Prop := (((l0_1.length : Int) ≠ 160 ∧ lr0 = ([] : List Int) ∧ ar1 = 1) ∨ (¬ ((l0_1.length : Int) ≠ 160) ∧ ((a0_2 = true ∧ ((0 ≤ (1 : Int) ∧ (1 : Int) < ([1, 0].length : Int)) ∧ (∃ m_19 : List Int, m_19 = List.set [1, 0] 1 1 ∧ (∃ (r_30 : List Int), word_Pad.rel m_19 8 r_30 ∧ (∃ (r_40 : List Int), word_Put.rel a0_0 8 r_40 ∧ (∃ (l_71 : List Int), slices_Concat_s_byte_byte.rel ([r_30, r_40, l0_1] : List R25) l_71 ∧ lr0 = l_71 ∧ ar1 = 0)))))) ∨ (¬ (a0_2 = true) ∧ (∃ (r_83 : List Int), word_Pad.rel [1, 0] 8 r_83 ∧ (∃ (r_93 : List Int), word_Put.rel a0_0 8 r_93 ∧ (∃ (l_124 : List Int), slices_Concat_s_byte_byte.rel ([r_83, r_93, l0_1] : List R25) l_124 ∧ lr0 = l_124 ∧ ar1 = 0)))))))
set_option maxHeartbeats 1000000 in
set_option maxRecDepth 100000 in
theorem record_Put.calls (w w1 : World) (T R : Pool) (a0_0 : Int) (l0_1 : List Int) (a0_2 : Bool) (A0_1 : Option Addr) (n0_1 : Nat) (c0_1 : Nat) (st0 : St w w1 ((T ++ R))) (hb0_1 : HB w T A0_1 n0_1 c0_1 (iv .u8 l0_1) l0_1.length) (lr0 : List Int) (ar1 : Int) (H : record_Put.rel a0_0 l0_1 a0_2 lr0 ar1) :
  Calls Tryd.prog 40 #[.agg (([.int .u64 a0_0] : Cs) ++ (([.slice A0_1 n0_1 c0_1] : Cs) ++ ([.bool a0_2] : Cs))).toArray] w1 fun e w' => ∃ T' Ar0 nr0 cr0, Pl T T' ∧ nr0 = lr0.length ∧ e = .returned (.tuple #[.slice Ar0 nr0 cr0, .int .i64 ar1]) ∧ St w w' (.sl Ar0 cr0 nr0 (iv .u8 lr0) 5 1 :: (T' ++ R)) := by
 refine CW.enter Tryd.func40 rfl (n := 26) rfl [.agg (([.int .u64 a0_0] : Cs) ++ (([.slice A0_1 n0_1 c0_1] : Cs) ++ ([.bool a0_2] : Cs))).toArray] (Nat.le_of_ble_eq_true rfl) ?_
 refine CW.sub [(0, .agg (([.int .u64 a0_0] : Cs) ++ (([.slice A0_1 n0_1 c0_1] : Cs) ++ ([.bool a0_2] : Cs))).toArray)] ⟨rfl, trivial⟩ ?_
 refine CW.seq (CW.region ?_)
 refine WL.box st0 rfl rfl ?_
 intro B_1 w_2 st_3
 replace st_3 : St w w_2 (.cells B_1 (([.int .u64 a0_0] : Cs) ++ (([.slice A0_1 n0_1 c0_1] : Cs) ++ ([.bool a0_2] : Cs))) 104 :: (T ++ R)) := st_3
 refine WL.val Wanted.none (Runs.assign rfl) ?_
 refine WL.val Wanted.none (Runs.assign rfl) ?_
 refine WL.nil (QW.then_n ?_)
 refine CW.seq ?_
 refine CW.seq (CW.region ?_)
 refine WL.val Wanted.none (Runs.fieldAddr (off := 0) (p := 0) fld104_0 rfl rfl rfl) ?_
 refine WL.val Wanted.none (Runs.fieldAddr (off := 1) (p := 1) fld42_1 rfl rfl rfl) ?_
 refine WL.val Wanted.none (Runs.load nagg25 rfl (st_3.cell (k := 0) rfl (part_one (u := .slice A0_1 n0_1 c0_1) (pre := (([.int .u64 a0_0] : Cs))) (post := (([.bool a0_2] : Cs))) (by first | rfl | simp only [List.append_assoc, List.append_nil, List.nil_append, List.cons_append]) (by first | rfl | simp only [List.length_append, List.length_cons, List.length_nil, iv_length])))) ?_
 refine WL.val Wanted.none (Runs.len_sl Tryd.underlying25 rfl (by rw [hb0_1.1])) ?_
 refine WL.val Wanted.none (Runs.neq rfl rfl rfl) ?_
 refine WL.nil (QW.then_n ?_)
 rcases H with ⟨c_5, H⟩ | ⟨c_5, H⟩
 ·have h_6 : ((l0_1.length : Int) != 160) = true := (bne_iff_ne.mpr c_5)
  refine CW.ct rfl h_6 ?_
  refine CW.seq (CW.region ?_)
  refine WL.val Wanted.none (Runs.assign rfl) ?_
  refine WL.val Wanted.none (Runs.assign rfl) ?_
  refine WL.nil (QW.then_n ?_)
  refine CW.sub [(1, .pointer (some ⟨B_1, 0, none⟩)), (2, .slice none 0 0), (3, .int .i64 1)] ⟨rfl, rfl, rfl, trivial⟩ ?_
  refine CW.ret ?_
  refine QW.then_r ?_
  have st_8 := st_3.nil_sl 5 1
  have st_8 : St w w_2 (.sl none 0 0 (iv .u8 ([] : List Int)) 5 1 :: .cells B_1 (([.int .u64 a0_0] : Cs) ++ (([.slice A0_1 n0_1 c0_1] : Cs) ++ ([.bool a0_2] : Cs))) 104 :: (T ++ R)) := st_8
  obtain ⟨rfl, rfl⟩ := H
  exact QW.ret2 rfl rfl rfl ⟨T, none, 0, 0, Pl.refl, rfl, rfl, (St.pickT (L := [_, _]) st_8 [0] (by decide))⟩
 ·have h_6 : ((l0_1.length : Int) != 160) = false := (bne_eq_false_iff_eq.mpr (Decidable.not_not.mp c_5))
  refine CW.cf rfl h_6 ?_
  refine CW.skip ?_
  refine QW.then_n ?_
  refine CW.sub [(1, .pointer (some ⟨B_1, 0, none⟩)), (2, .slice none 0 0), (3, .int .i64 0)] ⟨rfl, rfl, rfl, trivial⟩ ?_
  refine CW.seq (CW.region ?_)
  refine WL.buildSl [.int .u8 1, .int .u8 0] st_3 Tryd.underlying25 elem5 rfl rfl (by decide) (by decide) (by simp [Value.cells]) ?_
  intro B_9 w_10 st_11
  replace st_11 : St w w_10 (.sl (some ⟨B_9, 0, none⟩) 2 2 (iv .u8 [1, 0]) 5 1 :: .cells B_1 (([.int .u64 a0_0] : Cs) ++ (([.slice A0_1 n0_1 c0_1] : Cs) ++ ([.bool a0_2] : Cs))) 104 :: (T ++ R)) := st_11
  refine WL.val Wanted.none (Runs.assign rfl) ?_
  refine WL.nil (QW.then_n ?_)
  refine CW.seq ?_
  refine CW.seq (CW.region ?_)
  refine WL.val Wanted.none (Runs.fieldAddr (off := 2) (p := 2) fld104_1 rfl rfl rfl) ?_
  refine WL.val Wanted.none (Runs.load nagg4 rfl (st_11.cell (k := 1) rfl (part_one (u := .bool a0_2) (pre := (([.int .u64 a0_0] : Cs) ++ ([.slice A0_1 n0_1 c0_1] : Cs))) (post := (([] : Cs))) (by first | rfl | simp only [List.append_assoc, List.append_nil, List.nil_append, List.cons_append]) (by first | rfl | simp only [List.length_append, List.length_cons, List.length_nil, iv_length])))) ?_
  refine WL.nil (QW.then_n ?_)
  rcases H with ⟨c_13, H⟩ | ⟨c_13, H⟩
  ·have h_14 : a0_2 = true := c_13
   refine CW.ct rfl h_14 ?_
   refine CW.region ?_
   refine WL.val Wanted.none (Runs.move rfl) ?_
   obtain ⟨⟨p_15, q_16⟩, H⟩ := H
   obtain ⟨a_17, e_18⟩ := (st_11.src_sl (k := 0) rfl).addr_iv 1 (by omega)
   refine WL.val Wanted.none (Runs.indexAddr Tryd.underlying25 cells5 (by decide) rfl e_18 rfl p_15 q_16 (o := 1) (by first | rfl | omega)) ?_
   obtain ⟨m_19, e_20, H⟩ := H
   refine WL.store_sl (i := 0) st_11 rfl cells5 rfl e_18 (by rw [iv_length]; omega) rfl rfl ?_
   intro w_21 st_22
   have hn_23 : 2 = m_19.length := by rw [e_20, List.length_set] <;> rfl
   have st_22' : St w w_21 (.sl (some ⟨B_9, 0, none⟩) 2 2 (iv .u8 m_19) 5 1 :: .cells B_1 (([.int .u64 a0_0] : Cs) ++ (([.slice A0_1 n0_1 c0_1] : Cs) ++ ([.bool a0_2] : Cs))) 104 :: (T ++ R)) := by rw [e_20, ← iv_set .u8 [1, 0] 1 1]; exact st_22
   refine WL.nil (QW.then_n ?_)
   refine CW.seq ?_
   refine CW.region_awh (C := fun w_ => St w w_ (.sl (some ⟨B_9, 0, none⟩) 2 2 (iv .u8 m_19) 5 1 :: .cells B_1 (([.int .u64 a0_0] : Cs) ++ (([.slice A0_1 n0_1 c0_1] : Cs) ++ ([.bool a0_2] : Cs))) 104 :: (T ++ R))) 9 wide (by kernel_rfl) st_22' (fun w_24 st_25 => ?_)
   refine AWH.take 0 rfl (by decide) (by kernel_rfl) (by kernel_rfl) st_25 Wanted.none (fun wq sq => (Runs.move rfl)) ?_
   refine AWH.take 2 rfl (by decide) (by kernel_rfl) (by kernel_rfl) st_25 Wanted.none (fun wq sq => (Runs.fieldAddr (off := 0) (p := 0) fld104_0 rfl rfl rfl)) ?_
   refine AWH.take 3 rfl (by decide) (by kernel_rfl) (by kernel_rfl) st_25 Wanted.none (fun wq sq => (Runs.fieldAddr (off := 0) (p := 0) fld42_0 rfl rfl rfl)) ?_
   refine AWH.take 4 rfl (by decide) (by kernel_rfl) (by kernel_rfl) st_25 Wanted.none (fun wq sq => (Runs.load nagg37 rfl (sq.cell (k := 1) rfl (part_one (u := .int .u64 a0_0) (pre := (([] : Cs))) (post := (([.slice A0_1 n0_1 c0_1] : Cs) ++ ([.bool a0_2] : Cs))) (by first | rfl | simp only [List.append_assoc, List.append_nil, List.nil_append, List.cons_append]) (by first | rfl | simp only [List.length_append, List.length_cons, List.length_nil, iv_length]))))) ?_
   refine AWH.take 6 rfl (by decide) (by kernel_rfl) (by kernel_rfl) st_25 Wanted.none (fun wq sq => (Runs.fieldAddr (off := 0) (p := 0) fld104_0 rfl rfl rfl)) ?_
   refine AWH.take 7 rfl (by decide) (by kernel_rfl) (by kernel_rfl) st_25 Wanted.none (fun wq sq => (Runs.fieldAddr (off := 1) (p := 1) fld42_1 rfl rfl rfl)) ?_
   refine AWH.take 8 rfl (by decide) (by kernel_rfl) (by kernel_rfl) st_25 Wanted.none (fun wq sq => (Runs.load nagg25 rfl (sq.cell (k := 1) rfl (part_one (u := .slice A0_1 n0_1 c0_1) (pre := (([.int .u64 a0_0] : Cs))) (post := (([.bool a0_2] : Cs))) (by first | rfl | simp only [List.append_assoc, List.append_nil, List.nil_append, List.cons_append]) (by first | rfl | simp only [List.length_append, List.length_cons, List.length_nil, iv_length]))))) ?_
   refine AWH.step 1 rfl (by decide) (by kernel_rfl) (fun inv_ hs_ hk_ hc_ hn_ => ?_)
   obtain ⟨r_30, hr_26, H⟩ := H
   refine WL.call Wanted.none ent60 rfl (word_Pad.calls w_24 m_19 8 (some ⟨B_9, 0, none⟩) 2 2 (st_25.src_sl (k := 0) rfl) (hn_23) (st_25.cap (i := 0) rfl) r_30 hr_26) ?_
   rintro _ w_27 ⟨A_31, c_32, n_33, hn_34, rfl, sc_29⟩
   have st_28 : St w w_27 (.sl A_31 c_32 n_33 (iv .u8 r_30) 5 1 :: .sl (some ⟨B_9, 0, none⟩) 2 2 (iv .u8 m_19) 5 1 :: .cells B_1 (([.int .u64 a0_0] : Cs) ++ (([.slice A0_1 n0_1 c0_1] : Cs) ++ ([.bool a0_2] : Cs))) 104 :: (T ++ R)) := st_25.call sc_29
   refine ⟨_, rfl, ?_⟩
   refine WL.nil ?_
   refine AWH.back (St.subset st_25 st_28 (List.forall_mem_cons.2 ⟨List.mem_of_getElem? (i := 1) rfl, (List.forall_mem_cons.2 ⟨List.mem_of_getElem? (i := 2) rfl, (mem_TR (A := [_, _, _]) (fun _ h_ => h_))⟩)⟩)) inv_ hs_ hk_ hc_ hn_ ?_
   refine AWH.step 5 rfl (by decide) (by kernel_rfl) (fun inv_ hs_ hk_ hc_ hn_ => ?_)
   obtain ⟨r_40, hr_36, H⟩ := H
   refine WL.call Wanted.none ent32 rfl (word_Put.calls w_27 a0_0 8 r_40 hr_36) ?_
   rintro _ w_37 ⟨A_41, c_42, n_43, hn_44, rfl, sc_39⟩
   have st_38 : St w w_37 (.sl A_41 c_42 n_43 (iv .u8 r_40) 5 1 :: .sl A_31 c_32 n_33 (iv .u8 r_30) 5 1 :: .sl (some ⟨B_9, 0, none⟩) 2 2 (iv .u8 m_19) 5 1 :: .cells B_1 (([.int .u64 a0_0] : Cs) ++ (([.slice A0_1 n0_1 c0_1] : Cs) ++ ([.bool a0_2] : Cs))) 104 :: (T ++ R)) := st_28.call sc_39
   refine ⟨_, rfl, ?_⟩
   refine WL.nil ?_
   refine AWH.back (St.subset st_25 st_38 (List.forall_mem_cons.2 ⟨List.mem_of_getElem? (i := 2) rfl, (List.forall_mem_cons.2 ⟨List.mem_of_getElem? (i := 3) rfl, (mem_TR (A := [_, _, _, _]) (fun _ h_ => h_))⟩)⟩)) inv_ hs_ hk_ hc_ hn_ ?_
   refine AWH.tail (by kernel_rfl) ?_
   refine AW.step 9 rfl (by kernel_rfl) ?_
   have hb_50c := st_38.cap (i := 1) rfl
   obtain ⟨T_46, hs_47, hm_48, st_49⟩ := St.freeze (A := [_]) (B := [_, _]) (T := T) (R := R) st_38
   have hb_50 : HB w T_46 A_31 n_33 c_32 (iv .u8 r_30) r_30.length := ⟨hn_34, hb_50c, Hd.of_sl hm_48⟩
   replace st_49 : St w w_37 (.sl A_41 c_42 n_43 (iv .u8 r_40) 5 1 :: .sl (some ⟨B_9, 0, none⟩) 2 2 (iv .u8 m_19) 5 1 :: .cells B_1 (([.int .u64 a0_0] : Cs) ++ (([.slice A0_1 n0_1 c0_1] : Cs) ++ ([.bool a0_2] : Cs))) 104 :: (T_46 ++ R)) := st_49
   have hb_55c := st_49.cap (i := 0) rfl
   obtain ⟨T_51, hs_52, hm_53, st_54⟩ := St.freeze (A := []) (B := [_, _]) (T := T_46) (R := R) st_49
   have hb_55 : HB w T_51 A_41 n_43 c_42 (iv .u8 r_40) r_40.length := ⟨hn_44, hb_55c, Hd.of_sl hm_53⟩
   replace st_54 : St w w_37 (.sl (some ⟨B_9, 0, none⟩) 2 2 (iv .u8 m_19) 5 1 :: .cells B_1 (([.int .u64 a0_0] : Cs) ++ (([.slice A0_1 n0_1 c0_1] : Cs) ++ ([.bool a0_2] : Cs))) 104 :: (T_51 ++ R)) := st_54
   refine WL.buildSl [.slice A_31 n_33 c_32, .slice A_41 n_43 c_42, .slice A0_1 n0_1 c0_1] st_54 Tryd.underlying76 elem25 rfl rfl (by decide) (by decide) (by simp [Value.cells]) ?_
   intro B_56 w_57 st_58
   replace st_58 : St w w_57 (.sl (some ⟨B_56, 0, none⟩) 3 3 [.slice A_31 n_33 c_32, .slice A_41 n_43 c_42, .slice A0_1 n0_1 c0_1] 25 1 :: .sl (some ⟨B_9, 0, none⟩) 2 2 (iv .u8 m_19) 5 1 :: .cells B_1 (([.int .u64 a0_0] : Cs) ++ (([.slice A0_1 n0_1 c0_1] : Cs) ++ ([.bool a0_2] : Cs))) 104 :: (T_51 ++ R)) := st_58
   obtain ⟨x_60, e_61⟩ : ∃ x_ : Cs, x_ = [.slice A_31 n_33 c_32, .slice A_41 n_43 c_42, .slice A0_1 n0_1 c0_1] := ⟨_, rfl⟩
   have hx_62 : HRs T_51 (f25 w) x_60 ([r_30, r_40, l0_1] : List R25) := by rw [e_61]; exact (HRs.cons (ms := ([.slice A_31 n_33 c_32] : Cs)) (.cons ⟨_, _, _, rfl, (hb_50.mono (fun _ h_ => hs_52.1 _ h_))⟩ .nil) (HRs.cons (ms := ([.slice A_41 n_43 c_42] : Cs)) (.cons ⟨_, _, _, rfl, hb_55⟩ .nil) (HRs.one (.cons ⟨_, _, _, rfl, (hb0_1.mono (fun _ h_ => hs_52.1 _ (hs_47.1 _ h_)))⟩ .nil))))
   replace st_58 : St w w_57 (.sl (some ⟨B_56, 0, none⟩) 3 3 x_60 25 1 :: .sl (some ⟨B_9, 0, none⟩) 2 2 (iv .u8 m_19) 5 1 :: .cells B_1 (([.int .u64 a0_0] : Cs) ++ (([.slice A0_1 n0_1 c0_1] : Cs) ++ ([.bool a0_2] : Cs))) 104 :: (T_51 ++ R)) := by rw [e_61]; exact st_58
   refine WL.nil ?_
   refine AW.back  ?_
   refine AW.step 10 rfl (by kernel_rfl) ?_
   have st_63 : St w w_57 ((T_51 ++ (.sl (some ⟨B_56, 0, none⟩) 3 3 x_60 25 1 :: .sl (some ⟨B_9, 0, none⟩) 2 2 (iv .u8 m_19) 5 1 :: .cells B_1 (([.int .u64 a0_0] : Cs) ++ (([.slice A0_1 n0_1 c0_1] : Cs) ++ ([.bool a0_2] : Cs))) 104 :: R))) := St.hide (A := []) (B := [_, _, _]) (T := T_51) (R := R) st_58
   obtain ⟨l_71, hr_64, H⟩ := H
   refine WL.call Wanted.none ent55 rfl (slices_Concat_s_byte_byte.calls w w_57 T_51 (.sl (some ⟨B_56, 0, none⟩) 3 3 x_60 25 1 :: .sl (some ⟨B_9, 0, none⟩) 2 2 (iv .u8 m_19) 5 1 :: .cells B_1 (([.int .u64 a0_0] : Cs) ++ (([.slice A0_1 n0_1 c0_1] : Cs) ++ ([.bool a0_2] : Cs))) 104 :: R) ([r_30, r_40, l0_1] : List R25) (some ⟨B_56, 0, none⟩) 3 3  st_63 (HS.mk rfl (st_58.cap (i := 0) rfl) (fun W_ L_ st hT => st.src_mem (hT _ (List.mem_append_right _ (List.mem_of_getElem? (i := 0) rfl)))) hx_62) l_71 hr_64) ?_
   rintro _ w_74 ⟨T_65, A_68, n_69, c_70, hs_66, hn_73, rfl, sc_76⟩
   have st_75 : St w w_74 (.sl A_68 c_70 n_69 (iv .u8 l_71) 5 1 :: .sl (some ⟨B_56, 0, none⟩) 3 3 x_60 25 1 :: .sl (some ⟨B_9, 0, none⟩) 2 2 (iv .u8 m_19) 5 1 :: .cells B_1 (([.int .u64 a0_0] : Cs) ++ (([.slice A0_1 n0_1 c0_1] : Cs) ++ ([.bool a0_2] : Cs))) 104 :: (T_65 ++ R)) := St.unhide (A := [_]) (B := [_, _, _]) (T := T_65) (R := R) sc_76
   refine ⟨_, rfl, ?_⟩
   refine WL.nil ?_
   refine AW.back  ?_
   refine AW.take 11 rfl (by kernel_rfl) (by kernel_rfl) (by kernel_rfl) Wanted.none (fun _ => (Runs.assign rfl)) ?_
   refine AW.take 12 rfl (by kernel_rfl) (by kernel_rfl) (by kernel_rfl) Wanted.none (fun _ => (Runs.assign rfl)) ?_
   refine AW.done (by kernel_rfl) ?_
   refine QW.then_n ?_
   refine CW.sub [(2, .slice A_68 n_69 c_70), (3, .int .i64 0)] ⟨rfl, rfl, trivial⟩ ?_
   refine CW.ret ?_
   obtain ⟨rfl, rfl⟩ := H
   exact QW.ret2 rfl rfl rfl ⟨T_65, A_68, n_69, c_70, ((hs_47.trans hs_52).trans hs_66), hn_73, rfl, (St.pickT (L := [_, _, _, _]) st_75 [0] (by decide))⟩
  ·have h_14 : a0_2 = false := (Bool.eq_false_iff.mpr c_13)
   refine CW.cf rfl h_14 ?_
   refine CW.skip ?_
   refine QW.then_n ?_
   refine CW.seq ?_
   refine CW.region_awh (C := fun w_ => St w w_ (.sl (some ⟨B_9, 0, none⟩) 2 2 (iv .u8 [1, 0]) 5 1 :: .cells B_1 (([.int .u64 a0_0] : Cs) ++ (([.slice A0_1 n0_1 c0_1] : Cs) ++ ([.bool a0_2] : Cs))) 104 :: (T ++ R))) 9 wide (by kernel_rfl) st_11 (fun w_77 st_78 => ?_)
   refine AWH.take 0 rfl (by decide) (by kernel_rfl) (by kernel_rfl) st_78 Wanted.none (fun wq sq => (Runs.move rfl)) ?_
   refine AWH.take 2 rfl (by decide) (by kernel_rfl) (by kernel_rfl) st_78 Wanted.none (fun wq sq => (Runs.fieldAddr (off := 0) (p := 0) fld104_0 rfl rfl rfl)) ?_
   refine AWH.take 3 rfl (by decide) (by kernel_rfl) (by kernel_rfl) st_78 Wanted.none (fun wq sq => (Runs.fieldAddr (off := 0) (p := 0) fld42_0 rfl rfl rfl)) ?_
   refine AWH.take 4 rfl (by decide) (by kernel_rfl) (by kernel_rfl) st_78 Wanted.none (fun wq sq => (Runs.load nagg37 rfl (sq.cell (k := 1) rfl (part_one (u := .int .u64 a0_0) (pre := (([] : Cs))) (post := (([.slice A0_1 n0_1 c0_1] : Cs) ++ ([.bool a0_2] : Cs))) (by first | rfl | simp only [List.append_assoc, List.append_nil, List.nil_append, List.cons_append]) (by first | rfl | simp only [List.length_append, List.length_cons, List.length_nil, iv_length]))))) ?_
   refine AWH.take 6 rfl (by decide) (by kernel_rfl) (by kernel_rfl) st_78 Wanted.none (fun wq sq => (Runs.fieldAddr (off := 0) (p := 0) fld104_0 rfl rfl rfl)) ?_
   refine AWH.take 7 rfl (by decide) (by kernel_rfl) (by kernel_rfl) st_78 Wanted.none (fun wq sq => (Runs.fieldAddr (off := 1) (p := 1) fld42_1 rfl rfl rfl)) ?_
   refine AWH.take 8 rfl (by decide) (by kernel_rfl) (by kernel_rfl) st_78 Wanted.none (fun wq sq => (Runs.load nagg25 rfl (sq.cell (k := 1) rfl (part_one (u := .slice A0_1 n0_1 c0_1) (pre := (([.int .u64 a0_0] : Cs))) (post := (([.bool a0_2] : Cs))) (by first | rfl | simp only [List.append_assoc, List.append_nil, List.nil_append, List.cons_append]) (by first | rfl | simp only [List.length_append, List.length_cons, List.length_nil, iv_length]))))) ?_
   refine AWH.step 1 rfl (by decide) (by kernel_rfl) (fun inv_ hs_ hk_ hc_ hn_ => ?_)
   obtain ⟨r_83, hr_79, H⟩ := H
   refine WL.call Wanted.none ent60 rfl (word_Pad.calls w_77 [1, 0] 8 (some ⟨B_9, 0, none⟩) 2 2 (st_78.src_sl (k := 0) rfl) (rfl) (st_78.cap (i := 0) rfl) r_83 hr_79) ?_
   rintro _ w_80 ⟨A_84, c_85, n_86, hn_87, rfl, sc_82⟩
   have st_81 : St w w_80 (.sl A_84 c_85 n_86 (iv .u8 r_83) 5 1 :: .sl (some ⟨B_9, 0, none⟩) 2 2 (iv .u8 [1, 0]) 5 1 :: .cells B_1 (([.int .u64 a0_0] : Cs) ++ (([.slice A0_1 n0_1 c0_1] : Cs) ++ ([.bool a0_2] : Cs))) 104 :: (T ++ R)) := st_78.call sc_82
   refine ⟨_, rfl, ?_⟩
   refine WL.nil ?_
   refine AWH.back (St.subset st_78 st_81 (List.forall_mem_cons.2 ⟨List.mem_of_getElem? (i := 1) rfl, (List.forall_mem_cons.2 ⟨List.mem_of_getElem? (i := 2) rfl, (mem_TR (A := [_, _, _]) (fun _ h_ => h_))⟩)⟩)) inv_ hs_ hk_ hc_ hn_ ?_
   refine AWH.step 5 rfl (by decide) (by kernel_rfl) (fun inv_ hs_ hk_ hc_ hn_ => ?_)
   obtain ⟨r_93, hr_89, H⟩ := H
   refine WL.call Wanted.none ent32 rfl (word_Put.calls w_80 a0_0 8 r_93 hr_89) ?_
   rintro _ w_90 ⟨A_94, c_95, n_96, hn_97, rfl, sc_92⟩
   have st_91 : St w w_90 (.sl A_94 c_95 n_96 (iv .u8 r_93) 5 1 :: .sl A_84 c_85 n_86 (iv .u8 r_83) 5 1 :: .sl (some ⟨B_9, 0, none⟩) 2 2 (iv .u8 [1, 0]) 5 1 :: .cells B_1 (([.int .u64 a0_0] : Cs) ++ (([.slice A0_1 n0_1 c0_1] : Cs) ++ ([.bool a0_2] : Cs))) 104 :: (T ++ R)) := st_81.call sc_92
   refine ⟨_, rfl, ?_⟩
   refine WL.nil ?_
   refine AWH.back (St.subset st_78 st_91 (List.forall_mem_cons.2 ⟨List.mem_of_getElem? (i := 2) rfl, (List.forall_mem_cons.2 ⟨List.mem_of_getElem? (i := 3) rfl, (mem_TR (A := [_, _, _, _]) (fun _ h_ => h_))⟩)⟩)) inv_ hs_ hk_ hc_ hn_ ?_
   refine AWH.tail (by kernel_rfl) ?_
   refine AW.step 9 rfl (by kernel_rfl) ?_
   have hb_103c := st_91.cap (i := 1) rfl
   obtain ⟨T_99, hs_100, hm_101, st_102⟩ := St.freeze (A := [_]) (B := [_, _]) (T := T) (R := R) st_91
   have hb_103 : HB w T_99 A_84 n_86 c_85 (iv .u8 r_83) r_83.length := ⟨hn_87, hb_103c, Hd.of_sl hm_101⟩
   replace st_102 : St w w_90 (.sl A_94 c_95 n_96 (iv .u8 r_93) 5 1 :: .sl (some ⟨B_9, 0, none⟩) 2 2 (iv .u8 [1, 0]) 5 1 :: .cells B_1 (([.int .u64 a0_0] : Cs) ++ (([.slice A0_1 n0_1 c0_1] : Cs) ++ ([.bool a0_2] : Cs))) 104 :: (T_99 ++ R)) := st_102
   have hb_108c := st_102.cap (i := 0) rfl
   obtain ⟨T_104, hs_105, hm_106, st_107⟩ := St.freeze (A := []) (B := [_, _]) (T := T_99) (R := R) st_102
   have hb_108 : HB w T_104 A_94 n_96 c_95 (iv .u8 r_93) r_93.length := ⟨hn_97, hb_108c, Hd.of_sl hm_106⟩
   replace st_107 : St w w_90 (.sl (some ⟨B_9, 0, none⟩) 2 2 (iv .u8 [1, 0]) 5 1 :: .cells B_1 (([.int .u64 a0_0] : Cs) ++ (([.slice A0_1 n0_1 c0_1] : Cs) ++ ([.bool a0_2] : Cs))) 104 :: (T_104 ++ R)) := st_107
   refine WL.buildSl [.slice A_84 n_86 c_85, .slice A_94 n_96 c_95, .slice A0_1 n0_1 c0_1] st_107 Tryd.underlying76 elem25 rfl rfl (by decide) (by decide) (by simp [Value.cells]) ?_
   intro B_109 w_110 st_111
   replace st_111 : St w w_110 (.sl (some ⟨B_109, 0, none⟩) 3 3 [.slice A_84 n_86 c_85, .slice A_94 n_96 c_95, .slice A0_1 n0_1 c0_1] 25 1 :: .sl (some ⟨B_9, 0, none⟩) 2 2 (iv .u8 [1, 0]) 5 1 :: .cells B_1 (([.int .u64 a0_0] : Cs) ++ (([.slice A0_1 n0_1 c0_1] : Cs) ++ ([.bool a0_2] : Cs))) 104 :: (T_104 ++ R)) := st_111
   obtain ⟨x_113, e_114⟩ : ∃ x_ : Cs, x_ = [.slice A_84 n_86 c_85, .slice A_94 n_96 c_95, .slice A0_1 n0_1 c0_1] := ⟨_, rfl⟩
   have hx_115 : HRs T_104 (f25 w) x_113 ([r_83, r_93, l0_1] : List R25) := by rw [e_114]; exact (HRs.cons (ms := ([.slice A_84 n_86 c_85] : Cs)) (.cons ⟨_, _, _, rfl, (hb_103.mono (fun _ h_ => hs_105.1 _ h_))⟩ .nil) (HRs.cons (ms := ([.slice A_94 n_96 c_95] : Cs)) (.cons ⟨_, _, _, rfl, hb_108⟩ .nil) (HRs.one (.cons ⟨_, _, _, rfl, (hb0_1.mono (fun _ h_ => hs_105.1 _ (hs_100.1 _ h_)))⟩ .nil))))
   replace st_111 : St w w_110 (.sl (some ⟨B_109, 0, none⟩) 3 3 x_113 25 1 :: .sl (some ⟨B_9, 0, none⟩) 2 2 (iv .u8 [1, 0]) 5 1 :: .cells B_1 (([.int .u64 a0_0] : Cs) ++ (([.slice A0_1 n0_1 c0_1] : Cs) ++ ([.bool a0_2] : Cs))) 104 :: (T_104 ++ R)) := by rw [e_114]; exact st_111
   refine WL.nil ?_
   refine AW.back  ?_
   refine AW.step 10 rfl (by kernel_rfl) ?_
   have st_116 : St w w_110 ((T_104 ++ (.sl (some ⟨B_109, 0, none⟩) 3 3 x_113 25 1 :: .sl (some ⟨B_9, 0, none⟩) 2 2 (iv .u8 [1, 0]) 5 1 :: .cells B_1 (([.int .u64 a0_0] : Cs) ++ (([.slice A0_1 n0_1 c0_1] : Cs) ++ ([.bool a0_2] : Cs))) 104 :: R))) := St.hide (A := []) (B := [_, _, _]) (T := T_104) (R := R) st_111
   obtain ⟨l_124, hr_117, H⟩ := H
   refine WL.call Wanted.none ent55 rfl (slices_Concat_s_byte_byte.calls w w_110 T_104 (.sl (some ⟨B_109, 0, none⟩) 3 3 x_113 25 1 :: .sl (some ⟨B_9, 0, none⟩) 2 2 (iv .u8 [1, 0]) 5 1 :: .cells B_1 (([.int .u64 a0_0] : Cs) ++ (([.slice A0_1 n0_1 c0_1] : Cs) ++ ([.bool a0_2] : Cs))) 104 :: R) ([r_83, r_93, l0_1] : List R25) (some ⟨B_109, 0, none⟩) 3 3  st_116 (HS.mk rfl (st_111.cap (i := 0) rfl) (fun W_ L_ st hT => st.src_mem (hT _ (List.mem_append_right _ (List.mem_of_getElem? (i := 0) rfl)))) hx_115) l_124 hr_117) ?_
   rintro _ w_127 ⟨T_118, A_121, n_122, c_123, hs_119, hn_126, rfl, sc_129⟩
   have st_128 : St w w_127 (.sl A_121 c_123 n_122 (iv .u8 l_124) 5 1 :: .sl (some ⟨B_109, 0, none⟩) 3 3 x_113 25 1 :: .sl (some ⟨B_9, 0, none⟩) 2 2 (iv .u8 [1, 0]) 5 1 :: .cells B_1 (([.int .u64 a0_0] : Cs) ++ (([.slice A0_1 n0_1 c0_1] : Cs) ++ ([.bool a0_2] : Cs))) 104 :: (T_118 ++ R)) := St.unhide (A := [_]) (B := [_, _, _]) (T := T_118) (R := R) sc_129
   refine ⟨_, rfl, ?_⟩
   refine WL.nil ?_
   refine AW.back  ?_
   refine AW.take 11 rfl (by kernel_rfl) (by kernel_rfl) (by kernel_rfl) Wanted.none (fun _ => (Runs.assign rfl)) ?_
   refine AW.take 12 rfl (by kernel_rfl) (by kernel_rfl) (by kernel_rfl) Wanted.none (fun _ => (Runs.assign rfl)) ?_
   refine AW.done (by kernel_rfl) ?_
   refine QW.then_n ?_
   refine CW.sub [(2, .slice A_121 n_122 c_123), (3, .int .i64 0)] ⟨rfl, rfl, trivial⟩ ?_
   refine CW.ret ?_
   obtain ⟨rfl, rfl⟩ := H
   exact QW.ret2 rfl rfl rfl ⟨T_118, A_121, n_122, c_123, ((hs_100.trans hs_105).trans hs_119), hn_126, rfl, (St.pickT (L := [_, _, _, _]) st_128 [0] (by decide))⟩

/-! ### seal_size: function 61 -/
def seal_size.rel (a0 : Int) (r0 : Bool) : Prop := ((a0 = 160 ∧ r0 = true) ∨ (¬ (a0 = 160) ∧ r0 = (a0 == 176)))
set_option maxHeartbeats 4000000 in
set_option maxRecDepth 100000 in
theorem seal_size.calls (w : World) (a0 : Int)    (r0 : Bool) (H : seal_size.rel a0 r0) :
  Calls Tryd.prog 61 #[.int .i64 a0] w fun e w' => e = .returned (.bool r0) ∧ St w w' [] := by
 refine CW.enter Tryd.func61 rfl (n := 9) rfl [.int .i64 a0] (Nat.le_of_ble_eq_true rfl) ?_
 refine CW.sub [(0, .int .i64 a0)] ⟨rfl, trivial⟩ ?_
 have st0 : St w w [] := St.refl w
 refine CW.seq (CW.region ?_)
 refine WL.val Wanted.none (Runs.assign rfl) ?_
 refine WL.nil (QW.then_n ?_)
 refine CW.seq (CW.region ?_)
 refine WL.val Wanted.none (Runs.move rfl) ?_
 refine WL.val Wanted.none (Runs.eql rfl rfl rfl) ?_
 refine WL.val Wanted.none (Runs.move rfl) ?_
 rcases H with ⟨c_1, H⟩ | ⟨c_1, H⟩
 ·have h_2 : (a0 == 160) = true := (beq_iff_eq.mpr c_1)
  refine WL.off ?_ ?_; exact Wanted.guard (dj := 5) (by rfl) (evb (by rfl) h_2) (by rfl)
  refine WL.off ?_ ?_; exact Wanted.guard (dj := 5) (by rfl) (evb (by rfl) h_2) (by rfl)
  refine WL.val Wanted.none (Runs.pick_t (evb rfl h_2) rfl) ?_
  refine WL.val Wanted.none (Runs.assign rfl) ?_
  refine WL.nil (QW.then_n ?_)
  refine CW.sub [(2, .bool true)] ⟨rfl, trivial⟩ ?_
  refine CW.ret ?_
  obtain rfl := H
  exact QW.ret1 rfl rfl ⟨rfl, st0.pick [] (by decide)⟩
 ·have h_2 : (a0 == 160) = false := (beq_eq_false_iff_ne.mpr c_1)
  refine WL.on ?_ ?_; exact Wanted.guard (dj := 5) (by rfl) (evb (by rfl) h_2) (by rfl)
  refine WL.val Wanted.none (Runs.move rfl) ?_
  refine WL.on ?_ ?_; exact Wanted.guard (dj := 5) (by rfl) (evb (by rfl) h_2) (by rfl)
  refine WL.val Wanted.none (Runs.eql rfl rfl rfl) ?_
  refine WL.val Wanted.none (Runs.pick_f (evb rfl h_2) rfl) ?_
  refine WL.val Wanted.none (Runs.assign rfl) ?_
  refine WL.nil (QW.then_n ?_)
  refine CW.sub [(2, .bool (a0 == 176))] ⟨rfl, trivial⟩ ?_
  refine CW.ret ?_
  obtain rfl := H
  exact QW.ret1 rfl rfl ⟨rfl, st0.pick [] (by decide)⟩

/-! ### cipher_Nonce: function 63 -/
def cipher_Nonce.rel (a0 : Int) (a1 : Int) (r0 : List Int) : Prop := (∃ (r_9 : List Int), word_Put.rel (IntKind.u64.wrap a0) 4 r_9 ∧ (∃ (r_19 : List Int), word_Put.rel a1 8 r_19 ∧ (∃ (l_50 : List Int), slices_Concat_s_byte_byte.rel ([r_9, r_19] : List R25) l_50 ∧ (12 ≤ l_50.length ∧ r0 = List.take 12 l_50))))
set_option maxHeartbeats 4000000 in
set_option maxRecDepth 100000 in
theorem cipher_Nonce.calls (w : World) (a0 : Int) (a1 : Int)    (r0 : List Int) (H : cipher_Nonce.rel a0 a1 r0) :
  Calls Tryd.prog 63 #[.int .u32 a0, .int .u64 a1] w fun e w' => r0.length = 12 ∧ e = .returned (.agg (iv .u8 r0).toArray) ∧ St w w' [] := by
 refine CW.enter Tryd.func63 rfl (n := 14) rfl [.int .u32 a0, .int .u64 a1] (Nat.le_of_ble_eq_true rfl) ?_
 refine CW.sub [(0, .int .u32 a0), (1, .int .u64 a1)] ⟨rfl, rfl, trivial⟩ ?_
 obtain ⟨T, R, hT, hR, st0⟩ := St.start w
 refine CW.seq (CW.region ?_)
 refine WL.alloc st0 arr140.zero ?_
 intro B_1 w_2 st_3
 replace st_3 : St w w_2 (.cells B_1 (iv .u8 (List.replicate 12 (0 : Int))) 140 :: (T ++ R)) := st_3
 refine WL.nil (QW.then_n ?_)
 refine CW.seq (CW.region ?_)
 refine WL.val Wanted.none (Runs.move rfl) ?_
 refine WL.val Wanted.none (Runs.conv Tryd.underlying37 ⟨_, Tryd.underlying24⟩ rfl rfl) ?_
 obtain ⟨r_9, hr_5, H⟩ := H
 refine WL.call Wanted.none ent32 rfl (word_Put.calls w_2 (IntKind.u64.wrap a0) 4 r_9 hr_5) ?_
 rintro _ w_6 ⟨A_10, c_11, n_12, hn_13, rfl, sc_8⟩
 have st_7 : St w w_6 (.sl A_10 c_11 n_12 (iv .u8 r_9) 5 1 :: .cells B_1 (iv .u8 (List.replicate 12 (0 : Int))) 140 :: (T ++ R)) := st_3.call sc_8
 refine ⟨_, rfl, ?_⟩
 refine WL.val Wanted.none (Runs.move rfl) ?_
 obtain ⟨r_19, hr_15, H⟩ := H
 refine WL.call Wanted.none ent32 rfl (word_Put.calls w_6 a1 8 r_19 hr_15) ?_
 rintro _ w_16 ⟨A_20, c_21, n_22, hn_23, rfl, sc_18⟩
 have st_17 : St w w_16 (.sl A_20 c_21 n_22 (iv .u8 r_19) 5 1 :: .sl A_10 c_11 n_12 (iv .u8 r_9) 5 1 :: .cells B_1 (iv .u8 (List.replicate 12 (0 : Int))) 140 :: (T ++ R)) := st_7.call sc_18
 refine ⟨_, rfl, ?_⟩
 have hb_29c := st_17.cap (i := 1) rfl
 obtain ⟨T_25, hs_26, hm_27, st_28⟩ := St.freeze (A := [_]) (B := [_]) (T := T) (R := R) st_17
 have hb_29 : HB w T_25 A_10 n_12 c_11 (iv .u8 r_9) r_9.length := ⟨hn_13, hb_29c, Hd.of_sl hm_27⟩
 replace st_28 : St w w_16 (.sl A_20 c_21 n_22 (iv .u8 r_19) 5 1 :: .cells B_1 (iv .u8 (List.replicate 12 (0 : Int))) 140 :: (T_25 ++ R)) := st_28
 have hb_34c := st_28.cap (i := 0) rfl
 obtain ⟨T_30, hs_31, hm_32, st_33⟩ := St.freeze (A := []) (B := [_]) (T := T_25) (R := R) st_28
 have hb_34 : HB w T_30 A_20 n_22 c_21 (iv .u8 r_19) r_19.length := ⟨hn_23, hb_34c, Hd.of_sl hm_32⟩
 replace st_33 : St w w_16 (.cells B_1 (iv .u8 (List.replicate 12 (0 : Int))) 140 :: (T_30 ++ R)) := st_33
 refine WL.buildSl [.slice A_10 n_12 c_11, .slice A_20 n_22 c_21] st_33 Tryd.underlying76 elem25 rfl rfl (by decide) (by decide) (by simp [Value.cells]) ?_
 intro B_35 w_36 st_37
 replace st_37 : St w w_36 (.sl (some ⟨B_35, 0, none⟩) 2 2 [.slice A_10 n_12 c_11, .slice A_20 n_22 c_21] 25 1 :: .cells B_1 (iv .u8 (List.replicate 12 (0 : Int))) 140 :: (T_30 ++ R)) := st_37
 obtain ⟨x_39, e_40⟩ : ∃ x_ : Cs, x_ = [.slice A_10 n_12 c_11, .slice A_20 n_22 c_21] := ⟨_, rfl⟩
 have hx_41 : HRs T_30 (f25 w) x_39 ([r_9, r_19] : List R25) := by rw [e_40]; exact (HRs.cons (ms := ([.slice A_10 n_12 c_11] : Cs)) (.cons ⟨_, _, _, rfl, (hb_29.mono (fun _ h_ => hs_31.1 _ h_))⟩ .nil) (HRs.one (.cons ⟨_, _, _, rfl, hb_34⟩ .nil)))
 replace st_37 : St w w_36 (.sl (some ⟨B_35, 0, none⟩) 2 2 x_39 25 1 :: .cells B_1 (iv .u8 (List.replicate 12 (0 : Int))) 140 :: (T_30 ++ R)) := by rw [e_40]; exact st_37
 have st_42 : St w w_36 ((T_30 ++ (.sl (some ⟨B_35, 0, none⟩) 2 2 x_39 25 1 :: .cells B_1 (iv .u8 (List.replicate 12 (0 : Int))) 140 :: R))) := St.hide (A := []) (B := [_, _]) (T := T_30) (R := R) st_37
 obtain ⟨l_50, hr_43, H⟩ := H
 refine WL.call Wanted.none ent55 rfl (slices_Concat_s_byte_byte.calls w w_36 T_30 (.sl (some ⟨B_35, 0, none⟩) 2 2 x_39 25 1 :: .cells B_1 (iv .u8 (List.replicate 12 (0 : Int))) 140 :: R) ([r_9, r_19] : List R25) (some ⟨B_35, 0, none⟩) 2 2  st_42 (HS.mk rfl (st_37.cap (i := 0) rfl) (fun W_ L_ st hT => st.src_mem (hT _ (List.mem_append_right _ (List.mem_of_getElem? (i := 0) rfl)))) hx_41) l_50 hr_43) ?_
 rintro _ w_53 ⟨T_44, A_47, n_48, c_49, hs_45, hn_52, rfl, sc_55⟩
 have st_54 : St w w_53 (.sl A_47 c_49 n_48 (iv .u8 l_50) 5 1 :: .sl (some ⟨B_35, 0, none⟩) 2 2 x_39 25 1 :: .cells B_1 (iv .u8 (List.replicate 12 (0 : Int))) 140 :: (T_44 ++ R)) := St.unhide (A := [_]) (B := [_, _]) (T := T_44) (R := R) sc_55
 refine ⟨_, rfl, ?_⟩
 obtain ⟨h_56, H⟩ := H
 refine WL.val Wanted.none (Runs.toArray Tryd.underlying140 rfl (by rw [hn_52]; exact h_56)) ?_
 refine WL.val Wanted.none (Runs.load_src arr140 (by decide) rfl (st_54.src_sl (k := 0) rfl) h_56) ?_
 refine WL.store_arr (i := 2) st_54 rfl arr140 rfl (by rw [iv_length]; exact (List.length_replicate ..)) (List.length_take_of_le h_56) rfl ?_
 intro w_57 st_58
 replace st_58 : St w w_57 (.sl A_47 c_49 n_48 (iv .u8 l_50) 5 1 :: .sl (some ⟨B_35, 0, none⟩) 2 2 x_39 25 1 :: .cells B_1 (iv .u8 (List.take 12 l_50)) 140 :: (T_44 ++ R)) := st_58
 refine WL.nil (QW.then_n ?_)
 refine CW.sub [(4, .pointer (some ⟨B_1, 0, none⟩))] ⟨rfl, trivial⟩ ?_
 refine CW.ret ?_
 obtain rfl := H
 exact QW.retc rfl arr140 rfl (st_58.blk (i := 2) rfl) (List.length_take_of_le h_56) ⟨(List.length_take_of_le h_56), rfl, (St.front (A := []) (St.pickT (L := [_, _, _]) st_58 [] (by decide)))⟩

/-! ### slices.Chunk: its iterator, function 81 -/
/-- The j-th chunk of M bytes at A, c at a time. -/
def chv (A : Option Addr) (c M j : Nat) : Value := .slice (A.map (·.add (c * j))) (min c (M - c * j)) (min c (M - c * j))
def KpB (B1 B2 : Nat) (W W' : World) : Prop := W'.cell? ⟨B1, 0, none⟩ = W.cell? ⟨B1, 0, none⟩ ∧ W'.cell? ⟨B2, 0, none⟩ = W.cell? ⟨B2, 0, none⟩
theorem KpB.trans {B1 B2 : Nat} {W W' W2 : World} (h : KpB B1 B2 W W') (k : KpB B1 B2 W' W2) : KpB B1 B2 W W2 := ⟨k.1.trans h.1, k.2.trans h.2⟩
theorem KpB.put {B1 B2 : Nat} {w : World} (h1 : B1 < w.heap.size) (h2 : B2 < w.heap.size) (W : World) (j : Nat) (o o' : Obj) (hj : w.heap.size ≤ j) (_ : W.heap[j]? = some o) (_ : o.isCells = false) : KpB B1 B2 W (W.putObj j o') := by
 have hb : ∀ b, b < w.heap.size → (W.putObj j o').cell? ⟨b, 0, none⟩ = W.cell? ⟨b, 0, none⟩ := fun b hb => by
  unfold World.cell?
  rw [World.putObj_heap_other (show (⟨b, 0, none⟩ : Addr).block ≠ j by show b ≠ j; omega)]
 exact ⟨hb _ h1, hb _ h2⟩
theorem chw {x : Int} (h0 : -9223372036854775808 ≤ x) (h1 : x ≤ 9223372036854775807) : IntKind.i64.wrap x = x := by rw [IntKind.wrap_i64]; omega
set_option maxHeartbeats 4000000 in
set_option maxRecDepth 100000 in
theorem chunk_seq {w : World} {B1 B2 M C c q : Nat} {A : Option Addr} (hb1 : w.cell? ⟨B1, 0, none⟩ = some (.slice A M C)) (hb2 : w.cell? ⟨B2, 0, none⟩ = some (.int .i64 (c : Int))) (hMC : M ≤ C) (hc : 1 ≤ c) (hcs : c ≤ 1099511627776) (hMs : M ≤ 1099511627776)
  (hq1 : M ≤ c * q) (hq2 : ∀ j, j < q → c * j < M) :
  SeqStopsK Fence.wide 2 Tryd.prog 81 #[.pointer (some ⟨B1, 0, none⟩), .pointer (some ⟨B2, 0, none⟩)] (fun j : Fin q => #[chv A c M j.val]) (KpB B1 B2) (fun xs => xs = List.finRange q) (fun _ => True) q w := by
 intro y J Jx W hW hJ hJx hY h0
 have c1 : W.cell? ⟨B1, 0, none⟩ = some (.slice A M C) := (hW.cell (p := ⟨B1, 0, none⟩) (block_lt_of_cell hb1)).trans hb1
 have c2 : W.cell? ⟨B2, 0, none⟩ = some (.int .i64 (c : Int)) := (hW.cell (p := ⟨B2, 0, none⟩) (block_lt_of_cell hb2)).trans hb2
 refine callsIn_wide.2 ?_
 refine CW.enter Tryd.func81 rfl (n := 31) rfl [.func (.yield y) #[] #[], .pointer (some ⟨B1, 0, none⟩), .pointer (some ⟨B2, 0, none⟩)] (Nat.le_of_ble_eq_true rfl) ?_
 refine CW.sub [(0, .func (.yield y) #[] #[]), (1, .pointer (some ⟨B1, 0, none⟩)), (2, .pointer (some ⟨B2, 0, none⟩))] ⟨rfl, rfl, rfl, trivial⟩ ?_
 refine CW.seq (CW.region ?_)
 refine WL.val Wanted.none (Runs.assign rfl) ?_
 refine WL.nil (QW.then_n ?_)
 refine CW.block ?_
 refine CW.sub [(0, .func (.yield y) #[] #[]), (1, .pointer (some ⟨B1, 0, none⟩)), (2, .pointer (some ⟨B2, 0, none⟩)), (4, .int .i64 0)] ⟨rfl, rfl, rfl, rfl, trivial⟩ ?_
 refine CW.loop (fun k l_ w_ => ∃ j : Nat, k + j = q + 1 ∧ j ≤ q ∧ l_ = [(0, .func (.yield y) #[] #[]), (1, .pointer (some ⟨B1, 0, none⟩)), (2, .pointer (some ⟨B2, 0, none⟩)), (4, .int .i64 ((c * j : Nat) : Int))] ∧ J ((List.finRange q).take j) w_ ∧ w_.cell? ⟨B1, 0, none⟩ = some (.slice A M C) ∧ w_.cell? ⟨B2, 0, none⟩ = some (.int .i64 (c : Int)))
  (k := q + 1) ⟨0, by omega, by omega, rfl, h0, c1, c2⟩ (fun _ _ h => by obtain ⟨j, h1, h2, _⟩ := h; omega) ?_
 rintro k l1 w1 ⟨j, hkj, hjq, rfl, hJ1, d1, d2⟩
 refine CW.seq ?_
 refine CW.seq (CW.region ?_)
 refine WL.val Wanted.none (Runs.move rfl) ?_
 refine WL.val Wanted.none (Runs.load nagg25 rfl d1) ?_
 refine WL.val Wanted.none (Runs.len_sl Tryd.underlying25 rfl rfl) ?_
 refine WL.val Wanted.none (Runs.lss rfl rfl rfl) ?_
 refine WL.nil (QW.then_n ?_)
 by_cases hlt : j < q
 ·have hjM := hq2 j hlt
  have hfin : (List.finRange q).take (j + 1) = (List.finRange q).take j ++ [⟨j, hlt⟩] := by
   rw [List.take_add_one]; simp [hlt]
  refine CW.ct rfl (decide_eq_true (by omega)) ?_
  refine CW.skip ?_
  refine QW.then_n ?_
  refine CW.sub [(0, .func (.yield y) #[] #[]), (1, .pointer (some ⟨B1, 0, none⟩)), (2, .pointer (some ⟨B2, 0, none⟩)), (4, .int .i64 ((c * j : Nat) : Int))] ⟨rfl, rfl, rfl, rfl, trivial⟩ ?_
  refine CW.seq ?_
  refine CW.block ?_
  refine CW.seq ?_
  refine CW.region_qC (C := fun W' => J ((List.finRange q).take j) W' ∧ W'.cell? ⟨B1, 0, none⟩ = some (.slice A M C) ∧ W'.cell? ⟨B2, 0, none⟩ = some (.int .i64 (c : Int))) wide (by kernel_rfl) ⟨hJ _ _ _ none hJ1 ⟨rfl, rfl, rfl, Nat.le_refl _, fun _ _ _ => rfl⟩ (fun r e => by cases e), d1, d2⟩ ?_
  refine HL.val Wanted.none (fun W' h' => Runs.load nagg3 rfl h'.2.2) ?_
  refine HL.val Wanted.none (fun W' h' => Runs.load nagg25 rfl h'.2.1) ?_
  refine HL.val Wanted.none (fun W' h' => Runs.move rfl) ?_
  refine HL.val Wanted.none (fun W' h' => Runs.slice_l Tryd.underlying25 cells5 rfl rfl (by omega) (by omega) (B := subA A (c * j) C) rfl (N := M - c * j) rfl (M := C - c * j) rfl) ?_
  refine HL.val Wanted.none (fun W' h' => Runs.len_sl Tryd.underlying25 rfl rfl) ?_
  refine HL.val Wanted.none (fun W' h' => Runs.min2 rfl rfl (z := ((min c (M - c * j) : Nat) : Int)) (by unfold minI; split <;> omega)) ?_
  refine HL.val Wanted.none (fun W' h' => Runs.assign rfl) ?_
  refine HL.nil (fun w2 h2 => ?_)
  obtain ⟨hJ2, f1, f2⟩ := h2
  refine WL.nil (QW.then_n ?_)
  refine CW.sub [(0, .func (.yield y) #[] #[]), (1, .pointer (some ⟨B1, 0, none⟩)), (2, .pointer (some ⟨B2, 0, none⟩)), (4, .int .i64 ((c * j : Nat) : Int)), (5, .int .i64 ((min c (M - c * j) : Nat) : Int))] ⟨rfl, rfl, rfl, rfl, rfl, trivial⟩ ?_
  refine CW.seq ?_
  refine CW.region_y 2 ?_
  refine WY.val (Runs.move rfl) rfl ?_
  refine WY.val (Runs.load nagg25 rfl f1) rfl ?_
  refine WY.val (Runs.move rfl) rfl ?_
  refine WY.val (Runs.move rfl) rfl ?_
  refine WY.val (Runs.move rfl) rfl ?_
  refine WY.val (Runs.add rfl rfl (z := ((c * j + min c (M - c * j) : Nat) : Int)) (by rw [chw (by omega) (by omega)]; omega)) rfl ?_
  refine WY.val (Runs.move rfl) rfl ?_
  refine WY.val (Runs.move rfl) rfl ?_
  refine WY.val (Runs.add rfl rfl (z := ((c * j + min c (M - c * j) : Nat) : Int)) (by rw [chw (by omega) (by omega)]; omega)) rfl ?_
  refine WY.val (Runs.slice_3 Tryd.underlying25 cells5 rfl rfl rfl rfl (by omega) (by omega) (by omega) (by omega) (B := A.map (·.add (c * j))) (by rw [if_neg (by omega)]; rfl) (N := min c (M - c * j)) (by omega) (M := min c (M - c * j)) (by omega)) rfl ?_
  refine WY.yield rfl rfl (hY ((List.finRange q).take j) ⟨j, hlt⟩ w2 hJ2 (by simp; omega)) ?_
  rintro e w3 (⟨rfl, hJ3, hk3⟩ | ⟨rfl, hJx3⟩)
  ·refine ⟨_, rfl, ?_⟩
   refine WY.val (Runs.not rfl rfl) rfl ?_
   refine WY.nil ?_
   refine QW.then_n ?_
   refine CW.cf rfl rfl ?_
   refine CW.skip ?_
   refine QW.blk_n ?_
   refine QW.then_n ?_
   refine CW.sub [(0, .func (.yield y) #[] #[]), (1, .pointer (some ⟨B1, 0, none⟩)), (2, .pointer (some ⟨B2, 0, none⟩)), (4, .int .i64 ((c * j : Nat) : Int))] ⟨rfl, rfl, rfl, rfl, trivial⟩ ?_
   refine CW.region ?_
   refine WL.val Wanted.none (Runs.move rfl) ?_
   refine WL.val Wanted.none (Runs.load nagg3 rfl (hk3.2.trans f2)) ?_
   refine WL.val Wanted.none (Runs.add rfl rfl (z := ((c * (j + 1) : Nat) : Int)) (by rw [Nat.mul_succ, chw (by omega) (by omega)]; omega)) ?_
   refine WL.val Wanted.none (Runs.assign rfl) ?_
   refine WL.nil ?_
   exact QW.at _ (by repeat' constructor) ⟨j + 1, by omega, by omega, rfl, by rw [hfin]; exact hJ3, hk3.1.trans f1, hk3.2.trans f2⟩
  ·refine ⟨_, rfl, ?_⟩
   refine WY.val (Runs.not rfl rfl) rfl ?_
   refine WY.nil ?_
   refine QW.then_n ?_
   refine CW.ct rfl rfl ?_
   refine CW.ret ?_
   refine QW.blk_r ?_
   refine QW.then_r ?_
   refine QW.then_r ?_
   refine QW.blk_r ?_
   exact QW.ret0 rfl ⟨⟨_, rfl⟩, .inr ⟨_, trivial, hJx3⟩⟩
 ·obtain rfl : j = q := by omega
  refine CW.cf rfl (decide_eq_false (by omega)) ?_
  refine CW.exit ?_
  refine QW.then_x ?_
  refine QW.then_x ?_
  refine QW.blk_x ?_
  exact QW.end0 rfl ⟨⟨_, rfl⟩, .inl ⟨_, rfl, by rw [List.take_of_length_le (by simp)] at hJ1; exact hJ1⟩⟩
theorem slices_Chunk.calls (w : World) (A : Option Addr) (M C c : Nat) (hc : 1 ≤ c) :
  Calls Tryd.prog 72 #[.slice A M C, .int .i64 (c : Int)] w fun e w' => ∃ B1 B2, e = .returned (.func (.func 81) #[] #[.pointer (some ⟨B1, 0, none⟩), .pointer (some ⟨B2, 0, none⟩)]) ∧ St w w' [.cells B2 [.int .i64 (c : Int)] 3, .cells B1 [.slice A M C] 25] := by
 refine CW.enter Tryd.func72 rfl (n := 9) rfl [.slice A M C, .int .i64 (c : Int)] (Nat.le_of_ble_eq_true rfl) ?_
 refine CW.sub [(0, .slice A M C), (1, .int .i64 (c : Int))] ⟨rfl, rfl, trivial⟩ ?_
 have st0 : St w w [] := St.refl w
 refine CW.seq (CW.region ?_)
 refine WL.box st0 rfl rfl ?_
 intro B1 w1 st1
 refine WL.box st1 rfl rfl ?_
 intro B2 w2 st2
 refine WL.val Wanted.none (Runs.assign rfl) ?_
 refine WL.nil (QW.then_n ?_)
 refine CW.seq ?_
 refine CW.seq (CW.region ?_)
 refine WL.val Wanted.none (Runs.load nagg3 rfl (st2.cell (k := 0) rfl rfl)) ?_
 refine WL.val Wanted.none (Runs.lss rfl rfl rfl) ?_
 refine WL.nil (QW.then_n ?_)
 refine CW.cf rfl (decide_eq_false (by omega)) ?_
 refine CW.skip ?_
 refine QW.then_n ?_
 refine CW.seq (CW.region ?_)
 refine WL.val Wanted.none (Runs.makeFunc (vs := [.pointer (some ⟨B1, 0, none⟩), .pointer (some ⟨B2, 0, none⟩)]) rfl) ?_
 refine WL.val Wanted.none (Runs.assign rfl) ?_
 refine WL.nil (QW.then_n ?_)
 refine CW.ret ?_
 exact QW.ret1 rfl rfl ⟨B1, B2, rfl, st2⟩

/-! ### word_inside: function 93 -/
def word_inside.rel (l0 : List Int) (a1 : Int) (a2 : Int) (r0 : Int) : Prop := (∃ (r_5 : Bool), word_size.rel a2 r_5 ∧ ((¬ (r_5 = true) ∧ r0 = 1) ∨ (¬ (¬ (r_5 = true)) ∧ ((a1 < 0 ∧ r0 = 12) ∨ (¬ (a1 < 0) ∧ ((a1 > (l0.length : Int) ∧ r0 = 12) ∨ (¬ (a1 > (l0.length : Int)) ∧ (((IntKind.i64.wrap ((l0.length : Int) - a1)) < a2 ∧ r0 = 12) ∨ (¬ ((IntKind.i64.wrap ((l0.length : Int) - a1)) < a2) ∧ r0 = 0)))))))))
set_option maxHeartbeats 4000000 in
set_option maxRecDepth 100000 in
theorem word_inside.calls (w : World) (l0 : List Int) (a1 : Int) (a2 : Int) (A0 : Option Addr) (n0 : Nat) (c0 : Nat)  (hs0 : Src w A0 (iv .u8 l0)) (hn0 : n0 = l0.length) (hc0 : n0 ≤ c0) (r0 : Int) (H : word_inside.rel l0 a1 a2 r0) :
  Calls Tryd.prog 93 #[.slice A0 n0 c0, .int .i64 a1, .int .i64 a2] w fun e w' => e = .returned (.int .i64 r0) ∧ St w w' [] := by
 refine CW.enter Tryd.func93 rfl (n := 28) rfl [.slice A0 n0 c0, .int .i64 a1, .int .i64 a2] (Nat.le_of_ble_eq_true rfl) ?_
 refine CW.sub [(0, .slice A0 n0 c0), (1, .int .i64 a1), (2, .int .i64 a2)] ⟨rfl, rfl, rfl, trivial⟩ ?_
 have st0 : St w w [] := St.refl w
 refine CW.seq (CW.region ?_)
 refine WL.val Wanted.none (Runs.assign rfl) ?_
 refine WL.nil (QW.then_n ?_)
 refine CW.seq ?_
 refine CW.block ?_
 refine CW.seq (CW.region ?_)
 refine WL.val Wanted.none (Runs.move rfl) ?_
 obtain ⟨r_5, hr_1, H⟩ := H
 refine WL.call Wanted.none ent56 rfl (word_size.calls w a2 r_5 hr_1) ?_
 rintro _ w_2 ⟨rfl, sc_4⟩
 have st_3 : St w w_2 [] := st0.call sc_4
 refine ⟨_, rfl, ?_⟩
 refine WL.val Wanted.none (Runs.not rfl rfl) ?_
 refine WL.val Wanted.none (Runs.assign rfl) ?_
 refine WL.nil (QW.then_n ?_)
 rcases H with ⟨c_6, H⟩ | ⟨c_6, H⟩
 ·have h_7 : (!r_5) = true := (not_t (Bool.eq_false_iff.mpr c_6))
  refine CW.ct rfl h_7 ?_
  refine CW.seq (CW.region ?_)
  refine WL.val Wanted.none (Runs.assign rfl) ?_
  refine WL.nil (QW.then_n ?_)
  refine CW.sub [(6, .int .i64 1)] ⟨rfl, trivial⟩ ?_
  refine CW.ret ?_
  refine QW.blk_r ?_
  refine QW.then_r ?_
  obtain rfl := H
  exact QW.ret1 rfl rfl ⟨rfl, st_3.pick [] (by decide)⟩
 ·have h_7 : (!r_5) = false := (not_f (Decidable.not_not.mp c_6))
  refine CW.cf rfl h_7 ?_
  refine CW.seq (CW.region ?_)
  refine WL.val Wanted.none (Runs.move rfl) ?_
  refine WL.val Wanted.none (Runs.lss rfl rfl rfl) ?_
  refine WL.val Wanted.none (Runs.move rfl) ?_
  rcases H with ⟨c_8, H⟩ | ⟨c_8, H⟩
  ·have h_9 : (decide (a1 < 0)) = true := (decide_eq_true c_8)
   refine WL.off ?_ ?_; exact Wanted.guard (dj := 14) (by rfl) (evb (by rfl) h_9) (by rfl)
   refine WL.off ?_ ?_; exact Wanted.guard (dj := 14) (by rfl) (evb (by rfl) h_9) (by rfl)
   refine WL.off ?_ ?_; exact Wanted.guard (dj := 14) (by rfl) (evb (by rfl) h_9) (by rfl)
   refine WL.off ?_ ?_; exact Wanted.guard (dj := 14) (by rfl) (evb (by rfl) h_9) (by rfl)
   refine WL.val Wanted.none (Runs.pick_t (evb rfl h_9) rfl) ?_
   refine WL.val Wanted.none (Runs.move rfl) ?_
   refine WL.off ?_ ?_; exact Wanted.guard (dj := 20) (by rfl) (by rfl) (by rfl)
   refine WL.off ?_ ?_; exact Wanted.guard (dj := 20) (by rfl) (by rfl) (by rfl)
   refine WL.off ?_ ?_; exact Wanted.guard (dj := 20) (by rfl) (by rfl) (by rfl)
   refine WL.off ?_ ?_; exact Wanted.guard (dj := 20) (by rfl) (by rfl) (by rfl)
   refine WL.off ?_ ?_; exact Wanted.guard (dj := 20) (by rfl) (by rfl) (by rfl)
   refine WL.off ?_ ?_; exact Wanted.guard (dj := 20) (by rfl) (by rfl) (by rfl)
   refine WL.val Wanted.none (Runs.pick_t rfl rfl) ?_
   refine WL.val Wanted.none (Runs.assign rfl) ?_
   refine WL.nil (QW.then_n ?_)
   refine CW.sub [(6, .int .i64 0), (11, .bool true)] ⟨rfl, rfl, trivial⟩ ?_
   refine CW.ct rfl rfl ?_
   refine CW.seq (CW.region ?_)
   refine WL.val Wanted.none (Runs.assign rfl) ?_
   refine WL.nil (QW.then_n ?_)
   refine CW.ret ?_
   refine QW.blk_r ?_
   refine QW.then_r ?_
   obtain rfl := H
   exact QW.ret1 rfl rfl ⟨rfl, st_3.pick [] (by decide)⟩
  ·have h_9 : (decide (a1 < 0)) = false := (decide_eq_false c_8)
   refine WL.on ?_ ?_; exact Wanted.guard (dj := 14) (by rfl) (evb (by rfl) h_9) (by rfl)
   refine WL.val Wanted.none (Runs.move rfl) ?_
   refine WL.on ?_ ?_; exact Wanted.guard (dj := 14) (by rfl) (evb (by rfl) h_9) (by rfl)
   refine WL.val Wanted.none (Runs.move rfl) ?_
   refine WL.on ?_ ?_; exact Wanted.guard (dj := 14) (by rfl) (evb (by rfl) h_9) (by rfl)
   refine WL.val Wanted.none (Runs.len_sl Tryd.underlying25 rfl (by rw [hn0])) ?_
   refine WL.on ?_ ?_; exact Wanted.guard (dj := 14) (by rfl) (evb (by rfl) h_9) (by rfl)
   refine WL.val Wanted.none (Runs.gtr rfl rfl rfl) ?_
   refine WL.val Wanted.none (Runs.pick_f (evb rfl h_9) rfl) ?_
   refine WL.val Wanted.none (Runs.move rfl) ?_
   rcases H with ⟨c_10, H⟩ | ⟨c_10, H⟩
   ·have h_11 : (decide (a1 > (l0.length : Int))) = true := (decide_eq_true c_10)
    refine WL.off ?_ ?_; exact Wanted.guard (dj := 20) (by rfl) (evb (by rfl) h_11) (by rfl)
    refine WL.off ?_ ?_; exact Wanted.guard (dj := 20) (by rfl) (evb (by rfl) h_11) (by rfl)
    refine WL.off ?_ ?_; exact Wanted.guard (dj := 20) (by rfl) (evb (by rfl) h_11) (by rfl)
    refine WL.off ?_ ?_; exact Wanted.guard (dj := 20) (by rfl) (evb (by rfl) h_11) (by rfl)
    refine WL.off ?_ ?_; exact Wanted.guard (dj := 20) (by rfl) (evb (by rfl) h_11) (by rfl)
    refine WL.off ?_ ?_; exact Wanted.guard (dj := 20) (by rfl) (evb (by rfl) h_11) (by rfl)
    refine WL.val Wanted.none (Runs.pick_t (evb rfl h_11) rfl) ?_
    refine WL.val Wanted.none (Runs.assign rfl) ?_
    refine WL.nil (QW.then_n ?_)
    refine CW.sub [(6, .int .i64 0), (11, .bool true)] ⟨rfl, rfl, trivial⟩ ?_
    refine CW.ct rfl rfl ?_
    refine CW.seq (CW.region ?_)
    refine WL.val Wanted.none (Runs.assign rfl) ?_
    refine WL.nil (QW.then_n ?_)
    refine CW.ret ?_
    refine QW.blk_r ?_
    refine QW.then_r ?_
    obtain rfl := H
    exact QW.ret1 rfl rfl ⟨rfl, st_3.pick [] (by decide)⟩
   ·have h_11 : (decide (a1 > (l0.length : Int))) = false := (decide_eq_false c_10)
    refine WL.on ?_ ?_; exact Wanted.guard (dj := 20) (by rfl) (evb (by rfl) h_11) (by rfl)
    refine WL.val Wanted.none (Runs.move rfl) ?_
    refine WL.on ?_ ?_; exact Wanted.guard (dj := 20) (by rfl) (evb (by rfl) h_11) (by rfl)
    refine WL.val Wanted.none (Runs.len_sl Tryd.underlying25 rfl (by rw [hn0])) ?_
    refine WL.on ?_ ?_; exact Wanted.guard (dj := 20) (by rfl) (evb (by rfl) h_11) (by rfl)
    refine WL.val Wanted.none (Runs.move rfl) ?_
    refine WL.on ?_ ?_; exact Wanted.guard (dj := 20) (by rfl) (evb (by rfl) h_11) (by rfl)
    refine WL.val Wanted.none (Runs.sub rfl rfl rfl) ?_
    refine WL.on ?_ ?_; exact Wanted.guard (dj := 20) (by rfl) (evb (by rfl) h_11) (by rfl)
    refine WL.val Wanted.none (Runs.move rfl) ?_
    refine WL.on ?_ ?_; exact Wanted.guard (dj := 20) (by rfl) (evb (by rfl) h_11) (by rfl)
    refine WL.val Wanted.none (Runs.lss rfl rfl rfl) ?_
    refine WL.val Wanted.none (Runs.pick_f (evb rfl h_11) rfl) ?_
    refine WL.val Wanted.none (Runs.assign rfl) ?_
    refine WL.nil (QW.then_n ?_)
    refine CW.sub [(6, .int .i64 0), (11, .bool (decide ((IntKind.i64.wrap ((l0.length : Int) - a1)) < a2)))] ⟨rfl, rfl, trivial⟩ ?_
    rcases H with ⟨c_12, H⟩ | ⟨c_12, H⟩
    ·have h_13 : (decide ((IntKind.i64.wrap ((l0.length : Int) - a1)) < a2)) = true := (decide_eq_true c_12)
     refine CW.ct rfl h_13 ?_
     refine CW.seq (CW.region ?_)
     refine WL.val Wanted.none (Runs.assign rfl) ?_
     refine WL.nil (QW.then_n ?_)
     refine CW.ret ?_
     refine QW.blk_r ?_
     refine QW.then_r ?_
     obtain rfl := H
     exact QW.ret1 rfl rfl ⟨rfl, st_3.pick [] (by decide)⟩
    ·have h_13 : (decide ((IntKind.i64.wrap ((l0.length : Int) - a1)) < a2)) = false := (decide_eq_false c_12)
     refine CW.cf rfl h_13 ?_
     refine CW.skip ?_
     refine QW.blk_n ?_
     refine QW.then_n ?_
     refine CW.seq (CW.region ?_)
     refine WL.val Wanted.none (Runs.assign rfl) ?_
     refine WL.nil (QW.then_n ?_)
     refine CW.ret ?_
     obtain rfl := H
     exact QW.ret1 rfl rfl ⟨rfl, st_3.pick [] (by decide)⟩

end Go.Proofs.YtmhcjafkdmcgoaaDoor
