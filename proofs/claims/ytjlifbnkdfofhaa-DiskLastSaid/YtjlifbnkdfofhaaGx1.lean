/- Walks: each function computes what its relation says, and a call of it ends so. Printed by a program of this session (wip/gen). -/
import Derived.Test.YtjlifbnkdfofhaaGx0
namespace Go.Proofs.Ytjlifbnkdfofhaa
open Go Go.Kr Go.RowKit
set_option linter.unusedVariables false
set_option linter.unusedSimpArgs false
/-! ### disk_New: function 10 -/
def disk_New.L1 (a0 : Int) (or0 : Option ((List R22) × (List R69) × Int × Bool × (List R71))) (ar1 : Int) : Nat → (List R22) → Int → Prop
  | 0, _, _ => False
  | kL1 + 1, l_18, x_25 => ((x_25 < a0 ∧ (∃ m_51 : List R22, m_51 = l_18 ++ ([List.replicate 192 (0 : Int)] : List R22) ∧ (m_51.length ≤ 1099511627776 ∧ disk_New.L1 a0 or0 ar1 kL1 m_51 (IntKind.i64.wrap (x_25 + 1))))) ∨ (¬ (x_25 < a0) ∧ or0 = some (l_18, ([] : List R69), -1, false, ([] : List R71)) ∧ ar1 = 0))
def disk_New.rel (a0 : Int) (or0 : Option ((List R22) × (List R69) × Int × Bool × (List R71))) (ar1 : Int) : Prop := ((a0 < 1 ∧ or0 = none ∧ ar1 = 1) ∨ (¬ (a0 < 1) ∧ ((a0 > 4096 ∧ or0 = none ∧ ar1 = 1) ∨ (¬ (a0 > 4096) ∧ (∃ k_ : Nat, disk_New.L1 a0 or0 ar1 k_ ([] : List R22) 0)))))
set_option maxHeartbeats 1000000 in
set_option maxRecDepth 100000 in
theorem disk_New.calls_nil (w w1 : World) (T R : Pool) (a0 : Int)  (st0 : St w w1 ((T ++ R)))  (ar1 : Int) (or0 : Option ((List R22) × (List R69) × Int × Bool × (List R71))) (ho_ : or0 = none) (H : disk_New.rel a0 or0 ar1) :
    Calls Try.prog 10 #[.int .i64 a0] w1 fun e w' => ∃ T' , Pl T T' ∧ e = .returned (.tuple #[.pointer none, .int .i64 1]) ∧ St w w' ((T' ++ R)) := by
  refine CW.enter Try.func10 rfl (n := 28) rfl [.int .i64 a0] (Nat.le_of_ble_eq_true rfl) ?_
  refine CW.sub [(0, .int .i64 a0)] ⟨rfl, trivial⟩ ?_
  refine CW.seq ?_
  refine CW.region ?_
  refine WL.val Wanted.none (Runs.assign rfl) ?_
  refine WL.val Wanted.none (Runs.assign rfl) ?_
  refine WL.nil ?_
  refine QW.then_n ?_
  refine CW.seq ?_
  refine CW.seq ?_
  refine CW.region ?_
  refine WL.val Wanted.none (Runs.move rfl) ?_
  refine WL.val Wanted.none (Runs.lss rfl rfl rfl) ?_
  refine WL.val Wanted.none (Runs.move rfl) ?_
  rcases H with ⟨c_1, H⟩ | ⟨c_1, H⟩
  · have h_2 : (decide (a0 < 1)) = true := (decide_eq_true c_1)
    refine WL.off ?_ ?_; exact Wanted.guard (dj := 7) (by rfl) (evb (by rfl) h_2) (by rfl)
    refine WL.off ?_ ?_; exact Wanted.guard (dj := 7) (by rfl) (evb (by rfl) h_2) (by rfl)
    refine WL.val Wanted.none (Runs.pick_t (evb rfl h_2) rfl) ?_
    refine WL.nil ?_
    refine QW.then_n ?_
    refine CW.ct rfl rfl ?_
    refine CW.seq ?_
    refine CW.region ?_
    refine WL.val Wanted.none (Runs.assign rfl) ?_
    refine WL.val Wanted.none (Runs.assign rfl) ?_
    refine WL.nil ?_
    refine QW.then_n ?_
    refine CW.sub [(0, .int .i64 a0), (2, .pointer none), (3, .int .i64 1)] ⟨rfl, rfl, rfl, trivial⟩ ?_
    refine CW.ret ?_
    refine QW.then_r ?_
    obtain ⟨-, rfl⟩ := H
    exact QW.ret2 rfl rfl rfl ⟨T, Pl.refl, rfl, (St.pickT (L := []) st0 [] (by decide))⟩
  · have h_2 : (decide (a0 < 1)) = false := (decide_eq_false c_1)
    refine WL.on ?_ ?_; exact Wanted.guard (dj := 7) (by rfl) (evb (by rfl) h_2) (by rfl)
    refine WL.val Wanted.none (Runs.move rfl) ?_
    refine WL.on ?_ ?_; exact Wanted.guard (dj := 7) (by rfl) (evb (by rfl) h_2) (by rfl)
    refine WL.val Wanted.none (Runs.gtr rfl rfl rfl) ?_
    refine WL.val Wanted.none (Runs.pick_f (evb rfl h_2) rfl) ?_
    refine WL.nil ?_
    refine QW.then_n ?_
    rcases H with ⟨c_3, H⟩ | ⟨c_3, H⟩
    · have h_4 : (decide (a0 > 4096)) = true := (decide_eq_true c_3)
      refine CW.ct rfl h_4 ?_
      refine CW.seq ?_
      refine CW.region ?_
      refine WL.val Wanted.none (Runs.assign rfl) ?_
      refine WL.val Wanted.none (Runs.assign rfl) ?_
      refine WL.nil ?_
      refine QW.then_n ?_
      refine CW.sub [(0, .int .i64 a0), (2, .pointer none), (3, .int .i64 1)] ⟨rfl, rfl, rfl, trivial⟩ ?_
      refine CW.ret ?_
      refine QW.then_r ?_
      obtain ⟨-, rfl⟩ := H
      exact QW.ret2 rfl rfl rfl ⟨T, Pl.refl, rfl, (St.pickT (L := []) st0 [] (by decide))⟩
    · have h_4 : (decide (a0 > 4096)) = false := (decide_eq_false c_3)
      refine CW.cf rfl h_4 ?_
      refine CW.skip ?_
      refine QW.then_n ?_
      refine CW.sub [(0, .int .i64 a0), (2, .pointer none), (3, .int .i64 0)] ⟨rfl, rfl, rfl, trivial⟩ ?_
      refine CW.seq ?_
      refine CW.region ?_
      refine WL.val Wanted.none (Runs.build_struct (ps := [(0, 1), (1, 1), (2, 1), (3, 1), (4, 1)]) (cs := (([.slice none 0 0] : List Value) ++ (([.slice none 0 0] : List Value) ++ (([.int .i64 (-1)] : List Value) ++ (([.bool false] : List Value) ++ ([.slice none 0 0] : List Value)))))) plc66 zero66 rfl (by refine Fills.cons (o := 2) (ms := (([.int .i64 (-1)] : List Value))) (show _ = some (2, (([.int .i64 (-1)] : List Value)).length) by rw [show (([.int .i64 (-1)] : List Value)).length = 1 from (by first | rfl | simp only [List.length_append, List.length_cons, List.length_nil, iv_length])] <;> rfl) rfl (by have h1_ : (([.int .i64 (-1)] : List Value)).length = 1 := (by first | rfl | simp only [List.length_append, List.length_cons, List.length_nil, iv_length]); have h2_ : (([.slice none 0 0] : List Value) ++ (([.slice none 0 0] : List Value) ++ (([.int .i64 0] : List Value) ++ (([.bool false] : List Value) ++ ([.slice none 0 0] : List Value))))).length = 5 := (by first | rfl | simp only [List.length_append, List.length_cons, List.length_nil, iv_length]); omega) ?_; rw [show layV (([.slice none 0 0] : List Value) ++ (([.slice none 0 0] : List Value) ++ (([.int .i64 0] : List Value) ++ (([.bool false] : List Value) ++ ([.slice none 0 0] : List Value))))) 2 (([.int .i64 (-1)] : List Value)) = (([.slice none 0 0] : List Value) ++ (([.slice none 0 0] : List Value) ++ (([.int .i64 (-1)] : List Value) ++ (([.bool false] : List Value) ++ ([.slice none 0 0] : List Value))))) from (layV_mid (pre := (([.slice none 0 0] : List Value) ++ ([.slice none 0 0] : List Value))) (mid := (([.int .i64 0] : List Value))) (post := (([.bool false] : List Value) ++ ([.slice none 0 0] : List Value))) (by first | rfl | simp only [List.append_assoc, List.append_nil, List.nil_append, List.cons_append]) (by first | rfl | simp only [List.length_append, List.length_cons, List.length_nil, iv_length]) (Eq.trans (b := 1) (by first | rfl | simp only [List.length_append, List.length_cons, List.length_nil, iv_length]) (Eq.symm (by first | rfl | simp only [List.length_append, List.length_cons, List.length_nil, iv_length])))).trans (by first | rfl | simp only [List.append_assoc, List.append_nil, List.nil_append, List.cons_append])]; exact Fills.nil)) ?_
      refine WL.box st0 rfl rfl ?_
      intro B_5 w_6 st_7
      replace st_7 : St w w_6 (.cells B_5 (([.slice none 0 0] : List Value) ++ (([.slice none 0 0] : List Value) ++ (([.int .i64 (-1)] : List Value) ++ (([.bool false] : List Value) ++ ([.slice none 0 0] : List Value))))) 66 :: (T ++ R)) := st_7
      have st_10 := st_7.nil_sl 22 1
      have st_10 : St w w_6 (.sl none 0 0 ([] : Cells) 22 1 :: .cells B_5 (([.slice none 0 0] : List Value) ++ (([.slice none 0 0] : List Value) ++ (([.int .i64 (-1)] : List Value) ++ (([.bool false] : List Value) ++ ([.slice none 0 0] : List Value))))) 66 :: (T ++ R)) := st_10
      have st_12 := st_10.nil_sl 69 2
      have st_12 : St w w_6 (.sl none 0 0 ([] : Cells) 69 2 :: .sl none 0 0 ([] : Cells) 22 1 :: .cells B_5 (([.slice none 0 0] : List Value) ++ (([.slice none 0 0] : List Value) ++ (([.int .i64 (-1)] : List Value) ++ (([.bool false] : List Value) ++ ([.slice none 0 0] : List Value))))) 66 :: (T ++ R)) := st_12
      have st_14 := st_12.nil_sl 71 2
      have st_14 : St w w_6 (.sl none 0 0 ([] : Cells) 71 2 :: .sl none 0 0 ([] : Cells) 69 2 :: .sl none 0 0 ([] : Cells) 22 1 :: .cells B_5 (([.slice none 0 0] : List Value) ++ (([.slice none 0 0] : List Value) ++ (([.int .i64 (-1)] : List Value) ++ (([.bool false] : List Value) ++ ([.slice none 0 0] : List Value))))) 66 :: (T ++ R)) := st_14
      refine WL.val Wanted.none (Runs.assign rfl) ?_
      refine WL.nil ?_
      refine QW.then_n ?_
      refine CW.seq ?_
      refine CW.seq ?_
      refine CW.region ?_
      refine WL.val Wanted.none (Runs.move rfl) ?_
      refine WL.val Wanted.none (Runs.move rfl) ?_
      refine WL.nil ?_
      refine QW.then_n ?_
      refine CW.block ?_
      obtain ⟨k_15, H⟩ := H
      refine CW.sub [(2, .pointer none), (3, .int .i64 0), (4, .pointer (some ⟨B_5, 0, none⟩)), (13, .int .i64 a0), (14, .int .i64 0)] ⟨rfl, rfl, rfl, rfl, rfl, trivial⟩ ?_
      refine CW.loop (fun kL1 l_ w_ => ∃ (T_16 : Pool) (A_22 : Option Addr) (c_23 : Nat) (n_24 : Nat) (x_20 : Cells) (l_18 : List R22) (x_25 : Int), l_ = [(2, .pointer none), (3, .int .i64 0), (4, .pointer (some ⟨B_5, 0, none⟩)), (13, .int .i64 a0), (14, .int .i64 x_25)] ∧ disk_New.L1 a0 or0 ar1 kL1 l_18 x_25 ∧ (Pl T T_16) ∧ (n_24 = l_18.length) ∧ (HRs T_16 (f22 w) x_20 l_18) ∧ St w w_ (.sl none 0 0 ([] : Cells) 71 2 :: .sl none 0 0 ([] : Cells) 69 2 :: .sl A_22 c_23 n_24 x_20 22 1 :: .cells B_5 (([.slice A_22 n_24 c_23] : List Value) ++ (([.slice none 0 0] : List Value) ++ (([.int .i64 (-1)] : List Value) ++ (([.bool false] : List Value) ++ ([.slice none 0 0] : List Value))))) 66 :: (T_16 ++ R))) (k := k_15) ⟨T, none, 0, 0, ([] : Cells), ([] : List R22), 0, rfl, H, Pl.refl, rfl, (HRs.nil : HRs T (f22 w) [] []), st_14⟩ (fun _ _ h => by obtain ⟨_, _, _, _, _, _, _, _, h, _⟩ := h; exact h.elim) ?_
      rintro kL1 l_28 w_26 ⟨T_16, A_22, c_23, n_24, x_20, l_18, x_25, rfl, H, hs_17, hn_19, hx_21, st_27⟩
      refine CW.seq ?_
      refine CW.region ?_
      refine WL.val Wanted.none (Runs.lss rfl rfl rfl) ?_
      refine WL.nil ?_
      refine QW.then_n ?_
      refine CW.seq ?_
      rcases H with ⟨c_29, H⟩ | ⟨c_29, H⟩
      · have h_30 : (decide (x_25 < a0)) = true := (decide_eq_true c_29)
        refine CW.ct rfl h_30 ?_
        refine CW.skip ?_
        refine QW.then_n ?_
        refine CW.seq ?_
        refine CW.block ?_
        refine CW.region_awh (C := fun w_ => St w w_ (.sl none 0 0 ([] : Cells) 71 2 :: .sl none 0 0 ([] : Cells) 69 2 :: .cells B_5 (([.slice A_22 n_24 c_23] : List Value) ++ (([.slice none 0 0] : List Value) ++ (([.int .i64 (-1)] : List Value) ++ (([.bool false] : List Value) ++ ([.slice none 0 0] : List Value))))) 66 :: (T_16 ++ R))) 8 wide (by kernel_rfl) st_27 (fun w_31 st_32 => ?_)
        have st_33 : St w w_31 (.sl none 0 0 ([] : Cells) 71 2 :: .sl none 0 0 ([] : Cells) 69 2 :: .cells B_5 (([.slice A_22 n_24 c_23] : List Value) ++ (([.slice none 0 0] : List Value) ++ (([.int .i64 (-1)] : List Value) ++ (([.bool false] : List Value) ++ ([.slice none 0 0] : List Value))))) 66 :: (T_16 ++ R)) := (St.pickT (L := [_, _, _, _]) st_32 [0, 1, 3] (by decide))
        refine AWH.take 0 rfl (by decide) (by kernel_rfl) (by kernel_rfl) (St.subset st_33 st_32 (List.forall_mem_cons.2 ⟨List.mem_of_getElem? (i := 0) rfl, (List.forall_mem_cons.2 ⟨List.mem_of_getElem? (i := 1) rfl, (List.forall_mem_cons.2 ⟨List.mem_of_getElem? (i := 3) rfl, (mem_TR (A := [_, _, _, _]) (fun _ h_ => h_))⟩)⟩)⟩)) Wanted.none (fun wq sq => (Runs.move rfl)) ?_
        refine AWH.take 1 rfl (by decide) (by kernel_rfl) (by kernel_rfl) (St.subset st_33 st_32 (List.forall_mem_cons.2 ⟨List.mem_of_getElem? (i := 0) rfl, (List.forall_mem_cons.2 ⟨List.mem_of_getElem? (i := 1) rfl, (List.forall_mem_cons.2 ⟨List.mem_of_getElem? (i := 3) rfl, (mem_TR (A := [_, _, _, _]) (fun _ h_ => h_))⟩)⟩)⟩)) Wanted.none (fun wq sq => (Runs.move rfl)) ?_
        refine AWH.take 2 rfl (by decide) (by kernel_rfl) (by kernel_rfl) (St.subset st_33 st_32 (List.forall_mem_cons.2 ⟨List.mem_of_getElem? (i := 0) rfl, (List.forall_mem_cons.2 ⟨List.mem_of_getElem? (i := 1) rfl, (List.forall_mem_cons.2 ⟨List.mem_of_getElem? (i := 3) rfl, (mem_TR (A := [_, _, _, _]) (fun _ h_ => h_))⟩)⟩)⟩)) Wanted.none (fun wq sq => (Runs.nilCheck rfl)) ?_
        refine AWH.take 3 rfl (by decide) (by kernel_rfl) (by kernel_rfl) (St.subset st_33 st_32 (List.forall_mem_cons.2 ⟨List.mem_of_getElem? (i := 0) rfl, (List.forall_mem_cons.2 ⟨List.mem_of_getElem? (i := 1) rfl, (List.forall_mem_cons.2 ⟨List.mem_of_getElem? (i := 3) rfl, (mem_TR (A := [_, _, _, _]) (fun _ h_ => h_))⟩)⟩)⟩)) Wanted.none (fun wq sq => (Runs.fieldAddr (off := 0) (p := 0) fld66_0 rfl rfl rfl)) ?_
        refine AWH.take 4 rfl (by decide) (by kernel_rfl) (by kernel_rfl) (St.subset st_33 st_32 (List.forall_mem_cons.2 ⟨List.mem_of_getElem? (i := 0) rfl, (List.forall_mem_cons.2 ⟨List.mem_of_getElem? (i := 1) rfl, (List.forall_mem_cons.2 ⟨List.mem_of_getElem? (i := 3) rfl, (mem_TR (A := [_, _, _, _]) (fun _ h_ => h_))⟩)⟩)⟩)) Wanted.none (fun wq sq => (Runs.load nagg41 rfl (sq.cell (k := 2) rfl (part_one (u := .slice A_22 n_24 c_23) (pre := (([] : List Value))) (post := (([.slice none 0 0] : List Value) ++ (([.int .i64 (-1)] : List Value) ++ (([.bool false] : List Value) ++ ([.slice none 0 0] : List Value))))) (by first | rfl | simp only [List.append_assoc, List.append_nil, List.nil_append, List.cons_append]) (by first | rfl | simp only [List.length_append, List.length_cons, List.length_nil, iv_length]))))) ?_
        refine AWH.step 5 rfl (by decide) (by kernel_rfl) (fun inv_ hs_ hk_ hc_ hn_ => ?_)
        refine WL.make st_32 Try.underlying22 elem5 rfl rfl (by decide) (by decide) (by decide) (N := 192) rfl ?_
        intro B_34 w_35 st_36
        replace st_36 : St w w_35 (.sl (some ⟨B_34, 0, none⟩) 192 192 (iv .u8 (List.replicate 192 (0 : Int))) 5 1 :: .sl none 0 0 ([] : Cells) 71 2 :: .sl none 0 0 ([] : Cells) 69 2 :: .sl A_22 c_23 n_24 x_20 22 1 :: .cells B_5 (([.slice A_22 n_24 c_23] : List Value) ++ (([.slice none 0 0] : List Value) ++ (([.int .i64 (-1)] : List Value) ++ (([.bool false] : List Value) ++ ([.slice none 0 0] : List Value))))) 66 :: (T_16 ++ R)) := by rw [iv_replicate] at st_36; exact st_36
        have hn_37 : 192 = (List.replicate 192 (0 : Int)).length := by simp
        refine WL.nil ?_
        refine AWH.back (St.subset st_33 st_36 (List.forall_mem_cons.2 ⟨List.mem_of_getElem? (i := 1) rfl, (List.forall_mem_cons.2 ⟨List.mem_of_getElem? (i := 2) rfl, (List.forall_mem_cons.2 ⟨List.mem_of_getElem? (i := 4) rfl, (mem_TR (A := [_, _, _, _, _]) (fun _ h_ => h_))⟩)⟩)⟩)) inv_ hs_ hk_ hc_ hn_ ?_
        refine AWH.step 6 rfl (by decide) (by kernel_rfl) (fun inv_ hs_ hk_ hc_ hn_ => ?_)
        have hb_43c := st_36.cap (i := 0) rfl
        obtain ⟨T_39, hs_40, hm_41, st_42⟩ := St.freeze (A := []) (B := [_, _, _, _]) (T := T_16) (R := R) st_36
        have hb_43 : HB w T_39 (some ⟨B_34, 0, none⟩) 192 192 (iv .u8 (List.replicate 192 (0 : Int))) (List.replicate 192 (0 : Int)).length := ⟨hn_37, hb_43c, Hd.of_sl hm_41⟩
        replace st_42 : St w w_35 (.sl none 0 0 ([] : Cells) 71 2 :: .sl none 0 0 ([] : Cells) 69 2 :: .sl A_22 c_23 n_24 x_20 22 1 :: .cells B_5 (([.slice A_22 n_24 c_23] : List Value) ++ (([.slice none 0 0] : List Value) ++ (([.int .i64 (-1)] : List Value) ++ (([.bool false] : List Value) ++ ([.slice none 0 0] : List Value))))) 66 :: (T_39 ++ R)) := st_42
        refine WL.buildSl [.slice (some ⟨B_34, 0, none⟩) 192 192] st_42 Try.underlying41 elem22 rfl rfl (by decide) (by decide) (by simp [Value.cells]) ?_
        intro B_44 w_45 st_46
        replace st_46 : St w w_45 (.sl (some ⟨B_44, 0, none⟩) 1 1 [.slice (some ⟨B_34, 0, none⟩) 192 192] 22 1 :: .sl none 0 0 ([] : Cells) 71 2 :: .sl none 0 0 ([] : Cells) 69 2 :: .sl A_22 c_23 n_24 x_20 22 1 :: .cells B_5 (([.slice A_22 n_24 c_23] : List Value) ++ (([.slice none 0 0] : List Value) ++ (([.int .i64 (-1)] : List Value) ++ (([.bool false] : List Value) ++ ([.slice none 0 0] : List Value))))) 66 :: (T_39 ++ R)) := st_46
        obtain ⟨x_48, e_49⟩ : ∃ x_ : Cells, x_ = [.slice (some ⟨B_34, 0, none⟩) 192 192] := ⟨_, rfl⟩
        have hx_50 : HRs T_39 (f22 w) x_48 ([List.replicate 192 (0 : Int)] : List R22) := by rw [e_49]; exact (HRs.one (.cons ⟨_, _, _, rfl, hb_43⟩ .nil))
        replace st_46 : St w w_45 (.sl (some ⟨B_44, 0, none⟩) 1 1 x_48 22 1 :: .sl none 0 0 ([] : Cells) 71 2 :: .sl none 0 0 ([] : Cells) 69 2 :: .sl A_22 c_23 n_24 x_20 22 1 :: .cells B_5 (([.slice A_22 n_24 c_23] : List Value) ++ (([.slice none 0 0] : List Value) ++ (([.int .i64 (-1)] : List Value) ++ (([.bool false] : List Value) ++ ([.slice none 0 0] : List Value))))) 66 :: (T_39 ++ R)) := by rw [e_49]; exact st_46
        refine WL.nil ?_
        refine AWH.back (St.subset st_33 st_46 (List.forall_mem_cons.2 ⟨List.mem_of_getElem? (i := 1) rfl, (List.forall_mem_cons.2 ⟨List.mem_of_getElem? (i := 2) rfl, (List.forall_mem_cons.2 ⟨List.mem_of_getElem? (i := 4) rfl, (mem_TR (A := [_, _, _, _, _]) (fun _ h_ => hs_40.1 _ h_))⟩)⟩)⟩)) inv_ hs_ hk_ hc_ hn_ ?_
        refine AWH.step 7 rfl (by decide) (by kernel_rfl) (fun inv_ hs_ hk_ hc_ hn_ => ?_)
        obtain ⟨m_51, e_52, H⟩ := H
        obtain ⟨z_53, H⟩ := H
        obtain ⟨n_56, hn_59⟩ : ∃ n_ : Nat, n_ = m_51.length := ⟨_, rfl⟩
        refine WL.appendR (i := 3) (N := n_56) (news := x_48) Wanted.none st_46 rfl Try.underlying41 elemS22 rfl rfl (st_46.src_sl (k := 0) rfl) (by have h1_ := (hx_50).length (fz22 w); have h2_ : 1 = ([List.replicate 192 (0 : Int)] : List R22).length := rfl; rw [h1_, h2_]) (HLs.one hx_50) (by decide) (by have h1_ : n_24 = l_18.length := hn_19; have h2_ : 1 = ([List.replicate 192 (0 : Int)] : List R22).length := rfl; rw [hn_59, e_52, List.length_append]; omega) (by rw [hn_59]; exact z_53) ?_
        intro A_54 c_55 w_57 st_58
        obtain ⟨x_60, e_61⟩ : ∃ x_ : Cells, x_ = x_20 ++ x_48 := ⟨_, rfl⟩
        have hx_62 : HRs T_39 (f22 w) x_60 m_51 := by rw [e_61, e_52]; exact HRs.append (hx_21.mono (fun _ h_ => hs_40.1 _ h_)) hx_50
        replace st_58 : St w w_57 (.sl (some ⟨B_44, 0, none⟩) 1 1 x_48 22 1 :: .sl none 0 0 ([] : Cells) 71 2 :: .sl none 0 0 ([] : Cells) 69 2 :: .sl A_54 c_55 n_56 x_60 22 1 :: .cells B_5 (([.slice A_22 n_24 c_23] : List Value) ++ (([.slice none 0 0] : List Value) ++ (([.int .i64 (-1)] : List Value) ++ (([.bool false] : List Value) ++ ([.slice none 0 0] : List Value))))) 66 :: (T_39 ++ R)) := by rw [e_61]; exact st_58
        refine WL.nil ?_
        refine AWH.back (St.subset st_33 st_58 (List.forall_mem_cons.2 ⟨List.mem_of_getElem? (i := 1) rfl, (List.forall_mem_cons.2 ⟨List.mem_of_getElem? (i := 2) rfl, (List.forall_mem_cons.2 ⟨List.mem_of_getElem? (i := 4) rfl, (mem_TR (A := [_, _, _, _, _]) (fun _ h_ => hs_40.1 _ h_))⟩)⟩)⟩)) inv_ hs_ hk_ hc_ hn_ ?_
        refine AWH.tail (by kernel_rfl) ?_
        refine AW.take 8 rfl (by kernel_rfl) (by kernel_rfl) (by kernel_rfl) Wanted.none (fun _ => (Runs.nilCheck rfl)) ?_
        refine AW.take 9 rfl (by kernel_rfl) (by kernel_rfl) (by kernel_rfl) Wanted.none (fun _ => (Runs.fieldAddr (off := 0) (p := 0) fld66_0 rfl rfl rfl)) ?_
        refine AW.step 10 rfl (by kernel_rfl) ?_
        refine WL.store_one (i := 4) (u0 := .slice A_22 n_24 c_23) (pre := (([] : List Value))) (post := (([.slice none 0 0] : List Value) ++ (([.int .i64 (-1)] : List Value) ++ (([.bool false] : List Value) ++ ([.slice none 0 0] : List Value))))) st_58 rfl cells41 (by first | rfl | simp only [List.append_assoc, List.append_nil, List.nil_append, List.cons_append]) (by first | rfl | simp only [List.length_append, List.length_cons, List.length_nil, iv_length]) rfl rfl rfl ?_
        intro w_63 st_64
        replace st_64 : St w w_63 (.sl (some ⟨B_44, 0, none⟩) 1 1 x_48 22 1 :: .sl none 0 0 ([] : Cells) 71 2 :: .sl none 0 0 ([] : Cells) 69 2 :: .sl A_54 c_55 n_56 x_60 22 1 :: .cells B_5 (([.slice A_54 n_56 c_55] : List Value) ++ (([.slice none 0 0] : List Value) ++ (([.int .i64 (-1)] : List Value) ++ (([.bool false] : List Value) ++ ([.slice none 0 0] : List Value))))) 66 :: (T_39 ++ R)) := by have e_ : (([.slice A_54 n_56 c_55] : List Value) ++ (([.slice none 0 0] : List Value) ++ (([.int .i64 (-1)] : List Value) ++ (([.bool false] : List Value) ++ ([.slice none 0 0] : List Value))))) = (([] : List Value)) ++ ((([.slice A_54 n_56 c_55] : List Value)) ++ (([.slice none 0 0] : List Value) ++ (([.int .i64 (-1)] : List Value) ++ (([.bool false] : List Value) ++ ([.slice none 0 0] : List Value))))) := (by first | rfl | simp only [List.append_assoc, List.append_nil, List.nil_append, List.cons_append]); have h_ : St w w_63 (.sl (some ⟨B_44, 0, none⟩) 1 1 x_48 22 1 :: .sl none 0 0 ([] : Cells) 71 2 :: .sl none 0 0 ([] : Cells) 69 2 :: .sl A_54 c_55 n_56 x_60 22 1 :: .cells B_5 ((([] : List Value)) ++ ((([.slice A_54 n_56 c_55] : List Value)) ++ (([.slice none 0 0] : List Value) ++ (([.int .i64 (-1)] : List Value) ++ (([.bool false] : List Value) ++ ([.slice none 0 0] : List Value)))))) 66 :: (T_39 ++ R)) := st_64; rw [← e_] at h_; exact h_
        refine WL.nil ?_
        refine AW.back  ?_
        refine AW.done (by kernel_rfl) ?_
        refine QW.blk_n ?_
        refine QW.then_n ?_
        refine CW.region ?_
        refine WL.val Wanted.none (Runs.add rfl rfl rfl) ?_
        refine WL.val Wanted.none (Runs.move rfl) ?_
        refine WL.nil ?_
        have st_64' := (St.pickT (L := [_, _, _, _, _]) st_64 [1, 2, 3, 4] (by decide))
        exact QW.at [(2, .pointer none), (3, .int .i64 0), (4, .pointer (some ⟨B_5, 0, none⟩)), (13, .int .i64 a0), (14, .int .i64 (IntKind.i64.wrap (x_25 + 1)))] ⟨rfl, rfl, rfl, rfl, rfl, trivial⟩ ⟨T_39, A_54, c_55, n_56, x_60, m_51, IntKind.i64.wrap (x_25 + 1), rfl, H, (hs_17.trans hs_40), hn_59, hx_62, st_64'⟩
      · have h_30 : (decide (x_25 < a0)) = false := (decide_eq_false c_29)
        refine CW.cf rfl h_30 ?_
        refine CW.exit ?_
        refine QW.then_x ?_
        refine QW.then_x ?_
        refine QW.blk_x ?_
        refine QW.then_n ?_
        refine CW.seq ?_
        refine CW.region ?_
        refine WL.val Wanted.none (Runs.move rfl) ?_
        refine WL.val Wanted.none (Runs.assign rfl) ?_
        refine WL.val Wanted.none (Runs.assign rfl) ?_
        refine WL.nil ?_
        refine QW.then_n ?_
        refine CW.ret ?_
        exact nomatch (ho_.symm.trans H.1)
set_option maxHeartbeats 1000000 in
set_option maxRecDepth 100000 in
theorem disk_New.calls_obj (w w1 : World) (T R : Pool) (a0 : Int)  (st0 : St w w1 ((T ++ R)))  (lr0_0 : List R22) (lr0_1 : List R69) (ar0_2 : Int) (ar0_3 : Bool) (lr0_4 : List R71) (ar1 : Int) (or0 : Option ((List R22) × (List R69) × Int × Bool × (List R71))) (ho_ : or0 = some (lr0_0, lr0_1, ar0_2, ar0_3, lr0_4)) (H : disk_New.rel a0 or0 ar1) :
    Calls Try.prog 10 #[.int .i64 a0] w1 fun e w' => ∃ T' br0 Ar0_0 nr0_0 cr0_0 xr0_0 Ar0_1 nr0_1 cr0_1 xr0_1 Ar0_4 nr0_4 cr0_4 xr0_4, Pl T T' ∧ nr0_0 = lr0_0.length ∧ HRs T' (f22 w) xr0_0 lr0_0 ∧ nr0_1 = lr0_1.length ∧ HRs T' (f69 w) xr0_1 lr0_1 ∧ nr0_4 = lr0_4.length ∧ HRs T' (f71 w) xr0_4 lr0_4 ∧ e = .returned (.tuple #[.pointer (some ⟨br0, 0, none⟩), .int .i64 0]) ∧ St w w' (.cells br0 (([.slice Ar0_0 nr0_0 cr0_0] : List Value) ++ (([.slice Ar0_1 nr0_1 cr0_1] : List Value) ++ (([.int .i64 ar0_2] : List Value) ++ (([.bool ar0_3] : List Value) ++ ([.slice Ar0_4 nr0_4 cr0_4] : List Value))))) 66 :: .sl Ar0_0 cr0_0 nr0_0 xr0_0 22 1 :: .sl Ar0_1 cr0_1 nr0_1 xr0_1 69 2 :: .sl Ar0_4 cr0_4 nr0_4 xr0_4 71 2 :: (T' ++ R)) := by
  refine CW.enter Try.func10 rfl (n := 28) rfl [.int .i64 a0] (Nat.le_of_ble_eq_true rfl) ?_
  refine CW.sub [(0, .int .i64 a0)] ⟨rfl, trivial⟩ ?_
  refine CW.seq ?_
  refine CW.region ?_
  refine WL.val Wanted.none (Runs.assign rfl) ?_
  refine WL.val Wanted.none (Runs.assign rfl) ?_
  refine WL.nil ?_
  refine QW.then_n ?_
  refine CW.seq ?_
  refine CW.seq ?_
  refine CW.region ?_
  refine WL.val Wanted.none (Runs.move rfl) ?_
  refine WL.val Wanted.none (Runs.lss rfl rfl rfl) ?_
  refine WL.val Wanted.none (Runs.move rfl) ?_
  rcases H with ⟨c_1, H⟩ | ⟨c_1, H⟩
  · have h_2 : (decide (a0 < 1)) = true := (decide_eq_true c_1)
    refine WL.off ?_ ?_; exact Wanted.guard (dj := 7) (by rfl) (evb (by rfl) h_2) (by rfl)
    refine WL.off ?_ ?_; exact Wanted.guard (dj := 7) (by rfl) (evb (by rfl) h_2) (by rfl)
    refine WL.val Wanted.none (Runs.pick_t (evb rfl h_2) rfl) ?_
    refine WL.nil ?_
    refine QW.then_n ?_
    refine CW.ct rfl rfl ?_
    refine CW.seq ?_
    refine CW.region ?_
    refine WL.val Wanted.none (Runs.assign rfl) ?_
    refine WL.val Wanted.none (Runs.assign rfl) ?_
    refine WL.nil ?_
    refine QW.then_n ?_
    refine CW.sub [(0, .int .i64 a0), (2, .pointer none), (3, .int .i64 1)] ⟨rfl, rfl, rfl, trivial⟩ ?_
    refine CW.ret ?_
    refine QW.then_r ?_
    exact nomatch (ho_.symm.trans H.1)
  · have h_2 : (decide (a0 < 1)) = false := (decide_eq_false c_1)
    refine WL.on ?_ ?_; exact Wanted.guard (dj := 7) (by rfl) (evb (by rfl) h_2) (by rfl)
    refine WL.val Wanted.none (Runs.move rfl) ?_
    refine WL.on ?_ ?_; exact Wanted.guard (dj := 7) (by rfl) (evb (by rfl) h_2) (by rfl)
    refine WL.val Wanted.none (Runs.gtr rfl rfl rfl) ?_
    refine WL.val Wanted.none (Runs.pick_f (evb rfl h_2) rfl) ?_
    refine WL.nil ?_
    refine QW.then_n ?_
    rcases H with ⟨c_3, H⟩ | ⟨c_3, H⟩
    · have h_4 : (decide (a0 > 4096)) = true := (decide_eq_true c_3)
      refine CW.ct rfl h_4 ?_
      refine CW.seq ?_
      refine CW.region ?_
      refine WL.val Wanted.none (Runs.assign rfl) ?_
      refine WL.val Wanted.none (Runs.assign rfl) ?_
      refine WL.nil ?_
      refine QW.then_n ?_
      refine CW.sub [(0, .int .i64 a0), (2, .pointer none), (3, .int .i64 1)] ⟨rfl, rfl, rfl, trivial⟩ ?_
      refine CW.ret ?_
      refine QW.then_r ?_
      exact nomatch (ho_.symm.trans H.1)
    · have h_4 : (decide (a0 > 4096)) = false := (decide_eq_false c_3)
      refine CW.cf rfl h_4 ?_
      refine CW.skip ?_
      refine QW.then_n ?_
      refine CW.sub [(0, .int .i64 a0), (2, .pointer none), (3, .int .i64 0)] ⟨rfl, rfl, rfl, trivial⟩ ?_
      refine CW.seq ?_
      refine CW.region ?_
      refine WL.val Wanted.none (Runs.build_struct (ps := [(0, 1), (1, 1), (2, 1), (3, 1), (4, 1)]) (cs := (([.slice none 0 0] : List Value) ++ (([.slice none 0 0] : List Value) ++ (([.int .i64 (-1)] : List Value) ++ (([.bool false] : List Value) ++ ([.slice none 0 0] : List Value)))))) plc66 zero66 rfl (by refine Fills.cons (o := 2) (ms := (([.int .i64 (-1)] : List Value))) (show _ = some (2, (([.int .i64 (-1)] : List Value)).length) by rw [show (([.int .i64 (-1)] : List Value)).length = 1 from (by first | rfl | simp only [List.length_append, List.length_cons, List.length_nil, iv_length])] <;> rfl) rfl (by have h1_ : (([.int .i64 (-1)] : List Value)).length = 1 := (by first | rfl | simp only [List.length_append, List.length_cons, List.length_nil, iv_length]); have h2_ : (([.slice none 0 0] : List Value) ++ (([.slice none 0 0] : List Value) ++ (([.int .i64 0] : List Value) ++ (([.bool false] : List Value) ++ ([.slice none 0 0] : List Value))))).length = 5 := (by first | rfl | simp only [List.length_append, List.length_cons, List.length_nil, iv_length]); omega) ?_; rw [show layV (([.slice none 0 0] : List Value) ++ (([.slice none 0 0] : List Value) ++ (([.int .i64 0] : List Value) ++ (([.bool false] : List Value) ++ ([.slice none 0 0] : List Value))))) 2 (([.int .i64 (-1)] : List Value)) = (([.slice none 0 0] : List Value) ++ (([.slice none 0 0] : List Value) ++ (([.int .i64 (-1)] : List Value) ++ (([.bool false] : List Value) ++ ([.slice none 0 0] : List Value))))) from (layV_mid (pre := (([.slice none 0 0] : List Value) ++ ([.slice none 0 0] : List Value))) (mid := (([.int .i64 0] : List Value))) (post := (([.bool false] : List Value) ++ ([.slice none 0 0] : List Value))) (by first | rfl | simp only [List.append_assoc, List.append_nil, List.nil_append, List.cons_append]) (by first | rfl | simp only [List.length_append, List.length_cons, List.length_nil, iv_length]) (Eq.trans (b := 1) (by first | rfl | simp only [List.length_append, List.length_cons, List.length_nil, iv_length]) (Eq.symm (by first | rfl | simp only [List.length_append, List.length_cons, List.length_nil, iv_length])))).trans (by first | rfl | simp only [List.append_assoc, List.append_nil, List.nil_append, List.cons_append])]; exact Fills.nil)) ?_
      refine WL.box st0 rfl rfl ?_
      intro B_5 w_6 st_7
      replace st_7 : St w w_6 (.cells B_5 (([.slice none 0 0] : List Value) ++ (([.slice none 0 0] : List Value) ++ (([.int .i64 (-1)] : List Value) ++ (([.bool false] : List Value) ++ ([.slice none 0 0] : List Value))))) 66 :: (T ++ R)) := st_7
      have st_10 := st_7.nil_sl 22 1
      have st_10 : St w w_6 (.sl none 0 0 ([] : Cells) 22 1 :: .cells B_5 (([.slice none 0 0] : List Value) ++ (([.slice none 0 0] : List Value) ++ (([.int .i64 (-1)] : List Value) ++ (([.bool false] : List Value) ++ ([.slice none 0 0] : List Value))))) 66 :: (T ++ R)) := st_10
      have st_12 := st_10.nil_sl 69 2
      have st_12 : St w w_6 (.sl none 0 0 ([] : Cells) 69 2 :: .sl none 0 0 ([] : Cells) 22 1 :: .cells B_5 (([.slice none 0 0] : List Value) ++ (([.slice none 0 0] : List Value) ++ (([.int .i64 (-1)] : List Value) ++ (([.bool false] : List Value) ++ ([.slice none 0 0] : List Value))))) 66 :: (T ++ R)) := st_12
      have st_14 := st_12.nil_sl 71 2
      have st_14 : St w w_6 (.sl none 0 0 ([] : Cells) 71 2 :: .sl none 0 0 ([] : Cells) 69 2 :: .sl none 0 0 ([] : Cells) 22 1 :: .cells B_5 (([.slice none 0 0] : List Value) ++ (([.slice none 0 0] : List Value) ++ (([.int .i64 (-1)] : List Value) ++ (([.bool false] : List Value) ++ ([.slice none 0 0] : List Value))))) 66 :: (T ++ R)) := st_14
      refine WL.val Wanted.none (Runs.assign rfl) ?_
      refine WL.nil ?_
      refine QW.then_n ?_
      refine CW.seq ?_
      refine CW.seq ?_
      refine CW.region ?_
      refine WL.val Wanted.none (Runs.move rfl) ?_
      refine WL.val Wanted.none (Runs.move rfl) ?_
      refine WL.nil ?_
      refine QW.then_n ?_
      refine CW.block ?_
      obtain ⟨k_15, H⟩ := H
      refine CW.sub [(2, .pointer none), (3, .int .i64 0), (4, .pointer (some ⟨B_5, 0, none⟩)), (13, .int .i64 a0), (14, .int .i64 0)] ⟨rfl, rfl, rfl, rfl, rfl, trivial⟩ ?_
      refine CW.loop (fun kL1 l_ w_ => ∃ (T_16 : Pool) (A_22 : Option Addr) (c_23 : Nat) (n_24 : Nat) (x_20 : Cells) (l_18 : List R22) (x_25 : Int), l_ = [(2, .pointer none), (3, .int .i64 0), (4, .pointer (some ⟨B_5, 0, none⟩)), (13, .int .i64 a0), (14, .int .i64 x_25)] ∧ disk_New.L1 a0 or0 ar1 kL1 l_18 x_25 ∧ (Pl T T_16) ∧ (n_24 = l_18.length) ∧ (HRs T_16 (f22 w) x_20 l_18) ∧ St w w_ (.sl none 0 0 ([] : Cells) 71 2 :: .sl none 0 0 ([] : Cells) 69 2 :: .sl A_22 c_23 n_24 x_20 22 1 :: .cells B_5 (([.slice A_22 n_24 c_23] : List Value) ++ (([.slice none 0 0] : List Value) ++ (([.int .i64 (-1)] : List Value) ++ (([.bool false] : List Value) ++ ([.slice none 0 0] : List Value))))) 66 :: (T_16 ++ R))) (k := k_15) ⟨T, none, 0, 0, ([] : Cells), ([] : List R22), 0, rfl, H, Pl.refl, rfl, (HRs.nil : HRs T (f22 w) [] []), st_14⟩ (fun _ _ h => by obtain ⟨_, _, _, _, _, _, _, _, h, _⟩ := h; exact h.elim) ?_
      rintro kL1 l_28 w_26 ⟨T_16, A_22, c_23, n_24, x_20, l_18, x_25, rfl, H, hs_17, hn_19, hx_21, st_27⟩
      refine CW.seq ?_
      refine CW.region ?_
      refine WL.val Wanted.none (Runs.lss rfl rfl rfl) ?_
      refine WL.nil ?_
      refine QW.then_n ?_
      refine CW.seq ?_
      rcases H with ⟨c_29, H⟩ | ⟨c_29, H⟩
      · have h_30 : (decide (x_25 < a0)) = true := (decide_eq_true c_29)
        refine CW.ct rfl h_30 ?_
        refine CW.skip ?_
        refine QW.then_n ?_
        refine CW.seq ?_
        refine CW.block ?_
        refine CW.region_awh (C := fun w_ => St w w_ (.sl none 0 0 ([] : Cells) 71 2 :: .sl none 0 0 ([] : Cells) 69 2 :: .cells B_5 (([.slice A_22 n_24 c_23] : List Value) ++ (([.slice none 0 0] : List Value) ++ (([.int .i64 (-1)] : List Value) ++ (([.bool false] : List Value) ++ ([.slice none 0 0] : List Value))))) 66 :: (T_16 ++ R))) 8 wide (by kernel_rfl) st_27 (fun w_31 st_32 => ?_)
        have st_33 : St w w_31 (.sl none 0 0 ([] : Cells) 71 2 :: .sl none 0 0 ([] : Cells) 69 2 :: .cells B_5 (([.slice A_22 n_24 c_23] : List Value) ++ (([.slice none 0 0] : List Value) ++ (([.int .i64 (-1)] : List Value) ++ (([.bool false] : List Value) ++ ([.slice none 0 0] : List Value))))) 66 :: (T_16 ++ R)) := (St.pickT (L := [_, _, _, _]) st_32 [0, 1, 3] (by decide))
        refine AWH.take 0 rfl (by decide) (by kernel_rfl) (by kernel_rfl) (St.subset st_33 st_32 (List.forall_mem_cons.2 ⟨List.mem_of_getElem? (i := 0) rfl, (List.forall_mem_cons.2 ⟨List.mem_of_getElem? (i := 1) rfl, (List.forall_mem_cons.2 ⟨List.mem_of_getElem? (i := 3) rfl, (mem_TR (A := [_, _, _, _]) (fun _ h_ => h_))⟩)⟩)⟩)) Wanted.none (fun wq sq => (Runs.move rfl)) ?_
        refine AWH.take 1 rfl (by decide) (by kernel_rfl) (by kernel_rfl) (St.subset st_33 st_32 (List.forall_mem_cons.2 ⟨List.mem_of_getElem? (i := 0) rfl, (List.forall_mem_cons.2 ⟨List.mem_of_getElem? (i := 1) rfl, (List.forall_mem_cons.2 ⟨List.mem_of_getElem? (i := 3) rfl, (mem_TR (A := [_, _, _, _]) (fun _ h_ => h_))⟩)⟩)⟩)) Wanted.none (fun wq sq => (Runs.move rfl)) ?_
        refine AWH.take 2 rfl (by decide) (by kernel_rfl) (by kernel_rfl) (St.subset st_33 st_32 (List.forall_mem_cons.2 ⟨List.mem_of_getElem? (i := 0) rfl, (List.forall_mem_cons.2 ⟨List.mem_of_getElem? (i := 1) rfl, (List.forall_mem_cons.2 ⟨List.mem_of_getElem? (i := 3) rfl, (mem_TR (A := [_, _, _, _]) (fun _ h_ => h_))⟩)⟩)⟩)) Wanted.none (fun wq sq => (Runs.nilCheck rfl)) ?_
        refine AWH.take 3 rfl (by decide) (by kernel_rfl) (by kernel_rfl) (St.subset st_33 st_32 (List.forall_mem_cons.2 ⟨List.mem_of_getElem? (i := 0) rfl, (List.forall_mem_cons.2 ⟨List.mem_of_getElem? (i := 1) rfl, (List.forall_mem_cons.2 ⟨List.mem_of_getElem? (i := 3) rfl, (mem_TR (A := [_, _, _, _]) (fun _ h_ => h_))⟩)⟩)⟩)) Wanted.none (fun wq sq => (Runs.fieldAddr (off := 0) (p := 0) fld66_0 rfl rfl rfl)) ?_
        refine AWH.take 4 rfl (by decide) (by kernel_rfl) (by kernel_rfl) (St.subset st_33 st_32 (List.forall_mem_cons.2 ⟨List.mem_of_getElem? (i := 0) rfl, (List.forall_mem_cons.2 ⟨List.mem_of_getElem? (i := 1) rfl, (List.forall_mem_cons.2 ⟨List.mem_of_getElem? (i := 3) rfl, (mem_TR (A := [_, _, _, _]) (fun _ h_ => h_))⟩)⟩)⟩)) Wanted.none (fun wq sq => (Runs.load nagg41 rfl (sq.cell (k := 2) rfl (part_one (u := .slice A_22 n_24 c_23) (pre := (([] : List Value))) (post := (([.slice none 0 0] : List Value) ++ (([.int .i64 (-1)] : List Value) ++ (([.bool false] : List Value) ++ ([.slice none 0 0] : List Value))))) (by first | rfl | simp only [List.append_assoc, List.append_nil, List.nil_append, List.cons_append]) (by first | rfl | simp only [List.length_append, List.length_cons, List.length_nil, iv_length]))))) ?_
        refine AWH.step 5 rfl (by decide) (by kernel_rfl) (fun inv_ hs_ hk_ hc_ hn_ => ?_)
        refine WL.make st_32 Try.underlying22 elem5 rfl rfl (by decide) (by decide) (by decide) (N := 192) rfl ?_
        intro B_34 w_35 st_36
        replace st_36 : St w w_35 (.sl (some ⟨B_34, 0, none⟩) 192 192 (iv .u8 (List.replicate 192 (0 : Int))) 5 1 :: .sl none 0 0 ([] : Cells) 71 2 :: .sl none 0 0 ([] : Cells) 69 2 :: .sl A_22 c_23 n_24 x_20 22 1 :: .cells B_5 (([.slice A_22 n_24 c_23] : List Value) ++ (([.slice none 0 0] : List Value) ++ (([.int .i64 (-1)] : List Value) ++ (([.bool false] : List Value) ++ ([.slice none 0 0] : List Value))))) 66 :: (T_16 ++ R)) := by rw [iv_replicate] at st_36; exact st_36
        have hn_37 : 192 = (List.replicate 192 (0 : Int)).length := by simp
        refine WL.nil ?_
        refine AWH.back (St.subset st_33 st_36 (List.forall_mem_cons.2 ⟨List.mem_of_getElem? (i := 1) rfl, (List.forall_mem_cons.2 ⟨List.mem_of_getElem? (i := 2) rfl, (List.forall_mem_cons.2 ⟨List.mem_of_getElem? (i := 4) rfl, (mem_TR (A := [_, _, _, _, _]) (fun _ h_ => h_))⟩)⟩)⟩)) inv_ hs_ hk_ hc_ hn_ ?_
        refine AWH.step 6 rfl (by decide) (by kernel_rfl) (fun inv_ hs_ hk_ hc_ hn_ => ?_)
        have hb_43c := st_36.cap (i := 0) rfl
        obtain ⟨T_39, hs_40, hm_41, st_42⟩ := St.freeze (A := []) (B := [_, _, _, _]) (T := T_16) (R := R) st_36
        have hb_43 : HB w T_39 (some ⟨B_34, 0, none⟩) 192 192 (iv .u8 (List.replicate 192 (0 : Int))) (List.replicate 192 (0 : Int)).length := ⟨hn_37, hb_43c, Hd.of_sl hm_41⟩
        replace st_42 : St w w_35 (.sl none 0 0 ([] : Cells) 71 2 :: .sl none 0 0 ([] : Cells) 69 2 :: .sl A_22 c_23 n_24 x_20 22 1 :: .cells B_5 (([.slice A_22 n_24 c_23] : List Value) ++ (([.slice none 0 0] : List Value) ++ (([.int .i64 (-1)] : List Value) ++ (([.bool false] : List Value) ++ ([.slice none 0 0] : List Value))))) 66 :: (T_39 ++ R)) := st_42
        refine WL.buildSl [.slice (some ⟨B_34, 0, none⟩) 192 192] st_42 Try.underlying41 elem22 rfl rfl (by decide) (by decide) (by simp [Value.cells]) ?_
        intro B_44 w_45 st_46
        replace st_46 : St w w_45 (.sl (some ⟨B_44, 0, none⟩) 1 1 [.slice (some ⟨B_34, 0, none⟩) 192 192] 22 1 :: .sl none 0 0 ([] : Cells) 71 2 :: .sl none 0 0 ([] : Cells) 69 2 :: .sl A_22 c_23 n_24 x_20 22 1 :: .cells B_5 (([.slice A_22 n_24 c_23] : List Value) ++ (([.slice none 0 0] : List Value) ++ (([.int .i64 (-1)] : List Value) ++ (([.bool false] : List Value) ++ ([.slice none 0 0] : List Value))))) 66 :: (T_39 ++ R)) := st_46
        obtain ⟨x_48, e_49⟩ : ∃ x_ : Cells, x_ = [.slice (some ⟨B_34, 0, none⟩) 192 192] := ⟨_, rfl⟩
        have hx_50 : HRs T_39 (f22 w) x_48 ([List.replicate 192 (0 : Int)] : List R22) := by rw [e_49]; exact (HRs.one (.cons ⟨_, _, _, rfl, hb_43⟩ .nil))
        replace st_46 : St w w_45 (.sl (some ⟨B_44, 0, none⟩) 1 1 x_48 22 1 :: .sl none 0 0 ([] : Cells) 71 2 :: .sl none 0 0 ([] : Cells) 69 2 :: .sl A_22 c_23 n_24 x_20 22 1 :: .cells B_5 (([.slice A_22 n_24 c_23] : List Value) ++ (([.slice none 0 0] : List Value) ++ (([.int .i64 (-1)] : List Value) ++ (([.bool false] : List Value) ++ ([.slice none 0 0] : List Value))))) 66 :: (T_39 ++ R)) := by rw [e_49]; exact st_46
        refine WL.nil ?_
        refine AWH.back (St.subset st_33 st_46 (List.forall_mem_cons.2 ⟨List.mem_of_getElem? (i := 1) rfl, (List.forall_mem_cons.2 ⟨List.mem_of_getElem? (i := 2) rfl, (List.forall_mem_cons.2 ⟨List.mem_of_getElem? (i := 4) rfl, (mem_TR (A := [_, _, _, _, _]) (fun _ h_ => hs_40.1 _ h_))⟩)⟩)⟩)) inv_ hs_ hk_ hc_ hn_ ?_
        refine AWH.step 7 rfl (by decide) (by kernel_rfl) (fun inv_ hs_ hk_ hc_ hn_ => ?_)
        obtain ⟨m_51, e_52, H⟩ := H
        obtain ⟨z_53, H⟩ := H
        obtain ⟨n_56, hn_59⟩ : ∃ n_ : Nat, n_ = m_51.length := ⟨_, rfl⟩
        refine WL.appendR (i := 3) (N := n_56) (news := x_48) Wanted.none st_46 rfl Try.underlying41 elemS22 rfl rfl (st_46.src_sl (k := 0) rfl) (by have h1_ := (hx_50).length (fz22 w); have h2_ : 1 = ([List.replicate 192 (0 : Int)] : List R22).length := rfl; rw [h1_, h2_]) (HLs.one hx_50) (by decide) (by have h1_ : n_24 = l_18.length := hn_19; have h2_ : 1 = ([List.replicate 192 (0 : Int)] : List R22).length := rfl; rw [hn_59, e_52, List.length_append]; omega) (by rw [hn_59]; exact z_53) ?_
        intro A_54 c_55 w_57 st_58
        obtain ⟨x_60, e_61⟩ : ∃ x_ : Cells, x_ = x_20 ++ x_48 := ⟨_, rfl⟩
        have hx_62 : HRs T_39 (f22 w) x_60 m_51 := by rw [e_61, e_52]; exact HRs.append (hx_21.mono (fun _ h_ => hs_40.1 _ h_)) hx_50
        replace st_58 : St w w_57 (.sl (some ⟨B_44, 0, none⟩) 1 1 x_48 22 1 :: .sl none 0 0 ([] : Cells) 71 2 :: .sl none 0 0 ([] : Cells) 69 2 :: .sl A_54 c_55 n_56 x_60 22 1 :: .cells B_5 (([.slice A_22 n_24 c_23] : List Value) ++ (([.slice none 0 0] : List Value) ++ (([.int .i64 (-1)] : List Value) ++ (([.bool false] : List Value) ++ ([.slice none 0 0] : List Value))))) 66 :: (T_39 ++ R)) := by rw [e_61]; exact st_58
        refine WL.nil ?_
        refine AWH.back (St.subset st_33 st_58 (List.forall_mem_cons.2 ⟨List.mem_of_getElem? (i := 1) rfl, (List.forall_mem_cons.2 ⟨List.mem_of_getElem? (i := 2) rfl, (List.forall_mem_cons.2 ⟨List.mem_of_getElem? (i := 4) rfl, (mem_TR (A := [_, _, _, _, _]) (fun _ h_ => hs_40.1 _ h_))⟩)⟩)⟩)) inv_ hs_ hk_ hc_ hn_ ?_
        refine AWH.tail (by kernel_rfl) ?_
        refine AW.take 8 rfl (by kernel_rfl) (by kernel_rfl) (by kernel_rfl) Wanted.none (fun _ => (Runs.nilCheck rfl)) ?_
        refine AW.take 9 rfl (by kernel_rfl) (by kernel_rfl) (by kernel_rfl) Wanted.none (fun _ => (Runs.fieldAddr (off := 0) (p := 0) fld66_0 rfl rfl rfl)) ?_
        refine AW.step 10 rfl (by kernel_rfl) ?_
        refine WL.store_one (i := 4) (u0 := .slice A_22 n_24 c_23) (pre := (([] : List Value))) (post := (([.slice none 0 0] : List Value) ++ (([.int .i64 (-1)] : List Value) ++ (([.bool false] : List Value) ++ ([.slice none 0 0] : List Value))))) st_58 rfl cells41 (by first | rfl | simp only [List.append_assoc, List.append_nil, List.nil_append, List.cons_append]) (by first | rfl | simp only [List.length_append, List.length_cons, List.length_nil, iv_length]) rfl rfl rfl ?_
        intro w_63 st_64
        replace st_64 : St w w_63 (.sl (some ⟨B_44, 0, none⟩) 1 1 x_48 22 1 :: .sl none 0 0 ([] : Cells) 71 2 :: .sl none 0 0 ([] : Cells) 69 2 :: .sl A_54 c_55 n_56 x_60 22 1 :: .cells B_5 (([.slice A_54 n_56 c_55] : List Value) ++ (([.slice none 0 0] : List Value) ++ (([.int .i64 (-1)] : List Value) ++ (([.bool false] : List Value) ++ ([.slice none 0 0] : List Value))))) 66 :: (T_39 ++ R)) := by have e_ : (([.slice A_54 n_56 c_55] : List Value) ++ (([.slice none 0 0] : List Value) ++ (([.int .i64 (-1)] : List Value) ++ (([.bool false] : List Value) ++ ([.slice none 0 0] : List Value))))) = (([] : List Value)) ++ ((([.slice A_54 n_56 c_55] : List Value)) ++ (([.slice none 0 0] : List Value) ++ (([.int .i64 (-1)] : List Value) ++ (([.bool false] : List Value) ++ ([.slice none 0 0] : List Value))))) := (by first | rfl | simp only [List.append_assoc, List.append_nil, List.nil_append, List.cons_append]); have h_ : St w w_63 (.sl (some ⟨B_44, 0, none⟩) 1 1 x_48 22 1 :: .sl none 0 0 ([] : Cells) 71 2 :: .sl none 0 0 ([] : Cells) 69 2 :: .sl A_54 c_55 n_56 x_60 22 1 :: .cells B_5 ((([] : List Value)) ++ ((([.slice A_54 n_56 c_55] : List Value)) ++ (([.slice none 0 0] : List Value) ++ (([.int .i64 (-1)] : List Value) ++ (([.bool false] : List Value) ++ ([.slice none 0 0] : List Value)))))) 66 :: (T_39 ++ R)) := st_64; rw [← e_] at h_; exact h_
        refine WL.nil ?_
        refine AW.back  ?_
        refine AW.done (by kernel_rfl) ?_
        refine QW.blk_n ?_
        refine QW.then_n ?_
        refine CW.region ?_
        refine WL.val Wanted.none (Runs.add rfl rfl rfl) ?_
        refine WL.val Wanted.none (Runs.move rfl) ?_
        refine WL.nil ?_
        have st_64' := (St.pickT (L := [_, _, _, _, _]) st_64 [1, 2, 3, 4] (by decide))
        exact QW.at [(2, .pointer none), (3, .int .i64 0), (4, .pointer (some ⟨B_5, 0, none⟩)), (13, .int .i64 a0), (14, .int .i64 (IntKind.i64.wrap (x_25 + 1)))] ⟨rfl, rfl, rfl, rfl, rfl, trivial⟩ ⟨T_39, A_54, c_55, n_56, x_60, m_51, IntKind.i64.wrap (x_25 + 1), rfl, H, (hs_17.trans hs_40), hn_59, hx_62, st_64'⟩
      · have h_30 : (decide (x_25 < a0)) = false := (decide_eq_false c_29)
        refine CW.cf rfl h_30 ?_
        refine CW.exit ?_
        refine QW.then_x ?_
        refine QW.then_x ?_
        refine QW.blk_x ?_
        refine QW.then_n ?_
        refine CW.seq ?_
        refine CW.region ?_
        refine WL.val Wanted.none (Runs.move rfl) ?_
        refine WL.val Wanted.none (Runs.assign rfl) ?_
        refine WL.val Wanted.none (Runs.assign rfl) ?_
        refine WL.nil ?_
        refine QW.then_n ?_
        refine CW.ret ?_
        obtain ⟨h_, rfl⟩ := H
        replace h_ := ho_.symm.trans h_
        cases h_
        exact QW.ret2 rfl rfl rfl ⟨T_16, B_5, A_22, n_24, c_23, x_20, none, 0, 0, ([] : Cells), none, 0, 0, ([] : Cells), hs_17, hn_19, hx_21, rfl, ((HRs.nil : HRs T (f69 w) [] []).mono (fun _ h_ => hs_17.1 _ h_)), rfl, ((HRs.nil : HRs T (f71 w) [] []).mono (fun _ h_ => hs_17.1 _ h_)), rfl, (St.pickT (L := [_, _, _, _]) st_27 [3, 2, 1, 0] (by decide))⟩

/-! ### disk_Disk_fits: function 28 -/
def disk_Disk_fits.rel (l0_0 : List R22) (l0_1 : List R69) (a0_2 : Int) (a0_3 : Bool) (l0_4 : List R71) (a1 : Int) (l2 : List Int) (ls0_0 : List R22) (ls0_1 : List R69) (as0_2 : Int) (as0_3 : Bool) (ls0_4 : List R71) (ar0 : Int) : Prop := ((a1 < 0 ∧ ls0_0 = l0_0 ∧ ls0_1 = l0_1 ∧ as0_2 = a0_2 ∧ as0_3 = a0_3 ∧ ls0_4 = l0_4 ∧ ar0 = 12) ∨ (¬ (a1 < 0) ∧ ((a1 ≥ (l0_0.length : Int) ∧ ls0_0 = l0_0 ∧ ls0_1 = l0_1 ∧ as0_2 = a0_2 ∧ as0_3 = a0_3 ∧ ls0_4 = l0_4 ∧ ar0 = 12) ∨ (¬ (a1 ≥ (l0_0.length : Int)) ∧ (((l2.length : Int) ≠ 192 ∧ ls0_0 = l0_0 ∧ ls0_1 = l0_1 ∧ as0_2 = a0_2 ∧ as0_3 = a0_3 ∧ ls0_4 = l0_4 ∧ ar0 = 1) ∨ (¬ ((l2.length : Int) ≠ 192) ∧ ls0_0 = l0_0 ∧ ls0_1 = l0_1 ∧ as0_2 = a0_2 ∧ as0_3 = a0_3 ∧ ls0_4 = l0_4 ∧ ar0 = 0))))))
set_option maxHeartbeats 1000000 in
set_option maxRecDepth 100000 in
theorem disk_Disk_fits.calls (w w1 : World) (T R : Pool) (l0_0 : List R22) (l0_1 : List R69) (a0_2 : Int) (a0_3 : Bool) (l0_4 : List R71) (a1 : Int) (l2 : List Int) (b0 : Nat) (A0_0 : Option Addr) (n0_0 : Nat) (c0_0 : Nat) (x0_0 : Cells) (A0_1 : Option Addr) (n0_1 : Nat) (c0_1 : Nat) (x0_1 : Cells) (A0_4 : Option Addr) (n0_4 : Nat) (c0_4 : Nat) (x0_4 : Cells) (A2 : Option Addr) (n2 : Nat) (c2 : Nat) (st0 : St w w1 (.cells b0 (([.slice A0_0 n0_0 c0_0] : List Value) ++ (([.slice A0_1 n0_1 c0_1] : List Value) ++ (([.int .i64 a0_2] : List Value) ++ (([.bool a0_3] : List Value) ++ ([.slice A0_4 n0_4 c0_4] : List Value))))) 66 :: .sl A0_0 c0_0 n0_0 x0_0 22 1 :: .sl A0_1 c0_1 n0_1 x0_1 69 2 :: .sl A0_4 c0_4 n0_4 x0_4 71 2 :: (T ++ R))) (hn0_0 : n0_0 = l0_0.length) (hx0_0 : HRs T (f22 w) x0_0 l0_0) (hn0_1 : n0_1 = l0_1.length) (hx0_1 : HRs T (f69 w) x0_1 l0_1) (hn0_4 : n0_4 = l0_4.length) (hx0_4 : HRs T (f71 w) x0_4 l0_4) (hb2 : HB w (T ++ R) A2 n2 c2 (iv .u8 l2) l2.length) (ls0_0 : List R22) (ls0_1 : List R69) (as0_2 : Int) (as0_3 : Bool) (ls0_4 : List R71) (ar0 : Int) (H : disk_Disk_fits.rel l0_0 l0_1 a0_2 a0_3 l0_4 a1 l2 ls0_0 ls0_1 as0_2 as0_3 ls0_4 ar0) :
    Calls Try.prog 28 #[.pointer (some ⟨b0, 0, none⟩), .int .i64 a1, .slice A2 n2 c2] w1 fun e w' => ∃ T' As0_0 ns0_0 cs0_0 xs0_0 As0_1 ns0_1 cs0_1 xs0_1 As0_4 ns0_4 cs0_4 xs0_4, Pl T T' ∧ ns0_0 = ls0_0.length ∧ HRs T' (f22 w) xs0_0 ls0_0 ∧ ns0_1 = ls0_1.length ∧ HRs T' (f69 w) xs0_1 ls0_1 ∧ ns0_4 = ls0_4.length ∧ HRs T' (f71 w) xs0_4 ls0_4 ∧ e = .returned (.int .i64 ar0) ∧ St w w' (.cells b0 (([.slice As0_0 ns0_0 cs0_0] : List Value) ++ (([.slice As0_1 ns0_1 cs0_1] : List Value) ++ (([.int .i64 as0_2] : List Value) ++ (([.bool as0_3] : List Value) ++ ([.slice As0_4 ns0_4 cs0_4] : List Value))))) 66 :: .sl As0_0 cs0_0 ns0_0 xs0_0 22 1 :: .sl As0_1 cs0_1 ns0_1 xs0_1 69 2 :: .sl As0_4 cs0_4 ns0_4 xs0_4 71 2 :: (T' ++ R)) := by
  refine CW.enter Try.func28 rfl (n := 23) rfl [.pointer (some ⟨b0, 0, none⟩), .int .i64 a1, .slice A2 n2 c2] (Nat.le_of_ble_eq_true rfl) ?_
  refine CW.sub [(0, .pointer (some ⟨b0, 0, none⟩)), (1, .int .i64 a1), (2, .slice A2 n2 c2)] ⟨rfl, rfl, rfl, trivial⟩ ?_
  refine CW.seq ?_
  refine CW.region ?_
  refine WL.val Wanted.none (Runs.assign rfl) ?_
  refine WL.nil ?_
  refine QW.then_n ?_
  refine CW.seq ?_
  refine CW.block ?_
  refine CW.seq ?_
  refine CW.region ?_
  refine WL.val Wanted.none (Runs.move rfl) ?_
  refine WL.val Wanted.none (Runs.lss rfl rfl rfl) ?_
  refine WL.val Wanted.none (Runs.move rfl) ?_
  rcases H with ⟨c_1, H⟩ | ⟨c_1, H⟩
  · have h_2 : (decide (a1 < 0)) = true := (decide_eq_true c_1)
    refine WL.off ?_ ?_; exact Wanted.guard (dj := 10) (by rfl) (evb (by rfl) h_2) (by rfl)
    refine WL.off ?_ ?_; exact Wanted.guard (dj := 10) (by rfl) (evb (by rfl) h_2) (by rfl)
    refine WL.off ?_ ?_; exact Wanted.guard (dj := 10) (by rfl) (evb (by rfl) h_2) (by rfl)
    refine WL.off ?_ ?_; exact Wanted.guard (dj := 10) (by rfl) (evb (by rfl) h_2) (by rfl)
    refine WL.off ?_ ?_; exact Wanted.guard (dj := 10) (by rfl) (evb (by rfl) h_2) (by rfl)
    refine WL.off ?_ ?_; exact Wanted.guard (dj := 10) (by rfl) (evb (by rfl) h_2) (by rfl)
    refine WL.off ?_ ?_; exact Wanted.guard (dj := 10) (by rfl) (evb (by rfl) h_2) (by rfl)
    refine WL.val Wanted.none (Runs.pick_t (evb rfl h_2) rfl) ?_
    refine WL.val Wanted.none (Runs.assign rfl) ?_
    refine WL.nil ?_
    refine QW.then_n ?_
    refine CW.sub [(2, .slice A2 n2 c2), (6, .int .i64 0), (7, .bool true)] ⟨rfl, rfl, rfl, trivial⟩ ?_
    refine CW.ct rfl rfl ?_
    refine CW.seq ?_
    refine CW.region ?_
    refine WL.val Wanted.none (Runs.assign rfl) ?_
    refine WL.nil ?_
    refine QW.then_n ?_
    refine CW.ret ?_
    refine QW.blk_r ?_
    refine QW.then_r ?_
    obtain ⟨rfl, rfl, rfl, rfl, rfl, rfl⟩ := H
    exact QW.ret1 rfl rfl ⟨T, A0_0, n0_0, c0_0, x0_0, A0_1, n0_1, c0_1, x0_1, A0_4, n0_4, c0_4, x0_4, Pl.refl, hn0_0, hx0_0, hn0_1, hx0_1, hn0_4, hx0_4, rfl, (St.pickT (L := [_, _, _, _]) st0 [0, 1, 2, 3] (by decide))⟩
  · have h_2 : (decide (a1 < 0)) = false := (decide_eq_false c_1)
    refine WL.on ?_ ?_; exact Wanted.guard (dj := 10) (by rfl) (evb (by rfl) h_2) (by rfl)
    refine WL.val Wanted.none (Runs.move rfl) ?_
    refine WL.on ?_ ?_; exact Wanted.guard (dj := 10) (by rfl) (evb (by rfl) h_2) (by rfl)
    refine WL.val Wanted.none (Runs.move rfl) ?_
    refine WL.on ?_ ?_; exact Wanted.guard (dj := 10) (by rfl) (evb (by rfl) h_2) (by rfl)
    refine WL.val Wanted.none (Runs.nilCheck rfl) ?_
    refine WL.on ?_ ?_; exact Wanted.guard (dj := 10) (by rfl) (evb (by rfl) h_2) (by rfl)
    refine WL.val Wanted.none (Runs.fieldAddr (off := 0) (p := 0) fld66_0 rfl rfl rfl) ?_
    refine WL.on ?_ ?_; exact Wanted.guard (dj := 10) (by rfl) (evb (by rfl) h_2) (by rfl)
    refine WL.val Wanted.none (Runs.load nagg41 rfl (st0.cell (k := 0) rfl (part_one (u := .slice A0_0 n0_0 c0_0) (pre := (([] : List Value))) (post := (([.slice A0_1 n0_1 c0_1] : List Value) ++ (([.int .i64 a0_2] : List Value) ++ (([.bool a0_3] : List Value) ++ ([.slice A0_4 n0_4 c0_4] : List Value))))) (by first | rfl | simp only [List.append_assoc, List.append_nil, List.nil_append, List.cons_append]) (by first | rfl | simp only [List.length_append, List.length_cons, List.length_nil, iv_length])))) ?_
    refine WL.on ?_ ?_; exact Wanted.guard (dj := 10) (by rfl) (evb (by rfl) h_2) (by rfl)
    refine WL.val Wanted.none (Runs.len_sl Try.underlying41 rfl (by rw [hn0_0])) ?_
    refine WL.on ?_ ?_; exact Wanted.guard (dj := 10) (by rfl) (evb (by rfl) h_2) (by rfl)
    refine WL.val Wanted.none (Runs.geq rfl rfl rfl) ?_
    refine WL.val Wanted.none (Runs.pick_f (evb rfl h_2) rfl) ?_
    refine WL.val Wanted.none (Runs.assign rfl) ?_
    refine WL.nil ?_
    refine QW.then_n ?_
    refine CW.sub [(2, .slice A2 n2 c2), (6, .int .i64 0), (7, .bool (decide (a1 ≥ (l0_0.length : Int))))] ⟨rfl, rfl, rfl, trivial⟩ ?_
    rcases H with ⟨c_3, H⟩ | ⟨c_3, H⟩
    · have h_4 : (decide (a1 ≥ (l0_0.length : Int))) = true := (decide_eq_true c_3)
      refine CW.ct rfl h_4 ?_
      refine CW.seq ?_
      refine CW.region ?_
      refine WL.val Wanted.none (Runs.assign rfl) ?_
      refine WL.nil ?_
      refine QW.then_n ?_
      refine CW.ret ?_
      refine QW.blk_r ?_
      refine QW.then_r ?_
      obtain ⟨rfl, rfl, rfl, rfl, rfl, rfl⟩ := H
      exact QW.ret1 rfl rfl ⟨T, A0_0, n0_0, c0_0, x0_0, A0_1, n0_1, c0_1, x0_1, A0_4, n0_4, c0_4, x0_4, Pl.refl, hn0_0, hx0_0, hn0_1, hx0_1, hn0_4, hx0_4, rfl, (St.pickT (L := [_, _, _, _]) st0 [0, 1, 2, 3] (by decide))⟩
    · have h_4 : (decide (a1 ≥ (l0_0.length : Int))) = false := (decide_eq_false c_3)
      refine CW.cf rfl h_4 ?_
      refine CW.seq ?_
      refine CW.region ?_
      refine WL.val Wanted.none (Runs.move rfl) ?_
      refine WL.val Wanted.none (Runs.len_sl Try.underlying22 rfl (by rw [hb2.1])) ?_
      refine WL.val Wanted.none (Runs.neq rfl rfl rfl) ?_
      refine WL.val Wanted.none (Runs.assign rfl) ?_
      refine WL.nil ?_
      refine QW.then_n ?_
      rcases H with ⟨c_5, H⟩ | ⟨c_5, H⟩
      · have h_6 : ((l2.length : Int) != 192) = true := (bne_iff_ne.mpr c_5)
        refine CW.ct rfl h_6 ?_
        refine CW.seq ?_
        refine CW.region ?_
        refine WL.val Wanted.none (Runs.assign rfl) ?_
        refine WL.nil ?_
        refine QW.then_n ?_
        refine CW.sub [(6, .int .i64 1)] ⟨rfl, trivial⟩ ?_
        refine CW.ret ?_
        refine QW.blk_r ?_
        refine QW.then_r ?_
        obtain ⟨rfl, rfl, rfl, rfl, rfl, rfl⟩ := H
        exact QW.ret1 rfl rfl ⟨T, A0_0, n0_0, c0_0, x0_0, A0_1, n0_1, c0_1, x0_1, A0_4, n0_4, c0_4, x0_4, Pl.refl, hn0_0, hx0_0, hn0_1, hx0_1, hn0_4, hx0_4, rfl, (St.pickT (L := [_, _, _, _]) st0 [0, 1, 2, 3] (by decide))⟩
      · have h_6 : ((l2.length : Int) != 192) = false := (bne_eq_false_iff_eq.mpr (Decidable.not_not.mp c_5))
        refine CW.cf rfl h_6 ?_
        refine CW.skip ?_
        refine QW.blk_n ?_
        refine QW.then_n ?_
        refine CW.sub [(6, .int .i64 0)] ⟨rfl, trivial⟩ ?_
        refine CW.seq ?_
        refine CW.region ?_
        refine WL.val Wanted.none (Runs.assign rfl) ?_
        refine WL.nil ?_
        refine QW.then_n ?_
        refine CW.ret ?_
        obtain ⟨rfl, rfl, rfl, rfl, rfl, rfl⟩ := H
        exact QW.ret1 rfl rfl ⟨T, A0_0, n0_0, c0_0, x0_0, A0_1, n0_1, c0_1, x0_1, A0_4, n0_4, c0_4, x0_4, Pl.refl, hn0_0, hx0_0, hn0_1, hx0_1, hn0_4, hx0_4, rfl, (St.pickT (L := [_, _, _, _]) st0 [0, 1, 2, 3] (by decide))⟩

/-! ### slices_Clone_s_byte_byte: function 29 -/
def slices_Clone_s_byte_byte.rel (l0 : List Int) (r0 : List Int) : Prop := (l0 = [] → r0 = []) ∧ (∃ m_7 : List Int, m_7 = ([] : List Int) ++ l0 ∧ (m_7.length ≤ 1099511627776 ∧ r0 = m_7))
set_option maxHeartbeats 4000000 in
set_option maxRecDepth 100000 in
theorem slices_Clone_s_byte_byte.calls (w : World) (l0 : List Int) (A0 : Option Addr) (n0 : Nat) (c0 : Nat)  (hs0 : Src w A0 (iv .u8 l0)) (hn0 : n0 = l0.length) (hc0 : n0 ≤ c0) (r0 : List Int) (H : slices_Clone_s_byte_byte.rel l0 r0) :
    Calls Try.prog 29 #[.slice A0 n0 c0] w fun e w' => ∃ B0 q0 z0, z0 = r0.length ∧ e = .returned (.slice B0 z0 q0) ∧ St w w' [.sl B0 q0 z0 (iv .u8 r0) 5 1] := by
  rcases A0 with _ | A_
  · replace H := H.1 (nil_of_src hs0)
    refine CW.enter Try.func29 rfl (n := 8) rfl [.slice none n0 c0] (Nat.le_of_ble_eq_true rfl) ?_
    refine CW.sub [(0, .slice none n0 c0)] ⟨rfl, trivial⟩ ?_
    have st0 : St w w [] := St.refl w
    refine CW.seq ?_
    refine CW.region ?_
    refine WL.val Wanted.none (Runs.assign rfl) ?_
    refine WL.nil ?_
    refine QW.then_n ?_
    refine CW.seq ?_
    refine CW.seq ?_
    refine CW.region ?_
    refine WL.val Wanted.none (Runs.move rfl) ?_
    refine WL.val Wanted.none (Runs.eql_nil Try.underlying22 rfl rfl rfl) ?_
    refine WL.nil ?_
    refine QW.then_n ?_
    refine CW.ct rfl rfl ?_
    refine CW.seq ?_
    refine CW.region ?_
    refine WL.val Wanted.none (Runs.assign rfl) ?_
    refine WL.nil ?_
    refine QW.then_n ?_
    refine CW.ret ?_
    refine QW.then_r ?_
    have st_2 := st0.nil_sl 5 1
    have st_2 : St w w [.sl none 0 0 (iv .u8 ([] : List Int)) 5 1] := st_2
    obtain rfl := H
    exact QW.ret1 rfl rfl ⟨none, 0, 0, rfl, rfl, st_2.pick [0] (by decide)⟩
  · replace H := H.2
    refine CW.enter Try.func29 rfl (n := 8) rfl [.slice (some A_) n0 c0] (Nat.le_of_ble_eq_true rfl) ?_
    refine CW.sub [(0, .slice (some A_) n0 c0)] ⟨rfl, trivial⟩ ?_
    have st0 : St w w [] := St.refl w
    refine CW.seq ?_
    refine CW.region ?_
    refine WL.val Wanted.none (Runs.assign rfl) ?_
    refine WL.nil ?_
    refine QW.then_n ?_
    refine CW.seq ?_
    refine CW.seq ?_
    refine CW.region ?_
    refine WL.val Wanted.none (Runs.move rfl) ?_
    refine WL.val Wanted.none (Runs.eql_nil Try.underlying22 rfl rfl rfl) ?_
    refine WL.nil ?_
    refine QW.then_n ?_
    refine CW.cf rfl rfl ?_
    refine CW.skip ?_
    refine QW.then_n ?_
    refine CW.seq ?_
    refine CW.region ?_
    refine WL.buildSl0 st0 Try.underlying22 elem5 ?_
    intro B_3 w_4 st_5
    replace st_5 : St w w_4 [.sl (some ⟨B_3, 0, none⟩) 0 0 (iv .u8 ([] : List Int)) 5 1] := st_5
    refine WL.val Wanted.none (Runs.move rfl) ?_
    obtain ⟨m_7, e_8, H⟩ := H
    obtain ⟨z_9, H⟩ := H
    obtain ⟨n_12, hn_15⟩ : ∃ n_ : Nat, n_ = m_7.length := ⟨_, rfl⟩
    refine WL.append (i := 0) Wanted.none st_5 rfl Try.underlying22 elem5 rfl rfl (hs0.ext st_5) (by rw [iv_length]; exact (hn0).symm) (one_iv .u8 _) (by decide) (N := n_12) (by rw [hn_15, e_8, List.length_append]; exact congr (congrArg HAdd.hAdd (rfl)) (hn0)) (by rw [hn_15]; exact z_9) ?_
    intro A_10 c_11 w_13 st_14
    have st_14' : St w w_13 [.sl A_10 c_11 n_12 (iv .u8 m_7) 5 1] := by rw [e_8, ← iv_append .u8 ([] : List Int) l0]; exact st_14
    refine WL.val Wanted.none (Runs.assign rfl) ?_
    refine WL.nil ?_
    refine QW.then_n ?_
    refine CW.sub [(2, .slice A_10 n_12 c_11)] ⟨rfl, trivial⟩ ?_
    refine CW.ret ?_
    obtain rfl := H
    exact QW.ret1 rfl rfl ⟨A_10, c_11, n_12, hn_15, rfl, st_14'.pick [0] (by decide)⟩

/-! ### disk_Disk_Write: function 11 -/
def disk_Disk_Write.rel (l0_0 : List R22) (l0_1 : List R69) (a0_2 : Int) (a0_3 : Bool) (l0_4 : List R71) (a1 : Int) (l2 : List Int) (ls0_0 : List R22) (ls0_1 : List R69) (as0_2 : Int) (as0_3 : Bool) (ls0_4 : List R71) (ar0 : Int) : Prop := ((a0_3 = true ∧ ls0_0 = l0_0 ∧ ls0_1 = l0_1 ∧ as0_2 = a0_2 ∧ as0_3 = a0_3 ∧ ls0_4 = l0_4 ∧ ar0 = 13) ∨ (¬ (a0_3 = true) ∧ (∃ (l_10_0 : List R22) (l_10_1 : List R69) (a_14_2 : Int) (a_14_3 : Bool) (l_10_4 : List R71) (a_16 : Int), disk_Disk_fits.rel l0_0 l0_1 a0_2 a0_3 l0_4 a1 l2 l_10_0 l_10_1 a_14_2 a_14_3 l_10_4 a_16 ∧ ((a_16 ≠ 0 ∧ ls0_0 = l_10_0 ∧ ls0_1 = l_10_1 ∧ as0_2 = a_14_2 ∧ as0_3 = a_14_3 ∧ ls0_4 = l_10_4 ∧ ar0 = a_16) ∨ (¬ (a_16 ≠ 0) ∧ ((a_14_2 = 0 ∧ ls0_0 = l_10_0 ∧ ls0_1 = l_10_1 ∧ as0_2 = a_14_2 ∧ as0_3 = true ∧ ls0_4 = l_10_4 ∧ ar0 = 13) ∨ (¬ (a_14_2 = 0) ∧ ((a_14_2 > 0 ∧ (∃ (r_37 : List Int), slices_Clone_s_byte_byte.rel l2 r_37 ∧ (∃ m_62 : List R69, m_62 = l_10_1 ++ ([(a1, r_37)] : List R69) ∧ (m_62.length ≤ 1099511627776 ∧ (∃ m_90 : List R71, m_90 = l_10_4 ++ ([(2, a1)] : List R71) ∧ (m_90.length ≤ 1099511627776 ∧ ls0_0 = l_10_0 ∧ ls0_1 = m_62 ∧ as0_2 = IntKind.i64.wrap (a_14_2 - 1) ∧ as0_3 = a_14_3 ∧ ls0_4 = m_90 ∧ ar0 = 0)))))) ∨ (¬ (a_14_2 > 0) ∧ (∃ (r_111 : List Int), slices_Clone_s_byte_byte.rel l2 r_111 ∧ (∃ m_136 : List R69, m_136 = l_10_1 ++ ([(a1, r_111)] : List R69) ∧ (m_136.length ≤ 1099511627776 ∧ (∃ m_164 : List R71, m_164 = l_10_4 ++ ([(2, a1)] : List R71) ∧ (m_164.length ≤ 1099511627776 ∧ ls0_0 = l_10_0 ∧ ls0_1 = m_136 ∧ as0_2 = a_14_2 ∧ as0_3 = a_14_3 ∧ ls0_4 = m_164 ∧ ar0 = 0))))))))))))))
set_option maxHeartbeats 1000000 in
set_option maxRecDepth 100000 in
theorem disk_Disk_Write.calls (w w1 : World) (T R : Pool) (l0_0 : List R22) (l0_1 : List R69) (a0_2 : Int) (a0_3 : Bool) (l0_4 : List R71) (a1 : Int) (l2 : List Int) (b0 : Nat) (A0_0 : Option Addr) (n0_0 : Nat) (c0_0 : Nat) (x0_0 : Cells) (A0_1 : Option Addr) (n0_1 : Nat) (c0_1 : Nat) (x0_1 : Cells) (A0_4 : Option Addr) (n0_4 : Nat) (c0_4 : Nat) (x0_4 : Cells) (A2 : Option Addr) (n2 : Nat) (c2 : Nat) (st0 : St w w1 (.cells b0 (([.slice A0_0 n0_0 c0_0] : List Value) ++ (([.slice A0_1 n0_1 c0_1] : List Value) ++ (([.int .i64 a0_2] : List Value) ++ (([.bool a0_3] : List Value) ++ ([.slice A0_4 n0_4 c0_4] : List Value))))) 66 :: .sl A0_0 c0_0 n0_0 x0_0 22 1 :: .sl A0_1 c0_1 n0_1 x0_1 69 2 :: .sl A0_4 c0_4 n0_4 x0_4 71 2 :: (T ++ R))) (hn0_0 : n0_0 = l0_0.length) (hx0_0 : HRs T (f22 w) x0_0 l0_0) (hn0_1 : n0_1 = l0_1.length) (hx0_1 : HRs T (f69 w) x0_1 l0_1) (hn0_4 : n0_4 = l0_4.length) (hx0_4 : HRs T (f71 w) x0_4 l0_4) (hb2 : HB w (T ++ R) A2 n2 c2 (iv .u8 l2) l2.length) (ls0_0 : List R22) (ls0_1 : List R69) (as0_2 : Int) (as0_3 : Bool) (ls0_4 : List R71) (ar0 : Int) (H : disk_Disk_Write.rel l0_0 l0_1 a0_2 a0_3 l0_4 a1 l2 ls0_0 ls0_1 as0_2 as0_3 ls0_4 ar0) :
    Calls Try.prog 11 #[.pointer (some ⟨b0, 0, none⟩), .int .i64 a1, .slice A2 n2 c2] w1 fun e w' => ∃ T' As0_0 ns0_0 cs0_0 xs0_0 As0_1 ns0_1 cs0_1 xs0_1 As0_4 ns0_4 cs0_4 xs0_4, Pl T T' ∧ ns0_0 = ls0_0.length ∧ HRs T' (f22 w) xs0_0 ls0_0 ∧ ns0_1 = ls0_1.length ∧ HRs T' (f69 w) xs0_1 ls0_1 ∧ ns0_4 = ls0_4.length ∧ HRs T' (f71 w) xs0_4 ls0_4 ∧ e = .returned (.int .i64 ar0) ∧ St w w' (.cells b0 (([.slice As0_0 ns0_0 cs0_0] : List Value) ++ (([.slice As0_1 ns0_1 cs0_1] : List Value) ++ (([.int .i64 as0_2] : List Value) ++ (([.bool as0_3] : List Value) ++ ([.slice As0_4 ns0_4 cs0_4] : List Value))))) 66 :: .sl As0_0 cs0_0 ns0_0 xs0_0 22 1 :: .sl As0_1 cs0_1 ns0_1 xs0_1 69 2 :: .sl As0_4 cs0_4 ns0_4 xs0_4 71 2 :: (T' ++ R)) := by
  refine CW.enter Try.func11 rfl (n := 67) rfl [.pointer (some ⟨b0, 0, none⟩), .int .i64 a1, .slice A2 n2 c2] (Nat.le_of_ble_eq_true rfl) ?_
  refine CW.sub [(0, .pointer (some ⟨b0, 0, none⟩)), (1, .int .i64 a1), (2, .slice A2 n2 c2)] ⟨rfl, rfl, rfl, trivial⟩ ?_
  refine CW.seq ?_
  refine CW.region ?_
  refine WL.val Wanted.none (Runs.assign rfl) ?_
  refine WL.nil ?_
  refine QW.then_n ?_
  refine CW.seq ?_
  refine CW.block ?_
  refine CW.seq ?_
  refine CW.region ?_
  refine WL.val Wanted.none (Runs.move rfl) ?_
  refine WL.val Wanted.none (Runs.eql_ptr Try.underlying25 rfl rfl rfl) ?_
  refine WL.val Wanted.none (Runs.assign rfl) ?_
  refine WL.nil ?_
  refine QW.then_n ?_
  refine CW.cf rfl rfl ?_
  refine CW.seq ?_
  refine CW.region ?_
  refine WL.val Wanted.none (Runs.move rfl) ?_
  refine WL.val Wanted.none (Runs.nilCheck rfl) ?_
  refine WL.val Wanted.none (Runs.fieldAddr (off := 3) (p := 3) fld66_3 rfl rfl rfl) ?_
  refine WL.val Wanted.none (Runs.load nagg4 rfl (st0.cell (k := 0) rfl (part_one (u := .bool a0_3) (pre := (([.slice A0_0 n0_0 c0_0] : List Value) ++ (([.slice A0_1 n0_1 c0_1] : List Value) ++ ([.int .i64 a0_2] : List Value)))) (post := (([.slice A0_4 n0_4 c0_4] : List Value))) (by first | rfl | simp only [List.append_assoc, List.append_nil, List.nil_append, List.cons_append]) (by first | rfl | simp only [List.length_append, List.length_cons, List.length_nil, iv_length])))) ?_
  refine WL.val Wanted.none (Runs.assign rfl) ?_
  refine WL.nil ?_
  refine QW.then_n ?_
  refine CW.sub [(0, .pointer (some ⟨b0, 0, none⟩)), (1, .int .i64 a1), (2, .slice A2 n2 c2), (6, .int .i64 0), (11, .bool a0_3)] ⟨rfl, rfl, rfl, rfl, rfl, trivial⟩ ?_
  rcases H with ⟨c_1, H⟩ | ⟨c_1, H⟩
  · have h_2 : a0_3 = true := c_1
    refine CW.ct rfl h_2 ?_
    refine CW.seq ?_
    refine CW.region ?_
    refine WL.val Wanted.none (Runs.assign rfl) ?_
    refine WL.nil ?_
    refine QW.then_n ?_
    refine CW.ret ?_
    refine QW.blk_r ?_
    refine QW.then_r ?_
    obtain ⟨rfl, rfl, rfl, rfl, rfl, rfl⟩ := H
    exact QW.ret1 rfl rfl ⟨T, A0_0, n0_0, c0_0, x0_0, A0_1, n0_1, c0_1, x0_1, A0_4, n0_4, c0_4, x0_4, Pl.refl, hn0_0, hx0_0, hn0_1, hx0_1, hn0_4, hx0_4, rfl, (St.pickT (L := [_, _, _, _]) st0 [0, 1, 2, 3] (by decide))⟩
  · have h_2 : a0_3 = false := (Bool.eq_false_iff.mpr c_1)
    refine CW.cf rfl h_2 ?_
    refine CW.skip ?_
    refine QW.blk_n ?_
    refine QW.then_n ?_
    refine CW.seq ?_
    refine CW.seq ?_
    refine CW.region ?_
    refine WL.val Wanted.none (Runs.move rfl) ?_
    refine WL.val Wanted.none (Runs.move rfl) ?_
    refine WL.val Wanted.none (Runs.move rfl) ?_
    have st_3 : St w w1 (.cells b0 (([.slice A0_0 n0_0 c0_0] : List Value) ++ (([.slice A0_1 n0_1 c0_1] : List Value) ++ (([.int .i64 a0_2] : List Value) ++ (([.bool a0_3] : List Value) ++ ([.slice A0_4 n0_4 c0_4] : List Value))))) 66 :: .sl A0_0 c0_0 n0_0 x0_0 22 1 :: .sl A0_1 c0_1 n0_1 x0_1 69 2 :: .sl A0_4 c0_4 n0_4 x0_4 71 2 :: (T ++ (R))) := St.hide (A := [_, _, _, _]) (B := []) (T := T) (R := R) st0
    obtain ⟨l_10_0, l_10_1, a_14_2, a_14_3, l_10_4, a_16, hr_4, H⟩ := H
    refine WL.call Wanted.none ent28 rfl (disk_Disk_fits.calls w w1 T (R) l0_0 l0_1 a0_2 a0_3 l0_4 a1 l2 b0 A0_0 n0_0 c0_0 x0_0 A0_1 n0_1 c0_1 x0_1 A0_4 n0_4 c0_4 x0_4 A2 n2 c2  st_3 (hn0_0) hx0_0 (hn0_1) hx0_1 (hn0_4) hx0_4 (hb2.mono (memo_TR (B := []) (fun _ h_ => h_))) l_10_0 l_10_1 a_14_2 a_14_3 l_10_4 a_16 hr_4) ?_
    rintro _ w_17 ⟨T_5, A_7_0, n_8_0, c_9_0, x_11_0, A_7_1, n_8_1, c_9_1, x_11_1, A_7_4, n_8_4, c_9_4, x_11_4, hs_6, hn_12_0, hx_13_0, hn_12_1, hx_13_1, hn_12_4, hx_13_4, rfl, sc_19⟩
    have st_18 : St w w_17 (.cells b0 (([.slice A_7_0 n_8_0 c_9_0] : List Value) ++ (([.slice A_7_1 n_8_1 c_9_1] : List Value) ++ (([.int .i64 a_14_2] : List Value) ++ (([.bool a_14_3] : List Value) ++ ([.slice A_7_4 n_8_4 c_9_4] : List Value))))) 66 :: .sl A_7_0 c_9_0 n_8_0 x_11_0 22 1 :: .sl A_7_1 c_9_1 n_8_1 x_11_1 69 2 :: .sl A_7_4 c_9_4 n_8_4 x_11_4 71 2 :: (T_5 ++ R)) := St.unhide (A := [_, _, _, _]) (B := []) (T := T_5) (R := R) sc_19
    refine ⟨_, rfl, ?_⟩
    refine WL.val Wanted.none (Runs.assign rfl) ?_
    refine WL.nil ?_
    refine QW.then_n ?_
    refine CW.seq ?_
    refine CW.region ?_
    refine WL.val Wanted.none (Runs.move rfl) ?_
    refine WL.val Wanted.none (Runs.neq rfl rfl rfl) ?_
    refine WL.nil ?_
    refine QW.then_n ?_
    refine CW.sub [(0, .pointer (some ⟨b0, 0, none⟩)), (1, .int .i64 a1), (2, .slice A2 n2 c2), (6, .int .i64 0), (7, .int .i64 a_16), (21, .bool (a_16 != 0))] ⟨rfl, rfl, rfl, rfl, rfl, rfl, trivial⟩ ?_
    rcases H with ⟨c_20, H⟩ | ⟨c_20, H⟩
    · have h_21 : (a_16 != 0) = true := (bne_iff_ne.mpr c_20)
      refine CW.ct rfl h_21 ?_
      refine CW.seq ?_
      refine CW.region ?_
      refine WL.val Wanted.none (Runs.move rfl) ?_
      refine WL.val Wanted.none (Runs.assign rfl) ?_
      refine WL.nil ?_
      refine QW.then_n ?_
      refine CW.ret ?_
      refine QW.then_r ?_
      obtain ⟨rfl, rfl, rfl, rfl, rfl, rfl⟩ := H
      exact QW.ret1 rfl rfl ⟨T_5, A_7_0, n_8_0, c_9_0, x_11_0, A_7_1, n_8_1, c_9_1, x_11_1, A_7_4, n_8_4, c_9_4, x_11_4, hs_6, hn_12_0, hx_13_0, hn_12_1, hx_13_1, hn_12_4, hx_13_4, rfl, (St.pickT (L := [_, _, _, _]) st_18 [0, 1, 2, 3] (by decide))⟩
    · have h_21 : (a_16 != 0) = false := (bne_eq_false_iff_eq.mpr (Decidable.not_not.mp c_20))
      refine CW.cf rfl h_21 ?_
      refine CW.skip ?_
      refine QW.then_n ?_
      refine CW.seq ?_
      refine CW.seq ?_
      refine CW.region ?_
      refine WL.val Wanted.none (Runs.move rfl) ?_
      refine WL.val Wanted.none (Runs.nilCheck rfl) ?_
      refine WL.val Wanted.none (Runs.fieldAddr (off := 2) (p := 2) fld66_2 rfl rfl rfl) ?_
      refine WL.val Wanted.none (Runs.load nagg3 rfl (st_18.cell (k := 0) rfl (part_one (u := .int .i64 a_14_2) (pre := (([.slice A_7_0 n_8_0 c_9_0] : List Value) ++ ([.slice A_7_1 n_8_1 c_9_1] : List Value))) (post := (([.bool a_14_3] : List Value) ++ ([.slice A_7_4 n_8_4 c_9_4] : List Value))) (by first | rfl | simp only [List.append_assoc, List.append_nil, List.nil_append, List.cons_append]) (by first | rfl | simp only [List.length_append, List.length_cons, List.length_nil, iv_length])))) ?_
      refine WL.val Wanted.none (Runs.eql rfl rfl rfl) ?_
      refine WL.nil ?_
      refine QW.then_n ?_
      refine CW.sub [(0, .pointer (some ⟨b0, 0, none⟩)), (1, .int .i64 a1), (2, .slice A2 n2 c2), (6, .int .i64 0), (27, .bool (a_14_2 == 0))] ⟨rfl, rfl, rfl, rfl, rfl, trivial⟩ ?_
      rcases H with ⟨c_22, H⟩ | ⟨c_22, H⟩
      · have h_23 : (a_14_2 == 0) = true := (beq_iff_eq.mpr c_22)
        refine CW.ct rfl h_23 ?_
        refine CW.seq ?_
        refine CW.region ?_
        refine WL.val Wanted.none (Runs.move rfl) ?_
        refine WL.val Wanted.none (Runs.nilCheck rfl) ?_
        refine WL.val Wanted.none (Runs.fieldAddr (off := 3) (p := 3) fld66_3 rfl rfl rfl) ?_
        refine WL.store_one (i := 0) (u0 := .bool a_14_3) (pre := (([.slice A_7_0 n_8_0 c_9_0] : List Value) ++ (([.slice A_7_1 n_8_1 c_9_1] : List Value) ++ ([.int .i64 a_14_2] : List Value)))) (post := (([.slice A_7_4 n_8_4 c_9_4] : List Value))) st_18 rfl cells4 (by first | rfl | simp only [List.append_assoc, List.append_nil, List.nil_append, List.cons_append]) (by first | rfl | simp only [List.length_append, List.length_cons, List.length_nil, iv_length]) rfl rfl rfl ?_
        intro w_24 st_25
        replace st_25 : St w w_24 (.cells b0 (([.slice A_7_0 n_8_0 c_9_0] : List Value) ++ (([.slice A_7_1 n_8_1 c_9_1] : List Value) ++ (([.int .i64 a_14_2] : List Value) ++ (([.bool true] : List Value) ++ ([.slice A_7_4 n_8_4 c_9_4] : List Value))))) 66 :: .sl A_7_0 c_9_0 n_8_0 x_11_0 22 1 :: .sl A_7_1 c_9_1 n_8_1 x_11_1 69 2 :: .sl A_7_4 c_9_4 n_8_4 x_11_4 71 2 :: (T_5 ++ R)) := by have e_ : (([.slice A_7_0 n_8_0 c_9_0] : List Value) ++ (([.slice A_7_1 n_8_1 c_9_1] : List Value) ++ (([.int .i64 a_14_2] : List Value) ++ (([.bool true] : List Value) ++ ([.slice A_7_4 n_8_4 c_9_4] : List Value))))) = (([.slice A_7_0 n_8_0 c_9_0] : List Value) ++ (([.slice A_7_1 n_8_1 c_9_1] : List Value) ++ ([.int .i64 a_14_2] : List Value))) ++ ((([.bool true] : List Value)) ++ (([.slice A_7_4 n_8_4 c_9_4] : List Value))) := (by first | rfl | simp only [List.append_assoc, List.append_nil, List.nil_append, List.cons_append]); have h_ : St w w_24 (.cells b0 ((([.slice A_7_0 n_8_0 c_9_0] : List Value) ++ (([.slice A_7_1 n_8_1 c_9_1] : List Value) ++ ([.int .i64 a_14_2] : List Value))) ++ ((([.bool true] : List Value)) ++ (([.slice A_7_4 n_8_4 c_9_4] : List Value)))) 66 :: .sl A_7_0 c_9_0 n_8_0 x_11_0 22 1 :: .sl A_7_1 c_9_1 n_8_1 x_11_1 69 2 :: .sl A_7_4 c_9_4 n_8_4 x_11_4 71 2 :: (T_5 ++ R)) := st_25; rw [← e_] at h_; exact h_
        refine WL.nil ?_
        refine QW.then_n ?_
        refine CW.seq ?_
        refine CW.region ?_
        refine WL.val Wanted.none (Runs.assign rfl) ?_
        refine WL.nil ?_
        refine QW.then_n ?_
        refine CW.ret ?_
        refine QW.then_r ?_
        obtain ⟨rfl, rfl, rfl, rfl, rfl, rfl⟩ := H
        exact QW.ret1 rfl rfl ⟨T_5, A_7_0, n_8_0, c_9_0, x_11_0, A_7_1, n_8_1, c_9_1, x_11_1, A_7_4, n_8_4, c_9_4, x_11_4, hs_6, hn_12_0, hx_13_0, hn_12_1, hx_13_1, hn_12_4, hx_13_4, rfl, (St.pickT (L := [_, _, _, _]) st_25 [0, 1, 2, 3] (by decide))⟩
      · have h_23 : (a_14_2 == 0) = false := (beq_eq_false_iff_ne.mpr c_22)
        refine CW.cf rfl h_23 ?_
        refine CW.skip ?_
        refine QW.then_n ?_
        refine CW.seq ?_
        refine CW.seq ?_
        refine CW.region ?_
        refine WL.val Wanted.none (Runs.move rfl) ?_
        refine WL.val Wanted.none (Runs.nilCheck rfl) ?_
        refine WL.val Wanted.none (Runs.fieldAddr (off := 2) (p := 2) fld66_2 rfl rfl rfl) ?_
        refine WL.val Wanted.none (Runs.load nagg3 rfl (st_18.cell (k := 0) rfl (part_one (u := .int .i64 a_14_2) (pre := (([.slice A_7_0 n_8_0 c_9_0] : List Value) ++ ([.slice A_7_1 n_8_1 c_9_1] : List Value))) (post := (([.bool a_14_3] : List Value) ++ ([.slice A_7_4 n_8_4 c_9_4] : List Value))) (by first | rfl | simp only [List.append_assoc, List.append_nil, List.nil_append, List.cons_append]) (by first | rfl | simp only [List.length_append, List.length_cons, List.length_nil, iv_length])))) ?_
        refine WL.val Wanted.none (Runs.gtr rfl rfl rfl) ?_
        refine WL.nil ?_
        refine QW.then_n ?_
        rcases H with ⟨c_26, H⟩ | ⟨c_26, H⟩
        · have h_27 : (decide (a_14_2 > 0)) = true := (decide_eq_true c_26)
          refine CW.ct rfl h_27 ?_
          refine CW.region ?_
          refine WL.val Wanted.none (Runs.move rfl) ?_
          refine WL.val Wanted.none (Runs.nilCheck rfl) ?_
          refine WL.val Wanted.none (Runs.fieldAddr (off := 2) (p := 2) fld66_2 rfl rfl rfl) ?_
          refine WL.val Wanted.none (Runs.load nagg3 rfl (st_18.cell (k := 0) rfl (part_one (u := .int .i64 a_14_2) (pre := (([.slice A_7_0 n_8_0 c_9_0] : List Value) ++ ([.slice A_7_1 n_8_1 c_9_1] : List Value))) (post := (([.bool a_14_3] : List Value) ++ ([.slice A_7_4 n_8_4 c_9_4] : List Value))) (by first | rfl | simp only [List.append_assoc, List.append_nil, List.nil_append, List.cons_append]) (by first | rfl | simp only [List.length_append, List.length_cons, List.length_nil, iv_length])))) ?_
          refine WL.val Wanted.none (Runs.sub rfl rfl rfl) ?_
          refine WL.val Wanted.none (Runs.nilCheck rfl) ?_
          refine WL.val Wanted.none (Runs.fieldAddr (off := 2) (p := 2) fld66_2 rfl rfl rfl) ?_
          refine WL.store_one (i := 0) (u0 := .int .i64 a_14_2) (pre := (([.slice A_7_0 n_8_0 c_9_0] : List Value) ++ ([.slice A_7_1 n_8_1 c_9_1] : List Value))) (post := (([.bool a_14_3] : List Value) ++ ([.slice A_7_4 n_8_4 c_9_4] : List Value))) st_18 rfl cells3 (by first | rfl | simp only [List.append_assoc, List.append_nil, List.nil_append, List.cons_append]) (by first | rfl | simp only [List.length_append, List.length_cons, List.length_nil, iv_length]) rfl rfl rfl ?_
          intro w_28 st_29
          replace st_29 : St w w_28 (.cells b0 (([.slice A_7_0 n_8_0 c_9_0] : List Value) ++ (([.slice A_7_1 n_8_1 c_9_1] : List Value) ++ (([.int .i64 (IntKind.i64.wrap (a_14_2 - 1))] : List Value) ++ (([.bool a_14_3] : List Value) ++ ([.slice A_7_4 n_8_4 c_9_4] : List Value))))) 66 :: .sl A_7_0 c_9_0 n_8_0 x_11_0 22 1 :: .sl A_7_1 c_9_1 n_8_1 x_11_1 69 2 :: .sl A_7_4 c_9_4 n_8_4 x_11_4 71 2 :: (T_5 ++ R)) := by have e_ : (([.slice A_7_0 n_8_0 c_9_0] : List Value) ++ (([.slice A_7_1 n_8_1 c_9_1] : List Value) ++ (([.int .i64 (IntKind.i64.wrap (a_14_2 - 1))] : List Value) ++ (([.bool a_14_3] : List Value) ++ ([.slice A_7_4 n_8_4 c_9_4] : List Value))))) = (([.slice A_7_0 n_8_0 c_9_0] : List Value) ++ ([.slice A_7_1 n_8_1 c_9_1] : List Value)) ++ ((([.int .i64 (IntKind.i64.wrap (a_14_2 - 1))] : List Value)) ++ (([.bool a_14_3] : List Value) ++ ([.slice A_7_4 n_8_4 c_9_4] : List Value))) := (by first | rfl | simp only [List.append_assoc, List.append_nil, List.nil_append, List.cons_append]); have h_ : St w w_28 (.cells b0 ((([.slice A_7_0 n_8_0 c_9_0] : List Value) ++ ([.slice A_7_1 n_8_1 c_9_1] : List Value)) ++ ((([.int .i64 (IntKind.i64.wrap (a_14_2 - 1))] : List Value)) ++ (([.bool a_14_3] : List Value) ++ ([.slice A_7_4 n_8_4 c_9_4] : List Value)))) 66 :: .sl A_7_0 c_9_0 n_8_0 x_11_0 22 1 :: .sl A_7_1 c_9_1 n_8_1 x_11_1 69 2 :: .sl A_7_4 c_9_4 n_8_4 x_11_4 71 2 :: (T_5 ++ R)) := st_29; rw [← e_] at h_; exact h_
          refine WL.nil ?_
          refine QW.then_n ?_
          refine CW.sub [(0, .pointer (some ⟨b0, 0, none⟩)), (1, .int .i64 a1), (2, .slice A2 n2 c2), (6, .int .i64 0)] ⟨rfl, rfl, rfl, rfl, trivial⟩ ?_
          refine CW.seq ?_
          refine CW.region_awh (C := fun w_ => St w w_ (.cells b0 (([.slice A_7_0 n_8_0 c_9_0] : List Value) ++ (([.slice A_7_1 n_8_1 c_9_1] : List Value) ++ (([.int .i64 (IntKind.i64.wrap (a_14_2 - 1))] : List Value) ++ (([.bool a_14_3] : List Value) ++ ([.slice A_7_4 n_8_4 c_9_4] : List Value))))) 66 :: .sl A_7_0 c_9_0 n_8_0 x_11_0 22 1 :: .sl A_7_4 c_9_4 n_8_4 x_11_4 71 2 :: (T_5 ++ R))) 11 wide (by kernel_rfl) st_29 (fun w_30 st_31 => ?_)
          have st_32 : St w w_30 (.cells b0 (([.slice A_7_0 n_8_0 c_9_0] : List Value) ++ (([.slice A_7_1 n_8_1 c_9_1] : List Value) ++ (([.int .i64 (IntKind.i64.wrap (a_14_2 - 1))] : List Value) ++ (([.bool a_14_3] : List Value) ++ ([.slice A_7_4 n_8_4 c_9_4] : List Value))))) 66 :: .sl A_7_0 c_9_0 n_8_0 x_11_0 22 1 :: .sl A_7_4 c_9_4 n_8_4 x_11_4 71 2 :: (T_5 ++ R)) := (St.pickT (L := [_, _, _, _]) st_31 [0, 1, 3] (by decide))
          refine AWH.take 0 rfl (by decide) (by kernel_rfl) (by kernel_rfl) (St.subset st_32 st_31 (List.forall_mem_cons.2 ⟨List.mem_of_getElem? (i := 0) rfl, (List.forall_mem_cons.2 ⟨List.mem_of_getElem? (i := 1) rfl, (List.forall_mem_cons.2 ⟨List.mem_of_getElem? (i := 3) rfl, (mem_TR (A := [_, _, _, _]) (fun _ h_ => h_))⟩)⟩)⟩)) Wanted.none (fun wq sq => (Runs.move rfl)) ?_
          refine AWH.take 1 rfl (by decide) (by kernel_rfl) (by kernel_rfl) (St.subset st_32 st_31 (List.forall_mem_cons.2 ⟨List.mem_of_getElem? (i := 0) rfl, (List.forall_mem_cons.2 ⟨List.mem_of_getElem? (i := 1) rfl, (List.forall_mem_cons.2 ⟨List.mem_of_getElem? (i := 3) rfl, (mem_TR (A := [_, _, _, _]) (fun _ h_ => h_))⟩)⟩)⟩)) Wanted.none (fun wq sq => (Runs.move rfl)) ?_
          refine AWH.take 2 rfl (by decide) (by kernel_rfl) (by kernel_rfl) (St.subset st_32 st_31 (List.forall_mem_cons.2 ⟨List.mem_of_getElem? (i := 0) rfl, (List.forall_mem_cons.2 ⟨List.mem_of_getElem? (i := 1) rfl, (List.forall_mem_cons.2 ⟨List.mem_of_getElem? (i := 3) rfl, (mem_TR (A := [_, _, _, _]) (fun _ h_ => h_))⟩)⟩)⟩)) Wanted.none (fun wq sq => (Runs.nilCheck rfl)) ?_
          refine AWH.take 3 rfl (by decide) (by kernel_rfl) (by kernel_rfl) (St.subset st_32 st_31 (List.forall_mem_cons.2 ⟨List.mem_of_getElem? (i := 0) rfl, (List.forall_mem_cons.2 ⟨List.mem_of_getElem? (i := 1) rfl, (List.forall_mem_cons.2 ⟨List.mem_of_getElem? (i := 3) rfl, (mem_TR (A := [_, _, _, _]) (fun _ h_ => h_))⟩)⟩)⟩)) Wanted.none (fun wq sq => (Runs.fieldAddr (off := 1) (p := 1) fld66_1 rfl rfl rfl)) ?_
          refine AWH.take 4 rfl (by decide) (by kernel_rfl) (by kernel_rfl) (St.subset st_32 st_31 (List.forall_mem_cons.2 ⟨List.mem_of_getElem? (i := 0) rfl, (List.forall_mem_cons.2 ⟨List.mem_of_getElem? (i := 1) rfl, (List.forall_mem_cons.2 ⟨List.mem_of_getElem? (i := 3) rfl, (mem_TR (A := [_, _, _, _]) (fun _ h_ => h_))⟩)⟩)⟩)) Wanted.none (fun wq sq => (Runs.load nagg64 rfl (sq.cell (k := 0) rfl (part_one (u := .slice A_7_1 n_8_1 c_9_1) (pre := (([.slice A_7_0 n_8_0 c_9_0] : List Value))) (post := (([.int .i64 (IntKind.i64.wrap (a_14_2 - 1))] : List Value) ++ (([.bool a_14_3] : List Value) ++ ([.slice A_7_4 n_8_4 c_9_4] : List Value)))) (by first | rfl | simp only [List.append_assoc, List.append_nil, List.nil_append, List.cons_append]) (by first | rfl | simp only [List.length_append, List.length_cons, List.length_nil, iv_length]))))) ?_
          refine AWH.take 5 rfl (by decide) (by kernel_rfl) (by kernel_rfl) (St.subset st_32 st_31 (List.forall_mem_cons.2 ⟨List.mem_of_getElem? (i := 0) rfl, (List.forall_mem_cons.2 ⟨List.mem_of_getElem? (i := 1) rfl, (List.forall_mem_cons.2 ⟨List.mem_of_getElem? (i := 3) rfl, (mem_TR (A := [_, _, _, _]) (fun _ h_ => h_))⟩)⟩)⟩)) Wanted.none (fun wq sq => (Runs.move rfl)) ?_
          refine AWH.take 6 rfl (by decide) (by kernel_rfl) (by kernel_rfl) (St.subset st_32 st_31 (List.forall_mem_cons.2 ⟨List.mem_of_getElem? (i := 0) rfl, (List.forall_mem_cons.2 ⟨List.mem_of_getElem? (i := 1) rfl, (List.forall_mem_cons.2 ⟨List.mem_of_getElem? (i := 3) rfl, (mem_TR (A := [_, _, _, _]) (fun _ h_ => h_))⟩)⟩)⟩)) Wanted.none (fun wq sq => (Runs.move rfl)) ?_
          refine AWH.step 7 rfl (by decide) (by kernel_rfl) (fun inv_ hs_ hk_ hc_ hn_ => ?_)
          obtain ⟨r_37, hr_33, H⟩ := H
          refine WL.call Wanted.none ent29 rfl (slices_Clone_s_byte_byte.calls w_30 l2 A2 n2 c2 ((hb2.2.2.at st_31 (mem_TR (A := [_, _, _, _]) (fun _ h_ => hs_6.1 _ h_)))) (hb2.1) (hb2.2.1) r_37 hr_33) ?_
          rintro _ w_34 ⟨A_38, c_39, n_40, hn_41, rfl, sc_36⟩
          have st_35 : St w w_34 (.sl A_38 c_39 n_40 (iv .u8 r_37) 5 1 :: .cells b0 (([.slice A_7_0 n_8_0 c_9_0] : List Value) ++ (([.slice A_7_1 n_8_1 c_9_1] : List Value) ++ (([.int .i64 (IntKind.i64.wrap (a_14_2 - 1))] : List Value) ++ (([.bool a_14_3] : List Value) ++ ([.slice A_7_4 n_8_4 c_9_4] : List Value))))) 66 :: .sl A_7_0 c_9_0 n_8_0 x_11_0 22 1 :: .sl A_7_1 c_9_1 n_8_1 x_11_1 69 2 :: .sl A_7_4 c_9_4 n_8_4 x_11_4 71 2 :: (T_5 ++ R)) := st_31.call sc_36
          refine ⟨_, rfl, ?_⟩
          refine WL.nil ?_
          refine AWH.back (St.subset st_32 st_35 (List.forall_mem_cons.2 ⟨List.mem_of_getElem? (i := 1) rfl, (List.forall_mem_cons.2 ⟨List.mem_of_getElem? (i := 2) rfl, (List.forall_mem_cons.2 ⟨List.mem_of_getElem? (i := 4) rfl, (mem_TR (A := [_, _, _, _, _]) (fun _ h_ => h_))⟩)⟩)⟩)) inv_ hs_ hk_ hc_ hn_ ?_
          refine AWH.take 8 rfl (by decide) (by kernel_rfl) (by kernel_rfl) (St.subset st_32 st_35 (List.forall_mem_cons.2 ⟨List.mem_of_getElem? (i := 1) rfl, (List.forall_mem_cons.2 ⟨List.mem_of_getElem? (i := 2) rfl, (List.forall_mem_cons.2 ⟨List.mem_of_getElem? (i := 4) rfl, (mem_TR (A := [_, _, _, _, _]) (fun _ h_ => h_))⟩)⟩)⟩)) Wanted.none (fun wq sq => (Runs.build_struct (ps := [(0, 1), (1, 1)]) (cs := (([.int .i64 a1] : List Value) ++ ([.slice A_38 n_40 c_39] : List Value))) plc69 zero69 rfl (by refine Fills.cons (o := 0) (ms := (([.int .i64 a1] : List Value))) (show _ = some (0, (([.int .i64 a1] : List Value)).length) by rw [show (([.int .i64 a1] : List Value)).length = 1 from (by first | rfl | simp only [List.length_append, List.length_cons, List.length_nil, iv_length])] <;> rfl) rfl (by have h1_ : (([.int .i64 a1] : List Value)).length = 1 := (by first | rfl | simp only [List.length_append, List.length_cons, List.length_nil, iv_length]); have h2_ : (([.int .i64 0] : List Value) ++ ([.slice none 0 0] : List Value)).length = 2 := (by first | rfl | simp only [List.length_append, List.length_cons, List.length_nil, iv_length]); omega) ?_; rw [show layV (([.int .i64 0] : List Value) ++ ([.slice none 0 0] : List Value)) 0 (([.int .i64 a1] : List Value)) = (([.int .i64 a1] : List Value) ++ ([.slice none 0 0] : List Value)) from (layV_mid (pre := (([] : List Value))) (mid := (([.int .i64 0] : List Value))) (post := (([.slice none 0 0] : List Value))) (by first | rfl | simp only [List.append_assoc, List.append_nil, List.nil_append, List.cons_append]) (by first | rfl | simp only [List.length_append, List.length_cons, List.length_nil, iv_length]) (Eq.trans (b := 1) (by first | rfl | simp only [List.length_append, List.length_cons, List.length_nil, iv_length]) (Eq.symm (by first | rfl | simp only [List.length_append, List.length_cons, List.length_nil, iv_length])))).trans (by first | rfl | simp only [List.append_assoc, List.append_nil, List.nil_append, List.cons_append])]; refine Fills.cons (o := 1) (ms := (([.slice A_38 n_40 c_39] : List Value))) (show _ = some (1, (([.slice A_38 n_40 c_39] : List Value)).length) by rw [show (([.slice A_38 n_40 c_39] : List Value)).length = 1 from (by first | rfl | simp only [List.length_append, List.length_cons, List.length_nil, iv_length])] <;> rfl) rfl (by have h1_ : (([.slice A_38 n_40 c_39] : List Value)).length = 1 := (by first | rfl | simp only [List.length_append, List.length_cons, List.length_nil, iv_length]); have h2_ : (([.int .i64 a1] : List Value) ++ ([.slice none 0 0] : List Value)).length = 2 := (by first | rfl | simp only [List.length_append, List.length_cons, List.length_nil, iv_length]); omega) ?_; rw [show layV (([.int .i64 a1] : List Value) ++ ([.slice none 0 0] : List Value)) 1 (([.slice A_38 n_40 c_39] : List Value)) = (([.int .i64 a1] : List Value) ++ ([.slice A_38 n_40 c_39] : List Value)) from (layV_mid (pre := (([.int .i64 a1] : List Value))) (mid := (([.slice none 0 0] : List Value))) (post := (([] : List Value))) (by first | rfl | simp only [List.append_assoc, List.append_nil, List.nil_append, List.cons_append]) (by first | rfl | simp only [List.length_append, List.length_cons, List.length_nil, iv_length]) (Eq.trans (b := 1) (by first | rfl | simp only [List.length_append, List.length_cons, List.length_nil, iv_length]) (Eq.symm (by first | rfl | simp only [List.length_append, List.length_cons, List.length_nil, iv_length])))).trans (by first | rfl | simp only [List.append_assoc, List.append_nil, List.nil_append, List.cons_append])]; exact Fills.nil))) ?_
          refine AWH.step 9 rfl (by decide) (by kernel_rfl) (fun inv_ hs_ hk_ hc_ hn_ => ?_)
          have hb_47c := st_35.cap (i := 0) rfl
          obtain ⟨T_43, hs_44, hm_45, st_46⟩ := St.freeze (A := []) (B := [_, _, _, _]) (T := T_5) (R := R) st_35
          have hb_47 : HB w T_43 A_38 n_40 c_39 (iv .u8 r_37) r_37.length := ⟨hn_41, hb_47c, Hd.of_sl hm_45⟩
          replace st_46 : St w w_34 (.cells b0 (([.slice A_7_0 n_8_0 c_9_0] : List Value) ++ (([.slice A_7_1 n_8_1 c_9_1] : List Value) ++ (([.int .i64 (IntKind.i64.wrap (a_14_2 - 1))] : List Value) ++ (([.bool a_14_3] : List Value) ++ ([.slice A_7_4 n_8_4 c_9_4] : List Value))))) 66 :: .sl A_7_0 c_9_0 n_8_0 x_11_0 22 1 :: .sl A_7_1 c_9_1 n_8_1 x_11_1 69 2 :: .sl A_7_4 c_9_4 n_8_4 x_11_4 71 2 :: (T_43 ++ R)) := st_46
          obtain ⟨ii_48, z_49, h_50, h_51, h_52, h_53⟩ := slr69_1
          refine WL.buildSlRows (sz := 2) (cs := (([.int .i64 a1] : List Value) ++ ([.slice A_38 n_40 c_39] : List Value))) st_46 Try.underlying64 h_50 h_51 h_52 (by decide) (by decide) h_53 rfl (by refine Fills.cons (o := 0) (ms := (([.int .i64 a1] : List Value) ++ ([.slice A_38 n_40 c_39] : List Value))) (show _ = some (0, (([.int .i64 a1] : List Value) ++ ([.slice A_38 n_40 c_39] : List Value)).length) by rw [show (([.int .i64 a1] : List Value) ++ ([.slice A_38 n_40 c_39] : List Value)).length = 2 from (by first | rfl | simp only [List.length_append, List.length_cons, List.length_nil, iv_length])] <;> rfl) rfl (by have h1_ : (([.int .i64 a1] : List Value) ++ ([.slice A_38 n_40 c_39] : List Value)).length = 2 := (by first | rfl | simp only [List.length_append, List.length_cons, List.length_nil, iv_length]); have h2_ : (([.int .i64 0] : List Value) ++ ([.slice none 0 0] : List Value)).length = 2 := (by first | rfl | simp only [List.length_append, List.length_cons, List.length_nil, iv_length]); omega) ?_; rw [show layV (([.int .i64 0] : List Value) ++ ([.slice none 0 0] : List Value)) 0 (([.int .i64 a1] : List Value) ++ ([.slice A_38 n_40 c_39] : List Value)) = (([.int .i64 a1] : List Value) ++ ([.slice A_38 n_40 c_39] : List Value)) from (layV_mid (pre := (([] : List Value))) (mid := (([.int .i64 0] : List Value) ++ ([.slice none 0 0] : List Value))) (post := (([] : List Value))) (by first | rfl | simp only [List.append_assoc, List.append_nil, List.nil_append, List.cons_append]) (by first | rfl | simp only [List.length_append, List.length_cons, List.length_nil, iv_length]) (Eq.trans (b := 2) (by first | rfl | simp only [List.length_append, List.length_cons, List.length_nil, iv_length]) (Eq.symm (by first | rfl | simp only [List.length_append, List.length_cons, List.length_nil, iv_length])))).trans (by first | rfl | simp only [List.append_assoc, List.append_nil, List.nil_append, List.cons_append])]; exact Fills.nil) ?_
          intro B_54 w_55 st_56
          replace st_56 : St w w_55 (.cells B_54 (([.int .i64 a1] : List Value) ++ ([.slice A_38 n_40 c_39] : List Value)) 69 :: .cells b0 (([.slice A_7_0 n_8_0 c_9_0] : List Value) ++ (([.slice A_7_1 n_8_1 c_9_1] : List Value) ++ (([.int .i64 (IntKind.i64.wrap (a_14_2 - 1))] : List Value) ++ (([.bool a_14_3] : List Value) ++ ([.slice A_7_4 n_8_4 c_9_4] : List Value))))) 66 :: .sl A_7_0 c_9_0 n_8_0 x_11_0 22 1 :: .sl A_7_1 c_9_1 n_8_1 x_11_1 69 2 :: .sl A_7_4 c_9_4 n_8_4 x_11_4 71 2 :: (T_43 ++ R)) := st_56
          have st_58 := St.rows_sl (i := 0) (m := 1) (size := 2) st_56 rfl rfl (by decide)
          obtain ⟨x_59, e_60⟩ : ∃ x_ : Cells, x_ = ([.int .i64 a1] : List Value) ++ ([.slice A_38 n_40 c_39] : List Value) := ⟨_, rfl⟩
          have hx_61 : HRs T_43 (f69 w) x_59 ([(a1, r_37)] : List R69) := by rw [e_60]; exact (HRs.one (.cons rfl (.cons ⟨_, _, _, rfl, hb_47⟩ .nil)))
          replace st_58 : St w w_55 (.sl (some ⟨B_54, 0, none⟩) 1 1 x_59 69 2 :: .cells b0 (([.slice A_7_0 n_8_0 c_9_0] : List Value) ++ (([.slice A_7_1 n_8_1 c_9_1] : List Value) ++ (([.int .i64 (IntKind.i64.wrap (a_14_2 - 1))] : List Value) ++ (([.bool a_14_3] : List Value) ++ ([.slice A_7_4 n_8_4 c_9_4] : List Value))))) 66 :: .sl A_7_0 c_9_0 n_8_0 x_11_0 22 1 :: .sl A_7_1 c_9_1 n_8_1 x_11_1 69 2 :: .sl A_7_4 c_9_4 n_8_4 x_11_4 71 2 :: (T_43 ++ R)) := by rw [e_60]; exact st_58
          refine WL.nil ?_
          refine AWH.back (St.subset st_32 st_58 (List.forall_mem_cons.2 ⟨List.mem_of_getElem? (i := 1) rfl, (List.forall_mem_cons.2 ⟨List.mem_of_getElem? (i := 2) rfl, (List.forall_mem_cons.2 ⟨List.mem_of_getElem? (i := 4) rfl, (mem_TR (A := [_, _, _, _, _]) (fun _ h_ => hs_44.1 _ h_))⟩)⟩)⟩)) inv_ hs_ hk_ hc_ hn_ ?_
          refine AWH.step 10 rfl (by decide) (by kernel_rfl) (fun inv_ hs_ hk_ hc_ hn_ => ?_)
          obtain ⟨m_62, e_63, H⟩ := H
          obtain ⟨z_64, H⟩ := H
          obtain ⟨n_67, hn_70⟩ : ∃ n_ : Nat, n_ = m_62.length := ⟨_, rfl⟩
          refine WL.appendR (i := 3) (N := n_67) (news := x_59) Wanted.none st_58 rfl Try.underlying64 elemS69 rfl rfl (st_58.src_sl (k := 0) rfl) (by have h1_ := (hx_61).length (fz69 w); have h2_ : 1 = ([(a1, r_37)] : List R69).length := rfl; rw [h1_, h2_]) (HLs.one hx_61) (by decide) (by have h1_ : n_8_1 = l_10_1.length := hn_12_1; have h2_ : 1 = ([(a1, r_37)] : List R69).length := rfl; rw [hn_70, e_63, List.length_append]; omega) (by rw [hn_70]; exact z_64) ?_
          intro A_65 c_66 w_68 st_69
          obtain ⟨x_71, e_72⟩ : ∃ x_ : Cells, x_ = x_11_1 ++ x_59 := ⟨_, rfl⟩
          have hx_73 : HRs T_43 (f69 w) x_71 m_62 := by rw [e_72, e_63]; exact HRs.append (hx_13_1.mono (fun _ h_ => hs_44.1 _ h_)) hx_61
          replace st_69 : St w w_68 (.sl (some ⟨B_54, 0, none⟩) 1 1 x_59 69 2 :: .cells b0 (([.slice A_7_0 n_8_0 c_9_0] : List Value) ++ (([.slice A_7_1 n_8_1 c_9_1] : List Value) ++ (([.int .i64 (IntKind.i64.wrap (a_14_2 - 1))] : List Value) ++ (([.bool a_14_3] : List Value) ++ ([.slice A_7_4 n_8_4 c_9_4] : List Value))))) 66 :: .sl A_7_0 c_9_0 n_8_0 x_11_0 22 1 :: .sl A_65 c_66 n_67 x_71 69 2 :: .sl A_7_4 c_9_4 n_8_4 x_11_4 71 2 :: (T_43 ++ R)) := by rw [e_72]; exact st_69
          refine WL.nil ?_
          refine AWH.back (St.subset st_32 st_69 (List.forall_mem_cons.2 ⟨List.mem_of_getElem? (i := 1) rfl, (List.forall_mem_cons.2 ⟨List.mem_of_getElem? (i := 2) rfl, (List.forall_mem_cons.2 ⟨List.mem_of_getElem? (i := 4) rfl, (mem_TR (A := [_, _, _, _, _]) (fun _ h_ => hs_44.1 _ h_))⟩)⟩)⟩)) inv_ hs_ hk_ hc_ hn_ ?_
          refine AWH.tail (by kernel_rfl) ?_
          refine AW.take 11 rfl (by kernel_rfl) (by kernel_rfl) (by kernel_rfl) Wanted.none (fun _ => (Runs.nilCheck rfl)) ?_
          refine AW.take 12 rfl (by kernel_rfl) (by kernel_rfl) (by kernel_rfl) Wanted.none (fun _ => (Runs.fieldAddr (off := 1) (p := 1) fld66_1 rfl rfl rfl)) ?_
          refine AW.step 13 rfl (by kernel_rfl) ?_
          refine WL.store_one (i := 1) (u0 := .slice A_7_1 n_8_1 c_9_1) (pre := (([.slice A_7_0 n_8_0 c_9_0] : List Value))) (post := (([.int .i64 (IntKind.i64.wrap (a_14_2 - 1))] : List Value) ++ (([.bool a_14_3] : List Value) ++ ([.slice A_7_4 n_8_4 c_9_4] : List Value)))) st_69 rfl cells64 (by first | rfl | simp only [List.append_assoc, List.append_nil, List.nil_append, List.cons_append]) (by first | rfl | simp only [List.length_append, List.length_cons, List.length_nil, iv_length]) rfl rfl rfl ?_
          intro w_74 st_75
          replace st_75 : St w w_74 (.sl (some ⟨B_54, 0, none⟩) 1 1 x_59 69 2 :: .cells b0 (([.slice A_7_0 n_8_0 c_9_0] : List Value) ++ (([.slice A_65 n_67 c_66] : List Value) ++ (([.int .i64 (IntKind.i64.wrap (a_14_2 - 1))] : List Value) ++ (([.bool a_14_3] : List Value) ++ ([.slice A_7_4 n_8_4 c_9_4] : List Value))))) 66 :: .sl A_7_0 c_9_0 n_8_0 x_11_0 22 1 :: .sl A_65 c_66 n_67 x_71 69 2 :: .sl A_7_4 c_9_4 n_8_4 x_11_4 71 2 :: (T_43 ++ R)) := by have e_ : (([.slice A_7_0 n_8_0 c_9_0] : List Value) ++ (([.slice A_65 n_67 c_66] : List Value) ++ (([.int .i64 (IntKind.i64.wrap (a_14_2 - 1))] : List Value) ++ (([.bool a_14_3] : List Value) ++ ([.slice A_7_4 n_8_4 c_9_4] : List Value))))) = (([.slice A_7_0 n_8_0 c_9_0] : List Value)) ++ ((([.slice A_65 n_67 c_66] : List Value)) ++ (([.int .i64 (IntKind.i64.wrap (a_14_2 - 1))] : List Value) ++ (([.bool a_14_3] : List Value) ++ ([.slice A_7_4 n_8_4 c_9_4] : List Value)))) := (by first | rfl | simp only [List.append_assoc, List.append_nil, List.nil_append, List.cons_append]); have h_ : St w w_74 (.sl (some ⟨B_54, 0, none⟩) 1 1 x_59 69 2 :: .cells b0 ((([.slice A_7_0 n_8_0 c_9_0] : List Value)) ++ ((([.slice A_65 n_67 c_66] : List Value)) ++ (([.int .i64 (IntKind.i64.wrap (a_14_2 - 1))] : List Value) ++ (([.bool a_14_3] : List Value) ++ ([.slice A_7_4 n_8_4 c_9_4] : List Value))))) 66 :: .sl A_7_0 c_9_0 n_8_0 x_11_0 22 1 :: .sl A_65 c_66 n_67 x_71 69 2 :: .sl A_7_4 c_9_4 n_8_4 x_11_4 71 2 :: (T_43 ++ R)) := st_75; rw [← e_] at h_; exact h_
          refine WL.nil ?_
          refine AW.back  ?_
          refine AW.done (by kernel_rfl) ?_
          refine QW.then_n ?_
          refine CW.sub [(0, .pointer (some ⟨b0, 0, none⟩)), (1, .int .i64 a1), (6, .int .i64 0)] ⟨rfl, rfl, rfl, trivial⟩ ?_
          refine CW.seq ?_
          refine CW.region ?_
          refine WL.val Wanted.none (Runs.move rfl) ?_
          refine WL.val Wanted.none (Runs.move rfl) ?_
          refine WL.val Wanted.none (Runs.nilCheck rfl) ?_
          refine WL.val Wanted.none (Runs.fieldAddr (off := 4) (p := 4) fld66_4 rfl rfl rfl) ?_
          refine WL.val Wanted.none (Runs.load nagg61 rfl (st_75.cell (k := 1) rfl (part_one (u := .slice A_7_4 n_8_4 c_9_4) (pre := (([.slice A_7_0 n_8_0 c_9_0] : List Value) ++ (([.slice A_65 n_67 c_66] : List Value) ++ (([.int .i64 (IntKind.i64.wrap (a_14_2 - 1))] : List Value) ++ ([.bool a_14_3] : List Value))))) (post := (([] : List Value))) (by first | rfl | simp only [List.append_assoc, List.append_nil, List.nil_append, List.cons_append]) (by first | rfl | simp only [List.length_append, List.length_cons, List.length_nil, iv_length])))) ?_
          refine WL.val Wanted.none (Runs.move rfl) ?_
          refine WL.val Wanted.none (Runs.build_struct (ps := [(0, 1), (1, 1)]) (cs := (([.int .i64 2] : List Value) ++ ([.int .i64 a1] : List Value))) plc71 zero71 rfl (by refine Fills.cons (o := 0) (ms := (([.int .i64 2] : List Value))) (show _ = some (0, (([.int .i64 2] : List Value)).length) by rw [show (([.int .i64 2] : List Value)).length = 1 from (by first | rfl | simp only [List.length_append, List.length_cons, List.length_nil, iv_length])] <;> rfl) rfl (by have h1_ : (([.int .i64 2] : List Value)).length = 1 := (by first | rfl | simp only [List.length_append, List.length_cons, List.length_nil, iv_length]); have h2_ : (([.int .i64 0] : List Value) ++ ([.int .i64 0] : List Value)).length = 2 := (by first | rfl | simp only [List.length_append, List.length_cons, List.length_nil, iv_length]); omega) ?_; rw [show layV (([.int .i64 0] : List Value) ++ ([.int .i64 0] : List Value)) 0 (([.int .i64 2] : List Value)) = (([.int .i64 2] : List Value) ++ ([.int .i64 0] : List Value)) from (layV_mid (pre := (([] : List Value))) (mid := (([.int .i64 0] : List Value))) (post := (([.int .i64 0] : List Value))) (by first | rfl | simp only [List.append_assoc, List.append_nil, List.nil_append, List.cons_append]) (by first | rfl | simp only [List.length_append, List.length_cons, List.length_nil, iv_length]) (Eq.trans (b := 1) (by first | rfl | simp only [List.length_append, List.length_cons, List.length_nil, iv_length]) (Eq.symm (by first | rfl | simp only [List.length_append, List.length_cons, List.length_nil, iv_length])))).trans (by first | rfl | simp only [List.append_assoc, List.append_nil, List.nil_append, List.cons_append])]; refine Fills.cons (o := 1) (ms := (([.int .i64 a1] : List Value))) (show _ = some (1, (([.int .i64 a1] : List Value)).length) by rw [show (([.int .i64 a1] : List Value)).length = 1 from (by first | rfl | simp only [List.length_append, List.length_cons, List.length_nil, iv_length])] <;> rfl) rfl (by have h1_ : (([.int .i64 a1] : List Value)).length = 1 := (by first | rfl | simp only [List.length_append, List.length_cons, List.length_nil, iv_length]); have h2_ : (([.int .i64 2] : List Value) ++ ([.int .i64 0] : List Value)).length = 2 := (by first | rfl | simp only [List.length_append, List.length_cons, List.length_nil, iv_length]); omega) ?_; rw [show layV (([.int .i64 2] : List Value) ++ ([.int .i64 0] : List Value)) 1 (([.int .i64 a1] : List Value)) = (([.int .i64 2] : List Value) ++ ([.int .i64 a1] : List Value)) from (layV_mid (pre := (([.int .i64 2] : List Value))) (mid := (([.int .i64 0] : List Value))) (post := (([] : List Value))) (by first | rfl | simp only [List.append_assoc, List.append_nil, List.nil_append, List.cons_append]) (by first | rfl | simp only [List.length_append, List.length_cons, List.length_nil, iv_length]) (Eq.trans (b := 1) (by first | rfl | simp only [List.length_append, List.length_cons, List.length_nil, iv_length]) (Eq.symm (by first | rfl | simp only [List.length_append, List.length_cons, List.length_nil, iv_length])))).trans (by first | rfl | simp only [List.append_assoc, List.append_nil, List.nil_append, List.cons_append])]; exact Fills.nil)) ?_
          obtain ⟨ii_76, z_77, h_78, h_79, h_80, h_81⟩ := slr71_1
          refine WL.buildSlRows (sz := 2) (cs := (([.int .i64 2] : List Value) ++ ([.int .i64 a1] : List Value))) st_75 Try.underlying61 h_78 h_79 h_80 (by decide) (by decide) h_81 rfl (by refine Fills.cons (o := 0) (ms := (([.int .i64 2] : List Value) ++ ([.int .i64 a1] : List Value))) (show _ = some (0, (([.int .i64 2] : List Value) ++ ([.int .i64 a1] : List Value)).length) by rw [show (([.int .i64 2] : List Value) ++ ([.int .i64 a1] : List Value)).length = 2 from (by first | rfl | simp only [List.length_append, List.length_cons, List.length_nil, iv_length])] <;> rfl) rfl (by have h1_ : (([.int .i64 2] : List Value) ++ ([.int .i64 a1] : List Value)).length = 2 := (by first | rfl | simp only [List.length_append, List.length_cons, List.length_nil, iv_length]); have h2_ : (([.int .i64 0] : List Value) ++ ([.int .i64 0] : List Value)).length = 2 := (by first | rfl | simp only [List.length_append, List.length_cons, List.length_nil, iv_length]); omega) ?_; rw [show layV (([.int .i64 0] : List Value) ++ ([.int .i64 0] : List Value)) 0 (([.int .i64 2] : List Value) ++ ([.int .i64 a1] : List Value)) = (([.int .i64 2] : List Value) ++ ([.int .i64 a1] : List Value)) from (layV_mid (pre := (([] : List Value))) (mid := (([.int .i64 0] : List Value) ++ ([.int .i64 0] : List Value))) (post := (([] : List Value))) (by first | rfl | simp only [List.append_assoc, List.append_nil, List.nil_append, List.cons_append]) (by first | rfl | simp only [List.length_append, List.length_cons, List.length_nil, iv_length]) (Eq.trans (b := 2) (by first | rfl | simp only [List.length_append, List.length_cons, List.length_nil, iv_length]) (Eq.symm (by first | rfl | simp only [List.length_append, List.length_cons, List.length_nil, iv_length])))).trans (by first | rfl | simp only [List.append_assoc, List.append_nil, List.nil_append, List.cons_append])]; exact Fills.nil) ?_
          intro B_82 w_83 st_84
          replace st_84 : St w w_83 (.cells B_82 (([.int .i64 2] : List Value) ++ ([.int .i64 a1] : List Value)) 71 :: .sl (some ⟨B_54, 0, none⟩) 1 1 x_59 69 2 :: .cells b0 (([.slice A_7_0 n_8_0 c_9_0] : List Value) ++ (([.slice A_65 n_67 c_66] : List Value) ++ (([.int .i64 (IntKind.i64.wrap (a_14_2 - 1))] : List Value) ++ (([.bool a_14_3] : List Value) ++ ([.slice A_7_4 n_8_4 c_9_4] : List Value))))) 66 :: .sl A_7_0 c_9_0 n_8_0 x_11_0 22 1 :: .sl A_65 c_66 n_67 x_71 69 2 :: .sl A_7_4 c_9_4 n_8_4 x_11_4 71 2 :: (T_43 ++ R)) := st_84
          have st_86 := St.rows_sl (i := 0) (m := 1) (size := 2) st_84 rfl rfl (by decide)
          obtain ⟨x_87, e_88⟩ : ∃ x_ : Cells, x_ = ([.int .i64 2] : List Value) ++ ([.int .i64 a1] : List Value) := ⟨_, rfl⟩
          have hx_89 : HRs T_43 (f71 w) x_87 ([(2, a1)] : List R71) := by rw [e_88]; exact (HRs.one (.cons rfl (.cons rfl .nil)))
          replace st_86 : St w w_83 (.sl (some ⟨B_82, 0, none⟩) 1 1 x_87 71 2 :: .sl (some ⟨B_54, 0, none⟩) 1 1 x_59 69 2 :: .cells b0 (([.slice A_7_0 n_8_0 c_9_0] : List Value) ++ (([.slice A_65 n_67 c_66] : List Value) ++ (([.int .i64 (IntKind.i64.wrap (a_14_2 - 1))] : List Value) ++ (([.bool a_14_3] : List Value) ++ ([.slice A_7_4 n_8_4 c_9_4] : List Value))))) 66 :: .sl A_7_0 c_9_0 n_8_0 x_11_0 22 1 :: .sl A_65 c_66 n_67 x_71 69 2 :: .sl A_7_4 c_9_4 n_8_4 x_11_4 71 2 :: (T_43 ++ R)) := by rw [e_88]; exact st_86
          obtain ⟨m_90, e_91, H⟩ := H
          obtain ⟨z_92, H⟩ := H
          obtain ⟨n_95, hn_98⟩ : ∃ n_ : Nat, n_ = m_90.length := ⟨_, rfl⟩
          refine WL.appendR (i := 5) (N := n_95) (news := x_87) Wanted.none st_86 rfl Try.underlying61 elemS71 rfl rfl (st_86.src_sl (k := 0) rfl) (by have h1_ := (hx_89).length (fz71 w); have h2_ : 1 = ([(2, a1)] : List R71).length := rfl; rw [h1_, h2_]) (HLs.one hx_89) (by decide) (by have h1_ : n_8_4 = l_10_4.length := hn_12_4; have h2_ : 1 = ([(2, a1)] : List R71).length := rfl; rw [hn_98, e_91, List.length_append]; omega) (by rw [hn_98]; exact z_92) ?_
          intro A_93 c_94 w_96 st_97
          obtain ⟨x_99, e_100⟩ : ∃ x_ : Cells, x_ = x_11_4 ++ x_87 := ⟨_, rfl⟩
          have hx_101 : HRs T_43 (f71 w) x_99 m_90 := by rw [e_100, e_91]; exact HRs.append (hx_13_4.mono (fun _ h_ => hs_44.1 _ h_)) hx_89
          replace st_97 : St w w_96 (.sl (some ⟨B_82, 0, none⟩) 1 1 x_87 71 2 :: .sl (some ⟨B_54, 0, none⟩) 1 1 x_59 69 2 :: .cells b0 (([.slice A_7_0 n_8_0 c_9_0] : List Value) ++ (([.slice A_65 n_67 c_66] : List Value) ++ (([.int .i64 (IntKind.i64.wrap (a_14_2 - 1))] : List Value) ++ (([.bool a_14_3] : List Value) ++ ([.slice A_7_4 n_8_4 c_9_4] : List Value))))) 66 :: .sl A_7_0 c_9_0 n_8_0 x_11_0 22 1 :: .sl A_65 c_66 n_67 x_71 69 2 :: .sl A_93 c_94 n_95 x_99 71 2 :: (T_43 ++ R)) := by rw [e_100]; exact st_97
          refine WL.val Wanted.none (Runs.nilCheck rfl) ?_
          refine WL.val Wanted.none (Runs.fieldAddr (off := 4) (p := 4) fld66_4 rfl rfl rfl) ?_
          refine WL.store_one (i := 2) (u0 := .slice A_7_4 n_8_4 c_9_4) (pre := (([.slice A_7_0 n_8_0 c_9_0] : List Value) ++ (([.slice A_65 n_67 c_66] : List Value) ++ (([.int .i64 (IntKind.i64.wrap (a_14_2 - 1))] : List Value) ++ ([.bool a_14_3] : List Value))))) (post := (([] : List Value))) st_97 rfl cells61 (by first | rfl | simp only [List.append_assoc, List.append_nil, List.nil_append, List.cons_append]) (by first | rfl | simp only [List.length_append, List.length_cons, List.length_nil, iv_length]) rfl rfl rfl ?_
          intro w_102 st_103
          replace st_103 : St w w_102 (.sl (some ⟨B_82, 0, none⟩) 1 1 x_87 71 2 :: .sl (some ⟨B_54, 0, none⟩) 1 1 x_59 69 2 :: .cells b0 (([.slice A_7_0 n_8_0 c_9_0] : List Value) ++ (([.slice A_65 n_67 c_66] : List Value) ++ (([.int .i64 (IntKind.i64.wrap (a_14_2 - 1))] : List Value) ++ (([.bool a_14_3] : List Value) ++ ([.slice A_93 n_95 c_94] : List Value))))) 66 :: .sl A_7_0 c_9_0 n_8_0 x_11_0 22 1 :: .sl A_65 c_66 n_67 x_71 69 2 :: .sl A_93 c_94 n_95 x_99 71 2 :: (T_43 ++ R)) := by have e_ : (([.slice A_7_0 n_8_0 c_9_0] : List Value) ++ (([.slice A_65 n_67 c_66] : List Value) ++ (([.int .i64 (IntKind.i64.wrap (a_14_2 - 1))] : List Value) ++ (([.bool a_14_3] : List Value) ++ ([.slice A_93 n_95 c_94] : List Value))))) = (([.slice A_7_0 n_8_0 c_9_0] : List Value) ++ (([.slice A_65 n_67 c_66] : List Value) ++ (([.int .i64 (IntKind.i64.wrap (a_14_2 - 1))] : List Value) ++ ([.bool a_14_3] : List Value)))) ++ ((([.slice A_93 n_95 c_94] : List Value)) ++ (([] : List Value))) := (by first | rfl | simp only [List.append_assoc, List.append_nil, List.nil_append, List.cons_append]); have h_ : St w w_102 (.sl (some ⟨B_82, 0, none⟩) 1 1 x_87 71 2 :: .sl (some ⟨B_54, 0, none⟩) 1 1 x_59 69 2 :: .cells b0 ((([.slice A_7_0 n_8_0 c_9_0] : List Value) ++ (([.slice A_65 n_67 c_66] : List Value) ++ (([.int .i64 (IntKind.i64.wrap (a_14_2 - 1))] : List Value) ++ ([.bool a_14_3] : List Value)))) ++ ((([.slice A_93 n_95 c_94] : List Value)) ++ (([] : List Value)))) 66 :: .sl A_7_0 c_9_0 n_8_0 x_11_0 22 1 :: .sl A_65 c_66 n_67 x_71 69 2 :: .sl A_93 c_94 n_95 x_99 71 2 :: (T_43 ++ R)) := st_103; rw [← e_] at h_; exact h_
          refine WL.nil ?_
          refine QW.then_n ?_
          refine CW.sub [(6, .int .i64 0)] ⟨rfl, trivial⟩ ?_
          refine CW.seq ?_
          refine CW.region ?_
          refine WL.val Wanted.none (Runs.assign rfl) ?_
          refine WL.nil ?_
          refine QW.then_n ?_
          refine CW.ret ?_
          obtain ⟨rfl, rfl, rfl, rfl, rfl, rfl⟩ := H
          exact QW.ret1 rfl rfl ⟨T_43, A_7_0, n_8_0, c_9_0, x_11_0, A_65, n_67, c_66, x_71, A_93, n_95, c_94, x_99, (hs_6.trans hs_44), hn_12_0, (hx_13_0.mono (fun _ h_ => hs_44.1 _ h_)), hn_70, hx_73, hn_98, hx_101, rfl, (St.pickT (L := [_, _, _, _, _, _]) st_103 [2, 3, 4, 5] (by decide))⟩
        · have h_27 : (decide (a_14_2 > 0)) = false := (decide_eq_false c_26)
          refine CW.cf rfl h_27 ?_
          refine CW.skip ?_
          refine QW.then_n ?_
          refine CW.sub [(0, .pointer (some ⟨b0, 0, none⟩)), (1, .int .i64 a1), (2, .slice A2 n2 c2), (6, .int .i64 0)] ⟨rfl, rfl, rfl, rfl, trivial⟩ ?_
          refine CW.seq ?_
          refine CW.region_awh (C := fun w_ => St w w_ (.cells b0 (([.slice A_7_0 n_8_0 c_9_0] : List Value) ++ (([.slice A_7_1 n_8_1 c_9_1] : List Value) ++ (([.int .i64 a_14_2] : List Value) ++ (([.bool a_14_3] : List Value) ++ ([.slice A_7_4 n_8_4 c_9_4] : List Value))))) 66 :: .sl A_7_0 c_9_0 n_8_0 x_11_0 22 1 :: .sl A_7_4 c_9_4 n_8_4 x_11_4 71 2 :: (T_5 ++ R))) 11 wide (by kernel_rfl) st_18 (fun w_104 st_105 => ?_)
          have st_106 : St w w_104 (.cells b0 (([.slice A_7_0 n_8_0 c_9_0] : List Value) ++ (([.slice A_7_1 n_8_1 c_9_1] : List Value) ++ (([.int .i64 a_14_2] : List Value) ++ (([.bool a_14_3] : List Value) ++ ([.slice A_7_4 n_8_4 c_9_4] : List Value))))) 66 :: .sl A_7_0 c_9_0 n_8_0 x_11_0 22 1 :: .sl A_7_4 c_9_4 n_8_4 x_11_4 71 2 :: (T_5 ++ R)) := (St.pickT (L := [_, _, _, _]) st_105 [0, 1, 3] (by decide))
          refine AWH.take 0 rfl (by decide) (by kernel_rfl) (by kernel_rfl) (St.subset st_106 st_105 (List.forall_mem_cons.2 ⟨List.mem_of_getElem? (i := 0) rfl, (List.forall_mem_cons.2 ⟨List.mem_of_getElem? (i := 1) rfl, (List.forall_mem_cons.2 ⟨List.mem_of_getElem? (i := 3) rfl, (mem_TR (A := [_, _, _, _]) (fun _ h_ => h_))⟩)⟩)⟩)) Wanted.none (fun wq sq => (Runs.move rfl)) ?_
          refine AWH.take 1 rfl (by decide) (by kernel_rfl) (by kernel_rfl) (St.subset st_106 st_105 (List.forall_mem_cons.2 ⟨List.mem_of_getElem? (i := 0) rfl, (List.forall_mem_cons.2 ⟨List.mem_of_getElem? (i := 1) rfl, (List.forall_mem_cons.2 ⟨List.mem_of_getElem? (i := 3) rfl, (mem_TR (A := [_, _, _, _]) (fun _ h_ => h_))⟩)⟩)⟩)) Wanted.none (fun wq sq => (Runs.move rfl)) ?_
          refine AWH.take 2 rfl (by decide) (by kernel_rfl) (by kernel_rfl) (St.subset st_106 st_105 (List.forall_mem_cons.2 ⟨List.mem_of_getElem? (i := 0) rfl, (List.forall_mem_cons.2 ⟨List.mem_of_getElem? (i := 1) rfl, (List.forall_mem_cons.2 ⟨List.mem_of_getElem? (i := 3) rfl, (mem_TR (A := [_, _, _, _]) (fun _ h_ => h_))⟩)⟩)⟩)) Wanted.none (fun wq sq => (Runs.nilCheck rfl)) ?_
          refine AWH.take 3 rfl (by decide) (by kernel_rfl) (by kernel_rfl) (St.subset st_106 st_105 (List.forall_mem_cons.2 ⟨List.mem_of_getElem? (i := 0) rfl, (List.forall_mem_cons.2 ⟨List.mem_of_getElem? (i := 1) rfl, (List.forall_mem_cons.2 ⟨List.mem_of_getElem? (i := 3) rfl, (mem_TR (A := [_, _, _, _]) (fun _ h_ => h_))⟩)⟩)⟩)) Wanted.none (fun wq sq => (Runs.fieldAddr (off := 1) (p := 1) fld66_1 rfl rfl rfl)) ?_
          refine AWH.take 4 rfl (by decide) (by kernel_rfl) (by kernel_rfl) (St.subset st_106 st_105 (List.forall_mem_cons.2 ⟨List.mem_of_getElem? (i := 0) rfl, (List.forall_mem_cons.2 ⟨List.mem_of_getElem? (i := 1) rfl, (List.forall_mem_cons.2 ⟨List.mem_of_getElem? (i := 3) rfl, (mem_TR (A := [_, _, _, _]) (fun _ h_ => h_))⟩)⟩)⟩)) Wanted.none (fun wq sq => (Runs.load nagg64 rfl (sq.cell (k := 0) rfl (part_one (u := .slice A_7_1 n_8_1 c_9_1) (pre := (([.slice A_7_0 n_8_0 c_9_0] : List Value))) (post := (([.int .i64 a_14_2] : List Value) ++ (([.bool a_14_3] : List Value) ++ ([.slice A_7_4 n_8_4 c_9_4] : List Value)))) (by first | rfl | simp only [List.append_assoc, List.append_nil, List.nil_append, List.cons_append]) (by first | rfl | simp only [List.length_append, List.length_cons, List.length_nil, iv_length]))))) ?_
          refine AWH.take 5 rfl (by decide) (by kernel_rfl) (by kernel_rfl) (St.subset st_106 st_105 (List.forall_mem_cons.2 ⟨List.mem_of_getElem? (i := 0) rfl, (List.forall_mem_cons.2 ⟨List.mem_of_getElem? (i := 1) rfl, (List.forall_mem_cons.2 ⟨List.mem_of_getElem? (i := 3) rfl, (mem_TR (A := [_, _, _, _]) (fun _ h_ => h_))⟩)⟩)⟩)) Wanted.none (fun wq sq => (Runs.move rfl)) ?_
          refine AWH.take 6 rfl (by decide) (by kernel_rfl) (by kernel_rfl) (St.subset st_106 st_105 (List.forall_mem_cons.2 ⟨List.mem_of_getElem? (i := 0) rfl, (List.forall_mem_cons.2 ⟨List.mem_of_getElem? (i := 1) rfl, (List.forall_mem_cons.2 ⟨List.mem_of_getElem? (i := 3) rfl, (mem_TR (A := [_, _, _, _]) (fun _ h_ => h_))⟩)⟩)⟩)) Wanted.none (fun wq sq => (Runs.move rfl)) ?_
          refine AWH.step 7 rfl (by decide) (by kernel_rfl) (fun inv_ hs_ hk_ hc_ hn_ => ?_)
          obtain ⟨r_111, hr_107, H⟩ := H
          refine WL.call Wanted.none ent29 rfl (slices_Clone_s_byte_byte.calls w_104 l2 A2 n2 c2 ((hb2.2.2.at st_105 (mem_TR (A := [_, _, _, _]) (fun _ h_ => hs_6.1 _ h_)))) (hb2.1) (hb2.2.1) r_111 hr_107) ?_
          rintro _ w_108 ⟨A_112, c_113, n_114, hn_115, rfl, sc_110⟩
          have st_109 : St w w_108 (.sl A_112 c_113 n_114 (iv .u8 r_111) 5 1 :: .cells b0 (([.slice A_7_0 n_8_0 c_9_0] : List Value) ++ (([.slice A_7_1 n_8_1 c_9_1] : List Value) ++ (([.int .i64 a_14_2] : List Value) ++ (([.bool a_14_3] : List Value) ++ ([.slice A_7_4 n_8_4 c_9_4] : List Value))))) 66 :: .sl A_7_0 c_9_0 n_8_0 x_11_0 22 1 :: .sl A_7_1 c_9_1 n_8_1 x_11_1 69 2 :: .sl A_7_4 c_9_4 n_8_4 x_11_4 71 2 :: (T_5 ++ R)) := st_105.call sc_110
          refine ⟨_, rfl, ?_⟩
          refine WL.nil ?_
          refine AWH.back (St.subset st_106 st_109 (List.forall_mem_cons.2 ⟨List.mem_of_getElem? (i := 1) rfl, (List.forall_mem_cons.2 ⟨List.mem_of_getElem? (i := 2) rfl, (List.forall_mem_cons.2 ⟨List.mem_of_getElem? (i := 4) rfl, (mem_TR (A := [_, _, _, _, _]) (fun _ h_ => h_))⟩)⟩)⟩)) inv_ hs_ hk_ hc_ hn_ ?_
          refine AWH.take 8 rfl (by decide) (by kernel_rfl) (by kernel_rfl) (St.subset st_106 st_109 (List.forall_mem_cons.2 ⟨List.mem_of_getElem? (i := 1) rfl, (List.forall_mem_cons.2 ⟨List.mem_of_getElem? (i := 2) rfl, (List.forall_mem_cons.2 ⟨List.mem_of_getElem? (i := 4) rfl, (mem_TR (A := [_, _, _, _, _]) (fun _ h_ => h_))⟩)⟩)⟩)) Wanted.none (fun wq sq => (Runs.build_struct (ps := [(0, 1), (1, 1)]) (cs := (([.int .i64 a1] : List Value) ++ ([.slice A_112 n_114 c_113] : List Value))) plc69 zero69 rfl (by refine Fills.cons (o := 0) (ms := (([.int .i64 a1] : List Value))) (show _ = some (0, (([.int .i64 a1] : List Value)).length) by rw [show (([.int .i64 a1] : List Value)).length = 1 from (by first | rfl | simp only [List.length_append, List.length_cons, List.length_nil, iv_length])] <;> rfl) rfl (by have h1_ : (([.int .i64 a1] : List Value)).length = 1 := (by first | rfl | simp only [List.length_append, List.length_cons, List.length_nil, iv_length]); have h2_ : (([.int .i64 0] : List Value) ++ ([.slice none 0 0] : List Value)).length = 2 := (by first | rfl | simp only [List.length_append, List.length_cons, List.length_nil, iv_length]); omega) ?_; rw [show layV (([.int .i64 0] : List Value) ++ ([.slice none 0 0] : List Value)) 0 (([.int .i64 a1] : List Value)) = (([.int .i64 a1] : List Value) ++ ([.slice none 0 0] : List Value)) from (layV_mid (pre := (([] : List Value))) (mid := (([.int .i64 0] : List Value))) (post := (([.slice none 0 0] : List Value))) (by first | rfl | simp only [List.append_assoc, List.append_nil, List.nil_append, List.cons_append]) (by first | rfl | simp only [List.length_append, List.length_cons, List.length_nil, iv_length]) (Eq.trans (b := 1) (by first | rfl | simp only [List.length_append, List.length_cons, List.length_nil, iv_length]) (Eq.symm (by first | rfl | simp only [List.length_append, List.length_cons, List.length_nil, iv_length])))).trans (by first | rfl | simp only [List.append_assoc, List.append_nil, List.nil_append, List.cons_append])]; refine Fills.cons (o := 1) (ms := (([.slice A_112 n_114 c_113] : List Value))) (show _ = some (1, (([.slice A_112 n_114 c_113] : List Value)).length) by rw [show (([.slice A_112 n_114 c_113] : List Value)).length = 1 from (by first | rfl | simp only [List.length_append, List.length_cons, List.length_nil, iv_length])] <;> rfl) rfl (by have h1_ : (([.slice A_112 n_114 c_113] : List Value)).length = 1 := (by first | rfl | simp only [List.length_append, List.length_cons, List.length_nil, iv_length]); have h2_ : (([.int .i64 a1] : List Value) ++ ([.slice none 0 0] : List Value)).length = 2 := (by first | rfl | simp only [List.length_append, List.length_cons, List.length_nil, iv_length]); omega) ?_; rw [show layV (([.int .i64 a1] : List Value) ++ ([.slice none 0 0] : List Value)) 1 (([.slice A_112 n_114 c_113] : List Value)) = (([.int .i64 a1] : List Value) ++ ([.slice A_112 n_114 c_113] : List Value)) from (layV_mid (pre := (([.int .i64 a1] : List Value))) (mid := (([.slice none 0 0] : List Value))) (post := (([] : List Value))) (by first | rfl | simp only [List.append_assoc, List.append_nil, List.nil_append, List.cons_append]) (by first | rfl | simp only [List.length_append, List.length_cons, List.length_nil, iv_length]) (Eq.trans (b := 1) (by first | rfl | simp only [List.length_append, List.length_cons, List.length_nil, iv_length]) (Eq.symm (by first | rfl | simp only [List.length_append, List.length_cons, List.length_nil, iv_length])))).trans (by first | rfl | simp only [List.append_assoc, List.append_nil, List.nil_append, List.cons_append])]; exact Fills.nil))) ?_
          refine AWH.step 9 rfl (by decide) (by kernel_rfl) (fun inv_ hs_ hk_ hc_ hn_ => ?_)
          have hb_121c := st_109.cap (i := 0) rfl
          obtain ⟨T_117, hs_118, hm_119, st_120⟩ := St.freeze (A := []) (B := [_, _, _, _]) (T := T_5) (R := R) st_109
          have hb_121 : HB w T_117 A_112 n_114 c_113 (iv .u8 r_111) r_111.length := ⟨hn_115, hb_121c, Hd.of_sl hm_119⟩
          replace st_120 : St w w_108 (.cells b0 (([.slice A_7_0 n_8_0 c_9_0] : List Value) ++ (([.slice A_7_1 n_8_1 c_9_1] : List Value) ++ (([.int .i64 a_14_2] : List Value) ++ (([.bool a_14_3] : List Value) ++ ([.slice A_7_4 n_8_4 c_9_4] : List Value))))) 66 :: .sl A_7_0 c_9_0 n_8_0 x_11_0 22 1 :: .sl A_7_1 c_9_1 n_8_1 x_11_1 69 2 :: .sl A_7_4 c_9_4 n_8_4 x_11_4 71 2 :: (T_117 ++ R)) := st_120
          obtain ⟨ii_122, z_123, h_124, h_125, h_126, h_127⟩ := slr69_1
          refine WL.buildSlRows (sz := 2) (cs := (([.int .i64 a1] : List Value) ++ ([.slice A_112 n_114 c_113] : List Value))) st_120 Try.underlying64 h_124 h_125 h_126 (by decide) (by decide) h_127 rfl (by refine Fills.cons (o := 0) (ms := (([.int .i64 a1] : List Value) ++ ([.slice A_112 n_114 c_113] : List Value))) (show _ = some (0, (([.int .i64 a1] : List Value) ++ ([.slice A_112 n_114 c_113] : List Value)).length) by rw [show (([.int .i64 a1] : List Value) ++ ([.slice A_112 n_114 c_113] : List Value)).length = 2 from (by first | rfl | simp only [List.length_append, List.length_cons, List.length_nil, iv_length])] <;> rfl) rfl (by have h1_ : (([.int .i64 a1] : List Value) ++ ([.slice A_112 n_114 c_113] : List Value)).length = 2 := (by first | rfl | simp only [List.length_append, List.length_cons, List.length_nil, iv_length]); have h2_ : (([.int .i64 0] : List Value) ++ ([.slice none 0 0] : List Value)).length = 2 := (by first | rfl | simp only [List.length_append, List.length_cons, List.length_nil, iv_length]); omega) ?_; rw [show layV (([.int .i64 0] : List Value) ++ ([.slice none 0 0] : List Value)) 0 (([.int .i64 a1] : List Value) ++ ([.slice A_112 n_114 c_113] : List Value)) = (([.int .i64 a1] : List Value) ++ ([.slice A_112 n_114 c_113] : List Value)) from (layV_mid (pre := (([] : List Value))) (mid := (([.int .i64 0] : List Value) ++ ([.slice none 0 0] : List Value))) (post := (([] : List Value))) (by first | rfl | simp only [List.append_assoc, List.append_nil, List.nil_append, List.cons_append]) (by first | rfl | simp only [List.length_append, List.length_cons, List.length_nil, iv_length]) (Eq.trans (b := 2) (by first | rfl | simp only [List.length_append, List.length_cons, List.length_nil, iv_length]) (Eq.symm (by first | rfl | simp only [List.length_append, List.length_cons, List.length_nil, iv_length])))).trans (by first | rfl | simp only [List.append_assoc, List.append_nil, List.nil_append, List.cons_append])]; exact Fills.nil) ?_
          intro B_128 w_129 st_130
          replace st_130 : St w w_129 (.cells B_128 (([.int .i64 a1] : List Value) ++ ([.slice A_112 n_114 c_113] : List Value)) 69 :: .cells b0 (([.slice A_7_0 n_8_0 c_9_0] : List Value) ++ (([.slice A_7_1 n_8_1 c_9_1] : List Value) ++ (([.int .i64 a_14_2] : List Value) ++ (([.bool a_14_3] : List Value) ++ ([.slice A_7_4 n_8_4 c_9_4] : List Value))))) 66 :: .sl A_7_0 c_9_0 n_8_0 x_11_0 22 1 :: .sl A_7_1 c_9_1 n_8_1 x_11_1 69 2 :: .sl A_7_4 c_9_4 n_8_4 x_11_4 71 2 :: (T_117 ++ R)) := st_130
          have st_132 := St.rows_sl (i := 0) (m := 1) (size := 2) st_130 rfl rfl (by decide)
          obtain ⟨x_133, e_134⟩ : ∃ x_ : Cells, x_ = ([.int .i64 a1] : List Value) ++ ([.slice A_112 n_114 c_113] : List Value) := ⟨_, rfl⟩
          have hx_135 : HRs T_117 (f69 w) x_133 ([(a1, r_111)] : List R69) := by rw [e_134]; exact (HRs.one (.cons rfl (.cons ⟨_, _, _, rfl, hb_121⟩ .nil)))
          replace st_132 : St w w_129 (.sl (some ⟨B_128, 0, none⟩) 1 1 x_133 69 2 :: .cells b0 (([.slice A_7_0 n_8_0 c_9_0] : List Value) ++ (([.slice A_7_1 n_8_1 c_9_1] : List Value) ++ (([.int .i64 a_14_2] : List Value) ++ (([.bool a_14_3] : List Value) ++ ([.slice A_7_4 n_8_4 c_9_4] : List Value))))) 66 :: .sl A_7_0 c_9_0 n_8_0 x_11_0 22 1 :: .sl A_7_1 c_9_1 n_8_1 x_11_1 69 2 :: .sl A_7_4 c_9_4 n_8_4 x_11_4 71 2 :: (T_117 ++ R)) := by rw [e_134]; exact st_132
          refine WL.nil ?_
          refine AWH.back (St.subset st_106 st_132 (List.forall_mem_cons.2 ⟨List.mem_of_getElem? (i := 1) rfl, (List.forall_mem_cons.2 ⟨List.mem_of_getElem? (i := 2) rfl, (List.forall_mem_cons.2 ⟨List.mem_of_getElem? (i := 4) rfl, (mem_TR (A := [_, _, _, _, _]) (fun _ h_ => hs_118.1 _ h_))⟩)⟩)⟩)) inv_ hs_ hk_ hc_ hn_ ?_
          refine AWH.step 10 rfl (by decide) (by kernel_rfl) (fun inv_ hs_ hk_ hc_ hn_ => ?_)
          obtain ⟨m_136, e_137, H⟩ := H
          obtain ⟨z_138, H⟩ := H
          obtain ⟨n_141, hn_144⟩ : ∃ n_ : Nat, n_ = m_136.length := ⟨_, rfl⟩
          refine WL.appendR (i := 3) (N := n_141) (news := x_133) Wanted.none st_132 rfl Try.underlying64 elemS69 rfl rfl (st_132.src_sl (k := 0) rfl) (by have h1_ := (hx_135).length (fz69 w); have h2_ : 1 = ([(a1, r_111)] : List R69).length := rfl; rw [h1_, h2_]) (HLs.one hx_135) (by decide) (by have h1_ : n_8_1 = l_10_1.length := hn_12_1; have h2_ : 1 = ([(a1, r_111)] : List R69).length := rfl; rw [hn_144, e_137, List.length_append]; omega) (by rw [hn_144]; exact z_138) ?_
          intro A_139 c_140 w_142 st_143
          obtain ⟨x_145, e_146⟩ : ∃ x_ : Cells, x_ = x_11_1 ++ x_133 := ⟨_, rfl⟩
          have hx_147 : HRs T_117 (f69 w) x_145 m_136 := by rw [e_146, e_137]; exact HRs.append (hx_13_1.mono (fun _ h_ => hs_118.1 _ h_)) hx_135
          replace st_143 : St w w_142 (.sl (some ⟨B_128, 0, none⟩) 1 1 x_133 69 2 :: .cells b0 (([.slice A_7_0 n_8_0 c_9_0] : List Value) ++ (([.slice A_7_1 n_8_1 c_9_1] : List Value) ++ (([.int .i64 a_14_2] : List Value) ++ (([.bool a_14_3] : List Value) ++ ([.slice A_7_4 n_8_4 c_9_4] : List Value))))) 66 :: .sl A_7_0 c_9_0 n_8_0 x_11_0 22 1 :: .sl A_139 c_140 n_141 x_145 69 2 :: .sl A_7_4 c_9_4 n_8_4 x_11_4 71 2 :: (T_117 ++ R)) := by rw [e_146]; exact st_143
          refine WL.nil ?_
          refine AWH.back (St.subset st_106 st_143 (List.forall_mem_cons.2 ⟨List.mem_of_getElem? (i := 1) rfl, (List.forall_mem_cons.2 ⟨List.mem_of_getElem? (i := 2) rfl, (List.forall_mem_cons.2 ⟨List.mem_of_getElem? (i := 4) rfl, (mem_TR (A := [_, _, _, _, _]) (fun _ h_ => hs_118.1 _ h_))⟩)⟩)⟩)) inv_ hs_ hk_ hc_ hn_ ?_
          refine AWH.tail (by kernel_rfl) ?_
          refine AW.take 11 rfl (by kernel_rfl) (by kernel_rfl) (by kernel_rfl) Wanted.none (fun _ => (Runs.nilCheck rfl)) ?_
          refine AW.take 12 rfl (by kernel_rfl) (by kernel_rfl) (by kernel_rfl) Wanted.none (fun _ => (Runs.fieldAddr (off := 1) (p := 1) fld66_1 rfl rfl rfl)) ?_
          refine AW.step 13 rfl (by kernel_rfl) ?_
          refine WL.store_one (i := 1) (u0 := .slice A_7_1 n_8_1 c_9_1) (pre := (([.slice A_7_0 n_8_0 c_9_0] : List Value))) (post := (([.int .i64 a_14_2] : List Value) ++ (([.bool a_14_3] : List Value) ++ ([.slice A_7_4 n_8_4 c_9_4] : List Value)))) st_143 rfl cells64 (by first | rfl | simp only [List.append_assoc, List.append_nil, List.nil_append, List.cons_append]) (by first | rfl | simp only [List.length_append, List.length_cons, List.length_nil, iv_length]) rfl rfl rfl ?_
          intro w_148 st_149
          replace st_149 : St w w_148 (.sl (some ⟨B_128, 0, none⟩) 1 1 x_133 69 2 :: .cells b0 (([.slice A_7_0 n_8_0 c_9_0] : List Value) ++ (([.slice A_139 n_141 c_140] : List Value) ++ (([.int .i64 a_14_2] : List Value) ++ (([.bool a_14_3] : List Value) ++ ([.slice A_7_4 n_8_4 c_9_4] : List Value))))) 66 :: .sl A_7_0 c_9_0 n_8_0 x_11_0 22 1 :: .sl A_139 c_140 n_141 x_145 69 2 :: .sl A_7_4 c_9_4 n_8_4 x_11_4 71 2 :: (T_117 ++ R)) := by have e_ : (([.slice A_7_0 n_8_0 c_9_0] : List Value) ++ (([.slice A_139 n_141 c_140] : List Value) ++ (([.int .i64 a_14_2] : List Value) ++ (([.bool a_14_3] : List Value) ++ ([.slice A_7_4 n_8_4 c_9_4] : List Value))))) = (([.slice A_7_0 n_8_0 c_9_0] : List Value)) ++ ((([.slice A_139 n_141 c_140] : List Value)) ++ (([.int .i64 a_14_2] : List Value) ++ (([.bool a_14_3] : List Value) ++ ([.slice A_7_4 n_8_4 c_9_4] : List Value)))) := (by first | rfl | simp only [List.append_assoc, List.append_nil, List.nil_append, List.cons_append]); have h_ : St w w_148 (.sl (some ⟨B_128, 0, none⟩) 1 1 x_133 69 2 :: .cells b0 ((([.slice A_7_0 n_8_0 c_9_0] : List Value)) ++ ((([.slice A_139 n_141 c_140] : List Value)) ++ (([.int .i64 a_14_2] : List Value) ++ (([.bool a_14_3] : List Value) ++ ([.slice A_7_4 n_8_4 c_9_4] : List Value))))) 66 :: .sl A_7_0 c_9_0 n_8_0 x_11_0 22 1 :: .sl A_139 c_140 n_141 x_145 69 2 :: .sl A_7_4 c_9_4 n_8_4 x_11_4 71 2 :: (T_117 ++ R)) := st_149; rw [← e_] at h_; exact h_
          refine WL.nil ?_
          refine AW.back  ?_
          refine AW.done (by kernel_rfl) ?_
          refine QW.then_n ?_
          refine CW.sub [(0, .pointer (some ⟨b0, 0, none⟩)), (1, .int .i64 a1), (6, .int .i64 0)] ⟨rfl, rfl, rfl, trivial⟩ ?_
          refine CW.seq ?_
          refine CW.region ?_
          refine WL.val Wanted.none (Runs.move rfl) ?_
          refine WL.val Wanted.none (Runs.move rfl) ?_
          refine WL.val Wanted.none (Runs.nilCheck rfl) ?_
          refine WL.val Wanted.none (Runs.fieldAddr (off := 4) (p := 4) fld66_4 rfl rfl rfl) ?_
          refine WL.val Wanted.none (Runs.load nagg61 rfl (st_149.cell (k := 1) rfl (part_one (u := .slice A_7_4 n_8_4 c_9_4) (pre := (([.slice A_7_0 n_8_0 c_9_0] : List Value) ++ (([.slice A_139 n_141 c_140] : List Value) ++ (([.int .i64 a_14_2] : List Value) ++ ([.bool a_14_3] : List Value))))) (post := (([] : List Value))) (by first | rfl | simp only [List.append_assoc, List.append_nil, List.nil_append, List.cons_append]) (by first | rfl | simp only [List.length_append, List.length_cons, List.length_nil, iv_length])))) ?_
          refine WL.val Wanted.none (Runs.move rfl) ?_
          refine WL.val Wanted.none (Runs.build_struct (ps := [(0, 1), (1, 1)]) (cs := (([.int .i64 2] : List Value) ++ ([.int .i64 a1] : List Value))) plc71 zero71 rfl (by refine Fills.cons (o := 0) (ms := (([.int .i64 2] : List Value))) (show _ = some (0, (([.int .i64 2] : List Value)).length) by rw [show (([.int .i64 2] : List Value)).length = 1 from (by first | rfl | simp only [List.length_append, List.length_cons, List.length_nil, iv_length])] <;> rfl) rfl (by have h1_ : (([.int .i64 2] : List Value)).length = 1 := (by first | rfl | simp only [List.length_append, List.length_cons, List.length_nil, iv_length]); have h2_ : (([.int .i64 0] : List Value) ++ ([.int .i64 0] : List Value)).length = 2 := (by first | rfl | simp only [List.length_append, List.length_cons, List.length_nil, iv_length]); omega) ?_; rw [show layV (([.int .i64 0] : List Value) ++ ([.int .i64 0] : List Value)) 0 (([.int .i64 2] : List Value)) = (([.int .i64 2] : List Value) ++ ([.int .i64 0] : List Value)) from (layV_mid (pre := (([] : List Value))) (mid := (([.int .i64 0] : List Value))) (post := (([.int .i64 0] : List Value))) (by first | rfl | simp only [List.append_assoc, List.append_nil, List.nil_append, List.cons_append]) (by first | rfl | simp only [List.length_append, List.length_cons, List.length_nil, iv_length]) (Eq.trans (b := 1) (by first | rfl | simp only [List.length_append, List.length_cons, List.length_nil, iv_length]) (Eq.symm (by first | rfl | simp only [List.length_append, List.length_cons, List.length_nil, iv_length])))).trans (by first | rfl | simp only [List.append_assoc, List.append_nil, List.nil_append, List.cons_append])]; refine Fills.cons (o := 1) (ms := (([.int .i64 a1] : List Value))) (show _ = some (1, (([.int .i64 a1] : List Value)).length) by rw [show (([.int .i64 a1] : List Value)).length = 1 from (by first | rfl | simp only [List.length_append, List.length_cons, List.length_nil, iv_length])] <;> rfl) rfl (by have h1_ : (([.int .i64 a1] : List Value)).length = 1 := (by first | rfl | simp only [List.length_append, List.length_cons, List.length_nil, iv_length]); have h2_ : (([.int .i64 2] : List Value) ++ ([.int .i64 0] : List Value)).length = 2 := (by first | rfl | simp only [List.length_append, List.length_cons, List.length_nil, iv_length]); omega) ?_; rw [show layV (([.int .i64 2] : List Value) ++ ([.int .i64 0] : List Value)) 1 (([.int .i64 a1] : List Value)) = (([.int .i64 2] : List Value) ++ ([.int .i64 a1] : List Value)) from (layV_mid (pre := (([.int .i64 2] : List Value))) (mid := (([.int .i64 0] : List Value))) (post := (([] : List Value))) (by first | rfl | simp only [List.append_assoc, List.append_nil, List.nil_append, List.cons_append]) (by first | rfl | simp only [List.length_append, List.length_cons, List.length_nil, iv_length]) (Eq.trans (b := 1) (by first | rfl | simp only [List.length_append, List.length_cons, List.length_nil, iv_length]) (Eq.symm (by first | rfl | simp only [List.length_append, List.length_cons, List.length_nil, iv_length])))).trans (by first | rfl | simp only [List.append_assoc, List.append_nil, List.nil_append, List.cons_append])]; exact Fills.nil)) ?_
          obtain ⟨ii_150, z_151, h_152, h_153, h_154, h_155⟩ := slr71_1
          refine WL.buildSlRows (sz := 2) (cs := (([.int .i64 2] : List Value) ++ ([.int .i64 a1] : List Value))) st_149 Try.underlying61 h_152 h_153 h_154 (by decide) (by decide) h_155 rfl (by refine Fills.cons (o := 0) (ms := (([.int .i64 2] : List Value) ++ ([.int .i64 a1] : List Value))) (show _ = some (0, (([.int .i64 2] : List Value) ++ ([.int .i64 a1] : List Value)).length) by rw [show (([.int .i64 2] : List Value) ++ ([.int .i64 a1] : List Value)).length = 2 from (by first | rfl | simp only [List.length_append, List.length_cons, List.length_nil, iv_length])] <;> rfl) rfl (by have h1_ : (([.int .i64 2] : List Value) ++ ([.int .i64 a1] : List Value)).length = 2 := (by first | rfl | simp only [List.length_append, List.length_cons, List.length_nil, iv_length]); have h2_ : (([.int .i64 0] : List Value) ++ ([.int .i64 0] : List Value)).length = 2 := (by first | rfl | simp only [List.length_append, List.length_cons, List.length_nil, iv_length]); omega) ?_; rw [show layV (([.int .i64 0] : List Value) ++ ([.int .i64 0] : List Value)) 0 (([.int .i64 2] : List Value) ++ ([.int .i64 a1] : List Value)) = (([.int .i64 2] : List Value) ++ ([.int .i64 a1] : List Value)) from (layV_mid (pre := (([] : List Value))) (mid := (([.int .i64 0] : List Value) ++ ([.int .i64 0] : List Value))) (post := (([] : List Value))) (by first | rfl | simp only [List.append_assoc, List.append_nil, List.nil_append, List.cons_append]) (by first | rfl | simp only [List.length_append, List.length_cons, List.length_nil, iv_length]) (Eq.trans (b := 2) (by first | rfl | simp only [List.length_append, List.length_cons, List.length_nil, iv_length]) (Eq.symm (by first | rfl | simp only [List.length_append, List.length_cons, List.length_nil, iv_length])))).trans (by first | rfl | simp only [List.append_assoc, List.append_nil, List.nil_append, List.cons_append])]; exact Fills.nil) ?_
          intro B_156 w_157 st_158
          replace st_158 : St w w_157 (.cells B_156 (([.int .i64 2] : List Value) ++ ([.int .i64 a1] : List Value)) 71 :: .sl (some ⟨B_128, 0, none⟩) 1 1 x_133 69 2 :: .cells b0 (([.slice A_7_0 n_8_0 c_9_0] : List Value) ++ (([.slice A_139 n_141 c_140] : List Value) ++ (([.int .i64 a_14_2] : List Value) ++ (([.bool a_14_3] : List Value) ++ ([.slice A_7_4 n_8_4 c_9_4] : List Value))))) 66 :: .sl A_7_0 c_9_0 n_8_0 x_11_0 22 1 :: .sl A_139 c_140 n_141 x_145 69 2 :: .sl A_7_4 c_9_4 n_8_4 x_11_4 71 2 :: (T_117 ++ R)) := st_158
          have st_160 := St.rows_sl (i := 0) (m := 1) (size := 2) st_158 rfl rfl (by decide)
          obtain ⟨x_161, e_162⟩ : ∃ x_ : Cells, x_ = ([.int .i64 2] : List Value) ++ ([.int .i64 a1] : List Value) := ⟨_, rfl⟩
          have hx_163 : HRs T_117 (f71 w) x_161 ([(2, a1)] : List R71) := by rw [e_162]; exact (HRs.one (.cons rfl (.cons rfl .nil)))
          replace st_160 : St w w_157 (.sl (some ⟨B_156, 0, none⟩) 1 1 x_161 71 2 :: .sl (some ⟨B_128, 0, none⟩) 1 1 x_133 69 2 :: .cells b0 (([.slice A_7_0 n_8_0 c_9_0] : List Value) ++ (([.slice A_139 n_141 c_140] : List Value) ++ (([.int .i64 a_14_2] : List Value) ++ (([.bool a_14_3] : List Value) ++ ([.slice A_7_4 n_8_4 c_9_4] : List Value))))) 66 :: .sl A_7_0 c_9_0 n_8_0 x_11_0 22 1 :: .sl A_139 c_140 n_141 x_145 69 2 :: .sl A_7_4 c_9_4 n_8_4 x_11_4 71 2 :: (T_117 ++ R)) := by rw [e_162]; exact st_160
          obtain ⟨m_164, e_165, H⟩ := H
          obtain ⟨z_166, H⟩ := H
          obtain ⟨n_169, hn_172⟩ : ∃ n_ : Nat, n_ = m_164.length := ⟨_, rfl⟩
          refine WL.appendR (i := 5) (N := n_169) (news := x_161) Wanted.none st_160 rfl Try.underlying61 elemS71 rfl rfl (st_160.src_sl (k := 0) rfl) (by have h1_ := (hx_163).length (fz71 w); have h2_ : 1 = ([(2, a1)] : List R71).length := rfl; rw [h1_, h2_]) (HLs.one hx_163) (by decide) (by have h1_ : n_8_4 = l_10_4.length := hn_12_4; have h2_ : 1 = ([(2, a1)] : List R71).length := rfl; rw [hn_172, e_165, List.length_append]; omega) (by rw [hn_172]; exact z_166) ?_
          intro A_167 c_168 w_170 st_171
          obtain ⟨x_173, e_174⟩ : ∃ x_ : Cells, x_ = x_11_4 ++ x_161 := ⟨_, rfl⟩
          have hx_175 : HRs T_117 (f71 w) x_173 m_164 := by rw [e_174, e_165]; exact HRs.append (hx_13_4.mono (fun _ h_ => hs_118.1 _ h_)) hx_163
          replace st_171 : St w w_170 (.sl (some ⟨B_156, 0, none⟩) 1 1 x_161 71 2 :: .sl (some ⟨B_128, 0, none⟩) 1 1 x_133 69 2 :: .cells b0 (([.slice A_7_0 n_8_0 c_9_0] : List Value) ++ (([.slice A_139 n_141 c_140] : List Value) ++ (([.int .i64 a_14_2] : List Value) ++ (([.bool a_14_3] : List Value) ++ ([.slice A_7_4 n_8_4 c_9_4] : List Value))))) 66 :: .sl A_7_0 c_9_0 n_8_0 x_11_0 22 1 :: .sl A_139 c_140 n_141 x_145 69 2 :: .sl A_167 c_168 n_169 x_173 71 2 :: (T_117 ++ R)) := by rw [e_174]; exact st_171
          refine WL.val Wanted.none (Runs.nilCheck rfl) ?_
          refine WL.val Wanted.none (Runs.fieldAddr (off := 4) (p := 4) fld66_4 rfl rfl rfl) ?_
          refine WL.store_one (i := 2) (u0 := .slice A_7_4 n_8_4 c_9_4) (pre := (([.slice A_7_0 n_8_0 c_9_0] : List Value) ++ (([.slice A_139 n_141 c_140] : List Value) ++ (([.int .i64 a_14_2] : List Value) ++ ([.bool a_14_3] : List Value))))) (post := (([] : List Value))) st_171 rfl cells61 (by first | rfl | simp only [List.append_assoc, List.append_nil, List.nil_append, List.cons_append]) (by first | rfl | simp only [List.length_append, List.length_cons, List.length_nil, iv_length]) rfl rfl rfl ?_
          intro w_176 st_177
          replace st_177 : St w w_176 (.sl (some ⟨B_156, 0, none⟩) 1 1 x_161 71 2 :: .sl (some ⟨B_128, 0, none⟩) 1 1 x_133 69 2 :: .cells b0 (([.slice A_7_0 n_8_0 c_9_0] : List Value) ++ (([.slice A_139 n_141 c_140] : List Value) ++ (([.int .i64 a_14_2] : List Value) ++ (([.bool a_14_3] : List Value) ++ ([.slice A_167 n_169 c_168] : List Value))))) 66 :: .sl A_7_0 c_9_0 n_8_0 x_11_0 22 1 :: .sl A_139 c_140 n_141 x_145 69 2 :: .sl A_167 c_168 n_169 x_173 71 2 :: (T_117 ++ R)) := by have e_ : (([.slice A_7_0 n_8_0 c_9_0] : List Value) ++ (([.slice A_139 n_141 c_140] : List Value) ++ (([.int .i64 a_14_2] : List Value) ++ (([.bool a_14_3] : List Value) ++ ([.slice A_167 n_169 c_168] : List Value))))) = (([.slice A_7_0 n_8_0 c_9_0] : List Value) ++ (([.slice A_139 n_141 c_140] : List Value) ++ (([.int .i64 a_14_2] : List Value) ++ ([.bool a_14_3] : List Value)))) ++ ((([.slice A_167 n_169 c_168] : List Value)) ++ (([] : List Value))) := (by first | rfl | simp only [List.append_assoc, List.append_nil, List.nil_append, List.cons_append]); have h_ : St w w_176 (.sl (some ⟨B_156, 0, none⟩) 1 1 x_161 71 2 :: .sl (some ⟨B_128, 0, none⟩) 1 1 x_133 69 2 :: .cells b0 ((([.slice A_7_0 n_8_0 c_9_0] : List Value) ++ (([.slice A_139 n_141 c_140] : List Value) ++ (([.int .i64 a_14_2] : List Value) ++ ([.bool a_14_3] : List Value)))) ++ ((([.slice A_167 n_169 c_168] : List Value)) ++ (([] : List Value)))) 66 :: .sl A_7_0 c_9_0 n_8_0 x_11_0 22 1 :: .sl A_139 c_140 n_141 x_145 69 2 :: .sl A_167 c_168 n_169 x_173 71 2 :: (T_117 ++ R)) := st_177; rw [← e_] at h_; exact h_
          refine WL.nil ?_
          refine QW.then_n ?_
          refine CW.sub [(6, .int .i64 0)] ⟨rfl, trivial⟩ ?_
          refine CW.seq ?_
          refine CW.region ?_
          refine WL.val Wanted.none (Runs.assign rfl) ?_
          refine WL.nil ?_
          refine QW.then_n ?_
          refine CW.ret ?_
          obtain ⟨rfl, rfl, rfl, rfl, rfl, rfl⟩ := H
          exact QW.ret1 rfl rfl ⟨T_117, A_7_0, n_8_0, c_9_0, x_11_0, A_139, n_141, c_140, x_145, A_167, n_169, c_168, x_173, (hs_6.trans hs_118), hn_12_0, (hx_13_0.mono (fun _ h_ => hs_118.1 _ h_)), hn_144, hx_147, hn_172, hx_175, rfl, (St.pickT (L := [_, _, _, _, _, _]) st_177 [2, 3, 4, 5] (by decide))⟩

/-! ### slices.Backward: its iterator, function 43 -/
def bkenc (xs : List Value) (M j : Nat) : List Value := [.int .i64 ((M - 1 - j : Nat) : Int), .agg ((xs.drop ((M - 1 - j) * 2)).take 2).toArray]
def KpK (B1 : Nat) (A : Option Addr) (m : Nat) (W W' : World) : Prop := W'.cell? ⟨B1, 0, none⟩ = W.cell? ⟨B1, 0, none⟩ ∧ ∀ a, A = some a → ∀ p, p < m → W'.cell? (a.add p) = W.cell? (a.add p)
theorem KpK.trans {B1 : Nat} {A : Option Addr} {m : Nat} {W W' W2 : World} (h : KpK B1 A m W W') (k : KpK B1 A m W' W2) : KpK B1 A m W W2 := ⟨k.1.trans h.1, fun a ha p hp => (k.2 a ha p hp).trans (h.2 a ha p hp)⟩
theorem bkw {x : Int} (h0 : -9223372036854775808 ≤ x) (h1 : x ≤ 9223372036854775807) : IntKind.i64.wrap x = x := by rw [IntKind.wrap_i64]; omega
theorem src_part {W : World} {A : Option Addr} {a : Addr} {xs : List Value} (h : Src W A xs) (hA : A = some a) (o m : Nat) : Src W (some (a.add o)) ((xs.drop o).take m) := fun j v hv => by
  rw [List.getElem?_take] at hv
  split at hv
  · rw [List.getElem?_drop] at hv
    obtain ⟨a', ha', hc⟩ := h _ _ hv
    rw [hA] at ha'; cases ha'
    exact ⟨_, rfl, by rw [add_add]; exact hc⟩
  · cases hv
theorem src_keep {B1 : Nat} {A : Option Addr} {xs : List Value} {W W' : World} (h : Src W A xs) (k : KpK B1 A xs.length W W') : Src W' A xs := fun j v hv => by
  obtain ⟨a, ha, hc⟩ := h j v hv
  exact ⟨a, ha, by rw [k.2 a ha j (List.getElem?_eq_some_iff.1 hv).1]; exact hc⟩
theorem KpK.of {B1 : Nat} {A : Option Addr} {xs : List Value} {v : Value} {W W' : World} (h : Src W A xs) (h' : Src W' A xs) (c : W.cell? ⟨B1, 0, none⟩ = some v) (c' : W'.cell? ⟨B1, 0, none⟩ = some v) : KpK B1 A xs.length W W' := ⟨c'.trans c.symm, fun a ha p hp => by
  obtain ⟨a1, e1, k1⟩ := h p _ (List.getElem?_eq_getElem hp)
  obtain ⟨a2, e2, k2⟩ := h' p _ (List.getElem?_eq_getElem hp)
  rw [ha] at e1 e2; cases e1; cases e2
  rw [k1, k2]⟩
theorem KpK.put {B1 : Nat} {A : Option Addr} {xs : List Value} {w : World} (h1 : B1 < w.heap.size) (hs : Src w A xs) (W : World) (j : Nat) (o o' : Obj) (hj : w.heap.size ≤ j) (_ : W.heap[j]? = some o) (_ : o.isCells = false) : KpK B1 A xs.length W (W.putObj j o') := by
  have hb : ∀ p : Addr, p.block < w.heap.size → (W.putObj j o').cell? p = W.cell? p := fun p hp => by
    unfold World.cell?
    rw [World.putObj_heap_other (show p.block ≠ j by omega)]
  refine ⟨hb _ h1, fun a ha p hp => hb _ ?_⟩
  obtain ⟨a1, e1, k1⟩ := hs p _ (List.getElem?_eq_getElem hp)
  rw [ha] at e1; cases e1
  exact World.block_lt_of_cell? w _ k1
set_option maxHeartbeats 4000000 in
set_option maxRecDepth 100000 in
theorem backward_seq {w : World} {B1 M C : Nat} {A : Option Addr} {xs : List Value} (hb1 : w.cell? ⟨B1, 0, none⟩ = some (.slice A M C)) (hs : Src w A xs) (hl : xs.length = M * 2) (hMs : M ≤ 1099511627776) :
    SeqStopsK Fence.wide 2 Try.prog 43 #[.pointer (some ⟨B1, 0, none⟩)] (fun j : Fin M => (bkenc xs M j.val).toArray) (KpK B1 A xs.length) (fun ys => ys = List.finRange M) (fun ys => ∃ k, ys = (List.finRange M).take k) M w := by
  intro y J Jx W hW hJ hJx hY h0
  have c1 : W.cell? ⟨B1, 0, none⟩ = some (.slice A M C) := (hW.cell (p := ⟨B1, 0, none⟩) (block_lt_of_cell hb1)).trans hb1
  have c2 : Src W A xs := fun j v hv => by
    obtain ⟨a, ha, hc⟩ := hs j v hv
    exact ⟨a, ha, (hW.cell (World.block_lt_of_cell? w _ hc)).trans hc⟩
  refine callsIn_wide.2 ?_
  refine CW.enter Try.func43 rfl (n := 19) rfl [.func (.yield y) #[] #[], .pointer (some ⟨B1, 0, none⟩)] (Nat.le_of_ble_eq_true rfl) ?_
  refine CW.sub [(0, .func (.yield y) #[] #[]), (1, .pointer (some ⟨B1, 0, none⟩))] ⟨rfl, rfl, trivial⟩ ?_
  refine CW.seq ?_
  refine CW.region ?_
  refine WL.val Wanted.none (Runs.load nagg64 rfl c1) ?_
  refine WL.val Wanted.none (Runs.len_sl Try.underlying64 rfl rfl) ?_
  refine WL.val Wanted.none (Runs.sub rfl rfl (z := (M : Int) - 1) (by rw [bkw (by omega) (by omega)])) ?_
  refine WL.val Wanted.none (Runs.assign rfl) ?_
  refine WL.nil ?_
  refine QW.then_n ?_
  refine CW.block ?_
  refine CW.sub [(0, .func (.yield y) #[] #[]), (1, .pointer (some ⟨B1, 0, none⟩)), (3, .int .i64 ((M : Int) - 1))] ⟨rfl, rfl, rfl, trivial⟩ ?_
  refine CW.loop (fun k l_ w_ => ∃ j : Nat, k + j = M + 1 ∧ j ≤ M ∧ l_ = [(0, .func (.yield y) #[] #[]), (1, .pointer (some ⟨B1, 0, none⟩)), (3, .int .i64 ((M : Int) - 1 - (j : Int)))] ∧ J ((List.finRange M).take j) w_ ∧ w_.cell? ⟨B1, 0, none⟩ = some (.slice A M C) ∧ Src w_ A xs)
    (k := M + 1) ⟨0, by omega, by omega, by simp, h0, c1, c2⟩ (fun _ _ h => by obtain ⟨j, h1, h2, _⟩ := h; omega) ?_
  rintro k l1 w1 ⟨j, hkj, hjq, rfl, hJ1, d1, d2⟩
  refine CW.seq ?_
  refine CW.seq ?_
  refine CW.region ?_
  refine WL.val Wanted.none (Runs.move rfl) ?_
  refine WL.val Wanted.none (Runs.geq rfl rfl rfl) ?_
  refine WL.nil ?_
  refine QW.then_n ?_
  by_cases hlt : j < M
  · have hfin : (List.finRange M).take (j + 1) = (List.finRange M).take j ++ [⟨j, hlt⟩] := by
      rw [List.take_add_one]; simp [hlt]
    obtain ⟨a, hA⟩ : ∃ a, A = some a := by
      obtain ⟨a, ha, _⟩ := d2 0 xs[0] (List.getElem?_eq_getElem (by omega))
      exact ⟨a, ha⟩
    have e1 : (M : Int) - 1 - (j : Int) = ((M - 1 - j : Nat) : Int) := by omega
    refine CW.ct rfl (decide_eq_true (by omega)) ?_
    refine CW.skip ?_
    refine QW.then_n ?_
    refine CW.sub [(0, .func (.yield y) #[] #[]), (1, .pointer (some ⟨B1, 0, none⟩)), (3, .int .i64 ((M : Int) - 1 - (j : Int)))] ⟨rfl, rfl, rfl, trivial⟩ ?_
    refine CW.seq ?_
    refine CW.block ?_
    refine CW.seq ?_
    refine CW.region_y 2 ?_
    refine WY.val (Runs.move rfl) rfl ?_
    refine WY.val (Runs.move rfl) rfl ?_
    refine WY.val (Runs.load nagg64 rfl d1) rfl ?_
    refine WY.val (Runs.move rfl) rfl ?_
    refine WY.val (Runs.indexAddr (sz := 2) Try.underlying64 cells69 (by decide) rfl hA rfl (by omega) (by omega) (o := (M - 1 - j) * 2) (by rw [e1]; rfl)) rfl ?_
    refine WY.val (Runs.load_srcR row69 rfl (src_part d2 hA ((M - 1 - j) * 2) 2) (by rw [List.length_take, List.length_drop]; omega)) rfl ?_
    refine WY.yield rfl (vs := bkenc xs M j) (by rw [bkenc, ← e1]; rfl) (hY ((List.finRange M).take j) ⟨j, hlt⟩ w1 hJ1 (by simp; omega)) ?_
    rintro e w3 (⟨rfl, hJ3, hk3⟩ | ⟨rfl, hJx3⟩)
    · refine ⟨_, rfl, ?_⟩
      refine WY.val (Runs.not rfl rfl) rfl ?_
      refine WY.nil ?_
      refine QW.then_n ?_
      refine CW.cf rfl rfl ?_
      refine CW.skip ?_
      refine QW.blk_n ?_
      refine QW.then_n ?_
      refine CW.sub [(0, .func (.yield y) #[] #[]), (1, .pointer (some ⟨B1, 0, none⟩)), (3, .int .i64 ((M : Int) - 1 - (j : Int)))] ⟨rfl, rfl, rfl, trivial⟩ ?_
      refine CW.region ?_
      refine WL.val Wanted.none (Runs.move rfl) ?_
      refine WL.val Wanted.none (Runs.sub rfl rfl (z := (M : Int) - 1 - ((j + 1 : Nat) : Int)) (by rw [bkw (by omega) (by omega)]; omega)) ?_
      refine WL.val Wanted.none (Runs.assign rfl) ?_
      refine WL.nil ?_
      exact QW.at [(0, .func (.yield y) #[] #[]), (1, .pointer (some ⟨B1, 0, none⟩)), (3, .int .i64 ((M : Int) - 1 - ((j + 1 : Nat) : Int)))] ⟨rfl, rfl, rfl, trivial⟩ ⟨j + 1, by omega, by omega, rfl, by rw [hfin]; exact hJ3, hk3.1.trans d1, src_keep d2 hk3⟩
    · refine ⟨_, rfl, ?_⟩
      refine WY.val (Runs.not rfl rfl) rfl ?_
      refine WY.nil ?_
      refine QW.then_n ?_
      refine CW.ct rfl rfl ?_
      refine CW.ret ?_
      refine QW.blk_r ?_
      refine QW.then_r ?_
      refine QW.then_r ?_
      refine QW.blk_r ?_
      exact QW.ret0 rfl ⟨⟨_, rfl⟩, .inr ⟨_, ⟨j + 1, hfin.symm⟩, hJx3⟩⟩
  · obtain rfl : j = M := by omega
    refine CW.cf rfl (decide_eq_false (by omega)) ?_
    refine CW.exit ?_
    refine QW.then_x ?_
    refine QW.then_x ?_
    refine QW.blk_x ?_
    exact QW.end0 rfl ⟨⟨_, rfl⟩, .inl ⟨_, rfl, by rw [List.take_of_length_le (by simp)] at hJ1; exact hJ1⟩⟩
theorem slices_Backward.calls (w : World) (A : Option Addr) (M C : Nat) :
    Calls Try.prog 30 #[.slice A M C] w fun e w' => ∃ B1, e = .returned (.func (.func 43) #[] #[.pointer (some ⟨B1, 0, none⟩)]) ∧ St w w' [.cells B1 [.slice A M C] 64] := by
  refine CW.enter Try.func30 rfl (n := 4) rfl [.slice A M C] (Nat.le_of_ble_eq_true rfl) ?_
  refine CW.sub [(0, .slice A M C)] ⟨rfl, trivial⟩ ?_
  have st0 : St w w [] := St.refl w
  refine CW.seq ?_
  refine CW.region ?_
  refine WL.box st0 rfl rfl ?_
  intro B1 w1 st1
  refine WL.val Wanted.none (Runs.assign rfl) ?_
  refine WL.nil ?_
  refine QW.then_n ?_
  refine CW.seq ?_
  refine CW.region ?_
  refine WL.val Wanted.none (Runs.makeFunc (vs := [.pointer (some ⟨B1, 0, none⟩)]) rfl) ?_
  refine WL.val Wanted.none (Runs.assign rfl) ?_
  refine WL.nil ?_
  refine QW.then_n ?_
  refine CW.ret ?_
  exact QW.ret1 rfl rfl ⟨B1, rfl, st1⟩

end Go.Proofs.Ytjlifbnkdfofhaa
