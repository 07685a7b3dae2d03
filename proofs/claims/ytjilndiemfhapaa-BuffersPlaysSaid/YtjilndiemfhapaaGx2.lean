/- Walks: each function computes what its relation says, and a call of it ends so. Printed by a program of this session (wip/gen). -/
import Derived.Test.YtjilndiemfhapaaGx1
namespace Go.Proofs.Ytjilndiemfhapaa
open Go Go.Kr Go.RowKit
set_option linter.unusedVariables false
set_option linter.unusedSimpArgs false
/-! ### reliquaryref15_Find: function 26 -/
def reliquaryref15_Find.L1 (l0 : List R51) (a1 : Int) (ar0 : Int) : Nat → Int → Int → Prop
  | 0, _, _ => False
  | kL1 + 1, x_4, x_5 => ((x_5 < (l0.length : Int) ∧ ((0 ≤ x_5 ∧ x_5 < (l0.length : Int)) ∧ ((((gx l0 ((x_5).toNat)).1) = a1 ∧ ar0 = x_5) ∨ (¬ (((gx l0 ((x_5).toNat)).1) = a1) ∧ reliquaryref15_Find.L1 l0 a1 ar0 kL1 x_4 (IntKind.i64.wrap (x_5 + 1)))))) ∨ (¬ (x_5 < (l0.length : Int)) ∧ ar0 = -1))
def reliquaryref15_Find.rel (l0 : List R51) (a1 : Int) (ar0 : Int) : Prop := (∃ k_ : Nat, reliquaryref15_Find.L1 l0 a1 ar0 k_ 0 0)
set_option maxHeartbeats 1000000 in
set_option maxRecDepth 100000 in
theorem reliquaryref15_Find.calls (w w1 : World) (T R : Pool) (l0 : List R51) (a1 : Int) (A0 : Option Addr) (n0 : Nat) (c0 : Nat) (st0 : St w w1 ((T ++ R))) (hb0 : HS w (T ++ R) T A0 n0 c0 (f51 w) l0) (ar0 : Int) (H : reliquaryref15_Find.rel l0 a1 ar0) :
    Calls Try.prog 26 #[.slice A0 n0 c0, .int .u64 a1] w1 fun e w' => ∃ T' , Pl T T' ∧ e = .returned (.int .i64 ar0) ∧ St w w' ((T' ++ R)) := by
  refine CW.enter Try.func26 rfl (n := 20) rfl [.slice A0 n0 c0, .int .u64 a1] (Nat.le_of_ble_eq_true rfl) ?_
  refine CW.sub [(0, .slice A0 n0 c0), (1, .int .u64 a1)] ⟨rfl, rfl, trivial⟩ ?_
  refine CW.seq ?_
  refine CW.region ?_
  refine WL.val Wanted.none (Runs.assign rfl) ?_
  refine WL.nil ?_
  refine QW.then_n ?_
  refine CW.seq ?_
  refine CW.seq ?_
  refine CW.region ?_
  refine WL.val Wanted.none (Runs.assign rfl) ?_
  refine WL.nil ?_
  refine QW.then_n ?_
  refine CW.block ?_
  obtain ⟨k_1, H⟩ := H
  refine CW.sub [(0, .slice A0 n0 c0), (1, .int .u64 a1), (4, .int .i64 0), (5, .int .i64 0)] ⟨rfl, rfl, rfl, rfl, trivial⟩ ?_
  refine CW.loop (fun kL1 l_ w_ => ∃ (T_2 : Pool) (x_4 : Int) (x_5 : Int), l_ = [(0, .slice A0 n0 c0), (1, .int .u64 a1), (4, .int .i64 x_4), (5, .int .i64 x_5)] ∧ reliquaryref15_Find.L1 l0 a1 ar0 kL1 x_4 x_5 ∧ (Pl T T_2) ∧ St w w_ ((T_2 ++ R))) (k := k_1) ⟨T, 0, 0, rfl, H, Pl.refl, st0⟩ (fun _ _ h => by obtain ⟨_, _, _, _, h, _⟩ := h; exact h.elim) ?_
  rintro kL1 l_8 w_6 ⟨T_2, x_4, x_5, rfl, H, hs_3, st_7⟩
  refine CW.seq ?_
  refine CW.seq ?_
  refine CW.region ?_
  refine WL.val Wanted.none (Runs.move rfl) ?_
  refine WL.val Wanted.none (Runs.move rfl) ?_
  refine WL.val Wanted.none (Runs.len_sl Try.underlying37 rfl (by rw [hb0.1])) ?_
  refine WL.val Wanted.none (Runs.lss rfl rfl rfl) ?_
  refine WL.nil ?_
  refine QW.then_n ?_
  rcases H with ⟨c_9, H⟩ | ⟨c_9, H⟩
  · have h_10 : (decide (x_5 < (l0.length : Int))) = true := (decide_eq_true c_9)
    refine CW.ct rfl h_10 ?_
    refine CW.skip ?_
    refine QW.then_n ?_
    refine CW.seq ?_
    refine CW.block ?_
    refine CW.seq ?_
    refine CW.region ?_
    refine WL.val Wanted.none (Runs.move rfl) ?_
    refine WL.val Wanted.none (Runs.move rfl) ?_
    obtain ⟨⟨p_11, q_12⟩, H⟩ := H
    obtain ⟨x_13, hs_14, hr_15⟩ := hb0.2.2
    obtain ⟨a_16, e_17, ms_18, hc_19, hm_20⟩ := el_get (i := (x_5).toNat) ((hs_14.at st_7 (mem_TR (A := []) (fun _ h_ => hs_3.1 _ h_)))) (hr_15.mono (fun _ h_ => hs_3.1 _ h_)) (fz51 w) (by decide) (by omega)
    obtain em_21 := inv51 hm_20
    replace em_21 : ms_18 = ([.int .u64 ((gx l0 ((x_5).toNat)).1)] : List Value) ++ (([.string ((gx l0 ((x_5).toNat)).2.1)] : List Value) ++ ([.int .i64 ((gx l0 ((x_5).toNat)).2.2)] : List Value)) := em_21
    subst em_21
    refine WL.val Wanted.none (Runs.indexAddr Try.underlying37 cells51 (by decide) rfl e_17 rfl p_11 (by rw [show n0 = l0.length from hb0.1]; exact q_12) (o := ((x_5).toNat) * 3) (by first | rfl | omega)) ?_
    refine WL.val Wanted.none (Runs.fieldAddrB (off := 0) fld51_0 rfl rfl rfl) ?_
    refine WL.val Wanted.none (Runs.load nagg29 rfl (Src.cellAt (j := 0) (Src.cut ((hs_14.at st_7 (mem_TR (A := []) (fun _ h_ => hs_3.1 _ h_)))) e_17 hc_19) rfl)) ?_
    refine WL.val Wanted.none (Runs.move rfl) ?_
    refine WL.val Wanted.none (Runs.eql rfl rfl rfl) ?_
    refine WL.nil ?_
    refine QW.then_n ?_
    rcases H with ⟨c_22, H⟩ | ⟨c_22, H⟩
    · have h_23 : (((gx l0 ((x_5).toNat)).1) == a1) = true := (beq_iff_eq.mpr c_22)
      refine CW.ct rfl h_23 ?_
      refine CW.seq ?_
      refine CW.region ?_
      refine WL.val Wanted.none (Runs.move rfl) ?_
      refine WL.val Wanted.none (Runs.assign rfl) ?_
      refine WL.nil ?_
      refine QW.then_n ?_
      refine CW.ret ?_
      refine QW.blk_r ?_
      refine QW.then_r ?_
      refine QW.then_r ?_
      refine QW.blk_r ?_
      refine QW.then_r ?_
      obtain rfl := H
      exact QW.ret1 rfl rfl ⟨T_2, hs_3, rfl, (St.pickT (L := []) st_7 [] (by decide))⟩
    · have h_23 : (((gx l0 ((x_5).toNat)).1) == a1) = false := (beq_eq_false_iff_ne.mpr c_22)
      refine CW.cf rfl h_23 ?_
      refine CW.skip ?_
      refine QW.blk_n ?_
      refine QW.then_n ?_
      refine CW.region ?_
      refine WL.val Wanted.none (Runs.move rfl) ?_
      refine WL.val Wanted.none (Runs.add rfl rfl rfl) ?_
      refine WL.val Wanted.none (Runs.assign rfl) ?_
      refine WL.nil ?_
      exact QW.at [(0, .slice A0 n0 c0), (1, .int .u64 a1), (4, .int .i64 x_4), (5, .int .i64 (IntKind.i64.wrap (x_5 + 1)))] ⟨rfl, rfl, rfl, rfl, trivial⟩ ⟨T_2, x_4, IntKind.i64.wrap (x_5 + 1), rfl, H, hs_3, st_7⟩
  · have h_10 : (decide (x_5 < (l0.length : Int))) = false := (decide_eq_false c_9)
    refine CW.cf rfl h_10 ?_
    refine CW.exit ?_
    refine QW.then_x ?_
    refine QW.then_x ?_
    refine QW.blk_x ?_
    refine QW.then_n ?_
    refine CW.sub [(4, .int .i64 x_4)] ⟨rfl, trivial⟩ ?_
    refine CW.seq ?_
    refine CW.region ?_
    refine WL.val Wanted.none (Runs.assign rfl) ?_
    refine WL.nil ?_
    refine QW.then_n ?_
    refine CW.ret ?_
    obtain rfl := H
    exact QW.ret1 rfl rfl ⟨T_2, hs_3, rfl, (St.pickT (L := []) st_7 [] (by decide))⟩

/-! ### reliquaryref15_without: function 28 -/
def reliquaryref15_without.rel (l0 : List R51) (a1 : Int) (lr0 : List R51) : Prop := ((0 ≤ (0 : Int) ∧ (0 : Int) ≤ a1 ∧ a1 ≤ (l0.length : Int)) ∧ (∃ m_18 : List R51, m_18 = ([] : List R51) ++ (prt l0 (0 : Int) a1) ∧ (m_18.length ≤ 1099511627776 ∧ ((0 ≤ (IntKind.i64.wrap (a1 + 1)) ∧ (IntKind.i64.wrap (a1 + 1)) ≤ (l0.length : Int) ∧ (l0.length : Int) ≤ (l0.length : Int)) ∧ (∃ m_45 : List R51, m_45 = m_18 ++ (prt l0 (IntKind.i64.wrap (a1 + 1)) (l0.length : Int)) ∧ (m_45.length ≤ 1099511627776 ∧ lr0 = m_45))))))
set_option maxHeartbeats 1000000 in
set_option maxRecDepth 100000 in
theorem reliquaryref15_without.calls (w w1 : World) (T R : Pool) (l0 : List R51) (a1 : Int) (A0 : Option Addr) (n0 : Nat) (c0 : Nat) (st0 : St w w1 ((T ++ R))) (hb0 : HS w (T ++ R) T A0 n0 c0 (f51 w) l0) (lr0 : List R51) (H : reliquaryref15_without.rel l0 a1 lr0) :
    Calls Try.prog 28 #[.slice A0 n0 c0, .int .i64 a1] w1 fun e w' => ∃ T' Ar0 nr0 cr0 xr0, Pl T T' ∧ nr0 = lr0.length ∧ HRs T' (f51 w) xr0 lr0 ∧ e = .returned (.slice Ar0 nr0 cr0) ∧ St w w' (.sl Ar0 cr0 nr0 xr0 51 3 :: (T' ++ R)) := by
  refine CW.enter Try.func28 rfl (n := 17) rfl [.slice A0 n0 c0, .int .i64 a1] (Nat.le_of_ble_eq_true rfl) ?_
  refine CW.sub [(0, .slice A0 n0 c0), (1, .int .i64 a1)] ⟨rfl, rfl, trivial⟩ ?_
  refine CW.seq ?_
  refine CW.region ?_
  refine WL.val Wanted.none (Runs.assign rfl) ?_
  refine WL.nil ?_
  refine QW.then_n ?_
  refine CW.seq ?_
  refine CW.region ?_
  refine WL.val Wanted.none (Runs.assign rfl) ?_
  refine WL.nil ?_
  refine QW.then_n ?_
  refine CW.seq ?_
  refine CW.region ?_
  refine WL.val Wanted.none (Runs.move rfl) ?_
  refine WL.val Wanted.none (Runs.move rfl) ?_
  refine WL.val Wanted.none (Runs.move rfl) ?_
  obtain ⟨⟨p_1, q_2, r_3⟩, H⟩ := H
  have hc_10 : n0 ≤ c0 := hb0.2.1
  have hn_11 : n0 = l0.length := hb0.1
  obtain ⟨A_4, e_7⟩ : ∃ B_, B_ = subS A0 ((0 : Int)).toNat c0 3 := ⟨_, rfl⟩
  obtain ⟨n_6, e_9⟩ : ∃ n_ : Nat, n_ = (a1).toNat - ((0 : Int)).toNat := ⟨_, rfl⟩
  have hs_12 : HS w (T ++ R) T A_4 n_6 c0 (f51 w) (prt l0 (0 : Int) a1) := (HS.sub hb0 (fz51 w) (by decide) (lo := ((0 : Int)).toNat) (hi := (a1).toNat) (by omega) (by omega) e_7 e_9 (show c0 = c0 - ((0 : Int)).toNat from rfl))
  refine WL.val Wanted.none (Runs.sliceS_h Try.underlying37 cells51 (by decide) rfl rfl q_2 (by omega) e_7 e_9) ?_
  have st_14 := st0.nil_sl 51 3
  have st_14 : St w w1 (.sl none 0 0 ([] : Cells) 51 3 :: (T ++ R)) := st_14
  obtain ⟨x_15, hs_16, hr_17⟩ := hs_12.2.2
  obtain ⟨m_18, e_19, H⟩ := H
  obtain ⟨z_20, H⟩ := H
  obtain ⟨n_23, hn_26⟩ : ∃ n_ : Nat, n_ = m_18.length := ⟨_, rfl⟩
  refine WL.appendR (i := 0) (N := n_23) (news := x_15) Wanted.none st_14 rfl Try.underlying37 elemS51 rfl rfl ((hs_16.at st_14 (mem_TR (A := [_]) (fun _ h_ => h_)))) (by have h1_ := (hr_17).length (fz51 w); have h2_ : n_6 = (prt l0 (0 : Int) a1).length := hs_12.1; rw [h1_, h2_]) (HLs.one hr_17) (by decide) (by have h1_ : 0 = ([] : List R51).length := rfl; have h2_ : n_6 = (prt l0 (0 : Int) a1).length := hs_12.1; rw [hn_26, e_19, List.length_append]; omega) (by rw [hn_26]; exact z_20) ?_
  intro A_21 c_22 w_24 st_25
  obtain ⟨x_27, e_28⟩ : ∃ x_ : Cells, x_ = ([] : Cells) ++ x_15 := ⟨_, rfl⟩
  have hx_29 : HRs T (f51 w) x_27 m_18 := by rw [e_28, e_19]; exact HRs.append (HRs.nil : HRs T (f51 w) [] []) hr_17
  replace st_25 : St w w_24 (.sl A_21 c_22 n_23 x_27 51 3 :: (T ++ R)) := by rw [e_28]; exact st_25
  refine WL.val Wanted.none (Runs.assign rfl) ?_
  refine WL.nil ?_
  refine QW.then_n ?_
  refine CW.seq ?_
  refine CW.region ?_
  refine WL.val Wanted.none (Runs.move rfl) ?_
  refine WL.val Wanted.none (Runs.move rfl) ?_
  refine WL.val Wanted.none (Runs.move rfl) ?_
  refine WL.val Wanted.none (Runs.add rfl rfl rfl) ?_
  obtain ⟨⟨p_30, q_31, r_32⟩, H⟩ := H
  have hc_39 : n0 ≤ c0 := hb0.2.1
  have hn_40 : n0 = l0.length := hb0.1
  obtain ⟨A_33, e_36⟩ : ∃ B_, B_ = subS A0 (IntKind.i64.wrap (a1 + 1)).toNat c0 3 := ⟨_, rfl⟩
  obtain ⟨n_35, e_38⟩ : ∃ n_ : Nat, n_ = ((l0.length : Int)).toNat - (IntKind.i64.wrap (a1 + 1)).toNat := ⟨_, rfl⟩
  obtain ⟨c_34, e_37⟩ : ∃ c_ : Nat, c_ = c0 - (IntKind.i64.wrap (a1 + 1)).toNat := ⟨_, rfl⟩
  have hs_41 : HS w (T ++ R) T A_33 n_35 c_34 (f51 w) (prt l0 (IntKind.i64.wrap (a1 + 1)) (l0.length : Int)) := (HS.sub hb0 (fz51 w) (by decide) (lo := (IntKind.i64.wrap (a1 + 1)).toNat) (hi := ((l0.length : Int)).toNat) (by omega) (by omega) e_36 e_38 e_37)
  refine WL.val Wanted.none (Runs.sliceS_l Try.underlying37 cells51 (by decide) rfl rfl p_30 (by omega) e_36 (N := n_35) (by rw [e_38, hn_40]; rfl) e_37) ?_
  obtain ⟨x_42, hs_43, hr_44⟩ := hs_41.2.2
  obtain ⟨m_45, e_46, H⟩ := H
  obtain ⟨z_47, H⟩ := H
  obtain ⟨n_50, hn_53⟩ : ∃ n_ : Nat, n_ = m_45.length := ⟨_, rfl⟩
  refine WL.appendR (i := 0) (N := n_50) (news := x_42) Wanted.none st_25 rfl Try.underlying37 elemS51 rfl rfl ((hs_43.at st_25 (mem_TR (A := [_]) (fun _ h_ => h_)))) (by have h1_ := (hr_44).length (fz51 w); have h2_ : n_35 = (prt l0 (IntKind.i64.wrap (a1 + 1)) (l0.length : Int)).length := hs_41.1; rw [h1_, h2_]) (HLs.one hr_44) (by decide) (by have h1_ : n_23 = m_18.length := hn_26; have h2_ : n_35 = (prt l0 (IntKind.i64.wrap (a1 + 1)) (l0.length : Int)).length := hs_41.1; rw [hn_53, e_46, List.length_append]; omega) (by rw [hn_53]; exact z_47) ?_
  intro A_48 c_49 w_51 st_52
  obtain ⟨x_54, e_55⟩ : ∃ x_ : Cells, x_ = x_27 ++ x_42 := ⟨_, rfl⟩
  have hx_56 : HRs T (f51 w) x_54 m_45 := by rw [e_55, e_46]; exact HRs.append hx_29 hr_44
  replace st_52 : St w w_51 (.sl A_48 c_49 n_50 x_54 51 3 :: (T ++ R)) := by rw [e_55]; exact st_52
  refine WL.val Wanted.none (Runs.assign rfl) ?_
  refine WL.nil ?_
  refine QW.then_n ?_
  refine CW.sub [(4, .slice A_48 n_50 c_49)] ⟨rfl, trivial⟩ ?_
  refine CW.ret ?_
  obtain rfl := H
  exact QW.ret1 rfl rfl ⟨T, A_48, n_50, c_49, x_54, Pl.refl, hn_53, hx_56, rfl, (St.pickT (L := [_]) st_52 [0] (by decide))⟩

/-! ### reliquaryref15_first: function 27 -/
def reliquaryref15_first.rel (a0_0 : Int) (a0_1 : ByteArray) (a0_2 : Int) (l1 : List R51) (lr0 : List R51) : Prop := (∃ m_22 : List R51, m_22 = ([(a0_0, a0_1, a0_2)] : List R51) ++ l1 ∧ (m_22.length ≤ 1099511627776 ∧ lr0 = m_22))
set_option maxHeartbeats 1000000 in
set_option maxRecDepth 100000 in
theorem reliquaryref15_first.calls (w w1 : World) (T R : Pool) (a0_0 : Int) (a0_1 : ByteArray) (a0_2 : Int) (l1 : List R51) (A1 : Option Addr) (n1 : Nat) (c1 : Nat) (st0 : St w w1 ((T ++ R))) (hb1 : HS w (T ++ R) T A1 n1 c1 (f51 w) l1) (lr0 : List R51) (H : reliquaryref15_first.rel a0_0 a0_1 a0_2 l1 lr0) :
    Calls Try.prog 27 #[.agg (([.int .u64 a0_0] : List Value) ++ (([.string a0_1] : List Value) ++ ([.int .i64 a0_2] : List Value))).toArray, .slice A1 n1 c1] w1 fun e w' => ∃ T' Ar0 nr0 cr0 xr0, Pl T T' ∧ nr0 = lr0.length ∧ HRs T' (f51 w) xr0 lr0 ∧ e = .returned (.slice Ar0 nr0 cr0) ∧ St w w' (.sl Ar0 cr0 nr0 xr0 51 3 :: (T' ++ R)) := by
  refine CW.enter Try.func27 rfl (n := 11) rfl [.agg (([.int .u64 a0_0] : List Value) ++ (([.string a0_1] : List Value) ++ ([.int .i64 a0_2] : List Value))).toArray, .slice A1 n1 c1] (Nat.le_of_ble_eq_true rfl) ?_
  refine CW.sub [(0, .agg (([.int .u64 a0_0] : List Value) ++ (([.string a0_1] : List Value) ++ ([.int .i64 a0_2] : List Value))).toArray), (1, .slice A1 n1 c1)] ⟨rfl, rfl, trivial⟩ ?_
  refine CW.seq ?_
  refine CW.region ?_
  refine WL.box st0 rfl rfl ?_
  intro B_1 w_2 st_3
  replace st_3 : St w w_2 (.cells B_1 (([.int .u64 a0_0] : List Value) ++ (([.string a0_1] : List Value) ++ ([.int .i64 a0_2] : List Value))) 51 :: (T ++ R)) := st_3
  refine WL.val Wanted.none (Runs.assign rfl) ?_
  refine WL.nil ?_
  refine QW.then_n ?_
  refine CW.seq ?_
  refine CW.region ?_
  refine WL.val Wanted.none (Runs.load_mid row51 rfl st_3 (i := 0) rfl (part_mid (pre := (([] : List Value))) (mid := (([.int .u64 a0_0] : List Value) ++ (([.string a0_1] : List Value) ++ ([.int .i64 a0_2] : List Value)))) (post := (([] : List Value))) (by first | rfl | simp only [List.append_assoc, List.append_nil, List.nil_append, List.cons_append]) (by first | rfl | simp only [List.length_append, List.length_cons, List.length_nil, iv_length]) (by first | rfl | simp only [List.length_append, List.length_cons, List.length_nil, iv_length])) (by first | rfl | simp only [List.length_append, List.length_cons, List.length_nil, iv_length])) ?_
  obtain ⟨ii_5, z_6, h_7, h_8, h_9, h_10⟩ := slr51_1
  refine WL.buildSlRows (sz := 3) (cs := (([.int .u64 a0_0] : List Value) ++ (([.string a0_1] : List Value) ++ ([.int .i64 a0_2] : List Value)))) st_3 Try.underlying37 h_7 h_8 h_9 (by decide) (by decide) h_10 rfl (by refine Fills.cons (o := 0) (ms := (([.int .u64 a0_0] : List Value) ++ (([.string a0_1] : List Value) ++ ([.int .i64 a0_2] : List Value)))) (show _ = some (0, (([.int .u64 a0_0] : List Value) ++ (([.string a0_1] : List Value) ++ ([.int .i64 a0_2] : List Value))).length) by rw [show (([.int .u64 a0_0] : List Value) ++ (([.string a0_1] : List Value) ++ ([.int .i64 a0_2] : List Value))).length = 3 from (by first | rfl | simp only [List.length_append, List.length_cons, List.length_nil, iv_length])] <;> rfl) rfl (by have h1_ : (([.int .u64 a0_0] : List Value) ++ (([.string a0_1] : List Value) ++ ([.int .i64 a0_2] : List Value))).length = 3 := (by first | rfl | simp only [List.length_append, List.length_cons, List.length_nil, iv_length]); have h2_ : (([.int .u64 0] : List Value) ++ (([.string ByteArray.empty] : List Value) ++ ([.int .i64 0] : List Value))).length = 3 := (by first | rfl | simp only [List.length_append, List.length_cons, List.length_nil, iv_length]); omega) ?_; rw [show layV (([.int .u64 0] : List Value) ++ (([.string ByteArray.empty] : List Value) ++ ([.int .i64 0] : List Value))) 0 (([.int .u64 a0_0] : List Value) ++ (([.string a0_1] : List Value) ++ ([.int .i64 a0_2] : List Value))) = (([.int .u64 a0_0] : List Value) ++ (([.string a0_1] : List Value) ++ ([.int .i64 a0_2] : List Value))) from (layV_mid (pre := (([] : List Value))) (mid := (([.int .u64 0] : List Value) ++ (([.string ByteArray.empty] : List Value) ++ ([.int .i64 0] : List Value)))) (post := (([] : List Value))) (by first | rfl | simp only [List.append_assoc, List.append_nil, List.nil_append, List.cons_append]) (by first | rfl | simp only [List.length_append, List.length_cons, List.length_nil, iv_length]) (Eq.trans (b := 3) (by first | rfl | simp only [List.length_append, List.length_cons, List.length_nil, iv_length]) (Eq.symm (by first | rfl | simp only [List.length_append, List.length_cons, List.length_nil, iv_length])))).trans (by first | rfl | simp only [List.append_assoc, List.append_nil, List.nil_append, List.cons_append])]; exact Fills.nil) ?_
  intro B_11 w_12 st_13
  replace st_13 : St w w_12 (.cells B_11 (([.int .u64 a0_0] : List Value) ++ (([.string a0_1] : List Value) ++ ([.int .i64 a0_2] : List Value))) 51 :: .cells B_1 (([.int .u64 a0_0] : List Value) ++ (([.string a0_1] : List Value) ++ ([.int .i64 a0_2] : List Value))) 51 :: (T ++ R)) := st_13
  have st_15 := St.rows_sl (i := 0) (m := 1) (size := 3) st_13 rfl rfl (by decide)
  obtain ⟨x_16, e_17⟩ : ∃ x_ : Cells, x_ = ([.int .u64 a0_0] : List Value) ++ (([.string a0_1] : List Value) ++ ([.int .i64 a0_2] : List Value)) := ⟨_, rfl⟩
  have hx_18 : HRs T (f51 w) x_16 ([(a0_0, a0_1, a0_2)] : List R51) := by rw [e_17]; exact (HRs.one (.cons rfl (.cons rfl (.cons rfl .nil))))
  replace st_15 : St w w_12 (.sl (some ⟨B_11, 0, none⟩) 1 1 x_16 51 3 :: .cells B_1 (([.int .u64 a0_0] : List Value) ++ (([.string a0_1] : List Value) ++ ([.int .i64 a0_2] : List Value))) 51 :: (T ++ R)) := by rw [e_17]; exact st_15
  refine WL.val Wanted.none (Runs.assign rfl) ?_
  refine WL.nil ?_
  refine QW.then_n ?_
  refine CW.seq ?_
  refine CW.region ?_
  refine WL.val Wanted.none (Runs.move rfl) ?_
  refine WL.val Wanted.none (Runs.move rfl) ?_
  obtain ⟨x_19, hs_20, hr_21⟩ := hb1.2.2
  obtain ⟨m_22, e_23, H⟩ := H
  obtain ⟨z_24, H⟩ := H
  obtain ⟨n_27, hn_30⟩ : ∃ n_ : Nat, n_ = m_22.length := ⟨_, rfl⟩
  refine WL.appendR (i := 0) (N := n_27) (news := x_19) Wanted.none st_15 rfl Try.underlying37 elemS51 rfl rfl ((hs_20.at st_15 (mem_TR (A := [_, _]) (fun _ h_ => h_)))) (by have h1_ := (hr_21).length (fz51 w); have h2_ : n1 = l1.length := hb1.1; rw [h1_, h2_]) (HLs.one hr_21) (by decide) (by have h1_ : 1 = ([(a0_0, a0_1, a0_2)] : List R51).length := rfl; have h2_ : n1 = l1.length := hb1.1; rw [hn_30, e_23, List.length_append]; omega) (by rw [hn_30]; exact z_24) ?_
  intro A_25 c_26 w_28 st_29
  obtain ⟨x_31, e_32⟩ : ∃ x_ : Cells, x_ = x_16 ++ x_19 := ⟨_, rfl⟩
  have hx_33 : HRs T (f51 w) x_31 m_22 := by rw [e_32, e_23]; exact HRs.append hx_18 hr_21
  replace st_29 : St w w_28 (.sl A_25 c_26 n_27 x_31 51 3 :: .cells B_1 (([.int .u64 a0_0] : List Value) ++ (([.string a0_1] : List Value) ++ ([.int .i64 a0_2] : List Value))) 51 :: (T ++ R)) := by rw [e_32]; exact st_29
  refine WL.val Wanted.none (Runs.assign rfl) ?_
  refine WL.nil ?_
  refine QW.then_n ?_
  refine CW.sub [(4, .slice A_25 n_27 c_26)] ⟨rfl, trivial⟩ ?_
  refine CW.ret ?_
  obtain rfl := H
  exact QW.ret1 rfl rfl ⟨T, A_25, n_27, c_26, x_31, Pl.refl, hn_30, hx_33, rfl, (St.pickT (L := [_, _]) st_29 [0] (by decide))⟩

/-! ### reliquaryref15_Put: function 14 -/
def reliquaryref15_Put.L2 (a0_0 : Int) (ar0_0 : Int) (lr0_1 : List R51) (ar1 : Int) (l_98 : List R51) (x_100 : Int) (K_L1 : (List R51) → Int → Prop) : Nat → Int → Prop
  | 0, _ => False
  | kL2 + 1, x_111 => ((x_111 ≥ 0 ∧ ((0 ≤ x_111 ∧ x_111 < (l_98.length : Int)) ∧ ((((gx l_98 ((x_111).toNat)).2.2) > 0 ∧ reliquaryref15_Put.L2 a0_0 ar0_0 lr0_1 ar1 l_98 x_100 K_L1 kL2 (IntKind.i64.wrap (x_111 - 1))) ∨ (¬ (((gx l_98 ((x_111).toNat)).2.2) > 0) ∧ ((x_111 < 0 ∧ ar0_0 = a0_0 ∧ lr0_1 = l_98 ∧ ar1 = 17) ∨ (¬ (x_111 < 0) ∧ (∃ (l_142 : List R51), reliquaryref15_without.rel l_98 x_111 l_142 ∧ K_L1 l_142 x_100))))))) ∨ (¬ (x_111 ≥ 0) ∧ ((x_111 < 0 ∧ ar0_0 = a0_0 ∧ lr0_1 = l_98 ∧ ar1 = 17) ∨ (¬ (x_111 < 0) ∧ (∃ (l_168 : List R51), reliquaryref15_without.rel l_98 x_111 l_168 ∧ K_L1 l_168 x_100)))))
def reliquaryref15_Put.L1 (a0_0 : Int) (a1 : Int) (a2 : ByteArray) (ar0_0 : Int) (lr0_1 : List R51) (ar1 : Int) : Nat → (List R51) → Int → Prop
  | 0, _, _ => False
  | kL1 + 1, l_98, x_100 => (((l_98.length : Int) > 0 ∧ (((l_98.length : Int) ≥ a0_0 ∧ (∃ k_ : Nat, reliquaryref15_Put.L2 a0_0 ar0_0 lr0_1 ar1 l_98 x_100 (reliquaryref15_Put.L1 a0_0 a1 a2 ar0_0 lr0_1 ar1 kL1) k_ (IntKind.i64.wrap ((l_98.length : Int) - 1)))) ∨ (¬ ((l_98.length : Int) ≥ a0_0) ∧ ((a0_0 < 1 ∧ ar0_0 = a0_0 ∧ lr0_1 = l_98 ∧ ar1 = 17) ∨ (¬ (a0_0 < 1) ∧ (∃ (l_194 : List R51), reliquaryref15_first.rel a1 a2 0 l_98 l_194 ∧ ar0_0 = a0_0 ∧ lr0_1 = l_194 ∧ ar1 = 0)))))) ∨ (¬ ((l_98.length : Int) > 0) ∧ ((a0_0 < 1 ∧ ar0_0 = a0_0 ∧ lr0_1 = l_98 ∧ ar1 = 17) ∨ (¬ (a0_0 < 1) ∧ (∃ (l_222 : List R51), reliquaryref15_first.rel a1 a2 0 l_98 l_222 ∧ ar0_0 = a0_0 ∧ lr0_1 = l_222 ∧ ar1 = 0)))))
def reliquaryref15_Put.rel (a0_0 : Int) (l0_1 : List R51) (a1 : Int) (a2 : ByteArray) (ar0_0 : Int) (lr0_1 : List R51) (ar1 : Int) : Prop := (((a2.size : Int) ≠ 160 ∧ ar0_0 = a0_0 ∧ lr0_1 = l0_1 ∧ ar1 = 1) ∨ (¬ ((a2.size : Int) ≠ 160) ∧ (∃ (a_18 : Int), reliquaryref15_Find.rel l0_1 a1 a_18 ∧ ((a_18 ≥ 0 ∧ ((0 ≤ a_18 ∧ a_18 < (l0_1.length : Int)) ∧ (∃ (l_53 : List R51), reliquaryref15_without.rel l0_1 a_18 l_53 ∧ (∃ (l_68 : List R51), reliquaryref15_first.rel ((gx l0_1 ((a_18).toNat)).1) a2 ((gx l0_1 ((a_18).toNat)).2.2) l_53 l_68 ∧ ar0_0 = a0_0 ∧ lr0_1 = l_68 ∧ ar1 = 0)))) ∨ (¬ (a_18 ≥ 0) ∧ (∃ k_ : Nat, reliquaryref15_Put.L1 a0_0 a1 a2 ar0_0 lr0_1 ar1 k_ l0_1 0))))))
set_option maxHeartbeats 1000000 in
set_option maxRecDepth 100000 in
theorem reliquaryref15_Put.calls (w w1 : World) (T R : Pool) (a0_0 : Int) (l0_1 : List R51) (a1 : Int) (a2 : ByteArray) (A0_1 : Option Addr) (n0_1 : Nat) (c0_1 : Nat) (st0 : St w w1 ((T ++ R))) (hb0_1 : HS w T T A0_1 n0_1 c0_1 (f51 w) l0_1) (ar0_0 : Int) (lr0_1 : List R51) (ar1 : Int) (H : reliquaryref15_Put.rel a0_0 l0_1 a1 a2 ar0_0 lr0_1 ar1) :
    Calls Try.prog 14 #[.agg (([.int .i64 a0_0] : List Value) ++ ([.slice A0_1 n0_1 c0_1] : List Value)).toArray, .int .u64 a1, .string a2] w1 fun e w' => ∃ T' Ar0_1 nr0_1 cr0_1, Pl T T' ∧ HS w T' T' Ar0_1 nr0_1 cr0_1 (f51 w) lr0_1 ∧ e = .returned (.tuple #[.agg (([.int .i64 ar0_0] : List Value) ++ ([.slice Ar0_1 nr0_1 cr0_1] : List Value)).toArray, .int .i64 ar1]) ∧ St w w' ((T' ++ R)) := by
  refine CW.enter Try.func14 rfl (n := 85) rfl [.agg (([.int .i64 a0_0] : List Value) ++ ([.slice A0_1 n0_1 c0_1] : List Value)).toArray, .int .u64 a1, .string a2] (Nat.le_of_ble_eq_true rfl) ?_
  refine CW.sub [(0, .agg (([.int .i64 a0_0] : List Value) ++ ([.slice A0_1 n0_1 c0_1] : List Value)).toArray), (1, .int .u64 a1), (2, .string a2)] ⟨rfl, rfl, rfl, trivial⟩ ?_
  refine CW.seq ?_
  refine CW.region ?_
  refine WL.box st0 rfl rfl ?_
  intro B_1 w_2 st_3
  replace st_3 : St w w_2 (.cells B_1 (([.int .i64 a0_0] : List Value) ++ ([.slice A0_1 n0_1 c0_1] : List Value)) 39 :: (T ++ R)) := st_3
  refine WL.alloc st_3 zero39 ?_
  intro B_5 w_6 st_7
  replace st_7 : St w w_6 (.cells B_5 (([.int .i64 0] : List Value) ++ ([.slice none 0 0] : List Value)) 39 :: .cells B_1 (([.int .i64 a0_0] : List Value) ++ ([.slice A0_1 n0_1 c0_1] : List Value)) 39 :: (T ++ R)) := st_7
  refine WL.val Wanted.none (Runs.assign rfl) ?_
  refine WL.nil ?_
  refine QW.then_n ?_
  refine CW.seq ?_
  refine CW.seq ?_
  refine CW.region ?_
  refine WL.val Wanted.none (Runs.move rfl) ?_
  refine WL.val Wanted.none (Runs.len_str Try.underlying9 rfl) ?_
  refine WL.val Wanted.none (Runs.neq rfl rfl rfl) ?_
  refine WL.nil ?_
  refine QW.then_n ?_
  rcases H with ⟨c_9, H⟩ | ⟨c_9, H⟩
  · have h_10 : ((a2.size : Int) != 160) = true := (bne_iff_ne.mpr c_9)
    refine CW.ct rfl h_10 ?_
    refine CW.seq ?_
    refine CW.region ?_
    refine WL.val Wanted.none (Runs.load_mid row39 rfl st_7 (i := 1) rfl (part_mid (pre := (([] : List Value))) (mid := (([.int .i64 a0_0] : List Value) ++ ([.slice A0_1 n0_1 c0_1] : List Value))) (post := (([] : List Value))) (by first | rfl | simp only [List.append_assoc, List.append_nil, List.nil_append, List.cons_append]) (by first | rfl | simp only [List.length_append, List.length_cons, List.length_nil, iv_length]) (by first | rfl | simp only [List.length_append, List.length_cons, List.length_nil, iv_length])) (by first | rfl | simp only [List.length_append, List.length_cons, List.length_nil, iv_length])) ?_
    refine WL.store_mid (i := 0) (pre := (([] : List Value))) (mid := (([.int .i64 0] : List Value) ++ ([.slice none 0 0] : List Value))) (post := (([] : List Value))) (ms := (([.int .i64 a0_0] : List Value) ++ ([.slice A0_1 n0_1 c0_1] : List Value))) st_7 rfl row39 (by first | rfl | simp only [List.append_assoc, List.append_nil, List.nil_append, List.cons_append]) (by first | rfl | simp only [List.length_append, List.length_cons, List.length_nil, iv_length]) rfl rfl (by first | rfl | simp only [List.length_append, List.length_cons, List.length_nil, iv_length]) (by first | rfl | simp only [List.length_append, List.length_cons, List.length_nil, iv_length]) (by intro u hu; simp only [List.mem_append, List.mem_singleton] at hu; rcases hu with hu | hu <;> first | exact one_iv _ _ u hu | (subst hu; rfl)) ?_
    intro w_11 st_12
    replace st_12 : St w w_11 (.cells B_5 (([.int .i64 a0_0] : List Value) ++ ([.slice A0_1 n0_1 c0_1] : List Value)) 39 :: .cells B_1 (([.int .i64 a0_0] : List Value) ++ ([.slice A0_1 n0_1 c0_1] : List Value)) 39 :: (T ++ R)) := by have e_ : (([.int .i64 a0_0] : List Value) ++ ([.slice A0_1 n0_1 c0_1] : List Value)) = (([] : List Value)) ++ ((([.int .i64 a0_0] : List Value) ++ ([.slice A0_1 n0_1 c0_1] : List Value)) ++ (([] : List Value))) := (by first | rfl | simp only [List.append_assoc, List.append_nil, List.nil_append, List.cons_append]); have h_ : St w w_11 (.cells B_5 ((([] : List Value)) ++ ((([.int .i64 a0_0] : List Value) ++ ([.slice A0_1 n0_1 c0_1] : List Value)) ++ (([] : List Value)))) 39 :: .cells B_1 (([.int .i64 a0_0] : List Value) ++ ([.slice A0_1 n0_1 c0_1] : List Value)) 39 :: (T ++ R)) := st_12; rw [← e_] at h_; exact h_
    refine WL.val Wanted.none (Runs.assign rfl) ?_
    refine WL.nil ?_
    refine QW.then_n ?_
    refine CW.ret ?_
    refine QW.then_r ?_
    obtain ⟨rfl, rfl, rfl⟩ := H
    exact QW.retN2 rfl (Res.row rfl row39 st_12 (i := 0) rfl (by first | rfl | simp only [List.length_append, List.length_cons, List.length_nil, iv_length])) (Res.tmp rfl) ⟨T, A0_1, n0_1, c0_1, Pl.refl, hb0_1, rfl, (St.pickT (L := [_, _]) st_12 [] (by decide))⟩
  · have h_10 : ((a2.size : Int) != 160) = false := (bne_eq_false_iff_eq.mpr (Decidable.not_not.mp c_9))
    refine CW.cf rfl h_10 ?_
    refine CW.skip ?_
    refine QW.then_n ?_
    refine CW.seq ?_
    refine CW.region ?_
    refine WL.val Wanted.none (Runs.fieldAddr (off := 1) (p := 1) fld39_1 rfl rfl rfl) ?_
    refine WL.val Wanted.none (Runs.load nagg37 rfl (st_7.cell (k := 1) rfl (part_one (u := .slice A0_1 n0_1 c0_1) (pre := (([.int .i64 a0_0] : List Value))) (post := (([] : List Value))) (by first | rfl | simp only [List.append_assoc, List.append_nil, List.nil_append, List.cons_append]) (by first | rfl | simp only [List.length_append, List.length_cons, List.length_nil, iv_length])))) ?_
    refine WL.val Wanted.none (Runs.move rfl) ?_
    have st_13 : St w w_6 ((T ++ (.cells B_5 (([.int .i64 0] : List Value) ++ ([.slice none 0 0] : List Value)) 39 :: .cells B_1 (([.int .i64 a0_0] : List Value) ++ ([.slice A0_1 n0_1 c0_1] : List Value)) 39 :: R))) := St.hide (A := []) (B := [_, _]) (T := T) (R := R) st_7
    obtain ⟨a_18, hr_14, H⟩ := H
    refine WL.call Wanted.none ent26 rfl (reliquaryref15_Find.calls w w_6 T (.cells B_5 (([.int .i64 0] : List Value) ++ ([.slice none 0 0] : List Value)) 39 :: .cells B_1 (([.int .i64 a0_0] : List Value) ++ ([.slice A0_1 n0_1 c0_1] : List Value)) 39 :: R) l0_1 a1 A0_1 n0_1 c0_1  st_13 (hb0_1.mono (memo_T (B := [_, _]) (fun _ h_ => h_)) (fun _ h_ => h_)) a_18 hr_14) ?_
    rintro _ w_19 ⟨T_15, hs_16, rfl, sc_21⟩
    have st_20 : St w w_19 (.cells B_5 (([.int .i64 0] : List Value) ++ ([.slice none 0 0] : List Value)) 39 :: .cells B_1 (([.int .i64 a0_0] : List Value) ++ ([.slice A0_1 n0_1 c0_1] : List Value)) 39 :: (T_15 ++ R)) := St.unhide (A := []) (B := [_, _]) (T := T_15) (R := R) sc_21
    refine ⟨_, rfl, ?_⟩
    refine WL.val Wanted.none (Runs.assign rfl) ?_
    refine WL.nil ?_
    refine QW.then_n ?_
    refine CW.sub [(1, .int .u64 a1), (2, .string a2), (3, .pointer (some ⟨B_1, 0, none⟩)), (6, .pointer (some ⟨B_5, 0, none⟩)), (7, .int .i64 0), (8, .int .i64 a_18)] ⟨rfl, rfl, rfl, rfl, rfl, rfl, trivial⟩ ?_
    refine CW.seq ?_
    refine CW.seq ?_
    refine CW.region ?_
    refine WL.val Wanted.none (Runs.move rfl) ?_
    refine WL.val Wanted.none (Runs.geq rfl rfl rfl) ?_
    refine WL.nil ?_
    refine QW.then_n ?_
    rcases H with ⟨c_22, H⟩ | ⟨c_22, H⟩
    · have h_23 : (decide (a_18 ≥ 0)) = true := (decide_eq_true c_22)
      refine CW.ct rfl h_23 ?_
      refine CW.seq ?_
      refine CW.region ?_
      refine WL.val Wanted.none (Runs.fieldAddr (off := 1) (p := 1) fld39_1 rfl rfl rfl) ?_
      refine WL.val Wanted.none (Runs.load nagg37 rfl (st_20.cell (k := 1) rfl (part_one (u := .slice A0_1 n0_1 c0_1) (pre := (([.int .i64 a0_0] : List Value))) (post := (([] : List Value))) (by first | rfl | simp only [List.append_assoc, List.append_nil, List.nil_append, List.cons_append]) (by first | rfl | simp only [List.length_append, List.length_cons, List.length_nil, iv_length])))) ?_
      refine WL.val Wanted.none (Runs.move rfl) ?_
      obtain ⟨⟨p_24, q_25⟩, H⟩ := H
      obtain ⟨x_26, hs_27, hr_28⟩ := hb0_1.2.2
      obtain ⟨a_29, e_30, ms_31, hc_32, hm_33⟩ := el_get (i := (a_18).toNat) ((hs_27.at st_20 (mem_T (A := [_, _]) (fun _ h_ => hs_16.1 _ h_)))) (hr_28.mono (fun _ h_ => hs_16.1 _ h_)) (fz51 w) (by decide) (by omega)
      obtain em_34 := inv51 hm_33
      replace em_34 : ms_31 = ([.int .u64 ((gx l0_1 ((a_18).toNat)).1)] : List Value) ++ (([.string ((gx l0_1 ((a_18).toNat)).2.1)] : List Value) ++ ([.int .i64 ((gx l0_1 ((a_18).toNat)).2.2)] : List Value)) := em_34
      subst em_34
      refine WL.val Wanted.none (Runs.indexAddr Try.underlying37 cells51 (by decide) rfl e_30 rfl p_24 (by rw [show n0_1 = l0_1.length from hb0_1.1]; exact q_25) (o := ((a_18).toNat) * 3) (by first | rfl | omega)) ?_
      refine WL.val Wanted.none (Runs.load_srcR row51 rfl (Src.cut ((hs_27.at st_20 (mem_T (A := [_, _]) (fun _ h_ => hs_16.1 _ h_)))) e_30 hc_32) rfl) ?_
      refine WL.alloc st_20 zero51 ?_
      intro B_35 w_36 st_37
      replace st_37 : St w w_36 (.cells B_35 (([.int .u64 0] : List Value) ++ (([.string ByteArray.empty] : List Value) ++ ([.int .i64 0] : List Value))) 51 :: .cells B_5 (([.int .i64 0] : List Value) ++ ([.slice none 0 0] : List Value)) 39 :: .cells B_1 (([.int .i64 a0_0] : List Value) ++ ([.slice A0_1 n0_1 c0_1] : List Value)) 39 :: (T_15 ++ R)) := st_37
      refine WL.store_mid (i := 0) (pre := (([] : List Value))) (mid := (([.int .u64 0] : List Value) ++ (([.string ByteArray.empty] : List Value) ++ ([.int .i64 0] : List Value)))) (post := (([] : List Value))) (ms := (([.int .u64 ((gx l0_1 ((a_18).toNat)).1)] : List Value) ++ (([.string ((gx l0_1 ((a_18).toNat)).2.1)] : List Value) ++ ([.int .i64 ((gx l0_1 ((a_18).toNat)).2.2)] : List Value)))) st_37 rfl row51 (by first | rfl | simp only [List.append_assoc, List.append_nil, List.nil_append, List.cons_append]) (by first | rfl | simp only [List.length_append, List.length_cons, List.length_nil, iv_length]) rfl rfl (by first | rfl | simp only [List.length_append, List.length_cons, List.length_nil, iv_length]) (by first | rfl | simp only [List.length_append, List.length_cons, List.length_nil, iv_length]) (by intro u hu; simp only [List.mem_append, List.mem_singleton] at hu; rcases hu with hu | hu | hu <;> first | exact one_iv _ _ u hu | (subst hu; rfl)) ?_
      intro w_39 st_40
      replace st_40 : St w w_39 (.cells B_35 (([.int .u64 ((gx l0_1 ((a_18).toNat)).1)] : List Value) ++ (([.string ((gx l0_1 ((a_18).toNat)).2.1)] : List Value) ++ ([.int .i64 ((gx l0_1 ((a_18).toNat)).2.2)] : List Value))) 51 :: .cells B_5 (([.int .i64 0] : List Value) ++ ([.slice none 0 0] : List Value)) 39 :: .cells B_1 (([.int .i64 a0_0] : List Value) ++ ([.slice A0_1 n0_1 c0_1] : List Value)) 39 :: (T_15 ++ R)) := by have e_ : (([.int .u64 ((gx l0_1 ((a_18).toNat)).1)] : List Value) ++ (([.string ((gx l0_1 ((a_18).toNat)).2.1)] : List Value) ++ ([.int .i64 ((gx l0_1 ((a_18).toNat)).2.2)] : List Value))) = (([] : List Value)) ++ ((([.int .u64 ((gx l0_1 ((a_18).toNat)).1)] : List Value) ++ (([.string ((gx l0_1 ((a_18).toNat)).2.1)] : List Value) ++ ([.int .i64 ((gx l0_1 ((a_18).toNat)).2.2)] : List Value))) ++ (([] : List Value))) := (by first | rfl | simp only [List.append_assoc, List.append_nil, List.nil_append, List.cons_append]); have h_ : St w w_39 (.cells B_35 ((([] : List Value)) ++ ((([.int .u64 ((gx l0_1 ((a_18).toNat)).1)] : List Value) ++ (([.string ((gx l0_1 ((a_18).toNat)).2.1)] : List Value) ++ ([.int .i64 ((gx l0_1 ((a_18).toNat)).2.2)] : List Value))) ++ (([] : List Value)))) 51 :: .cells B_5 (([.int .i64 0] : List Value) ++ ([.slice none 0 0] : List Value)) 39 :: .cells B_1 (([.int .i64 a0_0] : List Value) ++ ([.slice A0_1 n0_1 c0_1] : List Value)) 39 :: (T_15 ++ R)) := st_40; rw [← e_] at h_; exact h_
      refine WL.nil ?_
      refine QW.then_n ?_
      refine CW.sub [(1, .int .u64 a1), (2, .string a2), (3, .pointer (some ⟨B_1, 0, none⟩)), (6, .pointer (some ⟨B_5, 0, none⟩)), (7, .int .i64 0), (8, .int .i64 a_18), (9, .pointer (some ⟨B_35, 0, none⟩))] ⟨rfl, rfl, rfl, rfl, rfl, rfl, rfl, trivial⟩ ?_
      refine CW.seq ?_
      refine CW.region ?_
      refine WL.val Wanted.none (Runs.move rfl) ?_
      refine WL.val Wanted.none (Runs.fieldAddr (off := 1) (p := 1) fld51_1 rfl rfl rfl) ?_
      refine WL.store_one (i := 0) (u0 := .string ((gx l0_1 ((a_18).toNat)).2.1)) (pre := (([.int .u64 ((gx l0_1 ((a_18).toNat)).1)] : List Value))) (post := (([.int .i64 ((gx l0_1 ((a_18).toNat)).2.2)] : List Value))) st_40 rfl cells9 (by first | rfl | simp only [List.append_assoc, List.append_nil, List.nil_append, List.cons_append]) (by first | rfl | simp only [List.length_append, List.length_cons, List.length_nil, iv_length]) rfl rfl rfl ?_
      intro w_41 st_42
      replace st_42 : St w w_41 (.cells B_35 (([.int .u64 ((gx l0_1 ((a_18).toNat)).1)] : List Value) ++ (([.string a2] : List Value) ++ ([.int .i64 ((gx l0_1 ((a_18).toNat)).2.2)] : List Value))) 51 :: .cells B_5 (([.int .i64 0] : List Value) ++ ([.slice none 0 0] : List Value)) 39 :: .cells B_1 (([.int .i64 a0_0] : List Value) ++ ([.slice A0_1 n0_1 c0_1] : List Value)) 39 :: (T_15 ++ R)) := by have e_ : (([.int .u64 ((gx l0_1 ((a_18).toNat)).1)] : List Value) ++ (([.string a2] : List Value) ++ ([.int .i64 ((gx l0_1 ((a_18).toNat)).2.2)] : List Value))) = (([.int .u64 ((gx l0_1 ((a_18).toNat)).1)] : List Value)) ++ ((([.string a2] : List Value)) ++ (([.int .i64 ((gx l0_1 ((a_18).toNat)).2.2)] : List Value))) := (by first | rfl | simp only [List.append_assoc, List.append_nil, List.nil_append, List.cons_append]); have h_ : St w w_41 (.cells B_35 ((([.int .u64 ((gx l0_1 ((a_18).toNat)).1)] : List Value)) ++ ((([.string a2] : List Value)) ++ (([.int .i64 ((gx l0_1 ((a_18).toNat)).2.2)] : List Value)))) 51 :: .cells B_5 (([.int .i64 0] : List Value) ++ ([.slice none 0 0] : List Value)) 39 :: .cells B_1 (([.int .i64 a0_0] : List Value) ++ ([.slice A0_1 n0_1 c0_1] : List Value)) 39 :: (T_15 ++ R)) := st_42; rw [← e_] at h_; exact h_
      refine WL.nil ?_
      refine QW.then_n ?_
      refine CW.seq ?_
      refine CW.region_awh (C := fun w_ => St w w_ (.cells B_35 (([.int .u64 ((gx l0_1 ((a_18).toNat)).1)] : List Value) ++ (([.string a2] : List Value) ++ ([.int .i64 ((gx l0_1 ((a_18).toNat)).2.2)] : List Value))) 51 :: .cells B_5 (([.int .i64 0] : List Value) ++ ([.slice none 0 0] : List Value)) 39 :: .cells B_1 (([.int .i64 a0_0] : List Value) ++ ([.slice A0_1 n0_1 c0_1] : List Value)) 39 :: (T_15 ++ R))) 5 wide (by kernel_rfl) st_42 (fun w_43 st_44 => ?_)
      refine AWH.take 0 rfl (by decide) (by kernel_rfl) (by kernel_rfl) st_44 Wanted.none (fun wq sq => (Runs.load_mid row51 rfl sq (i := 0) rfl (part_mid (pre := (([] : List Value))) (mid := (([.int .u64 ((gx l0_1 ((a_18).toNat)).1)] : List Value) ++ (([.string a2] : List Value) ++ ([.int .i64 ((gx l0_1 ((a_18).toNat)).2.2)] : List Value)))) (post := (([] : List Value))) (by first | rfl | simp only [List.append_assoc, List.append_nil, List.nil_append, List.cons_append]) (by first | rfl | simp only [List.length_append, List.length_cons, List.length_nil, iv_length]) (by first | rfl | simp only [List.length_append, List.length_cons, List.length_nil, iv_length])) (by first | rfl | simp only [List.length_append, List.length_cons, List.length_nil, iv_length]))) ?_
      refine AWH.take 1 rfl (by decide) (by kernel_rfl) (by kernel_rfl) st_44 Wanted.none (fun wq sq => (Runs.fieldAddr (off := 1) (p := 1) fld39_1 rfl rfl rfl)) ?_
      refine AWH.take 2 rfl (by decide) (by kernel_rfl) (by kernel_rfl) st_44 Wanted.none (fun wq sq => (Runs.load nagg37 rfl (sq.cell (k := 2) rfl (part_one (u := .slice A0_1 n0_1 c0_1) (pre := (([.int .i64 a0_0] : List Value))) (post := (([] : List Value))) (by first | rfl | simp only [List.append_assoc, List.append_nil, List.nil_append, List.cons_append]) (by first | rfl | simp only [List.length_append, List.length_cons, List.length_nil, iv_length]))))) ?_
      refine AWH.take 3 rfl (by decide) (by kernel_rfl) (by kernel_rfl) st_44 Wanted.none (fun wq sq => (Runs.move rfl)) ?_
      refine AWH.step 4 rfl (by decide) (by kernel_rfl) (fun inv_ hs_ hk_ hc_ hn_ => ?_)
      have st_45 : St w w_43 ((T_15 ++ (.cells B_35 (([.int .u64 ((gx l0_1 ((a_18).toNat)).1)] : List Value) ++ (([.string a2] : List Value) ++ ([.int .i64 ((gx l0_1 ((a_18).toNat)).2.2)] : List Value))) 51 :: .cells B_5 (([.int .i64 0] : List Value) ++ ([.slice none 0 0] : List Value)) 39 :: .cells B_1 (([.int .i64 a0_0] : List Value) ++ ([.slice A0_1 n0_1 c0_1] : List Value)) 39 :: R))) := St.hide (A := []) (B := [_, _, _]) (T := T_15) (R := R) st_44
      obtain ⟨l_53, hr_46, H⟩ := H
      refine WL.call Wanted.none ent28 rfl (reliquaryref15_without.calls w w_43 T_15 (.cells B_35 (([.int .u64 ((gx l0_1 ((a_18).toNat)).1)] : List Value) ++ (([.string a2] : List Value) ++ ([.int .i64 ((gx l0_1 ((a_18).toNat)).2.2)] : List Value))) 51 :: .cells B_5 (([.int .i64 0] : List Value) ++ ([.slice none 0 0] : List Value)) 39 :: .cells B_1 (([.int .i64 a0_0] : List Value) ++ ([.slice A0_1 n0_1 c0_1] : List Value)) 39 :: R) l0_1 a_18 A0_1 n0_1 c0_1  st_45 (hb0_1.mono (memo_T (B := [_, _, _]) (fun _ h_ => hs_16.1 _ h_)) (fun _ h_ => hs_16.1 _ h_)) l_53 hr_46) ?_
      rintro _ w_57 ⟨T_47, A_50, n_51, c_52, x_54, hs_48, hn_55, hx_56, rfl, sc_59⟩
      have st_58 : St w w_57 (.sl A_50 c_52 n_51 x_54 51 3 :: .cells B_35 (([.int .u64 ((gx l0_1 ((a_18).toNat)).1)] : List Value) ++ (([.string a2] : List Value) ++ ([.int .i64 ((gx l0_1 ((a_18).toNat)).2.2)] : List Value))) 51 :: .cells B_5 (([.int .i64 0] : List Value) ++ ([.slice none 0 0] : List Value)) 39 :: .cells B_1 (([.int .i64 a0_0] : List Value) ++ ([.slice A0_1 n0_1 c0_1] : List Value)) 39 :: (T_47 ++ R)) := St.unhide (A := [_]) (B := [_, _, _]) (T := T_47) (R := R) sc_59
      refine ⟨_, rfl, ?_⟩
      refine WL.nil ?_
      refine AWH.back (St.subset st_44 st_58 (List.forall_mem_cons.2 ⟨List.mem_of_getElem? (i := 1) rfl, (List.forall_mem_cons.2 ⟨List.mem_of_getElem? (i := 2) rfl, (List.forall_mem_cons.2 ⟨List.mem_of_getElem? (i := 3) rfl, (mem_TR (A := [_, _, _, _]) (fun _ h_ => hs_48.1 _ h_))⟩)⟩)⟩)) inv_ hs_ hk_ hc_ hn_ ?_
      refine AWH.tail (by kernel_rfl) ?_
      refine AW.step 5 rfl (by kernel_rfl) ?_
      have st_60 : St w w_57 ((T_47 ++ (.sl A_50 c_52 n_51 x_54 51 3 :: .cells B_35 (([.int .u64 ((gx l0_1 ((a_18).toNat)).1)] : List Value) ++ (([.string a2] : List Value) ++ ([.int .i64 ((gx l0_1 ((a_18).toNat)).2.2)] : List Value))) 51 :: .cells B_5 (([.int .i64 0] : List Value) ++ ([.slice none 0 0] : List Value)) 39 :: .cells B_1 (([.int .i64 a0_0] : List Value) ++ ([.slice A0_1 n0_1 c0_1] : List Value)) 39 :: R))) := St.hide (A := []) (B := [_, _, _, _]) (T := T_47) (R := R) st_58
      obtain ⟨l_68, hr_61, H⟩ := H
      refine WL.call Wanted.none ent27 rfl (reliquaryref15_first.calls w w_57 T_47 (.sl A_50 c_52 n_51 x_54 51 3 :: .cells B_35 (([.int .u64 ((gx l0_1 ((a_18).toNat)).1)] : List Value) ++ (([.string a2] : List Value) ++ ([.int .i64 ((gx l0_1 ((a_18).toNat)).2.2)] : List Value))) 51 :: .cells B_5 (([.int .i64 0] : List Value) ++ ([.slice none 0 0] : List Value)) 39 :: .cells B_1 (([.int .i64 a0_0] : List Value) ++ ([.slice A0_1 n0_1 c0_1] : List Value)) 39 :: R) ((gx l0_1 ((a_18).toNat)).1) a2 ((gx l0_1 ((a_18).toNat)).2.2) l_53 A_50 n_51 c_52  st_60 (HS.mk hn_55 (st_58.cap (i := 0) rfl) (fun W_ L_ st hT => st.src_mem (hT _ (List.mem_append_right _ (List.mem_of_getElem? (i := 0) rfl)))) hx_56) l_68 hr_61) ?_
      rintro _ w_72 ⟨T_62, A_65, n_66, c_67, x_69, hs_63, hn_70, hx_71, rfl, sc_74⟩
      have st_73 : St w w_72 (.sl A_65 c_67 n_66 x_69 51 3 :: .sl A_50 c_52 n_51 x_54 51 3 :: .cells B_35 (([.int .u64 ((gx l0_1 ((a_18).toNat)).1)] : List Value) ++ (([.string a2] : List Value) ++ ([.int .i64 ((gx l0_1 ((a_18).toNat)).2.2)] : List Value))) 51 :: .cells B_5 (([.int .i64 0] : List Value) ++ ([.slice none 0 0] : List Value)) 39 :: .cells B_1 (([.int .i64 a0_0] : List Value) ++ ([.slice A0_1 n0_1 c0_1] : List Value)) 39 :: (T_62 ++ R)) := St.unhide (A := [_]) (B := [_, _, _, _]) (T := T_62) (R := R) sc_74
      refine ⟨_, rfl, ?_⟩
      refine WL.nil ?_
      refine AW.back  ?_
      refine AW.take 6 rfl (by kernel_rfl) (by kernel_rfl) (by kernel_rfl) Wanted.none (fun _ => (Runs.fieldAddr (off := 1) (p := 1) fld39_1 rfl rfl rfl)) ?_
      refine AW.step 7 rfl (by kernel_rfl) ?_
      refine WL.store_one (i := 4) (u0 := .slice A0_1 n0_1 c0_1) (pre := (([.int .i64 a0_0] : List Value))) (post := (([] : List Value))) st_73 rfl cells37 (by first | rfl | simp only [List.append_assoc, List.append_nil, List.nil_append, List.cons_append]) (by first | rfl | simp only [List.length_append, List.length_cons, List.length_nil, iv_length]) rfl rfl rfl ?_
      intro w_75 st_76
      replace st_76 : St w w_75 (.sl A_65 c_67 n_66 x_69 51 3 :: .sl A_50 c_52 n_51 x_54 51 3 :: .cells B_35 (([.int .u64 ((gx l0_1 ((a_18).toNat)).1)] : List Value) ++ (([.string a2] : List Value) ++ ([.int .i64 ((gx l0_1 ((a_18).toNat)).2.2)] : List Value))) 51 :: .cells B_5 (([.int .i64 0] : List Value) ++ ([.slice none 0 0] : List Value)) 39 :: .cells B_1 (([.int .i64 a0_0] : List Value) ++ ([.slice A_65 n_66 c_67] : List Value)) 39 :: (T_62 ++ R)) := by have e_ : (([.int .i64 a0_0] : List Value) ++ ([.slice A_65 n_66 c_67] : List Value)) = (([.int .i64 a0_0] : List Value)) ++ ((([.slice A_65 n_66 c_67] : List Value)) ++ (([] : List Value))) := (by first | rfl | simp only [List.append_assoc, List.append_nil, List.nil_append, List.cons_append]); have h_ : St w w_75 (.sl A_65 c_67 n_66 x_69 51 3 :: .sl A_50 c_52 n_51 x_54 51 3 :: .cells B_35 (([.int .u64 ((gx l0_1 ((a_18).toNat)).1)] : List Value) ++ (([.string a2] : List Value) ++ ([.int .i64 ((gx l0_1 ((a_18).toNat)).2.2)] : List Value))) 51 :: .cells B_5 (([.int .i64 0] : List Value) ++ ([.slice none 0 0] : List Value)) 39 :: .cells B_1 ((([.int .i64 a0_0] : List Value)) ++ ((([.slice A_65 n_66 c_67] : List Value)) ++ (([] : List Value)))) 39 :: (T_62 ++ R)) := st_76; rw [← e_] at h_; exact h_
      refine WL.nil ?_
      refine AW.back  ?_
      refine AW.done (by kernel_rfl) ?_
      refine QW.then_n ?_
      refine CW.sub [(1, .int .u64 a1), (2, .string a2), (3, .pointer (some ⟨B_1, 0, none⟩)), (6, .pointer (some ⟨B_5, 0, none⟩)), (7, .int .i64 0)] ⟨rfl, rfl, rfl, rfl, rfl, trivial⟩ ?_
      refine CW.seq ?_
      refine CW.region ?_
      refine WL.val Wanted.none (Runs.load_mid row39 rfl st_76 (i := 4) rfl (part_mid (pre := (([] : List Value))) (mid := (([.int .i64 a0_0] : List Value) ++ ([.slice A_65 n_66 c_67] : List Value))) (post := (([] : List Value))) (by first | rfl | simp only [List.append_assoc, List.append_nil, List.nil_append, List.cons_append]) (by first | rfl | simp only [List.length_append, List.length_cons, List.length_nil, iv_length]) (by first | rfl | simp only [List.length_append, List.length_cons, List.length_nil, iv_length])) (by first | rfl | simp only [List.length_append, List.length_cons, List.length_nil, iv_length])) ?_
      refine WL.store_mid (i := 3) (pre := (([] : List Value))) (mid := (([.int .i64 0] : List Value) ++ ([.slice none 0 0] : List Value))) (post := (([] : List Value))) (ms := (([.int .i64 a0_0] : List Value) ++ ([.slice A_65 n_66 c_67] : List Value))) st_76 rfl row39 (by first | rfl | simp only [List.append_assoc, List.append_nil, List.nil_append, List.cons_append]) (by first | rfl | simp only [List.length_append, List.length_cons, List.length_nil, iv_length]) rfl rfl (by first | rfl | simp only [List.length_append, List.length_cons, List.length_nil, iv_length]) (by first | rfl | simp only [List.length_append, List.length_cons, List.length_nil, iv_length]) (by intro u hu; simp only [List.mem_append, List.mem_singleton] at hu; rcases hu with hu | hu <;> first | exact one_iv _ _ u hu | (subst hu; rfl)) ?_
      intro w_77 st_78
      replace st_78 : St w w_77 (.sl A_65 c_67 n_66 x_69 51 3 :: .sl A_50 c_52 n_51 x_54 51 3 :: .cells B_35 (([.int .u64 ((gx l0_1 ((a_18).toNat)).1)] : List Value) ++ (([.string a2] : List Value) ++ ([.int .i64 ((gx l0_1 ((a_18).toNat)).2.2)] : List Value))) 51 :: .cells B_5 (([.int .i64 a0_0] : List Value) ++ ([.slice A_65 n_66 c_67] : List Value)) 39 :: .cells B_1 (([.int .i64 a0_0] : List Value) ++ ([.slice A_65 n_66 c_67] : List Value)) 39 :: (T_62 ++ R)) := by have e_ : (([.int .i64 a0_0] : List Value) ++ ([.slice A_65 n_66 c_67] : List Value)) = (([] : List Value)) ++ ((([.int .i64 a0_0] : List Value) ++ ([.slice A_65 n_66 c_67] : List Value)) ++ (([] : List Value))) := (by first | rfl | simp only [List.append_assoc, List.append_nil, List.nil_append, List.cons_append]); have h_ : St w w_77 (.sl A_65 c_67 n_66 x_69 51 3 :: .sl A_50 c_52 n_51 x_54 51 3 :: .cells B_35 (([.int .u64 ((gx l0_1 ((a_18).toNat)).1)] : List Value) ++ (([.string a2] : List Value) ++ ([.int .i64 ((gx l0_1 ((a_18).toNat)).2.2)] : List Value))) 51 :: .cells B_5 ((([] : List Value)) ++ ((([.int .i64 a0_0] : List Value) ++ ([.slice A_65 n_66 c_67] : List Value)) ++ (([] : List Value)))) 39 :: .cells B_1 (([.int .i64 a0_0] : List Value) ++ ([.slice A_65 n_66 c_67] : List Value)) 39 :: (T_62 ++ R)) := st_78; rw [← e_] at h_; exact h_
      refine WL.val Wanted.none (Runs.assign rfl) ?_
      refine WL.nil ?_
      refine QW.then_n ?_
      refine CW.ret ?_
      refine QW.then_r ?_
      have hb_83c := st_78.cap (i := 0) rfl
      obtain ⟨T_79, hs_80, hm_81, st_82⟩ := St.freeze (A := []) (B := [_, _, _, _]) (T := T_62) (R := R) st_78
      have hb_83 : HS w T_79 T_79 A_65 n_66 c_67 (f51 w) l_68 := HS.mk hn_70 hb_83c (Hd.of_sl hm_81) (hx_71.mono (fun _ h_ => hs_80.1 _ h_))
      replace st_82 : St w w_77 (.sl A_50 c_52 n_51 x_54 51 3 :: .cells B_35 (([.int .u64 ((gx l0_1 ((a_18).toNat)).1)] : List Value) ++ (([.string a2] : List Value) ++ ([.int .i64 ((gx l0_1 ((a_18).toNat)).2.2)] : List Value))) 51 :: .cells B_5 (([.int .i64 a0_0] : List Value) ++ ([.slice A_65 n_66 c_67] : List Value)) 39 :: .cells B_1 (([.int .i64 a0_0] : List Value) ++ ([.slice A_65 n_66 c_67] : List Value)) 39 :: (T_79 ++ R)) := st_82
      obtain ⟨rfl, rfl, rfl⟩ := H
      exact QW.retN2 rfl (Res.row rfl row39 st_82 (i := 2) rfl (by first | rfl | simp only [List.length_append, List.length_cons, List.length_nil, iv_length])) (Res.tmp rfl) ⟨T_79, A_65, n_66, c_67, (((hs_16.trans hs_48).trans hs_63).trans hs_80), hb_83, rfl, (St.pickT (L := [_, _, _, _]) st_82 [] (by decide))⟩
    · have h_23 : (decide (a_18 ≥ 0)) = false := (decide_eq_false c_22)
      refine CW.cf rfl h_23 ?_
      refine CW.skip ?_
      refine QW.then_n ?_
      refine CW.seq ?_
      refine CW.block ?_
      obtain ⟨k_84, H⟩ := H
      refine CW.sub [(1, .int .u64 a1), (2, .string a2), (3, .pointer (some ⟨B_1, 0, none⟩)), (6, .pointer (some ⟨B_5, 0, none⟩)), (7, .int .i64 0)] ⟨rfl, rfl, rfl, rfl, rfl, trivial⟩ ?_
      refine CW.loop (fun kL1 l_ w_ => ∃ (T_93 : Pool) (A_95 : Option Addr) (n_96 : Nat) (c_97 : Nat) (l_98 : List R51) (x_100 : Int), l_ = [(1, .int .u64 a1), (2, .string a2), (3, .pointer (some ⟨B_1, 0, none⟩)), (6, .pointer (some ⟨B_5, 0, none⟩)), (7, .int .i64 x_100)] ∧ reliquaryref15_Put.L1 a0_0 a1 a2 ar0_0 lr0_1 ar1 kL1 l_98 x_100 ∧ (Pl T_15 T_93) ∧ (HS w T_93 T_93 A_95 n_96 c_97 (f51 w) l_98) ∧ St w w_ (.cells B_5 (([.int .i64 0] : List Value) ++ ([.slice none 0 0] : List Value)) 39 :: .cells B_1 (([.int .i64 a0_0] : List Value) ++ ([.slice A_95 n_96 c_97] : List Value)) 39 :: (T_93 ++ R))) (k := k_84) ⟨T_15, A0_1, n0_1, c0_1, l0_1, 0, rfl, H, Pl.refl, (hb0_1.mono (fun _ h_ => hs_16.1 _ h_) (fun _ h_ => hs_16.1 _ h_)), st_20⟩ (fun _ _ h => by obtain ⟨_, _, _, _, _, _, _, h, _⟩ := h; exact h.elim) ?_
      rintro kL1 l_103 w_101 ⟨T_93, A_95, n_96, c_97, l_98, x_100, rfl, H, hs_94, hb_99, st_102⟩
      refine CW.seq ?_
      refine CW.seq ?_
      refine CW.region ?_
      refine WL.val Wanted.none (Runs.fieldAddr (off := 1) (p := 1) fld39_1 rfl rfl rfl) ?_
      refine WL.val Wanted.none (Runs.load nagg37 rfl (st_102.cell (k := 1) rfl (part_one (u := .slice A_95 n_96 c_97) (pre := (([.int .i64 a0_0] : List Value))) (post := (([] : List Value))) (by first | rfl | simp only [List.append_assoc, List.append_nil, List.nil_append, List.cons_append]) (by first | rfl | simp only [List.length_append, List.length_cons, List.length_nil, iv_length])))) ?_
      refine WL.val Wanted.none (Runs.len_sl Try.underlying37 rfl (by rw [hb_99.1])) ?_
      refine WL.val Wanted.none (Runs.gtr rfl rfl rfl) ?_
      refine WL.val Wanted.none (Runs.move rfl) ?_
      rcases H with ⟨c_104, H⟩ | ⟨c_104, H⟩
      · have h_105 : (decide ((l_98.length : Int) > 0)) = true := (decide_eq_true c_104)
        refine WL.on ?_ ?_; exact Wanted.guard (dj := 40) (by rfl) (evb (by rfl) h_105) (by rfl)
        refine WL.val Wanted.none (Runs.fieldAddr (off := 1) (p := 1) fld39_1 rfl rfl rfl) ?_
        refine WL.on ?_ ?_; exact Wanted.guard (dj := 40) (by rfl) (evb (by rfl) h_105) (by rfl)
        refine WL.val Wanted.none (Runs.load nagg37 rfl (st_102.cell (k := 1) rfl (part_one (u := .slice A_95 n_96 c_97) (pre := (([.int .i64 a0_0] : List Value))) (post := (([] : List Value))) (by first | rfl | simp only [List.append_assoc, List.append_nil, List.nil_append, List.cons_append]) (by first | rfl | simp only [List.length_append, List.length_cons, List.length_nil, iv_length])))) ?_
        refine WL.on ?_ ?_; exact Wanted.guard (dj := 40) (by rfl) (evb (by rfl) h_105) (by rfl)
        refine WL.val Wanted.none (Runs.len_sl Try.underlying37 rfl (by rw [hb_99.1])) ?_
        refine WL.on ?_ ?_; exact Wanted.guard (dj := 40) (by rfl) (evb (by rfl) h_105) (by rfl)
        refine WL.val Wanted.none (Runs.fieldAddr (off := 0) (p := 0) fld39_0 rfl rfl rfl) ?_
        refine WL.on ?_ ?_; exact Wanted.guard (dj := 40) (by rfl) (evb (by rfl) h_105) (by rfl)
        refine WL.val Wanted.none (Runs.load nagg3 rfl (st_102.cell (k := 1) rfl (part_one (u := .int .i64 a0_0) (pre := (([] : List Value))) (post := (([.slice A_95 n_96 c_97] : List Value))) (by first | rfl | simp only [List.append_assoc, List.append_nil, List.nil_append, List.cons_append]) (by first | rfl | simp only [List.length_append, List.length_cons, List.length_nil, iv_length])))) ?_
        refine WL.on ?_ ?_; exact Wanted.guard (dj := 40) (by rfl) (evb (by rfl) h_105) (by rfl)
        refine WL.val Wanted.none (Runs.geq rfl rfl rfl) ?_
        refine WL.val Wanted.none (Runs.pick_t (evb rfl h_105) rfl) ?_
        refine WL.nil ?_
        refine QW.then_n ?_
        rcases H with ⟨c_106, H⟩ | ⟨c_106, H⟩
        · have h_107 : (decide ((l_98.length : Int) ≥ a0_0)) = true := (decide_eq_true c_106)
          refine CW.ct rfl h_107 ?_
          refine CW.skip ?_
          refine QW.then_n ?_
          refine CW.block ?_
          refine CW.seq ?_
          refine CW.region ?_
          refine WL.val Wanted.none (Runs.fieldAddr (off := 1) (p := 1) fld39_1 rfl rfl rfl) ?_
          refine WL.val Wanted.none (Runs.load nagg37 rfl (st_102.cell (k := 1) rfl (part_one (u := .slice A_95 n_96 c_97) (pre := (([.int .i64 a0_0] : List Value))) (post := (([] : List Value))) (by first | rfl | simp only [List.append_assoc, List.append_nil, List.nil_append, List.cons_append]) (by first | rfl | simp only [List.length_append, List.length_cons, List.length_nil, iv_length])))) ?_
          refine WL.val Wanted.none (Runs.len_sl Try.underlying37 rfl (by rw [hb_99.1])) ?_
          refine WL.val Wanted.none (Runs.sub rfl rfl rfl) ?_
          refine WL.val Wanted.none (Runs.assign rfl) ?_
          refine WL.nil ?_
          refine QW.then_n ?_
          refine CW.seq ?_
          refine CW.block ?_
          obtain ⟨k_108, H⟩ := H
          refine CW.sub [(1, .int .u64 a1), (2, .string a2), (3, .pointer (some ⟨B_1, 0, none⟩)), (6, .pointer (some ⟨B_5, 0, none⟩)), (7, .int .i64 x_100), (36, .pointer (some ⟨B_1, 1, none⟩)), (37, .slice A_95 n_96 c_97), (38, .int .i64 (l_98.length : Int)), (39, .bool (decide ((l_98.length : Int) > 0))), (40, .bool (decide ((l_98.length : Int) > 0))), (41, .pointer (some ⟨B_1, 1, none⟩)), (42, .slice A_95 n_96 c_97), (43, .int .i64 (l_98.length : Int)), (44, .pointer (some ⟨B_1, 0, none⟩)), (45, .int .i64 a0_0), (46, .bool (decide ((l_98.length : Int) ≥ a0_0))), (47, .bool (decide ((l_98.length : Int) ≥ a0_0))), (48, .pointer (some ⟨B_1, 1, none⟩)), (49, .slice A_95 n_96 c_97), (50, .int .i64 (l_98.length : Int)), (51, .int .i64 (IntKind.i64.wrap ((l_98.length : Int) - 1))), (10, .int .i64 (IntKind.i64.wrap ((l_98.length : Int) - 1)))] ⟨rfl, rfl, rfl, rfl, rfl, rfl, rfl, rfl, rfl, rfl, rfl, rfl, rfl, rfl, rfl, rfl, rfl, rfl, rfl, rfl, rfl, rfl, trivial⟩ ?_
          refine CW.loop (fun kL2 l_ w_ => ∃ (T_109 : Pool) (x_111 : Int), l_ = [(1, .int .u64 a1), (2, .string a2), (3, .pointer (some ⟨B_1, 0, none⟩)), (6, .pointer (some ⟨B_5, 0, none⟩)), (7, .int .i64 x_100), (36, .pointer (some ⟨B_1, 1, none⟩)), (37, .slice A_95 n_96 c_97), (38, .int .i64 (l_98.length : Int)), (39, .bool (decide ((l_98.length : Int) > 0))), (40, .bool (decide ((l_98.length : Int) > 0))), (41, .pointer (some ⟨B_1, 1, none⟩)), (42, .slice A_95 n_96 c_97), (43, .int .i64 (l_98.length : Int)), (44, .pointer (some ⟨B_1, 0, none⟩)), (45, .int .i64 a0_0), (46, .bool (decide ((l_98.length : Int) ≥ a0_0))), (47, .bool (decide ((l_98.length : Int) ≥ a0_0))), (48, .pointer (some ⟨B_1, 1, none⟩)), (49, .slice A_95 n_96 c_97), (50, .int .i64 (l_98.length : Int)), (51, .int .i64 (IntKind.i64.wrap ((l_98.length : Int) - 1))), (10, .int .i64 x_111)] ∧ reliquaryref15_Put.L2 a0_0 ar0_0 lr0_1 ar1 l_98 x_100 (reliquaryref15_Put.L1 a0_0 a1 a2 ar0_0 lr0_1 ar1 kL1) kL2 x_111 ∧ (Pl T_93 T_109) ∧ St w w_ (.cells B_5 (([.int .i64 0] : List Value) ++ ([.slice none 0 0] : List Value)) 39 :: .cells B_1 (([.int .i64 a0_0] : List Value) ++ ([.slice A_95 n_96 c_97] : List Value)) 39 :: (T_109 ++ R))) (k := k_108) ⟨T_93, IntKind.i64.wrap ((l_98.length : Int) - 1), rfl, H, Pl.refl, st_102⟩ (fun _ _ h => by obtain ⟨_, _, _, h, _⟩ := h; exact h.elim) ?_
          rintro kL2 l_114 w_112 ⟨T_109, x_111, rfl, H, hs_110, st_113⟩
          refine CW.seq ?_
          refine CW.seq ?_
          refine CW.region ?_
          refine WL.val Wanted.none (Runs.move rfl) ?_
          refine WL.val Wanted.none (Runs.geq rfl rfl rfl) ?_
          refine WL.val Wanted.none (Runs.move rfl) ?_
          rcases H with ⟨c_115, H⟩ | ⟨c_115, H⟩
          · have h_116 : (decide (x_111 ≥ 0)) = true := (decide_eq_true c_115)
            refine WL.on ?_ ?_; exact Wanted.guard (dj := 54) (by rfl) (evb (by rfl) h_116) (by rfl)
            refine WL.val Wanted.none (Runs.fieldAddr (off := 1) (p := 1) fld39_1 rfl rfl rfl) ?_
            refine WL.on ?_ ?_; exact Wanted.guard (dj := 54) (by rfl) (evb (by rfl) h_116) (by rfl)
            refine WL.val Wanted.none (Runs.load nagg37 rfl (st_113.cell (k := 1) rfl (part_one (u := .slice A_95 n_96 c_97) (pre := (([.int .i64 a0_0] : List Value))) (post := (([] : List Value))) (by first | rfl | simp only [List.append_assoc, List.append_nil, List.nil_append, List.cons_append]) (by first | rfl | simp only [List.length_append, List.length_cons, List.length_nil, iv_length])))) ?_
            refine WL.on ?_ ?_; exact Wanted.guard (dj := 54) (by rfl) (evb (by rfl) h_116) (by rfl)
            refine WL.val Wanted.none (Runs.move rfl) ?_
            refine WL.on ?_ ?_; exact Wanted.guard (dj := 54) (by rfl) (evb (by rfl) h_116) (by rfl)
            obtain ⟨⟨p_117, q_118⟩, H⟩ := H
            obtain ⟨x_119, hs_120, hr_121⟩ := hb_99.2.2
            obtain ⟨a_122, e_123, ms_124, hc_125, hm_126⟩ := el_get (i := (x_111).toNat) ((hs_120.at st_113 (mem_T (A := [_, _]) (fun _ h_ => hs_110.1 _ h_)))) (hr_121.mono (fun _ h_ => hs_110.1 _ h_)) (fz51 w) (by decide) (by omega)
            obtain em_127 := inv51 hm_126
            replace em_127 : ms_124 = ([.int .u64 ((gx l_98 ((x_111).toNat)).1)] : List Value) ++ (([.string ((gx l_98 ((x_111).toNat)).2.1)] : List Value) ++ ([.int .i64 ((gx l_98 ((x_111).toNat)).2.2)] : List Value)) := em_127
            subst em_127
            refine WL.val Wanted.none (Runs.indexAddr Try.underlying37 cells51 (by decide) rfl e_123 rfl p_117 (by rw [show n_96 = l_98.length from hb_99.1]; exact q_118) (o := ((x_111).toNat) * 3) (by first | rfl | omega)) ?_
            refine WL.on ?_ ?_; exact Wanted.guard (dj := 54) (by rfl) (evb (by rfl) h_116) (by rfl)
            refine WL.val Wanted.none (Runs.fieldAddrB (off := 2) fld51_2 rfl rfl rfl) ?_
            refine WL.on ?_ ?_; exact Wanted.guard (dj := 54) (by rfl) (evb (by rfl) h_116) (by rfl)
            refine WL.val Wanted.none (Runs.load nagg3 rfl (Src.cellAt (j := 2) (Src.cut ((hs_120.at st_113 (mem_T (A := [_, _]) (fun _ h_ => hs_110.1 _ h_)))) e_123 hc_125) rfl)) ?_
            refine WL.on ?_ ?_; exact Wanted.guard (dj := 54) (by rfl) (evb (by rfl) h_116) (by rfl)
            refine WL.val Wanted.none (Runs.gtr rfl rfl rfl) ?_
            refine WL.val Wanted.none (Runs.pick_t (evb rfl h_116) rfl) ?_
            refine WL.nil ?_
            refine QW.then_n ?_
            rcases H with ⟨c_128, H⟩ | ⟨c_128, H⟩
            · have h_129 : (decide (((gx l_98 ((x_111).toNat)).2.2) > 0)) = true := (decide_eq_true c_128)
              refine CW.ct rfl h_129 ?_
              refine CW.skip ?_
              refine QW.then_n ?_
              refine CW.block ?_
              refine CW.region ?_
              refine WL.val Wanted.none (Runs.move rfl) ?_
              refine WL.val Wanted.none (Runs.sub rfl rfl rfl) ?_
              refine WL.val Wanted.none (Runs.assign rfl) ?_
              refine WL.nil ?_
              refine QW.blk_n ?_
              exact QW.at [(1, .int .u64 a1), (2, .string a2), (3, .pointer (some ⟨B_1, 0, none⟩)), (6, .pointer (some ⟨B_5, 0, none⟩)), (7, .int .i64 x_100), (36, .pointer (some ⟨B_1, 1, none⟩)), (37, .slice A_95 n_96 c_97), (38, .int .i64 (l_98.length : Int)), (39, .bool (decide ((l_98.length : Int) > 0))), (40, .bool (decide ((l_98.length : Int) > 0))), (41, .pointer (some ⟨B_1, 1, none⟩)), (42, .slice A_95 n_96 c_97), (43, .int .i64 (l_98.length : Int)), (44, .pointer (some ⟨B_1, 0, none⟩)), (45, .int .i64 a0_0), (46, .bool (decide ((l_98.length : Int) ≥ a0_0))), (47, .bool (decide ((l_98.length : Int) ≥ a0_0))), (48, .pointer (some ⟨B_1, 1, none⟩)), (49, .slice A_95 n_96 c_97), (50, .int .i64 (l_98.length : Int)), (51, .int .i64 (IntKind.i64.wrap ((l_98.length : Int) - 1))), (10, .int .i64 (IntKind.i64.wrap (x_111 - 1)))] ⟨rfl, rfl, rfl, rfl, rfl, rfl, rfl, rfl, rfl, rfl, rfl, rfl, rfl, rfl, rfl, rfl, rfl, rfl, rfl, rfl, rfl, rfl, trivial⟩ ⟨T_109, IntKind.i64.wrap (x_111 - 1), rfl, H, hs_110, st_113⟩
            · have h_129 : (decide (((gx l_98 ((x_111).toNat)).2.2) > 0)) = false := (decide_eq_false c_128)
              refine CW.cf rfl h_129 ?_
              refine CW.exit ?_
              refine QW.then_x ?_
              refine QW.then_x ?_
              refine QW.blk_x ?_
              refine QW.then_n ?_
              refine CW.seq ?_
              refine CW.seq ?_
              refine CW.region ?_
              refine WL.val Wanted.none (Runs.move rfl) ?_
              refine WL.val Wanted.none (Runs.lss rfl rfl rfl) ?_
              refine WL.nil ?_
              refine QW.then_n ?_
              rcases H with ⟨c_130, H⟩ | ⟨c_130, H⟩
              · have h_131 : (decide (x_111 < 0)) = true := (decide_eq_true c_130)
                refine CW.ct rfl h_131 ?_
                refine CW.seq ?_
                refine CW.region ?_
                refine WL.val Wanted.none (Runs.load_mid row39 rfl st_113 (i := 1) rfl (part_mid (pre := (([] : List Value))) (mid := (([.int .i64 a0_0] : List Value) ++ ([.slice A_95 n_96 c_97] : List Value))) (post := (([] : List Value))) (by first | rfl | simp only [List.append_assoc, List.append_nil, List.nil_append, List.cons_append]) (by first | rfl | simp only [List.length_append, List.length_cons, List.length_nil, iv_length]) (by first | rfl | simp only [List.length_append, List.length_cons, List.length_nil, iv_length])) (by first | rfl | simp only [List.length_append, List.length_cons, List.length_nil, iv_length])) ?_
                refine WL.store_mid (i := 0) (pre := (([] : List Value))) (mid := (([.int .i64 0] : List Value) ++ ([.slice none 0 0] : List Value))) (post := (([] : List Value))) (ms := (([.int .i64 a0_0] : List Value) ++ ([.slice A_95 n_96 c_97] : List Value))) st_113 rfl row39 (by first | rfl | simp only [List.append_assoc, List.append_nil, List.nil_append, List.cons_append]) (by first | rfl | simp only [List.length_append, List.length_cons, List.length_nil, iv_length]) rfl rfl (by first | rfl | simp only [List.length_append, List.length_cons, List.length_nil, iv_length]) (by first | rfl | simp only [List.length_append, List.length_cons, List.length_nil, iv_length]) (by intro u hu; simp only [List.mem_append, List.mem_singleton] at hu; rcases hu with hu | hu <;> first | exact one_iv _ _ u hu | (subst hu; rfl)) ?_
                intro w_132 st_133
                replace st_133 : St w w_132 (.cells B_5 (([.int .i64 a0_0] : List Value) ++ ([.slice A_95 n_96 c_97] : List Value)) 39 :: .cells B_1 (([.int .i64 a0_0] : List Value) ++ ([.slice A_95 n_96 c_97] : List Value)) 39 :: (T_109 ++ R)) := by have e_ : (([.int .i64 a0_0] : List Value) ++ ([.slice A_95 n_96 c_97] : List Value)) = (([] : List Value)) ++ ((([.int .i64 a0_0] : List Value) ++ ([.slice A_95 n_96 c_97] : List Value)) ++ (([] : List Value))) := (by first | rfl | simp only [List.append_assoc, List.append_nil, List.nil_append, List.cons_append]); have h_ : St w w_132 (.cells B_5 ((([] : List Value)) ++ ((([.int .i64 a0_0] : List Value) ++ ([.slice A_95 n_96 c_97] : List Value)) ++ (([] : List Value)))) 39 :: .cells B_1 (([.int .i64 a0_0] : List Value) ++ ([.slice A_95 n_96 c_97] : List Value)) 39 :: (T_109 ++ R)) := st_133; rw [← e_] at h_; exact h_
                refine WL.val Wanted.none (Runs.assign rfl) ?_
                refine WL.nil ?_
                refine QW.then_n ?_
                refine CW.ret ?_
                refine QW.then_r ?_
                refine QW.blk_r ?_
                refine QW.then_r ?_
                refine QW.blk_r ?_
                refine QW.then_r ?_
                obtain ⟨rfl, rfl, rfl⟩ := H
                exact QW.retN2 rfl (Res.row rfl row39 st_133 (i := 0) rfl (by first | rfl | simp only [List.length_append, List.length_cons, List.length_nil, iv_length])) (Res.tmp rfl) ⟨T_109, A_95, n_96, c_97, ((hs_16.trans hs_94).trans hs_110), (hb_99.mono (fun _ h_ => hs_110.1 _ h_) (fun _ h_ => hs_110.1 _ h_)), rfl, (St.pickT (L := [_, _]) st_133 [] (by decide))⟩
              · have h_131 : (decide (x_111 < 0)) = false := (decide_eq_false c_130)
                refine CW.cf rfl h_131 ?_
                refine CW.skip ?_
                refine QW.then_n ?_
                refine CW.region ?_
                refine WL.val Wanted.none (Runs.fieldAddr (off := 1) (p := 1) fld39_1 rfl rfl rfl) ?_
                refine WL.val Wanted.none (Runs.load nagg37 rfl (st_113.cell (k := 1) rfl (part_one (u := .slice A_95 n_96 c_97) (pre := (([.int .i64 a0_0] : List Value))) (post := (([] : List Value))) (by first | rfl | simp only [List.append_assoc, List.append_nil, List.nil_append, List.cons_append]) (by first | rfl | simp only [List.length_append, List.length_cons, List.length_nil, iv_length])))) ?_
                refine WL.val Wanted.none (Runs.move rfl) ?_
                have st_134 : St w w_112 ((T_109 ++ (.cells B_5 (([.int .i64 0] : List Value) ++ ([.slice none 0 0] : List Value)) 39 :: .cells B_1 (([.int .i64 a0_0] : List Value) ++ ([.slice A_95 n_96 c_97] : List Value)) 39 :: R))) := St.hide (A := []) (B := [_, _]) (T := T_109) (R := R) st_113
                obtain ⟨l_142, hr_135, H⟩ := H
                refine WL.call Wanted.none ent28 rfl (reliquaryref15_without.calls w w_112 T_109 (.cells B_5 (([.int .i64 0] : List Value) ++ ([.slice none 0 0] : List Value)) 39 :: .cells B_1 (([.int .i64 a0_0] : List Value) ++ ([.slice A_95 n_96 c_97] : List Value)) 39 :: R) l_98 x_111 A_95 n_96 c_97  st_134 (hb_99.mono (memo_T (B := [_, _]) (fun _ h_ => hs_110.1 _ h_)) (fun _ h_ => hs_110.1 _ h_)) l_142 hr_135) ?_
                rintro _ w_146 ⟨T_136, A_139, n_140, c_141, x_143, hs_137, hn_144, hx_145, rfl, sc_148⟩
                have st_147 : St w w_146 (.sl A_139 c_141 n_140 x_143 51 3 :: .cells B_5 (([.int .i64 0] : List Value) ++ ([.slice none 0 0] : List Value)) 39 :: .cells B_1 (([.int .i64 a0_0] : List Value) ++ ([.slice A_95 n_96 c_97] : List Value)) 39 :: (T_136 ++ R)) := St.unhide (A := [_]) (B := [_, _]) (T := T_136) (R := R) sc_148
                refine ⟨_, rfl, ?_⟩
                refine WL.val Wanted.none (Runs.fieldAddr (off := 1) (p := 1) fld39_1 rfl rfl rfl) ?_
                refine WL.store_one (i := 2) (u0 := .slice A_95 n_96 c_97) (pre := (([.int .i64 a0_0] : List Value))) (post := (([] : List Value))) st_147 rfl cells37 (by first | rfl | simp only [List.append_assoc, List.append_nil, List.nil_append, List.cons_append]) (by first | rfl | simp only [List.length_append, List.length_cons, List.length_nil, iv_length]) rfl rfl rfl ?_
                intro w_149 st_150
                replace st_150 : St w w_149 (.sl A_139 c_141 n_140 x_143 51 3 :: .cells B_5 (([.int .i64 0] : List Value) ++ ([.slice none 0 0] : List Value)) 39 :: .cells B_1 (([.int .i64 a0_0] : List Value) ++ ([.slice A_139 n_140 c_141] : List Value)) 39 :: (T_136 ++ R)) := by have e_ : (([.int .i64 a0_0] : List Value) ++ ([.slice A_139 n_140 c_141] : List Value)) = (([.int .i64 a0_0] : List Value)) ++ ((([.slice A_139 n_140 c_141] : List Value)) ++ (([] : List Value))) := (by first | rfl | simp only [List.append_assoc, List.append_nil, List.nil_append, List.cons_append]); have h_ : St w w_149 (.sl A_139 c_141 n_140 x_143 51 3 :: .cells B_5 (([.int .i64 0] : List Value) ++ ([.slice none 0 0] : List Value)) 39 :: .cells B_1 ((([.int .i64 a0_0] : List Value)) ++ ((([.slice A_139 n_140 c_141] : List Value)) ++ (([] : List Value)))) 39 :: (T_136 ++ R)) := st_150; rw [← e_] at h_; exact h_
                refine WL.nil ?_
                refine QW.blk_n ?_
                have hb_155c := st_150.cap (i := 0) rfl
                obtain ⟨T_151, hs_152, hm_153, st_154⟩ := St.freeze (A := []) (B := [_, _]) (T := T_136) (R := R) st_150
                have hb_155 : HS w T_151 T_151 A_139 n_140 c_141 (f51 w) l_142 := HS.mk hn_144 hb_155c (Hd.of_sl hm_153) (hx_145.mono (fun _ h_ => hs_152.1 _ h_))
                replace st_154 : St w w_149 (.cells B_5 (([.int .i64 0] : List Value) ++ ([.slice none 0 0] : List Value)) 39 :: .cells B_1 (([.int .i64 a0_0] : List Value) ++ ([.slice A_139 n_140 c_141] : List Value)) 39 :: (T_151 ++ R)) := st_154
                exact QW.at [(1, .int .u64 a1), (2, .string a2), (3, .pointer (some ⟨B_1, 0, none⟩)), (6, .pointer (some ⟨B_5, 0, none⟩)), (7, .int .i64 x_100)] ⟨rfl, rfl, rfl, rfl, rfl, trivial⟩ ⟨T_151, A_139, n_140, c_141, l_142, x_100, rfl, H, (((hs_94.trans hs_110).trans hs_137).trans hs_152), hb_155, st_154⟩
          · have h_116 : (decide (x_111 ≥ 0)) = false := (decide_eq_false c_115)
            refine WL.off ?_ ?_; exact Wanted.guard (dj := 54) (by rfl) (evb (by rfl) h_116) (by rfl)
            refine WL.off ?_ ?_; exact Wanted.guard (dj := 54) (by rfl) (evb (by rfl) h_116) (by rfl)
            refine WL.off ?_ ?_; exact Wanted.guard (dj := 54) (by rfl) (evb (by rfl) h_116) (by rfl)
            refine WL.off ?_ ?_; exact Wanted.guard (dj := 54) (by rfl) (evb (by rfl) h_116) (by rfl)
            refine WL.off ?_ ?_; exact Wanted.guard (dj := 54) (by rfl) (evb (by rfl) h_116) (by rfl)
            refine WL.off ?_ ?_; exact Wanted.guard (dj := 54) (by rfl) (evb (by rfl) h_116) (by rfl)
            refine WL.off ?_ ?_; exact Wanted.guard (dj := 54) (by rfl) (evb (by rfl) h_116) (by rfl)
            refine WL.val Wanted.none (Runs.pick_f (evb rfl h_116) rfl) ?_
            refine WL.nil ?_
            refine QW.then_n ?_
            refine CW.cf rfl rfl ?_
            refine CW.exit ?_
            refine QW.then_x ?_
            refine QW.then_x ?_
            refine QW.blk_x ?_
            refine QW.then_n ?_
            refine CW.seq ?_
            refine CW.seq ?_
            refine CW.region ?_
            refine WL.val Wanted.none (Runs.move rfl) ?_
            refine WL.val Wanted.none (Runs.lss rfl rfl rfl) ?_
            refine WL.nil ?_
            refine QW.then_n ?_
            rcases H with ⟨c_156, H⟩ | ⟨c_156, H⟩
            · have h_157 : (decide (x_111 < 0)) = true := (decide_eq_true c_156)
              refine CW.ct rfl h_157 ?_
              refine CW.seq ?_
              refine CW.region ?_
              refine WL.val Wanted.none (Runs.load_mid row39 rfl st_113 (i := 1) rfl (part_mid (pre := (([] : List Value))) (mid := (([.int .i64 a0_0] : List Value) ++ ([.slice A_95 n_96 c_97] : List Value))) (post := (([] : List Value))) (by first | rfl | simp only [List.append_assoc, List.append_nil, List.nil_append, List.cons_append]) (by first | rfl | simp only [List.length_append, List.length_cons, List.length_nil, iv_length]) (by first | rfl | simp only [List.length_append, List.length_cons, List.length_nil, iv_length])) (by first | rfl | simp only [List.length_append, List.length_cons, List.length_nil, iv_length])) ?_
              refine WL.store_mid (i := 0) (pre := (([] : List Value))) (mid := (([.int .i64 0] : List Value) ++ ([.slice none 0 0] : List Value))) (post := (([] : List Value))) (ms := (([.int .i64 a0_0] : List Value) ++ ([.slice A_95 n_96 c_97] : List Value))) st_113 rfl row39 (by first | rfl | simp only [List.append_assoc, List.append_nil, List.nil_append, List.cons_append]) (by first | rfl | simp only [List.length_append, List.length_cons, List.length_nil, iv_length]) rfl rfl (by first | rfl | simp only [List.length_append, List.length_cons, List.length_nil, iv_length]) (by first | rfl | simp only [List.length_append, List.length_cons, List.length_nil, iv_length]) (by intro u hu; simp only [List.mem_append, List.mem_singleton] at hu; rcases hu with hu | hu <;> first | exact one_iv _ _ u hu | (subst hu; rfl)) ?_
              intro w_158 st_159
              replace st_159 : St w w_158 (.cells B_5 (([.int .i64 a0_0] : List Value) ++ ([.slice A_95 n_96 c_97] : List Value)) 39 :: .cells B_1 (([.int .i64 a0_0] : List Value) ++ ([.slice A_95 n_96 c_97] : List Value)) 39 :: (T_109 ++ R)) := by have e_ : (([.int .i64 a0_0] : List Value) ++ ([.slice A_95 n_96 c_97] : List Value)) = (([] : List Value)) ++ ((([.int .i64 a0_0] : List Value) ++ ([.slice A_95 n_96 c_97] : List Value)) ++ (([] : List Value))) := (by first | rfl | simp only [List.append_assoc, List.append_nil, List.nil_append, List.cons_append]); have h_ : St w w_158 (.cells B_5 ((([] : List Value)) ++ ((([.int .i64 a0_0] : List Value) ++ ([.slice A_95 n_96 c_97] : List Value)) ++ (([] : List Value)))) 39 :: .cells B_1 (([.int .i64 a0_0] : List Value) ++ ([.slice A_95 n_96 c_97] : List Value)) 39 :: (T_109 ++ R)) := st_159; rw [← e_] at h_; exact h_
              refine WL.val Wanted.none (Runs.assign rfl) ?_
              refine WL.nil ?_
              refine QW.then_n ?_
              refine CW.ret ?_
              refine QW.then_r ?_
              refine QW.blk_r ?_
              refine QW.then_r ?_
              refine QW.blk_r ?_
              refine QW.then_r ?_
              obtain ⟨rfl, rfl, rfl⟩ := H
              exact QW.retN2 rfl (Res.row rfl row39 st_159 (i := 0) rfl (by first | rfl | simp only [List.length_append, List.length_cons, List.length_nil, iv_length])) (Res.tmp rfl) ⟨T_109, A_95, n_96, c_97, ((hs_16.trans hs_94).trans hs_110), (hb_99.mono (fun _ h_ => hs_110.1 _ h_) (fun _ h_ => hs_110.1 _ h_)), rfl, (St.pickT (L := [_, _]) st_159 [] (by decide))⟩
            · have h_157 : (decide (x_111 < 0)) = false := (decide_eq_false c_156)
              refine CW.cf rfl h_157 ?_
              refine CW.skip ?_
              refine QW.then_n ?_
              refine CW.region ?_
              refine WL.val Wanted.none (Runs.fieldAddr (off := 1) (p := 1) fld39_1 rfl rfl rfl) ?_
              refine WL.val Wanted.none (Runs.load nagg37 rfl (st_113.cell (k := 1) rfl (part_one (u := .slice A_95 n_96 c_97) (pre := (([.int .i64 a0_0] : List Value))) (post := (([] : List Value))) (by first | rfl | simp only [List.append_assoc, List.append_nil, List.nil_append, List.cons_append]) (by first | rfl | simp only [List.length_append, List.length_cons, List.length_nil, iv_length])))) ?_
              refine WL.val Wanted.none (Runs.move rfl) ?_
              have st_160 : St w w_112 ((T_109 ++ (.cells B_5 (([.int .i64 0] : List Value) ++ ([.slice none 0 0] : List Value)) 39 :: .cells B_1 (([.int .i64 a0_0] : List Value) ++ ([.slice A_95 n_96 c_97] : List Value)) 39 :: R))) := St.hide (A := []) (B := [_, _]) (T := T_109) (R := R) st_113
              obtain ⟨l_168, hr_161, H⟩ := H
              refine WL.call Wanted.none ent28 rfl (reliquaryref15_without.calls w w_112 T_109 (.cells B_5 (([.int .i64 0] : List Value) ++ ([.slice none 0 0] : List Value)) 39 :: .cells B_1 (([.int .i64 a0_0] : List Value) ++ ([.slice A_95 n_96 c_97] : List Value)) 39 :: R) l_98 x_111 A_95 n_96 c_97  st_160 (hb_99.mono (memo_T (B := [_, _]) (fun _ h_ => hs_110.1 _ h_)) (fun _ h_ => hs_110.1 _ h_)) l_168 hr_161) ?_
              rintro _ w_172 ⟨T_162, A_165, n_166, c_167, x_169, hs_163, hn_170, hx_171, rfl, sc_174⟩
              have st_173 : St w w_172 (.sl A_165 c_167 n_166 x_169 51 3 :: .cells B_5 (([.int .i64 0] : List Value) ++ ([.slice none 0 0] : List Value)) 39 :: .cells B_1 (([.int .i64 a0_0] : List Value) ++ ([.slice A_95 n_96 c_97] : List Value)) 39 :: (T_162 ++ R)) := St.unhide (A := [_]) (B := [_, _]) (T := T_162) (R := R) sc_174
              refine ⟨_, rfl, ?_⟩
              refine WL.val Wanted.none (Runs.fieldAddr (off := 1) (p := 1) fld39_1 rfl rfl rfl) ?_
              refine WL.store_one (i := 2) (u0 := .slice A_95 n_96 c_97) (pre := (([.int .i64 a0_0] : List Value))) (post := (([] : List Value))) st_173 rfl cells37 (by first | rfl | simp only [List.append_assoc, List.append_nil, List.nil_append, List.cons_append]) (by first | rfl | simp only [List.length_append, List.length_cons, List.length_nil, iv_length]) rfl rfl rfl ?_
              intro w_175 st_176
              replace st_176 : St w w_175 (.sl A_165 c_167 n_166 x_169 51 3 :: .cells B_5 (([.int .i64 0] : List Value) ++ ([.slice none 0 0] : List Value)) 39 :: .cells B_1 (([.int .i64 a0_0] : List Value) ++ ([.slice A_165 n_166 c_167] : List Value)) 39 :: (T_162 ++ R)) := by have e_ : (([.int .i64 a0_0] : List Value) ++ ([.slice A_165 n_166 c_167] : List Value)) = (([.int .i64 a0_0] : List Value)) ++ ((([.slice A_165 n_166 c_167] : List Value)) ++ (([] : List Value))) := (by first | rfl | simp only [List.append_assoc, List.append_nil, List.nil_append, List.cons_append]); have h_ : St w w_175 (.sl A_165 c_167 n_166 x_169 51 3 :: .cells B_5 (([.int .i64 0] : List Value) ++ ([.slice none 0 0] : List Value)) 39 :: .cells B_1 ((([.int .i64 a0_0] : List Value)) ++ ((([.slice A_165 n_166 c_167] : List Value)) ++ (([] : List Value)))) 39 :: (T_162 ++ R)) := st_176; rw [← e_] at h_; exact h_
              refine WL.nil ?_
              refine QW.blk_n ?_
              have hb_181c := st_176.cap (i := 0) rfl
              obtain ⟨T_177, hs_178, hm_179, st_180⟩ := St.freeze (A := []) (B := [_, _]) (T := T_162) (R := R) st_176
              have hb_181 : HS w T_177 T_177 A_165 n_166 c_167 (f51 w) l_168 := HS.mk hn_170 hb_181c (Hd.of_sl hm_179) (hx_171.mono (fun _ h_ => hs_178.1 _ h_))
              replace st_180 : St w w_175 (.cells B_5 (([.int .i64 0] : List Value) ++ ([.slice none 0 0] : List Value)) 39 :: .cells B_1 (([.int .i64 a0_0] : List Value) ++ ([.slice A_165 n_166 c_167] : List Value)) 39 :: (T_177 ++ R)) := st_180
              exact QW.at [(1, .int .u64 a1), (2, .string a2), (3, .pointer (some ⟨B_1, 0, none⟩)), (6, .pointer (some ⟨B_5, 0, none⟩)), (7, .int .i64 x_100)] ⟨rfl, rfl, rfl, rfl, rfl, trivial⟩ ⟨T_177, A_165, n_166, c_167, l_168, x_100, rfl, H, (((hs_94.trans hs_110).trans hs_163).trans hs_178), hb_181, st_180⟩
        · have h_107 : (decide ((l_98.length : Int) ≥ a0_0)) = false := (decide_eq_false c_106)
          refine CW.cf rfl h_107 ?_
          refine CW.exit ?_
          refine QW.then_x ?_
          refine QW.then_x ?_
          refine QW.blk_x ?_
          refine QW.then_n ?_
          refine CW.sub [(1, .int .u64 a1), (2, .string a2), (3, .pointer (some ⟨B_1, 0, none⟩)), (6, .pointer (some ⟨B_5, 0, none⟩)), (7, .int .i64 x_100)] ⟨rfl, rfl, rfl, rfl, rfl, trivial⟩ ?_
          refine CW.seq ?_
          refine CW.seq ?_
          refine CW.region ?_
          refine WL.val Wanted.none (Runs.fieldAddr (off := 0) (p := 0) fld39_0 rfl rfl rfl) ?_
          refine WL.val Wanted.none (Runs.load nagg3 rfl (st_102.cell (k := 1) rfl (part_one (u := .int .i64 a0_0) (pre := (([] : List Value))) (post := (([.slice A_95 n_96 c_97] : List Value))) (by first | rfl | simp only [List.append_assoc, List.append_nil, List.nil_append, List.cons_append]) (by first | rfl | simp only [List.length_append, List.length_cons, List.length_nil, iv_length])))) ?_
          refine WL.val Wanted.none (Runs.lss rfl rfl rfl) ?_
          refine WL.nil ?_
          refine QW.then_n ?_
          rcases H with ⟨c_182, H⟩ | ⟨c_182, H⟩
          · have h_183 : (decide (a0_0 < 1)) = true := (decide_eq_true c_182)
            refine CW.ct rfl h_183 ?_
            refine CW.seq ?_
            refine CW.region ?_
            refine WL.val Wanted.none (Runs.load_mid row39 rfl st_102 (i := 1) rfl (part_mid (pre := (([] : List Value))) (mid := (([.int .i64 a0_0] : List Value) ++ ([.slice A_95 n_96 c_97] : List Value))) (post := (([] : List Value))) (by first | rfl | simp only [List.append_assoc, List.append_nil, List.nil_append, List.cons_append]) (by first | rfl | simp only [List.length_append, List.length_cons, List.length_nil, iv_length]) (by first | rfl | simp only [List.length_append, List.length_cons, List.length_nil, iv_length])) (by first | rfl | simp only [List.length_append, List.length_cons, List.length_nil, iv_length])) ?_
            refine WL.store_mid (i := 0) (pre := (([] : List Value))) (mid := (([.int .i64 0] : List Value) ++ ([.slice none 0 0] : List Value))) (post := (([] : List Value))) (ms := (([.int .i64 a0_0] : List Value) ++ ([.slice A_95 n_96 c_97] : List Value))) st_102 rfl row39 (by first | rfl | simp only [List.append_assoc, List.append_nil, List.nil_append, List.cons_append]) (by first | rfl | simp only [List.length_append, List.length_cons, List.length_nil, iv_length]) rfl rfl (by first | rfl | simp only [List.length_append, List.length_cons, List.length_nil, iv_length]) (by first | rfl | simp only [List.length_append, List.length_cons, List.length_nil, iv_length]) (by intro u hu; simp only [List.mem_append, List.mem_singleton] at hu; rcases hu with hu | hu <;> first | exact one_iv _ _ u hu | (subst hu; rfl)) ?_
            intro w_184 st_185
            replace st_185 : St w w_184 (.cells B_5 (([.int .i64 a0_0] : List Value) ++ ([.slice A_95 n_96 c_97] : List Value)) 39 :: .cells B_1 (([.int .i64 a0_0] : List Value) ++ ([.slice A_95 n_96 c_97] : List Value)) 39 :: (T_93 ++ R)) := by have e_ : (([.int .i64 a0_0] : List Value) ++ ([.slice A_95 n_96 c_97] : List Value)) = (([] : List Value)) ++ ((([.int .i64 a0_0] : List Value) ++ ([.slice A_95 n_96 c_97] : List Value)) ++ (([] : List Value))) := (by first | rfl | simp only [List.append_assoc, List.append_nil, List.nil_append, List.cons_append]); have h_ : St w w_184 (.cells B_5 ((([] : List Value)) ++ ((([.int .i64 a0_0] : List Value) ++ ([.slice A_95 n_96 c_97] : List Value)) ++ (([] : List Value)))) 39 :: .cells B_1 (([.int .i64 a0_0] : List Value) ++ ([.slice A_95 n_96 c_97] : List Value)) 39 :: (T_93 ++ R)) := st_185; rw [← e_] at h_; exact h_
            refine WL.val Wanted.none (Runs.assign rfl) ?_
            refine WL.nil ?_
            refine QW.then_n ?_
            refine CW.ret ?_
            refine QW.then_r ?_
            obtain ⟨rfl, rfl, rfl⟩ := H
            exact QW.retN2 rfl (Res.row rfl row39 st_185 (i := 0) rfl (by first | rfl | simp only [List.length_append, List.length_cons, List.length_nil, iv_length])) (Res.tmp rfl) ⟨T_93, A_95, n_96, c_97, (hs_16.trans hs_94), hb_99, rfl, (St.pickT (L := [_, _]) st_185 [] (by decide))⟩
          · have h_183 : (decide (a0_0 < 1)) = false := (decide_eq_false c_182)
            refine CW.cf rfl h_183 ?_
            refine CW.skip ?_
            refine QW.then_n ?_
            refine CW.seq ?_
            refine CW.region ?_
            refine WL.val Wanted.none (Runs.move rfl) ?_
            refine WL.val Wanted.none (Runs.move rfl) ?_
            refine WL.val Wanted.none (Runs.build_struct (ps := [(0, 1), (1, 1), (2, 1)]) (cs := (([.int .u64 a1] : List Value) ++ (([.string a2] : List Value) ++ ([.int .i64 0] : List Value)))) plc51 zero51 rfl (by refine Fills.cons (o := 0) (ms := (([.int .u64 a1] : List Value))) (show _ = some (0, (([.int .u64 a1] : List Value)).length) by rw [show (([.int .u64 a1] : List Value)).length = 1 from (by first | rfl | simp only [List.length_append, List.length_cons, List.length_nil, iv_length])] <;> rfl) rfl (by have h1_ : (([.int .u64 a1] : List Value)).length = 1 := (by first | rfl | simp only [List.length_append, List.length_cons, List.length_nil, iv_length]); have h2_ : (([.int .u64 0] : List Value) ++ (([.string ByteArray.empty] : List Value) ++ ([.int .i64 0] : List Value))).length = 3 := (by first | rfl | simp only [List.length_append, List.length_cons, List.length_nil, iv_length]); omega) ?_; rw [show layV (([.int .u64 0] : List Value) ++ (([.string ByteArray.empty] : List Value) ++ ([.int .i64 0] : List Value))) 0 (([.int .u64 a1] : List Value)) = (([.int .u64 a1] : List Value) ++ (([.string ByteArray.empty] : List Value) ++ ([.int .i64 0] : List Value))) from (layV_mid (pre := (([] : List Value))) (mid := (([.int .u64 0] : List Value))) (post := (([.string ByteArray.empty] : List Value) ++ ([.int .i64 0] : List Value))) (by first | rfl | simp only [List.append_assoc, List.append_nil, List.nil_append, List.cons_append]) (by first | rfl | simp only [List.length_append, List.length_cons, List.length_nil, iv_length]) (Eq.trans (b := 1) (by first | rfl | simp only [List.length_append, List.length_cons, List.length_nil, iv_length]) (Eq.symm (by first | rfl | simp only [List.length_append, List.length_cons, List.length_nil, iv_length])))).trans (by first | rfl | simp only [List.append_assoc, List.append_nil, List.nil_append, List.cons_append])]; refine Fills.cons (o := 1) (ms := (([.string a2] : List Value))) (show _ = some (1, (([.string a2] : List Value)).length) by rw [show (([.string a2] : List Value)).length = 1 from (by first | rfl | simp only [List.length_append, List.length_cons, List.length_nil, iv_length])] <;> rfl) rfl (by have h1_ : (([.string a2] : List Value)).length = 1 := (by first | rfl | simp only [List.length_append, List.length_cons, List.length_nil, iv_length]); have h2_ : (([.int .u64 a1] : List Value) ++ (([.string ByteArray.empty] : List Value) ++ ([.int .i64 0] : List Value))).length = 3 := (by first | rfl | simp only [List.length_append, List.length_cons, List.length_nil, iv_length]); omega) ?_; rw [show layV (([.int .u64 a1] : List Value) ++ (([.string ByteArray.empty] : List Value) ++ ([.int .i64 0] : List Value))) 1 (([.string a2] : List Value)) = (([.int .u64 a1] : List Value) ++ (([.string a2] : List Value) ++ ([.int .i64 0] : List Value))) from (layV_mid (pre := (([.int .u64 a1] : List Value))) (mid := (([.string ByteArray.empty] : List Value))) (post := (([.int .i64 0] : List Value))) (by first | rfl | simp only [List.append_assoc, List.append_nil, List.nil_append, List.cons_append]) (by first | rfl | simp only [List.length_append, List.length_cons, List.length_nil, iv_length]) (Eq.trans (b := 1) (by first | rfl | simp only [List.length_append, List.length_cons, List.length_nil, iv_length]) (Eq.symm (by first | rfl | simp only [List.length_append, List.length_cons, List.length_nil, iv_length])))).trans (by first | rfl | simp only [List.append_assoc, List.append_nil, List.nil_append, List.cons_append])]; exact Fills.nil)) ?_
            refine WL.val Wanted.none (Runs.fieldAddr (off := 1) (p := 1) fld39_1 rfl rfl rfl) ?_
            refine WL.val Wanted.none (Runs.load nagg37 rfl (st_102.cell (k := 1) rfl (part_one (u := .slice A_95 n_96 c_97) (pre := (([.int .i64 a0_0] : List Value))) (post := (([] : List Value))) (by first | rfl | simp only [List.append_assoc, List.append_nil, List.nil_append, List.cons_append]) (by first | rfl | simp only [List.length_append, List.length_cons, List.length_nil, iv_length])))) ?_
            have st_186 : St w w_101 ((T_93 ++ (.cells B_5 (([.int .i64 0] : List Value) ++ ([.slice none 0 0] : List Value)) 39 :: .cells B_1 (([.int .i64 a0_0] : List Value) ++ ([.slice A_95 n_96 c_97] : List Value)) 39 :: R))) := St.hide (A := []) (B := [_, _]) (T := T_93) (R := R) st_102
            obtain ⟨l_194, hr_187, H⟩ := H
            refine WL.call Wanted.none ent27 rfl (reliquaryref15_first.calls w w_101 T_93 (.cells B_5 (([.int .i64 0] : List Value) ++ ([.slice none 0 0] : List Value)) 39 :: .cells B_1 (([.int .i64 a0_0] : List Value) ++ ([.slice A_95 n_96 c_97] : List Value)) 39 :: R) a1 a2 0 l_98 A_95 n_96 c_97  st_186 (hb_99.mono (memo_T (B := [_, _]) (fun _ h_ => h_)) (fun _ h_ => h_)) l_194 hr_187) ?_
            rintro _ w_198 ⟨T_188, A_191, n_192, c_193, x_195, hs_189, hn_196, hx_197, rfl, sc_200⟩
            have st_199 : St w w_198 (.sl A_191 c_193 n_192 x_195 51 3 :: .cells B_5 (([.int .i64 0] : List Value) ++ ([.slice none 0 0] : List Value)) 39 :: .cells B_1 (([.int .i64 a0_0] : List Value) ++ ([.slice A_95 n_96 c_97] : List Value)) 39 :: (T_188 ++ R)) := St.unhide (A := [_]) (B := [_, _]) (T := T_188) (R := R) sc_200
            refine ⟨_, rfl, ?_⟩
            refine WL.val Wanted.none (Runs.fieldAddr (off := 1) (p := 1) fld39_1 rfl rfl rfl) ?_
            refine WL.store_one (i := 2) (u0 := .slice A_95 n_96 c_97) (pre := (([.int .i64 a0_0] : List Value))) (post := (([] : List Value))) st_199 rfl cells37 (by first | rfl | simp only [List.append_assoc, List.append_nil, List.nil_append, List.cons_append]) (by first | rfl | simp only [List.length_append, List.length_cons, List.length_nil, iv_length]) rfl rfl rfl ?_
            intro w_201 st_202
            replace st_202 : St w w_201 (.sl A_191 c_193 n_192 x_195 51 3 :: .cells B_5 (([.int .i64 0] : List Value) ++ ([.slice none 0 0] : List Value)) 39 :: .cells B_1 (([.int .i64 a0_0] : List Value) ++ ([.slice A_191 n_192 c_193] : List Value)) 39 :: (T_188 ++ R)) := by have e_ : (([.int .i64 a0_0] : List Value) ++ ([.slice A_191 n_192 c_193] : List Value)) = (([.int .i64 a0_0] : List Value)) ++ ((([.slice A_191 n_192 c_193] : List Value)) ++ (([] : List Value))) := (by first | rfl | simp only [List.append_assoc, List.append_nil, List.nil_append, List.cons_append]); have h_ : St w w_201 (.sl A_191 c_193 n_192 x_195 51 3 :: .cells B_5 (([.int .i64 0] : List Value) ++ ([.slice none 0 0] : List Value)) 39 :: .cells B_1 ((([.int .i64 a0_0] : List Value)) ++ ((([.slice A_191 n_192 c_193] : List Value)) ++ (([] : List Value)))) 39 :: (T_188 ++ R)) := st_202; rw [← e_] at h_; exact h_
            refine WL.nil ?_
            refine QW.then_n ?_
            refine CW.sub [(3, .pointer (some ⟨B_1, 0, none⟩)), (6, .pointer (some ⟨B_5, 0, none⟩)), (7, .int .i64 x_100)] ⟨rfl, rfl, rfl, trivial⟩ ?_
            refine CW.seq ?_
            refine CW.region ?_
            refine WL.val Wanted.none (Runs.load_mid row39 rfl st_202 (i := 2) rfl (part_mid (pre := (([] : List Value))) (mid := (([.int .i64 a0_0] : List Value) ++ ([.slice A_191 n_192 c_193] : List Value))) (post := (([] : List Value))) (by first | rfl | simp only [List.append_assoc, List.append_nil, List.nil_append, List.cons_append]) (by first | rfl | simp only [List.length_append, List.length_cons, List.length_nil, iv_length]) (by first | rfl | simp only [List.length_append, List.length_cons, List.length_nil, iv_length])) (by first | rfl | simp only [List.length_append, List.length_cons, List.length_nil, iv_length])) ?_
            refine WL.store_mid (i := 1) (pre := (([] : List Value))) (mid := (([.int .i64 0] : List Value) ++ ([.slice none 0 0] : List Value))) (post := (([] : List Value))) (ms := (([.int .i64 a0_0] : List Value) ++ ([.slice A_191 n_192 c_193] : List Value))) st_202 rfl row39 (by first | rfl | simp only [List.append_assoc, List.append_nil, List.nil_append, List.cons_append]) (by first | rfl | simp only [List.length_append, List.length_cons, List.length_nil, iv_length]) rfl rfl (by first | rfl | simp only [List.length_append, List.length_cons, List.length_nil, iv_length]) (by first | rfl | simp only [List.length_append, List.length_cons, List.length_nil, iv_length]) (by intro u hu; simp only [List.mem_append, List.mem_singleton] at hu; rcases hu with hu | hu <;> first | exact one_iv _ _ u hu | (subst hu; rfl)) ?_
            intro w_203 st_204
            replace st_204 : St w w_203 (.sl A_191 c_193 n_192 x_195 51 3 :: .cells B_5 (([.int .i64 a0_0] : List Value) ++ ([.slice A_191 n_192 c_193] : List Value)) 39 :: .cells B_1 (([.int .i64 a0_0] : List Value) ++ ([.slice A_191 n_192 c_193] : List Value)) 39 :: (T_188 ++ R)) := by have e_ : (([.int .i64 a0_0] : List Value) ++ ([.slice A_191 n_192 c_193] : List Value)) = (([] : List Value)) ++ ((([.int .i64 a0_0] : List Value) ++ ([.slice A_191 n_192 c_193] : List Value)) ++ (([] : List Value))) := (by first | rfl | simp only [List.append_assoc, List.append_nil, List.nil_append, List.cons_append]); have h_ : St w w_203 (.sl A_191 c_193 n_192 x_195 51 3 :: .cells B_5 ((([] : List Value)) ++ ((([.int .i64 a0_0] : List Value) ++ ([.slice A_191 n_192 c_193] : List Value)) ++ (([] : List Value)))) 39 :: .cells B_1 (([.int .i64 a0_0] : List Value) ++ ([.slice A_191 n_192 c_193] : List Value)) 39 :: (T_188 ++ R)) := st_204; rw [← e_] at h_; exact h_
            refine WL.val Wanted.none (Runs.assign rfl) ?_
            refine WL.nil ?_
            refine QW.then_n ?_
            refine CW.ret ?_
            have hb_209c := st_204.cap (i := 0) rfl
            obtain ⟨T_205, hs_206, hm_207, st_208⟩ := St.freeze (A := []) (B := [_, _]) (T := T_188) (R := R) st_204
            have hb_209 : HS w T_205 T_205 A_191 n_192 c_193 (f51 w) l_194 := HS.mk hn_196 hb_209c (Hd.of_sl hm_207) (hx_197.mono (fun _ h_ => hs_206.1 _ h_))
            replace st_208 : St w w_203 (.cells B_5 (([.int .i64 a0_0] : List Value) ++ ([.slice A_191 n_192 c_193] : List Value)) 39 :: .cells B_1 (([.int .i64 a0_0] : List Value) ++ ([.slice A_191 n_192 c_193] : List Value)) 39 :: (T_205 ++ R)) := st_208
            obtain ⟨rfl, rfl, rfl⟩ := H
            exact QW.retN2 rfl (Res.row rfl row39 st_208 (i := 0) rfl (by first | rfl | simp only [List.length_append, List.length_cons, List.length_nil, iv_length])) (Res.tmp rfl) ⟨T_205, A_191, n_192, c_193, (((hs_16.trans hs_94).trans hs_189).trans hs_206), hb_209, rfl, (St.pickT (L := [_, _]) st_208 [] (by decide))⟩
      · have h_105 : (decide ((l_98.length : Int) > 0)) = false := (decide_eq_false c_104)
        refine WL.off ?_ ?_; exact Wanted.guard (dj := 40) (by rfl) (evb (by rfl) h_105) (by rfl)
        refine WL.off ?_ ?_; exact Wanted.guard (dj := 40) (by rfl) (evb (by rfl) h_105) (by rfl)
        refine WL.off ?_ ?_; exact Wanted.guard (dj := 40) (by rfl) (evb (by rfl) h_105) (by rfl)
        refine WL.off ?_ ?_; exact Wanted.guard (dj := 40) (by rfl) (evb (by rfl) h_105) (by rfl)
        refine WL.off ?_ ?_; exact Wanted.guard (dj := 40) (by rfl) (evb (by rfl) h_105) (by rfl)
        refine WL.off ?_ ?_; exact Wanted.guard (dj := 40) (by rfl) (evb (by rfl) h_105) (by rfl)
        refine WL.val Wanted.none (Runs.pick_f (evb rfl h_105) rfl) ?_
        refine WL.nil ?_
        refine QW.then_n ?_
        refine CW.cf rfl rfl ?_
        refine CW.exit ?_
        refine QW.then_x ?_
        refine QW.then_x ?_
        refine QW.blk_x ?_
        refine QW.then_n ?_
        refine CW.sub [(1, .int .u64 a1), (2, .string a2), (3, .pointer (some ⟨B_1, 0, none⟩)), (6, .pointer (some ⟨B_5, 0, none⟩)), (7, .int .i64 x_100)] ⟨rfl, rfl, rfl, rfl, rfl, trivial⟩ ?_
        refine CW.seq ?_
        refine CW.seq ?_
        refine CW.region ?_
        refine WL.val Wanted.none (Runs.fieldAddr (off := 0) (p := 0) fld39_0 rfl rfl rfl) ?_
        refine WL.val Wanted.none (Runs.load nagg3 rfl (st_102.cell (k := 1) rfl (part_one (u := .int .i64 a0_0) (pre := (([] : List Value))) (post := (([.slice A_95 n_96 c_97] : List Value))) (by first | rfl | simp only [List.append_assoc, List.append_nil, List.nil_append, List.cons_append]) (by first | rfl | simp only [List.length_append, List.length_cons, List.length_nil, iv_length])))) ?_
        refine WL.val Wanted.none (Runs.lss rfl rfl rfl) ?_
        refine WL.nil ?_
        refine QW.then_n ?_
        rcases H with ⟨c_210, H⟩ | ⟨c_210, H⟩
        · have h_211 : (decide (a0_0 < 1)) = true := (decide_eq_true c_210)
          refine CW.ct rfl h_211 ?_
          refine CW.seq ?_
          refine CW.region ?_
          refine WL.val Wanted.none (Runs.load_mid row39 rfl st_102 (i := 1) rfl (part_mid (pre := (([] : List Value))) (mid := (([.int .i64 a0_0] : List Value) ++ ([.slice A_95 n_96 c_97] : List Value))) (post := (([] : List Value))) (by first | rfl | simp only [List.append_assoc, List.append_nil, List.nil_append, List.cons_append]) (by first | rfl | simp only [List.length_append, List.length_cons, List.length_nil, iv_length]) (by first | rfl | simp only [List.length_append, List.length_cons, List.length_nil, iv_length])) (by first | rfl | simp only [List.length_append, List.length_cons, List.length_nil, iv_length])) ?_
          refine WL.store_mid (i := 0) (pre := (([] : List Value))) (mid := (([.int .i64 0] : List Value) ++ ([.slice none 0 0] : List Value))) (post := (([] : List Value))) (ms := (([.int .i64 a0_0] : List Value) ++ ([.slice A_95 n_96 c_97] : List Value))) st_102 rfl row39 (by first | rfl | simp only [List.append_assoc, List.append_nil, List.nil_append, List.cons_append]) (by first | rfl | simp only [List.length_append, List.length_cons, List.length_nil, iv_length]) rfl rfl (by first | rfl | simp only [List.length_append, List.length_cons, List.length_nil, iv_length]) (by first | rfl | simp only [List.length_append, List.length_cons, List.length_nil, iv_length]) (by intro u hu; simp only [List.mem_append, List.mem_singleton] at hu; rcases hu with hu | hu <;> first | exact one_iv _ _ u hu | (subst hu; rfl)) ?_
          intro w_212 st_213
          replace st_213 : St w w_212 (.cells B_5 (([.int .i64 a0_0] : List Value) ++ ([.slice A_95 n_96 c_97] : List Value)) 39 :: .cells B_1 (([.int .i64 a0_0] : List Value) ++ ([.slice A_95 n_96 c_97] : List Value)) 39 :: (T_93 ++ R)) := by have e_ : (([.int .i64 a0_0] : List Value) ++ ([.slice A_95 n_96 c_97] : List Value)) = (([] : List Value)) ++ ((([.int .i64 a0_0] : List Value) ++ ([.slice A_95 n_96 c_97] : List Value)) ++ (([] : List Value))) := (by first | rfl | simp only [List.append_assoc, List.append_nil, List.nil_append, List.cons_append]); have h_ : St w w_212 (.cells B_5 ((([] : List Value)) ++ ((([.int .i64 a0_0] : List Value) ++ ([.slice A_95 n_96 c_97] : List Value)) ++ (([] : List Value)))) 39 :: .cells B_1 (([.int .i64 a0_0] : List Value) ++ ([.slice A_95 n_96 c_97] : List Value)) 39 :: (T_93 ++ R)) := st_213; rw [← e_] at h_; exact h_
          refine WL.val Wanted.none (Runs.assign rfl) ?_
          refine WL.nil ?_
          refine QW.then_n ?_
          refine CW.ret ?_
          refine QW.then_r ?_
          obtain ⟨rfl, rfl, rfl⟩ := H
          exact QW.retN2 rfl (Res.row rfl row39 st_213 (i := 0) rfl (by first | rfl | simp only [List.length_append, List.length_cons, List.length_nil, iv_length])) (Res.tmp rfl) ⟨T_93, A_95, n_96, c_97, (hs_16.trans hs_94), hb_99, rfl, (St.pickT (L := [_, _]) st_213 [] (by decide))⟩
        · have h_211 : (decide (a0_0 < 1)) = false := (decide_eq_false c_210)
          refine CW.cf rfl h_211 ?_
          refine CW.skip ?_
          refine QW.then_n ?_
          refine CW.seq ?_
          refine CW.region ?_
          refine WL.val Wanted.none (Runs.move rfl) ?_
          refine WL.val Wanted.none (Runs.move rfl) ?_
          refine WL.val Wanted.none (Runs.build_struct (ps := [(0, 1), (1, 1), (2, 1)]) (cs := (([.int .u64 a1] : List Value) ++ (([.string a2] : List Value) ++ ([.int .i64 0] : List Value)))) plc51 zero51 rfl (by refine Fills.cons (o := 0) (ms := (([.int .u64 a1] : List Value))) (show _ = some (0, (([.int .u64 a1] : List Value)).length) by rw [show (([.int .u64 a1] : List Value)).length = 1 from (by first | rfl | simp only [List.length_append, List.length_cons, List.length_nil, iv_length])] <;> rfl) rfl (by have h1_ : (([.int .u64 a1] : List Value)).length = 1 := (by first | rfl | simp only [List.length_append, List.length_cons, List.length_nil, iv_length]); have h2_ : (([.int .u64 0] : List Value) ++ (([.string ByteArray.empty] : List Value) ++ ([.int .i64 0] : List Value))).length = 3 := (by first | rfl | simp only [List.length_append, List.length_cons, List.length_nil, iv_length]); omega) ?_; rw [show layV (([.int .u64 0] : List Value) ++ (([.string ByteArray.empty] : List Value) ++ ([.int .i64 0] : List Value))) 0 (([.int .u64 a1] : List Value)) = (([.int .u64 a1] : List Value) ++ (([.string ByteArray.empty] : List Value) ++ ([.int .i64 0] : List Value))) from (layV_mid (pre := (([] : List Value))) (mid := (([.int .u64 0] : List Value))) (post := (([.string ByteArray.empty] : List Value) ++ ([.int .i64 0] : List Value))) (by first | rfl | simp only [List.append_assoc, List.append_nil, List.nil_append, List.cons_append]) (by first | rfl | simp only [List.length_append, List.length_cons, List.length_nil, iv_length]) (Eq.trans (b := 1) (by first | rfl | simp only [List.length_append, List.length_cons, List.length_nil, iv_length]) (Eq.symm (by first | rfl | simp only [List.length_append, List.length_cons, List.length_nil, iv_length])))).trans (by first | rfl | simp only [List.append_assoc, List.append_nil, List.nil_append, List.cons_append])]; refine Fills.cons (o := 1) (ms := (([.string a2] : List Value))) (show _ = some (1, (([.string a2] : List Value)).length) by rw [show (([.string a2] : List Value)).length = 1 from (by first | rfl | simp only [List.length_append, List.length_cons, List.length_nil, iv_length])] <;> rfl) rfl (by have h1_ : (([.string a2] : List Value)).length = 1 := (by first | rfl | simp only [List.length_append, List.length_cons, List.length_nil, iv_length]); have h2_ : (([.int .u64 a1] : List Value) ++ (([.string ByteArray.empty] : List Value) ++ ([.int .i64 0] : List Value))).length = 3 := (by first | rfl | simp only [List.length_append, List.length_cons, List.length_nil, iv_length]); omega) ?_; rw [show layV (([.int .u64 a1] : List Value) ++ (([.string ByteArray.empty] : List Value) ++ ([.int .i64 0] : List Value))) 1 (([.string a2] : List Value)) = (([.int .u64 a1] : List Value) ++ (([.string a2] : List Value) ++ ([.int .i64 0] : List Value))) from (layV_mid (pre := (([.int .u64 a1] : List Value))) (mid := (([.string ByteArray.empty] : List Value))) (post := (([.int .i64 0] : List Value))) (by first | rfl | simp only [List.append_assoc, List.append_nil, List.nil_append, List.cons_append]) (by first | rfl | simp only [List.length_append, List.length_cons, List.length_nil, iv_length]) (Eq.trans (b := 1) (by first | rfl | simp only [List.length_append, List.length_cons, List.length_nil, iv_length]) (Eq.symm (by first | rfl | simp only [List.length_append, List.length_cons, List.length_nil, iv_length])))).trans (by first | rfl | simp only [List.append_assoc, List.append_nil, List.nil_append, List.cons_append])]; exact Fills.nil)) ?_
          refine WL.val Wanted.none (Runs.fieldAddr (off := 1) (p := 1) fld39_1 rfl rfl rfl) ?_
          refine WL.val Wanted.none (Runs.load nagg37 rfl (st_102.cell (k := 1) rfl (part_one (u := .slice A_95 n_96 c_97) (pre := (([.int .i64 a0_0] : List Value))) (post := (([] : List Value))) (by first | rfl | simp only [List.append_assoc, List.append_nil, List.nil_append, List.cons_append]) (by first | rfl | simp only [List.length_append, List.length_cons, List.length_nil, iv_length])))) ?_
          have st_214 : St w w_101 ((T_93 ++ (.cells B_5 (([.int .i64 0] : List Value) ++ ([.slice none 0 0] : List Value)) 39 :: .cells B_1 (([.int .i64 a0_0] : List Value) ++ ([.slice A_95 n_96 c_97] : List Value)) 39 :: R))) := St.hide (A := []) (B := [_, _]) (T := T_93) (R := R) st_102
          obtain ⟨l_222, hr_215, H⟩ := H
          refine WL.call Wanted.none ent27 rfl (reliquaryref15_first.calls w w_101 T_93 (.cells B_5 (([.int .i64 0] : List Value) ++ ([.slice none 0 0] : List Value)) 39 :: .cells B_1 (([.int .i64 a0_0] : List Value) ++ ([.slice A_95 n_96 c_97] : List Value)) 39 :: R) a1 a2 0 l_98 A_95 n_96 c_97  st_214 (hb_99.mono (memo_T (B := [_, _]) (fun _ h_ => h_)) (fun _ h_ => h_)) l_222 hr_215) ?_
          rintro _ w_226 ⟨T_216, A_219, n_220, c_221, x_223, hs_217, hn_224, hx_225, rfl, sc_228⟩
          have st_227 : St w w_226 (.sl A_219 c_221 n_220 x_223 51 3 :: .cells B_5 (([.int .i64 0] : List Value) ++ ([.slice none 0 0] : List Value)) 39 :: .cells B_1 (([.int .i64 a0_0] : List Value) ++ ([.slice A_95 n_96 c_97] : List Value)) 39 :: (T_216 ++ R)) := St.unhide (A := [_]) (B := [_, _]) (T := T_216) (R := R) sc_228
          refine ⟨_, rfl, ?_⟩
          refine WL.val Wanted.none (Runs.fieldAddr (off := 1) (p := 1) fld39_1 rfl rfl rfl) ?_
          refine WL.store_one (i := 2) (u0 := .slice A_95 n_96 c_97) (pre := (([.int .i64 a0_0] : List Value))) (post := (([] : List Value))) st_227 rfl cells37 (by first | rfl | simp only [List.append_assoc, List.append_nil, List.nil_append, List.cons_append]) (by first | rfl | simp only [List.length_append, List.length_cons, List.length_nil, iv_length]) rfl rfl rfl ?_
          intro w_229 st_230
          replace st_230 : St w w_229 (.sl A_219 c_221 n_220 x_223 51 3 :: .cells B_5 (([.int .i64 0] : List Value) ++ ([.slice none 0 0] : List Value)) 39 :: .cells B_1 (([.int .i64 a0_0] : List Value) ++ ([.slice A_219 n_220 c_221] : List Value)) 39 :: (T_216 ++ R)) := by have e_ : (([.int .i64 a0_0] : List Value) ++ ([.slice A_219 n_220 c_221] : List Value)) = (([.int .i64 a0_0] : List Value)) ++ ((([.slice A_219 n_220 c_221] : List Value)) ++ (([] : List Value))) := (by first | rfl | simp only [List.append_assoc, List.append_nil, List.nil_append, List.cons_append]); have h_ : St w w_229 (.sl A_219 c_221 n_220 x_223 51 3 :: .cells B_5 (([.int .i64 0] : List Value) ++ ([.slice none 0 0] : List Value)) 39 :: .cells B_1 ((([.int .i64 a0_0] : List Value)) ++ ((([.slice A_219 n_220 c_221] : List Value)) ++ (([] : List Value)))) 39 :: (T_216 ++ R)) := st_230; rw [← e_] at h_; exact h_
          refine WL.nil ?_
          refine QW.then_n ?_
          refine CW.sub [(3, .pointer (some ⟨B_1, 0, none⟩)), (6, .pointer (some ⟨B_5, 0, none⟩)), (7, .int .i64 x_100)] ⟨rfl, rfl, rfl, trivial⟩ ?_
          refine CW.seq ?_
          refine CW.region ?_
          refine WL.val Wanted.none (Runs.load_mid row39 rfl st_230 (i := 2) rfl (part_mid (pre := (([] : List Value))) (mid := (([.int .i64 a0_0] : List Value) ++ ([.slice A_219 n_220 c_221] : List Value))) (post := (([] : List Value))) (by first | rfl | simp only [List.append_assoc, List.append_nil, List.nil_append, List.cons_append]) (by first | rfl | simp only [List.length_append, List.length_cons, List.length_nil, iv_length]) (by first | rfl | simp only [List.length_append, List.length_cons, List.length_nil, iv_length])) (by first | rfl | simp only [List.length_append, List.length_cons, List.length_nil, iv_length])) ?_
          refine WL.store_mid (i := 1) (pre := (([] : List Value))) (mid := (([.int .i64 0] : List Value) ++ ([.slice none 0 0] : List Value))) (post := (([] : List Value))) (ms := (([.int .i64 a0_0] : List Value) ++ ([.slice A_219 n_220 c_221] : List Value))) st_230 rfl row39 (by first | rfl | simp only [List.append_assoc, List.append_nil, List.nil_append, List.cons_append]) (by first | rfl | simp only [List.length_append, List.length_cons, List.length_nil, iv_length]) rfl rfl (by first | rfl | simp only [List.length_append, List.length_cons, List.length_nil, iv_length]) (by first | rfl | simp only [List.length_append, List.length_cons, List.length_nil, iv_length]) (by intro u hu; simp only [List.mem_append, List.mem_singleton] at hu; rcases hu with hu | hu <;> first | exact one_iv _ _ u hu | (subst hu; rfl)) ?_
          intro w_231 st_232
          replace st_232 : St w w_231 (.sl A_219 c_221 n_220 x_223 51 3 :: .cells B_5 (([.int .i64 a0_0] : List Value) ++ ([.slice A_219 n_220 c_221] : List Value)) 39 :: .cells B_1 (([.int .i64 a0_0] : List Value) ++ ([.slice A_219 n_220 c_221] : List Value)) 39 :: (T_216 ++ R)) := by have e_ : (([.int .i64 a0_0] : List Value) ++ ([.slice A_219 n_220 c_221] : List Value)) = (([] : List Value)) ++ ((([.int .i64 a0_0] : List Value) ++ ([.slice A_219 n_220 c_221] : List Value)) ++ (([] : List Value))) := (by first | rfl | simp only [List.append_assoc, List.append_nil, List.nil_append, List.cons_append]); have h_ : St w w_231 (.sl A_219 c_221 n_220 x_223 51 3 :: .cells B_5 ((([] : List Value)) ++ ((([.int .i64 a0_0] : List Value) ++ ([.slice A_219 n_220 c_221] : List Value)) ++ (([] : List Value)))) 39 :: .cells B_1 (([.int .i64 a0_0] : List Value) ++ ([.slice A_219 n_220 c_221] : List Value)) 39 :: (T_216 ++ R)) := st_232; rw [← e_] at h_; exact h_
          refine WL.val Wanted.none (Runs.assign rfl) ?_
          refine WL.nil ?_
          refine QW.then_n ?_
          refine CW.ret ?_
          have hb_237c := st_232.cap (i := 0) rfl
          obtain ⟨T_233, hs_234, hm_235, st_236⟩ := St.freeze (A := []) (B := [_, _]) (T := T_216) (R := R) st_232
          have hb_237 : HS w T_233 T_233 A_219 n_220 c_221 (f51 w) l_222 := HS.mk hn_224 hb_237c (Hd.of_sl hm_235) (hx_225.mono (fun _ h_ => hs_234.1 _ h_))
          replace st_236 : St w w_231 (.cells B_5 (([.int .i64 a0_0] : List Value) ++ ([.slice A_219 n_220 c_221] : List Value)) 39 :: .cells B_1 (([.int .i64 a0_0] : List Value) ++ ([.slice A_219 n_220 c_221] : List Value)) 39 :: (T_233 ++ R)) := st_236
          obtain ⟨rfl, rfl, rfl⟩ := H
          exact QW.retN2 rfl (Res.row rfl row39 st_236 (i := 0) rfl (by first | rfl | simp only [List.length_append, List.length_cons, List.length_nil, iv_length])) (Res.tmp rfl) ⟨T_233, A_219, n_220, c_221, (((hs_16.trans hs_94).trans hs_217).trans hs_234), hb_237, rfl, (St.pickT (L := [_, _]) st_236 [] (by decide))⟩

/-! ### reliquaryref15_Get: function 15 -/
def reliquaryref15_Get.rel (a0_0 : Int) (l0_1 : List R51) (a1 : Int) (ar0_0 : Int) (lr0_1 : List R51) (ar1 : ByteArray) (ar2 : Bool) : Prop := (∃ (a_14 : Int), reliquaryref15_Find.rel l0_1 a1 a_14 ∧ ((a_14 < 0 ∧ ar0_0 = a0_0 ∧ lr0_1 = l0_1 ∧ ar1 = (⟨#[]⟩ : ByteArray) ∧ ar2 = false) ∨ (¬ (a_14 < 0) ∧ ((0 ≤ a_14 ∧ a_14 < (l0_1.length : Int)) ∧ (∃ (l_49 : List R51), reliquaryref15_without.rel l0_1 a_14 l_49 ∧ (∃ (l_64 : List R51), reliquaryref15_first.rel ((gx l0_1 ((a_14).toNat)).1) ((gx l0_1 ((a_14).toNat)).2.1) ((gx l0_1 ((a_14).toNat)).2.2) l_49 l_64 ∧ ar0_0 = a0_0 ∧ lr0_1 = l_64 ∧ ar1 = (gx l0_1 ((a_14).toNat)).2.1 ∧ ar2 = true))))))
set_option maxHeartbeats 1000000 in
set_option maxRecDepth 100000 in
theorem reliquaryref15_Get.calls (w w1 : World) (T R : Pool) (a0_0 : Int) (l0_1 : List R51) (a1 : Int) (A0_1 : Option Addr) (n0_1 : Nat) (c0_1 : Nat) (st0 : St w w1 ((T ++ R))) (hb0_1 : HS w T T A0_1 n0_1 c0_1 (f51 w) l0_1) (ar0_0 : Int) (lr0_1 : List R51) (ar1 : ByteArray) (ar2 : Bool) (H : reliquaryref15_Get.rel a0_0 l0_1 a1 ar0_0 lr0_1 ar1 ar2) :
    Calls Try.prog 15 #[.agg (([.int .i64 a0_0] : List Value) ++ ([.slice A0_1 n0_1 c0_1] : List Value)).toArray, .int .u64 a1] w1 fun e w' => ∃ T' Ar0_1 nr0_1 cr0_1, Pl T T' ∧ HS w T' T' Ar0_1 nr0_1 cr0_1 (f51 w) lr0_1 ∧ e = .returned (.tuple #[.agg (([.int .i64 ar0_0] : List Value) ++ ([.slice Ar0_1 nr0_1 cr0_1] : List Value)).toArray, .string ar1, .bool ar2]) ∧ St w w' ((T' ++ R)) := by
  refine CW.enter Try.func15 rfl (n := 31) rfl [.agg (([.int .i64 a0_0] : List Value) ++ ([.slice A0_1 n0_1 c0_1] : List Value)).toArray, .int .u64 a1] (Nat.le_of_ble_eq_true rfl) ?_
  refine CW.sub [(0, .agg (([.int .i64 a0_0] : List Value) ++ ([.slice A0_1 n0_1 c0_1] : List Value)).toArray), (1, .int .u64 a1)] ⟨rfl, rfl, trivial⟩ ?_
  refine CW.seq ?_
  refine CW.region ?_
  refine WL.box st0 rfl rfl ?_
  intro B_1 w_2 st_3
  replace st_3 : St w w_2 (.cells B_1 (([.int .i64 a0_0] : List Value) ++ ([.slice A0_1 n0_1 c0_1] : List Value)) 39 :: (T ++ R)) := st_3
  refine WL.alloc st_3 zero39 ?_
  intro B_5 w_6 st_7
  replace st_7 : St w w_6 (.cells B_5 (([.int .i64 0] : List Value) ++ ([.slice none 0 0] : List Value)) 39 :: .cells B_1 (([.int .i64 a0_0] : List Value) ++ ([.slice A0_1 n0_1 c0_1] : List Value)) 39 :: (T ++ R)) := st_7
  refine WL.val Wanted.none (Runs.assign rfl) ?_
  refine WL.val Wanted.none (Runs.assign rfl) ?_
  refine WL.nil ?_
  refine QW.then_n ?_
  refine CW.seq ?_
  refine CW.region ?_
  refine WL.val Wanted.none (Runs.fieldAddr (off := 1) (p := 1) fld39_1 rfl rfl rfl) ?_
  refine WL.val Wanted.none (Runs.load nagg37 rfl (st_7.cell (k := 1) rfl (part_one (u := .slice A0_1 n0_1 c0_1) (pre := (([.int .i64 a0_0] : List Value))) (post := (([] : List Value))) (by first | rfl | simp only [List.append_assoc, List.append_nil, List.nil_append, List.cons_append]) (by first | rfl | simp only [List.length_append, List.length_cons, List.length_nil, iv_length])))) ?_
  refine WL.val Wanted.none (Runs.move rfl) ?_
  have st_9 : St w w_6 ((T ++ (.cells B_5 (([.int .i64 0] : List Value) ++ ([.slice none 0 0] : List Value)) 39 :: .cells B_1 (([.int .i64 a0_0] : List Value) ++ ([.slice A0_1 n0_1 c0_1] : List Value)) 39 :: R))) := St.hide (A := []) (B := [_, _]) (T := T) (R := R) st_7
  obtain ⟨a_14, hr_10, H⟩ := H
  refine WL.call Wanted.none ent26 rfl (reliquaryref15_Find.calls w w_6 T (.cells B_5 (([.int .i64 0] : List Value) ++ ([.slice none 0 0] : List Value)) 39 :: .cells B_1 (([.int .i64 a0_0] : List Value) ++ ([.slice A0_1 n0_1 c0_1] : List Value)) 39 :: R) l0_1 a1 A0_1 n0_1 c0_1  st_9 (hb0_1.mono (memo_T (B := [_, _]) (fun _ h_ => h_)) (fun _ h_ => h_)) a_14 hr_10) ?_
  rintro _ w_15 ⟨T_11, hs_12, rfl, sc_17⟩
  have st_16 : St w w_15 (.cells B_5 (([.int .i64 0] : List Value) ++ ([.slice none 0 0] : List Value)) 39 :: .cells B_1 (([.int .i64 a0_0] : List Value) ++ ([.slice A0_1 n0_1 c0_1] : List Value)) 39 :: (T_11 ++ R)) := St.unhide (A := []) (B := [_, _]) (T := T_11) (R := R) sc_17
  refine ⟨_, rfl, ?_⟩
  refine WL.val Wanted.none (Runs.assign rfl) ?_
  refine WL.nil ?_
  refine QW.then_n ?_
  refine CW.sub [(2, .pointer (some ⟨B_1, 0, none⟩)), (4, .pointer (some ⟨B_5, 0, none⟩)), (5, .string (⟨#[]⟩ : ByteArray)), (6, .bool false), (7, .int .i64 a_14)] ⟨rfl, rfl, rfl, rfl, rfl, trivial⟩ ?_
  refine CW.seq ?_
  refine CW.seq ?_
  refine CW.region ?_
  refine WL.val Wanted.none (Runs.move rfl) ?_
  refine WL.val Wanted.none (Runs.lss rfl rfl rfl) ?_
  refine WL.nil ?_
  refine QW.then_n ?_
  rcases H with ⟨c_18, H⟩ | ⟨c_18, H⟩
  · have h_19 : (decide (a_14 < 0)) = true := (decide_eq_true c_18)
    refine CW.ct rfl h_19 ?_
    refine CW.seq ?_
    refine CW.region ?_
    refine WL.val Wanted.none (Runs.load_mid row39 rfl st_16 (i := 1) rfl (part_mid (pre := (([] : List Value))) (mid := (([.int .i64 a0_0] : List Value) ++ ([.slice A0_1 n0_1 c0_1] : List Value))) (post := (([] : List Value))) (by first | rfl | simp only [List.append_assoc, List.append_nil, List.nil_append, List.cons_append]) (by first | rfl | simp only [List.length_append, List.length_cons, List.length_nil, iv_length]) (by first | rfl | simp only [List.length_append, List.length_cons, List.length_nil, iv_length])) (by first | rfl | simp only [List.length_append, List.length_cons, List.length_nil, iv_length])) ?_
    refine WL.store_mid (i := 0) (pre := (([] : List Value))) (mid := (([.int .i64 0] : List Value) ++ ([.slice none 0 0] : List Value))) (post := (([] : List Value))) (ms := (([.int .i64 a0_0] : List Value) ++ ([.slice A0_1 n0_1 c0_1] : List Value))) st_16 rfl row39 (by first | rfl | simp only [List.append_assoc, List.append_nil, List.nil_append, List.cons_append]) (by first | rfl | simp only [List.length_append, List.length_cons, List.length_nil, iv_length]) rfl rfl (by first | rfl | simp only [List.length_append, List.length_cons, List.length_nil, iv_length]) (by first | rfl | simp only [List.length_append, List.length_cons, List.length_nil, iv_length]) (by intro u hu; simp only [List.mem_append, List.mem_singleton] at hu; rcases hu with hu | hu <;> first | exact one_iv _ _ u hu | (subst hu; rfl)) ?_
    intro w_20 st_21
    replace st_21 : St w w_20 (.cells B_5 (([.int .i64 a0_0] : List Value) ++ ([.slice A0_1 n0_1 c0_1] : List Value)) 39 :: .cells B_1 (([.int .i64 a0_0] : List Value) ++ ([.slice A0_1 n0_1 c0_1] : List Value)) 39 :: (T_11 ++ R)) := by have e_ : (([.int .i64 a0_0] : List Value) ++ ([.slice A0_1 n0_1 c0_1] : List Value)) = (([] : List Value)) ++ ((([.int .i64 a0_0] : List Value) ++ ([.slice A0_1 n0_1 c0_1] : List Value)) ++ (([] : List Value))) := (by first | rfl | simp only [List.append_assoc, List.append_nil, List.nil_append, List.cons_append]); have h_ : St w w_20 (.cells B_5 ((([] : List Value)) ++ ((([.int .i64 a0_0] : List Value) ++ ([.slice A0_1 n0_1 c0_1] : List Value)) ++ (([] : List Value)))) 39 :: .cells B_1 (([.int .i64 a0_0] : List Value) ++ ([.slice A0_1 n0_1 c0_1] : List Value)) 39 :: (T_11 ++ R)) := st_21; rw [← e_] at h_; exact h_
    refine WL.val Wanted.none (Runs.assign rfl) ?_
    refine WL.val Wanted.none (Runs.assign rfl) ?_
    refine WL.nil ?_
    refine QW.then_n ?_
    refine CW.ret ?_
    refine QW.then_r ?_
    obtain ⟨rfl, rfl, rfl, rfl⟩ := H
    exact QW.retN3 rfl (Res.row rfl row39 st_21 (i := 0) rfl (by first | rfl | simp only [List.length_append, List.length_cons, List.length_nil, iv_length])) (Res.tmp rfl) (Res.tmp rfl) ⟨T_11, A0_1, n0_1, c0_1, hs_12, (hb0_1.mono (fun _ h_ => hs_12.1 _ h_) (fun _ h_ => hs_12.1 _ h_)), rfl, (St.pickT (L := [_, _]) st_21 [] (by decide))⟩
  · have h_19 : (decide (a_14 < 0)) = false := (decide_eq_false c_18)
    refine CW.cf rfl h_19 ?_
    refine CW.skip ?_
    refine QW.then_n ?_
    refine CW.seq ?_
    refine CW.region ?_
    refine WL.val Wanted.none (Runs.fieldAddr (off := 1) (p := 1) fld39_1 rfl rfl rfl) ?_
    refine WL.val Wanted.none (Runs.load nagg37 rfl (st_16.cell (k := 1) rfl (part_one (u := .slice A0_1 n0_1 c0_1) (pre := (([.int .i64 a0_0] : List Value))) (post := (([] : List Value))) (by first | rfl | simp only [List.append_assoc, List.append_nil, List.nil_append, List.cons_append]) (by first | rfl | simp only [List.length_append, List.length_cons, List.length_nil, iv_length])))) ?_
    refine WL.val Wanted.none (Runs.move rfl) ?_
    obtain ⟨⟨p_22, q_23⟩, H⟩ := H
    obtain ⟨x_24, hs_25, hr_26⟩ := hb0_1.2.2
    obtain ⟨a_27, e_28, ms_29, hc_30, hm_31⟩ := el_get (i := (a_14).toNat) ((hs_25.at st_16 (mem_T (A := [_, _]) (fun _ h_ => hs_12.1 _ h_)))) (hr_26.mono (fun _ h_ => hs_12.1 _ h_)) (fz51 w) (by decide) (by omega)
    obtain em_32 := inv51 hm_31
    replace em_32 : ms_29 = ([.int .u64 ((gx l0_1 ((a_14).toNat)).1)] : List Value) ++ (([.string ((gx l0_1 ((a_14).toNat)).2.1)] : List Value) ++ ([.int .i64 ((gx l0_1 ((a_14).toNat)).2.2)] : List Value)) := em_32
    subst em_32
    refine WL.val Wanted.none (Runs.indexAddr Try.underlying37 cells51 (by decide) rfl e_28 rfl p_22 (by rw [show n0_1 = l0_1.length from hb0_1.1]; exact q_23) (o := ((a_14).toNat) * 3) (by first | rfl | omega)) ?_
    refine WL.val Wanted.none (Runs.load_srcR row51 rfl (Src.cut ((hs_25.at st_16 (mem_T (A := [_, _]) (fun _ h_ => hs_12.1 _ h_)))) e_28 hc_30) rfl) ?_
    refine WL.alloc st_16 zero51 ?_
    intro B_33 w_34 st_35
    replace st_35 : St w w_34 (.cells B_33 (([.int .u64 0] : List Value) ++ (([.string ByteArray.empty] : List Value) ++ ([.int .i64 0] : List Value))) 51 :: .cells B_5 (([.int .i64 0] : List Value) ++ ([.slice none 0 0] : List Value)) 39 :: .cells B_1 (([.int .i64 a0_0] : List Value) ++ ([.slice A0_1 n0_1 c0_1] : List Value)) 39 :: (T_11 ++ R)) := st_35
    refine WL.store_mid (i := 0) (pre := (([] : List Value))) (mid := (([.int .u64 0] : List Value) ++ (([.string ByteArray.empty] : List Value) ++ ([.int .i64 0] : List Value)))) (post := (([] : List Value))) (ms := (([.int .u64 ((gx l0_1 ((a_14).toNat)).1)] : List Value) ++ (([.string ((gx l0_1 ((a_14).toNat)).2.1)] : List Value) ++ ([.int .i64 ((gx l0_1 ((a_14).toNat)).2.2)] : List Value)))) st_35 rfl row51 (by first | rfl | simp only [List.append_assoc, List.append_nil, List.nil_append, List.cons_append]) (by first | rfl | simp only [List.length_append, List.length_cons, List.length_nil, iv_length]) rfl rfl (by first | rfl | simp only [List.length_append, List.length_cons, List.length_nil, iv_length]) (by first | rfl | simp only [List.length_append, List.length_cons, List.length_nil, iv_length]) (by intro u hu; simp only [List.mem_append, List.mem_singleton] at hu; rcases hu with hu | hu | hu <;> first | exact one_iv _ _ u hu | (subst hu; rfl)) ?_
    intro w_37 st_38
    replace st_38 : St w w_37 (.cells B_33 (([.int .u64 ((gx l0_1 ((a_14).toNat)).1)] : List Value) ++ (([.string ((gx l0_1 ((a_14).toNat)).2.1)] : List Value) ++ ([.int .i64 ((gx l0_1 ((a_14).toNat)).2.2)] : List Value))) 51 :: .cells B_5 (([.int .i64 0] : List Value) ++ ([.slice none 0 0] : List Value)) 39 :: .cells B_1 (([.int .i64 a0_0] : List Value) ++ ([.slice A0_1 n0_1 c0_1] : List Value)) 39 :: (T_11 ++ R)) := by have e_ : (([.int .u64 ((gx l0_1 ((a_14).toNat)).1)] : List Value) ++ (([.string ((gx l0_1 ((a_14).toNat)).2.1)] : List Value) ++ ([.int .i64 ((gx l0_1 ((a_14).toNat)).2.2)] : List Value))) = (([] : List Value)) ++ ((([.int .u64 ((gx l0_1 ((a_14).toNat)).1)] : List Value) ++ (([.string ((gx l0_1 ((a_14).toNat)).2.1)] : List Value) ++ ([.int .i64 ((gx l0_1 ((a_14).toNat)).2.2)] : List Value))) ++ (([] : List Value))) := (by first | rfl | simp only [List.append_assoc, List.append_nil, List.nil_append, List.cons_append]); have h_ : St w w_37 (.cells B_33 ((([] : List Value)) ++ ((([.int .u64 ((gx l0_1 ((a_14).toNat)).1)] : List Value) ++ (([.string ((gx l0_1 ((a_14).toNat)).2.1)] : List Value) ++ ([.int .i64 ((gx l0_1 ((a_14).toNat)).2.2)] : List Value))) ++ (([] : List Value)))) 51 :: .cells B_5 (([.int .i64 0] : List Value) ++ ([.slice none 0 0] : List Value)) 39 :: .cells B_1 (([.int .i64 a0_0] : List Value) ++ ([.slice A0_1 n0_1 c0_1] : List Value)) 39 :: (T_11 ++ R)) := st_38; rw [← e_] at h_; exact h_
    refine WL.nil ?_
    refine QW.then_n ?_
    refine CW.sub [(2, .pointer (some ⟨B_1, 0, none⟩)), (4, .pointer (some ⟨B_5, 0, none⟩)), (5, .string (⟨#[]⟩ : ByteArray)), (6, .bool false), (7, .int .i64 a_14), (8, .pointer (some ⟨B_33, 0, none⟩))] ⟨rfl, rfl, rfl, rfl, rfl, rfl, trivial⟩ ?_
    refine CW.seq ?_
    refine CW.region_awh (C := fun w_ => St w w_ (.cells B_33 (([.int .u64 ((gx l0_1 ((a_14).toNat)).1)] : List Value) ++ (([.string ((gx l0_1 ((a_14).toNat)).2.1)] : List Value) ++ ([.int .i64 ((gx l0_1 ((a_14).toNat)).2.2)] : List Value))) 51 :: .cells B_5 (([.int .i64 0] : List Value) ++ ([.slice none 0 0] : List Value)) 39 :: .cells B_1 (([.int .i64 a0_0] : List Value) ++ ([.slice A0_1 n0_1 c0_1] : List Value)) 39 :: (T_11 ++ R))) 5 wide (by kernel_rfl) st_38 (fun w_39 st_40 => ?_)
    refine AWH.take 0 rfl (by decide) (by kernel_rfl) (by kernel_rfl) st_40 Wanted.none (fun wq sq => (Runs.load_mid row51 rfl sq (i := 0) rfl (part_mid (pre := (([] : List Value))) (mid := (([.int .u64 ((gx l0_1 ((a_14).toNat)).1)] : List Value) ++ (([.string ((gx l0_1 ((a_14).toNat)).2.1)] : List Value) ++ ([.int .i64 ((gx l0_1 ((a_14).toNat)).2.2)] : List Value)))) (post := (([] : List Value))) (by first | rfl | simp only [List.append_assoc, List.append_nil, List.nil_append, List.cons_append]) (by first | rfl | simp only [List.length_append, List.length_cons, List.length_nil, iv_length]) (by first | rfl | simp only [List.length_append, List.length_cons, List.length_nil, iv_length])) (by first | rfl | simp only [List.length_append, List.length_cons, List.length_nil, iv_length]))) ?_
    refine AWH.take 1 rfl (by decide) (by kernel_rfl) (by kernel_rfl) st_40 Wanted.none (fun wq sq => (Runs.fieldAddr (off := 1) (p := 1) fld39_1 rfl rfl rfl)) ?_
    refine AWH.take 2 rfl (by decide) (by kernel_rfl) (by kernel_rfl) st_40 Wanted.none (fun wq sq => (Runs.load nagg37 rfl (sq.cell (k := 2) rfl (part_one (u := .slice A0_1 n0_1 c0_1) (pre := (([.int .i64 a0_0] : List Value))) (post := (([] : List Value))) (by first | rfl | simp only [List.append_assoc, List.append_nil, List.nil_append, List.cons_append]) (by first | rfl | simp only [List.length_append, List.length_cons, List.length_nil, iv_length]))))) ?_
    refine AWH.take 3 rfl (by decide) (by kernel_rfl) (by kernel_rfl) st_40 Wanted.none (fun wq sq => (Runs.move rfl)) ?_
    refine AWH.step 4 rfl (by decide) (by kernel_rfl) (fun inv_ hs_ hk_ hc_ hn_ => ?_)
    have st_41 : St w w_39 ((T_11 ++ (.cells B_33 (([.int .u64 ((gx l0_1 ((a_14).toNat)).1)] : List Value) ++ (([.string ((gx l0_1 ((a_14).toNat)).2.1)] : List Value) ++ ([.int .i64 ((gx l0_1 ((a_14).toNat)).2.2)] : List Value))) 51 :: .cells B_5 (([.int .i64 0] : List Value) ++ ([.slice none 0 0] : List Value)) 39 :: .cells B_1 (([.int .i64 a0_0] : List Value) ++ ([.slice A0_1 n0_1 c0_1] : List Value)) 39 :: R))) := St.hide (A := []) (B := [_, _, _]) (T := T_11) (R := R) st_40
    obtain ⟨l_49, hr_42, H⟩ := H
    refine WL.call Wanted.none ent28 rfl (reliquaryref15_without.calls w w_39 T_11 (.cells B_33 (([.int .u64 ((gx l0_1 ((a_14).toNat)).1)] : List Value) ++ (([.string ((gx l0_1 ((a_14).toNat)).2.1)] : List Value) ++ ([.int .i64 ((gx l0_1 ((a_14).toNat)).2.2)] : List Value))) 51 :: .cells B_5 (([.int .i64 0] : List Value) ++ ([.slice none 0 0] : List Value)) 39 :: .cells B_1 (([.int .i64 a0_0] : List Value) ++ ([.slice A0_1 n0_1 c0_1] : List Value)) 39 :: R) l0_1 a_14 A0_1 n0_1 c0_1  st_41 (hb0_1.mono (memo_T (B := [_, _, _]) (fun _ h_ => hs_12.1 _ h_)) (fun _ h_ => hs_12.1 _ h_)) l_49 hr_42) ?_
    rintro _ w_53 ⟨T_43, A_46, n_47, c_48, x_50, hs_44, hn_51, hx_52, rfl, sc_55⟩
    have st_54 : St w w_53 (.sl A_46 c_48 n_47 x_50 51 3 :: .cells B_33 (([.int .u64 ((gx l0_1 ((a_14).toNat)).1)] : List Value) ++ (([.string ((gx l0_1 ((a_14).toNat)).2.1)] : List Value) ++ ([.int .i64 ((gx l0_1 ((a_14).toNat)).2.2)] : List Value))) 51 :: .cells B_5 (([.int .i64 0] : List Value) ++ ([.slice none 0 0] : List Value)) 39 :: .cells B_1 (([.int .i64 a0_0] : List Value) ++ ([.slice A0_1 n0_1 c0_1] : List Value)) 39 :: (T_43 ++ R)) := St.unhide (A := [_]) (B := [_, _, _]) (T := T_43) (R := R) sc_55
    refine ⟨_, rfl, ?_⟩
    refine WL.nil ?_
    refine AWH.back (St.subset st_40 st_54 (List.forall_mem_cons.2 ⟨List.mem_of_getElem? (i := 1) rfl, (List.forall_mem_cons.2 ⟨List.mem_of_getElem? (i := 2) rfl, (List.forall_mem_cons.2 ⟨List.mem_of_getElem? (i := 3) rfl, (mem_TR (A := [_, _, _, _]) (fun _ h_ => hs_44.1 _ h_))⟩)⟩)⟩)) inv_ hs_ hk_ hc_ hn_ ?_
    refine AWH.tail (by kernel_rfl) ?_
    refine AW.step 5 rfl (by kernel_rfl) ?_
    have st_56 : St w w_53 ((T_43 ++ (.sl A_46 c_48 n_47 x_50 51 3 :: .cells B_33 (([.int .u64 ((gx l0_1 ((a_14).toNat)).1)] : List Value) ++ (([.string ((gx l0_1 ((a_14).toNat)).2.1)] : List Value) ++ ([.int .i64 ((gx l0_1 ((a_14).toNat)).2.2)] : List Value))) 51 :: .cells B_5 (([.int .i64 0] : List Value) ++ ([.slice none 0 0] : List Value)) 39 :: .cells B_1 (([.int .i64 a0_0] : List Value) ++ ([.slice A0_1 n0_1 c0_1] : List Value)) 39 :: R))) := St.hide (A := []) (B := [_, _, _, _]) (T := T_43) (R := R) st_54
    obtain ⟨l_64, hr_57, H⟩ := H
    refine WL.call Wanted.none ent27 rfl (reliquaryref15_first.calls w w_53 T_43 (.sl A_46 c_48 n_47 x_50 51 3 :: .cells B_33 (([.int .u64 ((gx l0_1 ((a_14).toNat)).1)] : List Value) ++ (([.string ((gx l0_1 ((a_14).toNat)).2.1)] : List Value) ++ ([.int .i64 ((gx l0_1 ((a_14).toNat)).2.2)] : List Value))) 51 :: .cells B_5 (([.int .i64 0] : List Value) ++ ([.slice none 0 0] : List Value)) 39 :: .cells B_1 (([.int .i64 a0_0] : List Value) ++ ([.slice A0_1 n0_1 c0_1] : List Value)) 39 :: R) ((gx l0_1 ((a_14).toNat)).1) ((gx l0_1 ((a_14).toNat)).2.1) ((gx l0_1 ((a_14).toNat)).2.2) l_49 A_46 n_47 c_48  st_56 (HS.mk hn_51 (st_54.cap (i := 0) rfl) (fun W_ L_ st hT => st.src_mem (hT _ (List.mem_append_right _ (List.mem_of_getElem? (i := 0) rfl)))) hx_52) l_64 hr_57) ?_
    rintro _ w_68 ⟨T_58, A_61, n_62, c_63, x_65, hs_59, hn_66, hx_67, rfl, sc_70⟩
    have st_69 : St w w_68 (.sl A_61 c_63 n_62 x_65 51 3 :: .sl A_46 c_48 n_47 x_50 51 3 :: .cells B_33 (([.int .u64 ((gx l0_1 ((a_14).toNat)).1)] : List Value) ++ (([.string ((gx l0_1 ((a_14).toNat)).2.1)] : List Value) ++ ([.int .i64 ((gx l0_1 ((a_14).toNat)).2.2)] : List Value))) 51 :: .cells B_5 (([.int .i64 0] : List Value) ++ ([.slice none 0 0] : List Value)) 39 :: .cells B_1 (([.int .i64 a0_0] : List Value) ++ ([.slice A0_1 n0_1 c0_1] : List Value)) 39 :: (T_58 ++ R)) := St.unhide (A := [_]) (B := [_, _, _, _]) (T := T_58) (R := R) sc_70
    refine ⟨_, rfl, ?_⟩
    refine WL.nil ?_
    refine AW.back  ?_
    refine AW.take 6 rfl (by kernel_rfl) (by kernel_rfl) (by kernel_rfl) Wanted.none (fun _ => (Runs.fieldAddr (off := 1) (p := 1) fld39_1 rfl rfl rfl)) ?_
    refine AW.step 7 rfl (by kernel_rfl) ?_
    refine WL.store_one (i := 4) (u0 := .slice A0_1 n0_1 c0_1) (pre := (([.int .i64 a0_0] : List Value))) (post := (([] : List Value))) st_69 rfl cells37 (by first | rfl | simp only [List.append_assoc, List.append_nil, List.nil_append, List.cons_append]) (by first | rfl | simp only [List.length_append, List.length_cons, List.length_nil, iv_length]) rfl rfl rfl ?_
    intro w_71 st_72
    replace st_72 : St w w_71 (.sl A_61 c_63 n_62 x_65 51 3 :: .sl A_46 c_48 n_47 x_50 51 3 :: .cells B_33 (([.int .u64 ((gx l0_1 ((a_14).toNat)).1)] : List Value) ++ (([.string ((gx l0_1 ((a_14).toNat)).2.1)] : List Value) ++ ([.int .i64 ((gx l0_1 ((a_14).toNat)).2.2)] : List Value))) 51 :: .cells B_5 (([.int .i64 0] : List Value) ++ ([.slice none 0 0] : List Value)) 39 :: .cells B_1 (([.int .i64 a0_0] : List Value) ++ ([.slice A_61 n_62 c_63] : List Value)) 39 :: (T_58 ++ R)) := by have e_ : (([.int .i64 a0_0] : List Value) ++ ([.slice A_61 n_62 c_63] : List Value)) = (([.int .i64 a0_0] : List Value)) ++ ((([.slice A_61 n_62 c_63] : List Value)) ++ (([] : List Value))) := (by first | rfl | simp only [List.append_assoc, List.append_nil, List.nil_append, List.cons_append]); have h_ : St w w_71 (.sl A_61 c_63 n_62 x_65 51 3 :: .sl A_46 c_48 n_47 x_50 51 3 :: .cells B_33 (([.int .u64 ((gx l0_1 ((a_14).toNat)).1)] : List Value) ++ (([.string ((gx l0_1 ((a_14).toNat)).2.1)] : List Value) ++ ([.int .i64 ((gx l0_1 ((a_14).toNat)).2.2)] : List Value))) 51 :: .cells B_5 (([.int .i64 0] : List Value) ++ ([.slice none 0 0] : List Value)) 39 :: .cells B_1 ((([.int .i64 a0_0] : List Value)) ++ ((([.slice A_61 n_62 c_63] : List Value)) ++ (([] : List Value)))) 39 :: (T_58 ++ R)) := st_72; rw [← e_] at h_; exact h_
    refine WL.nil ?_
    refine AW.back  ?_
    refine AW.done (by kernel_rfl) ?_
    refine QW.then_n ?_
    refine CW.sub [(2, .pointer (some ⟨B_1, 0, none⟩)), (4, .pointer (some ⟨B_5, 0, none⟩)), (5, .string (⟨#[]⟩ : ByteArray)), (6, .bool false), (8, .pointer (some ⟨B_33, 0, none⟩))] ⟨rfl, rfl, rfl, rfl, rfl, trivial⟩ ?_
    refine CW.seq ?_
    refine CW.region_awh (C := fun w_ => St w w_ (.sl A_61 c_63 n_62 x_65 51 3 :: .sl A_46 c_48 n_47 x_50 51 3 :: .cells B_33 (([.int .u64 ((gx l0_1 ((a_14).toNat)).1)] : List Value) ++ (([.string ((gx l0_1 ((a_14).toNat)).2.1)] : List Value) ++ ([.int .i64 ((gx l0_1 ((a_14).toNat)).2.2)] : List Value))) 51 :: .cells B_1 (([.int .i64 a0_0] : List Value) ++ ([.slice A_61 n_62 c_63] : List Value)) 39 :: (T_58 ++ R))) 4 wide (by kernel_rfl) st_72 (fun w_73 st_74 => ?_)
    have st_75 : St w w_73 (.sl A_61 c_63 n_62 x_65 51 3 :: .sl A_46 c_48 n_47 x_50 51 3 :: .cells B_33 (([.int .u64 ((gx l0_1 ((a_14).toNat)).1)] : List Value) ++ (([.string ((gx l0_1 ((a_14).toNat)).2.1)] : List Value) ++ ([.int .i64 ((gx l0_1 ((a_14).toNat)).2.2)] : List Value))) 51 :: .cells B_1 (([.int .i64 a0_0] : List Value) ++ ([.slice A_61 n_62 c_63] : List Value)) 39 :: (T_58 ++ R)) := (St.pickT (L := [_, _, _, _, _]) st_74 [0, 1, 2, 4] (by decide))
    refine AWH.take 0 rfl (by decide) (by kernel_rfl) (by kernel_rfl) (St.subset st_75 st_74 (List.forall_mem_cons.2 ⟨List.mem_of_getElem? (i := 0) rfl, (List.forall_mem_cons.2 ⟨List.mem_of_getElem? (i := 1) rfl, (List.forall_mem_cons.2 ⟨List.mem_of_getElem? (i := 2) rfl, (List.forall_mem_cons.2 ⟨List.mem_of_getElem? (i := 4) rfl, (mem_TR (A := [_, _, _, _, _]) (fun _ h_ => h_))⟩)⟩)⟩)⟩)) Wanted.none (fun wq sq => (Runs.load_mid row39 rfl sq (i := 3) rfl (part_mid (pre := (([] : List Value))) (mid := (([.int .i64 a0_0] : List Value) ++ ([.slice A_61 n_62 c_63] : List Value))) (post := (([] : List Value))) (by first | rfl | simp only [List.append_assoc, List.append_nil, List.nil_append, List.cons_append]) (by first | rfl | simp only [List.length_append, List.length_cons, List.length_nil, iv_length]) (by first | rfl | simp only [List.length_append, List.length_cons, List.length_nil, iv_length])) (by first | rfl | simp only [List.length_append, List.length_cons, List.length_nil, iv_length]))) ?_
    refine AWH.take 1 rfl (by decide) (by kernel_rfl) (by kernel_rfl) (St.subset st_75 st_74 (List.forall_mem_cons.2 ⟨List.mem_of_getElem? (i := 0) rfl, (List.forall_mem_cons.2 ⟨List.mem_of_getElem? (i := 1) rfl, (List.forall_mem_cons.2 ⟨List.mem_of_getElem? (i := 2) rfl, (List.forall_mem_cons.2 ⟨List.mem_of_getElem? (i := 4) rfl, (mem_TR (A := [_, _, _, _, _]) (fun _ h_ => h_))⟩)⟩)⟩)⟩)) Wanted.none (fun wq sq => (Runs.fieldAddr (off := 1) (p := 1) fld51_1 rfl rfl rfl)) ?_
    refine AWH.take 2 rfl (by decide) (by kernel_rfl) (by kernel_rfl) (St.subset st_75 st_74 (List.forall_mem_cons.2 ⟨List.mem_of_getElem? (i := 0) rfl, (List.forall_mem_cons.2 ⟨List.mem_of_getElem? (i := 1) rfl, (List.forall_mem_cons.2 ⟨List.mem_of_getElem? (i := 2) rfl, (List.forall_mem_cons.2 ⟨List.mem_of_getElem? (i := 4) rfl, (mem_TR (A := [_, _, _, _, _]) (fun _ h_ => h_))⟩)⟩)⟩)⟩)) Wanted.none (fun wq sq => (Runs.load nagg9 rfl (sq.cell (k := 2) rfl (part_one (u := .string ((gx l0_1 ((a_14).toNat)).2.1)) (pre := (([.int .u64 ((gx l0_1 ((a_14).toNat)).1)] : List Value))) (post := (([.int .i64 ((gx l0_1 ((a_14).toNat)).2.2)] : List Value))) (by first | rfl | simp only [List.append_assoc, List.append_nil, List.nil_append, List.cons_append]) (by first | rfl | simp only [List.length_append, List.length_cons, List.length_nil, iv_length]))))) ?_
    refine AWH.step 3 rfl (by decide) (by kernel_rfl) (fun inv_ hs_ hk_ hc_ hn_ => ?_)
    refine WL.store_mid (i := 3) (pre := (([] : List Value))) (mid := (([.int .i64 0] : List Value) ++ ([.slice none 0 0] : List Value))) (post := (([] : List Value))) (ms := (([.int .i64 a0_0] : List Value) ++ ([.slice A_61 n_62 c_63] : List Value))) st_74 rfl row39 (by first | rfl | simp only [List.append_assoc, List.append_nil, List.nil_append, List.cons_append]) (by first | rfl | simp only [List.length_append, List.length_cons, List.length_nil, iv_length]) rfl rfl (by first | rfl | simp only [List.length_append, List.length_cons, List.length_nil, iv_length]) (by first | rfl | simp only [List.length_append, List.length_cons, List.length_nil, iv_length]) (by intro u hu; simp only [List.mem_append, List.mem_singleton] at hu; rcases hu with hu | hu <;> first | exact one_iv _ _ u hu | (subst hu; rfl)) ?_
    intro w_76 st_77
    replace st_77 : St w w_76 (.sl A_61 c_63 n_62 x_65 51 3 :: .sl A_46 c_48 n_47 x_50 51 3 :: .cells B_33 (([.int .u64 ((gx l0_1 ((a_14).toNat)).1)] : List Value) ++ (([.string ((gx l0_1 ((a_14).toNat)).2.1)] : List Value) ++ ([.int .i64 ((gx l0_1 ((a_14).toNat)).2.2)] : List Value))) 51 :: .cells B_5 (([.int .i64 a0_0] : List Value) ++ ([.slice A_61 n_62 c_63] : List Value)) 39 :: .cells B_1 (([.int .i64 a0_0] : List Value) ++ ([.slice A_61 n_62 c_63] : List Value)) 39 :: (T_58 ++ R)) := by have e_ : (([.int .i64 a0_0] : List Value) ++ ([.slice A_61 n_62 c_63] : List Value)) = (([] : List Value)) ++ ((([.int .i64 a0_0] : List Value) ++ ([.slice A_61 n_62 c_63] : List Value)) ++ (([] : List Value))) := (by first | rfl | simp only [List.append_assoc, List.append_nil, List.nil_append, List.cons_append]); have h_ : St w w_76 (.sl A_61 c_63 n_62 x_65 51 3 :: .sl A_46 c_48 n_47 x_50 51 3 :: .cells B_33 (([.int .u64 ((gx l0_1 ((a_14).toNat)).1)] : List Value) ++ (([.string ((gx l0_1 ((a_14).toNat)).2.1)] : List Value) ++ ([.int .i64 ((gx l0_1 ((a_14).toNat)).2.2)] : List Value))) 51 :: .cells B_5 ((([] : List Value)) ++ ((([.int .i64 a0_0] : List Value) ++ ([.slice A_61 n_62 c_63] : List Value)) ++ (([] : List Value)))) 39 :: .cells B_1 (([.int .i64 a0_0] : List Value) ++ ([.slice A_61 n_62 c_63] : List Value)) 39 :: (T_58 ++ R)) := st_77; rw [← e_] at h_; exact h_
    refine WL.nil ?_
    refine AWH.back (St.subset st_75 st_77 (List.forall_mem_cons.2 ⟨List.mem_of_getElem? (i := 0) rfl, (List.forall_mem_cons.2 ⟨List.mem_of_getElem? (i := 1) rfl, (List.forall_mem_cons.2 ⟨List.mem_of_getElem? (i := 2) rfl, (List.forall_mem_cons.2 ⟨List.mem_of_getElem? (i := 4) rfl, (mem_TR (A := [_, _, _, _, _]) (fun _ h_ => h_))⟩)⟩)⟩)⟩)) inv_ hs_ hk_ hc_ hn_ ?_
    refine AWH.tail (by kernel_rfl) ?_
    refine AW.take 4 rfl (by kernel_rfl) (by kernel_rfl) (by kernel_rfl) Wanted.none (fun _ => (Runs.assign rfl)) ?_
    refine AW.take 5 rfl (by kernel_rfl) (by kernel_rfl) (by kernel_rfl) Wanted.none (fun _ => (Runs.assign rfl)) ?_
    refine AW.done (by kernel_rfl) ?_
    refine QW.then_n ?_
    refine CW.ret ?_
    have hb_82c := st_77.cap (i := 0) rfl
    obtain ⟨T_78, hs_79, hm_80, st_81⟩ := St.freeze (A := []) (B := [_, _, _, _]) (T := T_58) (R := R) st_77
    have hb_82 : HS w T_78 T_78 A_61 n_62 c_63 (f51 w) l_64 := HS.mk hn_66 hb_82c (Hd.of_sl hm_80) (hx_67.mono (fun _ h_ => hs_79.1 _ h_))
    replace st_81 : St w w_76 (.sl A_46 c_48 n_47 x_50 51 3 :: .cells B_33 (([.int .u64 ((gx l0_1 ((a_14).toNat)).1)] : List Value) ++ (([.string ((gx l0_1 ((a_14).toNat)).2.1)] : List Value) ++ ([.int .i64 ((gx l0_1 ((a_14).toNat)).2.2)] : List Value))) 51 :: .cells B_5 (([.int .i64 a0_0] : List Value) ++ ([.slice A_61 n_62 c_63] : List Value)) 39 :: .cells B_1 (([.int .i64 a0_0] : List Value) ++ ([.slice A_61 n_62 c_63] : List Value)) 39 :: (T_78 ++ R)) := st_81
    obtain ⟨rfl, rfl, rfl, rfl⟩ := H
    exact QW.retN3 rfl (Res.row rfl row39 st_81 (i := 2) rfl (by first | rfl | simp only [List.length_append, List.length_cons, List.length_nil, iv_length])) (Res.tmp rfl) (Res.tmp rfl) ⟨T_78, A_61, n_62, c_63, (((hs_12.trans hs_44).trans hs_59).trans hs_79), hb_82, rfl, (St.pickT (L := [_, _, _, _]) st_81 [] (by decide))⟩

/-! ### reliquaryref15_Hold: function 17 -/
def reliquaryref15_Hold.rel (a0_0 : Int) (l0_1 : List R51) (a1 : Int) (a2 : Int) (ar0_0 : Int) (lr0_1 : List R51) (ar1 : Bool) : Prop := (∃ (a_14 : Int), reliquaryref15_Find.rel l0_1 a1 a_14 ∧ ((a_14 < 0 ∧ ar0_0 = a0_0 ∧ lr0_1 = l0_1 ∧ ar1 = false) ∨ (¬ (a_14 < 0) ∧ ((0 ≤ a_14 ∧ a_14 < (l0_1.length : Int)) ∧ (((IntKind.i64.wrap (((gx l0_1 ((a_14).toNat)).2.2) + a2)) < 0 ∧ ar0_0 = a0_0 ∧ lr0_1 = l0_1 ∧ ar1 = false) ∨ (¬ ((IntKind.i64.wrap (((gx l0_1 ((a_14).toNat)).2.2) + a2)) < 0) ∧ (∃ m_42 : List R51, m_42 = ([] : List R51) ++ l0_1 ∧ (m_42.length ≤ 1099511627776 ∧ ((0 ≤ a_14 ∧ a_14 < (m_42.length : Int)) ∧ ((0 ≤ a_14 ∧ a_14 < (m_42.length : Int)) ∧ (∃ m_70 : List R51, m_70 = List.set m_42 ((a_14).toNat) ((gx m_42 ((a_14).toNat)).1, (gx m_42 ((a_14).toNat)).2.1, IntKind.i64.wrap (((gx m_42 ((a_14).toNat)).2.2) + a2)) ∧ ar0_0 = a0_0 ∧ lr0_1 = m_70 ∧ ar1 = true)))))))))))
set_option maxHeartbeats 1000000 in
set_option maxRecDepth 100000 in
theorem reliquaryref15_Hold.calls (w w1 : World) (T R : Pool) (a0_0 : Int) (l0_1 : List R51) (a1 : Int) (a2 : Int) (A0_1 : Option Addr) (n0_1 : Nat) (c0_1 : Nat) (st0 : St w w1 ((T ++ R))) (hb0_1 : HS w T T A0_1 n0_1 c0_1 (f51 w) l0_1) (ar0_0 : Int) (lr0_1 : List R51) (ar1 : Bool) (H : reliquaryref15_Hold.rel a0_0 l0_1 a1 a2 ar0_0 lr0_1 ar1) :
    Calls Try.prog 17 #[.agg (([.int .i64 a0_0] : List Value) ++ ([.slice A0_1 n0_1 c0_1] : List Value)).toArray, .int .u64 a1, .int .i64 a2] w1 fun e w' => ∃ T' Ar0_1 nr0_1 cr0_1, Pl T T' ∧ HS w T' T' Ar0_1 nr0_1 cr0_1 (f51 w) lr0_1 ∧ e = .returned (.tuple #[.agg (([.int .i64 ar0_0] : List Value) ++ ([.slice Ar0_1 nr0_1 cr0_1] : List Value)).toArray, .bool ar1]) ∧ St w w' ((T' ++ R)) := by
  refine CW.enter Try.func17 rfl (n := 44) rfl [.agg (([.int .i64 a0_0] : List Value) ++ ([.slice A0_1 n0_1 c0_1] : List Value)).toArray, .int .u64 a1, .int .i64 a2] (Nat.le_of_ble_eq_true rfl) ?_
  refine CW.sub [(0, .agg (([.int .i64 a0_0] : List Value) ++ ([.slice A0_1 n0_1 c0_1] : List Value)).toArray), (1, .int .u64 a1), (2, .int .i64 a2)] ⟨rfl, rfl, rfl, trivial⟩ ?_
  refine CW.seq ?_
  refine CW.region ?_
  refine WL.box st0 rfl rfl ?_
  intro B_1 w_2 st_3
  replace st_3 : St w w_2 (.cells B_1 (([.int .i64 a0_0] : List Value) ++ ([.slice A0_1 n0_1 c0_1] : List Value)) 39 :: (T ++ R)) := st_3
  refine WL.alloc st_3 zero39 ?_
  intro B_5 w_6 st_7
  replace st_7 : St w w_6 (.cells B_5 (([.int .i64 0] : List Value) ++ ([.slice none 0 0] : List Value)) 39 :: .cells B_1 (([.int .i64 a0_0] : List Value) ++ ([.slice A0_1 n0_1 c0_1] : List Value)) 39 :: (T ++ R)) := st_7
  refine WL.val Wanted.none (Runs.assign rfl) ?_
  refine WL.nil ?_
  refine QW.then_n ?_
  refine CW.seq ?_
  refine CW.region ?_
  refine WL.val Wanted.none (Runs.fieldAddr (off := 1) (p := 1) fld39_1 rfl rfl rfl) ?_
  refine WL.val Wanted.none (Runs.load nagg37 rfl (st_7.cell (k := 1) rfl (part_one (u := .slice A0_1 n0_1 c0_1) (pre := (([.int .i64 a0_0] : List Value))) (post := (([] : List Value))) (by first | rfl | simp only [List.append_assoc, List.append_nil, List.nil_append, List.cons_append]) (by first | rfl | simp only [List.length_append, List.length_cons, List.length_nil, iv_length])))) ?_
  refine WL.val Wanted.none (Runs.move rfl) ?_
  have st_9 : St w w_6 ((T ++ (.cells B_5 (([.int .i64 0] : List Value) ++ ([.slice none 0 0] : List Value)) 39 :: .cells B_1 (([.int .i64 a0_0] : List Value) ++ ([.slice A0_1 n0_1 c0_1] : List Value)) 39 :: R))) := St.hide (A := []) (B := [_, _]) (T := T) (R := R) st_7
  obtain ⟨a_14, hr_10, H⟩ := H
  refine WL.call Wanted.none ent26 rfl (reliquaryref15_Find.calls w w_6 T (.cells B_5 (([.int .i64 0] : List Value) ++ ([.slice none 0 0] : List Value)) 39 :: .cells B_1 (([.int .i64 a0_0] : List Value) ++ ([.slice A0_1 n0_1 c0_1] : List Value)) 39 :: R) l0_1 a1 A0_1 n0_1 c0_1  st_9 (hb0_1.mono (memo_T (B := [_, _]) (fun _ h_ => h_)) (fun _ h_ => h_)) a_14 hr_10) ?_
  rintro _ w_15 ⟨T_11, hs_12, rfl, sc_17⟩
  have st_16 : St w w_15 (.cells B_5 (([.int .i64 0] : List Value) ++ ([.slice none 0 0] : List Value)) 39 :: .cells B_1 (([.int .i64 a0_0] : List Value) ++ ([.slice A0_1 n0_1 c0_1] : List Value)) 39 :: (T_11 ++ R)) := St.unhide (A := []) (B := [_, _]) (T := T_11) (R := R) sc_17
  refine ⟨_, rfl, ?_⟩
  refine WL.val Wanted.none (Runs.assign rfl) ?_
  refine WL.nil ?_
  refine QW.then_n ?_
  refine CW.sub [(2, .int .i64 a2), (3, .pointer (some ⟨B_1, 0, none⟩)), (6, .pointer (some ⟨B_5, 0, none⟩)), (7, .bool false), (8, .int .i64 a_14)] ⟨rfl, rfl, rfl, rfl, rfl, trivial⟩ ?_
  refine CW.seq ?_
  refine CW.seq ?_
  refine CW.region ?_
  refine WL.val Wanted.none (Runs.move rfl) ?_
  refine WL.val Wanted.none (Runs.lss rfl rfl rfl) ?_
  refine WL.val Wanted.none (Runs.move rfl) ?_
  rcases H with ⟨c_18, H⟩ | ⟨c_18, H⟩
  · have h_19 : (decide (a_14 < 0)) = true := (decide_eq_true c_18)
    refine WL.off ?_ ?_; exact Wanted.guard (dj := 16) (by rfl) (evb (by rfl) h_19) (by rfl)
    refine WL.off ?_ ?_; exact Wanted.guard (dj := 16) (by rfl) (evb (by rfl) h_19) (by rfl)
    refine WL.off ?_ ?_; exact Wanted.guard (dj := 16) (by rfl) (evb (by rfl) h_19) (by rfl)
    refine WL.off ?_ ?_; exact Wanted.guard (dj := 16) (by rfl) (evb (by rfl) h_19) (by rfl)
    refine WL.off ?_ ?_; exact Wanted.guard (dj := 16) (by rfl) (evb (by rfl) h_19) (by rfl)
    refine WL.off ?_ ?_; exact Wanted.guard (dj := 16) (by rfl) (evb (by rfl) h_19) (by rfl)
    refine WL.off ?_ ?_; exact Wanted.guard (dj := 16) (by rfl) (evb (by rfl) h_19) (by rfl)
    refine WL.off ?_ ?_; exact Wanted.guard (dj := 16) (by rfl) (evb (by rfl) h_19) (by rfl)
    refine WL.off ?_ ?_; exact Wanted.guard (dj := 16) (by rfl) (evb (by rfl) h_19) (by rfl)
    refine WL.val Wanted.none (Runs.pick_t (evb rfl h_19) rfl) ?_
    refine WL.nil ?_
    refine QW.then_n ?_
    refine CW.sub [(2, .int .i64 a2), (3, .pointer (some ⟨B_1, 0, none⟩)), (6, .pointer (some ⟨B_5, 0, none⟩)), (7, .bool false), (8, .int .i64 a_14), (26, .bool true)] ⟨rfl, rfl, rfl, rfl, rfl, rfl, trivial⟩ ?_
    refine CW.ct rfl rfl ?_
    refine CW.seq ?_
    refine CW.region ?_
    refine WL.val Wanted.none (Runs.load_mid row39 rfl st_16 (i := 1) rfl (part_mid (pre := (([] : List Value))) (mid := (([.int .i64 a0_0] : List Value) ++ ([.slice A0_1 n0_1 c0_1] : List Value))) (post := (([] : List Value))) (by first | rfl | simp only [List.append_assoc, List.append_nil, List.nil_append, List.cons_append]) (by first | rfl | simp only [List.length_append, List.length_cons, List.length_nil, iv_length]) (by first | rfl | simp only [List.length_append, List.length_cons, List.length_nil, iv_length])) (by first | rfl | simp only [List.length_append, List.length_cons, List.length_nil, iv_length])) ?_
    refine WL.store_mid (i := 0) (pre := (([] : List Value))) (mid := (([.int .i64 0] : List Value) ++ ([.slice none 0 0] : List Value))) (post := (([] : List Value))) (ms := (([.int .i64 a0_0] : List Value) ++ ([.slice A0_1 n0_1 c0_1] : List Value))) st_16 rfl row39 (by first | rfl | simp only [List.append_assoc, List.append_nil, List.nil_append, List.cons_append]) (by first | rfl | simp only [List.length_append, List.length_cons, List.length_nil, iv_length]) rfl rfl (by first | rfl | simp only [List.length_append, List.length_cons, List.length_nil, iv_length]) (by first | rfl | simp only [List.length_append, List.length_cons, List.length_nil, iv_length]) (by intro u hu; simp only [List.mem_append, List.mem_singleton] at hu; rcases hu with hu | hu <;> first | exact one_iv _ _ u hu | (subst hu; rfl)) ?_
    intro w_20 st_21
    replace st_21 : St w w_20 (.cells B_5 (([.int .i64 a0_0] : List Value) ++ ([.slice A0_1 n0_1 c0_1] : List Value)) 39 :: .cells B_1 (([.int .i64 a0_0] : List Value) ++ ([.slice A0_1 n0_1 c0_1] : List Value)) 39 :: (T_11 ++ R)) := by have e_ : (([.int .i64 a0_0] : List Value) ++ ([.slice A0_1 n0_1 c0_1] : List Value)) = (([] : List Value)) ++ ((([.int .i64 a0_0] : List Value) ++ ([.slice A0_1 n0_1 c0_1] : List Value)) ++ (([] : List Value))) := (by first | rfl | simp only [List.append_assoc, List.append_nil, List.nil_append, List.cons_append]); have h_ : St w w_20 (.cells B_5 ((([] : List Value)) ++ ((([.int .i64 a0_0] : List Value) ++ ([.slice A0_1 n0_1 c0_1] : List Value)) ++ (([] : List Value)))) 39 :: .cells B_1 (([.int .i64 a0_0] : List Value) ++ ([.slice A0_1 n0_1 c0_1] : List Value)) 39 :: (T_11 ++ R)) := st_21; rw [← e_] at h_; exact h_
    refine WL.val Wanted.none (Runs.assign rfl) ?_
    refine WL.nil ?_
    refine QW.then_n ?_
    refine CW.ret ?_
    refine QW.then_r ?_
    obtain ⟨rfl, rfl, rfl⟩ := H
    exact QW.retN2 rfl (Res.row rfl row39 st_21 (i := 0) rfl (by first | rfl | simp only [List.length_append, List.length_cons, List.length_nil, iv_length])) (Res.tmp rfl) ⟨T_11, A0_1, n0_1, c0_1, hs_12, (hb0_1.mono (fun _ h_ => hs_12.1 _ h_) (fun _ h_ => hs_12.1 _ h_)), rfl, (St.pickT (L := [_, _]) st_21 [] (by decide))⟩
  · have h_19 : (decide (a_14 < 0)) = false := (decide_eq_false c_18)
    refine WL.on ?_ ?_; exact Wanted.guard (dj := 16) (by rfl) (evb (by rfl) h_19) (by rfl)
    refine WL.val Wanted.none (Runs.fieldAddr (off := 1) (p := 1) fld39_1 rfl rfl rfl) ?_
    refine WL.on ?_ ?_; exact Wanted.guard (dj := 16) (by rfl) (evb (by rfl) h_19) (by rfl)
    refine WL.val Wanted.none (Runs.load nagg37 rfl (st_16.cell (k := 1) rfl (part_one (u := .slice A0_1 n0_1 c0_1) (pre := (([.int .i64 a0_0] : List Value))) (post := (([] : List Value))) (by first | rfl | simp only [List.append_assoc, List.append_nil, List.nil_append, List.cons_append]) (by first | rfl | simp only [List.length_append, List.length_cons, List.length_nil, iv_length])))) ?_
    refine WL.on ?_ ?_; exact Wanted.guard (dj := 16) (by rfl) (evb (by rfl) h_19) (by rfl)
    refine WL.val Wanted.none (Runs.move rfl) ?_
    refine WL.on ?_ ?_; exact Wanted.guard (dj := 16) (by rfl) (evb (by rfl) h_19) (by rfl)
    obtain ⟨⟨p_22, q_23⟩, H⟩ := H
    obtain ⟨x_24, hs_25, hr_26⟩ := hb0_1.2.2
    obtain ⟨a_27, e_28, ms_29, hc_30, hm_31⟩ := el_get (i := (a_14).toNat) ((hs_25.at st_16 (mem_T (A := [_, _]) (fun _ h_ => hs_12.1 _ h_)))) (hr_26.mono (fun _ h_ => hs_12.1 _ h_)) (fz51 w) (by decide) (by omega)
    obtain em_32 := inv51 hm_31
    replace em_32 : ms_29 = ([.int .u64 ((gx l0_1 ((a_14).toNat)).1)] : List Value) ++ (([.string ((gx l0_1 ((a_14).toNat)).2.1)] : List Value) ++ ([.int .i64 ((gx l0_1 ((a_14).toNat)).2.2)] : List Value)) := em_32
    subst em_32
    refine WL.val Wanted.none (Runs.indexAddr Try.underlying37 cells51 (by decide) rfl e_28 rfl p_22 (by rw [show n0_1 = l0_1.length from hb0_1.1]; exact q_23) (o := ((a_14).toNat) * 3) (by first | rfl | omega)) ?_
    refine WL.on ?_ ?_; exact Wanted.guard (dj := 16) (by rfl) (evb (by rfl) h_19) (by rfl)
    refine WL.val Wanted.none (Runs.fieldAddrB (off := 2) fld51_2 rfl rfl rfl) ?_
    refine WL.on ?_ ?_; exact Wanted.guard (dj := 16) (by rfl) (evb (by rfl) h_19) (by rfl)
    refine WL.val Wanted.none (Runs.load nagg3 rfl (Src.cellAt (j := 2) (Src.cut ((hs_25.at st_16 (mem_T (A := [_, _]) (fun _ h_ => hs_12.1 _ h_)))) e_28 hc_30) rfl)) ?_
    refine WL.on ?_ ?_; exact Wanted.guard (dj := 16) (by rfl) (evb (by rfl) h_19) (by rfl)
    refine WL.val Wanted.none (Runs.move rfl) ?_
    refine WL.on ?_ ?_; exact Wanted.guard (dj := 16) (by rfl) (evb (by rfl) h_19) (by rfl)
    refine WL.val Wanted.none (Runs.add rfl rfl rfl) ?_
    refine WL.on ?_ ?_; exact Wanted.guard (dj := 16) (by rfl) (evb (by rfl) h_19) (by rfl)
    refine WL.val Wanted.none (Runs.lss rfl rfl rfl) ?_
    refine WL.val Wanted.none (Runs.pick_f (evb rfl h_19) rfl) ?_
    refine WL.nil ?_
    refine QW.then_n ?_
    refine CW.sub [(2, .int .i64 a2), (3, .pointer (some ⟨B_1, 0, none⟩)), (6, .pointer (some ⟨B_5, 0, none⟩)), (7, .bool false), (8, .int .i64 a_14), (26, .bool (decide ((IntKind.i64.wrap (((gx l0_1 ((a_14).toNat)).2.2) + a2)) < 0)))] ⟨rfl, rfl, rfl, rfl, rfl, rfl, trivial⟩ ?_
    rcases H with ⟨c_33, H⟩ | ⟨c_33, H⟩
    · have h_34 : (decide ((IntKind.i64.wrap (((gx l0_1 ((a_14).toNat)).2.2) + a2)) < 0)) = true := (decide_eq_true c_33)
      refine CW.ct rfl h_34 ?_
      refine CW.seq ?_
      refine CW.region ?_
      refine WL.val Wanted.none (Runs.load_mid row39 rfl st_16 (i := 1) rfl (part_mid (pre := (([] : List Value))) (mid := (([.int .i64 a0_0] : List Value) ++ ([.slice A0_1 n0_1 c0_1] : List Value))) (post := (([] : List Value))) (by first | rfl | simp only [List.append_assoc, List.append_nil, List.nil_append, List.cons_append]) (by first | rfl | simp only [List.length_append, List.length_cons, List.length_nil, iv_length]) (by first | rfl | simp only [List.length_append, List.length_cons, List.length_nil, iv_length])) (by first | rfl | simp only [List.length_append, List.length_cons, List.length_nil, iv_length])) ?_
      refine WL.store_mid (i := 0) (pre := (([] : List Value))) (mid := (([.int .i64 0] : List Value) ++ ([.slice none 0 0] : List Value))) (post := (([] : List Value))) (ms := (([.int .i64 a0_0] : List Value) ++ ([.slice A0_1 n0_1 c0_1] : List Value))) st_16 rfl row39 (by first | rfl | simp only [List.append_assoc, List.append_nil, List.nil_append, List.cons_append]) (by first | rfl | simp only [List.length_append, List.length_cons, List.length_nil, iv_length]) rfl rfl (by first | rfl | simp only [List.length_append, List.length_cons, List.length_nil, iv_length]) (by first | rfl | simp only [List.length_append, List.length_cons, List.length_nil, iv_length]) (by intro u hu; simp only [List.mem_append, List.mem_singleton] at hu; rcases hu with hu | hu <;> first | exact one_iv _ _ u hu | (subst hu; rfl)) ?_
      intro w_35 st_36
      replace st_36 : St w w_35 (.cells B_5 (([.int .i64 a0_0] : List Value) ++ ([.slice A0_1 n0_1 c0_1] : List Value)) 39 :: .cells B_1 (([.int .i64 a0_0] : List Value) ++ ([.slice A0_1 n0_1 c0_1] : List Value)) 39 :: (T_11 ++ R)) := by have e_ : (([.int .i64 a0_0] : List Value) ++ ([.slice A0_1 n0_1 c0_1] : List Value)) = (([] : List Value)) ++ ((([.int .i64 a0_0] : List Value) ++ ([.slice A0_1 n0_1 c0_1] : List Value)) ++ (([] : List Value))) := (by first | rfl | simp only [List.append_assoc, List.append_nil, List.nil_append, List.cons_append]); have h_ : St w w_35 (.cells B_5 ((([] : List Value)) ++ ((([.int .i64 a0_0] : List Value) ++ ([.slice A0_1 n0_1 c0_1] : List Value)) ++ (([] : List Value)))) 39 :: .cells B_1 (([.int .i64 a0_0] : List Value) ++ ([.slice A0_1 n0_1 c0_1] : List Value)) 39 :: (T_11 ++ R)) := st_36; rw [← e_] at h_; exact h_
      refine WL.val Wanted.none (Runs.assign rfl) ?_
      refine WL.nil ?_
      refine QW.then_n ?_
      refine CW.ret ?_
      refine QW.then_r ?_
      obtain ⟨rfl, rfl, rfl⟩ := H
      exact QW.retN2 rfl (Res.row rfl row39 st_36 (i := 0) rfl (by first | rfl | simp only [List.length_append, List.length_cons, List.length_nil, iv_length])) (Res.tmp rfl) ⟨T_11, A0_1, n0_1, c0_1, hs_12, (hb0_1.mono (fun _ h_ => hs_12.1 _ h_) (fun _ h_ => hs_12.1 _ h_)), rfl, (St.pickT (L := [_, _]) st_36 [] (by decide))⟩
    · have h_34 : (decide ((IntKind.i64.wrap (((gx l0_1 ((a_14).toNat)).2.2) + a2)) < 0)) = false := (decide_eq_false c_33)
      refine CW.cf rfl h_34 ?_
      refine CW.skip ?_
      refine QW.then_n ?_
      refine CW.seq ?_
      refine CW.region ?_
      refine WL.val Wanted.none (Runs.assign rfl) ?_
      refine WL.nil ?_
      refine QW.then_n ?_
      refine CW.seq ?_
      refine CW.region ?_
      refine WL.val Wanted.none (Runs.move rfl) ?_
      refine WL.val Wanted.none (Runs.fieldAddr (off := 1) (p := 1) fld39_1 rfl rfl rfl) ?_
      refine WL.val Wanted.none (Runs.load nagg37 rfl (st_16.cell (k := 1) rfl (part_one (u := .slice A0_1 n0_1 c0_1) (pre := (([.int .i64 a0_0] : List Value))) (post := (([] : List Value))) (by first | rfl | simp only [List.append_assoc, List.append_nil, List.nil_append, List.cons_append]) (by first | rfl | simp only [List.length_append, List.length_cons, List.length_nil, iv_length])))) ?_
      have st_38 := st_16.nil_sl 51 3
      have st_38 : St w w_15 (.sl none 0 0 ([] : Cells) 51 3 :: .cells B_5 (([.int .i64 0] : List Value) ++ ([.slice none 0 0] : List Value)) 39 :: .cells B_1 (([.int .i64 a0_0] : List Value) ++ ([.slice A0_1 n0_1 c0_1] : List Value)) 39 :: (T_11 ++ R)) := st_38
      obtain ⟨x_39, hs_40, hr_41⟩ := hb0_1.2.2
      obtain ⟨m_42, e_43, H⟩ := H
      obtain ⟨z_44, H⟩ := H
      obtain ⟨n_47, hn_50⟩ : ∃ n_ : Nat, n_ = m_42.length := ⟨_, rfl⟩
      refine WL.appendR (i := 0) (N := n_47) (news := x_39) Wanted.none st_38 rfl Try.underlying37 elemS51 rfl rfl ((hs_40.at st_38 (mem_T (A := [_, _, _]) (fun _ h_ => hs_12.1 _ h_)))) (by have h1_ := ((hr_41.mono (fun _ h_ => hs_12.1 _ h_))).length (fz51 w); have h2_ : n0_1 = l0_1.length := hb0_1.1; rw [h1_, h2_]) (HLs.one (hr_41.mono (fun _ h_ => hs_12.1 _ h_))) (by decide) (by have h1_ : 0 = ([] : List R51).length := rfl; have h2_ : n0_1 = l0_1.length := hb0_1.1; rw [hn_50, e_43, List.length_append]; omega) (by rw [hn_50]; exact z_44) ?_
      intro A_45 c_46 w_48 st_49
      obtain ⟨x_51, e_52⟩ : ∃ x_ : Cells, x_ = ([] : Cells) ++ x_39 := ⟨_, rfl⟩
      have hx_53 : HRs T_11 (f51 w) x_51 m_42 := by rw [e_52, e_43]; exact HRs.append (HRs.nil : HRs T_11 (f51 w) [] []) (hr_41.mono (fun _ h_ => hs_12.1 _ h_))
      replace st_49 : St w w_48 (.sl A_45 c_46 n_47 x_51 51 3 :: .cells B_5 (([.int .i64 0] : List Value) ++ ([.slice none 0 0] : List Value)) 39 :: .cells B_1 (([.int .i64 a0_0] : List Value) ++ ([.slice A0_1 n0_1 c0_1] : List Value)) 39 :: (T_11 ++ R)) := by rw [e_52]; exact st_49
      refine WL.val Wanted.none (Runs.assign rfl) ?_
      refine WL.nil ?_
      refine QW.then_n ?_
      refine CW.seq ?_
      refine CW.region ?_
      refine WL.val Wanted.none (Runs.move rfl) ?_
      refine WL.val Wanted.none (Runs.move rfl) ?_
      obtain ⟨⟨p_54, q_55⟩, H⟩ := H
      obtain ⟨a_56, e_57, ms_58, hc_59, hm_60⟩ := el_get (i := (a_14).toNat) (st_49.src_sl (k := 0) rfl) hx_53 (fz51 w) (by decide) (by omega)
      obtain em_61 := inv51 hm_60
      replace em_61 : ms_58 = ([.int .u64 ((gx m_42 ((a_14).toNat)).1)] : List Value) ++ (([.string ((gx m_42 ((a_14).toNat)).2.1)] : List Value) ++ ([.int .i64 ((gx m_42 ((a_14).toNat)).2.2)] : List Value)) := em_61
      subst em_61
      refine WL.val Wanted.none (Runs.indexAddr Try.underlying37 cells51 (by decide) rfl e_57 rfl p_54 (by rw [show n_47 = m_42.length from hn_50]; exact q_55) (o := ((a_14).toNat) * 3) (by first | rfl | omega)) ?_
      refine WL.val Wanted.none (Runs.fieldAddrB (off := 2) fld51_2 rfl rfl rfl) ?_
      refine WL.val Wanted.none (Runs.load nagg3 rfl (Src.cellAt (j := 2) (Src.cut (st_49.src_sl (k := 0) rfl) e_57 hc_59) rfl)) ?_
      refine WL.val Wanted.none (Runs.move rfl) ?_
      refine WL.val Wanted.none (Runs.add rfl rfl rfl) ?_
      obtain ⟨⟨p_62, q_63⟩, H⟩ := H
      obtain ⟨a_64, e_65, ms_66, hc_67, hm_68⟩ := el_get (i := (a_14).toNat) (st_49.src_sl (k := 0) rfl) hx_53 (fz51 w) (by decide) (by omega)
      obtain em_69 := inv51 hm_68
      replace em_69 : ms_66 = ([.int .u64 ((gx m_42 ((a_14).toNat)).1)] : List Value) ++ (([.string ((gx m_42 ((a_14).toNat)).2.1)] : List Value) ++ ([.int .i64 ((gx m_42 ((a_14).toNat)).2.2)] : List Value)) := em_69
      subst em_69
      refine WL.val Wanted.none (Runs.indexAddr Try.underlying37 cells51 (by decide) rfl e_65 rfl p_62 (by rw [show n_47 = m_42.length from hn_50]; exact q_63) (o := ((a_14).toNat) * 3) (by first | rfl | omega)) ?_
      refine WL.val Wanted.none (Runs.fieldAddrB (off := 2) fld51_2 rfl rfl rfl) ?_
      obtain ⟨m_70, e_71, H⟩ := H
      have hl_78 := (hx_53).length (fz51 w)
      refine WL.storeF (i := 0) (o := ((a_14).toNat) * 3) (f := 2) st_49 rfl e_65 cells3 rfl rfl (by omega) rfl ?_
      intro w_72 st_73
      obtain ⟨x_75, e_76⟩ : ∃ x_ : Cells, x_ = List.set x_51 (((a_14).toNat) * 3 + 2) (.int .i64 (IntKind.i64.wrap (((gx m_42 ((a_14).toNat)).2.2) + a2))) := ⟨_, rfl⟩
      have hx_77 : HRs T_11 (f51 w) x_75 m_70 := by rw [e_76, e_71]; exact HRs.setF (j := 2) (u := .int .i64 (IntKind.i64.wrap (((gx m_42 ((a_14).toNat)).2.2) + a2))) hx_53 (fz51 w) (by omega) (by decide) hc_67 (.cons rfl (.cons rfl (.cons rfl .nil)))
      have hn_74 : n_47 = m_70.length := by rw [e_71, List.length_set]; exact hn_50
      replace st_73 : St w w_72 (.sl A_45 c_46 n_47 x_75 51 3 :: .cells B_5 (([.int .i64 0] : List Value) ++ ([.slice none 0 0] : List Value)) 39 :: .cells B_1 (([.int .i64 a0_0] : List Value) ++ ([.slice A0_1 n0_1 c0_1] : List Value)) 39 :: (T_11 ++ R)) := by rw [e_76]; exact st_73
      refine WL.nil ?_
      refine QW.then_n ?_
      refine CW.sub [(3, .pointer (some ⟨B_1, 0, none⟩)), (6, .pointer (some ⟨B_5, 0, none⟩)), (7, .bool false), (9, .slice A_45 n_47 c_46)] ⟨rfl, rfl, rfl, rfl, trivial⟩ ?_
      refine CW.seq ?_
      refine CW.region ?_
      refine WL.val Wanted.none (Runs.move rfl) ?_
      refine WL.val Wanted.none (Runs.fieldAddr (off := 1) (p := 1) fld39_1 rfl rfl rfl) ?_
      refine WL.store_one (i := 2) (u0 := .slice A0_1 n0_1 c0_1) (pre := (([.int .i64 a0_0] : List Value))) (post := (([] : List Value))) st_73 rfl cells37 (by first | rfl | simp only [List.append_assoc, List.append_nil, List.nil_append, List.cons_append]) (by first | rfl | simp only [List.length_append, List.length_cons, List.length_nil, iv_length]) rfl rfl rfl ?_
      intro w_79 st_80
      replace st_80 : St w w_79 (.sl A_45 c_46 n_47 x_75 51 3 :: .cells B_5 (([.int .i64 0] : List Value) ++ ([.slice none 0 0] : List Value)) 39 :: .cells B_1 (([.int .i64 a0_0] : List Value) ++ ([.slice A_45 n_47 c_46] : List Value)) 39 :: (T_11 ++ R)) := by have e_ : (([.int .i64 a0_0] : List Value) ++ ([.slice A_45 n_47 c_46] : List Value)) = (([.int .i64 a0_0] : List Value)) ++ ((([.slice A_45 n_47 c_46] : List Value)) ++ (([] : List Value))) := (by first | rfl | simp only [List.append_assoc, List.append_nil, List.nil_append, List.cons_append]); have h_ : St w w_79 (.sl A_45 c_46 n_47 x_75 51 3 :: .cells B_5 (([.int .i64 0] : List Value) ++ ([.slice none 0 0] : List Value)) 39 :: .cells B_1 ((([.int .i64 a0_0] : List Value)) ++ ((([.slice A_45 n_47 c_46] : List Value)) ++ (([] : List Value)))) 39 :: (T_11 ++ R)) := st_80; rw [← e_] at h_; exact h_
      refine WL.nil ?_
      refine QW.then_n ?_
      refine CW.seq ?_
      refine CW.region ?_
      refine WL.val Wanted.none (Runs.load_mid row39 rfl st_80 (i := 2) rfl (part_mid (pre := (([] : List Value))) (mid := (([.int .i64 a0_0] : List Value) ++ ([.slice A_45 n_47 c_46] : List Value))) (post := (([] : List Value))) (by first | rfl | simp only [List.append_assoc, List.append_nil, List.nil_append, List.cons_append]) (by first | rfl | simp only [List.length_append, List.length_cons, List.length_nil, iv_length]) (by first | rfl | simp only [List.length_append, List.length_cons, List.length_nil, iv_length])) (by first | rfl | simp only [List.length_append, List.length_cons, List.length_nil, iv_length])) ?_
      refine WL.store_mid (i := 1) (pre := (([] : List Value))) (mid := (([.int .i64 0] : List Value) ++ ([.slice none 0 0] : List Value))) (post := (([] : List Value))) (ms := (([.int .i64 a0_0] : List Value) ++ ([.slice A_45 n_47 c_46] : List Value))) st_80 rfl row39 (by first | rfl | simp only [List.append_assoc, List.append_nil, List.nil_append, List.cons_append]) (by first | rfl | simp only [List.length_append, List.length_cons, List.length_nil, iv_length]) rfl rfl (by first | rfl | simp only [List.length_append, List.length_cons, List.length_nil, iv_length]) (by first | rfl | simp only [List.length_append, List.length_cons, List.length_nil, iv_length]) (by intro u hu; simp only [List.mem_append, List.mem_singleton] at hu; rcases hu with hu | hu <;> first | exact one_iv _ _ u hu | (subst hu; rfl)) ?_
      intro w_81 st_82
      replace st_82 : St w w_81 (.sl A_45 c_46 n_47 x_75 51 3 :: .cells B_5 (([.int .i64 a0_0] : List Value) ++ ([.slice A_45 n_47 c_46] : List Value)) 39 :: .cells B_1 (([.int .i64 a0_0] : List Value) ++ ([.slice A_45 n_47 c_46] : List Value)) 39 :: (T_11 ++ R)) := by have e_ : (([.int .i64 a0_0] : List Value) ++ ([.slice A_45 n_47 c_46] : List Value)) = (([] : List Value)) ++ ((([.int .i64 a0_0] : List Value) ++ ([.slice A_45 n_47 c_46] : List Value)) ++ (([] : List Value))) := (by first | rfl | simp only [List.append_assoc, List.append_nil, List.nil_append, List.cons_append]); have h_ : St w w_81 (.sl A_45 c_46 n_47 x_75 51 3 :: .cells B_5 ((([] : List Value)) ++ ((([.int .i64 a0_0] : List Value) ++ ([.slice A_45 n_47 c_46] : List Value)) ++ (([] : List Value)))) 39 :: .cells B_1 (([.int .i64 a0_0] : List Value) ++ ([.slice A_45 n_47 c_46] : List Value)) 39 :: (T_11 ++ R)) := st_82; rw [← e_] at h_; exact h_
      refine WL.val Wanted.none (Runs.assign rfl) ?_
      refine WL.nil ?_
      refine QW.then_n ?_
      refine CW.ret ?_
      have hb_87c := st_82.cap (i := 0) rfl
      obtain ⟨T_83, hs_84, hm_85, st_86⟩ := St.freeze (A := []) (B := [_, _]) (T := T_11) (R := R) st_82
      have hb_87 : HS w T_83 T_83 A_45 n_47 c_46 (f51 w) m_70 := HS.mk hn_74 hb_87c (Hd.of_sl hm_85) (hx_77.mono (fun _ h_ => hs_84.1 _ h_))
      replace st_86 : St w w_81 (.cells B_5 (([.int .i64 a0_0] : List Value) ++ ([.slice A_45 n_47 c_46] : List Value)) 39 :: .cells B_1 (([.int .i64 a0_0] : List Value) ++ ([.slice A_45 n_47 c_46] : List Value)) 39 :: (T_83 ++ R)) := st_86
      obtain ⟨rfl, rfl, rfl⟩ := H
      exact QW.retN2 rfl (Res.row rfl row39 st_86 (i := 0) rfl (by first | rfl | simp only [List.length_append, List.length_cons, List.length_nil, iv_length])) (Res.tmp rfl) ⟨T_83, A_45, n_47, c_46, (hs_12.trans hs_84), hb_87, rfl, (St.pickT (L := [_, _]) st_86 [] (by decide))⟩

/-! ### buffers_Cache_Drop: function 19 -/
def buffers_Cache_Drop.rel (a0_0 : Int) (l0_1 : List R60) (a1 : Int) (as0_0 : Int) (ls0_1 : List R60) (ar0 : Bool) : Prop := (∃ (a_5_0 : Int) (l_9_1 : List R60) (a_14 : Int), buffers_Cache_find.rel a0_0 l0_1 a1 a_5_0 l_9_1 a_14 ∧ ((a_14 < 0 ∧ as0_0 = a_5_0 ∧ ls0_1 = l_9_1 ∧ ar0 = false) ∨ (¬ (a_14 < 0) ∧ ((0 ≤ a_14 ∧ a_14 < (l_9_1.length : Int)) ∧ ((((gx l_9_1 ((a_14).toNat)).2.2) > 0 ∧ as0_0 = a_5_0 ∧ ls0_1 = l_9_1 ∧ ar0 = false) ∨ (¬ (((gx l_9_1 ((a_14).toNat)).2.2) > 0) ∧ (∃ (l_43 : List R60), slices_Delete_s_buffers_buffer_buffers_buffer_own0.rel l_9_1 a_14 (IntKind.i64.wrap (a_14 + 1)) l_43 ∧ as0_0 = a_5_0 ∧ ls0_1 = l_43 ∧ ar0 = true)))))))
set_option maxHeartbeats 1000000 in
set_option maxRecDepth 100000 in
theorem buffers_Cache_Drop.calls (w w1 : World) (T R : Pool) (a0_0 : Int) (l0_1 : List R60) (a1 : Int) (b0 : Nat) (A0_1 : Option Addr) (n0_1 : Nat) (c0_1 : Nat) (x0_1 : Cells) (st0 : St w w1 (.cells b0 (([.int .i64 a0_0] : List Value) ++ ([.slice A0_1 n0_1 c0_1] : List Value)) 57 :: .sl A0_1 c0_1 n0_1 x0_1 60 3 :: (T ++ R))) (hn0_1 : n0_1 = l0_1.length) (hx0_1 : HRs T (f60 w) x0_1 l0_1) (as0_0 : Int) (ls0_1 : List R60) (ar0 : Bool) (H : buffers_Cache_Drop.rel a0_0 l0_1 a1 as0_0 ls0_1 ar0) :
    Calls Try.prog 19 #[.pointer (some ⟨b0, 0, none⟩), .int .u64 a1] w1 fun e w' => ∃ T' As0_1 ns0_1 cs0_1 xs0_1, Pl T T' ∧ ns0_1 = ls0_1.length ∧ HRs T' (f60 w) xs0_1 ls0_1 ∧ e = .returned (.bool ar0) ∧ St w w' (.cells b0 (([.int .i64 as0_0] : List Value) ++ ([.slice As0_1 ns0_1 cs0_1] : List Value)) 57 :: .sl As0_1 cs0_1 ns0_1 xs0_1 60 3 :: (T' ++ R)) := by
  refine CW.enter Try.func19 rfl (n := 33) rfl [.pointer (some ⟨b0, 0, none⟩), .int .u64 a1] (Nat.le_of_ble_eq_true rfl) ?_
  refine CW.sub [(0, .pointer (some ⟨b0, 0, none⟩)), (1, .int .u64 a1)] ⟨rfl, rfl, trivial⟩ ?_
  refine CW.seq ?_
  refine CW.region ?_
  refine WL.val Wanted.none (Runs.assign rfl) ?_
  refine WL.nil ?_
  refine QW.then_n ?_
  refine CW.seq ?_
  refine CW.region ?_
  refine WL.val Wanted.none (Runs.move rfl) ?_
  refine WL.val Wanted.none (Runs.move rfl) ?_
  have st_1 : St w w1 (.cells b0 (([.int .i64 a0_0] : List Value) ++ ([.slice A0_1 n0_1 c0_1] : List Value)) 57 :: .sl A0_1 c0_1 n0_1 x0_1 60 3 :: (T ++ (R))) := St.hide (A := [_, _]) (B := []) (T := T) (R := R) st0
  obtain ⟨a_5_0, l_9_1, a_14, hr_2, H⟩ := H
  refine WL.call Wanted.none ent22 rfl (buffers_Cache_find.calls w w1 T (R) a0_0 l0_1 a1 b0 A0_1 n0_1 c0_1 x0_1  st_1 (hn0_1) hx0_1 a_5_0 l_9_1 a_14 hr_2) ?_
  rintro _ w_15 ⟨T_3, A_6_1, n_7_1, c_8_1, x_10_1, hs_4, hn_11_1, hx_12_1, rfl, sc_17⟩
  have st_16 : St w w_15 (.cells b0 (([.int .i64 a_5_0] : List Value) ++ ([.slice A_6_1 n_7_1 c_8_1] : List Value)) 57 :: .sl A_6_1 c_8_1 n_7_1 x_10_1 60 3 :: (T_3 ++ R)) := St.unhide (A := [_, _]) (B := []) (T := T_3) (R := R) sc_17
  refine ⟨_, rfl, ?_⟩
  refine WL.val Wanted.none (Runs.assign rfl) ?_
  refine WL.nil ?_
  refine QW.then_n ?_
  refine CW.seq ?_
  refine CW.seq ?_
  refine CW.region ?_
  refine WL.val Wanted.none (Runs.move rfl) ?_
  refine WL.val Wanted.none (Runs.lss rfl rfl rfl) ?_
  refine WL.val Wanted.none (Runs.move rfl) ?_
  rcases H with ⟨c_18, H⟩ | ⟨c_18, H⟩
  · have h_19 : (decide (a_14 < 0)) = true := (decide_eq_true c_18)
    refine WL.off ?_ ?_; exact Wanted.guard (dj := 11) (by rfl) (evb (by rfl) h_19) (by rfl)
    refine WL.off ?_ ?_; exact Wanted.guard (dj := 11) (by rfl) (evb (by rfl) h_19) (by rfl)
    refine WL.off ?_ ?_; exact Wanted.guard (dj := 11) (by rfl) (evb (by rfl) h_19) (by rfl)
    refine WL.off ?_ ?_; exact Wanted.guard (dj := 11) (by rfl) (evb (by rfl) h_19) (by rfl)
    refine WL.off ?_ ?_; exact Wanted.guard (dj := 11) (by rfl) (evb (by rfl) h_19) (by rfl)
    refine WL.off ?_ ?_; exact Wanted.guard (dj := 11) (by rfl) (evb (by rfl) h_19) (by rfl)
    refine WL.off ?_ ?_; exact Wanted.guard (dj := 11) (by rfl) (evb (by rfl) h_19) (by rfl)
    refine WL.off ?_ ?_; exact Wanted.guard (dj := 11) (by rfl) (evb (by rfl) h_19) (by rfl)
    refine WL.off ?_ ?_; exact Wanted.guard (dj := 11) (by rfl) (evb (by rfl) h_19) (by rfl)
    refine WL.val Wanted.none (Runs.pick_t (evb rfl h_19) rfl) ?_
    refine WL.nil ?_
    refine QW.then_n ?_
    refine CW.sub [(0, .pointer (some ⟨b0, 0, none⟩)), (4, .bool false), (5, .int .i64 a_14), (21, .bool true)] ⟨rfl, rfl, rfl, rfl, trivial⟩ ?_
    refine CW.ct rfl rfl ?_
    refine CW.seq ?_
    refine CW.region ?_
    refine WL.val Wanted.none (Runs.assign rfl) ?_
    refine WL.nil ?_
    refine QW.then_n ?_
    refine CW.ret ?_
    refine QW.then_r ?_
    obtain ⟨rfl, rfl, rfl⟩ := H
    exact QW.ret1 rfl rfl ⟨T_3, A_6_1, n_7_1, c_8_1, x_10_1, hs_4, hn_11_1, hx_12_1, rfl, (St.pickT (L := [_, _]) st_16 [0, 1] (by decide))⟩
  · have h_19 : (decide (a_14 < 0)) = false := (decide_eq_false c_18)
    refine WL.on ?_ ?_; exact Wanted.guard (dj := 11) (by rfl) (evb (by rfl) h_19) (by rfl)
    refine WL.val Wanted.none (Runs.move rfl) ?_
    refine WL.on ?_ ?_; exact Wanted.guard (dj := 11) (by rfl) (evb (by rfl) h_19) (by rfl)
    refine WL.val Wanted.none (Runs.nilCheck rfl) ?_
    refine WL.on ?_ ?_; exact Wanted.guard (dj := 11) (by rfl) (evb (by rfl) h_19) (by rfl)
    refine WL.val Wanted.none (Runs.fieldAddr (off := 1) (p := 1) fld57_1 rfl rfl rfl) ?_
    refine WL.on ?_ ?_; exact Wanted.guard (dj := 11) (by rfl) (evb (by rfl) h_19) (by rfl)
    refine WL.val Wanted.none (Runs.load nagg55 rfl (st_16.cell (k := 0) rfl (part_one (u := .slice A_6_1 n_7_1 c_8_1) (pre := (([.int .i64 a_5_0] : List Value))) (post := (([] : List Value))) (by first | rfl | simp only [List.append_assoc, List.append_nil, List.nil_append, List.cons_append]) (by first | rfl | simp only [List.length_append, List.length_cons, List.length_nil, iv_length])))) ?_
    refine WL.on ?_ ?_; exact Wanted.guard (dj := 11) (by rfl) (evb (by rfl) h_19) (by rfl)
    refine WL.val Wanted.none (Runs.move rfl) ?_
    refine WL.on ?_ ?_; exact Wanted.guard (dj := 11) (by rfl) (evb (by rfl) h_19) (by rfl)
    obtain ⟨⟨p_20, q_21⟩, H⟩ := H
    obtain ⟨a_22, e_23, ms_24, hc_25, hm_26⟩ := el_get (i := (a_14).toNat) (st_16.src_sl (k := 1) rfl) hx_12_1 (fz60 w) (by decide) (by omega)
    obtain ⟨A_27, n_28, c_29, em_31, hb_30⟩ := inv60 hm_26
    replace em_31 : ms_24 = ([.int .u64 ((gx l_9_1 ((a_14).toNat)).1)] : List Value) ++ (([.slice A_27 n_28 c_29] : List Value) ++ ([.int .i64 ((gx l_9_1 ((a_14).toNat)).2.2)] : List Value)) := em_31
    subst em_31
    refine WL.val Wanted.none (Runs.indexAddr Try.underlying55 cells60 (by decide) rfl e_23 rfl p_20 (by rw [show n_7_1 = l_9_1.length from hn_11_1]; exact q_21) (o := ((a_14).toNat) * 3) (by first | rfl | omega)) ?_
    refine WL.on ?_ ?_; exact Wanted.guard (dj := 11) (by rfl) (evb (by rfl) h_19) (by rfl)
    refine WL.val Wanted.none (Runs.fieldAddrB (off := 2) fld60_2 rfl rfl rfl) ?_
    refine WL.on ?_ ?_; exact Wanted.guard (dj := 11) (by rfl) (evb (by rfl) h_19) (by rfl)
    refine WL.val Wanted.none (Runs.load nagg3 rfl (Src.cellAt (j := 2) (Src.cut (st_16.src_sl (k := 1) rfl) e_23 hc_25) rfl)) ?_
    refine WL.on ?_ ?_; exact Wanted.guard (dj := 11) (by rfl) (evb (by rfl) h_19) (by rfl)
    refine WL.val Wanted.none (Runs.gtr rfl rfl rfl) ?_
    refine WL.val Wanted.none (Runs.pick_f (evb rfl h_19) rfl) ?_
    refine WL.nil ?_
    refine QW.then_n ?_
    refine CW.sub [(0, .pointer (some ⟨b0, 0, none⟩)), (4, .bool false), (5, .int .i64 a_14), (21, .bool (decide (((gx l_9_1 ((a_14).toNat)).2.2) > 0)))] ⟨rfl, rfl, rfl, rfl, trivial⟩ ?_
    rcases H with ⟨c_32, H⟩ | ⟨c_32, H⟩
    · have h_33 : (decide (((gx l_9_1 ((a_14).toNat)).2.2) > 0)) = true := (decide_eq_true c_32)
      refine CW.ct rfl h_33 ?_
      refine CW.seq ?_
      refine CW.region ?_
      refine WL.val Wanted.none (Runs.assign rfl) ?_
      refine WL.nil ?_
      refine QW.then_n ?_
      refine CW.ret ?_
      refine QW.then_r ?_
      obtain ⟨rfl, rfl, rfl⟩ := H
      exact QW.ret1 rfl rfl ⟨T_3, A_6_1, n_7_1, c_8_1, x_10_1, hs_4, hn_11_1, hx_12_1, rfl, (St.pickT (L := [_, _]) st_16 [0, 1] (by decide))⟩
    · have h_33 : (decide (((gx l_9_1 ((a_14).toNat)).2.2) > 0)) = false := (decide_eq_false c_32)
      refine CW.cf rfl h_33 ?_
      refine CW.skip ?_
      refine QW.then_n ?_
      refine CW.seq ?_
      refine CW.region ?_
      refine WL.val Wanted.none (Runs.move rfl) ?_
      refine WL.val Wanted.none (Runs.move rfl) ?_
      refine WL.val Wanted.none (Runs.nilCheck rfl) ?_
      refine WL.val Wanted.none (Runs.fieldAddr (off := 1) (p := 1) fld57_1 rfl rfl rfl) ?_
      refine WL.val Wanted.none (Runs.load nagg55 rfl (st_16.cell (k := 0) rfl (part_one (u := .slice A_6_1 n_7_1 c_8_1) (pre := (([.int .i64 a_5_0] : List Value))) (post := (([] : List Value))) (by first | rfl | simp only [List.append_assoc, List.append_nil, List.nil_append, List.cons_append]) (by first | rfl | simp only [List.length_append, List.length_cons, List.length_nil, iv_length])))) ?_
      refine WL.val Wanted.none (Runs.move rfl) ?_
      refine WL.val Wanted.none (Runs.move rfl) ?_
      refine WL.val Wanted.none (Runs.add rfl rfl rfl) ?_
      have st_34 := (St.pickT (L := [_, _]) st_16 [1, 0] (by decide))
      replace st_34 : St w w_15 (.sl A_6_1 c_8_1 n_7_1 x_10_1 60 3 :: .cells b0 (([.int .i64 a_5_0] : List Value) ++ ([.slice A_6_1 n_7_1 c_8_1] : List Value)) 57 :: (T_3 ++ R)) := st_34
      have st_35 : St w w_15 (.sl A_6_1 c_8_1 n_7_1 x_10_1 60 3 :: (T_3 ++ (.cells b0 (([.int .i64 a_5_0] : List Value) ++ ([.slice A_6_1 n_7_1 c_8_1] : List Value)) 57 :: R))) := St.hide (A := [_]) (B := [_]) (T := T_3) (R := R) st_34
      obtain ⟨l_43, hr_36, H⟩ := H
      refine WL.call Wanted.none ent29 rfl (slices_Delete_s_buffers_buffer_buffers_buffer_own0.calls w w_15 T_3 (.cells b0 (([.int .i64 a_5_0] : List Value) ++ ([.slice A_6_1 n_7_1 c_8_1] : List Value)) 57 :: R) l_9_1 a_14 (IntKind.i64.wrap (a_14 + 1)) A_6_1 n_7_1 c_8_1 x_10_1  st_35 (hn_11_1) hx_12_1 l_43 hr_36) ?_
      rintro _ w_47 ⟨T_37, A_40, n_41, c_42, x_44, hs_38, hn_45, hx_46, rfl, sc_49⟩
      have st_48 : St w w_47 (.sl A_40 c_42 n_41 x_44 60 3 :: .cells b0 (([.int .i64 a_5_0] : List Value) ++ ([.slice A_6_1 n_7_1 c_8_1] : List Value)) 57 :: (T_37 ++ R)) := St.unhide (A := [_]) (B := [_]) (T := T_37) (R := R) sc_49
      refine ⟨_, rfl, ?_⟩
      refine WL.val Wanted.none (Runs.nilCheck rfl) ?_
      refine WL.val Wanted.none (Runs.fieldAddr (off := 1) (p := 1) fld57_1 rfl rfl rfl) ?_
      refine WL.store_one (i := 1) (u0 := .slice A_6_1 n_7_1 c_8_1) (pre := (([.int .i64 a_5_0] : List Value))) (post := (([] : List Value))) st_48 rfl cells55 (by first | rfl | simp only [List.append_assoc, List.append_nil, List.nil_append, List.cons_append]) (by first | rfl | simp only [List.length_append, List.length_cons, List.length_nil, iv_length]) rfl rfl rfl ?_
      intro w_50 st_51
      replace st_51 : St w w_50 (.sl A_40 c_42 n_41 x_44 60 3 :: .cells b0 (([.int .i64 a_5_0] : List Value) ++ ([.slice A_40 n_41 c_42] : List Value)) 57 :: (T_37 ++ R)) := by have e_ : (([.int .i64 a_5_0] : List Value) ++ ([.slice A_40 n_41 c_42] : List Value)) = (([.int .i64 a_5_0] : List Value)) ++ ((([.slice A_40 n_41 c_42] : List Value)) ++ (([] : List Value))) := (by first | rfl | simp only [List.append_assoc, List.append_nil, List.nil_append, List.cons_append]); have h_ : St w w_50 (.sl A_40 c_42 n_41 x_44 60 3 :: .cells b0 ((([.int .i64 a_5_0] : List Value)) ++ ((([.slice A_40 n_41 c_42] : List Value)) ++ (([] : List Value)))) 57 :: (T_37 ++ R)) := st_51; rw [← e_] at h_; exact h_
      refine WL.nil ?_
      refine QW.then_n ?_
      refine CW.sub [(4, .bool false)] ⟨rfl, trivial⟩ ?_
      refine CW.seq ?_
      refine CW.region ?_
      refine WL.val Wanted.none (Runs.assign rfl) ?_
      refine WL.nil ?_
      refine QW.then_n ?_
      refine CW.ret ?_
      obtain ⟨rfl, rfl, rfl⟩ := H
      exact QW.ret1 rfl rfl ⟨T_37, A_40, n_41, c_42, x_44, (hs_4.trans hs_38), hn_45, hx_46, rfl, (St.pickT (L := [_, _]) st_51 [1, 0] (by decide))⟩

/-! ### reliquaryref15_Drop: function 20 -/
def reliquaryref15_Drop.rel (a0_0 : Int) (l0_1 : List R51) (a1 : Int) (ar0_0 : Int) (lr0_1 : List R51) (ar1 : Bool) : Prop := (∃ (a_14 : Int), reliquaryref15_Find.rel l0_1 a1 a_14 ∧ ((a_14 < 0 ∧ ar0_0 = a0_0 ∧ lr0_1 = l0_1 ∧ ar1 = false) ∨ (¬ (a_14 < 0) ∧ ((0 ≤ a_14 ∧ a_14 < (l0_1.length : Int)) ∧ ((((gx l0_1 ((a_14).toNat)).2.2) > 0 ∧ ar0_0 = a0_0 ∧ lr0_1 = l0_1 ∧ ar1 = false) ∨ (¬ (((gx l0_1 ((a_14).toNat)).2.2) > 0) ∧ (∃ (l_45 : List R51), reliquaryref15_without.rel l0_1 a_14 l_45 ∧ ar0_0 = a0_0 ∧ lr0_1 = l_45 ∧ ar1 = true)))))))
set_option maxHeartbeats 1000000 in
set_option maxRecDepth 100000 in
theorem reliquaryref15_Drop.calls (w w1 : World) (T R : Pool) (a0_0 : Int) (l0_1 : List R51) (a1 : Int) (A0_1 : Option Addr) (n0_1 : Nat) (c0_1 : Nat) (st0 : St w w1 ((T ++ R))) (hb0_1 : HS w T T A0_1 n0_1 c0_1 (f51 w) l0_1) (ar0_0 : Int) (lr0_1 : List R51) (ar1 : Bool) (H : reliquaryref15_Drop.rel a0_0 l0_1 a1 ar0_0 lr0_1 ar1) :
    Calls Try.prog 20 #[.agg (([.int .i64 a0_0] : List Value) ++ ([.slice A0_1 n0_1 c0_1] : List Value)).toArray, .int .u64 a1] w1 fun e w' => ∃ T' Ar0_1 nr0_1 cr0_1, Pl T T' ∧ HS w T' T' Ar0_1 nr0_1 cr0_1 (f51 w) lr0_1 ∧ e = .returned (.tuple #[.agg (([.int .i64 ar0_0] : List Value) ++ ([.slice Ar0_1 nr0_1 cr0_1] : List Value)).toArray, .bool ar1]) ∧ St w w' ((T' ++ R)) := by
  refine CW.enter Try.func20 rfl (n := 29) rfl [.agg (([.int .i64 a0_0] : List Value) ++ ([.slice A0_1 n0_1 c0_1] : List Value)).toArray, .int .u64 a1] (Nat.le_of_ble_eq_true rfl) ?_
  refine CW.sub [(0, .agg (([.int .i64 a0_0] : List Value) ++ ([.slice A0_1 n0_1 c0_1] : List Value)).toArray), (1, .int .u64 a1)] ⟨rfl, rfl, trivial⟩ ?_
  refine CW.seq ?_
  refine CW.region ?_
  refine WL.box st0 rfl rfl ?_
  intro B_1 w_2 st_3
  replace st_3 : St w w_2 (.cells B_1 (([.int .i64 a0_0] : List Value) ++ ([.slice A0_1 n0_1 c0_1] : List Value)) 39 :: (T ++ R)) := st_3
  refine WL.alloc st_3 zero39 ?_
  intro B_5 w_6 st_7
  replace st_7 : St w w_6 (.cells B_5 (([.int .i64 0] : List Value) ++ ([.slice none 0 0] : List Value)) 39 :: .cells B_1 (([.int .i64 a0_0] : List Value) ++ ([.slice A0_1 n0_1 c0_1] : List Value)) 39 :: (T ++ R)) := st_7
  refine WL.val Wanted.none (Runs.assign rfl) ?_
  refine WL.nil ?_
  refine QW.then_n ?_
  refine CW.seq ?_
  refine CW.region ?_
  refine WL.val Wanted.none (Runs.fieldAddr (off := 1) (p := 1) fld39_1 rfl rfl rfl) ?_
  refine WL.val Wanted.none (Runs.load nagg37 rfl (st_7.cell (k := 1) rfl (part_one (u := .slice A0_1 n0_1 c0_1) (pre := (([.int .i64 a0_0] : List Value))) (post := (([] : List Value))) (by first | rfl | simp only [List.append_assoc, List.append_nil, List.nil_append, List.cons_append]) (by first | rfl | simp only [List.length_append, List.length_cons, List.length_nil, iv_length])))) ?_
  refine WL.val Wanted.none (Runs.move rfl) ?_
  have st_9 : St w w_6 ((T ++ (.cells B_5 (([.int .i64 0] : List Value) ++ ([.slice none 0 0] : List Value)) 39 :: .cells B_1 (([.int .i64 a0_0] : List Value) ++ ([.slice A0_1 n0_1 c0_1] : List Value)) 39 :: R))) := St.hide (A := []) (B := [_, _]) (T := T) (R := R) st_7
  obtain ⟨a_14, hr_10, H⟩ := H
  refine WL.call Wanted.none ent26 rfl (reliquaryref15_Find.calls w w_6 T (.cells B_5 (([.int .i64 0] : List Value) ++ ([.slice none 0 0] : List Value)) 39 :: .cells B_1 (([.int .i64 a0_0] : List Value) ++ ([.slice A0_1 n0_1 c0_1] : List Value)) 39 :: R) l0_1 a1 A0_1 n0_1 c0_1  st_9 (hb0_1.mono (memo_T (B := [_, _]) (fun _ h_ => h_)) (fun _ h_ => h_)) a_14 hr_10) ?_
  rintro _ w_15 ⟨T_11, hs_12, rfl, sc_17⟩
  have st_16 : St w w_15 (.cells B_5 (([.int .i64 0] : List Value) ++ ([.slice none 0 0] : List Value)) 39 :: .cells B_1 (([.int .i64 a0_0] : List Value) ++ ([.slice A0_1 n0_1 c0_1] : List Value)) 39 :: (T_11 ++ R)) := St.unhide (A := []) (B := [_, _]) (T := T_11) (R := R) sc_17
  refine ⟨_, rfl, ?_⟩
  refine WL.val Wanted.none (Runs.assign rfl) ?_
  refine WL.nil ?_
  refine QW.then_n ?_
  refine CW.sub [(2, .pointer (some ⟨B_1, 0, none⟩)), (4, .pointer (some ⟨B_5, 0, none⟩)), (5, .bool false), (6, .int .i64 a_14)] ⟨rfl, rfl, rfl, rfl, trivial⟩ ?_
  refine CW.seq ?_
  refine CW.seq ?_
  refine CW.region ?_
  refine WL.val Wanted.none (Runs.move rfl) ?_
  refine WL.val Wanted.none (Runs.lss rfl rfl rfl) ?_
  refine WL.val Wanted.none (Runs.move rfl) ?_
  rcases H with ⟨c_18, H⟩ | ⟨c_18, H⟩
  · have h_19 : (decide (a_14 < 0)) = true := (decide_eq_true c_18)
    refine WL.off ?_ ?_; exact Wanted.guard (dj := 13) (by rfl) (evb (by rfl) h_19) (by rfl)
    refine WL.off ?_ ?_; exact Wanted.guard (dj := 13) (by rfl) (evb (by rfl) h_19) (by rfl)
    refine WL.off ?_ ?_; exact Wanted.guard (dj := 13) (by rfl) (evb (by rfl) h_19) (by rfl)
    refine WL.off ?_ ?_; exact Wanted.guard (dj := 13) (by rfl) (evb (by rfl) h_19) (by rfl)
    refine WL.off ?_ ?_; exact Wanted.guard (dj := 13) (by rfl) (evb (by rfl) h_19) (by rfl)
    refine WL.off ?_ ?_; exact Wanted.guard (dj := 13) (by rfl) (evb (by rfl) h_19) (by rfl)
    refine WL.off ?_ ?_; exact Wanted.guard (dj := 13) (by rfl) (evb (by rfl) h_19) (by rfl)
    refine WL.val Wanted.none (Runs.pick_t (evb rfl h_19) rfl) ?_
    refine WL.nil ?_
    refine QW.then_n ?_
    refine CW.sub [(2, .pointer (some ⟨B_1, 0, none⟩)), (4, .pointer (some ⟨B_5, 0, none⟩)), (5, .bool false), (6, .int .i64 a_14), (21, .bool true)] ⟨rfl, rfl, rfl, rfl, rfl, trivial⟩ ?_
    refine CW.ct rfl rfl ?_
    refine CW.seq ?_
    refine CW.region ?_
    refine WL.val Wanted.none (Runs.load_mid row39 rfl st_16 (i := 1) rfl (part_mid (pre := (([] : List Value))) (mid := (([.int .i64 a0_0] : List Value) ++ ([.slice A0_1 n0_1 c0_1] : List Value))) (post := (([] : List Value))) (by first | rfl | simp only [List.append_assoc, List.append_nil, List.nil_append, List.cons_append]) (by first | rfl | simp only [List.length_append, List.length_cons, List.length_nil, iv_length]) (by first | rfl | simp only [List.length_append, List.length_cons, List.length_nil, iv_length])) (by first | rfl | simp only [List.length_append, List.length_cons, List.length_nil, iv_length])) ?_
    refine WL.store_mid (i := 0) (pre := (([] : List Value))) (mid := (([.int .i64 0] : List Value) ++ ([.slice none 0 0] : List Value))) (post := (([] : List Value))) (ms := (([.int .i64 a0_0] : List Value) ++ ([.slice A0_1 n0_1 c0_1] : List Value))) st_16 rfl row39 (by first | rfl | simp only [List.append_assoc, List.append_nil, List.nil_append, List.cons_append]) (by first | rfl | simp only [List.length_append, List.length_cons, List.length_nil, iv_length]) rfl rfl (by first | rfl | simp only [List.length_append, List.length_cons, List.length_nil, iv_length]) (by first | rfl | simp only [List.length_append, List.length_cons, List.length_nil, iv_length]) (by intro u hu; simp only [List.mem_append, List.mem_singleton] at hu; rcases hu with hu | hu <;> first | exact one_iv _ _ u hu | (subst hu; rfl)) ?_
    intro w_20 st_21
    replace st_21 : St w w_20 (.cells B_5 (([.int .i64 a0_0] : List Value) ++ ([.slice A0_1 n0_1 c0_1] : List Value)) 39 :: .cells B_1 (([.int .i64 a0_0] : List Value) ++ ([.slice A0_1 n0_1 c0_1] : List Value)) 39 :: (T_11 ++ R)) := by have e_ : (([.int .i64 a0_0] : List Value) ++ ([.slice A0_1 n0_1 c0_1] : List Value)) = (([] : List Value)) ++ ((([.int .i64 a0_0] : List Value) ++ ([.slice A0_1 n0_1 c0_1] : List Value)) ++ (([] : List Value))) := (by first | rfl | simp only [List.append_assoc, List.append_nil, List.nil_append, List.cons_append]); have h_ : St w w_20 (.cells B_5 ((([] : List Value)) ++ ((([.int .i64 a0_0] : List Value) ++ ([.slice A0_1 n0_1 c0_1] : List Value)) ++ (([] : List Value)))) 39 :: .cells B_1 (([.int .i64 a0_0] : List Value) ++ ([.slice A0_1 n0_1 c0_1] : List Value)) 39 :: (T_11 ++ R)) := st_21; rw [← e_] at h_; exact h_
    refine WL.val Wanted.none (Runs.assign rfl) ?_
    refine WL.nil ?_
    refine QW.then_n ?_
    refine CW.ret ?_
    refine QW.then_r ?_
    obtain ⟨rfl, rfl, rfl⟩ := H
    exact QW.retN2 rfl (Res.row rfl row39 st_21 (i := 0) rfl (by first | rfl | simp only [List.length_append, List.length_cons, List.length_nil, iv_length])) (Res.tmp rfl) ⟨T_11, A0_1, n0_1, c0_1, hs_12, (hb0_1.mono (fun _ h_ => hs_12.1 _ h_) (fun _ h_ => hs_12.1 _ h_)), rfl, (St.pickT (L := [_, _]) st_21 [] (by decide))⟩
  · have h_19 : (decide (a_14 < 0)) = false := (decide_eq_false c_18)
    refine WL.on ?_ ?_; exact Wanted.guard (dj := 13) (by rfl) (evb (by rfl) h_19) (by rfl)
    refine WL.val Wanted.none (Runs.fieldAddr (off := 1) (p := 1) fld39_1 rfl rfl rfl) ?_
    refine WL.on ?_ ?_; exact Wanted.guard (dj := 13) (by rfl) (evb (by rfl) h_19) (by rfl)
    refine WL.val Wanted.none (Runs.load nagg37 rfl (st_16.cell (k := 1) rfl (part_one (u := .slice A0_1 n0_1 c0_1) (pre := (([.int .i64 a0_0] : List Value))) (post := (([] : List Value))) (by first | rfl | simp only [List.append_assoc, List.append_nil, List.nil_append, List.cons_append]) (by first | rfl | simp only [List.length_append, List.length_cons, List.length_nil, iv_length])))) ?_
    refine WL.on ?_ ?_; exact Wanted.guard (dj := 13) (by rfl) (evb (by rfl) h_19) (by rfl)
    refine WL.val Wanted.none (Runs.move rfl) ?_
    refine WL.on ?_ ?_; exact Wanted.guard (dj := 13) (by rfl) (evb (by rfl) h_19) (by rfl)
    obtain ⟨⟨p_22, q_23⟩, H⟩ := H
    obtain ⟨x_24, hs_25, hr_26⟩ := hb0_1.2.2
    obtain ⟨a_27, e_28, ms_29, hc_30, hm_31⟩ := el_get (i := (a_14).toNat) ((hs_25.at st_16 (mem_T (A := [_, _]) (fun _ h_ => hs_12.1 _ h_)))) (hr_26.mono (fun _ h_ => hs_12.1 _ h_)) (fz51 w) (by decide) (by omega)
    obtain em_32 := inv51 hm_31
    replace em_32 : ms_29 = ([.int .u64 ((gx l0_1 ((a_14).toNat)).1)] : List Value) ++ (([.string ((gx l0_1 ((a_14).toNat)).2.1)] : List Value) ++ ([.int .i64 ((gx l0_1 ((a_14).toNat)).2.2)] : List Value)) := em_32
    subst em_32
    refine WL.val Wanted.none (Runs.indexAddr Try.underlying37 cells51 (by decide) rfl e_28 rfl p_22 (by rw [show n0_1 = l0_1.length from hb0_1.1]; exact q_23) (o := ((a_14).toNat) * 3) (by first | rfl | omega)) ?_
    refine WL.on ?_ ?_; exact Wanted.guard (dj := 13) (by rfl) (evb (by rfl) h_19) (by rfl)
    refine WL.val Wanted.none (Runs.fieldAddrB (off := 2) fld51_2 rfl rfl rfl) ?_
    refine WL.on ?_ ?_; exact Wanted.guard (dj := 13) (by rfl) (evb (by rfl) h_19) (by rfl)
    refine WL.val Wanted.none (Runs.load nagg3 rfl (Src.cellAt (j := 2) (Src.cut ((hs_25.at st_16 (mem_T (A := [_, _]) (fun _ h_ => hs_12.1 _ h_)))) e_28 hc_30) rfl)) ?_
    refine WL.on ?_ ?_; exact Wanted.guard (dj := 13) (by rfl) (evb (by rfl) h_19) (by rfl)
    refine WL.val Wanted.none (Runs.gtr rfl rfl rfl) ?_
    refine WL.val Wanted.none (Runs.pick_f (evb rfl h_19) rfl) ?_
    refine WL.nil ?_
    refine QW.then_n ?_
    refine CW.sub [(2, .pointer (some ⟨B_1, 0, none⟩)), (4, .pointer (some ⟨B_5, 0, none⟩)), (5, .bool false), (6, .int .i64 a_14), (21, .bool (decide (((gx l0_1 ((a_14).toNat)).2.2) > 0)))] ⟨rfl, rfl, rfl, rfl, rfl, trivial⟩ ?_
    rcases H with ⟨c_33, H⟩ | ⟨c_33, H⟩
    · have h_34 : (decide (((gx l0_1 ((a_14).toNat)).2.2) > 0)) = true := (decide_eq_true c_33)
      refine CW.ct rfl h_34 ?_
      refine CW.seq ?_
      refine CW.region ?_
      refine WL.val Wanted.none (Runs.load_mid row39 rfl st_16 (i := 1) rfl (part_mid (pre := (([] : List Value))) (mid := (([.int .i64 a0_0] : List Value) ++ ([.slice A0_1 n0_1 c0_1] : List Value))) (post := (([] : List Value))) (by first | rfl | simp only [List.append_assoc, List.append_nil, List.nil_append, List.cons_append]) (by first | rfl | simp only [List.length_append, List.length_cons, List.length_nil, iv_length]) (by first | rfl | simp only [List.length_append, List.length_cons, List.length_nil, iv_length])) (by first | rfl | simp only [List.length_append, List.length_cons, List.length_nil, iv_length])) ?_
      refine WL.store_mid (i := 0) (pre := (([] : List Value))) (mid := (([.int .i64 0] : List Value) ++ ([.slice none 0 0] : List Value))) (post := (([] : List Value))) (ms := (([.int .i64 a0_0] : List Value) ++ ([.slice A0_1 n0_1 c0_1] : List Value))) st_16 rfl row39 (by first | rfl | simp only [List.append_assoc, List.append_nil, List.nil_append, List.cons_append]) (by first | rfl | simp only [List.length_append, List.length_cons, List.length_nil, iv_length]) rfl rfl (by first | rfl | simp only [List.length_append, List.length_cons, List.length_nil, iv_length]) (by first | rfl | simp only [List.length_append, List.length_cons, List.length_nil, iv_length]) (by intro u hu; simp only [List.mem_append, List.mem_singleton] at hu; rcases hu with hu | hu <;> first | exact one_iv _ _ u hu | (subst hu; rfl)) ?_
      intro w_35 st_36
      replace st_36 : St w w_35 (.cells B_5 (([.int .i64 a0_0] : List Value) ++ ([.slice A0_1 n0_1 c0_1] : List Value)) 39 :: .cells B_1 (([.int .i64 a0_0] : List Value) ++ ([.slice A0_1 n0_1 c0_1] : List Value)) 39 :: (T_11 ++ R)) := by have e_ : (([.int .i64 a0_0] : List Value) ++ ([.slice A0_1 n0_1 c0_1] : List Value)) = (([] : List Value)) ++ ((([.int .i64 a0_0] : List Value) ++ ([.slice A0_1 n0_1 c0_1] : List Value)) ++ (([] : List Value))) := (by first | rfl | simp only [List.append_assoc, List.append_nil, List.nil_append, List.cons_append]); have h_ : St w w_35 (.cells B_5 ((([] : List Value)) ++ ((([.int .i64 a0_0] : List Value) ++ ([.slice A0_1 n0_1 c0_1] : List Value)) ++ (([] : List Value)))) 39 :: .cells B_1 (([.int .i64 a0_0] : List Value) ++ ([.slice A0_1 n0_1 c0_1] : List Value)) 39 :: (T_11 ++ R)) := st_36; rw [← e_] at h_; exact h_
      refine WL.val Wanted.none (Runs.assign rfl) ?_
      refine WL.nil ?_
      refine QW.then_n ?_
      refine CW.ret ?_
      refine QW.then_r ?_
      obtain ⟨rfl, rfl, rfl⟩ := H
      exact QW.retN2 rfl (Res.row rfl row39 st_36 (i := 0) rfl (by first | rfl | simp only [List.length_append, List.length_cons, List.length_nil, iv_length])) (Res.tmp rfl) ⟨T_11, A0_1, n0_1, c0_1, hs_12, (hb0_1.mono (fun _ h_ => hs_12.1 _ h_) (fun _ h_ => hs_12.1 _ h_)), rfl, (St.pickT (L := [_, _]) st_36 [] (by decide))⟩
    · have h_34 : (decide (((gx l0_1 ((a_14).toNat)).2.2) > 0)) = false := (decide_eq_false c_33)
      refine CW.cf rfl h_34 ?_
      refine CW.skip ?_
      refine QW.then_n ?_
      refine CW.seq ?_
      refine CW.region ?_
      refine WL.val Wanted.none (Runs.fieldAddr (off := 1) (p := 1) fld39_1 rfl rfl rfl) ?_
      refine WL.val Wanted.none (Runs.load nagg37 rfl (st_16.cell (k := 1) rfl (part_one (u := .slice A0_1 n0_1 c0_1) (pre := (([.int .i64 a0_0] : List Value))) (post := (([] : List Value))) (by first | rfl | simp only [List.append_assoc, List.append_nil, List.nil_append, List.cons_append]) (by first | rfl | simp only [List.length_append, List.length_cons, List.length_nil, iv_length])))) ?_
      refine WL.val Wanted.none (Runs.move rfl) ?_
      have st_37 : St w w_15 ((T_11 ++ (.cells B_5 (([.int .i64 0] : List Value) ++ ([.slice none 0 0] : List Value)) 39 :: .cells B_1 (([.int .i64 a0_0] : List Value) ++ ([.slice A0_1 n0_1 c0_1] : List Value)) 39 :: R))) := St.hide (A := []) (B := [_, _]) (T := T_11) (R := R) st_16
      obtain ⟨l_45, hr_38, H⟩ := H
      refine WL.call Wanted.none ent28 rfl (reliquaryref15_without.calls w w_15 T_11 (.cells B_5 (([.int .i64 0] : List Value) ++ ([.slice none 0 0] : List Value)) 39 :: .cells B_1 (([.int .i64 a0_0] : List Value) ++ ([.slice A0_1 n0_1 c0_1] : List Value)) 39 :: R) l0_1 a_14 A0_1 n0_1 c0_1  st_37 (hb0_1.mono (memo_T (B := [_, _]) (fun _ h_ => hs_12.1 _ h_)) (fun _ h_ => hs_12.1 _ h_)) l_45 hr_38) ?_
      rintro _ w_49 ⟨T_39, A_42, n_43, c_44, x_46, hs_40, hn_47, hx_48, rfl, sc_51⟩
      have st_50 : St w w_49 (.sl A_42 c_44 n_43 x_46 51 3 :: .cells B_5 (([.int .i64 0] : List Value) ++ ([.slice none 0 0] : List Value)) 39 :: .cells B_1 (([.int .i64 a0_0] : List Value) ++ ([.slice A0_1 n0_1 c0_1] : List Value)) 39 :: (T_39 ++ R)) := St.unhide (A := [_]) (B := [_, _]) (T := T_39) (R := R) sc_51
      refine ⟨_, rfl, ?_⟩
      refine WL.val Wanted.none (Runs.fieldAddr (off := 1) (p := 1) fld39_1 rfl rfl rfl) ?_
      refine WL.store_one (i := 2) (u0 := .slice A0_1 n0_1 c0_1) (pre := (([.int .i64 a0_0] : List Value))) (post := (([] : List Value))) st_50 rfl cells37 (by first | rfl | simp only [List.append_assoc, List.append_nil, List.nil_append, List.cons_append]) (by first | rfl | simp only [List.length_append, List.length_cons, List.length_nil, iv_length]) rfl rfl rfl ?_
      intro w_52 st_53
      replace st_53 : St w w_52 (.sl A_42 c_44 n_43 x_46 51 3 :: .cells B_5 (([.int .i64 0] : List Value) ++ ([.slice none 0 0] : List Value)) 39 :: .cells B_1 (([.int .i64 a0_0] : List Value) ++ ([.slice A_42 n_43 c_44] : List Value)) 39 :: (T_39 ++ R)) := by have e_ : (([.int .i64 a0_0] : List Value) ++ ([.slice A_42 n_43 c_44] : List Value)) = (([.int .i64 a0_0] : List Value)) ++ ((([.slice A_42 n_43 c_44] : List Value)) ++ (([] : List Value))) := (by first | rfl | simp only [List.append_assoc, List.append_nil, List.nil_append, List.cons_append]); have h_ : St w w_52 (.sl A_42 c_44 n_43 x_46 51 3 :: .cells B_5 (([.int .i64 0] : List Value) ++ ([.slice none 0 0] : List Value)) 39 :: .cells B_1 ((([.int .i64 a0_0] : List Value)) ++ ((([.slice A_42 n_43 c_44] : List Value)) ++ (([] : List Value)))) 39 :: (T_39 ++ R)) := st_53; rw [← e_] at h_; exact h_
      refine WL.nil ?_
      refine QW.then_n ?_
      refine CW.sub [(2, .pointer (some ⟨B_1, 0, none⟩)), (4, .pointer (some ⟨B_5, 0, none⟩)), (5, .bool false)] ⟨rfl, rfl, rfl, trivial⟩ ?_
      refine CW.seq ?_
      refine CW.region ?_
      refine WL.val Wanted.none (Runs.load_mid row39 rfl st_53 (i := 2) rfl (part_mid (pre := (([] : List Value))) (mid := (([.int .i64 a0_0] : List Value) ++ ([.slice A_42 n_43 c_44] : List Value))) (post := (([] : List Value))) (by first | rfl | simp only [List.append_assoc, List.append_nil, List.nil_append, List.cons_append]) (by first | rfl | simp only [List.length_append, List.length_cons, List.length_nil, iv_length]) (by first | rfl | simp only [List.length_append, List.length_cons, List.length_nil, iv_length])) (by first | rfl | simp only [List.length_append, List.length_cons, List.length_nil, iv_length])) ?_
      refine WL.store_mid (i := 1) (pre := (([] : List Value))) (mid := (([.int .i64 0] : List Value) ++ ([.slice none 0 0] : List Value))) (post := (([] : List Value))) (ms := (([.int .i64 a0_0] : List Value) ++ ([.slice A_42 n_43 c_44] : List Value))) st_53 rfl row39 (by first | rfl | simp only [List.append_assoc, List.append_nil, List.nil_append, List.cons_append]) (by first | rfl | simp only [List.length_append, List.length_cons, List.length_nil, iv_length]) rfl rfl (by first | rfl | simp only [List.length_append, List.length_cons, List.length_nil, iv_length]) (by first | rfl | simp only [List.length_append, List.length_cons, List.length_nil, iv_length]) (by intro u hu; simp only [List.mem_append, List.mem_singleton] at hu; rcases hu with hu | hu <;> first | exact one_iv _ _ u hu | (subst hu; rfl)) ?_
      intro w_54 st_55
      replace st_55 : St w w_54 (.sl A_42 c_44 n_43 x_46 51 3 :: .cells B_5 (([.int .i64 a0_0] : List Value) ++ ([.slice A_42 n_43 c_44] : List Value)) 39 :: .cells B_1 (([.int .i64 a0_0] : List Value) ++ ([.slice A_42 n_43 c_44] : List Value)) 39 :: (T_39 ++ R)) := by have e_ : (([.int .i64 a0_0] : List Value) ++ ([.slice A_42 n_43 c_44] : List Value)) = (([] : List Value)) ++ ((([.int .i64 a0_0] : List Value) ++ ([.slice A_42 n_43 c_44] : List Value)) ++ (([] : List Value))) := (by first | rfl | simp only [List.append_assoc, List.append_nil, List.nil_append, List.cons_append]); have h_ : St w w_54 (.sl A_42 c_44 n_43 x_46 51 3 :: .cells B_5 ((([] : List Value)) ++ ((([.int .i64 a0_0] : List Value) ++ ([.slice A_42 n_43 c_44] : List Value)) ++ (([] : List Value)))) 39 :: .cells B_1 (([.int .i64 a0_0] : List Value) ++ ([.slice A_42 n_43 c_44] : List Value)) 39 :: (T_39 ++ R)) := st_55; rw [← e_] at h_; exact h_
      refine WL.val Wanted.none (Runs.assign rfl) ?_
      refine WL.nil ?_
      refine QW.then_n ?_
      refine CW.ret ?_
      have hb_60c := st_55.cap (i := 0) rfl
      obtain ⟨T_56, hs_57, hm_58, st_59⟩ := St.freeze (A := []) (B := [_, _]) (T := T_39) (R := R) st_55
      have hb_60 : HS w T_56 T_56 A_42 n_43 c_44 (f51 w) l_45 := HS.mk hn_47 hb_60c (Hd.of_sl hm_58) (hx_48.mono (fun _ h_ => hs_57.1 _ h_))
      replace st_59 : St w w_54 (.cells B_5 (([.int .i64 a0_0] : List Value) ++ ([.slice A_42 n_43 c_44] : List Value)) 39 :: .cells B_1 (([.int .i64 a0_0] : List Value) ++ ([.slice A_42 n_43 c_44] : List Value)) 39 :: (T_56 ++ R)) := st_59
      obtain ⟨rfl, rfl, rfl⟩ := H
      exact QW.retN2 rfl (Res.row rfl row39 st_59 (i := 0) rfl (by first | rfl | simp only [List.length_append, List.length_cons, List.length_nil, iv_length])) (Res.tmp rfl) ⟨T_56, A_42, n_43, c_44, ((hs_12.trans hs_40).trans hs_57), hb_60, rfl, (St.pickT (L := [_, _]) st_59 [] (by decide))⟩

/-! ### buffers_Cache_Clear: function 21 -/
def buffers_Cache_Clear.rel (a0_0 : Int) (l0_1 : List R60) (as0_0 : Int) (ls0_1 : List R60) : Prop := as0_0 = a0_0 ∧ ls0_1 = ([] : List R60)
set_option maxHeartbeats 1000000 in
set_option maxRecDepth 100000 in
theorem buffers_Cache_Clear.calls (w w1 : World) (T R : Pool) (a0_0 : Int) (l0_1 : List R60) (b0 : Nat) (A0_1 : Option Addr) (n0_1 : Nat) (c0_1 : Nat) (x0_1 : Cells) (st0 : St w w1 (.cells b0 (([.int .i64 a0_0] : List Value) ++ ([.slice A0_1 n0_1 c0_1] : List Value)) 57 :: .sl A0_1 c0_1 n0_1 x0_1 60 3 :: (T ++ R))) (hn0_1 : n0_1 = l0_1.length) (hx0_1 : HRs T (f60 w) x0_1 l0_1) (as0_0 : Int) (ls0_1 : List R60) (H : buffers_Cache_Clear.rel a0_0 l0_1 as0_0 ls0_1) :
    Calls Try.prog 21 #[.pointer (some ⟨b0, 0, none⟩)] w1 fun e w' => ∃ T' As0_1 ns0_1 cs0_1 xs0_1, Pl T T' ∧ ns0_1 = ls0_1.length ∧ HRs T' (f60 w) xs0_1 ls0_1 ∧ e = .returned (.tuple #[]) ∧ St w w' (.cells b0 (([.int .i64 as0_0] : List Value) ++ ([.slice As0_1 ns0_1 cs0_1] : List Value)) 57 :: .sl As0_1 cs0_1 ns0_1 xs0_1 60 3 :: (T' ++ R)) := by
  refine CW.enter Try.func21 rfl (n := 7) rfl [.pointer (some ⟨b0, 0, none⟩)] (Nat.le_of_ble_eq_true rfl) ?_
  refine CW.sub [(0, .pointer (some ⟨b0, 0, none⟩))] ⟨rfl, trivial⟩ ?_
  refine CW.seq ?_
  refine CW.region ?_
  refine WL.val Wanted.none (Runs.move rfl) ?_
  refine WL.val Wanted.none (Runs.neq_ptr Try.underlying25 rfl rfl rfl) ?_
  refine WL.nil ?_
  refine QW.then_n ?_
  refine CW.ct rfl rfl ?_
  refine CW.region ?_
  refine WL.val Wanted.none (Runs.move rfl) ?_
  refine WL.val Wanted.none (Runs.nilCheck rfl) ?_
  refine WL.val Wanted.none (Runs.fieldAddr (off := 1) (p := 1) fld57_1 rfl rfl rfl) ?_
  refine WL.store_one (i := 0) (u0 := .slice A0_1 n0_1 c0_1) (pre := (([.int .i64 a0_0] : List Value))) (post := (([] : List Value))) st0 rfl cells55 (by first | rfl | simp only [List.append_assoc, List.append_nil, List.nil_append, List.cons_append]) (by first | rfl | simp only [List.length_append, List.length_cons, List.length_nil, iv_length]) rfl rfl rfl ?_
  intro w_1 st_2
  replace st_2 : St w w_1 (.cells b0 (([.int .i64 a0_0] : List Value) ++ ([.slice none 0 0] : List Value)) 57 :: .sl A0_1 c0_1 n0_1 x0_1 60 3 :: (T ++ R)) := by have e_ : (([.int .i64 a0_0] : List Value) ++ ([.slice none 0 0] : List Value)) = (([.int .i64 a0_0] : List Value)) ++ ((([.slice none 0 0] : List Value)) ++ (([] : List Value))) := (by first | rfl | simp only [List.append_assoc, List.append_nil, List.nil_append, List.cons_append]); have h_ : St w w_1 (.cells b0 ((([.int .i64 a0_0] : List Value)) ++ ((([.slice none 0 0] : List Value)) ++ (([] : List Value)))) 57 :: .sl A0_1 c0_1 n0_1 x0_1 60 3 :: (T ++ R)) := st_2; rw [← e_] at h_; exact h_
  refine WL.nil ?_
  have st_4 := st_2.nil_sl 60 3
  have st_4 : St w w_1 (.sl none 0 0 ([] : Cells) 60 3 :: .cells b0 (([.int .i64 a0_0] : List Value) ++ ([.slice none 0 0] : List Value)) 57 :: .sl A0_1 c0_1 n0_1 x0_1 60 3 :: (T ++ R)) := st_4
  obtain ⟨rfl, rfl⟩ := H
  exact QW.end0 rfl ⟨T, none, 0, 0, ([] : Cells), Pl.refl, rfl, (HRs.nil : HRs T (f60 w) [] []), rfl, (St.pickT (L := [_, _, _]) st_4 [1, 0] (by decide))⟩

end Go.Proofs.Ytjilndiemfhapaa
