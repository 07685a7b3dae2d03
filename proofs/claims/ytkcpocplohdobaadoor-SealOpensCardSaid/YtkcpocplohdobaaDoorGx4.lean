/- Walks: each function computes what its relation says, and a call of it ends so. Printed by a program of this session (wip/gen). -/
import Derived.Test.YtkcpocplohdobaaDoorGx3
namespace Go.Proofs.YtkcpocplohdobaaDoor
open Go Go.Kr Go.RowKit
set_option linter.unusedVariables false
set_option linter.unusedSimpArgs false
/-! ### reliquarylaw08_SealOpens: function 4 -/
def reliquarylaw08_SealOpens.L1 (l0 : List Int) (a1 : Int) (l2 : List Int) (a3 : Int) (a4 : Int) : Nat → (List Int) → Prop
  | 0, _ => False
  | kL1 + 1, l_25 => (((l_25.length : Int) < 192 ∧ (((Int.tmod (l2.length : Int) 2) = 0 ∧ (∃ m_39 : List Int, m_39 = l_25 ++ [a3] ∧ (m_39.length ≤ 1099511627776 ∧ reliquarylaw08_SealOpens.L1 l0 a1 l2 a3 a4 kL1 m_39))) ∨ (¬ ((Int.tmod (l2.length : Int) 2) = 0) ∧ (∃ (r_52 : Int) (r_53 : List Int) (r_59 : Int), seal_Open.rel l0 a1 l_25 a4 r_52 r_53 r_59 ∧ (∃ (r_64 : Int) (r_65 : ByteArray) (r_66 : Int), reliquaryref08_Open.rel l0 a1 (strOfNums l_25) a4 r_64 r_65 r_66 ∧ (¬ (r_52 ≠ r_64) ∧ (¬ (¬ ((strOfNums r_53).toList = r_65.toList)) ∧ (¬ (r_59 ≠ r_66) ∧ ((r_59 ≠ 0 ∧ True) ∨ (¬ (r_59 ≠ 0) ∧ (∃ (r_79 : List Int) (r_85 : Int), seal_Seal.rel l0 a1 r_52 r_53 r_79 r_85 ∧ (r_85 = 0 ∧ (strOfNums r_79).toList = (strOfNums l_25).toList)))))))))))) ∨ (¬ ((l_25.length : Int) < 192) ∧ (∃ (r_92 : Int) (r_93 : List Int) (r_99 : Int), seal_Open.rel l0 a1 l_25 a4 r_92 r_93 r_99 ∧ (∃ (r_104 : Int) (r_105 : ByteArray) (r_106 : Int), reliquaryref08_Open.rel l0 a1 (strOfNums l_25) a4 r_104 r_105 r_106 ∧ (¬ (r_92 ≠ r_104) ∧ (¬ (¬ ((strOfNums r_93).toList = r_105.toList)) ∧ (¬ (r_99 ≠ r_106) ∧ ((r_99 ≠ 0 ∧ True) ∨ (¬ (r_99 ≠ 0) ∧ (∃ (r_119 : List Int) (r_125 : Int), seal_Seal.rel l0 a1 r_92 r_93 r_119 r_125 ∧ (r_125 = 0 ∧ (strOfNums r_119).toList = (strOfNums l_25).toList)))))))))))
def reliquarylaw08_SealOpens.rel (l0 : List Int) (a1 : Int) (l2 : List Int) (a3 : Int) (a4 : Int)  : Prop := (reliquarylaw08_awake.rel  ∧ (((l2.length : Int) > 300 ∧ True) ∨ (¬ ((l2.length : Int) > 300) ∧ (∃ m_13 : List Int, m_13 = ([] : List Int) ++ l2 ∧ (m_13.length ≤ 1099511627776 ∧ (∃ k_ : Nat, reliquarylaw08_SealOpens.L1 l0 a1 l2 a3 a4 k_ m_13))))))
set_option maxHeartbeats 4000000 in
set_option maxRecDepth 100000 in
theorem reliquarylaw08_SealOpens.calls (w : World) (l0 : List Int) (a1 : Int) (l2 : List Int) (a3 : Int) (a4 : Int) (A2 : Option Addr) (n2 : Nat) (c2 : Nat)  (hG0 : Src w (some ⟨0, 0, none⟩) (iv .i64 tab0)) (hl0 : l0.length = 32) (hs2 : Src w A2 (iv .u8 l2)) (hn2 : n2 = l2.length) (hc2 : n2 ≤ c2)  (H : reliquarylaw08_SealOpens.rel l0 a1 l2 a3 a4 ) :
    Calls Tryd.prog 4 #[.agg (iv .u8 l0).toArray, .int .u32 a1, .slice A2 n2 c2, .int .u8 a3, .int .i64 a4] w fun e w' => e = .returned (.bool true) ∧ Below w.heap.size w w' := by
  refine CW.enter Tryd.func4 rfl (n := 95) rfl [.agg (iv .u8 l0).toArray, .int .u32 a1, .slice A2 n2 c2, .int .u8 a3, .int .i64 a4] (Nat.le_of_ble_eq_true rfl) ?_
  refine CW.sub [(0, .agg (iv .u8 l0).toArray), (1, .int .u32 a1), (2, .slice A2 n2 c2), (3, .int .u8 a3), (4, .int .i64 a4)] ⟨rfl, rfl, rfl, rfl, rfl, trivial⟩ ?_
  have st0 : St w w [] := St.refl w
  refine CW.seq ?_
  refine CW.region ?_
  refine WL.box st0 rfl rfl ?_
  intro B_1 w_2 st_3
  replace st_3 : St w w_2 [.cells B_1 (iv .u8 l0) 23] := st_3
  refine WL.val Wanted.none (Runs.assign rfl) ?_
  refine WL.nil ?_
  refine QW.then_n ?_
  refine CW.seq ?_
  refine CW.region ?_
  obtain ⟨hr_5, H⟩ := H
  refine WL.call Wanted.none ent8 rfl (reliquarylaw08_awake.calls w_2 (hG0.ext st_3) hr_5) ?_
  rintro _ w_6 ⟨rfl, sc_8⟩
  have st_7 : St w w_6 [.cells B_1 (iv .u8 l0) 23] := st_3.below sc_8
  refine ⟨_, rfl, ?_⟩
  refine WL.val Wanted.none (Runs.assign rfl) ?_
  refine WL.nil ?_
  refine QW.then_n ?_
  refine CW.seq ?_
  refine CW.seq ?_
  refine CW.region ?_
  refine WL.val Wanted.none (Runs.move rfl) ?_
  refine WL.val Wanted.none (Runs.not rfl rfl) ?_
  refine WL.nil ?_
  refine QW.then_n ?_
  refine CW.cf rfl rfl ?_
  refine CW.skip ?_
  refine QW.then_n ?_
  refine CW.seq ?_
  refine CW.seq ?_
  refine CW.region ?_
  refine WL.val Wanted.none (Runs.move rfl) ?_
  refine WL.val Wanted.none (Runs.len_sl Tryd.underlying26 rfl (by rw [hn2])) ?_
  refine WL.val Wanted.none (Runs.gtr rfl rfl rfl) ?_
  refine WL.nil ?_
  refine QW.then_n ?_
  refine CW.sub [(1, .int .u32 a1), (2, .slice A2 n2 c2), (3, .int .u8 a3), (4, .int .i64 a4), (5, .pointer (some ⟨B_1, 0, none⟩)), (10, .bool false), (26, .bool (decide ((l2.length : Int) > 300)))] ⟨rfl, rfl, rfl, rfl, rfl, rfl, rfl, trivial⟩ ?_
  rcases H with ⟨c_9, H⟩ | ⟨c_9, H⟩
  · have h_10 : (decide ((l2.length : Int) > 300)) = true := (decide_eq_true c_9)
    refine CW.ct rfl h_10 ?_
    refine CW.seq ?_
    refine CW.region ?_
    refine WL.val Wanted.none (Runs.assign rfl) ?_
    refine WL.nil ?_
    refine QW.then_n ?_
    refine CW.ret ?_
    refine QW.then_r ?_
    exact QW.ret1 rfl rfl ⟨rfl, st_7.ext⟩
  · have h_10 : (decide ((l2.length : Int) > 300)) = false := (decide_eq_false c_9)
    refine CW.cf rfl h_10 ?_
    refine CW.skip ?_
    refine QW.then_n ?_
    refine CW.seq ?_
    refine CW.region ?_
    refine WL.val Wanted.none (Runs.assign rfl) ?_
    refine WL.nil ?_
    refine QW.then_n ?_
    refine CW.seq ?_
    refine CW.region ?_
    refine WL.val Wanted.none (Runs.move rfl) ?_
    refine WL.val Wanted.none (Runs.move rfl) ?_
    have st_12 := st_7.nil_sl 5 1
    have st_12 : St w w_6 [.sl none 0 0 (iv .u8 ([] : List Int)) 5 1, .cells B_1 (iv .u8 l0) 23] := st_12
    obtain ⟨m_13, e_14, H⟩ := H
    obtain ⟨z_15, H⟩ := H
    obtain ⟨n_18, hn_21⟩ : ∃ n_ : Nat, n_ = m_13.length := ⟨_, rfl⟩
    refine WL.append (i := 0) Wanted.none st_12 rfl Tryd.underlying26 elem5 rfl rfl (hs2.ext st_12) (by rw [iv_length]; exact (hn2).symm) (one_iv .u8 _) (by decide) (N := n_18) (by rw [hn_21, e_14, List.length_append]; exact congr (congrArg HAdd.hAdd (rfl)) (hn2)) (by rw [hn_21]; exact z_15) ?_
    intro A_16 c_17 w_19 st_20
    have st_20' : St w w_19 [.sl A_16 c_17 n_18 (iv .u8 m_13) 5 1, .cells B_1 (iv .u8 l0) 23] := by rw [e_14, ← iv_append .u8 ([] : List Int) l2]; exact st_20
    refine WL.val Wanted.none (Runs.assign rfl) ?_
    refine WL.nil ?_
    refine QW.then_n ?_
    refine CW.seq ?_
    refine CW.block ?_
    obtain ⟨k_22, H⟩ := H
    refine CW.sub [(1, .int .u32 a1), (2, .slice A2 n2 c2), (3, .int .u8 a3), (4, .int .i64 a4), (5, .pointer (some ⟨B_1, 0, none⟩)), (10, .bool false), (12, .slice A_16 n_18 c_17)] ⟨rfl, rfl, rfl, rfl, rfl, rfl, rfl, trivial⟩ ?_
    refine CW.loop (fun kL1 l_ w_ => ∃ (A_23 : Option Addr) (c_24 : Nat) (n_26 : Nat) (l_25 : List Int), l_ = [(1, .int .u32 a1), (2, .slice A2 n2 c2), (3, .int .u8 a3), (4, .int .i64 a4), (5, .pointer (some ⟨B_1, 0, none⟩)), (10, .bool false), (12, .slice A_23 n_26 c_24)] ∧ reliquarylaw08_SealOpens.L1 l0 a1 l2 a3 a4 kL1 l_25 ∧ (n_26 = l_25.length) ∧ St w w_ [.sl A_23 c_24 n_26 (iv .u8 l_25) 5 1, .cells B_1 (iv .u8 l0) 23]) (k := k_22) ⟨A_16, c_17, n_18, m_13, rfl, H, hn_21, st_20'⟩ (fun _ _ h => by obtain ⟨_, _, _, _, _, h, _⟩ := h; exact h.elim) ?_
    rintro kL1 l_30 w_28 ⟨A_23, c_24, n_26, l_25, rfl, H, hn_27, st_29⟩
    refine CW.seq ?_
    refine CW.seq ?_
    refine CW.region ?_
    refine WL.val Wanted.none (Runs.move rfl) ?_
    refine WL.val Wanted.none (Runs.len_sl Tryd.underlying26 rfl (by rw [hn_27])) ?_
    refine WL.val Wanted.none (Runs.lss rfl rfl rfl) ?_
    refine WL.val Wanted.none (Runs.move rfl) ?_
    rcases H with ⟨c_31, H⟩ | ⟨c_31, H⟩
    · have h_32 : (decide ((l_25.length : Int) < 192)) = true := (decide_eq_true c_31)
      refine WL.on ?_ ?_; exact Wanted.guard (dj := 33) (by rfl) (evb (by rfl) h_32) (by rfl)
      refine WL.val Wanted.none (Runs.move rfl) ?_
      refine WL.on ?_ ?_; exact Wanted.guard (dj := 33) (by rfl) (evb (by rfl) h_32) (by rfl)
      refine WL.val Wanted.none (Runs.len_sl Tryd.underlying26 rfl (by rw [hn2])) ?_
      refine WL.on ?_ ?_; exact Wanted.guard (dj := 33) (by rfl) (evb (by rfl) h_32) (by rfl)
      refine WL.val Wanted.none (Runs.rem rfl rfl (by decide) rfl) ?_
      refine WL.on ?_ ?_; exact Wanted.guard (dj := 33) (by rfl) (evb (by rfl) h_32) (by rfl)
      refine WL.val Wanted.none (Runs.eql rfl rfl rfl) ?_
      refine WL.val Wanted.none (Runs.pick_t (evb rfl h_32) rfl) ?_
      refine WL.nil ?_
      refine QW.then_n ?_
      rcases H with ⟨c_33, H⟩ | ⟨c_33, H⟩
      · have h_34 : ((Int.tmod (l2.length : Int) 2) == 0) = true := (beq_iff_eq.mpr c_33)
        refine CW.ct rfl h_34 ?_
        refine CW.skip ?_
        refine QW.then_n ?_
        refine CW.block ?_
        refine CW.region ?_
        refine WL.val Wanted.none (Runs.move rfl) ?_
        refine WL.val Wanted.none (Runs.move rfl) ?_
        refine WL.buildSl [.int .u8 a3] st_29 Tryd.underlying26 elem5 rfl rfl (by decide) (by decide) (by simp [Value.cells]) ?_
        intro B_35 w_36 st_37
        replace st_37 : St w w_36 [.sl (some ⟨B_35, 0, none⟩) 1 1 (iv .u8 [a3]) 5 1, .sl A_23 c_24 n_26 (iv .u8 l_25) 5 1, .cells B_1 (iv .u8 l0) 23] := st_37
        obtain ⟨m_39, e_40, H⟩ := H
        obtain ⟨z_41, H⟩ := H
        obtain ⟨n_44, hn_47⟩ : ∃ n_ : Nat, n_ = m_39.length := ⟨_, rfl⟩
        refine WL.append (i := 1) Wanted.none st_37 rfl Tryd.underlying26 elem5 rfl rfl (st_37.src_sl (k := 0) rfl) (by rw [iv_length]; exact (Eq.refl _).symm) (one_iv .u8 _) (by decide) (N := n_44) (by rw [hn_47, e_40, List.length_append]; exact congr (congrArg HAdd.hAdd (hn_27)) (rfl)) (by rw [hn_47]; exact z_41) ?_
        intro A_42 c_43 w_45 st_46
        have st_46' : St w w_45 [.sl (some ⟨B_35, 0, none⟩) 1 1 (iv .u8 [a3]) 5 1, .sl A_42 c_43 n_44 (iv .u8 m_39) 5 1, .cells B_1 (iv .u8 l0) 23] := by rw [e_40, ← iv_append .u8 l_25 [a3]]; exact st_46
        refine WL.val Wanted.none (Runs.assign rfl) ?_
        refine WL.nil ?_
        refine QW.blk_n ?_
        have st_46'' := st_46'.pick [1, 2] (by decide)
        exact QW.at [(1, .int .u32 a1), (2, .slice A2 n2 c2), (3, .int .u8 a3), (4, .int .i64 a4), (5, .pointer (some ⟨B_1, 0, none⟩)), (10, .bool false), (12, .slice A_42 n_44 c_43)] ⟨rfl, rfl, rfl, rfl, rfl, rfl, rfl, trivial⟩ ⟨A_42, c_43, n_44, m_39, rfl, H, hn_47, st_46''⟩
      · have h_34 : ((Int.tmod (l2.length : Int) 2) == 0) = false := (beq_eq_false_iff_ne.mpr c_33)
        refine CW.cf rfl h_34 ?_
        refine CW.exit ?_
        refine QW.then_x ?_
        refine QW.then_x ?_
        refine QW.blk_x ?_
        refine QW.then_n ?_
        refine CW.sub [(1, .int .u32 a1), (4, .int .i64 a4), (5, .pointer (some ⟨B_1, 0, none⟩)), (10, .bool false), (12, .slice A_23 n_26 c_24)] ⟨rfl, rfl, rfl, rfl, rfl, trivial⟩ ?_
        refine CW.seq ?_
        refine CW.region ?_
        refine WL.val Wanted.none (Runs.load_arr arr23 rfl (st_29.blk (i := 1) rfl) hl0) ?_
        refine WL.val Wanted.none (Runs.move rfl) ?_
        refine WL.val Wanted.none (Runs.move rfl) ?_
        refine WL.val Wanted.none (Runs.move rfl) ?_
        obtain ⟨r_52, r_53, r_59, hr_48, H⟩ := H
        refine WL.call Wanted.none ent12 rfl (seal_Open.calls w_28 l0 a1 l_25 a4 A_23 n_26 c_24 (hG0.ext st_29) hl0 (st_29.src_sl (k := 0) rfl) (hn_27) (st_29.cap (i := 0) rfl) r_52 r_53 r_59 hr_48) ?_
        rintro _ w_49 ⟨A_54, c_55, n_56, hn_57, rfl, sc_51⟩
        have st_50 : St w w_49 [.sl A_54 c_55 n_56 (iv .u8 r_53) 5 1, .sl A_23 c_24 n_26 (iv .u8 l_25) 5 1, .cells B_1 (iv .u8 l0) 23] := st_29.call sc_51
        refine ⟨_, rfl, ?_⟩
        refine WL.val Wanted.none (Runs.move rfl) ?_
        refine WL.val Wanted.none (Runs.extract rfl rfl) ?_
        refine WL.val Wanted.none (Runs.extract rfl rfl) ?_
        refine WL.val Wanted.none (Runs.extract rfl rfl) ?_
        refine WL.val Wanted.none (Runs.assign rfl) ?_
        refine WL.val Wanted.none (Runs.assign rfl) ?_
        refine WL.val Wanted.none (Runs.assign rfl) ?_
        refine WL.nil ?_
        refine QW.then_n ?_
        refine CW.sub [(1, .int .u32 a1), (4, .int .i64 a4), (5, .pointer (some ⟨B_1, 0, none⟩)), (10, .bool false), (12, .slice A_23 n_26 c_24), (13, .int .u64 r_52), (14, .slice A_54 n_56 c_55), (15, .int .i64 r_59)] ⟨rfl, rfl, rfl, rfl, rfl, rfl, rfl, rfl, trivial⟩ ?_
        refine CW.seq ?_
        refine CW.region ?_
        refine WL.val Wanted.none (Runs.load_arr arr23 rfl (st_50.blk (i := 2) rfl) hl0) ?_
        refine WL.val Wanted.none (Runs.move rfl) ?_
        refine WL.val Wanted.none (Runs.move rfl) ?_
        refine WL.val Wanted.none (Runs.bytes_str Tryd.underlying26 Tryd.underlying5 Tryd.underlying9 rfl (st_50.src_sl (k := 1) rfl) hn_27) ?_
        refine WL.val Wanted.none (Runs.move rfl) ?_
        obtain ⟨r_64, r_65, r_66, hr_60, H⟩ := H
        refine WL.call Wanted.none ent13 rfl (reliquaryref08_Open.calls w_49 l0 a1 (strOfNums l_25) a4 hl0 r_64 r_65 r_66 hr_60) ?_
        rintro _ w_61 ⟨rfl, sc_63⟩
        have st_62 : St w w_61 [.sl A_54 c_55 n_56 (iv .u8 r_53) 5 1, .sl A_23 c_24 n_26 (iv .u8 l_25) 5 1, .cells B_1 (iv .u8 l0) 23] := st_50.call sc_63
        refine ⟨_, rfl, ?_⟩
        refine WL.val Wanted.none (Runs.move rfl) ?_
        refine WL.val Wanted.none (Runs.extract rfl rfl) ?_
        refine WL.val Wanted.none (Runs.extract rfl rfl) ?_
        refine WL.val Wanted.none (Runs.extract rfl rfl) ?_
        refine WL.val Wanted.none (Runs.assign rfl) ?_
        refine WL.val Wanted.none (Runs.assign rfl) ?_
        refine WL.val Wanted.none (Runs.assign rfl) ?_
        refine WL.nil ?_
        refine QW.then_n ?_
        refine CW.sub [(1, .int .u32 a1), (5, .pointer (some ⟨B_1, 0, none⟩)), (10, .bool false), (12, .slice A_23 n_26 c_24), (13, .int .u64 r_52), (14, .slice A_54 n_56 c_55), (15, .int .i64 r_59), (16, .int .u64 r_64), (17, .string r_65), (18, .int .i64 r_66)] ⟨rfl, rfl, rfl, rfl, rfl, rfl, rfl, rfl, rfl, rfl, trivial⟩ ?_
        refine CW.seq ?_
        refine CW.seq ?_
        refine CW.region ?_
        refine WL.val Wanted.none (Runs.move rfl) ?_
        refine WL.val Wanted.none (Runs.move rfl) ?_
        refine WL.val Wanted.none (Runs.neq rfl rfl rfl) ?_
        refine WL.val Wanted.none (Runs.move rfl) ?_
        obtain ⟨c_67, H⟩ := H
        have h_68 : (r_52 != r_64) = false := (bne_eq_false_iff_eq.mpr (Decidable.not_not.mp c_67))
        refine WL.on ?_ ?_; exact Wanted.guard (dj := 65) (by rfl) (evb (by rfl) h_68) (by rfl)
        refine WL.val Wanted.none (Runs.move rfl) ?_
        refine WL.on ?_ ?_; exact Wanted.guard (dj := 65) (by rfl) (evb (by rfl) h_68) (by rfl)
        refine WL.val Wanted.none (Runs.bytes_str Tryd.underlying26 Tryd.underlying5 Tryd.underlying9 rfl (st_62.src_sl (k := 0) rfl) hn_57) ?_
        refine WL.on ?_ ?_; exact Wanted.guard (dj := 65) (by rfl) (evb (by rfl) h_68) (by rfl)
        refine WL.val Wanted.none (Runs.move rfl) ?_
        refine WL.on ?_ ?_; exact Wanted.guard (dj := 65) (by rfl) (evb (by rfl) h_68) (by rfl)
        refine WL.val Wanted.none (Runs.nes rfl rfl rfl) ?_
        refine WL.val Wanted.none (Runs.pick_f (evb rfl h_68) rfl) ?_
        refine WL.val Wanted.none (Runs.move rfl) ?_
        obtain ⟨c_69, H⟩ := H
        have h_70 : (!((strOfNums r_53).toList == r_65.toList)) = false := (not_f (beq_iff_eq.mpr (Decidable.not_not.mp c_69)))
        refine WL.on ?_ ?_; exact Wanted.guard (dj := 71) (by rfl) (evb (by rfl) h_70) (by rfl)
        refine WL.val Wanted.none (Runs.move rfl) ?_
        refine WL.on ?_ ?_; exact Wanted.guard (dj := 71) (by rfl) (evb (by rfl) h_70) (by rfl)
        refine WL.val Wanted.none (Runs.move rfl) ?_
        refine WL.on ?_ ?_; exact Wanted.guard (dj := 71) (by rfl) (evb (by rfl) h_70) (by rfl)
        refine WL.val Wanted.none (Runs.neq rfl rfl rfl) ?_
        refine WL.val Wanted.none (Runs.pick_f (evb rfl h_70) rfl) ?_
        refine WL.nil ?_
        refine QW.then_n ?_
        refine CW.sub [(1, .int .u32 a1), (5, .pointer (some ⟨B_1, 0, none⟩)), (10, .bool false), (12, .slice A_23 n_26 c_24), (13, .int .u64 r_52), (14, .slice A_54 n_56 c_55), (15, .int .i64 r_59), (75, .bool (r_59 != r_66))] ⟨rfl, rfl, rfl, rfl, rfl, rfl, rfl, rfl, trivial⟩ ?_
        obtain ⟨c_71, H⟩ := H
        have h_72 : (r_59 != r_66) = false := (bne_eq_false_iff_eq.mpr (Decidable.not_not.mp c_71))
        refine CW.cf rfl h_72 ?_
        refine CW.skip ?_
        refine QW.then_n ?_
        refine CW.seq ?_
        refine CW.seq ?_
        refine CW.region ?_
        refine WL.val Wanted.none (Runs.move rfl) ?_
        refine WL.val Wanted.none (Runs.neq rfl rfl rfl) ?_
        refine WL.nil ?_
        refine QW.then_n ?_
        rcases H with ⟨c_73, H⟩ | ⟨c_73, H⟩
        · have h_74 : (r_59 != 0) = true := (bne_iff_ne.mpr c_73)
          refine CW.ct rfl h_74 ?_
          refine CW.seq ?_
          refine CW.region ?_
          refine WL.val Wanted.none (Runs.assign rfl) ?_
          refine WL.nil ?_
          refine QW.then_n ?_
          refine CW.ret ?_
          refine QW.then_r ?_
          exact QW.ret1 rfl rfl ⟨rfl, st_62.ext⟩
        · have h_74 : (r_59 != 0) = false := (bne_eq_false_iff_eq.mpr (Decidable.not_not.mp c_73))
          refine CW.cf rfl h_74 ?_
          refine CW.skip ?_
          refine QW.then_n ?_
          refine CW.seq ?_
          refine CW.region ?_
          refine WL.val Wanted.none (Runs.load_arr arr23 rfl (st_62.blk (i := 2) rfl) hl0) ?_
          refine WL.val Wanted.none (Runs.move rfl) ?_
          refine WL.val Wanted.none (Runs.move rfl) ?_
          refine WL.val Wanted.none (Runs.move rfl) ?_
          obtain ⟨r_79, r_85, hr_75, H⟩ := H
          refine WL.call Wanted.none ent10 rfl (seal_Seal.calls w_61 l0 a1 r_52 r_53 A_54 n_56 c_55 (hG0.ext st_62) hl0 (st_62.src_sl (k := 0) rfl) (hn_57) (st_62.cap (i := 0) rfl) r_79 r_85 hr_75) ?_
          rintro _ w_76 ⟨A_80, c_81, n_82, hn_83, rfl, sc_78⟩
          have st_77 : St w w_76 [.sl A_80 c_81 n_82 (iv .u8 r_79) 5 1, .sl A_54 c_55 n_56 (iv .u8 r_53) 5 1, .sl A_23 c_24 n_26 (iv .u8 l_25) 5 1, .cells B_1 (iv .u8 l0) 23] := st_62.call sc_78
          refine ⟨_, rfl, ?_⟩
          refine WL.val Wanted.none (Runs.move rfl) ?_
          refine WL.val Wanted.none (Runs.extract rfl rfl) ?_
          refine WL.val Wanted.none (Runs.extract rfl rfl) ?_
          refine WL.val Wanted.none (Runs.assign rfl) ?_
          refine WL.val Wanted.none (Runs.assign rfl) ?_
          refine WL.nil ?_
          refine QW.then_n ?_
          refine CW.sub [(10, .bool false), (12, .slice A_23 n_26 c_24), (19, .slice A_80 n_82 c_81), (20, .int .i64 r_85)] ⟨rfl, rfl, rfl, rfl, trivial⟩ ?_
          refine CW.seq ?_
          refine CW.region ?_
          refine WL.val Wanted.none (Runs.move rfl) ?_
          refine WL.val Wanted.none (Runs.eql rfl rfl rfl) ?_
          refine WL.val Wanted.none (Runs.move rfl) ?_
          obtain ⟨c_86, H⟩ := H
          have h_87 : (r_85 == 0) = true := (beq_iff_eq.mpr c_86)
          refine WL.on ?_ ?_; exact Wanted.guard (dj := 88) (by rfl) (evb (by rfl) h_87) (by rfl)
          refine WL.val Wanted.none (Runs.move rfl) ?_
          refine WL.on ?_ ?_; exact Wanted.guard (dj := 88) (by rfl) (evb (by rfl) h_87) (by rfl)
          refine WL.val Wanted.none (Runs.bytes_str Tryd.underlying26 Tryd.underlying5 Tryd.underlying9 rfl (st_77.src_sl (k := 0) rfl) hn_83) ?_
          refine WL.on ?_ ?_; exact Wanted.guard (dj := 88) (by rfl) (evb (by rfl) h_87) (by rfl)
          refine WL.val Wanted.none (Runs.move rfl) ?_
          refine WL.on ?_ ?_; exact Wanted.guard (dj := 88) (by rfl) (evb (by rfl) h_87) (by rfl)
          refine WL.val Wanted.none (Runs.bytes_str Tryd.underlying26 Tryd.underlying5 Tryd.underlying9 rfl (st_77.src_sl (k := 2) rfl) hn_27) ?_
          refine WL.on ?_ ?_; exact Wanted.guard (dj := 88) (by rfl) (evb (by rfl) h_87) (by rfl)
          refine WL.val Wanted.none (Runs.eqs rfl rfl rfl) ?_
          refine WL.val Wanted.none (Runs.pick_t (evb rfl h_87) rfl) ?_
          refine WL.val Wanted.none (Runs.assign rfl) ?_
          refine WL.nil ?_
          refine QW.then_n ?_
          refine CW.sub [(10, .bool ((strOfNums r_79).toList == (strOfNums l_25).toList))] ⟨rfl, trivial⟩ ?_
          refine CW.ret ?_
          have hz : ((strOfNums r_79).toList == (strOfNums l_25).toList) = true := (beq_iff_eq.mpr H)
          exact QW.ret1 rfl (evb rfl hz) ⟨rfl, st_77.ext⟩
    · have h_32 : (decide ((l_25.length : Int) < 192)) = false := (decide_eq_false c_31)
      refine WL.off ?_ ?_; exact Wanted.guard (dj := 33) (by rfl) (evb (by rfl) h_32) (by rfl)
      refine WL.off ?_ ?_; exact Wanted.guard (dj := 33) (by rfl) (evb (by rfl) h_32) (by rfl)
      refine WL.off ?_ ?_; exact Wanted.guard (dj := 33) (by rfl) (evb (by rfl) h_32) (by rfl)
      refine WL.off ?_ ?_; exact Wanted.guard (dj := 33) (by rfl) (evb (by rfl) h_32) (by rfl)
      refine WL.val Wanted.none (Runs.pick_f (evb rfl h_32) rfl) ?_
      refine WL.nil ?_
      refine QW.then_n ?_
      refine CW.cf rfl rfl ?_
      refine CW.exit ?_
      refine QW.then_x ?_
      refine QW.then_x ?_
      refine QW.blk_x ?_
      refine QW.then_n ?_
      refine CW.sub [(1, .int .u32 a1), (4, .int .i64 a4), (5, .pointer (some ⟨B_1, 0, none⟩)), (10, .bool false), (12, .slice A_23 n_26 c_24)] ⟨rfl, rfl, rfl, rfl, rfl, trivial⟩ ?_
      refine CW.seq ?_
      refine CW.region ?_
      refine WL.val Wanted.none (Runs.load_arr arr23 rfl (st_29.blk (i := 1) rfl) hl0) ?_
      refine WL.val Wanted.none (Runs.move rfl) ?_
      refine WL.val Wanted.none (Runs.move rfl) ?_
      refine WL.val Wanted.none (Runs.move rfl) ?_
      obtain ⟨r_92, r_93, r_99, hr_88, H⟩ := H
      refine WL.call Wanted.none ent12 rfl (seal_Open.calls w_28 l0 a1 l_25 a4 A_23 n_26 c_24 (hG0.ext st_29) hl0 (st_29.src_sl (k := 0) rfl) (hn_27) (st_29.cap (i := 0) rfl) r_92 r_93 r_99 hr_88) ?_
      rintro _ w_89 ⟨A_94, c_95, n_96, hn_97, rfl, sc_91⟩
      have st_90 : St w w_89 [.sl A_94 c_95 n_96 (iv .u8 r_93) 5 1, .sl A_23 c_24 n_26 (iv .u8 l_25) 5 1, .cells B_1 (iv .u8 l0) 23] := st_29.call sc_91
      refine ⟨_, rfl, ?_⟩
      refine WL.val Wanted.none (Runs.move rfl) ?_
      refine WL.val Wanted.none (Runs.extract rfl rfl) ?_
      refine WL.val Wanted.none (Runs.extract rfl rfl) ?_
      refine WL.val Wanted.none (Runs.extract rfl rfl) ?_
      refine WL.val Wanted.none (Runs.assign rfl) ?_
      refine WL.val Wanted.none (Runs.assign rfl) ?_
      refine WL.val Wanted.none (Runs.assign rfl) ?_
      refine WL.nil ?_
      refine QW.then_n ?_
      refine CW.sub [(1, .int .u32 a1), (4, .int .i64 a4), (5, .pointer (some ⟨B_1, 0, none⟩)), (10, .bool false), (12, .slice A_23 n_26 c_24), (13, .int .u64 r_92), (14, .slice A_94 n_96 c_95), (15, .int .i64 r_99)] ⟨rfl, rfl, rfl, rfl, rfl, rfl, rfl, rfl, trivial⟩ ?_
      refine CW.seq ?_
      refine CW.region ?_
      refine WL.val Wanted.none (Runs.load_arr arr23 rfl (st_90.blk (i := 2) rfl) hl0) ?_
      refine WL.val Wanted.none (Runs.move rfl) ?_
      refine WL.val Wanted.none (Runs.move rfl) ?_
      refine WL.val Wanted.none (Runs.bytes_str Tryd.underlying26 Tryd.underlying5 Tryd.underlying9 rfl (st_90.src_sl (k := 1) rfl) hn_27) ?_
      refine WL.val Wanted.none (Runs.move rfl) ?_
      obtain ⟨r_104, r_105, r_106, hr_100, H⟩ := H
      refine WL.call Wanted.none ent13 rfl (reliquaryref08_Open.calls w_89 l0 a1 (strOfNums l_25) a4 hl0 r_104 r_105 r_106 hr_100) ?_
      rintro _ w_101 ⟨rfl, sc_103⟩
      have st_102 : St w w_101 [.sl A_94 c_95 n_96 (iv .u8 r_93) 5 1, .sl A_23 c_24 n_26 (iv .u8 l_25) 5 1, .cells B_1 (iv .u8 l0) 23] := st_90.call sc_103
      refine ⟨_, rfl, ?_⟩
      refine WL.val Wanted.none (Runs.move rfl) ?_
      refine WL.val Wanted.none (Runs.extract rfl rfl) ?_
      refine WL.val Wanted.none (Runs.extract rfl rfl) ?_
      refine WL.val Wanted.none (Runs.extract rfl rfl) ?_
      refine WL.val Wanted.none (Runs.assign rfl) ?_
      refine WL.val Wanted.none (Runs.assign rfl) ?_
      refine WL.val Wanted.none (Runs.assign rfl) ?_
      refine WL.nil ?_
      refine QW.then_n ?_
      refine CW.sub [(1, .int .u32 a1), (5, .pointer (some ⟨B_1, 0, none⟩)), (10, .bool false), (12, .slice A_23 n_26 c_24), (13, .int .u64 r_92), (14, .slice A_94 n_96 c_95), (15, .int .i64 r_99), (16, .int .u64 r_104), (17, .string r_105), (18, .int .i64 r_106)] ⟨rfl, rfl, rfl, rfl, rfl, rfl, rfl, rfl, rfl, rfl, trivial⟩ ?_
      refine CW.seq ?_
      refine CW.seq ?_
      refine CW.region ?_
      refine WL.val Wanted.none (Runs.move rfl) ?_
      refine WL.val Wanted.none (Runs.move rfl) ?_
      refine WL.val Wanted.none (Runs.neq rfl rfl rfl) ?_
      refine WL.val Wanted.none (Runs.move rfl) ?_
      obtain ⟨c_107, H⟩ := H
      have h_108 : (r_92 != r_104) = false := (bne_eq_false_iff_eq.mpr (Decidable.not_not.mp c_107))
      refine WL.on ?_ ?_; exact Wanted.guard (dj := 65) (by rfl) (evb (by rfl) h_108) (by rfl)
      refine WL.val Wanted.none (Runs.move rfl) ?_
      refine WL.on ?_ ?_; exact Wanted.guard (dj := 65) (by rfl) (evb (by rfl) h_108) (by rfl)
      refine WL.val Wanted.none (Runs.bytes_str Tryd.underlying26 Tryd.underlying5 Tryd.underlying9 rfl (st_102.src_sl (k := 0) rfl) hn_97) ?_
      refine WL.on ?_ ?_; exact Wanted.guard (dj := 65) (by rfl) (evb (by rfl) h_108) (by rfl)
      refine WL.val Wanted.none (Runs.move rfl) ?_
      refine WL.on ?_ ?_; exact Wanted.guard (dj := 65) (by rfl) (evb (by rfl) h_108) (by rfl)
      refine WL.val Wanted.none (Runs.nes rfl rfl rfl) ?_
      refine WL.val Wanted.none (Runs.pick_f (evb rfl h_108) rfl) ?_
      refine WL.val Wanted.none (Runs.move rfl) ?_
      obtain ⟨c_109, H⟩ := H
      have h_110 : (!((strOfNums r_93).toList == r_105.toList)) = false := (not_f (beq_iff_eq.mpr (Decidable.not_not.mp c_109)))
      refine WL.on ?_ ?_; exact Wanted.guard (dj := 71) (by rfl) (evb (by rfl) h_110) (by rfl)
      refine WL.val Wanted.none (Runs.move rfl) ?_
      refine WL.on ?_ ?_; exact Wanted.guard (dj := 71) (by rfl) (evb (by rfl) h_110) (by rfl)
      refine WL.val Wanted.none (Runs.move rfl) ?_
      refine WL.on ?_ ?_; exact Wanted.guard (dj := 71) (by rfl) (evb (by rfl) h_110) (by rfl)
      refine WL.val Wanted.none (Runs.neq rfl rfl rfl) ?_
      refine WL.val Wanted.none (Runs.pick_f (evb rfl h_110) rfl) ?_
      refine WL.nil ?_
      refine QW.then_n ?_
      refine CW.sub [(1, .int .u32 a1), (5, .pointer (some ⟨B_1, 0, none⟩)), (10, .bool false), (12, .slice A_23 n_26 c_24), (13, .int .u64 r_92), (14, .slice A_94 n_96 c_95), (15, .int .i64 r_99), (75, .bool (r_99 != r_106))] ⟨rfl, rfl, rfl, rfl, rfl, rfl, rfl, rfl, trivial⟩ ?_
      obtain ⟨c_111, H⟩ := H
      have h_112 : (r_99 != r_106) = false := (bne_eq_false_iff_eq.mpr (Decidable.not_not.mp c_111))
      refine CW.cf rfl h_112 ?_
      refine CW.skip ?_
      refine QW.then_n ?_
      refine CW.seq ?_
      refine CW.seq ?_
      refine CW.region ?_
      refine WL.val Wanted.none (Runs.move rfl) ?_
      refine WL.val Wanted.none (Runs.neq rfl rfl rfl) ?_
      refine WL.nil ?_
      refine QW.then_n ?_
      rcases H with ⟨c_113, H⟩ | ⟨c_113, H⟩
      · have h_114 : (r_99 != 0) = true := (bne_iff_ne.mpr c_113)
        refine CW.ct rfl h_114 ?_
        refine CW.seq ?_
        refine CW.region ?_
        refine WL.val Wanted.none (Runs.assign rfl) ?_
        refine WL.nil ?_
        refine QW.then_n ?_
        refine CW.ret ?_
        refine QW.then_r ?_
        exact QW.ret1 rfl rfl ⟨rfl, st_102.ext⟩
      · have h_114 : (r_99 != 0) = false := (bne_eq_false_iff_eq.mpr (Decidable.not_not.mp c_113))
        refine CW.cf rfl h_114 ?_
        refine CW.skip ?_
        refine QW.then_n ?_
        refine CW.seq ?_
        refine CW.region ?_
        refine WL.val Wanted.none (Runs.load_arr arr23 rfl (st_102.blk (i := 2) rfl) hl0) ?_
        refine WL.val Wanted.none (Runs.move rfl) ?_
        refine WL.val Wanted.none (Runs.move rfl) ?_
        refine WL.val Wanted.none (Runs.move rfl) ?_
        obtain ⟨r_119, r_125, hr_115, H⟩ := H
        refine WL.call Wanted.none ent10 rfl (seal_Seal.calls w_101 l0 a1 r_92 r_93 A_94 n_96 c_95 (hG0.ext st_102) hl0 (st_102.src_sl (k := 0) rfl) (hn_97) (st_102.cap (i := 0) rfl) r_119 r_125 hr_115) ?_
        rintro _ w_116 ⟨A_120, c_121, n_122, hn_123, rfl, sc_118⟩
        have st_117 : St w w_116 [.sl A_120 c_121 n_122 (iv .u8 r_119) 5 1, .sl A_94 c_95 n_96 (iv .u8 r_93) 5 1, .sl A_23 c_24 n_26 (iv .u8 l_25) 5 1, .cells B_1 (iv .u8 l0) 23] := st_102.call sc_118
        refine ⟨_, rfl, ?_⟩
        refine WL.val Wanted.none (Runs.move rfl) ?_
        refine WL.val Wanted.none (Runs.extract rfl rfl) ?_
        refine WL.val Wanted.none (Runs.extract rfl rfl) ?_
        refine WL.val Wanted.none (Runs.assign rfl) ?_
        refine WL.val Wanted.none (Runs.assign rfl) ?_
        refine WL.nil ?_
        refine QW.then_n ?_
        refine CW.sub [(10, .bool false), (12, .slice A_23 n_26 c_24), (19, .slice A_120 n_122 c_121), (20, .int .i64 r_125)] ⟨rfl, rfl, rfl, rfl, trivial⟩ ?_
        refine CW.seq ?_
        refine CW.region ?_
        refine WL.val Wanted.none (Runs.move rfl) ?_
        refine WL.val Wanted.none (Runs.eql rfl rfl rfl) ?_
        refine WL.val Wanted.none (Runs.move rfl) ?_
        obtain ⟨c_126, H⟩ := H
        have h_127 : (r_125 == 0) = true := (beq_iff_eq.mpr c_126)
        refine WL.on ?_ ?_; exact Wanted.guard (dj := 88) (by rfl) (evb (by rfl) h_127) (by rfl)
        refine WL.val Wanted.none (Runs.move rfl) ?_
        refine WL.on ?_ ?_; exact Wanted.guard (dj := 88) (by rfl) (evb (by rfl) h_127) (by rfl)
        refine WL.val Wanted.none (Runs.bytes_str Tryd.underlying26 Tryd.underlying5 Tryd.underlying9 rfl (st_117.src_sl (k := 0) rfl) hn_123) ?_
        refine WL.on ?_ ?_; exact Wanted.guard (dj := 88) (by rfl) (evb (by rfl) h_127) (by rfl)
        refine WL.val Wanted.none (Runs.move rfl) ?_
        refine WL.on ?_ ?_; exact Wanted.guard (dj := 88) (by rfl) (evb (by rfl) h_127) (by rfl)
        refine WL.val Wanted.none (Runs.bytes_str Tryd.underlying26 Tryd.underlying5 Tryd.underlying9 rfl (st_117.src_sl (k := 2) rfl) hn_27) ?_
        refine WL.on ?_ ?_; exact Wanted.guard (dj := 88) (by rfl) (evb (by rfl) h_127) (by rfl)
        refine WL.val Wanted.none (Runs.eqs rfl rfl rfl) ?_
        refine WL.val Wanted.none (Runs.pick_t (evb rfl h_127) rfl) ?_
        refine WL.val Wanted.none (Runs.assign rfl) ?_
        refine WL.nil ?_
        refine QW.then_n ?_
        refine CW.sub [(10, .bool ((strOfNums r_119).toList == (strOfNums l_25).toList))] ⟨rfl, trivial⟩ ?_
        refine CW.ret ?_
        have hz : ((strOfNums r_119).toList == (strOfNums l_25).toList) = true := (beq_iff_eq.mpr H)
        exact QW.ret1 rfl (evb rfl hz) ⟨rfl, st_117.ext⟩

/-! ### reliquarylaw08_SealKinds: function 5 -/
def reliquarylaw08_SealKinds.rel (l0 : List Int) (a1 : Int) (a2 : Int)  : Prop := (reliquarylaw08_awake.rel  ∧ ((0 ≤ (IntKind.i64.wrap (Int.tmod a1 400)) ∧ (IntKind.i64.wrap (Int.tmod a1 400)) ≤ 1099511627776) ∧ (∃ (r_24 : List Int) (r_30 : Int), seal_Seal.rel l0 0 a2 (List.replicate (IntKind.i64.wrap (Int.tmod a1 400)).toNat (0 : Int)) r_24 r_30 ∧ (∃ (r_42 : Int) (r_43 : List Int) (r_49 : Int), seal_Open.rel l0 0 (List.replicate 192 (0 : Int)) (IntKind.i64.wrap (Int.tmod a1 400)) r_42 r_43 r_49 ∧ (((IntKind.i64.wrap (Int.tmod a1 400)) = 160 ∧ ((a2 = 0 ∧ (r_30 = 1 ∧ ((r_24.length : Int) = 0 ∧ (r_49 = 11 ∧ True)))) ∨ (¬ (a2 = 0) ∧ ((a2 == 18446744073709551615) = (r_30 == 15) ∧ ((r_30 == 0) = (decide (a2 < 18446744073709551615)) ∧ r_49 = 11))))) ∨ (¬ ((IntKind.i64.wrap (Int.tmod a1 400)) = 160) ∧ ((¬ ((IntKind.i64.wrap (Int.tmod a1 400)) = 176) ∧ (r_30 = 1 ∧ ((r_24.length : Int) = 0 ∧ (((IntKind.i64.wrap (Int.tmod a1 400)) = 176 ∧ (r_49 = 11 ∧ True)) ∨ (¬ ((IntKind.i64.wrap (Int.tmod a1 400)) = 176) ∧ r_49 = 1))))) ∨ (¬ (¬ ((IntKind.i64.wrap (Int.tmod a1 400)) = 176)) ∧ ((a2 = 0 ∧ (r_30 = 1 ∧ ((r_24.length : Int) = 0 ∧ (((IntKind.i64.wrap (Int.tmod a1 400)) = 176 ∧ (r_49 = 11 ∧ True)) ∨ (¬ ((IntKind.i64.wrap (Int.tmod a1 400)) = 176) ∧ r_49 = 1))))) ∨ (¬ (a2 = 0) ∧ ((a2 == 18446744073709551615) = (r_30 == 15) ∧ ((r_30 == 0) = (decide (a2 < 18446744073709551615)) ∧ r_49 = 11))))))))))))
set_option maxHeartbeats 4000000 in
set_option maxRecDepth 100000 in
theorem reliquarylaw08_SealKinds.calls (w : World) (l0 : List Int) (a1 : Int) (a2 : Int)   (hG0 : Src w (some ⟨0, 0, none⟩) (iv .i64 tab0)) (hl0 : l0.length = 32)  (H : reliquarylaw08_SealKinds.rel l0 a1 a2 ) :
    Calls Tryd.prog 5 #[.agg (iv .u8 l0).toArray, .int .u16 a1, .int .u64 a2] w fun e w' => e = .returned (.bool true) ∧ Below w.heap.size w w' := by
  refine CW.enter Tryd.func5 rfl (n := 87) rfl [.agg (iv .u8 l0).toArray, .int .u16 a1, .int .u64 a2] (Nat.le_of_ble_eq_true rfl) ?_
  refine CW.sub [(0, .agg (iv .u8 l0).toArray), (1, .int .u16 a1), (2, .int .u64 a2)] ⟨rfl, rfl, rfl, trivial⟩ ?_
  have st0 : St w w [] := St.refl w
  refine CW.seq ?_
  refine CW.region ?_
  refine WL.box st0 rfl rfl ?_
  intro B_1 w_2 st_3
  replace st_3 : St w w_2 [.cells B_1 (iv .u8 l0) 23] := st_3
  refine WL.val Wanted.none (Runs.assign rfl) ?_
  refine WL.nil ?_
  refine QW.then_n ?_
  refine CW.seq ?_
  refine CW.region ?_
  obtain ⟨hr_5, H⟩ := H
  refine WL.call Wanted.none ent8 rfl (reliquarylaw08_awake.calls w_2 (hG0.ext st_3) hr_5) ?_
  rintro _ w_6 ⟨rfl, sc_8⟩
  have st_7 : St w w_6 [.cells B_1 (iv .u8 l0) 23] := st_3.below sc_8
  refine ⟨_, rfl, ?_⟩
  refine WL.val Wanted.none (Runs.assign rfl) ?_
  refine WL.nil ?_
  refine QW.then_n ?_
  refine CW.seq ?_
  refine CW.seq ?_
  refine CW.region ?_
  refine WL.val Wanted.none (Runs.move rfl) ?_
  refine WL.val Wanted.none (Runs.not rfl rfl) ?_
  refine WL.nil ?_
  refine QW.then_n ?_
  refine CW.cf rfl rfl ?_
  refine CW.skip ?_
  refine QW.then_n ?_
  refine CW.seq ?_
  refine CW.region ?_
  refine WL.val Wanted.none (Runs.move rfl) ?_
  refine WL.val Wanted.none (Runs.rem rfl rfl (by decide) rfl) ?_
  refine WL.val Wanted.none (Runs.conv Tryd.underlying3 ⟨_, Tryd.underlying40⟩ rfl rfl) ?_
  refine WL.val Wanted.none (Runs.assign rfl) ?_
  refine WL.nil ?_
  refine QW.then_n ?_
  refine CW.sub [(2, .int .u64 a2), (3, .pointer (some ⟨B_1, 0, none⟩)), (6, .bool false), (8, .int .i64 (IntKind.i64.wrap (Int.tmod a1 400)))] ⟨rfl, rfl, rfl, rfl, trivial⟩ ?_
  refine CW.seq ?_
  refine CW.region_aw wide st_7 (fun w_9 st_10 => ?_)
  refine AW.take 1 rfl (by kernel_rfl) (by kernel_rfl) (by kernel_rfl) Wanted.none (fun _ => (Runs.move rfl)) ?_
  refine AW.take 2 rfl (by kernel_rfl) (by kernel_rfl) (by kernel_rfl) Wanted.none (fun _ => (Runs.move rfl)) ?_
  refine AW.step2 0 3 rfl rfl (by kernel_rfl) ?_ ?_
  · refine WL.val Wanted.none (Runs.load_arr arr23 rfl (st_10.blk (i := 0) rfl) hl0) ?_
    refine WL.nil ?_
    refine AW.back ?_
    refine AW.step 3 rfl (by kernel_rfl) ?_
    obtain ⟨⟨p_11, q_12⟩, H⟩ := H
    obtain ⟨n_13, e_14⟩ : ∃ n_ : Nat, n_ = (IntKind.i64.wrap (Int.tmod a1 400)).toNat := ⟨_, rfl⟩
    refine WL.make st_10 Tryd.underlying26 elem5 rfl rfl p_11 q_12 (by decide) (N := n_13) e_14 ?_
    intro B_15 w_16 st_17
    replace st_17 : St w w_16 [.sl (some ⟨B_15, 0, none⟩) n_13 n_13 (iv .u8 (List.replicate (IntKind.i64.wrap (Int.tmod a1 400)).toNat (0 : Int))) 5 1, .cells B_1 (iv .u8 l0) 23] := by rw [← e_14]; rw [iv_replicate] at st_17; exact st_17
    have hn_18 : n_13 = (List.replicate (IntKind.i64.wrap (Int.tmod a1 400)).toNat (0 : Int)).length := by rw [List.length_replicate]; exact e_14
    refine WL.nil ?_
    refine AW.back ?_
    refine AW.step 4 rfl (by kernel_rfl) ?_
    obtain ⟨r_24, r_30, hr_20, H⟩ := H
    refine WL.call Wanted.none ent10 rfl (seal_Seal.calls w_16 l0 0 a2 (List.replicate (IntKind.i64.wrap (Int.tmod a1 400)).toNat (0 : Int)) (some ⟨B_15, 0, none⟩) n_13 n_13 (hG0.ext st_17) hl0 (st_17.src_sl (k := 0) rfl) (hn_18) (st_17.cap (i := 0) rfl) r_24 r_30 hr_20) ?_
    rintro _ w_21 ⟨A_25, c_26, n_27, hn_28, rfl, sc_23⟩
    have st_22 : St w w_21 [.sl A_25 c_26 n_27 (iv .u8 r_24) 5 1, .sl (some ⟨B_15, 0, none⟩) n_13 n_13 (iv .u8 (List.replicate (IntKind.i64.wrap (Int.tmod a1 400)).toNat (0 : Int))) 5 1, .cells B_1 (iv .u8 l0) 23] := st_17.call sc_23
    refine ⟨_, rfl, ?_⟩
    refine WL.nil ?_
    refine AW.back ?_
    refine AW.take 5 rfl (by kernel_rfl) (by kernel_rfl) (by kernel_rfl) Wanted.none (fun _ => (Runs.move rfl)) ?_
    refine AW.take 6 rfl (by kernel_rfl) (by kernel_rfl) (by kernel_rfl) Wanted.none (fun _ => (Runs.extract rfl rfl)) ?_
    refine AW.take 7 rfl (by kernel_rfl) (by kernel_rfl) (by kernel_rfl) Wanted.none (fun _ => (Runs.extract rfl rfl)) ?_
    refine AW.take 8 rfl (by kernel_rfl) (by kernel_rfl) (by kernel_rfl) Wanted.none (fun _ => (Runs.assign rfl)) ?_
    refine AW.take 9 rfl (by kernel_rfl) (by kernel_rfl) (by kernel_rfl) Wanted.none (fun _ => (Runs.assign rfl)) ?_
    refine AW.done (by kernel_rfl) ?_
    refine QW.then_n ?_
    refine CW.sub [(2, .int .u64 a2), (3, .pointer (some ⟨B_1, 0, none⟩)), (6, .bool false), (8, .int .i64 (IntKind.i64.wrap (Int.tmod a1 400))), (9, .slice A_25 n_27 c_26), (10, .int .i64 r_30)] ⟨rfl, rfl, rfl, rfl, rfl, rfl, trivial⟩ ?_
    refine CW.seq ?_
    refine CW.region_aw wide st_22 (fun w_31 st_32 => ?_)
    refine AW.take 2 rfl (by kernel_rfl) (by kernel_rfl) (by kernel_rfl) Wanted.none (fun _ => (Runs.move rfl)) ?_
    refine AW.step2 0 1 rfl rfl (by kernel_rfl) ?_ ?_
    · refine WL.val Wanted.none (Runs.load_arr arr23 rfl (st_32.blk (i := 2) rfl) hl0) ?_
      refine WL.nil ?_
      refine AW.back ?_
      refine AW.step 1 rfl (by kernel_rfl) ?_
      refine WL.make st_32 Tryd.underlying26 elem5 rfl rfl (by decide) (by decide) (by decide) (N := 192) rfl ?_
      intro B_33 w_34 st_35
      replace st_35 : St w w_34 [.sl (some ⟨B_33, 0, none⟩) 192 192 (iv .u8 (List.replicate 192 (0 : Int))) 5 1, .sl A_25 c_26 n_27 (iv .u8 r_24) 5 1, .sl (some ⟨B_15, 0, none⟩) n_13 n_13 (iv .u8 (List.replicate (IntKind.i64.wrap (Int.tmod a1 400)).toNat (0 : Int))) 5 1, .cells B_1 (iv .u8 l0) 23] := by rw [iv_replicate] at st_35; exact st_35
      have hn_36 : 192 = (List.replicate 192 (0 : Int)).length := by simp
      refine WL.nil ?_
      refine AW.back ?_
      refine AW.step 3 rfl (by kernel_rfl) ?_
      obtain ⟨r_42, r_43, r_49, hr_38, H⟩ := H
      refine WL.call Wanted.none ent12 rfl (seal_Open.calls w_34 l0 0 (List.replicate 192 (0 : Int)) (IntKind.i64.wrap (Int.tmod a1 400)) (some ⟨B_33, 0, none⟩) 192 192 (hG0.ext st_35) hl0 (st_35.src_sl (k := 0) rfl) (hn_36) (st_35.cap (i := 0) rfl) r_42 r_43 r_49 hr_38) ?_
      rintro _ w_39 ⟨A_44, c_45, n_46, hn_47, rfl, sc_41⟩
      have st_40 : St w w_39 [.sl A_44 c_45 n_46 (iv .u8 r_43) 5 1, .sl (some ⟨B_33, 0, none⟩) 192 192 (iv .u8 (List.replicate 192 (0 : Int))) 5 1, .sl A_25 c_26 n_27 (iv .u8 r_24) 5 1, .sl (some ⟨B_15, 0, none⟩) n_13 n_13 (iv .u8 (List.replicate (IntKind.i64.wrap (Int.tmod a1 400)).toNat (0 : Int))) 5 1, .cells B_1 (iv .u8 l0) 23] := st_35.call sc_41
      refine ⟨_, rfl, ?_⟩
      refine WL.nil ?_
      refine AW.back ?_
      refine AW.take 4 rfl (by kernel_rfl) (by kernel_rfl) (by kernel_rfl) Wanted.none (fun _ => (Runs.move rfl)) ?_
      refine AW.take 5 rfl (by kernel_rfl) (by kernel_rfl) (by kernel_rfl) Wanted.none (fun _ => (Runs.extract rfl rfl)) ?_
      refine AW.take 6 rfl (by kernel_rfl) (by kernel_rfl) (by kernel_rfl) Wanted.none (fun _ => (Runs.extract rfl rfl)) ?_
      refine AW.take 7 rfl (by kernel_rfl) (by kernel_rfl) (by kernel_rfl) Wanted.none (fun _ => (Runs.extract rfl rfl)) ?_
      refine AW.take 8 rfl (by kernel_rfl) (by kernel_rfl) (by kernel_rfl) Wanted.none (fun _ => (Runs.assign rfl)) ?_
      refine AW.take 9 rfl (by kernel_rfl) (by kernel_rfl) (by kernel_rfl) Wanted.none (fun _ => (Runs.assign rfl)) ?_
      refine AW.take 10 rfl (by kernel_rfl) (by kernel_rfl) (by kernel_rfl) Wanted.none (fun _ => (Runs.assign rfl)) ?_
      refine AW.done (by kernel_rfl) ?_
      refine QW.then_n ?_
      refine CW.sub [(2, .int .u64 a2), (6, .bool false), (8, .int .i64 (IntKind.i64.wrap (Int.tmod a1 400))), (9, .slice A_25 n_27 c_26), (10, .int .i64 r_30), (13, .int .i64 r_49)] ⟨rfl, rfl, rfl, rfl, rfl, rfl, trivial⟩ ?_
      refine CW.seq ?_
      refine CW.region ?_
      refine WL.val Wanted.none (Runs.move rfl) ?_
      refine WL.val Wanted.none (Runs.eql rfl rfl rfl) ?_
      refine WL.val Wanted.none (Runs.move rfl) ?_
      rcases H with ⟨c_50, H⟩ | ⟨c_50, H⟩
      · have h_51 : ((IntKind.i64.wrap (Int.tmod a1 400)) == 160) = true := (beq_iff_eq.mpr c_50)
        refine WL.off ?_ ?_; exact Wanted.guard (dj := 39) (by rfl) (evb (by rfl) h_51) (by rfl)
        refine WL.off ?_ ?_; exact Wanted.guard (dj := 39) (by rfl) (evb (by rfl) h_51) (by rfl)
        refine WL.val Wanted.none (Runs.pick_t (evb rfl h_51) rfl) ?_
        refine WL.val Wanted.none (Runs.assign rfl) ?_
        refine WL.nil ?_
        refine QW.then_n ?_
        refine CW.sub [(2, .int .u64 a2), (6, .bool false), (9, .slice A_25 n_27 c_26), (10, .int .i64 r_30), (13, .int .i64 r_49), (14, .bool true)] ⟨rfl, rfl, rfl, rfl, rfl, rfl, trivial⟩ ?_
        refine CW.seq ?_
        refine CW.seq ?_
        refine CW.region ?_
        refine WL.val Wanted.none (Runs.move rfl) ?_
        refine WL.val Wanted.none (Runs.not rfl rfl) ?_
        refine WL.val Wanted.none (Runs.move rfl) ?_
        refine WL.on ?_ ?_; exact Wanted.guard (dj := 45) (by rfl) (by rfl) (by rfl)
        refine WL.val Wanted.none (Runs.move rfl) ?_
        refine WL.on ?_ ?_; exact Wanted.guard (dj := 45) (by rfl) (by rfl) (by rfl)
        refine WL.val Wanted.none (Runs.eql rfl rfl rfl) ?_
        refine WL.val Wanted.none (Runs.pick_f rfl rfl) ?_
        refine WL.nil ?_
        refine QW.then_n ?_
        rcases H with ⟨c_52, H⟩ | ⟨c_52, H⟩
        · have h_53 : (a2 == 0) = true := (beq_iff_eq.mpr c_52)
          refine CW.ct rfl h_53 ?_
          refine CW.seq ?_
          refine CW.region ?_
          refine WL.val Wanted.none (Runs.move rfl) ?_
          refine WL.val Wanted.none (Runs.eql rfl rfl rfl) ?_
          refine WL.val Wanted.none (Runs.move rfl) ?_
          obtain ⟨c_54, H⟩ := H
          have h_55 : (r_30 == 1) = true := (beq_iff_eq.mpr c_54)
          refine WL.on ?_ ?_; exact Wanted.guard (dj := 51) (by rfl) (evb (by rfl) h_55) (by rfl)
          refine WL.val Wanted.none (Runs.move rfl) ?_
          refine WL.on ?_ ?_; exact Wanted.guard (dj := 51) (by rfl) (evb (by rfl) h_55) (by rfl)
          refine WL.val Wanted.none (Runs.len_sl Tryd.underlying26 rfl (by rw [hn_28])) ?_
          refine WL.on ?_ ?_; exact Wanted.guard (dj := 51) (by rfl) (evb (by rfl) h_55) (by rfl)
          refine WL.val Wanted.none (Runs.eql rfl rfl rfl) ?_
          refine WL.val Wanted.none (Runs.pick_t (evb rfl h_55) rfl) ?_
          refine WL.val Wanted.none (Runs.move rfl) ?_
          obtain ⟨c_56, H⟩ := H
          have h_57 : ((r_24.length : Int) == 0) = true := (beq_iff_eq.mpr c_56)
          refine WL.on ?_ ?_; exact Wanted.guard (dj := 56) (by rfl) (evb (by rfl) h_57) (by rfl)
          refine WL.val Wanted.none (Runs.move rfl) ?_
          refine WL.on ?_ ?_; exact Wanted.guard (dj := 56) (by rfl) (evb (by rfl) h_57) (by rfl)
          refine WL.val Wanted.none (Runs.move rfl) ?_
          refine WL.on ?_ ?_; exact Wanted.guard (dj := 58) (by rfl) (by rfl) (by rfl)
          refine WL.val Wanted.none (Runs.move rfl) ?_
          refine WL.on ?_ ?_; exact Wanted.guard (dj := 58) (by rfl) (by rfl) (by rfl)
          refine WL.val Wanted.none (Runs.eql rfl rfl rfl) ?_
          refine WL.on ?_ ?_; exact Wanted.guard (dj := 56) (by rfl) (evb (by rfl) h_57) (by rfl)
          refine WL.val Wanted.none (Runs.pick_t rfl rfl) ?_
          refine WL.on ?_ ?_; exact Wanted.guard (dj := 56) (by rfl) (evb (by rfl) h_57) (by rfl)
          refine WL.val Wanted.none (Runs.move rfl) ?_
          obtain ⟨c_58, H⟩ := H
          have h_59 : (r_49 == 11) = true := (beq_iff_eq.mpr c_58)
          refine WL.off ?_ ?_; exact Wanted.guard (dj := 62) (by rfl) (evb (by rfl) h_59) (by rfl)
          refine WL.off ?_ ?_; exact Wanted.guard (dj := 62) (by rfl) (evb (by rfl) h_59) (by rfl)
          refine WL.off ?_ ?_; exact Wanted.guard (dj := 62) (by rfl) (evb (by rfl) h_59) (by rfl)
          refine WL.off ?_ ?_; exact Wanted.undef (dj := 65) rfl rfl
          refine WL.off ?_ ?_; exact Wanted.undef (dj := 65) rfl rfl
          refine WL.off ?_ ?_; exact Wanted.guard (dj := 62) (by rfl) (evb (by rfl) h_59) (by rfl)
          refine WL.on ?_ ?_; exact Wanted.guard (dj := 56) (by rfl) (evb (by rfl) h_57) (by rfl)
          refine WL.val Wanted.none (Runs.pick_t (evb rfl h_59) rfl) ?_
          refine WL.val Wanted.none (Runs.pick_t (evb rfl h_57) rfl) ?_
          refine WL.val Wanted.none (Runs.assign rfl) ?_
          refine WL.nil ?_
          refine QW.then_n ?_
          refine CW.sub [(2, .int .u64 a2), (6, .bool true), (10, .int .i64 r_30), (13, .int .i64 r_49)] ⟨rfl, rfl, rfl, rfl, trivial⟩ ?_
          refine CW.ret ?_
          refine QW.then_r ?_
          exact QW.ret1 rfl rfl ⟨rfl, st_40.ext⟩
        · have h_53 : (a2 == 0) = false := (beq_eq_false_iff_ne.mpr c_52)
          refine CW.cf rfl h_53 ?_
          refine CW.skip ?_
          refine QW.then_n ?_
          refine CW.sub [(2, .int .u64 a2), (6, .bool false), (10, .int .i64 r_30), (13, .int .i64 r_49)] ⟨rfl, rfl, rfl, rfl, trivial⟩ ?_
          refine CW.seq ?_
          refine CW.region ?_
          refine WL.val Wanted.none (Runs.move rfl) ?_
          refine WL.val Wanted.none (Runs.eql rfl rfl rfl) ?_
          refine WL.val Wanted.none (Runs.move rfl) ?_
          refine WL.val Wanted.none (Runs.eql rfl rfl rfl) ?_
          refine WL.val Wanted.none (Runs.eqb Tryd.underlying4 rfl rfl rfl) ?_
          refine WL.val Wanted.none (Runs.move rfl) ?_
          obtain ⟨c_60, H⟩ := H
          have h_61 : ((a2 == 18446744073709551615) == (r_30 == 15)) = true := (beq_iff_eq.mpr c_60)
          refine WL.on ?_ ?_; exact Wanted.guard (dj := 76) (by rfl) (evb (by rfl) h_61) (by rfl)
          refine WL.val Wanted.none (Runs.move rfl) ?_
          refine WL.on ?_ ?_; exact Wanted.guard (dj := 76) (by rfl) (evb (by rfl) h_61) (by rfl)
          refine WL.val Wanted.none (Runs.eql rfl rfl rfl) ?_
          refine WL.on ?_ ?_; exact Wanted.guard (dj := 76) (by rfl) (evb (by rfl) h_61) (by rfl)
          refine WL.val Wanted.none (Runs.move rfl) ?_
          refine WL.on ?_ ?_; exact Wanted.guard (dj := 76) (by rfl) (evb (by rfl) h_61) (by rfl)
          refine WL.val Wanted.none (Runs.lss rfl rfl rfl) ?_
          refine WL.on ?_ ?_; exact Wanted.guard (dj := 76) (by rfl) (evb (by rfl) h_61) (by rfl)
          refine WL.val Wanted.none (Runs.eqb Tryd.underlying4 rfl rfl rfl) ?_
          refine WL.val Wanted.none (Runs.pick_t (evb rfl h_61) rfl) ?_
          refine WL.val Wanted.none (Runs.move rfl) ?_
          obtain ⟨c_62, H⟩ := H
          have h_63 : ((r_30 == 0) == (decide (a2 < 18446744073709551615))) = true := (beq_iff_eq.mpr c_62)
          refine WL.on ?_ ?_; exact Wanted.guard (dj := 83) (by rfl) (evb (by rfl) h_63) (by rfl)
          refine WL.val Wanted.none (Runs.move rfl) ?_
          refine WL.on ?_ ?_; exact Wanted.guard (dj := 83) (by rfl) (evb (by rfl) h_63) (by rfl)
          refine WL.val Wanted.none (Runs.eql rfl rfl rfl) ?_
          refine WL.val Wanted.none (Runs.pick_t (evb rfl h_63) rfl) ?_
          refine WL.val Wanted.none (Runs.assign rfl) ?_
          refine WL.nil ?_
          refine QW.then_n ?_
          refine CW.sub [(6, .bool (r_49 == 11))] ⟨rfl, trivial⟩ ?_
          refine CW.ret ?_
          have hz : (r_49 == 11) = true := (beq_iff_eq.mpr H)
          exact QW.ret1 rfl (evb rfl hz) ⟨rfl, st_40.ext⟩
      · have h_51 : ((IntKind.i64.wrap (Int.tmod a1 400)) == 160) = false := (beq_eq_false_iff_ne.mpr c_50)
        refine WL.on ?_ ?_; exact Wanted.guard (dj := 39) (by rfl) (evb (by rfl) h_51) (by rfl)
        refine WL.val Wanted.none (Runs.move rfl) ?_
        refine WL.on ?_ ?_; exact Wanted.guard (dj := 39) (by rfl) (evb (by rfl) h_51) (by rfl)
        refine WL.val Wanted.none (Runs.eql rfl rfl rfl) ?_
        refine WL.val Wanted.none (Runs.pick_f (evb rfl h_51) rfl) ?_
        refine WL.val Wanted.none (Runs.assign rfl) ?_
        refine WL.nil ?_
        refine QW.then_n ?_
        refine CW.sub [(2, .int .u64 a2), (6, .bool false), (9, .slice A_25 n_27 c_26), (10, .int .i64 r_30), (13, .int .i64 r_49), (14, .bool ((IntKind.i64.wrap (Int.tmod a1 400)) == 176))] ⟨rfl, rfl, rfl, rfl, rfl, rfl, trivial⟩ ?_
        refine CW.seq ?_
        refine CW.seq ?_
        refine CW.region ?_
        refine WL.val Wanted.none (Runs.move rfl) ?_
        refine WL.val Wanted.none (Runs.not rfl rfl) ?_
        refine WL.val Wanted.none (Runs.move rfl) ?_
        rcases H with ⟨c_64, H⟩ | ⟨c_64, H⟩
        · have h_65 : (!((IntKind.i64.wrap (Int.tmod a1 400)) == 176)) = true := (not_t (beq_eq_false_iff_ne.mpr c_64))
          refine WL.off ?_ ?_; exact Wanted.guard (dj := 45) (by rfl) (evb (by rfl) h_65) (by rfl)
          refine WL.off ?_ ?_; exact Wanted.guard (dj := 45) (by rfl) (evb (by rfl) h_65) (by rfl)
          refine WL.val Wanted.none (Runs.pick_t (evb rfl h_65) rfl) ?_
          refine WL.nil ?_
          refine QW.then_n ?_
          refine CW.ct rfl rfl ?_
          refine CW.seq ?_
          refine CW.region ?_
          refine WL.val Wanted.none (Runs.move rfl) ?_
          refine WL.val Wanted.none (Runs.eql rfl rfl rfl) ?_
          refine WL.val Wanted.none (Runs.move rfl) ?_
          obtain ⟨c_66, H⟩ := H
          have h_67 : (r_30 == 1) = true := (beq_iff_eq.mpr c_66)
          refine WL.on ?_ ?_; exact Wanted.guard (dj := 51) (by rfl) (evb (by rfl) h_67) (by rfl)
          refine WL.val Wanted.none (Runs.move rfl) ?_
          refine WL.on ?_ ?_; exact Wanted.guard (dj := 51) (by rfl) (evb (by rfl) h_67) (by rfl)
          refine WL.val Wanted.none (Runs.len_sl Tryd.underlying26 rfl (by rw [hn_28])) ?_
          refine WL.on ?_ ?_; exact Wanted.guard (dj := 51) (by rfl) (evb (by rfl) h_67) (by rfl)
          refine WL.val Wanted.none (Runs.eql rfl rfl rfl) ?_
          refine WL.val Wanted.none (Runs.pick_t (evb rfl h_67) rfl) ?_
          refine WL.val Wanted.none (Runs.move rfl) ?_
          obtain ⟨c_68, H⟩ := H
          have h_69 : ((r_24.length : Int) == 0) = true := (beq_iff_eq.mpr c_68)
          refine WL.on ?_ ?_; exact Wanted.guard (dj := 56) (by rfl) (evb (by rfl) h_69) (by rfl)
          refine WL.val Wanted.none (Runs.move rfl) ?_
          refine WL.on ?_ ?_; exact Wanted.guard (dj := 56) (by rfl) (evb (by rfl) h_69) (by rfl)
          refine WL.val Wanted.none (Runs.move rfl) ?_
          rcases H with ⟨c_70, H⟩ | ⟨c_70, H⟩
          · have h_71 : ((IntKind.i64.wrap (Int.tmod a1 400)) == 176) = true := (beq_iff_eq.mpr c_70)
            refine WL.on ?_ ?_; exact Wanted.guard (dj := 58) (by rfl) (evb (by rfl) h_71) (by rfl)
            refine WL.val Wanted.none (Runs.move rfl) ?_
            refine WL.on ?_ ?_; exact Wanted.guard (dj := 58) (by rfl) (evb (by rfl) h_71) (by rfl)
            refine WL.val Wanted.none (Runs.eql rfl rfl rfl) ?_
            refine WL.on ?_ ?_; exact Wanted.guard (dj := 56) (by rfl) (evb (by rfl) h_69) (by rfl)
            refine WL.val Wanted.none (Runs.pick_t (evb rfl h_71) rfl) ?_
            refine WL.on ?_ ?_; exact Wanted.guard (dj := 56) (by rfl) (evb (by rfl) h_69) (by rfl)
            refine WL.val Wanted.none (Runs.move rfl) ?_
            obtain ⟨c_72, H⟩ := H
            have h_73 : (r_49 == 11) = true := (beq_iff_eq.mpr c_72)
            refine WL.off ?_ ?_; exact Wanted.guard (dj := 62) (by rfl) (evb (by rfl) h_73) (by rfl)
            refine WL.off ?_ ?_; exact Wanted.guard (dj := 62) (by rfl) (evb (by rfl) h_73) (by rfl)
            refine WL.off ?_ ?_; exact Wanted.guard (dj := 62) (by rfl) (evb (by rfl) h_73) (by rfl)
            refine WL.off ?_ ?_; exact Wanted.undef (dj := 65) rfl rfl
            refine WL.off ?_ ?_; exact Wanted.undef (dj := 65) rfl rfl
            refine WL.off ?_ ?_; exact Wanted.guard (dj := 62) (by rfl) (evb (by rfl) h_73) (by rfl)
            refine WL.on ?_ ?_; exact Wanted.guard (dj := 56) (by rfl) (evb (by rfl) h_69) (by rfl)
            refine WL.val Wanted.none (Runs.pick_t (evb rfl h_73) rfl) ?_
            refine WL.val Wanted.none (Runs.pick_t (evb rfl h_69) rfl) ?_
            refine WL.val Wanted.none (Runs.assign rfl) ?_
            refine WL.nil ?_
            refine QW.then_n ?_
            refine CW.sub [(2, .int .u64 a2), (6, .bool true), (10, .int .i64 r_30), (13, .int .i64 r_49)] ⟨rfl, rfl, rfl, rfl, trivial⟩ ?_
            refine CW.ret ?_
            refine QW.then_r ?_
            exact QW.ret1 rfl rfl ⟨rfl, st_40.ext⟩
          · have h_71 : ((IntKind.i64.wrap (Int.tmod a1 400)) == 176) = false := (beq_eq_false_iff_ne.mpr c_70)
            refine WL.off ?_ ?_; exact Wanted.guard (dj := 58) (by rfl) (evb (by rfl) h_71) (by rfl)
            refine WL.off ?_ ?_; exact Wanted.guard (dj := 58) (by rfl) (evb (by rfl) h_71) (by rfl)
            refine WL.on ?_ ?_; exact Wanted.guard (dj := 56) (by rfl) (evb (by rfl) h_69) (by rfl)
            refine WL.val Wanted.none (Runs.pick_f (evb rfl h_71) rfl) ?_
            refine WL.on ?_ ?_; exact Wanted.guard (dj := 56) (by rfl) (evb (by rfl) h_69) (by rfl)
            refine WL.val Wanted.none (Runs.move rfl) ?_
            refine WL.on ?_ ?_; exact Wanted.guard (dj := 62) (by rfl) (by rfl) (by rfl)
            refine WL.val Wanted.none (Runs.move rfl) ?_
            refine WL.on ?_ ?_; exact Wanted.guard (dj := 62) (by rfl) (by rfl) (by rfl)
            refine WL.val Wanted.none (Runs.not (evb rfl h_71) rfl) ?_
            refine WL.on ?_ ?_; exact Wanted.guard (dj := 62) (by rfl) (by rfl) (by rfl)
            refine WL.val Wanted.none (Runs.move rfl) ?_
            refine WL.on ?_ ?_; exact Wanted.guard (dj := 65) (by rfl) (by rfl) (by rfl)
            refine WL.val Wanted.none (Runs.move rfl) ?_
            refine WL.on ?_ ?_; exact Wanted.guard (dj := 65) (by rfl) (by rfl) (by rfl)
            refine WL.val Wanted.none (Runs.eql rfl rfl rfl) ?_
            refine WL.on ?_ ?_; exact Wanted.guard (dj := 62) (by rfl) (by rfl) (by rfl)
            refine WL.val Wanted.none (Runs.pick_t rfl rfl) ?_
            refine WL.on ?_ ?_; exact Wanted.guard (dj := 56) (by rfl) (evb (by rfl) h_69) (by rfl)
            refine WL.val Wanted.none (Runs.pick_f rfl rfl) ?_
            refine WL.val Wanted.none (Runs.pick_t (evb rfl h_69) rfl) ?_
            refine WL.val Wanted.none (Runs.assign rfl) ?_
            refine WL.nil ?_
            refine QW.then_n ?_
            refine CW.sub [(2, .int .u64 a2), (6, .bool (r_49 == 1)), (10, .int .i64 r_30), (13, .int .i64 r_49)] ⟨rfl, rfl, rfl, rfl, trivial⟩ ?_
            refine CW.ret ?_
            refine QW.then_r ?_
            have hz : (r_49 == 1) = true := (beq_iff_eq.mpr H)
            exact QW.ret1 rfl (evb rfl hz) ⟨rfl, st_40.ext⟩
        · have h_65 : (!((IntKind.i64.wrap (Int.tmod a1 400)) == 176)) = false := (not_f (beq_iff_eq.mpr (Decidable.not_not.mp c_64)))
          refine WL.on ?_ ?_; exact Wanted.guard (dj := 45) (by rfl) (evb (by rfl) h_65) (by rfl)
          refine WL.val Wanted.none (Runs.move rfl) ?_
          refine WL.on ?_ ?_; exact Wanted.guard (dj := 45) (by rfl) (evb (by rfl) h_65) (by rfl)
          refine WL.val Wanted.none (Runs.eql rfl rfl rfl) ?_
          refine WL.val Wanted.none (Runs.pick_f (evb rfl h_65) rfl) ?_
          refine WL.nil ?_
          refine QW.then_n ?_
          rcases H with ⟨c_74, H⟩ | ⟨c_74, H⟩
          · have h_75 : (a2 == 0) = true := (beq_iff_eq.mpr c_74)
            refine CW.ct rfl h_75 ?_
            refine CW.seq ?_
            refine CW.region ?_
            refine WL.val Wanted.none (Runs.move rfl) ?_
            refine WL.val Wanted.none (Runs.eql rfl rfl rfl) ?_
            refine WL.val Wanted.none (Runs.move rfl) ?_
            obtain ⟨c_76, H⟩ := H
            have h_77 : (r_30 == 1) = true := (beq_iff_eq.mpr c_76)
            refine WL.on ?_ ?_; exact Wanted.guard (dj := 51) (by rfl) (evb (by rfl) h_77) (by rfl)
            refine WL.val Wanted.none (Runs.move rfl) ?_
            refine WL.on ?_ ?_; exact Wanted.guard (dj := 51) (by rfl) (evb (by rfl) h_77) (by rfl)
            refine WL.val Wanted.none (Runs.len_sl Tryd.underlying26 rfl (by rw [hn_28])) ?_
            refine WL.on ?_ ?_; exact Wanted.guard (dj := 51) (by rfl) (evb (by rfl) h_77) (by rfl)
            refine WL.val Wanted.none (Runs.eql rfl rfl rfl) ?_
            refine WL.val Wanted.none (Runs.pick_t (evb rfl h_77) rfl) ?_
            refine WL.val Wanted.none (Runs.move rfl) ?_
            obtain ⟨c_78, H⟩ := H
            have h_79 : ((r_24.length : Int) == 0) = true := (beq_iff_eq.mpr c_78)
            refine WL.on ?_ ?_; exact Wanted.guard (dj := 56) (by rfl) (evb (by rfl) h_79) (by rfl)
            refine WL.val Wanted.none (Runs.move rfl) ?_
            refine WL.on ?_ ?_; exact Wanted.guard (dj := 56) (by rfl) (evb (by rfl) h_79) (by rfl)
            refine WL.val Wanted.none (Runs.move rfl) ?_
            rcases H with ⟨c_80, H⟩ | ⟨c_80, H⟩
            · have h_81 : ((IntKind.i64.wrap (Int.tmod a1 400)) == 176) = true := (beq_iff_eq.mpr c_80)
              refine WL.on ?_ ?_; exact Wanted.guard (dj := 58) (by rfl) (evb (by rfl) h_81) (by rfl)
              refine WL.val Wanted.none (Runs.move rfl) ?_
              refine WL.on ?_ ?_; exact Wanted.guard (dj := 58) (by rfl) (evb (by rfl) h_81) (by rfl)
              refine WL.val Wanted.none (Runs.eql rfl rfl rfl) ?_
              refine WL.on ?_ ?_; exact Wanted.guard (dj := 56) (by rfl) (evb (by rfl) h_79) (by rfl)
              refine WL.val Wanted.none (Runs.pick_t (evb rfl h_81) rfl) ?_
              refine WL.on ?_ ?_; exact Wanted.guard (dj := 56) (by rfl) (evb (by rfl) h_79) (by rfl)
              refine WL.val Wanted.none (Runs.move rfl) ?_
              obtain ⟨c_82, H⟩ := H
              have h_83 : (r_49 == 11) = true := (beq_iff_eq.mpr c_82)
              refine WL.off ?_ ?_; exact Wanted.guard (dj := 62) (by rfl) (evb (by rfl) h_83) (by rfl)
              refine WL.off ?_ ?_; exact Wanted.guard (dj := 62) (by rfl) (evb (by rfl) h_83) (by rfl)
              refine WL.off ?_ ?_; exact Wanted.guard (dj := 62) (by rfl) (evb (by rfl) h_83) (by rfl)
              refine WL.off ?_ ?_; exact Wanted.undef (dj := 65) rfl rfl
              refine WL.off ?_ ?_; exact Wanted.undef (dj := 65) rfl rfl
              refine WL.off ?_ ?_; exact Wanted.guard (dj := 62) (by rfl) (evb (by rfl) h_83) (by rfl)
              refine WL.on ?_ ?_; exact Wanted.guard (dj := 56) (by rfl) (evb (by rfl) h_79) (by rfl)
              refine WL.val Wanted.none (Runs.pick_t (evb rfl h_83) rfl) ?_
              refine WL.val Wanted.none (Runs.pick_t (evb rfl h_79) rfl) ?_
              refine WL.val Wanted.none (Runs.assign rfl) ?_
              refine WL.nil ?_
              refine QW.then_n ?_
              refine CW.sub [(2, .int .u64 a2), (6, .bool true), (10, .int .i64 r_30), (13, .int .i64 r_49)] ⟨rfl, rfl, rfl, rfl, trivial⟩ ?_
              refine CW.ret ?_
              refine QW.then_r ?_
              exact QW.ret1 rfl rfl ⟨rfl, st_40.ext⟩
            · have h_81 : ((IntKind.i64.wrap (Int.tmod a1 400)) == 176) = false := (beq_eq_false_iff_ne.mpr c_80)
              refine WL.off ?_ ?_; exact Wanted.guard (dj := 58) (by rfl) (evb (by rfl) h_81) (by rfl)
              refine WL.off ?_ ?_; exact Wanted.guard (dj := 58) (by rfl) (evb (by rfl) h_81) (by rfl)
              refine WL.on ?_ ?_; exact Wanted.guard (dj := 56) (by rfl) (evb (by rfl) h_79) (by rfl)
              refine WL.val Wanted.none (Runs.pick_f (evb rfl h_81) rfl) ?_
              refine WL.on ?_ ?_; exact Wanted.guard (dj := 56) (by rfl) (evb (by rfl) h_79) (by rfl)
              refine WL.val Wanted.none (Runs.move rfl) ?_
              refine WL.on ?_ ?_; exact Wanted.guard (dj := 62) (by rfl) (by rfl) (by rfl)
              refine WL.val Wanted.none (Runs.move rfl) ?_
              refine WL.on ?_ ?_; exact Wanted.guard (dj := 62) (by rfl) (by rfl) (by rfl)
              refine WL.val Wanted.none (Runs.not (evb rfl h_81) rfl) ?_
              refine WL.on ?_ ?_; exact Wanted.guard (dj := 62) (by rfl) (by rfl) (by rfl)
              refine WL.val Wanted.none (Runs.move rfl) ?_
              refine WL.on ?_ ?_; exact Wanted.guard (dj := 65) (by rfl) (by rfl) (by rfl)
              refine WL.val Wanted.none (Runs.move rfl) ?_
              refine WL.on ?_ ?_; exact Wanted.guard (dj := 65) (by rfl) (by rfl) (by rfl)
              refine WL.val Wanted.none (Runs.eql rfl rfl rfl) ?_
              refine WL.on ?_ ?_; exact Wanted.guard (dj := 62) (by rfl) (by rfl) (by rfl)
              refine WL.val Wanted.none (Runs.pick_t rfl rfl) ?_
              refine WL.on ?_ ?_; exact Wanted.guard (dj := 56) (by rfl) (evb (by rfl) h_79) (by rfl)
              refine WL.val Wanted.none (Runs.pick_f rfl rfl) ?_
              refine WL.val Wanted.none (Runs.pick_t (evb rfl h_79) rfl) ?_
              refine WL.val Wanted.none (Runs.assign rfl) ?_
              refine WL.nil ?_
              refine QW.then_n ?_
              refine CW.sub [(2, .int .u64 a2), (6, .bool (r_49 == 1)), (10, .int .i64 r_30), (13, .int .i64 r_49)] ⟨rfl, rfl, rfl, rfl, trivial⟩ ?_
              refine CW.ret ?_
              refine QW.then_r ?_
              have hz : (r_49 == 1) = true := (beq_iff_eq.mpr H)
              exact QW.ret1 rfl (evb rfl hz) ⟨rfl, st_40.ext⟩
          · have h_75 : (a2 == 0) = false := (beq_eq_false_iff_ne.mpr c_74)
            refine CW.cf rfl h_75 ?_
            refine CW.skip ?_
            refine QW.then_n ?_
            refine CW.sub [(2, .int .u64 a2), (6, .bool false), (10, .int .i64 r_30), (13, .int .i64 r_49)] ⟨rfl, rfl, rfl, rfl, trivial⟩ ?_
            refine CW.seq ?_
            refine CW.region ?_
            refine WL.val Wanted.none (Runs.move rfl) ?_
            refine WL.val Wanted.none (Runs.eql rfl rfl rfl) ?_
            refine WL.val Wanted.none (Runs.move rfl) ?_
            refine WL.val Wanted.none (Runs.eql rfl rfl rfl) ?_
            refine WL.val Wanted.none (Runs.eqb Tryd.underlying4 rfl rfl rfl) ?_
            refine WL.val Wanted.none (Runs.move rfl) ?_
            obtain ⟨c_84, H⟩ := H
            have h_85 : ((a2 == 18446744073709551615) == (r_30 == 15)) = true := (beq_iff_eq.mpr c_84)
            refine WL.on ?_ ?_; exact Wanted.guard (dj := 76) (by rfl) (evb (by rfl) h_85) (by rfl)
            refine WL.val Wanted.none (Runs.move rfl) ?_
            refine WL.on ?_ ?_; exact Wanted.guard (dj := 76) (by rfl) (evb (by rfl) h_85) (by rfl)
            refine WL.val Wanted.none (Runs.eql rfl rfl rfl) ?_
            refine WL.on ?_ ?_; exact Wanted.guard (dj := 76) (by rfl) (evb (by rfl) h_85) (by rfl)
            refine WL.val Wanted.none (Runs.move rfl) ?_
            refine WL.on ?_ ?_; exact Wanted.guard (dj := 76) (by rfl) (evb (by rfl) h_85) (by rfl)
            refine WL.val Wanted.none (Runs.lss rfl rfl rfl) ?_
            refine WL.on ?_ ?_; exact Wanted.guard (dj := 76) (by rfl) (evb (by rfl) h_85) (by rfl)
            refine WL.val Wanted.none (Runs.eqb Tryd.underlying4 rfl rfl rfl) ?_
            refine WL.val Wanted.none (Runs.pick_t (evb rfl h_85) rfl) ?_
            refine WL.val Wanted.none (Runs.move rfl) ?_
            obtain ⟨c_86, H⟩ := H
            have h_87 : ((r_30 == 0) == (decide (a2 < 18446744073709551615))) = true := (beq_iff_eq.mpr c_86)
            refine WL.on ?_ ?_; exact Wanted.guard (dj := 83) (by rfl) (evb (by rfl) h_87) (by rfl)
            refine WL.val Wanted.none (Runs.move rfl) ?_
            refine WL.on ?_ ?_; exact Wanted.guard (dj := 83) (by rfl) (evb (by rfl) h_87) (by rfl)
            refine WL.val Wanted.none (Runs.eql rfl rfl rfl) ?_
            refine WL.val Wanted.none (Runs.pick_t (evb rfl h_87) rfl) ?_
            refine WL.val Wanted.none (Runs.assign rfl) ?_
            refine WL.nil ?_
            refine QW.then_n ?_
            refine CW.sub [(6, .bool (r_49 == 11))] ⟨rfl, trivial⟩ ?_
            refine CW.ret ?_
            have hz : (r_49 == 11) = true := (beq_iff_eq.mpr H)
            exact QW.ret1 rfl (evb rfl hz) ⟨rfl, st_40.ext⟩
    · refine WL.make st_32 Tryd.underlying26 elem5 rfl rfl (by decide) (by decide) (by decide) (N := 192) rfl ?_
      intro B_88 w_89 st_90
      replace st_90 : St w w_89 [.sl (some ⟨B_88, 0, none⟩) 192 192 (iv .u8 (List.replicate 192 (0 : Int))) 5 1, .sl A_25 c_26 n_27 (iv .u8 r_24) 5 1, .sl (some ⟨B_15, 0, none⟩) n_13 n_13 (iv .u8 (List.replicate (IntKind.i64.wrap (Int.tmod a1 400)).toNat (0 : Int))) 5 1, .cells B_1 (iv .u8 l0) 23] := by rw [iv_replicate] at st_90; exact st_90
      have hn_91 : 192 = (List.replicate 192 (0 : Int)).length := by simp
      refine WL.nil ?_
      refine AW.back ?_
      refine AW.step 0 rfl (by kernel_rfl) ?_
      refine WL.val Wanted.none (Runs.load_arr arr23 rfl (st_90.blk (i := 3) rfl) hl0) ?_
      refine WL.nil ?_
      refine AW.back ?_
      refine AW.step 3 rfl (by kernel_rfl) ?_
      obtain ⟨r_97, r_98, r_104, hr_93, H⟩ := H
      refine WL.call Wanted.none ent12 rfl (seal_Open.calls w_89 l0 0 (List.replicate 192 (0 : Int)) (IntKind.i64.wrap (Int.tmod a1 400)) (some ⟨B_88, 0, none⟩) 192 192 (hG0.ext st_90) hl0 (st_90.src_sl (k := 0) rfl) (hn_91) (st_90.cap (i := 0) rfl) r_97 r_98 r_104 hr_93) ?_
      rintro _ w_94 ⟨A_99, c_100, n_101, hn_102, rfl, sc_96⟩
      have st_95 : St w w_94 [.sl A_99 c_100 n_101 (iv .u8 r_98) 5 1, .sl (some ⟨B_88, 0, none⟩) 192 192 (iv .u8 (List.replicate 192 (0 : Int))) 5 1, .sl A_25 c_26 n_27 (iv .u8 r_24) 5 1, .sl (some ⟨B_15, 0, none⟩) n_13 n_13 (iv .u8 (List.replicate (IntKind.i64.wrap (Int.tmod a1 400)).toNat (0 : Int))) 5 1, .cells B_1 (iv .u8 l0) 23] := st_90.call sc_96
      refine ⟨_, rfl, ?_⟩
      refine WL.nil ?_
      refine AW.back ?_
      refine AW.take 4 rfl (by kernel_rfl) (by kernel_rfl) (by kernel_rfl) Wanted.none (fun _ => (Runs.move rfl)) ?_
      refine AW.take 5 rfl (by kernel_rfl) (by kernel_rfl) (by kernel_rfl) Wanted.none (fun _ => (Runs.extract rfl rfl)) ?_
      refine AW.take 6 rfl (by kernel_rfl) (by kernel_rfl) (by kernel_rfl) Wanted.none (fun _ => (Runs.extract rfl rfl)) ?_
      refine AW.take 7 rfl (by kernel_rfl) (by kernel_rfl) (by kernel_rfl) Wanted.none (fun _ => (Runs.extract rfl rfl)) ?_
      refine AW.take 8 rfl (by kernel_rfl) (by kernel_rfl) (by kernel_rfl) Wanted.none (fun _ => (Runs.assign rfl)) ?_
      refine AW.take 9 rfl (by kernel_rfl) (by kernel_rfl) (by kernel_rfl) Wanted.none (fun _ => (Runs.assign rfl)) ?_
      refine AW.take 10 rfl (by kernel_rfl) (by kernel_rfl) (by kernel_rfl) Wanted.none (fun _ => (Runs.assign rfl)) ?_
      refine AW.done (by kernel_rfl) ?_
      refine QW.then_n ?_
      refine CW.sub [(2, .int .u64 a2), (6, .bool false), (8, .int .i64 (IntKind.i64.wrap (Int.tmod a1 400))), (9, .slice A_25 n_27 c_26), (10, .int .i64 r_30), (13, .int .i64 r_104)] ⟨rfl, rfl, rfl, rfl, rfl, rfl, trivial⟩ ?_
      refine CW.seq ?_
      refine CW.region ?_
      refine WL.val Wanted.none (Runs.move rfl) ?_
      refine WL.val Wanted.none (Runs.eql rfl rfl rfl) ?_
      refine WL.val Wanted.none (Runs.move rfl) ?_
      rcases H with ⟨c_105, H⟩ | ⟨c_105, H⟩
      · have h_106 : ((IntKind.i64.wrap (Int.tmod a1 400)) == 160) = true := (beq_iff_eq.mpr c_105)
        refine WL.off ?_ ?_; exact Wanted.guard (dj := 39) (by rfl) (evb (by rfl) h_106) (by rfl)
        refine WL.off ?_ ?_; exact Wanted.guard (dj := 39) (by rfl) (evb (by rfl) h_106) (by rfl)
        refine WL.val Wanted.none (Runs.pick_t (evb rfl h_106) rfl) ?_
        refine WL.val Wanted.none (Runs.assign rfl) ?_
        refine WL.nil ?_
        refine QW.then_n ?_
        refine CW.sub [(2, .int .u64 a2), (6, .bool false), (9, .slice A_25 n_27 c_26), (10, .int .i64 r_30), (13, .int .i64 r_104), (14, .bool true)] ⟨rfl, rfl, rfl, rfl, rfl, rfl, trivial⟩ ?_
        refine CW.seq ?_
        refine CW.seq ?_
        refine CW.region ?_
        refine WL.val Wanted.none (Runs.move rfl) ?_
        refine WL.val Wanted.none (Runs.not rfl rfl) ?_
        refine WL.val Wanted.none (Runs.move rfl) ?_
        refine WL.on ?_ ?_; exact Wanted.guard (dj := 45) (by rfl) (by rfl) (by rfl)
        refine WL.val Wanted.none (Runs.move rfl) ?_
        refine WL.on ?_ ?_; exact Wanted.guard (dj := 45) (by rfl) (by rfl) (by rfl)
        refine WL.val Wanted.none (Runs.eql rfl rfl rfl) ?_
        refine WL.val Wanted.none (Runs.pick_f rfl rfl) ?_
        refine WL.nil ?_
        refine QW.then_n ?_
        rcases H with ⟨c_107, H⟩ | ⟨c_107, H⟩
        · have h_108 : (a2 == 0) = true := (beq_iff_eq.mpr c_107)
          refine CW.ct rfl h_108 ?_
          refine CW.seq ?_
          refine CW.region ?_
          refine WL.val Wanted.none (Runs.move rfl) ?_
          refine WL.val Wanted.none (Runs.eql rfl rfl rfl) ?_
          refine WL.val Wanted.none (Runs.move rfl) ?_
          obtain ⟨c_109, H⟩ := H
          have h_110 : (r_30 == 1) = true := (beq_iff_eq.mpr c_109)
          refine WL.on ?_ ?_; exact Wanted.guard (dj := 51) (by rfl) (evb (by rfl) h_110) (by rfl)
          refine WL.val Wanted.none (Runs.move rfl) ?_
          refine WL.on ?_ ?_; exact Wanted.guard (dj := 51) (by rfl) (evb (by rfl) h_110) (by rfl)
          refine WL.val Wanted.none (Runs.len_sl Tryd.underlying26 rfl (by rw [hn_28])) ?_
          refine WL.on ?_ ?_; exact Wanted.guard (dj := 51) (by rfl) (evb (by rfl) h_110) (by rfl)
          refine WL.val Wanted.none (Runs.eql rfl rfl rfl) ?_
          refine WL.val Wanted.none (Runs.pick_t (evb rfl h_110) rfl) ?_
          refine WL.val Wanted.none (Runs.move rfl) ?_
          obtain ⟨c_111, H⟩ := H
          have h_112 : ((r_24.length : Int) == 0) = true := (beq_iff_eq.mpr c_111)
          refine WL.on ?_ ?_; exact Wanted.guard (dj := 56) (by rfl) (evb (by rfl) h_112) (by rfl)
          refine WL.val Wanted.none (Runs.move rfl) ?_
          refine WL.on ?_ ?_; exact Wanted.guard (dj := 56) (by rfl) (evb (by rfl) h_112) (by rfl)
          refine WL.val Wanted.none (Runs.move rfl) ?_
          refine WL.on ?_ ?_; exact Wanted.guard (dj := 58) (by rfl) (by rfl) (by rfl)
          refine WL.val Wanted.none (Runs.move rfl) ?_
          refine WL.on ?_ ?_; exact Wanted.guard (dj := 58) (by rfl) (by rfl) (by rfl)
          refine WL.val Wanted.none (Runs.eql rfl rfl rfl) ?_
          refine WL.on ?_ ?_; exact Wanted.guard (dj := 56) (by rfl) (evb (by rfl) h_112) (by rfl)
          refine WL.val Wanted.none (Runs.pick_t rfl rfl) ?_
          refine WL.on ?_ ?_; exact Wanted.guard (dj := 56) (by rfl) (evb (by rfl) h_112) (by rfl)
          refine WL.val Wanted.none (Runs.move rfl) ?_
          obtain ⟨c_113, H⟩ := H
          have h_114 : (r_104 == 11) = true := (beq_iff_eq.mpr c_113)
          refine WL.off ?_ ?_; exact Wanted.guard (dj := 62) (by rfl) (evb (by rfl) h_114) (by rfl)
          refine WL.off ?_ ?_; exact Wanted.guard (dj := 62) (by rfl) (evb (by rfl) h_114) (by rfl)
          refine WL.off ?_ ?_; exact Wanted.guard (dj := 62) (by rfl) (evb (by rfl) h_114) (by rfl)
          refine WL.off ?_ ?_; exact Wanted.undef (dj := 65) rfl rfl
          refine WL.off ?_ ?_; exact Wanted.undef (dj := 65) rfl rfl
          refine WL.off ?_ ?_; exact Wanted.guard (dj := 62) (by rfl) (evb (by rfl) h_114) (by rfl)
          refine WL.on ?_ ?_; exact Wanted.guard (dj := 56) (by rfl) (evb (by rfl) h_112) (by rfl)
          refine WL.val Wanted.none (Runs.pick_t (evb rfl h_114) rfl) ?_
          refine WL.val Wanted.none (Runs.pick_t (evb rfl h_112) rfl) ?_
          refine WL.val Wanted.none (Runs.assign rfl) ?_
          refine WL.nil ?_
          refine QW.then_n ?_
          refine CW.sub [(2, .int .u64 a2), (6, .bool true), (10, .int .i64 r_30), (13, .int .i64 r_104)] ⟨rfl, rfl, rfl, rfl, trivial⟩ ?_
          refine CW.ret ?_
          refine QW.then_r ?_
          exact QW.ret1 rfl rfl ⟨rfl, st_95.ext⟩
        · have h_108 : (a2 == 0) = false := (beq_eq_false_iff_ne.mpr c_107)
          refine CW.cf rfl h_108 ?_
          refine CW.skip ?_
          refine QW.then_n ?_
          refine CW.sub [(2, .int .u64 a2), (6, .bool false), (10, .int .i64 r_30), (13, .int .i64 r_104)] ⟨rfl, rfl, rfl, rfl, trivial⟩ ?_
          refine CW.seq ?_
          refine CW.region ?_
          refine WL.val Wanted.none (Runs.move rfl) ?_
          refine WL.val Wanted.none (Runs.eql rfl rfl rfl) ?_
          refine WL.val Wanted.none (Runs.move rfl) ?_
          refine WL.val Wanted.none (Runs.eql rfl rfl rfl) ?_
          refine WL.val Wanted.none (Runs.eqb Tryd.underlying4 rfl rfl rfl) ?_
          refine WL.val Wanted.none (Runs.move rfl) ?_
          obtain ⟨c_115, H⟩ := H
          have h_116 : ((a2 == 18446744073709551615) == (r_30 == 15)) = true := (beq_iff_eq.mpr c_115)
          refine WL.on ?_ ?_; exact Wanted.guard (dj := 76) (by rfl) (evb (by rfl) h_116) (by rfl)
          refine WL.val Wanted.none (Runs.move rfl) ?_
          refine WL.on ?_ ?_; exact Wanted.guard (dj := 76) (by rfl) (evb (by rfl) h_116) (by rfl)
          refine WL.val Wanted.none (Runs.eql rfl rfl rfl) ?_
          refine WL.on ?_ ?_; exact Wanted.guard (dj := 76) (by rfl) (evb (by rfl) h_116) (by rfl)
          refine WL.val Wanted.none (Runs.move rfl) ?_
          refine WL.on ?_ ?_; exact Wanted.guard (dj := 76) (by rfl) (evb (by rfl) h_116) (by rfl)
          refine WL.val Wanted.none (Runs.lss rfl rfl rfl) ?_
          refine WL.on ?_ ?_; exact Wanted.guard (dj := 76) (by rfl) (evb (by rfl) h_116) (by rfl)
          refine WL.val Wanted.none (Runs.eqb Tryd.underlying4 rfl rfl rfl) ?_
          refine WL.val Wanted.none (Runs.pick_t (evb rfl h_116) rfl) ?_
          refine WL.val Wanted.none (Runs.move rfl) ?_
          obtain ⟨c_117, H⟩ := H
          have h_118 : ((r_30 == 0) == (decide (a2 < 18446744073709551615))) = true := (beq_iff_eq.mpr c_117)
          refine WL.on ?_ ?_; exact Wanted.guard (dj := 83) (by rfl) (evb (by rfl) h_118) (by rfl)
          refine WL.val Wanted.none (Runs.move rfl) ?_
          refine WL.on ?_ ?_; exact Wanted.guard (dj := 83) (by rfl) (evb (by rfl) h_118) (by rfl)
          refine WL.val Wanted.none (Runs.eql rfl rfl rfl) ?_
          refine WL.val Wanted.none (Runs.pick_t (evb rfl h_118) rfl) ?_
          refine WL.val Wanted.none (Runs.assign rfl) ?_
          refine WL.nil ?_
          refine QW.then_n ?_
          refine CW.sub [(6, .bool (r_104 == 11))] ⟨rfl, trivial⟩ ?_
          refine CW.ret ?_
          have hz : (r_104 == 11) = true := (beq_iff_eq.mpr H)
          exact QW.ret1 rfl (evb rfl hz) ⟨rfl, st_95.ext⟩
      · have h_106 : ((IntKind.i64.wrap (Int.tmod a1 400)) == 160) = false := (beq_eq_false_iff_ne.mpr c_105)
        refine WL.on ?_ ?_; exact Wanted.guard (dj := 39) (by rfl) (evb (by rfl) h_106) (by rfl)
        refine WL.val Wanted.none (Runs.move rfl) ?_
        refine WL.on ?_ ?_; exact Wanted.guard (dj := 39) (by rfl) (evb (by rfl) h_106) (by rfl)
        refine WL.val Wanted.none (Runs.eql rfl rfl rfl) ?_
        refine WL.val Wanted.none (Runs.pick_f (evb rfl h_106) rfl) ?_
        refine WL.val Wanted.none (Runs.assign rfl) ?_
        refine WL.nil ?_
        refine QW.then_n ?_
        refine CW.sub [(2, .int .u64 a2), (6, .bool false), (9, .slice A_25 n_27 c_26), (10, .int .i64 r_30), (13, .int .i64 r_104), (14, .bool ((IntKind.i64.wrap (Int.tmod a1 400)) == 176))] ⟨rfl, rfl, rfl, rfl, rfl, rfl, trivial⟩ ?_
        refine CW.seq ?_
        refine CW.seq ?_
        refine CW.region ?_
        refine WL.val Wanted.none (Runs.move rfl) ?_
        refine WL.val Wanted.none (Runs.not rfl rfl) ?_
        refine WL.val Wanted.none (Runs.move rfl) ?_
        rcases H with ⟨c_119, H⟩ | ⟨c_119, H⟩
        · have h_120 : (!((IntKind.i64.wrap (Int.tmod a1 400)) == 176)) = true := (not_t (beq_eq_false_iff_ne.mpr c_119))
          refine WL.off ?_ ?_; exact Wanted.guard (dj := 45) (by rfl) (evb (by rfl) h_120) (by rfl)
          refine WL.off ?_ ?_; exact Wanted.guard (dj := 45) (by rfl) (evb (by rfl) h_120) (by rfl)
          refine WL.val Wanted.none (Runs.pick_t (evb rfl h_120) rfl) ?_
          refine WL.nil ?_
          refine QW.then_n ?_
          refine CW.ct rfl rfl ?_
          refine CW.seq ?_
          refine CW.region ?_
          refine WL.val Wanted.none (Runs.move rfl) ?_
          refine WL.val Wanted.none (Runs.eql rfl rfl rfl) ?_
          refine WL.val Wanted.none (Runs.move rfl) ?_
          obtain ⟨c_121, H⟩ := H
          have h_122 : (r_30 == 1) = true := (beq_iff_eq.mpr c_121)
          refine WL.on ?_ ?_; exact Wanted.guard (dj := 51) (by rfl) (evb (by rfl) h_122) (by rfl)
          refine WL.val Wanted.none (Runs.move rfl) ?_
          refine WL.on ?_ ?_; exact Wanted.guard (dj := 51) (by rfl) (evb (by rfl) h_122) (by rfl)
          refine WL.val Wanted.none (Runs.len_sl Tryd.underlying26 rfl (by rw [hn_28])) ?_
          refine WL.on ?_ ?_; exact Wanted.guard (dj := 51) (by rfl) (evb (by rfl) h_122) (by rfl)
          refine WL.val Wanted.none (Runs.eql rfl rfl rfl) ?_
          refine WL.val Wanted.none (Runs.pick_t (evb rfl h_122) rfl) ?_
          refine WL.val Wanted.none (Runs.move rfl) ?_
          obtain ⟨c_123, H⟩ := H
          have h_124 : ((r_24.length : Int) == 0) = true := (beq_iff_eq.mpr c_123)
          refine WL.on ?_ ?_; exact Wanted.guard (dj := 56) (by rfl) (evb (by rfl) h_124) (by rfl)
          refine WL.val Wanted.none (Runs.move rfl) ?_
          refine WL.on ?_ ?_; exact Wanted.guard (dj := 56) (by rfl) (evb (by rfl) h_124) (by rfl)
          refine WL.val Wanted.none (Runs.move rfl) ?_
          rcases H with ⟨c_125, H⟩ | ⟨c_125, H⟩
          · have h_126 : ((IntKind.i64.wrap (Int.tmod a1 400)) == 176) = true := (beq_iff_eq.mpr c_125)
            refine WL.on ?_ ?_; exact Wanted.guard (dj := 58) (by rfl) (evb (by rfl) h_126) (by rfl)
            refine WL.val Wanted.none (Runs.move rfl) ?_
            refine WL.on ?_ ?_; exact Wanted.guard (dj := 58) (by rfl) (evb (by rfl) h_126) (by rfl)
            refine WL.val Wanted.none (Runs.eql rfl rfl rfl) ?_
            refine WL.on ?_ ?_; exact Wanted.guard (dj := 56) (by rfl) (evb (by rfl) h_124) (by rfl)
            refine WL.val Wanted.none (Runs.pick_t (evb rfl h_126) rfl) ?_
            refine WL.on ?_ ?_; exact Wanted.guard (dj := 56) (by rfl) (evb (by rfl) h_124) (by rfl)
            refine WL.val Wanted.none (Runs.move rfl) ?_
            obtain ⟨c_127, H⟩ := H
            have h_128 : (r_104 == 11) = true := (beq_iff_eq.mpr c_127)
            refine WL.off ?_ ?_; exact Wanted.guard (dj := 62) (by rfl) (evb (by rfl) h_128) (by rfl)
            refine WL.off ?_ ?_; exact Wanted.guard (dj := 62) (by rfl) (evb (by rfl) h_128) (by rfl)
            refine WL.off ?_ ?_; exact Wanted.guard (dj := 62) (by rfl) (evb (by rfl) h_128) (by rfl)
            refine WL.off ?_ ?_; exact Wanted.undef (dj := 65) rfl rfl
            refine WL.off ?_ ?_; exact Wanted.undef (dj := 65) rfl rfl
            refine WL.off ?_ ?_; exact Wanted.guard (dj := 62) (by rfl) (evb (by rfl) h_128) (by rfl)
            refine WL.on ?_ ?_; exact Wanted.guard (dj := 56) (by rfl) (evb (by rfl) h_124) (by rfl)
            refine WL.val Wanted.none (Runs.pick_t (evb rfl h_128) rfl) ?_
            refine WL.val Wanted.none (Runs.pick_t (evb rfl h_124) rfl) ?_
            refine WL.val Wanted.none (Runs.assign rfl) ?_
            refine WL.nil ?_
            refine QW.then_n ?_
            refine CW.sub [(2, .int .u64 a2), (6, .bool true), (10, .int .i64 r_30), (13, .int .i64 r_104)] ⟨rfl, rfl, rfl, rfl, trivial⟩ ?_
            refine CW.ret ?_
            refine QW.then_r ?_
            exact QW.ret1 rfl rfl ⟨rfl, st_95.ext⟩
          · have h_126 : ((IntKind.i64.wrap (Int.tmod a1 400)) == 176) = false := (beq_eq_false_iff_ne.mpr c_125)
            refine WL.off ?_ ?_; exact Wanted.guard (dj := 58) (by rfl) (evb (by rfl) h_126) (by rfl)
            refine WL.off ?_ ?_; exact Wanted.guard (dj := 58) (by rfl) (evb (by rfl) h_126) (by rfl)
            refine WL.on ?_ ?_; exact Wanted.guard (dj := 56) (by rfl) (evb (by rfl) h_124) (by rfl)
            refine WL.val Wanted.none (Runs.pick_f (evb rfl h_126) rfl) ?_
            refine WL.on ?_ ?_; exact Wanted.guard (dj := 56) (by rfl) (evb (by rfl) h_124) (by rfl)
            refine WL.val Wanted.none (Runs.move rfl) ?_
            refine WL.on ?_ ?_; exact Wanted.guard (dj := 62) (by rfl) (by rfl) (by rfl)
            refine WL.val Wanted.none (Runs.move rfl) ?_
            refine WL.on ?_ ?_; exact Wanted.guard (dj := 62) (by rfl) (by rfl) (by rfl)
            refine WL.val Wanted.none (Runs.not (evb rfl h_126) rfl) ?_
            refine WL.on ?_ ?_; exact Wanted.guard (dj := 62) (by rfl) (by rfl) (by rfl)
            refine WL.val Wanted.none (Runs.move rfl) ?_
            refine WL.on ?_ ?_; exact Wanted.guard (dj := 65) (by rfl) (by rfl) (by rfl)
            refine WL.val Wanted.none (Runs.move rfl) ?_
            refine WL.on ?_ ?_; exact Wanted.guard (dj := 65) (by rfl) (by rfl) (by rfl)
            refine WL.val Wanted.none (Runs.eql rfl rfl rfl) ?_
            refine WL.on ?_ ?_; exact Wanted.guard (dj := 62) (by rfl) (by rfl) (by rfl)
            refine WL.val Wanted.none (Runs.pick_t rfl rfl) ?_
            refine WL.on ?_ ?_; exact Wanted.guard (dj := 56) (by rfl) (evb (by rfl) h_124) (by rfl)
            refine WL.val Wanted.none (Runs.pick_f rfl rfl) ?_
            refine WL.val Wanted.none (Runs.pick_t (evb rfl h_124) rfl) ?_
            refine WL.val Wanted.none (Runs.assign rfl) ?_
            refine WL.nil ?_
            refine QW.then_n ?_
            refine CW.sub [(2, .int .u64 a2), (6, .bool (r_104 == 1)), (10, .int .i64 r_30), (13, .int .i64 r_104)] ⟨rfl, rfl, rfl, rfl, trivial⟩ ?_
            refine CW.ret ?_
            refine QW.then_r ?_
            have hz : (r_104 == 1) = true := (beq_iff_eq.mpr H)
            exact QW.ret1 rfl (evb rfl hz) ⟨rfl, st_95.ext⟩
        · have h_120 : (!((IntKind.i64.wrap (Int.tmod a1 400)) == 176)) = false := (not_f (beq_iff_eq.mpr (Decidable.not_not.mp c_119)))
          refine WL.on ?_ ?_; exact Wanted.guard (dj := 45) (by rfl) (evb (by rfl) h_120) (by rfl)
          refine WL.val Wanted.none (Runs.move rfl) ?_
          refine WL.on ?_ ?_; exact Wanted.guard (dj := 45) (by rfl) (evb (by rfl) h_120) (by rfl)
          refine WL.val Wanted.none (Runs.eql rfl rfl rfl) ?_
          refine WL.val Wanted.none (Runs.pick_f (evb rfl h_120) rfl) ?_
          refine WL.nil ?_
          refine QW.then_n ?_
          rcases H with ⟨c_129, H⟩ | ⟨c_129, H⟩
          · have h_130 : (a2 == 0) = true := (beq_iff_eq.mpr c_129)
            refine CW.ct rfl h_130 ?_
            refine CW.seq ?_
            refine CW.region ?_
            refine WL.val Wanted.none (Runs.move rfl) ?_
            refine WL.val Wanted.none (Runs.eql rfl rfl rfl) ?_
            refine WL.val Wanted.none (Runs.move rfl) ?_
            obtain ⟨c_131, H⟩ := H
            have h_132 : (r_30 == 1) = true := (beq_iff_eq.mpr c_131)
            refine WL.on ?_ ?_; exact Wanted.guard (dj := 51) (by rfl) (evb (by rfl) h_132) (by rfl)
            refine WL.val Wanted.none (Runs.move rfl) ?_
            refine WL.on ?_ ?_; exact Wanted.guard (dj := 51) (by rfl) (evb (by rfl) h_132) (by rfl)
            refine WL.val Wanted.none (Runs.len_sl Tryd.underlying26 rfl (by rw [hn_28])) ?_
            refine WL.on ?_ ?_; exact Wanted.guard (dj := 51) (by rfl) (evb (by rfl) h_132) (by rfl)
            refine WL.val Wanted.none (Runs.eql rfl rfl rfl) ?_
            refine WL.val Wanted.none (Runs.pick_t (evb rfl h_132) rfl) ?_
            refine WL.val Wanted.none (Runs.move rfl) ?_
            obtain ⟨c_133, H⟩ := H
            have h_134 : ((r_24.length : Int) == 0) = true := (beq_iff_eq.mpr c_133)
            refine WL.on ?_ ?_; exact Wanted.guard (dj := 56) (by rfl) (evb (by rfl) h_134) (by rfl)
            refine WL.val Wanted.none (Runs.move rfl) ?_
            refine WL.on ?_ ?_; exact Wanted.guard (dj := 56) (by rfl) (evb (by rfl) h_134) (by rfl)
            refine WL.val Wanted.none (Runs.move rfl) ?_
            rcases H with ⟨c_135, H⟩ | ⟨c_135, H⟩
            · have h_136 : ((IntKind.i64.wrap (Int.tmod a1 400)) == 176) = true := (beq_iff_eq.mpr c_135)
              refine WL.on ?_ ?_; exact Wanted.guard (dj := 58) (by rfl) (evb (by rfl) h_136) (by rfl)
              refine WL.val Wanted.none (Runs.move rfl) ?_
              refine WL.on ?_ ?_; exact Wanted.guard (dj := 58) (by rfl) (evb (by rfl) h_136) (by rfl)
              refine WL.val Wanted.none (Runs.eql rfl rfl rfl) ?_
              refine WL.on ?_ ?_; exact Wanted.guard (dj := 56) (by rfl) (evb (by rfl) h_134) (by rfl)
              refine WL.val Wanted.none (Runs.pick_t (evb rfl h_136) rfl) ?_
              refine WL.on ?_ ?_; exact Wanted.guard (dj := 56) (by rfl) (evb (by rfl) h_134) (by rfl)
              refine WL.val Wanted.none (Runs.move rfl) ?_
              obtain ⟨c_137, H⟩ := H
              have h_138 : (r_104 == 11) = true := (beq_iff_eq.mpr c_137)
              refine WL.off ?_ ?_; exact Wanted.guard (dj := 62) (by rfl) (evb (by rfl) h_138) (by rfl)
              refine WL.off ?_ ?_; exact Wanted.guard (dj := 62) (by rfl) (evb (by rfl) h_138) (by rfl)
              refine WL.off ?_ ?_; exact Wanted.guard (dj := 62) (by rfl) (evb (by rfl) h_138) (by rfl)
              refine WL.off ?_ ?_; exact Wanted.undef (dj := 65) rfl rfl
              refine WL.off ?_ ?_; exact Wanted.undef (dj := 65) rfl rfl
              refine WL.off ?_ ?_; exact Wanted.guard (dj := 62) (by rfl) (evb (by rfl) h_138) (by rfl)
              refine WL.on ?_ ?_; exact Wanted.guard (dj := 56) (by rfl) (evb (by rfl) h_134) (by rfl)
              refine WL.val Wanted.none (Runs.pick_t (evb rfl h_138) rfl) ?_
              refine WL.val Wanted.none (Runs.pick_t (evb rfl h_134) rfl) ?_
              refine WL.val Wanted.none (Runs.assign rfl) ?_
              refine WL.nil ?_
              refine QW.then_n ?_
              refine CW.sub [(2, .int .u64 a2), (6, .bool true), (10, .int .i64 r_30), (13, .int .i64 r_104)] ⟨rfl, rfl, rfl, rfl, trivial⟩ ?_
              refine CW.ret ?_
              refine QW.then_r ?_
              exact QW.ret1 rfl rfl ⟨rfl, st_95.ext⟩
            · have h_136 : ((IntKind.i64.wrap (Int.tmod a1 400)) == 176) = false := (beq_eq_false_iff_ne.mpr c_135)
              refine WL.off ?_ ?_; exact Wanted.guard (dj := 58) (by rfl) (evb (by rfl) h_136) (by rfl)
              refine WL.off ?_ ?_; exact Wanted.guard (dj := 58) (by rfl) (evb (by rfl) h_136) (by rfl)
              refine WL.on ?_ ?_; exact Wanted.guard (dj := 56) (by rfl) (evb (by rfl) h_134) (by rfl)
              refine WL.val Wanted.none (Runs.pick_f (evb rfl h_136) rfl) ?_
              refine WL.on ?_ ?_; exact Wanted.guard (dj := 56) (by rfl) (evb (by rfl) h_134) (by rfl)
              refine WL.val Wanted.none (Runs.move rfl) ?_
              refine WL.on ?_ ?_; exact Wanted.guard (dj := 62) (by rfl) (by rfl) (by rfl)
              refine WL.val Wanted.none (Runs.move rfl) ?_
              refine WL.on ?_ ?_; exact Wanted.guard (dj := 62) (by rfl) (by rfl) (by rfl)
              refine WL.val Wanted.none (Runs.not (evb rfl h_136) rfl) ?_
              refine WL.on ?_ ?_; exact Wanted.guard (dj := 62) (by rfl) (by rfl) (by rfl)
              refine WL.val Wanted.none (Runs.move rfl) ?_
              refine WL.on ?_ ?_; exact Wanted.guard (dj := 65) (by rfl) (by rfl) (by rfl)
              refine WL.val Wanted.none (Runs.move rfl) ?_
              refine WL.on ?_ ?_; exact Wanted.guard (dj := 65) (by rfl) (by rfl) (by rfl)
              refine WL.val Wanted.none (Runs.eql rfl rfl rfl) ?_
              refine WL.on ?_ ?_; exact Wanted.guard (dj := 62) (by rfl) (by rfl) (by rfl)
              refine WL.val Wanted.none (Runs.pick_t rfl rfl) ?_
              refine WL.on ?_ ?_; exact Wanted.guard (dj := 56) (by rfl) (evb (by rfl) h_134) (by rfl)
              refine WL.val Wanted.none (Runs.pick_f rfl rfl) ?_
              refine WL.val Wanted.none (Runs.pick_t (evb rfl h_134) rfl) ?_
              refine WL.val Wanted.none (Runs.assign rfl) ?_
              refine WL.nil ?_
              refine QW.then_n ?_
              refine CW.sub [(2, .int .u64 a2), (6, .bool (r_104 == 1)), (10, .int .i64 r_30), (13, .int .i64 r_104)] ⟨rfl, rfl, rfl, rfl, trivial⟩ ?_
              refine CW.ret ?_
              refine QW.then_r ?_
              have hz : (r_104 == 1) = true := (beq_iff_eq.mpr H)
              exact QW.ret1 rfl (evb rfl hz) ⟨rfl, st_95.ext⟩
          · have h_130 : (a2 == 0) = false := (beq_eq_false_iff_ne.mpr c_129)
            refine CW.cf rfl h_130 ?_
            refine CW.skip ?_
            refine QW.then_n ?_
            refine CW.sub [(2, .int .u64 a2), (6, .bool false), (10, .int .i64 r_30), (13, .int .i64 r_104)] ⟨rfl, rfl, rfl, rfl, trivial⟩ ?_
            refine CW.seq ?_
            refine CW.region ?_
            refine WL.val Wanted.none (Runs.move rfl) ?_
            refine WL.val Wanted.none (Runs.eql rfl rfl rfl) ?_
            refine WL.val Wanted.none (Runs.move rfl) ?_
            refine WL.val Wanted.none (Runs.eql rfl rfl rfl) ?_
            refine WL.val Wanted.none (Runs.eqb Tryd.underlying4 rfl rfl rfl) ?_
            refine WL.val Wanted.none (Runs.move rfl) ?_
            obtain ⟨c_139, H⟩ := H
            have h_140 : ((a2 == 18446744073709551615) == (r_30 == 15)) = true := (beq_iff_eq.mpr c_139)
            refine WL.on ?_ ?_; exact Wanted.guard (dj := 76) (by rfl) (evb (by rfl) h_140) (by rfl)
            refine WL.val Wanted.none (Runs.move rfl) ?_
            refine WL.on ?_ ?_; exact Wanted.guard (dj := 76) (by rfl) (evb (by rfl) h_140) (by rfl)
            refine WL.val Wanted.none (Runs.eql rfl rfl rfl) ?_
            refine WL.on ?_ ?_; exact Wanted.guard (dj := 76) (by rfl) (evb (by rfl) h_140) (by rfl)
            refine WL.val Wanted.none (Runs.move rfl) ?_
            refine WL.on ?_ ?_; exact Wanted.guard (dj := 76) (by rfl) (evb (by rfl) h_140) (by rfl)
            refine WL.val Wanted.none (Runs.lss rfl rfl rfl) ?_
            refine WL.on ?_ ?_; exact Wanted.guard (dj := 76) (by rfl) (evb (by rfl) h_140) (by rfl)
            refine WL.val Wanted.none (Runs.eqb Tryd.underlying4 rfl rfl rfl) ?_
            refine WL.val Wanted.none (Runs.pick_t (evb rfl h_140) rfl) ?_
            refine WL.val Wanted.none (Runs.move rfl) ?_
            obtain ⟨c_141, H⟩ := H
            have h_142 : ((r_30 == 0) == (decide (a2 < 18446744073709551615))) = true := (beq_iff_eq.mpr c_141)
            refine WL.on ?_ ?_; exact Wanted.guard (dj := 83) (by rfl) (evb (by rfl) h_142) (by rfl)
            refine WL.val Wanted.none (Runs.move rfl) ?_
            refine WL.on ?_ ?_; exact Wanted.guard (dj := 83) (by rfl) (evb (by rfl) h_142) (by rfl)
            refine WL.val Wanted.none (Runs.eql rfl rfl rfl) ?_
            refine WL.val Wanted.none (Runs.pick_t (evb rfl h_142) rfl) ?_
            refine WL.val Wanted.none (Runs.assign rfl) ?_
            refine WL.nil ?_
            refine QW.then_n ?_
            refine CW.sub [(6, .bool (r_104 == 11))] ⟨rfl, trivial⟩ ?_
            refine CW.ret ?_
            have hz : (r_104 == 11) = true := (beq_iff_eq.mpr H)
            exact QW.ret1 rfl (evb rfl hz) ⟨rfl, st_95.ext⟩
  · obtain ⟨⟨p_143, q_144⟩, H⟩ := H
    obtain ⟨n_145, e_146⟩ : ∃ n_ : Nat, n_ = (IntKind.i64.wrap (Int.tmod a1 400)).toNat := ⟨_, rfl⟩
    refine WL.make st_10 Tryd.underlying26 elem5 rfl rfl p_143 q_144 (by decide) (N := n_145) e_146 ?_
    intro B_147 w_148 st_149
    replace st_149 : St w w_148 [.sl (some ⟨B_147, 0, none⟩) n_145 n_145 (iv .u8 (List.replicate (IntKind.i64.wrap (Int.tmod a1 400)).toNat (0 : Int))) 5 1, .cells B_1 (iv .u8 l0) 23] := by rw [← e_146]; rw [iv_replicate] at st_149; exact st_149
    have hn_150 : n_145 = (List.replicate (IntKind.i64.wrap (Int.tmod a1 400)).toNat (0 : Int)).length := by rw [List.length_replicate]; exact e_146
    refine WL.nil ?_
    refine AW.back ?_
    refine AW.step 0 rfl (by kernel_rfl) ?_
    refine WL.val Wanted.none (Runs.load_arr arr23 rfl (st_149.blk (i := 1) rfl) hl0) ?_
    refine WL.nil ?_
    refine AW.back ?_
    refine AW.step 4 rfl (by kernel_rfl) ?_
    obtain ⟨r_156, r_162, hr_152, H⟩ := H
    refine WL.call Wanted.none ent10 rfl (seal_Seal.calls w_148 l0 0 a2 (List.replicate (IntKind.i64.wrap (Int.tmod a1 400)).toNat (0 : Int)) (some ⟨B_147, 0, none⟩) n_145 n_145 (hG0.ext st_149) hl0 (st_149.src_sl (k := 0) rfl) (hn_150) (st_149.cap (i := 0) rfl) r_156 r_162 hr_152) ?_
    rintro _ w_153 ⟨A_157, c_158, n_159, hn_160, rfl, sc_155⟩
    have st_154 : St w w_153 [.sl A_157 c_158 n_159 (iv .u8 r_156) 5 1, .sl (some ⟨B_147, 0, none⟩) n_145 n_145 (iv .u8 (List.replicate (IntKind.i64.wrap (Int.tmod a1 400)).toNat (0 : Int))) 5 1, .cells B_1 (iv .u8 l0) 23] := st_149.call sc_155
    refine ⟨_, rfl, ?_⟩
    refine WL.nil ?_
    refine AW.back ?_
    refine AW.take 5 rfl (by kernel_rfl) (by kernel_rfl) (by kernel_rfl) Wanted.none (fun _ => (Runs.move rfl)) ?_
    refine AW.take 6 rfl (by kernel_rfl) (by kernel_rfl) (by kernel_rfl) Wanted.none (fun _ => (Runs.extract rfl rfl)) ?_
    refine AW.take 7 rfl (by kernel_rfl) (by kernel_rfl) (by kernel_rfl) Wanted.none (fun _ => (Runs.extract rfl rfl)) ?_
    refine AW.take 8 rfl (by kernel_rfl) (by kernel_rfl) (by kernel_rfl) Wanted.none (fun _ => (Runs.assign rfl)) ?_
    refine AW.take 9 rfl (by kernel_rfl) (by kernel_rfl) (by kernel_rfl) Wanted.none (fun _ => (Runs.assign rfl)) ?_
    refine AW.done (by kernel_rfl) ?_
    refine QW.then_n ?_
    refine CW.sub [(2, .int .u64 a2), (3, .pointer (some ⟨B_1, 0, none⟩)), (6, .bool false), (8, .int .i64 (IntKind.i64.wrap (Int.tmod a1 400))), (9, .slice A_157 n_159 c_158), (10, .int .i64 r_162)] ⟨rfl, rfl, rfl, rfl, rfl, rfl, trivial⟩ ?_
    refine CW.seq ?_
    refine CW.region_aw wide st_154 (fun w_163 st_164 => ?_)
    refine AW.take 2 rfl (by kernel_rfl) (by kernel_rfl) (by kernel_rfl) Wanted.none (fun _ => (Runs.move rfl)) ?_
    refine AW.step2 0 1 rfl rfl (by kernel_rfl) ?_ ?_
    · refine WL.val Wanted.none (Runs.load_arr arr23 rfl (st_164.blk (i := 2) rfl) hl0) ?_
      refine WL.nil ?_
      refine AW.back ?_
      refine AW.step 1 rfl (by kernel_rfl) ?_
      refine WL.make st_164 Tryd.underlying26 elem5 rfl rfl (by decide) (by decide) (by decide) (N := 192) rfl ?_
      intro B_165 w_166 st_167
      replace st_167 : St w w_166 [.sl (some ⟨B_165, 0, none⟩) 192 192 (iv .u8 (List.replicate 192 (0 : Int))) 5 1, .sl A_157 c_158 n_159 (iv .u8 r_156) 5 1, .sl (some ⟨B_147, 0, none⟩) n_145 n_145 (iv .u8 (List.replicate (IntKind.i64.wrap (Int.tmod a1 400)).toNat (0 : Int))) 5 1, .cells B_1 (iv .u8 l0) 23] := by rw [iv_replicate] at st_167; exact st_167
      have hn_168 : 192 = (List.replicate 192 (0 : Int)).length := by simp
      refine WL.nil ?_
      refine AW.back ?_
      refine AW.step 3 rfl (by kernel_rfl) ?_
      obtain ⟨r_174, r_175, r_181, hr_170, H⟩ := H
      refine WL.call Wanted.none ent12 rfl (seal_Open.calls w_166 l0 0 (List.replicate 192 (0 : Int)) (IntKind.i64.wrap (Int.tmod a1 400)) (some ⟨B_165, 0, none⟩) 192 192 (hG0.ext st_167) hl0 (st_167.src_sl (k := 0) rfl) (hn_168) (st_167.cap (i := 0) rfl) r_174 r_175 r_181 hr_170) ?_
      rintro _ w_171 ⟨A_176, c_177, n_178, hn_179, rfl, sc_173⟩
      have st_172 : St w w_171 [.sl A_176 c_177 n_178 (iv .u8 r_175) 5 1, .sl (some ⟨B_165, 0, none⟩) 192 192 (iv .u8 (List.replicate 192 (0 : Int))) 5 1, .sl A_157 c_158 n_159 (iv .u8 r_156) 5 1, .sl (some ⟨B_147, 0, none⟩) n_145 n_145 (iv .u8 (List.replicate (IntKind.i64.wrap (Int.tmod a1 400)).toNat (0 : Int))) 5 1, .cells B_1 (iv .u8 l0) 23] := st_167.call sc_173
      refine ⟨_, rfl, ?_⟩
      refine WL.nil ?_
      refine AW.back ?_
      refine AW.take 4 rfl (by kernel_rfl) (by kernel_rfl) (by kernel_rfl) Wanted.none (fun _ => (Runs.move rfl)) ?_
      refine AW.take 5 rfl (by kernel_rfl) (by kernel_rfl) (by kernel_rfl) Wanted.none (fun _ => (Runs.extract rfl rfl)) ?_
      refine AW.take 6 rfl (by kernel_rfl) (by kernel_rfl) (by kernel_rfl) Wanted.none (fun _ => (Runs.extract rfl rfl)) ?_
      refine AW.take 7 rfl (by kernel_rfl) (by kernel_rfl) (by kernel_rfl) Wanted.none (fun _ => (Runs.extract rfl rfl)) ?_
      refine AW.take 8 rfl (by kernel_rfl) (by kernel_rfl) (by kernel_rfl) Wanted.none (fun _ => (Runs.assign rfl)) ?_
      refine AW.take 9 rfl (by kernel_rfl) (by kernel_rfl) (by kernel_rfl) Wanted.none (fun _ => (Runs.assign rfl)) ?_
      refine AW.take 10 rfl (by kernel_rfl) (by kernel_rfl) (by kernel_rfl) Wanted.none (fun _ => (Runs.assign rfl)) ?_
      refine AW.done (by kernel_rfl) ?_
      refine QW.then_n ?_
      refine CW.sub [(2, .int .u64 a2), (6, .bool false), (8, .int .i64 (IntKind.i64.wrap (Int.tmod a1 400))), (9, .slice A_157 n_159 c_158), (10, .int .i64 r_162), (13, .int .i64 r_181)] ⟨rfl, rfl, rfl, rfl, rfl, rfl, trivial⟩ ?_
      refine CW.seq ?_
      refine CW.region ?_
      refine WL.val Wanted.none (Runs.move rfl) ?_
      refine WL.val Wanted.none (Runs.eql rfl rfl rfl) ?_
      refine WL.val Wanted.none (Runs.move rfl) ?_
      rcases H with ⟨c_182, H⟩ | ⟨c_182, H⟩
      · have h_183 : ((IntKind.i64.wrap (Int.tmod a1 400)) == 160) = true := (beq_iff_eq.mpr c_182)
        refine WL.off ?_ ?_; exact Wanted.guard (dj := 39) (by rfl) (evb (by rfl) h_183) (by rfl)
        refine WL.off ?_ ?_; exact Wanted.guard (dj := 39) (by rfl) (evb (by rfl) h_183) (by rfl)
        refine WL.val Wanted.none (Runs.pick_t (evb rfl h_183) rfl) ?_
        refine WL.val Wanted.none (Runs.assign rfl) ?_
        refine WL.nil ?_
        refine QW.then_n ?_
        refine CW.sub [(2, .int .u64 a2), (6, .bool false), (9, .slice A_157 n_159 c_158), (10, .int .i64 r_162), (13, .int .i64 r_181), (14, .bool true)] ⟨rfl, rfl, rfl, rfl, rfl, rfl, trivial⟩ ?_
        refine CW.seq ?_
        refine CW.seq ?_
        refine CW.region ?_
        refine WL.val Wanted.none (Runs.move rfl) ?_
        refine WL.val Wanted.none (Runs.not rfl rfl) ?_
        refine WL.val Wanted.none (Runs.move rfl) ?_
        refine WL.on ?_ ?_; exact Wanted.guard (dj := 45) (by rfl) (by rfl) (by rfl)
        refine WL.val Wanted.none (Runs.move rfl) ?_
        refine WL.on ?_ ?_; exact Wanted.guard (dj := 45) (by rfl) (by rfl) (by rfl)
        refine WL.val Wanted.none (Runs.eql rfl rfl rfl) ?_
        refine WL.val Wanted.none (Runs.pick_f rfl rfl) ?_
        refine WL.nil ?_
        refine QW.then_n ?_
        rcases H with ⟨c_184, H⟩ | ⟨c_184, H⟩
        · have h_185 : (a2 == 0) = true := (beq_iff_eq.mpr c_184)
          refine CW.ct rfl h_185 ?_
          refine CW.seq ?_
          refine CW.region ?_
          refine WL.val Wanted.none (Runs.move rfl) ?_
          refine WL.val Wanted.none (Runs.eql rfl rfl rfl) ?_
          refine WL.val Wanted.none (Runs.move rfl) ?_
          obtain ⟨c_186, H⟩ := H
          have h_187 : (r_162 == 1) = true := (beq_iff_eq.mpr c_186)
          refine WL.on ?_ ?_; exact Wanted.guard (dj := 51) (by rfl) (evb (by rfl) h_187) (by rfl)
          refine WL.val Wanted.none (Runs.move rfl) ?_
          refine WL.on ?_ ?_; exact Wanted.guard (dj := 51) (by rfl) (evb (by rfl) h_187) (by rfl)
          refine WL.val Wanted.none (Runs.len_sl Tryd.underlying26 rfl (by rw [hn_160])) ?_
          refine WL.on ?_ ?_; exact Wanted.guard (dj := 51) (by rfl) (evb (by rfl) h_187) (by rfl)
          refine WL.val Wanted.none (Runs.eql rfl rfl rfl) ?_
          refine WL.val Wanted.none (Runs.pick_t (evb rfl h_187) rfl) ?_
          refine WL.val Wanted.none (Runs.move rfl) ?_
          obtain ⟨c_188, H⟩ := H
          have h_189 : ((r_156.length : Int) == 0) = true := (beq_iff_eq.mpr c_188)
          refine WL.on ?_ ?_; exact Wanted.guard (dj := 56) (by rfl) (evb (by rfl) h_189) (by rfl)
          refine WL.val Wanted.none (Runs.move rfl) ?_
          refine WL.on ?_ ?_; exact Wanted.guard (dj := 56) (by rfl) (evb (by rfl) h_189) (by rfl)
          refine WL.val Wanted.none (Runs.move rfl) ?_
          refine WL.on ?_ ?_; exact Wanted.guard (dj := 58) (by rfl) (by rfl) (by rfl)
          refine WL.val Wanted.none (Runs.move rfl) ?_
          refine WL.on ?_ ?_; exact Wanted.guard (dj := 58) (by rfl) (by rfl) (by rfl)
          refine WL.val Wanted.none (Runs.eql rfl rfl rfl) ?_
          refine WL.on ?_ ?_; exact Wanted.guard (dj := 56) (by rfl) (evb (by rfl) h_189) (by rfl)
          refine WL.val Wanted.none (Runs.pick_t rfl rfl) ?_
          refine WL.on ?_ ?_; exact Wanted.guard (dj := 56) (by rfl) (evb (by rfl) h_189) (by rfl)
          refine WL.val Wanted.none (Runs.move rfl) ?_
          obtain ⟨c_190, H⟩ := H
          have h_191 : (r_181 == 11) = true := (beq_iff_eq.mpr c_190)
          refine WL.off ?_ ?_; exact Wanted.guard (dj := 62) (by rfl) (evb (by rfl) h_191) (by rfl)
          refine WL.off ?_ ?_; exact Wanted.guard (dj := 62) (by rfl) (evb (by rfl) h_191) (by rfl)
          refine WL.off ?_ ?_; exact Wanted.guard (dj := 62) (by rfl) (evb (by rfl) h_191) (by rfl)
          refine WL.off ?_ ?_; exact Wanted.undef (dj := 65) rfl rfl
          refine WL.off ?_ ?_; exact Wanted.undef (dj := 65) rfl rfl
          refine WL.off ?_ ?_; exact Wanted.guard (dj := 62) (by rfl) (evb (by rfl) h_191) (by rfl)
          refine WL.on ?_ ?_; exact Wanted.guard (dj := 56) (by rfl) (evb (by rfl) h_189) (by rfl)
          refine WL.val Wanted.none (Runs.pick_t (evb rfl h_191) rfl) ?_
          refine WL.val Wanted.none (Runs.pick_t (evb rfl h_189) rfl) ?_
          refine WL.val Wanted.none (Runs.assign rfl) ?_
          refine WL.nil ?_
          refine QW.then_n ?_
          refine CW.sub [(2, .int .u64 a2), (6, .bool true), (10, .int .i64 r_162), (13, .int .i64 r_181)] ⟨rfl, rfl, rfl, rfl, trivial⟩ ?_
          refine CW.ret ?_
          refine QW.then_r ?_
          exact QW.ret1 rfl rfl ⟨rfl, st_172.ext⟩
        · have h_185 : (a2 == 0) = false := (beq_eq_false_iff_ne.mpr c_184)
          refine CW.cf rfl h_185 ?_
          refine CW.skip ?_
          refine QW.then_n ?_
          refine CW.sub [(2, .int .u64 a2), (6, .bool false), (10, .int .i64 r_162), (13, .int .i64 r_181)] ⟨rfl, rfl, rfl, rfl, trivial⟩ ?_
          refine CW.seq ?_
          refine CW.region ?_
          refine WL.val Wanted.none (Runs.move rfl) ?_
          refine WL.val Wanted.none (Runs.eql rfl rfl rfl) ?_
          refine WL.val Wanted.none (Runs.move rfl) ?_
          refine WL.val Wanted.none (Runs.eql rfl rfl rfl) ?_
          refine WL.val Wanted.none (Runs.eqb Tryd.underlying4 rfl rfl rfl) ?_
          refine WL.val Wanted.none (Runs.move rfl) ?_
          obtain ⟨c_192, H⟩ := H
          have h_193 : ((a2 == 18446744073709551615) == (r_162 == 15)) = true := (beq_iff_eq.mpr c_192)
          refine WL.on ?_ ?_; exact Wanted.guard (dj := 76) (by rfl) (evb (by rfl) h_193) (by rfl)
          refine WL.val Wanted.none (Runs.move rfl) ?_
          refine WL.on ?_ ?_; exact Wanted.guard (dj := 76) (by rfl) (evb (by rfl) h_193) (by rfl)
          refine WL.val Wanted.none (Runs.eql rfl rfl rfl) ?_
          refine WL.on ?_ ?_; exact Wanted.guard (dj := 76) (by rfl) (evb (by rfl) h_193) (by rfl)
          refine WL.val Wanted.none (Runs.move rfl) ?_
          refine WL.on ?_ ?_; exact Wanted.guard (dj := 76) (by rfl) (evb (by rfl) h_193) (by rfl)
          refine WL.val Wanted.none (Runs.lss rfl rfl rfl) ?_
          refine WL.on ?_ ?_; exact Wanted.guard (dj := 76) (by rfl) (evb (by rfl) h_193) (by rfl)
          refine WL.val Wanted.none (Runs.eqb Tryd.underlying4 rfl rfl rfl) ?_
          refine WL.val Wanted.none (Runs.pick_t (evb rfl h_193) rfl) ?_
          refine WL.val Wanted.none (Runs.move rfl) ?_
          obtain ⟨c_194, H⟩ := H
          have h_195 : ((r_162 == 0) == (decide (a2 < 18446744073709551615))) = true := (beq_iff_eq.mpr c_194)
          refine WL.on ?_ ?_; exact Wanted.guard (dj := 83) (by rfl) (evb (by rfl) h_195) (by rfl)
          refine WL.val Wanted.none (Runs.move rfl) ?_
          refine WL.on ?_ ?_; exact Wanted.guard (dj := 83) (by rfl) (evb (by rfl) h_195) (by rfl)
          refine WL.val Wanted.none (Runs.eql rfl rfl rfl) ?_
          refine WL.val Wanted.none (Runs.pick_t (evb rfl h_195) rfl) ?_
          refine WL.val Wanted.none (Runs.assign rfl) ?_
          refine WL.nil ?_
          refine QW.then_n ?_
          refine CW.sub [(6, .bool (r_181 == 11))] ⟨rfl, trivial⟩ ?_
          refine CW.ret ?_
          have hz : (r_181 == 11) = true := (beq_iff_eq.mpr H)
          exact QW.ret1 rfl (evb rfl hz) ⟨rfl, st_172.ext⟩
      · have h_183 : ((IntKind.i64.wrap (Int.tmod a1 400)) == 160) = false := (beq_eq_false_iff_ne.mpr c_182)
        refine WL.on ?_ ?_; exact Wanted.guard (dj := 39) (by rfl) (evb (by rfl) h_183) (by rfl)
        refine WL.val Wanted.none (Runs.move rfl) ?_
        refine WL.on ?_ ?_; exact Wanted.guard (dj := 39) (by rfl) (evb (by rfl) h_183) (by rfl)
        refine WL.val Wanted.none (Runs.eql rfl rfl rfl) ?_
        refine WL.val Wanted.none (Runs.pick_f (evb rfl h_183) rfl) ?_
        refine WL.val Wanted.none (Runs.assign rfl) ?_
        refine WL.nil ?_
        refine QW.then_n ?_
        refine CW.sub [(2, .int .u64 a2), (6, .bool false), (9, .slice A_157 n_159 c_158), (10, .int .i64 r_162), (13, .int .i64 r_181), (14, .bool ((IntKind.i64.wrap (Int.tmod a1 400)) == 176))] ⟨rfl, rfl, rfl, rfl, rfl, rfl, trivial⟩ ?_
        refine CW.seq ?_
        refine CW.seq ?_
        refine CW.region ?_
        refine WL.val Wanted.none (Runs.move rfl) ?_
        refine WL.val Wanted.none (Runs.not rfl rfl) ?_
        refine WL.val Wanted.none (Runs.move rfl) ?_
        rcases H with ⟨c_196, H⟩ | ⟨c_196, H⟩
        · have h_197 : (!((IntKind.i64.wrap (Int.tmod a1 400)) == 176)) = true := (not_t (beq_eq_false_iff_ne.mpr c_196))
          refine WL.off ?_ ?_; exact Wanted.guard (dj := 45) (by rfl) (evb (by rfl) h_197) (by rfl)
          refine WL.off ?_ ?_; exact Wanted.guard (dj := 45) (by rfl) (evb (by rfl) h_197) (by rfl)
          refine WL.val Wanted.none (Runs.pick_t (evb rfl h_197) rfl) ?_
          refine WL.nil ?_
          refine QW.then_n ?_
          refine CW.ct rfl rfl ?_
          refine CW.seq ?_
          refine CW.region ?_
          refine WL.val Wanted.none (Runs.move rfl) ?_
          refine WL.val Wanted.none (Runs.eql rfl rfl rfl) ?_
          refine WL.val Wanted.none (Runs.move rfl) ?_
          obtain ⟨c_198, H⟩ := H
          have h_199 : (r_162 == 1) = true := (beq_iff_eq.mpr c_198)
          refine WL.on ?_ ?_; exact Wanted.guard (dj := 51) (by rfl) (evb (by rfl) h_199) (by rfl)
          refine WL.val Wanted.none (Runs.move rfl) ?_
          refine WL.on ?_ ?_; exact Wanted.guard (dj := 51) (by rfl) (evb (by rfl) h_199) (by rfl)
          refine WL.val Wanted.none (Runs.len_sl Tryd.underlying26 rfl (by rw [hn_160])) ?_
          refine WL.on ?_ ?_; exact Wanted.guard (dj := 51) (by rfl) (evb (by rfl) h_199) (by rfl)
          refine WL.val Wanted.none (Runs.eql rfl rfl rfl) ?_
          refine WL.val Wanted.none (Runs.pick_t (evb rfl h_199) rfl) ?_
          refine WL.val Wanted.none (Runs.move rfl) ?_
          obtain ⟨c_200, H⟩ := H
          have h_201 : ((r_156.length : Int) == 0) = true := (beq_iff_eq.mpr c_200)
          refine WL.on ?_ ?_; exact Wanted.guard (dj := 56) (by rfl) (evb (by rfl) h_201) (by rfl)
          refine WL.val Wanted.none (Runs.move rfl) ?_
          refine WL.on ?_ ?_; exact Wanted.guard (dj := 56) (by rfl) (evb (by rfl) h_201) (by rfl)
          refine WL.val Wanted.none (Runs.move rfl) ?_
          rcases H with ⟨c_202, H⟩ | ⟨c_202, H⟩
          · have h_203 : ((IntKind.i64.wrap (Int.tmod a1 400)) == 176) = true := (beq_iff_eq.mpr c_202)
            refine WL.on ?_ ?_; exact Wanted.guard (dj := 58) (by rfl) (evb (by rfl) h_203) (by rfl)
            refine WL.val Wanted.none (Runs.move rfl) ?_
            refine WL.on ?_ ?_; exact Wanted.guard (dj := 58) (by rfl) (evb (by rfl) h_203) (by rfl)
            refine WL.val Wanted.none (Runs.eql rfl rfl rfl) ?_
            refine WL.on ?_ ?_; exact Wanted.guard (dj := 56) (by rfl) (evb (by rfl) h_201) (by rfl)
            refine WL.val Wanted.none (Runs.pick_t (evb rfl h_203) rfl) ?_
            refine WL.on ?_ ?_; exact Wanted.guard (dj := 56) (by rfl) (evb (by rfl) h_201) (by rfl)
            refine WL.val Wanted.none (Runs.move rfl) ?_
            obtain ⟨c_204, H⟩ := H
            have h_205 : (r_181 == 11) = true := (beq_iff_eq.mpr c_204)
            refine WL.off ?_ ?_; exact Wanted.guard (dj := 62) (by rfl) (evb (by rfl) h_205) (by rfl)
            refine WL.off ?_ ?_; exact Wanted.guard (dj := 62) (by rfl) (evb (by rfl) h_205) (by rfl)
            refine WL.off ?_ ?_; exact Wanted.guard (dj := 62) (by rfl) (evb (by rfl) h_205) (by rfl)
            refine WL.off ?_ ?_; exact Wanted.undef (dj := 65) rfl rfl
            refine WL.off ?_ ?_; exact Wanted.undef (dj := 65) rfl rfl
            refine WL.off ?_ ?_; exact Wanted.guard (dj := 62) (by rfl) (evb (by rfl) h_205) (by rfl)
            refine WL.on ?_ ?_; exact Wanted.guard (dj := 56) (by rfl) (evb (by rfl) h_201) (by rfl)
            refine WL.val Wanted.none (Runs.pick_t (evb rfl h_205) rfl) ?_
            refine WL.val Wanted.none (Runs.pick_t (evb rfl h_201) rfl) ?_
            refine WL.val Wanted.none (Runs.assign rfl) ?_
            refine WL.nil ?_
            refine QW.then_n ?_
            refine CW.sub [(2, .int .u64 a2), (6, .bool true), (10, .int .i64 r_162), (13, .int .i64 r_181)] ⟨rfl, rfl, rfl, rfl, trivial⟩ ?_
            refine CW.ret ?_
            refine QW.then_r ?_
            exact QW.ret1 rfl rfl ⟨rfl, st_172.ext⟩
          · have h_203 : ((IntKind.i64.wrap (Int.tmod a1 400)) == 176) = false := (beq_eq_false_iff_ne.mpr c_202)
            refine WL.off ?_ ?_; exact Wanted.guard (dj := 58) (by rfl) (evb (by rfl) h_203) (by rfl)
            refine WL.off ?_ ?_; exact Wanted.guard (dj := 58) (by rfl) (evb (by rfl) h_203) (by rfl)
            refine WL.on ?_ ?_; exact Wanted.guard (dj := 56) (by rfl) (evb (by rfl) h_201) (by rfl)
            refine WL.val Wanted.none (Runs.pick_f (evb rfl h_203) rfl) ?_
            refine WL.on ?_ ?_; exact Wanted.guard (dj := 56) (by rfl) (evb (by rfl) h_201) (by rfl)
            refine WL.val Wanted.none (Runs.move rfl) ?_
            refine WL.on ?_ ?_; exact Wanted.guard (dj := 62) (by rfl) (by rfl) (by rfl)
            refine WL.val Wanted.none (Runs.move rfl) ?_
            refine WL.on ?_ ?_; exact Wanted.guard (dj := 62) (by rfl) (by rfl) (by rfl)
            refine WL.val Wanted.none (Runs.not (evb rfl h_203) rfl) ?_
            refine WL.on ?_ ?_; exact Wanted.guard (dj := 62) (by rfl) (by rfl) (by rfl)
            refine WL.val Wanted.none (Runs.move rfl) ?_
            refine WL.on ?_ ?_; exact Wanted.guard (dj := 65) (by rfl) (by rfl) (by rfl)
            refine WL.val Wanted.none (Runs.move rfl) ?_
            refine WL.on ?_ ?_; exact Wanted.guard (dj := 65) (by rfl) (by rfl) (by rfl)
            refine WL.val Wanted.none (Runs.eql rfl rfl rfl) ?_
            refine WL.on ?_ ?_; exact Wanted.guard (dj := 62) (by rfl) (by rfl) (by rfl)
            refine WL.val Wanted.none (Runs.pick_t rfl rfl) ?_
            refine WL.on ?_ ?_; exact Wanted.guard (dj := 56) (by rfl) (evb (by rfl) h_201) (by rfl)
            refine WL.val Wanted.none (Runs.pick_f rfl rfl) ?_
            refine WL.val Wanted.none (Runs.pick_t (evb rfl h_201) rfl) ?_
            refine WL.val Wanted.none (Runs.assign rfl) ?_
            refine WL.nil ?_
            refine QW.then_n ?_
            refine CW.sub [(2, .int .u64 a2), (6, .bool (r_181 == 1)), (10, .int .i64 r_162), (13, .int .i64 r_181)] ⟨rfl, rfl, rfl, rfl, trivial⟩ ?_
            refine CW.ret ?_
            refine QW.then_r ?_
            have hz : (r_181 == 1) = true := (beq_iff_eq.mpr H)
            exact QW.ret1 rfl (evb rfl hz) ⟨rfl, st_172.ext⟩
        · have h_197 : (!((IntKind.i64.wrap (Int.tmod a1 400)) == 176)) = false := (not_f (beq_iff_eq.mpr (Decidable.not_not.mp c_196)))
          refine WL.on ?_ ?_; exact Wanted.guard (dj := 45) (by rfl) (evb (by rfl) h_197) (by rfl)
          refine WL.val Wanted.none (Runs.move rfl) ?_
          refine WL.on ?_ ?_; exact Wanted.guard (dj := 45) (by rfl) (evb (by rfl) h_197) (by rfl)
          refine WL.val Wanted.none (Runs.eql rfl rfl rfl) ?_
          refine WL.val Wanted.none (Runs.pick_f (evb rfl h_197) rfl) ?_
          refine WL.nil ?_
          refine QW.then_n ?_
          rcases H with ⟨c_206, H⟩ | ⟨c_206, H⟩
          · have h_207 : (a2 == 0) = true := (beq_iff_eq.mpr c_206)
            refine CW.ct rfl h_207 ?_
            refine CW.seq ?_
            refine CW.region ?_
            refine WL.val Wanted.none (Runs.move rfl) ?_
            refine WL.val Wanted.none (Runs.eql rfl rfl rfl) ?_
            refine WL.val Wanted.none (Runs.move rfl) ?_
            obtain ⟨c_208, H⟩ := H
            have h_209 : (r_162 == 1) = true := (beq_iff_eq.mpr c_208)
            refine WL.on ?_ ?_; exact Wanted.guard (dj := 51) (by rfl) (evb (by rfl) h_209) (by rfl)
            refine WL.val Wanted.none (Runs.move rfl) ?_
            refine WL.on ?_ ?_; exact Wanted.guard (dj := 51) (by rfl) (evb (by rfl) h_209) (by rfl)
            refine WL.val Wanted.none (Runs.len_sl Tryd.underlying26 rfl (by rw [hn_160])) ?_
            refine WL.on ?_ ?_; exact Wanted.guard (dj := 51) (by rfl) (evb (by rfl) h_209) (by rfl)
            refine WL.val Wanted.none (Runs.eql rfl rfl rfl) ?_
            refine WL.val Wanted.none (Runs.pick_t (evb rfl h_209) rfl) ?_
            refine WL.val Wanted.none (Runs.move rfl) ?_
            obtain ⟨c_210, H⟩ := H
            have h_211 : ((r_156.length : Int) == 0) = true := (beq_iff_eq.mpr c_210)
            refine WL.on ?_ ?_; exact Wanted.guard (dj := 56) (by rfl) (evb (by rfl) h_211) (by rfl)
            refine WL.val Wanted.none (Runs.move rfl) ?_
            refine WL.on ?_ ?_; exact Wanted.guard (dj := 56) (by rfl) (evb (by rfl) h_211) (by rfl)
            refine WL.val Wanted.none (Runs.move rfl) ?_
            rcases H with ⟨c_212, H⟩ | ⟨c_212, H⟩
            · have h_213 : ((IntKind.i64.wrap (Int.tmod a1 400)) == 176) = true := (beq_iff_eq.mpr c_212)
              refine WL.on ?_ ?_; exact Wanted.guard (dj := 58) (by rfl) (evb (by rfl) h_213) (by rfl)
              refine WL.val Wanted.none (Runs.move rfl) ?_
              refine WL.on ?_ ?_; exact Wanted.guard (dj := 58) (by rfl) (evb (by rfl) h_213) (by rfl)
              refine WL.val Wanted.none (Runs.eql rfl rfl rfl) ?_
              refine WL.on ?_ ?_; exact Wanted.guard (dj := 56) (by rfl) (evb (by rfl) h_211) (by rfl)
              refine WL.val Wanted.none (Runs.pick_t (evb rfl h_213) rfl) ?_
              refine WL.on ?_ ?_; exact Wanted.guard (dj := 56) (by rfl) (evb (by rfl) h_211) (by rfl)
              refine WL.val Wanted.none (Runs.move rfl) ?_
              obtain ⟨c_214, H⟩ := H
              have h_215 : (r_181 == 11) = true := (beq_iff_eq.mpr c_214)
              refine WL.off ?_ ?_; exact Wanted.guard (dj := 62) (by rfl) (evb (by rfl) h_215) (by rfl)
              refine WL.off ?_ ?_; exact Wanted.guard (dj := 62) (by rfl) (evb (by rfl) h_215) (by rfl)
              refine WL.off ?_ ?_; exact Wanted.guard (dj := 62) (by rfl) (evb (by rfl) h_215) (by rfl)
              refine WL.off ?_ ?_; exact Wanted.undef (dj := 65) rfl rfl
              refine WL.off ?_ ?_; exact Wanted.undef (dj := 65) rfl rfl
              refine WL.off ?_ ?_; exact Wanted.guard (dj := 62) (by rfl) (evb (by rfl) h_215) (by rfl)
              refine WL.on ?_ ?_; exact Wanted.guard (dj := 56) (by rfl) (evb (by rfl) h_211) (by rfl)
              refine WL.val Wanted.none (Runs.pick_t (evb rfl h_215) rfl) ?_
              refine WL.val Wanted.none (Runs.pick_t (evb rfl h_211) rfl) ?_
              refine WL.val Wanted.none (Runs.assign rfl) ?_
              refine WL.nil ?_
              refine QW.then_n ?_
              refine CW.sub [(2, .int .u64 a2), (6, .bool true), (10, .int .i64 r_162), (13, .int .i64 r_181)] ⟨rfl, rfl, rfl, rfl, trivial⟩ ?_
              refine CW.ret ?_
              refine QW.then_r ?_
              exact QW.ret1 rfl rfl ⟨rfl, st_172.ext⟩
            · have h_213 : ((IntKind.i64.wrap (Int.tmod a1 400)) == 176) = false := (beq_eq_false_iff_ne.mpr c_212)
              refine WL.off ?_ ?_; exact Wanted.guard (dj := 58) (by rfl) (evb (by rfl) h_213) (by rfl)
              refine WL.off ?_ ?_; exact Wanted.guard (dj := 58) (by rfl) (evb (by rfl) h_213) (by rfl)
              refine WL.on ?_ ?_; exact Wanted.guard (dj := 56) (by rfl) (evb (by rfl) h_211) (by rfl)
              refine WL.val Wanted.none (Runs.pick_f (evb rfl h_213) rfl) ?_
              refine WL.on ?_ ?_; exact Wanted.guard (dj := 56) (by rfl) (evb (by rfl) h_211) (by rfl)
              refine WL.val Wanted.none (Runs.move rfl) ?_
              refine WL.on ?_ ?_; exact Wanted.guard (dj := 62) (by rfl) (by rfl) (by rfl)
              refine WL.val Wanted.none (Runs.move rfl) ?_
              refine WL.on ?_ ?_; exact Wanted.guard (dj := 62) (by rfl) (by rfl) (by rfl)
              refine WL.val Wanted.none (Runs.not (evb rfl h_213) rfl) ?_
              refine WL.on ?_ ?_; exact Wanted.guard (dj := 62) (by rfl) (by rfl) (by rfl)
              refine WL.val Wanted.none (Runs.move rfl) ?_
              refine WL.on ?_ ?_; exact Wanted.guard (dj := 65) (by rfl) (by rfl) (by rfl)
              refine WL.val Wanted.none (Runs.move rfl) ?_
              refine WL.on ?_ ?_; exact Wanted.guard (dj := 65) (by rfl) (by rfl) (by rfl)
              refine WL.val Wanted.none (Runs.eql rfl rfl rfl) ?_
              refine WL.on ?_ ?_; exact Wanted.guard (dj := 62) (by rfl) (by rfl) (by rfl)
              refine WL.val Wanted.none (Runs.pick_t rfl rfl) ?_
              refine WL.on ?_ ?_; exact Wanted.guard (dj := 56) (by rfl) (evb (by rfl) h_211) (by rfl)
              refine WL.val Wanted.none (Runs.pick_f rfl rfl) ?_
              refine WL.val Wanted.none (Runs.pick_t (evb rfl h_211) rfl) ?_
              refine WL.val Wanted.none (Runs.assign rfl) ?_
              refine WL.nil ?_
              refine QW.then_n ?_
              refine CW.sub [(2, .int .u64 a2), (6, .bool (r_181 == 1)), (10, .int .i64 r_162), (13, .int .i64 r_181)] ⟨rfl, rfl, rfl, rfl, trivial⟩ ?_
              refine CW.ret ?_
              refine QW.then_r ?_
              have hz : (r_181 == 1) = true := (beq_iff_eq.mpr H)
              exact QW.ret1 rfl (evb rfl hz) ⟨rfl, st_172.ext⟩
          · have h_207 : (a2 == 0) = false := (beq_eq_false_iff_ne.mpr c_206)
            refine CW.cf rfl h_207 ?_
            refine CW.skip ?_
            refine QW.then_n ?_
            refine CW.sub [(2, .int .u64 a2), (6, .bool false), (10, .int .i64 r_162), (13, .int .i64 r_181)] ⟨rfl, rfl, rfl, rfl, trivial⟩ ?_
            refine CW.seq ?_
            refine CW.region ?_
            refine WL.val Wanted.none (Runs.move rfl) ?_
            refine WL.val Wanted.none (Runs.eql rfl rfl rfl) ?_
            refine WL.val Wanted.none (Runs.move rfl) ?_
            refine WL.val Wanted.none (Runs.eql rfl rfl rfl) ?_
            refine WL.val Wanted.none (Runs.eqb Tryd.underlying4 rfl rfl rfl) ?_
            refine WL.val Wanted.none (Runs.move rfl) ?_
            obtain ⟨c_216, H⟩ := H
            have h_217 : ((a2 == 18446744073709551615) == (r_162 == 15)) = true := (beq_iff_eq.mpr c_216)
            refine WL.on ?_ ?_; exact Wanted.guard (dj := 76) (by rfl) (evb (by rfl) h_217) (by rfl)
            refine WL.val Wanted.none (Runs.move rfl) ?_
            refine WL.on ?_ ?_; exact Wanted.guard (dj := 76) (by rfl) (evb (by rfl) h_217) (by rfl)
            refine WL.val Wanted.none (Runs.eql rfl rfl rfl) ?_
            refine WL.on ?_ ?_; exact Wanted.guard (dj := 76) (by rfl) (evb (by rfl) h_217) (by rfl)
            refine WL.val Wanted.none (Runs.move rfl) ?_
            refine WL.on ?_ ?_; exact Wanted.guard (dj := 76) (by rfl) (evb (by rfl) h_217) (by rfl)
            refine WL.val Wanted.none (Runs.lss rfl rfl rfl) ?_
            refine WL.on ?_ ?_; exact Wanted.guard (dj := 76) (by rfl) (evb (by rfl) h_217) (by rfl)
            refine WL.val Wanted.none (Runs.eqb Tryd.underlying4 rfl rfl rfl) ?_
            refine WL.val Wanted.none (Runs.pick_t (evb rfl h_217) rfl) ?_
            refine WL.val Wanted.none (Runs.move rfl) ?_
            obtain ⟨c_218, H⟩ := H
            have h_219 : ((r_162 == 0) == (decide (a2 < 18446744073709551615))) = true := (beq_iff_eq.mpr c_218)
            refine WL.on ?_ ?_; exact Wanted.guard (dj := 83) (by rfl) (evb (by rfl) h_219) (by rfl)
            refine WL.val Wanted.none (Runs.move rfl) ?_
            refine WL.on ?_ ?_; exact Wanted.guard (dj := 83) (by rfl) (evb (by rfl) h_219) (by rfl)
            refine WL.val Wanted.none (Runs.eql rfl rfl rfl) ?_
            refine WL.val Wanted.none (Runs.pick_t (evb rfl h_219) rfl) ?_
            refine WL.val Wanted.none (Runs.assign rfl) ?_
            refine WL.nil ?_
            refine QW.then_n ?_
            refine CW.sub [(6, .bool (r_181 == 11))] ⟨rfl, trivial⟩ ?_
            refine CW.ret ?_
            have hz : (r_181 == 11) = true := (beq_iff_eq.mpr H)
            exact QW.ret1 rfl (evb rfl hz) ⟨rfl, st_172.ext⟩
    · refine WL.make st_164 Tryd.underlying26 elem5 rfl rfl (by decide) (by decide) (by decide) (N := 192) rfl ?_
      intro B_220 w_221 st_222
      replace st_222 : St w w_221 [.sl (some ⟨B_220, 0, none⟩) 192 192 (iv .u8 (List.replicate 192 (0 : Int))) 5 1, .sl A_157 c_158 n_159 (iv .u8 r_156) 5 1, .sl (some ⟨B_147, 0, none⟩) n_145 n_145 (iv .u8 (List.replicate (IntKind.i64.wrap (Int.tmod a1 400)).toNat (0 : Int))) 5 1, .cells B_1 (iv .u8 l0) 23] := by rw [iv_replicate] at st_222; exact st_222
      have hn_223 : 192 = (List.replicate 192 (0 : Int)).length := by simp
      refine WL.nil ?_
      refine AW.back ?_
      refine AW.step 0 rfl (by kernel_rfl) ?_
      refine WL.val Wanted.none (Runs.load_arr arr23 rfl (st_222.blk (i := 3) rfl) hl0) ?_
      refine WL.nil ?_
      refine AW.back ?_
      refine AW.step 3 rfl (by kernel_rfl) ?_
      obtain ⟨r_229, r_230, r_236, hr_225, H⟩ := H
      refine WL.call Wanted.none ent12 rfl (seal_Open.calls w_221 l0 0 (List.replicate 192 (0 : Int)) (IntKind.i64.wrap (Int.tmod a1 400)) (some ⟨B_220, 0, none⟩) 192 192 (hG0.ext st_222) hl0 (st_222.src_sl (k := 0) rfl) (hn_223) (st_222.cap (i := 0) rfl) r_229 r_230 r_236 hr_225) ?_
      rintro _ w_226 ⟨A_231, c_232, n_233, hn_234, rfl, sc_228⟩
      have st_227 : St w w_226 [.sl A_231 c_232 n_233 (iv .u8 r_230) 5 1, .sl (some ⟨B_220, 0, none⟩) 192 192 (iv .u8 (List.replicate 192 (0 : Int))) 5 1, .sl A_157 c_158 n_159 (iv .u8 r_156) 5 1, .sl (some ⟨B_147, 0, none⟩) n_145 n_145 (iv .u8 (List.replicate (IntKind.i64.wrap (Int.tmod a1 400)).toNat (0 : Int))) 5 1, .cells B_1 (iv .u8 l0) 23] := st_222.call sc_228
      refine ⟨_, rfl, ?_⟩
      refine WL.nil ?_
      refine AW.back ?_
      refine AW.take 4 rfl (by kernel_rfl) (by kernel_rfl) (by kernel_rfl) Wanted.none (fun _ => (Runs.move rfl)) ?_
      refine AW.take 5 rfl (by kernel_rfl) (by kernel_rfl) (by kernel_rfl) Wanted.none (fun _ => (Runs.extract rfl rfl)) ?_
      refine AW.take 6 rfl (by kernel_rfl) (by kernel_rfl) (by kernel_rfl) Wanted.none (fun _ => (Runs.extract rfl rfl)) ?_
      refine AW.take 7 rfl (by kernel_rfl) (by kernel_rfl) (by kernel_rfl) Wanted.none (fun _ => (Runs.extract rfl rfl)) ?_
      refine AW.take 8 rfl (by kernel_rfl) (by kernel_rfl) (by kernel_rfl) Wanted.none (fun _ => (Runs.assign rfl)) ?_
      refine AW.take 9 rfl (by kernel_rfl) (by kernel_rfl) (by kernel_rfl) Wanted.none (fun _ => (Runs.assign rfl)) ?_
      refine AW.take 10 rfl (by kernel_rfl) (by kernel_rfl) (by kernel_rfl) Wanted.none (fun _ => (Runs.assign rfl)) ?_
      refine AW.done (by kernel_rfl) ?_
      refine QW.then_n ?_
      refine CW.sub [(2, .int .u64 a2), (6, .bool false), (8, .int .i64 (IntKind.i64.wrap (Int.tmod a1 400))), (9, .slice A_157 n_159 c_158), (10, .int .i64 r_162), (13, .int .i64 r_236)] ⟨rfl, rfl, rfl, rfl, rfl, rfl, trivial⟩ ?_
      refine CW.seq ?_
      refine CW.region ?_
      refine WL.val Wanted.none (Runs.move rfl) ?_
      refine WL.val Wanted.none (Runs.eql rfl rfl rfl) ?_
      refine WL.val Wanted.none (Runs.move rfl) ?_
      rcases H with ⟨c_237, H⟩ | ⟨c_237, H⟩
      · have h_238 : ((IntKind.i64.wrap (Int.tmod a1 400)) == 160) = true := (beq_iff_eq.mpr c_237)
        refine WL.off ?_ ?_; exact Wanted.guard (dj := 39) (by rfl) (evb (by rfl) h_238) (by rfl)
        refine WL.off ?_ ?_; exact Wanted.guard (dj := 39) (by rfl) (evb (by rfl) h_238) (by rfl)
        refine WL.val Wanted.none (Runs.pick_t (evb rfl h_238) rfl) ?_
        refine WL.val Wanted.none (Runs.assign rfl) ?_
        refine WL.nil ?_
        refine QW.then_n ?_
        refine CW.sub [(2, .int .u64 a2), (6, .bool false), (9, .slice A_157 n_159 c_158), (10, .int .i64 r_162), (13, .int .i64 r_236), (14, .bool true)] ⟨rfl, rfl, rfl, rfl, rfl, rfl, trivial⟩ ?_
        refine CW.seq ?_
        refine CW.seq ?_
        refine CW.region ?_
        refine WL.val Wanted.none (Runs.move rfl) ?_
        refine WL.val Wanted.none (Runs.not rfl rfl) ?_
        refine WL.val Wanted.none (Runs.move rfl) ?_
        refine WL.on ?_ ?_; exact Wanted.guard (dj := 45) (by rfl) (by rfl) (by rfl)
        refine WL.val Wanted.none (Runs.move rfl) ?_
        refine WL.on ?_ ?_; exact Wanted.guard (dj := 45) (by rfl) (by rfl) (by rfl)
        refine WL.val Wanted.none (Runs.eql rfl rfl rfl) ?_
        refine WL.val Wanted.none (Runs.pick_f rfl rfl) ?_
        refine WL.nil ?_
        refine QW.then_n ?_
        rcases H with ⟨c_239, H⟩ | ⟨c_239, H⟩
        · have h_240 : (a2 == 0) = true := (beq_iff_eq.mpr c_239)
          refine CW.ct rfl h_240 ?_
          refine CW.seq ?_
          refine CW.region ?_
          refine WL.val Wanted.none (Runs.move rfl) ?_
          refine WL.val Wanted.none (Runs.eql rfl rfl rfl) ?_
          refine WL.val Wanted.none (Runs.move rfl) ?_
          obtain ⟨c_241, H⟩ := H
          have h_242 : (r_162 == 1) = true := (beq_iff_eq.mpr c_241)
          refine WL.on ?_ ?_; exact Wanted.guard (dj := 51) (by rfl) (evb (by rfl) h_242) (by rfl)
          refine WL.val Wanted.none (Runs.move rfl) ?_
          refine WL.on ?_ ?_; exact Wanted.guard (dj := 51) (by rfl) (evb (by rfl) h_242) (by rfl)
          refine WL.val Wanted.none (Runs.len_sl Tryd.underlying26 rfl (by rw [hn_160])) ?_
          refine WL.on ?_ ?_; exact Wanted.guard (dj := 51) (by rfl) (evb (by rfl) h_242) (by rfl)
          refine WL.val Wanted.none (Runs.eql rfl rfl rfl) ?_
          refine WL.val Wanted.none (Runs.pick_t (evb rfl h_242) rfl) ?_
          refine WL.val Wanted.none (Runs.move rfl) ?_
          obtain ⟨c_243, H⟩ := H
          have h_244 : ((r_156.length : Int) == 0) = true := (beq_iff_eq.mpr c_243)
          refine WL.on ?_ ?_; exact Wanted.guard (dj := 56) (by rfl) (evb (by rfl) h_244) (by rfl)
          refine WL.val Wanted.none (Runs.move rfl) ?_
          refine WL.on ?_ ?_; exact Wanted.guard (dj := 56) (by rfl) (evb (by rfl) h_244) (by rfl)
          refine WL.val Wanted.none (Runs.move rfl) ?_
          refine WL.on ?_ ?_; exact Wanted.guard (dj := 58) (by rfl) (by rfl) (by rfl)
          refine WL.val Wanted.none (Runs.move rfl) ?_
          refine WL.on ?_ ?_; exact Wanted.guard (dj := 58) (by rfl) (by rfl) (by rfl)
          refine WL.val Wanted.none (Runs.eql rfl rfl rfl) ?_
          refine WL.on ?_ ?_; exact Wanted.guard (dj := 56) (by rfl) (evb (by rfl) h_244) (by rfl)
          refine WL.val Wanted.none (Runs.pick_t rfl rfl) ?_
          refine WL.on ?_ ?_; exact Wanted.guard (dj := 56) (by rfl) (evb (by rfl) h_244) (by rfl)
          refine WL.val Wanted.none (Runs.move rfl) ?_
          obtain ⟨c_245, H⟩ := H
          have h_246 : (r_236 == 11) = true := (beq_iff_eq.mpr c_245)
          refine WL.off ?_ ?_; exact Wanted.guard (dj := 62) (by rfl) (evb (by rfl) h_246) (by rfl)
          refine WL.off ?_ ?_; exact Wanted.guard (dj := 62) (by rfl) (evb (by rfl) h_246) (by rfl)
          refine WL.off ?_ ?_; exact Wanted.guard (dj := 62) (by rfl) (evb (by rfl) h_246) (by rfl)
          refine WL.off ?_ ?_; exact Wanted.undef (dj := 65) rfl rfl
          refine WL.off ?_ ?_; exact Wanted.undef (dj := 65) rfl rfl
          refine WL.off ?_ ?_; exact Wanted.guard (dj := 62) (by rfl) (evb (by rfl) h_246) (by rfl)
          refine WL.on ?_ ?_; exact Wanted.guard (dj := 56) (by rfl) (evb (by rfl) h_244) (by rfl)
          refine WL.val Wanted.none (Runs.pick_t (evb rfl h_246) rfl) ?_
          refine WL.val Wanted.none (Runs.pick_t (evb rfl h_244) rfl) ?_
          refine WL.val Wanted.none (Runs.assign rfl) ?_
          refine WL.nil ?_
          refine QW.then_n ?_
          refine CW.sub [(2, .int .u64 a2), (6, .bool true), (10, .int .i64 r_162), (13, .int .i64 r_236)] ⟨rfl, rfl, rfl, rfl, trivial⟩ ?_
          refine CW.ret ?_
          refine QW.then_r ?_
          exact QW.ret1 rfl rfl ⟨rfl, st_227.ext⟩
        · have h_240 : (a2 == 0) = false := (beq_eq_false_iff_ne.mpr c_239)
          refine CW.cf rfl h_240 ?_
          refine CW.skip ?_
          refine QW.then_n ?_
          refine CW.sub [(2, .int .u64 a2), (6, .bool false), (10, .int .i64 r_162), (13, .int .i64 r_236)] ⟨rfl, rfl, rfl, rfl, trivial⟩ ?_
          refine CW.seq ?_
          refine CW.region ?_
          refine WL.val Wanted.none (Runs.move rfl) ?_
          refine WL.val Wanted.none (Runs.eql rfl rfl rfl) ?_
          refine WL.val Wanted.none (Runs.move rfl) ?_
          refine WL.val Wanted.none (Runs.eql rfl rfl rfl) ?_
          refine WL.val Wanted.none (Runs.eqb Tryd.underlying4 rfl rfl rfl) ?_
          refine WL.val Wanted.none (Runs.move rfl) ?_
          obtain ⟨c_247, H⟩ := H
          have h_248 : ((a2 == 18446744073709551615) == (r_162 == 15)) = true := (beq_iff_eq.mpr c_247)
          refine WL.on ?_ ?_; exact Wanted.guard (dj := 76) (by rfl) (evb (by rfl) h_248) (by rfl)
          refine WL.val Wanted.none (Runs.move rfl) ?_
          refine WL.on ?_ ?_; exact Wanted.guard (dj := 76) (by rfl) (evb (by rfl) h_248) (by rfl)
          refine WL.val Wanted.none (Runs.eql rfl rfl rfl) ?_
          refine WL.on ?_ ?_; exact Wanted.guard (dj := 76) (by rfl) (evb (by rfl) h_248) (by rfl)
          refine WL.val Wanted.none (Runs.move rfl) ?_
          refine WL.on ?_ ?_; exact Wanted.guard (dj := 76) (by rfl) (evb (by rfl) h_248) (by rfl)
          refine WL.val Wanted.none (Runs.lss rfl rfl rfl) ?_
          refine WL.on ?_ ?_; exact Wanted.guard (dj := 76) (by rfl) (evb (by rfl) h_248) (by rfl)
          refine WL.val Wanted.none (Runs.eqb Tryd.underlying4 rfl rfl rfl) ?_
          refine WL.val Wanted.none (Runs.pick_t (evb rfl h_248) rfl) ?_
          refine WL.val Wanted.none (Runs.move rfl) ?_
          obtain ⟨c_249, H⟩ := H
          have h_250 : ((r_162 == 0) == (decide (a2 < 18446744073709551615))) = true := (beq_iff_eq.mpr c_249)
          refine WL.on ?_ ?_; exact Wanted.guard (dj := 83) (by rfl) (evb (by rfl) h_250) (by rfl)
          refine WL.val Wanted.none (Runs.move rfl) ?_
          refine WL.on ?_ ?_; exact Wanted.guard (dj := 83) (by rfl) (evb (by rfl) h_250) (by rfl)
          refine WL.val Wanted.none (Runs.eql rfl rfl rfl) ?_
          refine WL.val Wanted.none (Runs.pick_t (evb rfl h_250) rfl) ?_
          refine WL.val Wanted.none (Runs.assign rfl) ?_
          refine WL.nil ?_
          refine QW.then_n ?_
          refine CW.sub [(6, .bool (r_236 == 11))] ⟨rfl, trivial⟩ ?_
          refine CW.ret ?_
          have hz : (r_236 == 11) = true := (beq_iff_eq.mpr H)
          exact QW.ret1 rfl (evb rfl hz) ⟨rfl, st_227.ext⟩
      · have h_238 : ((IntKind.i64.wrap (Int.tmod a1 400)) == 160) = false := (beq_eq_false_iff_ne.mpr c_237)
        refine WL.on ?_ ?_; exact Wanted.guard (dj := 39) (by rfl) (evb (by rfl) h_238) (by rfl)
        refine WL.val Wanted.none (Runs.move rfl) ?_
        refine WL.on ?_ ?_; exact Wanted.guard (dj := 39) (by rfl) (evb (by rfl) h_238) (by rfl)
        refine WL.val Wanted.none (Runs.eql rfl rfl rfl) ?_
        refine WL.val Wanted.none (Runs.pick_f (evb rfl h_238) rfl) ?_
        refine WL.val Wanted.none (Runs.assign rfl) ?_
        refine WL.nil ?_
        refine QW.then_n ?_
        refine CW.sub [(2, .int .u64 a2), (6, .bool false), (9, .slice A_157 n_159 c_158), (10, .int .i64 r_162), (13, .int .i64 r_236), (14, .bool ((IntKind.i64.wrap (Int.tmod a1 400)) == 176))] ⟨rfl, rfl, rfl, rfl, rfl, rfl, trivial⟩ ?_
        refine CW.seq ?_
        refine CW.seq ?_
        refine CW.region ?_
        refine WL.val Wanted.none (Runs.move rfl) ?_
        refine WL.val Wanted.none (Runs.not rfl rfl) ?_
        refine WL.val Wanted.none (Runs.move rfl) ?_
        rcases H with ⟨c_251, H⟩ | ⟨c_251, H⟩
        · have h_252 : (!((IntKind.i64.wrap (Int.tmod a1 400)) == 176)) = true := (not_t (beq_eq_false_iff_ne.mpr c_251))
          refine WL.off ?_ ?_; exact Wanted.guard (dj := 45) (by rfl) (evb (by rfl) h_252) (by rfl)
          refine WL.off ?_ ?_; exact Wanted.guard (dj := 45) (by rfl) (evb (by rfl) h_252) (by rfl)
          refine WL.val Wanted.none (Runs.pick_t (evb rfl h_252) rfl) ?_
          refine WL.nil ?_
          refine QW.then_n ?_
          refine CW.ct rfl rfl ?_
          refine CW.seq ?_
          refine CW.region ?_
          refine WL.val Wanted.none (Runs.move rfl) ?_
          refine WL.val Wanted.none (Runs.eql rfl rfl rfl) ?_
          refine WL.val Wanted.none (Runs.move rfl) ?_
          obtain ⟨c_253, H⟩ := H
          have h_254 : (r_162 == 1) = true := (beq_iff_eq.mpr c_253)
          refine WL.on ?_ ?_; exact Wanted.guard (dj := 51) (by rfl) (evb (by rfl) h_254) (by rfl)
          refine WL.val Wanted.none (Runs.move rfl) ?_
          refine WL.on ?_ ?_; exact Wanted.guard (dj := 51) (by rfl) (evb (by rfl) h_254) (by rfl)
          refine WL.val Wanted.none (Runs.len_sl Tryd.underlying26 rfl (by rw [hn_160])) ?_
          refine WL.on ?_ ?_; exact Wanted.guard (dj := 51) (by rfl) (evb (by rfl) h_254) (by rfl)
          refine WL.val Wanted.none (Runs.eql rfl rfl rfl) ?_
          refine WL.val Wanted.none (Runs.pick_t (evb rfl h_254) rfl) ?_
          refine WL.val Wanted.none (Runs.move rfl) ?_
          obtain ⟨c_255, H⟩ := H
          have h_256 : ((r_156.length : Int) == 0) = true := (beq_iff_eq.mpr c_255)
          refine WL.on ?_ ?_; exact Wanted.guard (dj := 56) (by rfl) (evb (by rfl) h_256) (by rfl)
          refine WL.val Wanted.none (Runs.move rfl) ?_
          refine WL.on ?_ ?_; exact Wanted.guard (dj := 56) (by rfl) (evb (by rfl) h_256) (by rfl)
          refine WL.val Wanted.none (Runs.move rfl) ?_
          rcases H with ⟨c_257, H⟩ | ⟨c_257, H⟩
          · have h_258 : ((IntKind.i64.wrap (Int.tmod a1 400)) == 176) = true := (beq_iff_eq.mpr c_257)
            refine WL.on ?_ ?_; exact Wanted.guard (dj := 58) (by rfl) (evb (by rfl) h_258) (by rfl)
            refine WL.val Wanted.none (Runs.move rfl) ?_
            refine WL.on ?_ ?_; exact Wanted.guard (dj := 58) (by rfl) (evb (by rfl) h_258) (by rfl)
            refine WL.val Wanted.none (Runs.eql rfl rfl rfl) ?_
            refine WL.on ?_ ?_; exact Wanted.guard (dj := 56) (by rfl) (evb (by rfl) h_256) (by rfl)
            refine WL.val Wanted.none (Runs.pick_t (evb rfl h_258) rfl) ?_
            refine WL.on ?_ ?_; exact Wanted.guard (dj := 56) (by rfl) (evb (by rfl) h_256) (by rfl)
            refine WL.val Wanted.none (Runs.move rfl) ?_
            obtain ⟨c_259, H⟩ := H
            have h_260 : (r_236 == 11) = true := (beq_iff_eq.mpr c_259)
            refine WL.off ?_ ?_; exact Wanted.guard (dj := 62) (by rfl) (evb (by rfl) h_260) (by rfl)
            refine WL.off ?_ ?_; exact Wanted.guard (dj := 62) (by rfl) (evb (by rfl) h_260) (by rfl)
            refine WL.off ?_ ?_; exact Wanted.guard (dj := 62) (by rfl) (evb (by rfl) h_260) (by rfl)
            refine WL.off ?_ ?_; exact Wanted.undef (dj := 65) rfl rfl
            refine WL.off ?_ ?_; exact Wanted.undef (dj := 65) rfl rfl
            refine WL.off ?_ ?_; exact Wanted.guard (dj := 62) (by rfl) (evb (by rfl) h_260) (by rfl)
            refine WL.on ?_ ?_; exact Wanted.guard (dj := 56) (by rfl) (evb (by rfl) h_256) (by rfl)
            refine WL.val Wanted.none (Runs.pick_t (evb rfl h_260) rfl) ?_
            refine WL.val Wanted.none (Runs.pick_t (evb rfl h_256) rfl) ?_
            refine WL.val Wanted.none (Runs.assign rfl) ?_
            refine WL.nil ?_
            refine QW.then_n ?_
            refine CW.sub [(2, .int .u64 a2), (6, .bool true), (10, .int .i64 r_162), (13, .int .i64 r_236)] ⟨rfl, rfl, rfl, rfl, trivial⟩ ?_
            refine CW.ret ?_
            refine QW.then_r ?_
            exact QW.ret1 rfl rfl ⟨rfl, st_227.ext⟩
          · have h_258 : ((IntKind.i64.wrap (Int.tmod a1 400)) == 176) = false := (beq_eq_false_iff_ne.mpr c_257)
            refine WL.off ?_ ?_; exact Wanted.guard (dj := 58) (by rfl) (evb (by rfl) h_258) (by rfl)
            refine WL.off ?_ ?_; exact Wanted.guard (dj := 58) (by rfl) (evb (by rfl) h_258) (by rfl)
            refine WL.on ?_ ?_; exact Wanted.guard (dj := 56) (by rfl) (evb (by rfl) h_256) (by rfl)
            refine WL.val Wanted.none (Runs.pick_f (evb rfl h_258) rfl) ?_
            refine WL.on ?_ ?_; exact Wanted.guard (dj := 56) (by rfl) (evb (by rfl) h_256) (by rfl)
            refine WL.val Wanted.none (Runs.move rfl) ?_
            refine WL.on ?_ ?_; exact Wanted.guard (dj := 62) (by rfl) (by rfl) (by rfl)
            refine WL.val Wanted.none (Runs.move rfl) ?_
            refine WL.on ?_ ?_; exact Wanted.guard (dj := 62) (by rfl) (by rfl) (by rfl)
            refine WL.val Wanted.none (Runs.not (evb rfl h_258) rfl) ?_
            refine WL.on ?_ ?_; exact Wanted.guard (dj := 62) (by rfl) (by rfl) (by rfl)
            refine WL.val Wanted.none (Runs.move rfl) ?_
            refine WL.on ?_ ?_; exact Wanted.guard (dj := 65) (by rfl) (by rfl) (by rfl)
            refine WL.val Wanted.none (Runs.move rfl) ?_
            refine WL.on ?_ ?_; exact Wanted.guard (dj := 65) (by rfl) (by rfl) (by rfl)
            refine WL.val Wanted.none (Runs.eql rfl rfl rfl) ?_
            refine WL.on ?_ ?_; exact Wanted.guard (dj := 62) (by rfl) (by rfl) (by rfl)
            refine WL.val Wanted.none (Runs.pick_t rfl rfl) ?_
            refine WL.on ?_ ?_; exact Wanted.guard (dj := 56) (by rfl) (evb (by rfl) h_256) (by rfl)
            refine WL.val Wanted.none (Runs.pick_f rfl rfl) ?_
            refine WL.val Wanted.none (Runs.pick_t (evb rfl h_256) rfl) ?_
            refine WL.val Wanted.none (Runs.assign rfl) ?_
            refine WL.nil ?_
            refine QW.then_n ?_
            refine CW.sub [(2, .int .u64 a2), (6, .bool (r_236 == 1)), (10, .int .i64 r_162), (13, .int .i64 r_236)] ⟨rfl, rfl, rfl, rfl, trivial⟩ ?_
            refine CW.ret ?_
            refine QW.then_r ?_
            have hz : (r_236 == 1) = true := (beq_iff_eq.mpr H)
            exact QW.ret1 rfl (evb rfl hz) ⟨rfl, st_227.ext⟩
        · have h_252 : (!((IntKind.i64.wrap (Int.tmod a1 400)) == 176)) = false := (not_f (beq_iff_eq.mpr (Decidable.not_not.mp c_251)))
          refine WL.on ?_ ?_; exact Wanted.guard (dj := 45) (by rfl) (evb (by rfl) h_252) (by rfl)
          refine WL.val Wanted.none (Runs.move rfl) ?_
          refine WL.on ?_ ?_; exact Wanted.guard (dj := 45) (by rfl) (evb (by rfl) h_252) (by rfl)
          refine WL.val Wanted.none (Runs.eql rfl rfl rfl) ?_
          refine WL.val Wanted.none (Runs.pick_f (evb rfl h_252) rfl) ?_
          refine WL.nil ?_
          refine QW.then_n ?_
          rcases H with ⟨c_261, H⟩ | ⟨c_261, H⟩
          · have h_262 : (a2 == 0) = true := (beq_iff_eq.mpr c_261)
            refine CW.ct rfl h_262 ?_
            refine CW.seq ?_
            refine CW.region ?_
            refine WL.val Wanted.none (Runs.move rfl) ?_
            refine WL.val Wanted.none (Runs.eql rfl rfl rfl) ?_
            refine WL.val Wanted.none (Runs.move rfl) ?_
            obtain ⟨c_263, H⟩ := H
            have h_264 : (r_162 == 1) = true := (beq_iff_eq.mpr c_263)
            refine WL.on ?_ ?_; exact Wanted.guard (dj := 51) (by rfl) (evb (by rfl) h_264) (by rfl)
            refine WL.val Wanted.none (Runs.move rfl) ?_
            refine WL.on ?_ ?_; exact Wanted.guard (dj := 51) (by rfl) (evb (by rfl) h_264) (by rfl)
            refine WL.val Wanted.none (Runs.len_sl Tryd.underlying26 rfl (by rw [hn_160])) ?_
            refine WL.on ?_ ?_; exact Wanted.guard (dj := 51) (by rfl) (evb (by rfl) h_264) (by rfl)
            refine WL.val Wanted.none (Runs.eql rfl rfl rfl) ?_
            refine WL.val Wanted.none (Runs.pick_t (evb rfl h_264) rfl) ?_
            refine WL.val Wanted.none (Runs.move rfl) ?_
            obtain ⟨c_265, H⟩ := H
            have h_266 : ((r_156.length : Int) == 0) = true := (beq_iff_eq.mpr c_265)
            refine WL.on ?_ ?_; exact Wanted.guard (dj := 56) (by rfl) (evb (by rfl) h_266) (by rfl)
            refine WL.val Wanted.none (Runs.move rfl) ?_
            refine WL.on ?_ ?_; exact Wanted.guard (dj := 56) (by rfl) (evb (by rfl) h_266) (by rfl)
            refine WL.val Wanted.none (Runs.move rfl) ?_
            rcases H with ⟨c_267, H⟩ | ⟨c_267, H⟩
            · have h_268 : ((IntKind.i64.wrap (Int.tmod a1 400)) == 176) = true := (beq_iff_eq.mpr c_267)
              refine WL.on ?_ ?_; exact Wanted.guard (dj := 58) (by rfl) (evb (by rfl) h_268) (by rfl)
              refine WL.val Wanted.none (Runs.move rfl) ?_
              refine WL.on ?_ ?_; exact Wanted.guard (dj := 58) (by rfl) (evb (by rfl) h_268) (by rfl)
              refine WL.val Wanted.none (Runs.eql rfl rfl rfl) ?_
              refine WL.on ?_ ?_; exact Wanted.guard (dj := 56) (by rfl) (evb (by rfl) h_266) (by rfl)
              refine WL.val Wanted.none (Runs.pick_t (evb rfl h_268) rfl) ?_
              refine WL.on ?_ ?_; exact Wanted.guard (dj := 56) (by rfl) (evb (by rfl) h_266) (by rfl)
              refine WL.val Wanted.none (Runs.move rfl) ?_
              obtain ⟨c_269, H⟩ := H
              have h_270 : (r_236 == 11) = true := (beq_iff_eq.mpr c_269)
              refine WL.off ?_ ?_; exact Wanted.guard (dj := 62) (by rfl) (evb (by rfl) h_270) (by rfl)
              refine WL.off ?_ ?_; exact Wanted.guard (dj := 62) (by rfl) (evb (by rfl) h_270) (by rfl)
              refine WL.off ?_ ?_; exact Wanted.guard (dj := 62) (by rfl) (evb (by rfl) h_270) (by rfl)
              refine WL.off ?_ ?_; exact Wanted.undef (dj := 65) rfl rfl
              refine WL.off ?_ ?_; exact Wanted.undef (dj := 65) rfl rfl
              refine WL.off ?_ ?_; exact Wanted.guard (dj := 62) (by rfl) (evb (by rfl) h_270) (by rfl)
              refine WL.on ?_ ?_; exact Wanted.guard (dj := 56) (by rfl) (evb (by rfl) h_266) (by rfl)
              refine WL.val Wanted.none (Runs.pick_t (evb rfl h_270) rfl) ?_
              refine WL.val Wanted.none (Runs.pick_t (evb rfl h_266) rfl) ?_
              refine WL.val Wanted.none (Runs.assign rfl) ?_
              refine WL.nil ?_
              refine QW.then_n ?_
              refine CW.sub [(2, .int .u64 a2), (6, .bool true), (10, .int .i64 r_162), (13, .int .i64 r_236)] ⟨rfl, rfl, rfl, rfl, trivial⟩ ?_
              refine CW.ret ?_
              refine QW.then_r ?_
              exact QW.ret1 rfl rfl ⟨rfl, st_227.ext⟩
            · have h_268 : ((IntKind.i64.wrap (Int.tmod a1 400)) == 176) = false := (beq_eq_false_iff_ne.mpr c_267)
              refine WL.off ?_ ?_; exact Wanted.guard (dj := 58) (by rfl) (evb (by rfl) h_268) (by rfl)
              refine WL.off ?_ ?_; exact Wanted.guard (dj := 58) (by rfl) (evb (by rfl) h_268) (by rfl)
              refine WL.on ?_ ?_; exact Wanted.guard (dj := 56) (by rfl) (evb (by rfl) h_266) (by rfl)
              refine WL.val Wanted.none (Runs.pick_f (evb rfl h_268) rfl) ?_
              refine WL.on ?_ ?_; exact Wanted.guard (dj := 56) (by rfl) (evb (by rfl) h_266) (by rfl)
              refine WL.val Wanted.none (Runs.move rfl) ?_
              refine WL.on ?_ ?_; exact Wanted.guard (dj := 62) (by rfl) (by rfl) (by rfl)
              refine WL.val Wanted.none (Runs.move rfl) ?_
              refine WL.on ?_ ?_; exact Wanted.guard (dj := 62) (by rfl) (by rfl) (by rfl)
              refine WL.val Wanted.none (Runs.not (evb rfl h_268) rfl) ?_
              refine WL.on ?_ ?_; exact Wanted.guard (dj := 62) (by rfl) (by rfl) (by rfl)
              refine WL.val Wanted.none (Runs.move rfl) ?_
              refine WL.on ?_ ?_; exact Wanted.guard (dj := 65) (by rfl) (by rfl) (by rfl)
              refine WL.val Wanted.none (Runs.move rfl) ?_
              refine WL.on ?_ ?_; exact Wanted.guard (dj := 65) (by rfl) (by rfl) (by rfl)
              refine WL.val Wanted.none (Runs.eql rfl rfl rfl) ?_
              refine WL.on ?_ ?_; exact Wanted.guard (dj := 62) (by rfl) (by rfl) (by rfl)
              refine WL.val Wanted.none (Runs.pick_t rfl rfl) ?_
              refine WL.on ?_ ?_; exact Wanted.guard (dj := 56) (by rfl) (evb (by rfl) h_266) (by rfl)
              refine WL.val Wanted.none (Runs.pick_f rfl rfl) ?_
              refine WL.val Wanted.none (Runs.pick_t (evb rfl h_266) rfl) ?_
              refine WL.val Wanted.none (Runs.assign rfl) ?_
              refine WL.nil ?_
              refine QW.then_n ?_
              refine CW.sub [(2, .int .u64 a2), (6, .bool (r_236 == 1)), (10, .int .i64 r_162), (13, .int .i64 r_236)] ⟨rfl, rfl, rfl, rfl, trivial⟩ ?_
              refine CW.ret ?_
              refine QW.then_r ?_
              have hz : (r_236 == 1) = true := (beq_iff_eq.mpr H)
              exact QW.ret1 rfl (evb rfl hz) ⟨rfl, st_227.ext⟩
          · have h_262 : (a2 == 0) = false := (beq_eq_false_iff_ne.mpr c_261)
            refine CW.cf rfl h_262 ?_
            refine CW.skip ?_
            refine QW.then_n ?_
            refine CW.sub [(2, .int .u64 a2), (6, .bool false), (10, .int .i64 r_162), (13, .int .i64 r_236)] ⟨rfl, rfl, rfl, rfl, trivial⟩ ?_
            refine CW.seq ?_
            refine CW.region ?_
            refine WL.val Wanted.none (Runs.move rfl) ?_
            refine WL.val Wanted.none (Runs.eql rfl rfl rfl) ?_
            refine WL.val Wanted.none (Runs.move rfl) ?_
            refine WL.val Wanted.none (Runs.eql rfl rfl rfl) ?_
            refine WL.val Wanted.none (Runs.eqb Tryd.underlying4 rfl rfl rfl) ?_
            refine WL.val Wanted.none (Runs.move rfl) ?_
            obtain ⟨c_271, H⟩ := H
            have h_272 : ((a2 == 18446744073709551615) == (r_162 == 15)) = true := (beq_iff_eq.mpr c_271)
            refine WL.on ?_ ?_; exact Wanted.guard (dj := 76) (by rfl) (evb (by rfl) h_272) (by rfl)
            refine WL.val Wanted.none (Runs.move rfl) ?_
            refine WL.on ?_ ?_; exact Wanted.guard (dj := 76) (by rfl) (evb (by rfl) h_272) (by rfl)
            refine WL.val Wanted.none (Runs.eql rfl rfl rfl) ?_
            refine WL.on ?_ ?_; exact Wanted.guard (dj := 76) (by rfl) (evb (by rfl) h_272) (by rfl)
            refine WL.val Wanted.none (Runs.move rfl) ?_
            refine WL.on ?_ ?_; exact Wanted.guard (dj := 76) (by rfl) (evb (by rfl) h_272) (by rfl)
            refine WL.val Wanted.none (Runs.lss rfl rfl rfl) ?_
            refine WL.on ?_ ?_; exact Wanted.guard (dj := 76) (by rfl) (evb (by rfl) h_272) (by rfl)
            refine WL.val Wanted.none (Runs.eqb Tryd.underlying4 rfl rfl rfl) ?_
            refine WL.val Wanted.none (Runs.pick_t (evb rfl h_272) rfl) ?_
            refine WL.val Wanted.none (Runs.move rfl) ?_
            obtain ⟨c_273, H⟩ := H
            have h_274 : ((r_162 == 0) == (decide (a2 < 18446744073709551615))) = true := (beq_iff_eq.mpr c_273)
            refine WL.on ?_ ?_; exact Wanted.guard (dj := 83) (by rfl) (evb (by rfl) h_274) (by rfl)
            refine WL.val Wanted.none (Runs.move rfl) ?_
            refine WL.on ?_ ?_; exact Wanted.guard (dj := 83) (by rfl) (evb (by rfl) h_274) (by rfl)
            refine WL.val Wanted.none (Runs.eql rfl rfl rfl) ?_
            refine WL.val Wanted.none (Runs.pick_t (evb rfl h_274) rfl) ?_
            refine WL.val Wanted.none (Runs.assign rfl) ?_
            refine WL.nil ?_
            refine QW.then_n ?_
            refine CW.sub [(6, .bool (r_236 == 11))] ⟨rfl, trivial⟩ ?_
            refine CW.ret ?_
            have hz : (r_236 == 11) = true := (beq_iff_eq.mpr H)
            exact QW.ret1 rfl (evb rfl hz) ⟨rfl, st_227.ext⟩

/-! ### reliquarylaw08_SealPlaces: function 6 -/
def reliquarylaw08_SealPlaces.rel (l0 : List Int) (a1 : Int) (a2 : Int) (l3 : List Int) (l4 : List Int) (a5 : Int)  : Prop := (reliquarylaw08_awake.rel  ∧ (∃ (r_17 : List Int), reliquarylaw08_long.rel l3 0 r_17 ∧ (∃ (r_27 : List Int) (r_33 : Int), seal_Seal.rel l0 a1 a2 r_17 r_27 r_33 ∧ ((r_33 ≠ 0 ∧ (r_27.length : Int) = 0) ∨ (¬ (r_33 ≠ 0) ∧ (∃ (r_40 : Int) (r_41 : List Int) (r_47 : Int), seal_Open.rel l4 a5 r_27 160 r_40 r_41 r_47 ∧ (∃ (r_52 : Int) (r_53 : ByteArray) (r_54 : Int), reliquaryref08_Open.rel l4 a5 (strOfNums r_27) 160 r_52 r_53 r_54 ∧ (r_40 = r_52 ∧ ((strOfNums r_41).toList = r_53.toList ∧ (r_47 = r_54 ∧ r_40 = a2))))))))))
set_option maxHeartbeats 4000000 in
set_option maxRecDepth 100000 in
theorem reliquarylaw08_SealPlaces.calls (w : World) (l0 : List Int) (a1 : Int) (a2 : Int) (l3 : List Int) (l4 : List Int) (a5 : Int) (A3 : Option Addr) (n3 : Nat) (c3 : Nat)  (hG0 : Src w (some ⟨0, 0, none⟩) (iv .i64 tab0)) (hl0 : l0.length = 32) (hs3 : Src w A3 (iv .u8 l3)) (hn3 : n3 = l3.length) (hc3 : n3 ≤ c3) (hl4 : l4.length = 32)  (H : reliquarylaw08_SealPlaces.rel l0 a1 a2 l3 l4 a5 ) :
    Calls Tryd.prog 6 #[.agg (iv .u8 l0).toArray, .int .u32 a1, .int .u64 a2, .slice A3 n3 c3, .agg (iv .u8 l4).toArray, .int .u32 a5] w fun e w' => e = .returned (.bool true) ∧ Below w.heap.size w w' := by
  refine CW.enter Tryd.func6 rfl (n := 77) rfl [.agg (iv .u8 l0).toArray, .int .u32 a1, .int .u64 a2, .slice A3 n3 c3, .agg (iv .u8 l4).toArray, .int .u32 a5] (Nat.le_of_ble_eq_true rfl) ?_
  refine CW.sub [(0, .agg (iv .u8 l0).toArray), (1, .int .u32 a1), (2, .int .u64 a2), (3, .slice A3 n3 c3), (4, .agg (iv .u8 l4).toArray), (5, .int .u32 a5)] ⟨rfl, rfl, rfl, rfl, rfl, rfl, trivial⟩ ?_
  have st0 : St w w [] := St.refl w
  refine CW.seq ?_
  refine CW.region ?_
  refine WL.box st0 rfl rfl ?_
  intro B_1 w_2 st_3
  replace st_3 : St w w_2 [.cells B_1 (iv .u8 l0) 23] := st_3
  refine WL.box st_3 rfl rfl ?_
  intro B_5 w_6 st_7
  replace st_7 : St w w_6 [.cells B_5 (iv .u8 l4) 23, .cells B_1 (iv .u8 l0) 23] := st_7
  refine WL.val Wanted.none (Runs.assign rfl) ?_
  refine WL.nil ?_
  refine QW.then_n ?_
  refine CW.seq ?_
  refine CW.region ?_
  obtain ⟨hr_9, H⟩ := H
  refine WL.call Wanted.none ent8 rfl (reliquarylaw08_awake.calls w_6 (hG0.ext st_7) hr_9) ?_
  rintro _ w_10 ⟨rfl, sc_12⟩
  have st_11 : St w w_10 [.cells B_5 (iv .u8 l4) 23, .cells B_1 (iv .u8 l0) 23] := st_7.below sc_12
  refine ⟨_, rfl, ?_⟩
  refine WL.val Wanted.none (Runs.assign rfl) ?_
  refine WL.nil ?_
  refine QW.then_n ?_
  refine CW.seq ?_
  refine CW.seq ?_
  refine CW.region ?_
  refine WL.val Wanted.none (Runs.move rfl) ?_
  refine WL.val Wanted.none (Runs.not rfl rfl) ?_
  refine WL.nil ?_
  refine QW.then_n ?_
  refine CW.cf rfl rfl ?_
  refine CW.skip ?_
  refine QW.then_n ?_
  refine CW.sub [(1, .int .u32 a1), (2, .int .u64 a2), (3, .slice A3 n3 c3), (5, .int .u32 a5), (6, .pointer (some ⟨B_1, 0, none⟩)), (10, .pointer (some ⟨B_5, 0, none⟩)), (12, .bool false)] ⟨rfl, rfl, rfl, rfl, rfl, rfl, rfl, trivial⟩ ?_
  refine CW.seq ?_
  refine CW.region ?_
  refine WL.val Wanted.none (Runs.move rfl) ?_
  obtain ⟨r_17, hr_13, H⟩ := H
  refine WL.call Wanted.none ent9 rfl (reliquarylaw08_long.calls w_10 l3 0 A3 n3 c3 (hs3.ext st_11) (hn3) (hc3) r_17 hr_13) ?_
  rintro _ w_14 ⟨A_18, c_19, n_20, hn_21, rfl, sc_16⟩
  have st_15 : St w w_14 [.sl A_18 c_19 n_20 (iv .u8 r_17) 5 1, .cells B_5 (iv .u8 l4) 23, .cells B_1 (iv .u8 l0) 23] := st_11.call sc_16
  refine ⟨_, rfl, ?_⟩
  refine WL.val Wanted.none (Runs.assign rfl) ?_
  refine WL.nil ?_
  refine QW.then_n ?_
  refine CW.seq ?_
  refine CW.region ?_
  refine WL.val Wanted.none (Runs.load_arr arr23 rfl (st_15.blk (i := 2) rfl) hl0) ?_
  refine WL.val Wanted.none (Runs.move rfl) ?_
  refine WL.val Wanted.none (Runs.move rfl) ?_
  refine WL.val Wanted.none (Runs.move rfl) ?_
  obtain ⟨r_27, r_33, hr_23, H⟩ := H
  refine WL.call Wanted.none ent10 rfl (seal_Seal.calls w_14 l0 a1 a2 r_17 A_18 n_20 c_19 (hG0.ext st_15) hl0 (st_15.src_sl (k := 0) rfl) (hn_21) (st_15.cap (i := 0) rfl) r_27 r_33 hr_23) ?_
  rintro _ w_24 ⟨A_28, c_29, n_30, hn_31, rfl, sc_26⟩
  have st_25 : St w w_24 [.sl A_28 c_29 n_30 (iv .u8 r_27) 5 1, .sl A_18 c_19 n_20 (iv .u8 r_17) 5 1, .cells B_5 (iv .u8 l4) 23, .cells B_1 (iv .u8 l0) 23] := st_15.call sc_26
  refine ⟨_, rfl, ?_⟩
  refine WL.val Wanted.none (Runs.move rfl) ?_
  refine WL.val Wanted.none (Runs.extract rfl rfl) ?_
  refine WL.val Wanted.none (Runs.extract rfl rfl) ?_
  refine WL.val Wanted.none (Runs.assign rfl) ?_
  refine WL.val Wanted.none (Runs.assign rfl) ?_
  refine WL.nil ?_
  refine QW.then_n ?_
  refine CW.sub [(2, .int .u64 a2), (5, .int .u32 a5), (10, .pointer (some ⟨B_5, 0, none⟩)), (12, .bool false), (15, .slice A_28 n_30 c_29), (16, .int .i64 r_33)] ⟨rfl, rfl, rfl, rfl, rfl, rfl, trivial⟩ ?_
  refine CW.seq ?_
  refine CW.seq ?_
  refine CW.region ?_
  refine WL.val Wanted.none (Runs.move rfl) ?_
  refine WL.val Wanted.none (Runs.neq rfl rfl rfl) ?_
  refine WL.nil ?_
  refine QW.then_n ?_
  rcases H with ⟨c_34, H⟩ | ⟨c_34, H⟩
  · have h_35 : (r_33 != 0) = true := (bne_iff_ne.mpr c_34)
    refine CW.ct rfl h_35 ?_
    refine CW.seq ?_
    refine CW.region ?_
    refine WL.val Wanted.none (Runs.move rfl) ?_
    refine WL.val Wanted.none (Runs.len_sl Tryd.underlying26 rfl (by rw [hn_31])) ?_
    refine WL.val Wanted.none (Runs.eql rfl rfl rfl) ?_
    refine WL.val Wanted.none (Runs.assign rfl) ?_
    refine WL.nil ?_
    refine QW.then_n ?_
    refine CW.sub [(2, .int .u64 a2), (5, .int .u32 a5), (10, .pointer (some ⟨B_5, 0, none⟩)), (12, .bool ((r_27.length : Int) == 0)), (15, .slice A_28 n_30 c_29)] ⟨rfl, rfl, rfl, rfl, rfl, trivial⟩ ?_
    refine CW.ret ?_
    refine QW.then_r ?_
    have hz : ((r_27.length : Int) == 0) = true := (beq_iff_eq.mpr H)
    exact QW.ret1 rfl (evb rfl hz) ⟨rfl, st_25.ext⟩
  · have h_35 : (r_33 != 0) = false := (bne_eq_false_iff_eq.mpr (Decidable.not_not.mp c_34))
    refine CW.cf rfl h_35 ?_
    refine CW.skip ?_
    refine QW.then_n ?_
    refine CW.seq ?_
    refine CW.region ?_
    refine WL.val Wanted.none (Runs.load_arr arr23 rfl (st_25.blk (i := 2) rfl) hl4) ?_
    refine WL.val Wanted.none (Runs.move rfl) ?_
    refine WL.val Wanted.none (Runs.move rfl) ?_
    obtain ⟨r_40, r_41, r_47, hr_36, H⟩ := H
    refine WL.call Wanted.none ent12 rfl (seal_Open.calls w_24 l4 a5 r_27 160 A_28 n_30 c_29 (hG0.ext st_25) hl4 (st_25.src_sl (k := 0) rfl) (hn_31) (st_25.cap (i := 0) rfl) r_40 r_41 r_47 hr_36) ?_
    rintro _ w_37 ⟨A_42, c_43, n_44, hn_45, rfl, sc_39⟩
    have st_38 : St w w_37 [.sl A_42 c_43 n_44 (iv .u8 r_41) 5 1, .sl A_28 c_29 n_30 (iv .u8 r_27) 5 1, .sl A_18 c_19 n_20 (iv .u8 r_17) 5 1, .cells B_5 (iv .u8 l4) 23, .cells B_1 (iv .u8 l0) 23] := st_25.call sc_39
    refine ⟨_, rfl, ?_⟩
    refine WL.val Wanted.none (Runs.move rfl) ?_
    refine WL.val Wanted.none (Runs.extract rfl rfl) ?_
    refine WL.val Wanted.none (Runs.extract rfl rfl) ?_
    refine WL.val Wanted.none (Runs.extract rfl rfl) ?_
    refine WL.val Wanted.none (Runs.assign rfl) ?_
    refine WL.val Wanted.none (Runs.assign rfl) ?_
    refine WL.val Wanted.none (Runs.assign rfl) ?_
    refine WL.nil ?_
    refine QW.then_n ?_
    refine CW.sub [(2, .int .u64 a2), (5, .int .u32 a5), (10, .pointer (some ⟨B_5, 0, none⟩)), (12, .bool false), (15, .slice A_28 n_30 c_29), (17, .int .u64 r_40), (18, .slice A_42 n_44 c_43), (19, .int .i64 r_47)] ⟨rfl, rfl, rfl, rfl, rfl, rfl, rfl, rfl, trivial⟩ ?_
    refine CW.seq ?_
    refine CW.region ?_
    refine WL.val Wanted.none (Runs.load_arr arr23 rfl (st_38.blk (i := 3) rfl) hl4) ?_
    refine WL.val Wanted.none (Runs.move rfl) ?_
    refine WL.val Wanted.none (Runs.move rfl) ?_
    refine WL.val Wanted.none (Runs.bytes_str Tryd.underlying26 Tryd.underlying5 Tryd.underlying9 rfl (st_38.src_sl (k := 1) rfl) hn_31) ?_
    obtain ⟨r_52, r_53, r_54, hr_48, H⟩ := H
    refine WL.call Wanted.none ent13 rfl (reliquaryref08_Open.calls w_37 l4 a5 (strOfNums r_27) 160 hl4 r_52 r_53 r_54 hr_48) ?_
    rintro _ w_49 ⟨rfl, sc_51⟩
    have st_50 : St w w_49 [.sl A_42 c_43 n_44 (iv .u8 r_41) 5 1, .sl A_28 c_29 n_30 (iv .u8 r_27) 5 1, .sl A_18 c_19 n_20 (iv .u8 r_17) 5 1, .cells B_5 (iv .u8 l4) 23, .cells B_1 (iv .u8 l0) 23] := st_38.call sc_51
    refine ⟨_, rfl, ?_⟩
    refine WL.val Wanted.none (Runs.move rfl) ?_
    refine WL.val Wanted.none (Runs.extract rfl rfl) ?_
    refine WL.val Wanted.none (Runs.extract rfl rfl) ?_
    refine WL.val Wanted.none (Runs.extract rfl rfl) ?_
    refine WL.val Wanted.none (Runs.assign rfl) ?_
    refine WL.val Wanted.none (Runs.assign rfl) ?_
    refine WL.val Wanted.none (Runs.assign rfl) ?_
    refine WL.nil ?_
    refine QW.then_n ?_
    refine CW.sub [(2, .int .u64 a2), (12, .bool false), (17, .int .u64 r_40), (18, .slice A_42 n_44 c_43), (19, .int .i64 r_47), (20, .int .u64 r_52), (21, .string r_53), (22, .int .i64 r_54)] ⟨rfl, rfl, rfl, rfl, rfl, rfl, rfl, rfl, trivial⟩ ?_
    refine CW.seq ?_
    refine CW.region ?_
    refine WL.val Wanted.none (Runs.move rfl) ?_
    refine WL.val Wanted.none (Runs.move rfl) ?_
    refine WL.val Wanted.none (Runs.eql rfl rfl rfl) ?_
    refine WL.val Wanted.none (Runs.move rfl) ?_
    obtain ⟨c_55, H⟩ := H
    have h_56 : (r_40 == r_52) = true := (beq_iff_eq.mpr c_55)
    refine WL.on ?_ ?_; exact Wanted.guard (dj := 61) (by rfl) (evb (by rfl) h_56) (by rfl)
    refine WL.val Wanted.none (Runs.move rfl) ?_
    refine WL.on ?_ ?_; exact Wanted.guard (dj := 61) (by rfl) (evb (by rfl) h_56) (by rfl)
    refine WL.val Wanted.none (Runs.bytes_str Tryd.underlying26 Tryd.underlying5 Tryd.underlying9 rfl (st_50.src_sl (k := 0) rfl) hn_45) ?_
    refine WL.on ?_ ?_; exact Wanted.guard (dj := 61) (by rfl) (evb (by rfl) h_56) (by rfl)
    refine WL.val Wanted.none (Runs.move rfl) ?_
    refine WL.on ?_ ?_; exact Wanted.guard (dj := 61) (by rfl) (evb (by rfl) h_56) (by rfl)
    refine WL.val Wanted.none (Runs.eqs rfl rfl rfl) ?_
    refine WL.val Wanted.none (Runs.pick_t (evb rfl h_56) rfl) ?_
    refine WL.val Wanted.none (Runs.move rfl) ?_
    obtain ⟨c_57, H⟩ := H
    have h_58 : ((strOfNums r_41).toList == r_53.toList) = true := (beq_iff_eq.mpr c_57)
    refine WL.on ?_ ?_; exact Wanted.guard (dj := 67) (by rfl) (evb (by rfl) h_58) (by rfl)
    refine WL.val Wanted.none (Runs.move rfl) ?_
    refine WL.on ?_ ?_; exact Wanted.guard (dj := 67) (by rfl) (evb (by rfl) h_58) (by rfl)
    refine WL.val Wanted.none (Runs.move rfl) ?_
    refine WL.on ?_ ?_; exact Wanted.guard (dj := 67) (by rfl) (evb (by rfl) h_58) (by rfl)
    refine WL.val Wanted.none (Runs.eql rfl rfl rfl) ?_
    refine WL.val Wanted.none (Runs.pick_t (evb rfl h_58) rfl) ?_
    refine WL.val Wanted.none (Runs.move rfl) ?_
    obtain ⟨c_59, H⟩ := H
    have h_60 : (r_47 == r_54) = true := (beq_iff_eq.mpr c_59)
    refine WL.on ?_ ?_; exact Wanted.guard (dj := 72) (by rfl) (evb (by rfl) h_60) (by rfl)
    refine WL.val Wanted.none (Runs.move rfl) ?_
    refine WL.on ?_ ?_; exact Wanted.guard (dj := 72) (by rfl) (evb (by rfl) h_60) (by rfl)
    refine WL.val Wanted.none (Runs.move rfl) ?_
    refine WL.on ?_ ?_; exact Wanted.guard (dj := 72) (by rfl) (evb (by rfl) h_60) (by rfl)
    refine WL.val Wanted.none (Runs.eql rfl rfl rfl) ?_
    refine WL.val Wanted.none (Runs.pick_t (evb rfl h_60) rfl) ?_
    refine WL.val Wanted.none (Runs.assign rfl) ?_
    refine WL.nil ?_
    refine QW.then_n ?_
    refine CW.sub [(12, .bool (r_40 == a2))] ⟨rfl, trivial⟩ ?_
    refine CW.ret ?_
    have hz : (r_40 == a2) = true := (beq_iff_eq.mpr H)
    exact QW.ret1 rfl (evb rfl hz) ⟨rfl, st_50.ext⟩

/-! ### reliquarylaw08_SealTails: function 7 -/
def reliquarylaw08_SealTails.L1 (l0 : List Int) (a3 : Int) (a4 : Int) (r_13 : List Int) (r_23 : List Int) : Nat → Bool → Int → Prop
  | 0, _, _ => False
  | kL1 + 1, b_33, x_34 => ((x_34 < (r_23.length : Int) ∧ ((0 ≤ x_34 ∧ x_34 < (r_23.length : Int)) ∧ (¬ ((gn r_23 ((x_34).toNat)) ≠ 0) ∧ reliquarylaw08_SealTails.L1 l0 a3 a4 r_13 r_23 kL1 b_33 (IntKind.i64.wrap (x_34 + 1))))) ∨ (¬ (x_34 < (r_23.length : Int)) ∧ (∃ x_46 : Int, x_46 = IntKind.i64.wrap (192 - (IntKind.i64.wrap (8 + (r_13.length : Int)))) ∧ (x_46 ≠ 0 ∧ (∃ x_49 : Int, x_49 = IntKind.i64.wrap ((IntKind.i64.wrap (8 + (r_13.length : Int))) + (Int.tmod (IntKind.i64.wrap a3) x_46)) ∧ ((0 ≤ x_49 ∧ x_49 < (r_23.length : Int)) ∧ (∃ m_55 : List Int, m_55 = List.set r_23 ((x_49).toNat) a4 ∧ (∃ (r_64 : Int) (r_65 : List Int) (r_71 : Int), seal_Open.rel l0 3 m_55 (r_13.length : Int) r_64 r_65 r_71 ∧ ((m_55.length : Int) = 192 ∧ ((r_71 == 0) = (a4 == 0) ∧ (r_71 == 11) = (a4 != 0)))))))))))
def reliquarylaw08_SealTails.rel (l0 : List Int) (l1 : List Int) (a2 : Int) (a3 : Int) (a4 : Int)  : Prop := (reliquarylaw08_awake.rel  ∧ (∃ (r_13 : List Int), reliquarylaw08_long.rel l1 (bits .and .u8 a2 1) r_13 ∧ (∃ (r_23 : List Int) (r_29 : Int), seal_Seal.rel l0 3 7 r_13 r_23 r_29 ∧ (¬ (r_29 ≠ 0) ∧ (∃ k_ : Nat, reliquarylaw08_SealTails.L1 l0 a3 a4 r_13 r_23 k_ false (IntKind.i64.wrap (8 + (r_13.length : Int))))))))
set_option maxHeartbeats 4000000 in
set_option maxRecDepth 100000 in
theorem reliquarylaw08_SealTails.calls (w : World) (l0 : List Int) (l1 : List Int) (a2 : Int) (a3 : Int) (a4 : Int) (A1 : Option Addr) (n1 : Nat) (c1 : Nat)  (hG0 : Src w (some ⟨0, 0, none⟩) (iv .i64 tab0)) (hl0 : l0.length = 32) (hs1 : Src w A1 (iv .u8 l1)) (hn1 : n1 = l1.length) (hc1 : n1 ≤ c1)  (H : reliquarylaw08_SealTails.rel l0 l1 a2 a3 a4 ) :
    Calls Tryd.prog 7 #[.agg (iv .u8 l0).toArray, .slice A1 n1 c1, .int .u8 a2, .int .u8 a3, .int .u8 a4] w fun e w' => e = .returned (.bool true) ∧ Below w.heap.size w w' := by
  refine CW.enter Tryd.func7 rfl (n := 88) rfl [.agg (iv .u8 l0).toArray, .slice A1 n1 c1, .int .u8 a2, .int .u8 a3, .int .u8 a4] (Nat.le_of_ble_eq_true rfl) ?_
  refine CW.sub [(0, .agg (iv .u8 l0).toArray), (1, .slice A1 n1 c1), (2, .int .u8 a2), (3, .int .u8 a3), (4, .int .u8 a4)] ⟨rfl, rfl, rfl, rfl, rfl, trivial⟩ ?_
  have st0 : St w w [] := St.refl w
  refine CW.seq ?_
  refine CW.region ?_
  refine WL.box st0 rfl rfl ?_
  intro B_1 w_2 st_3
  replace st_3 : St w w_2 [.cells B_1 (iv .u8 l0) 23] := st_3
  refine WL.val Wanted.none (Runs.assign rfl) ?_
  refine WL.nil ?_
  refine QW.then_n ?_
  refine CW.seq ?_
  refine CW.region ?_
  obtain ⟨hr_5, H⟩ := H
  refine WL.call Wanted.none ent8 rfl (reliquarylaw08_awake.calls w_2 (hG0.ext st_3) hr_5) ?_
  rintro _ w_6 ⟨rfl, sc_8⟩
  have st_7 : St w w_6 [.cells B_1 (iv .u8 l0) 23] := st_3.below sc_8
  refine ⟨_, rfl, ?_⟩
  refine WL.val Wanted.none (Runs.assign rfl) ?_
  refine WL.nil ?_
  refine QW.then_n ?_
  refine CW.seq ?_
  refine CW.seq ?_
  refine CW.region ?_
  refine WL.val Wanted.none (Runs.move rfl) ?_
  refine WL.val Wanted.none (Runs.not rfl rfl) ?_
  refine WL.nil ?_
  refine QW.then_n ?_
  refine CW.cf rfl rfl ?_
  refine CW.skip ?_
  refine QW.then_n ?_
  refine CW.seq ?_
  refine CW.region ?_
  refine WL.val Wanted.none (Runs.move rfl) ?_
  refine WL.val Wanted.none (Runs.move rfl) ?_
  refine WL.val Wanted.none (Runs.band rfl rfl rfl) ?_
  obtain ⟨r_13, hr_9, H⟩ := H
  refine WL.call Wanted.none ent9 rfl (reliquarylaw08_long.calls w_6 l1 (bits .and .u8 a2 1) A1 n1 c1 (hs1.ext st_7) (hn1) (hc1) r_13 hr_9) ?_
  rintro _ w_10 ⟨A_14, c_15, n_16, hn_17, rfl, sc_12⟩
  have st_11 : St w w_10 [.sl A_14 c_15 n_16 (iv .u8 r_13) 5 1, .cells B_1 (iv .u8 l0) 23] := st_7.call sc_12
  refine ⟨_, rfl, ?_⟩
  refine WL.val Wanted.none (Runs.assign rfl) ?_
  refine WL.nil ?_
  refine QW.then_n ?_
  refine CW.sub [(3, .int .u8 a3), (4, .int .u8 a4), (5, .pointer (some ⟨B_1, 0, none⟩)), (10, .bool false), (12, .slice A_14 n_16 c_15)] ⟨rfl, rfl, rfl, rfl, rfl, trivial⟩ ?_
  refine CW.seq ?_
  refine CW.region ?_
  refine WL.val Wanted.none (Runs.load_arr arr23 rfl (st_11.blk (i := 1) rfl) hl0) ?_
  refine WL.val Wanted.none (Runs.move rfl) ?_
  obtain ⟨r_23, r_29, hr_19, H⟩ := H
  refine WL.call Wanted.none ent10 rfl (seal_Seal.calls w_10 l0 3 7 r_13 A_14 n_16 c_15 (hG0.ext st_11) hl0 (st_11.src_sl (k := 0) rfl) (hn_17) (st_11.cap (i := 0) rfl) r_23 r_29 hr_19) ?_
  rintro _ w_20 ⟨A_24, c_25, n_26, hn_27, rfl, sc_22⟩
  have st_21 : St w w_20 [.sl A_24 c_25 n_26 (iv .u8 r_23) 5 1, .sl A_14 c_15 n_16 (iv .u8 r_13) 5 1, .cells B_1 (iv .u8 l0) 23] := st_11.call sc_22
  refine ⟨_, rfl, ?_⟩
  refine WL.val Wanted.none (Runs.move rfl) ?_
  refine WL.val Wanted.none (Runs.extract rfl rfl) ?_
  refine WL.val Wanted.none (Runs.extract rfl rfl) ?_
  refine WL.val Wanted.none (Runs.assign rfl) ?_
  refine WL.val Wanted.none (Runs.assign rfl) ?_
  refine WL.nil ?_
  refine QW.then_n ?_
  refine CW.sub [(3, .int .u8 a3), (4, .int .u8 a4), (5, .pointer (some ⟨B_1, 0, none⟩)), (10, .bool false), (12, .slice A_14 n_16 c_15), (13, .slice A_24 n_26 c_25), (14, .int .i64 r_29)] ⟨rfl, rfl, rfl, rfl, rfl, rfl, rfl, trivial⟩ ?_
  refine CW.seq ?_
  refine CW.seq ?_
  refine CW.region ?_
  refine WL.val Wanted.none (Runs.move rfl) ?_
  refine WL.val Wanted.none (Runs.neq rfl rfl rfl) ?_
  refine WL.nil ?_
  refine QW.then_n ?_
  obtain ⟨c_30, H⟩ := H
  have h_31 : (r_29 != 0) = false := (bne_eq_false_iff_eq.mpr (Decidable.not_not.mp c_30))
  refine CW.cf rfl h_31 ?_
  refine CW.skip ?_
  refine QW.then_n ?_
  refine CW.seq ?_
  refine CW.region ?_
  refine WL.val Wanted.none (Runs.move rfl) ?_
  refine WL.val Wanted.none (Runs.len_sl Tryd.underlying26 rfl (by rw [hn_17])) ?_
  refine WL.val Wanted.none (Runs.add rfl rfl rfl) ?_
  refine WL.val Wanted.none (Runs.assign rfl) ?_
  refine WL.nil ?_
  refine QW.then_n ?_
  refine CW.sub [(3, .int .u8 a3), (4, .int .u8 a4), (5, .pointer (some ⟨B_1, 0, none⟩)), (10, .bool false), (12, .slice A_14 n_16 c_15), (13, .slice A_24 n_26 c_25), (15, .int .i64 (IntKind.i64.wrap (8 + (r_13.length : Int))))] ⟨rfl, rfl, rfl, rfl, rfl, rfl, rfl, trivial⟩ ?_
  refine CW.seq ?_
  refine CW.seq ?_
  refine CW.region ?_
  refine WL.val Wanted.none (Runs.move rfl) ?_
  refine WL.val Wanted.none (Runs.assign rfl) ?_
  refine WL.nil ?_
  refine QW.then_n ?_
  refine CW.block ?_
  obtain ⟨k_32, H⟩ := H
  refine CW.sub [(3, .int .u8 a3), (4, .int .u8 a4), (5, .pointer (some ⟨B_1, 0, none⟩)), (10, .bool false), (12, .slice A_14 n_16 c_15), (13, .slice A_24 n_26 c_25), (15, .int .i64 (IntKind.i64.wrap (8 + (r_13.length : Int)))), (16, .int .i64 (IntKind.i64.wrap (8 + (r_13.length : Int))))] ⟨rfl, rfl, rfl, rfl, rfl, rfl, rfl, rfl, trivial⟩ ?_
  refine CW.loop (fun kL1 l_ w_ => ∃ (b_33 : Bool) (x_34 : Int), l_ = [(3, .int .u8 a3), (4, .int .u8 a4), (5, .pointer (some ⟨B_1, 0, none⟩)), (10, .bool b_33), (12, .slice A_14 n_16 c_15), (13, .slice A_24 n_26 c_25), (15, .int .i64 (IntKind.i64.wrap (8 + (r_13.length : Int)))), (16, .int .i64 x_34)] ∧ reliquarylaw08_SealTails.L1 l0 a3 a4 r_13 r_23 kL1 b_33 x_34 ∧ St w w_ [.sl A_24 c_25 n_26 (iv .u8 r_23) 5 1, .sl A_14 c_15 n_16 (iv .u8 r_13) 5 1, .cells B_1 (iv .u8 l0) 23]) (k := k_32) ⟨false, IntKind.i64.wrap (8 + (r_13.length : Int)), rfl, H, st_21⟩ (fun _ _ h => by obtain ⟨_, _, _, h, _⟩ := h; exact h.elim) ?_
  rintro kL1 l_37 w_35 ⟨b_33, x_34, rfl, H, st_36⟩
  refine CW.seq ?_
  refine CW.seq ?_
  refine CW.region ?_
  refine WL.val Wanted.none (Runs.move rfl) ?_
  refine WL.val Wanted.none (Runs.move rfl) ?_
  refine WL.val Wanted.none (Runs.len_sl Tryd.underlying26 rfl (by rw [hn_27])) ?_
  refine WL.val Wanted.none (Runs.lss rfl rfl rfl) ?_
  refine WL.nil ?_
  refine QW.then_n ?_
  rcases H with ⟨c_38, H⟩ | ⟨c_38, H⟩
  · have h_39 : (decide (x_34 < (r_23.length : Int))) = true := (decide_eq_true c_38)
    refine CW.ct rfl h_39 ?_
    refine CW.skip ?_
    refine QW.then_n ?_
    refine CW.seq ?_
    refine CW.block ?_
    refine CW.seq ?_
    refine CW.region ?_
    refine WL.val Wanted.none (Runs.move rfl) ?_
    refine WL.val Wanted.none (Runs.move rfl) ?_
    obtain ⟨⟨p_40, q_41⟩, H⟩ := H
    obtain ⟨a_42, e_43⟩ := (st_36.src_sl (k := 0) rfl).addr_iv ((x_34).toNat) (by omega)
    refine WL.val Wanted.none (Runs.indexAddr Tryd.underlying26 cells5 (by decide) rfl e_43 rfl p_40 (by rw [hn_27]; exact q_41) (o := (x_34).toNat) (by first | rfl | omega)) ?_
    refine WL.val Wanted.none (Runs.load nagg5 rfl ((st_36.src_sl (k := 0) rfl).cell_iv e_43 (by omega))) ?_
    refine WL.val Wanted.none (Runs.neq rfl rfl rfl) ?_
    refine WL.nil ?_
    refine QW.then_n ?_
    obtain ⟨c_44, H⟩ := H
    have h_45 : ((gn r_23 ((x_34).toNat)) != 0) = false := (bne_eq_false_iff_eq.mpr (Decidable.not_not.mp c_44))
    refine CW.cf rfl h_45 ?_
    refine CW.skip ?_
    refine QW.blk_n ?_
    refine QW.then_n ?_
    refine CW.region ?_
    refine WL.val Wanted.none (Runs.move rfl) ?_
    refine WL.val Wanted.none (Runs.add rfl rfl rfl) ?_
    refine WL.val Wanted.none (Runs.assign rfl) ?_
    refine WL.nil ?_
    exact QW.at [(3, .int .u8 a3), (4, .int .u8 a4), (5, .pointer (some ⟨B_1, 0, none⟩)), (10, .bool b_33), (12, .slice A_14 n_16 c_15), (13, .slice A_24 n_26 c_25), (15, .int .i64 (IntKind.i64.wrap (8 + (r_13.length : Int)))), (16, .int .i64 (IntKind.i64.wrap (x_34 + 1)))] ⟨rfl, rfl, rfl, rfl, rfl, rfl, rfl, rfl, trivial⟩ ⟨b_33, IntKind.i64.wrap (x_34 + 1), rfl, H, st_36⟩
  · have h_39 : (decide (x_34 < (r_23.length : Int))) = false := (decide_eq_false c_38)
    refine CW.cf rfl h_39 ?_
    refine CW.exit ?_
    refine QW.then_x ?_
    refine QW.then_x ?_
    refine QW.blk_x ?_
    refine QW.then_n ?_
    refine CW.seq ?_
    refine CW.region ?_
    refine WL.val Wanted.none (Runs.move rfl) ?_
    refine WL.val Wanted.none (Runs.move rfl) ?_
    refine WL.val Wanted.none (Runs.conv Tryd.underlying3 ⟨_, Tryd.underlying5⟩ rfl rfl) ?_
    refine WL.val Wanted.none (Runs.move rfl) ?_
    obtain ⟨x_46, e_47, H⟩ := H
    refine WL.val Wanted.none (Runs.sub rfl rfl e_47) ?_
    obtain ⟨z_48, H⟩ := H
    refine WL.val Wanted.none (Runs.rem rfl rfl z_48 rfl) ?_
    obtain ⟨x_49, e_50, H⟩ := H
    refine WL.val Wanted.none (Runs.add rfl rfl e_50) ?_
    refine WL.val Wanted.none (Runs.assign rfl) ?_
    refine WL.nil ?_
    refine QW.then_n ?_
    refine CW.sub [(4, .int .u8 a4), (5, .pointer (some ⟨B_1, 0, none⟩)), (10, .bool b_33), (12, .slice A_14 n_16 c_15), (13, .slice A_24 n_26 c_25), (17, .int .i64 x_49)] ⟨rfl, rfl, rfl, rfl, rfl, rfl, trivial⟩ ?_
    refine CW.seq ?_
    refine CW.region ?_
    refine WL.val Wanted.none (Runs.move rfl) ?_
    refine WL.val Wanted.none (Runs.move rfl) ?_
    refine WL.val Wanted.none (Runs.move rfl) ?_
    obtain ⟨⟨p_51, q_52⟩, H⟩ := H
    obtain ⟨a_53, e_54⟩ := (st_36.src_sl (k := 0) rfl).addr_iv ((x_49).toNat) (by omega)
    refine WL.val Wanted.none (Runs.indexAddr Tryd.underlying26 cells5 (by decide) rfl e_54 rfl p_51 (by rw [hn_27]; exact q_52) (o := (x_49).toNat) (by first | rfl | omega)) ?_
    obtain ⟨m_55, e_56, H⟩ := H
    refine WL.store_sl (i := 0) st_36 rfl cells5 rfl e_54 (by rw [iv_length]; omega) rfl rfl ?_
    intro w_57 st_58
    have hn_59 : n_26 = m_55.length := by rw [e_56, List.length_set]; exact hn_27
    have st_58' : St w w_57 [.sl A_24 c_25 n_26 (iv .u8 m_55) 5 1, .sl A_14 c_15 n_16 (iv .u8 r_13) 5 1, .cells B_1 (iv .u8 l0) 23] := by rw [e_56, ← iv_set .u8 r_23 ((x_49).toNat) a4]; exact st_58
    refine WL.nil ?_
    refine QW.then_n ?_
    refine CW.seq ?_
    refine CW.region ?_
    refine WL.val Wanted.none (Runs.load_arr arr23 rfl (st_58'.blk (i := 2) rfl) hl0) ?_
    refine WL.val Wanted.none (Runs.move rfl) ?_
    refine WL.val Wanted.none (Runs.move rfl) ?_
    refine WL.val Wanted.none (Runs.len_sl Tryd.underlying26 rfl (by rw [hn_17])) ?_
    obtain ⟨r_64, r_65, r_71, hr_60, H⟩ := H
    refine WL.call Wanted.none ent12 rfl (seal_Open.calls w_57 l0 3 m_55 (r_13.length : Int) A_24 n_26 c_25 (hG0.ext st_58') hl0 (st_58'.src_sl (k := 0) rfl) (hn_59) (st_58'.cap (i := 0) rfl) r_64 r_65 r_71 hr_60) ?_
    rintro _ w_61 ⟨A_66, c_67, n_68, hn_69, rfl, sc_63⟩
    have st_62 : St w w_61 [.sl A_66 c_67 n_68 (iv .u8 r_65) 5 1, .sl A_24 c_25 n_26 (iv .u8 m_55) 5 1, .sl A_14 c_15 n_16 (iv .u8 r_13) 5 1, .cells B_1 (iv .u8 l0) 23] := st_58'.call sc_63
    refine ⟨_, rfl, ?_⟩
    refine WL.val Wanted.none (Runs.move rfl) ?_
    refine WL.val Wanted.none (Runs.extract rfl rfl) ?_
    refine WL.val Wanted.none (Runs.extract rfl rfl) ?_
    refine WL.val Wanted.none (Runs.extract rfl rfl) ?_
    refine WL.val Wanted.none (Runs.assign rfl) ?_
    refine WL.val Wanted.none (Runs.assign rfl) ?_
    refine WL.val Wanted.none (Runs.assign rfl) ?_
    refine WL.nil ?_
    refine QW.then_n ?_
    refine CW.sub [(4, .int .u8 a4), (10, .bool b_33), (13, .slice A_24 n_26 c_25), (20, .int .i64 r_71)] ⟨rfl, rfl, rfl, rfl, trivial⟩ ?_
    refine CW.seq ?_
    refine CW.region ?_
    refine WL.val Wanted.none (Runs.move rfl) ?_
    refine WL.val Wanted.none (Runs.len_sl Tryd.underlying26 rfl (by rw [hn_59])) ?_
    refine WL.val Wanted.none (Runs.eql rfl rfl rfl) ?_
    refine WL.val Wanted.none (Runs.move rfl) ?_
    obtain ⟨c_72, H⟩ := H
    have h_73 : ((m_55.length : Int) == 192) = true := (beq_iff_eq.mpr c_72)
    refine WL.on ?_ ?_; exact Wanted.guard (dj := 74) (by rfl) (evb (by rfl) h_73) (by rfl)
    refine WL.val Wanted.none (Runs.move rfl) ?_
    refine WL.on ?_ ?_; exact Wanted.guard (dj := 74) (by rfl) (evb (by rfl) h_73) (by rfl)
    refine WL.val Wanted.none (Runs.eql rfl rfl rfl) ?_
    refine WL.on ?_ ?_; exact Wanted.guard (dj := 74) (by rfl) (evb (by rfl) h_73) (by rfl)
    refine WL.val Wanted.none (Runs.move rfl) ?_
    refine WL.on ?_ ?_; exact Wanted.guard (dj := 74) (by rfl) (evb (by rfl) h_73) (by rfl)
    refine WL.val Wanted.none (Runs.eql rfl rfl rfl) ?_
    refine WL.on ?_ ?_; exact Wanted.guard (dj := 74) (by rfl) (evb (by rfl) h_73) (by rfl)
    refine WL.val Wanted.none (Runs.eqb Tryd.underlying4 rfl rfl rfl) ?_
    refine WL.val Wanted.none (Runs.pick_t (evb rfl h_73) rfl) ?_
    refine WL.val Wanted.none (Runs.move rfl) ?_
    obtain ⟨c_74, H⟩ := H
    have h_75 : ((r_71 == 0) == (a4 == 0)) = true := (beq_iff_eq.mpr c_74)
    refine WL.on ?_ ?_; exact Wanted.guard (dj := 81) (by rfl) (evb (by rfl) h_75) (by rfl)
    refine WL.val Wanted.none (Runs.move rfl) ?_
    refine WL.on ?_ ?_; exact Wanted.guard (dj := 81) (by rfl) (evb (by rfl) h_75) (by rfl)
    refine WL.val Wanted.none (Runs.eql rfl rfl rfl) ?_
    refine WL.on ?_ ?_; exact Wanted.guard (dj := 81) (by rfl) (evb (by rfl) h_75) (by rfl)
    refine WL.val Wanted.none (Runs.move rfl) ?_
    refine WL.on ?_ ?_; exact Wanted.guard (dj := 81) (by rfl) (evb (by rfl) h_75) (by rfl)
    refine WL.val Wanted.none (Runs.neq rfl rfl rfl) ?_
    refine WL.on ?_ ?_; exact Wanted.guard (dj := 81) (by rfl) (evb (by rfl) h_75) (by rfl)
    refine WL.val Wanted.none (Runs.eqb Tryd.underlying4 rfl rfl rfl) ?_
    refine WL.val Wanted.none (Runs.pick_t (evb rfl h_75) rfl) ?_
    refine WL.val Wanted.none (Runs.assign rfl) ?_
    refine WL.nil ?_
    refine QW.then_n ?_
    refine CW.sub [(10, .bool ((r_71 == 11) == (a4 != 0)))] ⟨rfl, trivial⟩ ?_
    refine CW.ret ?_
    have hz : ((r_71 == 11) == (a4 != 0)) = true := (beq_iff_eq.mpr H)
    exact QW.ret1 rfl (evb rfl hz) ⟨rfl, st_62.ext⟩

end Go.Proofs.YtkcpocplohdobaaDoor
