/- Walks: each function computes what its relation says, and a call of it ends so. Printed by a program of this session (wip/gen). -/
import Derived.Test.YtkcpocplohdobaaDoorGx1
namespace Go.Proofs.YtkcpocplohdobaaDoor
open Go Go.Kr Go.RowKit
set_option linter.unusedVariables false
set_option linter.unusedSimpArgs false
/-! ### reliquarylaw08_awake: function 8 -/
def reliquarylaw08_awake.rel   : Prop := (∃ m_1 : List Int, m_1 = List.replicate 32 (0 : Int) ∧ (∃ (r_12 : List Int) (r_18 : Int), seal_Seal.rel m_1 1 0 (List.replicate 160 (0 : Int)) r_12 r_18 ∧ (∃ m_19 : List Int, m_19 = List.replicate 32 (0 : Int) ∧ (∃ (r_30 : List Int) (r_36 : Int), seal_Seal.rel m_19 1 5 (List.replicate 160 (0 : Int)) r_30 r_36 ∧ (∃ m_37 : List Int, m_37 = List.replicate 32 (0 : Int) ∧ (∃ (r_43 : Int) (r_44 : List Int) (r_50 : Int), seal_Open.rel m_37 1 r_30 160 r_43 r_44 r_50 ∧ (r_18 = 1 ∧ (r_36 = 0 ∧ ((r_30.length : Int) = 192 ∧ (r_43 = 5 ∧ (r_50 = 0 ∧ ((r_44.length : Int) = 160 ∧ ((0 ≤ (0 : Int) ∧ (0 : Int) < (r_44.length : Int)) ∧ (gn r_44 0) = 0)))))))))))))
set_option maxHeartbeats 4000000 in
set_option maxRecDepth 100000 in
theorem reliquarylaw08_awake.calls (w : World)    (hG0 : Src w (some ⟨0, 0, none⟩) (iv .i64 tab0))  (H : reliquarylaw08_awake.rel  ) :
    Calls Tryd.prog 8 #[] w fun e w' => e = .returned (.bool true) ∧ Below w.heap.size w w' := by
  refine CW.enter Tryd.func8 rfl (n := 57) rfl [] (Nat.le_of_ble_eq_true rfl) ?_
  refine CW.sub [] trivial ?_
  have st0 : St w w [] := St.refl w
  refine CW.seq ?_
  refine CW.region ?_
  refine WL.val Wanted.none (Runs.assign rfl) ?_
  refine WL.nil ?_
  refine QW.then_n ?_
  refine CW.seq ?_
  refine CW.region ?_
  obtain ⟨m_1, e_2, H⟩ := H
  refine WL.val Wanted.none (Runs.build_arr (xs := m_1) arr23 rfl rfl (by rw [e_2]; rfl)) ?_
  refine WL.make st0 Tryd.underlying26 elem5 rfl rfl (by decide) (by decide) (by decide) (N := 160) rfl ?_
  intro B_3 w_4 st_5
  replace st_5 : St w w_4 [.sl (some ⟨B_3, 0, none⟩) 160 160 (iv .u8 (List.replicate 160 (0 : Int))) 5 1] := by rw [iv_replicate] at st_5; exact st_5
  have hn_6 : 160 = (List.replicate 160 (0 : Int)).length := by simp
  obtain ⟨r_12, r_18, hr_8, H⟩ := H
  refine WL.call Wanted.none ent10 rfl (seal_Seal.calls w_4 m_1 1 0 (List.replicate 160 (0 : Int)) (some ⟨B_3, 0, none⟩) 160 160 (hG0.ext st_5) (by rw [e_2]; rfl) (st_5.src_sl (k := 0) rfl) (hn_6) (st_5.cap (i := 0) rfl) r_12 r_18 hr_8) ?_
  rintro _ w_9 ⟨A_13, c_14, n_15, hn_16, rfl, sc_11⟩
  have st_10 : St w w_9 [.sl A_13 c_14 n_15 (iv .u8 r_12) 5 1, .sl (some ⟨B_3, 0, none⟩) 160 160 (iv .u8 (List.replicate 160 (0 : Int))) 5 1] := st_5.call sc_11
  refine ⟨_, rfl, ?_⟩
  refine WL.val Wanted.none (Runs.move rfl) ?_
  refine WL.val Wanted.none (Runs.extract rfl rfl) ?_
  refine WL.val Wanted.none (Runs.extract rfl rfl) ?_
  refine WL.val Wanted.none (Runs.assign rfl) ?_
  refine WL.val Wanted.none (Runs.assign rfl) ?_
  refine WL.nil ?_
  refine QW.then_n ?_
  refine CW.sub [(0, .bool false), (2, .int .i64 r_18)] ⟨rfl, rfl, trivial⟩ ?_
  refine CW.seq ?_
  refine CW.region ?_
  obtain ⟨m_19, e_20, H⟩ := H
  refine WL.val Wanted.none (Runs.build_arr (xs := m_19) arr23 rfl rfl (by rw [e_20]; rfl)) ?_
  refine WL.make st_10 Tryd.underlying26 elem5 rfl rfl (by decide) (by decide) (by decide) (N := 160) rfl ?_
  intro B_21 w_22 st_23
  replace st_23 : St w w_22 [.sl (some ⟨B_21, 0, none⟩) 160 160 (iv .u8 (List.replicate 160 (0 : Int))) 5 1, .sl A_13 c_14 n_15 (iv .u8 r_12) 5 1, .sl (some ⟨B_3, 0, none⟩) 160 160 (iv .u8 (List.replicate 160 (0 : Int))) 5 1] := by rw [iv_replicate] at st_23; exact st_23
  have hn_24 : 160 = (List.replicate 160 (0 : Int)).length := by simp
  obtain ⟨r_30, r_36, hr_26, H⟩ := H
  refine WL.call Wanted.none ent10 rfl (seal_Seal.calls w_22 m_19 1 5 (List.replicate 160 (0 : Int)) (some ⟨B_21, 0, none⟩) 160 160 (hG0.ext st_23) (by rw [e_20]; rfl) (st_23.src_sl (k := 0) rfl) (hn_24) (st_23.cap (i := 0) rfl) r_30 r_36 hr_26) ?_
  rintro _ w_27 ⟨A_31, c_32, n_33, hn_34, rfl, sc_29⟩
  have st_28 : St w w_27 [.sl A_31 c_32 n_33 (iv .u8 r_30) 5 1, .sl (some ⟨B_21, 0, none⟩) 160 160 (iv .u8 (List.replicate 160 (0 : Int))) 5 1, .sl A_13 c_14 n_15 (iv .u8 r_12) 5 1, .sl (some ⟨B_3, 0, none⟩) 160 160 (iv .u8 (List.replicate 160 (0 : Int))) 5 1] := st_23.call sc_29
  refine ⟨_, rfl, ?_⟩
  refine WL.val Wanted.none (Runs.move rfl) ?_
  refine WL.val Wanted.none (Runs.extract rfl rfl) ?_
  refine WL.val Wanted.none (Runs.extract rfl rfl) ?_
  refine WL.val Wanted.none (Runs.assign rfl) ?_
  refine WL.val Wanted.none (Runs.assign rfl) ?_
  refine WL.nil ?_
  refine QW.then_n ?_
  refine CW.sub [(0, .bool false), (2, .int .i64 r_18), (3, .slice A_31 n_33 c_32), (4, .int .i64 r_36)] ⟨rfl, rfl, rfl, rfl, trivial⟩ ?_
  refine CW.seq ?_
  refine CW.region ?_
  obtain ⟨m_37, e_38, H⟩ := H
  refine WL.val Wanted.none (Runs.build_arr (xs := m_37) arr23 rfl rfl (by rw [e_38]; rfl)) ?_
  refine WL.val Wanted.none (Runs.move rfl) ?_
  obtain ⟨r_43, r_44, r_50, hr_39, H⟩ := H
  refine WL.call Wanted.none ent12 rfl (seal_Open.calls w_27 m_37 1 r_30 160 A_31 n_33 c_32 (hG0.ext st_28) (by rw [e_38]; rfl) (st_28.src_sl (k := 0) rfl) (hn_34) (st_28.cap (i := 0) rfl) r_43 r_44 r_50 hr_39) ?_
  rintro _ w_40 ⟨A_45, c_46, n_47, hn_48, rfl, sc_42⟩
  have st_41 : St w w_40 [.sl A_45 c_46 n_47 (iv .u8 r_44) 5 1, .sl A_31 c_32 n_33 (iv .u8 r_30) 5 1, .sl (some ⟨B_21, 0, none⟩) 160 160 (iv .u8 (List.replicate 160 (0 : Int))) 5 1, .sl A_13 c_14 n_15 (iv .u8 r_12) 5 1, .sl (some ⟨B_3, 0, none⟩) 160 160 (iv .u8 (List.replicate 160 (0 : Int))) 5 1] := st_28.call sc_42
  refine ⟨_, rfl, ?_⟩
  refine WL.val Wanted.none (Runs.move rfl) ?_
  refine WL.val Wanted.none (Runs.extract rfl rfl) ?_
  refine WL.val Wanted.none (Runs.extract rfl rfl) ?_
  refine WL.val Wanted.none (Runs.extract rfl rfl) ?_
  refine WL.val Wanted.none (Runs.assign rfl) ?_
  refine WL.val Wanted.none (Runs.assign rfl) ?_
  refine WL.val Wanted.none (Runs.assign rfl) ?_
  refine WL.nil ?_
  refine QW.then_n ?_
  refine CW.sub [(0, .bool false), (2, .int .i64 r_18), (3, .slice A_31 n_33 c_32), (4, .int .i64 r_36), (5, .int .u64 r_43), (6, .slice A_45 n_47 c_46), (7, .int .i64 r_50)] ⟨rfl, rfl, rfl, rfl, rfl, rfl, rfl, trivial⟩ ?_
  refine CW.seq ?_
  refine CW.region ?_
  refine WL.val Wanted.none (Runs.move rfl) ?_
  refine WL.val Wanted.none (Runs.eql rfl rfl rfl) ?_
  refine WL.val Wanted.none (Runs.move rfl) ?_
  obtain ⟨c_51, H⟩ := H
  have h_52 : (r_18 == 1) = true := (beq_iff_eq.mpr c_51)
  refine WL.on ?_ ?_; exact Wanted.guard (dj := 29) (by rfl) (evb (by rfl) h_52) (by rfl)
  refine WL.val Wanted.none (Runs.move rfl) ?_
  refine WL.on ?_ ?_; exact Wanted.guard (dj := 29) (by rfl) (evb (by rfl) h_52) (by rfl)
  refine WL.val Wanted.none (Runs.eql rfl rfl rfl) ?_
  refine WL.val Wanted.none (Runs.pick_t (evb rfl h_52) rfl) ?_
  refine WL.val Wanted.none (Runs.move rfl) ?_
  obtain ⟨c_53, H⟩ := H
  have h_54 : (r_36 == 0) = true := (beq_iff_eq.mpr c_53)
  refine WL.on ?_ ?_; exact Wanted.guard (dj := 33) (by rfl) (evb (by rfl) h_54) (by rfl)
  refine WL.val Wanted.none (Runs.move rfl) ?_
  refine WL.on ?_ ?_; exact Wanted.guard (dj := 33) (by rfl) (evb (by rfl) h_54) (by rfl)
  refine WL.val Wanted.none (Runs.len_sl Tryd.underlying26 rfl (by rw [hn_34])) ?_
  refine WL.on ?_ ?_; exact Wanted.guard (dj := 33) (by rfl) (evb (by rfl) h_54) (by rfl)
  refine WL.val Wanted.none (Runs.eql rfl rfl rfl) ?_
  refine WL.val Wanted.none (Runs.pick_t (evb rfl h_54) rfl) ?_
  refine WL.val Wanted.none (Runs.move rfl) ?_
  obtain ⟨c_55, H⟩ := H
  have h_56 : ((r_30.length : Int) == 192) = true := (beq_iff_eq.mpr c_55)
  refine WL.on ?_ ?_; exact Wanted.guard (dj := 38) (by rfl) (evb (by rfl) h_56) (by rfl)
  refine WL.val Wanted.none (Runs.move rfl) ?_
  refine WL.on ?_ ?_; exact Wanted.guard (dj := 38) (by rfl) (evb (by rfl) h_56) (by rfl)
  refine WL.val Wanted.none (Runs.eql rfl rfl rfl) ?_
  refine WL.val Wanted.none (Runs.pick_t (evb rfl h_56) rfl) ?_
  refine WL.val Wanted.none (Runs.move rfl) ?_
  obtain ⟨c_57, H⟩ := H
  have h_58 : (r_43 == 5) = true := (beq_iff_eq.mpr c_57)
  refine WL.on ?_ ?_; exact Wanted.guard (dj := 42) (by rfl) (evb (by rfl) h_58) (by rfl)
  refine WL.val Wanted.none (Runs.move rfl) ?_
  refine WL.on ?_ ?_; exact Wanted.guard (dj := 42) (by rfl) (evb (by rfl) h_58) (by rfl)
  refine WL.val Wanted.none (Runs.eql rfl rfl rfl) ?_
  refine WL.val Wanted.none (Runs.pick_t (evb rfl h_58) rfl) ?_
  refine WL.val Wanted.none (Runs.move rfl) ?_
  obtain ⟨c_59, H⟩ := H
  have h_60 : (r_50 == 0) = true := (beq_iff_eq.mpr c_59)
  refine WL.on ?_ ?_; exact Wanted.guard (dj := 46) (by rfl) (evb (by rfl) h_60) (by rfl)
  refine WL.val Wanted.none (Runs.move rfl) ?_
  refine WL.on ?_ ?_; exact Wanted.guard (dj := 46) (by rfl) (evb (by rfl) h_60) (by rfl)
  refine WL.val Wanted.none (Runs.len_sl Tryd.underlying26 rfl (by rw [hn_48])) ?_
  refine WL.on ?_ ?_; exact Wanted.guard (dj := 46) (by rfl) (evb (by rfl) h_60) (by rfl)
  refine WL.val Wanted.none (Runs.eql rfl rfl rfl) ?_
  refine WL.val Wanted.none (Runs.pick_t (evb rfl h_60) rfl) ?_
  refine WL.val Wanted.none (Runs.move rfl) ?_
  obtain ⟨c_61, H⟩ := H
  have h_62 : ((r_44.length : Int) == 160) = true := (beq_iff_eq.mpr c_61)
  refine WL.on ?_ ?_; exact Wanted.guard (dj := 51) (by rfl) (evb (by rfl) h_62) (by rfl)
  refine WL.val Wanted.none (Runs.move rfl) ?_
  refine WL.on ?_ ?_; exact Wanted.guard (dj := 51) (by rfl) (evb (by rfl) h_62) (by rfl)
  obtain ⟨⟨p_63, q_64⟩, H⟩ := H
  obtain ⟨a_65, e_66⟩ := (st_41.src_sl (k := 0) rfl).addr_iv 0 (by omega)
  refine WL.val Wanted.none (Runs.indexAddr Tryd.underlying26 cells5 (by decide) rfl e_66 rfl p_63 (by rw [hn_48]; exact q_64) (o := 0) (by first | rfl | omega)) ?_
  refine WL.on ?_ ?_; exact Wanted.guard (dj := 51) (by rfl) (evb (by rfl) h_62) (by rfl)
  refine WL.val Wanted.none (Runs.load nagg5 rfl ((st_41.src_sl (k := 0) rfl).cell_iv e_66 (by omega))) ?_
  refine WL.on ?_ ?_; exact Wanted.guard (dj := 51) (by rfl) (evb (by rfl) h_62) (by rfl)
  refine WL.val Wanted.none (Runs.eql rfl rfl rfl) ?_
  refine WL.val Wanted.none (Runs.pick_t (evb rfl h_62) rfl) ?_
  refine WL.val Wanted.none (Runs.assign rfl) ?_
  refine WL.nil ?_
  refine QW.then_n ?_
  refine CW.sub [(0, .bool ((gn r_44 0) == 0))] ⟨rfl, trivial⟩ ?_
  refine CW.ret ?_
  have hz : ((gn r_44 0) == 0) = true := (beq_iff_eq.mpr H)
  exact QW.ret1 rfl (evb rfl hz) ⟨rfl, st_41.ext⟩

/-! ### reliquarylaw08_long: function 9 -/
def reliquarylaw08_long.L1 (l0 : List Int) (a1 : Int) (r0 : List Int) : Nat → (List Int) → Int → Prop
  | 0, _, _ => False
  | kL1 + 1, l_19, x_21 => ((x_21 < (l0.length : Int) ∧ ((x_21 < (gn [160, 176, 161, 160] ((bits .and .u8 a1 3).toNat)) ∧ ((0 ≤ x_21 ∧ x_21 < (l0.length : Int)) ∧ ((0 ≤ x_21 ∧ x_21 < (l_19.length : Int)) ∧ (∃ m_37 : List Int, m_37 = List.set l_19 ((x_21).toNat) (gn l0 ((x_21).toNat)) ∧ reliquarylaw08_long.L1 l0 a1 r0 kL1 m_37 (IntKind.i64.wrap (x_21 + 1)))))) ∨ (¬ (x_21 < (gn [160, 176, 161, 160] ((bits .and .u8 a1 3).toNat))) ∧ r0 = l_19))) ∨ (¬ (x_21 < (l0.length : Int)) ∧ r0 = l_19))
def reliquarylaw08_long.rel (l0 : List Int) (a1 : Int) (r0 : List Int) : Prop := ((0 ≤ (bits .and .u8 a1 3) ∧ (bits .and .u8 a1 3) < ([160, 176, 161, 160].length : Int)) ∧ ((0 ≤ (gn [160, 176, 161, 160] ((bits .and .u8 a1 3).toNat)) ∧ (gn [160, 176, 161, 160] ((bits .and .u8 a1 3).toNat)) ≤ 1099511627776) ∧ (∃ k_ : Nat, reliquarylaw08_long.L1 l0 a1 r0 k_ (List.replicate (gn [160, 176, 161, 160] ((bits .and .u8 a1 3).toNat)).toNat (0 : Int)) 0)))
set_option maxHeartbeats 4000000 in
set_option maxRecDepth 100000 in
theorem reliquarylaw08_long.calls (w : World) (l0 : List Int) (a1 : Int) (A0 : Option Addr) (n0 : Nat) (c0 : Nat)  (hs0 : Src w A0 (iv .u8 l0)) (hn0 : n0 = l0.length) (hc0 : n0 ≤ c0) (r0 : List Int) (H : reliquarylaw08_long.rel l0 a1 r0) :
    Calls Tryd.prog 9 #[.slice A0 n0 c0, .int .u8 a1] w fun e w' => ∃ B0 q0 z0, z0 = r0.length ∧ e = .returned (.slice B0 z0 q0) ∧ St w w' [.sl B0 q0 z0 (iv .u8 r0) 5 1] := by
  refine CW.enter Tryd.func9 rfl (n := 34) rfl [.slice A0 n0 c0, .int .u8 a1] (Nat.le_of_ble_eq_true rfl) ?_
  refine CW.sub [(0, .slice A0 n0 c0), (1, .int .u8 a1)] ⟨rfl, rfl, trivial⟩ ?_
  have st0 : St w w [] := St.refl w
  refine CW.seq ?_
  refine CW.region ?_
  refine WL.val Wanted.none (Runs.assign rfl) ?_
  refine WL.nil ?_
  refine QW.then_n ?_
  refine CW.seq ?_
  refine CW.region ?_
  refine WL.buildSl [.int .i64 160, .int .i64 176, .int .i64 161, .int .i64 160] st0 Tryd.underlying44 elem3 rfl rfl (by decide) (by decide) (by simp [Value.cells]) ?_
  intro B_1 w_2 st_3
  replace st_3 : St w w_2 [.sl (some ⟨B_1, 0, none⟩) 4 4 (iv .i64 [160, 176, 161, 160]) 3 1] := st_3
  refine WL.val Wanted.none (Runs.move rfl) ?_
  refine WL.val Wanted.none (Runs.band rfl rfl rfl) ?_
  obtain ⟨⟨p_5, q_6⟩, H⟩ := H
  obtain ⟨a_7, e_8⟩ := (st_3.src_sl (k := 0) rfl).addr_iv ((bits .and .u8 a1 3).toNat) (by omega)
  refine WL.val Wanted.none (Runs.indexAddr Tryd.underlying44 cells3 (by decide) rfl e_8 rfl p_5 q_6 (o := (bits .and .u8 a1 3).toNat) (by first | rfl | omega)) ?_
  refine WL.val Wanted.none (Runs.load nagg3 rfl ((st_3.src_sl (k := 0) rfl).cell_iv e_8 (by omega))) ?_
  refine WL.val Wanted.none (Runs.assign rfl) ?_
  refine WL.nil ?_
  refine QW.then_n ?_
  refine CW.sub [(0, .slice A0 n0 c0), (4, .slice none 0 0), (5, .int .i64 (gn [160, 176, 161, 160] ((bits .and .u8 a1 3).toNat)))] ⟨rfl, rfl, rfl, trivial⟩ ?_
  refine CW.seq ?_
  refine CW.region ?_
  refine WL.val Wanted.none (Runs.move rfl) ?_
  obtain ⟨⟨p_9, q_10⟩, H⟩ := H
  obtain ⟨n_11, e_12⟩ : ∃ n_ : Nat, n_ = (gn [160, 176, 161, 160] ((bits .and .u8 a1 3).toNat)).toNat := ⟨_, rfl⟩
  refine WL.make st_3 Tryd.underlying26 elem5 rfl rfl p_9 q_10 (by decide) (N := n_11) e_12 ?_
  intro B_13 w_14 st_15
  replace st_15 : St w w_14 [.sl (some ⟨B_13, 0, none⟩) n_11 n_11 (iv .u8 (List.replicate (gn [160, 176, 161, 160] ((bits .and .u8 a1 3).toNat)).toNat (0 : Int))) 5 1, .sl (some ⟨B_1, 0, none⟩) 4 4 (iv .i64 [160, 176, 161, 160]) 3 1] := by rw [← e_12]; rw [iv_replicate] at st_15; exact st_15
  have hn_16 : n_11 = (List.replicate (gn [160, 176, 161, 160] ((bits .and .u8 a1 3).toNat)).toNat (0 : Int)).length := by rw [List.length_replicate]; exact e_12
  refine WL.val Wanted.none (Runs.assign rfl) ?_
  refine WL.nil ?_
  refine QW.then_n ?_
  refine CW.seq ?_
  refine CW.seq ?_
  refine CW.region ?_
  refine WL.val Wanted.none (Runs.assign rfl) ?_
  refine WL.nil ?_
  refine QW.then_n ?_
  refine CW.block ?_
  obtain ⟨k_18, H⟩ := H
  refine CW.sub [(0, .slice A0 n0 c0), (4, .slice none 0 0), (5, .int .i64 (gn [160, 176, 161, 160] ((bits .and .u8 a1 3).toNat))), (6, .slice (some ⟨B_13, 0, none⟩) n_11 n_11), (7, .int .i64 0)] ⟨rfl, rfl, rfl, rfl, rfl, trivial⟩ ?_
  refine CW.loop (fun kL1 l_ w_ => ∃ (l_19 : List Int) (x_21 : Int), l_ = [(0, .slice A0 n0 c0), (4, .slice none 0 0), (5, .int .i64 (gn [160, 176, 161, 160] ((bits .and .u8 a1 3).toNat))), (6, .slice (some ⟨B_13, 0, none⟩) n_11 n_11), (7, .int .i64 x_21)] ∧ reliquarylaw08_long.L1 l0 a1 r0 kL1 l_19 x_21 ∧ (n_11 = l_19.length) ∧ St w w_ [.sl (some ⟨B_13, 0, none⟩) n_11 n_11 (iv .u8 l_19) 5 1, .sl (some ⟨B_1, 0, none⟩) 4 4 (iv .i64 [160, 176, 161, 160]) 3 1]) (k := k_18) ⟨List.replicate (gn [160, 176, 161, 160] ((bits .and .u8 a1 3).toNat)).toNat (0 : Int), 0, rfl, H, hn_16, st_15⟩ (fun _ _ h => by obtain ⟨_, _, _, h, _⟩ := h; exact h.elim) ?_
  rintro kL1 l_24 w_22 ⟨l_19, x_21, rfl, H, hn_20, st_23⟩
  refine CW.seq ?_
  refine CW.seq ?_
  refine CW.region ?_
  refine WL.val Wanted.none (Runs.move rfl) ?_
  refine WL.val Wanted.none (Runs.move rfl) ?_
  refine WL.val Wanted.none (Runs.len_sl Tryd.underlying26 rfl (by rw [hn0])) ?_
  refine WL.val Wanted.none (Runs.lss rfl rfl rfl) ?_
  refine WL.val Wanted.none (Runs.move rfl) ?_
  rcases H with ⟨c_25, H⟩ | ⟨c_25, H⟩
  · have h_26 : (decide (x_21 < (l0.length : Int))) = true := (decide_eq_true c_25)
    refine WL.on ?_ ?_; exact Wanted.guard (dj := 19) (by rfl) (evb (by rfl) h_26) (by rfl)
    refine WL.val Wanted.none (Runs.move rfl) ?_
    refine WL.on ?_ ?_; exact Wanted.guard (dj := 19) (by rfl) (evb (by rfl) h_26) (by rfl)
    refine WL.val Wanted.none (Runs.move rfl) ?_
    refine WL.on ?_ ?_; exact Wanted.guard (dj := 19) (by rfl) (evb (by rfl) h_26) (by rfl)
    refine WL.val Wanted.none (Runs.lss rfl rfl rfl) ?_
    refine WL.val Wanted.none (Runs.pick_t (evb rfl h_26) rfl) ?_
    refine WL.nil ?_
    refine QW.then_n ?_
    rcases H with ⟨c_27, H⟩ | ⟨c_27, H⟩
    · have h_28 : (decide (x_21 < (gn [160, 176, 161, 160] ((bits .and .u8 a1 3).toNat)))) = true := (decide_eq_true c_27)
      refine CW.ct rfl h_28 ?_
      refine CW.skip ?_
      refine QW.then_n ?_
      refine CW.seq ?_
      refine CW.block ?_
      refine CW.region ?_
      refine WL.val Wanted.none (Runs.move rfl) ?_
      refine WL.val Wanted.none (Runs.move rfl) ?_
      refine WL.val Wanted.none (Runs.move rfl) ?_
      refine WL.val Wanted.none (Runs.move rfl) ?_
      obtain ⟨⟨p_29, q_30⟩, H⟩ := H
      obtain ⟨a_31, e_32⟩ := (hs0.ext st_23).addr_iv ((x_21).toNat) (by omega)
      refine WL.val Wanted.none (Runs.indexAddr Tryd.underlying26 cells5 (by decide) rfl e_32 rfl p_29 (by rw [hn0]; exact q_30) (o := (x_21).toNat) (by first | rfl | omega)) ?_
      refine WL.val Wanted.none (Runs.load nagg5 rfl ((hs0.ext st_23).cell_iv e_32 (by omega))) ?_
      obtain ⟨⟨p_33, q_34⟩, H⟩ := H
      obtain ⟨a_35, e_36⟩ := (st_23.src_sl (k := 0) rfl).addr_iv ((x_21).toNat) (by omega)
      refine WL.val Wanted.none (Runs.indexAddr Tryd.underlying26 cells5 (by decide) rfl e_36 rfl p_33 (by rw [hn_20]; exact q_34) (o := (x_21).toNat) (by first | rfl | omega)) ?_
      obtain ⟨m_37, e_38, H⟩ := H
      refine WL.store_sl (i := 0) st_23 rfl cells5 rfl e_36 (by rw [iv_length]; omega) rfl rfl ?_
      intro w_39 st_40
      have hn_41 : n_11 = m_37.length := by rw [e_38, List.length_set]; exact hn_20
      have st_40' : St w w_39 [.sl (some ⟨B_13, 0, none⟩) n_11 n_11 (iv .u8 m_37) 5 1, .sl (some ⟨B_1, 0, none⟩) 4 4 (iv .i64 [160, 176, 161, 160]) 3 1] := by rw [e_38, ← iv_set .u8 l_19 ((x_21).toNat) (gn l0 ((x_21).toNat))]; exact st_40
      refine WL.nil ?_
      refine QW.blk_n ?_
      refine QW.then_n ?_
      refine CW.region ?_
      refine WL.val Wanted.none (Runs.move rfl) ?_
      refine WL.val Wanted.none (Runs.add rfl rfl rfl) ?_
      refine WL.val Wanted.none (Runs.assign rfl) ?_
      refine WL.nil ?_
      exact QW.at [(0, .slice A0 n0 c0), (4, .slice none 0 0), (5, .int .i64 (gn [160, 176, 161, 160] ((bits .and .u8 a1 3).toNat))), (6, .slice (some ⟨B_13, 0, none⟩) n_11 n_11), (7, .int .i64 (IntKind.i64.wrap (x_21 + 1)))] ⟨rfl, rfl, rfl, rfl, rfl, trivial⟩ ⟨m_37, IntKind.i64.wrap (x_21 + 1), rfl, H, hn_41, st_40'⟩
    · have h_28 : (decide (x_21 < (gn [160, 176, 161, 160] ((bits .and .u8 a1 3).toNat)))) = false := (decide_eq_false c_27)
      refine CW.cf rfl h_28 ?_
      refine CW.exit ?_
      refine QW.then_x ?_
      refine QW.then_x ?_
      refine QW.blk_x ?_
      refine QW.then_n ?_
      refine CW.sub [(4, .slice none 0 0), (6, .slice (some ⟨B_13, 0, none⟩) n_11 n_11)] ⟨rfl, rfl, trivial⟩ ?_
      refine CW.seq ?_
      refine CW.region ?_
      refine WL.val Wanted.none (Runs.move rfl) ?_
      refine WL.val Wanted.none (Runs.assign rfl) ?_
      refine WL.nil ?_
      refine QW.then_n ?_
      refine CW.ret ?_
      obtain rfl := H
      exact QW.ret1 rfl rfl ⟨(some ⟨B_13, 0, none⟩), n_11, n_11, hn_20, rfl, st_23.pick [0] (by decide)⟩
  · have h_26 : (decide (x_21 < (l0.length : Int))) = false := (decide_eq_false c_25)
    refine WL.off ?_ ?_; exact Wanted.guard (dj := 19) (by rfl) (evb (by rfl) h_26) (by rfl)
    refine WL.off ?_ ?_; exact Wanted.guard (dj := 19) (by rfl) (evb (by rfl) h_26) (by rfl)
    refine WL.off ?_ ?_; exact Wanted.guard (dj := 19) (by rfl) (evb (by rfl) h_26) (by rfl)
    refine WL.val Wanted.none (Runs.pick_f (evb rfl h_26) rfl) ?_
    refine WL.nil ?_
    refine QW.then_n ?_
    refine CW.cf rfl rfl ?_
    refine CW.exit ?_
    refine QW.then_x ?_
    refine QW.then_x ?_
    refine QW.blk_x ?_
    refine QW.then_n ?_
    refine CW.sub [(4, .slice none 0 0), (6, .slice (some ⟨B_13, 0, none⟩) n_11 n_11)] ⟨rfl, rfl, trivial⟩ ?_
    refine CW.seq ?_
    refine CW.region ?_
    refine WL.val Wanted.none (Runs.move rfl) ?_
    refine WL.val Wanted.none (Runs.assign rfl) ?_
    refine WL.nil ?_
    refine QW.then_n ?_
    refine CW.ret ?_
    obtain rfl := H
    exact QW.ret1 rfl rfl ⟨(some ⟨B_13, 0, none⟩), n_11, n_11, hn_20, rfl, st_23.pick [0] (by decide)⟩

/-! ### reliquaryref01_Put: function 20 -/
def reliquaryref01_Put.L1 (a1 : Int) (r0 : List Int) : Nat → (List Int) → Int → Int → Prop
  | 0, _, _, _ => False
  | kL1 + 1, l_10, x_13, x_14 => ((x_14 < a1 ∧ (∃ m_24 : List Int, m_24 = l_10 ++ [IntKind.u8.wrap (Int.tmod x_13 256)] ∧ (m_24.length ≤ 1099511627776 ∧ reliquaryref01_Put.L1 a1 r0 kL1 m_24 (IntKind.u64.wrap (Int.tdiv x_13 256)) (IntKind.i64.wrap (x_14 + 1))))) ∨ (¬ (x_14 < a1) ∧ r0 = l_10))
def reliquaryref01_Put.rel (a0 : Int) (a1 : Int) (r0 : List Int) : Prop := ((a1 > 8 ∧ r0 = []) ∨ (¬ (a1 > 8) ∧ (∃ k_ : Nat, reliquaryref01_Put.L1 a1 r0 k_ ([] : List Int) a0 0)))
set_option maxHeartbeats 4000000 in
set_option maxRecDepth 100000 in
theorem reliquaryref01_Put.calls (w : World) (a0 : Int) (a1 : Int)    (r0 : List Int) (H : reliquaryref01_Put.rel a0 a1 r0) :
    Calls Tryd.prog 20 #[.int .u64 a0, .int .i64 a1] w fun e w' => ∃ B0 q0 z0, z0 = r0.length ∧ e = .returned (.slice B0 z0 q0) ∧ St w w' [.sl B0 q0 z0 (iv .u8 r0) 5 1] := by
  refine CW.enter Tryd.func20 rfl (n := 24) rfl [.int .u64 a0, .int .i64 a1] (Nat.le_of_ble_eq_true rfl) ?_
  refine CW.sub [(0, .int .u64 a0), (1, .int .i64 a1)] ⟨rfl, rfl, trivial⟩ ?_
  have st0 : St w w [] := St.refl w
  refine CW.seq ?_
  refine CW.region ?_
  refine WL.val Wanted.none (Runs.assign rfl) ?_
  refine WL.nil ?_
  refine QW.then_n ?_
  refine CW.seq ?_
  refine CW.region ?_
  refine WL.val Wanted.none (Runs.assign rfl) ?_
  refine WL.nil ?_
  refine QW.then_n ?_
  refine CW.seq ?_
  refine CW.seq ?_
  refine CW.region ?_
  refine WL.val Wanted.none (Runs.move rfl) ?_
  refine WL.val Wanted.none (Runs.gtr rfl rfl rfl) ?_
  refine WL.nil ?_
  refine QW.then_n ?_
  rcases H with ⟨c_1, H⟩ | ⟨c_1, H⟩
  · have h_2 : (decide (a1 > 8)) = true := (decide_eq_true c_1)
    refine CW.ct rfl h_2 ?_
    refine CW.seq ?_
    refine CW.region ?_
    refine WL.val Wanted.none (Runs.move rfl) ?_
    refine WL.val Wanted.none (Runs.assign rfl) ?_
    refine WL.nil ?_
    refine QW.then_n ?_
    refine CW.ret ?_
    refine QW.then_r ?_
    have st_4 := st0.nil_sl 5 1
    have st_4 : St w w [.sl none 0 0 (iv .u8 ([] : List Int)) 5 1] := st_4
    obtain rfl := H
    exact QW.ret1 rfl rfl ⟨none, 0, 0, rfl, rfl, st_4.pick [0] (by decide)⟩
  · have h_2 : (decide (a1 > 8)) = false := (decide_eq_false c_1)
    refine CW.cf rfl h_2 ?_
    refine CW.skip ?_
    refine QW.then_n ?_
    refine CW.seq ?_
    refine CW.seq ?_
    refine CW.region ?_
    refine WL.val Wanted.none (Runs.assign rfl) ?_
    refine WL.nil ?_
    refine QW.then_n ?_
    refine CW.block ?_
    have st_6 := st0.nil_sl 5 1
    have st_6 : St w w [.sl none 0 0 (iv .u8 ([] : List Int)) 5 1] := st_6
    obtain ⟨k_7, H⟩ := H
    refine CW.sub [(0, .int .u64 a0), (1, .int .i64 a1), (4, .slice none 0 0), (5, .slice none 0 0), (6, .int .i64 0)] ⟨rfl, rfl, rfl, rfl, rfl, trivial⟩ ?_
    refine CW.loop (fun kL1 l_ w_ => ∃ (A_8 : Option Addr) (c_9 : Nat) (n_11 : Nat) (l_10 : List Int) (x_13 : Int) (x_14 : Int), l_ = [(0, .int .u64 x_13), (1, .int .i64 a1), (4, .slice none 0 0), (5, .slice A_8 n_11 c_9), (6, .int .i64 x_14)] ∧ reliquaryref01_Put.L1 a1 r0 kL1 l_10 x_13 x_14 ∧ (n_11 = l_10.length) ∧ St w w_ [.sl A_8 c_9 n_11 (iv .u8 l_10) 5 1]) (k := k_7) ⟨none, 0, 0, ([] : List Int), a0, 0, rfl, H, rfl, st_6⟩ (fun _ _ h => by obtain ⟨_, _, _, _, _, _, _, h, _⟩ := h; exact h.elim) ?_
    rintro kL1 l_17 w_15 ⟨A_8, c_9, n_11, l_10, x_13, x_14, rfl, H, hn_12, st_16⟩
    refine CW.seq ?_
    refine CW.seq ?_
    refine CW.region ?_
    refine WL.val Wanted.none (Runs.move rfl) ?_
    refine WL.val Wanted.none (Runs.move rfl) ?_
    refine WL.val Wanted.none (Runs.lss rfl rfl rfl) ?_
    refine WL.nil ?_
    refine QW.then_n ?_
    rcases H with ⟨c_18, H⟩ | ⟨c_18, H⟩
    · have h_19 : (decide (x_14 < a1)) = true := (decide_eq_true c_18)
      refine CW.ct rfl h_19 ?_
      refine CW.skip ?_
      refine QW.then_n ?_
      refine CW.seq ?_
      refine CW.block ?_
      refine CW.seq ?_
      refine CW.region ?_
      refine WL.val Wanted.none (Runs.move rfl) ?_
      refine WL.val Wanted.none (Runs.move rfl) ?_
      refine WL.val Wanted.none (Runs.rem rfl rfl (by decide) rfl) ?_
      refine WL.val Wanted.none (Runs.conv Tryd.underlying5 ⟨_, Tryd.underlying25⟩ rfl rfl) ?_
      refine WL.buildSl [.int .u8 (IntKind.u8.wrap (Int.tmod x_13 256))] st_16 Tryd.underlying26 elem5 rfl rfl (by decide) (by decide) (by simp [Value.cells]) ?_
      intro B_20 w_21 st_22
      replace st_22 : St w w_21 [.sl (some ⟨B_20, 0, none⟩) 1 1 (iv .u8 [IntKind.u8.wrap (Int.tmod x_13 256)]) 5 1, .sl A_8 c_9 n_11 (iv .u8 l_10) 5 1] := st_22
      obtain ⟨m_24, e_25, H⟩ := H
      obtain ⟨z_26, H⟩ := H
      obtain ⟨n_29, hn_32⟩ : ∃ n_ : Nat, n_ = m_24.length := ⟨_, rfl⟩
      refine WL.append (i := 1) Wanted.none st_22 rfl Tryd.underlying26 elem5 rfl rfl (st_22.src_sl (k := 0) rfl) (by rw [iv_length]; exact (Eq.refl _).symm) (one_iv .u8 _) (by decide) (N := n_29) (by rw [hn_32, e_25, List.length_append]; exact congr (congrArg HAdd.hAdd (hn_12)) (rfl)) (by rw [hn_32]; exact z_26) ?_
      intro A_27 c_28 w_30 st_31
      have st_31' : St w w_30 [.sl (some ⟨B_20, 0, none⟩) 1 1 (iv .u8 [IntKind.u8.wrap (Int.tmod x_13 256)]) 5 1, .sl A_27 c_28 n_29 (iv .u8 m_24) 5 1] := by rw [e_25, ← iv_append .u8 l_10 [IntKind.u8.wrap (Int.tmod x_13 256)]]; exact st_31
      refine WL.val Wanted.none (Runs.assign rfl) ?_
      refine WL.nil ?_
      refine QW.then_n ?_
      refine CW.region ?_
      refine WL.val Wanted.none (Runs.move rfl) ?_
      refine WL.val Wanted.none (Runs.quo rfl rfl (by decide) rfl) ?_
      refine WL.val Wanted.none (Runs.assign rfl) ?_
      refine WL.nil ?_
      refine QW.blk_n ?_
      refine QW.then_n ?_
      refine CW.region ?_
      refine WL.val Wanted.none (Runs.move rfl) ?_
      refine WL.val Wanted.none (Runs.add rfl rfl rfl) ?_
      refine WL.val Wanted.none (Runs.assign rfl) ?_
      refine WL.nil ?_
      have st_31'' := st_31'.pick [1] (by decide)
      exact QW.at [(0, .int .u64 (IntKind.u64.wrap (Int.tdiv x_13 256))), (1, .int .i64 a1), (4, .slice none 0 0), (5, .slice A_27 n_29 c_28), (6, .int .i64 (IntKind.i64.wrap (x_14 + 1)))] ⟨rfl, rfl, rfl, rfl, rfl, trivial⟩ ⟨A_27, c_28, n_29, m_24, IntKind.u64.wrap (Int.tdiv x_13 256), IntKind.i64.wrap (x_14 + 1), rfl, H, hn_32, st_31''⟩
    · have h_19 : (decide (x_14 < a1)) = false := (decide_eq_false c_18)
      refine CW.cf rfl h_19 ?_
      refine CW.exit ?_
      refine QW.then_x ?_
      refine QW.then_x ?_
      refine QW.blk_x ?_
      refine QW.then_n ?_
      refine CW.sub [(4, .slice none 0 0), (5, .slice A_8 n_11 c_9)] ⟨rfl, rfl, trivial⟩ ?_
      refine CW.seq ?_
      refine CW.region ?_
      refine WL.val Wanted.none (Runs.move rfl) ?_
      refine WL.val Wanted.none (Runs.assign rfl) ?_
      refine WL.nil ?_
      refine QW.then_n ?_
      refine CW.ret ?_
      obtain rfl := H
      exact QW.ret1 rfl rfl ⟨A_8, c_9, n_11, hn_12, rfl, st_16.pick [0] (by decide)⟩

/-! ### reliquaryref04_Nonce: function 22 -/
def reliquaryref04_Nonce.L2 (r0 : List Int) (r_23 : List Int) : Nat → (List Int) → Int → Prop
  | 0, _, _ => False
  | kL2 + 1, m_50, x_52 => ((x_52 < 8 ∧ ((0 ≤ x_52 ∧ x_52 < (r_23.length : Int)) ∧ ((0 ≤ (IntKind.i64.wrap (4 + x_52)) ∧ (IntKind.i64.wrap (4 + x_52)) < (12 : Int)) ∧ (∃ m_64 : List Int, m_64 = List.set m_50 ((IntKind.i64.wrap (4 + x_52)).toNat) (gn r_23 ((x_52).toNat)) ∧ reliquaryref04_Nonce.L2 r0 r_23 kL2 m_64 (IntKind.i64.wrap (x_52 + 1)))))) ∨ (¬ (x_52 < 8) ∧ r0 = m_50))
def reliquaryref04_Nonce.L1 (r0 : List Int) (r_13 : List Int) (r_23 : List Int) : Nat → (List Int) → Int → Prop
  | 0, _, _ => False
  | kL1 + 1, m_30, x_32 => ((x_32 < 4 ∧ ((0 ≤ x_32 ∧ x_32 < (r_13.length : Int)) ∧ ((0 ≤ x_32 ∧ x_32 < (12 : Int)) ∧ (∃ m_44 : List Int, m_44 = List.set m_30 ((x_32).toNat) (gn r_13 ((x_32).toNat)) ∧ reliquaryref04_Nonce.L1 r0 r_13 r_23 kL1 m_44 (IntKind.i64.wrap (x_32 + 1)))))) ∨ (¬ (x_32 < 4) ∧ (∃ k_ : Nat, reliquaryref04_Nonce.L2 r0 r_23 k_ m_30 0)))
def reliquaryref04_Nonce.rel (a0 : Int) (a1 : Int) (r0 : List Int) : Prop := (∃ (r_13 : List Int), reliquaryref01_Put.rel (IntKind.u64.wrap a0) 4 r_13 ∧ (∃ (r_23 : List Int), reliquaryref01_Put.rel a1 8 r_23 ∧ (∃ k_ : Nat, reliquaryref04_Nonce.L1 r0 r_13 r_23 k_ (List.replicate 12 (0 : Int)) 0)))
set_option maxHeartbeats 4000000 in
set_option maxRecDepth 100000 in
theorem reliquaryref04_Nonce.calls (w : World) (a0 : Int) (a1 : Int)    (r0 : List Int) (H : reliquaryref04_Nonce.rel a0 a1 r0) :
    Calls Tryd.prog 22 #[.int .u32 a0, .int .u64 a1] w fun e w' => r0.length = 12 ∧ e = .returned (.agg (iv .u8 r0).toArray) ∧ St w w' [] := by
  refine CW.enter Tryd.func22 rfl (n := 37) rfl [.int .u32 a0, .int .u64 a1] (Nat.le_of_ble_eq_true rfl) ?_
  refine CW.sub [(0, .int .u32 a0), (1, .int .u64 a1)] ⟨rfl, rfl, trivial⟩ ?_
  have st0 : St w w [] := St.refl w
  refine CW.seq ?_
  refine CW.region ?_
  refine WL.alloc st0 arr47.zero ?_
  intro B_1 w_2 st_3
  replace st_3 : St w w_2 [.cells B_1 (iv .u8 (List.replicate 12 (0 : Int))) 47] := st_3
  refine WL.nil ?_
  refine QW.then_n ?_
  refine CW.seq ?_
  refine CW.region ?_
  refine WL.alloc st_3 arr47.zero ?_
  intro B_5 w_6 st_7
  replace st_7 : St w w_6 [.cells B_5 (iv .u8 (List.replicate 12 (0 : Int))) 47, .cells B_1 (iv .u8 (List.replicate 12 (0 : Int))) 47] := st_7
  refine WL.nil ?_
  refine QW.then_n ?_
  refine CW.seq ?_
  refine CW.region ?_
  refine WL.val Wanted.none (Runs.move rfl) ?_
  refine WL.val Wanted.none (Runs.conv Tryd.underlying25 ⟨_, Tryd.underlying24⟩ rfl rfl) ?_
  obtain ⟨r_13, hr_9, H⟩ := H
  refine WL.call Wanted.none ent20 rfl (reliquaryref01_Put.calls w_6 (IntKind.u64.wrap a0) 4 r_13 hr_9) ?_
  rintro _ w_10 ⟨A_14, c_15, n_16, hn_17, rfl, sc_12⟩
  have st_11 : St w w_10 [.sl A_14 c_15 n_16 (iv .u8 r_13) 5 1, .cells B_5 (iv .u8 (List.replicate 12 (0 : Int))) 47, .cells B_1 (iv .u8 (List.replicate 12 (0 : Int))) 47] := st_7.call sc_12
  refine ⟨_, rfl, ?_⟩
  refine WL.val Wanted.none (Runs.assign rfl) ?_
  refine WL.nil ?_
  refine QW.then_n ?_
  refine CW.seq ?_
  refine CW.region ?_
  refine WL.val Wanted.none (Runs.move rfl) ?_
  obtain ⟨r_23, hr_19, H⟩ := H
  refine WL.call Wanted.none ent20 rfl (reliquaryref01_Put.calls w_10 a1 8 r_23 hr_19) ?_
  rintro _ w_20 ⟨A_24, c_25, n_26, hn_27, rfl, sc_22⟩
  have st_21 : St w w_20 [.sl A_24 c_25 n_26 (iv .u8 r_23) 5 1, .sl A_14 c_15 n_16 (iv .u8 r_13) 5 1, .cells B_5 (iv .u8 (List.replicate 12 (0 : Int))) 47, .cells B_1 (iv .u8 (List.replicate 12 (0 : Int))) 47] := st_11.call sc_22
  refine ⟨_, rfl, ?_⟩
  refine WL.val Wanted.none (Runs.assign rfl) ?_
  refine WL.nil ?_
  refine QW.then_n ?_
  refine CW.sub [(4, .pointer (some ⟨B_1, 0, none⟩)), (5, .pointer (some ⟨B_5, 0, none⟩)), (6, .slice A_14 n_16 c_15), (7, .slice A_24 n_26 c_25)] ⟨rfl, rfl, rfl, rfl, trivial⟩ ?_
  refine CW.seq ?_
  refine CW.seq ?_
  refine CW.region ?_
  refine WL.val Wanted.none (Runs.assign rfl) ?_
  refine WL.nil ?_
  refine QW.then_n ?_
  refine CW.block ?_
  obtain ⟨k_29, H⟩ := H
  refine CW.sub [(4, .pointer (some ⟨B_1, 0, none⟩)), (5, .pointer (some ⟨B_5, 0, none⟩)), (6, .slice A_14 n_16 c_15), (7, .slice A_24 n_26 c_25), (8, .int .i64 0)] ⟨rfl, rfl, rfl, rfl, rfl, trivial⟩ ?_
  refine CW.loop (fun kL1 l_ w_ => ∃ (m_30 : List Int) (x_32 : Int), l_ = [(4, .pointer (some ⟨B_1, 0, none⟩)), (5, .pointer (some ⟨B_5, 0, none⟩)), (6, .slice A_14 n_16 c_15), (7, .slice A_24 n_26 c_25), (8, .int .i64 x_32)] ∧ reliquaryref04_Nonce.L1 r0 r_13 r_23 kL1 m_30 x_32 ∧ (m_30.length = 12) ∧ St w w_ [.sl A_24 c_25 n_26 (iv .u8 r_23) 5 1, .sl A_14 c_15 n_16 (iv .u8 r_13) 5 1, .cells B_5 (iv .u8 m_30) 47, .cells B_1 (iv .u8 (List.replicate 12 (0 : Int))) 47]) (k := k_29) ⟨List.replicate 12 (0 : Int), 0, rfl, H, (List.length_replicate ..), st_21⟩ (fun _ _ h => by obtain ⟨_, _, _, h, _⟩ := h; exact h.elim) ?_
  rintro kL1 l_35 w_33 ⟨m_30, x_32, rfl, H, hl_31, st_34⟩
  refine CW.seq ?_
  refine CW.seq ?_
  refine CW.region ?_
  refine WL.val Wanted.none (Runs.move rfl) ?_
  refine WL.val Wanted.none (Runs.lss rfl rfl rfl) ?_
  refine WL.nil ?_
  refine QW.then_n ?_
  rcases H with ⟨c_36, H⟩ | ⟨c_36, H⟩
  · have h_37 : (decide (x_32 < 4)) = true := (decide_eq_true c_36)
    refine CW.ct rfl h_37 ?_
    refine CW.skip ?_
    refine QW.then_n ?_
    refine CW.seq ?_
    refine CW.block ?_
    refine CW.region ?_
    refine WL.val Wanted.none (Runs.move rfl) ?_
    refine WL.val Wanted.none (Runs.move rfl) ?_
    refine WL.val Wanted.none (Runs.move rfl) ?_
    obtain ⟨⟨p_38, q_39⟩, H⟩ := H
    obtain ⟨a_40, e_41⟩ := (st_34.src_sl (k := 1) rfl).addr_iv ((x_32).toNat) (by omega)
    refine WL.val Wanted.none (Runs.indexAddr Tryd.underlying26 cells5 (by decide) rfl e_41 rfl p_38 (by rw [hn_17]; exact q_39) (o := (x_32).toNat) (by first | rfl | omega)) ?_
    refine WL.val Wanted.none (Runs.load nagg5 rfl ((st_34.src_sl (k := 1) rfl).cell_iv e_41 (by omega))) ?_
    obtain ⟨⟨p_42, q_43⟩, H⟩ := H
    refine WL.val Wanted.none (Runs.indexAddr_blk arr47 rfl rfl p_42 q_43 (o := (x_32).toNat) (by first | rfl | omega)) ?_
    obtain ⟨m_44, e_45, H⟩ := H
    have hl_48 : m_44.length = 12 := by rw [e_45, List.length_set]; exact hl_31
    refine WL.store_cells (i := 2) st_34 rfl cells5 rfl (by rw [iv_length]; have := hl_31; omega) rfl rfl ?_
    intro w_46 st_47
    have st_47' : St w w_46 [.sl A_24 c_25 n_26 (iv .u8 r_23) 5 1, .sl A_14 c_15 n_16 (iv .u8 r_13) 5 1, .cells B_5 (iv .u8 m_44) 47, .cells B_1 (iv .u8 (List.replicate 12 (0 : Int))) 47] := by rw [e_45, ← iv_set .u8 m_30 ((x_32).toNat) (gn r_13 ((x_32).toNat))]; exact st_47
    refine WL.nil ?_
    refine QW.blk_n ?_
    refine QW.then_n ?_
    refine CW.region ?_
    refine WL.val Wanted.none (Runs.move rfl) ?_
    refine WL.val Wanted.none (Runs.add rfl rfl rfl) ?_
    refine WL.val Wanted.none (Runs.assign rfl) ?_
    refine WL.nil ?_
    exact QW.at [(4, .pointer (some ⟨B_1, 0, none⟩)), (5, .pointer (some ⟨B_5, 0, none⟩)), (6, .slice A_14 n_16 c_15), (7, .slice A_24 n_26 c_25), (8, .int .i64 (IntKind.i64.wrap (x_32 + 1)))] ⟨rfl, rfl, rfl, rfl, rfl, trivial⟩ ⟨m_44, IntKind.i64.wrap (x_32 + 1), rfl, H, hl_48, st_47'⟩
  · have h_37 : (decide (x_32 < 4)) = false := (decide_eq_false c_36)
    refine CW.cf rfl h_37 ?_
    refine CW.exit ?_
    refine QW.then_x ?_
    refine QW.then_x ?_
    refine QW.blk_x ?_
    refine QW.then_n ?_
    refine CW.seq ?_
    refine CW.seq ?_
    refine CW.region ?_
    refine WL.val Wanted.none (Runs.assign rfl) ?_
    refine WL.nil ?_
    refine QW.then_n ?_
    refine CW.block ?_
    obtain ⟨k_49, H⟩ := H
    refine CW.sub [(4, .pointer (some ⟨B_1, 0, none⟩)), (5, .pointer (some ⟨B_5, 0, none⟩)), (7, .slice A_24 n_26 c_25), (9, .int .i64 0)] ⟨rfl, rfl, rfl, rfl, trivial⟩ ?_
    refine CW.loop (fun kL2 l_ w_ => ∃ (m_50 : List Int) (x_52 : Int), l_ = [(4, .pointer (some ⟨B_1, 0, none⟩)), (5, .pointer (some ⟨B_5, 0, none⟩)), (7, .slice A_24 n_26 c_25), (9, .int .i64 x_52)] ∧ reliquaryref04_Nonce.L2 r0 r_23 kL2 m_50 x_52 ∧ (m_50.length = 12) ∧ St w w_ [.sl A_24 c_25 n_26 (iv .u8 r_23) 5 1, .sl A_14 c_15 n_16 (iv .u8 r_13) 5 1, .cells B_5 (iv .u8 m_50) 47, .cells B_1 (iv .u8 (List.replicate 12 (0 : Int))) 47]) (k := k_49) ⟨m_30, 0, rfl, H, hl_31, st_34⟩ (fun _ _ h => by obtain ⟨_, _, _, h, _⟩ := h; exact h.elim) ?_
    rintro kL2 l_55 w_53 ⟨m_50, x_52, rfl, H, hl_51, st_54⟩
    refine CW.seq ?_
    refine CW.seq ?_
    refine CW.region ?_
    refine WL.val Wanted.none (Runs.move rfl) ?_
    refine WL.val Wanted.none (Runs.lss rfl rfl rfl) ?_
    refine WL.nil ?_
    refine QW.then_n ?_
    rcases H with ⟨c_56, H⟩ | ⟨c_56, H⟩
    · have h_57 : (decide (x_52 < 8)) = true := (decide_eq_true c_56)
      refine CW.ct rfl h_57 ?_
      refine CW.skip ?_
      refine QW.then_n ?_
      refine CW.seq ?_
      refine CW.block ?_
      refine CW.region ?_
      refine WL.val Wanted.none (Runs.move rfl) ?_
      refine WL.val Wanted.none (Runs.add rfl rfl rfl) ?_
      refine WL.val Wanted.none (Runs.move rfl) ?_
      refine WL.val Wanted.none (Runs.move rfl) ?_
      obtain ⟨⟨p_58, q_59⟩, H⟩ := H
      obtain ⟨a_60, e_61⟩ := (st_54.src_sl (k := 0) rfl).addr_iv ((x_52).toNat) (by omega)
      refine WL.val Wanted.none (Runs.indexAddr Tryd.underlying26 cells5 (by decide) rfl e_61 rfl p_58 (by rw [hn_27]; exact q_59) (o := (x_52).toNat) (by first | rfl | omega)) ?_
      refine WL.val Wanted.none (Runs.load nagg5 rfl ((st_54.src_sl (k := 0) rfl).cell_iv e_61 (by omega))) ?_
      obtain ⟨⟨p_62, q_63⟩, H⟩ := H
      refine WL.val Wanted.none (Runs.indexAddr_blk arr47 rfl rfl p_62 q_63 (o := (IntKind.i64.wrap (4 + x_52)).toNat) (by first | rfl | omega)) ?_
      obtain ⟨m_64, e_65, H⟩ := H
      have hl_68 : m_64.length = 12 := by rw [e_65, List.length_set]; exact hl_51
      refine WL.store_cells (i := 2) st_54 rfl cells5 rfl (by rw [iv_length]; have := hl_51; omega) rfl rfl ?_
      intro w_66 st_67
      have st_67' : St w w_66 [.sl A_24 c_25 n_26 (iv .u8 r_23) 5 1, .sl A_14 c_15 n_16 (iv .u8 r_13) 5 1, .cells B_5 (iv .u8 m_64) 47, .cells B_1 (iv .u8 (List.replicate 12 (0 : Int))) 47] := by rw [e_65, ← iv_set .u8 m_50 ((IntKind.i64.wrap (4 + x_52)).toNat) (gn r_23 ((x_52).toNat))]; exact st_67
      refine WL.nil ?_
      refine QW.blk_n ?_
      refine QW.then_n ?_
      refine CW.region ?_
      refine WL.val Wanted.none (Runs.move rfl) ?_
      refine WL.val Wanted.none (Runs.add rfl rfl rfl) ?_
      refine WL.val Wanted.none (Runs.assign rfl) ?_
      refine WL.nil ?_
      exact QW.at [(4, .pointer (some ⟨B_1, 0, none⟩)), (5, .pointer (some ⟨B_5, 0, none⟩)), (7, .slice A_24 n_26 c_25), (9, .int .i64 (IntKind.i64.wrap (x_52 + 1)))] ⟨rfl, rfl, rfl, rfl, trivial⟩ ⟨m_64, IntKind.i64.wrap (x_52 + 1), rfl, H, hl_68, st_67'⟩
    · have h_57 : (decide (x_52 < 8)) = false := (decide_eq_false c_56)
      refine CW.cf rfl h_57 ?_
      refine CW.exit ?_
      refine QW.then_x ?_
      refine QW.then_x ?_
      refine QW.blk_x ?_
      refine QW.then_n ?_
      refine CW.seq ?_
      refine CW.region ?_
      refine WL.val Wanted.none (Runs.load_arr arr47 rfl (st_54.blk (i := 2) rfl) hl_51) ?_
      refine WL.store_arr (i := 3) st_54 rfl arr47 rfl (by rw [iv_length]; exact (List.length_replicate ..)) hl_51 rfl ?_
      intro w_69 st_70
      replace st_70 : St w w_69 [.sl A_24 c_25 n_26 (iv .u8 r_23) 5 1, .sl A_14 c_15 n_16 (iv .u8 r_13) 5 1, .cells B_5 (iv .u8 m_50) 47, .cells B_1 (iv .u8 m_50) 47] := st_70
      refine WL.nil ?_
      refine QW.then_n ?_
      refine CW.sub [(4, .pointer (some ⟨B_1, 0, none⟩))] ⟨rfl, trivial⟩ ?_
      refine CW.ret ?_
      obtain rfl := H
      exact QW.retc rfl arr47 rfl (st_70.blk (i := 3) rfl) hl_51 ⟨hl_51, rfl, st_70.pick [] (by decide)⟩

/-! ### reliquaryref01_Get: function 26 -/
def reliquaryref01_Get.L1 (l0 : List Int) (a1 : Int) (a2 : Int) (r0 : Int) (r1 : Int) : Nat → Int → Int → Int → Prop
  | 0, _, _, _ => False
  | kL1 + 1, x_12, x_13, x_14 => ((x_14 < a2 ∧ ((0 ≤ (IntKind.i64.wrap (a1 + x_14)) ∧ (IntKind.i64.wrap (a1 + x_14)) < (l0.length : Int)) ∧ (∃ x_24 : Int, x_24 = IntKind.u64.wrap (gn l0 ((IntKind.i64.wrap (a1 + x_14)).toNat)) ∧ reliquaryref01_Get.L1 l0 a1 a2 r0 r1 kL1 (IntKind.u64.wrap (x_12 + (IntKind.u64.wrap (x_24 * x_13)))) (IntKind.u64.wrap (x_13 * 256)) (IntKind.i64.wrap (x_14 + 1))))) ∨ (¬ (x_14 < a2) ∧ r0 = x_12 ∧ r1 = 0))
def reliquaryref01_Get.rel (l0 : List Int) (a1 : Int) (a2 : Int) (r0 : Int) (r1 : Int) : Prop := ((a2 < 1 ∧ r0 = 0 ∧ r1 = 1) ∨ (¬ (a2 < 1) ∧ ((a2 > 8 ∧ r0 = 0 ∧ r1 = 1) ∨ (¬ (a2 > 8) ∧ ((a1 < 0 ∧ r0 = 0 ∧ r1 = 12) ∨ (¬ (a1 < 0) ∧ ((a1 > (l0.length : Int) ∧ r0 = 0 ∧ r1 = 12) ∨ (¬ (a1 > (l0.length : Int)) ∧ (((IntKind.i64.wrap ((l0.length : Int) - a1)) < a2 ∧ r0 = 0 ∧ r1 = 12) ∨ (¬ ((IntKind.i64.wrap ((l0.length : Int) - a1)) < a2) ∧ (∃ k_ : Nat, reliquaryref01_Get.L1 l0 a1 a2 r0 r1 k_ 0 1 0)))))))))))
set_option maxHeartbeats 4000000 in
set_option maxRecDepth 100000 in
theorem reliquaryref01_Get.calls (w : World) (l0 : List Int) (a1 : Int) (a2 : Int) (A0 : Option Addr) (n0 : Nat) (c0 : Nat)  (hs0 : Src w A0 (iv .u8 l0)) (hn0 : n0 = l0.length) (hc0 : n0 ≤ c0) (r0 : Int) (r1 : Int) (H : reliquaryref01_Get.rel l0 a1 a2 r0 r1) :
    Calls Tryd.prog 26 #[.slice A0 n0 c0, .int .i64 a1, .int .i64 a2] w fun e w' => e = .returned (.tuple #[.int .u64 r0, .int .i64 r1]) ∧ St w w' [] := by
  refine CW.enter Tryd.func26 rfl (n := 52) rfl [.slice A0 n0 c0, .int .i64 a1, .int .i64 a2] (Nat.le_of_ble_eq_true rfl) ?_
  refine CW.sub [(0, .slice A0 n0 c0), (1, .int .i64 a1), (2, .int .i64 a2)] ⟨rfl, rfl, rfl, trivial⟩ ?_
  have st0 : St w w [] := St.refl w
  refine CW.seq ?_
  refine CW.region ?_
  refine WL.val Wanted.none (Runs.assign rfl) ?_
  refine WL.val Wanted.none (Runs.assign rfl) ?_
  refine WL.nil ?_
  refine QW.then_n ?_
  refine CW.seq ?_
  refine CW.seq ?_
  refine CW.region ?_
  refine WL.val Wanted.none (Runs.move rfl) ?_
  refine WL.val Wanted.none (Runs.lss rfl rfl rfl) ?_
  refine WL.val Wanted.none (Runs.move rfl) ?_
  rcases H with ⟨c_1, H⟩ | ⟨c_1, H⟩
  · have h_2 : (decide (a2 < 1)) = true := (decide_eq_true c_1)
    refine WL.off ?_ ?_; exact Wanted.guard (dj := 13) (by rfl) (evb (by rfl) h_2) (by rfl)
    refine WL.off ?_ ?_; exact Wanted.guard (dj := 13) (by rfl) (evb (by rfl) h_2) (by rfl)
    refine WL.val Wanted.none (Runs.pick_t (evb rfl h_2) rfl) ?_
    refine WL.nil ?_
    refine QW.then_n ?_
    refine CW.ct rfl rfl ?_
    refine CW.seq ?_
    refine CW.region ?_
    refine WL.val Wanted.none (Runs.assign rfl) ?_
    refine WL.val Wanted.none (Runs.assign rfl) ?_
    refine WL.nil ?_
    refine QW.then_n ?_
    refine CW.sub [(0, .slice A0 n0 c0), (1, .int .i64 a1), (2, .int .i64 a2), (6, .int .u64 0), (7, .int .i64 1)] ⟨rfl, rfl, rfl, rfl, rfl, trivial⟩ ?_
    refine CW.ret ?_
    refine QW.then_r ?_
    obtain ⟨rfl, rfl⟩ := H
    exact QW.ret2 rfl rfl rfl ⟨rfl, st0.pick [] (by decide)⟩
  · have h_2 : (decide (a2 < 1)) = false := (decide_eq_false c_1)
    refine WL.on ?_ ?_; exact Wanted.guard (dj := 13) (by rfl) (evb (by rfl) h_2) (by rfl)
    refine WL.val Wanted.none (Runs.move rfl) ?_
    refine WL.on ?_ ?_; exact Wanted.guard (dj := 13) (by rfl) (evb (by rfl) h_2) (by rfl)
    refine WL.val Wanted.none (Runs.gtr rfl rfl rfl) ?_
    refine WL.val Wanted.none (Runs.pick_f (evb rfl h_2) rfl) ?_
    refine WL.nil ?_
    refine QW.then_n ?_
    rcases H with ⟨c_3, H⟩ | ⟨c_3, H⟩
    · have h_4 : (decide (a2 > 8)) = true := (decide_eq_true c_3)
      refine CW.ct rfl h_4 ?_
      refine CW.seq ?_
      refine CW.region ?_
      refine WL.val Wanted.none (Runs.assign rfl) ?_
      refine WL.val Wanted.none (Runs.assign rfl) ?_
      refine WL.nil ?_
      refine QW.then_n ?_
      refine CW.sub [(0, .slice A0 n0 c0), (1, .int .i64 a1), (2, .int .i64 a2), (6, .int .u64 0), (7, .int .i64 1)] ⟨rfl, rfl, rfl, rfl, rfl, trivial⟩ ?_
      refine CW.ret ?_
      refine QW.then_r ?_
      obtain ⟨rfl, rfl⟩ := H
      exact QW.ret2 rfl rfl rfl ⟨rfl, st0.pick [] (by decide)⟩
    · have h_4 : (decide (a2 > 8)) = false := (decide_eq_false c_3)
      refine CW.cf rfl h_4 ?_
      refine CW.skip ?_
      refine QW.then_n ?_
      refine CW.sub [(0, .slice A0 n0 c0), (1, .int .i64 a1), (2, .int .i64 a2), (6, .int .u64 0), (7, .int .i64 0)] ⟨rfl, rfl, rfl, rfl, rfl, trivial⟩ ?_
      refine CW.seq ?_
      refine CW.seq ?_
      refine CW.region ?_
      refine WL.val Wanted.none (Runs.move rfl) ?_
      refine WL.val Wanted.none (Runs.lss rfl rfl rfl) ?_
      refine WL.val Wanted.none (Runs.move rfl) ?_
      rcases H with ⟨c_5, H⟩ | ⟨c_5, H⟩
      · have h_6 : (decide (a1 < 0)) = true := (decide_eq_true c_5)
        refine WL.off ?_ ?_; exact Wanted.guard (dj := 19) (by rfl) (evb (by rfl) h_6) (by rfl)
        refine WL.off ?_ ?_; exact Wanted.guard (dj := 19) (by rfl) (evb (by rfl) h_6) (by rfl)
        refine WL.off ?_ ?_; exact Wanted.guard (dj := 19) (by rfl) (evb (by rfl) h_6) (by rfl)
        refine WL.off ?_ ?_; exact Wanted.guard (dj := 19) (by rfl) (evb (by rfl) h_6) (by rfl)
        refine WL.val Wanted.none (Runs.pick_t (evb rfl h_6) rfl) ?_
        refine WL.val Wanted.none (Runs.move rfl) ?_
        refine WL.off ?_ ?_; exact Wanted.guard (dj := 25) (by rfl) (by rfl) (by rfl)
        refine WL.off ?_ ?_; exact Wanted.guard (dj := 25) (by rfl) (by rfl) (by rfl)
        refine WL.off ?_ ?_; exact Wanted.guard (dj := 25) (by rfl) (by rfl) (by rfl)
        refine WL.off ?_ ?_; exact Wanted.guard (dj := 25) (by rfl) (by rfl) (by rfl)
        refine WL.off ?_ ?_; exact Wanted.guard (dj := 25) (by rfl) (by rfl) (by rfl)
        refine WL.off ?_ ?_; exact Wanted.guard (dj := 25) (by rfl) (by rfl) (by rfl)
        refine WL.val Wanted.none (Runs.pick_t rfl rfl) ?_
        refine WL.nil ?_
        refine QW.then_n ?_
        refine CW.sub [(0, .slice A0 n0 c0), (1, .int .i64 a1), (2, .int .i64 a2), (6, .int .u64 0), (7, .int .i64 0), (32, .bool true)] ⟨rfl, rfl, rfl, rfl, rfl, rfl, trivial⟩ ?_
        refine CW.ct rfl rfl ?_
        refine CW.seq ?_
        refine CW.region ?_
        refine WL.val Wanted.none (Runs.assign rfl) ?_
        refine WL.val Wanted.none (Runs.assign rfl) ?_
        refine WL.nil ?_
        refine QW.then_n ?_
        refine CW.ret ?_
        refine QW.then_r ?_
        obtain ⟨rfl, rfl⟩ := H
        exact QW.ret2 rfl rfl rfl ⟨rfl, st0.pick [] (by decide)⟩
      · have h_6 : (decide (a1 < 0)) = false := (decide_eq_false c_5)
        refine WL.on ?_ ?_; exact Wanted.guard (dj := 19) (by rfl) (evb (by rfl) h_6) (by rfl)
        refine WL.val Wanted.none (Runs.move rfl) ?_
        refine WL.on ?_ ?_; exact Wanted.guard (dj := 19) (by rfl) (evb (by rfl) h_6) (by rfl)
        refine WL.val Wanted.none (Runs.move rfl) ?_
        refine WL.on ?_ ?_; exact Wanted.guard (dj := 19) (by rfl) (evb (by rfl) h_6) (by rfl)
        refine WL.val Wanted.none (Runs.len_sl Tryd.underlying26 rfl (by rw [hn0])) ?_
        refine WL.on ?_ ?_; exact Wanted.guard (dj := 19) (by rfl) (evb (by rfl) h_6) (by rfl)
        refine WL.val Wanted.none (Runs.gtr rfl rfl rfl) ?_
        refine WL.val Wanted.none (Runs.pick_f (evb rfl h_6) rfl) ?_
        refine WL.val Wanted.none (Runs.move rfl) ?_
        rcases H with ⟨c_7, H⟩ | ⟨c_7, H⟩
        · have h_8 : (decide (a1 > (l0.length : Int))) = true := (decide_eq_true c_7)
          refine WL.off ?_ ?_; exact Wanted.guard (dj := 25) (by rfl) (evb (by rfl) h_8) (by rfl)
          refine WL.off ?_ ?_; exact Wanted.guard (dj := 25) (by rfl) (evb (by rfl) h_8) (by rfl)
          refine WL.off ?_ ?_; exact Wanted.guard (dj := 25) (by rfl) (evb (by rfl) h_8) (by rfl)
          refine WL.off ?_ ?_; exact Wanted.guard (dj := 25) (by rfl) (evb (by rfl) h_8) (by rfl)
          refine WL.off ?_ ?_; exact Wanted.guard (dj := 25) (by rfl) (evb (by rfl) h_8) (by rfl)
          refine WL.off ?_ ?_; exact Wanted.guard (dj := 25) (by rfl) (evb (by rfl) h_8) (by rfl)
          refine WL.val Wanted.none (Runs.pick_t (evb rfl h_8) rfl) ?_
          refine WL.nil ?_
          refine QW.then_n ?_
          refine CW.sub [(0, .slice A0 n0 c0), (1, .int .i64 a1), (2, .int .i64 a2), (6, .int .u64 0), (7, .int .i64 0), (32, .bool true)] ⟨rfl, rfl, rfl, rfl, rfl, rfl, trivial⟩ ?_
          refine CW.ct rfl rfl ?_
          refine CW.seq ?_
          refine CW.region ?_
          refine WL.val Wanted.none (Runs.assign rfl) ?_
          refine WL.val Wanted.none (Runs.assign rfl) ?_
          refine WL.nil ?_
          refine QW.then_n ?_
          refine CW.ret ?_
          refine QW.then_r ?_
          obtain ⟨rfl, rfl⟩ := H
          exact QW.ret2 rfl rfl rfl ⟨rfl, st0.pick [] (by decide)⟩
        · have h_8 : (decide (a1 > (l0.length : Int))) = false := (decide_eq_false c_7)
          refine WL.on ?_ ?_; exact Wanted.guard (dj := 25) (by rfl) (evb (by rfl) h_8) (by rfl)
          refine WL.val Wanted.none (Runs.move rfl) ?_
          refine WL.on ?_ ?_; exact Wanted.guard (dj := 25) (by rfl) (evb (by rfl) h_8) (by rfl)
          refine WL.val Wanted.none (Runs.len_sl Tryd.underlying26 rfl (by rw [hn0])) ?_
          refine WL.on ?_ ?_; exact Wanted.guard (dj := 25) (by rfl) (evb (by rfl) h_8) (by rfl)
          refine WL.val Wanted.none (Runs.move rfl) ?_
          refine WL.on ?_ ?_; exact Wanted.guard (dj := 25) (by rfl) (evb (by rfl) h_8) (by rfl)
          refine WL.val Wanted.none (Runs.sub rfl rfl rfl) ?_
          refine WL.on ?_ ?_; exact Wanted.guard (dj := 25) (by rfl) (evb (by rfl) h_8) (by rfl)
          refine WL.val Wanted.none (Runs.move rfl) ?_
          refine WL.on ?_ ?_; exact Wanted.guard (dj := 25) (by rfl) (evb (by rfl) h_8) (by rfl)
          refine WL.val Wanted.none (Runs.lss rfl rfl rfl) ?_
          refine WL.val Wanted.none (Runs.pick_f (evb rfl h_8) rfl) ?_
          refine WL.nil ?_
          refine QW.then_n ?_
          refine CW.sub [(0, .slice A0 n0 c0), (1, .int .i64 a1), (2, .int .i64 a2), (6, .int .u64 0), (7, .int .i64 0), (32, .bool (decide ((IntKind.i64.wrap ((l0.length : Int) - a1)) < a2)))] ⟨rfl, rfl, rfl, rfl, rfl, rfl, trivial⟩ ?_
          rcases H with ⟨c_9, H⟩ | ⟨c_9, H⟩
          · have h_10 : (decide ((IntKind.i64.wrap ((l0.length : Int) - a1)) < a2)) = true := (decide_eq_true c_9)
            refine CW.ct rfl h_10 ?_
            refine CW.seq ?_
            refine CW.region ?_
            refine WL.val Wanted.none (Runs.assign rfl) ?_
            refine WL.val Wanted.none (Runs.assign rfl) ?_
            refine WL.nil ?_
            refine QW.then_n ?_
            refine CW.ret ?_
            refine QW.then_r ?_
            obtain ⟨rfl, rfl⟩ := H
            exact QW.ret2 rfl rfl rfl ⟨rfl, st0.pick [] (by decide)⟩
          · have h_10 : (decide ((IntKind.i64.wrap ((l0.length : Int) - a1)) < a2)) = false := (decide_eq_false c_9)
            refine CW.cf rfl h_10 ?_
            refine CW.skip ?_
            refine QW.then_n ?_
            refine CW.seq ?_
            refine CW.region ?_
            refine WL.val Wanted.none (Runs.assign rfl) ?_
            refine WL.nil ?_
            refine QW.then_n ?_
            refine CW.seq ?_
            refine CW.region ?_
            refine WL.val Wanted.none (Runs.assign rfl) ?_
            refine WL.nil ?_
            refine QW.then_n ?_
            refine CW.seq ?_
            refine CW.seq ?_
            refine CW.region ?_
            refine WL.val Wanted.none (Runs.assign rfl) ?_
            refine WL.nil ?_
            refine QW.then_n ?_
            refine CW.block ?_
            obtain ⟨k_11, H⟩ := H
            refine CW.sub [(0, .slice A0 n0 c0), (1, .int .i64 a1), (2, .int .i64 a2), (6, .int .u64 0), (7, .int .i64 0), (8, .int .u64 0), (9, .int .u64 1), (10, .int .i64 0)] ⟨rfl, rfl, rfl, rfl, rfl, rfl, rfl, rfl, trivial⟩ ?_
            refine CW.loop (fun kL1 l_ w_ => ∃ (x_12 : Int) (x_13 : Int) (x_14 : Int), l_ = [(0, .slice A0 n0 c0), (1, .int .i64 a1), (2, .int .i64 a2), (6, .int .u64 0), (7, .int .i64 0), (8, .int .u64 x_12), (9, .int .u64 x_13), (10, .int .i64 x_14)] ∧ reliquaryref01_Get.L1 l0 a1 a2 r0 r1 kL1 x_12 x_13 x_14 ∧ St w w_ []) (k := k_11) ⟨0, 1, 0, rfl, H, st0⟩ (fun _ _ h => by obtain ⟨_, _, _, _, h, _⟩ := h; exact h.elim) ?_
            rintro kL1 l_17 w_15 ⟨x_12, x_13, x_14, rfl, H, st_16⟩
            refine CW.seq ?_
            refine CW.seq ?_
            refine CW.region ?_
            refine WL.val Wanted.none (Runs.move rfl) ?_
            refine WL.val Wanted.none (Runs.move rfl) ?_
            refine WL.val Wanted.none (Runs.lss rfl rfl rfl) ?_
            refine WL.nil ?_
            refine QW.then_n ?_
            rcases H with ⟨c_18, H⟩ | ⟨c_18, H⟩
            · have h_19 : (decide (x_14 < a2)) = true := (decide_eq_true c_18)
              refine CW.ct rfl h_19 ?_
              refine CW.skip ?_
              refine QW.then_n ?_
              refine CW.seq ?_
              refine CW.block ?_
              refine CW.seq ?_
              refine CW.region ?_
              refine WL.val Wanted.none (Runs.move rfl) ?_
              refine WL.val Wanted.none (Runs.move rfl) ?_
              refine WL.val Wanted.none (Runs.move rfl) ?_
              refine WL.val Wanted.none (Runs.move rfl) ?_
              refine WL.val Wanted.none (Runs.add rfl rfl rfl) ?_
              obtain ⟨⟨p_20, q_21⟩, H⟩ := H
              obtain ⟨a_22, e_23⟩ := (hs0.ext st_16).addr_iv ((IntKind.i64.wrap (a1 + x_14)).toNat) (by omega)
              refine WL.val Wanted.none (Runs.indexAddr Tryd.underlying26 cells5 (by decide) rfl e_23 rfl p_20 (by rw [hn0]; exact q_21) (o := (IntKind.i64.wrap (a1 + x_14)).toNat) (by first | rfl | omega)) ?_
              refine WL.val Wanted.none (Runs.load nagg5 rfl ((hs0.ext st_16).cell_iv e_23 (by omega))) ?_
              obtain ⟨x_24, e_25, H⟩ := H
              refine WL.val Wanted.none (Runs.conv Tryd.underlying25 ⟨_, Tryd.underlying5⟩ rfl e_25) ?_
              refine WL.val Wanted.none (Runs.move rfl) ?_
              refine WL.val Wanted.none (Runs.mul rfl rfl rfl) ?_
              refine WL.val Wanted.none (Runs.add rfl rfl rfl) ?_
              refine WL.val Wanted.none (Runs.assign rfl) ?_
              refine WL.nil ?_
              refine QW.then_n ?_
              refine CW.region ?_
              refine WL.val Wanted.none (Runs.move rfl) ?_
              refine WL.val Wanted.none (Runs.mul rfl rfl rfl) ?_
              refine WL.val Wanted.none (Runs.assign rfl) ?_
              refine WL.nil ?_
              refine QW.blk_n ?_
              refine QW.then_n ?_
              refine CW.region ?_
              refine WL.val Wanted.none (Runs.move rfl) ?_
              refine WL.val Wanted.none (Runs.add rfl rfl rfl) ?_
              refine WL.val Wanted.none (Runs.assign rfl) ?_
              refine WL.nil ?_
              exact QW.at [(0, .slice A0 n0 c0), (1, .int .i64 a1), (2, .int .i64 a2), (6, .int .u64 0), (7, .int .i64 0), (8, .int .u64 (IntKind.u64.wrap (x_12 + (IntKind.u64.wrap (x_24 * x_13))))), (9, .int .u64 (IntKind.u64.wrap (x_13 * 256))), (10, .int .i64 (IntKind.i64.wrap (x_14 + 1)))] ⟨rfl, rfl, rfl, rfl, rfl, rfl, rfl, rfl, trivial⟩ ⟨IntKind.u64.wrap (x_12 + (IntKind.u64.wrap (x_24 * x_13))), IntKind.u64.wrap (x_13 * 256), IntKind.i64.wrap (x_14 + 1), rfl, H, st_16⟩
            · have h_19 : (decide (x_14 < a2)) = false := (decide_eq_false c_18)
              refine CW.cf rfl h_19 ?_
              refine CW.exit ?_
              refine QW.then_x ?_
              refine QW.then_x ?_
              refine QW.blk_x ?_
              refine QW.then_n ?_
              refine CW.sub [(6, .int .u64 0), (7, .int .i64 0), (8, .int .u64 x_12)] ⟨rfl, rfl, rfl, trivial⟩ ?_
              refine CW.seq ?_
              refine CW.region ?_
              refine WL.val Wanted.none (Runs.move rfl) ?_
              refine WL.val Wanted.none (Runs.assign rfl) ?_
              refine WL.val Wanted.none (Runs.assign rfl) ?_
              refine WL.nil ?_
              refine QW.then_n ?_
              refine CW.ret ?_
              obtain ⟨rfl, rfl⟩ := H
              exact QW.ret2 rfl rfl rfl ⟨rfl, st_16.pick [] (by decide)⟩

/-! ### reliquaryref04_at: function 39 -/
def reliquaryref04_at.rel (l0 : List Int) (a1 : Int) (r0 : Int) : Prop := (∃ (r_5 : Int) (r_6 : Int), reliquaryref01_Get.rel l0 a1 4 r_5 r_6 ∧ r0 = IntKind.u32.wrap r_5)
set_option maxHeartbeats 4000000 in
set_option maxRecDepth 100000 in
theorem reliquaryref04_at.calls (w : World) (l0 : List Int) (a1 : Int) (A0 : Option Addr) (n0 : Nat) (c0 : Nat)  (hs0 : Src w A0 (iv .u8 l0)) (hn0 : n0 = l0.length) (hc0 : n0 ≤ c0) (r0 : Int) (H : reliquaryref04_at.rel l0 a1 r0) :
    Calls Tryd.prog 39 #[.slice A0 n0 c0, .int .i64 a1] w fun e w' => e = .returned (.int .u32 r0) ∧ St w w' [] := by
  refine CW.enter Tryd.func39 rfl (n := 15) rfl [.slice A0 n0 c0, .int .i64 a1] (Nat.le_of_ble_eq_true rfl) ?_
  refine CW.sub [(0, .slice A0 n0 c0), (1, .int .i64 a1)] ⟨rfl, rfl, trivial⟩ ?_
  have st0 : St w w [] := St.refl w
  refine CW.seq ?_
  refine CW.region ?_
  refine WL.val Wanted.none (Runs.assign rfl) ?_
  refine WL.nil ?_
  refine QW.then_n ?_
  refine CW.seq ?_
  refine CW.region ?_
  refine WL.val Wanted.none (Runs.move rfl) ?_
  refine WL.val Wanted.none (Runs.move rfl) ?_
  obtain ⟨r_5, r_6, hr_1, H⟩ := H
  refine WL.call Wanted.none ent26 rfl (reliquaryref01_Get.calls w l0 a1 4 A0 n0 c0 (hs0.ext st0) (hn0) (hc0) r_5 r_6 hr_1) ?_
  rintro _ w_2 ⟨rfl, sc_4⟩
  have st_3 : St w w_2 [] := st0.call sc_4
  refine ⟨_, rfl, ?_⟩
  refine WL.val Wanted.none (Runs.move rfl) ?_
  refine WL.val Wanted.none (Runs.extract rfl rfl) ?_
  refine WL.val Wanted.none (Runs.extract rfl rfl) ?_
  refine WL.val Wanted.none (Runs.assign rfl) ?_
  refine WL.val Wanted.none (Runs.assign rfl) ?_
  refine WL.nil ?_
  refine QW.then_n ?_
  refine CW.sub [(4, .int .u32 0), (5, .int .u64 r_5)] ⟨rfl, rfl, trivial⟩ ?_
  refine CW.seq ?_
  refine CW.region ?_
  refine WL.val Wanted.none (Runs.move rfl) ?_
  refine WL.val Wanted.none (Runs.conv Tryd.underlying24 ⟨_, Tryd.underlying25⟩ rfl rfl) ?_
  refine WL.val Wanted.none (Runs.assign rfl) ?_
  refine WL.nil ?_
  refine QW.then_n ?_
  refine CW.ret ?_
  obtain rfl := H
  exact QW.ret1 rfl rfl ⟨rfl, st_3.pick [] (by decide)⟩

/-! ### reliquaryref04_left: function 42 -/
def reliquaryref04_left.rel (a0 : Int) (a1 : Int) (r0 : Int) : Prop := (0 ≤ a1 ∧ (0 ≤ (IntKind.u64.wrap (32 - a1)) ∧ (∃ x_3 : Int, x_3 = bits .or .u32 (shlI .u32 a0 a1) (shrI .u32 a0 (IntKind.u64.wrap (32 - a1))) ∧ r0 = x_3)))
set_option maxHeartbeats 4000000 in
set_option maxRecDepth 100000 in
theorem reliquaryref04_left.calls (w : World) (a0 : Int) (a1 : Int)    (r0 : Int) (H : reliquaryref04_left.rel a0 a1 r0) :
    Calls Tryd.prog 42 #[.int .u32 a0, .int .u64 a1] w fun e w' => e = .returned (.int .u32 r0) ∧ St w w' [] := by
  refine CW.enter Tryd.func42 rfl (n := 13) rfl [.int .u32 a0, .int .u64 a1] (Nat.le_of_ble_eq_true rfl) ?_
  refine CW.sub [(0, .int .u32 a0), (1, .int .u64 a1)] ⟨rfl, rfl, trivial⟩ ?_
  have st0 : St w w [] := St.refl w
  refine CW.seq ?_
  refine CW.region ?_
  refine WL.val Wanted.none (Runs.assign rfl) ?_
  refine WL.nil ?_
  refine QW.then_n ?_
  refine CW.seq ?_
  refine CW.region ?_
  refine WL.val Wanted.none (Runs.move rfl) ?_
  refine WL.val Wanted.none (Runs.move rfl) ?_
  obtain ⟨z_1, H⟩ := H
  refine WL.val Wanted.none (Runs.shl rfl rfl z_1 rfl) ?_
  refine WL.val Wanted.none (Runs.move rfl) ?_
  refine WL.val Wanted.none (Runs.move rfl) ?_
  refine WL.val Wanted.none (Runs.sub rfl rfl rfl) ?_
  obtain ⟨z_2, H⟩ := H
  refine WL.val Wanted.none (Runs.shr rfl rfl z_2 rfl) ?_
  obtain ⟨x_3, e_4, H⟩ := H
  refine WL.val Wanted.none (Runs.bor rfl rfl e_4) ?_
  refine WL.val Wanted.none (Runs.assign rfl) ?_
  refine WL.nil ?_
  refine QW.then_n ?_
  refine CW.sub [(4, .int .u32 x_3)] ⟨rfl, trivial⟩ ?_
  refine CW.ret ?_
  obtain rfl := H
  exact QW.ret1 rfl rfl ⟨rfl, st0.pick [] (by decide)⟩

/-! ### reliquaryref04_quarter: function 40 -/
def reliquaryref04_quarter.rel (l0 : List Int) (a1 : Int) (a2 : Int) (a3 : Int) (a4 : Int) (r0 : List Int) : Prop := ((0 ≤ a1 ∧ a1 < (16 : Int)) ∧ ((0 ≤ a2 ∧ a2 < (16 : Int)) ∧ (∃ x_13 : Int, x_13 = IntKind.u32.wrap ((gn l0 ((a1).toNat)) + (gn l0 ((a2).toNat))) ∧ ((0 ≤ a1 ∧ a1 < (16 : Int)) ∧ (∃ m_19 : List Int, m_19 = List.set l0 ((a1).toNat) x_13 ∧ ((0 ≤ a4 ∧ a4 < (16 : Int)) ∧ ((0 ≤ a1 ∧ a1 < (16 : Int)) ∧ (∃ (r_32 : Int), reliquaryref04_left.rel (bits .xor .u32 (gn m_19 ((a4).toNat)) (gn m_19 ((a1).toNat))) 16 r_32 ∧ ((0 ≤ a4 ∧ a4 < (16 : Int)) ∧ (∃ m_37 : List Int, m_37 = List.set m_19 ((a4).toNat) r_32 ∧ ((0 ≤ a3 ∧ a3 < (16 : Int)) ∧ ((0 ≤ a4 ∧ a4 < (16 : Int)) ∧ (∃ x_46 : Int, x_46 = IntKind.u32.wrap ((gn m_37 ((a3).toNat)) + (gn m_37 ((a4).toNat))) ∧ ((0 ≤ a3 ∧ a3 < (16 : Int)) ∧ (∃ m_52 : List Int, m_52 = List.set m_37 ((a3).toNat) x_46 ∧ ((0 ≤ a2 ∧ a2 < (16 : Int)) ∧ ((0 ≤ a3 ∧ a3 < (16 : Int)) ∧ (∃ (r_65 : Int), reliquaryref04_left.rel (bits .xor .u32 (gn m_52 ((a2).toNat)) (gn m_52 ((a3).toNat))) 12 r_65 ∧ ((0 ≤ a2 ∧ a2 < (16 : Int)) ∧ (∃ m_70 : List Int, m_70 = List.set m_52 ((a2).toNat) r_65 ∧ ((0 ≤ a1 ∧ a1 < (16 : Int)) ∧ ((0 ≤ a2 ∧ a2 < (16 : Int)) ∧ (∃ x_79 : Int, x_79 = IntKind.u32.wrap ((gn m_70 ((a1).toNat)) + (gn m_70 ((a2).toNat))) ∧ ((0 ≤ a1 ∧ a1 < (16 : Int)) ∧ (∃ m_85 : List Int, m_85 = List.set m_70 ((a1).toNat) x_79 ∧ ((0 ≤ a4 ∧ a4 < (16 : Int)) ∧ ((0 ≤ a1 ∧ a1 < (16 : Int)) ∧ (∃ (r_98 : Int), reliquaryref04_left.rel (bits .xor .u32 (gn m_85 ((a4).toNat)) (gn m_85 ((a1).toNat))) 8 r_98 ∧ ((0 ≤ a4 ∧ a4 < (16 : Int)) ∧ (∃ m_103 : List Int, m_103 = List.set m_85 ((a4).toNat) r_98 ∧ ((0 ≤ a3 ∧ a3 < (16 : Int)) ∧ ((0 ≤ a4 ∧ a4 < (16 : Int)) ∧ (∃ x_112 : Int, x_112 = IntKind.u32.wrap ((gn m_103 ((a3).toNat)) + (gn m_103 ((a4).toNat))) ∧ ((0 ≤ a3 ∧ a3 < (16 : Int)) ∧ (∃ m_118 : List Int, m_118 = List.set m_103 ((a3).toNat) x_112 ∧ ((0 ≤ a2 ∧ a2 < (16 : Int)) ∧ ((0 ≤ a3 ∧ a3 < (16 : Int)) ∧ (∃ x_127 : Int, x_127 = bits .xor .u32 (gn m_118 ((a2).toNat)) (gn m_118 ((a3).toNat)) ∧ (∃ (r_133 : Int), reliquaryref04_left.rel x_127 7 r_133 ∧ ((0 ≤ a2 ∧ a2 < (16 : Int)) ∧ (∃ m_138 : List Int, m_138 = List.set m_118 ((a2).toNat) r_133 ∧ r0 = m_138)))))))))))))))))))))))))))))))))))))))))
set_option maxHeartbeats 4000000 in
set_option maxRecDepth 100000 in
theorem reliquaryref04_quarter.calls (w : World) (l0 : List Int) (a1 : Int) (a2 : Int) (a3 : Int) (a4 : Int)   (hl0 : l0.length = 16) (r0 : List Int) (H : reliquaryref04_quarter.rel l0 a1 a2 a3 a4 r0) :
    Calls Tryd.prog 40 #[.agg (iv .u32 l0).toArray, .int .i64 a1, .int .i64 a2, .int .i64 a3, .int .i64 a4] w fun e w' => r0.length = 16 ∧ e = .returned (.agg (iv .u32 r0).toArray) ∧ St w w' [] := by
  refine CW.enter Tryd.func40 rfl (n := 88) rfl [.agg (iv .u32 l0).toArray, .int .i64 a1, .int .i64 a2, .int .i64 a3, .int .i64 a4] (Nat.le_of_ble_eq_true rfl) ?_
  refine CW.sub [(0, .agg (iv .u32 l0).toArray), (1, .int .i64 a1), (2, .int .i64 a2), (3, .int .i64 a3), (4, .int .i64 a4)] ⟨rfl, rfl, rfl, rfl, rfl, trivial⟩ ?_
  have st0 : St w w [] := St.refl w
  refine CW.seq ?_
  refine CW.region ?_
  refine WL.box st0 rfl rfl ?_
  intro B_1 w_2 st_3
  replace st_3 : St w w_2 [.cells B_1 (iv .u32 l0) 67] := st_3
  refine WL.alloc st_3 arr67.zero ?_
  intro B_5 w_6 st_7
  replace st_7 : St w w_6 [.cells B_5 (iv .u32 (List.replicate 16 (0 : Int))) 67, .cells B_1 (iv .u32 l0) 67] := st_7
  refine WL.nil ?_
  refine QW.then_n ?_
  refine CW.seq ?_
  refine CW.region_qt 9 wide (by kernel_rfl) st_7 ?_
  refine HL.val Wanted.none (fun wq sq => (Runs.move rfl)) ?_
  refine HL.val Wanted.none (fun wq sq => (Runs.move rfl)) ?_
  obtain ⟨⟨p_9, q_10⟩, H⟩ := H
  refine HL.val Wanted.none (fun wq sq => (Runs.indexAddr_blk arr67 rfl rfl p_9 q_10 (o := (a1).toNat) (by first | rfl | omega))) ?_
  refine HL.val Wanted.none (fun wq sq => (Runs.load nagg24 rfl (sq.cell_iv (i := 1) rfl (by have := hl0; omega)))) ?_
  refine HL.val Wanted.none (fun wq sq => (Runs.move rfl)) ?_
  obtain ⟨⟨p_11, q_12⟩, H⟩ := H
  refine HL.val Wanted.none (fun wq sq => (Runs.indexAddr_blk arr67 rfl rfl p_11 q_12 (o := (a2).toNat) (by first | rfl | omega))) ?_
  refine HL.val Wanted.none (fun wq sq => (Runs.load nagg24 rfl (sq.cell_iv (i := 1) rfl (by have := hl0; omega)))) ?_
  obtain ⟨x_13, e_14, H⟩ := H
  refine HL.val Wanted.none (fun wq sq => (Runs.add rfl rfl e_14)) ?_
  obtain ⟨⟨p_15, q_16⟩, H⟩ := H
  refine HL.val Wanted.none (fun wq sq => (Runs.indexAddr_blk arr67 rfl rfl p_15 q_16 (o := (a1).toNat) (by first | rfl | omega))) ?_
  refine HL.nil (fun w_17 st_18 => ?_)
  obtain ⟨m_19, e_20, H⟩ := H
  have hl_23 : m_19.length = 16 := by rw [e_20, List.length_set]; exact hl0
  refine WL.store_cells (i := 1) st_18 rfl cells24 rfl (by rw [iv_length]; have := hl0; omega) rfl rfl ?_
  intro w_21 st_22
  have st_22' : St w w_21 [.cells B_5 (iv .u32 (List.replicate 16 (0 : Int))) 67, .cells B_1 (iv .u32 m_19) 67] := by rw [e_20, ← iv_set .u32 l0 ((a1).toNat) x_13]; exact st_22
  refine WL.nil ?_
  refine QW.then_n ?_
  refine CW.sub [(1, .int .i64 a1), (2, .int .i64 a2), (3, .int .i64 a3), (4, .int .i64 a4), (5, .pointer (some ⟨B_1, 0, none⟩)), (10, .pointer (some ⟨B_5, 0, none⟩))] ⟨rfl, rfl, rfl, rfl, rfl, rfl, trivial⟩ ?_
  refine CW.seq ?_
  refine CW.region_qt 10 wide (by kernel_rfl) st_22' ?_
  refine HL.val Wanted.none (fun wq sq => (Runs.move rfl)) ?_
  refine HL.val Wanted.none (fun wq sq => (Runs.move rfl)) ?_
  obtain ⟨⟨p_24, q_25⟩, H⟩ := H
  refine HL.val Wanted.none (fun wq sq => (Runs.indexAddr_blk arr67 rfl rfl p_24 q_25 (o := (a4).toNat) (by first | rfl | omega))) ?_
  refine HL.val Wanted.none (fun wq sq => (Runs.load nagg24 rfl (sq.cell_iv (i := 1) rfl (by have := hl_23; omega)))) ?_
  refine HL.val Wanted.none (fun wq sq => (Runs.move rfl)) ?_
  obtain ⟨⟨p_26, q_27⟩, H⟩ := H
  refine HL.val Wanted.none (fun wq sq => (Runs.indexAddr_blk arr67 rfl rfl p_26 q_27 (o := (a1).toNat) (by first | rfl | omega))) ?_
  refine HL.val Wanted.none (fun wq sq => (Runs.load nagg24 rfl (sq.cell_iv (i := 1) rfl (by have := hl_23; omega)))) ?_
  refine HL.val Wanted.none (fun wq sq => (Runs.bxor rfl rfl rfl)) ?_
  obtain ⟨r_32, hr_28, H⟩ := H
  refine HL.call Wanted.none ent42 rfl (fun wq sq => (reliquaryref04_left.calls wq (bits .xor .u32 (gn m_19 ((a4).toNat)) (gn m_19 ((a1).toNat))) 16 r_32 hr_28).mono (by rintro _ _ ⟨rfl, sc⟩; exact ⟨rfl, sq.call sc⟩)) ?_
  obtain ⟨⟨p_33, q_34⟩, H⟩ := H
  refine HL.val Wanted.none (fun wq sq => (Runs.indexAddr_blk arr67 rfl rfl p_33 q_34 (o := (a4).toNat) (by first | rfl | omega))) ?_
  refine HL.nil (fun w_35 st_36 => ?_)
  obtain ⟨m_37, e_38, H⟩ := H
  have hl_41 : m_37.length = 16 := by rw [e_38, List.length_set]; exact hl_23
  refine WL.store_cells (i := 1) st_36 rfl cells24 rfl (by rw [iv_length]; have := hl_23; omega) rfl rfl ?_
  intro w_39 st_40
  have st_40' : St w w_39 [.cells B_5 (iv .u32 (List.replicate 16 (0 : Int))) 67, .cells B_1 (iv .u32 m_37) 67] := by rw [e_38, ← iv_set .u32 m_19 ((a4).toNat) r_32]; exact st_40
  refine WL.nil ?_
  refine QW.then_n ?_
  refine CW.sub [(1, .int .i64 a1), (2, .int .i64 a2), (3, .int .i64 a3), (4, .int .i64 a4), (5, .pointer (some ⟨B_1, 0, none⟩)), (10, .pointer (some ⟨B_5, 0, none⟩))] ⟨rfl, rfl, rfl, rfl, rfl, rfl, trivial⟩ ?_
  refine CW.seq ?_
  refine CW.region_qt 9 wide (by kernel_rfl) st_40' ?_
  refine HL.val Wanted.none (fun wq sq => (Runs.move rfl)) ?_
  refine HL.val Wanted.none (fun wq sq => (Runs.move rfl)) ?_
  obtain ⟨⟨p_42, q_43⟩, H⟩ := H
  refine HL.val Wanted.none (fun wq sq => (Runs.indexAddr_blk arr67 rfl rfl p_42 q_43 (o := (a3).toNat) (by first | rfl | omega))) ?_
  refine HL.val Wanted.none (fun wq sq => (Runs.load nagg24 rfl (sq.cell_iv (i := 1) rfl (by have := hl_41; omega)))) ?_
  refine HL.val Wanted.none (fun wq sq => (Runs.move rfl)) ?_
  obtain ⟨⟨p_44, q_45⟩, H⟩ := H
  refine HL.val Wanted.none (fun wq sq => (Runs.indexAddr_blk arr67 rfl rfl p_44 q_45 (o := (a4).toNat) (by first | rfl | omega))) ?_
  refine HL.val Wanted.none (fun wq sq => (Runs.load nagg24 rfl (sq.cell_iv (i := 1) rfl (by have := hl_41; omega)))) ?_
  obtain ⟨x_46, e_47, H⟩ := H
  refine HL.val Wanted.none (fun wq sq => (Runs.add rfl rfl e_47)) ?_
  obtain ⟨⟨p_48, q_49⟩, H⟩ := H
  refine HL.val Wanted.none (fun wq sq => (Runs.indexAddr_blk arr67 rfl rfl p_48 q_49 (o := (a3).toNat) (by first | rfl | omega))) ?_
  refine HL.nil (fun w_50 st_51 => ?_)
  obtain ⟨m_52, e_53, H⟩ := H
  have hl_56 : m_52.length = 16 := by rw [e_53, List.length_set]; exact hl_41
  refine WL.store_cells (i := 1) st_51 rfl cells24 rfl (by rw [iv_length]; have := hl_41; omega) rfl rfl ?_
  intro w_54 st_55
  have st_55' : St w w_54 [.cells B_5 (iv .u32 (List.replicate 16 (0 : Int))) 67, .cells B_1 (iv .u32 m_52) 67] := by rw [e_53, ← iv_set .u32 m_37 ((a3).toNat) x_46]; exact st_55
  refine WL.nil ?_
  refine QW.then_n ?_
  refine CW.sub [(1, .int .i64 a1), (2, .int .i64 a2), (3, .int .i64 a3), (4, .int .i64 a4), (5, .pointer (some ⟨B_1, 0, none⟩)), (10, .pointer (some ⟨B_5, 0, none⟩))] ⟨rfl, rfl, rfl, rfl, rfl, rfl, trivial⟩ ?_
  refine CW.seq ?_
  refine CW.region_qt 10 wide (by kernel_rfl) st_55' ?_
  refine HL.val Wanted.none (fun wq sq => (Runs.move rfl)) ?_
  refine HL.val Wanted.none (fun wq sq => (Runs.move rfl)) ?_
  obtain ⟨⟨p_57, q_58⟩, H⟩ := H
  refine HL.val Wanted.none (fun wq sq => (Runs.indexAddr_blk arr67 rfl rfl p_57 q_58 (o := (a2).toNat) (by first | rfl | omega))) ?_
  refine HL.val Wanted.none (fun wq sq => (Runs.load nagg24 rfl (sq.cell_iv (i := 1) rfl (by have := hl_56; omega)))) ?_
  refine HL.val Wanted.none (fun wq sq => (Runs.move rfl)) ?_
  obtain ⟨⟨p_59, q_60⟩, H⟩ := H
  refine HL.val Wanted.none (fun wq sq => (Runs.indexAddr_blk arr67 rfl rfl p_59 q_60 (o := (a3).toNat) (by first | rfl | omega))) ?_
  refine HL.val Wanted.none (fun wq sq => (Runs.load nagg24 rfl (sq.cell_iv (i := 1) rfl (by have := hl_56; omega)))) ?_
  refine HL.val Wanted.none (fun wq sq => (Runs.bxor rfl rfl rfl)) ?_
  obtain ⟨r_65, hr_61, H⟩ := H
  refine HL.call Wanted.none ent42 rfl (fun wq sq => (reliquaryref04_left.calls wq (bits .xor .u32 (gn m_52 ((a2).toNat)) (gn m_52 ((a3).toNat))) 12 r_65 hr_61).mono (by rintro _ _ ⟨rfl, sc⟩; exact ⟨rfl, sq.call sc⟩)) ?_
  obtain ⟨⟨p_66, q_67⟩, H⟩ := H
  refine HL.val Wanted.none (fun wq sq => (Runs.indexAddr_blk arr67 rfl rfl p_66 q_67 (o := (a2).toNat) (by first | rfl | omega))) ?_
  refine HL.nil (fun w_68 st_69 => ?_)
  obtain ⟨m_70, e_71, H⟩ := H
  have hl_74 : m_70.length = 16 := by rw [e_71, List.length_set]; exact hl_56
  refine WL.store_cells (i := 1) st_69 rfl cells24 rfl (by rw [iv_length]; have := hl_56; omega) rfl rfl ?_
  intro w_72 st_73
  have st_73' : St w w_72 [.cells B_5 (iv .u32 (List.replicate 16 (0 : Int))) 67, .cells B_1 (iv .u32 m_70) 67] := by rw [e_71, ← iv_set .u32 m_52 ((a2).toNat) r_65]; exact st_73
  refine WL.nil ?_
  refine QW.then_n ?_
  refine CW.sub [(1, .int .i64 a1), (2, .int .i64 a2), (3, .int .i64 a3), (4, .int .i64 a4), (5, .pointer (some ⟨B_1, 0, none⟩)), (10, .pointer (some ⟨B_5, 0, none⟩))] ⟨rfl, rfl, rfl, rfl, rfl, rfl, trivial⟩ ?_
  refine CW.seq ?_
  refine CW.region_qt 9 wide (by kernel_rfl) st_73' ?_
  refine HL.val Wanted.none (fun wq sq => (Runs.move rfl)) ?_
  refine HL.val Wanted.none (fun wq sq => (Runs.move rfl)) ?_
  obtain ⟨⟨p_75, q_76⟩, H⟩ := H
  refine HL.val Wanted.none (fun wq sq => (Runs.indexAddr_blk arr67 rfl rfl p_75 q_76 (o := (a1).toNat) (by first | rfl | omega))) ?_
  refine HL.val Wanted.none (fun wq sq => (Runs.load nagg24 rfl (sq.cell_iv (i := 1) rfl (by have := hl_74; omega)))) ?_
  refine HL.val Wanted.none (fun wq sq => (Runs.move rfl)) ?_
  obtain ⟨⟨p_77, q_78⟩, H⟩ := H
  refine HL.val Wanted.none (fun wq sq => (Runs.indexAddr_blk arr67 rfl rfl p_77 q_78 (o := (a2).toNat) (by first | rfl | omega))) ?_
  refine HL.val Wanted.none (fun wq sq => (Runs.load nagg24 rfl (sq.cell_iv (i := 1) rfl (by have := hl_74; omega)))) ?_
  obtain ⟨x_79, e_80, H⟩ := H
  refine HL.val Wanted.none (fun wq sq => (Runs.add rfl rfl e_80)) ?_
  obtain ⟨⟨p_81, q_82⟩, H⟩ := H
  refine HL.val Wanted.none (fun wq sq => (Runs.indexAddr_blk arr67 rfl rfl p_81 q_82 (o := (a1).toNat) (by first | rfl | omega))) ?_
  refine HL.nil (fun w_83 st_84 => ?_)
  obtain ⟨m_85, e_86, H⟩ := H
  have hl_89 : m_85.length = 16 := by rw [e_86, List.length_set]; exact hl_74
  refine WL.store_cells (i := 1) st_84 rfl cells24 rfl (by rw [iv_length]; have := hl_74; omega) rfl rfl ?_
  intro w_87 st_88
  have st_88' : St w w_87 [.cells B_5 (iv .u32 (List.replicate 16 (0 : Int))) 67, .cells B_1 (iv .u32 m_85) 67] := by rw [e_86, ← iv_set .u32 m_70 ((a1).toNat) x_79]; exact st_88
  refine WL.nil ?_
  refine QW.then_n ?_
  refine CW.sub [(1, .int .i64 a1), (2, .int .i64 a2), (3, .int .i64 a3), (4, .int .i64 a4), (5, .pointer (some ⟨B_1, 0, none⟩)), (10, .pointer (some ⟨B_5, 0, none⟩))] ⟨rfl, rfl, rfl, rfl, rfl, rfl, trivial⟩ ?_
  refine CW.seq ?_
  refine CW.region_qt 10 wide (by kernel_rfl) st_88' ?_
  refine HL.val Wanted.none (fun wq sq => (Runs.move rfl)) ?_
  refine HL.val Wanted.none (fun wq sq => (Runs.move rfl)) ?_
  obtain ⟨⟨p_90, q_91⟩, H⟩ := H
  refine HL.val Wanted.none (fun wq sq => (Runs.indexAddr_blk arr67 rfl rfl p_90 q_91 (o := (a4).toNat) (by first | rfl | omega))) ?_
  refine HL.val Wanted.none (fun wq sq => (Runs.load nagg24 rfl (sq.cell_iv (i := 1) rfl (by have := hl_89; omega)))) ?_
  refine HL.val Wanted.none (fun wq sq => (Runs.move rfl)) ?_
  obtain ⟨⟨p_92, q_93⟩, H⟩ := H
  refine HL.val Wanted.none (fun wq sq => (Runs.indexAddr_blk arr67 rfl rfl p_92 q_93 (o := (a1).toNat) (by first | rfl | omega))) ?_
  refine HL.val Wanted.none (fun wq sq => (Runs.load nagg24 rfl (sq.cell_iv (i := 1) rfl (by have := hl_89; omega)))) ?_
  refine HL.val Wanted.none (fun wq sq => (Runs.bxor rfl rfl rfl)) ?_
  obtain ⟨r_98, hr_94, H⟩ := H
  refine HL.call Wanted.none ent42 rfl (fun wq sq => (reliquaryref04_left.calls wq (bits .xor .u32 (gn m_85 ((a4).toNat)) (gn m_85 ((a1).toNat))) 8 r_98 hr_94).mono (by rintro _ _ ⟨rfl, sc⟩; exact ⟨rfl, sq.call sc⟩)) ?_
  obtain ⟨⟨p_99, q_100⟩, H⟩ := H
  refine HL.val Wanted.none (fun wq sq => (Runs.indexAddr_blk arr67 rfl rfl p_99 q_100 (o := (a4).toNat) (by first | rfl | omega))) ?_
  refine HL.nil (fun w_101 st_102 => ?_)
  obtain ⟨m_103, e_104, H⟩ := H
  have hl_107 : m_103.length = 16 := by rw [e_104, List.length_set]; exact hl_89
  refine WL.store_cells (i := 1) st_102 rfl cells24 rfl (by rw [iv_length]; have := hl_89; omega) rfl rfl ?_
  intro w_105 st_106
  have st_106' : St w w_105 [.cells B_5 (iv .u32 (List.replicate 16 (0 : Int))) 67, .cells B_1 (iv .u32 m_103) 67] := by rw [e_104, ← iv_set .u32 m_85 ((a4).toNat) r_98]; exact st_106
  refine WL.nil ?_
  refine QW.then_n ?_
  refine CW.sub [(2, .int .i64 a2), (3, .int .i64 a3), (4, .int .i64 a4), (5, .pointer (some ⟨B_1, 0, none⟩)), (10, .pointer (some ⟨B_5, 0, none⟩))] ⟨rfl, rfl, rfl, rfl, rfl, trivial⟩ ?_
  refine CW.seq ?_
  refine CW.region_qt 9 wide (by kernel_rfl) st_106' ?_
  refine HL.val Wanted.none (fun wq sq => (Runs.move rfl)) ?_
  refine HL.val Wanted.none (fun wq sq => (Runs.move rfl)) ?_
  obtain ⟨⟨p_108, q_109⟩, H⟩ := H
  refine HL.val Wanted.none (fun wq sq => (Runs.indexAddr_blk arr67 rfl rfl p_108 q_109 (o := (a3).toNat) (by first | rfl | omega))) ?_
  refine HL.val Wanted.none (fun wq sq => (Runs.load nagg24 rfl (sq.cell_iv (i := 1) rfl (by have := hl_107; omega)))) ?_
  refine HL.val Wanted.none (fun wq sq => (Runs.move rfl)) ?_
  obtain ⟨⟨p_110, q_111⟩, H⟩ := H
  refine HL.val Wanted.none (fun wq sq => (Runs.indexAddr_blk arr67 rfl rfl p_110 q_111 (o := (a4).toNat) (by first | rfl | omega))) ?_
  refine HL.val Wanted.none (fun wq sq => (Runs.load nagg24 rfl (sq.cell_iv (i := 1) rfl (by have := hl_107; omega)))) ?_
  obtain ⟨x_112, e_113, H⟩ := H
  refine HL.val Wanted.none (fun wq sq => (Runs.add rfl rfl e_113)) ?_
  obtain ⟨⟨p_114, q_115⟩, H⟩ := H
  refine HL.val Wanted.none (fun wq sq => (Runs.indexAddr_blk arr67 rfl rfl p_114 q_115 (o := (a3).toNat) (by first | rfl | omega))) ?_
  refine HL.nil (fun w_116 st_117 => ?_)
  obtain ⟨m_118, e_119, H⟩ := H
  have hl_122 : m_118.length = 16 := by rw [e_119, List.length_set]; exact hl_107
  refine WL.store_cells (i := 1) st_117 rfl cells24 rfl (by rw [iv_length]; have := hl_107; omega) rfl rfl ?_
  intro w_120 st_121
  have st_121' : St w w_120 [.cells B_5 (iv .u32 (List.replicate 16 (0 : Int))) 67, .cells B_1 (iv .u32 m_118) 67] := by rw [e_119, ← iv_set .u32 m_103 ((a3).toNat) x_112]; exact st_121
  refine WL.nil ?_
  refine QW.then_n ?_
  refine CW.sub [(2, .int .i64 a2), (3, .int .i64 a3), (5, .pointer (some ⟨B_1, 0, none⟩)), (10, .pointer (some ⟨B_5, 0, none⟩))] ⟨rfl, rfl, rfl, rfl, trivial⟩ ?_
  refine CW.seq ?_
  refine CW.region_qt 10 wide (by kernel_rfl) st_121' ?_
  refine HL.val Wanted.none (fun wq sq => (Runs.move rfl)) ?_
  refine HL.val Wanted.none (fun wq sq => (Runs.move rfl)) ?_
  obtain ⟨⟨p_123, q_124⟩, H⟩ := H
  refine HL.val Wanted.none (fun wq sq => (Runs.indexAddr_blk arr67 rfl rfl p_123 q_124 (o := (a2).toNat) (by first | rfl | omega))) ?_
  refine HL.val Wanted.none (fun wq sq => (Runs.load nagg24 rfl (sq.cell_iv (i := 1) rfl (by have := hl_122; omega)))) ?_
  refine HL.val Wanted.none (fun wq sq => (Runs.move rfl)) ?_
  obtain ⟨⟨p_125, q_126⟩, H⟩ := H
  refine HL.val Wanted.none (fun wq sq => (Runs.indexAddr_blk arr67 rfl rfl p_125 q_126 (o := (a3).toNat) (by first | rfl | omega))) ?_
  refine HL.val Wanted.none (fun wq sq => (Runs.load nagg24 rfl (sq.cell_iv (i := 1) rfl (by have := hl_122; omega)))) ?_
  obtain ⟨x_127, e_128, H⟩ := H
  refine HL.val Wanted.none (fun wq sq => (Runs.bxor rfl rfl e_128)) ?_
  obtain ⟨r_133, hr_129, H⟩ := H
  refine HL.call Wanted.none ent42 rfl (fun wq sq => (reliquaryref04_left.calls wq x_127 7 r_133 hr_129).mono (by rintro _ _ ⟨rfl, sc⟩; exact ⟨rfl, sq.call sc⟩)) ?_
  obtain ⟨⟨p_134, q_135⟩, H⟩ := H
  refine HL.val Wanted.none (fun wq sq => (Runs.indexAddr_blk arr67 rfl rfl p_134 q_135 (o := (a2).toNat) (by first | rfl | omega))) ?_
  refine HL.nil (fun w_136 st_137 => ?_)
  obtain ⟨m_138, e_139, H⟩ := H
  have hl_142 : m_138.length = 16 := by rw [e_139, List.length_set]; exact hl_122
  refine WL.store_cells (i := 1) st_137 rfl cells24 rfl (by rw [iv_length]; have := hl_122; omega) rfl rfl ?_
  intro w_140 st_141
  have st_141' : St w w_140 [.cells B_5 (iv .u32 (List.replicate 16 (0 : Int))) 67, .cells B_1 (iv .u32 m_138) 67] := by rw [e_139, ← iv_set .u32 m_118 ((a2).toNat) r_133]; exact st_141
  refine WL.nil ?_
  refine QW.then_n ?_
  refine CW.sub [(5, .pointer (some ⟨B_1, 0, none⟩)), (10, .pointer (some ⟨B_5, 0, none⟩))] ⟨rfl, rfl, trivial⟩ ?_
  refine CW.seq ?_
  refine CW.region ?_
  refine WL.val Wanted.none (Runs.load_arr arr67 rfl (st_141'.blk (i := 1) rfl) hl_142) ?_
  refine WL.store_arr (i := 0) st_141' rfl arr67 rfl (by rw [iv_length]; exact (List.length_replicate ..)) hl_142 rfl ?_
  intro w_143 st_144
  replace st_144 : St w w_143 [.cells B_5 (iv .u32 m_138) 67, .cells B_1 (iv .u32 m_138) 67] := st_144
  refine WL.nil ?_
  refine QW.then_n ?_
  refine CW.ret ?_
  obtain rfl := H
  exact QW.retc rfl arr67 rfl (st_144.blk (i := 0) rfl) hl_142 ⟨hl_142, rfl, st_144.pick [] (by decide)⟩

/-! ### reliquaryref04_Block: function 32 -/
def reliquaryref04_Block.L6 (x_105 : Int) (K_L4 : (List Int) → Int → Prop) : Nat → (List Int) → Int → Prop
  | 0, _, _ => False
  | kL6 + 1, m_130, x_132 => ((x_132 < 4 ∧ (∃ x_138 : Int, x_138 = IntKind.i64.wrap (4 + (Int.tmod (IntKind.i64.wrap (x_132 + 1)) 4)) ∧ (∃ x_140 : Int, x_140 = IntKind.i64.wrap (8 + (Int.tmod (IntKind.i64.wrap (x_132 + 2)) 4)) ∧ (∃ x_142 : Int, x_142 = IntKind.i64.wrap (12 + (Int.tmod (IntKind.i64.wrap (x_132 + 3)) 4)) ∧ (∃ (r_148 : List Int), reliquaryref04_quarter.rel m_130 x_132 x_138 x_140 x_142 r_148 ∧ reliquaryref04_Block.L6 x_105 K_L4 kL6 r_148 (IntKind.i64.wrap (x_132 + 1))))))) ∨ (¬ (x_132 < 4) ∧ K_L4 m_130 (IntKind.i64.wrap (x_105 + 1))))
def reliquaryref04_Block.L5 (x_105 : Int) (K_L4 : (List Int) → Int → Prop) : Nat → (List Int) → Int → Prop
  | 0, _, _ => False
  | kL5 + 1, m_112, x_114 => ((x_114 < 4 ∧ (∃ (r_124 : List Int), reliquaryref04_quarter.rel m_112 x_114 (IntKind.i64.wrap (4 + x_114)) (IntKind.i64.wrap (8 + x_114)) (IntKind.i64.wrap (12 + x_114)) r_124 ∧ reliquaryref04_Block.L5 x_105 K_L4 kL5 r_124 (IntKind.i64.wrap (x_114 + 1)))) ∨ (¬ (x_114 < 4) ∧ (∃ k_ : Nat, reliquaryref04_Block.L6 x_105 (K_L4) k_ m_112 0)))
def reliquaryref04_Block.L7 (r0 : List Int) (m_75 : List Int) (m_103 : List Int) : Nat → (List Int) → Int → Prop
  | 0, _, _ => False
  | kL7 + 1, m_158, x_160 => ((x_160 < 64 ∧ ((0 ≤ (IntKind.i64.wrap (Int.tdiv x_160 4)) ∧ (IntKind.i64.wrap (Int.tdiv x_160 4)) < (16 : Int)) ∧ ((0 ≤ (IntKind.i64.wrap (Int.tdiv x_160 4)) ∧ (IntKind.i64.wrap (Int.tdiv x_160 4)) < (16 : Int)) ∧ (∃ x_170 : Int, x_170 = IntKind.u32.wrap ((gn m_103 ((IntKind.i64.wrap (Int.tdiv x_160 4)).toNat)) + (gn m_75 ((IntKind.i64.wrap (Int.tdiv x_160 4)).toNat))) ∧ (0 ≤ (IntKind.u64.wrap (IntKind.i64.wrap (8 * (Int.tmod x_160 4)))) ∧ (∃ x_175 : Int, x_175 = shrI .u32 x_170 (IntKind.u64.wrap (IntKind.i64.wrap (8 * (Int.tmod x_160 4)))) ∧ ((0 ≤ x_160 ∧ x_160 < (64 : Int)) ∧ (∃ m_179 : List Int, m_179 = List.set m_158 ((x_160).toNat) (IntKind.u8.wrap x_175) ∧ reliquaryref04_Block.L7 r0 m_75 m_103 kL7 m_179 (IntKind.i64.wrap (x_160 + 1)))))))))) ∨ (¬ (x_160 < 64) ∧ r0 = m_158))
def reliquaryref04_Block.L4 (r0 : List Int) (m_75 : List Int) : Nat → (List Int) → Int → Prop
  | 0, _, _ => False
  | kL4 + 1, m_103, x_105 => ((x_105 < 10 ∧ (∃ k_ : Nat, reliquaryref04_Block.L5 x_105 (reliquaryref04_Block.L4 r0 m_75 kL4) k_ m_103 0)) ∨ (¬ (x_105 < 10) ∧ (∃ k_ : Nat, reliquaryref04_Block.L7 r0 m_75 m_103 k_ (List.replicate 64 (0 : Int)) 0)))
def reliquaryref04_Block.L3 (l2 : List Int) (r0 : List Int) : Nat → (List Int) → Int → Prop
  | 0, _, _ => False
  | kL3 + 1, m_75, x_77 => ((x_77 < 3 ∧ (∃ (r_87 : Int), reliquaryref04_at.rel l2 (IntKind.i64.wrap (4 * x_77)) r_87 ∧ ((0 ≤ (IntKind.i64.wrap (13 + x_77)) ∧ (IntKind.i64.wrap (13 + x_77)) < (16 : Int)) ∧ (∃ m_90 : List Int, m_90 = List.set m_75 ((IntKind.i64.wrap (13 + x_77)).toNat) r_87 ∧ reliquaryref04_Block.L3 l2 r0 kL3 m_90 (IntKind.i64.wrap (x_77 + 1)))))) ∨ (¬ (x_77 < 3) ∧ (∃ k_ : Nat, reliquaryref04_Block.L4 r0 m_75 k_ m_75 0)))
def reliquaryref04_Block.L2 (l0 : List Int) (a1 : Int) (l2 : List Int) (r0 : List Int) : Nat → (List Int) → Int → Prop
  | 0, _, _ => False
  | kL2 + 1, m_49, x_51 => ((x_51 < 8 ∧ (∃ (r_61 : Int), reliquaryref04_at.rel l0 (IntKind.i64.wrap (4 * x_51)) r_61 ∧ ((0 ≤ (IntKind.i64.wrap (4 + x_51)) ∧ (IntKind.i64.wrap (4 + x_51)) < (16 : Int)) ∧ (∃ m_64 : List Int, m_64 = List.set m_49 ((IntKind.i64.wrap (4 + x_51)).toNat) r_61 ∧ reliquaryref04_Block.L2 l0 a1 l2 r0 kL2 m_64 (IntKind.i64.wrap (x_51 + 1)))))) ∨ (¬ (x_51 < 8) ∧ (∃ m_69 : List Int, m_69 = List.set m_49 12 a1 ∧ (∃ k_ : Nat, reliquaryref04_Block.L3 l2 r0 k_ m_69 0))))
def reliquaryref04_Block.L1 (l0 : List Int) (a1 : Int) (l2 : List Int) (r0 : List Int) : Nat → (List Int) → Int → Prop
  | 0, _, _ => False
  | kL1 + 1, m_28, x_30 => ((x_30 < 4 ∧ (∃ (r_40 : Int), reliquaryref04_at.rel [101, 120, 112, 97, 110, 100, 32, 51, 50, 45, 98, 121, 116, 101, 32, 107] (IntKind.i64.wrap (4 * x_30)) r_40 ∧ ((0 ≤ x_30 ∧ x_30 < (16 : Int)) ∧ (∃ m_43 : List Int, m_43 = List.set m_28 ((x_30).toNat) r_40 ∧ reliquaryref04_Block.L1 l0 a1 l2 r0 kL1 m_43 (IntKind.i64.wrap (x_30 + 1)))))) ∨ (¬ (x_30 < 4) ∧ (∃ k_ : Nat, reliquaryref04_Block.L2 l0 a1 l2 r0 k_ m_28 0)))
def reliquaryref04_Block.rel (l0 : List Int) (a1 : Int) (l2 : List Int) (r0 : List Int) : Prop := (∃ k_ : Nat, reliquaryref04_Block.L1 l0 a1 l2 r0 k_ (List.replicate 16 (0 : Int)) 0)
set_option maxHeartbeats 4000000 in
set_option maxRecDepth 100000 in
theorem reliquaryref04_Block.calls (w : World) (l0 : List Int) (a1 : Int) (l2 : List Int)   (hl0 : l0.length = 32) (hl2 : l2.length = 12) (r0 : List Int) (H : reliquaryref04_Block.rel l0 a1 l2 r0) :
    Calls Tryd.prog 32 #[.agg (iv .u8 l0).toArray, .int .u32 a1, .agg (iv .u8 l2).toArray] w fun e w' => r0.length = 64 ∧ e = .returned (.agg (iv .u8 r0).toArray) ∧ St w w' [] := by
  refine CW.enter Tryd.func32 rfl (n := 115) rfl [.agg (iv .u8 l0).toArray, .int .u32 a1, .agg (iv .u8 l2).toArray] (Nat.le_of_ble_eq_true rfl) ?_
  refine CW.sub [(0, .agg (iv .u8 l0).toArray), (1, .int .u32 a1), (2, .agg (iv .u8 l2).toArray)] ⟨rfl, rfl, rfl, trivial⟩ ?_
  have st0 : St w w [] := St.refl w
  refine CW.seq ?_
  refine CW.region ?_
  refine WL.box st0 rfl rfl ?_
  intro B_1 w_2 st_3
  replace st_3 : St w w_2 [.cells B_1 (iv .u8 l0) 23] := st_3
  refine WL.box st_3 rfl rfl ?_
  intro B_5 w_6 st_7
  replace st_7 : St w w_6 [.cells B_5 (iv .u8 l2) 47, .cells B_1 (iv .u8 l0) 23] := st_7
  refine WL.alloc st_7 arr60.zero ?_
  intro B_9 w_10 st_11
  replace st_11 : St w w_10 [.cells B_9 (iv .u8 (List.replicate 64 (0 : Int))) 60, .cells B_5 (iv .u8 l2) 47, .cells B_1 (iv .u8 l0) 23] := st_11
  refine WL.nil ?_
  refine QW.then_n ?_
  refine CW.seq ?_
  refine CW.region ?_
  refine WL.alloc st_11 arr67.zero ?_
  intro B_13 w_14 st_15
  replace st_15 : St w w_14 [.cells B_13 (iv .u32 (List.replicate 16 (0 : Int))) 67, .cells B_9 (iv .u8 (List.replicate 64 (0 : Int))) 60, .cells B_5 (iv .u8 l2) 47, .cells B_1 (iv .u8 l0) 23] := st_15
  refine WL.nil ?_
  refine QW.then_n ?_
  refine CW.seq ?_
  refine CW.region ?_
  refine WL.buildSl [.int .u8 101, .int .u8 120, .int .u8 112, .int .u8 97, .int .u8 110, .int .u8 100, .int .u8 32, .int .u8 51, .int .u8 50, .int .u8 45, .int .u8 98, .int .u8 121, .int .u8 116, .int .u8 101, .int .u8 32, .int .u8 107] st_15 Tryd.underlying26 elem5 rfl rfl (by decide) (by decide) (by simp [Value.cells]) ?_
  intro B_17 w_18 st_19
  replace st_19 : St w w_18 [.sl (some ⟨B_17, 0, none⟩) 16 16 (iv .u8 [101, 120, 112, 97, 110, 100, 32, 51, 50, 45, 98, 121, 116, 101, 32, 107]) 5 1, .cells B_13 (iv .u32 (List.replicate 16 (0 : Int))) 67, .cells B_9 (iv .u8 (List.replicate 64 (0 : Int))) 60, .cells B_5 (iv .u8 l2) 47, .cells B_1 (iv .u8 l0) 23] := st_19
  refine WL.mark (i := 0) st_19 rfl Tryd.underlying26 Tryd.underlying5 rfl ?_
  intro cs_21 w_22 h_23 h_24 h_25 st_26
  replace st_26 : St w w_22 [.obj B_17 (.cells cs_21.toArray 5 (16, 16 + 1)), .cells B_13 (iv .u32 (List.replicate 16 (0 : Int))) 67, .cells B_9 (iv .u8 (List.replicate 64 (0 : Int))) 60, .cells B_5 (iv .u8 l2) 47, .cells B_1 (iv .u8 l0) 23] := st_26
  refine WL.val Wanted.none (Runs.assign rfl) ?_
  refine WL.nil ?_
  refine QW.then_n ?_
  refine CW.seq ?_
  refine CW.seq ?_
  refine CW.region ?_
  refine WL.val Wanted.none (Runs.assign rfl) ?_
  refine WL.nil ?_
  refine QW.then_n ?_
  refine CW.block ?_
  obtain ⟨k_27, H⟩ := H
  refine CW.sub [(1, .int .u32 a1), (3, .pointer (some ⟨B_1, 0, none⟩)), (5, .pointer (some ⟨B_5, 0, none⟩)), (6, .pointer (some ⟨B_9, 0, none⟩)), (7, .pointer (some ⟨B_13, 0, none⟩)), (8, .slice (some ⟨B_17, 0, none⟩) 16 16), (9, .int .i64 0)] ⟨rfl, rfl, rfl, rfl, rfl, rfl, rfl, trivial⟩ ?_
  refine CW.loop (fun kL1 l_ w_ => ∃ (m_28 : List Int) (x_30 : Int), l_ = [(1, .int .u32 a1), (3, .pointer (some ⟨B_1, 0, none⟩)), (5, .pointer (some ⟨B_5, 0, none⟩)), (6, .pointer (some ⟨B_9, 0, none⟩)), (7, .pointer (some ⟨B_13, 0, none⟩)), (8, .slice (some ⟨B_17, 0, none⟩) 16 16), (9, .int .i64 x_30)] ∧ reliquaryref04_Block.L1 l0 a1 l2 r0 kL1 m_28 x_30 ∧ (m_28.length = 16) ∧ St w w_ [.obj B_17 (.cells cs_21.toArray 5 (16, 16 + 1)), .cells B_13 (iv .u32 m_28) 67, .cells B_9 (iv .u8 (List.replicate 64 (0 : Int))) 60, .cells B_5 (iv .u8 l2) 47, .cells B_1 (iv .u8 l0) 23]) (k := k_27) ⟨List.replicate 16 (0 : Int), 0, rfl, H, (List.length_replicate ..), st_26⟩ (fun _ _ h => by obtain ⟨_, _, _, h, _⟩ := h; exact h.elim) ?_
  rintro kL1 l_33 w_31 ⟨m_28, x_30, rfl, H, hl_29, st_32⟩
  refine CW.seq ?_
  refine CW.seq ?_
  refine CW.region ?_
  refine WL.val Wanted.none (Runs.move rfl) ?_
  refine WL.val Wanted.none (Runs.lss rfl rfl rfl) ?_
  refine WL.nil ?_
  refine QW.then_n ?_
  rcases H with ⟨c_34, H⟩ | ⟨c_34, H⟩
  · have h_35 : (decide (x_30 < 4)) = true := (decide_eq_true c_34)
    refine CW.ct rfl h_35 ?_
    refine CW.skip ?_
    refine QW.then_n ?_
    refine CW.seq ?_
    refine CW.block ?_
    refine CW.region ?_
    refine WL.val Wanted.none (Runs.move rfl) ?_
    refine WL.val Wanted.none (Runs.move rfl) ?_
    refine WL.val Wanted.none (Runs.move rfl) ?_
    refine WL.val Wanted.none (Runs.mul rfl rfl rfl) ?_
    obtain ⟨r_40, hr_36, H⟩ := H
    refine WL.call Wanted.none ent39 rfl (reliquaryref04_at.calls w_31 [101, 120, 112, 97, 110, 100, 32, 51, 50, 45, 98, 121, 116, 101, 32, 107] (IntKind.i64.wrap (4 * x_30)) (some ⟨B_17, 0, none⟩) 16 16 (st_32.src_obj (i := 0) rfl h_25) (rfl) (h_23) r_40 hr_36) ?_
    rintro _ w_37 ⟨rfl, sc_39⟩
    have st_38 : St w w_37 [.obj B_17 (.cells cs_21.toArray 5 (16, 16 + 1)), .cells B_13 (iv .u32 m_28) 67, .cells B_9 (iv .u8 (List.replicate 64 (0 : Int))) 60, .cells B_5 (iv .u8 l2) 47, .cells B_1 (iv .u8 l0) 23] := st_32.call sc_39
    refine ⟨_, rfl, ?_⟩
    obtain ⟨⟨p_41, q_42⟩, H⟩ := H
    refine WL.val Wanted.none (Runs.indexAddr_blk arr67 rfl rfl p_41 q_42 (o := (x_30).toNat) (by first | rfl | omega)) ?_
    obtain ⟨m_43, e_44, H⟩ := H
    have hl_47 : m_43.length = 16 := by rw [e_44, List.length_set]; exact hl_29
    refine WL.store_cells (i := 1) st_38 rfl cells24 rfl (by rw [iv_length]; have := hl_29; omega) rfl rfl ?_
    intro w_45 st_46
    have st_46' : St w w_45 [.obj B_17 (.cells cs_21.toArray 5 (16, 16 + 1)), .cells B_13 (iv .u32 m_43) 67, .cells B_9 (iv .u8 (List.replicate 64 (0 : Int))) 60, .cells B_5 (iv .u8 l2) 47, .cells B_1 (iv .u8 l0) 23] := by rw [e_44, ← iv_set .u32 m_28 ((x_30).toNat) r_40]; exact st_46
    refine WL.nil ?_
    refine QW.blk_n ?_
    refine QW.then_n ?_
    refine CW.region ?_
    refine WL.val Wanted.none (Runs.move rfl) ?_
    refine WL.val Wanted.none (Runs.add rfl rfl rfl) ?_
    refine WL.val Wanted.none (Runs.assign rfl) ?_
    refine WL.nil ?_
    exact QW.at [(1, .int .u32 a1), (3, .pointer (some ⟨B_1, 0, none⟩)), (5, .pointer (some ⟨B_5, 0, none⟩)), (6, .pointer (some ⟨B_9, 0, none⟩)), (7, .pointer (some ⟨B_13, 0, none⟩)), (8, .slice (some ⟨B_17, 0, none⟩) 16 16), (9, .int .i64 (IntKind.i64.wrap (x_30 + 1)))] ⟨rfl, rfl, rfl, rfl, rfl, rfl, rfl, trivial⟩ ⟨m_43, IntKind.i64.wrap (x_30 + 1), rfl, H, hl_47, st_46'⟩
  · have h_35 : (decide (x_30 < 4)) = false := (decide_eq_false c_34)
    refine CW.cf rfl h_35 ?_
    refine CW.exit ?_
    refine QW.then_x ?_
    refine QW.then_x ?_
    refine QW.blk_x ?_
    refine QW.then_n ?_
    refine CW.seq ?_
    refine CW.seq ?_
    refine CW.region ?_
    refine WL.val Wanted.none (Runs.assign rfl) ?_
    refine WL.nil ?_
    refine QW.then_n ?_
    refine CW.block ?_
    obtain ⟨k_48, H⟩ := H
    refine CW.sub [(1, .int .u32 a1), (3, .pointer (some ⟨B_1, 0, none⟩)), (5, .pointer (some ⟨B_5, 0, none⟩)), (6, .pointer (some ⟨B_9, 0, none⟩)), (7, .pointer (some ⟨B_13, 0, none⟩)), (10, .int .i64 0)] ⟨rfl, rfl, rfl, rfl, rfl, rfl, trivial⟩ ?_
    refine CW.loop (fun kL2 l_ w_ => ∃ (m_49 : List Int) (x_51 : Int), l_ = [(1, .int .u32 a1), (3, .pointer (some ⟨B_1, 0, none⟩)), (5, .pointer (some ⟨B_5, 0, none⟩)), (6, .pointer (some ⟨B_9, 0, none⟩)), (7, .pointer (some ⟨B_13, 0, none⟩)), (10, .int .i64 x_51)] ∧ reliquaryref04_Block.L2 l0 a1 l2 r0 kL2 m_49 x_51 ∧ (m_49.length = 16) ∧ St w w_ [.obj B_17 (.cells cs_21.toArray 5 (16, 16 + 1)), .cells B_13 (iv .u32 m_49) 67, .cells B_9 (iv .u8 (List.replicate 64 (0 : Int))) 60, .cells B_5 (iv .u8 l2) 47, .cells B_1 (iv .u8 l0) 23]) (k := k_48) ⟨m_28, 0, rfl, H, hl_29, st_32⟩ (fun _ _ h => by obtain ⟨_, _, _, h, _⟩ := h; exact h.elim) ?_
    rintro kL2 l_54 w_52 ⟨m_49, x_51, rfl, H, hl_50, st_53⟩
    refine CW.seq ?_
    refine CW.seq ?_
    refine CW.region ?_
    refine WL.val Wanted.none (Runs.move rfl) ?_
    refine WL.val Wanted.none (Runs.lss rfl rfl rfl) ?_
    refine WL.nil ?_
    refine QW.then_n ?_
    rcases H with ⟨c_55, H⟩ | ⟨c_55, H⟩
    · have h_56 : (decide (x_51 < 8)) = true := (decide_eq_true c_55)
      refine CW.ct rfl h_56 ?_
      refine CW.skip ?_
      refine QW.then_n ?_
      refine CW.seq ?_
      refine CW.block ?_
      refine CW.region ?_
      refine WL.val Wanted.none (Runs.move rfl) ?_
      refine WL.val Wanted.none (Runs.add rfl rfl rfl) ?_
      refine WL.val Wanted.none (Runs.slice_arr arr23 rfl (by decide)) ?_
      refine WL.val Wanted.none (Runs.move rfl) ?_
      refine WL.val Wanted.none (Runs.mul rfl rfl rfl) ?_
      obtain ⟨r_61, hr_57, H⟩ := H
      refine WL.call Wanted.none ent39 rfl (reliquaryref04_at.calls w_52 l0 (IntKind.i64.wrap (4 * x_51)) (some ⟨B_1, 0, none⟩) 32 32 (st_53.src_blk (i := 4) rfl) ((hl0).symm) (Nat.le_refl _) r_61 hr_57) ?_
      rintro _ w_58 ⟨rfl, sc_60⟩
      have st_59 : St w w_58 [.obj B_17 (.cells cs_21.toArray 5 (16, 16 + 1)), .cells B_13 (iv .u32 m_49) 67, .cells B_9 (iv .u8 (List.replicate 64 (0 : Int))) 60, .cells B_5 (iv .u8 l2) 47, .cells B_1 (iv .u8 l0) 23] := st_53.call sc_60
      refine ⟨_, rfl, ?_⟩
      obtain ⟨⟨p_62, q_63⟩, H⟩ := H
      refine WL.val Wanted.none (Runs.indexAddr_blk arr67 rfl rfl p_62 q_63 (o := (IntKind.i64.wrap (4 + x_51)).toNat) (by first | rfl | omega)) ?_
      obtain ⟨m_64, e_65, H⟩ := H
      have hl_68 : m_64.length = 16 := by rw [e_65, List.length_set]; exact hl_50
      refine WL.store_cells (i := 1) st_59 rfl cells24 rfl (by rw [iv_length]; have := hl_50; omega) rfl rfl ?_
      intro w_66 st_67
      have st_67' : St w w_66 [.obj B_17 (.cells cs_21.toArray 5 (16, 16 + 1)), .cells B_13 (iv .u32 m_64) 67, .cells B_9 (iv .u8 (List.replicate 64 (0 : Int))) 60, .cells B_5 (iv .u8 l2) 47, .cells B_1 (iv .u8 l0) 23] := by rw [e_65, ← iv_set .u32 m_49 ((IntKind.i64.wrap (4 + x_51)).toNat) r_61]; exact st_67
      refine WL.nil ?_
      refine QW.blk_n ?_
      refine QW.then_n ?_
      refine CW.region ?_
      refine WL.val Wanted.none (Runs.move rfl) ?_
      refine WL.val Wanted.none (Runs.add rfl rfl rfl) ?_
      refine WL.val Wanted.none (Runs.assign rfl) ?_
      refine WL.nil ?_
      exact QW.at [(1, .int .u32 a1), (3, .pointer (some ⟨B_1, 0, none⟩)), (5, .pointer (some ⟨B_5, 0, none⟩)), (6, .pointer (some ⟨B_9, 0, none⟩)), (7, .pointer (some ⟨B_13, 0, none⟩)), (10, .int .i64 (IntKind.i64.wrap (x_51 + 1)))] ⟨rfl, rfl, rfl, rfl, rfl, rfl, trivial⟩ ⟨m_64, IntKind.i64.wrap (x_51 + 1), rfl, H, hl_68, st_67'⟩
    · have h_56 : (decide (x_51 < 8)) = false := (decide_eq_false c_55)
      refine CW.cf rfl h_56 ?_
      refine CW.exit ?_
      refine QW.then_x ?_
      refine QW.then_x ?_
      refine QW.blk_x ?_
      refine QW.then_n ?_
      refine CW.seq ?_
      refine CW.region ?_
      refine WL.val Wanted.none (Runs.move rfl) ?_
      refine WL.val Wanted.none (Runs.indexAddr_blk arr67 rfl rfl (by decide) (by decide) (o := 12) (by first | rfl | omega)) ?_
      obtain ⟨m_69, e_70, H⟩ := H
      have hl_73 : m_69.length = 16 := by rw [e_70, List.length_set]; exact hl_50
      refine WL.store_cells (i := 1) st_53 rfl cells24 rfl (by rw [iv_length]; have := hl_50; omega) rfl rfl ?_
      intro w_71 st_72
      have st_72' : St w w_71 [.obj B_17 (.cells cs_21.toArray 5 (16, 16 + 1)), .cells B_13 (iv .u32 m_69) 67, .cells B_9 (iv .u8 (List.replicate 64 (0 : Int))) 60, .cells B_5 (iv .u8 l2) 47, .cells B_1 (iv .u8 l0) 23] := by rw [e_70, ← iv_set .u32 m_49 12 a1]; exact st_72
      refine WL.nil ?_
      refine QW.then_n ?_
      refine CW.sub [(5, .pointer (some ⟨B_5, 0, none⟩)), (6, .pointer (some ⟨B_9, 0, none⟩)), (7, .pointer (some ⟨B_13, 0, none⟩))] ⟨rfl, rfl, rfl, trivial⟩ ?_
      refine CW.seq ?_
      refine CW.seq ?_
      refine CW.region ?_
      refine WL.val Wanted.none (Runs.assign rfl) ?_
      refine WL.nil ?_
      refine QW.then_n ?_
      refine CW.block ?_
      obtain ⟨k_74, H⟩ := H
      refine CW.sub [(5, .pointer (some ⟨B_5, 0, none⟩)), (6, .pointer (some ⟨B_9, 0, none⟩)), (7, .pointer (some ⟨B_13, 0, none⟩)), (11, .int .i64 0)] ⟨rfl, rfl, rfl, rfl, trivial⟩ ?_
      refine CW.loop (fun kL3 l_ w_ => ∃ (m_75 : List Int) (x_77 : Int), l_ = [(5, .pointer (some ⟨B_5, 0, none⟩)), (6, .pointer (some ⟨B_9, 0, none⟩)), (7, .pointer (some ⟨B_13, 0, none⟩)), (11, .int .i64 x_77)] ∧ reliquaryref04_Block.L3 l2 r0 kL3 m_75 x_77 ∧ (m_75.length = 16) ∧ St w w_ [.obj B_17 (.cells cs_21.toArray 5 (16, 16 + 1)), .cells B_13 (iv .u32 m_75) 67, .cells B_9 (iv .u8 (List.replicate 64 (0 : Int))) 60, .cells B_5 (iv .u8 l2) 47, .cells B_1 (iv .u8 l0) 23]) (k := k_74) ⟨m_69, 0, rfl, H, hl_73, st_72'⟩ (fun _ _ h => by obtain ⟨_, _, _, h, _⟩ := h; exact h.elim) ?_
      rintro kL3 l_80 w_78 ⟨m_75, x_77, rfl, H, hl_76, st_79⟩
      refine CW.seq ?_
      refine CW.seq ?_
      refine CW.region ?_
      refine WL.val Wanted.none (Runs.move rfl) ?_
      refine WL.val Wanted.none (Runs.lss rfl rfl rfl) ?_
      refine WL.nil ?_
      refine QW.then_n ?_
      rcases H with ⟨c_81, H⟩ | ⟨c_81, H⟩
      · have h_82 : (decide (x_77 < 3)) = true := (decide_eq_true c_81)
        refine CW.ct rfl h_82 ?_
        refine CW.skip ?_
        refine QW.then_n ?_
        refine CW.seq ?_
        refine CW.block ?_
        refine CW.region ?_
        refine WL.val Wanted.none (Runs.move rfl) ?_
        refine WL.val Wanted.none (Runs.add rfl rfl rfl) ?_
        refine WL.val Wanted.none (Runs.slice_arr arr47 rfl (by decide)) ?_
        refine WL.val Wanted.none (Runs.move rfl) ?_
        refine WL.val Wanted.none (Runs.mul rfl rfl rfl) ?_
        obtain ⟨r_87, hr_83, H⟩ := H
        refine WL.call Wanted.none ent39 rfl (reliquaryref04_at.calls w_78 l2 (IntKind.i64.wrap (4 * x_77)) (some ⟨B_5, 0, none⟩) 12 12 (st_79.src_blk (i := 3) rfl) ((hl2).symm) (Nat.le_refl _) r_87 hr_83) ?_
        rintro _ w_84 ⟨rfl, sc_86⟩
        have st_85 : St w w_84 [.obj B_17 (.cells cs_21.toArray 5 (16, 16 + 1)), .cells B_13 (iv .u32 m_75) 67, .cells B_9 (iv .u8 (List.replicate 64 (0 : Int))) 60, .cells B_5 (iv .u8 l2) 47, .cells B_1 (iv .u8 l0) 23] := st_79.call sc_86
        refine ⟨_, rfl, ?_⟩
        obtain ⟨⟨p_88, q_89⟩, H⟩ := H
        refine WL.val Wanted.none (Runs.indexAddr_blk arr67 rfl rfl p_88 q_89 (o := (IntKind.i64.wrap (13 + x_77)).toNat) (by first | rfl | omega)) ?_
        obtain ⟨m_90, e_91, H⟩ := H
        have hl_94 : m_90.length = 16 := by rw [e_91, List.length_set]; exact hl_76
        refine WL.store_cells (i := 1) st_85 rfl cells24 rfl (by rw [iv_length]; have := hl_76; omega) rfl rfl ?_
        intro w_92 st_93
        have st_93' : St w w_92 [.obj B_17 (.cells cs_21.toArray 5 (16, 16 + 1)), .cells B_13 (iv .u32 m_90) 67, .cells B_9 (iv .u8 (List.replicate 64 (0 : Int))) 60, .cells B_5 (iv .u8 l2) 47, .cells B_1 (iv .u8 l0) 23] := by rw [e_91, ← iv_set .u32 m_75 ((IntKind.i64.wrap (13 + x_77)).toNat) r_87]; exact st_93
        refine WL.nil ?_
        refine QW.blk_n ?_
        refine QW.then_n ?_
        refine CW.region ?_
        refine WL.val Wanted.none (Runs.move rfl) ?_
        refine WL.val Wanted.none (Runs.add rfl rfl rfl) ?_
        refine WL.val Wanted.none (Runs.assign rfl) ?_
        refine WL.nil ?_
        exact QW.at [(5, .pointer (some ⟨B_5, 0, none⟩)), (6, .pointer (some ⟨B_9, 0, none⟩)), (7, .pointer (some ⟨B_13, 0, none⟩)), (11, .int .i64 (IntKind.i64.wrap (x_77 + 1)))] ⟨rfl, rfl, rfl, rfl, trivial⟩ ⟨m_90, IntKind.i64.wrap (x_77 + 1), rfl, H, hl_94, st_93'⟩
      · have h_82 : (decide (x_77 < 3)) = false := (decide_eq_false c_81)
        refine CW.cf rfl h_82 ?_
        refine CW.exit ?_
        refine QW.then_x ?_
        refine QW.then_x ?_
        refine QW.blk_x ?_
        refine QW.then_n ?_
        refine CW.seq ?_
        refine CW.region ?_
        refine WL.val Wanted.none (Runs.load_arr arr67 rfl (st_79.blk (i := 1) rfl) hl_76) ?_
        refine WL.alloc st_79 arr67.zero ?_
        intro B_95 w_96 st_97
        replace st_97 : St w w_96 [.cells B_95 (iv .u32 (List.replicate 16 (0 : Int))) 67, .obj B_17 (.cells cs_21.toArray 5 (16, 16 + 1)), .cells B_13 (iv .u32 m_75) 67, .cells B_9 (iv .u8 (List.replicate 64 (0 : Int))) 60, .cells B_5 (iv .u8 l2) 47, .cells B_1 (iv .u8 l0) 23] := st_97
        refine WL.store_arr (i := 0) st_97 rfl arr67 rfl (by rw [iv_length]; exact (List.length_replicate ..)) hl_76 rfl ?_
        intro w_99 st_100
        replace st_100 : St w w_99 [.cells B_95 (iv .u32 m_75) 67, .obj B_17 (.cells cs_21.toArray 5 (16, 16 + 1)), .cells B_13 (iv .u32 m_75) 67, .cells B_9 (iv .u8 (List.replicate 64 (0 : Int))) 60, .cells B_5 (iv .u8 l2) 47, .cells B_1 (iv .u8 l0) 23] := st_100
        refine WL.nil ?_
        refine QW.then_n ?_
        refine CW.seq ?_
        refine CW.seq ?_
        refine CW.region ?_
        refine WL.val Wanted.none (Runs.assign rfl) ?_
        refine WL.nil ?_
        refine QW.then_n ?_
        refine CW.block ?_
        obtain ⟨k_102, H⟩ := H
        refine CW.sub [(6, .pointer (some ⟨B_9, 0, none⟩)), (7, .pointer (some ⟨B_13, 0, none⟩)), (12, .pointer (some ⟨B_95, 0, none⟩)), (13, .int .i64 0)] ⟨rfl, rfl, rfl, rfl, trivial⟩ ?_
        refine CW.loop (fun kL4 l_ w_ => ∃ (m_103 : List Int) (x_105 : Int), l_ = [(6, .pointer (some ⟨B_9, 0, none⟩)), (7, .pointer (some ⟨B_13, 0, none⟩)), (12, .pointer (some ⟨B_95, 0, none⟩)), (13, .int .i64 x_105)] ∧ reliquaryref04_Block.L4 r0 m_75 kL4 m_103 x_105 ∧ (m_103.length = 16) ∧ St w w_ [.cells B_95 (iv .u32 m_103) 67, .obj B_17 (.cells cs_21.toArray 5 (16, 16 + 1)), .cells B_13 (iv .u32 m_75) 67, .cells B_9 (iv .u8 (List.replicate 64 (0 : Int))) 60, .cells B_5 (iv .u8 l2) 47, .cells B_1 (iv .u8 l0) 23]) (k := k_102) ⟨m_75, 0, rfl, H, hl_76, st_100⟩ (fun _ _ h => by obtain ⟨_, _, _, h, _⟩ := h; exact h.elim) ?_
        rintro kL4 l_108 w_106 ⟨m_103, x_105, rfl, H, hl_104, st_107⟩
        refine CW.seq ?_
        refine CW.seq ?_
        refine CW.region ?_
        refine WL.val Wanted.none (Runs.move rfl) ?_
        refine WL.val Wanted.none (Runs.lss rfl rfl rfl) ?_
        refine WL.nil ?_
        refine QW.then_n ?_
        rcases H with ⟨c_109, H⟩ | ⟨c_109, H⟩
        · have h_110 : (decide (x_105 < 10)) = true := (decide_eq_true c_109)
          refine CW.ct rfl h_110 ?_
          refine CW.skip ?_
          refine QW.then_n ?_
          refine CW.seq ?_
          refine CW.block ?_
          refine CW.seq ?_
          refine CW.seq ?_
          refine CW.region ?_
          refine WL.val Wanted.none (Runs.assign rfl) ?_
          refine WL.nil ?_
          refine QW.then_n ?_
          refine CW.block ?_
          obtain ⟨k_111, H⟩ := H
          refine CW.sub [(6, .pointer (some ⟨B_9, 0, none⟩)), (7, .pointer (some ⟨B_13, 0, none⟩)), (12, .pointer (some ⟨B_95, 0, none⟩)), (13, .int .i64 x_105), (56, .int .i64 x_105), (57, .bool (decide (x_105 < 10))), (14, .int .i64 0)] ⟨rfl, rfl, rfl, rfl, rfl, rfl, rfl, trivial⟩ ?_
          refine CW.loop (fun kL5 l_ w_ => ∃ (m_112 : List Int) (x_114 : Int), l_ = [(6, .pointer (some ⟨B_9, 0, none⟩)), (7, .pointer (some ⟨B_13, 0, none⟩)), (12, .pointer (some ⟨B_95, 0, none⟩)), (13, .int .i64 x_105), (56, .int .i64 x_105), (57, .bool (decide (x_105 < 10))), (14, .int .i64 x_114)] ∧ reliquaryref04_Block.L5 x_105 (reliquaryref04_Block.L4 r0 m_75 kL4) kL5 m_112 x_114 ∧ (m_112.length = 16) ∧ St w w_ [.cells B_95 (iv .u32 m_112) 67, .obj B_17 (.cells cs_21.toArray 5 (16, 16 + 1)), .cells B_13 (iv .u32 m_75) 67, .cells B_9 (iv .u8 (List.replicate 64 (0 : Int))) 60, .cells B_5 (iv .u8 l2) 47, .cells B_1 (iv .u8 l0) 23]) (k := k_111) ⟨m_103, 0, rfl, H, hl_104, st_107⟩ (fun _ _ h => by obtain ⟨_, _, _, h, _⟩ := h; exact h.elim) ?_
          rintro kL5 l_117 w_115 ⟨m_112, x_114, rfl, H, hl_113, st_116⟩
          refine CW.seq ?_
          refine CW.seq ?_
          refine CW.region ?_
          refine WL.val Wanted.none (Runs.move rfl) ?_
          refine WL.val Wanted.none (Runs.lss rfl rfl rfl) ?_
          refine WL.nil ?_
          refine QW.then_n ?_
          rcases H with ⟨c_118, H⟩ | ⟨c_118, H⟩
          · have h_119 : (decide (x_114 < 4)) = true := (decide_eq_true c_118)
            refine CW.ct rfl h_119 ?_
            refine CW.skip ?_
            refine QW.then_n ?_
            refine CW.seq ?_
            refine CW.block ?_
            refine CW.region ?_
            refine WL.val Wanted.none (Runs.load_arr arr67 rfl (st_116.blk (i := 0) rfl) hl_113) ?_
            refine WL.val Wanted.none (Runs.move rfl) ?_
            refine WL.val Wanted.none (Runs.move rfl) ?_
            refine WL.val Wanted.none (Runs.add rfl rfl rfl) ?_
            refine WL.val Wanted.none (Runs.move rfl) ?_
            refine WL.val Wanted.none (Runs.add rfl rfl rfl) ?_
            refine WL.val Wanted.none (Runs.move rfl) ?_
            refine WL.val Wanted.none (Runs.add rfl rfl rfl) ?_
            obtain ⟨r_124, hr_120, H⟩ := H
            refine WL.call Wanted.none ent40 rfl (reliquaryref04_quarter.calls w_115 m_112 x_114 (IntKind.i64.wrap (4 + x_114)) (IntKind.i64.wrap (8 + x_114)) (IntKind.i64.wrap (12 + x_114)) hl_113 r_124 hr_120) ?_
            rintro _ w_121 ⟨hl_125, rfl, sc_123⟩
            have st_122 : St w w_121 [.cells B_95 (iv .u32 m_112) 67, .obj B_17 (.cells cs_21.toArray 5 (16, 16 + 1)), .cells B_13 (iv .u32 m_75) 67, .cells B_9 (iv .u8 (List.replicate 64 (0 : Int))) 60, .cells B_5 (iv .u8 l2) 47, .cells B_1 (iv .u8 l0) 23] := st_116.call sc_123
            refine ⟨_, rfl, ?_⟩
            refine WL.store_arr (i := 0) st_122 rfl arr67 rfl (by rw [iv_length]; exact hl_113) hl_125 rfl ?_
            intro w_126 st_127
            replace st_127 : St w w_126 [.cells B_95 (iv .u32 r_124) 67, .obj B_17 (.cells cs_21.toArray 5 (16, 16 + 1)), .cells B_13 (iv .u32 m_75) 67, .cells B_9 (iv .u8 (List.replicate 64 (0 : Int))) 60, .cells B_5 (iv .u8 l2) 47, .cells B_1 (iv .u8 l0) 23] := st_127
            refine WL.nil ?_
            refine QW.blk_n ?_
            refine QW.then_n ?_
            refine CW.region ?_
            refine WL.val Wanted.none (Runs.move rfl) ?_
            refine WL.val Wanted.none (Runs.add rfl rfl rfl) ?_
            refine WL.val Wanted.none (Runs.assign rfl) ?_
            refine WL.nil ?_
            exact QW.at [(6, .pointer (some ⟨B_9, 0, none⟩)), (7, .pointer (some ⟨B_13, 0, none⟩)), (12, .pointer (some ⟨B_95, 0, none⟩)), (13, .int .i64 x_105), (56, .int .i64 x_105), (57, .bool (decide (x_105 < 10))), (14, .int .i64 (IntKind.i64.wrap (x_114 + 1)))] ⟨rfl, rfl, rfl, rfl, rfl, rfl, rfl, trivial⟩ ⟨r_124, IntKind.i64.wrap (x_114 + 1), rfl, H, hl_125, st_127⟩
          · have h_119 : (decide (x_114 < 4)) = false := (decide_eq_false c_118)
            refine CW.cf rfl h_119 ?_
            refine CW.exit ?_
            refine QW.then_x ?_
            refine QW.then_x ?_
            refine QW.blk_x ?_
            refine QW.then_n ?_
            refine CW.seq ?_
            refine CW.region ?_
            refine WL.val Wanted.none (Runs.assign rfl) ?_
            refine WL.nil ?_
            refine QW.then_n ?_
            refine CW.block ?_
            obtain ⟨k_129, H⟩ := H
            refine CW.sub [(6, .pointer (some ⟨B_9, 0, none⟩)), (7, .pointer (some ⟨B_13, 0, none⟩)), (12, .pointer (some ⟨B_95, 0, none⟩)), (13, .int .i64 x_105), (56, .int .i64 x_105), (57, .bool (decide (x_105 < 10))), (14, .int .i64 x_114), (60, .int .i64 x_114), (61, .bool (decide (x_114 < 4))), (15, .int .i64 0)] ⟨rfl, rfl, rfl, rfl, rfl, rfl, rfl, rfl, rfl, rfl, trivial⟩ ?_
            refine CW.loop (fun kL6 l_ w_ => ∃ (m_130 : List Int) (x_132 : Int), l_ = [(6, .pointer (some ⟨B_9, 0, none⟩)), (7, .pointer (some ⟨B_13, 0, none⟩)), (12, .pointer (some ⟨B_95, 0, none⟩)), (13, .int .i64 x_105), (56, .int .i64 x_105), (57, .bool (decide (x_105 < 10))), (14, .int .i64 x_114), (60, .int .i64 x_114), (61, .bool (decide (x_114 < 4))), (15, .int .i64 x_132)] ∧ reliquaryref04_Block.L6 x_105 (reliquaryref04_Block.L4 r0 m_75 kL4) kL6 m_130 x_132 ∧ (m_130.length = 16) ∧ St w w_ [.cells B_95 (iv .u32 m_130) 67, .obj B_17 (.cells cs_21.toArray 5 (16, 16 + 1)), .cells B_13 (iv .u32 m_75) 67, .cells B_9 (iv .u8 (List.replicate 64 (0 : Int))) 60, .cells B_5 (iv .u8 l2) 47, .cells B_1 (iv .u8 l0) 23]) (k := k_129) ⟨m_112, 0, rfl, H, hl_113, st_116⟩ (fun _ _ h => by obtain ⟨_, _, _, h, _⟩ := h; exact h.elim) ?_
            rintro kL6 l_135 w_133 ⟨m_130, x_132, rfl, H, hl_131, st_134⟩
            refine CW.seq ?_
            refine CW.seq ?_
            refine CW.region ?_
            refine WL.val Wanted.none (Runs.move rfl) ?_
            refine WL.val Wanted.none (Runs.lss rfl rfl rfl) ?_
            refine WL.nil ?_
            refine QW.then_n ?_
            rcases H with ⟨c_136, H⟩ | ⟨c_136, H⟩
            · have h_137 : (decide (x_132 < 4)) = true := (decide_eq_true c_136)
              refine CW.ct rfl h_137 ?_
              refine CW.skip ?_
              refine QW.then_n ?_
              refine CW.seq ?_
              refine CW.block ?_
              refine CW.region ?_
              refine WL.val Wanted.none (Runs.load_arr arr67 rfl (st_134.blk (i := 0) rfl) hl_131) ?_
              refine WL.val Wanted.none (Runs.move rfl) ?_
              refine WL.val Wanted.none (Runs.move rfl) ?_
              refine WL.val Wanted.none (Runs.add rfl rfl rfl) ?_
              refine WL.val Wanted.none (Runs.rem rfl rfl (by decide) rfl) ?_
              obtain ⟨x_138, e_139, H⟩ := H
              refine WL.val Wanted.none (Runs.add rfl rfl e_139) ?_
              refine WL.val Wanted.none (Runs.move rfl) ?_
              refine WL.val Wanted.none (Runs.add rfl rfl rfl) ?_
              refine WL.val Wanted.none (Runs.rem rfl rfl (by decide) rfl) ?_
              obtain ⟨x_140, e_141, H⟩ := H
              refine WL.val Wanted.none (Runs.add rfl rfl e_141) ?_
              refine WL.val Wanted.none (Runs.move rfl) ?_
              refine WL.val Wanted.none (Runs.add rfl rfl rfl) ?_
              refine WL.val Wanted.none (Runs.rem rfl rfl (by decide) rfl) ?_
              obtain ⟨x_142, e_143, H⟩ := H
              refine WL.val Wanted.none (Runs.add rfl rfl e_143) ?_
              obtain ⟨r_148, hr_144, H⟩ := H
              refine WL.call Wanted.none ent40 rfl (reliquaryref04_quarter.calls w_133 m_130 x_132 x_138 x_140 x_142 hl_131 r_148 hr_144) ?_
              rintro _ w_145 ⟨hl_149, rfl, sc_147⟩
              have st_146 : St w w_145 [.cells B_95 (iv .u32 m_130) 67, .obj B_17 (.cells cs_21.toArray 5 (16, 16 + 1)), .cells B_13 (iv .u32 m_75) 67, .cells B_9 (iv .u8 (List.replicate 64 (0 : Int))) 60, .cells B_5 (iv .u8 l2) 47, .cells B_1 (iv .u8 l0) 23] := st_134.call sc_147
              refine ⟨_, rfl, ?_⟩
              refine WL.store_arr (i := 0) st_146 rfl arr67 rfl (by rw [iv_length]; exact hl_131) hl_149 rfl ?_
              intro w_150 st_151
              replace st_151 : St w w_150 [.cells B_95 (iv .u32 r_148) 67, .obj B_17 (.cells cs_21.toArray 5 (16, 16 + 1)), .cells B_13 (iv .u32 m_75) 67, .cells B_9 (iv .u8 (List.replicate 64 (0 : Int))) 60, .cells B_5 (iv .u8 l2) 47, .cells B_1 (iv .u8 l0) 23] := st_151
              refine WL.nil ?_
              refine QW.blk_n ?_
              refine QW.then_n ?_
              refine CW.region ?_
              refine WL.val Wanted.none (Runs.move rfl) ?_
              refine WL.val Wanted.none (Runs.add rfl rfl rfl) ?_
              refine WL.val Wanted.none (Runs.assign rfl) ?_
              refine WL.nil ?_
              exact QW.at [(6, .pointer (some ⟨B_9, 0, none⟩)), (7, .pointer (some ⟨B_13, 0, none⟩)), (12, .pointer (some ⟨B_95, 0, none⟩)), (13, .int .i64 x_105), (56, .int .i64 x_105), (57, .bool (decide (x_105 < 10))), (14, .int .i64 x_114), (60, .int .i64 x_114), (61, .bool (decide (x_114 < 4))), (15, .int .i64 (IntKind.i64.wrap (x_132 + 1)))] ⟨rfl, rfl, rfl, rfl, rfl, rfl, rfl, rfl, rfl, rfl, trivial⟩ ⟨r_148, IntKind.i64.wrap (x_132 + 1), rfl, H, hl_149, st_151⟩
            · have h_137 : (decide (x_132 < 4)) = false := (decide_eq_false c_136)
              refine CW.cf rfl h_137 ?_
              refine CW.exit ?_
              refine QW.then_x ?_
              refine QW.then_x ?_
              refine QW.blk_x ?_
              refine QW.blk_n ?_
              refine QW.then_n ?_
              refine CW.region ?_
              refine WL.val Wanted.none (Runs.move rfl) ?_
              refine WL.val Wanted.none (Runs.add rfl rfl rfl) ?_
              refine WL.val Wanted.none (Runs.assign rfl) ?_
              refine WL.nil ?_
              exact QW.at [(6, .pointer (some ⟨B_9, 0, none⟩)), (7, .pointer (some ⟨B_13, 0, none⟩)), (12, .pointer (some ⟨B_95, 0, none⟩)), (13, .int .i64 (IntKind.i64.wrap (x_105 + 1)))] ⟨rfl, rfl, rfl, rfl, trivial⟩ ⟨m_130, IntKind.i64.wrap (x_105 + 1), rfl, H, hl_131, st_134⟩
        · have h_110 : (decide (x_105 < 10)) = false := (decide_eq_false c_109)
          refine CW.cf rfl h_110 ?_
          refine CW.exit ?_
          refine QW.then_x ?_
          refine QW.then_x ?_
          refine QW.blk_x ?_
          refine QW.then_n ?_
          refine CW.seq ?_
          refine CW.region ?_
          refine WL.alloc st_107 arr60.zero ?_
          intro B_153 w_154 st_155
          replace st_155 : St w w_154 [.cells B_153 (iv .u8 (List.replicate 64 (0 : Int))) 60, .cells B_95 (iv .u32 m_103) 67, .obj B_17 (.cells cs_21.toArray 5 (16, 16 + 1)), .cells B_13 (iv .u32 m_75) 67, .cells B_9 (iv .u8 (List.replicate 64 (0 : Int))) 60, .cells B_5 (iv .u8 l2) 47, .cells B_1 (iv .u8 l0) 23] := st_155
          refine WL.nil ?_
          refine QW.then_n ?_
          refine CW.seq ?_
          refine CW.seq ?_
          refine CW.region ?_
          refine WL.val Wanted.none (Runs.assign rfl) ?_
          refine WL.nil ?_
          refine QW.then_n ?_
          refine CW.block ?_
          obtain ⟨k_157, H⟩ := H
          refine CW.sub [(6, .pointer (some ⟨B_9, 0, none⟩)), (7, .pointer (some ⟨B_13, 0, none⟩)), (12, .pointer (some ⟨B_95, 0, none⟩)), (16, .pointer (some ⟨B_153, 0, none⟩)), (17, .int .i64 0)] ⟨rfl, rfl, rfl, rfl, rfl, trivial⟩ ?_
          refine CW.loop (fun kL7 l_ w_ => ∃ (m_158 : List Int) (x_160 : Int), l_ = [(6, .pointer (some ⟨B_9, 0, none⟩)), (7, .pointer (some ⟨B_13, 0, none⟩)), (12, .pointer (some ⟨B_95, 0, none⟩)), (16, .pointer (some ⟨B_153, 0, none⟩)), (17, .int .i64 x_160)] ∧ reliquaryref04_Block.L7 r0 m_75 m_103 kL7 m_158 x_160 ∧ (m_158.length = 64) ∧ St w w_ [.cells B_153 (iv .u8 m_158) 60, .cells B_95 (iv .u32 m_103) 67, .obj B_17 (.cells cs_21.toArray 5 (16, 16 + 1)), .cells B_13 (iv .u32 m_75) 67, .cells B_9 (iv .u8 (List.replicate 64 (0 : Int))) 60, .cells B_5 (iv .u8 l2) 47, .cells B_1 (iv .u8 l0) 23]) (k := k_157) ⟨List.replicate 64 (0 : Int), 0, rfl, H, (List.length_replicate ..), st_155⟩ (fun _ _ h => by obtain ⟨_, _, _, h, _⟩ := h; exact h.elim) ?_
          rintro kL7 l_163 w_161 ⟨m_158, x_160, rfl, H, hl_159, st_162⟩
          refine CW.seq ?_
          refine CW.seq ?_
          refine CW.region ?_
          refine WL.val Wanted.none (Runs.move rfl) ?_
          refine WL.val Wanted.none (Runs.lss rfl rfl rfl) ?_
          refine WL.nil ?_
          refine QW.then_n ?_
          rcases H with ⟨c_164, H⟩ | ⟨c_164, H⟩
          · have h_165 : (decide (x_160 < 64)) = true := (decide_eq_true c_164)
            refine CW.ct rfl h_165 ?_
            refine CW.skip ?_
            refine QW.then_n ?_
            refine CW.seq ?_
            refine CW.block ?_
            refine CW.seq ?_
            refine CW.region_qa wide (by kernel_rfl) st_162 ?_
            refine HL.val Wanted.none (fun wq sq => (Runs.move rfl)) ?_
            refine HL.val Wanted.none (fun wq sq => (Runs.quo rfl rfl (by decide) rfl)) ?_
            obtain ⟨⟨p_166, q_167⟩, H⟩ := H
            refine HL.val Wanted.none (fun wq sq => (Runs.indexAddr_blk arr67 rfl rfl p_166 q_167 (o := (IntKind.i64.wrap (Int.tdiv x_160 4)).toNat) (by first | rfl | omega))) ?_
            refine HL.val Wanted.none (fun wq sq => (Runs.load nagg24 rfl (sq.cell_iv (i := 1) rfl (by have := hl_104; omega)))) ?_
            refine HL.val Wanted.none (fun wq sq => (Runs.move rfl)) ?_
            refine HL.val Wanted.none (fun wq sq => (Runs.quo rfl rfl (by decide) rfl)) ?_
            obtain ⟨⟨p_168, q_169⟩, H⟩ := H
            refine HL.val Wanted.none (fun wq sq => (Runs.indexAddr_blk arr67 rfl rfl p_168 q_169 (o := (IntKind.i64.wrap (Int.tdiv x_160 4)).toNat) (by first | rfl | omega))) ?_
            refine HL.val Wanted.none (fun wq sq => (Runs.load nagg24 rfl (sq.cell_iv (i := 3) rfl (by have := hl_76; omega)))) ?_
            obtain ⟨x_170, e_171, H⟩ := H
            refine HL.val Wanted.none (fun wq sq => (Runs.add rfl rfl e_171)) ?_
            refine HL.val Wanted.none (fun wq sq => (Runs.assign rfl)) ?_
            refine HL.nil (fun w_172 st_173 => ?_)
            refine WL.nil ?_
            refine QW.then_n ?_
            refine CW.region ?_
            refine WL.val Wanted.none (Runs.move rfl) ?_
            refine WL.val Wanted.none (Runs.move rfl) ?_
            refine WL.val Wanted.none (Runs.move rfl) ?_
            refine WL.val Wanted.none (Runs.rem rfl rfl (by decide) rfl) ?_
            refine WL.val Wanted.none (Runs.mul rfl rfl rfl) ?_
            refine WL.val Wanted.none (Runs.conv Tryd.underlying63 ⟨_, Tryd.underlying3⟩ rfl rfl) ?_
            obtain ⟨z_174, H⟩ := H
            obtain ⟨x_175, e_176, H⟩ := H
            refine WL.val Wanted.none (Runs.shr rfl rfl z_174 e_176) ?_
            refine WL.val Wanted.none (Runs.conv Tryd.underlying5 ⟨_, Tryd.underlying24⟩ rfl rfl) ?_
            obtain ⟨⟨p_177, q_178⟩, H⟩ := H
            refine WL.val Wanted.none (Runs.indexAddr_blk arr60 rfl rfl p_177 q_178 (o := (x_160).toNat) (by first | rfl | omega)) ?_
            obtain ⟨m_179, e_180, H⟩ := H
            have hl_183 : m_179.length = 64 := by rw [e_180, List.length_set]; exact hl_159
            refine WL.store_cells (i := 0) st_173 rfl cells5 rfl (by rw [iv_length]; have := hl_159; omega) rfl rfl ?_
            intro w_181 st_182
            have st_182' : St w w_181 [.cells B_153 (iv .u8 m_179) 60, .cells B_95 (iv .u32 m_103) 67, .obj B_17 (.cells cs_21.toArray 5 (16, 16 + 1)), .cells B_13 (iv .u32 m_75) 67, .cells B_9 (iv .u8 (List.replicate 64 (0 : Int))) 60, .cells B_5 (iv .u8 l2) 47, .cells B_1 (iv .u8 l0) 23] := by rw [e_180, ← iv_set .u8 m_158 ((x_160).toNat) (IntKind.u8.wrap x_175)]; exact st_182
            refine WL.nil ?_
            refine QW.blk_n ?_
            refine QW.then_n ?_
            refine CW.region ?_
            refine WL.val Wanted.none (Runs.move rfl) ?_
            refine WL.val Wanted.none (Runs.add rfl rfl rfl) ?_
            refine WL.val Wanted.none (Runs.assign rfl) ?_
            refine WL.nil ?_
            exact QW.at [(6, .pointer (some ⟨B_9, 0, none⟩)), (7, .pointer (some ⟨B_13, 0, none⟩)), (12, .pointer (some ⟨B_95, 0, none⟩)), (16, .pointer (some ⟨B_153, 0, none⟩)), (17, .int .i64 (IntKind.i64.wrap (x_160 + 1)))] ⟨rfl, rfl, rfl, rfl, rfl, trivial⟩ ⟨m_179, IntKind.i64.wrap (x_160 + 1), rfl, H, hl_183, st_182'⟩
          · have h_165 : (decide (x_160 < 64)) = false := (decide_eq_false c_164)
            refine CW.cf rfl h_165 ?_
            refine CW.exit ?_
            refine QW.then_x ?_
            refine QW.then_x ?_
            refine QW.blk_x ?_
            refine QW.then_n ?_
            refine CW.seq ?_
            refine CW.region ?_
            refine WL.val Wanted.none (Runs.load_arr arr60 rfl (st_162.blk (i := 0) rfl) hl_159) ?_
            refine WL.store_arr (i := 4) st_162 rfl arr60 rfl (by rw [iv_length]; exact (List.length_replicate ..)) hl_159 rfl ?_
            intro w_184 st_185
            replace st_185 : St w w_184 [.cells B_153 (iv .u8 m_158) 60, .cells B_95 (iv .u32 m_103) 67, .obj B_17 (.cells cs_21.toArray 5 (16, 16 + 1)), .cells B_13 (iv .u32 m_75) 67, .cells B_9 (iv .u8 m_158) 60, .cells B_5 (iv .u8 l2) 47, .cells B_1 (iv .u8 l0) 23] := st_185
            refine WL.nil ?_
            refine QW.then_n ?_
            refine CW.sub [(6, .pointer (some ⟨B_9, 0, none⟩))] ⟨rfl, trivial⟩ ?_
            refine CW.ret ?_
            obtain rfl := H
            exact QW.retc rfl arr60 rfl (st_185.blk (i := 4) rfl) hl_159 ⟨hl_159, rfl, st_185.pick [] (by decide)⟩

/-! ### reliquaryref04_Crypt: function 21 -/
def reliquaryref04_Crypt.L2 (l3 : List Int) (x_23 : Int) (r_33 : List Int) (K_L1 : (List Int) → Int → Prop) : Nat → (List Int) → Int → Prop
  | 0, _, _ => False
  | kL2 + 1, l_45, x_48 => ((x_48 < 64 ∧ (∃ x_54 : Int, x_54 = IntKind.i64.wrap ((IntKind.i64.wrap ((IntKind.i64.wrap x_23) * 64)) + x_48) ∧ ((x_54 < (l3.length : Int) ∧ ((0 ≤ x_54 ∧ x_54 < (l3.length : Int)) ∧ ((0 ≤ x_48 ∧ x_48 < (64 : Int)) ∧ (∃ x_66 : Int, x_66 = bits .xor .u8 (gn l3 ((x_54).toNat)) (gn r_33 ((x_48).toNat)) ∧ (∃ m_72 : List Int, m_72 = l_45 ++ [x_66] ∧ (m_72.length ≤ 1099511627776 ∧ reliquaryref04_Crypt.L2 l3 x_23 r_33 K_L1 kL2 m_72 (IntKind.i64.wrap (x_48 + 1)))))))) ∨ (¬ (x_54 < (l3.length : Int)) ∧ reliquaryref04_Crypt.L2 l3 x_23 r_33 K_L1 kL2 l_45 (IntKind.i64.wrap (x_48 + 1)))))) ∨ (¬ (x_48 < 64) ∧ K_L1 l_45 (IntKind.u64.wrap (x_23 + 1))))
def reliquaryref04_Crypt.L1 (l0 : List Int) (a1 : Int) (l2 : List Int) (l3 : List Int) (r0 : List Int) (r1 : Int) (x_9 : Int) : Nat → (List Int) → Int → Prop
  | 0, _, _ => False
  | kL1 + 1, l_20, x_23 => ((x_23 < x_9 ∧ (∃ (r_33 : List Int), reliquaryref04_Block.rel l0 (IntKind.u32.wrap (a1 + (IntKind.u32.wrap x_23))) l2 r_33 ∧ (∃ k_ : Nat, reliquaryref04_Crypt.L2 l3 x_23 r_33 (reliquaryref04_Crypt.L1 l0 a1 l2 l3 r0 r1 x_9 kL1) k_ l_20 0))) ∨ (¬ (x_23 < x_9) ∧ r0 = l_20 ∧ r1 = 0))
def reliquaryref04_Crypt.rel (l0 : List Int) (a1 : Int) (l2 : List Int) (l3 : List Int) (r0 : List Int) (r1 : Int) : Prop := (∃ x_9 : Int, x_9 = IntKind.u64.wrap (Int.tdiv (IntKind.u64.wrap (IntKind.i64.wrap ((l3.length : Int) + 63))) 64) ∧ (((IntKind.u64.wrap ((IntKind.u64.wrap a1) + x_9)) > 4294967296 ∧ r0 = [] ∧ r1 = 1) ∨ (¬ ((IntKind.u64.wrap ((IntKind.u64.wrap a1) + x_9)) > 4294967296) ∧ (∃ k_ : Nat, reliquaryref04_Crypt.L1 l0 a1 l2 l3 r0 r1 x_9 k_ ([] : List Int) 0))))
set_option maxHeartbeats 4000000 in
set_option maxRecDepth 100000 in
theorem reliquaryref04_Crypt.calls (w : World) (l0 : List Int) (a1 : Int) (l2 : List Int) (l3 : List Int) (A3 : Option Addr) (n3 : Nat) (c3 : Nat)  (hl0 : l0.length = 32) (hl2 : l2.length = 12) (hs3 : Src w A3 (iv .u8 l3)) (hn3 : n3 = l3.length) (hc3 : n3 ≤ c3) (r0 : List Int) (r1 : Int) (H : reliquaryref04_Crypt.rel l0 a1 l2 l3 r0 r1) :
    Calls Tryd.prog 21 #[.agg (iv .u8 l0).toArray, .int .u32 a1, .agg (iv .u8 l2).toArray, .slice A3 n3 c3] w fun e w' => ∃ B0 q0 z0, z0 = r0.length ∧ e = .returned (.tuple #[.slice B0 z0 q0, .int .i64 r1]) ∧ St w w' [.sl B0 q0 z0 (iv .u8 r0) 5 1] := by
  refine CW.enter Tryd.func21 rfl (n := 63) rfl [.agg (iv .u8 l0).toArray, .int .u32 a1, .agg (iv .u8 l2).toArray, .slice A3 n3 c3] (Nat.le_of_ble_eq_true rfl) ?_
  refine CW.sub [(0, .agg (iv .u8 l0).toArray), (1, .int .u32 a1), (2, .agg (iv .u8 l2).toArray), (3, .slice A3 n3 c3)] ⟨rfl, rfl, rfl, rfl, trivial⟩ ?_
  have st0 : St w w [] := St.refl w
  refine CW.seq ?_
  refine CW.region ?_
  refine WL.box st0 rfl rfl ?_
  intro B_1 w_2 st_3
  replace st_3 : St w w_2 [.cells B_1 (iv .u8 l0) 23] := st_3
  refine WL.box st_3 rfl rfl ?_
  intro B_5 w_6 st_7
  replace st_7 : St w w_6 [.cells B_5 (iv .u8 l2) 47, .cells B_1 (iv .u8 l0) 23] := st_7
  refine WL.val Wanted.none (Runs.assign rfl) ?_
  refine WL.val Wanted.none (Runs.assign rfl) ?_
  refine WL.nil ?_
  refine QW.then_n ?_
  refine CW.seq ?_
  refine CW.region ?_
  refine WL.val Wanted.none (Runs.move rfl) ?_
  refine WL.val Wanted.none (Runs.len_sl Tryd.underlying26 rfl (by rw [hn3])) ?_
  refine WL.val Wanted.none (Runs.add rfl rfl rfl) ?_
  refine WL.val Wanted.none (Runs.conv Tryd.underlying25 ⟨_, Tryd.underlying3⟩ rfl rfl) ?_
  obtain ⟨x_9, e_10, H⟩ := H
  refine WL.val Wanted.none (Runs.quo rfl rfl (by decide) e_10) ?_
  refine WL.val Wanted.none (Runs.assign rfl) ?_
  refine WL.nil ?_
  refine QW.then_n ?_
  refine CW.sub [(1, .int .u32 a1), (3, .slice A3 n3 c3), (4, .pointer (some ⟨B_1, 0, none⟩)), (6, .pointer (some ⟨B_5, 0, none⟩)), (8, .slice none 0 0), (9, .int .i64 0), (10, .int .u64 x_9)] ⟨rfl, rfl, rfl, rfl, rfl, rfl, rfl, trivial⟩ ?_
  refine CW.seq ?_
  refine CW.seq ?_
  refine CW.region ?_
  refine WL.val Wanted.none (Runs.move rfl) ?_
  refine WL.val Wanted.none (Runs.conv Tryd.underlying25 ⟨_, Tryd.underlying24⟩ rfl rfl) ?_
  refine WL.val Wanted.none (Runs.move rfl) ?_
  refine WL.val Wanted.none (Runs.add rfl rfl rfl) ?_
  refine WL.val Wanted.none (Runs.gtr rfl rfl rfl) ?_
  refine WL.nil ?_
  refine QW.then_n ?_
  rcases H with ⟨c_11, H⟩ | ⟨c_11, H⟩
  · have h_12 : (decide ((IntKind.u64.wrap ((IntKind.u64.wrap a1) + x_9)) > 4294967296)) = true := (decide_eq_true c_11)
    refine CW.ct rfl h_12 ?_
    refine CW.seq ?_
    refine CW.region ?_
    refine WL.val Wanted.none (Runs.assign rfl) ?_
    refine WL.val Wanted.none (Runs.assign rfl) ?_
    refine WL.nil ?_
    refine QW.then_n ?_
    refine CW.ret ?_
    refine QW.then_r ?_
    have st_14 := st_7.nil_sl 5 1
    have st_14 : St w w_6 [.sl none 0 0 (iv .u8 ([] : List Int)) 5 1, .cells B_5 (iv .u8 l2) 47, .cells B_1 (iv .u8 l0) 23] := st_14
    obtain ⟨rfl, rfl⟩ := H
    exact QW.ret2 rfl rfl rfl ⟨none, 0, 0, rfl, rfl, st_14.pick [0] (by decide)⟩
  · have h_12 : (decide ((IntKind.u64.wrap ((IntKind.u64.wrap a1) + x_9)) > 4294967296)) = false := (decide_eq_false c_11)
    refine CW.cf rfl h_12 ?_
    refine CW.skip ?_
    refine QW.then_n ?_
    refine CW.seq ?_
    refine CW.region ?_
    refine WL.val Wanted.none (Runs.assign rfl) ?_
    refine WL.nil ?_
    refine QW.then_n ?_
    refine CW.seq ?_
    refine CW.seq ?_
    refine CW.region ?_
    refine WL.val Wanted.none (Runs.assign rfl) ?_
    refine WL.nil ?_
    refine QW.then_n ?_
    refine CW.block ?_
    have st_16 := st_7.nil_sl 5 1
    have st_16 : St w w_6 [.sl none 0 0 (iv .u8 ([] : List Int)) 5 1, .cells B_5 (iv .u8 l2) 47, .cells B_1 (iv .u8 l0) 23] := st_16
    obtain ⟨k_17, H⟩ := H
    refine CW.sub [(1, .int .u32 a1), (3, .slice A3 n3 c3), (4, .pointer (some ⟨B_1, 0, none⟩)), (6, .pointer (some ⟨B_5, 0, none⟩)), (8, .slice none 0 0), (9, .int .i64 0), (10, .int .u64 x_9), (11, .slice none 0 0), (12, .int .u64 0)] ⟨rfl, rfl, rfl, rfl, rfl, rfl, rfl, rfl, rfl, trivial⟩ ?_
    refine CW.loop (fun kL1 l_ w_ => ∃ (A_18 : Option Addr) (c_19 : Nat) (n_21 : Nat) (l_20 : List Int) (x_23 : Int), l_ = [(1, .int .u32 a1), (3, .slice A3 n3 c3), (4, .pointer (some ⟨B_1, 0, none⟩)), (6, .pointer (some ⟨B_5, 0, none⟩)), (8, .slice none 0 0), (9, .int .i64 0), (10, .int .u64 x_9), (11, .slice A_18 n_21 c_19), (12, .int .u64 x_23)] ∧ reliquaryref04_Crypt.L1 l0 a1 l2 l3 r0 r1 x_9 kL1 l_20 x_23 ∧ (n_21 = l_20.length) ∧ St w w_ [.sl A_18 c_19 n_21 (iv .u8 l_20) 5 1, .cells B_5 (iv .u8 l2) 47, .cells B_1 (iv .u8 l0) 23]) (k := k_17) ⟨none, 0, 0, ([] : List Int), 0, rfl, H, rfl, st_16⟩ (fun _ _ h => by obtain ⟨_, _, _, _, _, _, h, _⟩ := h; exact h.elim) ?_
    rintro kL1 l_26 w_24 ⟨A_18, c_19, n_21, l_20, x_23, rfl, H, hn_22, st_25⟩
    refine CW.seq ?_
    refine CW.seq ?_
    refine CW.region ?_
    refine WL.val Wanted.none (Runs.move rfl) ?_
    refine WL.val Wanted.none (Runs.move rfl) ?_
    refine WL.val Wanted.none (Runs.lss rfl rfl rfl) ?_
    refine WL.nil ?_
    refine QW.then_n ?_
    rcases H with ⟨c_27, H⟩ | ⟨c_27, H⟩
    · have h_28 : (decide (x_23 < x_9)) = true := (decide_eq_true c_27)
      refine CW.ct rfl h_28 ?_
      refine CW.skip ?_
      refine QW.then_n ?_
      refine CW.seq ?_
      refine CW.block ?_
      refine CW.seq ?_
      refine CW.region ?_
      refine WL.val Wanted.none (Runs.load_arr arr23 rfl (st_25.blk (i := 2) rfl) hl0) ?_
      refine WL.val Wanted.none (Runs.move rfl) ?_
      refine WL.val Wanted.none (Runs.move rfl) ?_
      refine WL.val Wanted.none (Runs.conv Tryd.underlying24 ⟨_, Tryd.underlying25⟩ rfl rfl) ?_
      refine WL.val Wanted.none (Runs.add rfl rfl rfl) ?_
      refine WL.val Wanted.none (Runs.load_arr arr47 rfl (st_25.blk (i := 1) rfl) hl2) ?_
      obtain ⟨r_33, hr_29, H⟩ := H
      refine WL.call Wanted.none ent32 rfl (reliquaryref04_Block.calls w_24 l0 (IntKind.u32.wrap (a1 + (IntKind.u32.wrap x_23))) l2 hl0 hl2 r_33 hr_29) ?_
      rintro _ w_30 ⟨hl_34, rfl, sc_32⟩
      have st_31 : St w w_30 [.sl A_18 c_19 n_21 (iv .u8 l_20) 5 1, .cells B_5 (iv .u8 l2) 47, .cells B_1 (iv .u8 l0) 23] := st_25.call sc_32
      refine ⟨_, rfl, ?_⟩
      refine WL.alloc st_31 arr60.zero ?_
      intro B_35 w_36 st_37
      replace st_37 : St w w_36 [.cells B_35 (iv .u8 (List.replicate 64 (0 : Int))) 60, .sl A_18 c_19 n_21 (iv .u8 l_20) 5 1, .cells B_5 (iv .u8 l2) 47, .cells B_1 (iv .u8 l0) 23] := st_37
      refine WL.store_arr (i := 0) st_37 rfl arr60 rfl (by rw [iv_length]; exact (List.length_replicate ..)) hl_34 rfl ?_
      intro w_39 st_40
      replace st_40 : St w w_39 [.cells B_35 (iv .u8 r_33) 60, .sl A_18 c_19 n_21 (iv .u8 l_20) 5 1, .cells B_5 (iv .u8 l2) 47, .cells B_1 (iv .u8 l0) 23] := st_40
      refine WL.nil ?_
      refine QW.then_n ?_
      refine CW.seq ?_
      refine CW.region ?_
      refine WL.val Wanted.none (Runs.assign rfl) ?_
      refine WL.nil ?_
      refine QW.then_n ?_
      refine CW.block ?_
      obtain ⟨k_42, H⟩ := H
      refine CW.sub [(1, .int .u32 a1), (3, .slice A3 n3 c3), (4, .pointer (some ⟨B_1, 0, none⟩)), (6, .pointer (some ⟨B_5, 0, none⟩)), (8, .slice none 0 0), (9, .int .i64 0), (10, .int .u64 x_9), (11, .slice A_18 n_21 c_19), (12, .int .u64 x_23), (26, .int .u64 x_23), (27, .int .u64 x_9), (28, .bool (decide (x_23 < x_9))), (31, .agg (iv .u8 l0).toArray), (32, .int .u32 a1), (33, .int .u64 x_23), (34, .int .u32 (IntKind.u32.wrap x_23)), (35, .int .u32 (IntKind.u32.wrap (a1 + (IntKind.u32.wrap x_23)))), (36, .agg (iv .u8 l2).toArray), (37, .agg (iv .u8 r_33).toArray), (13, .pointer (some ⟨B_35, 0, none⟩)), (14, .int .i64 0)] ⟨rfl, rfl, rfl, rfl, rfl, rfl, rfl, rfl, rfl, rfl, rfl, rfl, rfl, rfl, rfl, rfl, rfl, rfl, rfl, rfl, rfl, trivial⟩ ?_
      refine CW.loop (fun kL2 l_ w_ => ∃ (A_43 : Option Addr) (c_44 : Nat) (n_46 : Nat) (l_45 : List Int) (x_48 : Int), l_ = [(1, .int .u32 a1), (3, .slice A3 n3 c3), (4, .pointer (some ⟨B_1, 0, none⟩)), (6, .pointer (some ⟨B_5, 0, none⟩)), (8, .slice none 0 0), (9, .int .i64 0), (10, .int .u64 x_9), (11, .slice A_43 n_46 c_44), (12, .int .u64 x_23), (26, .int .u64 x_23), (27, .int .u64 x_9), (28, .bool (decide (x_23 < x_9))), (31, .agg (iv .u8 l0).toArray), (32, .int .u32 a1), (33, .int .u64 x_23), (34, .int .u32 (IntKind.u32.wrap x_23)), (35, .int .u32 (IntKind.u32.wrap (a1 + (IntKind.u32.wrap x_23)))), (36, .agg (iv .u8 l2).toArray), (37, .agg (iv .u8 r_33).toArray), (13, .pointer (some ⟨B_35, 0, none⟩)), (14, .int .i64 x_48)] ∧ reliquaryref04_Crypt.L2 l3 x_23 r_33 (reliquaryref04_Crypt.L1 l0 a1 l2 l3 r0 r1 x_9 kL1) kL2 l_45 x_48 ∧ (n_46 = l_45.length) ∧ St w w_ [.cells B_35 (iv .u8 r_33) 60, .sl A_43 c_44 n_46 (iv .u8 l_45) 5 1, .cells B_5 (iv .u8 l2) 47, .cells B_1 (iv .u8 l0) 23]) (k := k_42) ⟨A_18, c_19, n_21, l_20, 0, rfl, H, hn_22, st_40⟩ (fun _ _ h => by obtain ⟨_, _, _, _, _, _, h, _⟩ := h; exact h.elim) ?_
      rintro kL2 l_51 w_49 ⟨A_43, c_44, n_46, l_45, x_48, rfl, H, hn_47, st_50⟩
      refine CW.seq ?_
      refine CW.seq ?_
      refine CW.region ?_
      refine WL.val Wanted.none (Runs.move rfl) ?_
      refine WL.val Wanted.none (Runs.lss rfl rfl rfl) ?_
      refine WL.nil ?_
      refine QW.then_n ?_
      rcases H with ⟨c_52, H⟩ | ⟨c_52, H⟩
      · have h_53 : (decide (x_48 < 64)) = true := (decide_eq_true c_52)
        refine CW.ct rfl h_53 ?_
        refine CW.skip ?_
        refine QW.then_n ?_
        refine CW.seq ?_
        refine CW.block ?_
        refine CW.seq ?_
        refine CW.region ?_
        refine WL.val Wanted.none (Runs.move rfl) ?_
        refine WL.val Wanted.none (Runs.conv Tryd.underlying3 ⟨_, Tryd.underlying25⟩ rfl rfl) ?_
        refine WL.val Wanted.none (Runs.mul rfl rfl rfl) ?_
        refine WL.val Wanted.none (Runs.move rfl) ?_
        obtain ⟨x_54, e_55, H⟩ := H
        refine WL.val Wanted.none (Runs.add rfl rfl e_55) ?_
        refine WL.val Wanted.none (Runs.assign rfl) ?_
        refine WL.nil ?_
        refine QW.then_n ?_
        refine CW.seq ?_
        refine CW.region ?_
        refine WL.val Wanted.none (Runs.move rfl) ?_
        refine WL.val Wanted.none (Runs.move rfl) ?_
        refine WL.val Wanted.none (Runs.len_sl Tryd.underlying26 rfl (by rw [hn3])) ?_
        refine WL.val Wanted.none (Runs.lss rfl rfl rfl) ?_
        refine WL.nil ?_
        refine QW.then_n ?_
        rcases H with ⟨c_56, H⟩ | ⟨c_56, H⟩
        · have h_57 : (decide (x_54 < (l3.length : Int))) = true := (decide_eq_true c_56)
          refine CW.ct rfl h_57 ?_
          refine CW.region_aw wide st_50 (fun w_58 st_59 => ?_)
          refine AW.take 0 rfl (by kernel_rfl) (by kernel_rfl) (by kernel_rfl) Wanted.none (fun _ => (Runs.move rfl)) ?_
          refine AW.take 1 rfl (by kernel_rfl) (by kernel_rfl) (by kernel_rfl) Wanted.none (fun _ => (Runs.move rfl)) ?_
          refine AW.take 2 rfl (by kernel_rfl) (by kernel_rfl) (by kernel_rfl) Wanted.none (fun _ => (Runs.move rfl)) ?_
          obtain ⟨⟨p_60, q_61⟩, H⟩ := H
          obtain ⟨a_62, e_63⟩ := (hs3.ext st_59).addr_iv ((x_54).toNat) (by omega)
          refine AW.take 3 rfl (by kernel_rfl) (by kernel_rfl) (by kernel_rfl) Wanted.none (fun _ => (Runs.indexAddr Tryd.underlying26 cells5 (by decide) rfl e_63 rfl p_60 (by rw [hn3]; exact q_61) (o := (x_54).toNat) (by first | rfl | omega))) ?_
          refine AW.take 5 rfl (by kernel_rfl) (by kernel_rfl) (by kernel_rfl) Wanted.none (fun _ => (Runs.move rfl)) ?_
          obtain ⟨⟨p_64, q_65⟩, H⟩ := H
          refine AW.take 6 rfl (by kernel_rfl) (by kernel_rfl) (by kernel_rfl) Wanted.none (fun _ => (Runs.indexAddr_blk arr60 rfl rfl p_64 q_65 (o := (x_48).toNat) (by first | rfl | omega))) ?_
          refine AW.step2 4 7 rfl rfl (by kernel_rfl) ?_ ?_
          · refine WL.val Wanted.none (Runs.load nagg5 rfl ((hs3.ext st_59).cell_iv e_63 (by omega))) ?_
            refine WL.nil ?_
            refine AW.back ?_
            refine AW.step 7 rfl (by kernel_rfl) ?_
            refine WL.val Wanted.none (Runs.load nagg5 rfl (st_59.cell_iv (i := 0) rfl (by have := hl_34; omega))) ?_
            refine WL.nil ?_
            refine AW.back ?_
            obtain ⟨x_66, e_67, H⟩ := H
            refine AW.take 8 rfl (by kernel_rfl) (by kernel_rfl) (by kernel_rfl) Wanted.none (fun _ => (Runs.bxor rfl rfl e_67)) ?_
            refine AW.step 9 rfl (by kernel_rfl) ?_
            refine WL.buildSl [.int .u8 x_66] st_59 Tryd.underlying26 elem5 rfl rfl (by decide) (by decide) (by simp [Value.cells]) ?_
            intro B_68 w_69 st_70
            replace st_70 : St w w_69 [.sl (some ⟨B_68, 0, none⟩) 1 1 (iv .u8 [x_66]) 5 1, .cells B_35 (iv .u8 r_33) 60, .sl A_43 c_44 n_46 (iv .u8 l_45) 5 1, .cells B_5 (iv .u8 l2) 47, .cells B_1 (iv .u8 l0) 23] := st_70
            refine WL.nil ?_
            refine AW.back ?_
            refine AW.step 10 rfl (by kernel_rfl) ?_
            obtain ⟨m_72, e_73, H⟩ := H
            obtain ⟨z_74, H⟩ := H
            obtain ⟨n_77, hn_80⟩ : ∃ n_ : Nat, n_ = m_72.length := ⟨_, rfl⟩
            refine WL.append (i := 2) Wanted.none st_70 rfl Tryd.underlying26 elem5 rfl rfl (st_70.src_sl (k := 0) rfl) (by rw [iv_length]; exact (Eq.refl _).symm) (one_iv .u8 _) (by decide) (N := n_77) (by rw [hn_80, e_73, List.length_append]; exact congr (congrArg HAdd.hAdd (hn_47)) (rfl)) (by rw [hn_80]; exact z_74) ?_
            intro A_75 c_76 w_78 st_79
            have st_79' : St w w_78 [.sl (some ⟨B_68, 0, none⟩) 1 1 (iv .u8 [x_66]) 5 1, .cells B_35 (iv .u8 r_33) 60, .sl A_75 c_76 n_77 (iv .u8 m_72) 5 1, .cells B_5 (iv .u8 l2) 47, .cells B_1 (iv .u8 l0) 23] := by rw [e_73, ← iv_append .u8 l_45 [x_66]]; exact st_79
            refine WL.nil ?_
            refine AW.back ?_
            refine AW.take 11 rfl (by kernel_rfl) (by kernel_rfl) (by kernel_rfl) Wanted.none (fun _ => (Runs.assign rfl)) ?_
            refine AW.done (by kernel_rfl) ?_
            refine QW.blk_n ?_
            refine QW.then_n ?_
            refine CW.region ?_
            refine WL.val Wanted.none (Runs.move rfl) ?_
            refine WL.val Wanted.none (Runs.add rfl rfl rfl) ?_
            refine WL.val Wanted.none (Runs.assign rfl) ?_
            refine WL.nil ?_
            have st_79'' := st_79'.pick [1, 2, 3, 4] (by decide)
            exact QW.at [(1, .int .u32 a1), (3, .slice A3 n3 c3), (4, .pointer (some ⟨B_1, 0, none⟩)), (6, .pointer (some ⟨B_5, 0, none⟩)), (8, .slice none 0 0), (9, .int .i64 0), (10, .int .u64 x_9), (11, .slice A_75 n_77 c_76), (12, .int .u64 x_23), (26, .int .u64 x_23), (27, .int .u64 x_9), (28, .bool (decide (x_23 < x_9))), (31, .agg (iv .u8 l0).toArray), (32, .int .u32 a1), (33, .int .u64 x_23), (34, .int .u32 (IntKind.u32.wrap x_23)), (35, .int .u32 (IntKind.u32.wrap (a1 + (IntKind.u32.wrap x_23)))), (36, .agg (iv .u8 l2).toArray), (37, .agg (iv .u8 r_33).toArray), (13, .pointer (some ⟨B_35, 0, none⟩)), (14, .int .i64 (IntKind.i64.wrap (x_48 + 1)))] ⟨rfl, rfl, rfl, rfl, rfl, rfl, rfl, rfl, rfl, rfl, rfl, rfl, rfl, rfl, rfl, rfl, rfl, rfl, rfl, rfl, rfl, trivial⟩ ⟨A_75, c_76, n_77, m_72, IntKind.i64.wrap (x_48 + 1), rfl, H, hn_80, st_79''⟩
          · refine WL.val Wanted.none (Runs.load nagg5 rfl (st_59.cell_iv (i := 0) rfl (by have := hl_34; omega))) ?_
            refine WL.nil ?_
            refine AW.back ?_
            refine AW.step 4 rfl (by kernel_rfl) ?_
            refine WL.val Wanted.none (Runs.load nagg5 rfl ((hs3.ext st_59).cell_iv e_63 (by omega))) ?_
            refine WL.nil ?_
            refine AW.back ?_
            obtain ⟨x_81, e_82, H⟩ := H
            refine AW.take 8 rfl (by kernel_rfl) (by kernel_rfl) (by kernel_rfl) Wanted.none (fun _ => (Runs.bxor rfl rfl e_82)) ?_
            refine AW.step 9 rfl (by kernel_rfl) ?_
            refine WL.buildSl [.int .u8 x_81] st_59 Tryd.underlying26 elem5 rfl rfl (by decide) (by decide) (by simp [Value.cells]) ?_
            intro B_83 w_84 st_85
            replace st_85 : St w w_84 [.sl (some ⟨B_83, 0, none⟩) 1 1 (iv .u8 [x_81]) 5 1, .cells B_35 (iv .u8 r_33) 60, .sl A_43 c_44 n_46 (iv .u8 l_45) 5 1, .cells B_5 (iv .u8 l2) 47, .cells B_1 (iv .u8 l0) 23] := st_85
            refine WL.nil ?_
            refine AW.back ?_
            refine AW.step 10 rfl (by kernel_rfl) ?_
            obtain ⟨m_87, e_88, H⟩ := H
            obtain ⟨z_89, H⟩ := H
            obtain ⟨n_92, hn_95⟩ : ∃ n_ : Nat, n_ = m_87.length := ⟨_, rfl⟩
            refine WL.append (i := 2) Wanted.none st_85 rfl Tryd.underlying26 elem5 rfl rfl (st_85.src_sl (k := 0) rfl) (by rw [iv_length]; exact (Eq.refl _).symm) (one_iv .u8 _) (by decide) (N := n_92) (by rw [hn_95, e_88, List.length_append]; exact congr (congrArg HAdd.hAdd (hn_47)) (rfl)) (by rw [hn_95]; exact z_89) ?_
            intro A_90 c_91 w_93 st_94
            have st_94' : St w w_93 [.sl (some ⟨B_83, 0, none⟩) 1 1 (iv .u8 [x_81]) 5 1, .cells B_35 (iv .u8 r_33) 60, .sl A_90 c_91 n_92 (iv .u8 m_87) 5 1, .cells B_5 (iv .u8 l2) 47, .cells B_1 (iv .u8 l0) 23] := by rw [e_88, ← iv_append .u8 l_45 [x_81]]; exact st_94
            refine WL.nil ?_
            refine AW.back ?_
            refine AW.take 11 rfl (by kernel_rfl) (by kernel_rfl) (by kernel_rfl) Wanted.none (fun _ => (Runs.assign rfl)) ?_
            refine AW.done (by kernel_rfl) ?_
            refine QW.blk_n ?_
            refine QW.then_n ?_
            refine CW.region ?_
            refine WL.val Wanted.none (Runs.move rfl) ?_
            refine WL.val Wanted.none (Runs.add rfl rfl rfl) ?_
            refine WL.val Wanted.none (Runs.assign rfl) ?_
            refine WL.nil ?_
            have st_94'' := st_94'.pick [1, 2, 3, 4] (by decide)
            exact QW.at [(1, .int .u32 a1), (3, .slice A3 n3 c3), (4, .pointer (some ⟨B_1, 0, none⟩)), (6, .pointer (some ⟨B_5, 0, none⟩)), (8, .slice none 0 0), (9, .int .i64 0), (10, .int .u64 x_9), (11, .slice A_90 n_92 c_91), (12, .int .u64 x_23), (26, .int .u64 x_23), (27, .int .u64 x_9), (28, .bool (decide (x_23 < x_9))), (31, .agg (iv .u8 l0).toArray), (32, .int .u32 a1), (33, .int .u64 x_23), (34, .int .u32 (IntKind.u32.wrap x_23)), (35, .int .u32 (IntKind.u32.wrap (a1 + (IntKind.u32.wrap x_23)))), (36, .agg (iv .u8 l2).toArray), (37, .agg (iv .u8 r_33).toArray), (13, .pointer (some ⟨B_35, 0, none⟩)), (14, .int .i64 (IntKind.i64.wrap (x_48 + 1)))] ⟨rfl, rfl, rfl, rfl, rfl, rfl, rfl, rfl, rfl, rfl, rfl, rfl, rfl, rfl, rfl, rfl, rfl, rfl, rfl, rfl, rfl, trivial⟩ ⟨A_90, c_91, n_92, m_87, IntKind.i64.wrap (x_48 + 1), rfl, H, hn_95, st_94''⟩
        · have h_57 : (decide (x_54 < (l3.length : Int))) = false := (decide_eq_false c_56)
          refine CW.cf rfl h_57 ?_
          refine CW.skip ?_
          refine QW.blk_n ?_
          refine QW.then_n ?_
          refine CW.region ?_
          refine WL.val Wanted.none (Runs.move rfl) ?_
          refine WL.val Wanted.none (Runs.add rfl rfl rfl) ?_
          refine WL.val Wanted.none (Runs.assign rfl) ?_
          refine WL.nil ?_
          exact QW.at [(1, .int .u32 a1), (3, .slice A3 n3 c3), (4, .pointer (some ⟨B_1, 0, none⟩)), (6, .pointer (some ⟨B_5, 0, none⟩)), (8, .slice none 0 0), (9, .int .i64 0), (10, .int .u64 x_9), (11, .slice A_43 n_46 c_44), (12, .int .u64 x_23), (26, .int .u64 x_23), (27, .int .u64 x_9), (28, .bool (decide (x_23 < x_9))), (31, .agg (iv .u8 l0).toArray), (32, .int .u32 a1), (33, .int .u64 x_23), (34, .int .u32 (IntKind.u32.wrap x_23)), (35, .int .u32 (IntKind.u32.wrap (a1 + (IntKind.u32.wrap x_23)))), (36, .agg (iv .u8 l2).toArray), (37, .agg (iv .u8 r_33).toArray), (13, .pointer (some ⟨B_35, 0, none⟩)), (14, .int .i64 (IntKind.i64.wrap (x_48 + 1)))] ⟨rfl, rfl, rfl, rfl, rfl, rfl, rfl, rfl, rfl, rfl, rfl, rfl, rfl, rfl, rfl, rfl, rfl, rfl, rfl, rfl, rfl, trivial⟩ ⟨A_43, c_44, n_46, l_45, IntKind.i64.wrap (x_48 + 1), rfl, H, hn_47, st_50⟩
      · have h_53 : (decide (x_48 < 64)) = false := (decide_eq_false c_52)
        refine CW.cf rfl h_53 ?_
        refine CW.exit ?_
        refine QW.then_x ?_
        refine QW.then_x ?_
        refine QW.blk_x ?_
        refine QW.blk_n ?_
        refine QW.then_n ?_
        refine CW.region ?_
        refine WL.val Wanted.none (Runs.move rfl) ?_
        refine WL.val Wanted.none (Runs.add rfl rfl rfl) ?_
        refine WL.val Wanted.none (Runs.assign rfl) ?_
        refine WL.nil ?_
        have st_50' := st_50.pick [1, 2, 3] (by decide)
        exact QW.at [(1, .int .u32 a1), (3, .slice A3 n3 c3), (4, .pointer (some ⟨B_1, 0, none⟩)), (6, .pointer (some ⟨B_5, 0, none⟩)), (8, .slice none 0 0), (9, .int .i64 0), (10, .int .u64 x_9), (11, .slice A_43 n_46 c_44), (12, .int .u64 (IntKind.u64.wrap (x_23 + 1)))] ⟨rfl, rfl, rfl, rfl, rfl, rfl, rfl, rfl, rfl, trivial⟩ ⟨A_43, c_44, n_46, l_45, IntKind.u64.wrap (x_23 + 1), rfl, H, hn_47, st_50'⟩
    · have h_28 : (decide (x_23 < x_9)) = false := (decide_eq_false c_27)
      refine CW.cf rfl h_28 ?_
      refine CW.exit ?_
      refine QW.then_x ?_
      refine QW.then_x ?_
      refine QW.blk_x ?_
      refine QW.then_n ?_
      refine CW.sub [(8, .slice none 0 0), (9, .int .i64 0), (11, .slice A_18 n_21 c_19)] ⟨rfl, rfl, rfl, trivial⟩ ?_
      refine CW.seq ?_
      refine CW.region ?_
      refine WL.val Wanted.none (Runs.move rfl) ?_
      refine WL.val Wanted.none (Runs.assign rfl) ?_
      refine WL.val Wanted.none (Runs.assign rfl) ?_
      refine WL.nil ?_
      refine QW.then_n ?_
      refine CW.ret ?_
      obtain ⟨rfl, rfl⟩ := H
      exact QW.ret2 rfl rfl rfl ⟨A_18, c_19, n_21, hn_22, rfl, st_25.pick [0] (by decide)⟩

end Go.Proofs.YtkcpocplohdobaaDoor
