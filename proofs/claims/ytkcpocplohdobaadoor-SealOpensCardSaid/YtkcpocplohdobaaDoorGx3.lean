/- Walks: each function computes what its relation says, and a call of it ends so. Printed by a program of this session (wip/gen). -/
import Derived.Test.YtkcpocplohdobaaDoorGx2
namespace Go.Proofs.YtkcpocplohdobaaDoor
open Go Go.Kr Go.RowKit
set_option linter.unusedVariables false
set_option linter.unusedSimpArgs false
/-! ### reliquaryref08_Seal: function 11 -/
def reliquaryref08_Seal.L1 (r0 : ByteArray) (r1 : Int) : Nat → (List Int) → Prop
  | 0, _ => False
  | kL1 + 1, l_63 => (((l_63.length : Int) < 192 ∧ (∃ m_75 : List Int, m_75 = l_63 ++ [0] ∧ (m_75.length ≤ 1099511627776 ∧ reliquaryref08_Seal.L1 r0 r1 kL1 m_75))) ∨ (¬ ((l_63.length : Int) < 192) ∧ r0 = strOfNums l_63 ∧ r1 = 0))
def reliquaryref08_Seal.L2 (r0 : ByteArray) (r1 : Int) : Nat → (List Int) → Prop
  | 0, _ => False
  | kL2 + 1, l_418 => (((l_418.length : Int) < 192 ∧ (∃ m_430 : List Int, m_430 = l_418 ++ [0] ∧ (m_430.length ≤ 1099511627776 ∧ reliquaryref08_Seal.L2 r0 r1 kL2 m_430))) ∨ (¬ ((l_418.length : Int) < 192) ∧ r0 = strOfNums l_418 ∧ r1 = 0))
def reliquaryref08_Seal.rel (l0 : List Int) (a1 : Int) (a2 : Int) (a3 : ByteArray) (r0 : ByteArray) (r1 : Int) : Prop := (((a3.size : Int) ≠ 160 ∧ (((a3.size : Int) ≠ 176 ∧ r0 = (⟨#[]⟩ : ByteArray) ∧ r1 = 1) ∨ (¬ ((a3.size : Int) ≠ 176) ∧ ((a2 = 0 ∧ r0 = (⟨#[]⟩ : ByteArray) ∧ r1 = 1) ∨ (¬ (a2 = 0) ∧ ((a2 = 18446744073709551615 ∧ r0 = (⟨#[]⟩ : ByteArray) ∧ r1 = 15) ∨ (¬ (a2 = 18446744073709551615) ∧ (∃ (r_17 : List Int), reliquaryref01_Put.rel a2 8 r_17 ∧ (∃ (r_29 : List Int), reliquaryref04_Nonce.rel a1 a2 r_29 ∧ (∃ (r_44 : List Int) (r_50 : Int), reliquaryref04_Crypt.rel l0 0 r_29 (bl a3) r_44 r_50 ∧ (∃ m_51 : List Int, m_51 = r_17 ++ r_44 ∧ (m_51.length ≤ 1099511627776 ∧ (∃ k_ : Nat, reliquaryref08_Seal.L1 r0 r1 k_ m_51))))))))))))) ∨ (¬ ((a3.size : Int) ≠ 160) ∧ ((a2 = 0 ∧ r0 = (⟨#[]⟩ : ByteArray) ∧ r1 = 1) ∨ (¬ (a2 = 0) ∧ ((a2 = 18446744073709551615 ∧ r0 = (⟨#[]⟩ : ByteArray) ∧ r1 = 15) ∨ (¬ (a2 = 18446744073709551615) ∧ (∃ (r_372 : List Int), reliquaryref01_Put.rel a2 8 r_372 ∧ (∃ (r_384 : List Int), reliquaryref04_Nonce.rel a1 a2 r_384 ∧ (∃ (r_399 : List Int) (r_405 : Int), reliquaryref04_Crypt.rel l0 0 r_384 (bl a3) r_399 r_405 ∧ (∃ m_406 : List Int, m_406 = r_372 ++ r_399 ∧ (m_406.length ≤ 1099511627776 ∧ (∃ k_ : Nat, reliquaryref08_Seal.L2 r0 r1 k_ m_406))))))))))))
set_option maxHeartbeats 4000000 in
set_option maxRecDepth 100000 in
theorem reliquaryref08_Seal.calls (w : World) (l0 : List Int) (a1 : Int) (a2 : Int) (a3 : ByteArray)   (hl0 : l0.length = 32) (r0 : ByteArray) (r1 : Int) (H : reliquaryref08_Seal.rel l0 a1 a2 a3 r0 r1) :
    Calls Tryd.prog 11 #[.agg (iv .u8 l0).toArray, .int .u32 a1, .int .u64 a2, .string a3] w fun e w' => e = .returned (.tuple #[.string r0, .int .i64 r1]) ∧ St w w' [] := by
  refine CW.enter Tryd.func11 rfl (n := 50) rfl [.agg (iv .u8 l0).toArray, .int .u32 a1, .int .u64 a2, .string a3] (Nat.le_of_ble_eq_true rfl) ?_
  refine CW.sub [(0, .agg (iv .u8 l0).toArray), (1, .int .u32 a1), (2, .int .u64 a2), (3, .string a3)] ⟨rfl, rfl, rfl, rfl, trivial⟩ ?_
  have st0 : St w w [] := St.refl w
  refine CW.seq ?_
  refine CW.region ?_
  refine WL.box st0 rfl rfl ?_
  intro B_1 w_2 st_3
  replace st_3 : St w w_2 [.cells B_1 (iv .u8 l0) 23] := st_3
  refine WL.val Wanted.none (Runs.assign rfl) ?_
  refine WL.val Wanted.none (Runs.assign rfl) ?_
  refine WL.nil ?_
  refine QW.then_n ?_
  refine CW.seq ?_
  refine CW.seq ?_
  refine CW.region ?_
  refine WL.val Wanted.none (Runs.move rfl) ?_
  refine WL.val Wanted.none (Runs.len_str Tryd.underlying9 rfl) ?_
  refine WL.val Wanted.none (Runs.neq rfl rfl rfl) ?_
  refine WL.val Wanted.none (Runs.move rfl) ?_
  rcases H with ⟨c_5, H⟩ | ⟨c_5, H⟩
  · have h_6 : ((a3.size : Int) != 160) = true := (bne_iff_ne.mpr c_5)
    refine WL.on ?_ ?_; exact Wanted.guard (dj := 16) (by rfl) (evb (by rfl) h_6) (by rfl)
    refine WL.val Wanted.none (Runs.move rfl) ?_
    refine WL.on ?_ ?_; exact Wanted.guard (dj := 16) (by rfl) (evb (by rfl) h_6) (by rfl)
    refine WL.val Wanted.none (Runs.len_str Tryd.underlying9 rfl) ?_
    refine WL.on ?_ ?_; exact Wanted.guard (dj := 16) (by rfl) (evb (by rfl) h_6) (by rfl)
    refine WL.val Wanted.none (Runs.neq rfl rfl rfl) ?_
    refine WL.val Wanted.none (Runs.pick_t (evb rfl h_6) rfl) ?_
    refine WL.val Wanted.none (Runs.move rfl) ?_
    rcases H with ⟨c_7, H⟩ | ⟨c_7, H⟩
    · have h_8 : ((a3.size : Int) != 176) = true := (bne_iff_ne.mpr c_7)
      refine WL.off ?_ ?_; exact Wanted.guard (dj := 21) (by rfl) (evb (by rfl) h_8) (by rfl)
      refine WL.off ?_ ?_; exact Wanted.guard (dj := 21) (by rfl) (evb (by rfl) h_8) (by rfl)
      refine WL.val Wanted.none (Runs.pick_t (evb rfl h_8) rfl) ?_
      refine WL.nil ?_
      refine QW.then_n ?_
      refine CW.sub [(1, .int .u32 a1), (2, .int .u64 a2), (3, .string a3), (4, .pointer (some ⟨B_1, 0, none⟩)), (8, .string (⟨#[]⟩ : ByteArray)), (9, .int .i64 0), (24, .bool true)] ⟨rfl, rfl, rfl, rfl, rfl, rfl, rfl, trivial⟩ ?_
      refine CW.ct rfl rfl ?_
      refine CW.seq ?_
      refine CW.region ?_
      refine WL.val Wanted.none (Runs.assign rfl) ?_
      refine WL.val Wanted.none (Runs.assign rfl) ?_
      refine WL.nil ?_
      refine QW.then_n ?_
      refine CW.ret ?_
      refine QW.then_r ?_
      obtain ⟨rfl, rfl⟩ := H
      exact QW.ret2 rfl rfl rfl ⟨rfl, st_3.pick [] (by decide)⟩
    · have h_8 : ((a3.size : Int) != 176) = false := (bne_eq_false_iff_eq.mpr (Decidable.not_not.mp c_7))
      refine WL.on ?_ ?_; exact Wanted.guard (dj := 21) (by rfl) (evb (by rfl) h_8) (by rfl)
      refine WL.val Wanted.none (Runs.move rfl) ?_
      refine WL.on ?_ ?_; exact Wanted.guard (dj := 21) (by rfl) (evb (by rfl) h_8) (by rfl)
      refine WL.val Wanted.none (Runs.eql rfl rfl rfl) ?_
      refine WL.val Wanted.none (Runs.pick_f (evb rfl h_8) rfl) ?_
      refine WL.nil ?_
      refine QW.then_n ?_
      refine CW.sub [(1, .int .u32 a1), (2, .int .u64 a2), (3, .string a3), (4, .pointer (some ⟨B_1, 0, none⟩)), (8, .string (⟨#[]⟩ : ByteArray)), (9, .int .i64 0), (24, .bool (a2 == 0))] ⟨rfl, rfl, rfl, rfl, rfl, rfl, rfl, trivial⟩ ?_
      rcases H with ⟨c_9, H⟩ | ⟨c_9, H⟩
      · have h_10 : (a2 == 0) = true := (beq_iff_eq.mpr c_9)
        refine CW.ct rfl h_10 ?_
        refine CW.seq ?_
        refine CW.region ?_
        refine WL.val Wanted.none (Runs.assign rfl) ?_
        refine WL.val Wanted.none (Runs.assign rfl) ?_
        refine WL.nil ?_
        refine QW.then_n ?_
        refine CW.ret ?_
        refine QW.then_r ?_
        obtain ⟨rfl, rfl⟩ := H
        exact QW.ret2 rfl rfl rfl ⟨rfl, st_3.pick [] (by decide)⟩
      · have h_10 : (a2 == 0) = false := (beq_eq_false_iff_ne.mpr c_9)
        refine CW.cf rfl h_10 ?_
        refine CW.skip ?_
        refine QW.then_n ?_
        refine CW.seq ?_
        refine CW.seq ?_
        refine CW.region ?_
        refine WL.val Wanted.none (Runs.move rfl) ?_
        refine WL.val Wanted.none (Runs.eql rfl rfl rfl) ?_
        refine WL.nil ?_
        refine QW.then_n ?_
        rcases H with ⟨c_11, H⟩ | ⟨c_11, H⟩
        · have h_12 : (a2 == 18446744073709551615) = true := (beq_iff_eq.mpr c_11)
          refine CW.ct rfl h_12 ?_
          refine CW.seq ?_
          refine CW.region ?_
          refine WL.val Wanted.none (Runs.assign rfl) ?_
          refine WL.val Wanted.none (Runs.assign rfl) ?_
          refine WL.nil ?_
          refine QW.then_n ?_
          refine CW.ret ?_
          refine QW.then_r ?_
          obtain ⟨rfl, rfl⟩ := H
          exact QW.ret2 rfl rfl rfl ⟨rfl, st_3.pick [] (by decide)⟩
        · have h_12 : (a2 == 18446744073709551615) = false := (beq_eq_false_iff_ne.mpr c_11)
          refine CW.cf rfl h_12 ?_
          refine CW.skip ?_
          refine QW.then_n ?_
          refine CW.seq ?_
          refine CW.region ?_
          refine WL.val Wanted.none (Runs.move rfl) ?_
          obtain ⟨r_17, hr_13, H⟩ := H
          refine WL.call Wanted.none ent20 rfl (reliquaryref01_Put.calls w_2 a2 8 r_17 hr_13) ?_
          rintro _ w_14 ⟨A_18, c_19, n_20, hn_21, rfl, sc_16⟩
          have st_15 : St w w_14 [.sl A_18 c_19 n_20 (iv .u8 r_17) 5 1, .cells B_1 (iv .u8 l0) 23] := st_3.call sc_16
          refine ⟨_, rfl, ?_⟩
          refine WL.val Wanted.none (Runs.assign rfl) ?_
          refine WL.nil ?_
          refine QW.then_n ?_
          refine CW.seq ?_
          refine CW.region_aw wide st_15 (fun w_23 st_24 => ?_)
          refine AW.take 1 rfl (by kernel_rfl) (by kernel_rfl) (by kernel_rfl) Wanted.none (fun _ => (Runs.move rfl)) ?_
          refine AW.take 2 rfl (by kernel_rfl) (by kernel_rfl) (by kernel_rfl) Wanted.none (fun _ => (Runs.move rfl)) ?_
          refine AW.take 4 rfl (by kernel_rfl) (by kernel_rfl) (by kernel_rfl) Wanted.none (fun _ => (Runs.move rfl)) ?_
          refine AW.step3 0 3 5 rfl rfl rfl (by kernel_rfl) ?_ ?_ ?_
          · refine WL.val Wanted.none (Runs.load_arr arr23 rfl (st_24.blk (i := 1) rfl) hl0) ?_
            refine WL.nil ?_
            refine AW.back ?_
            refine AW.step2 3 5 rfl rfl (by kernel_rfl) ?_ ?_
            · obtain ⟨r_29, hr_25, H⟩ := H
              refine WL.call Wanted.none ent22 rfl (reliquaryref04_Nonce.calls w_23 a1 a2 r_29 hr_25) ?_
              rintro _ w_26 ⟨hl_30, rfl, sc_28⟩
              have st_27 : St w w_26 [.sl A_18 c_19 n_20 (iv .u8 r_17) 5 1, .cells B_1 (iv .u8 l0) 23] := st_24.call sc_28
              refine ⟨_, rfl, ?_⟩
              refine WL.nil ?_
              refine AW.back ?_
              refine AW.step 5 rfl (by kernel_rfl) ?_
              refine WL.bytes st_27 Tryd.underlying9 Tryd.underlying26 Tryd.underlying5 rfl ?_
              intro B_31 c_32 cs_33 w_34 h_35 h_36 h_37 st_38
              replace st_38 : St w w_34 [.obj B_31 (.cells cs_33.toArray 5 (c_32, c_32 + 1)), .sl A_18 c_19 n_20 (iv .u8 r_17) 5 1, .cells B_1 (iv .u8 l0) 23] := st_38
              refine WL.nil ?_
              refine AW.back ?_
              refine AW.step 6 rfl (by kernel_rfl) ?_
              obtain ⟨r_44, r_50, hr_40, H⟩ := H
              refine WL.call Wanted.none ent21 rfl (reliquaryref04_Crypt.calls w_34 l0 0 r_29 (bl a3) (some ⟨B_31, 0, none⟩) a3.size c_32 hl0 hl_30 (st_38.src_obj (i := 0) rfl h_37) ((bl_length _)) (h_35) r_44 r_50 hr_40) ?_
              rintro _ w_41 ⟨A_45, c_46, n_47, hn_48, rfl, sc_43⟩
              have st_42 : St w w_41 [.sl A_45 c_46 n_47 (iv .u8 r_44) 5 1, .obj B_31 (.cells cs_33.toArray 5 (c_32, c_32 + 1)), .sl A_18 c_19 n_20 (iv .u8 r_17) 5 1, .cells B_1 (iv .u8 l0) 23] := st_38.call sc_43
              refine ⟨_, rfl, ?_⟩
              refine WL.nil ?_
              refine AW.back ?_
              refine AW.take 7 rfl (by kernel_rfl) (by kernel_rfl) (by kernel_rfl) Wanted.none (fun _ => (Runs.move rfl)) ?_
              refine AW.take 8 rfl (by kernel_rfl) (by kernel_rfl) (by kernel_rfl) Wanted.none (fun _ => (Runs.extract rfl rfl)) ?_
              refine AW.take 9 rfl (by kernel_rfl) (by kernel_rfl) (by kernel_rfl) Wanted.none (fun _ => (Runs.extract rfl rfl)) ?_
              refine AW.take 10 rfl (by kernel_rfl) (by kernel_rfl) (by kernel_rfl) Wanted.none (fun _ => (Runs.assign rfl)) ?_
              refine AW.take 11 rfl (by kernel_rfl) (by kernel_rfl) (by kernel_rfl) Wanted.none (fun _ => (Runs.assign rfl)) ?_
              refine AW.done (by kernel_rfl) ?_
              refine QW.then_n ?_
              refine CW.sub [(8, .string (⟨#[]⟩ : ByteArray)), (9, .int .i64 0), (10, .slice A_18 n_20 c_19), (11, .slice A_45 n_47 c_46)] ⟨rfl, rfl, rfl, rfl, trivial⟩ ?_
              refine CW.seq ?_
              refine CW.region ?_
              refine WL.val Wanted.none (Runs.move rfl) ?_
              refine WL.val Wanted.none (Runs.move rfl) ?_
              obtain ⟨m_51, e_52, H⟩ := H
              obtain ⟨z_53, H⟩ := H
              obtain ⟨n_56, hn_59⟩ : ∃ n_ : Nat, n_ = m_51.length := ⟨_, rfl⟩
              refine WL.append (i := 2) Wanted.none st_42 rfl Tryd.underlying26 elem5 rfl rfl (st_42.src_sl (k := 0) rfl) (by rw [iv_length]; exact (hn_48).symm) (one_iv .u8 _) (by decide) (N := n_56) (by rw [hn_59, e_52, List.length_append]; exact congr (congrArg HAdd.hAdd (hn_21)) (hn_48)) (by rw [hn_59]; exact z_53) ?_
              intro A_54 c_55 w_57 st_58
              have st_58' : St w w_57 [.sl A_45 c_46 n_47 (iv .u8 r_44) 5 1, .obj B_31 (.cells cs_33.toArray 5 (c_32, c_32 + 1)), .sl A_54 c_55 n_56 (iv .u8 m_51) 5 1, .cells B_1 (iv .u8 l0) 23] := by rw [e_52, ← iv_append .u8 r_17 r_44]; exact st_58
              refine WL.val Wanted.none (Runs.assign rfl) ?_
              refine WL.nil ?_
              refine QW.then_n ?_
              refine CW.seq ?_
              refine CW.block ?_
              obtain ⟨k_60, H⟩ := H
              refine CW.sub [(8, .string (⟨#[]⟩ : ByteArray)), (9, .int .i64 0), (10, .slice A_54 n_56 c_55)] ⟨rfl, rfl, rfl, trivial⟩ ?_
              refine CW.loop (fun kL1 l_ w_ => ∃ (A_61 : Option Addr) (c_62 : Nat) (n_64 : Nat) (l_63 : List Int), l_ = [(8, .string (⟨#[]⟩ : ByteArray)), (9, .int .i64 0), (10, .slice A_61 n_64 c_62)] ∧ reliquaryref08_Seal.L1 r0 r1 kL1 l_63 ∧ (n_64 = l_63.length) ∧ St w w_ [.sl A_45 c_46 n_47 (iv .u8 r_44) 5 1, .obj B_31 (.cells cs_33.toArray 5 (c_32, c_32 + 1)), .sl A_61 c_62 n_64 (iv .u8 l_63) 5 1, .cells B_1 (iv .u8 l0) 23]) (k := k_60) ⟨A_54, c_55, n_56, m_51, rfl, H, hn_59, st_58'⟩ (fun _ _ h => by obtain ⟨_, _, _, _, _, h, _⟩ := h; exact h.elim) ?_
              rintro kL1 l_68 w_66 ⟨A_61, c_62, n_64, l_63, rfl, H, hn_65, st_67⟩
              refine CW.seq ?_
              refine CW.seq ?_
              refine CW.region ?_
              refine WL.val Wanted.none (Runs.move rfl) ?_
              refine WL.val Wanted.none (Runs.len_sl Tryd.underlying26 rfl (by rw [hn_65])) ?_
              refine WL.val Wanted.none (Runs.lss rfl rfl rfl) ?_
              refine WL.nil ?_
              refine QW.then_n ?_
              rcases H with ⟨c_69, H⟩ | ⟨c_69, H⟩
              · have h_70 : (decide ((l_63.length : Int) < 192)) = true := (decide_eq_true c_69)
                refine CW.ct rfl h_70 ?_
                refine CW.skip ?_
                refine QW.then_n ?_
                refine CW.block ?_
                refine CW.region ?_
                refine WL.val Wanted.none (Runs.move rfl) ?_
                refine WL.buildSl [.int .u8 0] st_67 Tryd.underlying26 elem5 rfl rfl (by decide) (by decide) (by simp [Value.cells]) ?_
                intro B_71 w_72 st_73
                replace st_73 : St w w_72 [.sl (some ⟨B_71, 0, none⟩) 1 1 (iv .u8 [0]) 5 1, .sl A_45 c_46 n_47 (iv .u8 r_44) 5 1, .obj B_31 (.cells cs_33.toArray 5 (c_32, c_32 + 1)), .sl A_61 c_62 n_64 (iv .u8 l_63) 5 1, .cells B_1 (iv .u8 l0) 23] := st_73
                obtain ⟨m_75, e_76, H⟩ := H
                obtain ⟨z_77, H⟩ := H
                obtain ⟨n_80, hn_83⟩ : ∃ n_ : Nat, n_ = m_75.length := ⟨_, rfl⟩
                refine WL.append (i := 3) Wanted.none st_73 rfl Tryd.underlying26 elem5 rfl rfl (st_73.src_sl (k := 0) rfl) (by rw [iv_length]; exact (Eq.refl _).symm) (one_iv .u8 _) (by decide) (N := n_80) (by rw [hn_83, e_76, List.length_append]; exact congr (congrArg HAdd.hAdd (hn_65)) (rfl)) (by rw [hn_83]; exact z_77) ?_
                intro A_78 c_79 w_81 st_82
                have st_82' : St w w_81 [.sl (some ⟨B_71, 0, none⟩) 1 1 (iv .u8 [0]) 5 1, .sl A_45 c_46 n_47 (iv .u8 r_44) 5 1, .obj B_31 (.cells cs_33.toArray 5 (c_32, c_32 + 1)), .sl A_78 c_79 n_80 (iv .u8 m_75) 5 1, .cells B_1 (iv .u8 l0) 23] := by rw [e_76, ← iv_append .u8 l_63 [0]]; exact st_82
                refine WL.val Wanted.none (Runs.assign rfl) ?_
                refine WL.nil ?_
                refine QW.blk_n ?_
                have st_82'' := st_82'.pick [1, 2, 3, 4] (by decide)
                exact QW.at [(8, .string (⟨#[]⟩ : ByteArray)), (9, .int .i64 0), (10, .slice A_78 n_80 c_79)] ⟨rfl, rfl, rfl, trivial⟩ ⟨A_78, c_79, n_80, m_75, rfl, H, hn_83, st_82''⟩
              · have h_70 : (decide ((l_63.length : Int) < 192)) = false := (decide_eq_false c_69)
                refine CW.cf rfl h_70 ?_
                refine CW.exit ?_
                refine QW.then_x ?_
                refine QW.then_x ?_
                refine QW.blk_x ?_
                refine QW.then_n ?_
                refine CW.seq ?_
                refine CW.region ?_
                refine WL.val Wanted.none (Runs.move rfl) ?_
                refine WL.val Wanted.none (Runs.bytes_str Tryd.underlying26 Tryd.underlying5 Tryd.underlying9 rfl (st_67.src_sl (k := 2) rfl) hn_65) ?_
                refine WL.val Wanted.none (Runs.assign rfl) ?_
                refine WL.val Wanted.none (Runs.assign rfl) ?_
                refine WL.nil ?_
                refine QW.then_n ?_
                refine CW.sub [(8, .string (strOfNums l_63)), (9, .int .i64 0)] ⟨rfl, rfl, trivial⟩ ?_
                refine CW.ret ?_
                obtain ⟨rfl, rfl⟩ := H
                exact QW.ret2 rfl rfl rfl ⟨rfl, st_67.pick [] (by decide)⟩
            · refine WL.bytes st_24 Tryd.underlying9 Tryd.underlying26 Tryd.underlying5 rfl ?_
              intro B_84 c_85 cs_86 w_87 h_88 h_89 h_90 st_91
              replace st_91 : St w w_87 [.obj B_84 (.cells cs_86.toArray 5 (c_85, c_85 + 1)), .sl A_18 c_19 n_20 (iv .u8 r_17) 5 1, .cells B_1 (iv .u8 l0) 23] := st_91
              refine WL.nil ?_
              refine AW.back ?_
              refine AW.step 3 rfl (by kernel_rfl) ?_
              obtain ⟨r_97, hr_93, H⟩ := H
              refine WL.call Wanted.none ent22 rfl (reliquaryref04_Nonce.calls w_87 a1 a2 r_97 hr_93) ?_
              rintro _ w_94 ⟨hl_98, rfl, sc_96⟩
              have st_95 : St w w_94 [.obj B_84 (.cells cs_86.toArray 5 (c_85, c_85 + 1)), .sl A_18 c_19 n_20 (iv .u8 r_17) 5 1, .cells B_1 (iv .u8 l0) 23] := st_91.call sc_96
              refine ⟨_, rfl, ?_⟩
              refine WL.nil ?_
              refine AW.back ?_
              refine AW.step 6 rfl (by kernel_rfl) ?_
              obtain ⟨r_103, r_109, hr_99, H⟩ := H
              refine WL.call Wanted.none ent21 rfl (reliquaryref04_Crypt.calls w_94 l0 0 r_97 (bl a3) (some ⟨B_84, 0, none⟩) a3.size c_85 hl0 hl_98 (st_95.src_obj (i := 0) rfl h_90) ((bl_length _)) (h_88) r_103 r_109 hr_99) ?_
              rintro _ w_100 ⟨A_104, c_105, n_106, hn_107, rfl, sc_102⟩
              have st_101 : St w w_100 [.sl A_104 c_105 n_106 (iv .u8 r_103) 5 1, .obj B_84 (.cells cs_86.toArray 5 (c_85, c_85 + 1)), .sl A_18 c_19 n_20 (iv .u8 r_17) 5 1, .cells B_1 (iv .u8 l0) 23] := st_95.call sc_102
              refine ⟨_, rfl, ?_⟩
              refine WL.nil ?_
              refine AW.back ?_
              refine AW.take 7 rfl (by kernel_rfl) (by kernel_rfl) (by kernel_rfl) Wanted.none (fun _ => (Runs.move rfl)) ?_
              refine AW.take 8 rfl (by kernel_rfl) (by kernel_rfl) (by kernel_rfl) Wanted.none (fun _ => (Runs.extract rfl rfl)) ?_
              refine AW.take 9 rfl (by kernel_rfl) (by kernel_rfl) (by kernel_rfl) Wanted.none (fun _ => (Runs.extract rfl rfl)) ?_
              refine AW.take 10 rfl (by kernel_rfl) (by kernel_rfl) (by kernel_rfl) Wanted.none (fun _ => (Runs.assign rfl)) ?_
              refine AW.take 11 rfl (by kernel_rfl) (by kernel_rfl) (by kernel_rfl) Wanted.none (fun _ => (Runs.assign rfl)) ?_
              refine AW.done (by kernel_rfl) ?_
              refine QW.then_n ?_
              refine CW.sub [(8, .string (⟨#[]⟩ : ByteArray)), (9, .int .i64 0), (10, .slice A_18 n_20 c_19), (11, .slice A_104 n_106 c_105)] ⟨rfl, rfl, rfl, rfl, trivial⟩ ?_
              refine CW.seq ?_
              refine CW.region ?_
              refine WL.val Wanted.none (Runs.move rfl) ?_
              refine WL.val Wanted.none (Runs.move rfl) ?_
              obtain ⟨m_110, e_111, H⟩ := H
              obtain ⟨z_112, H⟩ := H
              obtain ⟨n_115, hn_118⟩ : ∃ n_ : Nat, n_ = m_110.length := ⟨_, rfl⟩
              refine WL.append (i := 2) Wanted.none st_101 rfl Tryd.underlying26 elem5 rfl rfl (st_101.src_sl (k := 0) rfl) (by rw [iv_length]; exact (hn_107).symm) (one_iv .u8 _) (by decide) (N := n_115) (by rw [hn_118, e_111, List.length_append]; exact congr (congrArg HAdd.hAdd (hn_21)) (hn_107)) (by rw [hn_118]; exact z_112) ?_
              intro A_113 c_114 w_116 st_117
              have st_117' : St w w_116 [.sl A_104 c_105 n_106 (iv .u8 r_103) 5 1, .obj B_84 (.cells cs_86.toArray 5 (c_85, c_85 + 1)), .sl A_113 c_114 n_115 (iv .u8 m_110) 5 1, .cells B_1 (iv .u8 l0) 23] := by rw [e_111, ← iv_append .u8 r_17 r_103]; exact st_117
              refine WL.val Wanted.none (Runs.assign rfl) ?_
              refine WL.nil ?_
              refine QW.then_n ?_
              refine CW.seq ?_
              refine CW.block ?_
              obtain ⟨k_119, H⟩ := H
              refine CW.sub [(8, .string (⟨#[]⟩ : ByteArray)), (9, .int .i64 0), (10, .slice A_113 n_115 c_114)] ⟨rfl, rfl, rfl, trivial⟩ ?_
              refine CW.loop (fun kL1 l_ w_ => ∃ (A_120 : Option Addr) (c_121 : Nat) (n_123 : Nat) (l_122 : List Int), l_ = [(8, .string (⟨#[]⟩ : ByteArray)), (9, .int .i64 0), (10, .slice A_120 n_123 c_121)] ∧ reliquaryref08_Seal.L1 r0 r1 kL1 l_122 ∧ (n_123 = l_122.length) ∧ St w w_ [.sl A_104 c_105 n_106 (iv .u8 r_103) 5 1, .obj B_84 (.cells cs_86.toArray 5 (c_85, c_85 + 1)), .sl A_120 c_121 n_123 (iv .u8 l_122) 5 1, .cells B_1 (iv .u8 l0) 23]) (k := k_119) ⟨A_113, c_114, n_115, m_110, rfl, H, hn_118, st_117'⟩ (fun _ _ h => by obtain ⟨_, _, _, _, _, h, _⟩ := h; exact h.elim) ?_
              rintro kL1 l_127 w_125 ⟨A_120, c_121, n_123, l_122, rfl, H, hn_124, st_126⟩
              refine CW.seq ?_
              refine CW.seq ?_
              refine CW.region ?_
              refine WL.val Wanted.none (Runs.move rfl) ?_
              refine WL.val Wanted.none (Runs.len_sl Tryd.underlying26 rfl (by rw [hn_124])) ?_
              refine WL.val Wanted.none (Runs.lss rfl rfl rfl) ?_
              refine WL.nil ?_
              refine QW.then_n ?_
              rcases H with ⟨c_128, H⟩ | ⟨c_128, H⟩
              · have h_129 : (decide ((l_122.length : Int) < 192)) = true := (decide_eq_true c_128)
                refine CW.ct rfl h_129 ?_
                refine CW.skip ?_
                refine QW.then_n ?_
                refine CW.block ?_
                refine CW.region ?_
                refine WL.val Wanted.none (Runs.move rfl) ?_
                refine WL.buildSl [.int .u8 0] st_126 Tryd.underlying26 elem5 rfl rfl (by decide) (by decide) (by simp [Value.cells]) ?_
                intro B_130 w_131 st_132
                replace st_132 : St w w_131 [.sl (some ⟨B_130, 0, none⟩) 1 1 (iv .u8 [0]) 5 1, .sl A_104 c_105 n_106 (iv .u8 r_103) 5 1, .obj B_84 (.cells cs_86.toArray 5 (c_85, c_85 + 1)), .sl A_120 c_121 n_123 (iv .u8 l_122) 5 1, .cells B_1 (iv .u8 l0) 23] := st_132
                obtain ⟨m_134, e_135, H⟩ := H
                obtain ⟨z_136, H⟩ := H
                obtain ⟨n_139, hn_142⟩ : ∃ n_ : Nat, n_ = m_134.length := ⟨_, rfl⟩
                refine WL.append (i := 3) Wanted.none st_132 rfl Tryd.underlying26 elem5 rfl rfl (st_132.src_sl (k := 0) rfl) (by rw [iv_length]; exact (Eq.refl _).symm) (one_iv .u8 _) (by decide) (N := n_139) (by rw [hn_142, e_135, List.length_append]; exact congr (congrArg HAdd.hAdd (hn_124)) (rfl)) (by rw [hn_142]; exact z_136) ?_
                intro A_137 c_138 w_140 st_141
                have st_141' : St w w_140 [.sl (some ⟨B_130, 0, none⟩) 1 1 (iv .u8 [0]) 5 1, .sl A_104 c_105 n_106 (iv .u8 r_103) 5 1, .obj B_84 (.cells cs_86.toArray 5 (c_85, c_85 + 1)), .sl A_137 c_138 n_139 (iv .u8 m_134) 5 1, .cells B_1 (iv .u8 l0) 23] := by rw [e_135, ← iv_append .u8 l_122 [0]]; exact st_141
                refine WL.val Wanted.none (Runs.assign rfl) ?_
                refine WL.nil ?_
                refine QW.blk_n ?_
                have st_141'' := st_141'.pick [1, 2, 3, 4] (by decide)
                exact QW.at [(8, .string (⟨#[]⟩ : ByteArray)), (9, .int .i64 0), (10, .slice A_137 n_139 c_138)] ⟨rfl, rfl, rfl, trivial⟩ ⟨A_137, c_138, n_139, m_134, rfl, H, hn_142, st_141''⟩
              · have h_129 : (decide ((l_122.length : Int) < 192)) = false := (decide_eq_false c_128)
                refine CW.cf rfl h_129 ?_
                refine CW.exit ?_
                refine QW.then_x ?_
                refine QW.then_x ?_
                refine QW.blk_x ?_
                refine QW.then_n ?_
                refine CW.seq ?_
                refine CW.region ?_
                refine WL.val Wanted.none (Runs.move rfl) ?_
                refine WL.val Wanted.none (Runs.bytes_str Tryd.underlying26 Tryd.underlying5 Tryd.underlying9 rfl (st_126.src_sl (k := 2) rfl) hn_124) ?_
                refine WL.val Wanted.none (Runs.assign rfl) ?_
                refine WL.val Wanted.none (Runs.assign rfl) ?_
                refine WL.nil ?_
                refine QW.then_n ?_
                refine CW.sub [(8, .string (strOfNums l_122)), (9, .int .i64 0)] ⟨rfl, rfl, trivial⟩ ?_
                refine CW.ret ?_
                obtain ⟨rfl, rfl⟩ := H
                exact QW.ret2 rfl rfl rfl ⟨rfl, st_126.pick [] (by decide)⟩
          · obtain ⟨r_147, hr_143, H⟩ := H
            refine WL.call Wanted.none ent22 rfl (reliquaryref04_Nonce.calls w_23 a1 a2 r_147 hr_143) ?_
            rintro _ w_144 ⟨hl_148, rfl, sc_146⟩
            have st_145 : St w w_144 [.sl A_18 c_19 n_20 (iv .u8 r_17) 5 1, .cells B_1 (iv .u8 l0) 23] := st_24.call sc_146
            refine ⟨_, rfl, ?_⟩
            refine WL.nil ?_
            refine AW.back ?_
            refine AW.step2 0 5 rfl rfl (by kernel_rfl) ?_ ?_
            · refine WL.val Wanted.none (Runs.load_arr arr23 rfl (st_145.blk (i := 1) rfl) hl0) ?_
              refine WL.nil ?_
              refine AW.back ?_
              refine AW.step 5 rfl (by kernel_rfl) ?_
              refine WL.bytes st_145 Tryd.underlying9 Tryd.underlying26 Tryd.underlying5 rfl ?_
              intro B_149 c_150 cs_151 w_152 h_153 h_154 h_155 st_156
              replace st_156 : St w w_152 [.obj B_149 (.cells cs_151.toArray 5 (c_150, c_150 + 1)), .sl A_18 c_19 n_20 (iv .u8 r_17) 5 1, .cells B_1 (iv .u8 l0) 23] := st_156
              refine WL.nil ?_
              refine AW.back ?_
              refine AW.step 6 rfl (by kernel_rfl) ?_
              obtain ⟨r_162, r_168, hr_158, H⟩ := H
              refine WL.call Wanted.none ent21 rfl (reliquaryref04_Crypt.calls w_152 l0 0 r_147 (bl a3) (some ⟨B_149, 0, none⟩) a3.size c_150 hl0 hl_148 (st_156.src_obj (i := 0) rfl h_155) ((bl_length _)) (h_153) r_162 r_168 hr_158) ?_
              rintro _ w_159 ⟨A_163, c_164, n_165, hn_166, rfl, sc_161⟩
              have st_160 : St w w_159 [.sl A_163 c_164 n_165 (iv .u8 r_162) 5 1, .obj B_149 (.cells cs_151.toArray 5 (c_150, c_150 + 1)), .sl A_18 c_19 n_20 (iv .u8 r_17) 5 1, .cells B_1 (iv .u8 l0) 23] := st_156.call sc_161
              refine ⟨_, rfl, ?_⟩
              refine WL.nil ?_
              refine AW.back ?_
              refine AW.take 7 rfl (by kernel_rfl) (by kernel_rfl) (by kernel_rfl) Wanted.none (fun _ => (Runs.move rfl)) ?_
              refine AW.take 8 rfl (by kernel_rfl) (by kernel_rfl) (by kernel_rfl) Wanted.none (fun _ => (Runs.extract rfl rfl)) ?_
              refine AW.take 9 rfl (by kernel_rfl) (by kernel_rfl) (by kernel_rfl) Wanted.none (fun _ => (Runs.extract rfl rfl)) ?_
              refine AW.take 10 rfl (by kernel_rfl) (by kernel_rfl) (by kernel_rfl) Wanted.none (fun _ => (Runs.assign rfl)) ?_
              refine AW.take 11 rfl (by kernel_rfl) (by kernel_rfl) (by kernel_rfl) Wanted.none (fun _ => (Runs.assign rfl)) ?_
              refine AW.done (by kernel_rfl) ?_
              refine QW.then_n ?_
              refine CW.sub [(8, .string (⟨#[]⟩ : ByteArray)), (9, .int .i64 0), (10, .slice A_18 n_20 c_19), (11, .slice A_163 n_165 c_164)] ⟨rfl, rfl, rfl, rfl, trivial⟩ ?_
              refine CW.seq ?_
              refine CW.region ?_
              refine WL.val Wanted.none (Runs.move rfl) ?_
              refine WL.val Wanted.none (Runs.move rfl) ?_
              obtain ⟨m_169, e_170, H⟩ := H
              obtain ⟨z_171, H⟩ := H
              obtain ⟨n_174, hn_177⟩ : ∃ n_ : Nat, n_ = m_169.length := ⟨_, rfl⟩
              refine WL.append (i := 2) Wanted.none st_160 rfl Tryd.underlying26 elem5 rfl rfl (st_160.src_sl (k := 0) rfl) (by rw [iv_length]; exact (hn_166).symm) (one_iv .u8 _) (by decide) (N := n_174) (by rw [hn_177, e_170, List.length_append]; exact congr (congrArg HAdd.hAdd (hn_21)) (hn_166)) (by rw [hn_177]; exact z_171) ?_
              intro A_172 c_173 w_175 st_176
              have st_176' : St w w_175 [.sl A_163 c_164 n_165 (iv .u8 r_162) 5 1, .obj B_149 (.cells cs_151.toArray 5 (c_150, c_150 + 1)), .sl A_172 c_173 n_174 (iv .u8 m_169) 5 1, .cells B_1 (iv .u8 l0) 23] := by rw [e_170, ← iv_append .u8 r_17 r_162]; exact st_176
              refine WL.val Wanted.none (Runs.assign rfl) ?_
              refine WL.nil ?_
              refine QW.then_n ?_
              refine CW.seq ?_
              refine CW.block ?_
              obtain ⟨k_178, H⟩ := H
              refine CW.sub [(8, .string (⟨#[]⟩ : ByteArray)), (9, .int .i64 0), (10, .slice A_172 n_174 c_173)] ⟨rfl, rfl, rfl, trivial⟩ ?_
              refine CW.loop (fun kL1 l_ w_ => ∃ (A_179 : Option Addr) (c_180 : Nat) (n_182 : Nat) (l_181 : List Int), l_ = [(8, .string (⟨#[]⟩ : ByteArray)), (9, .int .i64 0), (10, .slice A_179 n_182 c_180)] ∧ reliquaryref08_Seal.L1 r0 r1 kL1 l_181 ∧ (n_182 = l_181.length) ∧ St w w_ [.sl A_163 c_164 n_165 (iv .u8 r_162) 5 1, .obj B_149 (.cells cs_151.toArray 5 (c_150, c_150 + 1)), .sl A_179 c_180 n_182 (iv .u8 l_181) 5 1, .cells B_1 (iv .u8 l0) 23]) (k := k_178) ⟨A_172, c_173, n_174, m_169, rfl, H, hn_177, st_176'⟩ (fun _ _ h => by obtain ⟨_, _, _, _, _, h, _⟩ := h; exact h.elim) ?_
              rintro kL1 l_186 w_184 ⟨A_179, c_180, n_182, l_181, rfl, H, hn_183, st_185⟩
              refine CW.seq ?_
              refine CW.seq ?_
              refine CW.region ?_
              refine WL.val Wanted.none (Runs.move rfl) ?_
              refine WL.val Wanted.none (Runs.len_sl Tryd.underlying26 rfl (by rw [hn_183])) ?_
              refine WL.val Wanted.none (Runs.lss rfl rfl rfl) ?_
              refine WL.nil ?_
              refine QW.then_n ?_
              rcases H with ⟨c_187, H⟩ | ⟨c_187, H⟩
              · have h_188 : (decide ((l_181.length : Int) < 192)) = true := (decide_eq_true c_187)
                refine CW.ct rfl h_188 ?_
                refine CW.skip ?_
                refine QW.then_n ?_
                refine CW.block ?_
                refine CW.region ?_
                refine WL.val Wanted.none (Runs.move rfl) ?_
                refine WL.buildSl [.int .u8 0] st_185 Tryd.underlying26 elem5 rfl rfl (by decide) (by decide) (by simp [Value.cells]) ?_
                intro B_189 w_190 st_191
                replace st_191 : St w w_190 [.sl (some ⟨B_189, 0, none⟩) 1 1 (iv .u8 [0]) 5 1, .sl A_163 c_164 n_165 (iv .u8 r_162) 5 1, .obj B_149 (.cells cs_151.toArray 5 (c_150, c_150 + 1)), .sl A_179 c_180 n_182 (iv .u8 l_181) 5 1, .cells B_1 (iv .u8 l0) 23] := st_191
                obtain ⟨m_193, e_194, H⟩ := H
                obtain ⟨z_195, H⟩ := H
                obtain ⟨n_198, hn_201⟩ : ∃ n_ : Nat, n_ = m_193.length := ⟨_, rfl⟩
                refine WL.append (i := 3) Wanted.none st_191 rfl Tryd.underlying26 elem5 rfl rfl (st_191.src_sl (k := 0) rfl) (by rw [iv_length]; exact (Eq.refl _).symm) (one_iv .u8 _) (by decide) (N := n_198) (by rw [hn_201, e_194, List.length_append]; exact congr (congrArg HAdd.hAdd (hn_183)) (rfl)) (by rw [hn_201]; exact z_195) ?_
                intro A_196 c_197 w_199 st_200
                have st_200' : St w w_199 [.sl (some ⟨B_189, 0, none⟩) 1 1 (iv .u8 [0]) 5 1, .sl A_163 c_164 n_165 (iv .u8 r_162) 5 1, .obj B_149 (.cells cs_151.toArray 5 (c_150, c_150 + 1)), .sl A_196 c_197 n_198 (iv .u8 m_193) 5 1, .cells B_1 (iv .u8 l0) 23] := by rw [e_194, ← iv_append .u8 l_181 [0]]; exact st_200
                refine WL.val Wanted.none (Runs.assign rfl) ?_
                refine WL.nil ?_
                refine QW.blk_n ?_
                have st_200'' := st_200'.pick [1, 2, 3, 4] (by decide)
                exact QW.at [(8, .string (⟨#[]⟩ : ByteArray)), (9, .int .i64 0), (10, .slice A_196 n_198 c_197)] ⟨rfl, rfl, rfl, trivial⟩ ⟨A_196, c_197, n_198, m_193, rfl, H, hn_201, st_200''⟩
              · have h_188 : (decide ((l_181.length : Int) < 192)) = false := (decide_eq_false c_187)
                refine CW.cf rfl h_188 ?_
                refine CW.exit ?_
                refine QW.then_x ?_
                refine QW.then_x ?_
                refine QW.blk_x ?_
                refine QW.then_n ?_
                refine CW.seq ?_
                refine CW.region ?_
                refine WL.val Wanted.none (Runs.move rfl) ?_
                refine WL.val Wanted.none (Runs.bytes_str Tryd.underlying26 Tryd.underlying5 Tryd.underlying9 rfl (st_185.src_sl (k := 2) rfl) hn_183) ?_
                refine WL.val Wanted.none (Runs.assign rfl) ?_
                refine WL.val Wanted.none (Runs.assign rfl) ?_
                refine WL.nil ?_
                refine QW.then_n ?_
                refine CW.sub [(8, .string (strOfNums l_181)), (9, .int .i64 0)] ⟨rfl, rfl, trivial⟩ ?_
                refine CW.ret ?_
                obtain ⟨rfl, rfl⟩ := H
                exact QW.ret2 rfl rfl rfl ⟨rfl, st_185.pick [] (by decide)⟩
            · refine WL.bytes st_145 Tryd.underlying9 Tryd.underlying26 Tryd.underlying5 rfl ?_
              intro B_202 c_203 cs_204 w_205 h_206 h_207 h_208 st_209
              replace st_209 : St w w_205 [.obj B_202 (.cells cs_204.toArray 5 (c_203, c_203 + 1)), .sl A_18 c_19 n_20 (iv .u8 r_17) 5 1, .cells B_1 (iv .u8 l0) 23] := st_209
              refine WL.nil ?_
              refine AW.back ?_
              refine AW.step 0 rfl (by kernel_rfl) ?_
              refine WL.val Wanted.none (Runs.load_arr arr23 rfl (st_209.blk (i := 2) rfl) hl0) ?_
              refine WL.nil ?_
              refine AW.back ?_
              refine AW.step 6 rfl (by kernel_rfl) ?_
              obtain ⟨r_215, r_221, hr_211, H⟩ := H
              refine WL.call Wanted.none ent21 rfl (reliquaryref04_Crypt.calls w_205 l0 0 r_147 (bl a3) (some ⟨B_202, 0, none⟩) a3.size c_203 hl0 hl_148 (st_209.src_obj (i := 0) rfl h_208) ((bl_length _)) (h_206) r_215 r_221 hr_211) ?_
              rintro _ w_212 ⟨A_216, c_217, n_218, hn_219, rfl, sc_214⟩
              have st_213 : St w w_212 [.sl A_216 c_217 n_218 (iv .u8 r_215) 5 1, .obj B_202 (.cells cs_204.toArray 5 (c_203, c_203 + 1)), .sl A_18 c_19 n_20 (iv .u8 r_17) 5 1, .cells B_1 (iv .u8 l0) 23] := st_209.call sc_214
              refine ⟨_, rfl, ?_⟩
              refine WL.nil ?_
              refine AW.back ?_
              refine AW.take 7 rfl (by kernel_rfl) (by kernel_rfl) (by kernel_rfl) Wanted.none (fun _ => (Runs.move rfl)) ?_
              refine AW.take 8 rfl (by kernel_rfl) (by kernel_rfl) (by kernel_rfl) Wanted.none (fun _ => (Runs.extract rfl rfl)) ?_
              refine AW.take 9 rfl (by kernel_rfl) (by kernel_rfl) (by kernel_rfl) Wanted.none (fun _ => (Runs.extract rfl rfl)) ?_
              refine AW.take 10 rfl (by kernel_rfl) (by kernel_rfl) (by kernel_rfl) Wanted.none (fun _ => (Runs.assign rfl)) ?_
              refine AW.take 11 rfl (by kernel_rfl) (by kernel_rfl) (by kernel_rfl) Wanted.none (fun _ => (Runs.assign rfl)) ?_
              refine AW.done (by kernel_rfl) ?_
              refine QW.then_n ?_
              refine CW.sub [(8, .string (⟨#[]⟩ : ByteArray)), (9, .int .i64 0), (10, .slice A_18 n_20 c_19), (11, .slice A_216 n_218 c_217)] ⟨rfl, rfl, rfl, rfl, trivial⟩ ?_
              refine CW.seq ?_
              refine CW.region ?_
              refine WL.val Wanted.none (Runs.move rfl) ?_
              refine WL.val Wanted.none (Runs.move rfl) ?_
              obtain ⟨m_222, e_223, H⟩ := H
              obtain ⟨z_224, H⟩ := H
              obtain ⟨n_227, hn_230⟩ : ∃ n_ : Nat, n_ = m_222.length := ⟨_, rfl⟩
              refine WL.append (i := 2) Wanted.none st_213 rfl Tryd.underlying26 elem5 rfl rfl (st_213.src_sl (k := 0) rfl) (by rw [iv_length]; exact (hn_219).symm) (one_iv .u8 _) (by decide) (N := n_227) (by rw [hn_230, e_223, List.length_append]; exact congr (congrArg HAdd.hAdd (hn_21)) (hn_219)) (by rw [hn_230]; exact z_224) ?_
              intro A_225 c_226 w_228 st_229
              have st_229' : St w w_228 [.sl A_216 c_217 n_218 (iv .u8 r_215) 5 1, .obj B_202 (.cells cs_204.toArray 5 (c_203, c_203 + 1)), .sl A_225 c_226 n_227 (iv .u8 m_222) 5 1, .cells B_1 (iv .u8 l0) 23] := by rw [e_223, ← iv_append .u8 r_17 r_215]; exact st_229
              refine WL.val Wanted.none (Runs.assign rfl) ?_
              refine WL.nil ?_
              refine QW.then_n ?_
              refine CW.seq ?_
              refine CW.block ?_
              obtain ⟨k_231, H⟩ := H
              refine CW.sub [(8, .string (⟨#[]⟩ : ByteArray)), (9, .int .i64 0), (10, .slice A_225 n_227 c_226)] ⟨rfl, rfl, rfl, trivial⟩ ?_
              refine CW.loop (fun kL1 l_ w_ => ∃ (A_232 : Option Addr) (c_233 : Nat) (n_235 : Nat) (l_234 : List Int), l_ = [(8, .string (⟨#[]⟩ : ByteArray)), (9, .int .i64 0), (10, .slice A_232 n_235 c_233)] ∧ reliquaryref08_Seal.L1 r0 r1 kL1 l_234 ∧ (n_235 = l_234.length) ∧ St w w_ [.sl A_216 c_217 n_218 (iv .u8 r_215) 5 1, .obj B_202 (.cells cs_204.toArray 5 (c_203, c_203 + 1)), .sl A_232 c_233 n_235 (iv .u8 l_234) 5 1, .cells B_1 (iv .u8 l0) 23]) (k := k_231) ⟨A_225, c_226, n_227, m_222, rfl, H, hn_230, st_229'⟩ (fun _ _ h => by obtain ⟨_, _, _, _, _, h, _⟩ := h; exact h.elim) ?_
              rintro kL1 l_239 w_237 ⟨A_232, c_233, n_235, l_234, rfl, H, hn_236, st_238⟩
              refine CW.seq ?_
              refine CW.seq ?_
              refine CW.region ?_
              refine WL.val Wanted.none (Runs.move rfl) ?_
              refine WL.val Wanted.none (Runs.len_sl Tryd.underlying26 rfl (by rw [hn_236])) ?_
              refine WL.val Wanted.none (Runs.lss rfl rfl rfl) ?_
              refine WL.nil ?_
              refine QW.then_n ?_
              rcases H with ⟨c_240, H⟩ | ⟨c_240, H⟩
              · have h_241 : (decide ((l_234.length : Int) < 192)) = true := (decide_eq_true c_240)
                refine CW.ct rfl h_241 ?_
                refine CW.skip ?_
                refine QW.then_n ?_
                refine CW.block ?_
                refine CW.region ?_
                refine WL.val Wanted.none (Runs.move rfl) ?_
                refine WL.buildSl [.int .u8 0] st_238 Tryd.underlying26 elem5 rfl rfl (by decide) (by decide) (by simp [Value.cells]) ?_
                intro B_242 w_243 st_244
                replace st_244 : St w w_243 [.sl (some ⟨B_242, 0, none⟩) 1 1 (iv .u8 [0]) 5 1, .sl A_216 c_217 n_218 (iv .u8 r_215) 5 1, .obj B_202 (.cells cs_204.toArray 5 (c_203, c_203 + 1)), .sl A_232 c_233 n_235 (iv .u8 l_234) 5 1, .cells B_1 (iv .u8 l0) 23] := st_244
                obtain ⟨m_246, e_247, H⟩ := H
                obtain ⟨z_248, H⟩ := H
                obtain ⟨n_251, hn_254⟩ : ∃ n_ : Nat, n_ = m_246.length := ⟨_, rfl⟩
                refine WL.append (i := 3) Wanted.none st_244 rfl Tryd.underlying26 elem5 rfl rfl (st_244.src_sl (k := 0) rfl) (by rw [iv_length]; exact (Eq.refl _).symm) (one_iv .u8 _) (by decide) (N := n_251) (by rw [hn_254, e_247, List.length_append]; exact congr (congrArg HAdd.hAdd (hn_236)) (rfl)) (by rw [hn_254]; exact z_248) ?_
                intro A_249 c_250 w_252 st_253
                have st_253' : St w w_252 [.sl (some ⟨B_242, 0, none⟩) 1 1 (iv .u8 [0]) 5 1, .sl A_216 c_217 n_218 (iv .u8 r_215) 5 1, .obj B_202 (.cells cs_204.toArray 5 (c_203, c_203 + 1)), .sl A_249 c_250 n_251 (iv .u8 m_246) 5 1, .cells B_1 (iv .u8 l0) 23] := by rw [e_247, ← iv_append .u8 l_234 [0]]; exact st_253
                refine WL.val Wanted.none (Runs.assign rfl) ?_
                refine WL.nil ?_
                refine QW.blk_n ?_
                have st_253'' := st_253'.pick [1, 2, 3, 4] (by decide)
                exact QW.at [(8, .string (⟨#[]⟩ : ByteArray)), (9, .int .i64 0), (10, .slice A_249 n_251 c_250)] ⟨rfl, rfl, rfl, trivial⟩ ⟨A_249, c_250, n_251, m_246, rfl, H, hn_254, st_253''⟩
              · have h_241 : (decide ((l_234.length : Int) < 192)) = false := (decide_eq_false c_240)
                refine CW.cf rfl h_241 ?_
                refine CW.exit ?_
                refine QW.then_x ?_
                refine QW.then_x ?_
                refine QW.blk_x ?_
                refine QW.then_n ?_
                refine CW.seq ?_
                refine CW.region ?_
                refine WL.val Wanted.none (Runs.move rfl) ?_
                refine WL.val Wanted.none (Runs.bytes_str Tryd.underlying26 Tryd.underlying5 Tryd.underlying9 rfl (st_238.src_sl (k := 2) rfl) hn_236) ?_
                refine WL.val Wanted.none (Runs.assign rfl) ?_
                refine WL.val Wanted.none (Runs.assign rfl) ?_
                refine WL.nil ?_
                refine QW.then_n ?_
                refine CW.sub [(8, .string (strOfNums l_234)), (9, .int .i64 0)] ⟨rfl, rfl, trivial⟩ ?_
                refine CW.ret ?_
                obtain ⟨rfl, rfl⟩ := H
                exact QW.ret2 rfl rfl rfl ⟨rfl, st_238.pick [] (by decide)⟩
          · refine WL.bytes st_24 Tryd.underlying9 Tryd.underlying26 Tryd.underlying5 rfl ?_
            intro B_255 c_256 cs_257 w_258 h_259 h_260 h_261 st_262
            replace st_262 : St w w_258 [.obj B_255 (.cells cs_257.toArray 5 (c_256, c_256 + 1)), .sl A_18 c_19 n_20 (iv .u8 r_17) 5 1, .cells B_1 (iv .u8 l0) 23] := st_262
            refine WL.nil ?_
            refine AW.back ?_
            refine AW.step2 0 3 rfl rfl (by kernel_rfl) ?_ ?_
            · refine WL.val Wanted.none (Runs.load_arr arr23 rfl (st_262.blk (i := 2) rfl) hl0) ?_
              refine WL.nil ?_
              refine AW.back ?_
              refine AW.step 3 rfl (by kernel_rfl) ?_
              obtain ⟨r_268, hr_264, H⟩ := H
              refine WL.call Wanted.none ent22 rfl (reliquaryref04_Nonce.calls w_258 a1 a2 r_268 hr_264) ?_
              rintro _ w_265 ⟨hl_269, rfl, sc_267⟩
              have st_266 : St w w_265 [.obj B_255 (.cells cs_257.toArray 5 (c_256, c_256 + 1)), .sl A_18 c_19 n_20 (iv .u8 r_17) 5 1, .cells B_1 (iv .u8 l0) 23] := st_262.call sc_267
              refine ⟨_, rfl, ?_⟩
              refine WL.nil ?_
              refine AW.back ?_
              refine AW.step 6 rfl (by kernel_rfl) ?_
              obtain ⟨r_274, r_280, hr_270, H⟩ := H
              refine WL.call Wanted.none ent21 rfl (reliquaryref04_Crypt.calls w_265 l0 0 r_268 (bl a3) (some ⟨B_255, 0, none⟩) a3.size c_256 hl0 hl_269 (st_266.src_obj (i := 0) rfl h_261) ((bl_length _)) (h_259) r_274 r_280 hr_270) ?_
              rintro _ w_271 ⟨A_275, c_276, n_277, hn_278, rfl, sc_273⟩
              have st_272 : St w w_271 [.sl A_275 c_276 n_277 (iv .u8 r_274) 5 1, .obj B_255 (.cells cs_257.toArray 5 (c_256, c_256 + 1)), .sl A_18 c_19 n_20 (iv .u8 r_17) 5 1, .cells B_1 (iv .u8 l0) 23] := st_266.call sc_273
              refine ⟨_, rfl, ?_⟩
              refine WL.nil ?_
              refine AW.back ?_
              refine AW.take 7 rfl (by kernel_rfl) (by kernel_rfl) (by kernel_rfl) Wanted.none (fun _ => (Runs.move rfl)) ?_
              refine AW.take 8 rfl (by kernel_rfl) (by kernel_rfl) (by kernel_rfl) Wanted.none (fun _ => (Runs.extract rfl rfl)) ?_
              refine AW.take 9 rfl (by kernel_rfl) (by kernel_rfl) (by kernel_rfl) Wanted.none (fun _ => (Runs.extract rfl rfl)) ?_
              refine AW.take 10 rfl (by kernel_rfl) (by kernel_rfl) (by kernel_rfl) Wanted.none (fun _ => (Runs.assign rfl)) ?_
              refine AW.take 11 rfl (by kernel_rfl) (by kernel_rfl) (by kernel_rfl) Wanted.none (fun _ => (Runs.assign rfl)) ?_
              refine AW.done (by kernel_rfl) ?_
              refine QW.then_n ?_
              refine CW.sub [(8, .string (⟨#[]⟩ : ByteArray)), (9, .int .i64 0), (10, .slice A_18 n_20 c_19), (11, .slice A_275 n_277 c_276)] ⟨rfl, rfl, rfl, rfl, trivial⟩ ?_
              refine CW.seq ?_
              refine CW.region ?_
              refine WL.val Wanted.none (Runs.move rfl) ?_
              refine WL.val Wanted.none (Runs.move rfl) ?_
              obtain ⟨m_281, e_282, H⟩ := H
              obtain ⟨z_283, H⟩ := H
              obtain ⟨n_286, hn_289⟩ : ∃ n_ : Nat, n_ = m_281.length := ⟨_, rfl⟩
              refine WL.append (i := 2) Wanted.none st_272 rfl Tryd.underlying26 elem5 rfl rfl (st_272.src_sl (k := 0) rfl) (by rw [iv_length]; exact (hn_278).symm) (one_iv .u8 _) (by decide) (N := n_286) (by rw [hn_289, e_282, List.length_append]; exact congr (congrArg HAdd.hAdd (hn_21)) (hn_278)) (by rw [hn_289]; exact z_283) ?_
              intro A_284 c_285 w_287 st_288
              have st_288' : St w w_287 [.sl A_275 c_276 n_277 (iv .u8 r_274) 5 1, .obj B_255 (.cells cs_257.toArray 5 (c_256, c_256 + 1)), .sl A_284 c_285 n_286 (iv .u8 m_281) 5 1, .cells B_1 (iv .u8 l0) 23] := by rw [e_282, ← iv_append .u8 r_17 r_274]; exact st_288
              refine WL.val Wanted.none (Runs.assign rfl) ?_
              refine WL.nil ?_
              refine QW.then_n ?_
              refine CW.seq ?_
              refine CW.block ?_
              obtain ⟨k_290, H⟩ := H
              refine CW.sub [(8, .string (⟨#[]⟩ : ByteArray)), (9, .int .i64 0), (10, .slice A_284 n_286 c_285)] ⟨rfl, rfl, rfl, trivial⟩ ?_
              refine CW.loop (fun kL1 l_ w_ => ∃ (A_291 : Option Addr) (c_292 : Nat) (n_294 : Nat) (l_293 : List Int), l_ = [(8, .string (⟨#[]⟩ : ByteArray)), (9, .int .i64 0), (10, .slice A_291 n_294 c_292)] ∧ reliquaryref08_Seal.L1 r0 r1 kL1 l_293 ∧ (n_294 = l_293.length) ∧ St w w_ [.sl A_275 c_276 n_277 (iv .u8 r_274) 5 1, .obj B_255 (.cells cs_257.toArray 5 (c_256, c_256 + 1)), .sl A_291 c_292 n_294 (iv .u8 l_293) 5 1, .cells B_1 (iv .u8 l0) 23]) (k := k_290) ⟨A_284, c_285, n_286, m_281, rfl, H, hn_289, st_288'⟩ (fun _ _ h => by obtain ⟨_, _, _, _, _, h, _⟩ := h; exact h.elim) ?_
              rintro kL1 l_298 w_296 ⟨A_291, c_292, n_294, l_293, rfl, H, hn_295, st_297⟩
              refine CW.seq ?_
              refine CW.seq ?_
              refine CW.region ?_
              refine WL.val Wanted.none (Runs.move rfl) ?_
              refine WL.val Wanted.none (Runs.len_sl Tryd.underlying26 rfl (by rw [hn_295])) ?_
              refine WL.val Wanted.none (Runs.lss rfl rfl rfl) ?_
              refine WL.nil ?_
              refine QW.then_n ?_
              rcases H with ⟨c_299, H⟩ | ⟨c_299, H⟩
              · have h_300 : (decide ((l_293.length : Int) < 192)) = true := (decide_eq_true c_299)
                refine CW.ct rfl h_300 ?_
                refine CW.skip ?_
                refine QW.then_n ?_
                refine CW.block ?_
                refine CW.region ?_
                refine WL.val Wanted.none (Runs.move rfl) ?_
                refine WL.buildSl [.int .u8 0] st_297 Tryd.underlying26 elem5 rfl rfl (by decide) (by decide) (by simp [Value.cells]) ?_
                intro B_301 w_302 st_303
                replace st_303 : St w w_302 [.sl (some ⟨B_301, 0, none⟩) 1 1 (iv .u8 [0]) 5 1, .sl A_275 c_276 n_277 (iv .u8 r_274) 5 1, .obj B_255 (.cells cs_257.toArray 5 (c_256, c_256 + 1)), .sl A_291 c_292 n_294 (iv .u8 l_293) 5 1, .cells B_1 (iv .u8 l0) 23] := st_303
                obtain ⟨m_305, e_306, H⟩ := H
                obtain ⟨z_307, H⟩ := H
                obtain ⟨n_310, hn_313⟩ : ∃ n_ : Nat, n_ = m_305.length := ⟨_, rfl⟩
                refine WL.append (i := 3) Wanted.none st_303 rfl Tryd.underlying26 elem5 rfl rfl (st_303.src_sl (k := 0) rfl) (by rw [iv_length]; exact (Eq.refl _).symm) (one_iv .u8 _) (by decide) (N := n_310) (by rw [hn_313, e_306, List.length_append]; exact congr (congrArg HAdd.hAdd (hn_295)) (rfl)) (by rw [hn_313]; exact z_307) ?_
                intro A_308 c_309 w_311 st_312
                have st_312' : St w w_311 [.sl (some ⟨B_301, 0, none⟩) 1 1 (iv .u8 [0]) 5 1, .sl A_275 c_276 n_277 (iv .u8 r_274) 5 1, .obj B_255 (.cells cs_257.toArray 5 (c_256, c_256 + 1)), .sl A_308 c_309 n_310 (iv .u8 m_305) 5 1, .cells B_1 (iv .u8 l0) 23] := by rw [e_306, ← iv_append .u8 l_293 [0]]; exact st_312
                refine WL.val Wanted.none (Runs.assign rfl) ?_
                refine WL.nil ?_
                refine QW.blk_n ?_
                have st_312'' := st_312'.pick [1, 2, 3, 4] (by decide)
                exact QW.at [(8, .string (⟨#[]⟩ : ByteArray)), (9, .int .i64 0), (10, .slice A_308 n_310 c_309)] ⟨rfl, rfl, rfl, trivial⟩ ⟨A_308, c_309, n_310, m_305, rfl, H, hn_313, st_312''⟩
              · have h_300 : (decide ((l_293.length : Int) < 192)) = false := (decide_eq_false c_299)
                refine CW.cf rfl h_300 ?_
                refine CW.exit ?_
                refine QW.then_x ?_
                refine QW.then_x ?_
                refine QW.blk_x ?_
                refine QW.then_n ?_
                refine CW.seq ?_
                refine CW.region ?_
                refine WL.val Wanted.none (Runs.move rfl) ?_
                refine WL.val Wanted.none (Runs.bytes_str Tryd.underlying26 Tryd.underlying5 Tryd.underlying9 rfl (st_297.src_sl (k := 2) rfl) hn_295) ?_
                refine WL.val Wanted.none (Runs.assign rfl) ?_
                refine WL.val Wanted.none (Runs.assign rfl) ?_
                refine WL.nil ?_
                refine QW.then_n ?_
                refine CW.sub [(8, .string (strOfNums l_293)), (9, .int .i64 0)] ⟨rfl, rfl, trivial⟩ ?_
                refine CW.ret ?_
                obtain ⟨rfl, rfl⟩ := H
                exact QW.ret2 rfl rfl rfl ⟨rfl, st_297.pick [] (by decide)⟩
            · obtain ⟨r_318, hr_314, H⟩ := H
              refine WL.call Wanted.none ent22 rfl (reliquaryref04_Nonce.calls w_258 a1 a2 r_318 hr_314) ?_
              rintro _ w_315 ⟨hl_319, rfl, sc_317⟩
              have st_316 : St w w_315 [.obj B_255 (.cells cs_257.toArray 5 (c_256, c_256 + 1)), .sl A_18 c_19 n_20 (iv .u8 r_17) 5 1, .cells B_1 (iv .u8 l0) 23] := st_262.call sc_317
              refine ⟨_, rfl, ?_⟩
              refine WL.nil ?_
              refine AW.back ?_
              refine AW.step 0 rfl (by kernel_rfl) ?_
              refine WL.val Wanted.none (Runs.load_arr arr23 rfl (st_316.blk (i := 2) rfl) hl0) ?_
              refine WL.nil ?_
              refine AW.back ?_
              refine AW.step 6 rfl (by kernel_rfl) ?_
              obtain ⟨r_324, r_330, hr_320, H⟩ := H
              refine WL.call Wanted.none ent21 rfl (reliquaryref04_Crypt.calls w_315 l0 0 r_318 (bl a3) (some ⟨B_255, 0, none⟩) a3.size c_256 hl0 hl_319 (st_316.src_obj (i := 0) rfl h_261) ((bl_length _)) (h_259) r_324 r_330 hr_320) ?_
              rintro _ w_321 ⟨A_325, c_326, n_327, hn_328, rfl, sc_323⟩
              have st_322 : St w w_321 [.sl A_325 c_326 n_327 (iv .u8 r_324) 5 1, .obj B_255 (.cells cs_257.toArray 5 (c_256, c_256 + 1)), .sl A_18 c_19 n_20 (iv .u8 r_17) 5 1, .cells B_1 (iv .u8 l0) 23] := st_316.call sc_323
              refine ⟨_, rfl, ?_⟩
              refine WL.nil ?_
              refine AW.back ?_
              refine AW.take 7 rfl (by kernel_rfl) (by kernel_rfl) (by kernel_rfl) Wanted.none (fun _ => (Runs.move rfl)) ?_
              refine AW.take 8 rfl (by kernel_rfl) (by kernel_rfl) (by kernel_rfl) Wanted.none (fun _ => (Runs.extract rfl rfl)) ?_
              refine AW.take 9 rfl (by kernel_rfl) (by kernel_rfl) (by kernel_rfl) Wanted.none (fun _ => (Runs.extract rfl rfl)) ?_
              refine AW.take 10 rfl (by kernel_rfl) (by kernel_rfl) (by kernel_rfl) Wanted.none (fun _ => (Runs.assign rfl)) ?_
              refine AW.take 11 rfl (by kernel_rfl) (by kernel_rfl) (by kernel_rfl) Wanted.none (fun _ => (Runs.assign rfl)) ?_
              refine AW.done (by kernel_rfl) ?_
              refine QW.then_n ?_
              refine CW.sub [(8, .string (⟨#[]⟩ : ByteArray)), (9, .int .i64 0), (10, .slice A_18 n_20 c_19), (11, .slice A_325 n_327 c_326)] ⟨rfl, rfl, rfl, rfl, trivial⟩ ?_
              refine CW.seq ?_
              refine CW.region ?_
              refine WL.val Wanted.none (Runs.move rfl) ?_
              refine WL.val Wanted.none (Runs.move rfl) ?_
              obtain ⟨m_331, e_332, H⟩ := H
              obtain ⟨z_333, H⟩ := H
              obtain ⟨n_336, hn_339⟩ : ∃ n_ : Nat, n_ = m_331.length := ⟨_, rfl⟩
              refine WL.append (i := 2) Wanted.none st_322 rfl Tryd.underlying26 elem5 rfl rfl (st_322.src_sl (k := 0) rfl) (by rw [iv_length]; exact (hn_328).symm) (one_iv .u8 _) (by decide) (N := n_336) (by rw [hn_339, e_332, List.length_append]; exact congr (congrArg HAdd.hAdd (hn_21)) (hn_328)) (by rw [hn_339]; exact z_333) ?_
              intro A_334 c_335 w_337 st_338
              have st_338' : St w w_337 [.sl A_325 c_326 n_327 (iv .u8 r_324) 5 1, .obj B_255 (.cells cs_257.toArray 5 (c_256, c_256 + 1)), .sl A_334 c_335 n_336 (iv .u8 m_331) 5 1, .cells B_1 (iv .u8 l0) 23] := by rw [e_332, ← iv_append .u8 r_17 r_324]; exact st_338
              refine WL.val Wanted.none (Runs.assign rfl) ?_
              refine WL.nil ?_
              refine QW.then_n ?_
              refine CW.seq ?_
              refine CW.block ?_
              obtain ⟨k_340, H⟩ := H
              refine CW.sub [(8, .string (⟨#[]⟩ : ByteArray)), (9, .int .i64 0), (10, .slice A_334 n_336 c_335)] ⟨rfl, rfl, rfl, trivial⟩ ?_
              refine CW.loop (fun kL1 l_ w_ => ∃ (A_341 : Option Addr) (c_342 : Nat) (n_344 : Nat) (l_343 : List Int), l_ = [(8, .string (⟨#[]⟩ : ByteArray)), (9, .int .i64 0), (10, .slice A_341 n_344 c_342)] ∧ reliquaryref08_Seal.L1 r0 r1 kL1 l_343 ∧ (n_344 = l_343.length) ∧ St w w_ [.sl A_325 c_326 n_327 (iv .u8 r_324) 5 1, .obj B_255 (.cells cs_257.toArray 5 (c_256, c_256 + 1)), .sl A_341 c_342 n_344 (iv .u8 l_343) 5 1, .cells B_1 (iv .u8 l0) 23]) (k := k_340) ⟨A_334, c_335, n_336, m_331, rfl, H, hn_339, st_338'⟩ (fun _ _ h => by obtain ⟨_, _, _, _, _, h, _⟩ := h; exact h.elim) ?_
              rintro kL1 l_348 w_346 ⟨A_341, c_342, n_344, l_343, rfl, H, hn_345, st_347⟩
              refine CW.seq ?_
              refine CW.seq ?_
              refine CW.region ?_
              refine WL.val Wanted.none (Runs.move rfl) ?_
              refine WL.val Wanted.none (Runs.len_sl Tryd.underlying26 rfl (by rw [hn_345])) ?_
              refine WL.val Wanted.none (Runs.lss rfl rfl rfl) ?_
              refine WL.nil ?_
              refine QW.then_n ?_
              rcases H with ⟨c_349, H⟩ | ⟨c_349, H⟩
              · have h_350 : (decide ((l_343.length : Int) < 192)) = true := (decide_eq_true c_349)
                refine CW.ct rfl h_350 ?_
                refine CW.skip ?_
                refine QW.then_n ?_
                refine CW.block ?_
                refine CW.region ?_
                refine WL.val Wanted.none (Runs.move rfl) ?_
                refine WL.buildSl [.int .u8 0] st_347 Tryd.underlying26 elem5 rfl rfl (by decide) (by decide) (by simp [Value.cells]) ?_
                intro B_351 w_352 st_353
                replace st_353 : St w w_352 [.sl (some ⟨B_351, 0, none⟩) 1 1 (iv .u8 [0]) 5 1, .sl A_325 c_326 n_327 (iv .u8 r_324) 5 1, .obj B_255 (.cells cs_257.toArray 5 (c_256, c_256 + 1)), .sl A_341 c_342 n_344 (iv .u8 l_343) 5 1, .cells B_1 (iv .u8 l0) 23] := st_353
                obtain ⟨m_355, e_356, H⟩ := H
                obtain ⟨z_357, H⟩ := H
                obtain ⟨n_360, hn_363⟩ : ∃ n_ : Nat, n_ = m_355.length := ⟨_, rfl⟩
                refine WL.append (i := 3) Wanted.none st_353 rfl Tryd.underlying26 elem5 rfl rfl (st_353.src_sl (k := 0) rfl) (by rw [iv_length]; exact (Eq.refl _).symm) (one_iv .u8 _) (by decide) (N := n_360) (by rw [hn_363, e_356, List.length_append]; exact congr (congrArg HAdd.hAdd (hn_345)) (rfl)) (by rw [hn_363]; exact z_357) ?_
                intro A_358 c_359 w_361 st_362
                have st_362' : St w w_361 [.sl (some ⟨B_351, 0, none⟩) 1 1 (iv .u8 [0]) 5 1, .sl A_325 c_326 n_327 (iv .u8 r_324) 5 1, .obj B_255 (.cells cs_257.toArray 5 (c_256, c_256 + 1)), .sl A_358 c_359 n_360 (iv .u8 m_355) 5 1, .cells B_1 (iv .u8 l0) 23] := by rw [e_356, ← iv_append .u8 l_343 [0]]; exact st_362
                refine WL.val Wanted.none (Runs.assign rfl) ?_
                refine WL.nil ?_
                refine QW.blk_n ?_
                have st_362'' := st_362'.pick [1, 2, 3, 4] (by decide)
                exact QW.at [(8, .string (⟨#[]⟩ : ByteArray)), (9, .int .i64 0), (10, .slice A_358 n_360 c_359)] ⟨rfl, rfl, rfl, trivial⟩ ⟨A_358, c_359, n_360, m_355, rfl, H, hn_363, st_362''⟩
              · have h_350 : (decide ((l_343.length : Int) < 192)) = false := (decide_eq_false c_349)
                refine CW.cf rfl h_350 ?_
                refine CW.exit ?_
                refine QW.then_x ?_
                refine QW.then_x ?_
                refine QW.blk_x ?_
                refine QW.then_n ?_
                refine CW.seq ?_
                refine CW.region ?_
                refine WL.val Wanted.none (Runs.move rfl) ?_
                refine WL.val Wanted.none (Runs.bytes_str Tryd.underlying26 Tryd.underlying5 Tryd.underlying9 rfl (st_347.src_sl (k := 2) rfl) hn_345) ?_
                refine WL.val Wanted.none (Runs.assign rfl) ?_
                refine WL.val Wanted.none (Runs.assign rfl) ?_
                refine WL.nil ?_
                refine QW.then_n ?_
                refine CW.sub [(8, .string (strOfNums l_343)), (9, .int .i64 0)] ⟨rfl, rfl, trivial⟩ ?_
                refine CW.ret ?_
                obtain ⟨rfl, rfl⟩ := H
                exact QW.ret2 rfl rfl rfl ⟨rfl, st_347.pick [] (by decide)⟩
  · have h_6 : ((a3.size : Int) != 160) = false := (bne_eq_false_iff_eq.mpr (Decidable.not_not.mp c_5))
    refine WL.off ?_ ?_; exact Wanted.guard (dj := 16) (by rfl) (evb (by rfl) h_6) (by rfl)
    refine WL.off ?_ ?_; exact Wanted.guard (dj := 16) (by rfl) (evb (by rfl) h_6) (by rfl)
    refine WL.off ?_ ?_; exact Wanted.guard (dj := 16) (by rfl) (evb (by rfl) h_6) (by rfl)
    refine WL.val Wanted.none (Runs.pick_f (evb rfl h_6) rfl) ?_
    refine WL.val Wanted.none (Runs.move rfl) ?_
    refine WL.on ?_ ?_; exact Wanted.guard (dj := 21) (by rfl) (by rfl) (by rfl)
    refine WL.val Wanted.none (Runs.move rfl) ?_
    refine WL.on ?_ ?_; exact Wanted.guard (dj := 21) (by rfl) (by rfl) (by rfl)
    refine WL.val Wanted.none (Runs.eql rfl rfl rfl) ?_
    refine WL.val Wanted.none (Runs.pick_f rfl rfl) ?_
    refine WL.nil ?_
    refine QW.then_n ?_
    refine CW.sub [(1, .int .u32 a1), (2, .int .u64 a2), (3, .string a3), (4, .pointer (some ⟨B_1, 0, none⟩)), (8, .string (⟨#[]⟩ : ByteArray)), (9, .int .i64 0), (24, .bool (a2 == 0))] ⟨rfl, rfl, rfl, rfl, rfl, rfl, rfl, trivial⟩ ?_
    rcases H with ⟨c_364, H⟩ | ⟨c_364, H⟩
    · have h_365 : (a2 == 0) = true := (beq_iff_eq.mpr c_364)
      refine CW.ct rfl h_365 ?_
      refine CW.seq ?_
      refine CW.region ?_
      refine WL.val Wanted.none (Runs.assign rfl) ?_
      refine WL.val Wanted.none (Runs.assign rfl) ?_
      refine WL.nil ?_
      refine QW.then_n ?_
      refine CW.ret ?_
      refine QW.then_r ?_
      obtain ⟨rfl, rfl⟩ := H
      exact QW.ret2 rfl rfl rfl ⟨rfl, st_3.pick [] (by decide)⟩
    · have h_365 : (a2 == 0) = false := (beq_eq_false_iff_ne.mpr c_364)
      refine CW.cf rfl h_365 ?_
      refine CW.skip ?_
      refine QW.then_n ?_
      refine CW.seq ?_
      refine CW.seq ?_
      refine CW.region ?_
      refine WL.val Wanted.none (Runs.move rfl) ?_
      refine WL.val Wanted.none (Runs.eql rfl rfl rfl) ?_
      refine WL.nil ?_
      refine QW.then_n ?_
      rcases H with ⟨c_366, H⟩ | ⟨c_366, H⟩
      · have h_367 : (a2 == 18446744073709551615) = true := (beq_iff_eq.mpr c_366)
        refine CW.ct rfl h_367 ?_
        refine CW.seq ?_
        refine CW.region ?_
        refine WL.val Wanted.none (Runs.assign rfl) ?_
        refine WL.val Wanted.none (Runs.assign rfl) ?_
        refine WL.nil ?_
        refine QW.then_n ?_
        refine CW.ret ?_
        refine QW.then_r ?_
        obtain ⟨rfl, rfl⟩ := H
        exact QW.ret2 rfl rfl rfl ⟨rfl, st_3.pick [] (by decide)⟩
      · have h_367 : (a2 == 18446744073709551615) = false := (beq_eq_false_iff_ne.mpr c_366)
        refine CW.cf rfl h_367 ?_
        refine CW.skip ?_
        refine QW.then_n ?_
        refine CW.seq ?_
        refine CW.region ?_
        refine WL.val Wanted.none (Runs.move rfl) ?_
        obtain ⟨r_372, hr_368, H⟩ := H
        refine WL.call Wanted.none ent20 rfl (reliquaryref01_Put.calls w_2 a2 8 r_372 hr_368) ?_
        rintro _ w_369 ⟨A_373, c_374, n_375, hn_376, rfl, sc_371⟩
        have st_370 : St w w_369 [.sl A_373 c_374 n_375 (iv .u8 r_372) 5 1, .cells B_1 (iv .u8 l0) 23] := st_3.call sc_371
        refine ⟨_, rfl, ?_⟩
        refine WL.val Wanted.none (Runs.assign rfl) ?_
        refine WL.nil ?_
        refine QW.then_n ?_
        refine CW.seq ?_
        refine CW.region_aw wide st_370 (fun w_378 st_379 => ?_)
        refine AW.take 1 rfl (by kernel_rfl) (by kernel_rfl) (by kernel_rfl) Wanted.none (fun _ => (Runs.move rfl)) ?_
        refine AW.take 2 rfl (by kernel_rfl) (by kernel_rfl) (by kernel_rfl) Wanted.none (fun _ => (Runs.move rfl)) ?_
        refine AW.take 4 rfl (by kernel_rfl) (by kernel_rfl) (by kernel_rfl) Wanted.none (fun _ => (Runs.move rfl)) ?_
        refine AW.step3 0 3 5 rfl rfl rfl (by kernel_rfl) ?_ ?_ ?_
        · refine WL.val Wanted.none (Runs.load_arr arr23 rfl (st_379.blk (i := 1) rfl) hl0) ?_
          refine WL.nil ?_
          refine AW.back ?_
          refine AW.step2 3 5 rfl rfl (by kernel_rfl) ?_ ?_
          · obtain ⟨r_384, hr_380, H⟩ := H
            refine WL.call Wanted.none ent22 rfl (reliquaryref04_Nonce.calls w_378 a1 a2 r_384 hr_380) ?_
            rintro _ w_381 ⟨hl_385, rfl, sc_383⟩
            have st_382 : St w w_381 [.sl A_373 c_374 n_375 (iv .u8 r_372) 5 1, .cells B_1 (iv .u8 l0) 23] := st_379.call sc_383
            refine ⟨_, rfl, ?_⟩
            refine WL.nil ?_
            refine AW.back ?_
            refine AW.step 5 rfl (by kernel_rfl) ?_
            refine WL.bytes st_382 Tryd.underlying9 Tryd.underlying26 Tryd.underlying5 rfl ?_
            intro B_386 c_387 cs_388 w_389 h_390 h_391 h_392 st_393
            replace st_393 : St w w_389 [.obj B_386 (.cells cs_388.toArray 5 (c_387, c_387 + 1)), .sl A_373 c_374 n_375 (iv .u8 r_372) 5 1, .cells B_1 (iv .u8 l0) 23] := st_393
            refine WL.nil ?_
            refine AW.back ?_
            refine AW.step 6 rfl (by kernel_rfl) ?_
            obtain ⟨r_399, r_405, hr_395, H⟩ := H
            refine WL.call Wanted.none ent21 rfl (reliquaryref04_Crypt.calls w_389 l0 0 r_384 (bl a3) (some ⟨B_386, 0, none⟩) a3.size c_387 hl0 hl_385 (st_393.src_obj (i := 0) rfl h_392) ((bl_length _)) (h_390) r_399 r_405 hr_395) ?_
            rintro _ w_396 ⟨A_400, c_401, n_402, hn_403, rfl, sc_398⟩
            have st_397 : St w w_396 [.sl A_400 c_401 n_402 (iv .u8 r_399) 5 1, .obj B_386 (.cells cs_388.toArray 5 (c_387, c_387 + 1)), .sl A_373 c_374 n_375 (iv .u8 r_372) 5 1, .cells B_1 (iv .u8 l0) 23] := st_393.call sc_398
            refine ⟨_, rfl, ?_⟩
            refine WL.nil ?_
            refine AW.back ?_
            refine AW.take 7 rfl (by kernel_rfl) (by kernel_rfl) (by kernel_rfl) Wanted.none (fun _ => (Runs.move rfl)) ?_
            refine AW.take 8 rfl (by kernel_rfl) (by kernel_rfl) (by kernel_rfl) Wanted.none (fun _ => (Runs.extract rfl rfl)) ?_
            refine AW.take 9 rfl (by kernel_rfl) (by kernel_rfl) (by kernel_rfl) Wanted.none (fun _ => (Runs.extract rfl rfl)) ?_
            refine AW.take 10 rfl (by kernel_rfl) (by kernel_rfl) (by kernel_rfl) Wanted.none (fun _ => (Runs.assign rfl)) ?_
            refine AW.take 11 rfl (by kernel_rfl) (by kernel_rfl) (by kernel_rfl) Wanted.none (fun _ => (Runs.assign rfl)) ?_
            refine AW.done (by kernel_rfl) ?_
            refine QW.then_n ?_
            refine CW.sub [(8, .string (⟨#[]⟩ : ByteArray)), (9, .int .i64 0), (10, .slice A_373 n_375 c_374), (11, .slice A_400 n_402 c_401)] ⟨rfl, rfl, rfl, rfl, trivial⟩ ?_
            refine CW.seq ?_
            refine CW.region ?_
            refine WL.val Wanted.none (Runs.move rfl) ?_
            refine WL.val Wanted.none (Runs.move rfl) ?_
            obtain ⟨m_406, e_407, H⟩ := H
            obtain ⟨z_408, H⟩ := H
            obtain ⟨n_411, hn_414⟩ : ∃ n_ : Nat, n_ = m_406.length := ⟨_, rfl⟩
            refine WL.append (i := 2) Wanted.none st_397 rfl Tryd.underlying26 elem5 rfl rfl (st_397.src_sl (k := 0) rfl) (by rw [iv_length]; exact (hn_403).symm) (one_iv .u8 _) (by decide) (N := n_411) (by rw [hn_414, e_407, List.length_append]; exact congr (congrArg HAdd.hAdd (hn_376)) (hn_403)) (by rw [hn_414]; exact z_408) ?_
            intro A_409 c_410 w_412 st_413
            have st_413' : St w w_412 [.sl A_400 c_401 n_402 (iv .u8 r_399) 5 1, .obj B_386 (.cells cs_388.toArray 5 (c_387, c_387 + 1)), .sl A_409 c_410 n_411 (iv .u8 m_406) 5 1, .cells B_1 (iv .u8 l0) 23] := by rw [e_407, ← iv_append .u8 r_372 r_399]; exact st_413
            refine WL.val Wanted.none (Runs.assign rfl) ?_
            refine WL.nil ?_
            refine QW.then_n ?_
            refine CW.seq ?_
            refine CW.block ?_
            obtain ⟨k_415, H⟩ := H
            refine CW.sub [(8, .string (⟨#[]⟩ : ByteArray)), (9, .int .i64 0), (10, .slice A_409 n_411 c_410)] ⟨rfl, rfl, rfl, trivial⟩ ?_
            refine CW.loop (fun kL2 l_ w_ => ∃ (A_416 : Option Addr) (c_417 : Nat) (n_419 : Nat) (l_418 : List Int), l_ = [(8, .string (⟨#[]⟩ : ByteArray)), (9, .int .i64 0), (10, .slice A_416 n_419 c_417)] ∧ reliquaryref08_Seal.L2 r0 r1 kL2 l_418 ∧ (n_419 = l_418.length) ∧ St w w_ [.sl A_400 c_401 n_402 (iv .u8 r_399) 5 1, .obj B_386 (.cells cs_388.toArray 5 (c_387, c_387 + 1)), .sl A_416 c_417 n_419 (iv .u8 l_418) 5 1, .cells B_1 (iv .u8 l0) 23]) (k := k_415) ⟨A_409, c_410, n_411, m_406, rfl, H, hn_414, st_413'⟩ (fun _ _ h => by obtain ⟨_, _, _, _, _, h, _⟩ := h; exact h.elim) ?_
            rintro kL2 l_423 w_421 ⟨A_416, c_417, n_419, l_418, rfl, H, hn_420, st_422⟩
            refine CW.seq ?_
            refine CW.seq ?_
            refine CW.region ?_
            refine WL.val Wanted.none (Runs.move rfl) ?_
            refine WL.val Wanted.none (Runs.len_sl Tryd.underlying26 rfl (by rw [hn_420])) ?_
            refine WL.val Wanted.none (Runs.lss rfl rfl rfl) ?_
            refine WL.nil ?_
            refine QW.then_n ?_
            rcases H with ⟨c_424, H⟩ | ⟨c_424, H⟩
            · have h_425 : (decide ((l_418.length : Int) < 192)) = true := (decide_eq_true c_424)
              refine CW.ct rfl h_425 ?_
              refine CW.skip ?_
              refine QW.then_n ?_
              refine CW.block ?_
              refine CW.region ?_
              refine WL.val Wanted.none (Runs.move rfl) ?_
              refine WL.buildSl [.int .u8 0] st_422 Tryd.underlying26 elem5 rfl rfl (by decide) (by decide) (by simp [Value.cells]) ?_
              intro B_426 w_427 st_428
              replace st_428 : St w w_427 [.sl (some ⟨B_426, 0, none⟩) 1 1 (iv .u8 [0]) 5 1, .sl A_400 c_401 n_402 (iv .u8 r_399) 5 1, .obj B_386 (.cells cs_388.toArray 5 (c_387, c_387 + 1)), .sl A_416 c_417 n_419 (iv .u8 l_418) 5 1, .cells B_1 (iv .u8 l0) 23] := st_428
              obtain ⟨m_430, e_431, H⟩ := H
              obtain ⟨z_432, H⟩ := H
              obtain ⟨n_435, hn_438⟩ : ∃ n_ : Nat, n_ = m_430.length := ⟨_, rfl⟩
              refine WL.append (i := 3) Wanted.none st_428 rfl Tryd.underlying26 elem5 rfl rfl (st_428.src_sl (k := 0) rfl) (by rw [iv_length]; exact (Eq.refl _).symm) (one_iv .u8 _) (by decide) (N := n_435) (by rw [hn_438, e_431, List.length_append]; exact congr (congrArg HAdd.hAdd (hn_420)) (rfl)) (by rw [hn_438]; exact z_432) ?_
              intro A_433 c_434 w_436 st_437
              have st_437' : St w w_436 [.sl (some ⟨B_426, 0, none⟩) 1 1 (iv .u8 [0]) 5 1, .sl A_400 c_401 n_402 (iv .u8 r_399) 5 1, .obj B_386 (.cells cs_388.toArray 5 (c_387, c_387 + 1)), .sl A_433 c_434 n_435 (iv .u8 m_430) 5 1, .cells B_1 (iv .u8 l0) 23] := by rw [e_431, ← iv_append .u8 l_418 [0]]; exact st_437
              refine WL.val Wanted.none (Runs.assign rfl) ?_
              refine WL.nil ?_
              refine QW.blk_n ?_
              have st_437'' := st_437'.pick [1, 2, 3, 4] (by decide)
              exact QW.at [(8, .string (⟨#[]⟩ : ByteArray)), (9, .int .i64 0), (10, .slice A_433 n_435 c_434)] ⟨rfl, rfl, rfl, trivial⟩ ⟨A_433, c_434, n_435, m_430, rfl, H, hn_438, st_437''⟩
            · have h_425 : (decide ((l_418.length : Int) < 192)) = false := (decide_eq_false c_424)
              refine CW.cf rfl h_425 ?_
              refine CW.exit ?_
              refine QW.then_x ?_
              refine QW.then_x ?_
              refine QW.blk_x ?_
              refine QW.then_n ?_
              refine CW.seq ?_
              refine CW.region ?_
              refine WL.val Wanted.none (Runs.move rfl) ?_
              refine WL.val Wanted.none (Runs.bytes_str Tryd.underlying26 Tryd.underlying5 Tryd.underlying9 rfl (st_422.src_sl (k := 2) rfl) hn_420) ?_
              refine WL.val Wanted.none (Runs.assign rfl) ?_
              refine WL.val Wanted.none (Runs.assign rfl) ?_
              refine WL.nil ?_
              refine QW.then_n ?_
              refine CW.sub [(8, .string (strOfNums l_418)), (9, .int .i64 0)] ⟨rfl, rfl, trivial⟩ ?_
              refine CW.ret ?_
              obtain ⟨rfl, rfl⟩ := H
              exact QW.ret2 rfl rfl rfl ⟨rfl, st_422.pick [] (by decide)⟩
          · refine WL.bytes st_379 Tryd.underlying9 Tryd.underlying26 Tryd.underlying5 rfl ?_
            intro B_439 c_440 cs_441 w_442 h_443 h_444 h_445 st_446
            replace st_446 : St w w_442 [.obj B_439 (.cells cs_441.toArray 5 (c_440, c_440 + 1)), .sl A_373 c_374 n_375 (iv .u8 r_372) 5 1, .cells B_1 (iv .u8 l0) 23] := st_446
            refine WL.nil ?_
            refine AW.back ?_
            refine AW.step 3 rfl (by kernel_rfl) ?_
            obtain ⟨r_452, hr_448, H⟩ := H
            refine WL.call Wanted.none ent22 rfl (reliquaryref04_Nonce.calls w_442 a1 a2 r_452 hr_448) ?_
            rintro _ w_449 ⟨hl_453, rfl, sc_451⟩
            have st_450 : St w w_449 [.obj B_439 (.cells cs_441.toArray 5 (c_440, c_440 + 1)), .sl A_373 c_374 n_375 (iv .u8 r_372) 5 1, .cells B_1 (iv .u8 l0) 23] := st_446.call sc_451
            refine ⟨_, rfl, ?_⟩
            refine WL.nil ?_
            refine AW.back ?_
            refine AW.step 6 rfl (by kernel_rfl) ?_
            obtain ⟨r_458, r_464, hr_454, H⟩ := H
            refine WL.call Wanted.none ent21 rfl (reliquaryref04_Crypt.calls w_449 l0 0 r_452 (bl a3) (some ⟨B_439, 0, none⟩) a3.size c_440 hl0 hl_453 (st_450.src_obj (i := 0) rfl h_445) ((bl_length _)) (h_443) r_458 r_464 hr_454) ?_
            rintro _ w_455 ⟨A_459, c_460, n_461, hn_462, rfl, sc_457⟩
            have st_456 : St w w_455 [.sl A_459 c_460 n_461 (iv .u8 r_458) 5 1, .obj B_439 (.cells cs_441.toArray 5 (c_440, c_440 + 1)), .sl A_373 c_374 n_375 (iv .u8 r_372) 5 1, .cells B_1 (iv .u8 l0) 23] := st_450.call sc_457
            refine ⟨_, rfl, ?_⟩
            refine WL.nil ?_
            refine AW.back ?_
            refine AW.take 7 rfl (by kernel_rfl) (by kernel_rfl) (by kernel_rfl) Wanted.none (fun _ => (Runs.move rfl)) ?_
            refine AW.take 8 rfl (by kernel_rfl) (by kernel_rfl) (by kernel_rfl) Wanted.none (fun _ => (Runs.extract rfl rfl)) ?_
            refine AW.take 9 rfl (by kernel_rfl) (by kernel_rfl) (by kernel_rfl) Wanted.none (fun _ => (Runs.extract rfl rfl)) ?_
            refine AW.take 10 rfl (by kernel_rfl) (by kernel_rfl) (by kernel_rfl) Wanted.none (fun _ => (Runs.assign rfl)) ?_
            refine AW.take 11 rfl (by kernel_rfl) (by kernel_rfl) (by kernel_rfl) Wanted.none (fun _ => (Runs.assign rfl)) ?_
            refine AW.done (by kernel_rfl) ?_
            refine QW.then_n ?_
            refine CW.sub [(8, .string (⟨#[]⟩ : ByteArray)), (9, .int .i64 0), (10, .slice A_373 n_375 c_374), (11, .slice A_459 n_461 c_460)] ⟨rfl, rfl, rfl, rfl, trivial⟩ ?_
            refine CW.seq ?_
            refine CW.region ?_
            refine WL.val Wanted.none (Runs.move rfl) ?_
            refine WL.val Wanted.none (Runs.move rfl) ?_
            obtain ⟨m_465, e_466, H⟩ := H
            obtain ⟨z_467, H⟩ := H
            obtain ⟨n_470, hn_473⟩ : ∃ n_ : Nat, n_ = m_465.length := ⟨_, rfl⟩
            refine WL.append (i := 2) Wanted.none st_456 rfl Tryd.underlying26 elem5 rfl rfl (st_456.src_sl (k := 0) rfl) (by rw [iv_length]; exact (hn_462).symm) (one_iv .u8 _) (by decide) (N := n_470) (by rw [hn_473, e_466, List.length_append]; exact congr (congrArg HAdd.hAdd (hn_376)) (hn_462)) (by rw [hn_473]; exact z_467) ?_
            intro A_468 c_469 w_471 st_472
            have st_472' : St w w_471 [.sl A_459 c_460 n_461 (iv .u8 r_458) 5 1, .obj B_439 (.cells cs_441.toArray 5 (c_440, c_440 + 1)), .sl A_468 c_469 n_470 (iv .u8 m_465) 5 1, .cells B_1 (iv .u8 l0) 23] := by rw [e_466, ← iv_append .u8 r_372 r_458]; exact st_472
            refine WL.val Wanted.none (Runs.assign rfl) ?_
            refine WL.nil ?_
            refine QW.then_n ?_
            refine CW.seq ?_
            refine CW.block ?_
            obtain ⟨k_474, H⟩ := H
            refine CW.sub [(8, .string (⟨#[]⟩ : ByteArray)), (9, .int .i64 0), (10, .slice A_468 n_470 c_469)] ⟨rfl, rfl, rfl, trivial⟩ ?_
            refine CW.loop (fun kL2 l_ w_ => ∃ (A_475 : Option Addr) (c_476 : Nat) (n_478 : Nat) (l_477 : List Int), l_ = [(8, .string (⟨#[]⟩ : ByteArray)), (9, .int .i64 0), (10, .slice A_475 n_478 c_476)] ∧ reliquaryref08_Seal.L2 r0 r1 kL2 l_477 ∧ (n_478 = l_477.length) ∧ St w w_ [.sl A_459 c_460 n_461 (iv .u8 r_458) 5 1, .obj B_439 (.cells cs_441.toArray 5 (c_440, c_440 + 1)), .sl A_475 c_476 n_478 (iv .u8 l_477) 5 1, .cells B_1 (iv .u8 l0) 23]) (k := k_474) ⟨A_468, c_469, n_470, m_465, rfl, H, hn_473, st_472'⟩ (fun _ _ h => by obtain ⟨_, _, _, _, _, h, _⟩ := h; exact h.elim) ?_
            rintro kL2 l_482 w_480 ⟨A_475, c_476, n_478, l_477, rfl, H, hn_479, st_481⟩
            refine CW.seq ?_
            refine CW.seq ?_
            refine CW.region ?_
            refine WL.val Wanted.none (Runs.move rfl) ?_
            refine WL.val Wanted.none (Runs.len_sl Tryd.underlying26 rfl (by rw [hn_479])) ?_
            refine WL.val Wanted.none (Runs.lss rfl rfl rfl) ?_
            refine WL.nil ?_
            refine QW.then_n ?_
            rcases H with ⟨c_483, H⟩ | ⟨c_483, H⟩
            · have h_484 : (decide ((l_477.length : Int) < 192)) = true := (decide_eq_true c_483)
              refine CW.ct rfl h_484 ?_
              refine CW.skip ?_
              refine QW.then_n ?_
              refine CW.block ?_
              refine CW.region ?_
              refine WL.val Wanted.none (Runs.move rfl) ?_
              refine WL.buildSl [.int .u8 0] st_481 Tryd.underlying26 elem5 rfl rfl (by decide) (by decide) (by simp [Value.cells]) ?_
              intro B_485 w_486 st_487
              replace st_487 : St w w_486 [.sl (some ⟨B_485, 0, none⟩) 1 1 (iv .u8 [0]) 5 1, .sl A_459 c_460 n_461 (iv .u8 r_458) 5 1, .obj B_439 (.cells cs_441.toArray 5 (c_440, c_440 + 1)), .sl A_475 c_476 n_478 (iv .u8 l_477) 5 1, .cells B_1 (iv .u8 l0) 23] := st_487
              obtain ⟨m_489, e_490, H⟩ := H
              obtain ⟨z_491, H⟩ := H
              obtain ⟨n_494, hn_497⟩ : ∃ n_ : Nat, n_ = m_489.length := ⟨_, rfl⟩
              refine WL.append (i := 3) Wanted.none st_487 rfl Tryd.underlying26 elem5 rfl rfl (st_487.src_sl (k := 0) rfl) (by rw [iv_length]; exact (Eq.refl _).symm) (one_iv .u8 _) (by decide) (N := n_494) (by rw [hn_497, e_490, List.length_append]; exact congr (congrArg HAdd.hAdd (hn_479)) (rfl)) (by rw [hn_497]; exact z_491) ?_
              intro A_492 c_493 w_495 st_496
              have st_496' : St w w_495 [.sl (some ⟨B_485, 0, none⟩) 1 1 (iv .u8 [0]) 5 1, .sl A_459 c_460 n_461 (iv .u8 r_458) 5 1, .obj B_439 (.cells cs_441.toArray 5 (c_440, c_440 + 1)), .sl A_492 c_493 n_494 (iv .u8 m_489) 5 1, .cells B_1 (iv .u8 l0) 23] := by rw [e_490, ← iv_append .u8 l_477 [0]]; exact st_496
              refine WL.val Wanted.none (Runs.assign rfl) ?_
              refine WL.nil ?_
              refine QW.blk_n ?_
              have st_496'' := st_496'.pick [1, 2, 3, 4] (by decide)
              exact QW.at [(8, .string (⟨#[]⟩ : ByteArray)), (9, .int .i64 0), (10, .slice A_492 n_494 c_493)] ⟨rfl, rfl, rfl, trivial⟩ ⟨A_492, c_493, n_494, m_489, rfl, H, hn_497, st_496''⟩
            · have h_484 : (decide ((l_477.length : Int) < 192)) = false := (decide_eq_false c_483)
              refine CW.cf rfl h_484 ?_
              refine CW.exit ?_
              refine QW.then_x ?_
              refine QW.then_x ?_
              refine QW.blk_x ?_
              refine QW.then_n ?_
              refine CW.seq ?_
              refine CW.region ?_
              refine WL.val Wanted.none (Runs.move rfl) ?_
              refine WL.val Wanted.none (Runs.bytes_str Tryd.underlying26 Tryd.underlying5 Tryd.underlying9 rfl (st_481.src_sl (k := 2) rfl) hn_479) ?_
              refine WL.val Wanted.none (Runs.assign rfl) ?_
              refine WL.val Wanted.none (Runs.assign rfl) ?_
              refine WL.nil ?_
              refine QW.then_n ?_
              refine CW.sub [(8, .string (strOfNums l_477)), (9, .int .i64 0)] ⟨rfl, rfl, trivial⟩ ?_
              refine CW.ret ?_
              obtain ⟨rfl, rfl⟩ := H
              exact QW.ret2 rfl rfl rfl ⟨rfl, st_481.pick [] (by decide)⟩
        · obtain ⟨r_502, hr_498, H⟩ := H
          refine WL.call Wanted.none ent22 rfl (reliquaryref04_Nonce.calls w_378 a1 a2 r_502 hr_498) ?_
          rintro _ w_499 ⟨hl_503, rfl, sc_501⟩
          have st_500 : St w w_499 [.sl A_373 c_374 n_375 (iv .u8 r_372) 5 1, .cells B_1 (iv .u8 l0) 23] := st_379.call sc_501
          refine ⟨_, rfl, ?_⟩
          refine WL.nil ?_
          refine AW.back ?_
          refine AW.step2 0 5 rfl rfl (by kernel_rfl) ?_ ?_
          · refine WL.val Wanted.none (Runs.load_arr arr23 rfl (st_500.blk (i := 1) rfl) hl0) ?_
            refine WL.nil ?_
            refine AW.back ?_
            refine AW.step 5 rfl (by kernel_rfl) ?_
            refine WL.bytes st_500 Tryd.underlying9 Tryd.underlying26 Tryd.underlying5 rfl ?_
            intro B_504 c_505 cs_506 w_507 h_508 h_509 h_510 st_511
            replace st_511 : St w w_507 [.obj B_504 (.cells cs_506.toArray 5 (c_505, c_505 + 1)), .sl A_373 c_374 n_375 (iv .u8 r_372) 5 1, .cells B_1 (iv .u8 l0) 23] := st_511
            refine WL.nil ?_
            refine AW.back ?_
            refine AW.step 6 rfl (by kernel_rfl) ?_
            obtain ⟨r_517, r_523, hr_513, H⟩ := H
            refine WL.call Wanted.none ent21 rfl (reliquaryref04_Crypt.calls w_507 l0 0 r_502 (bl a3) (some ⟨B_504, 0, none⟩) a3.size c_505 hl0 hl_503 (st_511.src_obj (i := 0) rfl h_510) ((bl_length _)) (h_508) r_517 r_523 hr_513) ?_
            rintro _ w_514 ⟨A_518, c_519, n_520, hn_521, rfl, sc_516⟩
            have st_515 : St w w_514 [.sl A_518 c_519 n_520 (iv .u8 r_517) 5 1, .obj B_504 (.cells cs_506.toArray 5 (c_505, c_505 + 1)), .sl A_373 c_374 n_375 (iv .u8 r_372) 5 1, .cells B_1 (iv .u8 l0) 23] := st_511.call sc_516
            refine ⟨_, rfl, ?_⟩
            refine WL.nil ?_
            refine AW.back ?_
            refine AW.take 7 rfl (by kernel_rfl) (by kernel_rfl) (by kernel_rfl) Wanted.none (fun _ => (Runs.move rfl)) ?_
            refine AW.take 8 rfl (by kernel_rfl) (by kernel_rfl) (by kernel_rfl) Wanted.none (fun _ => (Runs.extract rfl rfl)) ?_
            refine AW.take 9 rfl (by kernel_rfl) (by kernel_rfl) (by kernel_rfl) Wanted.none (fun _ => (Runs.extract rfl rfl)) ?_
            refine AW.take 10 rfl (by kernel_rfl) (by kernel_rfl) (by kernel_rfl) Wanted.none (fun _ => (Runs.assign rfl)) ?_
            refine AW.take 11 rfl (by kernel_rfl) (by kernel_rfl) (by kernel_rfl) Wanted.none (fun _ => (Runs.assign rfl)) ?_
            refine AW.done (by kernel_rfl) ?_
            refine QW.then_n ?_
            refine CW.sub [(8, .string (⟨#[]⟩ : ByteArray)), (9, .int .i64 0), (10, .slice A_373 n_375 c_374), (11, .slice A_518 n_520 c_519)] ⟨rfl, rfl, rfl, rfl, trivial⟩ ?_
            refine CW.seq ?_
            refine CW.region ?_
            refine WL.val Wanted.none (Runs.move rfl) ?_
            refine WL.val Wanted.none (Runs.move rfl) ?_
            obtain ⟨m_524, e_525, H⟩ := H
            obtain ⟨z_526, H⟩ := H
            obtain ⟨n_529, hn_532⟩ : ∃ n_ : Nat, n_ = m_524.length := ⟨_, rfl⟩
            refine WL.append (i := 2) Wanted.none st_515 rfl Tryd.underlying26 elem5 rfl rfl (st_515.src_sl (k := 0) rfl) (by rw [iv_length]; exact (hn_521).symm) (one_iv .u8 _) (by decide) (N := n_529) (by rw [hn_532, e_525, List.length_append]; exact congr (congrArg HAdd.hAdd (hn_376)) (hn_521)) (by rw [hn_532]; exact z_526) ?_
            intro A_527 c_528 w_530 st_531
            have st_531' : St w w_530 [.sl A_518 c_519 n_520 (iv .u8 r_517) 5 1, .obj B_504 (.cells cs_506.toArray 5 (c_505, c_505 + 1)), .sl A_527 c_528 n_529 (iv .u8 m_524) 5 1, .cells B_1 (iv .u8 l0) 23] := by rw [e_525, ← iv_append .u8 r_372 r_517]; exact st_531
            refine WL.val Wanted.none (Runs.assign rfl) ?_
            refine WL.nil ?_
            refine QW.then_n ?_
            refine CW.seq ?_
            refine CW.block ?_
            obtain ⟨k_533, H⟩ := H
            refine CW.sub [(8, .string (⟨#[]⟩ : ByteArray)), (9, .int .i64 0), (10, .slice A_527 n_529 c_528)] ⟨rfl, rfl, rfl, trivial⟩ ?_
            refine CW.loop (fun kL2 l_ w_ => ∃ (A_534 : Option Addr) (c_535 : Nat) (n_537 : Nat) (l_536 : List Int), l_ = [(8, .string (⟨#[]⟩ : ByteArray)), (9, .int .i64 0), (10, .slice A_534 n_537 c_535)] ∧ reliquaryref08_Seal.L2 r0 r1 kL2 l_536 ∧ (n_537 = l_536.length) ∧ St w w_ [.sl A_518 c_519 n_520 (iv .u8 r_517) 5 1, .obj B_504 (.cells cs_506.toArray 5 (c_505, c_505 + 1)), .sl A_534 c_535 n_537 (iv .u8 l_536) 5 1, .cells B_1 (iv .u8 l0) 23]) (k := k_533) ⟨A_527, c_528, n_529, m_524, rfl, H, hn_532, st_531'⟩ (fun _ _ h => by obtain ⟨_, _, _, _, _, h, _⟩ := h; exact h.elim) ?_
            rintro kL2 l_541 w_539 ⟨A_534, c_535, n_537, l_536, rfl, H, hn_538, st_540⟩
            refine CW.seq ?_
            refine CW.seq ?_
            refine CW.region ?_
            refine WL.val Wanted.none (Runs.move rfl) ?_
            refine WL.val Wanted.none (Runs.len_sl Tryd.underlying26 rfl (by rw [hn_538])) ?_
            refine WL.val Wanted.none (Runs.lss rfl rfl rfl) ?_
            refine WL.nil ?_
            refine QW.then_n ?_
            rcases H with ⟨c_542, H⟩ | ⟨c_542, H⟩
            · have h_543 : (decide ((l_536.length : Int) < 192)) = true := (decide_eq_true c_542)
              refine CW.ct rfl h_543 ?_
              refine CW.skip ?_
              refine QW.then_n ?_
              refine CW.block ?_
              refine CW.region ?_
              refine WL.val Wanted.none (Runs.move rfl) ?_
              refine WL.buildSl [.int .u8 0] st_540 Tryd.underlying26 elem5 rfl rfl (by decide) (by decide) (by simp [Value.cells]) ?_
              intro B_544 w_545 st_546
              replace st_546 : St w w_545 [.sl (some ⟨B_544, 0, none⟩) 1 1 (iv .u8 [0]) 5 1, .sl A_518 c_519 n_520 (iv .u8 r_517) 5 1, .obj B_504 (.cells cs_506.toArray 5 (c_505, c_505 + 1)), .sl A_534 c_535 n_537 (iv .u8 l_536) 5 1, .cells B_1 (iv .u8 l0) 23] := st_546
              obtain ⟨m_548, e_549, H⟩ := H
              obtain ⟨z_550, H⟩ := H
              obtain ⟨n_553, hn_556⟩ : ∃ n_ : Nat, n_ = m_548.length := ⟨_, rfl⟩
              refine WL.append (i := 3) Wanted.none st_546 rfl Tryd.underlying26 elem5 rfl rfl (st_546.src_sl (k := 0) rfl) (by rw [iv_length]; exact (Eq.refl _).symm) (one_iv .u8 _) (by decide) (N := n_553) (by rw [hn_556, e_549, List.length_append]; exact congr (congrArg HAdd.hAdd (hn_538)) (rfl)) (by rw [hn_556]; exact z_550) ?_
              intro A_551 c_552 w_554 st_555
              have st_555' : St w w_554 [.sl (some ⟨B_544, 0, none⟩) 1 1 (iv .u8 [0]) 5 1, .sl A_518 c_519 n_520 (iv .u8 r_517) 5 1, .obj B_504 (.cells cs_506.toArray 5 (c_505, c_505 + 1)), .sl A_551 c_552 n_553 (iv .u8 m_548) 5 1, .cells B_1 (iv .u8 l0) 23] := by rw [e_549, ← iv_append .u8 l_536 [0]]; exact st_555
              refine WL.val Wanted.none (Runs.assign rfl) ?_
              refine WL.nil ?_
              refine QW.blk_n ?_
              have st_555'' := st_555'.pick [1, 2, 3, 4] (by decide)
              exact QW.at [(8, .string (⟨#[]⟩ : ByteArray)), (9, .int .i64 0), (10, .slice A_551 n_553 c_552)] ⟨rfl, rfl, rfl, trivial⟩ ⟨A_551, c_552, n_553, m_548, rfl, H, hn_556, st_555''⟩
            · have h_543 : (decide ((l_536.length : Int) < 192)) = false := (decide_eq_false c_542)
              refine CW.cf rfl h_543 ?_
              refine CW.exit ?_
              refine QW.then_x ?_
              refine QW.then_x ?_
              refine QW.blk_x ?_
              refine QW.then_n ?_
              refine CW.seq ?_
              refine CW.region ?_
              refine WL.val Wanted.none (Runs.move rfl) ?_
              refine WL.val Wanted.none (Runs.bytes_str Tryd.underlying26 Tryd.underlying5 Tryd.underlying9 rfl (st_540.src_sl (k := 2) rfl) hn_538) ?_
              refine WL.val Wanted.none (Runs.assign rfl) ?_
              refine WL.val Wanted.none (Runs.assign rfl) ?_
              refine WL.nil ?_
              refine QW.then_n ?_
              refine CW.sub [(8, .string (strOfNums l_536)), (9, .int .i64 0)] ⟨rfl, rfl, trivial⟩ ?_
              refine CW.ret ?_
              obtain ⟨rfl, rfl⟩ := H
              exact QW.ret2 rfl rfl rfl ⟨rfl, st_540.pick [] (by decide)⟩
          · refine WL.bytes st_500 Tryd.underlying9 Tryd.underlying26 Tryd.underlying5 rfl ?_
            intro B_557 c_558 cs_559 w_560 h_561 h_562 h_563 st_564
            replace st_564 : St w w_560 [.obj B_557 (.cells cs_559.toArray 5 (c_558, c_558 + 1)), .sl A_373 c_374 n_375 (iv .u8 r_372) 5 1, .cells B_1 (iv .u8 l0) 23] := st_564
            refine WL.nil ?_
            refine AW.back ?_
            refine AW.step 0 rfl (by kernel_rfl) ?_
            refine WL.val Wanted.none (Runs.load_arr arr23 rfl (st_564.blk (i := 2) rfl) hl0) ?_
            refine WL.nil ?_
            refine AW.back ?_
            refine AW.step 6 rfl (by kernel_rfl) ?_
            obtain ⟨r_570, r_576, hr_566, H⟩ := H
            refine WL.call Wanted.none ent21 rfl (reliquaryref04_Crypt.calls w_560 l0 0 r_502 (bl a3) (some ⟨B_557, 0, none⟩) a3.size c_558 hl0 hl_503 (st_564.src_obj (i := 0) rfl h_563) ((bl_length _)) (h_561) r_570 r_576 hr_566) ?_
            rintro _ w_567 ⟨A_571, c_572, n_573, hn_574, rfl, sc_569⟩
            have st_568 : St w w_567 [.sl A_571 c_572 n_573 (iv .u8 r_570) 5 1, .obj B_557 (.cells cs_559.toArray 5 (c_558, c_558 + 1)), .sl A_373 c_374 n_375 (iv .u8 r_372) 5 1, .cells B_1 (iv .u8 l0) 23] := st_564.call sc_569
            refine ⟨_, rfl, ?_⟩
            refine WL.nil ?_
            refine AW.back ?_
            refine AW.take 7 rfl (by kernel_rfl) (by kernel_rfl) (by kernel_rfl) Wanted.none (fun _ => (Runs.move rfl)) ?_
            refine AW.take 8 rfl (by kernel_rfl) (by kernel_rfl) (by kernel_rfl) Wanted.none (fun _ => (Runs.extract rfl rfl)) ?_
            refine AW.take 9 rfl (by kernel_rfl) (by kernel_rfl) (by kernel_rfl) Wanted.none (fun _ => (Runs.extract rfl rfl)) ?_
            refine AW.take 10 rfl (by kernel_rfl) (by kernel_rfl) (by kernel_rfl) Wanted.none (fun _ => (Runs.assign rfl)) ?_
            refine AW.take 11 rfl (by kernel_rfl) (by kernel_rfl) (by kernel_rfl) Wanted.none (fun _ => (Runs.assign rfl)) ?_
            refine AW.done (by kernel_rfl) ?_
            refine QW.then_n ?_
            refine CW.sub [(8, .string (⟨#[]⟩ : ByteArray)), (9, .int .i64 0), (10, .slice A_373 n_375 c_374), (11, .slice A_571 n_573 c_572)] ⟨rfl, rfl, rfl, rfl, trivial⟩ ?_
            refine CW.seq ?_
            refine CW.region ?_
            refine WL.val Wanted.none (Runs.move rfl) ?_
            refine WL.val Wanted.none (Runs.move rfl) ?_
            obtain ⟨m_577, e_578, H⟩ := H
            obtain ⟨z_579, H⟩ := H
            obtain ⟨n_582, hn_585⟩ : ∃ n_ : Nat, n_ = m_577.length := ⟨_, rfl⟩
            refine WL.append (i := 2) Wanted.none st_568 rfl Tryd.underlying26 elem5 rfl rfl (st_568.src_sl (k := 0) rfl) (by rw [iv_length]; exact (hn_574).symm) (one_iv .u8 _) (by decide) (N := n_582) (by rw [hn_585, e_578, List.length_append]; exact congr (congrArg HAdd.hAdd (hn_376)) (hn_574)) (by rw [hn_585]; exact z_579) ?_
            intro A_580 c_581 w_583 st_584
            have st_584' : St w w_583 [.sl A_571 c_572 n_573 (iv .u8 r_570) 5 1, .obj B_557 (.cells cs_559.toArray 5 (c_558, c_558 + 1)), .sl A_580 c_581 n_582 (iv .u8 m_577) 5 1, .cells B_1 (iv .u8 l0) 23] := by rw [e_578, ← iv_append .u8 r_372 r_570]; exact st_584
            refine WL.val Wanted.none (Runs.assign rfl) ?_
            refine WL.nil ?_
            refine QW.then_n ?_
            refine CW.seq ?_
            refine CW.block ?_
            obtain ⟨k_586, H⟩ := H
            refine CW.sub [(8, .string (⟨#[]⟩ : ByteArray)), (9, .int .i64 0), (10, .slice A_580 n_582 c_581)] ⟨rfl, rfl, rfl, trivial⟩ ?_
            refine CW.loop (fun kL2 l_ w_ => ∃ (A_587 : Option Addr) (c_588 : Nat) (n_590 : Nat) (l_589 : List Int), l_ = [(8, .string (⟨#[]⟩ : ByteArray)), (9, .int .i64 0), (10, .slice A_587 n_590 c_588)] ∧ reliquaryref08_Seal.L2 r0 r1 kL2 l_589 ∧ (n_590 = l_589.length) ∧ St w w_ [.sl A_571 c_572 n_573 (iv .u8 r_570) 5 1, .obj B_557 (.cells cs_559.toArray 5 (c_558, c_558 + 1)), .sl A_587 c_588 n_590 (iv .u8 l_589) 5 1, .cells B_1 (iv .u8 l0) 23]) (k := k_586) ⟨A_580, c_581, n_582, m_577, rfl, H, hn_585, st_584'⟩ (fun _ _ h => by obtain ⟨_, _, _, _, _, h, _⟩ := h; exact h.elim) ?_
            rintro kL2 l_594 w_592 ⟨A_587, c_588, n_590, l_589, rfl, H, hn_591, st_593⟩
            refine CW.seq ?_
            refine CW.seq ?_
            refine CW.region ?_
            refine WL.val Wanted.none (Runs.move rfl) ?_
            refine WL.val Wanted.none (Runs.len_sl Tryd.underlying26 rfl (by rw [hn_591])) ?_
            refine WL.val Wanted.none (Runs.lss rfl rfl rfl) ?_
            refine WL.nil ?_
            refine QW.then_n ?_
            rcases H with ⟨c_595, H⟩ | ⟨c_595, H⟩
            · have h_596 : (decide ((l_589.length : Int) < 192)) = true := (decide_eq_true c_595)
              refine CW.ct rfl h_596 ?_
              refine CW.skip ?_
              refine QW.then_n ?_
              refine CW.block ?_
              refine CW.region ?_
              refine WL.val Wanted.none (Runs.move rfl) ?_
              refine WL.buildSl [.int .u8 0] st_593 Tryd.underlying26 elem5 rfl rfl (by decide) (by decide) (by simp [Value.cells]) ?_
              intro B_597 w_598 st_599
              replace st_599 : St w w_598 [.sl (some ⟨B_597, 0, none⟩) 1 1 (iv .u8 [0]) 5 1, .sl A_571 c_572 n_573 (iv .u8 r_570) 5 1, .obj B_557 (.cells cs_559.toArray 5 (c_558, c_558 + 1)), .sl A_587 c_588 n_590 (iv .u8 l_589) 5 1, .cells B_1 (iv .u8 l0) 23] := st_599
              obtain ⟨m_601, e_602, H⟩ := H
              obtain ⟨z_603, H⟩ := H
              obtain ⟨n_606, hn_609⟩ : ∃ n_ : Nat, n_ = m_601.length := ⟨_, rfl⟩
              refine WL.append (i := 3) Wanted.none st_599 rfl Tryd.underlying26 elem5 rfl rfl (st_599.src_sl (k := 0) rfl) (by rw [iv_length]; exact (Eq.refl _).symm) (one_iv .u8 _) (by decide) (N := n_606) (by rw [hn_609, e_602, List.length_append]; exact congr (congrArg HAdd.hAdd (hn_591)) (rfl)) (by rw [hn_609]; exact z_603) ?_
              intro A_604 c_605 w_607 st_608
              have st_608' : St w w_607 [.sl (some ⟨B_597, 0, none⟩) 1 1 (iv .u8 [0]) 5 1, .sl A_571 c_572 n_573 (iv .u8 r_570) 5 1, .obj B_557 (.cells cs_559.toArray 5 (c_558, c_558 + 1)), .sl A_604 c_605 n_606 (iv .u8 m_601) 5 1, .cells B_1 (iv .u8 l0) 23] := by rw [e_602, ← iv_append .u8 l_589 [0]]; exact st_608
              refine WL.val Wanted.none (Runs.assign rfl) ?_
              refine WL.nil ?_
              refine QW.blk_n ?_
              have st_608'' := st_608'.pick [1, 2, 3, 4] (by decide)
              exact QW.at [(8, .string (⟨#[]⟩ : ByteArray)), (9, .int .i64 0), (10, .slice A_604 n_606 c_605)] ⟨rfl, rfl, rfl, trivial⟩ ⟨A_604, c_605, n_606, m_601, rfl, H, hn_609, st_608''⟩
            · have h_596 : (decide ((l_589.length : Int) < 192)) = false := (decide_eq_false c_595)
              refine CW.cf rfl h_596 ?_
              refine CW.exit ?_
              refine QW.then_x ?_
              refine QW.then_x ?_
              refine QW.blk_x ?_
              refine QW.then_n ?_
              refine CW.seq ?_
              refine CW.region ?_
              refine WL.val Wanted.none (Runs.move rfl) ?_
              refine WL.val Wanted.none (Runs.bytes_str Tryd.underlying26 Tryd.underlying5 Tryd.underlying9 rfl (st_593.src_sl (k := 2) rfl) hn_591) ?_
              refine WL.val Wanted.none (Runs.assign rfl) ?_
              refine WL.val Wanted.none (Runs.assign rfl) ?_
              refine WL.nil ?_
              refine QW.then_n ?_
              refine CW.sub [(8, .string (strOfNums l_589)), (9, .int .i64 0)] ⟨rfl, rfl, trivial⟩ ?_
              refine CW.ret ?_
              obtain ⟨rfl, rfl⟩ := H
              exact QW.ret2 rfl rfl rfl ⟨rfl, st_593.pick [] (by decide)⟩
        · refine WL.bytes st_379 Tryd.underlying9 Tryd.underlying26 Tryd.underlying5 rfl ?_
          intro B_610 c_611 cs_612 w_613 h_614 h_615 h_616 st_617
          replace st_617 : St w w_613 [.obj B_610 (.cells cs_612.toArray 5 (c_611, c_611 + 1)), .sl A_373 c_374 n_375 (iv .u8 r_372) 5 1, .cells B_1 (iv .u8 l0) 23] := st_617
          refine WL.nil ?_
          refine AW.back ?_
          refine AW.step2 0 3 rfl rfl (by kernel_rfl) ?_ ?_
          · refine WL.val Wanted.none (Runs.load_arr arr23 rfl (st_617.blk (i := 2) rfl) hl0) ?_
            refine WL.nil ?_
            refine AW.back ?_
            refine AW.step 3 rfl (by kernel_rfl) ?_
            obtain ⟨r_623, hr_619, H⟩ := H
            refine WL.call Wanted.none ent22 rfl (reliquaryref04_Nonce.calls w_613 a1 a2 r_623 hr_619) ?_
            rintro _ w_620 ⟨hl_624, rfl, sc_622⟩
            have st_621 : St w w_620 [.obj B_610 (.cells cs_612.toArray 5 (c_611, c_611 + 1)), .sl A_373 c_374 n_375 (iv .u8 r_372) 5 1, .cells B_1 (iv .u8 l0) 23] := st_617.call sc_622
            refine ⟨_, rfl, ?_⟩
            refine WL.nil ?_
            refine AW.back ?_
            refine AW.step 6 rfl (by kernel_rfl) ?_
            obtain ⟨r_629, r_635, hr_625, H⟩ := H
            refine WL.call Wanted.none ent21 rfl (reliquaryref04_Crypt.calls w_620 l0 0 r_623 (bl a3) (some ⟨B_610, 0, none⟩) a3.size c_611 hl0 hl_624 (st_621.src_obj (i := 0) rfl h_616) ((bl_length _)) (h_614) r_629 r_635 hr_625) ?_
            rintro _ w_626 ⟨A_630, c_631, n_632, hn_633, rfl, sc_628⟩
            have st_627 : St w w_626 [.sl A_630 c_631 n_632 (iv .u8 r_629) 5 1, .obj B_610 (.cells cs_612.toArray 5 (c_611, c_611 + 1)), .sl A_373 c_374 n_375 (iv .u8 r_372) 5 1, .cells B_1 (iv .u8 l0) 23] := st_621.call sc_628
            refine ⟨_, rfl, ?_⟩
            refine WL.nil ?_
            refine AW.back ?_
            refine AW.take 7 rfl (by kernel_rfl) (by kernel_rfl) (by kernel_rfl) Wanted.none (fun _ => (Runs.move rfl)) ?_
            refine AW.take 8 rfl (by kernel_rfl) (by kernel_rfl) (by kernel_rfl) Wanted.none (fun _ => (Runs.extract rfl rfl)) ?_
            refine AW.take 9 rfl (by kernel_rfl) (by kernel_rfl) (by kernel_rfl) Wanted.none (fun _ => (Runs.extract rfl rfl)) ?_
            refine AW.take 10 rfl (by kernel_rfl) (by kernel_rfl) (by kernel_rfl) Wanted.none (fun _ => (Runs.assign rfl)) ?_
            refine AW.take 11 rfl (by kernel_rfl) (by kernel_rfl) (by kernel_rfl) Wanted.none (fun _ => (Runs.assign rfl)) ?_
            refine AW.done (by kernel_rfl) ?_
            refine QW.then_n ?_
            refine CW.sub [(8, .string (⟨#[]⟩ : ByteArray)), (9, .int .i64 0), (10, .slice A_373 n_375 c_374), (11, .slice A_630 n_632 c_631)] ⟨rfl, rfl, rfl, rfl, trivial⟩ ?_
            refine CW.seq ?_
            refine CW.region ?_
            refine WL.val Wanted.none (Runs.move rfl) ?_
            refine WL.val Wanted.none (Runs.move rfl) ?_
            obtain ⟨m_636, e_637, H⟩ := H
            obtain ⟨z_638, H⟩ := H
            obtain ⟨n_641, hn_644⟩ : ∃ n_ : Nat, n_ = m_636.length := ⟨_, rfl⟩
            refine WL.append (i := 2) Wanted.none st_627 rfl Tryd.underlying26 elem5 rfl rfl (st_627.src_sl (k := 0) rfl) (by rw [iv_length]; exact (hn_633).symm) (one_iv .u8 _) (by decide) (N := n_641) (by rw [hn_644, e_637, List.length_append]; exact congr (congrArg HAdd.hAdd (hn_376)) (hn_633)) (by rw [hn_644]; exact z_638) ?_
            intro A_639 c_640 w_642 st_643
            have st_643' : St w w_642 [.sl A_630 c_631 n_632 (iv .u8 r_629) 5 1, .obj B_610 (.cells cs_612.toArray 5 (c_611, c_611 + 1)), .sl A_639 c_640 n_641 (iv .u8 m_636) 5 1, .cells B_1 (iv .u8 l0) 23] := by rw [e_637, ← iv_append .u8 r_372 r_629]; exact st_643
            refine WL.val Wanted.none (Runs.assign rfl) ?_
            refine WL.nil ?_
            refine QW.then_n ?_
            refine CW.seq ?_
            refine CW.block ?_
            obtain ⟨k_645, H⟩ := H
            refine CW.sub [(8, .string (⟨#[]⟩ : ByteArray)), (9, .int .i64 0), (10, .slice A_639 n_641 c_640)] ⟨rfl, rfl, rfl, trivial⟩ ?_
            refine CW.loop (fun kL2 l_ w_ => ∃ (A_646 : Option Addr) (c_647 : Nat) (n_649 : Nat) (l_648 : List Int), l_ = [(8, .string (⟨#[]⟩ : ByteArray)), (9, .int .i64 0), (10, .slice A_646 n_649 c_647)] ∧ reliquaryref08_Seal.L2 r0 r1 kL2 l_648 ∧ (n_649 = l_648.length) ∧ St w w_ [.sl A_630 c_631 n_632 (iv .u8 r_629) 5 1, .obj B_610 (.cells cs_612.toArray 5 (c_611, c_611 + 1)), .sl A_646 c_647 n_649 (iv .u8 l_648) 5 1, .cells B_1 (iv .u8 l0) 23]) (k := k_645) ⟨A_639, c_640, n_641, m_636, rfl, H, hn_644, st_643'⟩ (fun _ _ h => by obtain ⟨_, _, _, _, _, h, _⟩ := h; exact h.elim) ?_
            rintro kL2 l_653 w_651 ⟨A_646, c_647, n_649, l_648, rfl, H, hn_650, st_652⟩
            refine CW.seq ?_
            refine CW.seq ?_
            refine CW.region ?_
            refine WL.val Wanted.none (Runs.move rfl) ?_
            refine WL.val Wanted.none (Runs.len_sl Tryd.underlying26 rfl (by rw [hn_650])) ?_
            refine WL.val Wanted.none (Runs.lss rfl rfl rfl) ?_
            refine WL.nil ?_
            refine QW.then_n ?_
            rcases H with ⟨c_654, H⟩ | ⟨c_654, H⟩
            · have h_655 : (decide ((l_648.length : Int) < 192)) = true := (decide_eq_true c_654)
              refine CW.ct rfl h_655 ?_
              refine CW.skip ?_
              refine QW.then_n ?_
              refine CW.block ?_
              refine CW.region ?_
              refine WL.val Wanted.none (Runs.move rfl) ?_
              refine WL.buildSl [.int .u8 0] st_652 Tryd.underlying26 elem5 rfl rfl (by decide) (by decide) (by simp [Value.cells]) ?_
              intro B_656 w_657 st_658
              replace st_658 : St w w_657 [.sl (some ⟨B_656, 0, none⟩) 1 1 (iv .u8 [0]) 5 1, .sl A_630 c_631 n_632 (iv .u8 r_629) 5 1, .obj B_610 (.cells cs_612.toArray 5 (c_611, c_611 + 1)), .sl A_646 c_647 n_649 (iv .u8 l_648) 5 1, .cells B_1 (iv .u8 l0) 23] := st_658
              obtain ⟨m_660, e_661, H⟩ := H
              obtain ⟨z_662, H⟩ := H
              obtain ⟨n_665, hn_668⟩ : ∃ n_ : Nat, n_ = m_660.length := ⟨_, rfl⟩
              refine WL.append (i := 3) Wanted.none st_658 rfl Tryd.underlying26 elem5 rfl rfl (st_658.src_sl (k := 0) rfl) (by rw [iv_length]; exact (Eq.refl _).symm) (one_iv .u8 _) (by decide) (N := n_665) (by rw [hn_668, e_661, List.length_append]; exact congr (congrArg HAdd.hAdd (hn_650)) (rfl)) (by rw [hn_668]; exact z_662) ?_
              intro A_663 c_664 w_666 st_667
              have st_667' : St w w_666 [.sl (some ⟨B_656, 0, none⟩) 1 1 (iv .u8 [0]) 5 1, .sl A_630 c_631 n_632 (iv .u8 r_629) 5 1, .obj B_610 (.cells cs_612.toArray 5 (c_611, c_611 + 1)), .sl A_663 c_664 n_665 (iv .u8 m_660) 5 1, .cells B_1 (iv .u8 l0) 23] := by rw [e_661, ← iv_append .u8 l_648 [0]]; exact st_667
              refine WL.val Wanted.none (Runs.assign rfl) ?_
              refine WL.nil ?_
              refine QW.blk_n ?_
              have st_667'' := st_667'.pick [1, 2, 3, 4] (by decide)
              exact QW.at [(8, .string (⟨#[]⟩ : ByteArray)), (9, .int .i64 0), (10, .slice A_663 n_665 c_664)] ⟨rfl, rfl, rfl, trivial⟩ ⟨A_663, c_664, n_665, m_660, rfl, H, hn_668, st_667''⟩
            · have h_655 : (decide ((l_648.length : Int) < 192)) = false := (decide_eq_false c_654)
              refine CW.cf rfl h_655 ?_
              refine CW.exit ?_
              refine QW.then_x ?_
              refine QW.then_x ?_
              refine QW.blk_x ?_
              refine QW.then_n ?_
              refine CW.seq ?_
              refine CW.region ?_
              refine WL.val Wanted.none (Runs.move rfl) ?_
              refine WL.val Wanted.none (Runs.bytes_str Tryd.underlying26 Tryd.underlying5 Tryd.underlying9 rfl (st_652.src_sl (k := 2) rfl) hn_650) ?_
              refine WL.val Wanted.none (Runs.assign rfl) ?_
              refine WL.val Wanted.none (Runs.assign rfl) ?_
              refine WL.nil ?_
              refine QW.then_n ?_
              refine CW.sub [(8, .string (strOfNums l_648)), (9, .int .i64 0)] ⟨rfl, rfl, trivial⟩ ?_
              refine CW.ret ?_
              obtain ⟨rfl, rfl⟩ := H
              exact QW.ret2 rfl rfl rfl ⟨rfl, st_652.pick [] (by decide)⟩
          · obtain ⟨r_673, hr_669, H⟩ := H
            refine WL.call Wanted.none ent22 rfl (reliquaryref04_Nonce.calls w_613 a1 a2 r_673 hr_669) ?_
            rintro _ w_670 ⟨hl_674, rfl, sc_672⟩
            have st_671 : St w w_670 [.obj B_610 (.cells cs_612.toArray 5 (c_611, c_611 + 1)), .sl A_373 c_374 n_375 (iv .u8 r_372) 5 1, .cells B_1 (iv .u8 l0) 23] := st_617.call sc_672
            refine ⟨_, rfl, ?_⟩
            refine WL.nil ?_
            refine AW.back ?_
            refine AW.step 0 rfl (by kernel_rfl) ?_
            refine WL.val Wanted.none (Runs.load_arr arr23 rfl (st_671.blk (i := 2) rfl) hl0) ?_
            refine WL.nil ?_
            refine AW.back ?_
            refine AW.step 6 rfl (by kernel_rfl) ?_
            obtain ⟨r_679, r_685, hr_675, H⟩ := H
            refine WL.call Wanted.none ent21 rfl (reliquaryref04_Crypt.calls w_670 l0 0 r_673 (bl a3) (some ⟨B_610, 0, none⟩) a3.size c_611 hl0 hl_674 (st_671.src_obj (i := 0) rfl h_616) ((bl_length _)) (h_614) r_679 r_685 hr_675) ?_
            rintro _ w_676 ⟨A_680, c_681, n_682, hn_683, rfl, sc_678⟩
            have st_677 : St w w_676 [.sl A_680 c_681 n_682 (iv .u8 r_679) 5 1, .obj B_610 (.cells cs_612.toArray 5 (c_611, c_611 + 1)), .sl A_373 c_374 n_375 (iv .u8 r_372) 5 1, .cells B_1 (iv .u8 l0) 23] := st_671.call sc_678
            refine ⟨_, rfl, ?_⟩
            refine WL.nil ?_
            refine AW.back ?_
            refine AW.take 7 rfl (by kernel_rfl) (by kernel_rfl) (by kernel_rfl) Wanted.none (fun _ => (Runs.move rfl)) ?_
            refine AW.take 8 rfl (by kernel_rfl) (by kernel_rfl) (by kernel_rfl) Wanted.none (fun _ => (Runs.extract rfl rfl)) ?_
            refine AW.take 9 rfl (by kernel_rfl) (by kernel_rfl) (by kernel_rfl) Wanted.none (fun _ => (Runs.extract rfl rfl)) ?_
            refine AW.take 10 rfl (by kernel_rfl) (by kernel_rfl) (by kernel_rfl) Wanted.none (fun _ => (Runs.assign rfl)) ?_
            refine AW.take 11 rfl (by kernel_rfl) (by kernel_rfl) (by kernel_rfl) Wanted.none (fun _ => (Runs.assign rfl)) ?_
            refine AW.done (by kernel_rfl) ?_
            refine QW.then_n ?_
            refine CW.sub [(8, .string (⟨#[]⟩ : ByteArray)), (9, .int .i64 0), (10, .slice A_373 n_375 c_374), (11, .slice A_680 n_682 c_681)] ⟨rfl, rfl, rfl, rfl, trivial⟩ ?_
            refine CW.seq ?_
            refine CW.region ?_
            refine WL.val Wanted.none (Runs.move rfl) ?_
            refine WL.val Wanted.none (Runs.move rfl) ?_
            obtain ⟨m_686, e_687, H⟩ := H
            obtain ⟨z_688, H⟩ := H
            obtain ⟨n_691, hn_694⟩ : ∃ n_ : Nat, n_ = m_686.length := ⟨_, rfl⟩
            refine WL.append (i := 2) Wanted.none st_677 rfl Tryd.underlying26 elem5 rfl rfl (st_677.src_sl (k := 0) rfl) (by rw [iv_length]; exact (hn_683).symm) (one_iv .u8 _) (by decide) (N := n_691) (by rw [hn_694, e_687, List.length_append]; exact congr (congrArg HAdd.hAdd (hn_376)) (hn_683)) (by rw [hn_694]; exact z_688) ?_
            intro A_689 c_690 w_692 st_693
            have st_693' : St w w_692 [.sl A_680 c_681 n_682 (iv .u8 r_679) 5 1, .obj B_610 (.cells cs_612.toArray 5 (c_611, c_611 + 1)), .sl A_689 c_690 n_691 (iv .u8 m_686) 5 1, .cells B_1 (iv .u8 l0) 23] := by rw [e_687, ← iv_append .u8 r_372 r_679]; exact st_693
            refine WL.val Wanted.none (Runs.assign rfl) ?_
            refine WL.nil ?_
            refine QW.then_n ?_
            refine CW.seq ?_
            refine CW.block ?_
            obtain ⟨k_695, H⟩ := H
            refine CW.sub [(8, .string (⟨#[]⟩ : ByteArray)), (9, .int .i64 0), (10, .slice A_689 n_691 c_690)] ⟨rfl, rfl, rfl, trivial⟩ ?_
            refine CW.loop (fun kL2 l_ w_ => ∃ (A_696 : Option Addr) (c_697 : Nat) (n_699 : Nat) (l_698 : List Int), l_ = [(8, .string (⟨#[]⟩ : ByteArray)), (9, .int .i64 0), (10, .slice A_696 n_699 c_697)] ∧ reliquaryref08_Seal.L2 r0 r1 kL2 l_698 ∧ (n_699 = l_698.length) ∧ St w w_ [.sl A_680 c_681 n_682 (iv .u8 r_679) 5 1, .obj B_610 (.cells cs_612.toArray 5 (c_611, c_611 + 1)), .sl A_696 c_697 n_699 (iv .u8 l_698) 5 1, .cells B_1 (iv .u8 l0) 23]) (k := k_695) ⟨A_689, c_690, n_691, m_686, rfl, H, hn_694, st_693'⟩ (fun _ _ h => by obtain ⟨_, _, _, _, _, h, _⟩ := h; exact h.elim) ?_
            rintro kL2 l_703 w_701 ⟨A_696, c_697, n_699, l_698, rfl, H, hn_700, st_702⟩
            refine CW.seq ?_
            refine CW.seq ?_
            refine CW.region ?_
            refine WL.val Wanted.none (Runs.move rfl) ?_
            refine WL.val Wanted.none (Runs.len_sl Tryd.underlying26 rfl (by rw [hn_700])) ?_
            refine WL.val Wanted.none (Runs.lss rfl rfl rfl) ?_
            refine WL.nil ?_
            refine QW.then_n ?_
            rcases H with ⟨c_704, H⟩ | ⟨c_704, H⟩
            · have h_705 : (decide ((l_698.length : Int) < 192)) = true := (decide_eq_true c_704)
              refine CW.ct rfl h_705 ?_
              refine CW.skip ?_
              refine QW.then_n ?_
              refine CW.block ?_
              refine CW.region ?_
              refine WL.val Wanted.none (Runs.move rfl) ?_
              refine WL.buildSl [.int .u8 0] st_702 Tryd.underlying26 elem5 rfl rfl (by decide) (by decide) (by simp [Value.cells]) ?_
              intro B_706 w_707 st_708
              replace st_708 : St w w_707 [.sl (some ⟨B_706, 0, none⟩) 1 1 (iv .u8 [0]) 5 1, .sl A_680 c_681 n_682 (iv .u8 r_679) 5 1, .obj B_610 (.cells cs_612.toArray 5 (c_611, c_611 + 1)), .sl A_696 c_697 n_699 (iv .u8 l_698) 5 1, .cells B_1 (iv .u8 l0) 23] := st_708
              obtain ⟨m_710, e_711, H⟩ := H
              obtain ⟨z_712, H⟩ := H
              obtain ⟨n_715, hn_718⟩ : ∃ n_ : Nat, n_ = m_710.length := ⟨_, rfl⟩
              refine WL.append (i := 3) Wanted.none st_708 rfl Tryd.underlying26 elem5 rfl rfl (st_708.src_sl (k := 0) rfl) (by rw [iv_length]; exact (Eq.refl _).symm) (one_iv .u8 _) (by decide) (N := n_715) (by rw [hn_718, e_711, List.length_append]; exact congr (congrArg HAdd.hAdd (hn_700)) (rfl)) (by rw [hn_718]; exact z_712) ?_
              intro A_713 c_714 w_716 st_717
              have st_717' : St w w_716 [.sl (some ⟨B_706, 0, none⟩) 1 1 (iv .u8 [0]) 5 1, .sl A_680 c_681 n_682 (iv .u8 r_679) 5 1, .obj B_610 (.cells cs_612.toArray 5 (c_611, c_611 + 1)), .sl A_713 c_714 n_715 (iv .u8 m_710) 5 1, .cells B_1 (iv .u8 l0) 23] := by rw [e_711, ← iv_append .u8 l_698 [0]]; exact st_717
              refine WL.val Wanted.none (Runs.assign rfl) ?_
              refine WL.nil ?_
              refine QW.blk_n ?_
              have st_717'' := st_717'.pick [1, 2, 3, 4] (by decide)
              exact QW.at [(8, .string (⟨#[]⟩ : ByteArray)), (9, .int .i64 0), (10, .slice A_713 n_715 c_714)] ⟨rfl, rfl, rfl, trivial⟩ ⟨A_713, c_714, n_715, m_710, rfl, H, hn_718, st_717''⟩
            · have h_705 : (decide ((l_698.length : Int) < 192)) = false := (decide_eq_false c_704)
              refine CW.cf rfl h_705 ?_
              refine CW.exit ?_
              refine QW.then_x ?_
              refine QW.then_x ?_
              refine QW.blk_x ?_
              refine QW.then_n ?_
              refine CW.seq ?_
              refine CW.region ?_
              refine WL.val Wanted.none (Runs.move rfl) ?_
              refine WL.val Wanted.none (Runs.bytes_str Tryd.underlying26 Tryd.underlying5 Tryd.underlying9 rfl (st_702.src_sl (k := 2) rfl) hn_700) ?_
              refine WL.val Wanted.none (Runs.assign rfl) ?_
              refine WL.val Wanted.none (Runs.assign rfl) ?_
              refine WL.nil ?_
              refine QW.then_n ?_
              refine CW.sub [(8, .string (strOfNums l_698)), (9, .int .i64 0)] ⟨rfl, rfl, trivial⟩ ?_
              refine CW.ret ?_
              obtain ⟨rfl, rfl⟩ := H
              exact QW.ret2 rfl rfl rfl ⟨rfl, st_702.pick [] (by decide)⟩

/-! ### reliquarylaw08_SealPuts: function 3 -/
def reliquarylaw08_SealPuts.rel (l0 : List Int) (a1 : Int) (a2 : Int) (l3 : List Int) (a4 : Int)  : Prop := (reliquarylaw08_awake.rel  ∧ (∃ (r_13 : List Int), reliquarylaw08_long.rel l3 a4 r_13 ∧ (∃ (r_23 : List Int) (r_29 : Int), seal_Seal.rel l0 a1 a2 r_13 r_23 r_29 ∧ (∃ (r_34 : ByteArray) (r_35 : Int), reliquaryref08_Seal.rel l0 a1 a2 (strOfNums r_13) r_34 r_35 ∧ (¬ (¬ ((strOfNums r_23).toList = r_34.toList)) ∧ (¬ (r_29 ≠ r_35) ∧ ((r_29 ≠ 0 ∧ True) ∨ (¬ (r_29 ≠ 0) ∧ (∃ (r_46 : Int) (r_47 : List Int) (r_53 : Int), seal_Open.rel l0 a1 r_23 (r_13.length : Int) r_46 r_47 r_53 ∧ (r_53 = 0 ∧ (r_46 = a2 ∧ (strOfNums r_47).toList = (strOfNums r_13).toList)))))))))))
set_option maxHeartbeats 4000000 in
set_option maxRecDepth 100000 in
theorem reliquarylaw08_SealPuts.calls (w : World) (l0 : List Int) (a1 : Int) (a2 : Int) (l3 : List Int) (a4 : Int) (A3 : Option Addr) (n3 : Nat) (c3 : Nat)  (hG0 : Src w (some ⟨0, 0, none⟩) (iv .i64 tab0)) (hl0 : l0.length = 32) (hs3 : Src w A3 (iv .u8 l3)) (hn3 : n3 = l3.length) (hc3 : n3 ≤ c3)  (H : reliquarylaw08_SealPuts.rel l0 a1 a2 l3 a4 ) :
    Calls Tryd.prog 3 #[.agg (iv .u8 l0).toArray, .int .u32 a1, .int .u64 a2, .slice A3 n3 c3, .int .u8 a4] w fun e w' => e = .returned (.bool true) ∧ Below w.heap.size w w' := by
  refine CW.enter Tryd.func3 rfl (n := 78) rfl [.agg (iv .u8 l0).toArray, .int .u32 a1, .int .u64 a2, .slice A3 n3 c3, .int .u8 a4] (Nat.le_of_ble_eq_true rfl) ?_
  refine CW.sub [(0, .agg (iv .u8 l0).toArray), (1, .int .u32 a1), (2, .int .u64 a2), (3, .slice A3 n3 c3), (4, .int .u8 a4)] ⟨rfl, rfl, rfl, rfl, rfl, trivial⟩ ?_
  have st0 : St w w [] := St.refl w
  refine CW.seq ?_
  refine CW.region ?_
  refine WL.box st0 rfl rfl ?_
  intro B_1 w_2 st_3
  replace st_3 : St w w_2 [.cells B_1 (iv .u8 l0) 23] := st_3
  refine WL.val Wanted.none (Runs.assign rfl) ?_
  refine WL.nil ?_
  refine QW.then_n ?_
  refine CW.seq ?_
  refine CW.region ?_
  obtain ⟨hr_5, H⟩ := H
  refine WL.call Wanted.none ent8 rfl (reliquarylaw08_awake.calls w_2 (hG0.ext st_3) hr_5) ?_
  rintro _ w_6 ⟨rfl, sc_8⟩
  have st_7 : St w w_6 [.cells B_1 (iv .u8 l0) 23] := st_3.below sc_8
  refine ⟨_, rfl, ?_⟩
  refine WL.val Wanted.none (Runs.assign rfl) ?_
  refine WL.nil ?_
  refine QW.then_n ?_
  refine CW.seq ?_
  refine CW.seq ?_
  refine CW.region ?_
  refine WL.val Wanted.none (Runs.move rfl) ?_
  refine WL.val Wanted.none (Runs.not rfl rfl) ?_
  refine WL.nil ?_
  refine QW.then_n ?_
  refine CW.cf rfl rfl ?_
  refine CW.skip ?_
  refine QW.then_n ?_
  refine CW.seq ?_
  refine CW.region ?_
  refine WL.val Wanted.none (Runs.move rfl) ?_
  refine WL.val Wanted.none (Runs.move rfl) ?_
  obtain ⟨r_13, hr_9, H⟩ := H
  refine WL.call Wanted.none ent9 rfl (reliquarylaw08_long.calls w_6 l3 a4 A3 n3 c3 (hs3.ext st_7) (hn3) (hc3) r_13 hr_9) ?_
  rintro _ w_10 ⟨A_14, c_15, n_16, hn_17, rfl, sc_12⟩
  have st_11 : St w w_10 [.sl A_14 c_15 n_16 (iv .u8 r_13) 5 1, .cells B_1 (iv .u8 l0) 23] := st_7.call sc_12
  refine ⟨_, rfl, ?_⟩
  refine WL.val Wanted.none (Runs.assign rfl) ?_
  refine WL.nil ?_
  refine QW.then_n ?_
  refine CW.sub [(1, .int .u32 a1), (2, .int .u64 a2), (5, .pointer (some ⟨B_1, 0, none⟩)), (10, .bool false), (12, .slice A_14 n_16 c_15)] ⟨rfl, rfl, rfl, rfl, rfl, trivial⟩ ?_
  refine CW.seq ?_
  refine CW.region ?_
  refine WL.val Wanted.none (Runs.load_arr arr23 rfl (st_11.blk (i := 1) rfl) hl0) ?_
  refine WL.val Wanted.none (Runs.move rfl) ?_
  refine WL.val Wanted.none (Runs.move rfl) ?_
  refine WL.val Wanted.none (Runs.move rfl) ?_
  obtain ⟨r_23, r_29, hr_19, H⟩ := H
  refine WL.call Wanted.none ent10 rfl (seal_Seal.calls w_10 l0 a1 a2 r_13 A_14 n_16 c_15 (hG0.ext st_11) hl0 (st_11.src_sl (k := 0) rfl) (hn_17) (st_11.cap (i := 0) rfl) r_23 r_29 hr_19) ?_
  rintro _ w_20 ⟨A_24, c_25, n_26, hn_27, rfl, sc_22⟩
  have st_21 : St w w_20 [.sl A_24 c_25 n_26 (iv .u8 r_23) 5 1, .sl A_14 c_15 n_16 (iv .u8 r_13) 5 1, .cells B_1 (iv .u8 l0) 23] := st_11.call sc_22
  refine ⟨_, rfl, ?_⟩
  refine WL.val Wanted.none (Runs.move rfl) ?_
  refine WL.val Wanted.none (Runs.extract rfl rfl) ?_
  refine WL.val Wanted.none (Runs.extract rfl rfl) ?_
  refine WL.val Wanted.none (Runs.assign rfl) ?_
  refine WL.val Wanted.none (Runs.assign rfl) ?_
  refine WL.nil ?_
  refine QW.then_n ?_
  refine CW.sub [(1, .int .u32 a1), (2, .int .u64 a2), (5, .pointer (some ⟨B_1, 0, none⟩)), (10, .bool false), (12, .slice A_14 n_16 c_15), (13, .slice A_24 n_26 c_25), (14, .int .i64 r_29)] ⟨rfl, rfl, rfl, rfl, rfl, rfl, rfl, trivial⟩ ?_
  refine CW.seq ?_
  refine CW.region ?_
  refine WL.val Wanted.none (Runs.load_arr arr23 rfl (st_21.blk (i := 2) rfl) hl0) ?_
  refine WL.val Wanted.none (Runs.move rfl) ?_
  refine WL.val Wanted.none (Runs.move rfl) ?_
  refine WL.val Wanted.none (Runs.move rfl) ?_
  refine WL.val Wanted.none (Runs.bytes_str Tryd.underlying26 Tryd.underlying5 Tryd.underlying9 rfl (st_21.src_sl (k := 1) rfl) hn_17) ?_
  obtain ⟨r_34, r_35, hr_30, H⟩ := H
  refine WL.call Wanted.none ent11 rfl (reliquaryref08_Seal.calls w_20 l0 a1 a2 (strOfNums r_13) hl0 r_34 r_35 hr_30) ?_
  rintro _ w_31 ⟨rfl, sc_33⟩
  have st_32 : St w w_31 [.sl A_24 c_25 n_26 (iv .u8 r_23) 5 1, .sl A_14 c_15 n_16 (iv .u8 r_13) 5 1, .cells B_1 (iv .u8 l0) 23] := st_21.call sc_33
  refine ⟨_, rfl, ?_⟩
  refine WL.val Wanted.none (Runs.move rfl) ?_
  refine WL.val Wanted.none (Runs.extract rfl rfl) ?_
  refine WL.val Wanted.none (Runs.extract rfl rfl) ?_
  refine WL.val Wanted.none (Runs.assign rfl) ?_
  refine WL.val Wanted.none (Runs.assign rfl) ?_
  refine WL.nil ?_
  refine QW.then_n ?_
  refine CW.sub [(1, .int .u32 a1), (2, .int .u64 a2), (5, .pointer (some ⟨B_1, 0, none⟩)), (10, .bool false), (12, .slice A_14 n_16 c_15), (13, .slice A_24 n_26 c_25), (14, .int .i64 r_29), (15, .string r_34), (16, .int .i64 r_35)] ⟨rfl, rfl, rfl, rfl, rfl, rfl, rfl, rfl, rfl, trivial⟩ ?_
  refine CW.seq ?_
  refine CW.seq ?_
  refine CW.region ?_
  refine WL.val Wanted.none (Runs.move rfl) ?_
  refine WL.val Wanted.none (Runs.bytes_str Tryd.underlying26 Tryd.underlying5 Tryd.underlying9 rfl (st_32.src_sl (k := 0) rfl) hn_27) ?_
  refine WL.val Wanted.none (Runs.move rfl) ?_
  refine WL.val Wanted.none (Runs.nes rfl rfl rfl) ?_
  refine WL.val Wanted.none (Runs.move rfl) ?_
  obtain ⟨c_36, H⟩ := H
  have h_37 : (!((strOfNums r_23).toList == r_34.toList)) = false := (not_f (beq_iff_eq.mpr (Decidable.not_not.mp c_36)))
  refine WL.on ?_ ?_; exact Wanted.guard (dj := 47) (by rfl) (evb (by rfl) h_37) (by rfl)
  refine WL.val Wanted.none (Runs.move rfl) ?_
  refine WL.on ?_ ?_; exact Wanted.guard (dj := 47) (by rfl) (evb (by rfl) h_37) (by rfl)
  refine WL.val Wanted.none (Runs.move rfl) ?_
  refine WL.on ?_ ?_; exact Wanted.guard (dj := 47) (by rfl) (evb (by rfl) h_37) (by rfl)
  refine WL.val Wanted.none (Runs.neq rfl rfl rfl) ?_
  refine WL.val Wanted.none (Runs.pick_f (evb rfl h_37) rfl) ?_
  refine WL.nil ?_
  refine QW.then_n ?_
  refine CW.sub [(1, .int .u32 a1), (2, .int .u64 a2), (5, .pointer (some ⟨B_1, 0, none⟩)), (10, .bool false), (12, .slice A_14 n_16 c_15), (13, .slice A_24 n_26 c_25), (14, .int .i64 r_29), (51, .bool (r_29 != r_35))] ⟨rfl, rfl, rfl, rfl, rfl, rfl, rfl, rfl, trivial⟩ ?_
  obtain ⟨c_38, H⟩ := H
  have h_39 : (r_29 != r_35) = false := (bne_eq_false_iff_eq.mpr (Decidable.not_not.mp c_38))
  refine CW.cf rfl h_39 ?_
  refine CW.skip ?_
  refine QW.then_n ?_
  refine CW.seq ?_
  refine CW.seq ?_
  refine CW.region ?_
  refine WL.val Wanted.none (Runs.move rfl) ?_
  refine WL.val Wanted.none (Runs.neq rfl rfl rfl) ?_
  refine WL.nil ?_
  refine QW.then_n ?_
  rcases H with ⟨c_40, H⟩ | ⟨c_40, H⟩
  · have h_41 : (r_29 != 0) = true := (bne_iff_ne.mpr c_40)
    refine CW.ct rfl h_41 ?_
    refine CW.seq ?_
    refine CW.region ?_
    refine WL.val Wanted.none (Runs.assign rfl) ?_
    refine WL.nil ?_
    refine QW.then_n ?_
    refine CW.ret ?_
    refine QW.then_r ?_
    exact QW.ret1 rfl rfl ⟨rfl, st_32.ext⟩
  · have h_41 : (r_29 != 0) = false := (bne_eq_false_iff_eq.mpr (Decidable.not_not.mp c_40))
    refine CW.cf rfl h_41 ?_
    refine CW.skip ?_
    refine QW.then_n ?_
    refine CW.seq ?_
    refine CW.region ?_
    refine WL.val Wanted.none (Runs.load_arr arr23 rfl (st_32.blk (i := 2) rfl) hl0) ?_
    refine WL.val Wanted.none (Runs.move rfl) ?_
    refine WL.val Wanted.none (Runs.move rfl) ?_
    refine WL.val Wanted.none (Runs.move rfl) ?_
    refine WL.val Wanted.none (Runs.len_sl Tryd.underlying26 rfl (by rw [hn_17])) ?_
    obtain ⟨r_46, r_47, r_53, hr_42, H⟩ := H
    refine WL.call Wanted.none ent12 rfl (seal_Open.calls w_31 l0 a1 r_23 (r_13.length : Int) A_24 n_26 c_25 (hG0.ext st_32) hl0 (st_32.src_sl (k := 0) rfl) (hn_27) (st_32.cap (i := 0) rfl) r_46 r_47 r_53 hr_42) ?_
    rintro _ w_43 ⟨A_48, c_49, n_50, hn_51, rfl, sc_45⟩
    have st_44 : St w w_43 [.sl A_48 c_49 n_50 (iv .u8 r_47) 5 1, .sl A_24 c_25 n_26 (iv .u8 r_23) 5 1, .sl A_14 c_15 n_16 (iv .u8 r_13) 5 1, .cells B_1 (iv .u8 l0) 23] := st_32.call sc_45
    refine ⟨_, rfl, ?_⟩
    refine WL.val Wanted.none (Runs.move rfl) ?_
    refine WL.val Wanted.none (Runs.extract rfl rfl) ?_
    refine WL.val Wanted.none (Runs.extract rfl rfl) ?_
    refine WL.val Wanted.none (Runs.extract rfl rfl) ?_
    refine WL.val Wanted.none (Runs.assign rfl) ?_
    refine WL.val Wanted.none (Runs.assign rfl) ?_
    refine WL.val Wanted.none (Runs.assign rfl) ?_
    refine WL.nil ?_
    refine QW.then_n ?_
    refine CW.sub [(2, .int .u64 a2), (10, .bool false), (12, .slice A_14 n_16 c_15), (17, .int .u64 r_46), (18, .slice A_48 n_50 c_49), (19, .int .i64 r_53)] ⟨rfl, rfl, rfl, rfl, rfl, rfl, trivial⟩ ?_
    refine CW.seq ?_
    refine CW.region ?_
    refine WL.val Wanted.none (Runs.move rfl) ?_
    refine WL.val Wanted.none (Runs.eql rfl rfl rfl) ?_
    refine WL.val Wanted.none (Runs.move rfl) ?_
    obtain ⟨c_54, H⟩ := H
    have h_55 : (r_53 == 0) = true := (beq_iff_eq.mpr c_54)
    refine WL.on ?_ ?_; exact Wanted.guard (dj := 66) (by rfl) (evb (by rfl) h_55) (by rfl)
    refine WL.val Wanted.none (Runs.move rfl) ?_
    refine WL.on ?_ ?_; exact Wanted.guard (dj := 66) (by rfl) (evb (by rfl) h_55) (by rfl)
    refine WL.val Wanted.none (Runs.move rfl) ?_
    refine WL.on ?_ ?_; exact Wanted.guard (dj := 66) (by rfl) (evb (by rfl) h_55) (by rfl)
    refine WL.val Wanted.none (Runs.eql rfl rfl rfl) ?_
    refine WL.val Wanted.none (Runs.pick_t (evb rfl h_55) rfl) ?_
    refine WL.val Wanted.none (Runs.move rfl) ?_
    obtain ⟨c_56, H⟩ := H
    have h_57 : (r_46 == a2) = true := (beq_iff_eq.mpr c_56)
    refine WL.on ?_ ?_; exact Wanted.guard (dj := 71) (by rfl) (evb (by rfl) h_57) (by rfl)
    refine WL.val Wanted.none (Runs.move rfl) ?_
    refine WL.on ?_ ?_; exact Wanted.guard (dj := 71) (by rfl) (evb (by rfl) h_57) (by rfl)
    refine WL.val Wanted.none (Runs.bytes_str Tryd.underlying26 Tryd.underlying5 Tryd.underlying9 rfl (st_44.src_sl (k := 0) rfl) hn_51) ?_
    refine WL.on ?_ ?_; exact Wanted.guard (dj := 71) (by rfl) (evb (by rfl) h_57) (by rfl)
    refine WL.val Wanted.none (Runs.move rfl) ?_
    refine WL.on ?_ ?_; exact Wanted.guard (dj := 71) (by rfl) (evb (by rfl) h_57) (by rfl)
    refine WL.val Wanted.none (Runs.bytes_str Tryd.underlying26 Tryd.underlying5 Tryd.underlying9 rfl (st_44.src_sl (k := 2) rfl) hn_17) ?_
    refine WL.on ?_ ?_; exact Wanted.guard (dj := 71) (by rfl) (evb (by rfl) h_57) (by rfl)
    refine WL.val Wanted.none (Runs.eqs rfl rfl rfl) ?_
    refine WL.val Wanted.none (Runs.pick_t (evb rfl h_57) rfl) ?_
    refine WL.val Wanted.none (Runs.assign rfl) ?_
    refine WL.nil ?_
    refine QW.then_n ?_
    refine CW.sub [(10, .bool ((strOfNums r_47).toList == (strOfNums r_13).toList))] ⟨rfl, trivial⟩ ?_
    refine CW.ret ?_
    have hz : ((strOfNums r_47).toList == (strOfNums r_13).toList) = true := (beq_iff_eq.mpr H)
    exact QW.ret1 rfl (evb rfl hz) ⟨rfl, st_44.ext⟩

/-! ### reliquaryref08_Open: function 13 -/
def reliquaryref08_Open.L1 (l0 : List Int) (a1 : Int) (a2 : ByteArray) (a3 : Int) (r0 : Int) (r1 : ByteArray) (r2 : Int) (r_24 : Int) : Nat → Int → ByteArray → Int → Int → Prop
  | 0, _, _, _, _ => False
  | kL1 + 1, x_31, s_32, x_33, x_34 => ((x_34 < 192 ∧ ((0 ≤ x_34 ∧ x_34 < (a2.size : Int)) ∧ (((bn a2 ((x_34).toNat)) ≠ 0 ∧ r0 = 0 ∧ r1 = (⟨#[]⟩ : ByteArray) ∧ r2 = 11) ∨ (¬ ((bn a2 ((x_34).toNat)) ≠ 0) ∧ reliquaryref08_Open.L1 l0 a1 a2 a3 r0 r1 r2 r_24 kL1 x_31 s_32 x_33 (IntKind.i64.wrap (x_34 + 1)))))) ∨ (¬ (x_34 < 192) ∧ ((0 ≤ (8 : Int) ∧ (8 : Int) ≤ (IntKind.i64.wrap (8 + a3)) ∧ (IntKind.i64.wrap (8 + a3)) ≤ (a2.size : Int)) ∧ (∃ (r_53 : List Int), reliquaryref04_Nonce.rel a1 r_24 r_53 ∧ (∃ (r_68 : List Int) (r_74 : Int), reliquaryref04_Crypt.rel l0 0 r_53 (bl (sx a2 (8 : Int) (IntKind.i64.wrap (8 + a3)))) r_68 r_74 ∧ r0 = r_24 ∧ r1 = strOfNums r_68 ∧ r2 = 0)))))
def reliquaryref08_Open.L2 (l0 : List Int) (a1 : Int) (a2 : ByteArray) (a3 : Int) (r0 : Int) (r1 : ByteArray) (r2 : Int) (r_217 : Int) : Nat → Int → ByteArray → Int → Int → Prop
  | 0, _, _, _, _ => False
  | kL2 + 1, x_224, s_225, x_226, x_227 => ((x_227 < 192 ∧ ((0 ≤ x_227 ∧ x_227 < (a2.size : Int)) ∧ (((bn a2 ((x_227).toNat)) ≠ 0 ∧ r0 = 0 ∧ r1 = (⟨#[]⟩ : ByteArray) ∧ r2 = 11) ∨ (¬ ((bn a2 ((x_227).toNat)) ≠ 0) ∧ reliquaryref08_Open.L2 l0 a1 a2 a3 r0 r1 r2 r_217 kL2 x_224 s_225 x_226 (IntKind.i64.wrap (x_227 + 1)))))) ∨ (¬ (x_227 < 192) ∧ ((0 ≤ (8 : Int) ∧ (8 : Int) ≤ (IntKind.i64.wrap (8 + a3)) ∧ (IntKind.i64.wrap (8 + a3)) ≤ (a2.size : Int)) ∧ (∃ (r_246 : List Int), reliquaryref04_Nonce.rel a1 r_217 r_246 ∧ (∃ (r_261 : List Int) (r_267 : Int), reliquaryref04_Crypt.rel l0 0 r_246 (bl (sx a2 (8 : Int) (IntKind.i64.wrap (8 + a3)))) r_261 r_267 ∧ r0 = r_217 ∧ r1 = strOfNums r_261 ∧ r2 = 0)))))
def reliquaryref08_Open.rel (l0 : List Int) (a1 : Int) (a2 : ByteArray) (a3 : Int) (r0 : Int) (r1 : ByteArray) (r2 : Int) : Prop := ((a3 ≠ 160 ∧ ((a3 ≠ 176 ∧ r0 = 0 ∧ r1 = (⟨#[]⟩ : ByteArray) ∧ r2 = 1) ∨ (¬ (a3 ≠ 176) ∧ (((a2.size : Int) ≠ 192 ∧ r0 = 0 ∧ r1 = (⟨#[]⟩ : ByteArray) ∧ r2 = 11) ∨ (¬ ((a2.size : Int) ≠ 192) ∧ (∃ (r_24 : Int) (r_25 : Int), reliquaryref01_Get.rel (bl a2) 0 8 r_24 r_25 ∧ ((r_24 = 0 ∧ r0 = 0 ∧ r1 = (⟨#[]⟩ : ByteArray) ∧ r2 = 11) ∨ (¬ (r_24 = 0) ∧ ((r_24 = 18446744073709551615 ∧ r0 = 0 ∧ r1 = (⟨#[]⟩ : ByteArray) ∧ r2 = 11) ∨ (¬ (r_24 = 18446744073709551615) ∧ (∃ k_ : Nat, reliquaryref08_Open.L1 l0 a1 a2 a3 r0 r1 r2 r_24 k_ 0 (⟨#[]⟩ : ByteArray) 0 (IntKind.i64.wrap (8 + a3))))))))))))) ∨ (¬ (a3 ≠ 160) ∧ (((a2.size : Int) ≠ 192 ∧ r0 = 0 ∧ r1 = (⟨#[]⟩ : ByteArray) ∧ r2 = 11) ∨ (¬ ((a2.size : Int) ≠ 192) ∧ (∃ (r_217 : Int) (r_218 : Int), reliquaryref01_Get.rel (bl a2) 0 8 r_217 r_218 ∧ ((r_217 = 0 ∧ r0 = 0 ∧ r1 = (⟨#[]⟩ : ByteArray) ∧ r2 = 11) ∨ (¬ (r_217 = 0) ∧ ((r_217 = 18446744073709551615 ∧ r0 = 0 ∧ r1 = (⟨#[]⟩ : ByteArray) ∧ r2 = 11) ∨ (¬ (r_217 = 18446744073709551615) ∧ (∃ k_ : Nat, reliquaryref08_Open.L2 l0 a1 a2 a3 r0 r1 r2 r_217 k_ 0 (⟨#[]⟩ : ByteArray) 0 (IntKind.i64.wrap (8 + a3))))))))))))
set_option maxHeartbeats 4000000 in
set_option maxRecDepth 100000 in
theorem reliquaryref08_Open.calls (w : World) (l0 : List Int) (a1 : Int) (a2 : ByteArray) (a3 : Int)   (hl0 : l0.length = 32) (r0 : Int) (r1 : ByteArray) (r2 : Int) (H : reliquaryref08_Open.rel l0 a1 a2 a3 r0 r1 r2) :
    Calls Tryd.prog 13 #[.agg (iv .u8 l0).toArray, .int .u32 a1, .string a2, .int .i64 a3] w fun e w' => e = .returned (.tuple #[.int .u64 r0, .string r1, .int .i64 r2]) ∧ St w w' [] := by
  refine CW.enter Tryd.func13 rfl (n := 63) rfl [.agg (iv .u8 l0).toArray, .int .u32 a1, .string a2, .int .i64 a3] (Nat.le_of_ble_eq_true rfl) ?_
  refine CW.sub [(0, .agg (iv .u8 l0).toArray), (1, .int .u32 a1), (2, .string a2), (3, .int .i64 a3)] ⟨rfl, rfl, rfl, rfl, trivial⟩ ?_
  have st0 : St w w [] := St.refl w
  refine CW.seq ?_
  refine CW.region ?_
  refine WL.box st0 rfl rfl ?_
  intro B_1 w_2 st_3
  replace st_3 : St w w_2 [.cells B_1 (iv .u8 l0) 23] := st_3
  refine WL.val Wanted.none (Runs.assign rfl) ?_
  refine WL.val Wanted.none (Runs.assign rfl) ?_
  refine WL.val Wanted.none (Runs.assign rfl) ?_
  refine WL.nil ?_
  refine QW.then_n ?_
  refine CW.seq ?_
  refine CW.seq ?_
  refine CW.region ?_
  refine WL.val Wanted.none (Runs.move rfl) ?_
  refine WL.val Wanted.none (Runs.neq rfl rfl rfl) ?_
  refine WL.val Wanted.none (Runs.move rfl) ?_
  rcases H with ⟨c_5, H⟩ | ⟨c_5, H⟩
  · have h_6 : (a3 != 160) = true := (bne_iff_ne.mpr c_5)
    refine WL.on ?_ ?_; exact Wanted.guard (dj := 18) (by rfl) (evb (by rfl) h_6) (by rfl)
    refine WL.val Wanted.none (Runs.move rfl) ?_
    refine WL.on ?_ ?_; exact Wanted.guard (dj := 18) (by rfl) (evb (by rfl) h_6) (by rfl)
    refine WL.val Wanted.none (Runs.neq rfl rfl rfl) ?_
    refine WL.val Wanted.none (Runs.pick_t (evb rfl h_6) rfl) ?_
    refine WL.nil ?_
    refine QW.then_n ?_
    refine CW.sub [(1, .int .u32 a1), (2, .string a2), (3, .int .i64 a3), (4, .pointer (some ⟨B_1, 0, none⟩)), (8, .int .u64 0), (9, .string (⟨#[]⟩ : ByteArray)), (10, .int .i64 0), (21, .bool (a3 != 176))] ⟨rfl, rfl, rfl, rfl, rfl, rfl, rfl, rfl, trivial⟩ ?_
    rcases H with ⟨c_7, H⟩ | ⟨c_7, H⟩
    · have h_8 : (a3 != 176) = true := (bne_iff_ne.mpr c_7)
      refine CW.ct rfl h_8 ?_
      refine CW.seq ?_
      refine CW.region ?_
      refine WL.val Wanted.none (Runs.assign rfl) ?_
      refine WL.val Wanted.none (Runs.assign rfl) ?_
      refine WL.val Wanted.none (Runs.assign rfl) ?_
      refine WL.nil ?_
      refine QW.then_n ?_
      refine CW.ret ?_
      refine QW.then_r ?_
      obtain ⟨rfl, rfl, rfl⟩ := H
      exact QW.ret3 rfl rfl rfl rfl ⟨rfl, st_3.pick [] (by decide)⟩
    · have h_8 : (a3 != 176) = false := (bne_eq_false_iff_eq.mpr (Decidable.not_not.mp c_7))
      refine CW.cf rfl h_8 ?_
      refine CW.skip ?_
      refine QW.then_n ?_
      refine CW.seq ?_
      refine CW.seq ?_
      refine CW.region ?_
      refine WL.val Wanted.none (Runs.move rfl) ?_
      refine WL.val Wanted.none (Runs.len_str Tryd.underlying9 rfl) ?_
      refine WL.val Wanted.none (Runs.neq rfl rfl rfl) ?_
      refine WL.nil ?_
      refine QW.then_n ?_
      rcases H with ⟨c_9, H⟩ | ⟨c_9, H⟩
      · have h_10 : ((a2.size : Int) != 192) = true := (bne_iff_ne.mpr c_9)
        refine CW.ct rfl h_10 ?_
        refine CW.seq ?_
        refine CW.region ?_
        refine WL.val Wanted.none (Runs.assign rfl) ?_
        refine WL.val Wanted.none (Runs.assign rfl) ?_
        refine WL.val Wanted.none (Runs.assign rfl) ?_
        refine WL.nil ?_
        refine QW.then_n ?_
        refine CW.ret ?_
        refine QW.then_r ?_
        obtain ⟨rfl, rfl, rfl⟩ := H
        exact QW.ret3 rfl rfl rfl rfl ⟨rfl, st_3.pick [] (by decide)⟩
      · have h_10 : ((a2.size : Int) != 192) = false := (bne_eq_false_iff_eq.mpr (Decidable.not_not.mp c_9))
        refine CW.cf rfl h_10 ?_
        refine CW.skip ?_
        refine QW.then_n ?_
        refine CW.seq ?_
        refine CW.region ?_
        refine WL.val Wanted.none (Runs.move rfl) ?_
        refine WL.bytes st_3 Tryd.underlying9 Tryd.underlying26 Tryd.underlying5 rfl ?_
        intro B_11 c_12 cs_13 w_14 h_15 h_16 h_17 st_18
        replace st_18 : St w w_14 [.obj B_11 (.cells cs_13.toArray 5 (c_12, c_12 + 1)), .cells B_1 (iv .u8 l0) 23] := st_18
        obtain ⟨r_24, r_25, hr_20, H⟩ := H
        refine WL.call Wanted.none ent26 rfl (reliquaryref01_Get.calls w_14 (bl a2) 0 8 (some ⟨B_11, 0, none⟩) a2.size c_12 (st_18.src_obj (i := 0) rfl h_17) ((bl_length _)) (h_15) r_24 r_25 hr_20) ?_
        rintro _ w_21 ⟨rfl, sc_23⟩
        have st_22 : St w w_21 [.obj B_11 (.cells cs_13.toArray 5 (c_12, c_12 + 1)), .cells B_1 (iv .u8 l0) 23] := st_18.call sc_23
        refine ⟨_, rfl, ?_⟩
        refine WL.val Wanted.none (Runs.move rfl) ?_
        refine WL.val Wanted.none (Runs.extract rfl rfl) ?_
        refine WL.val Wanted.none (Runs.extract rfl rfl) ?_
        refine WL.val Wanted.none (Runs.assign rfl) ?_
        refine WL.val Wanted.none (Runs.assign rfl) ?_
        refine WL.nil ?_
        refine QW.then_n ?_
        refine CW.sub [(1, .int .u32 a1), (2, .string a2), (3, .int .i64 a3), (4, .pointer (some ⟨B_1, 0, none⟩)), (8, .int .u64 0), (9, .string (⟨#[]⟩ : ByteArray)), (10, .int .i64 0), (11, .int .u64 r_24)] ⟨rfl, rfl, rfl, rfl, rfl, rfl, rfl, rfl, trivial⟩ ?_
        refine CW.seq ?_
        refine CW.seq ?_
        refine CW.region ?_
        refine WL.val Wanted.none (Runs.move rfl) ?_
        refine WL.val Wanted.none (Runs.eql rfl rfl rfl) ?_
        refine WL.val Wanted.none (Runs.move rfl) ?_
        rcases H with ⟨c_26, H⟩ | ⟨c_26, H⟩
        · have h_27 : (r_24 == 0) = true := (beq_iff_eq.mpr c_26)
          refine WL.off ?_ ?_; exact Wanted.guard (dj := 33) (by rfl) (evb (by rfl) h_27) (by rfl)
          refine WL.off ?_ ?_; exact Wanted.guard (dj := 33) (by rfl) (evb (by rfl) h_27) (by rfl)
          refine WL.val Wanted.none (Runs.pick_t (evb rfl h_27) rfl) ?_
          refine WL.nil ?_
          refine QW.then_n ?_
          refine CW.ct rfl rfl ?_
          refine CW.seq ?_
          refine CW.region ?_
          refine WL.val Wanted.none (Runs.assign rfl) ?_
          refine WL.val Wanted.none (Runs.assign rfl) ?_
          refine WL.val Wanted.none (Runs.assign rfl) ?_
          refine WL.nil ?_
          refine QW.then_n ?_
          refine CW.sub [(1, .int .u32 a1), (2, .string a2), (3, .int .i64 a3), (4, .pointer (some ⟨B_1, 0, none⟩)), (8, .int .u64 0), (9, .string (⟨#[]⟩ : ByteArray)), (10, .int .i64 11), (11, .int .u64 r_24)] ⟨rfl, rfl, rfl, rfl, rfl, rfl, rfl, rfl, trivial⟩ ?_
          refine CW.ret ?_
          refine QW.then_r ?_
          obtain ⟨rfl, rfl, rfl⟩ := H
          exact QW.ret3 rfl rfl rfl rfl ⟨rfl, st_22.pick [] (by decide)⟩
        · have h_27 : (r_24 == 0) = false := (beq_eq_false_iff_ne.mpr c_26)
          refine WL.on ?_ ?_; exact Wanted.guard (dj := 33) (by rfl) (evb (by rfl) h_27) (by rfl)
          refine WL.val Wanted.none (Runs.move rfl) ?_
          refine WL.on ?_ ?_; exact Wanted.guard (dj := 33) (by rfl) (evb (by rfl) h_27) (by rfl)
          refine WL.val Wanted.none (Runs.eql rfl rfl rfl) ?_
          refine WL.val Wanted.none (Runs.pick_f (evb rfl h_27) rfl) ?_
          refine WL.nil ?_
          refine QW.then_n ?_
          rcases H with ⟨c_28, H⟩ | ⟨c_28, H⟩
          · have h_29 : (r_24 == 18446744073709551615) = true := (beq_iff_eq.mpr c_28)
            refine CW.ct rfl h_29 ?_
            refine CW.seq ?_
            refine CW.region ?_
            refine WL.val Wanted.none (Runs.assign rfl) ?_
            refine WL.val Wanted.none (Runs.assign rfl) ?_
            refine WL.val Wanted.none (Runs.assign rfl) ?_
            refine WL.nil ?_
            refine QW.then_n ?_
            refine CW.sub [(1, .int .u32 a1), (2, .string a2), (3, .int .i64 a3), (4, .pointer (some ⟨B_1, 0, none⟩)), (8, .int .u64 0), (9, .string (⟨#[]⟩ : ByteArray)), (10, .int .i64 11), (11, .int .u64 r_24)] ⟨rfl, rfl, rfl, rfl, rfl, rfl, rfl, rfl, trivial⟩ ?_
            refine CW.ret ?_
            refine QW.then_r ?_
            obtain ⟨rfl, rfl, rfl⟩ := H
            exact QW.ret3 rfl rfl rfl rfl ⟨rfl, st_22.pick [] (by decide)⟩
          · have h_29 : (r_24 == 18446744073709551615) = false := (beq_eq_false_iff_ne.mpr c_28)
            refine CW.cf rfl h_29 ?_
            refine CW.skip ?_
            refine QW.then_n ?_
            refine CW.sub [(1, .int .u32 a1), (2, .string a2), (3, .int .i64 a3), (4, .pointer (some ⟨B_1, 0, none⟩)), (8, .int .u64 0), (9, .string (⟨#[]⟩ : ByteArray)), (10, .int .i64 0), (11, .int .u64 r_24)] ⟨rfl, rfl, rfl, rfl, rfl, rfl, rfl, rfl, trivial⟩ ?_
            refine CW.seq ?_
            refine CW.seq ?_
            refine CW.region ?_
            refine WL.val Wanted.none (Runs.move rfl) ?_
            refine WL.val Wanted.none (Runs.add rfl rfl rfl) ?_
            refine WL.val Wanted.none (Runs.assign rfl) ?_
            refine WL.nil ?_
            refine QW.then_n ?_
            refine CW.block ?_
            obtain ⟨k_30, H⟩ := H
            refine CW.sub [(1, .int .u32 a1), (2, .string a2), (3, .int .i64 a3), (4, .pointer (some ⟨B_1, 0, none⟩)), (8, .int .u64 0), (9, .string (⟨#[]⟩ : ByteArray)), (10, .int .i64 0), (11, .int .u64 r_24), (13, .int .i64 (IntKind.i64.wrap (8 + a3)))] ⟨rfl, rfl, rfl, rfl, rfl, rfl, rfl, rfl, rfl, trivial⟩ ?_
            refine CW.loop (fun kL1 l_ w_ => ∃ (x_31 : Int) (s_32 : ByteArray) (x_33 : Int) (x_34 : Int), l_ = [(1, .int .u32 a1), (2, .string a2), (3, .int .i64 a3), (4, .pointer (some ⟨B_1, 0, none⟩)), (8, .int .u64 x_31), (9, .string s_32), (10, .int .i64 x_33), (11, .int .u64 r_24), (13, .int .i64 x_34)] ∧ reliquaryref08_Open.L1 l0 a1 a2 a3 r0 r1 r2 r_24 kL1 x_31 s_32 x_33 x_34 ∧ St w w_ [.obj B_11 (.cells cs_13.toArray 5 (c_12, c_12 + 1)), .cells B_1 (iv .u8 l0) 23]) (k := k_30) ⟨0, (⟨#[]⟩ : ByteArray), 0, IntKind.i64.wrap (8 + a3), rfl, H, st_22⟩ (fun _ _ h => by obtain ⟨_, _, _, _, _, h, _⟩ := h; exact h.elim) ?_
            rintro kL1 l_37 w_35 ⟨x_31, s_32, x_33, x_34, rfl, H, st_36⟩
            refine CW.seq ?_
            refine CW.seq ?_
            refine CW.region ?_
            refine WL.val Wanted.none (Runs.move rfl) ?_
            refine WL.val Wanted.none (Runs.lss rfl rfl rfl) ?_
            refine WL.nil ?_
            refine QW.then_n ?_
            rcases H with ⟨c_38, H⟩ | ⟨c_38, H⟩
            · have h_39 : (decide (x_34 < 192)) = true := (decide_eq_true c_38)
              refine CW.ct rfl h_39 ?_
              refine CW.skip ?_
              refine QW.then_n ?_
              refine CW.seq ?_
              refine CW.block ?_
              refine CW.seq ?_
              refine CW.region ?_
              refine WL.val Wanted.none (Runs.move rfl) ?_
              refine WL.val Wanted.none (Runs.move rfl) ?_
              obtain ⟨⟨p_40, q_41⟩, H⟩ := H
              refine WL.val Wanted.none (Runs.index_str Tryd.underlying9 rfl rfl p_40 q_41 (j := (x_34).toNat) (by first | rfl | omega)) ?_
              refine WL.val Wanted.none (Runs.neq rfl rfl rfl) ?_
              refine WL.nil ?_
              refine QW.then_n ?_
              rcases H with ⟨c_42, H⟩ | ⟨c_42, H⟩
              · have h_43 : ((bn a2 ((x_34).toNat)) != 0) = true := (bne_iff_ne.mpr c_42)
                refine CW.ct rfl h_43 ?_
                refine CW.seq ?_
                refine CW.region ?_
                refine WL.val Wanted.none (Runs.assign rfl) ?_
                refine WL.val Wanted.none (Runs.assign rfl) ?_
                refine WL.val Wanted.none (Runs.assign rfl) ?_
                refine WL.nil ?_
                refine QW.then_n ?_
                refine CW.ret ?_
                refine QW.blk_r ?_
                refine QW.then_r ?_
                refine QW.then_r ?_
                refine QW.blk_r ?_
                refine QW.then_r ?_
                obtain ⟨rfl, rfl, rfl⟩ := H
                exact QW.ret3 rfl rfl rfl rfl ⟨rfl, st_36.pick [] (by decide)⟩
              · have h_43 : ((bn a2 ((x_34).toNat)) != 0) = false := (bne_eq_false_iff_eq.mpr (Decidable.not_not.mp c_42))
                refine CW.cf rfl h_43 ?_
                refine CW.skip ?_
                refine QW.blk_n ?_
                refine QW.then_n ?_
                refine CW.region ?_
                refine WL.val Wanted.none (Runs.move rfl) ?_
                refine WL.val Wanted.none (Runs.add rfl rfl rfl) ?_
                refine WL.val Wanted.none (Runs.assign rfl) ?_
                refine WL.nil ?_
                exact QW.at [(1, .int .u32 a1), (2, .string a2), (3, .int .i64 a3), (4, .pointer (some ⟨B_1, 0, none⟩)), (8, .int .u64 x_31), (9, .string s_32), (10, .int .i64 x_33), (11, .int .u64 r_24), (13, .int .i64 (IntKind.i64.wrap (x_34 + 1)))] ⟨rfl, rfl, rfl, rfl, rfl, rfl, rfl, rfl, rfl, trivial⟩ ⟨x_31, s_32, x_33, IntKind.i64.wrap (x_34 + 1), rfl, H, st_36⟩
            · have h_39 : (decide (x_34 < 192)) = false := (decide_eq_false c_38)
              refine CW.cf rfl h_39 ?_
              refine CW.exit ?_
              refine QW.then_x ?_
              refine QW.then_x ?_
              refine QW.blk_x ?_
              refine QW.then_n ?_
              refine CW.seq ?_
              refine CW.region_aw wide st_36 (fun w_44 st_45 => ?_)
              refine AW.take 1 rfl (by kernel_rfl) (by kernel_rfl) (by kernel_rfl) Wanted.none (fun _ => (Runs.move rfl)) ?_
              refine AW.take 2 rfl (by kernel_rfl) (by kernel_rfl) (by kernel_rfl) Wanted.none (fun _ => (Runs.move rfl)) ?_
              refine AW.take 4 rfl (by kernel_rfl) (by kernel_rfl) (by kernel_rfl) Wanted.none (fun _ => (Runs.move rfl)) ?_
              refine AW.take 5 rfl (by kernel_rfl) (by kernel_rfl) (by kernel_rfl) Wanted.none (fun _ => (Runs.move rfl)) ?_
              refine AW.take 6 rfl (by kernel_rfl) (by kernel_rfl) (by kernel_rfl) Wanted.none (fun _ => (Runs.add rfl rfl rfl)) ?_
              obtain ⟨⟨p_46, q_47, r_48⟩, H⟩ := H
              refine AW.take 7 rfl (by kernel_rfl) (by kernel_rfl) (by kernel_rfl) Wanted.none (fun _ => (Runs.str_lh Tryd.underlying9 rfl rfl rfl p_46 q_47 r_48)) ?_
              refine AW.step3 0 3 8 rfl rfl rfl (by kernel_rfl) ?_ ?_ ?_
              · refine WL.val Wanted.none (Runs.load_arr arr23 rfl (st_45.blk (i := 1) rfl) hl0) ?_
                refine WL.nil ?_
                refine AW.back ?_
                refine AW.step2 3 8 rfl rfl (by kernel_rfl) ?_ ?_
                · obtain ⟨r_53, hr_49, H⟩ := H
                  refine WL.call Wanted.none ent22 rfl (reliquaryref04_Nonce.calls w_44 a1 r_24 r_53 hr_49) ?_
                  rintro _ w_50 ⟨hl_54, rfl, sc_52⟩
                  have st_51 : St w w_50 [.obj B_11 (.cells cs_13.toArray 5 (c_12, c_12 + 1)), .cells B_1 (iv .u8 l0) 23] := st_45.call sc_52
                  refine ⟨_, rfl, ?_⟩
                  refine WL.nil ?_
                  refine AW.back ?_
                  refine AW.step 8 rfl (by kernel_rfl) ?_
                  refine WL.bytes st_51 Tryd.underlying9 Tryd.underlying26 Tryd.underlying5 rfl ?_
                  intro B_55 c_56 cs_57 w_58 h_59 h_60 h_61 st_62
                  replace st_62 : St w w_58 [.obj B_55 (.cells cs_57.toArray 5 (c_56, c_56 + 1)), .obj B_11 (.cells cs_13.toArray 5 (c_12, c_12 + 1)), .cells B_1 (iv .u8 l0) 23] := st_62
                  refine WL.nil ?_
                  refine AW.back ?_
                  refine AW.step 9 rfl (by kernel_rfl) ?_
                  obtain ⟨r_68, r_74, hr_64, H⟩ := H
                  refine WL.call Wanted.none ent21 rfl (reliquaryref04_Crypt.calls w_58 l0 0 r_53 (bl (sx a2 (8 : Int) (IntKind.i64.wrap (8 + a3)))) (some ⟨B_55, 0, none⟩) ((sx a2 (8 : Int) (IntKind.i64.wrap (8 + a3))).size) c_56 hl0 hl_54 (st_62.src_obj (i := 0) rfl h_61) ((bl_length _)) (h_59) r_68 r_74 hr_64) ?_
                  rintro _ w_65 ⟨A_69, c_70, n_71, hn_72, rfl, sc_67⟩
                  have st_66 : St w w_65 [.sl A_69 c_70 n_71 (iv .u8 r_68) 5 1, .obj B_55 (.cells cs_57.toArray 5 (c_56, c_56 + 1)), .obj B_11 (.cells cs_13.toArray 5 (c_12, c_12 + 1)), .cells B_1 (iv .u8 l0) 23] := st_62.call sc_67
                  refine ⟨_, rfl, ?_⟩
                  refine WL.nil ?_
                  refine AW.back ?_
                  refine AW.take 10 rfl (by kernel_rfl) (by kernel_rfl) (by kernel_rfl) Wanted.none (fun _ => (Runs.move rfl)) ?_
                  refine AW.take 11 rfl (by kernel_rfl) (by kernel_rfl) (by kernel_rfl) Wanted.none (fun _ => (Runs.extract rfl rfl)) ?_
                  refine AW.take 12 rfl (by kernel_rfl) (by kernel_rfl) (by kernel_rfl) Wanted.none (fun _ => (Runs.extract rfl rfl)) ?_
                  refine AW.take 13 rfl (by kernel_rfl) (by kernel_rfl) (by kernel_rfl) Wanted.none (fun _ => (Runs.assign rfl)) ?_
                  refine AW.take 14 rfl (by kernel_rfl) (by kernel_rfl) (by kernel_rfl) Wanted.none (fun _ => (Runs.assign rfl)) ?_
                  refine AW.done (by kernel_rfl) ?_
                  refine QW.then_n ?_
                  refine CW.sub [(8, .int .u64 x_31), (9, .string s_32), (10, .int .i64 x_33), (11, .int .u64 r_24), (14, .slice A_69 n_71 c_70)] ⟨rfl, rfl, rfl, rfl, rfl, trivial⟩ ?_
                  refine CW.seq ?_
                  refine CW.region_qa wide (by kernel_rfl) st_66 ?_
                  refine HL.val Wanted.none (fun wq sq => (Runs.move rfl)) ?_
                  refine HL.val Wanted.none (fun wq sq => (Runs.move rfl)) ?_
                  refine HL.val Wanted.none (fun wq sq => (Runs.bytes_str Tryd.underlying26 Tryd.underlying5 Tryd.underlying9 rfl (sq.src_sl (k := 0) rfl) hn_72)) ?_
                  refine HL.val Wanted.none (fun wq sq => (Runs.assign rfl)) ?_
                  refine HL.val Wanted.none (fun wq sq => (Runs.assign rfl)) ?_
                  refine HL.val Wanted.none (fun wq sq => (Runs.assign rfl)) ?_
                  refine HL.nil (fun w_75 st_76 => ?_)
                  refine WL.nil ?_
                  refine QW.then_n ?_
                  refine CW.ret ?_
                  obtain ⟨rfl, rfl, rfl⟩ := H
                  exact QW.ret3 rfl rfl rfl rfl ⟨rfl, st_76.pick [] (by decide)⟩
                · refine WL.bytes st_45 Tryd.underlying9 Tryd.underlying26 Tryd.underlying5 rfl ?_
                  intro B_77 c_78 cs_79 w_80 h_81 h_82 h_83 st_84
                  replace st_84 : St w w_80 [.obj B_77 (.cells cs_79.toArray 5 (c_78, c_78 + 1)), .obj B_11 (.cells cs_13.toArray 5 (c_12, c_12 + 1)), .cells B_1 (iv .u8 l0) 23] := st_84
                  refine WL.nil ?_
                  refine AW.back ?_
                  refine AW.step 3 rfl (by kernel_rfl) ?_
                  obtain ⟨r_90, hr_86, H⟩ := H
                  refine WL.call Wanted.none ent22 rfl (reliquaryref04_Nonce.calls w_80 a1 r_24 r_90 hr_86) ?_
                  rintro _ w_87 ⟨hl_91, rfl, sc_89⟩
                  have st_88 : St w w_87 [.obj B_77 (.cells cs_79.toArray 5 (c_78, c_78 + 1)), .obj B_11 (.cells cs_13.toArray 5 (c_12, c_12 + 1)), .cells B_1 (iv .u8 l0) 23] := st_84.call sc_89
                  refine ⟨_, rfl, ?_⟩
                  refine WL.nil ?_
                  refine AW.back ?_
                  refine AW.step 9 rfl (by kernel_rfl) ?_
                  obtain ⟨r_96, r_102, hr_92, H⟩ := H
                  refine WL.call Wanted.none ent21 rfl (reliquaryref04_Crypt.calls w_87 l0 0 r_90 (bl (sx a2 (8 : Int) (IntKind.i64.wrap (8 + a3)))) (some ⟨B_77, 0, none⟩) ((sx a2 (8 : Int) (IntKind.i64.wrap (8 + a3))).size) c_78 hl0 hl_91 (st_88.src_obj (i := 0) rfl h_83) ((bl_length _)) (h_81) r_96 r_102 hr_92) ?_
                  rintro _ w_93 ⟨A_97, c_98, n_99, hn_100, rfl, sc_95⟩
                  have st_94 : St w w_93 [.sl A_97 c_98 n_99 (iv .u8 r_96) 5 1, .obj B_77 (.cells cs_79.toArray 5 (c_78, c_78 + 1)), .obj B_11 (.cells cs_13.toArray 5 (c_12, c_12 + 1)), .cells B_1 (iv .u8 l0) 23] := st_88.call sc_95
                  refine ⟨_, rfl, ?_⟩
                  refine WL.nil ?_
                  refine AW.back ?_
                  refine AW.take 10 rfl (by kernel_rfl) (by kernel_rfl) (by kernel_rfl) Wanted.none (fun _ => (Runs.move rfl)) ?_
                  refine AW.take 11 rfl (by kernel_rfl) (by kernel_rfl) (by kernel_rfl) Wanted.none (fun _ => (Runs.extract rfl rfl)) ?_
                  refine AW.take 12 rfl (by kernel_rfl) (by kernel_rfl) (by kernel_rfl) Wanted.none (fun _ => (Runs.extract rfl rfl)) ?_
                  refine AW.take 13 rfl (by kernel_rfl) (by kernel_rfl) (by kernel_rfl) Wanted.none (fun _ => (Runs.assign rfl)) ?_
                  refine AW.take 14 rfl (by kernel_rfl) (by kernel_rfl) (by kernel_rfl) Wanted.none (fun _ => (Runs.assign rfl)) ?_
                  refine AW.done (by kernel_rfl) ?_
                  refine QW.then_n ?_
                  refine CW.sub [(8, .int .u64 x_31), (9, .string s_32), (10, .int .i64 x_33), (11, .int .u64 r_24), (14, .slice A_97 n_99 c_98)] ⟨rfl, rfl, rfl, rfl, rfl, trivial⟩ ?_
                  refine CW.seq ?_
                  refine CW.region_qa wide (by kernel_rfl) st_94 ?_
                  refine HL.val Wanted.none (fun wq sq => (Runs.move rfl)) ?_
                  refine HL.val Wanted.none (fun wq sq => (Runs.move rfl)) ?_
                  refine HL.val Wanted.none (fun wq sq => (Runs.bytes_str Tryd.underlying26 Tryd.underlying5 Tryd.underlying9 rfl (sq.src_sl (k := 0) rfl) hn_100)) ?_
                  refine HL.val Wanted.none (fun wq sq => (Runs.assign rfl)) ?_
                  refine HL.val Wanted.none (fun wq sq => (Runs.assign rfl)) ?_
                  refine HL.val Wanted.none (fun wq sq => (Runs.assign rfl)) ?_
                  refine HL.nil (fun w_103 st_104 => ?_)
                  refine WL.nil ?_
                  refine QW.then_n ?_
                  refine CW.ret ?_
                  obtain ⟨rfl, rfl, rfl⟩ := H
                  exact QW.ret3 rfl rfl rfl rfl ⟨rfl, st_104.pick [] (by decide)⟩
              · obtain ⟨r_109, hr_105, H⟩ := H
                refine WL.call Wanted.none ent22 rfl (reliquaryref04_Nonce.calls w_44 a1 r_24 r_109 hr_105) ?_
                rintro _ w_106 ⟨hl_110, rfl, sc_108⟩
                have st_107 : St w w_106 [.obj B_11 (.cells cs_13.toArray 5 (c_12, c_12 + 1)), .cells B_1 (iv .u8 l0) 23] := st_45.call sc_108
                refine ⟨_, rfl, ?_⟩
                refine WL.nil ?_
                refine AW.back ?_
                refine AW.step2 0 8 rfl rfl (by kernel_rfl) ?_ ?_
                · refine WL.val Wanted.none (Runs.load_arr arr23 rfl (st_107.blk (i := 1) rfl) hl0) ?_
                  refine WL.nil ?_
                  refine AW.back ?_
                  refine AW.step 8 rfl (by kernel_rfl) ?_
                  refine WL.bytes st_107 Tryd.underlying9 Tryd.underlying26 Tryd.underlying5 rfl ?_
                  intro B_111 c_112 cs_113 w_114 h_115 h_116 h_117 st_118
                  replace st_118 : St w w_114 [.obj B_111 (.cells cs_113.toArray 5 (c_112, c_112 + 1)), .obj B_11 (.cells cs_13.toArray 5 (c_12, c_12 + 1)), .cells B_1 (iv .u8 l0) 23] := st_118
                  refine WL.nil ?_
                  refine AW.back ?_
                  refine AW.step 9 rfl (by kernel_rfl) ?_
                  obtain ⟨r_124, r_130, hr_120, H⟩ := H
                  refine WL.call Wanted.none ent21 rfl (reliquaryref04_Crypt.calls w_114 l0 0 r_109 (bl (sx a2 (8 : Int) (IntKind.i64.wrap (8 + a3)))) (some ⟨B_111, 0, none⟩) ((sx a2 (8 : Int) (IntKind.i64.wrap (8 + a3))).size) c_112 hl0 hl_110 (st_118.src_obj (i := 0) rfl h_117) ((bl_length _)) (h_115) r_124 r_130 hr_120) ?_
                  rintro _ w_121 ⟨A_125, c_126, n_127, hn_128, rfl, sc_123⟩
                  have st_122 : St w w_121 [.sl A_125 c_126 n_127 (iv .u8 r_124) 5 1, .obj B_111 (.cells cs_113.toArray 5 (c_112, c_112 + 1)), .obj B_11 (.cells cs_13.toArray 5 (c_12, c_12 + 1)), .cells B_1 (iv .u8 l0) 23] := st_118.call sc_123
                  refine ⟨_, rfl, ?_⟩
                  refine WL.nil ?_
                  refine AW.back ?_
                  refine AW.take 10 rfl (by kernel_rfl) (by kernel_rfl) (by kernel_rfl) Wanted.none (fun _ => (Runs.move rfl)) ?_
                  refine AW.take 11 rfl (by kernel_rfl) (by kernel_rfl) (by kernel_rfl) Wanted.none (fun _ => (Runs.extract rfl rfl)) ?_
                  refine AW.take 12 rfl (by kernel_rfl) (by kernel_rfl) (by kernel_rfl) Wanted.none (fun _ => (Runs.extract rfl rfl)) ?_
                  refine AW.take 13 rfl (by kernel_rfl) (by kernel_rfl) (by kernel_rfl) Wanted.none (fun _ => (Runs.assign rfl)) ?_
                  refine AW.take 14 rfl (by kernel_rfl) (by kernel_rfl) (by kernel_rfl) Wanted.none (fun _ => (Runs.assign rfl)) ?_
                  refine AW.done (by kernel_rfl) ?_
                  refine QW.then_n ?_
                  refine CW.sub [(8, .int .u64 x_31), (9, .string s_32), (10, .int .i64 x_33), (11, .int .u64 r_24), (14, .slice A_125 n_127 c_126)] ⟨rfl, rfl, rfl, rfl, rfl, trivial⟩ ?_
                  refine CW.seq ?_
                  refine CW.region_qa wide (by kernel_rfl) st_122 ?_
                  refine HL.val Wanted.none (fun wq sq => (Runs.move rfl)) ?_
                  refine HL.val Wanted.none (fun wq sq => (Runs.move rfl)) ?_
                  refine HL.val Wanted.none (fun wq sq => (Runs.bytes_str Tryd.underlying26 Tryd.underlying5 Tryd.underlying9 rfl (sq.src_sl (k := 0) rfl) hn_128)) ?_
                  refine HL.val Wanted.none (fun wq sq => (Runs.assign rfl)) ?_
                  refine HL.val Wanted.none (fun wq sq => (Runs.assign rfl)) ?_
                  refine HL.val Wanted.none (fun wq sq => (Runs.assign rfl)) ?_
                  refine HL.nil (fun w_131 st_132 => ?_)
                  refine WL.nil ?_
                  refine QW.then_n ?_
                  refine CW.ret ?_
                  obtain ⟨rfl, rfl, rfl⟩ := H
                  exact QW.ret3 rfl rfl rfl rfl ⟨rfl, st_132.pick [] (by decide)⟩
                · refine WL.bytes st_107 Tryd.underlying9 Tryd.underlying26 Tryd.underlying5 rfl ?_
                  intro B_133 c_134 cs_135 w_136 h_137 h_138 h_139 st_140
                  replace st_140 : St w w_136 [.obj B_133 (.cells cs_135.toArray 5 (c_134, c_134 + 1)), .obj B_11 (.cells cs_13.toArray 5 (c_12, c_12 + 1)), .cells B_1 (iv .u8 l0) 23] := st_140
                  refine WL.nil ?_
                  refine AW.back ?_
                  refine AW.step 0 rfl (by kernel_rfl) ?_
                  refine WL.val Wanted.none (Runs.load_arr arr23 rfl (st_140.blk (i := 2) rfl) hl0) ?_
                  refine WL.nil ?_
                  refine AW.back ?_
                  refine AW.step 9 rfl (by kernel_rfl) ?_
                  obtain ⟨r_146, r_152, hr_142, H⟩ := H
                  refine WL.call Wanted.none ent21 rfl (reliquaryref04_Crypt.calls w_136 l0 0 r_109 (bl (sx a2 (8 : Int) (IntKind.i64.wrap (8 + a3)))) (some ⟨B_133, 0, none⟩) ((sx a2 (8 : Int) (IntKind.i64.wrap (8 + a3))).size) c_134 hl0 hl_110 (st_140.src_obj (i := 0) rfl h_139) ((bl_length _)) (h_137) r_146 r_152 hr_142) ?_
                  rintro _ w_143 ⟨A_147, c_148, n_149, hn_150, rfl, sc_145⟩
                  have st_144 : St w w_143 [.sl A_147 c_148 n_149 (iv .u8 r_146) 5 1, .obj B_133 (.cells cs_135.toArray 5 (c_134, c_134 + 1)), .obj B_11 (.cells cs_13.toArray 5 (c_12, c_12 + 1)), .cells B_1 (iv .u8 l0) 23] := st_140.call sc_145
                  refine ⟨_, rfl, ?_⟩
                  refine WL.nil ?_
                  refine AW.back ?_
                  refine AW.take 10 rfl (by kernel_rfl) (by kernel_rfl) (by kernel_rfl) Wanted.none (fun _ => (Runs.move rfl)) ?_
                  refine AW.take 11 rfl (by kernel_rfl) (by kernel_rfl) (by kernel_rfl) Wanted.none (fun _ => (Runs.extract rfl rfl)) ?_
                  refine AW.take 12 rfl (by kernel_rfl) (by kernel_rfl) (by kernel_rfl) Wanted.none (fun _ => (Runs.extract rfl rfl)) ?_
                  refine AW.take 13 rfl (by kernel_rfl) (by kernel_rfl) (by kernel_rfl) Wanted.none (fun _ => (Runs.assign rfl)) ?_
                  refine AW.take 14 rfl (by kernel_rfl) (by kernel_rfl) (by kernel_rfl) Wanted.none (fun _ => (Runs.assign rfl)) ?_
                  refine AW.done (by kernel_rfl) ?_
                  refine QW.then_n ?_
                  refine CW.sub [(8, .int .u64 x_31), (9, .string s_32), (10, .int .i64 x_33), (11, .int .u64 r_24), (14, .slice A_147 n_149 c_148)] ⟨rfl, rfl, rfl, rfl, rfl, trivial⟩ ?_
                  refine CW.seq ?_
                  refine CW.region_qa wide (by kernel_rfl) st_144 ?_
                  refine HL.val Wanted.none (fun wq sq => (Runs.move rfl)) ?_
                  refine HL.val Wanted.none (fun wq sq => (Runs.move rfl)) ?_
                  refine HL.val Wanted.none (fun wq sq => (Runs.bytes_str Tryd.underlying26 Tryd.underlying5 Tryd.underlying9 rfl (sq.src_sl (k := 0) rfl) hn_150)) ?_
                  refine HL.val Wanted.none (fun wq sq => (Runs.assign rfl)) ?_
                  refine HL.val Wanted.none (fun wq sq => (Runs.assign rfl)) ?_
                  refine HL.val Wanted.none (fun wq sq => (Runs.assign rfl)) ?_
                  refine HL.nil (fun w_153 st_154 => ?_)
                  refine WL.nil ?_
                  refine QW.then_n ?_
                  refine CW.ret ?_
                  obtain ⟨rfl, rfl, rfl⟩ := H
                  exact QW.ret3 rfl rfl rfl rfl ⟨rfl, st_154.pick [] (by decide)⟩
              · refine WL.bytes st_45 Tryd.underlying9 Tryd.underlying26 Tryd.underlying5 rfl ?_
                intro B_155 c_156 cs_157 w_158 h_159 h_160 h_161 st_162
                replace st_162 : St w w_158 [.obj B_155 (.cells cs_157.toArray 5 (c_156, c_156 + 1)), .obj B_11 (.cells cs_13.toArray 5 (c_12, c_12 + 1)), .cells B_1 (iv .u8 l0) 23] := st_162
                refine WL.nil ?_
                refine AW.back ?_
                refine AW.step2 0 3 rfl rfl (by kernel_rfl) ?_ ?_
                · refine WL.val Wanted.none (Runs.load_arr arr23 rfl (st_162.blk (i := 2) rfl) hl0) ?_
                  refine WL.nil ?_
                  refine AW.back ?_
                  refine AW.step 3 rfl (by kernel_rfl) ?_
                  obtain ⟨r_168, hr_164, H⟩ := H
                  refine WL.call Wanted.none ent22 rfl (reliquaryref04_Nonce.calls w_158 a1 r_24 r_168 hr_164) ?_
                  rintro _ w_165 ⟨hl_169, rfl, sc_167⟩
                  have st_166 : St w w_165 [.obj B_155 (.cells cs_157.toArray 5 (c_156, c_156 + 1)), .obj B_11 (.cells cs_13.toArray 5 (c_12, c_12 + 1)), .cells B_1 (iv .u8 l0) 23] := st_162.call sc_167
                  refine ⟨_, rfl, ?_⟩
                  refine WL.nil ?_
                  refine AW.back ?_
                  refine AW.step 9 rfl (by kernel_rfl) ?_
                  obtain ⟨r_174, r_180, hr_170, H⟩ := H
                  refine WL.call Wanted.none ent21 rfl (reliquaryref04_Crypt.calls w_165 l0 0 r_168 (bl (sx a2 (8 : Int) (IntKind.i64.wrap (8 + a3)))) (some ⟨B_155, 0, none⟩) ((sx a2 (8 : Int) (IntKind.i64.wrap (8 + a3))).size) c_156 hl0 hl_169 (st_166.src_obj (i := 0) rfl h_161) ((bl_length _)) (h_159) r_174 r_180 hr_170) ?_
                  rintro _ w_171 ⟨A_175, c_176, n_177, hn_178, rfl, sc_173⟩
                  have st_172 : St w w_171 [.sl A_175 c_176 n_177 (iv .u8 r_174) 5 1, .obj B_155 (.cells cs_157.toArray 5 (c_156, c_156 + 1)), .obj B_11 (.cells cs_13.toArray 5 (c_12, c_12 + 1)), .cells B_1 (iv .u8 l0) 23] := st_166.call sc_173
                  refine ⟨_, rfl, ?_⟩
                  refine WL.nil ?_
                  refine AW.back ?_
                  refine AW.take 10 rfl (by kernel_rfl) (by kernel_rfl) (by kernel_rfl) Wanted.none (fun _ => (Runs.move rfl)) ?_
                  refine AW.take 11 rfl (by kernel_rfl) (by kernel_rfl) (by kernel_rfl) Wanted.none (fun _ => (Runs.extract rfl rfl)) ?_
                  refine AW.take 12 rfl (by kernel_rfl) (by kernel_rfl) (by kernel_rfl) Wanted.none (fun _ => (Runs.extract rfl rfl)) ?_
                  refine AW.take 13 rfl (by kernel_rfl) (by kernel_rfl) (by kernel_rfl) Wanted.none (fun _ => (Runs.assign rfl)) ?_
                  refine AW.take 14 rfl (by kernel_rfl) (by kernel_rfl) (by kernel_rfl) Wanted.none (fun _ => (Runs.assign rfl)) ?_
                  refine AW.done (by kernel_rfl) ?_
                  refine QW.then_n ?_
                  refine CW.sub [(8, .int .u64 x_31), (9, .string s_32), (10, .int .i64 x_33), (11, .int .u64 r_24), (14, .slice A_175 n_177 c_176)] ⟨rfl, rfl, rfl, rfl, rfl, trivial⟩ ?_
                  refine CW.seq ?_
                  refine CW.region_qa wide (by kernel_rfl) st_172 ?_
                  refine HL.val Wanted.none (fun wq sq => (Runs.move rfl)) ?_
                  refine HL.val Wanted.none (fun wq sq => (Runs.move rfl)) ?_
                  refine HL.val Wanted.none (fun wq sq => (Runs.bytes_str Tryd.underlying26 Tryd.underlying5 Tryd.underlying9 rfl (sq.src_sl (k := 0) rfl) hn_178)) ?_
                  refine HL.val Wanted.none (fun wq sq => (Runs.assign rfl)) ?_
                  refine HL.val Wanted.none (fun wq sq => (Runs.assign rfl)) ?_
                  refine HL.val Wanted.none (fun wq sq => (Runs.assign rfl)) ?_
                  refine HL.nil (fun w_181 st_182 => ?_)
                  refine WL.nil ?_
                  refine QW.then_n ?_
                  refine CW.ret ?_
                  obtain ⟨rfl, rfl, rfl⟩ := H
                  exact QW.ret3 rfl rfl rfl rfl ⟨rfl, st_182.pick [] (by decide)⟩
                · obtain ⟨r_187, hr_183, H⟩ := H
                  refine WL.call Wanted.none ent22 rfl (reliquaryref04_Nonce.calls w_158 a1 r_24 r_187 hr_183) ?_
                  rintro _ w_184 ⟨hl_188, rfl, sc_186⟩
                  have st_185 : St w w_184 [.obj B_155 (.cells cs_157.toArray 5 (c_156, c_156 + 1)), .obj B_11 (.cells cs_13.toArray 5 (c_12, c_12 + 1)), .cells B_1 (iv .u8 l0) 23] := st_162.call sc_186
                  refine ⟨_, rfl, ?_⟩
                  refine WL.nil ?_
                  refine AW.back ?_
                  refine AW.step 0 rfl (by kernel_rfl) ?_
                  refine WL.val Wanted.none (Runs.load_arr arr23 rfl (st_185.blk (i := 2) rfl) hl0) ?_
                  refine WL.nil ?_
                  refine AW.back ?_
                  refine AW.step 9 rfl (by kernel_rfl) ?_
                  obtain ⟨r_193, r_199, hr_189, H⟩ := H
                  refine WL.call Wanted.none ent21 rfl (reliquaryref04_Crypt.calls w_184 l0 0 r_187 (bl (sx a2 (8 : Int) (IntKind.i64.wrap (8 + a3)))) (some ⟨B_155, 0, none⟩) ((sx a2 (8 : Int) (IntKind.i64.wrap (8 + a3))).size) c_156 hl0 hl_188 (st_185.src_obj (i := 0) rfl h_161) ((bl_length _)) (h_159) r_193 r_199 hr_189) ?_
                  rintro _ w_190 ⟨A_194, c_195, n_196, hn_197, rfl, sc_192⟩
                  have st_191 : St w w_190 [.sl A_194 c_195 n_196 (iv .u8 r_193) 5 1, .obj B_155 (.cells cs_157.toArray 5 (c_156, c_156 + 1)), .obj B_11 (.cells cs_13.toArray 5 (c_12, c_12 + 1)), .cells B_1 (iv .u8 l0) 23] := st_185.call sc_192
                  refine ⟨_, rfl, ?_⟩
                  refine WL.nil ?_
                  refine AW.back ?_
                  refine AW.take 10 rfl (by kernel_rfl) (by kernel_rfl) (by kernel_rfl) Wanted.none (fun _ => (Runs.move rfl)) ?_
                  refine AW.take 11 rfl (by kernel_rfl) (by kernel_rfl) (by kernel_rfl) Wanted.none (fun _ => (Runs.extract rfl rfl)) ?_
                  refine AW.take 12 rfl (by kernel_rfl) (by kernel_rfl) (by kernel_rfl) Wanted.none (fun _ => (Runs.extract rfl rfl)) ?_
                  refine AW.take 13 rfl (by kernel_rfl) (by kernel_rfl) (by kernel_rfl) Wanted.none (fun _ => (Runs.assign rfl)) ?_
                  refine AW.take 14 rfl (by kernel_rfl) (by kernel_rfl) (by kernel_rfl) Wanted.none (fun _ => (Runs.assign rfl)) ?_
                  refine AW.done (by kernel_rfl) ?_
                  refine QW.then_n ?_
                  refine CW.sub [(8, .int .u64 x_31), (9, .string s_32), (10, .int .i64 x_33), (11, .int .u64 r_24), (14, .slice A_194 n_196 c_195)] ⟨rfl, rfl, rfl, rfl, rfl, trivial⟩ ?_
                  refine CW.seq ?_
                  refine CW.region_qa wide (by kernel_rfl) st_191 ?_
                  refine HL.val Wanted.none (fun wq sq => (Runs.move rfl)) ?_
                  refine HL.val Wanted.none (fun wq sq => (Runs.move rfl)) ?_
                  refine HL.val Wanted.none (fun wq sq => (Runs.bytes_str Tryd.underlying26 Tryd.underlying5 Tryd.underlying9 rfl (sq.src_sl (k := 0) rfl) hn_197)) ?_
                  refine HL.val Wanted.none (fun wq sq => (Runs.assign rfl)) ?_
                  refine HL.val Wanted.none (fun wq sq => (Runs.assign rfl)) ?_
                  refine HL.val Wanted.none (fun wq sq => (Runs.assign rfl)) ?_
                  refine HL.nil (fun w_200 st_201 => ?_)
                  refine WL.nil ?_
                  refine QW.then_n ?_
                  refine CW.ret ?_
                  obtain ⟨rfl, rfl, rfl⟩ := H
                  exact QW.ret3 rfl rfl rfl rfl ⟨rfl, st_201.pick [] (by decide)⟩
  · have h_6 : (a3 != 160) = false := (bne_eq_false_iff_eq.mpr (Decidable.not_not.mp c_5))
    refine WL.off ?_ ?_; exact Wanted.guard (dj := 18) (by rfl) (evb (by rfl) h_6) (by rfl)
    refine WL.off ?_ ?_; exact Wanted.guard (dj := 18) (by rfl) (evb (by rfl) h_6) (by rfl)
    refine WL.val Wanted.none (Runs.pick_f (evb rfl h_6) rfl) ?_
    refine WL.nil ?_
    refine QW.then_n ?_
    refine CW.sub [(1, .int .u32 a1), (2, .string a2), (3, .int .i64 a3), (4, .pointer (some ⟨B_1, 0, none⟩)), (8, .int .u64 0), (9, .string (⟨#[]⟩ : ByteArray)), (10, .int .i64 0), (21, .bool false)] ⟨rfl, rfl, rfl, rfl, rfl, rfl, rfl, rfl, trivial⟩ ?_
    refine CW.cf rfl rfl ?_
    refine CW.skip ?_
    refine QW.then_n ?_
    refine CW.seq ?_
    refine CW.seq ?_
    refine CW.region ?_
    refine WL.val Wanted.none (Runs.move rfl) ?_
    refine WL.val Wanted.none (Runs.len_str Tryd.underlying9 rfl) ?_
    refine WL.val Wanted.none (Runs.neq rfl rfl rfl) ?_
    refine WL.nil ?_
    refine QW.then_n ?_
    rcases H with ⟨c_202, H⟩ | ⟨c_202, H⟩
    · have h_203 : ((a2.size : Int) != 192) = true := (bne_iff_ne.mpr c_202)
      refine CW.ct rfl h_203 ?_
      refine CW.seq ?_
      refine CW.region ?_
      refine WL.val Wanted.none (Runs.assign rfl) ?_
      refine WL.val Wanted.none (Runs.assign rfl) ?_
      refine WL.val Wanted.none (Runs.assign rfl) ?_
      refine WL.nil ?_
      refine QW.then_n ?_
      refine CW.ret ?_
      refine QW.then_r ?_
      obtain ⟨rfl, rfl, rfl⟩ := H
      exact QW.ret3 rfl rfl rfl rfl ⟨rfl, st_3.pick [] (by decide)⟩
    · have h_203 : ((a2.size : Int) != 192) = false := (bne_eq_false_iff_eq.mpr (Decidable.not_not.mp c_202))
      refine CW.cf rfl h_203 ?_
      refine CW.skip ?_
      refine QW.then_n ?_
      refine CW.seq ?_
      refine CW.region ?_
      refine WL.val Wanted.none (Runs.move rfl) ?_
      refine WL.bytes st_3 Tryd.underlying9 Tryd.underlying26 Tryd.underlying5 rfl ?_
      intro B_204 c_205 cs_206 w_207 h_208 h_209 h_210 st_211
      replace st_211 : St w w_207 [.obj B_204 (.cells cs_206.toArray 5 (c_205, c_205 + 1)), .cells B_1 (iv .u8 l0) 23] := st_211
      obtain ⟨r_217, r_218, hr_213, H⟩ := H
      refine WL.call Wanted.none ent26 rfl (reliquaryref01_Get.calls w_207 (bl a2) 0 8 (some ⟨B_204, 0, none⟩) a2.size c_205 (st_211.src_obj (i := 0) rfl h_210) ((bl_length _)) (h_208) r_217 r_218 hr_213) ?_
      rintro _ w_214 ⟨rfl, sc_216⟩
      have st_215 : St w w_214 [.obj B_204 (.cells cs_206.toArray 5 (c_205, c_205 + 1)), .cells B_1 (iv .u8 l0) 23] := st_211.call sc_216
      refine ⟨_, rfl, ?_⟩
      refine WL.val Wanted.none (Runs.move rfl) ?_
      refine WL.val Wanted.none (Runs.extract rfl rfl) ?_
      refine WL.val Wanted.none (Runs.extract rfl rfl) ?_
      refine WL.val Wanted.none (Runs.assign rfl) ?_
      refine WL.val Wanted.none (Runs.assign rfl) ?_
      refine WL.nil ?_
      refine QW.then_n ?_
      refine CW.sub [(1, .int .u32 a1), (2, .string a2), (3, .int .i64 a3), (4, .pointer (some ⟨B_1, 0, none⟩)), (8, .int .u64 0), (9, .string (⟨#[]⟩ : ByteArray)), (10, .int .i64 0), (11, .int .u64 r_217)] ⟨rfl, rfl, rfl, rfl, rfl, rfl, rfl, rfl, trivial⟩ ?_
      refine CW.seq ?_
      refine CW.seq ?_
      refine CW.region ?_
      refine WL.val Wanted.none (Runs.move rfl) ?_
      refine WL.val Wanted.none (Runs.eql rfl rfl rfl) ?_
      refine WL.val Wanted.none (Runs.move rfl) ?_
      rcases H with ⟨c_219, H⟩ | ⟨c_219, H⟩
      · have h_220 : (r_217 == 0) = true := (beq_iff_eq.mpr c_219)
        refine WL.off ?_ ?_; exact Wanted.guard (dj := 33) (by rfl) (evb (by rfl) h_220) (by rfl)
        refine WL.off ?_ ?_; exact Wanted.guard (dj := 33) (by rfl) (evb (by rfl) h_220) (by rfl)
        refine WL.val Wanted.none (Runs.pick_t (evb rfl h_220) rfl) ?_
        refine WL.nil ?_
        refine QW.then_n ?_
        refine CW.ct rfl rfl ?_
        refine CW.seq ?_
        refine CW.region ?_
        refine WL.val Wanted.none (Runs.assign rfl) ?_
        refine WL.val Wanted.none (Runs.assign rfl) ?_
        refine WL.val Wanted.none (Runs.assign rfl) ?_
        refine WL.nil ?_
        refine QW.then_n ?_
        refine CW.sub [(1, .int .u32 a1), (2, .string a2), (3, .int .i64 a3), (4, .pointer (some ⟨B_1, 0, none⟩)), (8, .int .u64 0), (9, .string (⟨#[]⟩ : ByteArray)), (10, .int .i64 11), (11, .int .u64 r_217)] ⟨rfl, rfl, rfl, rfl, rfl, rfl, rfl, rfl, trivial⟩ ?_
        refine CW.ret ?_
        refine QW.then_r ?_
        obtain ⟨rfl, rfl, rfl⟩ := H
        exact QW.ret3 rfl rfl rfl rfl ⟨rfl, st_215.pick [] (by decide)⟩
      · have h_220 : (r_217 == 0) = false := (beq_eq_false_iff_ne.mpr c_219)
        refine WL.on ?_ ?_; exact Wanted.guard (dj := 33) (by rfl) (evb (by rfl) h_220) (by rfl)
        refine WL.val Wanted.none (Runs.move rfl) ?_
        refine WL.on ?_ ?_; exact Wanted.guard (dj := 33) (by rfl) (evb (by rfl) h_220) (by rfl)
        refine WL.val Wanted.none (Runs.eql rfl rfl rfl) ?_
        refine WL.val Wanted.none (Runs.pick_f (evb rfl h_220) rfl) ?_
        refine WL.nil ?_
        refine QW.then_n ?_
        rcases H with ⟨c_221, H⟩ | ⟨c_221, H⟩
        · have h_222 : (r_217 == 18446744073709551615) = true := (beq_iff_eq.mpr c_221)
          refine CW.ct rfl h_222 ?_
          refine CW.seq ?_
          refine CW.region ?_
          refine WL.val Wanted.none (Runs.assign rfl) ?_
          refine WL.val Wanted.none (Runs.assign rfl) ?_
          refine WL.val Wanted.none (Runs.assign rfl) ?_
          refine WL.nil ?_
          refine QW.then_n ?_
          refine CW.sub [(1, .int .u32 a1), (2, .string a2), (3, .int .i64 a3), (4, .pointer (some ⟨B_1, 0, none⟩)), (8, .int .u64 0), (9, .string (⟨#[]⟩ : ByteArray)), (10, .int .i64 11), (11, .int .u64 r_217)] ⟨rfl, rfl, rfl, rfl, rfl, rfl, rfl, rfl, trivial⟩ ?_
          refine CW.ret ?_
          refine QW.then_r ?_
          obtain ⟨rfl, rfl, rfl⟩ := H
          exact QW.ret3 rfl rfl rfl rfl ⟨rfl, st_215.pick [] (by decide)⟩
        · have h_222 : (r_217 == 18446744073709551615) = false := (beq_eq_false_iff_ne.mpr c_221)
          refine CW.cf rfl h_222 ?_
          refine CW.skip ?_
          refine QW.then_n ?_
          refine CW.sub [(1, .int .u32 a1), (2, .string a2), (3, .int .i64 a3), (4, .pointer (some ⟨B_1, 0, none⟩)), (8, .int .u64 0), (9, .string (⟨#[]⟩ : ByteArray)), (10, .int .i64 0), (11, .int .u64 r_217)] ⟨rfl, rfl, rfl, rfl, rfl, rfl, rfl, rfl, trivial⟩ ?_
          refine CW.seq ?_
          refine CW.seq ?_
          refine CW.region ?_
          refine WL.val Wanted.none (Runs.move rfl) ?_
          refine WL.val Wanted.none (Runs.add rfl rfl rfl) ?_
          refine WL.val Wanted.none (Runs.assign rfl) ?_
          refine WL.nil ?_
          refine QW.then_n ?_
          refine CW.block ?_
          obtain ⟨k_223, H⟩ := H
          refine CW.sub [(1, .int .u32 a1), (2, .string a2), (3, .int .i64 a3), (4, .pointer (some ⟨B_1, 0, none⟩)), (8, .int .u64 0), (9, .string (⟨#[]⟩ : ByteArray)), (10, .int .i64 0), (11, .int .u64 r_217), (13, .int .i64 (IntKind.i64.wrap (8 + a3)))] ⟨rfl, rfl, rfl, rfl, rfl, rfl, rfl, rfl, rfl, trivial⟩ ?_
          refine CW.loop (fun kL2 l_ w_ => ∃ (x_224 : Int) (s_225 : ByteArray) (x_226 : Int) (x_227 : Int), l_ = [(1, .int .u32 a1), (2, .string a2), (3, .int .i64 a3), (4, .pointer (some ⟨B_1, 0, none⟩)), (8, .int .u64 x_224), (9, .string s_225), (10, .int .i64 x_226), (11, .int .u64 r_217), (13, .int .i64 x_227)] ∧ reliquaryref08_Open.L2 l0 a1 a2 a3 r0 r1 r2 r_217 kL2 x_224 s_225 x_226 x_227 ∧ St w w_ [.obj B_204 (.cells cs_206.toArray 5 (c_205, c_205 + 1)), .cells B_1 (iv .u8 l0) 23]) (k := k_223) ⟨0, (⟨#[]⟩ : ByteArray), 0, IntKind.i64.wrap (8 + a3), rfl, H, st_215⟩ (fun _ _ h => by obtain ⟨_, _, _, _, _, h, _⟩ := h; exact h.elim) ?_
          rintro kL2 l_230 w_228 ⟨x_224, s_225, x_226, x_227, rfl, H, st_229⟩
          refine CW.seq ?_
          refine CW.seq ?_
          refine CW.region ?_
          refine WL.val Wanted.none (Runs.move rfl) ?_
          refine WL.val Wanted.none (Runs.lss rfl rfl rfl) ?_
          refine WL.nil ?_
          refine QW.then_n ?_
          rcases H with ⟨c_231, H⟩ | ⟨c_231, H⟩
          · have h_232 : (decide (x_227 < 192)) = true := (decide_eq_true c_231)
            refine CW.ct rfl h_232 ?_
            refine CW.skip ?_
            refine QW.then_n ?_
            refine CW.seq ?_
            refine CW.block ?_
            refine CW.seq ?_
            refine CW.region ?_
            refine WL.val Wanted.none (Runs.move rfl) ?_
            refine WL.val Wanted.none (Runs.move rfl) ?_
            obtain ⟨⟨p_233, q_234⟩, H⟩ := H
            refine WL.val Wanted.none (Runs.index_str Tryd.underlying9 rfl rfl p_233 q_234 (j := (x_227).toNat) (by first | rfl | omega)) ?_
            refine WL.val Wanted.none (Runs.neq rfl rfl rfl) ?_
            refine WL.nil ?_
            refine QW.then_n ?_
            rcases H with ⟨c_235, H⟩ | ⟨c_235, H⟩
            · have h_236 : ((bn a2 ((x_227).toNat)) != 0) = true := (bne_iff_ne.mpr c_235)
              refine CW.ct rfl h_236 ?_
              refine CW.seq ?_
              refine CW.region ?_
              refine WL.val Wanted.none (Runs.assign rfl) ?_
              refine WL.val Wanted.none (Runs.assign rfl) ?_
              refine WL.val Wanted.none (Runs.assign rfl) ?_
              refine WL.nil ?_
              refine QW.then_n ?_
              refine CW.ret ?_
              refine QW.blk_r ?_
              refine QW.then_r ?_
              refine QW.then_r ?_
              refine QW.blk_r ?_
              refine QW.then_r ?_
              obtain ⟨rfl, rfl, rfl⟩ := H
              exact QW.ret3 rfl rfl rfl rfl ⟨rfl, st_229.pick [] (by decide)⟩
            · have h_236 : ((bn a2 ((x_227).toNat)) != 0) = false := (bne_eq_false_iff_eq.mpr (Decidable.not_not.mp c_235))
              refine CW.cf rfl h_236 ?_
              refine CW.skip ?_
              refine QW.blk_n ?_
              refine QW.then_n ?_
              refine CW.region ?_
              refine WL.val Wanted.none (Runs.move rfl) ?_
              refine WL.val Wanted.none (Runs.add rfl rfl rfl) ?_
              refine WL.val Wanted.none (Runs.assign rfl) ?_
              refine WL.nil ?_
              exact QW.at [(1, .int .u32 a1), (2, .string a2), (3, .int .i64 a3), (4, .pointer (some ⟨B_1, 0, none⟩)), (8, .int .u64 x_224), (9, .string s_225), (10, .int .i64 x_226), (11, .int .u64 r_217), (13, .int .i64 (IntKind.i64.wrap (x_227 + 1)))] ⟨rfl, rfl, rfl, rfl, rfl, rfl, rfl, rfl, rfl, trivial⟩ ⟨x_224, s_225, x_226, IntKind.i64.wrap (x_227 + 1), rfl, H, st_229⟩
          · have h_232 : (decide (x_227 < 192)) = false := (decide_eq_false c_231)
            refine CW.cf rfl h_232 ?_
            refine CW.exit ?_
            refine QW.then_x ?_
            refine QW.then_x ?_
            refine QW.blk_x ?_
            refine QW.then_n ?_
            refine CW.seq ?_
            refine CW.region_aw wide st_229 (fun w_237 st_238 => ?_)
            refine AW.take 1 rfl (by kernel_rfl) (by kernel_rfl) (by kernel_rfl) Wanted.none (fun _ => (Runs.move rfl)) ?_
            refine AW.take 2 rfl (by kernel_rfl) (by kernel_rfl) (by kernel_rfl) Wanted.none (fun _ => (Runs.move rfl)) ?_
            refine AW.take 4 rfl (by kernel_rfl) (by kernel_rfl) (by kernel_rfl) Wanted.none (fun _ => (Runs.move rfl)) ?_
            refine AW.take 5 rfl (by kernel_rfl) (by kernel_rfl) (by kernel_rfl) Wanted.none (fun _ => (Runs.move rfl)) ?_
            refine AW.take 6 rfl (by kernel_rfl) (by kernel_rfl) (by kernel_rfl) Wanted.none (fun _ => (Runs.add rfl rfl rfl)) ?_
            obtain ⟨⟨p_239, q_240, r_241⟩, H⟩ := H
            refine AW.take 7 rfl (by kernel_rfl) (by kernel_rfl) (by kernel_rfl) Wanted.none (fun _ => (Runs.str_lh Tryd.underlying9 rfl rfl rfl p_239 q_240 r_241)) ?_
            refine AW.step3 0 3 8 rfl rfl rfl (by kernel_rfl) ?_ ?_ ?_
            · refine WL.val Wanted.none (Runs.load_arr arr23 rfl (st_238.blk (i := 1) rfl) hl0) ?_
              refine WL.nil ?_
              refine AW.back ?_
              refine AW.step2 3 8 rfl rfl (by kernel_rfl) ?_ ?_
              · obtain ⟨r_246, hr_242, H⟩ := H
                refine WL.call Wanted.none ent22 rfl (reliquaryref04_Nonce.calls w_237 a1 r_217 r_246 hr_242) ?_
                rintro _ w_243 ⟨hl_247, rfl, sc_245⟩
                have st_244 : St w w_243 [.obj B_204 (.cells cs_206.toArray 5 (c_205, c_205 + 1)), .cells B_1 (iv .u8 l0) 23] := st_238.call sc_245
                refine ⟨_, rfl, ?_⟩
                refine WL.nil ?_
                refine AW.back ?_
                refine AW.step 8 rfl (by kernel_rfl) ?_
                refine WL.bytes st_244 Tryd.underlying9 Tryd.underlying26 Tryd.underlying5 rfl ?_
                intro B_248 c_249 cs_250 w_251 h_252 h_253 h_254 st_255
                replace st_255 : St w w_251 [.obj B_248 (.cells cs_250.toArray 5 (c_249, c_249 + 1)), .obj B_204 (.cells cs_206.toArray 5 (c_205, c_205 + 1)), .cells B_1 (iv .u8 l0) 23] := st_255
                refine WL.nil ?_
                refine AW.back ?_
                refine AW.step 9 rfl (by kernel_rfl) ?_
                obtain ⟨r_261, r_267, hr_257, H⟩ := H
                refine WL.call Wanted.none ent21 rfl (reliquaryref04_Crypt.calls w_251 l0 0 r_246 (bl (sx a2 (8 : Int) (IntKind.i64.wrap (8 + a3)))) (some ⟨B_248, 0, none⟩) ((sx a2 (8 : Int) (IntKind.i64.wrap (8 + a3))).size) c_249 hl0 hl_247 (st_255.src_obj (i := 0) rfl h_254) ((bl_length _)) (h_252) r_261 r_267 hr_257) ?_
                rintro _ w_258 ⟨A_262, c_263, n_264, hn_265, rfl, sc_260⟩
                have st_259 : St w w_258 [.sl A_262 c_263 n_264 (iv .u8 r_261) 5 1, .obj B_248 (.cells cs_250.toArray 5 (c_249, c_249 + 1)), .obj B_204 (.cells cs_206.toArray 5 (c_205, c_205 + 1)), .cells B_1 (iv .u8 l0) 23] := st_255.call sc_260
                refine ⟨_, rfl, ?_⟩
                refine WL.nil ?_
                refine AW.back ?_
                refine AW.take 10 rfl (by kernel_rfl) (by kernel_rfl) (by kernel_rfl) Wanted.none (fun _ => (Runs.move rfl)) ?_
                refine AW.take 11 rfl (by kernel_rfl) (by kernel_rfl) (by kernel_rfl) Wanted.none (fun _ => (Runs.extract rfl rfl)) ?_
                refine AW.take 12 rfl (by kernel_rfl) (by kernel_rfl) (by kernel_rfl) Wanted.none (fun _ => (Runs.extract rfl rfl)) ?_
                refine AW.take 13 rfl (by kernel_rfl) (by kernel_rfl) (by kernel_rfl) Wanted.none (fun _ => (Runs.assign rfl)) ?_
                refine AW.take 14 rfl (by kernel_rfl) (by kernel_rfl) (by kernel_rfl) Wanted.none (fun _ => (Runs.assign rfl)) ?_
                refine AW.done (by kernel_rfl) ?_
                refine QW.then_n ?_
                refine CW.sub [(8, .int .u64 x_224), (9, .string s_225), (10, .int .i64 x_226), (11, .int .u64 r_217), (14, .slice A_262 n_264 c_263)] ⟨rfl, rfl, rfl, rfl, rfl, trivial⟩ ?_
                refine CW.seq ?_
                refine CW.region_qa wide (by kernel_rfl) st_259 ?_
                refine HL.val Wanted.none (fun wq sq => (Runs.move rfl)) ?_
                refine HL.val Wanted.none (fun wq sq => (Runs.move rfl)) ?_
                refine HL.val Wanted.none (fun wq sq => (Runs.bytes_str Tryd.underlying26 Tryd.underlying5 Tryd.underlying9 rfl (sq.src_sl (k := 0) rfl) hn_265)) ?_
                refine HL.val Wanted.none (fun wq sq => (Runs.assign rfl)) ?_
                refine HL.val Wanted.none (fun wq sq => (Runs.assign rfl)) ?_
                refine HL.val Wanted.none (fun wq sq => (Runs.assign rfl)) ?_
                refine HL.nil (fun w_268 st_269 => ?_)
                refine WL.nil ?_
                refine QW.then_n ?_
                refine CW.ret ?_
                obtain ⟨rfl, rfl, rfl⟩ := H
                exact QW.ret3 rfl rfl rfl rfl ⟨rfl, st_269.pick [] (by decide)⟩
              · refine WL.bytes st_238 Tryd.underlying9 Tryd.underlying26 Tryd.underlying5 rfl ?_
                intro B_270 c_271 cs_272 w_273 h_274 h_275 h_276 st_277
                replace st_277 : St w w_273 [.obj B_270 (.cells cs_272.toArray 5 (c_271, c_271 + 1)), .obj B_204 (.cells cs_206.toArray 5 (c_205, c_205 + 1)), .cells B_1 (iv .u8 l0) 23] := st_277
                refine WL.nil ?_
                refine AW.back ?_
                refine AW.step 3 rfl (by kernel_rfl) ?_
                obtain ⟨r_283, hr_279, H⟩ := H
                refine WL.call Wanted.none ent22 rfl (reliquaryref04_Nonce.calls w_273 a1 r_217 r_283 hr_279) ?_
                rintro _ w_280 ⟨hl_284, rfl, sc_282⟩
                have st_281 : St w w_280 [.obj B_270 (.cells cs_272.toArray 5 (c_271, c_271 + 1)), .obj B_204 (.cells cs_206.toArray 5 (c_205, c_205 + 1)), .cells B_1 (iv .u8 l0) 23] := st_277.call sc_282
                refine ⟨_, rfl, ?_⟩
                refine WL.nil ?_
                refine AW.back ?_
                refine AW.step 9 rfl (by kernel_rfl) ?_
                obtain ⟨r_289, r_295, hr_285, H⟩ := H
                refine WL.call Wanted.none ent21 rfl (reliquaryref04_Crypt.calls w_280 l0 0 r_283 (bl (sx a2 (8 : Int) (IntKind.i64.wrap (8 + a3)))) (some ⟨B_270, 0, none⟩) ((sx a2 (8 : Int) (IntKind.i64.wrap (8 + a3))).size) c_271 hl0 hl_284 (st_281.src_obj (i := 0) rfl h_276) ((bl_length _)) (h_274) r_289 r_295 hr_285) ?_
                rintro _ w_286 ⟨A_290, c_291, n_292, hn_293, rfl, sc_288⟩
                have st_287 : St w w_286 [.sl A_290 c_291 n_292 (iv .u8 r_289) 5 1, .obj B_270 (.cells cs_272.toArray 5 (c_271, c_271 + 1)), .obj B_204 (.cells cs_206.toArray 5 (c_205, c_205 + 1)), .cells B_1 (iv .u8 l0) 23] := st_281.call sc_288
                refine ⟨_, rfl, ?_⟩
                refine WL.nil ?_
                refine AW.back ?_
                refine AW.take 10 rfl (by kernel_rfl) (by kernel_rfl) (by kernel_rfl) Wanted.none (fun _ => (Runs.move rfl)) ?_
                refine AW.take 11 rfl (by kernel_rfl) (by kernel_rfl) (by kernel_rfl) Wanted.none (fun _ => (Runs.extract rfl rfl)) ?_
                refine AW.take 12 rfl (by kernel_rfl) (by kernel_rfl) (by kernel_rfl) Wanted.none (fun _ => (Runs.extract rfl rfl)) ?_
                refine AW.take 13 rfl (by kernel_rfl) (by kernel_rfl) (by kernel_rfl) Wanted.none (fun _ => (Runs.assign rfl)) ?_
                refine AW.take 14 rfl (by kernel_rfl) (by kernel_rfl) (by kernel_rfl) Wanted.none (fun _ => (Runs.assign rfl)) ?_
                refine AW.done (by kernel_rfl) ?_
                refine QW.then_n ?_
                refine CW.sub [(8, .int .u64 x_224), (9, .string s_225), (10, .int .i64 x_226), (11, .int .u64 r_217), (14, .slice A_290 n_292 c_291)] ⟨rfl, rfl, rfl, rfl, rfl, trivial⟩ ?_
                refine CW.seq ?_
                refine CW.region_qa wide (by kernel_rfl) st_287 ?_
                refine HL.val Wanted.none (fun wq sq => (Runs.move rfl)) ?_
                refine HL.val Wanted.none (fun wq sq => (Runs.move rfl)) ?_
                refine HL.val Wanted.none (fun wq sq => (Runs.bytes_str Tryd.underlying26 Tryd.underlying5 Tryd.underlying9 rfl (sq.src_sl (k := 0) rfl) hn_293)) ?_
                refine HL.val Wanted.none (fun wq sq => (Runs.assign rfl)) ?_
                refine HL.val Wanted.none (fun wq sq => (Runs.assign rfl)) ?_
                refine HL.val Wanted.none (fun wq sq => (Runs.assign rfl)) ?_
                refine HL.nil (fun w_296 st_297 => ?_)
                refine WL.nil ?_
                refine QW.then_n ?_
                refine CW.ret ?_
                obtain ⟨rfl, rfl, rfl⟩ := H
                exact QW.ret3 rfl rfl rfl rfl ⟨rfl, st_297.pick [] (by decide)⟩
            · obtain ⟨r_302, hr_298, H⟩ := H
              refine WL.call Wanted.none ent22 rfl (reliquaryref04_Nonce.calls w_237 a1 r_217 r_302 hr_298) ?_
              rintro _ w_299 ⟨hl_303, rfl, sc_301⟩
              have st_300 : St w w_299 [.obj B_204 (.cells cs_206.toArray 5 (c_205, c_205 + 1)), .cells B_1 (iv .u8 l0) 23] := st_238.call sc_301
              refine ⟨_, rfl, ?_⟩
              refine WL.nil ?_
              refine AW.back ?_
              refine AW.step2 0 8 rfl rfl (by kernel_rfl) ?_ ?_
              · refine WL.val Wanted.none (Runs.load_arr arr23 rfl (st_300.blk (i := 1) rfl) hl0) ?_
                refine WL.nil ?_
                refine AW.back ?_
                refine AW.step 8 rfl (by kernel_rfl) ?_
                refine WL.bytes st_300 Tryd.underlying9 Tryd.underlying26 Tryd.underlying5 rfl ?_
                intro B_304 c_305 cs_306 w_307 h_308 h_309 h_310 st_311
                replace st_311 : St w w_307 [.obj B_304 (.cells cs_306.toArray 5 (c_305, c_305 + 1)), .obj B_204 (.cells cs_206.toArray 5 (c_205, c_205 + 1)), .cells B_1 (iv .u8 l0) 23] := st_311
                refine WL.nil ?_
                refine AW.back ?_
                refine AW.step 9 rfl (by kernel_rfl) ?_
                obtain ⟨r_317, r_323, hr_313, H⟩ := H
                refine WL.call Wanted.none ent21 rfl (reliquaryref04_Crypt.calls w_307 l0 0 r_302 (bl (sx a2 (8 : Int) (IntKind.i64.wrap (8 + a3)))) (some ⟨B_304, 0, none⟩) ((sx a2 (8 : Int) (IntKind.i64.wrap (8 + a3))).size) c_305 hl0 hl_303 (st_311.src_obj (i := 0) rfl h_310) ((bl_length _)) (h_308) r_317 r_323 hr_313) ?_
                rintro _ w_314 ⟨A_318, c_319, n_320, hn_321, rfl, sc_316⟩
                have st_315 : St w w_314 [.sl A_318 c_319 n_320 (iv .u8 r_317) 5 1, .obj B_304 (.cells cs_306.toArray 5 (c_305, c_305 + 1)), .obj B_204 (.cells cs_206.toArray 5 (c_205, c_205 + 1)), .cells B_1 (iv .u8 l0) 23] := st_311.call sc_316
                refine ⟨_, rfl, ?_⟩
                refine WL.nil ?_
                refine AW.back ?_
                refine AW.take 10 rfl (by kernel_rfl) (by kernel_rfl) (by kernel_rfl) Wanted.none (fun _ => (Runs.move rfl)) ?_
                refine AW.take 11 rfl (by kernel_rfl) (by kernel_rfl) (by kernel_rfl) Wanted.none (fun _ => (Runs.extract rfl rfl)) ?_
                refine AW.take 12 rfl (by kernel_rfl) (by kernel_rfl) (by kernel_rfl) Wanted.none (fun _ => (Runs.extract rfl rfl)) ?_
                refine AW.take 13 rfl (by kernel_rfl) (by kernel_rfl) (by kernel_rfl) Wanted.none (fun _ => (Runs.assign rfl)) ?_
                refine AW.take 14 rfl (by kernel_rfl) (by kernel_rfl) (by kernel_rfl) Wanted.none (fun _ => (Runs.assign rfl)) ?_
                refine AW.done (by kernel_rfl) ?_
                refine QW.then_n ?_
                refine CW.sub [(8, .int .u64 x_224), (9, .string s_225), (10, .int .i64 x_226), (11, .int .u64 r_217), (14, .slice A_318 n_320 c_319)] ⟨rfl, rfl, rfl, rfl, rfl, trivial⟩ ?_
                refine CW.seq ?_
                refine CW.region_qa wide (by kernel_rfl) st_315 ?_
                refine HL.val Wanted.none (fun wq sq => (Runs.move rfl)) ?_
                refine HL.val Wanted.none (fun wq sq => (Runs.move rfl)) ?_
                refine HL.val Wanted.none (fun wq sq => (Runs.bytes_str Tryd.underlying26 Tryd.underlying5 Tryd.underlying9 rfl (sq.src_sl (k := 0) rfl) hn_321)) ?_
                refine HL.val Wanted.none (fun wq sq => (Runs.assign rfl)) ?_
                refine HL.val Wanted.none (fun wq sq => (Runs.assign rfl)) ?_
                refine HL.val Wanted.none (fun wq sq => (Runs.assign rfl)) ?_
                refine HL.nil (fun w_324 st_325 => ?_)
                refine WL.nil ?_
                refine QW.then_n ?_
                refine CW.ret ?_
                obtain ⟨rfl, rfl, rfl⟩ := H
                exact QW.ret3 rfl rfl rfl rfl ⟨rfl, st_325.pick [] (by decide)⟩
              · refine WL.bytes st_300 Tryd.underlying9 Tryd.underlying26 Tryd.underlying5 rfl ?_
                intro B_326 c_327 cs_328 w_329 h_330 h_331 h_332 st_333
                replace st_333 : St w w_329 [.obj B_326 (.cells cs_328.toArray 5 (c_327, c_327 + 1)), .obj B_204 (.cells cs_206.toArray 5 (c_205, c_205 + 1)), .cells B_1 (iv .u8 l0) 23] := st_333
                refine WL.nil ?_
                refine AW.back ?_
                refine AW.step 0 rfl (by kernel_rfl) ?_
                refine WL.val Wanted.none (Runs.load_arr arr23 rfl (st_333.blk (i := 2) rfl) hl0) ?_
                refine WL.nil ?_
                refine AW.back ?_
                refine AW.step 9 rfl (by kernel_rfl) ?_
                obtain ⟨r_339, r_345, hr_335, H⟩ := H
                refine WL.call Wanted.none ent21 rfl (reliquaryref04_Crypt.calls w_329 l0 0 r_302 (bl (sx a2 (8 : Int) (IntKind.i64.wrap (8 + a3)))) (some ⟨B_326, 0, none⟩) ((sx a2 (8 : Int) (IntKind.i64.wrap (8 + a3))).size) c_327 hl0 hl_303 (st_333.src_obj (i := 0) rfl h_332) ((bl_length _)) (h_330) r_339 r_345 hr_335) ?_
                rintro _ w_336 ⟨A_340, c_341, n_342, hn_343, rfl, sc_338⟩
                have st_337 : St w w_336 [.sl A_340 c_341 n_342 (iv .u8 r_339) 5 1, .obj B_326 (.cells cs_328.toArray 5 (c_327, c_327 + 1)), .obj B_204 (.cells cs_206.toArray 5 (c_205, c_205 + 1)), .cells B_1 (iv .u8 l0) 23] := st_333.call sc_338
                refine ⟨_, rfl, ?_⟩
                refine WL.nil ?_
                refine AW.back ?_
                refine AW.take 10 rfl (by kernel_rfl) (by kernel_rfl) (by kernel_rfl) Wanted.none (fun _ => (Runs.move rfl)) ?_
                refine AW.take 11 rfl (by kernel_rfl) (by kernel_rfl) (by kernel_rfl) Wanted.none (fun _ => (Runs.extract rfl rfl)) ?_
                refine AW.take 12 rfl (by kernel_rfl) (by kernel_rfl) (by kernel_rfl) Wanted.none (fun _ => (Runs.extract rfl rfl)) ?_
                refine AW.take 13 rfl (by kernel_rfl) (by kernel_rfl) (by kernel_rfl) Wanted.none (fun _ => (Runs.assign rfl)) ?_
                refine AW.take 14 rfl (by kernel_rfl) (by kernel_rfl) (by kernel_rfl) Wanted.none (fun _ => (Runs.assign rfl)) ?_
                refine AW.done (by kernel_rfl) ?_
                refine QW.then_n ?_
                refine CW.sub [(8, .int .u64 x_224), (9, .string s_225), (10, .int .i64 x_226), (11, .int .u64 r_217), (14, .slice A_340 n_342 c_341)] ⟨rfl, rfl, rfl, rfl, rfl, trivial⟩ ?_
                refine CW.seq ?_
                refine CW.region_qa wide (by kernel_rfl) st_337 ?_
                refine HL.val Wanted.none (fun wq sq => (Runs.move rfl)) ?_
                refine HL.val Wanted.none (fun wq sq => (Runs.move rfl)) ?_
                refine HL.val Wanted.none (fun wq sq => (Runs.bytes_str Tryd.underlying26 Tryd.underlying5 Tryd.underlying9 rfl (sq.src_sl (k := 0) rfl) hn_343)) ?_
                refine HL.val Wanted.none (fun wq sq => (Runs.assign rfl)) ?_
                refine HL.val Wanted.none (fun wq sq => (Runs.assign rfl)) ?_
                refine HL.val Wanted.none (fun wq sq => (Runs.assign rfl)) ?_
                refine HL.nil (fun w_346 st_347 => ?_)
                refine WL.nil ?_
                refine QW.then_n ?_
                refine CW.ret ?_
                obtain ⟨rfl, rfl, rfl⟩ := H
                exact QW.ret3 rfl rfl rfl rfl ⟨rfl, st_347.pick [] (by decide)⟩
            · refine WL.bytes st_238 Tryd.underlying9 Tryd.underlying26 Tryd.underlying5 rfl ?_
              intro B_348 c_349 cs_350 w_351 h_352 h_353 h_354 st_355
              replace st_355 : St w w_351 [.obj B_348 (.cells cs_350.toArray 5 (c_349, c_349 + 1)), .obj B_204 (.cells cs_206.toArray 5 (c_205, c_205 + 1)), .cells B_1 (iv .u8 l0) 23] := st_355
              refine WL.nil ?_
              refine AW.back ?_
              refine AW.step2 0 3 rfl rfl (by kernel_rfl) ?_ ?_
              · refine WL.val Wanted.none (Runs.load_arr arr23 rfl (st_355.blk (i := 2) rfl) hl0) ?_
                refine WL.nil ?_
                refine AW.back ?_
                refine AW.step 3 rfl (by kernel_rfl) ?_
                obtain ⟨r_361, hr_357, H⟩ := H
                refine WL.call Wanted.none ent22 rfl (reliquaryref04_Nonce.calls w_351 a1 r_217 r_361 hr_357) ?_
                rintro _ w_358 ⟨hl_362, rfl, sc_360⟩
                have st_359 : St w w_358 [.obj B_348 (.cells cs_350.toArray 5 (c_349, c_349 + 1)), .obj B_204 (.cells cs_206.toArray 5 (c_205, c_205 + 1)), .cells B_1 (iv .u8 l0) 23] := st_355.call sc_360
                refine ⟨_, rfl, ?_⟩
                refine WL.nil ?_
                refine AW.back ?_
                refine AW.step 9 rfl (by kernel_rfl) ?_
                obtain ⟨r_367, r_373, hr_363, H⟩ := H
                refine WL.call Wanted.none ent21 rfl (reliquaryref04_Crypt.calls w_358 l0 0 r_361 (bl (sx a2 (8 : Int) (IntKind.i64.wrap (8 + a3)))) (some ⟨B_348, 0, none⟩) ((sx a2 (8 : Int) (IntKind.i64.wrap (8 + a3))).size) c_349 hl0 hl_362 (st_359.src_obj (i := 0) rfl h_354) ((bl_length _)) (h_352) r_367 r_373 hr_363) ?_
                rintro _ w_364 ⟨A_368, c_369, n_370, hn_371, rfl, sc_366⟩
                have st_365 : St w w_364 [.sl A_368 c_369 n_370 (iv .u8 r_367) 5 1, .obj B_348 (.cells cs_350.toArray 5 (c_349, c_349 + 1)), .obj B_204 (.cells cs_206.toArray 5 (c_205, c_205 + 1)), .cells B_1 (iv .u8 l0) 23] := st_359.call sc_366
                refine ⟨_, rfl, ?_⟩
                refine WL.nil ?_
                refine AW.back ?_
                refine AW.take 10 rfl (by kernel_rfl) (by kernel_rfl) (by kernel_rfl) Wanted.none (fun _ => (Runs.move rfl)) ?_
                refine AW.take 11 rfl (by kernel_rfl) (by kernel_rfl) (by kernel_rfl) Wanted.none (fun _ => (Runs.extract rfl rfl)) ?_
                refine AW.take 12 rfl (by kernel_rfl) (by kernel_rfl) (by kernel_rfl) Wanted.none (fun _ => (Runs.extract rfl rfl)) ?_
                refine AW.take 13 rfl (by kernel_rfl) (by kernel_rfl) (by kernel_rfl) Wanted.none (fun _ => (Runs.assign rfl)) ?_
                refine AW.take 14 rfl (by kernel_rfl) (by kernel_rfl) (by kernel_rfl) Wanted.none (fun _ => (Runs.assign rfl)) ?_
                refine AW.done (by kernel_rfl) ?_
                refine QW.then_n ?_
                refine CW.sub [(8, .int .u64 x_224), (9, .string s_225), (10, .int .i64 x_226), (11, .int .u64 r_217), (14, .slice A_368 n_370 c_369)] ⟨rfl, rfl, rfl, rfl, rfl, trivial⟩ ?_
                refine CW.seq ?_
                refine CW.region_qa wide (by kernel_rfl) st_365 ?_
                refine HL.val Wanted.none (fun wq sq => (Runs.move rfl)) ?_
                refine HL.val Wanted.none (fun wq sq => (Runs.move rfl)) ?_
                refine HL.val Wanted.none (fun wq sq => (Runs.bytes_str Tryd.underlying26 Tryd.underlying5 Tryd.underlying9 rfl (sq.src_sl (k := 0) rfl) hn_371)) ?_
                refine HL.val Wanted.none (fun wq sq => (Runs.assign rfl)) ?_
                refine HL.val Wanted.none (fun wq sq => (Runs.assign rfl)) ?_
                refine HL.val Wanted.none (fun wq sq => (Runs.assign rfl)) ?_
                refine HL.nil (fun w_374 st_375 => ?_)
                refine WL.nil ?_
                refine QW.then_n ?_
                refine CW.ret ?_
                obtain ⟨rfl, rfl, rfl⟩ := H
                exact QW.ret3 rfl rfl rfl rfl ⟨rfl, st_375.pick [] (by decide)⟩
              · obtain ⟨r_380, hr_376, H⟩ := H
                refine WL.call Wanted.none ent22 rfl (reliquaryref04_Nonce.calls w_351 a1 r_217 r_380 hr_376) ?_
                rintro _ w_377 ⟨hl_381, rfl, sc_379⟩
                have st_378 : St w w_377 [.obj B_348 (.cells cs_350.toArray 5 (c_349, c_349 + 1)), .obj B_204 (.cells cs_206.toArray 5 (c_205, c_205 + 1)), .cells B_1 (iv .u8 l0) 23] := st_355.call sc_379
                refine ⟨_, rfl, ?_⟩
                refine WL.nil ?_
                refine AW.back ?_
                refine AW.step 0 rfl (by kernel_rfl) ?_
                refine WL.val Wanted.none (Runs.load_arr arr23 rfl (st_378.blk (i := 2) rfl) hl0) ?_
                refine WL.nil ?_
                refine AW.back ?_
                refine AW.step 9 rfl (by kernel_rfl) ?_
                obtain ⟨r_386, r_392, hr_382, H⟩ := H
                refine WL.call Wanted.none ent21 rfl (reliquaryref04_Crypt.calls w_377 l0 0 r_380 (bl (sx a2 (8 : Int) (IntKind.i64.wrap (8 + a3)))) (some ⟨B_348, 0, none⟩) ((sx a2 (8 : Int) (IntKind.i64.wrap (8 + a3))).size) c_349 hl0 hl_381 (st_378.src_obj (i := 0) rfl h_354) ((bl_length _)) (h_352) r_386 r_392 hr_382) ?_
                rintro _ w_383 ⟨A_387, c_388, n_389, hn_390, rfl, sc_385⟩
                have st_384 : St w w_383 [.sl A_387 c_388 n_389 (iv .u8 r_386) 5 1, .obj B_348 (.cells cs_350.toArray 5 (c_349, c_349 + 1)), .obj B_204 (.cells cs_206.toArray 5 (c_205, c_205 + 1)), .cells B_1 (iv .u8 l0) 23] := st_378.call sc_385
                refine ⟨_, rfl, ?_⟩
                refine WL.nil ?_
                refine AW.back ?_
                refine AW.take 10 rfl (by kernel_rfl) (by kernel_rfl) (by kernel_rfl) Wanted.none (fun _ => (Runs.move rfl)) ?_
                refine AW.take 11 rfl (by kernel_rfl) (by kernel_rfl) (by kernel_rfl) Wanted.none (fun _ => (Runs.extract rfl rfl)) ?_
                refine AW.take 12 rfl (by kernel_rfl) (by kernel_rfl) (by kernel_rfl) Wanted.none (fun _ => (Runs.extract rfl rfl)) ?_
                refine AW.take 13 rfl (by kernel_rfl) (by kernel_rfl) (by kernel_rfl) Wanted.none (fun _ => (Runs.assign rfl)) ?_
                refine AW.take 14 rfl (by kernel_rfl) (by kernel_rfl) (by kernel_rfl) Wanted.none (fun _ => (Runs.assign rfl)) ?_
                refine AW.done (by kernel_rfl) ?_
                refine QW.then_n ?_
                refine CW.sub [(8, .int .u64 x_224), (9, .string s_225), (10, .int .i64 x_226), (11, .int .u64 r_217), (14, .slice A_387 n_389 c_388)] ⟨rfl, rfl, rfl, rfl, rfl, trivial⟩ ?_
                refine CW.seq ?_
                refine CW.region_qa wide (by kernel_rfl) st_384 ?_
                refine HL.val Wanted.none (fun wq sq => (Runs.move rfl)) ?_
                refine HL.val Wanted.none (fun wq sq => (Runs.move rfl)) ?_
                refine HL.val Wanted.none (fun wq sq => (Runs.bytes_str Tryd.underlying26 Tryd.underlying5 Tryd.underlying9 rfl (sq.src_sl (k := 0) rfl) hn_390)) ?_
                refine HL.val Wanted.none (fun wq sq => (Runs.assign rfl)) ?_
                refine HL.val Wanted.none (fun wq sq => (Runs.assign rfl)) ?_
                refine HL.val Wanted.none (fun wq sq => (Runs.assign rfl)) ?_
                refine HL.nil (fun w_393 st_394 => ?_)
                refine WL.nil ?_
                refine QW.then_n ?_
                refine CW.ret ?_
                obtain ⟨rfl, rfl, rfl⟩ := H
                exact QW.ret3 rfl rfl rfl rfl ⟨rfl, st_394.pick [] (by decide)⟩

end Go.Proofs.YtkcpocplohdobaaDoor
