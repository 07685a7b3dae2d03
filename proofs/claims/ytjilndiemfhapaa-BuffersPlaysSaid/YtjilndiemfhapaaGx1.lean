/- Walks: each function computes what its relation says, and a call of it ends so. Printed by a program of this session (wip/gen). -/
import Derived.Test.YtjilndiemfhapaaGx0
namespace Go.Proofs.Ytjilndiemfhapaa
open Go Go.Kr Go.RowKit
set_option linter.unusedVariables false
set_option linter.unusedSimpArgs false
/-! ### buffers_New: function 10 -/
def buffers_New.rel (a0 : Int) (ar0_0 : Int) (lr0_1 : List R60) : Prop := ar0_0 = maxI a0 0 ∧ lr0_1 = ([] : List R60)
set_option maxHeartbeats 1000000 in
set_option maxRecDepth 100000 in
theorem buffers_New.calls (w w1 : World) (T R : Pool) (a0 : Int)  (st0 : St w w1 ((T ++ R)))  (ar0_0 : Int) (lr0_1 : List R60) (H : buffers_New.rel a0 ar0_0 lr0_1) :
    Calls Try.prog 10 #[.int .i64 a0] w1 fun e w' => ∃ T' br0 Ar0_1 nr0_1 cr0_1 xr0_1, Pl T T' ∧ nr0_1 = lr0_1.length ∧ HRs T' (f60 w) xr0_1 lr0_1 ∧ e = .returned (.pointer (some ⟨br0, 0, none⟩)) ∧ St w w' (.cells br0 (([.int .i64 ar0_0] : List Value) ++ ([.slice Ar0_1 nr0_1 cr0_1] : List Value)) 57 :: .sl Ar0_1 cr0_1 nr0_1 xr0_1 60 3 :: (T' ++ R)) := by
  refine CW.enter Try.func10 rfl (n := 7) rfl [.int .i64 a0] (Nat.le_of_ble_eq_true rfl) ?_
  refine CW.sub [(0, .int .i64 a0)] ⟨rfl, trivial⟩ ?_
  refine CW.seq ?_
  refine CW.region ?_
  refine WL.val Wanted.none (Runs.assign rfl) ?_
  refine WL.nil ?_
  refine QW.then_n ?_
  refine CW.seq ?_
  refine CW.region ?_
  refine WL.val Wanted.none (Runs.move rfl) ?_
  refine WL.val Wanted.none (Runs.max2 rfl rfl rfl) ?_
  refine WL.val Wanted.none (Runs.build_struct (ps := [(0, 1), (1, 1)]) (cs := (([.int .i64 (maxI a0 0)] : List Value) ++ ([.slice none 0 0] : List Value))) plc57 zero57 rfl (by refine Fills.cons (o := 0) (ms := (([.int .i64 (maxI a0 0)] : List Value))) (show _ = some (0, (([.int .i64 (maxI a0 0)] : List Value)).length) by rw [show (([.int .i64 (maxI a0 0)] : List Value)).length = 1 from (by first | rfl | simp only [List.length_append, List.length_cons, List.length_nil, iv_length])] <;> rfl) rfl (by have h1_ : (([.int .i64 (maxI a0 0)] : List Value)).length = 1 := (by first | rfl | simp only [List.length_append, List.length_cons, List.length_nil, iv_length]); have h2_ : (([.int .i64 0] : List Value) ++ ([.slice none 0 0] : List Value)).length = 2 := (by first | rfl | simp only [List.length_append, List.length_cons, List.length_nil, iv_length]); omega) ?_; rw [show layV (([.int .i64 0] : List Value) ++ ([.slice none 0 0] : List Value)) 0 (([.int .i64 (maxI a0 0)] : List Value)) = (([.int .i64 (maxI a0 0)] : List Value) ++ ([.slice none 0 0] : List Value)) from (layV_mid (pre := (([] : List Value))) (mid := (([.int .i64 0] : List Value))) (post := (([.slice none 0 0] : List Value))) (by first | rfl | simp only [List.append_assoc, List.append_nil, List.nil_append, List.cons_append]) (by first | rfl | simp only [List.length_append, List.length_cons, List.length_nil, iv_length]) (Eq.trans (b := 1) (by first | rfl | simp only [List.length_append, List.length_cons, List.length_nil, iv_length]) (Eq.symm (by first | rfl | simp only [List.length_append, List.length_cons, List.length_nil, iv_length])))).trans (by first | rfl | simp only [List.append_assoc, List.append_nil, List.nil_append, List.cons_append])]; exact Fills.nil)) ?_
  refine WL.box st0 rfl rfl ?_
  intro B_1 w_2 st_3
  replace st_3 : St w w_2 (.cells B_1 (([.int .i64 (maxI a0 0)] : List Value) ++ ([.slice none 0 0] : List Value)) 57 :: (T ++ R)) := st_3
  have st_6 := st_3.nil_sl 60 3
  have st_6 : St w w_2 (.sl none 0 0 ([] : Cells) 60 3 :: .cells B_1 (([.int .i64 (maxI a0 0)] : List Value) ++ ([.slice none 0 0] : List Value)) 57 :: (T ++ R)) := st_6
  refine WL.val Wanted.none (Runs.assign rfl) ?_
  refine WL.nil ?_
  refine QW.then_n ?_
  refine CW.ret ?_
  obtain ⟨rfl, rfl⟩ := H
  exact QW.ret1 rfl rfl ⟨T, B_1, none, 0, 0, ([] : Cells), Pl.refl, rfl, (HRs.nil : HRs T (f60 w) [] []), rfl, (St.pickT (L := [_, _]) st_6 [1, 0] (by decide))⟩

/-! ### buffers_Cache_find_1: function 31 -/
def buffers_Cache_find_1.rel (a0_0 : Int) (l0_1 : List Int) (a0_2 : Int) (ac0 : Int) (ar0 : Bool) : Prop := ar0 = (a0_0 == ac0)
set_option maxHeartbeats 1000000 in
set_option maxRecDepth 100000 in
theorem buffers_Cache_find_1.calls (w w1 : World) (T R : Pool) (a0_0 : Int) (l0_1 : List Int) (a0_2 : Int) (ac0 : Int) (A0_1 : Option Addr) (n0_1 : Nat) (c0_1 : Nat) (bc0 : Nat) (st0 : St w w1 ((T ++ R))) (hb0_1 : HB w T A0_1 n0_1 c0_1 (iv .u8 l0_1) l0_1.length) (hcellc0 : Hd w (T ++ R) fun W_ => W_.cell? ⟨bc0, 0, none⟩ = some (.int .u64 ac0)) (ar0 : Bool) (H : buffers_Cache_find_1.rel a0_0 l0_1 a0_2 ac0 ar0) :
    Calls Try.prog 31 #[.agg (([.int .u64 a0_0] : List Value) ++ (([.slice A0_1 n0_1 c0_1] : List Value) ++ ([.int .i64 a0_2] : List Value))).toArray, .pointer (some ⟨bc0, 0, none⟩)] w1 fun e w' => ∃ T' , Pl T T' ∧ e = .returned (.bool ar0) ∧ St w w' ((T' ++ R)) := by
  refine CW.enter Try.func31 rfl (n := 8) rfl [.agg (([.int .u64 a0_0] : List Value) ++ (([.slice A0_1 n0_1 c0_1] : List Value) ++ ([.int .i64 a0_2] : List Value))).toArray, .pointer (some ⟨bc0, 0, none⟩)] (Nat.le_of_ble_eq_true rfl) ?_
  refine CW.sub [(0, .agg (([.int .u64 a0_0] : List Value) ++ (([.slice A0_1 n0_1 c0_1] : List Value) ++ ([.int .i64 a0_2] : List Value))).toArray), (1, .pointer (some ⟨bc0, 0, none⟩))] ⟨rfl, rfl, trivial⟩ ?_
  refine CW.seq ?_
  refine CW.region ?_
  refine WL.box st0 rfl rfl ?_
  intro B_1 w_2 st_3
  replace st_3 : St w w_2 (.cells B_1 (([.int .u64 a0_0] : List Value) ++ (([.slice A0_1 n0_1 c0_1] : List Value) ++ ([.int .i64 a0_2] : List Value))) 60 :: (T ++ R)) := st_3
  refine WL.val Wanted.none (Runs.assign rfl) ?_
  refine WL.nil ?_
  refine QW.then_n ?_
  refine CW.seq ?_
  refine CW.region ?_
  refine WL.val Wanted.none (Runs.fieldAddr (off := 0) (p := 0) fld60_0 rfl rfl rfl) ?_
  refine WL.val Wanted.none (Runs.load nagg29 rfl (st_3.cell (k := 0) rfl (part_one (u := .int .u64 a0_0) (pre := (([] : List Value))) (post := (([.slice A0_1 n0_1 c0_1] : List Value) ++ ([.int .i64 a0_2] : List Value))) (by first | rfl | simp only [List.append_assoc, List.append_nil, List.nil_append, List.cons_append]) (by first | rfl | simp only [List.length_append, List.length_cons, List.length_nil, iv_length])))) ?_
  refine WL.val Wanted.none (Runs.load nagg29 rfl (hcellc0.at st_3 (mem_TR (A := [_]) (fun _ h_ => h_)))) ?_
  refine WL.val Wanted.none (Runs.eql rfl rfl rfl) ?_
  refine WL.val Wanted.none (Runs.assign rfl) ?_
  refine WL.nil ?_
  refine QW.then_n ?_
  refine CW.sub [(3, .bool (a0_0 == ac0))] ⟨rfl, trivial⟩ ?_
  refine CW.ret ?_
  obtain rfl := H
  exact QW.ret1 rfl rfl ⟨T, Pl.refl, rfl, (St.pickT (L := [_]) st_3 [] (by decide))⟩

/-! ### slices_IndexFunc_s_buffers_buffer_buffers_buffer_clo1_buffers_Cache_find_1: function 30 -/
def slices_IndexFunc_s_buffers_buffer_buffers_buffer_clo1_buffers_Cache_find_1.L1 (l0 : List R60) (a1_0 : Int) (ar0 : Int) : Nat → Int → Int → Prop
  | 0, _, _ => False
  | kL1 + 1, x_4, x_5 => ((x_5 < (l0.length : Int) ∧ ((0 ≤ x_5 ∧ x_5 < (l0.length : Int)) ∧ (∃ (a_31 : Bool), buffers_Cache_find_1.rel ((gx l0 ((x_5).toNat)).1) ((gx l0 ((x_5).toNat)).2.1) ((gx l0 ((x_5).toNat)).2.2) a1_0 a_31 ∧ ((a_31 = true ∧ ar0 = x_5) ∨ (¬ (a_31 = true) ∧ slices_IndexFunc_s_buffers_buffer_buffers_buffer_clo1_buffers_Cache_find_1.L1 l0 a1_0 ar0 kL1 x_4 (IntKind.i64.wrap (x_5 + 1))))))) ∨ (¬ (x_5 < (l0.length : Int)) ∧ ar0 = -1))
def slices_IndexFunc_s_buffers_buffer_buffers_buffer_clo1_buffers_Cache_find_1.rel (l0 : List R60) (a1_0 : Int) (ar0 : Int) : Prop := (∃ k_ : Nat, slices_IndexFunc_s_buffers_buffer_buffers_buffer_clo1_buffers_Cache_find_1.L1 l0 a1_0 ar0 k_ 0 0)
set_option maxHeartbeats 1000000 in
set_option maxRecDepth 100000 in
theorem slices_IndexFunc_s_buffers_buffer_buffers_buffer_clo1_buffers_Cache_find_1.calls (w w1 : World) (T R : Pool) (l0 : List R60) (a1_0 : Int) (A0 : Option Addr) (n0 : Nat) (c0 : Nat) (b1_0 : Nat) (st0 : St w w1 ((T ++ R))) (hb0 : HS w (T ++ R) T A0 n0 c0 (f60 w) l0) (hcell1_0 : Hd w (T ++ R) fun W_ => W_.cell? ⟨b1_0, 0, none⟩ = some (.int .u64 a1_0)) (ar0 : Int) (H : slices_IndexFunc_s_buffers_buffer_buffers_buffer_clo1_buffers_Cache_find_1.rel l0 a1_0 ar0) :
    Calls Try.prog 30 #[.slice A0 n0 c0, .func (.func 31) #[] #[.pointer (some ⟨b1_0, 0, none⟩)]] w1 fun e w' => ∃ T' , Pl T T' ∧ e = .returned (.int .i64 ar0) ∧ St w w' ((T' ++ R)) := by
  refine CW.enter Try.func30 rfl (n := 19) rfl [.slice A0 n0 c0, .func (.func 31) #[] #[.pointer (some ⟨b1_0, 0, none⟩)]] (Nat.le_of_ble_eq_true rfl) ?_
  refine CW.sub [(0, .slice A0 n0 c0), (1, .func (.func 31) #[] #[.pointer (some ⟨b1_0, 0, none⟩)])] ⟨rfl, rfl, trivial⟩ ?_
  refine CW.seq ?_
  refine CW.region ?_
  refine WL.val Wanted.none (Runs.assign rfl) ?_
  refine WL.nil ?_
  refine QW.then_n ?_
  refine CW.seq ?_
  refine CW.seq ?_
  refine CW.region ?_
  refine WL.val Wanted.none (Runs.move rfl) ?_
  refine WL.val Wanted.none (Runs.len_sl Try.underlying55 rfl (by rw [hb0.1])) ?_
  refine WL.val Wanted.none (Runs.move rfl) ?_
  refine WL.nil ?_
  refine QW.then_n ?_
  refine CW.block ?_
  obtain ⟨k_1, H⟩ := H
  refine CW.sub [(0, .slice A0 n0 c0), (1, .func (.func 31) #[] #[.pointer (some ⟨b1_0, 0, none⟩)]), (4, .int .i64 0), (7, .int .i64 (l0.length : Int)), (8, .int .i64 0)] ⟨rfl, rfl, rfl, rfl, rfl, trivial⟩ ?_
  refine CW.loop (fun kL1 l_ w_ => ∃ (T_2 : Pool) (x_4 : Int) (x_5 : Int), l_ = [(0, .slice A0 n0 c0), (1, .func (.func 31) #[] #[.pointer (some ⟨b1_0, 0, none⟩)]), (4, .int .i64 x_4), (7, .int .i64 (l0.length : Int)), (8, .int .i64 x_5)] ∧ slices_IndexFunc_s_buffers_buffer_buffers_buffer_clo1_buffers_Cache_find_1.L1 l0 a1_0 ar0 kL1 x_4 x_5 ∧ (Pl T T_2) ∧ St w w_ ((T_2 ++ R))) (k := k_1) ⟨T, 0, 0, rfl, H, Pl.refl, st0⟩ (fun _ _ h => by obtain ⟨_, _, _, _, h, _⟩ := h; exact h.elim) ?_
  rintro kL1 l_8 w_6 ⟨T_2, x_4, x_5, rfl, H, hs_3, st_7⟩
  refine CW.seq ?_
  refine CW.region ?_
  refine WL.val Wanted.none (Runs.lss rfl rfl rfl) ?_
  refine WL.nil ?_
  refine QW.then_n ?_
  refine CW.seq ?_
  rcases H with ⟨c_9, H⟩ | ⟨c_9, H⟩
  · have h_10 : (decide (x_5 < (l0.length : Int))) = true := (decide_eq_true c_9)
    refine CW.ct rfl h_10 ?_
    refine CW.skip ?_
    refine QW.then_n ?_
    refine CW.seq ?_
    refine CW.block ?_
    refine CW.seq ?_
    refine CW.region ?_
    refine WL.val Wanted.none (Runs.move rfl) ?_
    refine WL.val Wanted.none (Runs.assign rfl) ?_
    refine WL.nil ?_
    refine QW.then_n ?_
    refine CW.seq ?_
    refine CW.region ?_
    refine WL.val Wanted.none (Runs.move rfl) ?_
    refine WL.val Wanted.none (Runs.move rfl) ?_
    refine WL.val Wanted.none (Runs.move rfl) ?_
    obtain ⟨⟨p_11, q_12⟩, H⟩ := H
    obtain ⟨x_13, hs_14, hr_15⟩ := hb0.2.2
    obtain ⟨a_16, e_17, ms_18, hc_19, hm_20⟩ := el_get (i := (x_5).toNat) ((hs_14.at st_7 (mem_TR (A := []) (fun _ h_ => hs_3.1 _ h_)))) (hr_15.mono (fun _ h_ => hs_3.1 _ h_)) (fz60 w) (by decide) (by omega)
    obtain ⟨A_21, n_22, c_23, em_25, hb_24⟩ := inv60 hm_20
    replace em_25 : ms_18 = ([.int .u64 ((gx l0 ((x_5).toNat)).1)] : List Value) ++ (([.slice A_21 n_22 c_23] : List Value) ++ ([.int .i64 ((gx l0 ((x_5).toNat)).2.2)] : List Value)) := em_25
    subst em_25
    refine WL.val Wanted.none (Runs.indexAddr Try.underlying55 cells60 (by decide) rfl e_17 rfl p_11 (by rw [show n0 = l0.length from hb0.1]; exact q_12) (o := ((x_5).toNat) * 3) (by first | rfl | omega)) ?_
    refine WL.val Wanted.none (Runs.load_srcR row60 rfl (Src.cut ((hs_14.at st_7 (mem_TR (A := []) (fun _ h_ => hs_3.1 _ h_)))) e_17 hc_19) rfl) ?_
    have st_26 : St w w_6 ((T_2 ++ (R))) := St.hide (A := []) (B := []) (T := T_2) (R := R) st_7
    obtain ⟨a_31, hr_27, H⟩ := H
    refine WL.callv Wanted.none ent31 rfl rfl (buffers_Cache_find_1.calls w w_6 T_2 (R) ((gx l0 ((x_5).toNat)).1) ((gx l0 ((x_5).toNat)).2.1) ((gx l0 ((x_5).toNat)).2.2) a1_0 A_21 n_22 c_23 b1_0  st_26 hb_24 (hcell1_0.mono (memo_TR (B := []) (fun _ h_ => hs_3.1 _ h_))) a_31 hr_27) ?_
    rintro _ w_32 ⟨T_28, hs_29, rfl, sc_34⟩
    have st_33 : St w w_32 ((T_28 ++ R)) := St.unhide (A := []) (B := []) (T := T_28) (R := R) sc_34
    refine ⟨_, rfl, ?_⟩
    refine WL.nil ?_
    refine QW.then_n ?_
    rcases H with ⟨c_35, H⟩ | ⟨c_35, H⟩
    · have h_36 : a_31 = true := c_35
      refine CW.ct rfl h_36 ?_
      refine CW.seq ?_
      refine CW.region ?_
      refine WL.val Wanted.none (Runs.move rfl) ?_
      refine WL.val Wanted.none (Runs.assign rfl) ?_
      refine WL.nil ?_
      refine QW.then_n ?_
      refine CW.ret ?_
      refine QW.blk_r ?_
      refine QW.then_r ?_
      refine QW.then_r ?_
      refine QW.blk_r ?_
      refine QW.then_r ?_
      obtain rfl := H
      exact QW.ret1 rfl rfl ⟨T_28, (hs_3.trans hs_29), rfl, (St.pickT (L := []) st_33 [] (by decide))⟩
    · have h_36 : a_31 = false := (Bool.eq_false_iff.mpr c_35)
      refine CW.cf rfl h_36 ?_
      refine CW.skip ?_
      refine QW.blk_n ?_
      refine QW.then_n ?_
      refine CW.region ?_
      refine WL.val Wanted.none (Runs.add rfl rfl rfl) ?_
      refine WL.val Wanted.none (Runs.move rfl) ?_
      refine WL.nil ?_
      exact QW.at [(0, .slice A0 n0 c0), (1, .func (.func 31) #[] #[.pointer (some ⟨b1_0, 0, none⟩)]), (4, .int .i64 x_4), (7, .int .i64 (l0.length : Int)), (8, .int .i64 (IntKind.i64.wrap (x_5 + 1)))] ⟨rfl, rfl, rfl, rfl, rfl, trivial⟩ ⟨T_28, x_4, IntKind.i64.wrap (x_5 + 1), rfl, H, (hs_3.trans hs_29), st_33⟩
  · have h_10 : (decide (x_5 < (l0.length : Int))) = false := (decide_eq_false c_9)
    refine CW.cf rfl h_10 ?_
    refine CW.exit ?_
    refine QW.then_x ?_
    refine QW.then_x ?_
    refine QW.blk_x ?_
    refine QW.then_n ?_
    refine CW.seq ?_
    refine CW.region ?_
    refine WL.val Wanted.none (Runs.assign rfl) ?_
    refine WL.nil ?_
    refine QW.then_n ?_
    refine CW.ret ?_
    obtain rfl := H
    exact QW.ret1 rfl rfl ⟨T_2, hs_3, rfl, (St.pickT (L := []) st_7 [] (by decide))⟩

/-! ### buffers_Cache_find: function 22 -/
def buffers_Cache_find.rel (a0_0 : Int) (l0_1 : List R60) (a1 : Int) (as0_0 : Int) (ls0_1 : List R60) (ar0 : Int) : Prop := (∃ (a_10 : Int), slices_IndexFunc_s_buffers_buffer_buffers_buffer_clo1_buffers_Cache_find_1.rel l0_1 a1 a_10 ∧ as0_0 = a0_0 ∧ ls0_1 = l0_1 ∧ ar0 = a_10)
set_option maxHeartbeats 1000000 in
set_option maxRecDepth 100000 in
theorem buffers_Cache_find.calls (w w1 : World) (T R : Pool) (a0_0 : Int) (l0_1 : List R60) (a1 : Int) (b0 : Nat) (A0_1 : Option Addr) (n0_1 : Nat) (c0_1 : Nat) (x0_1 : Cells) (st0 : St w w1 (.cells b0 (([.int .i64 a0_0] : List Value) ++ ([.slice A0_1 n0_1 c0_1] : List Value)) 57 :: .sl A0_1 c0_1 n0_1 x0_1 60 3 :: (T ++ R))) (hn0_1 : n0_1 = l0_1.length) (hx0_1 : HRs T (f60 w) x0_1 l0_1) (as0_0 : Int) (ls0_1 : List R60) (ar0 : Int) (H : buffers_Cache_find.rel a0_0 l0_1 a1 as0_0 ls0_1 ar0) :
    Calls Try.prog 22 #[.pointer (some ⟨b0, 0, none⟩), .int .u64 a1] w1 fun e w' => ∃ T' As0_1 ns0_1 cs0_1 xs0_1, Pl T T' ∧ ns0_1 = ls0_1.length ∧ HRs T' (f60 w) xs0_1 ls0_1 ∧ e = .returned (.int .i64 ar0) ∧ St w w' (.cells b0 (([.int .i64 as0_0] : List Value) ++ ([.slice As0_1 ns0_1 cs0_1] : List Value)) 57 :: .sl As0_1 cs0_1 ns0_1 xs0_1 60 3 :: (T' ++ R)) := by
  refine CW.enter Try.func22 rfl (n := 13) rfl [.pointer (some ⟨b0, 0, none⟩), .int .u64 a1] (Nat.le_of_ble_eq_true rfl) ?_
  refine CW.sub [(0, .pointer (some ⟨b0, 0, none⟩)), (1, .int .u64 a1)] ⟨rfl, rfl, trivial⟩ ?_
  refine CW.seq ?_
  refine CW.region ?_
  refine WL.box st0 rfl rfl ?_
  intro B_1 w_2 st_3
  replace st_3 : St w w_2 (.cells B_1 [.int .u64 a1] 29 :: .cells b0 (([.int .i64 a0_0] : List Value) ++ ([.slice A0_1 n0_1 c0_1] : List Value)) 57 :: .sl A0_1 c0_1 n0_1 x0_1 60 3 :: (T ++ R)) := st_3
  refine WL.val Wanted.none (Runs.assign rfl) ?_
  refine WL.nil ?_
  refine QW.then_n ?_
  refine CW.seq ?_
  refine CW.seq ?_
  refine CW.region ?_
  refine WL.val Wanted.none (Runs.move rfl) ?_
  refine WL.val Wanted.none (Runs.eql_ptr Try.underlying25 rfl rfl rfl) ?_
  refine WL.nil ?_
  refine QW.then_n ?_
  refine CW.cf rfl rfl ?_
  refine CW.skip ?_
  refine QW.then_n ?_
  refine CW.seq ?_
  refine CW.region ?_
  refine WL.val Wanted.none (Runs.move rfl) ?_
  refine WL.val Wanted.none (Runs.nilCheck rfl) ?_
  refine WL.val Wanted.none (Runs.fieldAddr (off := 1) (p := 1) fld57_1 rfl rfl rfl) ?_
  refine WL.val Wanted.none (Runs.load nagg55 rfl (st_3.cell (k := 1) rfl (part_one (u := .slice A0_1 n0_1 c0_1) (pre := (([.int .i64 a0_0] : List Value))) (post := (([] : List Value))) (by first | rfl | simp only [List.append_assoc, List.append_nil, List.nil_append, List.cons_append]) (by first | rfl | simp only [List.length_append, List.length_cons, List.length_nil, iv_length])))) ?_
  refine WL.val Wanted.none (Runs.makeFunc rfl) ?_
  have st_5 : St w w_2 ((T ++ (.cells B_1 [.int .u64 a1] 29 :: .cells b0 (([.int .i64 a0_0] : List Value) ++ ([.slice A0_1 n0_1 c0_1] : List Value)) 57 :: .sl A0_1 c0_1 n0_1 x0_1 60 3 :: R))) := St.hide (A := []) (B := [_, _, _]) (T := T) (R := R) st_3
  obtain ⟨a_10, hr_6, H⟩ := H
  refine WL.call Wanted.none ent30 rfl (slices_IndexFunc_s_buffers_buffer_buffers_buffer_clo1_buffers_Cache_find_1.calls w w_2 T (.cells B_1 [.int .u64 a1] 29 :: .cells b0 (([.int .i64 a0_0] : List Value) ++ ([.slice A0_1 n0_1 c0_1] : List Value)) 57 :: .sl A0_1 c0_1 n0_1 x0_1 60 3 :: R) l0_1 a1 A0_1 n0_1 c0_1 B_1  st_5 (HS.mk hn0_1 (st_3.cap (i := 2) rfl) (fun W_ L_ st hT => st.src_mem (hT _ (List.mem_append_right _ (List.mem_of_getElem? (i := 2) rfl)))) hx0_1) (fun W_ L_ st hT => st.cell_mem (hT _ (List.mem_append_right _ (List.mem_of_getElem? (i := 0) rfl))) rfl) a_10 hr_6) ?_
  rintro _ w_11 ⟨T_7, hs_8, rfl, sc_13⟩
  have st_12 : St w w_11 (.cells B_1 [.int .u64 a1] 29 :: .cells b0 (([.int .i64 a0_0] : List Value) ++ ([.slice A0_1 n0_1 c0_1] : List Value)) 57 :: .sl A0_1 c0_1 n0_1 x0_1 60 3 :: (T_7 ++ R)) := St.unhide (A := []) (B := [_, _, _]) (T := T_7) (R := R) sc_13
  refine ⟨_, rfl, ?_⟩
  refine WL.val Wanted.none (Runs.assign rfl) ?_
  refine WL.nil ?_
  refine QW.then_n ?_
  refine CW.sub [(4, .int .i64 a_10)] ⟨rfl, trivial⟩ ?_
  refine CW.ret ?_
  obtain ⟨rfl, rfl, rfl⟩ := H
  exact QW.ret1 rfl rfl ⟨T_7, A0_1, n0_1, c0_1, x0_1, hs_8, hn0_1, (hx0_1.mono (fun _ h_ => hs_8.1 _ h_)), rfl, (St.pickT (L := [_, _, _]) st_12 [1, 2] (by decide))⟩

/-! ### slices.Backward: its iterator, function 33 -/
def bkenc (xs : List Value) (M j : Nat) : List Value := [.int .i64 ((M - 1 - j : Nat) : Int), .agg ((xs.drop ((M - 1 - j) * 3)).take 3).toArray]
def KpK (B1 : Nat) (A : Option Addr) (m : Nat) (W W' : World) : Prop := W'.cell? ⟨B1, 0, none⟩ = W.cell? ⟨B1, 0, none⟩ ∧ ∀ a, A = some a → ∀ p, p < m → W'.cell? (a.add p) = W.cell? (a.add p)
theorem KpK.trans {B1 : Nat} {A : Option Addr} {m : Nat} {W W' W2 : World} (h : KpK B1 A m W W') (k : KpK B1 A m W' W2) : KpK B1 A m W W2 := ⟨k.1.trans h.1, fun a ha p hp => (k.2 a ha p hp).trans (h.2 a ha p hp)⟩
theorem bkw {x : Int} (h0 : -9223372036854775808 ≤ x) (h1 : x ≤ 9223372036854775807) : IntKind.i64.wrap x = x := by rw [IntKind.wrap_i64]; omega
theorem src_part {W : World} {A : Option Addr} {a : Addr} {xs : List Value} (h : Src W A xs) (hA : A = some a) (o m : Nat) : Src W (some (a.add o)) ((xs.drop o).take m) := fun j v hv => by
  rw [List.getElem?_take] at hv
  split at hv
  · rw [List.getElem?_drop] at hv
    obtain ⟨a', ha', hc⟩ := h _ _ hv
    rw [hA] at ha'; cases ha'
    exact ⟨_, rfl, by rw [add_add]; exact hc⟩
  · cases hv
theorem src_keep {B1 : Nat} {A : Option Addr} {xs : List Value} {W W' : World} (h : Src W A xs) (k : KpK B1 A xs.length W W') : Src W' A xs := fun j v hv => by
  obtain ⟨a, ha, hc⟩ := h j v hv
  exact ⟨a, ha, by rw [k.2 a ha j (List.getElem?_eq_some_iff.1 hv).1]; exact hc⟩
theorem KpK.of {B1 : Nat} {A : Option Addr} {xs : List Value} {v : Value} {W W' : World} (h : Src W A xs) (h' : Src W' A xs) (c : W.cell? ⟨B1, 0, none⟩ = some v) (c' : W'.cell? ⟨B1, 0, none⟩ = some v) : KpK B1 A xs.length W W' := ⟨c'.trans c.symm, fun a ha p hp => by
  obtain ⟨a1, e1, k1⟩ := h p _ (List.getElem?_eq_getElem hp)
  obtain ⟨a2, e2, k2⟩ := h' p _ (List.getElem?_eq_getElem hp)
  rw [ha] at e1 e2; cases e1; cases e2
  rw [k1, k2]⟩
theorem KpK.put {B1 : Nat} {A : Option Addr} {xs : List Value} {w : World} (h1 : B1 < w.heap.size) (hs : Src w A xs) (W : World) (j : Nat) (o o' : Obj) (hj : w.heap.size ≤ j) (_ : W.heap[j]? = some o) (_ : o.isCells = false) : KpK B1 A xs.length W (W.putObj j o') := by
  have hb : ∀ p : Addr, p.block < w.heap.size → (W.putObj j o').cell? p = W.cell? p := fun p hp => by
    unfold World.cell?
    rw [World.putObj_heap_other (show p.block ≠ j by omega)]
  refine ⟨hb _ h1, fun a ha p hp => hb _ ?_⟩
  obtain ⟨a1, e1, k1⟩ := hs p _ (List.getElem?_eq_getElem hp)
  rw [ha] at e1; cases e1
  exact World.block_lt_of_cell? w _ k1
set_option maxHeartbeats 4000000 in
set_option maxRecDepth 100000 in
theorem backward_seq {w : World} {B1 M C : Nat} {A : Option Addr} {xs : List Value} (hb1 : w.cell? ⟨B1, 0, none⟩ = some (.slice A M C)) (hs : Src w A xs) (hl : xs.length = M * 3) (hMs : M ≤ 1099511627776) :
    SeqStopsK Fence.wide 2 Try.prog 33 #[.pointer (some ⟨B1, 0, none⟩)] (fun j : Fin M => (bkenc xs M j.val).toArray) (KpK B1 A xs.length) (fun ys => ys = List.finRange M) (fun ys => ∃ k, ys = (List.finRange M).take k) M w := by
  intro y J Jx W hW hJ hJx hY h0
  have c1 : W.cell? ⟨B1, 0, none⟩ = some (.slice A M C) := (hW.cell (p := ⟨B1, 0, none⟩) (block_lt_of_cell hb1)).trans hb1
  have c2 : Src W A xs := fun j v hv => by
    obtain ⟨a, ha, hc⟩ := hs j v hv
    exact ⟨a, ha, (hW.cell (World.block_lt_of_cell? w _ hc)).trans hc⟩
  refine callsIn_wide.2 ?_
  refine CW.enter Try.func33 rfl (n := 19) rfl [.func (.yield y) #[] #[], .pointer (some ⟨B1, 0, none⟩)] (Nat.le_of_ble_eq_true rfl) ?_
  refine CW.sub [(0, .func (.yield y) #[] #[]), (1, .pointer (some ⟨B1, 0, none⟩))] ⟨rfl, rfl, trivial⟩ ?_
  refine CW.seq ?_
  refine CW.region ?_
  refine WL.val Wanted.none (Runs.load nagg55 rfl c1) ?_
  refine WL.val Wanted.none (Runs.len_sl Try.underlying55 rfl rfl) ?_
  refine WL.val Wanted.none (Runs.sub rfl rfl (z := (M : Int) - 1) (by rw [bkw (by omega) (by omega)])) ?_
  refine WL.val Wanted.none (Runs.assign rfl) ?_
  refine WL.nil ?_
  refine QW.then_n ?_
  refine CW.block ?_
  refine CW.sub [(0, .func (.yield y) #[] #[]), (1, .pointer (some ⟨B1, 0, none⟩)), (3, .int .i64 ((M : Int) - 1))] ⟨rfl, rfl, rfl, trivial⟩ ?_
  refine CW.loop (fun k l_ w_ => ∃ j : Nat, k + j = M + 1 ∧ j ≤ M ∧ l_ = [(0, .func (.yield y) #[] #[]), (1, .pointer (some ⟨B1, 0, none⟩)), (3, .int .i64 ((M : Int) - 1 - (j : Int)))] ∧ J ((List.finRange M).take j) w_ ∧ w_.cell? ⟨B1, 0, none⟩ = some (.slice A M C) ∧ Src w_ A xs)
    (k := M + 1) ⟨0, by omega, by omega, by simp, h0, c1, c2⟩ (fun _ _ h => by obtain ⟨j, h1, h2, _⟩ := h; omega) ?_
  rintro k l1 w1 ⟨j, hkj, hjq, rfl, hJ1, d1, d2⟩
  refine CW.seq ?_
  refine CW.seq ?_
  refine CW.region ?_
  refine WL.val Wanted.none (Runs.move rfl) ?_
  refine WL.val Wanted.none (Runs.geq rfl rfl rfl) ?_
  refine WL.nil ?_
  refine QW.then_n ?_
  by_cases hlt : j < M
  · have hfin : (List.finRange M).take (j + 1) = (List.finRange M).take j ++ [⟨j, hlt⟩] := by
      rw [List.take_add_one]; simp [hlt]
    obtain ⟨a, hA⟩ : ∃ a, A = some a := by
      obtain ⟨a, ha, _⟩ := d2 0 xs[0] (List.getElem?_eq_getElem (by omega))
      exact ⟨a, ha⟩
    have e1 : (M : Int) - 1 - (j : Int) = ((M - 1 - j : Nat) : Int) := by omega
    refine CW.ct rfl (decide_eq_true (by omega)) ?_
    refine CW.skip ?_
    refine QW.then_n ?_
    refine CW.sub [(0, .func (.yield y) #[] #[]), (1, .pointer (some ⟨B1, 0, none⟩)), (3, .int .i64 ((M : Int) - 1 - (j : Int)))] ⟨rfl, rfl, rfl, trivial⟩ ?_
    refine CW.seq ?_
    refine CW.block ?_
    refine CW.seq ?_
    refine CW.region_y 2 ?_
    refine WY.val (Runs.move rfl) rfl ?_
    refine WY.val (Runs.move rfl) rfl ?_
    refine WY.val (Runs.load nagg55 rfl d1) rfl ?_
    refine WY.val (Runs.move rfl) rfl ?_
    refine WY.val (Runs.indexAddr (sz := 3) Try.underlying55 cells60 (by decide) rfl hA rfl (by omega) (by omega) (o := (M - 1 - j) * 3) (by rw [e1]; rfl)) rfl ?_
    refine WY.val (Runs.load_srcR row60 rfl (src_part d2 hA ((M - 1 - j) * 3) 3) (by rw [List.length_take, List.length_drop]; omega)) rfl ?_
    refine WY.yield rfl (vs := bkenc xs M j) (by rw [bkenc, ← e1]; rfl) (hY ((List.finRange M).take j) ⟨j, hlt⟩ w1 hJ1 (by simp; omega)) ?_
    rintro e w3 (⟨rfl, hJ3, hk3⟩ | ⟨rfl, hJx3⟩)
    · refine ⟨_, rfl, ?_⟩
      refine WY.val (Runs.not rfl rfl) rfl ?_
      refine WY.nil ?_
      refine QW.then_n ?_
      refine CW.cf rfl rfl ?_
      refine CW.skip ?_
      refine QW.blk_n ?_
      refine QW.then_n ?_
      refine CW.sub [(0, .func (.yield y) #[] #[]), (1, .pointer (some ⟨B1, 0, none⟩)), (3, .int .i64 ((M : Int) - 1 - (j : Int)))] ⟨rfl, rfl, rfl, trivial⟩ ?_
      refine CW.region ?_
      refine WL.val Wanted.none (Runs.move rfl) ?_
      refine WL.val Wanted.none (Runs.sub rfl rfl (z := (M : Int) - 1 - ((j + 1 : Nat) : Int)) (by rw [bkw (by omega) (by omega)]; omega)) ?_
      refine WL.val Wanted.none (Runs.assign rfl) ?_
      refine WL.nil ?_
      exact QW.at [(0, .func (.yield y) #[] #[]), (1, .pointer (some ⟨B1, 0, none⟩)), (3, .int .i64 ((M : Int) - 1 - ((j + 1 : Nat) : Int)))] ⟨rfl, rfl, rfl, trivial⟩ ⟨j + 1, by omega, by omega, rfl, by rw [hfin]; exact hJ3, hk3.1.trans d1, src_keep d2 hk3⟩
    · refine ⟨_, rfl, ?_⟩
      refine WY.val (Runs.not rfl rfl) rfl ?_
      refine WY.nil ?_
      refine QW.then_n ?_
      refine CW.ct rfl rfl ?_
      refine CW.ret ?_
      refine QW.blk_r ?_
      refine QW.then_r ?_
      refine QW.then_r ?_
      refine QW.blk_r ?_
      exact QW.ret0 rfl ⟨⟨_, rfl⟩, .inr ⟨_, ⟨j + 1, hfin.symm⟩, hJx3⟩⟩
  · obtain rfl : j = M := by omega
    refine CW.cf rfl (decide_eq_false (by omega)) ?_
    refine CW.exit ?_
    refine QW.then_x ?_
    refine QW.then_x ?_
    refine QW.blk_x ?_
    exact QW.end0 rfl ⟨⟨_, rfl⟩, .inl ⟨_, rfl, by rw [List.take_of_length_le (by simp)] at hJ1; exact hJ1⟩⟩
theorem slices_Backward.calls (w : World) (A : Option Addr) (M C : Nat) :
    Calls Try.prog 32 #[.slice A M C] w fun e w' => ∃ B1, e = .returned (.func (.func 33) #[] #[.pointer (some ⟨B1, 0, none⟩)]) ∧ St w w' [.cells B1 [.slice A M C] 55] := by
  refine CW.enter Try.func32 rfl (n := 4) rfl [.slice A M C] (Nat.le_of_ble_eq_true rfl) ?_
  refine CW.sub [(0, .slice A M C)] ⟨rfl, trivial⟩ ?_
  have st0 : St w w [] := St.refl w
  refine CW.seq ?_
  refine CW.region ?_
  refine WL.box st0 rfl rfl ?_
  intro B1 w1 st1
  refine WL.val Wanted.none (Runs.assign rfl) ?_
  refine WL.nil ?_
  refine QW.then_n ?_
  refine CW.seq ?_
  refine CW.region ?_
  refine WL.val Wanted.none (Runs.makeFunc (vs := [.pointer (some ⟨B1, 0, none⟩)]) rfl) ?_
  refine WL.val Wanted.none (Runs.assign rfl) ?_
  refine WL.nil ?_
  refine QW.then_n ?_
  refine CW.ret ?_
  exact QW.ret1 rfl rfl ⟨B1, rfl, st1⟩

/-! ### slices.Delete: function 29 -/
set_option maxHeartbeats 4000000 in
set_option maxRecDepth 100000 in
theorem slices_Delete.raw (w w1 : World) (T : List En) (b c m i j : Nat) (xs : List Value) (hij : i < j) (hj : j ≤ m) (hm : m ≤ 1099511627776) (st0 : St w w1 (.sl (some ⟨b, 0, none⟩) c m xs 60 3 :: T)) (hx : ∀ u ∈ xs, u.oneCell' = true) :
    Calls Try.prog 29 #[.slice (some ⟨b, 0, none⟩) m c, .int .i64 (i : Int), .int .i64 (j : Int)] w1 fun e w' => e = .returned (.slice (some ⟨b, 0, none⟩) (i + (m - j)) c) ∧ St w w' (.sl (some ⟨b, 0, none⟩) c (i + (m - j)) (xs.take (i * 3) ++ xs.drop (j * 3)) 60 3 :: T) := by
  have hmc : m ≤ c := st0.cap (i := 0) rfl
  have hlen := st0.sl_len (i := 0) rfl
  have sub0 : subS (some ⟨b, 0, none⟩) 0 c 3 = some ⟨b, 0, none⟩ := by
    unfold subS; split
    · rfl
    · simp [add_plain]
  obtain ⟨p, hp1, hp2⟩ : ∃ p, subS (some ⟨b, 0, none⟩) j c 3 = some ⟨b, p, none⟩ ∧ (c ≠ j → p = j * 3) := by
    unfold subS; split
    · rename_i h; exact ⟨0, rfl, fun h' => absurd h h'⟩
    · exact ⟨j * 3, by simp [add_plain], fun _ => rfl⟩
  refine CW.enter Try.func29 rfl (n := 33) rfl [.slice (some ⟨b, 0, none⟩) m c, .int .i64 (i : Int), .int .i64 (j : Int)] (Nat.le_of_ble_eq_true rfl) ?_
  refine CW.sub [(0, .slice (some ⟨b, 0, none⟩) m c), (1, .int .i64 (i : Int)), (2, .int .i64 (j : Int))] ⟨rfl, rfl, rfl, trivial⟩ ?_
  refine CW.seq ?_
  refine CW.region ?_
  refine WL.val Wanted.none (Runs.assign rfl) ?_
  refine WL.nil ?_
  refine QW.then_n ?_
  refine CW.seq ?_
  refine CW.region ?_
  refine WL.val Wanted.none (Runs.move rfl) ?_
  refine WL.val Wanted.none (Runs.move rfl) ?_
  refine WL.val Wanted.none (Runs.move rfl) ?_
  refine WL.val Wanted.none (Runs.move rfl) ?_
  refine WL.val Wanted.none (Runs.len_sl Try.underlying55 rfl rfl) ?_
  refine WL.val Wanted.none (Runs.sliceS_3 (sz := 3) Try.underlying55 cells60 (by decide) rfl rfl rfl rfl (by omega) (by omega) (by omega) (by omega) rfl rfl rfl) ?_
  refine WL.nil ?_
  refine QW.then_n ?_
  refine CW.seq ?_
  refine CW.seq ?_
  refine CW.region ?_
  refine WL.val Wanted.none (Runs.move rfl) ?_
  refine WL.val Wanted.none (Runs.move rfl) ?_
  refine WL.val Wanted.none (Runs.eql rfl rfl rfl) ?_
  refine WL.nil ?_
  refine QW.then_n ?_
  refine CW.cf rfl (beq_eq_false_iff_ne.2 (by omega)) ?_
  refine CW.skip ?_
  refine QW.then_n ?_
  refine CW.sub [(0, .slice (some ⟨b, 0, none⟩) m c), (1, .int .i64 (i : Int)), (2, .int .i64 (j : Int))] ⟨rfl, rfl, rfl, trivial⟩ ?_
  refine CW.seq ?_
  refine CW.region ?_
  refine WL.val Wanted.none (Runs.move rfl) ?_
  refine WL.val Wanted.none (Runs.len_sl Try.underlying55 rfl rfl) ?_
  refine WL.val Wanted.none (Runs.assign rfl) ?_
  refine WL.nil ?_
  refine QW.then_n ?_
  refine CW.seq ?_
  refine CW.region_qt 6 wide (by kernel_rfl) st0 ?_
  refine HL.val Wanted.none (fun wq sq => Runs.move rfl) ?_
  refine HL.val Wanted.none (fun wq sq => Runs.move rfl) ?_
  refine HL.val Wanted.none (fun wq sq => Runs.sliceS_h (sz := 3) Try.underlying55 cells60 (by decide) rfl rfl (by omega) (by omega) sub0.symm (N := i) rfl) ?_
  refine HL.val Wanted.none (fun wq sq => Runs.move rfl) ?_
  refine HL.val Wanted.none (fun wq sq => Runs.move rfl) ?_
  refine HL.val Wanted.none (fun wq sq => Runs.sliceS_l (sz := 3) Try.underlying55 cells60 (by decide) rfl rfl (by omega) (by omega) (B := some ⟨b, p, none⟩) hp1.symm (N := m - j) rfl (M := c - j) rfl) ?_
  refine HL.nil (fun w2 st2 => ?_)
  have hsrc : Src w2 (some ⟨b, p, none⟩) (xs.drop (j * 3)) := fun t v hv => by
    have hlt := (List.getElem?_eq_some_iff.1 hv).1
    rw [List.length_drop] at hlt
    rw [List.getElem?_drop] at hv
    obtain ⟨a, ha, hc⟩ := st2.src_sl (k := 0) rfl _ _ hv
    cases ha
    refine ⟨_, rfl, ?_⟩
    rw [add_plain, Nat.zero_add] at hc
    rw [add_plain, hp2 (by omega)]
    exact hc
  refine WL.append_cutS (q := 0) Wanted.none st2 rfl Try.underlying55 elemS60 rfl (by omega) rfl hsrc (by rw [List.length_drop]; omega) (fun u hu => hx u (List.mem_of_mem_drop hu)) (by decide) (N := i + (m - j)) rfl (by omega) (by omega) ?_
  intro w3 st3
  refine WL.val Wanted.none (Runs.assign rfl) ?_
  refine WL.nil ?_
  refine QW.then_n ?_
  refine CW.seq ?_
  refine CW.region ?_
  refine WL.val Wanted.none (Runs.move rfl) ?_
  refine WL.val Wanted.none (Runs.move rfl) ?_
  refine WL.val Wanted.none (Runs.len_sl Try.underlying55 rfl rfl) ?_
  refine WL.val Wanted.none (Runs.move rfl) ?_
  refine WL.val Wanted.none (Runs.sliceS_lh (sz := 3) Try.underlying55 cells60 (by decide) rfl rfl rfl (by omega) (by omega) (by omega) rfl (N := m - (i + (m - j))) rfl rfl) ?_
  refine WL.clearS (q := 0) (p := (i + (m - j)) * 3) st3 rfl Try.underlying55 elemS60 (by decide) rfl (fun _ => ?_) (Nat.le_refl _) (by omega) ?_
  · rw [Int.toNat_natCast]
    unfold subS
    rw [if_neg (by omega)]
    simp [add_plain]
  intro w4 st4
  refine WL.nil ?_
  refine QW.then_n ?_
  refine CW.seq ?_
  refine CW.region ?_
  refine WL.val Wanted.none (Runs.move rfl) ?_
  refine WL.val Wanted.none (Runs.assign rfl) ?_
  refine WL.nil ?_
  refine QW.then_n ?_
  refine CW.ret ?_
  exact QW.ret1 rfl rfl ⟨rfl, st4⟩
def slices_Delete_s_buffers_buffer_buffers_buffer_own0.rel (l0 : List R60) (a1 a2 : Int) (lr0 : List R60) : Prop := ((0 ≤ a1 ∧ a1 < a2 ∧ a2 ≤ l0.length) ∧ l0.length ≤ 1099511627776) ∧ lr0 = l0.take a1.toNat ++ l0.drop a2.toNat
theorem slices_Delete_s_buffers_buffer_buffers_buffer_own0.calls (w w1 : World) (T R : Pool) (l0 : List R60) (a1 a2 : Int) (A0 : Option Addr) (n0 c0 : Nat) (x0 : Cells) (st0 : St w w1 (.sl A0 c0 n0 x0 60 3 :: (T ++ R))) (hn0 : n0 = l0.length) (hx0 : HRs T (f60 w) x0 l0) (lr0 : List R60) (H : slices_Delete_s_buffers_buffer_buffers_buffer_own0.rel l0 a1 a2 lr0) :
    Calls Try.prog 29 #[.slice A0 n0 c0, .int .i64 a1, .int .i64 a2] w1 fun e w' => ∃ T' Ar0 nr0 cr0 xr0, Pl T T' ∧ nr0 = lr0.length ∧ HRs T' (f60 w) xr0 lr0 ∧ e = .returned (.slice Ar0 nr0 cr0) ∧ St w w' (.sl Ar0 cr0 nr0 xr0 60 3 :: (T' ++ R)) := by
  obtain ⟨⟨⟨h1, h2, h3⟩, h4⟩, rfl⟩ := H
  obtain ⟨g, rfl⟩ := st0.sl_some (i := 0) rfl (by omega)
  obtain ⟨i, rfl⟩ := Int.eq_ofNat_of_zero_le h1
  obtain ⟨j, rfl⟩ := Int.eq_ofNat_of_zero_le (show 0 ≤ a2 by omega)
  refine (slices_Delete.raw w w1 (T ++ R) g c0 n0 i j x0 (by omega) (by omega) (by omega) st0 (HLs.one hx0)).mono ?_
  rintro _ w' ⟨rfl, st⟩
  refine ⟨T, some ⟨g, 0, none⟩, i + (n0 - j), c0, _, Pl.refl, ?_, (hx0.takeR (fz60 w) i).append (hx0.dropR (fz60 w) j), rfl, st⟩
  rw [List.length_append, List.length_take, List.length_drop]
  omega

/-! ### buffers_Cache_room: function 23 -/
def buffers_Cache_room.rel (a0_0 : Int) (l0_1 : List R60) (as0_0 : Int) (ls0_1 : List R60) (ar0 : Bool) : Prop := (((l0_1.length : Int) ≥ a0_0 ∧ ((l0_1.length ≤ 1099511627776 ∧ (∀ q_19 : Nat, q_19 < l0_1.length → ((¬ (((gx l0_1 q_19).2.2) = 0) ∧ True) ∨ (((gx l0_1 q_19).2.2) = 0 ∧ ((∀ p_95 : Nat, q_19 < p_95 → p_95 < l0_1.length → (¬ (((gx l0_1 p_95).2.2) = 0) ∧ True)) → ((((q_19 : Nat) : Int) < 0 ∧ as0_0 = a0_0 ∧ ls0_1 = l0_1 ∧ ar0 = false) ∨ (¬ (((q_19 : Nat) : Int) < 0) ∧ (∃ (l_71 : List R60), slices_Delete_s_buffers_buffer_buffers_buffer_own0.rel l0_1 ((q_19 : Nat) : Int) (IntKind.i64.wrap (((q_19 : Nat) : Int) + 1)) l_71 ∧ (¬ ((l_71.length : Int) ≥ a0_0) ∧ as0_0 = a0_0 ∧ ls0_1 = l_71 ∧ ar0 = true))))))))) ∧ ((∀ p_97 : Nat, p_97 < l0_1.length → (¬ (((gx l0_1 p_97).2.2) = 0) ∧ True)) → as0_0 = a0_0 ∧ ls0_1 = l0_1 ∧ ar0 = false))) ∨ (¬ ((l0_1.length : Int) ≥ a0_0) ∧ as0_0 = a0_0 ∧ ls0_1 = l0_1 ∧ ar0 = true))
set_option maxHeartbeats 1000000 in
set_option maxRecDepth 100000 in
theorem buffers_Cache_room.calls (w w1 : World) (T R : Pool) (a0_0 : Int) (l0_1 : List R60) (b0 : Nat) (A0_1 : Option Addr) (n0_1 : Nat) (c0_1 : Nat) (x0_1 : Cells) (hT : celly T = true) (hR : celly R = true) (st0 : St w w1 (.cells b0 (([.int .i64 a0_0] : List Value) ++ ([.slice A0_1 n0_1 c0_1] : List Value)) 57 :: .sl A0_1 c0_1 n0_1 x0_1 60 3 :: (T ++ R))) (hn0_1 : n0_1 = l0_1.length) (hx0_1 : HRs T (f60 w) x0_1 l0_1) (as0_0 : Int) (ls0_1 : List R60) (ar0 : Bool) (H : buffers_Cache_room.rel a0_0 l0_1 as0_0 ls0_1 ar0) :
    Calls Try.prog 23 #[.pointer (some ⟨b0, 0, none⟩)] w1 fun e w' => ∃ T' As0_1 ns0_1 cs0_1 xs0_1, Pl T T' ∧ ns0_1 = ls0_1.length ∧ HRs T' (f60 w) xs0_1 ls0_1 ∧ e = .returned (.bool ar0) ∧ St w w' (.cells b0 (([.int .i64 as0_0] : List Value) ++ ([.slice As0_1 ns0_1 cs0_1] : List Value)) 57 :: .sl As0_1 cs0_1 ns0_1 xs0_1 60 3 :: (T' ++ R)) := by
  refine CW.enterM Try.func23 rfl (n := 40) rfl [.pointer (some ⟨b0, 0, none⟩)] (Nat.le_of_ble_eq_true rfl) ?_
  refine CW.sub [(0, .pointer (some ⟨b0, 0, none⟩))] ⟨rfl, trivial⟩ ?_
  refine CW.seq ?_
  refine CW.region ?_
  refine WL.val Wanted.none (Runs.assign rfl) ?_
  refine WL.nil ?_
  refine QW.then_n ?_
  refine CW.seq ?_
  refine CW.block ?_
  refine CW.rounds 2 ?_
  refine CW.seq ?_
  refine CW.seq ?_
  refine CW.region_qa wide (by kernel_rfl) st0 ?_
  refine HL.val Wanted.none (fun wq sq => (Runs.move rfl)) ?_
  refine HL.val Wanted.none (fun wq sq => (Runs.nilCheck rfl)) ?_
  refine HL.val Wanted.none (fun wq sq => (Runs.fieldAddr (off := 1) (p := 1) fld57_1 rfl rfl rfl)) ?_
  refine HL.val Wanted.none (fun wq sq => (Runs.load nagg55 rfl (sq.cell (k := 0) rfl (part_one (u := .slice A0_1 n0_1 c0_1) (pre := (([.int .i64 a0_0] : List Value))) (post := (([] : List Value))) (by first | rfl | simp only [List.append_assoc, List.append_nil, List.nil_append, List.cons_append]) (by first | rfl | simp only [List.length_append, List.length_cons, List.length_nil, iv_length]))))) ?_
  refine HL.val Wanted.none (fun wq sq => (Runs.len_sl Try.underlying55 rfl (by rw [hn0_1]))) ?_
  refine HL.val Wanted.none (fun wq sq => (Runs.move rfl)) ?_
  refine HL.val Wanted.none (fun wq sq => (Runs.nilCheck rfl)) ?_
  refine HL.val Wanted.none (fun wq sq => (Runs.fieldAddr (off := 0) (p := 0) fld57_0 rfl rfl rfl)) ?_
  refine HL.val Wanted.none (fun wq sq => (Runs.load nagg3 rfl (sq.cell (k := 0) rfl (part_one (u := .int .i64 a0_0) (pre := (([] : List Value))) (post := (([.slice A0_1 n0_1 c0_1] : List Value))) (by first | rfl | simp only [List.append_assoc, List.append_nil, List.nil_append, List.cons_append]) (by first | rfl | simp only [List.length_append, List.length_cons, List.length_nil, iv_length]))))) ?_
  refine HL.val Wanted.none (fun wq sq => (Runs.geq rfl rfl rfl)) ?_
  refine HL.nil (fun w_1 st_2 => ?_)
  refine WL.nil ?_
  refine QW.then_n ?_
  rcases H with ⟨c_3, H⟩ | ⟨c_3, H⟩
  · have h_4 : (decide ((l0_1.length : Int) ≥ a0_0)) = true := (decide_eq_true c_3)
    refine CW.ct rfl h_4 ?_
    refine CW.skip ?_
    refine QW.then_n ?_
    refine CW.block ?_
    refine CW.seq ?_
    refine CW.region ?_
    refine WL.alloc st_2 zero3 ?_
    intro B_5 w_6 st_7
    replace st_7 : St w w_6 (.cells B_5 [.int .i64 0] 3 :: .cells b0 (([.int .i64 a0_0] : List Value) ++ ([.slice A0_1 n0_1 c0_1] : List Value)) 57 :: .sl A0_1 c0_1 n0_1 x0_1 60 3 :: (T ++ R)) := st_7
    refine WL.store_cells (i := 0) (j := 0) st_7 rfl cells3 rfl (Nat.zero_lt_succ _) rfl rfl ?_
    intro w_9 st_10
    replace st_10 : St w w_9 (.cells B_5 [.int .i64 (-1)] 3 :: .cells b0 (([.int .i64 a0_0] : List Value) ++ ([.slice A0_1 n0_1 c0_1] : List Value)) 57 :: .sl A0_1 c0_1 n0_1 x0_1 60 3 :: (T ++ R)) := st_10
    refine WL.nil ?_
    refine QW.then_n ?_
    refine CW.seq ?_
    refine CW.seq ?_
    refine CW.region ?_
    refine WL.val Wanted.none (Runs.move rfl) ?_
    refine WL.val Wanted.none (Runs.nilCheck rfl) ?_
    refine WL.val Wanted.none (Runs.fieldAddr (off := 1) (p := 1) fld57_1 rfl rfl rfl) ?_
    refine WL.val Wanted.none (Runs.load nagg55 rfl (st_10.cell (k := 1) rfl (part_one (u := .slice A0_1 n0_1 c0_1) (pre := (([.int .i64 a0_0] : List Value))) (post := (([] : List Value))) (by first | rfl | simp only [List.append_assoc, List.append_nil, List.nil_append, List.cons_append]) (by first | rfl | simp only [List.length_append, List.length_cons, List.length_nil, iv_length])))) ?_
    refine WL.call Wanted.none ent32 rfl (slices_Backward.calls w_9 A0_1 n0_1 c0_1) ?_
    rintro _ w_12 ⟨B_11, rfl, sc_14⟩
    have st_13 : St w w_12 (.cells B_11 [.slice A0_1 n0_1 c0_1] 55 :: .cells B_5 [.int .i64 (-1)] 3 :: .cells b0 (([.int .i64 a0_0] : List Value) ++ ([.slice A0_1 n0_1 c0_1] : List Value)) 57 :: .sl A0_1 c0_1 n0_1 x0_1 60 3 :: (T ++ R)) := st_10.call sc_14
    refine ⟨_, rfl, ?_⟩
    refine WL.nil ?_
    refine QW.then_n ?_
    refine CW.block ?_
    obtain ⟨⟨h_16, Hq_17⟩, H_18⟩ := H
    refine CW.sub [(0, .pointer (some ⟨b0, 0, none⟩)), (2, .bool false), (6, .pointer (some ⟨b0, 0, none⟩)), (7, .pointer (some ⟨b0, 0, none⟩)), (8, .pointer (some ⟨b0, 1, none⟩)), (9, .slice A0_1 n0_1 c0_1), (10, .int .i64 (l0_1.length : Int)), (11, .pointer (some ⟨b0, 0, none⟩)), (12, .pointer (some ⟨b0, 0, none⟩)), (13, .pointer (some ⟨b0, 0, none⟩)), (14, .int .i64 a0_0), (15, .bool (decide ((l0_1.length : Int) ≥ a0_0))), (3, .pointer (some ⟨B_5, 0, none⟩)), (16, .pointer (some ⟨b0, 0, none⟩)), (17, .pointer (some ⟨b0, 0, none⟩)), (18, .pointer (some ⟨b0, 1, none⟩)), (19, .slice A0_1 n0_1 c0_1), (20, .func (.func 33) #[] #[.pointer (some ⟨B_11, 0, none⟩)])] ⟨rfl, rfl, rfl, rfl, rfl, rfl, rfl, rfl, rfl, rfl, rfl, rfl, rfl, rfl, rfl, rfl, rfl, rfl, trivial⟩ ?_
    refine CW.search (M := n0_1) (ps := [21, 22]) (encs := fun x_ => bkenc x0_1 n0_1 x_.val) (Kp := KpK B_11 A0_1 (List.length x0_1)) (A := [.cells B_11 [.slice A0_1 n0_1 c0_1] 55, .cells B_5 [.int .i64 (-1)] 3, .cells b0 (([.int .i64 a0_0] : List Value) ++ ([.slice A0_1 n0_1 c0_1] : List Value)) 57, .sl A0_1 c0_1 n0_1 x0_1 60 3]) (T := T) (R := R) st_13 (show celly ([.cells B_11 [.slice A0_1 n0_1 c0_1] 55, .cells B_5 [.int .i64 (-1)] 3, .cells b0 (([.int .i64 a0_0] : List Value) ++ ([.slice A0_1 n0_1 c0_1] : List Value)) 57, .sl A0_1 c0_1 n0_1 x0_1 60 3] ++ (T ++ R)) = true from (celly_append hT hR : celly (T ++ R) = true)) rfl ent33 (backward_seq (st_13.cell (k := 0) (i := 0) rfl rfl) (st_13.src_sl (k := 3) rfl) ((hx0_1.length (fz60 w)).trans (by rw [show n0_1 = l0_1.length from hn0_1])) (by rw [show n0_1 = l0_1.length from hn0_1]; exact h_16)) (fun h k => h.trans k) (fun W j o o2 h1 h2 h3 => KpK.put (block_lt_of_cell (st_13.cell (k := 0) (i := 0) rfl rfl)) (st_13.src_sl (k := 3) rfl) W j o o2 h1 h2 h3) (fun _ => rfl) (fun x_ => (fun (q_19 : Nat) => (¬ (((gx l0_1 q_19).2.2) = 0) ∧ True)) (n0_1 - 1 - x_.val)) (fun x_ s_ => (fun (q_19 : Nat) => s_ = (.cells B_11 [.slice A0_1 n0_1 c0_1] 55 :: .cells B_5 [.int .i64 ((q_19 : Nat) : Int)] 3 :: .cells b0 (([.int .i64 a0_0] : List Value) ++ ([.slice A0_1 n0_1 c0_1] : List Value)) 57 :: .sl A0_1 c0_1 n0_1 x0_1 60 3 :: (T ++ R)) ∧ ((∀ p_95 : Nat, q_19 < p_95 → p_95 < l0_1.length → (¬ (((gx l0_1 p_95).2.2) = 0) ∧ True)) → ((((q_19 : Nat) : Int) < 0 ∧ as0_0 = a0_0 ∧ ls0_1 = l0_1 ∧ ar0 = false) ∨ (¬ (((q_19 : Nat) : Int) < 0) ∧ (∃ (l_71 : List R60), slices_Delete_s_buffers_buffer_buffers_buffer_own0.rel l0_1 ((q_19 : Nat) : Int) (IntKind.i64.wrap (((q_19 : Nat) : Int) + 1)) l_71 ∧ (¬ ((l_71.length : Int) ≥ a0_0) ∧ as0_0 = a0_0 ∧ ls0_1 = l_71 ∧ ar0 = true)))))) (n0_1 - 1 - x_.val)) (.exit 2) (fun x_ l_ N_ => (fun (q_19 : Nat) => ∃ (B_36 : Nat) (A_32 : Option Addr) (n_33 : Nat) (c_34 : Nat), HB w T A_32 n_33 c_34 (iv .u8 ((gx l0_1 q_19).2.1)) ((gx l0_1 q_19).2.1).length ∧ (l_ = [(0, .pointer (some ⟨b0, 0, none⟩)), (2, .bool false), (6, .pointer (some ⟨b0, 0, none⟩)), (7, .pointer (some ⟨b0, 0, none⟩)), (8, .pointer (some ⟨b0, 1, none⟩)), (9, .slice A0_1 n0_1 c0_1), (10, .int .i64 (l0_1.length : Int)), (11, .pointer (some ⟨b0, 0, none⟩)), (12, .pointer (some ⟨b0, 0, none⟩)), (13, .pointer (some ⟨b0, 0, none⟩)), (14, .int .i64 a0_0), (15, .bool (decide ((l0_1.length : Int) ≥ a0_0))), (3, .pointer (some ⟨B_5, 0, none⟩)), (16, .pointer (some ⟨b0, 0, none⟩)), (17, .pointer (some ⟨b0, 0, none⟩)), (18, .pointer (some ⟨b0, 1, none⟩)), (19, .slice A0_1 n0_1 c0_1), (20, .func (.func 33) #[] #[.pointer (some ⟨B_11, 0, none⟩)]), (4, .int .i64 ((q_19 : Nat) : Int)), (5, .pointer (some ⟨B_36, 0, none⟩))] ∧ N_ = [.cells B_36 (([.int .u64 ((gx l0_1 q_19).1)] : List Value) ++ (([.slice A_32 n_33 c_34] : List Value) ++ ([.int .i64 ((gx l0_1 q_19).2.2)] : List Value))) 60])) (n0_1 - 1 - x_.val)) ?_ ?_ ?_ ?_
    · intro j_ x_20 w_24 O_23 st_25
      replace st_25 : St w w_24 (.cells B_11 [.slice A0_1 n0_1 c0_1] 55 :: .cells B_5 [.int .i64 (-1)] 3 :: .cells b0 (([.int .i64 a0_0] : List Value) ++ ([.slice A0_1 n0_1 c0_1] : List Value)) 57 :: .sl A0_1 c0_1 n0_1 x0_1 60 3 :: (T ++ (R ++ O_23))) := st_25
      obtain ⟨q_19, hq_21⟩ : ∃ q_ : Nat, q_ = n0_1 - 1 - x_20.val := ⟨_, rfl⟩
      have hlt_22 : q_19 < l0_1.length := by have h1_ := x_20.isLt; have h2_ : n0_1 = l0_1.length := hn0_1; omega
      obtain ⟨a_26, e_27, ms_28, hc_29, hm_30⟩ := el_get (i := q_19) (st_25.src_sl (k := 3) rfl) hx0_1 (fz60 w) (by decide) hlt_22
      obtain ⟨A_32, n_33, c_34, em_31, hb_35⟩ := inv60 hm_30
      replace em_31 : ms_28 = ([.int .u64 ((gx l0_1 q_19).1)] : List Value) ++ (([.slice A_32 n_33 c_34] : List Value) ++ ([.int .i64 ((gx l0_1 q_19).2.2)] : List Value)) := em_31
      subst em_31
      try dsimp only
      rw [show bkenc x0_1 n0_1 x_20.val = [.int .i64 ((q_19 : Nat) : Int), .agg (([.int .u64 ((gx l0_1 q_19).1)] : List Value) ++ (([.slice A_32 n_33 c_34] : List Value) ++ ([.int .i64 ((gx l0_1 q_19).2.2)] : List Value))).toArray] from by unfold bkenc; rw [← hq_21, hc_29]]
      refine CF.sub [(0, .pointer (some ⟨b0, 0, none⟩)), (2, .bool false), (6, .pointer (some ⟨b0, 0, none⟩)), (7, .pointer (some ⟨b0, 0, none⟩)), (8, .pointer (some ⟨b0, 1, none⟩)), (9, .slice A0_1 n0_1 c0_1), (10, .int .i64 (l0_1.length : Int)), (11, .pointer (some ⟨b0, 0, none⟩)), (12, .pointer (some ⟨b0, 0, none⟩)), (13, .pointer (some ⟨b0, 0, none⟩)), (14, .int .i64 a0_0), (15, .bool (decide ((l0_1.length : Int) ≥ a0_0))), (3, .pointer (some ⟨B_5, 0, none⟩)), (16, .pointer (some ⟨b0, 0, none⟩)), (17, .pointer (some ⟨b0, 0, none⟩)), (18, .pointer (some ⟨b0, 1, none⟩)), (19, .slice A0_1 n0_1 c0_1), (20, .func (.func 33) #[] #[.pointer (some ⟨B_11, 0, none⟩)]), (21, .int .i64 ((q_19 : Nat) : Int)), (22, .agg (([.int .u64 ((gx l0_1 q_19).1)] : List Value) ++ (([.slice A_32 n_33 c_34] : List Value) ++ ([.int .i64 ((gx l0_1 q_19).2.2)] : List Value))).toArray)] ⟨rfl, rfl, rfl, rfl, rfl, rfl, rfl, rfl, rfl, rfl, rfl, rfl, rfl, rfl, rfl, rfl, rfl, rfl, rfl, rfl, trivial⟩ ?_
      refine CF.seq ?_
      refine CF.region (.inr ⟨j_, rfl⟩) (fun ⟨a, w, h⟩ => h) rfl ?_
      refine WL.val Wanted.none (Runs.assign rfl) ?_
      refine WL.nil ?_
      refine QW.fthen_n ?_
      refine CF.region (.inr ⟨j_, rfl⟩) (fun ⟨a, w, h⟩ => h) rfl ?_
      refine WL.alloc st_25 zero60 ?_
      intro B_36 w_37 st_38
      replace st_38 : St w w_37 (.cells B_36 (([.int .u64 0] : List Value) ++ (([.slice none 0 0] : List Value) ++ ([.int .i64 0] : List Value))) 60 :: .cells B_11 [.slice A0_1 n0_1 c0_1] 55 :: .cells B_5 [.int .i64 (-1)] 3 :: .cells b0 (([.int .i64 a0_0] : List Value) ++ ([.slice A0_1 n0_1 c0_1] : List Value)) 57 :: .sl A0_1 c0_1 n0_1 x0_1 60 3 :: (T ++ (R ++ O_23))) := st_38
      refine WL.store_mid (i := 0) (pre := (([] : List Value))) (mid := (([.int .u64 0] : List Value) ++ (([.slice none 0 0] : List Value) ++ ([.int .i64 0] : List Value)))) (post := (([] : List Value))) (ms := (([.int .u64 ((gx l0_1 q_19).1)] : List Value) ++ (([.slice A_32 n_33 c_34] : List Value) ++ ([.int .i64 ((gx l0_1 q_19).2.2)] : List Value)))) st_38 rfl row60 (by first | rfl | simp only [List.append_assoc, List.append_nil, List.nil_append, List.cons_append]) (by first | rfl | simp only [List.length_append, List.length_cons, List.length_nil, iv_length]) rfl rfl (by first | rfl | simp only [List.length_append, List.length_cons, List.length_nil, iv_length]) (by first | rfl | simp only [List.length_append, List.length_cons, List.length_nil, iv_length]) (by intro u hu; simp only [List.mem_append, List.mem_singleton] at hu; rcases hu with hu | hu | hu <;> first | exact one_iv _ _ u hu | (subst hu; rfl)) ?_
      intro w_40 st_41
      replace st_41 : St w w_40 (.cells B_36 (([.int .u64 ((gx l0_1 q_19).1)] : List Value) ++ (([.slice A_32 n_33 c_34] : List Value) ++ ([.int .i64 ((gx l0_1 q_19).2.2)] : List Value))) 60 :: .cells B_11 [.slice A0_1 n0_1 c0_1] 55 :: .cells B_5 [.int .i64 (-1)] 3 :: .cells b0 (([.int .i64 a0_0] : List Value) ++ ([.slice A0_1 n0_1 c0_1] : List Value)) 57 :: .sl A0_1 c0_1 n0_1 x0_1 60 3 :: (T ++ (R ++ O_23))) := by have e_ : (([.int .u64 ((gx l0_1 q_19).1)] : List Value) ++ (([.slice A_32 n_33 c_34] : List Value) ++ ([.int .i64 ((gx l0_1 q_19).2.2)] : List Value))) = (([] : List Value)) ++ ((([.int .u64 ((gx l0_1 q_19).1)] : List Value) ++ (([.slice A_32 n_33 c_34] : List Value) ++ ([.int .i64 ((gx l0_1 q_19).2.2)] : List Value))) ++ (([] : List Value))) := (by first | rfl | simp only [List.append_assoc, List.append_nil, List.nil_append, List.cons_append]); have h_ : St w w_40 (.cells B_36 ((([] : List Value)) ++ ((([.int .u64 ((gx l0_1 q_19).1)] : List Value) ++ (([.slice A_32 n_33 c_34] : List Value) ++ ([.int .i64 ((gx l0_1 q_19).2.2)] : List Value))) ++ (([] : List Value)))) 60 :: .cells B_11 [.slice A0_1 n0_1 c0_1] 55 :: .cells B_5 [.int .i64 (-1)] 3 :: .cells b0 (([.int .i64 a0_0] : List Value) ++ ([.slice A0_1 n0_1 c0_1] : List Value)) 57 :: .sl A0_1 c0_1 n0_1 x0_1 60 3 :: (T ++ (R ++ O_23))) := st_41; rw [← e_] at h_; exact h_
      refine WL.nil ?_
      exact QW.at [(0, .pointer (some ⟨b0, 0, none⟩)), (2, .bool false), (6, .pointer (some ⟨b0, 0, none⟩)), (7, .pointer (some ⟨b0, 0, none⟩)), (8, .pointer (some ⟨b0, 1, none⟩)), (9, .slice A0_1 n0_1 c0_1), (10, .int .i64 (l0_1.length : Int)), (11, .pointer (some ⟨b0, 0, none⟩)), (12, .pointer (some ⟨b0, 0, none⟩)), (13, .pointer (some ⟨b0, 0, none⟩)), (14, .int .i64 a0_0), (15, .bool (decide ((l0_1.length : Int) ≥ a0_0))), (3, .pointer (some ⟨B_5, 0, none⟩)), (16, .pointer (some ⟨b0, 0, none⟩)), (17, .pointer (some ⟨b0, 0, none⟩)), (18, .pointer (some ⟨b0, 1, none⟩)), (19, .slice A0_1 n0_1 c0_1), (20, .func (.func 33) #[] #[.pointer (some ⟨B_11, 0, none⟩)]), (4, .int .i64 ((q_19 : Nat) : Int)), (5, .pointer (some ⟨B_36, 0, none⟩))] ⟨rfl, rfl, rfl, rfl, rfl, rfl, rfl, rfl, rfl, rfl, rfl, rfl, rfl, rfl, rfl, rfl, rfl, rfl, rfl, rfl, trivial⟩ ⟨[.cells B_36 (([.int .u64 ((gx l0_1 q_19).1)] : List Value) ++ (([.slice A_32 n_33 c_34] : List Value) ++ ([.int .i64 ((gx l0_1 q_19).2.2)] : List Value))) 60], (by (try dsimp only); rw [← hq_21]; exact ⟨B_36, A_32, n_33, c_34, hb_35, rfl, rfl⟩), rfl, st_41, (KpK.of (st_25.src_sl (k := 3) rfl) (st_41.src_sl (k := 4) rfl) (st_25.cell (k := 0) (i := 0) rfl rfl) (st_41.cell (k := 1) (i := 0) rfl rfl))⟩
    · rintro j_ x_20 w_42 l_ N_ O_23 hBx_ st_43
      obtain ⟨q_19, hq_21⟩ : ∃ q_ : Nat, q_ = n0_1 - 1 - x_20.val := ⟨_, rfl⟩
      have hlt_22 : q_19 < l0_1.length := by have h1_ := x_20.isLt; have h2_ : n0_1 = l0_1.length := hn0_1; omega
      try dsimp only at hBx_
      rw [← hq_21] at hBx_
      obtain ⟨B_36, A_32, n_33, c_34, hb_35, rfl, rfl⟩ := hBx_
      replace st_43 : St w w_42 (.cells B_36 (([.int .u64 ((gx l0_1 q_19).1)] : List Value) ++ (([.slice A_32 n_33 c_34] : List Value) ++ ([.int .i64 ((gx l0_1 q_19).2.2)] : List Value))) 60 :: .cells B_11 [.slice A0_1 n0_1 c0_1] 55 :: .cells B_5 [.int .i64 (-1)] 3 :: .cells b0 (([.int .i64 a0_0] : List Value) ++ ([.slice A0_1 n0_1 c0_1] : List Value)) 57 :: .sl A0_1 c0_1 n0_1 x0_1 60 3 :: (T ++ (R ++ O_23))) := st_43
      have H := Hq_17 q_19 hlt_22
      rcases H with H | H
      · have H_44 := H
        refine CF.block ?_
        refine CF.seq ?_
        refine CF.region (.inr ⟨j_, rfl⟩) (fun ⟨a, w, h⟩ => h) rfl ?_
        refine WL.val Wanted.none (Runs.fieldAddr (off := 2) (p := 2) fld60_2 rfl rfl rfl) ?_
        refine WL.val Wanted.none (Runs.load nagg3 rfl (st_43.cell (k := 0) rfl (part_one (u := .int .i64 ((gx l0_1 q_19).2.2)) (pre := (([.int .u64 ((gx l0_1 q_19).1)] : List Value) ++ ([.slice A_32 n_33 c_34] : List Value))) (post := (([] : List Value))) (by first | rfl | simp only [List.append_assoc, List.append_nil, List.nil_append, List.cons_append]) (by first | rfl | simp only [List.length_append, List.length_cons, List.length_nil, iv_length])))) ?_
        refine WL.val Wanted.none (Runs.eql rfl rfl rfl) ?_
        refine WL.nil ?_
        refine QW.fthen_n ?_
        obtain ⟨c_45, H⟩ := H
        have h_46 : (((gx l0_1 q_19).2.2) == 0) = false := (beq_eq_false_iff_ne.mpr c_45)
        refine CF.cf rfl h_46 ?_
        refine CF.skip ?_
        refine QW.blk_n ?_
        exact fun b hb hd => ⟨(by (try dsimp only); rw [← hq_21]; exact H_44), ⟨[.cells B_36 (([.int .u64 ((gx l0_1 q_19).1)] : List Value) ++ (([.slice A_32 n_33 c_34] : List Value) ++ ([.int .i64 ((gx l0_1 q_19).2.2)] : List Value))) 60], rfl, st_43⟩, (KpK.of (st_43.src_sl (k := 4) rfl) (st_43.src_sl (k := 4) rfl) (st_43.cell (k := 1) (i := 0) rfl rfl) (st_43.cell (k := 1) (i := 0) rfl rfl))⟩
      · refine CF.block ?_
        refine CF.seq ?_
        refine CF.region (.inr ⟨j_, rfl⟩) (fun ⟨a, w, h⟩ => h) rfl ?_
        refine WL.val Wanted.none (Runs.fieldAddr (off := 2) (p := 2) fld60_2 rfl rfl rfl) ?_
        refine WL.val Wanted.none (Runs.load nagg3 rfl (st_43.cell (k := 0) rfl (part_one (u := .int .i64 ((gx l0_1 q_19).2.2)) (pre := (([.int .u64 ((gx l0_1 q_19).1)] : List Value) ++ ([.slice A_32 n_33 c_34] : List Value))) (post := (([] : List Value))) (by first | rfl | simp only [List.append_assoc, List.append_nil, List.nil_append, List.cons_append]) (by first | rfl | simp only [List.length_append, List.length_cons, List.length_nil, iv_length])))) ?_
        refine WL.val Wanted.none (Runs.eql rfl rfl rfl) ?_
        refine WL.nil ?_
        refine QW.fthen_n ?_
        obtain ⟨c_52, H⟩ := H
        have h_53 : (((gx l0_1 q_19).2.2) == 0) = true := (beq_iff_eq.mpr c_52)
        refine CF.ct rfl h_53 ?_
        refine CF.seq ?_
        refine CF.region (.inr ⟨j_, rfl⟩) (fun ⟨a, w, h⟩ => h) rfl ?_
        refine WL.val Wanted.none (Runs.move rfl) ?_
        refine WL.store_cells (i := 2) (j := 0) st_43 rfl cells3 rfl (Nat.zero_lt_succ _) rfl rfl ?_
        intro w_54 st_55
        replace st_55 : St w w_54 (.cells B_36 (([.int .u64 ((gx l0_1 q_19).1)] : List Value) ++ (([.slice A_32 n_33 c_34] : List Value) ++ ([.int .i64 ((gx l0_1 q_19).2.2)] : List Value))) 60 :: .cells B_11 [.slice A0_1 n0_1 c0_1] 55 :: .cells B_5 [.int .i64 ((q_19 : Nat) : Int)] 3 :: .cells b0 (([.int .i64 a0_0] : List Value) ++ ([.slice A0_1 n0_1 c0_1] : List Value)) 57 :: .sl A0_1 c0_1 n0_1 x0_1 60 3 :: (T ++ (R ++ O_23))) := st_55
        refine WL.nil ?_
        refine QW.fthen_n ?_
        refine CF.exit ?_
        refine QW.blk_y rfl ?_
        exact fun b hb hd => ⟨rfl, ⟨[.cells B_36 (([.int .u64 ((gx l0_1 q_19).1)] : List Value) ++ (([.slice A_32 n_33 c_34] : List Value) ++ ([.int .i64 ((gx l0_1 q_19).2.2)] : List Value))) 60, .cells B_11 [.slice A0_1 n0_1 c0_1] 55, .cells B_5 [.int .i64 ((q_19 : Nat) : Int)] 3, .cells b0 (([.int .i64 a0_0] : List Value) ++ ([.slice A0_1 n0_1 c0_1] : List Value)) 57, .sl A0_1 c0_1 n0_1 x0_1 60 3], rfl, (St.pickT (L := [_, _, _, _, _]) st_55 [0, 1, 2, 3, 4] (by decide))⟩, (.cells B_11 [.slice A0_1 n0_1 c0_1] 55 :: .cells B_5 [.int .i64 ((q_19 : Nat) : Int)] 3 :: .cells b0 (([.int .i64 a0_0] : List Value) ++ ([.slice A0_1 n0_1 c0_1] : List Value)) 57 :: .sl A0_1 c0_1 n0_1 x0_1 60 3 :: (T ++ R)), (by (try dsimp only); rw [← hq_21]; exact ⟨rfl, H⟩), (show celly (.cells B_11 [.slice A0_1 n0_1 c0_1] 55 :: .cells B_5 [.int .i64 ((q_19 : Nat) : Int)] 3 :: .cells b0 (([.int .i64 a0_0] : List Value) ++ ([.slice A0_1 n0_1 c0_1] : List Value)) 57 :: .sl A0_1 c0_1 n0_1 x0_1 60 3 :: (T ++ R)) = true from (celly_append hT hR : celly (T ++ R) = true)), (St.dropO (A := [.cells B_11 [.slice A0_1 n0_1 c0_1] 55, .cells B_5 [.int .i64 ((q_19 : Nat) : Int)] 3, .cells b0 (([.int .i64 a0_0] : List Value) ++ ([.slice A0_1 n0_1 c0_1] : List Value)) 57, .sl A0_1 c0_1 n0_1 x0_1 60 3]) (St.pickT (L := [_, _, _, _, _]) st_55 [1, 2, 3, 4] (by decide)))⟩
    · intro D_49 w_50 hgo_ st_51
      replace st_51 : St w w_50 (.obj D_49 (.deferred (some [])) :: .cells B_11 [.slice A0_1 n0_1 c0_1] 55 :: .cells B_5 [.int .i64 (-1)] 3 :: .cells b0 (([.int .i64 a0_0] : List Value) ++ ([.slice A0_1 n0_1 c0_1] : List Value)) 57 :: .sl A0_1 c0_1 n0_1 x0_1 60 3 :: (T ++ R)) := st_51
      replace H := H_18 (fun p_ hp_ => by have h2_ : n0_1 = l0_1.length := hn0_1; have h_ : (fun (q_19 : Nat) => (¬ (((gx l0_1 q_19).2.2) = 0) ∧ True)) (n0_1 - 1 - (n0_1 - 1 - p_)) := hgo_ ⟨n0_1 - 1 - p_, by omega⟩; rw [show n0_1 - 1 - (n0_1 - 1 - p_) = p_ from by omega] at h_; exact h_)
      refine QW.blk_n ?_
      refine QW.then_n ?_
      refine CW.seq ?_
      refine CW.seq ?_
      refine CW.region ?_
      refine WL.val Wanted.none (Runs.load nagg3 rfl (st_51.cell (k := 2) rfl rfl)) ?_
      refine WL.val Wanted.none (Runs.lss (b := true) rfl rfl (by decide)) ?_
      refine WL.nil ?_
      refine QW.then_n ?_
      refine CW.ct rfl rfl ?_
      refine CW.seq ?_
      refine CW.region ?_
      refine WL.val Wanted.none (Runs.assign rfl) ?_
      refine WL.nil ?_
      refine QW.then_n ?_
      refine CW.ret ?_
      refine QW.then_r ?_
      refine QW.blk_r ?_
      refine QW.then_r ?_
      refine QW.blk_r ?_
      refine QW.then_r ?_
      obtain ⟨rfl, rfl, rfl⟩ := H
      exact QW.retMN1 st_51 (i := 0) rfl rfl (fun wz stz => ⟨Res.tmp rfl, T, A0_1, n0_1, c0_1, x0_1, Pl.refl, hn0_1, hx0_1, rfl, (St.pickT (L := [_, _, _, _, _]) stz [3, 4] (by decide))⟩)
    · intro D_49 w_50 x_20 s_ hgo_ hphi_ st_51
      obtain ⟨q_19, hq_21⟩ : ∃ q_ : Nat, q_ = n0_1 - 1 - x_20.val := ⟨_, rfl⟩
      have hlt_22 : q_19 < l0_1.length := by have h1_ := x_20.isLt; have h2_ : n0_1 = l0_1.length := hn0_1; omega
      try dsimp only at hphi_
      rw [← hq_21] at hphi_
      obtain ⟨rfl, H⟩ := hphi_
      replace st_51 : St w w_50 (.obj D_49 (.deferred (some [])) :: .cells B_11 [.slice A0_1 n0_1 c0_1] 55 :: .cells B_5 [.int .i64 ((q_19 : Nat) : Int)] 3 :: .cells b0 (([.int .i64 a0_0] : List Value) ++ ([.slice A0_1 n0_1 c0_1] : List Value)) 57 :: .sl A0_1 c0_1 n0_1 x0_1 60 3 :: (T ++ R)) := st_51
      replace H := H (fun p_ hp1_ hp2_ => by have h2_ : n0_1 = l0_1.length := hn0_1; have h_ : (fun (q_19 : Nat) => (¬ (((gx l0_1 q_19).2.2) = 0) ∧ True)) (n0_1 - 1 - (n0_1 - 1 - p_)) := hgo_ ⟨n0_1 - 1 - p_, by omega⟩ (by show n0_1 - 1 - p_ < x_20.val; omega); rw [show n0_1 - 1 - (n0_1 - 1 - p_) = p_ from by omega] at h_; exact h_)
      refine CW.exit ?_
      refine QW.blk_x ?_
      refine QW.then_n ?_
      refine CW.seq ?_
      refine CW.seq ?_
      refine CW.region ?_
      refine WL.val Wanted.none (Runs.load nagg3 rfl (st_51.cell (k := 2) rfl rfl)) ?_
      refine WL.val Wanted.none (Runs.lss rfl rfl rfl) ?_
      refine WL.nil ?_
      refine QW.then_n ?_
      rcases H with ⟨c_57, H⟩ | ⟨c_57, H⟩
      · have h_58 : (decide (((q_19 : Nat) : Int) < 0)) = true := (decide_eq_true c_57)
        refine CW.ct rfl h_58 ?_
        refine CW.seq ?_
        refine CW.region ?_
        refine WL.val Wanted.none (Runs.assign rfl) ?_
        refine WL.nil ?_
        refine QW.then_n ?_
        refine CW.ret ?_
        refine QW.then_r ?_
        refine QW.blk_r ?_
        refine QW.then_r ?_
        refine QW.blk_r ?_
        refine QW.then_r ?_
        obtain ⟨rfl, rfl, rfl⟩ := H
        exact QW.retMN1 st_51 (i := 0) rfl rfl (fun wz stz => ⟨Res.tmp rfl, T, A0_1, n0_1, c0_1, x0_1, Pl.refl, hn0_1, hx0_1, rfl, (St.pickT (L := [_, _, _, _, _]) stz [3, 4] (by decide))⟩)
      · have h_58 : (decide (((q_19 : Nat) : Int) < 0)) = false := (decide_eq_false c_57)
        refine CW.cf rfl h_58 ?_
        refine CW.skip ?_
        refine QW.then_n ?_
        refine CW.region_awh (C := fun w_ => St w w_ (.obj D_49 (.deferred (some [])) :: .cells B_11 [.slice A0_1 n0_1 c0_1] 55 :: .cells B_5 [.int .i64 ((q_19 : Nat) : Int)] 3 :: .cells b0 (([.int .i64 a0_0] : List Value) ++ ([.slice A0_1 n0_1 c0_1] : List Value)) 57 :: (T ++ R))) 9 wide (by kernel_rfl) st_51 (fun w_59 st_60 => ?_)
        have st_61 : St w w_59 (.obj D_49 (.deferred (some [])) :: .cells B_11 [.slice A0_1 n0_1 c0_1] 55 :: .cells B_5 [.int .i64 ((q_19 : Nat) : Int)] 3 :: .cells b0 (([.int .i64 a0_0] : List Value) ++ ([.slice A0_1 n0_1 c0_1] : List Value)) 57 :: (T ++ R)) := (St.pickT (L := [_, _, _, _, _]) st_60 [0, 1, 2, 3] (by decide))
        refine AWH.take 0 rfl (by decide) (by kernel_rfl) (by kernel_rfl) (St.subset st_61 st_60 (List.forall_mem_cons.2 ⟨List.mem_of_getElem? (i := 0) rfl, (List.forall_mem_cons.2 ⟨List.mem_of_getElem? (i := 1) rfl, (List.forall_mem_cons.2 ⟨List.mem_of_getElem? (i := 2) rfl, (List.forall_mem_cons.2 ⟨List.mem_of_getElem? (i := 3) rfl, (mem_TR (A := [_, _, _, _, _]) (fun _ h_ => h_))⟩)⟩)⟩)⟩)) Wanted.none (fun wq sq => (Runs.move rfl)) ?_
        refine AWH.take 1 rfl (by decide) (by kernel_rfl) (by kernel_rfl) (St.subset st_61 st_60 (List.forall_mem_cons.2 ⟨List.mem_of_getElem? (i := 0) rfl, (List.forall_mem_cons.2 ⟨List.mem_of_getElem? (i := 1) rfl, (List.forall_mem_cons.2 ⟨List.mem_of_getElem? (i := 2) rfl, (List.forall_mem_cons.2 ⟨List.mem_of_getElem? (i := 3) rfl, (mem_TR (A := [_, _, _, _, _]) (fun _ h_ => h_))⟩)⟩)⟩)⟩)) Wanted.none (fun wq sq => (Runs.move rfl)) ?_
        refine AWH.take 2 rfl (by decide) (by kernel_rfl) (by kernel_rfl) (St.subset st_61 st_60 (List.forall_mem_cons.2 ⟨List.mem_of_getElem? (i := 0) rfl, (List.forall_mem_cons.2 ⟨List.mem_of_getElem? (i := 1) rfl, (List.forall_mem_cons.2 ⟨List.mem_of_getElem? (i := 2) rfl, (List.forall_mem_cons.2 ⟨List.mem_of_getElem? (i := 3) rfl, (mem_TR (A := [_, _, _, _, _]) (fun _ h_ => h_))⟩)⟩)⟩)⟩)) Wanted.none (fun wq sq => (Runs.nilCheck rfl)) ?_
        refine AWH.take 3 rfl (by decide) (by kernel_rfl) (by kernel_rfl) (St.subset st_61 st_60 (List.forall_mem_cons.2 ⟨List.mem_of_getElem? (i := 0) rfl, (List.forall_mem_cons.2 ⟨List.mem_of_getElem? (i := 1) rfl, (List.forall_mem_cons.2 ⟨List.mem_of_getElem? (i := 2) rfl, (List.forall_mem_cons.2 ⟨List.mem_of_getElem? (i := 3) rfl, (mem_TR (A := [_, _, _, _, _]) (fun _ h_ => h_))⟩)⟩)⟩)⟩)) Wanted.none (fun wq sq => (Runs.fieldAddr (off := 1) (p := 1) fld57_1 rfl rfl rfl)) ?_
        refine AWH.take 4 rfl (by decide) (by kernel_rfl) (by kernel_rfl) (St.subset st_61 st_60 (List.forall_mem_cons.2 ⟨List.mem_of_getElem? (i := 0) rfl, (List.forall_mem_cons.2 ⟨List.mem_of_getElem? (i := 1) rfl, (List.forall_mem_cons.2 ⟨List.mem_of_getElem? (i := 2) rfl, (List.forall_mem_cons.2 ⟨List.mem_of_getElem? (i := 3) rfl, (mem_TR (A := [_, _, _, _, _]) (fun _ h_ => h_))⟩)⟩)⟩)⟩)) Wanted.none (fun wq sq => (Runs.load nagg55 rfl (sq.cell (k := 3) rfl (part_one (u := .slice A0_1 n0_1 c0_1) (pre := (([.int .i64 a0_0] : List Value))) (post := (([] : List Value))) (by first | rfl | simp only [List.append_assoc, List.append_nil, List.nil_append, List.cons_append]) (by first | rfl | simp only [List.length_append, List.length_cons, List.length_nil, iv_length]))))) ?_
        refine AWH.take 5 rfl (by decide) (by kernel_rfl) (by kernel_rfl) (St.subset st_61 st_60 (List.forall_mem_cons.2 ⟨List.mem_of_getElem? (i := 0) rfl, (List.forall_mem_cons.2 ⟨List.mem_of_getElem? (i := 1) rfl, (List.forall_mem_cons.2 ⟨List.mem_of_getElem? (i := 2) rfl, (List.forall_mem_cons.2 ⟨List.mem_of_getElem? (i := 3) rfl, (mem_TR (A := [_, _, _, _, _]) (fun _ h_ => h_))⟩)⟩)⟩)⟩)) Wanted.none (fun wq sq => (Runs.load nagg3 rfl (sq.cell (k := 2) rfl rfl))) ?_
        refine AWH.take 6 rfl (by decide) (by kernel_rfl) (by kernel_rfl) (St.subset st_61 st_60 (List.forall_mem_cons.2 ⟨List.mem_of_getElem? (i := 0) rfl, (List.forall_mem_cons.2 ⟨List.mem_of_getElem? (i := 1) rfl, (List.forall_mem_cons.2 ⟨List.mem_of_getElem? (i := 2) rfl, (List.forall_mem_cons.2 ⟨List.mem_of_getElem? (i := 3) rfl, (mem_TR (A := [_, _, _, _, _]) (fun _ h_ => h_))⟩)⟩)⟩)⟩)) Wanted.none (fun wq sq => (Runs.load nagg3 rfl (sq.cell (k := 2) rfl rfl))) ?_
        refine AWH.take 7 rfl (by decide) (by kernel_rfl) (by kernel_rfl) (St.subset st_61 st_60 (List.forall_mem_cons.2 ⟨List.mem_of_getElem? (i := 0) rfl, (List.forall_mem_cons.2 ⟨List.mem_of_getElem? (i := 1) rfl, (List.forall_mem_cons.2 ⟨List.mem_of_getElem? (i := 2) rfl, (List.forall_mem_cons.2 ⟨List.mem_of_getElem? (i := 3) rfl, (mem_TR (A := [_, _, _, _, _]) (fun _ h_ => h_))⟩)⟩)⟩)⟩)) Wanted.none (fun wq sq => (Runs.add rfl rfl rfl)) ?_
        refine AWH.step 8 rfl (by decide) (by kernel_rfl) (fun inv_ hs_ hk_ hc_ hn_ => ?_)
        have st_62 := (St.pickT (L := [_, _, _, _, _]) st_60 [4, 0, 1, 2, 3] (by decide))
        replace st_62 : St w w_59 (.sl A0_1 c0_1 n0_1 x0_1 60 3 :: .obj D_49 (.deferred (some [])) :: .cells B_11 [.slice A0_1 n0_1 c0_1] 55 :: .cells B_5 [.int .i64 ((q_19 : Nat) : Int)] 3 :: .cells b0 (([.int .i64 a0_0] : List Value) ++ ([.slice A0_1 n0_1 c0_1] : List Value)) 57 :: (T ++ R)) := st_62
        have st_63 : St w w_59 (.sl A0_1 c0_1 n0_1 x0_1 60 3 :: (T ++ (.obj D_49 (.deferred (some [])) :: .cells B_11 [.slice A0_1 n0_1 c0_1] 55 :: .cells B_5 [.int .i64 ((q_19 : Nat) : Int)] 3 :: .cells b0 (([.int .i64 a0_0] : List Value) ++ ([.slice A0_1 n0_1 c0_1] : List Value)) 57 :: R))) := St.hide (A := [_]) (B := [_, _, _, _]) (T := T) (R := R) st_62
        obtain ⟨l_71, hr_64, H⟩ := H
        refine WL.call Wanted.none ent29 rfl (slices_Delete_s_buffers_buffer_buffers_buffer_own0.calls w w_59 T (.obj D_49 (.deferred (some [])) :: .cells B_11 [.slice A0_1 n0_1 c0_1] 55 :: .cells B_5 [.int .i64 ((q_19 : Nat) : Int)] 3 :: .cells b0 (([.int .i64 a0_0] : List Value) ++ ([.slice A0_1 n0_1 c0_1] : List Value)) 57 :: R) l0_1 ((q_19 : Nat) : Int) (IntKind.i64.wrap (((q_19 : Nat) : Int) + 1)) A0_1 n0_1 c0_1 x0_1  st_63 (hn0_1) hx0_1 l_71 hr_64) ?_
        rintro _ w_75 ⟨T_65, A_68, n_69, c_70, x_72, hs_66, hn_73, hx_74, rfl, sc_77⟩
        have st_76 : St w w_75 (.sl A_68 c_70 n_69 x_72 60 3 :: .obj D_49 (.deferred (some [])) :: .cells B_11 [.slice A0_1 n0_1 c0_1] 55 :: .cells B_5 [.int .i64 ((q_19 : Nat) : Int)] 3 :: .cells b0 (([.int .i64 a0_0] : List Value) ++ ([.slice A0_1 n0_1 c0_1] : List Value)) 57 :: (T_65 ++ R)) := St.unhide (A := [_]) (B := [_, _, _, _]) (T := T_65) (R := R) sc_77
        refine ⟨_, rfl, ?_⟩
        refine WL.nil ?_
        refine AWH.back (St.subset st_61 st_76 (List.forall_mem_cons.2 ⟨List.mem_of_getElem? (i := 1) rfl, (List.forall_mem_cons.2 ⟨List.mem_of_getElem? (i := 2) rfl, (List.forall_mem_cons.2 ⟨List.mem_of_getElem? (i := 3) rfl, (List.forall_mem_cons.2 ⟨List.mem_of_getElem? (i := 4) rfl, (mem_TR (A := [_, _, _, _, _]) (fun _ h_ => hs_66.1 _ h_))⟩)⟩)⟩)⟩)) inv_ hs_ hk_ hc_ hn_ ?_
        refine AWH.tail (by kernel_rfl) ?_
        refine AW.take 9 rfl (by kernel_rfl) (by kernel_rfl) (by kernel_rfl) Wanted.none (fun _ => (Runs.nilCheck rfl)) ?_
        refine AW.take 10 rfl (by kernel_rfl) (by kernel_rfl) (by kernel_rfl) Wanted.none (fun _ => (Runs.fieldAddr (off := 1) (p := 1) fld57_1 rfl rfl rfl)) ?_
        refine AW.step 11 rfl (by kernel_rfl) ?_
        refine WL.store_one (i := 4) (u0 := .slice A0_1 n0_1 c0_1) (pre := (([.int .i64 a0_0] : List Value))) (post := (([] : List Value))) st_76 rfl cells55 (by first | rfl | simp only [List.append_assoc, List.append_nil, List.nil_append, List.cons_append]) (by first | rfl | simp only [List.length_append, List.length_cons, List.length_nil, iv_length]) rfl rfl rfl ?_
        intro w_78 st_79
        replace st_79 : St w w_78 (.sl A_68 c_70 n_69 x_72 60 3 :: .obj D_49 (.deferred (some [])) :: .cells B_11 [.slice A0_1 n0_1 c0_1] 55 :: .cells B_5 [.int .i64 ((q_19 : Nat) : Int)] 3 :: .cells b0 (([.int .i64 a0_0] : List Value) ++ ([.slice A_68 n_69 c_70] : List Value)) 57 :: (T_65 ++ R)) := by have e_ : (([.int .i64 a0_0] : List Value) ++ ([.slice A_68 n_69 c_70] : List Value)) = (([.int .i64 a0_0] : List Value)) ++ ((([.slice A_68 n_69 c_70] : List Value)) ++ (([] : List Value))) := (by first | rfl | simp only [List.append_assoc, List.append_nil, List.nil_append, List.cons_append]); have h_ : St w w_78 (.sl A_68 c_70 n_69 x_72 60 3 :: .obj D_49 (.deferred (some [])) :: .cells B_11 [.slice A0_1 n0_1 c0_1] 55 :: .cells B_5 [.int .i64 ((q_19 : Nat) : Int)] 3 :: .cells b0 ((([.int .i64 a0_0] : List Value)) ++ ((([.slice A_68 n_69 c_70] : List Value)) ++ (([] : List Value)))) 57 :: (T_65 ++ R)) := st_79; rw [← e_] at h_; exact h_
        refine WL.nil ?_
        refine AW.back  ?_
        refine AW.done (by kernel_rfl) ?_
        refine QW.blk_n ?_
        refine QW.round ?_
        refine CW.seq ?_
        refine CW.seq ?_
        refine CW.region_qa wide (by kernel_rfl) st_79 ?_
        refine HL.val Wanted.none (fun wq sq => (Runs.move rfl)) ?_
        refine HL.val Wanted.none (fun wq sq => (Runs.nilCheck rfl)) ?_
        refine HL.val Wanted.none (fun wq sq => (Runs.fieldAddr (off := 1) (p := 1) fld57_1 rfl rfl rfl)) ?_
        refine HL.val Wanted.none (fun wq sq => (Runs.load nagg55 rfl (sq.cell (k := 4) rfl (part_one (u := .slice A_68 n_69 c_70) (pre := (([.int .i64 a0_0] : List Value))) (post := (([] : List Value))) (by first | rfl | simp only [List.append_assoc, List.append_nil, List.nil_append, List.cons_append]) (by first | rfl | simp only [List.length_append, List.length_cons, List.length_nil, iv_length]))))) ?_
        refine HL.val Wanted.none (fun wq sq => (Runs.len_sl Try.underlying55 rfl (by rw [hn_73]))) ?_
        refine HL.val Wanted.none (fun wq sq => (Runs.move rfl)) ?_
        refine HL.val Wanted.none (fun wq sq => (Runs.nilCheck rfl)) ?_
        refine HL.val Wanted.none (fun wq sq => (Runs.fieldAddr (off := 0) (p := 0) fld57_0 rfl rfl rfl)) ?_
        refine HL.val Wanted.none (fun wq sq => (Runs.load nagg3 rfl (sq.cell (k := 4) rfl (part_one (u := .int .i64 a0_0) (pre := (([] : List Value))) (post := (([.slice A_68 n_69 c_70] : List Value))) (by first | rfl | simp only [List.append_assoc, List.append_nil, List.nil_append, List.cons_append]) (by first | rfl | simp only [List.length_append, List.length_cons, List.length_nil, iv_length]))))) ?_
        refine HL.val Wanted.none (fun wq sq => (Runs.geq rfl rfl rfl)) ?_
        refine HL.nil (fun w_80 st_81 => ?_)
        refine WL.nil ?_
        refine QW.then_n ?_
        obtain ⟨c_82, H⟩ := H
        have h_83 : (decide ((l_71.length : Int) ≥ a0_0)) = false := (decide_eq_false c_82)
        refine CW.cf rfl h_83 ?_
        refine CW.exit ?_
        refine QW.then_x ?_
        refine QW.then_x ?_
        refine QW.blk_x ?_
        refine QW.then_n ?_
        refine CW.sub [(2, .bool false)] ⟨rfl, trivial⟩ ?_
        refine CW.seq ?_
        refine CW.region ?_
        refine WL.val Wanted.none (Runs.assign rfl) ?_
        refine WL.nil ?_
        refine QW.then_n ?_
        refine CW.ret ?_
        obtain ⟨rfl, rfl, rfl⟩ := H
        exact QW.retMN1 st_81 (i := 1) rfl rfl (fun wz stz => ⟨Res.tmp rfl, T_65, A_68, n_69, c_70, x_72, hs_66, hn_73, hx_74, rfl, (St.pickT (L := [_, _, _, _, _]) stz [4, 0] (by decide))⟩)
  · have h_4 : (decide ((l0_1.length : Int) ≥ a0_0)) = false := (decide_eq_false c_3)
    refine CW.cf rfl h_4 ?_
    refine CW.exit ?_
    refine QW.then_x ?_
    refine QW.then_x ?_
    refine QW.blk_x ?_
    refine QW.then_n ?_
    refine CW.sub [(2, .bool false)] ⟨rfl, trivial⟩ ?_
    refine CW.seq ?_
    refine CW.region ?_
    refine WL.val Wanted.none (Runs.assign rfl) ?_
    refine WL.nil ?_
    refine QW.then_n ?_
    refine CW.ret ?_
    obtain ⟨rfl, rfl, rfl⟩ := H
    exact QW.retN1m rfl (Res.tmp rfl) ⟨T, A0_1, n0_1, c0_1, x0_1, Pl.refl, hn0_1, hx0_1, rfl, (St.pickT (L := [_, _]) st_2 [0, 1] (by decide))⟩

/-! ### slices_Clone_s_byte_byte: function 24 -/
def slices_Clone_s_byte_byte.rel (l0 : List Int) (r0 : List Int) : Prop := (l0 = [] → r0 = []) ∧ (∃ m_7 : List Int, m_7 = ([] : List Int) ++ l0 ∧ (m_7.length ≤ 1099511627776 ∧ r0 = m_7))
set_option maxHeartbeats 4000000 in
set_option maxRecDepth 100000 in
theorem slices_Clone_s_byte_byte.calls (w : World) (l0 : List Int) (A0 : Option Addr) (n0 : Nat) (c0 : Nat)  (hs0 : Src w A0 (iv .u8 l0)) (hn0 : n0 = l0.length) (hc0 : n0 ≤ c0) (r0 : List Int) (H : slices_Clone_s_byte_byte.rel l0 r0) :
    Calls Try.prog 24 #[.slice A0 n0 c0] w fun e w' => ∃ B0 q0 z0, z0 = r0.length ∧ e = .returned (.slice B0 z0 q0) ∧ St w w' [.sl B0 q0 z0 (iv .u8 r0) 5 1] := by
  rcases A0 with _ | A_
  · replace H := H.1 (nil_of_src hs0)
    refine CW.enter Try.func24 rfl (n := 8) rfl [.slice none n0 c0] (Nat.le_of_ble_eq_true rfl) ?_
    refine CW.sub [(0, .slice none n0 c0)] ⟨rfl, trivial⟩ ?_
    have st0 : St w w [] := St.refl w
    refine CW.seq ?_
    refine CW.region ?_
    refine WL.val Wanted.none (Runs.assign rfl) ?_
    refine WL.nil ?_
    refine QW.then_n ?_
    refine CW.seq ?_
    refine CW.seq ?_
    refine CW.region ?_
    refine WL.val Wanted.none (Runs.move rfl) ?_
    refine WL.val Wanted.none (Runs.eql_nil Try.underlying22 rfl rfl rfl) ?_
    refine WL.nil ?_
    refine QW.then_n ?_
    refine CW.ct rfl rfl ?_
    refine CW.seq ?_
    refine CW.region ?_
    refine WL.val Wanted.none (Runs.assign rfl) ?_
    refine WL.nil ?_
    refine QW.then_n ?_
    refine CW.ret ?_
    refine QW.then_r ?_
    have st_2 := st0.nil_sl 5 1
    have st_2 : St w w [.sl none 0 0 (iv .u8 ([] : List Int)) 5 1] := st_2
    obtain rfl := H
    exact QW.ret1 rfl rfl ⟨none, 0, 0, rfl, rfl, st_2.pick [0] (by decide)⟩
  · replace H := H.2
    refine CW.enter Try.func24 rfl (n := 8) rfl [.slice (some A_) n0 c0] (Nat.le_of_ble_eq_true rfl) ?_
    refine CW.sub [(0, .slice (some A_) n0 c0)] ⟨rfl, trivial⟩ ?_
    have st0 : St w w [] := St.refl w
    refine CW.seq ?_
    refine CW.region ?_
    refine WL.val Wanted.none (Runs.assign rfl) ?_
    refine WL.nil ?_
    refine QW.then_n ?_
    refine CW.seq ?_
    refine CW.seq ?_
    refine CW.region ?_
    refine WL.val Wanted.none (Runs.move rfl) ?_
    refine WL.val Wanted.none (Runs.eql_nil Try.underlying22 rfl rfl rfl) ?_
    refine WL.nil ?_
    refine QW.then_n ?_
    refine CW.cf rfl rfl ?_
    refine CW.skip ?_
    refine QW.then_n ?_
    refine CW.seq ?_
    refine CW.region ?_
    refine WL.buildSl0 st0 Try.underlying22 elem5 ?_
    intro B_3 w_4 st_5
    replace st_5 : St w w_4 [.sl (some ⟨B_3, 0, none⟩) 0 0 (iv .u8 ([] : List Int)) 5 1] := st_5
    refine WL.val Wanted.none (Runs.move rfl) ?_
    obtain ⟨m_7, e_8, H⟩ := H
    obtain ⟨z_9, H⟩ := H
    obtain ⟨n_12, hn_15⟩ : ∃ n_ : Nat, n_ = m_7.length := ⟨_, rfl⟩
    refine WL.append (i := 0) Wanted.none st_5 rfl Try.underlying22 elem5 rfl rfl (hs0.ext st_5) (by rw [iv_length]; exact (hn0).symm) (one_iv .u8 _) (by decide) (N := n_12) (by rw [hn_15, e_8, List.length_append]; exact congr (congrArg HAdd.hAdd (rfl)) (hn0)) (by rw [hn_15]; exact z_9) ?_
    intro A_10 c_11 w_13 st_14
    have st_14' : St w w_13 [.sl A_10 c_11 n_12 (iv .u8 m_7) 5 1] := by rw [e_8, ← iv_append .u8 ([] : List Int) l0]; exact st_14
    refine WL.val Wanted.none (Runs.assign rfl) ?_
    refine WL.nil ?_
    refine QW.then_n ?_
    refine CW.sub [(2, .slice A_10 n_12 c_11)] ⟨rfl, trivial⟩ ?_
    refine CW.ret ?_
    obtain rfl := H
    exact QW.ret1 rfl rfl ⟨A_10, c_11, n_12, hn_15, rfl, st_14'.pick [0] (by decide)⟩

/-! ### buffers_Cache_front: function 25 -/
def buffers_Cache_front.rel (a0_0 : Int) (l0_1 : List R60) (a1 : Int) (as0_0 : Int) (ls0_1 : List R60) : Prop := ((0 ≤ a1 ∧ a1 < (l0_1.length : Int)) ∧ ((0 ≤ (1 : Int) ∧ (1 : Int) ≤ (IntKind.i64.wrap (a1 + 1)) ∧ (IntKind.i64.wrap (a1 + 1)) ≤ (l0_1.length : Int)) ∧ ((0 ≤ (0 : Int) ∧ (0 : Int) ≤ a1 ∧ a1 ≤ (l0_1.length : Int)) ∧ (0 < l0_1.length ∧ (∃ m_48 : List R60, m_48 = cpyR l0_1 (((1 : Int)).toNat) (((0 : Int)).toNat) (min ((a1).toNat - ((0 : Int)).toNat) ((IntKind.i64.wrap (a1 + 1)).toNat - ((1 : Int)).toNat)) ∧ ((0 ≤ (0 : Int) ∧ (0 : Int) < (m_48.length : Int)) ∧ (∃ m_70 : List R60, m_70 = List.set m_48 0 ((gx l0_1 ((a1).toNat)).1, (gx l0_1 ((a1).toNat)).2.1, (gx l0_1 ((a1).toNat)).2.2) ∧ as0_0 = a0_0 ∧ ls0_1 = m_70)))))))
set_option maxHeartbeats 1000000 in
set_option maxRecDepth 100000 in
theorem buffers_Cache_front.calls (w w1 : World) (T R : Pool) (a0_0 : Int) (l0_1 : List R60) (a1 : Int) (b0 : Nat) (A0_1 : Option Addr) (n0_1 : Nat) (c0_1 : Nat) (x0_1 : Cells) (st0 : St w w1 (.cells b0 (([.int .i64 a0_0] : List Value) ++ ([.slice A0_1 n0_1 c0_1] : List Value)) 57 :: .sl A0_1 c0_1 n0_1 x0_1 60 3 :: (T ++ R))) (hn0_1 : n0_1 = l0_1.length) (hx0_1 : HRs T (f60 w) x0_1 l0_1) (as0_0 : Int) (ls0_1 : List R60) (H : buffers_Cache_front.rel a0_0 l0_1 a1 as0_0 ls0_1) :
    Calls Try.prog 25 #[.pointer (some ⟨b0, 0, none⟩), .int .i64 a1] w1 fun e w' => ∃ T' As0_1 ns0_1 cs0_1 xs0_1, Pl T T' ∧ ns0_1 = ls0_1.length ∧ HRs T' (f60 w) xs0_1 ls0_1 ∧ e = .returned (.tuple #[]) ∧ St w w' (.cells b0 (([.int .i64 as0_0] : List Value) ++ ([.slice As0_1 ns0_1 cs0_1] : List Value)) 57 :: .sl As0_1 cs0_1 ns0_1 xs0_1 60 3 :: (T' ++ R)) := by
  refine CW.enter Try.func25 rfl (n := 32) rfl [.pointer (some ⟨b0, 0, none⟩), .int .i64 a1] (Nat.le_of_ble_eq_true rfl) ?_
  refine CW.sub [(0, .pointer (some ⟨b0, 0, none⟩)), (1, .int .i64 a1)] ⟨rfl, rfl, trivial⟩ ?_
  refine CW.seq ?_
  refine CW.region ?_
  refine WL.val Wanted.none (Runs.move rfl) ?_
  refine WL.val Wanted.none (Runs.nilCheck rfl) ?_
  refine WL.val Wanted.none (Runs.fieldAddr (off := 1) (p := 1) fld57_1 rfl rfl rfl) ?_
  refine WL.val Wanted.none (Runs.load nagg55 rfl (st0.cell (k := 0) rfl (part_one (u := .slice A0_1 n0_1 c0_1) (pre := (([.int .i64 a0_0] : List Value))) (post := (([] : List Value))) (by first | rfl | simp only [List.append_assoc, List.append_nil, List.nil_append, List.cons_append]) (by first | rfl | simp only [List.length_append, List.length_cons, List.length_nil, iv_length])))) ?_
  refine WL.val Wanted.none (Runs.move rfl) ?_
  obtain ⟨⟨p_1, q_2⟩, H⟩ := H
  obtain ⟨a_3, e_4, ms_5, hc_6, hm_7⟩ := el_get (i := (a1).toNat) (st0.src_sl (k := 1) rfl) hx0_1 (fz60 w) (by decide) (by omega)
  obtain ⟨A_8, n_9, c_10, em_12, hb_11⟩ := inv60 hm_7
  replace em_12 : ms_5 = ([.int .u64 ((gx l0_1 ((a1).toNat)).1)] : List Value) ++ (([.slice A_8 n_9 c_10] : List Value) ++ ([.int .i64 ((gx l0_1 ((a1).toNat)).2.2)] : List Value)) := em_12
  subst em_12
  refine WL.val Wanted.none (Runs.indexAddr Try.underlying55 cells60 (by decide) rfl e_4 rfl p_1 (by rw [show n0_1 = l0_1.length from hn0_1]; exact q_2) (o := ((a1).toNat) * 3) (by first | rfl | omega)) ?_
  refine WL.val Wanted.none (Runs.load_srcR row60 rfl (Src.cut (st0.src_sl (k := 1) rfl) e_4 hc_6) rfl) ?_
  refine WL.alloc st0 zero60 ?_
  intro B_13 w_14 st_15
  replace st_15 : St w w_14 (.cells B_13 (([.int .u64 0] : List Value) ++ (([.slice none 0 0] : List Value) ++ ([.int .i64 0] : List Value))) 60 :: .cells b0 (([.int .i64 a0_0] : List Value) ++ ([.slice A0_1 n0_1 c0_1] : List Value)) 57 :: .sl A0_1 c0_1 n0_1 x0_1 60 3 :: (T ++ R)) := st_15
  refine WL.store_mid (i := 0) (pre := (([] : List Value))) (mid := (([.int .u64 0] : List Value) ++ (([.slice none 0 0] : List Value) ++ ([.int .i64 0] : List Value)))) (post := (([] : List Value))) (ms := (([.int .u64 ((gx l0_1 ((a1).toNat)).1)] : List Value) ++ (([.slice A_8 n_9 c_10] : List Value) ++ ([.int .i64 ((gx l0_1 ((a1).toNat)).2.2)] : List Value)))) st_15 rfl row60 (by first | rfl | simp only [List.append_assoc, List.append_nil, List.nil_append, List.cons_append]) (by first | rfl | simp only [List.length_append, List.length_cons, List.length_nil, iv_length]) rfl rfl (by first | rfl | simp only [List.length_append, List.length_cons, List.length_nil, iv_length]) (by first | rfl | simp only [List.length_append, List.length_cons, List.length_nil, iv_length]) (by intro u hu; simp only [List.mem_append, List.mem_singleton] at hu; rcases hu with hu | hu | hu <;> first | exact one_iv _ _ u hu | (subst hu; rfl)) ?_
  intro w_17 st_18
  replace st_18 : St w w_17 (.cells B_13 (([.int .u64 ((gx l0_1 ((a1).toNat)).1)] : List Value) ++ (([.slice A_8 n_9 c_10] : List Value) ++ ([.int .i64 ((gx l0_1 ((a1).toNat)).2.2)] : List Value))) 60 :: .cells b0 (([.int .i64 a0_0] : List Value) ++ ([.slice A0_1 n0_1 c0_1] : List Value)) 57 :: .sl A0_1 c0_1 n0_1 x0_1 60 3 :: (T ++ R)) := by have e_ : (([.int .u64 ((gx l0_1 ((a1).toNat)).1)] : List Value) ++ (([.slice A_8 n_9 c_10] : List Value) ++ ([.int .i64 ((gx l0_1 ((a1).toNat)).2.2)] : List Value))) = (([] : List Value)) ++ ((([.int .u64 ((gx l0_1 ((a1).toNat)).1)] : List Value) ++ (([.slice A_8 n_9 c_10] : List Value) ++ ([.int .i64 ((gx l0_1 ((a1).toNat)).2.2)] : List Value))) ++ (([] : List Value))) := (by first | rfl | simp only [List.append_assoc, List.append_nil, List.nil_append, List.cons_append]); have h_ : St w w_17 (.cells B_13 ((([] : List Value)) ++ ((([.int .u64 ((gx l0_1 ((a1).toNat)).1)] : List Value) ++ (([.slice A_8 n_9 c_10] : List Value) ++ ([.int .i64 ((gx l0_1 ((a1).toNat)).2.2)] : List Value))) ++ (([] : List Value)))) 60 :: .cells b0 (([.int .i64 a0_0] : List Value) ++ ([.slice A0_1 n0_1 c0_1] : List Value)) 57 :: .sl A0_1 c0_1 n0_1 x0_1 60 3 :: (T ++ R)) := st_18; rw [← e_] at h_; exact h_
  refine WL.nil ?_
  refine QW.then_n ?_
  refine CW.sub [(0, .pointer (some ⟨b0, 0, none⟩)), (1, .int .i64 a1), (4, .pointer (some ⟨B_13, 0, none⟩))] ⟨rfl, rfl, rfl, trivial⟩ ?_
  refine CW.seq ?_
  refine CW.region_qt 13 wide (by kernel_rfl) st_18 ?_
  refine HL.val Wanted.none (fun wq sq => (Runs.move rfl)) ?_
  refine HL.val Wanted.none (fun wq sq => (Runs.nilCheck rfl)) ?_
  refine HL.val Wanted.none (fun wq sq => (Runs.fieldAddr (off := 1) (p := 1) fld57_1 rfl rfl rfl)) ?_
  refine HL.val Wanted.none (fun wq sq => (Runs.load nagg55 rfl (sq.cell (k := 1) rfl (part_one (u := .slice A0_1 n0_1 c0_1) (pre := (([.int .i64 a0_0] : List Value))) (post := (([] : List Value))) (by first | rfl | simp only [List.append_assoc, List.append_nil, List.nil_append, List.cons_append]) (by first | rfl | simp only [List.length_append, List.length_cons, List.length_nil, iv_length]))))) ?_
  refine HL.val Wanted.none (fun wq sq => (Runs.move rfl)) ?_
  refine HL.val Wanted.none (fun wq sq => (Runs.add rfl rfl rfl)) ?_
  obtain ⟨⟨p_19, q_20, r_21⟩, H⟩ := H
  have hc_28 : n0_1 ≤ c0_1 := st_18.cap (i := 2) rfl
  have hn_29 : n0_1 = l0_1.length := hn0_1
  obtain ⟨A_22, e_25⟩ : ∃ B_, B_ = subS A0_1 ((1 : Int)).toNat c0_1 3 := ⟨_, rfl⟩
  obtain ⟨n_24, e_27⟩ : ∃ n_ : Nat, n_ = (IntKind.i64.wrap (a1 + 1)).toNat - ((1 : Int)).toNat := ⟨_, rfl⟩
  obtain ⟨c_23, e_26⟩ : ∃ c_ : Nat, c_ = c0_1 - ((1 : Int)).toNat := ⟨_, rfl⟩
  have hz_30 : n_24 = (prt l0_1 (1 : Int) (IntKind.i64.wrap (a1 + 1))).length := by rw [prt_length p_19 q_20 r_21]; exact e_27
  have hc_31 : n_24 ≤ c_23 := by have h_ := e_26; omega
  refine HL.val Wanted.none (fun wq sq => (Runs.sliceS_lh Try.underlying55 cells60 (by decide) rfl rfl rfl p_19 q_20 (by omega) e_25 e_27 e_26)) ?_
  refine HL.val Wanted.none (fun wq sq => (Runs.move rfl)) ?_
  refine HL.val Wanted.none (fun wq sq => (Runs.nilCheck rfl)) ?_
  refine HL.val Wanted.none (fun wq sq => (Runs.fieldAddr (off := 1) (p := 1) fld57_1 rfl rfl rfl)) ?_
  refine HL.val Wanted.none (fun wq sq => (Runs.load nagg55 rfl (sq.cell (k := 1) rfl (part_one (u := .slice A0_1 n0_1 c0_1) (pre := (([.int .i64 a0_0] : List Value))) (post := (([] : List Value))) (by first | rfl | simp only [List.append_assoc, List.append_nil, List.nil_append, List.cons_append]) (by first | rfl | simp only [List.length_append, List.length_cons, List.length_nil, iv_length]))))) ?_
  refine HL.val Wanted.none (fun wq sq => (Runs.move rfl)) ?_
  obtain ⟨⟨p_32, q_33, r_34⟩, H⟩ := H
  have hc_41 : n0_1 ≤ c0_1 := st_18.cap (i := 2) rfl
  have hn_42 : n0_1 = l0_1.length := hn0_1
  obtain ⟨A_35, e_38⟩ : ∃ B_, B_ = subS A0_1 ((0 : Int)).toNat c0_1 3 := ⟨_, rfl⟩
  obtain ⟨n_37, e_40⟩ : ∃ n_ : Nat, n_ = (a1).toNat - ((0 : Int)).toNat := ⟨_, rfl⟩
  have hz_43 : n_37 = (prt l0_1 (0 : Int) a1).length := by rw [prt_length p_32 q_33 r_34]; exact e_40
  have hc_44 : n_37 ≤ c0_1 := by omega
  refine HL.val Wanted.none (fun wq sq => (Runs.sliceS_h Try.underlying55 cells60 (by decide) rfl rfl q_33 (by omega) e_38 e_40)) ?_
  refine HL.nil (fun w_45 st_46 => ?_)
  obtain ⟨hm_47, H⟩ := H
  obtain ⟨m_48, e_49, H⟩ := H
  refine WL.copyR (q := 2) (lo := ((1 : Int)).toNat) (hi := (IntKind.i64.wrap (a1 + 1)).toNat) (lo2 := ((0 : Int)).toNat) (hi2 := (a1).toNat) Wanted.none st_46 rfl Try.underlying55 siz60 (by decide) rfl rfl e_25 e_27 (by omega) (by omega) e_38 e_40 (by omega) (by omega) (by omega) (HLs.one hx0_1) ?_
  intro w_50 st_51
  obtain ⟨x_52, e_53⟩ : ∃ x_ : Cells, x_ = cpyC x0_1 (((1 : Int)).toNat) (((0 : Int)).toNat) (min ((a1).toNat - ((0 : Int)).toNat) ((IntKind.i64.wrap (a1 + 1)).toNat - ((1 : Int)).toNat)) 3 := ⟨_, rfl⟩
  have hx_54 : HRs T (f60 w) x_52 m_48 := by rw [e_53, e_49]; exact HRs.cpy hx0_1 (fz60 w) _ _ _
  have hn_55 : n0_1 = m_48.length := by rw [e_49, cpyR_length _ _ _ _ (by omega) (by omega)]; exact hn0_1
  replace st_51 : St w w_50 (.cells B_13 (([.int .u64 ((gx l0_1 ((a1).toNat)).1)] : List Value) ++ (([.slice A_8 n_9 c_10] : List Value) ++ ([.int .i64 ((gx l0_1 ((a1).toNat)).2.2)] : List Value))) 60 :: .cells b0 (([.int .i64 a0_0] : List Value) ++ ([.slice A0_1 n0_1 c0_1] : List Value)) 57 :: .sl A0_1 c0_1 n0_1 x_52 60 3 :: (T ++ R)) := by rw [e_53]; exact st_51
  refine WL.nil ?_
  refine QW.then_n ?_
  refine CW.sub [(0, .pointer (some ⟨b0, 0, none⟩)), (4, .pointer (some ⟨B_13, 0, none⟩))] ⟨rfl, rfl, trivial⟩ ?_
  refine CW.region_qt 6 wide (by kernel_rfl) st_51 ?_
  refine HL.val Wanted.none (fun wq sq => (Runs.move rfl)) ?_
  refine HL.val Wanted.none (fun wq sq => (Runs.nilCheck rfl)) ?_
  refine HL.val Wanted.none (fun wq sq => (Runs.fieldAddr (off := 1) (p := 1) fld57_1 rfl rfl rfl)) ?_
  refine HL.val Wanted.none (fun wq sq => (Runs.load nagg55 rfl (sq.cell (k := 1) rfl (part_one (u := .slice A0_1 n0_1 c0_1) (pre := (([.int .i64 a0_0] : List Value))) (post := (([] : List Value))) (by first | rfl | simp only [List.append_assoc, List.append_nil, List.nil_append, List.cons_append]) (by first | rfl | simp only [List.length_append, List.length_cons, List.length_nil, iv_length]))))) ?_
  refine HL.val Wanted.none (fun wq sq => (Runs.load_mid row60 rfl sq (i := 0) rfl (part_mid (pre := (([] : List Value))) (mid := (([.int .u64 ((gx l0_1 ((a1).toNat)).1)] : List Value) ++ (([.slice A_8 n_9 c_10] : List Value) ++ ([.int .i64 ((gx l0_1 ((a1).toNat)).2.2)] : List Value)))) (post := (([] : List Value))) (by first | rfl | simp only [List.append_assoc, List.append_nil, List.nil_append, List.cons_append]) (by first | rfl | simp only [List.length_append, List.length_cons, List.length_nil, iv_length]) (by first | rfl | simp only [List.length_append, List.length_cons, List.length_nil, iv_length])) (by first | rfl | simp only [List.length_append, List.length_cons, List.length_nil, iv_length]))) ?_
  obtain ⟨⟨p_56, q_57⟩, H⟩ := H
  obtain ⟨a_58, e_59, ms_60, hc_61, hm_62⟩ := el_get (i := 0) (st_51.src_sl (k := 2) rfl) hx_54 (fz60 w) (by decide) (by omega)
  obtain ⟨A_63, n_64, c_65, em_67, hb_66⟩ := inv60 hm_62
  replace em_67 : ms_60 = ([.int .u64 ((gx m_48 0).1)] : List Value) ++ (([.slice A_63 n_64 c_65] : List Value) ++ ([.int .i64 ((gx m_48 0).2.2)] : List Value)) := em_67
  subst em_67
  refine HL.val Wanted.none (fun wq sq => (Runs.indexAddr Try.underlying55 cells60 (by decide) rfl e_59 rfl p_56 (by rw [show n0_1 = m_48.length from hn_55]; exact q_57) (o := 0 * 3) (by first | rfl | omega))) ?_
  refine HL.nil (fun w_68 st_69 => ?_)
  obtain ⟨m_70, e_71, H⟩ := H
  have hl_78 := (hx_54).length (fz60 w)
  refine WL.storeR (i := 2) (o := 0 * 3) (ms := ([.int .u64 ((gx l0_1 ((a1).toNat)).1)] : List Value) ++ (([.slice A_8 n_9 c_10] : List Value) ++ ([.int .i64 ((gx l0_1 ((a1).toNat)).2.2)] : List Value))) st_69 rfl e_59 row60 rfl rfl rfl (by omega) (HLs.one (T := T) (xs := f60 w ((gx l0_1 ((a1).toNat)).1, (gx l0_1 ((a1).toNat)).2.1, (gx l0_1 ((a1).toNat)).2.2)) (.cons rfl (.cons ⟨_, _, _, rfl, hb_11⟩ (.cons rfl .nil)))) ?_
  intro w_72 st_73
  obtain ⟨x_75, e_76⟩ : ∃ x_ : Cells, x_ = List.take (0 * 3) x_52 ++ (([.int .u64 ((gx l0_1 ((a1).toNat)).1)] : List Value) ++ (([.slice A_8 n_9 c_10] : List Value) ++ ([.int .i64 ((gx l0_1 ((a1).toNat)).2.2)] : List Value))) ++ List.drop (0 * 3 + (([.int .u64 ((gx l0_1 ((a1).toNat)).1)] : List Value) ++ (([.slice A_8 n_9 c_10] : List Value) ++ ([.int .i64 ((gx l0_1 ((a1).toNat)).2.2)] : List Value))).length) x_52 := ⟨_, rfl⟩
  have hx_77 : HRs T (f60 w) x_75 m_70 := by rw [e_76, e_71]; exact HRs.set (ms := ([.int .u64 ((gx l0_1 ((a1).toNat)).1)] : List Value) ++ (([.slice A_8 n_9 c_10] : List Value) ++ ([.int .i64 ((gx l0_1 ((a1).toNat)).2.2)] : List Value))) hx_54 (fz60 w) (by omega) (.cons rfl (.cons ⟨_, _, _, rfl, hb_11⟩ (.cons rfl .nil)))
  have hn_74 : n0_1 = m_70.length := by rw [e_71, List.length_set]; exact hn_55
  replace st_73 : St w w_72 (.cells B_13 (([.int .u64 ((gx l0_1 ((a1).toNat)).1)] : List Value) ++ (([.slice A_8 n_9 c_10] : List Value) ++ ([.int .i64 ((gx l0_1 ((a1).toNat)).2.2)] : List Value))) 60 :: .cells b0 (([.int .i64 a0_0] : List Value) ++ ([.slice A0_1 n0_1 c0_1] : List Value)) 57 :: .sl A0_1 c0_1 n0_1 x_75 60 3 :: (T ++ R)) := by rw [e_76]; exact st_73
  refine WL.nil ?_
  obtain ⟨rfl, rfl⟩ := H
  exact QW.end0 rfl ⟨T, A0_1, n0_1, c0_1, x_75, Pl.refl, hn_74, hx_77, rfl, (St.pickT (L := [_, _, _]) st_73 [1, 2] (by decide))⟩

/-! ### buffers_Cache_Put: function 11 -/
def buffers_Cache_Put.rel (a0_0 : Int) (l0_1 : List R60) (a1 : Int) (l2 : List Int) (as0_0 : Int) (ls0_1 : List R60) (ar0 : Int) : Prop := (((l2.length : Int) ≠ 160 ∧ as0_0 = a0_0 ∧ ls0_1 = l0_1 ∧ ar0 = 1) ∨ (¬ ((l2.length : Int) ≠ 160) ∧ (∃ (a_7_0 : Int) (l_11_1 : List R60) (a_16 : Int), buffers_Cache_find.rel a0_0 l0_1 a1 a_7_0 l_11_1 a_16 ∧ ((a_16 < 0 ∧ (∃ (a_26_0 : Int) (l_30_1 : List R60) (a_35 : Bool), buffers_Cache_room.rel a_7_0 l_11_1 a_26_0 l_30_1 a_35 ∧ ((¬ (a_35 = true) ∧ as0_0 = a_26_0 ∧ ls0_1 = l_30_1 ∧ ar0 = 17) ∨ (¬ (¬ (a_35 = true)) ∧ (∃ m_55 : List R60, m_55 = l_30_1 ++ ([(a1, [], 0)] : List R60) ∧ (m_55.length ≤ 1099511627776 ∧ (∃ (r_75 : List Int), slices_Clone_s_byte_byte.rel l2 r_75 ∧ ((0 ≤ (IntKind.i64.wrap ((m_55.length : Int) - 1)) ∧ (IntKind.i64.wrap ((m_55.length : Int) - 1)) < (m_55.length : Int)) ∧ (∃ m_98 : List R60, m_98 = List.set m_55 ((IntKind.i64.wrap ((m_55.length : Int) - 1)).toNat) ((gx m_55 ((IntKind.i64.wrap ((m_55.length : Int) - 1)).toNat)).1, r_75, (gx m_55 ((IntKind.i64.wrap ((m_55.length : Int) - 1)).toNat)).2.2) ∧ (∃ (a_112_0 : Int) (l_116_1 : List R60), buffers_Cache_front.rel a_26_0 m_98 (IntKind.i64.wrap ((m_55.length : Int) - 1)) a_112_0 l_116_1 ∧ as0_0 = a_112_0 ∧ ls0_1 = l_116_1 ∧ ar0 = 0)))))))))) ∨ (¬ (a_16 < 0) ∧ (∃ (r_129 : List Int), slices_Clone_s_byte_byte.rel l2 r_129 ∧ ((0 ≤ a_16 ∧ a_16 < (l_11_1.length : Int)) ∧ (∃ m_152 : List R60, m_152 = List.set l_11_1 ((a_16).toNat) ((gx l_11_1 ((a_16).toNat)).1, r_129, (gx l_11_1 ((a_16).toNat)).2.2) ∧ (∃ (a_165_0 : Int) (l_169_1 : List R60), buffers_Cache_front.rel a_7_0 m_152 a_16 a_165_0 l_169_1 ∧ as0_0 = a_165_0 ∧ ls0_1 = l_169_1 ∧ ar0 = 0)))))))))
set_option maxHeartbeats 1000000 in
set_option maxRecDepth 100000 in
theorem buffers_Cache_Put.calls (w w1 : World) (T R : Pool) (a0_0 : Int) (l0_1 : List R60) (a1 : Int) (l2 : List Int) (b0 : Nat) (A0_1 : Option Addr) (n0_1 : Nat) (c0_1 : Nat) (x0_1 : Cells) (A2 : Option Addr) (n2 : Nat) (c2 : Nat) (hT : celly T = true) (hR : celly R = true) (st0 : St w w1 (.cells b0 (([.int .i64 a0_0] : List Value) ++ ([.slice A0_1 n0_1 c0_1] : List Value)) 57 :: .sl A0_1 c0_1 n0_1 x0_1 60 3 :: (T ++ R))) (hn0_1 : n0_1 = l0_1.length) (hx0_1 : HRs T (f60 w) x0_1 l0_1) (hb2 : HB w (T ++ R) A2 n2 c2 (iv .u8 l2) l2.length) (as0_0 : Int) (ls0_1 : List R60) (ar0 : Int) (H : buffers_Cache_Put.rel a0_0 l0_1 a1 l2 as0_0 ls0_1 ar0) :
    Calls Try.prog 11 #[.pointer (some ⟨b0, 0, none⟩), .int .u64 a1, .slice A2 n2 c2] w1 fun e w' => ∃ T' As0_1 ns0_1 cs0_1 xs0_1, Pl T T' ∧ ns0_1 = ls0_1.length ∧ HRs T' (f60 w) xs0_1 ls0_1 ∧ e = .returned (.int .i64 ar0) ∧ St w w' (.cells b0 (([.int .i64 as0_0] : List Value) ++ ([.slice As0_1 ns0_1 cs0_1] : List Value)) 57 :: .sl As0_1 cs0_1 ns0_1 xs0_1 60 3 :: (T' ++ R)) := by
  refine CW.enter Try.func11 rfl (n := 52) rfl [.pointer (some ⟨b0, 0, none⟩), .int .u64 a1, .slice A2 n2 c2] (Nat.le_of_ble_eq_true rfl) ?_
  refine CW.sub [(0, .pointer (some ⟨b0, 0, none⟩)), (1, .int .u64 a1), (2, .slice A2 n2 c2)] ⟨rfl, rfl, rfl, trivial⟩ ?_
  refine CW.seq ?_
  refine CW.region ?_
  refine WL.val Wanted.none (Runs.assign rfl) ?_
  refine WL.nil ?_
  refine QW.then_n ?_
  refine CW.seq ?_
  refine CW.seq ?_
  refine CW.region ?_
  refine WL.val Wanted.none (Runs.move rfl) ?_
  refine WL.val Wanted.none (Runs.eql_ptr Try.underlying25 rfl rfl rfl) ?_
  refine WL.val Wanted.none (Runs.move rfl) ?_
  refine WL.on ?_ ?_; exact Wanted.guard (dj := 10) (by rfl) (by rfl) (by rfl)
  refine WL.val Wanted.none (Runs.move rfl) ?_
  refine WL.on ?_ ?_; exact Wanted.guard (dj := 10) (by rfl) (by rfl) (by rfl)
  refine WL.val Wanted.none (Runs.len_sl Try.underlying22 rfl (by rw [hb2.1])) ?_
  refine WL.on ?_ ?_; exact Wanted.guard (dj := 10) (by rfl) (by rfl) (by rfl)
  refine WL.val Wanted.none (Runs.neq rfl rfl rfl) ?_
  refine WL.val Wanted.none (Runs.pick_f rfl rfl) ?_
  refine WL.nil ?_
  refine QW.then_n ?_
  refine CW.sub [(0, .pointer (some ⟨b0, 0, none⟩)), (1, .int .u64 a1), (2, .slice A2 n2 c2), (6, .int .i64 0), (14, .bool ((l2.length : Int) != 160))] ⟨rfl, rfl, rfl, rfl, rfl, trivial⟩ ?_
  rcases H with ⟨c_1, H⟩ | ⟨c_1, H⟩
  · have h_2 : ((l2.length : Int) != 160) = true := (bne_iff_ne.mpr c_1)
    refine CW.ct rfl h_2 ?_
    refine CW.seq ?_
    refine CW.region ?_
    refine WL.val Wanted.none (Runs.assign rfl) ?_
    refine WL.nil ?_
    refine QW.then_n ?_
    refine CW.ret ?_
    refine QW.then_r ?_
    obtain ⟨rfl, rfl, rfl⟩ := H
    exact QW.ret1 rfl rfl ⟨T, A0_1, n0_1, c0_1, x0_1, Pl.refl, hn0_1, hx0_1, rfl, (St.pickT (L := [_, _]) st0 [0, 1] (by decide))⟩
  · have h_2 : ((l2.length : Int) != 160) = false := (bne_eq_false_iff_eq.mpr (Decidable.not_not.mp c_1))
    refine CW.cf rfl h_2 ?_
    refine CW.skip ?_
    refine QW.then_n ?_
    refine CW.seq ?_
    refine CW.region ?_
    refine WL.val Wanted.none (Runs.move rfl) ?_
    refine WL.val Wanted.none (Runs.move rfl) ?_
    have st_3 : St w w1 (.cells b0 (([.int .i64 a0_0] : List Value) ++ ([.slice A0_1 n0_1 c0_1] : List Value)) 57 :: .sl A0_1 c0_1 n0_1 x0_1 60 3 :: (T ++ (R))) := St.hide (A := [_, _]) (B := []) (T := T) (R := R) st0
    obtain ⟨a_7_0, l_11_1, a_16, hr_4, H⟩ := H
    refine WL.call Wanted.none ent22 rfl (buffers_Cache_find.calls w w1 T (R) a0_0 l0_1 a1 b0 A0_1 n0_1 c0_1 x0_1  st_3 (hn0_1) hx0_1 a_7_0 l_11_1 a_16 hr_4) ?_
    rintro _ w_17 ⟨T_5, A_8_1, n_9_1, c_10_1, x_12_1, hs_6, hn_13_1, hx_14_1, rfl, sc_19⟩
    have st_18 : St w w_17 (.cells b0 (([.int .i64 a_7_0] : List Value) ++ ([.slice A_8_1 n_9_1 c_10_1] : List Value)) 57 :: .sl A_8_1 c_10_1 n_9_1 x_12_1 60 3 :: (T_5 ++ R)) := St.unhide (A := [_, _]) (B := []) (T := T_5) (R := R) sc_19
    refine ⟨_, rfl, ?_⟩
    refine WL.val Wanted.none (Runs.assign rfl) ?_
    refine WL.nil ?_
    refine QW.then_n ?_
    refine CW.seq ?_
    refine CW.seq ?_
    refine CW.region ?_
    refine WL.val Wanted.none (Runs.move rfl) ?_
    refine WL.val Wanted.none (Runs.lss rfl rfl rfl) ?_
    refine WL.nil ?_
    refine QW.then_n ?_
    rcases H with ⟨c_20, H⟩ | ⟨c_20, H⟩
    · have h_21 : (decide (a_16 < 0)) = true := (decide_eq_true c_20)
      refine CW.ct rfl h_21 ?_
      refine CW.seq ?_
      refine CW.seq ?_
      refine CW.region ?_
      refine WL.val Wanted.none (Runs.move rfl) ?_
      have st_22 : St w w_17 (.cells b0 (([.int .i64 a_7_0] : List Value) ++ ([.slice A_8_1 n_9_1 c_10_1] : List Value)) 57 :: .sl A_8_1 c_10_1 n_9_1 x_12_1 60 3 :: (T_5 ++ (R))) := St.hide (A := [_, _]) (B := []) (T := T_5) (R := R) st_18
      obtain ⟨a_26_0, l_30_1, a_35, hr_23, H⟩ := H
      refine WL.call Wanted.none ent23 rfl (buffers_Cache_room.calls w w_17 T_5 (R) a_7_0 l_11_1 b0 A_8_1 n_9_1 c_10_1 x_12_1 (hs_6.2 hT) (show celly (R) = true from hR) st_22 (hn_13_1) hx_14_1 a_26_0 l_30_1 a_35 hr_23) ?_
      rintro _ w_36 ⟨T_24, A_27_1, n_28_1, c_29_1, x_31_1, hs_25, hn_32_1, hx_33_1, rfl, sc_38⟩
      have st_37 : St w w_36 (.cells b0 (([.int .i64 a_26_0] : List Value) ++ ([.slice A_27_1 n_28_1 c_29_1] : List Value)) 57 :: .sl A_27_1 c_29_1 n_28_1 x_31_1 60 3 :: (T_24 ++ R)) := St.unhide (A := [_, _]) (B := []) (T := T_24) (R := R) sc_38
      refine ⟨_, rfl, ?_⟩
      refine WL.val Wanted.none (Runs.not rfl rfl) ?_
      refine WL.nil ?_
      refine QW.then_n ?_
      refine CW.sub [(0, .pointer (some ⟨b0, 0, none⟩)), (1, .int .u64 a1), (2, .slice A2 n2 c2), (6, .int .i64 0), (7, .int .i64 a_16), (22, .bool (!a_35))] ⟨rfl, rfl, rfl, rfl, rfl, rfl, trivial⟩ ?_
      rcases H with ⟨c_39, H⟩ | ⟨c_39, H⟩
      · have h_40 : (!a_35) = true := (not_t (Bool.eq_false_iff.mpr c_39))
        refine CW.ct rfl h_40 ?_
        refine CW.seq ?_
        refine CW.region ?_
        refine WL.val Wanted.none (Runs.assign rfl) ?_
        refine WL.nil ?_
        refine QW.then_n ?_
        refine CW.ret ?_
        refine QW.then_r ?_
        refine QW.then_r ?_
        obtain ⟨rfl, rfl, rfl⟩ := H
        exact QW.ret1 rfl rfl ⟨T_24, A_27_1, n_28_1, c_29_1, x_31_1, (hs_6.trans hs_25), hn_32_1, hx_33_1, rfl, (St.pickT (L := [_, _]) st_37 [0, 1] (by decide))⟩
      · have h_40 : (!a_35) = false := (not_f (Decidable.not_not.mp c_39))
        refine CW.cf rfl h_40 ?_
        refine CW.skip ?_
        refine QW.then_n ?_
        refine CW.seq ?_
        refine CW.region ?_
        refine WL.val Wanted.none (Runs.move rfl) ?_
        refine WL.val Wanted.none (Runs.move rfl) ?_
        refine WL.val Wanted.none (Runs.nilCheck rfl) ?_
        refine WL.val Wanted.none (Runs.fieldAddr (off := 1) (p := 1) fld57_1 rfl rfl rfl) ?_
        refine WL.val Wanted.none (Runs.load nagg55 rfl (st_37.cell (k := 0) rfl (part_one (u := .slice A_27_1 n_28_1 c_29_1) (pre := (([.int .i64 a_26_0] : List Value))) (post := (([] : List Value))) (by first | rfl | simp only [List.append_assoc, List.append_nil, List.nil_append, List.cons_append]) (by first | rfl | simp only [List.length_append, List.length_cons, List.length_nil, iv_length])))) ?_
        refine WL.val Wanted.none (Runs.move rfl) ?_
        refine WL.val Wanted.none (Runs.build_struct (ps := [(0, 1), (1, 1), (2, 1)]) (cs := (([.int .u64 a1] : List Value) ++ (([.slice none 0 0] : List Value) ++ ([.int .i64 0] : List Value)))) plc60 zero60 rfl (by refine Fills.cons (o := 0) (ms := (([.int .u64 a1] : List Value))) (show _ = some (0, (([.int .u64 a1] : List Value)).length) by rw [show (([.int .u64 a1] : List Value)).length = 1 from (by first | rfl | simp only [List.length_append, List.length_cons, List.length_nil, iv_length])] <;> rfl) rfl (by have h1_ : (([.int .u64 a1] : List Value)).length = 1 := (by first | rfl | simp only [List.length_append, List.length_cons, List.length_nil, iv_length]); have h2_ : (([.int .u64 0] : List Value) ++ (([.slice none 0 0] : List Value) ++ ([.int .i64 0] : List Value))).length = 3 := (by first | rfl | simp only [List.length_append, List.length_cons, List.length_nil, iv_length]); omega) ?_; rw [show layV (([.int .u64 0] : List Value) ++ (([.slice none 0 0] : List Value) ++ ([.int .i64 0] : List Value))) 0 (([.int .u64 a1] : List Value)) = (([.int .u64 a1] : List Value) ++ (([.slice none 0 0] : List Value) ++ ([.int .i64 0] : List Value))) from (layV_mid (pre := (([] : List Value))) (mid := (([.int .u64 0] : List Value))) (post := (([.slice none 0 0] : List Value) ++ ([.int .i64 0] : List Value))) (by first | rfl | simp only [List.append_assoc, List.append_nil, List.nil_append, List.cons_append]) (by first | rfl | simp only [List.length_append, List.length_cons, List.length_nil, iv_length]) (Eq.trans (b := 1) (by first | rfl | simp only [List.length_append, List.length_cons, List.length_nil, iv_length]) (Eq.symm (by first | rfl | simp only [List.length_append, List.length_cons, List.length_nil, iv_length])))).trans (by first | rfl | simp only [List.append_assoc, List.append_nil, List.nil_append, List.cons_append])]; exact Fills.nil)) ?_
        obtain ⟨ii_41, z_42, h_43, h_44, h_45, h_46⟩ := slr60_1
        refine WL.buildSlRows (sz := 3) (cs := (([.int .u64 a1] : List Value) ++ (([.slice none 0 0] : List Value) ++ ([.int .i64 0] : List Value)))) st_37 Try.underlying55 h_43 h_44 h_45 (by decide) (by decide) h_46 rfl (by refine Fills.cons (o := 0) (ms := (([.int .u64 a1] : List Value) ++ (([.slice none 0 0] : List Value) ++ ([.int .i64 0] : List Value)))) (show _ = some (0, (([.int .u64 a1] : List Value) ++ (([.slice none 0 0] : List Value) ++ ([.int .i64 0] : List Value))).length) by rw [show (([.int .u64 a1] : List Value) ++ (([.slice none 0 0] : List Value) ++ ([.int .i64 0] : List Value))).length = 3 from (by first | rfl | simp only [List.length_append, List.length_cons, List.length_nil, iv_length])] <;> rfl) rfl (by have h1_ : (([.int .u64 a1] : List Value) ++ (([.slice none 0 0] : List Value) ++ ([.int .i64 0] : List Value))).length = 3 := (by first | rfl | simp only [List.length_append, List.length_cons, List.length_nil, iv_length]); have h2_ : (([.int .u64 0] : List Value) ++ (([.slice none 0 0] : List Value) ++ ([.int .i64 0] : List Value))).length = 3 := (by first | rfl | simp only [List.length_append, List.length_cons, List.length_nil, iv_length]); omega) ?_; rw [show layV (([.int .u64 0] : List Value) ++ (([.slice none 0 0] : List Value) ++ ([.int .i64 0] : List Value))) 0 (([.int .u64 a1] : List Value) ++ (([.slice none 0 0] : List Value) ++ ([.int .i64 0] : List Value))) = (([.int .u64 a1] : List Value) ++ (([.slice none 0 0] : List Value) ++ ([.int .i64 0] : List Value))) from (layV_mid (pre := (([] : List Value))) (mid := (([.int .u64 0] : List Value) ++ (([.slice none 0 0] : List Value) ++ ([.int .i64 0] : List Value)))) (post := (([] : List Value))) (by first | rfl | simp only [List.append_assoc, List.append_nil, List.nil_append, List.cons_append]) (by first | rfl | simp only [List.length_append, List.length_cons, List.length_nil, iv_length]) (Eq.trans (b := 3) (by first | rfl | simp only [List.length_append, List.length_cons, List.length_nil, iv_length]) (Eq.symm (by first | rfl | simp only [List.length_append, List.length_cons, List.length_nil, iv_length])))).trans (by first | rfl | simp only [List.append_assoc, List.append_nil, List.nil_append, List.cons_append])]; exact Fills.nil) ?_
        intro B_47 w_48 st_49
        replace st_49 : St w w_48 (.cells B_47 (([.int .u64 a1] : List Value) ++ (([.slice none 0 0] : List Value) ++ ([.int .i64 0] : List Value))) 60 :: .cells b0 (([.int .i64 a_26_0] : List Value) ++ ([.slice A_27_1 n_28_1 c_29_1] : List Value)) 57 :: .sl A_27_1 c_29_1 n_28_1 x_31_1 60 3 :: (T_24 ++ R)) := st_49
        have st_51 := St.rows_sl (i := 0) (m := 1) (size := 3) st_49 rfl rfl (by decide)
        obtain ⟨x_52, e_53⟩ : ∃ x_ : Cells, x_ = ([.int .u64 a1] : List Value) ++ (([.slice none 0 0] : List Value) ++ ([.int .i64 0] : List Value)) := ⟨_, rfl⟩
        have hx_54 : HRs T_24 (f60 w) x_52 ([(a1, [], 0)] : List R60) := by rw [e_53]; exact (HRs.one (.cons rfl (.cons ⟨_, _, _, rfl, (by first | exact HB.nil | exact HS.nil)⟩ (.cons rfl .nil))))
        replace st_51 : St w w_48 (.sl (some ⟨B_47, 0, none⟩) 1 1 x_52 60 3 :: .cells b0 (([.int .i64 a_26_0] : List Value) ++ ([.slice A_27_1 n_28_1 c_29_1] : List Value)) 57 :: .sl A_27_1 c_29_1 n_28_1 x_31_1 60 3 :: (T_24 ++ R)) := by rw [e_53]; exact st_51
        obtain ⟨m_55, e_56, H⟩ := H
        obtain ⟨z_57, H⟩ := H
        obtain ⟨n_60, hn_63⟩ : ∃ n_ : Nat, n_ = m_55.length := ⟨_, rfl⟩
        refine WL.appendR (i := 2) (N := n_60) (news := x_52) Wanted.none st_51 rfl Try.underlying55 elemS60 rfl rfl (st_51.src_sl (k := 0) rfl) (by have h1_ := (hx_54).length (fz60 w); have h2_ : 1 = ([(a1, [], 0)] : List R60).length := rfl; rw [h1_, h2_]) (HLs.one hx_54) (by decide) (by have h1_ : n_28_1 = l_30_1.length := hn_32_1; have h2_ : 1 = ([(a1, [], 0)] : List R60).length := rfl; rw [hn_63, e_56, List.length_append]; omega) (by rw [hn_63]; exact z_57) ?_
        intro A_58 c_59 w_61 st_62
        obtain ⟨x_64, e_65⟩ : ∃ x_ : Cells, x_ = x_31_1 ++ x_52 := ⟨_, rfl⟩
        have hx_66 : HRs T_24 (f60 w) x_64 m_55 := by rw [e_65, e_56]; exact HRs.append hx_33_1 hx_54
        replace st_62 : St w w_61 (.sl (some ⟨B_47, 0, none⟩) 1 1 x_52 60 3 :: .cells b0 (([.int .i64 a_26_0] : List Value) ++ ([.slice A_27_1 n_28_1 c_29_1] : List Value)) 57 :: .sl A_58 c_59 n_60 x_64 60 3 :: (T_24 ++ R)) := by rw [e_65]; exact st_62
        refine WL.val Wanted.none (Runs.nilCheck rfl) ?_
        refine WL.val Wanted.none (Runs.fieldAddr (off := 1) (p := 1) fld57_1 rfl rfl rfl) ?_
        refine WL.store_one (i := 1) (u0 := .slice A_27_1 n_28_1 c_29_1) (pre := (([.int .i64 a_26_0] : List Value))) (post := (([] : List Value))) st_62 rfl cells55 (by first | rfl | simp only [List.append_assoc, List.append_nil, List.nil_append, List.cons_append]) (by first | rfl | simp only [List.length_append, List.length_cons, List.length_nil, iv_length]) rfl rfl rfl ?_
        intro w_67 st_68
        replace st_68 : St w w_67 (.sl (some ⟨B_47, 0, none⟩) 1 1 x_52 60 3 :: .cells b0 (([.int .i64 a_26_0] : List Value) ++ ([.slice A_58 n_60 c_59] : List Value)) 57 :: .sl A_58 c_59 n_60 x_64 60 3 :: (T_24 ++ R)) := by have e_ : (([.int .i64 a_26_0] : List Value) ++ ([.slice A_58 n_60 c_59] : List Value)) = (([.int .i64 a_26_0] : List Value)) ++ ((([.slice A_58 n_60 c_59] : List Value)) ++ (([] : List Value))) := (by first | rfl | simp only [List.append_assoc, List.append_nil, List.nil_append, List.cons_append]); have h_ : St w w_67 (.sl (some ⟨B_47, 0, none⟩) 1 1 x_52 60 3 :: .cells b0 ((([.int .i64 a_26_0] : List Value)) ++ ((([.slice A_58 n_60 c_59] : List Value)) ++ (([] : List Value)))) 57 :: .sl A_58 c_59 n_60 x_64 60 3 :: (T_24 ++ R)) := st_68; rw [← e_] at h_; exact h_
        refine WL.nil ?_
        refine QW.then_n ?_
        refine CW.sub [(0, .pointer (some ⟨b0, 0, none⟩)), (2, .slice A2 n2 c2), (6, .int .i64 0), (7, .int .i64 a_16)] ⟨rfl, rfl, rfl, rfl, trivial⟩ ?_
        refine CW.region ?_
        refine WL.val Wanted.none (Runs.move rfl) ?_
        refine WL.val Wanted.none (Runs.nilCheck rfl) ?_
        refine WL.val Wanted.none (Runs.fieldAddr (off := 1) (p := 1) fld57_1 rfl rfl rfl) ?_
        refine WL.val Wanted.none (Runs.load nagg55 rfl (st_68.cell (k := 1) rfl (part_one (u := .slice A_58 n_60 c_59) (pre := (([.int .i64 a_26_0] : List Value))) (post := (([] : List Value))) (by first | rfl | simp only [List.append_assoc, List.append_nil, List.nil_append, List.cons_append]) (by first | rfl | simp only [List.length_append, List.length_cons, List.length_nil, iv_length])))) ?_
        refine WL.val Wanted.none (Runs.len_sl Try.underlying55 rfl (by rw [hn_63])) ?_
        refine WL.val Wanted.none (Runs.sub rfl rfl rfl) ?_
        refine WL.val Wanted.none (Runs.assign rfl) ?_
        refine WL.nil ?_
        refine QW.then_n ?_
        refine CW.sub [(0, .pointer (some ⟨b0, 0, none⟩)), (2, .slice A2 n2 c2), (6, .int .i64 0), (7, .int .i64 (IntKind.i64.wrap ((m_55.length : Int) - 1)))] ⟨rfl, rfl, rfl, rfl, trivial⟩ ?_
        refine CW.seq ?_
        refine CW.region_awh (C := fun w_ => St w w_ (.sl (some ⟨B_47, 0, none⟩) 1 1 x_52 60 3 :: .cells b0 (([.int .i64 a_26_0] : List Value) ++ ([.slice A_58 n_60 c_59] : List Value)) 57 :: .sl A_58 c_59 n_60 x_64 60 3 :: (T_24 ++ R))) 7 wide (by kernel_rfl) st_68 (fun w_69 st_70 => ?_)
        refine AWH.take 0 rfl (by decide) (by kernel_rfl) (by kernel_rfl) st_70 Wanted.none (fun wq sq => (Runs.move rfl)) ?_
        refine AWH.take 1 rfl (by decide) (by kernel_rfl) (by kernel_rfl) st_70 Wanted.none (fun wq sq => (Runs.nilCheck rfl)) ?_
        refine AWH.take 2 rfl (by decide) (by kernel_rfl) (by kernel_rfl) st_70 Wanted.none (fun wq sq => (Runs.fieldAddr (off := 1) (p := 1) fld57_1 rfl rfl rfl)) ?_
        refine AWH.take 3 rfl (by decide) (by kernel_rfl) (by kernel_rfl) st_70 Wanted.none (fun wq sq => (Runs.load nagg55 rfl (sq.cell (k := 1) rfl (part_one (u := .slice A_58 n_60 c_59) (pre := (([.int .i64 a_26_0] : List Value))) (post := (([] : List Value))) (by first | rfl | simp only [List.append_assoc, List.append_nil, List.nil_append, List.cons_append]) (by first | rfl | simp only [List.length_append, List.length_cons, List.length_nil, iv_length]))))) ?_
        refine AWH.take 4 rfl (by decide) (by kernel_rfl) (by kernel_rfl) st_70 Wanted.none (fun wq sq => (Runs.move rfl)) ?_
        refine AWH.take 5 rfl (by decide) (by kernel_rfl) (by kernel_rfl) st_70 Wanted.none (fun wq sq => (Runs.move rfl)) ?_
        refine AWH.step 6 rfl (by decide) (by kernel_rfl) (fun inv_ hs_ hk_ hc_ hn_ => ?_)
        obtain ⟨r_75, hr_71, H⟩ := H
        refine WL.call Wanted.none ent24 rfl (slices_Clone_s_byte_byte.calls w_69 l2 A2 n2 c2 ((hb2.2.2.at st_70 (mem_TR (A := [_, _, _]) (fun _ h_ => hs_25.1 _ (hs_6.1 _ h_))))) (hb2.1) (hb2.2.1) r_75 hr_71) ?_
        rintro _ w_72 ⟨A_76, c_77, n_78, hn_79, rfl, sc_74⟩
        have st_73 : St w w_72 (.sl A_76 c_77 n_78 (iv .u8 r_75) 5 1 :: .sl (some ⟨B_47, 0, none⟩) 1 1 x_52 60 3 :: .cells b0 (([.int .i64 a_26_0] : List Value) ++ ([.slice A_58 n_60 c_59] : List Value)) 57 :: .sl A_58 c_59 n_60 x_64 60 3 :: (T_24 ++ R)) := st_70.call sc_74
        refine ⟨_, rfl, ?_⟩
        refine WL.nil ?_
        refine AWH.back (St.subset st_70 st_73 (List.forall_mem_cons.2 ⟨List.mem_of_getElem? (i := 1) rfl, (List.forall_mem_cons.2 ⟨List.mem_of_getElem? (i := 2) rfl, (List.forall_mem_cons.2 ⟨List.mem_of_getElem? (i := 3) rfl, (mem_TR (A := [_, _, _, _]) (fun _ h_ => h_))⟩)⟩)⟩)) inv_ hs_ hk_ hc_ hn_ ?_
        refine AWH.tail (by kernel_rfl) ?_
        obtain ⟨⟨p_81, q_82⟩, H⟩ := H
        obtain ⟨a_83, e_84, ms_85, hc_86, hm_87⟩ := el_get (i := (IntKind.i64.wrap ((m_55.length : Int) - 1)).toNat) (st_73.src_sl (k := 3) rfl) hx_66 (fz60 w) (by decide) (by omega)
        obtain ⟨A_88, n_89, c_90, em_92, hb_91⟩ := inv60 hm_87
        replace em_92 : ms_85 = ([.int .u64 ((gx m_55 ((IntKind.i64.wrap ((m_55.length : Int) - 1)).toNat)).1)] : List Value) ++ (([.slice A_88 n_89 c_90] : List Value) ++ ([.int .i64 ((gx m_55 ((IntKind.i64.wrap ((m_55.length : Int) - 1)).toNat)).2.2)] : List Value)) := em_92
        subst em_92
        refine AW.take 7 rfl (by kernel_rfl) (by kernel_rfl) (by kernel_rfl) Wanted.none (fun _ => (Runs.indexAddr Try.underlying55 cells60 (by decide) rfl e_84 rfl p_81 (by rw [show n_60 = m_55.length from hn_63]; exact q_82) (o := ((IntKind.i64.wrap ((m_55.length : Int) - 1)).toNat) * 3) (by first | rfl | omega))) ?_
        refine AW.take 8 rfl (by kernel_rfl) (by kernel_rfl) (by kernel_rfl) Wanted.none (fun _ => (Runs.fieldAddrB (off := 1) fld60_1 rfl rfl rfl)) ?_
        refine AW.step 9 rfl (by kernel_rfl) ?_
        have hb_97c := st_73.cap (i := 0) rfl
        obtain ⟨T_93, hs_94, hm_95, st_96⟩ := St.freeze (A := []) (B := [_, _, _]) (T := T_24) (R := R) st_73
        have hb_97 : HB w T_93 A_76 n_78 c_77 (iv .u8 r_75) r_75.length := ⟨hn_79, hb_97c, Hd.of_sl hm_95⟩
        replace st_96 : St w w_72 (.sl (some ⟨B_47, 0, none⟩) 1 1 x_52 60 3 :: .cells b0 (([.int .i64 a_26_0] : List Value) ++ ([.slice A_58 n_60 c_59] : List Value)) 57 :: .sl A_58 c_59 n_60 x_64 60 3 :: (T_93 ++ R)) := st_96
        obtain ⟨m_98, e_99, H⟩ := H
        have hl_106 := ((hx_66.mono (fun _ h_ => hs_94.1 _ h_))).length (fz60 w)
        refine WL.storeF (i := 2) (o := ((IntKind.i64.wrap ((m_55.length : Int) - 1)).toNat) * 3) (f := 1) st_96 rfl e_84 cells22 rfl rfl (by omega) rfl ?_
        intro w_100 st_101
        obtain ⟨x_103, e_104⟩ : ∃ x_ : Cells, x_ = List.set x_64 (((IntKind.i64.wrap ((m_55.length : Int) - 1)).toNat) * 3 + 1) (.slice A_76 n_78 c_77) := ⟨_, rfl⟩
        have hx_105 : HRs T_93 (f60 w) x_103 m_98 := by rw [e_104, e_99]; exact HRs.setF (j := 1) (u := .slice A_76 n_78 c_77) (hx_66.mono (fun _ h_ => hs_94.1 _ h_)) (fz60 w) (by omega) (by decide) hc_86 (.cons rfl (.cons ⟨_, _, _, rfl, hb_97⟩ (.cons rfl .nil)))
        have hn_102 : n_60 = m_98.length := by rw [e_99, List.length_set]; exact hn_63
        replace st_101 : St w w_100 (.sl (some ⟨B_47, 0, none⟩) 1 1 x_52 60 3 :: .cells b0 (([.int .i64 a_26_0] : List Value) ++ ([.slice A_58 n_60 c_59] : List Value)) 57 :: .sl A_58 c_59 n_60 x_103 60 3 :: (T_93 ++ R)) := by rw [e_104]; exact st_101
        refine WL.nil ?_
        refine AW.back  ?_
        refine AW.done (by kernel_rfl) ?_
        refine QW.then_n ?_
        refine CW.sub [(0, .pointer (some ⟨b0, 0, none⟩)), (6, .int .i64 0), (7, .int .i64 (IntKind.i64.wrap ((m_55.length : Int) - 1)))] ⟨rfl, rfl, rfl, trivial⟩ ?_
        refine CW.seq ?_
        refine CW.region ?_
        refine WL.val Wanted.none (Runs.move rfl) ?_
        refine WL.val Wanted.none (Runs.move rfl) ?_
        have st_107 := (St.pickT (L := [_, _, _]) st_101 [1, 2, 0] (by decide))
        replace st_107 : St w w_100 (.cells b0 (([.int .i64 a_26_0] : List Value) ++ ([.slice A_58 n_60 c_59] : List Value)) 57 :: .sl A_58 c_59 n_60 x_103 60 3 :: .sl (some ⟨B_47, 0, none⟩) 1 1 x_52 60 3 :: (T_93 ++ R)) := st_107
        have st_108 : St w w_100 (.cells b0 (([.int .i64 a_26_0] : List Value) ++ ([.slice A_58 n_60 c_59] : List Value)) 57 :: .sl A_58 c_59 n_60 x_103 60 3 :: (T_93 ++ (.sl (some ⟨B_47, 0, none⟩) 1 1 x_52 60 3 :: R))) := St.hide (A := [_, _]) (B := [_]) (T := T_93) (R := R) st_107
        obtain ⟨a_112_0, l_116_1, hr_109, H⟩ := H
        refine WL.call Wanted.none ent25 rfl (buffers_Cache_front.calls w w_100 T_93 (.sl (some ⟨B_47, 0, none⟩) 1 1 x_52 60 3 :: R) a_26_0 m_98 (IntKind.i64.wrap ((m_55.length : Int) - 1)) b0 A_58 n_60 c_59 x_103  st_108 (hn_102) hx_105 a_112_0 l_116_1 hr_109) ?_
        rintro _ w_120 ⟨T_110, A_113_1, n_114_1, c_115_1, x_117_1, hs_111, hn_118_1, hx_119_1, rfl, sc_122⟩
        have st_121 : St w w_120 (.cells b0 (([.int .i64 a_112_0] : List Value) ++ ([.slice A_113_1 n_114_1 c_115_1] : List Value)) 57 :: .sl A_113_1 c_115_1 n_114_1 x_117_1 60 3 :: .sl (some ⟨B_47, 0, none⟩) 1 1 x_52 60 3 :: (T_110 ++ R)) := St.unhide (A := [_, _]) (B := [_]) (T := T_110) (R := R) sc_122
        refine ⟨_, rfl, ?_⟩
        refine WL.nil ?_
        refine QW.then_n ?_
        refine CW.seq ?_
        refine CW.region ?_
        refine WL.val Wanted.none (Runs.assign rfl) ?_
        refine WL.nil ?_
        refine QW.then_n ?_
        refine CW.ret ?_
        obtain ⟨rfl, rfl, rfl⟩ := H
        exact QW.ret1 rfl rfl ⟨T_110, A_113_1, n_114_1, c_115_1, x_117_1, (((hs_6.trans hs_25).trans hs_94).trans hs_111), hn_118_1, hx_119_1, rfl, (St.pickT (L := [_, _, _]) st_121 [0, 1] (by decide))⟩
    · have h_21 : (decide (a_16 < 0)) = false := (decide_eq_false c_20)
      refine CW.cf rfl h_21 ?_
      refine CW.skip ?_
      refine QW.then_n ?_
      refine CW.sub [(0, .pointer (some ⟨b0, 0, none⟩)), (2, .slice A2 n2 c2), (6, .int .i64 0), (7, .int .i64 a_16)] ⟨rfl, rfl, rfl, rfl, trivial⟩ ?_
      refine CW.seq ?_
      refine CW.region_awh (C := fun w_ => St w w_ (.cells b0 (([.int .i64 a_7_0] : List Value) ++ ([.slice A_8_1 n_9_1 c_10_1] : List Value)) 57 :: .sl A_8_1 c_10_1 n_9_1 x_12_1 60 3 :: (T_5 ++ R))) 7 wide (by kernel_rfl) st_18 (fun w_123 st_124 => ?_)
      refine AWH.take 0 rfl (by decide) (by kernel_rfl) (by kernel_rfl) st_124 Wanted.none (fun wq sq => (Runs.move rfl)) ?_
      refine AWH.take 1 rfl (by decide) (by kernel_rfl) (by kernel_rfl) st_124 Wanted.none (fun wq sq => (Runs.nilCheck rfl)) ?_
      refine AWH.take 2 rfl (by decide) (by kernel_rfl) (by kernel_rfl) st_124 Wanted.none (fun wq sq => (Runs.fieldAddr (off := 1) (p := 1) fld57_1 rfl rfl rfl)) ?_
      refine AWH.take 3 rfl (by decide) (by kernel_rfl) (by kernel_rfl) st_124 Wanted.none (fun wq sq => (Runs.load nagg55 rfl (sq.cell (k := 0) rfl (part_one (u := .slice A_8_1 n_9_1 c_10_1) (pre := (([.int .i64 a_7_0] : List Value))) (post := (([] : List Value))) (by first | rfl | simp only [List.append_assoc, List.append_nil, List.nil_append, List.cons_append]) (by first | rfl | simp only [List.length_append, List.length_cons, List.length_nil, iv_length]))))) ?_
      refine AWH.take 4 rfl (by decide) (by kernel_rfl) (by kernel_rfl) st_124 Wanted.none (fun wq sq => (Runs.move rfl)) ?_
      refine AWH.take 5 rfl (by decide) (by kernel_rfl) (by kernel_rfl) st_124 Wanted.none (fun wq sq => (Runs.move rfl)) ?_
      refine AWH.step 6 rfl (by decide) (by kernel_rfl) (fun inv_ hs_ hk_ hc_ hn_ => ?_)
      obtain ⟨r_129, hr_125, H⟩ := H
      refine WL.call Wanted.none ent24 rfl (slices_Clone_s_byte_byte.calls w_123 l2 A2 n2 c2 ((hb2.2.2.at st_124 (mem_TR (A := [_, _]) (fun _ h_ => hs_6.1 _ h_)))) (hb2.1) (hb2.2.1) r_129 hr_125) ?_
      rintro _ w_126 ⟨A_130, c_131, n_132, hn_133, rfl, sc_128⟩
      have st_127 : St w w_126 (.sl A_130 c_131 n_132 (iv .u8 r_129) 5 1 :: .cells b0 (([.int .i64 a_7_0] : List Value) ++ ([.slice A_8_1 n_9_1 c_10_1] : List Value)) 57 :: .sl A_8_1 c_10_1 n_9_1 x_12_1 60 3 :: (T_5 ++ R)) := st_124.call sc_128
      refine ⟨_, rfl, ?_⟩
      refine WL.nil ?_
      refine AWH.back (St.subset st_124 st_127 (List.forall_mem_cons.2 ⟨List.mem_of_getElem? (i := 1) rfl, (List.forall_mem_cons.2 ⟨List.mem_of_getElem? (i := 2) rfl, (mem_TR (A := [_, _, _]) (fun _ h_ => h_))⟩)⟩)) inv_ hs_ hk_ hc_ hn_ ?_
      refine AWH.tail (by kernel_rfl) ?_
      obtain ⟨⟨p_135, q_136⟩, H⟩ := H
      obtain ⟨a_137, e_138, ms_139, hc_140, hm_141⟩ := el_get (i := (a_16).toNat) (st_127.src_sl (k := 2) rfl) hx_14_1 (fz60 w) (by decide) (by omega)
      obtain ⟨A_142, n_143, c_144, em_146, hb_145⟩ := inv60 hm_141
      replace em_146 : ms_139 = ([.int .u64 ((gx l_11_1 ((a_16).toNat)).1)] : List Value) ++ (([.slice A_142 n_143 c_144] : List Value) ++ ([.int .i64 ((gx l_11_1 ((a_16).toNat)).2.2)] : List Value)) := em_146
      subst em_146
      refine AW.take 7 rfl (by kernel_rfl) (by kernel_rfl) (by kernel_rfl) Wanted.none (fun _ => (Runs.indexAddr Try.underlying55 cells60 (by decide) rfl e_138 rfl p_135 (by rw [show n_9_1 = l_11_1.length from hn_13_1]; exact q_136) (o := ((a_16).toNat) * 3) (by first | rfl | omega))) ?_
      refine AW.take 8 rfl (by kernel_rfl) (by kernel_rfl) (by kernel_rfl) Wanted.none (fun _ => (Runs.fieldAddrB (off := 1) fld60_1 rfl rfl rfl)) ?_
      refine AW.step 9 rfl (by kernel_rfl) ?_
      have hb_151c := st_127.cap (i := 0) rfl
      obtain ⟨T_147, hs_148, hm_149, st_150⟩ := St.freeze (A := []) (B := [_, _]) (T := T_5) (R := R) st_127
      have hb_151 : HB w T_147 A_130 n_132 c_131 (iv .u8 r_129) r_129.length := ⟨hn_133, hb_151c, Hd.of_sl hm_149⟩
      replace st_150 : St w w_126 (.cells b0 (([.int .i64 a_7_0] : List Value) ++ ([.slice A_8_1 n_9_1 c_10_1] : List Value)) 57 :: .sl A_8_1 c_10_1 n_9_1 x_12_1 60 3 :: (T_147 ++ R)) := st_150
      obtain ⟨m_152, e_153, H⟩ := H
      have hl_160 := ((hx_14_1.mono (fun _ h_ => hs_148.1 _ h_))).length (fz60 w)
      refine WL.storeF (i := 1) (o := ((a_16).toNat) * 3) (f := 1) st_150 rfl e_138 cells22 rfl rfl (by omega) rfl ?_
      intro w_154 st_155
      obtain ⟨x_157, e_158⟩ : ∃ x_ : Cells, x_ = List.set x_12_1 (((a_16).toNat) * 3 + 1) (.slice A_130 n_132 c_131) := ⟨_, rfl⟩
      have hx_159 : HRs T_147 (f60 w) x_157 m_152 := by rw [e_158, e_153]; exact HRs.setF (j := 1) (u := .slice A_130 n_132 c_131) (hx_14_1.mono (fun _ h_ => hs_148.1 _ h_)) (fz60 w) (by omega) (by decide) hc_140 (.cons rfl (.cons ⟨_, _, _, rfl, hb_151⟩ (.cons rfl .nil)))
      have hn_156 : n_9_1 = m_152.length := by rw [e_153, List.length_set]; exact hn_13_1
      replace st_155 : St w w_154 (.cells b0 (([.int .i64 a_7_0] : List Value) ++ ([.slice A_8_1 n_9_1 c_10_1] : List Value)) 57 :: .sl A_8_1 c_10_1 n_9_1 x_157 60 3 :: (T_147 ++ R)) := by rw [e_158]; exact st_155
      refine WL.nil ?_
      refine AW.back  ?_
      refine AW.done (by kernel_rfl) ?_
      refine QW.then_n ?_
      refine CW.sub [(0, .pointer (some ⟨b0, 0, none⟩)), (6, .int .i64 0), (7, .int .i64 a_16)] ⟨rfl, rfl, rfl, trivial⟩ ?_
      refine CW.seq ?_
      refine CW.region ?_
      refine WL.val Wanted.none (Runs.move rfl) ?_
      refine WL.val Wanted.none (Runs.move rfl) ?_
      have st_161 : St w w_154 (.cells b0 (([.int .i64 a_7_0] : List Value) ++ ([.slice A_8_1 n_9_1 c_10_1] : List Value)) 57 :: .sl A_8_1 c_10_1 n_9_1 x_157 60 3 :: (T_147 ++ (R))) := St.hide (A := [_, _]) (B := []) (T := T_147) (R := R) st_155
      obtain ⟨a_165_0, l_169_1, hr_162, H⟩ := H
      refine WL.call Wanted.none ent25 rfl (buffers_Cache_front.calls w w_154 T_147 (R) a_7_0 m_152 a_16 b0 A_8_1 n_9_1 c_10_1 x_157  st_161 (hn_156) hx_159 a_165_0 l_169_1 hr_162) ?_
      rintro _ w_173 ⟨T_163, A_166_1, n_167_1, c_168_1, x_170_1, hs_164, hn_171_1, hx_172_1, rfl, sc_175⟩
      have st_174 : St w w_173 (.cells b0 (([.int .i64 a_165_0] : List Value) ++ ([.slice A_166_1 n_167_1 c_168_1] : List Value)) 57 :: .sl A_166_1 c_168_1 n_167_1 x_170_1 60 3 :: (T_163 ++ R)) := St.unhide (A := [_, _]) (B := []) (T := T_163) (R := R) sc_175
      refine ⟨_, rfl, ?_⟩
      refine WL.nil ?_
      refine QW.then_n ?_
      refine CW.seq ?_
      refine CW.region ?_
      refine WL.val Wanted.none (Runs.assign rfl) ?_
      refine WL.nil ?_
      refine QW.then_n ?_
      refine CW.ret ?_
      obtain ⟨rfl, rfl, rfl⟩ := H
      exact QW.ret1 rfl rfl ⟨T_163, A_166_1, n_167_1, c_168_1, x_170_1, ((hs_6.trans hs_148).trans hs_164), hn_171_1, hx_172_1, rfl, (St.pickT (L := [_, _]) st_174 [0, 1] (by decide))⟩

/-! ### buffers_Cache_Get: function 12 -/
def buffers_Cache_Get.rel (a0_0 : Int) (l0_1 : List R60) (a1 : Int) (as0_0 : Int) (ls0_1 : List R60) (lr0 : List Int) (ar1 : Bool) : Prop := (∃ (a_5_0 : Int) (l_9_1 : List R60) (a_14 : Int), buffers_Cache_find.rel a0_0 l0_1 a1 a_5_0 l_9_1 a_14 ∧ ((a_14 < 0 ∧ as0_0 = a_5_0 ∧ ls0_1 = l_9_1 ∧ lr0 = ([] : List Int) ∧ ar1 = false) ∨ (¬ (a_14 < 0) ∧ (∃ (a_26_0 : Int) (l_30_1 : List R60), buffers_Cache_front.rel a_5_0 l_9_1 a_14 a_26_0 l_30_1 ∧ ((0 ≤ (0 : Int) ∧ (0 : Int) < (l_30_1.length : Int)) ∧ (∃ (r_53 : List Int), slices_Clone_s_byte_byte.rel ((gx l_30_1 0).2.1) r_53 ∧ as0_0 = a_26_0 ∧ ls0_1 = l_30_1 ∧ lr0 = r_53 ∧ ar1 = true))))))
set_option maxHeartbeats 1000000 in
set_option maxRecDepth 100000 in
theorem buffers_Cache_Get.calls (w w1 : World) (T R : Pool) (a0_0 : Int) (l0_1 : List R60) (a1 : Int) (b0 : Nat) (A0_1 : Option Addr) (n0_1 : Nat) (c0_1 : Nat) (x0_1 : Cells) (st0 : St w w1 (.cells b0 (([.int .i64 a0_0] : List Value) ++ ([.slice A0_1 n0_1 c0_1] : List Value)) 57 :: .sl A0_1 c0_1 n0_1 x0_1 60 3 :: (T ++ R))) (hn0_1 : n0_1 = l0_1.length) (hx0_1 : HRs T (f60 w) x0_1 l0_1) (as0_0 : Int) (ls0_1 : List R60) (lr0 : List Int) (ar1 : Bool) (H : buffers_Cache_Get.rel a0_0 l0_1 a1 as0_0 ls0_1 lr0 ar1) :
    Calls Try.prog 12 #[.pointer (some ⟨b0, 0, none⟩), .int .u64 a1] w1 fun e w' => ∃ T' As0_1 ns0_1 cs0_1 xs0_1 Ar0 nr0 cr0, Pl T T' ∧ ns0_1 = ls0_1.length ∧ HRs T' (f60 w) xs0_1 ls0_1 ∧ nr0 = lr0.length ∧ e = .returned (.tuple #[.slice Ar0 nr0 cr0, .bool ar1]) ∧ St w w' (.cells b0 (([.int .i64 as0_0] : List Value) ++ ([.slice As0_1 ns0_1 cs0_1] : List Value)) 57 :: .sl As0_1 cs0_1 ns0_1 xs0_1 60 3 :: .sl Ar0 cr0 nr0 (iv .u8 lr0) 5 1 :: (T' ++ R)) := by
  refine CW.enter Try.func12 rfl (n := 23) rfl [.pointer (some ⟨b0, 0, none⟩), .int .u64 a1] (Nat.le_of_ble_eq_true rfl) ?_
  refine CW.sub [(0, .pointer (some ⟨b0, 0, none⟩)), (1, .int .u64 a1)] ⟨rfl, rfl, trivial⟩ ?_
  refine CW.seq ?_
  refine CW.region ?_
  refine WL.val Wanted.none (Runs.assign rfl) ?_
  refine WL.val Wanted.none (Runs.assign rfl) ?_
  refine WL.nil ?_
  refine QW.then_n ?_
  refine CW.seq ?_
  refine CW.region ?_
  refine WL.val Wanted.none (Runs.move rfl) ?_
  refine WL.val Wanted.none (Runs.move rfl) ?_
  have st_1 : St w w1 (.cells b0 (([.int .i64 a0_0] : List Value) ++ ([.slice A0_1 n0_1 c0_1] : List Value)) 57 :: .sl A0_1 c0_1 n0_1 x0_1 60 3 :: (T ++ (R))) := St.hide (A := [_, _]) (B := []) (T := T) (R := R) st0
  obtain ⟨a_5_0, l_9_1, a_14, hr_2, H⟩ := H
  refine WL.call Wanted.none ent22 rfl (buffers_Cache_find.calls w w1 T (R) a0_0 l0_1 a1 b0 A0_1 n0_1 c0_1 x0_1  st_1 (hn0_1) hx0_1 a_5_0 l_9_1 a_14 hr_2) ?_
  rintro _ w_15 ⟨T_3, A_6_1, n_7_1, c_8_1, x_10_1, hs_4, hn_11_1, hx_12_1, rfl, sc_17⟩
  have st_16 : St w w_15 (.cells b0 (([.int .i64 a_5_0] : List Value) ++ ([.slice A_6_1 n_7_1 c_8_1] : List Value)) 57 :: .sl A_6_1 c_8_1 n_7_1 x_10_1 60 3 :: (T_3 ++ R)) := St.unhide (A := [_, _]) (B := []) (T := T_3) (R := R) sc_17
  refine ⟨_, rfl, ?_⟩
  refine WL.val Wanted.none (Runs.assign rfl) ?_
  refine WL.nil ?_
  refine QW.then_n ?_
  refine CW.seq ?_
  refine CW.seq ?_
  refine CW.region ?_
  refine WL.val Wanted.none (Runs.move rfl) ?_
  refine WL.val Wanted.none (Runs.lss rfl rfl rfl) ?_
  refine WL.nil ?_
  refine QW.then_n ?_
  rcases H with ⟨c_18, H⟩ | ⟨c_18, H⟩
  · have h_19 : (decide (a_14 < 0)) = true := (decide_eq_true c_18)
    refine CW.ct rfl h_19 ?_
    refine CW.seq ?_
    refine CW.region ?_
    refine WL.val Wanted.none (Runs.assign rfl) ?_
    refine WL.val Wanted.none (Runs.assign rfl) ?_
    refine WL.nil ?_
    refine QW.then_n ?_
    refine CW.sub [(0, .pointer (some ⟨b0, 0, none⟩)), (4, .slice none 0 0), (5, .bool false), (6, .int .i64 a_14)] ⟨rfl, rfl, rfl, rfl, trivial⟩ ?_
    refine CW.ret ?_
    refine QW.then_r ?_
    have st_21 := st_16.nil_sl 5 1
    have st_21 : St w w_15 (.sl none 0 0 (iv .u8 ([] : List Int)) 5 1 :: .cells b0 (([.int .i64 a_5_0] : List Value) ++ ([.slice A_6_1 n_7_1 c_8_1] : List Value)) 57 :: .sl A_6_1 c_8_1 n_7_1 x_10_1 60 3 :: (T_3 ++ R)) := st_21
    obtain ⟨rfl, rfl, rfl, rfl⟩ := H
    exact QW.ret2 rfl rfl rfl ⟨T_3, A_6_1, n_7_1, c_8_1, x_10_1, none, 0, 0, hs_4, hn_11_1, hx_12_1, rfl, rfl, (St.pickT (L := [_, _, _]) st_21 [1, 2, 0] (by decide))⟩
  · have h_19 : (decide (a_14 < 0)) = false := (decide_eq_false c_18)
    refine CW.cf rfl h_19 ?_
    refine CW.skip ?_
    refine QW.then_n ?_
    refine CW.sub [(0, .pointer (some ⟨b0, 0, none⟩)), (4, .slice none 0 0), (5, .bool false), (6, .int .i64 a_14)] ⟨rfl, rfl, rfl, rfl, trivial⟩ ?_
    refine CW.seq ?_
    refine CW.region ?_
    refine WL.val Wanted.none (Runs.move rfl) ?_
    refine WL.val Wanted.none (Runs.move rfl) ?_
    have st_22 : St w w_15 (.cells b0 (([.int .i64 a_5_0] : List Value) ++ ([.slice A_6_1 n_7_1 c_8_1] : List Value)) 57 :: .sl A_6_1 c_8_1 n_7_1 x_10_1 60 3 :: (T_3 ++ (R))) := St.hide (A := [_, _]) (B := []) (T := T_3) (R := R) st_16
    obtain ⟨a_26_0, l_30_1, hr_23, H⟩ := H
    refine WL.call Wanted.none ent25 rfl (buffers_Cache_front.calls w w_15 T_3 (R) a_5_0 l_9_1 a_14 b0 A_6_1 n_7_1 c_8_1 x_10_1  st_22 (hn_11_1) hx_12_1 a_26_0 l_30_1 hr_23) ?_
    rintro _ w_34 ⟨T_24, A_27_1, n_28_1, c_29_1, x_31_1, hs_25, hn_32_1, hx_33_1, rfl, sc_36⟩
    have st_35 : St w w_34 (.cells b0 (([.int .i64 a_26_0] : List Value) ++ ([.slice A_27_1 n_28_1 c_29_1] : List Value)) 57 :: .sl A_27_1 c_29_1 n_28_1 x_31_1 60 3 :: (T_24 ++ R)) := St.unhide (A := [_, _]) (B := []) (T := T_24) (R := R) sc_36
    refine ⟨_, rfl, ?_⟩
    refine WL.nil ?_
    refine QW.then_n ?_
    refine CW.seq ?_
    refine CW.region ?_
    refine WL.val Wanted.none (Runs.move rfl) ?_
    refine WL.val Wanted.none (Runs.nilCheck rfl) ?_
    refine WL.val Wanted.none (Runs.fieldAddr (off := 1) (p := 1) fld57_1 rfl rfl rfl) ?_
    refine WL.val Wanted.none (Runs.load nagg55 rfl (st_35.cell (k := 0) rfl (part_one (u := .slice A_27_1 n_28_1 c_29_1) (pre := (([.int .i64 a_26_0] : List Value))) (post := (([] : List Value))) (by first | rfl | simp only [List.append_assoc, List.append_nil, List.nil_append, List.cons_append]) (by first | rfl | simp only [List.length_append, List.length_cons, List.length_nil, iv_length])))) ?_
    obtain ⟨⟨p_37, q_38⟩, H⟩ := H
    obtain ⟨a_39, e_40, ms_41, hc_42, hm_43⟩ := el_get (i := 0) (st_35.src_sl (k := 1) rfl) hx_33_1 (fz60 w) (by decide) (by omega)
    obtain ⟨A_44, n_45, c_46, em_48, hb_47⟩ := inv60 hm_43
    replace em_48 : ms_41 = ([.int .u64 ((gx l_30_1 0).1)] : List Value) ++ (([.slice A_44 n_45 c_46] : List Value) ++ ([.int .i64 ((gx l_30_1 0).2.2)] : List Value)) := em_48
    subst em_48
    refine WL.val Wanted.none (Runs.indexAddr Try.underlying55 cells60 (by decide) rfl e_40 rfl p_37 (by rw [show n_28_1 = l_30_1.length from hn_32_1]; exact q_38) (o := 0 * 3) (by first | rfl | omega)) ?_
    refine WL.val Wanted.none (Runs.fieldAddrB (off := 1) fld60_1 rfl rfl rfl) ?_
    refine WL.val Wanted.none (Runs.load nagg22 rfl (Src.cellAt (j := 1) (Src.cut (st_35.src_sl (k := 1) rfl) e_40 hc_42) rfl)) ?_
    obtain ⟨r_53, hr_49, H⟩ := H
    refine WL.call Wanted.none ent24 rfl (slices_Clone_s_byte_byte.calls w_34 ((gx l_30_1 0).2.1) A_44 n_45 c_46 ((hb_47.2.2.at st_35 (mem_T (A := [_, _]) (fun _ h_ => h_)))) (hb_47.1) (hb_47.2.1) r_53 hr_49) ?_
    rintro _ w_50 ⟨A_54, c_55, n_56, hn_57, rfl, sc_52⟩
    have st_51 : St w w_50 (.sl A_54 c_55 n_56 (iv .u8 r_53) 5 1 :: .cells b0 (([.int .i64 a_26_0] : List Value) ++ ([.slice A_27_1 n_28_1 c_29_1] : List Value)) 57 :: .sl A_27_1 c_29_1 n_28_1 x_31_1 60 3 :: (T_24 ++ R)) := st_35.call sc_52
    refine ⟨_, rfl, ?_⟩
    refine WL.val Wanted.none (Runs.assign rfl) ?_
    refine WL.val Wanted.none (Runs.assign rfl) ?_
    refine WL.nil ?_
    refine QW.then_n ?_
    refine CW.sub [(4, .slice A_54 n_56 c_55), (5, .bool true)] ⟨rfl, rfl, trivial⟩ ?_
    refine CW.ret ?_
    obtain ⟨rfl, rfl, rfl, rfl⟩ := H
    exact QW.ret2 rfl rfl rfl ⟨T_24, A_27_1, n_28_1, c_29_1, x_31_1, A_54, n_56, c_55, (hs_4.trans hs_25), hn_32_1, hx_33_1, hn_57, rfl, (St.pickT (L := [_, _, _]) st_51 [1, 2, 0] (by decide))⟩

/-! ### buffers_Cache_Pin: function 16 -/
def buffers_Cache_Pin.rel (a0_0 : Int) (l0_1 : List R60) (a1 : Int) (as0_0 : Int) (ls0_1 : List R60) (ar0 : Bool) : Prop := (∃ (a_5_0 : Int) (l_9_1 : List R60) (a_14 : Int), buffers_Cache_find.rel a0_0 l0_1 a1 a_5_0 l_9_1 a_14 ∧ ((a_14 < 0 ∧ as0_0 = a_5_0 ∧ ls0_1 = l_9_1 ∧ ar0 = false) ∨ (¬ (a_14 < 0) ∧ ((0 ≤ a_14 ∧ a_14 < (l_9_1.length : Int)) ∧ ((0 ≤ a_14 ∧ a_14 < (l_9_1.length : Int)) ∧ (∃ m_44 : List R60, m_44 = List.set l_9_1 ((a_14).toNat) ((gx l_9_1 ((a_14).toNat)).1, (gx l_9_1 ((a_14).toNat)).2.1, IntKind.i64.wrap (((gx l_9_1 ((a_14).toNat)).2.2) + 1)) ∧ as0_0 = a_5_0 ∧ ls0_1 = m_44 ∧ ar0 = true))))))
set_option maxHeartbeats 1000000 in
set_option maxRecDepth 100000 in
theorem buffers_Cache_Pin.calls (w w1 : World) (T R : Pool) (a0_0 : Int) (l0_1 : List R60) (a1 : Int) (b0 : Nat) (A0_1 : Option Addr) (n0_1 : Nat) (c0_1 : Nat) (x0_1 : Cells) (st0 : St w w1 (.cells b0 (([.int .i64 a0_0] : List Value) ++ ([.slice A0_1 n0_1 c0_1] : List Value)) 57 :: .sl A0_1 c0_1 n0_1 x0_1 60 3 :: (T ++ R))) (hn0_1 : n0_1 = l0_1.length) (hx0_1 : HRs T (f60 w) x0_1 l0_1) (as0_0 : Int) (ls0_1 : List R60) (ar0 : Bool) (H : buffers_Cache_Pin.rel a0_0 l0_1 a1 as0_0 ls0_1 ar0) :
    Calls Try.prog 16 #[.pointer (some ⟨b0, 0, none⟩), .int .u64 a1] w1 fun e w' => ∃ T' As0_1 ns0_1 cs0_1 xs0_1, Pl T T' ∧ ns0_1 = ls0_1.length ∧ HRs T' (f60 w) xs0_1 ls0_1 ∧ e = .returned (.bool ar0) ∧ St w w' (.cells b0 (([.int .i64 as0_0] : List Value) ++ ([.slice As0_1 ns0_1 cs0_1] : List Value)) 57 :: .sl As0_1 cs0_1 ns0_1 xs0_1 60 3 :: (T' ++ R)) := by
  refine CW.enter Try.func16 rfl (n := 22) rfl [.pointer (some ⟨b0, 0, none⟩), .int .u64 a1] (Nat.le_of_ble_eq_true rfl) ?_
  refine CW.sub [(0, .pointer (some ⟨b0, 0, none⟩)), (1, .int .u64 a1)] ⟨rfl, rfl, trivial⟩ ?_
  refine CW.seq ?_
  refine CW.region ?_
  refine WL.val Wanted.none (Runs.assign rfl) ?_
  refine WL.nil ?_
  refine QW.then_n ?_
  refine CW.seq ?_
  refine CW.region ?_
  refine WL.val Wanted.none (Runs.move rfl) ?_
  refine WL.val Wanted.none (Runs.move rfl) ?_
  have st_1 : St w w1 (.cells b0 (([.int .i64 a0_0] : List Value) ++ ([.slice A0_1 n0_1 c0_1] : List Value)) 57 :: .sl A0_1 c0_1 n0_1 x0_1 60 3 :: (T ++ (R))) := St.hide (A := [_, _]) (B := []) (T := T) (R := R) st0
  obtain ⟨a_5_0, l_9_1, a_14, hr_2, H⟩ := H
  refine WL.call Wanted.none ent22 rfl (buffers_Cache_find.calls w w1 T (R) a0_0 l0_1 a1 b0 A0_1 n0_1 c0_1 x0_1  st_1 (hn0_1) hx0_1 a_5_0 l_9_1 a_14 hr_2) ?_
  rintro _ w_15 ⟨T_3, A_6_1, n_7_1, c_8_1, x_10_1, hs_4, hn_11_1, hx_12_1, rfl, sc_17⟩
  have st_16 : St w w_15 (.cells b0 (([.int .i64 a_5_0] : List Value) ++ ([.slice A_6_1 n_7_1 c_8_1] : List Value)) 57 :: .sl A_6_1 c_8_1 n_7_1 x_10_1 60 3 :: (T_3 ++ R)) := St.unhide (A := [_, _]) (B := []) (T := T_3) (R := R) sc_17
  refine ⟨_, rfl, ?_⟩
  refine WL.val Wanted.none (Runs.assign rfl) ?_
  refine WL.nil ?_
  refine QW.then_n ?_
  refine CW.seq ?_
  refine CW.seq ?_
  refine CW.region ?_
  refine WL.val Wanted.none (Runs.move rfl) ?_
  refine WL.val Wanted.none (Runs.lss rfl rfl rfl) ?_
  refine WL.nil ?_
  refine QW.then_n ?_
  rcases H with ⟨c_18, H⟩ | ⟨c_18, H⟩
  · have h_19 : (decide (a_14 < 0)) = true := (decide_eq_true c_18)
    refine CW.ct rfl h_19 ?_
    refine CW.seq ?_
    refine CW.region ?_
    refine WL.val Wanted.none (Runs.assign rfl) ?_
    refine WL.nil ?_
    refine QW.then_n ?_
    refine CW.sub [(0, .pointer (some ⟨b0, 0, none⟩)), (4, .bool false), (5, .int .i64 a_14)] ⟨rfl, rfl, rfl, trivial⟩ ?_
    refine CW.ret ?_
    refine QW.then_r ?_
    obtain ⟨rfl, rfl, rfl⟩ := H
    exact QW.ret1 rfl rfl ⟨T_3, A_6_1, n_7_1, c_8_1, x_10_1, hs_4, hn_11_1, hx_12_1, rfl, (St.pickT (L := [_, _]) st_16 [0, 1] (by decide))⟩
  · have h_19 : (decide (a_14 < 0)) = false := (decide_eq_false c_18)
    refine CW.cf rfl h_19 ?_
    refine CW.skip ?_
    refine QW.then_n ?_
    refine CW.sub [(0, .pointer (some ⟨b0, 0, none⟩)), (4, .bool false), (5, .int .i64 a_14)] ⟨rfl, rfl, rfl, trivial⟩ ?_
    refine CW.seq ?_
    refine CW.region ?_
    refine WL.val Wanted.none (Runs.move rfl) ?_
    refine WL.val Wanted.none (Runs.nilCheck rfl) ?_
    refine WL.val Wanted.none (Runs.fieldAddr (off := 1) (p := 1) fld57_1 rfl rfl rfl) ?_
    refine WL.val Wanted.none (Runs.load nagg55 rfl (st_16.cell (k := 0) rfl (part_one (u := .slice A_6_1 n_7_1 c_8_1) (pre := (([.int .i64 a_5_0] : List Value))) (post := (([] : List Value))) (by first | rfl | simp only [List.append_assoc, List.append_nil, List.nil_append, List.cons_append]) (by first | rfl | simp only [List.length_append, List.length_cons, List.length_nil, iv_length])))) ?_
    refine WL.val Wanted.none (Runs.move rfl) ?_
    obtain ⟨⟨p_20, q_21⟩, H⟩ := H
    obtain ⟨a_22, e_23, ms_24, hc_25, hm_26⟩ := el_get (i := (a_14).toNat) (st_16.src_sl (k := 1) rfl) hx_12_1 (fz60 w) (by decide) (by omega)
    obtain ⟨A_27, n_28, c_29, em_31, hb_30⟩ := inv60 hm_26
    replace em_31 : ms_24 = ([.int .u64 ((gx l_9_1 ((a_14).toNat)).1)] : List Value) ++ (([.slice A_27 n_28 c_29] : List Value) ++ ([.int .i64 ((gx l_9_1 ((a_14).toNat)).2.2)] : List Value)) := em_31
    subst em_31
    refine WL.val Wanted.none (Runs.indexAddr Try.underlying55 cells60 (by decide) rfl e_23 rfl p_20 (by rw [show n_7_1 = l_9_1.length from hn_11_1]; exact q_21) (o := ((a_14).toNat) * 3) (by first | rfl | omega)) ?_
    refine WL.val Wanted.none (Runs.fieldAddrB (off := 2) fld60_2 rfl rfl rfl) ?_
    refine WL.val Wanted.none (Runs.load nagg3 rfl (Src.cellAt (j := 2) (Src.cut (st_16.src_sl (k := 1) rfl) e_23 hc_25) rfl)) ?_
    refine WL.val Wanted.none (Runs.add rfl rfl rfl) ?_
    obtain ⟨⟨p_32, q_33⟩, H⟩ := H
    obtain ⟨a_34, e_35, ms_36, hc_37, hm_38⟩ := el_get (i := (a_14).toNat) (st_16.src_sl (k := 1) rfl) hx_12_1 (fz60 w) (by decide) (by omega)
    obtain ⟨A_39, n_40, c_41, em_43, hb_42⟩ := inv60 hm_38
    replace em_43 : ms_36 = ([.int .u64 ((gx l_9_1 ((a_14).toNat)).1)] : List Value) ++ (([.slice A_39 n_40 c_41] : List Value) ++ ([.int .i64 ((gx l_9_1 ((a_14).toNat)).2.2)] : List Value)) := em_43
    subst em_43
    refine WL.val Wanted.none (Runs.indexAddr Try.underlying55 cells60 (by decide) rfl e_35 rfl p_32 (by rw [show n_7_1 = l_9_1.length from hn_11_1]; exact q_33) (o := ((a_14).toNat) * 3) (by first | rfl | omega)) ?_
    refine WL.val Wanted.none (Runs.fieldAddrB (off := 2) fld60_2 rfl rfl rfl) ?_
    obtain ⟨m_44, e_45, H⟩ := H
    have hl_52 := (hx_12_1).length (fz60 w)
    refine WL.storeF (i := 1) (o := ((a_14).toNat) * 3) (f := 2) st_16 rfl e_35 cells3 rfl rfl (by omega) rfl ?_
    intro w_46 st_47
    obtain ⟨x_49, e_50⟩ : ∃ x_ : Cells, x_ = List.set x_10_1 (((a_14).toNat) * 3 + 2) (.int .i64 (IntKind.i64.wrap (((gx l_9_1 ((a_14).toNat)).2.2) + 1))) := ⟨_, rfl⟩
    have hx_51 : HRs T_3 (f60 w) x_49 m_44 := by rw [e_50, e_45]; exact HRs.setF (j := 2) (u := .int .i64 (IntKind.i64.wrap (((gx l_9_1 ((a_14).toNat)).2.2) + 1))) hx_12_1 (fz60 w) (by omega) (by decide) hc_37 (.cons rfl (.cons ⟨_, _, _, rfl, hb_42⟩ (.cons rfl .nil)))
    have hn_48 : n_7_1 = m_44.length := by rw [e_45, List.length_set]; exact hn_11_1
    replace st_47 : St w w_46 (.cells b0 (([.int .i64 a_5_0] : List Value) ++ ([.slice A_6_1 n_7_1 c_8_1] : List Value)) 57 :: .sl A_6_1 c_8_1 n_7_1 x_49 60 3 :: (T_3 ++ R)) := by rw [e_50]; exact st_47
    refine WL.nil ?_
    refine QW.then_n ?_
    refine CW.sub [(4, .bool false)] ⟨rfl, trivial⟩ ?_
    refine CW.seq ?_
    refine CW.region ?_
    refine WL.val Wanted.none (Runs.assign rfl) ?_
    refine WL.nil ?_
    refine QW.then_n ?_
    refine CW.ret ?_
    obtain ⟨rfl, rfl, rfl⟩ := H
    exact QW.ret1 rfl rfl ⟨T_3, A_6_1, n_7_1, c_8_1, x_49, hs_4, hn_48, hx_51, rfl, (St.pickT (L := [_, _]) st_47 [0, 1] (by decide))⟩

/-! ### buffers_Cache_Unpin: function 18 -/
def buffers_Cache_Unpin.rel (a0_0 : Int) (l0_1 : List R60) (a1 : Int) (as0_0 : Int) (ls0_1 : List R60) (ar0 : Bool) : Prop := (∃ (a_5_0 : Int) (l_9_1 : List R60) (a_14 : Int), buffers_Cache_find.rel a0_0 l0_1 a1 a_5_0 l_9_1 a_14 ∧ ((a_14 < 0 ∧ as0_0 = a_5_0 ∧ ls0_1 = l_9_1 ∧ ar0 = false) ∨ (¬ (a_14 < 0) ∧ ((0 ≤ a_14 ∧ a_14 < (l_9_1.length : Int)) ∧ ((((gx l_9_1 ((a_14).toNat)).2.2) = 0 ∧ as0_0 = a_5_0 ∧ ls0_1 = l_9_1 ∧ ar0 = false) ∨ (¬ (((gx l_9_1 ((a_14).toNat)).2.2) = 0) ∧ ((0 ≤ a_14 ∧ a_14 < (l_9_1.length : Int)) ∧ ((0 ≤ a_14 ∧ a_14 < (l_9_1.length : Int)) ∧ (∃ m_58 : List R60, m_58 = List.set l_9_1 ((a_14).toNat) ((gx l_9_1 ((a_14).toNat)).1, (gx l_9_1 ((a_14).toNat)).2.1, IntKind.i64.wrap (((gx l_9_1 ((a_14).toNat)).2.2) - 1)) ∧ as0_0 = a_5_0 ∧ ls0_1 = m_58 ∧ ar0 = true)))))))))
set_option maxHeartbeats 1000000 in
set_option maxRecDepth 100000 in
theorem buffers_Cache_Unpin.calls (w w1 : World) (T R : Pool) (a0_0 : Int) (l0_1 : List R60) (a1 : Int) (b0 : Nat) (A0_1 : Option Addr) (n0_1 : Nat) (c0_1 : Nat) (x0_1 : Cells) (st0 : St w w1 (.cells b0 (([.int .i64 a0_0] : List Value) ++ ([.slice A0_1 n0_1 c0_1] : List Value)) 57 :: .sl A0_1 c0_1 n0_1 x0_1 60 3 :: (T ++ R))) (hn0_1 : n0_1 = l0_1.length) (hx0_1 : HRs T (f60 w) x0_1 l0_1) (as0_0 : Int) (ls0_1 : List R60) (ar0 : Bool) (H : buffers_Cache_Unpin.rel a0_0 l0_1 a1 as0_0 ls0_1 ar0) :
    Calls Try.prog 18 #[.pointer (some ⟨b0, 0, none⟩), .int .u64 a1] w1 fun e w' => ∃ T' As0_1 ns0_1 cs0_1 xs0_1, Pl T T' ∧ ns0_1 = ls0_1.length ∧ HRs T' (f60 w) xs0_1 ls0_1 ∧ e = .returned (.bool ar0) ∧ St w w' (.cells b0 (([.int .i64 as0_0] : List Value) ++ ([.slice As0_1 ns0_1 cs0_1] : List Value)) 57 :: .sl As0_1 cs0_1 ns0_1 xs0_1 60 3 :: (T' ++ R)) := by
  refine CW.enter Try.func18 rfl (n := 33) rfl [.pointer (some ⟨b0, 0, none⟩), .int .u64 a1] (Nat.le_of_ble_eq_true rfl) ?_
  refine CW.sub [(0, .pointer (some ⟨b0, 0, none⟩)), (1, .int .u64 a1)] ⟨rfl, rfl, trivial⟩ ?_
  refine CW.seq ?_
  refine CW.region ?_
  refine WL.val Wanted.none (Runs.assign rfl) ?_
  refine WL.nil ?_
  refine QW.then_n ?_
  refine CW.seq ?_
  refine CW.region ?_
  refine WL.val Wanted.none (Runs.move rfl) ?_
  refine WL.val Wanted.none (Runs.move rfl) ?_
  have st_1 : St w w1 (.cells b0 (([.int .i64 a0_0] : List Value) ++ ([.slice A0_1 n0_1 c0_1] : List Value)) 57 :: .sl A0_1 c0_1 n0_1 x0_1 60 3 :: (T ++ (R))) := St.hide (A := [_, _]) (B := []) (T := T) (R := R) st0
  obtain ⟨a_5_0, l_9_1, a_14, hr_2, H⟩ := H
  refine WL.call Wanted.none ent22 rfl (buffers_Cache_find.calls w w1 T (R) a0_0 l0_1 a1 b0 A0_1 n0_1 c0_1 x0_1  st_1 (hn0_1) hx0_1 a_5_0 l_9_1 a_14 hr_2) ?_
  rintro _ w_15 ⟨T_3, A_6_1, n_7_1, c_8_1, x_10_1, hs_4, hn_11_1, hx_12_1, rfl, sc_17⟩
  have st_16 : St w w_15 (.cells b0 (([.int .i64 a_5_0] : List Value) ++ ([.slice A_6_1 n_7_1 c_8_1] : List Value)) 57 :: .sl A_6_1 c_8_1 n_7_1 x_10_1 60 3 :: (T_3 ++ R)) := St.unhide (A := [_, _]) (B := []) (T := T_3) (R := R) sc_17
  refine ⟨_, rfl, ?_⟩
  refine WL.val Wanted.none (Runs.assign rfl) ?_
  refine WL.nil ?_
  refine QW.then_n ?_
  refine CW.seq ?_
  refine CW.seq ?_
  refine CW.region ?_
  refine WL.val Wanted.none (Runs.move rfl) ?_
  refine WL.val Wanted.none (Runs.lss rfl rfl rfl) ?_
  refine WL.val Wanted.none (Runs.move rfl) ?_
  rcases H with ⟨c_18, H⟩ | ⟨c_18, H⟩
  · have h_19 : (decide (a_14 < 0)) = true := (decide_eq_true c_18)
    refine WL.off ?_ ?_; exact Wanted.guard (dj := 11) (by rfl) (evb (by rfl) h_19) (by rfl)
    refine WL.off ?_ ?_; exact Wanted.guard (dj := 11) (by rfl) (evb (by rfl) h_19) (by rfl)
    refine WL.off ?_ ?_; exact Wanted.guard (dj := 11) (by rfl) (evb (by rfl) h_19) (by rfl)
    refine WL.off ?_ ?_; exact Wanted.guard (dj := 11) (by rfl) (evb (by rfl) h_19) (by rfl)
    refine WL.off ?_ ?_; exact Wanted.guard (dj := 11) (by rfl) (evb (by rfl) h_19) (by rfl)
    refine WL.off ?_ ?_; exact Wanted.guard (dj := 11) (by rfl) (evb (by rfl) h_19) (by rfl)
    refine WL.off ?_ ?_; exact Wanted.guard (dj := 11) (by rfl) (evb (by rfl) h_19) (by rfl)
    refine WL.off ?_ ?_; exact Wanted.guard (dj := 11) (by rfl) (evb (by rfl) h_19) (by rfl)
    refine WL.off ?_ ?_; exact Wanted.guard (dj := 11) (by rfl) (evb (by rfl) h_19) (by rfl)
    refine WL.val Wanted.none (Runs.pick_t (evb rfl h_19) rfl) ?_
    refine WL.nil ?_
    refine QW.then_n ?_
    refine CW.sub [(0, .pointer (some ⟨b0, 0, none⟩)), (4, .bool false), (5, .int .i64 a_14), (21, .bool true)] ⟨rfl, rfl, rfl, rfl, trivial⟩ ?_
    refine CW.ct rfl rfl ?_
    refine CW.seq ?_
    refine CW.region ?_
    refine WL.val Wanted.none (Runs.assign rfl) ?_
    refine WL.nil ?_
    refine QW.then_n ?_
    refine CW.ret ?_
    refine QW.then_r ?_
    obtain ⟨rfl, rfl, rfl⟩ := H
    exact QW.ret1 rfl rfl ⟨T_3, A_6_1, n_7_1, c_8_1, x_10_1, hs_4, hn_11_1, hx_12_1, rfl, (St.pickT (L := [_, _]) st_16 [0, 1] (by decide))⟩
  · have h_19 : (decide (a_14 < 0)) = false := (decide_eq_false c_18)
    refine WL.on ?_ ?_; exact Wanted.guard (dj := 11) (by rfl) (evb (by rfl) h_19) (by rfl)
    refine WL.val Wanted.none (Runs.move rfl) ?_
    refine WL.on ?_ ?_; exact Wanted.guard (dj := 11) (by rfl) (evb (by rfl) h_19) (by rfl)
    refine WL.val Wanted.none (Runs.nilCheck rfl) ?_
    refine WL.on ?_ ?_; exact Wanted.guard (dj := 11) (by rfl) (evb (by rfl) h_19) (by rfl)
    refine WL.val Wanted.none (Runs.fieldAddr (off := 1) (p := 1) fld57_1 rfl rfl rfl) ?_
    refine WL.on ?_ ?_; exact Wanted.guard (dj := 11) (by rfl) (evb (by rfl) h_19) (by rfl)
    refine WL.val Wanted.none (Runs.load nagg55 rfl (st_16.cell (k := 0) rfl (part_one (u := .slice A_6_1 n_7_1 c_8_1) (pre := (([.int .i64 a_5_0] : List Value))) (post := (([] : List Value))) (by first | rfl | simp only [List.append_assoc, List.append_nil, List.nil_append, List.cons_append]) (by first | rfl | simp only [List.length_append, List.length_cons, List.length_nil, iv_length])))) ?_
    refine WL.on ?_ ?_; exact Wanted.guard (dj := 11) (by rfl) (evb (by rfl) h_19) (by rfl)
    refine WL.val Wanted.none (Runs.move rfl) ?_
    refine WL.on ?_ ?_; exact Wanted.guard (dj := 11) (by rfl) (evb (by rfl) h_19) (by rfl)
    obtain ⟨⟨p_20, q_21⟩, H⟩ := H
    obtain ⟨a_22, e_23, ms_24, hc_25, hm_26⟩ := el_get (i := (a_14).toNat) (st_16.src_sl (k := 1) rfl) hx_12_1 (fz60 w) (by decide) (by omega)
    obtain ⟨A_27, n_28, c_29, em_31, hb_30⟩ := inv60 hm_26
    replace em_31 : ms_24 = ([.int .u64 ((gx l_9_1 ((a_14).toNat)).1)] : List Value) ++ (([.slice A_27 n_28 c_29] : List Value) ++ ([.int .i64 ((gx l_9_1 ((a_14).toNat)).2.2)] : List Value)) := em_31
    subst em_31
    refine WL.val Wanted.none (Runs.indexAddr Try.underlying55 cells60 (by decide) rfl e_23 rfl p_20 (by rw [show n_7_1 = l_9_1.length from hn_11_1]; exact q_21) (o := ((a_14).toNat) * 3) (by first | rfl | omega)) ?_
    refine WL.on ?_ ?_; exact Wanted.guard (dj := 11) (by rfl) (evb (by rfl) h_19) (by rfl)
    refine WL.val Wanted.none (Runs.fieldAddrB (off := 2) fld60_2 rfl rfl rfl) ?_
    refine WL.on ?_ ?_; exact Wanted.guard (dj := 11) (by rfl) (evb (by rfl) h_19) (by rfl)
    refine WL.val Wanted.none (Runs.load nagg3 rfl (Src.cellAt (j := 2) (Src.cut (st_16.src_sl (k := 1) rfl) e_23 hc_25) rfl)) ?_
    refine WL.on ?_ ?_; exact Wanted.guard (dj := 11) (by rfl) (evb (by rfl) h_19) (by rfl)
    refine WL.val Wanted.none (Runs.eql rfl rfl rfl) ?_
    refine WL.val Wanted.none (Runs.pick_f (evb rfl h_19) rfl) ?_
    refine WL.nil ?_
    refine QW.then_n ?_
    refine CW.sub [(0, .pointer (some ⟨b0, 0, none⟩)), (4, .bool false), (5, .int .i64 a_14), (21, .bool (((gx l_9_1 ((a_14).toNat)).2.2) == 0))] ⟨rfl, rfl, rfl, rfl, trivial⟩ ?_
    rcases H with ⟨c_32, H⟩ | ⟨c_32, H⟩
    · have h_33 : (((gx l_9_1 ((a_14).toNat)).2.2) == 0) = true := (beq_iff_eq.mpr c_32)
      refine CW.ct rfl h_33 ?_
      refine CW.seq ?_
      refine CW.region ?_
      refine WL.val Wanted.none (Runs.assign rfl) ?_
      refine WL.nil ?_
      refine QW.then_n ?_
      refine CW.ret ?_
      refine QW.then_r ?_
      obtain ⟨rfl, rfl, rfl⟩ := H
      exact QW.ret1 rfl rfl ⟨T_3, A_6_1, n_7_1, c_8_1, x_10_1, hs_4, hn_11_1, hx_12_1, rfl, (St.pickT (L := [_, _]) st_16 [0, 1] (by decide))⟩
    · have h_33 : (((gx l_9_1 ((a_14).toNat)).2.2) == 0) = false := (beq_eq_false_iff_ne.mpr c_32)
      refine CW.cf rfl h_33 ?_
      refine CW.skip ?_
      refine QW.then_n ?_
      refine CW.seq ?_
      refine CW.region ?_
      refine WL.val Wanted.none (Runs.move rfl) ?_
      refine WL.val Wanted.none (Runs.nilCheck rfl) ?_
      refine WL.val Wanted.none (Runs.fieldAddr (off := 1) (p := 1) fld57_1 rfl rfl rfl) ?_
      refine WL.val Wanted.none (Runs.load nagg55 rfl (st_16.cell (k := 0) rfl (part_one (u := .slice A_6_1 n_7_1 c_8_1) (pre := (([.int .i64 a_5_0] : List Value))) (post := (([] : List Value))) (by first | rfl | simp only [List.append_assoc, List.append_nil, List.nil_append, List.cons_append]) (by first | rfl | simp only [List.length_append, List.length_cons, List.length_nil, iv_length])))) ?_
      refine WL.val Wanted.none (Runs.move rfl) ?_
      obtain ⟨⟨p_34, q_35⟩, H⟩ := H
      obtain ⟨a_36, e_37, ms_38, hc_39, hm_40⟩ := el_get (i := (a_14).toNat) (st_16.src_sl (k := 1) rfl) hx_12_1 (fz60 w) (by decide) (by omega)
      obtain ⟨A_41, n_42, c_43, em_45, hb_44⟩ := inv60 hm_40
      replace em_45 : ms_38 = ([.int .u64 ((gx l_9_1 ((a_14).toNat)).1)] : List Value) ++ (([.slice A_41 n_42 c_43] : List Value) ++ ([.int .i64 ((gx l_9_1 ((a_14).toNat)).2.2)] : List Value)) := em_45
      subst em_45
      refine WL.val Wanted.none (Runs.indexAddr Try.underlying55 cells60 (by decide) rfl e_37 rfl p_34 (by rw [show n_7_1 = l_9_1.length from hn_11_1]; exact q_35) (o := ((a_14).toNat) * 3) (by first | rfl | omega)) ?_
      refine WL.val Wanted.none (Runs.fieldAddrB (off := 2) fld60_2 rfl rfl rfl) ?_
      refine WL.val Wanted.none (Runs.load nagg3 rfl (Src.cellAt (j := 2) (Src.cut (st_16.src_sl (k := 1) rfl) e_37 hc_39) rfl)) ?_
      refine WL.val Wanted.none (Runs.sub rfl rfl rfl) ?_
      obtain ⟨⟨p_46, q_47⟩, H⟩ := H
      obtain ⟨a_48, e_49, ms_50, hc_51, hm_52⟩ := el_get (i := (a_14).toNat) (st_16.src_sl (k := 1) rfl) hx_12_1 (fz60 w) (by decide) (by omega)
      obtain ⟨A_53, n_54, c_55, em_57, hb_56⟩ := inv60 hm_52
      replace em_57 : ms_50 = ([.int .u64 ((gx l_9_1 ((a_14).toNat)).1)] : List Value) ++ (([.slice A_53 n_54 c_55] : List Value) ++ ([.int .i64 ((gx l_9_1 ((a_14).toNat)).2.2)] : List Value)) := em_57
      subst em_57
      refine WL.val Wanted.none (Runs.indexAddr Try.underlying55 cells60 (by decide) rfl e_49 rfl p_46 (by rw [show n_7_1 = l_9_1.length from hn_11_1]; exact q_47) (o := ((a_14).toNat) * 3) (by first | rfl | omega)) ?_
      refine WL.val Wanted.none (Runs.fieldAddrB (off := 2) fld60_2 rfl rfl rfl) ?_
      obtain ⟨m_58, e_59, H⟩ := H
      have hl_66 := (hx_12_1).length (fz60 w)
      refine WL.storeF (i := 1) (o := ((a_14).toNat) * 3) (f := 2) st_16 rfl e_49 cells3 rfl rfl (by omega) rfl ?_
      intro w_60 st_61
      obtain ⟨x_63, e_64⟩ : ∃ x_ : Cells, x_ = List.set x_10_1 (((a_14).toNat) * 3 + 2) (.int .i64 (IntKind.i64.wrap (((gx l_9_1 ((a_14).toNat)).2.2) - 1))) := ⟨_, rfl⟩
      have hx_65 : HRs T_3 (f60 w) x_63 m_58 := by rw [e_64, e_59]; exact HRs.setF (j := 2) (u := .int .i64 (IntKind.i64.wrap (((gx l_9_1 ((a_14).toNat)).2.2) - 1))) hx_12_1 (fz60 w) (by omega) (by decide) hc_51 (.cons rfl (.cons ⟨_, _, _, rfl, hb_56⟩ (.cons rfl .nil)))
      have hn_62 : n_7_1 = m_58.length := by rw [e_59, List.length_set]; exact hn_11_1
      replace st_61 : St w w_60 (.cells b0 (([.int .i64 a_5_0] : List Value) ++ ([.slice A_6_1 n_7_1 c_8_1] : List Value)) 57 :: .sl A_6_1 c_8_1 n_7_1 x_63 60 3 :: (T_3 ++ R)) := by rw [e_64]; exact st_61
      refine WL.nil ?_
      refine QW.then_n ?_
      refine CW.sub [(4, .bool false)] ⟨rfl, trivial⟩ ?_
      refine CW.seq ?_
      refine CW.region ?_
      refine WL.val Wanted.none (Runs.assign rfl) ?_
      refine WL.nil ?_
      refine QW.then_n ?_
      refine CW.ret ?_
      obtain ⟨rfl, rfl, rfl⟩ := H
      exact QW.ret1 rfl rfl ⟨T_3, A_6_1, n_7_1, c_8_1, x_63, hs_4, hn_62, hx_65, rfl, (St.pickT (L := [_, _]) st_61 [0, 1] (by decide))⟩

/-! ### buffers_Cache_Blocks: function 13 -/
def buffers_Cache_Blocks.L1 (a0_0 : Int) (l0_1 : List R60) (as0_0 : Int) (ls0_1 : List R60) (lr0 : List Int) : Nat → (List Int) → Int → Prop
  | 0, _, _ => False
  | kL1 + 1, l_8, x_11 => ((x_11 < (l0_1.length : Int) ∧ ((0 ≤ x_11 ∧ x_11 < (l0_1.length : Int)) ∧ (∃ m_39 : List Int, m_39 = l_8 ++ [(gx l0_1 ((x_11).toNat)).1] ∧ (m_39.length ≤ 1099511627776 ∧ buffers_Cache_Blocks.L1 a0_0 l0_1 as0_0 ls0_1 lr0 kL1 m_39 (IntKind.i64.wrap (x_11 + 1)))))) ∨ (¬ (x_11 < (l0_1.length : Int)) ∧ as0_0 = a0_0 ∧ ls0_1 = l0_1 ∧ lr0 = l_8))
def buffers_Cache_Blocks.rel (a0_0 : Int) (l0_1 : List R60) (as0_0 : Int) (ls0_1 : List R60) (lr0 : List Int) : Prop := (∃ k_ : Nat, buffers_Cache_Blocks.L1 a0_0 l0_1 as0_0 ls0_1 lr0 k_ ([] : List Int) 0)
set_option maxHeartbeats 1000000 in
set_option maxRecDepth 100000 in
theorem buffers_Cache_Blocks.calls (w w1 : World) (T R : Pool) (a0_0 : Int) (l0_1 : List R60) (b0 : Nat) (A0_1 : Option Addr) (n0_1 : Nat) (c0_1 : Nat) (x0_1 : Cells) (st0 : St w w1 (.cells b0 (([.int .i64 a0_0] : List Value) ++ ([.slice A0_1 n0_1 c0_1] : List Value)) 57 :: .sl A0_1 c0_1 n0_1 x0_1 60 3 :: (T ++ R))) (hn0_1 : n0_1 = l0_1.length) (hx0_1 : HRs T (f60 w) x0_1 l0_1) (as0_0 : Int) (ls0_1 : List R60) (lr0 : List Int) (H : buffers_Cache_Blocks.rel a0_0 l0_1 as0_0 ls0_1 lr0) :
    Calls Try.prog 13 #[.pointer (some ⟨b0, 0, none⟩)] w1 fun e w' => ∃ T' As0_1 ns0_1 cs0_1 xs0_1 Ar0 nr0 cr0, Pl T T' ∧ ns0_1 = ls0_1.length ∧ HRs T' (f60 w) xs0_1 ls0_1 ∧ nr0 = lr0.length ∧ e = .returned (.slice Ar0 nr0 cr0) ∧ St w w' (.cells b0 (([.int .i64 as0_0] : List Value) ++ ([.slice As0_1 ns0_1 cs0_1] : List Value)) 57 :: .sl As0_1 cs0_1 ns0_1 xs0_1 60 3 :: .sl Ar0 cr0 nr0 (iv .u64 lr0) 29 1 :: (T' ++ R)) := by
  refine CW.enter Try.func13 rfl (n := 24) rfl [.pointer (some ⟨b0, 0, none⟩)] (Nat.le_of_ble_eq_true rfl) ?_
  refine CW.sub [(0, .pointer (some ⟨b0, 0, none⟩))] ⟨rfl, trivial⟩ ?_
  refine CW.seq ?_
  refine CW.region ?_
  refine WL.val Wanted.none (Runs.assign rfl) ?_
  refine WL.nil ?_
  refine QW.then_n ?_
  refine CW.seq ?_
  refine CW.seq ?_
  refine CW.region ?_
  refine WL.val Wanted.none (Runs.move rfl) ?_
  refine WL.val Wanted.none (Runs.eql_ptr Try.underlying25 rfl rfl rfl) ?_
  refine WL.nil ?_
  refine QW.then_n ?_
  refine CW.cf rfl rfl ?_
  refine CW.skip ?_
  refine QW.then_n ?_
  refine CW.seq ?_
  refine CW.region ?_
  refine WL.val Wanted.none (Runs.assign rfl) ?_
  refine WL.nil ?_
  refine QW.then_n ?_
  refine CW.seq ?_
  refine CW.seq ?_
  refine CW.region ?_
  refine WL.val Wanted.none (Runs.move rfl) ?_
  refine WL.val Wanted.none (Runs.nilCheck rfl) ?_
  refine WL.val Wanted.none (Runs.fieldAddr (off := 1) (p := 1) fld57_1 rfl rfl rfl) ?_
  refine WL.val Wanted.none (Runs.load nagg55 rfl (st0.cell (k := 0) rfl (part_one (u := .slice A0_1 n0_1 c0_1) (pre := (([.int .i64 a0_0] : List Value))) (post := (([] : List Value))) (by first | rfl | simp only [List.append_assoc, List.append_nil, List.nil_append, List.cons_append]) (by first | rfl | simp only [List.length_append, List.length_cons, List.length_nil, iv_length])))) ?_
  refine WL.val Wanted.none (Runs.len_sl Try.underlying55 rfl (by rw [hn0_1])) ?_
  refine WL.val Wanted.none (Runs.move rfl) ?_
  refine WL.nil ?_
  refine QW.then_n ?_
  refine CW.sub [(2, .slice none 0 0), (3, .slice none 0 0), (11, .slice A0_1 n0_1 c0_1), (12, .int .i64 (l0_1.length : Int)), (13, .int .i64 0)] ⟨rfl, rfl, rfl, rfl, rfl, trivial⟩ ?_
  refine CW.block ?_
  have st_2 := st0.nil_sl 29 1
  have st_2 : St w w1 (.sl none 0 0 (iv .u64 ([] : List Int)) 29 1 :: .cells b0 (([.int .i64 a0_0] : List Value) ++ ([.slice A0_1 n0_1 c0_1] : List Value)) 57 :: .sl A0_1 c0_1 n0_1 x0_1 60 3 :: (T ++ R)) := st_2
  obtain ⟨k_3, H⟩ := H
  refine CW.sub [(2, .slice none 0 0), (3, .slice none 0 0), (11, .slice A0_1 n0_1 c0_1), (12, .int .i64 (l0_1.length : Int)), (13, .int .i64 0)] ⟨rfl, rfl, rfl, rfl, rfl, trivial⟩ ?_
  refine CW.loop (fun kL1 l_ w_ => ∃ (T_4 : Pool) (A_6 : Option Addr) (c_7 : Nat) (n_9 : Nat) (l_8 : List Int) (x_11 : Int), l_ = [(2, .slice none 0 0), (3, .slice A_6 n_9 c_7), (11, .slice A0_1 n0_1 c0_1), (12, .int .i64 (l0_1.length : Int)), (13, .int .i64 x_11)] ∧ buffers_Cache_Blocks.L1 a0_0 l0_1 as0_0 ls0_1 lr0 kL1 l_8 x_11 ∧ (Pl T T_4) ∧ (n_9 = l_8.length) ∧ St w w_ (.sl A_6 c_7 n_9 (iv .u64 l_8) 29 1 :: .cells b0 (([.int .i64 a0_0] : List Value) ++ ([.slice A0_1 n0_1 c0_1] : List Value)) 57 :: .sl A0_1 c0_1 n0_1 x0_1 60 3 :: (T_4 ++ R))) (k := k_3) ⟨T, none, 0, 0, ([] : List Int), 0, rfl, H, Pl.refl, rfl, st_2⟩ (fun _ _ h => by obtain ⟨_, _, _, _, _, _, _, h, _⟩ := h; exact h.elim) ?_
  rintro kL1 l_14 w_12 ⟨T_4, A_6, c_7, n_9, l_8, x_11, rfl, H, hs_5, hn_10, st_13⟩
  refine CW.seq ?_
  refine CW.region ?_
  refine WL.val Wanted.none (Runs.lss rfl rfl rfl) ?_
  refine WL.nil ?_
  refine QW.then_n ?_
  refine CW.seq ?_
  rcases H with ⟨c_15, H⟩ | ⟨c_15, H⟩
  · have h_16 : (decide (x_11 < (l0_1.length : Int))) = true := (decide_eq_true c_15)
    refine CW.ct rfl h_16 ?_
    refine CW.skip ?_
    refine QW.then_n ?_
    refine CW.seq ?_
    refine CW.block ?_
    refine CW.seq ?_
    refine CW.region ?_
    obtain ⟨⟨p_17, q_18⟩, H⟩ := H
    obtain ⟨a_19, e_20, ms_21, hc_22, hm_23⟩ := el_get (i := (x_11).toNat) (st_13.src_sl (k := 2) rfl) (hx0_1.mono (fun _ h_ => hs_5.1 _ h_)) (fz60 w) (by decide) (by omega)
    obtain ⟨A_24, n_25, c_26, em_28, hb_27⟩ := inv60 hm_23
    replace em_28 : ms_21 = ([.int .u64 ((gx l0_1 ((x_11).toNat)).1)] : List Value) ++ (([.slice A_24 n_25 c_26] : List Value) ++ ([.int .i64 ((gx l0_1 ((x_11).toNat)).2.2)] : List Value)) := em_28
    subst em_28
    refine WL.val Wanted.none (Runs.indexAddr Try.underlying55 cells60 (by decide) rfl e_20 rfl p_17 (by rw [show n0_1 = l0_1.length from hn0_1]; exact q_18) (o := ((x_11).toNat) * 3) (by first | rfl | omega)) ?_
    refine WL.val Wanted.none (Runs.load_srcR row60 rfl (Src.cut (st_13.src_sl (k := 2) rfl) e_20 hc_22) rfl) ?_
    refine WL.alloc st_13 zero60 ?_
    intro B_29 w_30 st_31
    replace st_31 : St w w_30 (.cells B_29 (([.int .u64 0] : List Value) ++ (([.slice none 0 0] : List Value) ++ ([.int .i64 0] : List Value))) 60 :: .sl A_6 c_7 n_9 (iv .u64 l_8) 29 1 :: .cells b0 (([.int .i64 a0_0] : List Value) ++ ([.slice A0_1 n0_1 c0_1] : List Value)) 57 :: .sl A0_1 c0_1 n0_1 x0_1 60 3 :: (T_4 ++ R)) := st_31
    refine WL.store_mid (i := 0) (pre := (([] : List Value))) (mid := (([.int .u64 0] : List Value) ++ (([.slice none 0 0] : List Value) ++ ([.int .i64 0] : List Value)))) (post := (([] : List Value))) (ms := (([.int .u64 ((gx l0_1 ((x_11).toNat)).1)] : List Value) ++ (([.slice A_24 n_25 c_26] : List Value) ++ ([.int .i64 ((gx l0_1 ((x_11).toNat)).2.2)] : List Value)))) st_31 rfl row60 (by first | rfl | simp only [List.append_assoc, List.append_nil, List.nil_append, List.cons_append]) (by first | rfl | simp only [List.length_append, List.length_cons, List.length_nil, iv_length]) rfl rfl (by first | rfl | simp only [List.length_append, List.length_cons, List.length_nil, iv_length]) (by first | rfl | simp only [List.length_append, List.length_cons, List.length_nil, iv_length]) (by intro u hu; simp only [List.mem_append, List.mem_singleton] at hu; rcases hu with hu | hu | hu <;> first | exact one_iv _ _ u hu | (subst hu; rfl)) ?_
    intro w_33 st_34
    replace st_34 : St w w_33 (.cells B_29 (([.int .u64 ((gx l0_1 ((x_11).toNat)).1)] : List Value) ++ (([.slice A_24 n_25 c_26] : List Value) ++ ([.int .i64 ((gx l0_1 ((x_11).toNat)).2.2)] : List Value))) 60 :: .sl A_6 c_7 n_9 (iv .u64 l_8) 29 1 :: .cells b0 (([.int .i64 a0_0] : List Value) ++ ([.slice A0_1 n0_1 c0_1] : List Value)) 57 :: .sl A0_1 c0_1 n0_1 x0_1 60 3 :: (T_4 ++ R)) := by have e_ : (([.int .u64 ((gx l0_1 ((x_11).toNat)).1)] : List Value) ++ (([.slice A_24 n_25 c_26] : List Value) ++ ([.int .i64 ((gx l0_1 ((x_11).toNat)).2.2)] : List Value))) = (([] : List Value)) ++ ((([.int .u64 ((gx l0_1 ((x_11).toNat)).1)] : List Value) ++ (([.slice A_24 n_25 c_26] : List Value) ++ ([.int .i64 ((gx l0_1 ((x_11).toNat)).2.2)] : List Value))) ++ (([] : List Value))) := (by first | rfl | simp only [List.append_assoc, List.append_nil, List.nil_append, List.cons_append]); have h_ : St w w_33 (.cells B_29 ((([] : List Value)) ++ ((([.int .u64 ((gx l0_1 ((x_11).toNat)).1)] : List Value) ++ (([.slice A_24 n_25 c_26] : List Value) ++ ([.int .i64 ((gx l0_1 ((x_11).toNat)).2.2)] : List Value))) ++ (([] : List Value)))) 60 :: .sl A_6 c_7 n_9 (iv .u64 l_8) 29 1 :: .cells b0 (([.int .i64 a0_0] : List Value) ++ ([.slice A0_1 n0_1 c0_1] : List Value)) 57 :: .sl A0_1 c0_1 n0_1 x0_1 60 3 :: (T_4 ++ R)) := st_34; rw [← e_] at h_; exact h_
    refine WL.nil ?_
    refine QW.then_n ?_
    refine CW.region ?_
    refine WL.val Wanted.none (Runs.move rfl) ?_
    refine WL.val Wanted.none (Runs.fieldAddr (off := 0) (p := 0) fld60_0 rfl rfl rfl) ?_
    refine WL.val Wanted.none (Runs.load nagg29 rfl (st_34.cell (k := 0) rfl (part_one (u := .int .u64 ((gx l0_1 ((x_11).toNat)).1)) (pre := (([] : List Value))) (post := (([.slice A_24 n_25 c_26] : List Value) ++ ([.int .i64 ((gx l0_1 ((x_11).toNat)).2.2)] : List Value))) (by first | rfl | simp only [List.append_assoc, List.append_nil, List.nil_append, List.cons_append]) (by first | rfl | simp only [List.length_append, List.length_cons, List.length_nil, iv_length])))) ?_
    refine WL.buildSl [.int .u64 ((gx l0_1 ((x_11).toNat)).1)] st_34 Try.underlying33 elem29 rfl rfl (by decide) (by decide) (by simp [Value.cells]) ?_
    intro B_35 w_36 st_37
    replace st_37 : St w w_36 (.sl (some ⟨B_35, 0, none⟩) 1 1 (iv .u64 [(gx l0_1 ((x_11).toNat)).1]) 29 1 :: .cells B_29 (([.int .u64 ((gx l0_1 ((x_11).toNat)).1)] : List Value) ++ (([.slice A_24 n_25 c_26] : List Value) ++ ([.int .i64 ((gx l0_1 ((x_11).toNat)).2.2)] : List Value))) 60 :: .sl A_6 c_7 n_9 (iv .u64 l_8) 29 1 :: .cells b0 (([.int .i64 a0_0] : List Value) ++ ([.slice A0_1 n0_1 c0_1] : List Value)) 57 :: .sl A0_1 c0_1 n0_1 x0_1 60 3 :: (T_4 ++ R)) := st_37
    obtain ⟨m_39, e_40, H⟩ := H
    obtain ⟨z_41, H⟩ := H
    obtain ⟨n_44, hn_47⟩ : ∃ n_ : Nat, n_ = m_39.length := ⟨_, rfl⟩
    refine WL.append (i := 2) Wanted.none st_37 rfl Try.underlying33 elem29 rfl rfl (st_37.src_sl (k := 0) rfl) (by rw [iv_length]; exact (Eq.refl _).symm) (one_iv .u64 _) (by decide) (N := n_44) (by rw [hn_47, e_40, List.length_append]; exact congr (congrArg HAdd.hAdd (hn_10)) (rfl)) (by rw [hn_47]; exact z_41) ?_
    intro A_42 c_43 w_45 st_46
    have st_46' : St w w_45 (.sl (some ⟨B_35, 0, none⟩) 1 1 (iv .u64 [(gx l0_1 ((x_11).toNat)).1]) 29 1 :: .cells B_29 (([.int .u64 ((gx l0_1 ((x_11).toNat)).1)] : List Value) ++ (([.slice A_24 n_25 c_26] : List Value) ++ ([.int .i64 ((gx l0_1 ((x_11).toNat)).2.2)] : List Value))) 60 :: .sl A_42 c_43 n_44 (iv .u64 m_39) 29 1 :: .cells b0 (([.int .i64 a0_0] : List Value) ++ ([.slice A0_1 n0_1 c0_1] : List Value)) 57 :: .sl A0_1 c0_1 n0_1 x0_1 60 3 :: (T_4 ++ R)) := by rw [e_40, ← iv_append .u64 l_8 [(gx l0_1 ((x_11).toNat)).1]]; exact st_46
    refine WL.val Wanted.none (Runs.assign rfl) ?_
    refine WL.nil ?_
    refine QW.blk_n ?_
    refine QW.then_n ?_
    refine CW.region ?_
    refine WL.val Wanted.none (Runs.add rfl rfl rfl) ?_
    refine WL.val Wanted.none (Runs.move rfl) ?_
    refine WL.nil ?_
    have st_46'' := (St.pickT (L := [_, _, _, _, _]) st_46' [2, 3, 4] (by decide))
    exact QW.at [(2, .slice none 0 0), (3, .slice A_42 n_44 c_43), (11, .slice A0_1 n0_1 c0_1), (12, .int .i64 (l0_1.length : Int)), (13, .int .i64 (IntKind.i64.wrap (x_11 + 1)))] ⟨rfl, rfl, rfl, rfl, rfl, trivial⟩ ⟨T_4, A_42, c_43, n_44, m_39, IntKind.i64.wrap (x_11 + 1), rfl, H, hs_5, hn_47, st_46''⟩
  · have h_16 : (decide (x_11 < (l0_1.length : Int))) = false := (decide_eq_false c_15)
    refine CW.cf rfl h_16 ?_
    refine CW.exit ?_
    refine QW.then_x ?_
    refine QW.then_x ?_
    refine QW.blk_x ?_
    refine QW.then_n ?_
    refine CW.seq ?_
    refine CW.region ?_
    refine WL.val Wanted.none (Runs.move rfl) ?_
    refine WL.val Wanted.none (Runs.assign rfl) ?_
    refine WL.nil ?_
    refine QW.then_n ?_
    refine CW.sub [(2, .slice A_6 n_9 c_7)] ⟨rfl, trivial⟩ ?_
    refine CW.ret ?_
    obtain ⟨rfl, rfl, rfl⟩ := H
    exact QW.ret1 rfl rfl ⟨T_4, A0_1, n0_1, c0_1, x0_1, A_6, n_9, c_7, hs_5, hn0_1, (hx0_1.mono (fun _ h_ => hs_5.1 _ h_)), hn_10, rfl, (St.pickT (L := [_, _, _]) st_13 [1, 2, 0] (by decide))⟩

/-! ### reliquarylaw15_awake: function 8 -/
def reliquarylaw15_awake.rel   : Prop := (∃ (a_7_0 : Int) (l_11_1 : List R60), buffers_New.rel 1 a_7_0 l_11_1 ∧ (∃ (a_28_0 : Int) (l_32_1 : List R60) (a_37 : Int), buffers_Cache_Put.rel a_7_0 l_11_1 1 (List.replicate 160 (0 : Int)) a_28_0 l_32_1 a_37 ∧ (∃ (a_45_0 : Int) (l_49_1 : List R60) (a_54 : Int), buffers_Cache_Put.rel a_28_0 l_32_1 2 (List.replicate 160 (0 : Int)) a_45_0 l_49_1 a_54 ∧ (∃ (a_62_0 : Int) (l_66_1 : List R60) (l_74 : List Int) (a_78 : Bool), buffers_Cache_Get.rel a_45_0 l_49_1 1 a_62_0 l_66_1 l_74 a_78 ∧ (∃ (a_86_0 : Int) (l_90_1 : List R60) (l_98 : List Int) (a_102 : Bool), buffers_Cache_Get.rel a_62_0 l_66_1 2 a_86_0 l_90_1 l_98 a_102 ∧ (∃ (a_110_0 : Int) (l_114_1 : List R60) (a_119 : Bool), buffers_Cache_Pin.rel a_86_0 l_90_1 2 a_110_0 l_114_1 a_119 ∧ (∃ (a_127_0 : Int) (l_131_1 : List R60) (a_136 : Int), buffers_Cache_Put.rel a_110_0 l_114_1 3 (List.replicate 160 (0 : Int)) a_127_0 l_131_1 a_136 ∧ (a_37 = 0 ∧ (a_54 = 0 ∧ (¬ (a_78 = true) ∧ (a_102 = true ∧ ((l_98.length : Int) = 160 ∧ (a_119 = true ∧ (a_136 = 17 ∧ (∃ (a_158_0 : Int) (l_162_1 : List R60) (a_167 : Bool), buffers_Cache_Unpin.rel a_127_0 l_131_1 2 a_158_0 l_162_1 a_167 ∧ (a_167 = true ∧ (∃ (a_177_0 : Int) (l_181_1 : List R60) (a_186 : Bool), buffers_Cache_Unpin.rel a_158_0 l_162_1 2 a_177_0 l_181_1 a_186 ∧ (¬ (a_186 = true) ∧ (∃ (a_196_0 : Int) (l_200_1 : List R60) (l_208 : List Int), buffers_Cache_Blocks.rel a_177_0 l_181_1 a_196_0 l_200_1 l_208 ∧ (l_208.length : Int) = 1)))))))))))))))))))
set_option maxHeartbeats 4000000 in
set_option maxRecDepth 100000 in
theorem reliquarylaw15_awake.calls (w : World)      (H : reliquarylaw15_awake.rel  ) :
    Calls Try.prog 8 #[] w fun e w' => e = .returned (.bool true) ∧ Below w.heap.size w w' := by
  refine CW.enter Try.func8 rfl (n := 74) rfl [] (Nat.le_of_ble_eq_true rfl) ?_
  refine CW.sub [] trivial ?_
  obtain ⟨T, R, hT, hR, st0⟩ := St.start w
  refine CW.seq ?_
  refine CW.region ?_
  refine WL.val Wanted.none (Runs.assign rfl) ?_
  refine WL.nil ?_
  refine QW.then_n ?_
  refine CW.seq ?_
  refine CW.region ?_
  have st_1 : St w w ((T ++ (R))) := St.hide (A := []) (B := []) (T := T) (R := R) st0
  obtain ⟨a_7_0, l_11_1, hr_2, H⟩ := H
  refine WL.call Wanted.none ent10 rfl (buffers_New.calls w w T (R) 1  st_1 a_7_0 l_11_1 hr_2) ?_
  rintro _ w_15 ⟨T_3, b_6, A_8_1, n_9_1, c_10_1, x_12_1, hs_4, hn_13_1, hx_14_1, rfl, sc_17⟩
  have st_16 : St w w_15 (.cells b_6 (([.int .i64 a_7_0] : List Value) ++ ([.slice A_8_1 n_9_1 c_10_1] : List Value)) 57 :: .sl A_8_1 c_10_1 n_9_1 x_12_1 60 3 :: (T_3 ++ R)) := St.unhide (A := [_, _]) (B := []) (T := T_3) (R := R) sc_17
  refine ⟨_, rfl, ?_⟩
  refine WL.val Wanted.none (Runs.assign rfl) ?_
  refine WL.nil ?_
  refine QW.then_n ?_
  refine CW.seq ?_
  refine CW.region ?_
  refine WL.make st_16 Try.underlying22 elem5 rfl rfl (by decide) (by decide) (by decide) (N := 160) rfl ?_
  intro B_18 w_19 st_20
  replace st_20 : St w w_19 (.sl (some ⟨B_18, 0, none⟩) 160 160 (iv .u8 (List.replicate 160 (0 : Int))) 5 1 :: .cells b_6 (([.int .i64 a_7_0] : List Value) ++ ([.slice A_8_1 n_9_1 c_10_1] : List Value)) 57 :: .sl A_8_1 c_10_1 n_9_1 x_12_1 60 3 :: (T_3 ++ R)) := by rw [iv_replicate] at st_20; exact st_20
  have hn_21 : 160 = (List.replicate 160 (0 : Int)).length := by simp
  refine WL.val Wanted.none (Runs.assign rfl) ?_
  refine WL.nil ?_
  refine QW.then_n ?_
  refine CW.seq ?_
  refine CW.region ?_
  refine WL.val Wanted.none (Runs.move rfl) ?_
  refine WL.val Wanted.none (Runs.move rfl) ?_
  have st_23 := (St.pickT (L := [_, _, _]) st_20 [1, 2, 0] (by decide))
  replace st_23 : St w w_19 (.cells b_6 (([.int .i64 a_7_0] : List Value) ++ ([.slice A_8_1 n_9_1 c_10_1] : List Value)) 57 :: .sl A_8_1 c_10_1 n_9_1 x_12_1 60 3 :: .sl (some ⟨B_18, 0, none⟩) 160 160 (iv .u8 (List.replicate 160 (0 : Int))) 5 1 :: (T_3 ++ R)) := st_23
  have st_24 : St w w_19 (.cells b_6 (([.int .i64 a_7_0] : List Value) ++ ([.slice A_8_1 n_9_1 c_10_1] : List Value)) 57 :: .sl A_8_1 c_10_1 n_9_1 x_12_1 60 3 :: (T_3 ++ (.sl (some ⟨B_18, 0, none⟩) 160 160 (iv .u8 (List.replicate 160 (0 : Int))) 5 1 :: R))) := St.hide (A := [_, _]) (B := [_]) (T := T_3) (R := R) st_23
  obtain ⟨a_28_0, l_32_1, a_37, hr_25, H⟩ := H
  refine WL.call Wanted.none ent11 rfl (buffers_Cache_Put.calls w w_19 T_3 (.sl (some ⟨B_18, 0, none⟩) 160 160 (iv .u8 (List.replicate 160 (0 : Int))) 5 1 :: R) a_7_0 l_11_1 1 (List.replicate 160 (0 : Int)) b_6 A_8_1 n_9_1 c_10_1 x_12_1 (some ⟨B_18, 0, none⟩) 160 160 (hs_4.2 hT) (show celly (.sl (some ⟨B_18, 0, none⟩) 160 160 (iv .u8 (List.replicate 160 (0 : Int))) 5 1 :: R) = true from hR) st_24 (hn_13_1) hx_14_1 ⟨hn_21, st_23.cap (i := 2) rfl, fun W_ L_ st hT => st.src_mem (hT _ (List.mem_append_right _ (List.mem_of_getElem? (i := 0) rfl)))⟩ a_28_0 l_32_1 a_37 hr_25) ?_
  rintro _ w_38 ⟨T_26, A_29_1, n_30_1, c_31_1, x_33_1, hs_27, hn_34_1, hx_35_1, rfl, sc_40⟩
  have st_39 : St w w_38 (.cells b_6 (([.int .i64 a_28_0] : List Value) ++ ([.slice A_29_1 n_30_1 c_31_1] : List Value)) 57 :: .sl A_29_1 c_31_1 n_30_1 x_33_1 60 3 :: .sl (some ⟨B_18, 0, none⟩) 160 160 (iv .u8 (List.replicate 160 (0 : Int))) 5 1 :: (T_26 ++ R)) := St.unhide (A := [_, _]) (B := [_]) (T := T_26) (R := R) sc_40
  refine ⟨_, rfl, ?_⟩
  refine WL.val Wanted.none (Runs.assign rfl) ?_
  refine WL.nil ?_
  refine QW.then_n ?_
  refine CW.seq ?_
  refine CW.region ?_
  refine WL.val Wanted.none (Runs.move rfl) ?_
  refine WL.val Wanted.none (Runs.move rfl) ?_
  have st_41 : St w w_38 (.cells b_6 (([.int .i64 a_28_0] : List Value) ++ ([.slice A_29_1 n_30_1 c_31_1] : List Value)) 57 :: .sl A_29_1 c_31_1 n_30_1 x_33_1 60 3 :: (T_26 ++ (.sl (some ⟨B_18, 0, none⟩) 160 160 (iv .u8 (List.replicate 160 (0 : Int))) 5 1 :: R))) := St.hide (A := [_, _]) (B := [_]) (T := T_26) (R := R) st_39
  obtain ⟨a_45_0, l_49_1, a_54, hr_42, H⟩ := H
  refine WL.call Wanted.none ent11 rfl (buffers_Cache_Put.calls w w_38 T_26 (.sl (some ⟨B_18, 0, none⟩) 160 160 (iv .u8 (List.replicate 160 (0 : Int))) 5 1 :: R) a_28_0 l_32_1 2 (List.replicate 160 (0 : Int)) b_6 A_29_1 n_30_1 c_31_1 x_33_1 (some ⟨B_18, 0, none⟩) 160 160 (hs_27.2 (hs_4.2 hT)) (show celly (.sl (some ⟨B_18, 0, none⟩) 160 160 (iv .u8 (List.replicate 160 (0 : Int))) 5 1 :: R) = true from hR) st_41 (hn_34_1) hx_35_1 ⟨hn_21, st_39.cap (i := 2) rfl, fun W_ L_ st hT => st.src_mem (hT _ (List.mem_append_right _ (List.mem_of_getElem? (i := 0) rfl)))⟩ a_45_0 l_49_1 a_54 hr_42) ?_
  rintro _ w_55 ⟨T_43, A_46_1, n_47_1, c_48_1, x_50_1, hs_44, hn_51_1, hx_52_1, rfl, sc_57⟩
  have st_56 : St w w_55 (.cells b_6 (([.int .i64 a_45_0] : List Value) ++ ([.slice A_46_1 n_47_1 c_48_1] : List Value)) 57 :: .sl A_46_1 c_48_1 n_47_1 x_50_1 60 3 :: .sl (some ⟨B_18, 0, none⟩) 160 160 (iv .u8 (List.replicate 160 (0 : Int))) 5 1 :: (T_43 ++ R)) := St.unhide (A := [_, _]) (B := [_]) (T := T_43) (R := R) sc_57
  refine ⟨_, rfl, ?_⟩
  refine WL.val Wanted.none (Runs.assign rfl) ?_
  refine WL.nil ?_
  refine QW.then_n ?_
  refine CW.sub [(0, .bool false), (1, .pointer (some ⟨b_6, 0, none⟩)), (2, .slice (some ⟨B_18, 0, none⟩) 160 160), (3, .int .i64 a_37), (4, .int .i64 a_54)] ⟨rfl, rfl, rfl, rfl, rfl, trivial⟩ ?_
  refine CW.seq ?_
  refine CW.region ?_
  refine WL.val Wanted.none (Runs.move rfl) ?_
  have st_58 : St w w_55 (.cells b_6 (([.int .i64 a_45_0] : List Value) ++ ([.slice A_46_1 n_47_1 c_48_1] : List Value)) 57 :: .sl A_46_1 c_48_1 n_47_1 x_50_1 60 3 :: (T_43 ++ (.sl (some ⟨B_18, 0, none⟩) 160 160 (iv .u8 (List.replicate 160 (0 : Int))) 5 1 :: R))) := St.hide (A := [_, _]) (B := [_]) (T := T_43) (R := R) st_56
  obtain ⟨a_62_0, l_66_1, l_74, a_78, hr_59, H⟩ := H
  refine WL.call Wanted.none ent12 rfl (buffers_Cache_Get.calls w w_55 T_43 (.sl (some ⟨B_18, 0, none⟩) 160 160 (iv .u8 (List.replicate 160 (0 : Int))) 5 1 :: R) a_45_0 l_49_1 1 b_6 A_46_1 n_47_1 c_48_1 x_50_1  st_58 (hn_51_1) hx_52_1 a_62_0 l_66_1 l_74 a_78 hr_59) ?_
  rintro _ w_79 ⟨T_60, A_63_1, n_64_1, c_65_1, x_67_1, A_71, n_72, c_73, hs_61, hn_68_1, hx_69_1, hn_76, rfl, sc_81⟩
  have st_80 : St w w_79 (.cells b_6 (([.int .i64 a_62_0] : List Value) ++ ([.slice A_63_1 n_64_1 c_65_1] : List Value)) 57 :: .sl A_63_1 c_65_1 n_64_1 x_67_1 60 3 :: .sl A_71 c_73 n_72 (iv .u8 l_74) 5 1 :: .sl (some ⟨B_18, 0, none⟩) 160 160 (iv .u8 (List.replicate 160 (0 : Int))) 5 1 :: (T_60 ++ R)) := St.unhide (A := [_, _, _]) (B := [_]) (T := T_60) (R := R) sc_81
  refine ⟨_, rfl, ?_⟩
  refine WL.val Wanted.none (Runs.move rfl) ?_
  refine WL.val Wanted.none (Runs.extract rfl rfl) ?_
  refine WL.val Wanted.none (Runs.extract rfl rfl) ?_
  refine WL.val Wanted.none (Runs.assign rfl) ?_
  refine WL.val Wanted.none (Runs.assign rfl) ?_
  refine WL.nil ?_
  refine QW.then_n ?_
  refine CW.sub [(0, .bool false), (1, .pointer (some ⟨b_6, 0, none⟩)), (2, .slice (some ⟨B_18, 0, none⟩) 160 160), (3, .int .i64 a_37), (4, .int .i64 a_54), (6, .bool a_78)] ⟨rfl, rfl, rfl, rfl, rfl, rfl, trivial⟩ ?_
  refine CW.seq ?_
  refine CW.region ?_
  refine WL.val Wanted.none (Runs.move rfl) ?_
  have st_82 : St w w_79 (.cells b_6 (([.int .i64 a_62_0] : List Value) ++ ([.slice A_63_1 n_64_1 c_65_1] : List Value)) 57 :: .sl A_63_1 c_65_1 n_64_1 x_67_1 60 3 :: (T_60 ++ (.sl A_71 c_73 n_72 (iv .u8 l_74) 5 1 :: .sl (some ⟨B_18, 0, none⟩) 160 160 (iv .u8 (List.replicate 160 (0 : Int))) 5 1 :: R))) := St.hide (A := [_, _]) (B := [_, _]) (T := T_60) (R := R) st_80
  obtain ⟨a_86_0, l_90_1, l_98, a_102, hr_83, H⟩ := H
  refine WL.call Wanted.none ent12 rfl (buffers_Cache_Get.calls w w_79 T_60 (.sl A_71 c_73 n_72 (iv .u8 l_74) 5 1 :: .sl (some ⟨B_18, 0, none⟩) 160 160 (iv .u8 (List.replicate 160 (0 : Int))) 5 1 :: R) a_62_0 l_66_1 2 b_6 A_63_1 n_64_1 c_65_1 x_67_1  st_82 (hn_68_1) hx_69_1 a_86_0 l_90_1 l_98 a_102 hr_83) ?_
  rintro _ w_103 ⟨T_84, A_87_1, n_88_1, c_89_1, x_91_1, A_95, n_96, c_97, hs_85, hn_92_1, hx_93_1, hn_100, rfl, sc_105⟩
  have st_104 : St w w_103 (.cells b_6 (([.int .i64 a_86_0] : List Value) ++ ([.slice A_87_1 n_88_1 c_89_1] : List Value)) 57 :: .sl A_87_1 c_89_1 n_88_1 x_91_1 60 3 :: .sl A_95 c_97 n_96 (iv .u8 l_98) 5 1 :: .sl A_71 c_73 n_72 (iv .u8 l_74) 5 1 :: .sl (some ⟨B_18, 0, none⟩) 160 160 (iv .u8 (List.replicate 160 (0 : Int))) 5 1 :: (T_84 ++ R)) := St.unhide (A := [_, _, _]) (B := [_, _]) (T := T_84) (R := R) sc_105
  refine ⟨_, rfl, ?_⟩
  refine WL.val Wanted.none (Runs.move rfl) ?_
  refine WL.val Wanted.none (Runs.extract rfl rfl) ?_
  refine WL.val Wanted.none (Runs.extract rfl rfl) ?_
  refine WL.val Wanted.none (Runs.assign rfl) ?_
  refine WL.val Wanted.none (Runs.assign rfl) ?_
  refine WL.nil ?_
  refine QW.then_n ?_
  refine CW.seq ?_
  refine CW.region ?_
  refine WL.val Wanted.none (Runs.move rfl) ?_
  have st_106 : St w w_103 (.cells b_6 (([.int .i64 a_86_0] : List Value) ++ ([.slice A_87_1 n_88_1 c_89_1] : List Value)) 57 :: .sl A_87_1 c_89_1 n_88_1 x_91_1 60 3 :: (T_84 ++ (.sl A_95 c_97 n_96 (iv .u8 l_98) 5 1 :: .sl A_71 c_73 n_72 (iv .u8 l_74) 5 1 :: .sl (some ⟨B_18, 0, none⟩) 160 160 (iv .u8 (List.replicate 160 (0 : Int))) 5 1 :: R))) := St.hide (A := [_, _]) (B := [_, _, _]) (T := T_84) (R := R) st_104
  obtain ⟨a_110_0, l_114_1, a_119, hr_107, H⟩ := H
  refine WL.call Wanted.none ent16 rfl (buffers_Cache_Pin.calls w w_103 T_84 (.sl A_95 c_97 n_96 (iv .u8 l_98) 5 1 :: .sl A_71 c_73 n_72 (iv .u8 l_74) 5 1 :: .sl (some ⟨B_18, 0, none⟩) 160 160 (iv .u8 (List.replicate 160 (0 : Int))) 5 1 :: R) a_86_0 l_90_1 2 b_6 A_87_1 n_88_1 c_89_1 x_91_1  st_106 (hn_92_1) hx_93_1 a_110_0 l_114_1 a_119 hr_107) ?_
  rintro _ w_120 ⟨T_108, A_111_1, n_112_1, c_113_1, x_115_1, hs_109, hn_116_1, hx_117_1, rfl, sc_122⟩
  have st_121 : St w w_120 (.cells b_6 (([.int .i64 a_110_0] : List Value) ++ ([.slice A_111_1 n_112_1 c_113_1] : List Value)) 57 :: .sl A_111_1 c_113_1 n_112_1 x_115_1 60 3 :: .sl A_95 c_97 n_96 (iv .u8 l_98) 5 1 :: .sl A_71 c_73 n_72 (iv .u8 l_74) 5 1 :: .sl (some ⟨B_18, 0, none⟩) 160 160 (iv .u8 (List.replicate 160 (0 : Int))) 5 1 :: (T_108 ++ R)) := St.unhide (A := [_, _]) (B := [_, _, _]) (T := T_108) (R := R) sc_122
  refine ⟨_, rfl, ?_⟩
  refine WL.val Wanted.none (Runs.assign rfl) ?_
  refine WL.nil ?_
  refine QW.then_n ?_
  refine CW.sub [(0, .bool false), (1, .pointer (some ⟨b_6, 0, none⟩)), (2, .slice (some ⟨B_18, 0, none⟩) 160 160), (3, .int .i64 a_37), (4, .int .i64 a_54), (6, .bool a_78), (7, .slice A_95 n_96 c_97), (8, .bool a_102), (9, .bool a_119)] ⟨rfl, rfl, rfl, rfl, rfl, rfl, rfl, rfl, rfl, trivial⟩ ?_
  refine CW.seq ?_
  refine CW.region ?_
  refine WL.val Wanted.none (Runs.move rfl) ?_
  refine WL.val Wanted.none (Runs.move rfl) ?_
  have st_123 : St w w_120 (.cells b_6 (([.int .i64 a_110_0] : List Value) ++ ([.slice A_111_1 n_112_1 c_113_1] : List Value)) 57 :: .sl A_111_1 c_113_1 n_112_1 x_115_1 60 3 :: (T_108 ++ (.sl A_95 c_97 n_96 (iv .u8 l_98) 5 1 :: .sl A_71 c_73 n_72 (iv .u8 l_74) 5 1 :: .sl (some ⟨B_18, 0, none⟩) 160 160 (iv .u8 (List.replicate 160 (0 : Int))) 5 1 :: R))) := St.hide (A := [_, _]) (B := [_, _, _]) (T := T_108) (R := R) st_121
  obtain ⟨a_127_0, l_131_1, a_136, hr_124, H⟩ := H
  refine WL.call Wanted.none ent11 rfl (buffers_Cache_Put.calls w w_120 T_108 (.sl A_95 c_97 n_96 (iv .u8 l_98) 5 1 :: .sl A_71 c_73 n_72 (iv .u8 l_74) 5 1 :: .sl (some ⟨B_18, 0, none⟩) 160 160 (iv .u8 (List.replicate 160 (0 : Int))) 5 1 :: R) a_110_0 l_114_1 3 (List.replicate 160 (0 : Int)) b_6 A_111_1 n_112_1 c_113_1 x_115_1 (some ⟨B_18, 0, none⟩) 160 160 (hs_109.2 (hs_85.2 (hs_61.2 (hs_44.2 (hs_27.2 (hs_4.2 hT)))))) (show celly (.sl A_95 c_97 n_96 (iv .u8 l_98) 5 1 :: .sl A_71 c_73 n_72 (iv .u8 l_74) 5 1 :: .sl (some ⟨B_18, 0, none⟩) 160 160 (iv .u8 (List.replicate 160 (0 : Int))) 5 1 :: R) = true from hR) st_123 (hn_116_1) hx_117_1 ⟨hn_21, st_121.cap (i := 4) rfl, fun W_ L_ st hT => st.src_mem (hT _ (List.mem_append_right _ (List.mem_of_getElem? (i := 2) rfl)))⟩ a_127_0 l_131_1 a_136 hr_124) ?_
  rintro _ w_137 ⟨T_125, A_128_1, n_129_1, c_130_1, x_132_1, hs_126, hn_133_1, hx_134_1, rfl, sc_139⟩
  have st_138 : St w w_137 (.cells b_6 (([.int .i64 a_127_0] : List Value) ++ ([.slice A_128_1 n_129_1 c_130_1] : List Value)) 57 :: .sl A_128_1 c_130_1 n_129_1 x_132_1 60 3 :: .sl A_95 c_97 n_96 (iv .u8 l_98) 5 1 :: .sl A_71 c_73 n_72 (iv .u8 l_74) 5 1 :: .sl (some ⟨B_18, 0, none⟩) 160 160 (iv .u8 (List.replicate 160 (0 : Int))) 5 1 :: (T_125 ++ R)) := St.unhide (A := [_, _]) (B := [_, _, _]) (T := T_125) (R := R) sc_139
  refine ⟨_, rfl, ?_⟩
  refine WL.val Wanted.none (Runs.assign rfl) ?_
  refine WL.nil ?_
  refine QW.then_n ?_
  refine CW.seq ?_
  refine CW.region ?_
  refine WL.val Wanted.none (Runs.move rfl) ?_
  refine WL.val Wanted.none (Runs.eql rfl rfl rfl) ?_
  refine WL.val Wanted.none (Runs.move rfl) ?_
  obtain ⟨c_140, H⟩ := H
  have h_141 : (a_37 == 0) = true := (beq_iff_eq.mpr c_140)
  refine WL.on ?_ ?_; exact Wanted.guard (dj := 36) (by rfl) (evb (by rfl) h_141) (by rfl)
  refine WL.val Wanted.none (Runs.move rfl) ?_
  refine WL.on ?_ ?_; exact Wanted.guard (dj := 36) (by rfl) (evb (by rfl) h_141) (by rfl)
  refine WL.val Wanted.none (Runs.eql rfl rfl rfl) ?_
  refine WL.val Wanted.none (Runs.pick_t (evb rfl h_141) rfl) ?_
  refine WL.val Wanted.none (Runs.move rfl) ?_
  obtain ⟨c_142, H⟩ := H
  have h_143 : (a_54 == 0) = true := (beq_iff_eq.mpr c_142)
  refine WL.on ?_ ?_; exact Wanted.guard (dj := 40) (by rfl) (evb (by rfl) h_143) (by rfl)
  refine WL.val Wanted.none (Runs.move rfl) ?_
  refine WL.on ?_ ?_; exact Wanted.guard (dj := 40) (by rfl) (evb (by rfl) h_143) (by rfl)
  refine WL.val Wanted.none (Runs.not rfl rfl) ?_
  refine WL.val Wanted.none (Runs.pick_t (evb rfl h_143) rfl) ?_
  refine WL.val Wanted.none (Runs.move rfl) ?_
  obtain ⟨c_144, H⟩ := H
  have h_145 : (!a_78) = true := (not_t (Bool.eq_false_iff.mpr c_144))
  refine WL.on ?_ ?_; exact Wanted.guard (dj := 44) (by rfl) (evb (by rfl) h_145) (by rfl)
  refine WL.val Wanted.none (Runs.move rfl) ?_
  refine WL.val Wanted.none (Runs.pick_t (evb rfl h_145) rfl) ?_
  refine WL.val Wanted.none (Runs.move rfl) ?_
  obtain ⟨c_146, H⟩ := H
  have h_147 : a_102 = true := c_146
  refine WL.on ?_ ?_; exact Wanted.guard (dj := 47) (by rfl) (evb (by rfl) h_147) (by rfl)
  refine WL.val Wanted.none (Runs.move rfl) ?_
  refine WL.on ?_ ?_; exact Wanted.guard (dj := 47) (by rfl) (evb (by rfl) h_147) (by rfl)
  refine WL.val Wanted.none (Runs.len_sl Try.underlying22 rfl (by rw [hn_100])) ?_
  refine WL.on ?_ ?_; exact Wanted.guard (dj := 47) (by rfl) (evb (by rfl) h_147) (by rfl)
  refine WL.val Wanted.none (Runs.eql rfl rfl rfl) ?_
  refine WL.val Wanted.none (Runs.pick_t (evb rfl h_147) rfl) ?_
  refine WL.val Wanted.none (Runs.move rfl) ?_
  obtain ⟨c_148, H⟩ := H
  have h_149 : ((l_98.length : Int) == 160) = true := (beq_iff_eq.mpr c_148)
  refine WL.on ?_ ?_; exact Wanted.guard (dj := 52) (by rfl) (evb (by rfl) h_149) (by rfl)
  refine WL.val Wanted.none (Runs.move rfl) ?_
  refine WL.val Wanted.none (Runs.pick_t (evb rfl h_149) rfl) ?_
  refine WL.val Wanted.none (Runs.move rfl) ?_
  obtain ⟨c_150, H⟩ := H
  have h_151 : a_119 = true := c_150
  refine WL.on ?_ ?_; exact Wanted.guard (dj := 55) (by rfl) (evb (by rfl) h_151) (by rfl)
  refine WL.val Wanted.none (Runs.move rfl) ?_
  refine WL.on ?_ ?_; exact Wanted.guard (dj := 55) (by rfl) (evb (by rfl) h_151) (by rfl)
  refine WL.val Wanted.none (Runs.eql rfl rfl rfl) ?_
  refine WL.val Wanted.none (Runs.pick_t (evb rfl h_151) rfl) ?_
  refine WL.val Wanted.none (Runs.move rfl) ?_
  obtain ⟨c_152, H⟩ := H
  have h_153 : (a_136 == 17) = true := (beq_iff_eq.mpr c_152)
  refine WL.on ?_ ?_; exact Wanted.guard (dj := 59) (by rfl) (evb (by rfl) h_153) (by rfl)
  refine WL.val Wanted.none (Runs.move rfl) ?_
  refine WL.on ?_ ?_; exact Wanted.guard (dj := 59) (by rfl) (evb (by rfl) h_153) (by rfl)
  have st_154 : St w w_137 (.cells b_6 (([.int .i64 a_127_0] : List Value) ++ ([.slice A_128_1 n_129_1 c_130_1] : List Value)) 57 :: .sl A_128_1 c_130_1 n_129_1 x_132_1 60 3 :: (T_125 ++ (.sl A_95 c_97 n_96 (iv .u8 l_98) 5 1 :: .sl A_71 c_73 n_72 (iv .u8 l_74) 5 1 :: .sl (some ⟨B_18, 0, none⟩) 160 160 (iv .u8 (List.replicate 160 (0 : Int))) 5 1 :: R))) := St.hide (A := [_, _]) (B := [_, _, _]) (T := T_125) (R := R) st_138
  obtain ⟨a_158_0, l_162_1, a_167, hr_155, H⟩ := H
  refine WL.call Wanted.none ent18 rfl (buffers_Cache_Unpin.calls w w_137 T_125 (.sl A_95 c_97 n_96 (iv .u8 l_98) 5 1 :: .sl A_71 c_73 n_72 (iv .u8 l_74) 5 1 :: .sl (some ⟨B_18, 0, none⟩) 160 160 (iv .u8 (List.replicate 160 (0 : Int))) 5 1 :: R) a_127_0 l_131_1 2 b_6 A_128_1 n_129_1 c_130_1 x_132_1  st_154 (hn_133_1) hx_134_1 a_158_0 l_162_1 a_167 hr_155) ?_
  rintro _ w_168 ⟨T_156, A_159_1, n_160_1, c_161_1, x_163_1, hs_157, hn_164_1, hx_165_1, rfl, sc_170⟩
  have st_169 : St w w_168 (.cells b_6 (([.int .i64 a_158_0] : List Value) ++ ([.slice A_159_1 n_160_1 c_161_1] : List Value)) 57 :: .sl A_159_1 c_161_1 n_160_1 x_163_1 60 3 :: .sl A_95 c_97 n_96 (iv .u8 l_98) 5 1 :: .sl A_71 c_73 n_72 (iv .u8 l_74) 5 1 :: .sl (some ⟨B_18, 0, none⟩) 160 160 (iv .u8 (List.replicate 160 (0 : Int))) 5 1 :: (T_156 ++ R)) := St.unhide (A := [_, _]) (B := [_, _, _]) (T := T_156) (R := R) sc_170
  refine ⟨_, rfl, ?_⟩
  refine WL.val Wanted.none (Runs.pick_t (evb rfl h_153) rfl) ?_
  refine WL.val Wanted.none (Runs.move rfl) ?_
  obtain ⟨c_171, H⟩ := H
  have h_172 : a_167 = true := c_171
  refine WL.on ?_ ?_; exact Wanted.guard (dj := 63) (by rfl) (evb (by rfl) h_172) (by rfl)
  refine WL.val Wanted.none (Runs.move rfl) ?_
  refine WL.on ?_ ?_; exact Wanted.guard (dj := 63) (by rfl) (evb (by rfl) h_172) (by rfl)
  have st_173 : St w w_168 (.cells b_6 (([.int .i64 a_158_0] : List Value) ++ ([.slice A_159_1 n_160_1 c_161_1] : List Value)) 57 :: .sl A_159_1 c_161_1 n_160_1 x_163_1 60 3 :: (T_156 ++ (.sl A_95 c_97 n_96 (iv .u8 l_98) 5 1 :: .sl A_71 c_73 n_72 (iv .u8 l_74) 5 1 :: .sl (some ⟨B_18, 0, none⟩) 160 160 (iv .u8 (List.replicate 160 (0 : Int))) 5 1 :: R))) := St.hide (A := [_, _]) (B := [_, _, _]) (T := T_156) (R := R) st_169
  obtain ⟨a_177_0, l_181_1, a_186, hr_174, H⟩ := H
  refine WL.call Wanted.none ent18 rfl (buffers_Cache_Unpin.calls w w_168 T_156 (.sl A_95 c_97 n_96 (iv .u8 l_98) 5 1 :: .sl A_71 c_73 n_72 (iv .u8 l_74) 5 1 :: .sl (some ⟨B_18, 0, none⟩) 160 160 (iv .u8 (List.replicate 160 (0 : Int))) 5 1 :: R) a_158_0 l_162_1 2 b_6 A_159_1 n_160_1 c_161_1 x_163_1  st_173 (hn_164_1) hx_165_1 a_177_0 l_181_1 a_186 hr_174) ?_
  rintro _ w_187 ⟨T_175, A_178_1, n_179_1, c_180_1, x_182_1, hs_176, hn_183_1, hx_184_1, rfl, sc_189⟩
  have st_188 : St w w_187 (.cells b_6 (([.int .i64 a_177_0] : List Value) ++ ([.slice A_178_1 n_179_1 c_180_1] : List Value)) 57 :: .sl A_178_1 c_180_1 n_179_1 x_182_1 60 3 :: .sl A_95 c_97 n_96 (iv .u8 l_98) 5 1 :: .sl A_71 c_73 n_72 (iv .u8 l_74) 5 1 :: .sl (some ⟨B_18, 0, none⟩) 160 160 (iv .u8 (List.replicate 160 (0 : Int))) 5 1 :: (T_175 ++ R)) := St.unhide (A := [_, _]) (B := [_, _, _]) (T := T_175) (R := R) sc_189
  refine ⟨_, rfl, ?_⟩
  refine WL.on ?_ ?_; exact Wanted.guard (dj := 63) (by rfl) (evb (by rfl) h_172) (by rfl)
  refine WL.val Wanted.none (Runs.not rfl rfl) ?_
  refine WL.val Wanted.none (Runs.pick_t (evb rfl h_172) rfl) ?_
  refine WL.val Wanted.none (Runs.move rfl) ?_
  obtain ⟨c_190, H⟩ := H
  have h_191 : (!a_186) = true := (not_t (Bool.eq_false_iff.mpr c_190))
  refine WL.on ?_ ?_; exact Wanted.guard (dj := 68) (by rfl) (evb (by rfl) h_191) (by rfl)
  refine WL.val Wanted.none (Runs.move rfl) ?_
  refine WL.on ?_ ?_; exact Wanted.guard (dj := 68) (by rfl) (evb (by rfl) h_191) (by rfl)
  have st_192 : St w w_187 (.cells b_6 (([.int .i64 a_177_0] : List Value) ++ ([.slice A_178_1 n_179_1 c_180_1] : List Value)) 57 :: .sl A_178_1 c_180_1 n_179_1 x_182_1 60 3 :: (T_175 ++ (.sl A_95 c_97 n_96 (iv .u8 l_98) 5 1 :: .sl A_71 c_73 n_72 (iv .u8 l_74) 5 1 :: .sl (some ⟨B_18, 0, none⟩) 160 160 (iv .u8 (List.replicate 160 (0 : Int))) 5 1 :: R))) := St.hide (A := [_, _]) (B := [_, _, _]) (T := T_175) (R := R) st_188
  obtain ⟨a_196_0, l_200_1, l_208, hr_193, H⟩ := H
  refine WL.call Wanted.none ent13 rfl (buffers_Cache_Blocks.calls w w_187 T_175 (.sl A_95 c_97 n_96 (iv .u8 l_98) 5 1 :: .sl A_71 c_73 n_72 (iv .u8 l_74) 5 1 :: .sl (some ⟨B_18, 0, none⟩) 160 160 (iv .u8 (List.replicate 160 (0 : Int))) 5 1 :: R) a_177_0 l_181_1 b_6 A_178_1 n_179_1 c_180_1 x_182_1  st_192 (hn_183_1) hx_184_1 a_196_0 l_200_1 l_208 hr_193) ?_
  rintro _ w_211 ⟨T_194, A_197_1, n_198_1, c_199_1, x_201_1, A_205, n_206, c_207, hs_195, hn_202_1, hx_203_1, hn_210, rfl, sc_213⟩
  have st_212 : St w w_211 (.cells b_6 (([.int .i64 a_196_0] : List Value) ++ ([.slice A_197_1 n_198_1 c_199_1] : List Value)) 57 :: .sl A_197_1 c_199_1 n_198_1 x_201_1 60 3 :: .sl A_205 c_207 n_206 (iv .u64 l_208) 29 1 :: .sl A_95 c_97 n_96 (iv .u8 l_98) 5 1 :: .sl A_71 c_73 n_72 (iv .u8 l_74) 5 1 :: .sl (some ⟨B_18, 0, none⟩) 160 160 (iv .u8 (List.replicate 160 (0 : Int))) 5 1 :: (T_194 ++ R)) := St.unhide (A := [_, _, _]) (B := [_, _, _]) (T := T_194) (R := R) sc_213
  refine ⟨_, rfl, ?_⟩
  refine WL.on ?_ ?_; exact Wanted.guard (dj := 68) (by rfl) (evb (by rfl) h_191) (by rfl)
  refine WL.val Wanted.none (Runs.len_sl Try.underlying33 rfl (by rw [hn_210])) ?_
  refine WL.on ?_ ?_; exact Wanted.guard (dj := 68) (by rfl) (evb (by rfl) h_191) (by rfl)
  refine WL.val Wanted.none (Runs.eql rfl rfl rfl) ?_
  refine WL.val Wanted.none (Runs.pick_t (evb rfl h_191) rfl) ?_
  refine WL.val Wanted.none (Runs.assign rfl) ?_
  refine WL.nil ?_
  refine QW.then_n ?_
  refine CW.sub [(0, .bool ((l_208.length : Int) == 1))] ⟨rfl, trivial⟩ ?_
  refine CW.ret ?_
  have hz : ((l_208.length : Int) == 1) = true := (beq_iff_eq.mpr H)
  exact QW.ret1 rfl (evb rfl hz) ⟨rfl, st_212.ext⟩

/-! ### reliquarylaw15_full: function 9 -/
def reliquarylaw15_full.L1 (l0 : List Int) (r0 : List Int) : Nat → (List Int) → Int → Prop
  | 0, _, _ => False
  | kL1 + 1, l_9, x_11 => ((x_11 < (l0.length : Int) ∧ ((x_11 < 159 ∧ ((0 ≤ x_11 ∧ x_11 < (l0.length : Int)) ∧ ((0 ≤ x_11 ∧ x_11 < (l_9.length : Int)) ∧ (∃ m_27 : List Int, m_27 = List.set l_9 ((x_11).toNat) (gn l0 ((x_11).toNat)) ∧ reliquarylaw15_full.L1 l0 r0 kL1 m_27 (IntKind.i64.wrap (x_11 + 1)))))) ∨ (¬ (x_11 < 159) ∧ r0 = l_9))) ∨ (¬ (x_11 < (l0.length : Int)) ∧ r0 = l_9))
def reliquarylaw15_full.L2 (l0 : List Int) (r0 : List Int) : Nat → (List Int) → Int → Prop
  | 0, _, _ => False
  | kL2 + 1, l_38, x_40 => ((x_40 < (l0.length : Int) ∧ ((x_40 < 160 ∧ ((0 ≤ x_40 ∧ x_40 < (l0.length : Int)) ∧ ((0 ≤ x_40 ∧ x_40 < (l_38.length : Int)) ∧ (∃ m_56 : List Int, m_56 = List.set l_38 ((x_40).toNat) (gn l0 ((x_40).toNat)) ∧ reliquarylaw15_full.L2 l0 r0 kL2 m_56 (IntKind.i64.wrap (x_40 + 1)))))) ∨ (¬ (x_40 < 160) ∧ r0 = l_38))) ∨ (¬ (x_40 < (l0.length : Int)) ∧ r0 = l_38))
def reliquarylaw15_full.rel (l0 : List Int) (a1 : Bool) (r0 : List Int) : Prop := ((a1 = true ∧ (∃ k_ : Nat, reliquarylaw15_full.L1 l0 r0 k_ (List.replicate 159 (0 : Int)) 0)) ∨ (¬ (a1 = true) ∧ (∃ k_ : Nat, reliquarylaw15_full.L2 l0 r0 k_ (List.replicate 160 (0 : Int)) 0)))
set_option maxHeartbeats 4000000 in
set_option maxRecDepth 100000 in
theorem reliquarylaw15_full.calls (w : World) (l0 : List Int) (a1 : Bool) (A0 : Option Addr) (n0 : Nat) (c0 : Nat)  (hs0 : Src w A0 (iv .u8 l0)) (hn0 : n0 = l0.length) (hc0 : n0 ≤ c0) (r0 : List Int) (H : reliquarylaw15_full.rel l0 a1 r0) :
    Calls Try.prog 9 #[.slice A0 n0 c0, .bool a1] w fun e w' => ∃ B0 q0 z0, z0 = r0.length ∧ e = .returned (.slice B0 z0 q0) ∧ St w w' [.sl B0 q0 z0 (iv .u8 r0) 5 1] := by
  refine CW.enter Try.func9 rfl (n := 30) rfl [.slice A0 n0 c0, .bool a1] (Nat.le_of_ble_eq_true rfl) ?_
  refine CW.sub [(0, .slice A0 n0 c0), (1, .bool a1)] ⟨rfl, rfl, trivial⟩ ?_
  have st0 : St w w [] := St.refl w
  refine CW.seq ?_
  refine CW.region ?_
  refine WL.val Wanted.none (Runs.assign rfl) ?_
  refine WL.nil ?_
  refine QW.then_n ?_
  refine CW.seq ?_
  refine CW.region ?_
  refine WL.val Wanted.none (Runs.assign rfl) ?_
  refine WL.nil ?_
  refine QW.then_n ?_
  refine CW.seq ?_
  refine CW.seq ?_
  refine CW.region ?_
  refine WL.val Wanted.none (Runs.move rfl) ?_
  refine WL.nil ?_
  refine QW.then_n ?_
  rcases H with ⟨c_1, H⟩ | ⟨c_1, H⟩
  · have h_2 : a1 = true := c_1
    refine CW.ct rfl h_2 ?_
    refine CW.region ?_
    refine WL.val Wanted.none (Runs.assign rfl) ?_
    refine WL.nil ?_
    refine QW.then_n ?_
    refine CW.seq ?_
    refine CW.region ?_
    refine WL.val Wanted.none (Runs.move rfl) ?_
    refine WL.make st0 Try.underlying22 elem5 rfl rfl (by decide) (by decide) (by decide) (N := 159) rfl ?_
    intro B_3 w_4 st_5
    replace st_5 : St w w_4 [.sl (some ⟨B_3, 0, none⟩) 159 159 (iv .u8 (List.replicate 159 (0 : Int))) 5 1] := by rw [iv_replicate] at st_5; exact st_5
    have hn_6 : 159 = (List.replicate 159 (0 : Int)).length := by simp
    refine WL.val Wanted.none (Runs.assign rfl) ?_
    refine WL.nil ?_
    refine QW.then_n ?_
    refine CW.seq ?_
    refine CW.seq ?_
    refine CW.region ?_
    refine WL.val Wanted.none (Runs.assign rfl) ?_
    refine WL.nil ?_
    refine QW.then_n ?_
    refine CW.block ?_
    obtain ⟨k_8, H⟩ := H
    refine CW.sub [(0, .slice A0 n0 c0), (4, .slice none 0 0), (5, .int .i64 159), (6, .slice (some ⟨B_3, 0, none⟩) 159 159), (7, .int .i64 0)] ⟨rfl, rfl, rfl, rfl, rfl, trivial⟩ ?_
    refine CW.loop (fun kL1 l_ w_ => ∃ (l_9 : List Int) (x_11 : Int), l_ = [(0, .slice A0 n0 c0), (4, .slice none 0 0), (5, .int .i64 159), (6, .slice (some ⟨B_3, 0, none⟩) 159 159), (7, .int .i64 x_11)] ∧ reliquarylaw15_full.L1 l0 r0 kL1 l_9 x_11 ∧ (159 = l_9.length) ∧ St w w_ [.sl (some ⟨B_3, 0, none⟩) 159 159 (iv .u8 l_9) 5 1]) (k := k_8) ⟨List.replicate 159 (0 : Int), 0, rfl, H, hn_6, st_5⟩ (fun _ _ h => by obtain ⟨_, _, _, h, _⟩ := h; exact h.elim) ?_
    rintro kL1 l_14 w_12 ⟨l_9, x_11, rfl, H, hn_10, st_13⟩
    refine CW.seq ?_
    refine CW.seq ?_
    refine CW.region ?_
    refine WL.val Wanted.none (Runs.move rfl) ?_
    refine WL.val Wanted.none (Runs.move rfl) ?_
    refine WL.val Wanted.none (Runs.len_sl Try.underlying22 rfl (by rw [hn0])) ?_
    refine WL.val Wanted.none (Runs.lss rfl rfl rfl) ?_
    refine WL.val Wanted.none (Runs.move rfl) ?_
    rcases H with ⟨c_15, H⟩ | ⟨c_15, H⟩
    · have h_16 : (decide (x_11 < (l0.length : Int))) = true := (decide_eq_true c_15)
      refine WL.on ?_ ?_; exact Wanted.guard (dj := 15) (by rfl) (evb (by rfl) h_16) (by rfl)
      refine WL.val Wanted.none (Runs.move rfl) ?_
      refine WL.on ?_ ?_; exact Wanted.guard (dj := 15) (by rfl) (evb (by rfl) h_16) (by rfl)
      refine WL.val Wanted.none (Runs.move rfl) ?_
      refine WL.on ?_ ?_; exact Wanted.guard (dj := 15) (by rfl) (evb (by rfl) h_16) (by rfl)
      refine WL.val Wanted.none (Runs.lss rfl rfl rfl) ?_
      refine WL.val Wanted.none (Runs.pick_t (evb rfl h_16) rfl) ?_
      refine WL.nil ?_
      refine QW.then_n ?_
      rcases H with ⟨c_17, H⟩ | ⟨c_17, H⟩
      · have h_18 : (decide (x_11 < 159)) = true := (decide_eq_true c_17)
        refine CW.ct rfl h_18 ?_
        refine CW.skip ?_
        refine QW.then_n ?_
        refine CW.seq ?_
        refine CW.block ?_
        refine CW.region ?_
        refine WL.val Wanted.none (Runs.move rfl) ?_
        refine WL.val Wanted.none (Runs.move rfl) ?_
        refine WL.val Wanted.none (Runs.move rfl) ?_
        refine WL.val Wanted.none (Runs.move rfl) ?_
        obtain ⟨⟨p_19, q_20⟩, H⟩ := H
        obtain ⟨a_21, e_22⟩ := (hs0.ext st_13).addr_iv ((x_11).toNat) (by omega)
        refine WL.val Wanted.none (Runs.indexAddr Try.underlying22 cells5 (by decide) rfl e_22 rfl p_19 (by rw [hn0]; exact q_20) (o := (x_11).toNat) (by first | rfl | omega)) ?_
        refine WL.val Wanted.none (Runs.load nagg5 rfl ((hs0.ext st_13).cell_iv e_22 (by omega))) ?_
        obtain ⟨⟨p_23, q_24⟩, H⟩ := H
        obtain ⟨a_25, e_26⟩ := (st_13.src_sl (k := 0) rfl).addr_iv ((x_11).toNat) (by omega)
        refine WL.val Wanted.none (Runs.indexAddr Try.underlying22 cells5 (by decide) rfl e_26 rfl p_23 (by rw [hn_10]; exact q_24) (o := (x_11).toNat) (by first | rfl | omega)) ?_
        obtain ⟨m_27, e_28, H⟩ := H
        refine WL.store_sl (i := 0) st_13 rfl cells5 rfl e_26 (by rw [iv_length]; omega) rfl rfl ?_
        intro w_29 st_30
        have hn_31 : 159 = m_27.length := by rw [e_28, List.length_set]; exact hn_10
        have st_30' : St w w_29 [.sl (some ⟨B_3, 0, none⟩) 159 159 (iv .u8 m_27) 5 1] := by rw [e_28, ← iv_set .u8 l_9 ((x_11).toNat) (gn l0 ((x_11).toNat))]; exact st_30
        refine WL.nil ?_
        refine QW.blk_n ?_
        refine QW.then_n ?_
        refine CW.region ?_
        refine WL.val Wanted.none (Runs.move rfl) ?_
        refine WL.val Wanted.none (Runs.add rfl rfl rfl) ?_
        refine WL.val Wanted.none (Runs.assign rfl) ?_
        refine WL.nil ?_
        exact QW.at [(0, .slice A0 n0 c0), (4, .slice none 0 0), (5, .int .i64 159), (6, .slice (some ⟨B_3, 0, none⟩) 159 159), (7, .int .i64 (IntKind.i64.wrap (x_11 + 1)))] ⟨rfl, rfl, rfl, rfl, rfl, trivial⟩ ⟨m_27, IntKind.i64.wrap (x_11 + 1), rfl, H, hn_31, st_30'⟩
      · have h_18 : (decide (x_11 < 159)) = false := (decide_eq_false c_17)
        refine CW.cf rfl h_18 ?_
        refine CW.exit ?_
        refine QW.then_x ?_
        refine QW.then_x ?_
        refine QW.blk_x ?_
        refine QW.then_n ?_
        refine CW.sub [(4, .slice none 0 0), (6, .slice (some ⟨B_3, 0, none⟩) 159 159)] ⟨rfl, rfl, trivial⟩ ?_
        refine CW.seq ?_
        refine CW.region ?_
        refine WL.val Wanted.none (Runs.move rfl) ?_
        refine WL.val Wanted.none (Runs.assign rfl) ?_
        refine WL.nil ?_
        refine QW.then_n ?_
        refine CW.ret ?_
        obtain rfl := H
        exact QW.ret1 rfl rfl ⟨(some ⟨B_3, 0, none⟩), 159, 159, hn_10, rfl, st_13.pick [0] (by decide)⟩
    · have h_16 : (decide (x_11 < (l0.length : Int))) = false := (decide_eq_false c_15)
      refine WL.off ?_ ?_; exact Wanted.guard (dj := 15) (by rfl) (evb (by rfl) h_16) (by rfl)
      refine WL.off ?_ ?_; exact Wanted.guard (dj := 15) (by rfl) (evb (by rfl) h_16) (by rfl)
      refine WL.off ?_ ?_; exact Wanted.guard (dj := 15) (by rfl) (evb (by rfl) h_16) (by rfl)
      refine WL.val Wanted.none (Runs.pick_f (evb rfl h_16) rfl) ?_
      refine WL.nil ?_
      refine QW.then_n ?_
      refine CW.cf rfl rfl ?_
      refine CW.exit ?_
      refine QW.then_x ?_
      refine QW.then_x ?_
      refine QW.blk_x ?_
      refine QW.then_n ?_
      refine CW.sub [(4, .slice none 0 0), (6, .slice (some ⟨B_3, 0, none⟩) 159 159)] ⟨rfl, rfl, trivial⟩ ?_
      refine CW.seq ?_
      refine CW.region ?_
      refine WL.val Wanted.none (Runs.move rfl) ?_
      refine WL.val Wanted.none (Runs.assign rfl) ?_
      refine WL.nil ?_
      refine QW.then_n ?_
      refine CW.ret ?_
      obtain rfl := H
      exact QW.ret1 rfl rfl ⟨(some ⟨B_3, 0, none⟩), 159, 159, hn_10, rfl, st_13.pick [0] (by decide)⟩
  · have h_2 : a1 = false := (Bool.eq_false_iff.mpr c_1)
    refine CW.cf rfl h_2 ?_
    refine CW.skip ?_
    refine QW.then_n ?_
    refine CW.seq ?_
    refine CW.region ?_
    refine WL.val Wanted.none (Runs.move rfl) ?_
    refine WL.make st0 Try.underlying22 elem5 rfl rfl (by decide) (by decide) (by decide) (N := 160) rfl ?_
    intro B_32 w_33 st_34
    replace st_34 : St w w_33 [.sl (some ⟨B_32, 0, none⟩) 160 160 (iv .u8 (List.replicate 160 (0 : Int))) 5 1] := by rw [iv_replicate] at st_34; exact st_34
    have hn_35 : 160 = (List.replicate 160 (0 : Int)).length := by simp
    refine WL.val Wanted.none (Runs.assign rfl) ?_
    refine WL.nil ?_
    refine QW.then_n ?_
    refine CW.seq ?_
    refine CW.seq ?_
    refine CW.region ?_
    refine WL.val Wanted.none (Runs.assign rfl) ?_
    refine WL.nil ?_
    refine QW.then_n ?_
    refine CW.block ?_
    obtain ⟨k_37, H⟩ := H
    refine CW.sub [(0, .slice A0 n0 c0), (4, .slice none 0 0), (5, .int .i64 160), (6, .slice (some ⟨B_32, 0, none⟩) 160 160), (7, .int .i64 0)] ⟨rfl, rfl, rfl, rfl, rfl, trivial⟩ ?_
    refine CW.loop (fun kL2 l_ w_ => ∃ (l_38 : List Int) (x_40 : Int), l_ = [(0, .slice A0 n0 c0), (4, .slice none 0 0), (5, .int .i64 160), (6, .slice (some ⟨B_32, 0, none⟩) 160 160), (7, .int .i64 x_40)] ∧ reliquarylaw15_full.L2 l0 r0 kL2 l_38 x_40 ∧ (160 = l_38.length) ∧ St w w_ [.sl (some ⟨B_32, 0, none⟩) 160 160 (iv .u8 l_38) 5 1]) (k := k_37) ⟨List.replicate 160 (0 : Int), 0, rfl, H, hn_35, st_34⟩ (fun _ _ h => by obtain ⟨_, _, _, h, _⟩ := h; exact h.elim) ?_
    rintro kL2 l_43 w_41 ⟨l_38, x_40, rfl, H, hn_39, st_42⟩
    refine CW.seq ?_
    refine CW.seq ?_
    refine CW.region ?_
    refine WL.val Wanted.none (Runs.move rfl) ?_
    refine WL.val Wanted.none (Runs.move rfl) ?_
    refine WL.val Wanted.none (Runs.len_sl Try.underlying22 rfl (by rw [hn0])) ?_
    refine WL.val Wanted.none (Runs.lss rfl rfl rfl) ?_
    refine WL.val Wanted.none (Runs.move rfl) ?_
    rcases H with ⟨c_44, H⟩ | ⟨c_44, H⟩
    · have h_45 : (decide (x_40 < (l0.length : Int))) = true := (decide_eq_true c_44)
      refine WL.on ?_ ?_; exact Wanted.guard (dj := 15) (by rfl) (evb (by rfl) h_45) (by rfl)
      refine WL.val Wanted.none (Runs.move rfl) ?_
      refine WL.on ?_ ?_; exact Wanted.guard (dj := 15) (by rfl) (evb (by rfl) h_45) (by rfl)
      refine WL.val Wanted.none (Runs.move rfl) ?_
      refine WL.on ?_ ?_; exact Wanted.guard (dj := 15) (by rfl) (evb (by rfl) h_45) (by rfl)
      refine WL.val Wanted.none (Runs.lss rfl rfl rfl) ?_
      refine WL.val Wanted.none (Runs.pick_t (evb rfl h_45) rfl) ?_
      refine WL.nil ?_
      refine QW.then_n ?_
      rcases H with ⟨c_46, H⟩ | ⟨c_46, H⟩
      · have h_47 : (decide (x_40 < 160)) = true := (decide_eq_true c_46)
        refine CW.ct rfl h_47 ?_
        refine CW.skip ?_
        refine QW.then_n ?_
        refine CW.seq ?_
        refine CW.block ?_
        refine CW.region ?_
        refine WL.val Wanted.none (Runs.move rfl) ?_
        refine WL.val Wanted.none (Runs.move rfl) ?_
        refine WL.val Wanted.none (Runs.move rfl) ?_
        refine WL.val Wanted.none (Runs.move rfl) ?_
        obtain ⟨⟨p_48, q_49⟩, H⟩ := H
        obtain ⟨a_50, e_51⟩ := (hs0.ext st_42).addr_iv ((x_40).toNat) (by omega)
        refine WL.val Wanted.none (Runs.indexAddr Try.underlying22 cells5 (by decide) rfl e_51 rfl p_48 (by rw [hn0]; exact q_49) (o := (x_40).toNat) (by first | rfl | omega)) ?_
        refine WL.val Wanted.none (Runs.load nagg5 rfl ((hs0.ext st_42).cell_iv e_51 (by omega))) ?_
        obtain ⟨⟨p_52, q_53⟩, H⟩ := H
        obtain ⟨a_54, e_55⟩ := (st_42.src_sl (k := 0) rfl).addr_iv ((x_40).toNat) (by omega)
        refine WL.val Wanted.none (Runs.indexAddr Try.underlying22 cells5 (by decide) rfl e_55 rfl p_52 (by rw [hn_39]; exact q_53) (o := (x_40).toNat) (by first | rfl | omega)) ?_
        obtain ⟨m_56, e_57, H⟩ := H
        refine WL.store_sl (i := 0) st_42 rfl cells5 rfl e_55 (by rw [iv_length]; omega) rfl rfl ?_
        intro w_58 st_59
        have hn_60 : 160 = m_56.length := by rw [e_57, List.length_set]; exact hn_39
        have st_59' : St w w_58 [.sl (some ⟨B_32, 0, none⟩) 160 160 (iv .u8 m_56) 5 1] := by rw [e_57, ← iv_set .u8 l_38 ((x_40).toNat) (gn l0 ((x_40).toNat))]; exact st_59
        refine WL.nil ?_
        refine QW.blk_n ?_
        refine QW.then_n ?_
        refine CW.region ?_
        refine WL.val Wanted.none (Runs.move rfl) ?_
        refine WL.val Wanted.none (Runs.add rfl rfl rfl) ?_
        refine WL.val Wanted.none (Runs.assign rfl) ?_
        refine WL.nil ?_
        exact QW.at [(0, .slice A0 n0 c0), (4, .slice none 0 0), (5, .int .i64 160), (6, .slice (some ⟨B_32, 0, none⟩) 160 160), (7, .int .i64 (IntKind.i64.wrap (x_40 + 1)))] ⟨rfl, rfl, rfl, rfl, rfl, trivial⟩ ⟨m_56, IntKind.i64.wrap (x_40 + 1), rfl, H, hn_60, st_59'⟩
      · have h_47 : (decide (x_40 < 160)) = false := (decide_eq_false c_46)
        refine CW.cf rfl h_47 ?_
        refine CW.exit ?_
        refine QW.then_x ?_
        refine QW.then_x ?_
        refine QW.blk_x ?_
        refine QW.then_n ?_
        refine CW.sub [(4, .slice none 0 0), (6, .slice (some ⟨B_32, 0, none⟩) 160 160)] ⟨rfl, rfl, trivial⟩ ?_
        refine CW.seq ?_
        refine CW.region ?_
        refine WL.val Wanted.none (Runs.move rfl) ?_
        refine WL.val Wanted.none (Runs.assign rfl) ?_
        refine WL.nil ?_
        refine QW.then_n ?_
        refine CW.ret ?_
        obtain rfl := H
        exact QW.ret1 rfl rfl ⟨(some ⟨B_32, 0, none⟩), 160, 160, hn_39, rfl, st_42.pick [0] (by decide)⟩
    · have h_45 : (decide (x_40 < (l0.length : Int))) = false := (decide_eq_false c_44)
      refine WL.off ?_ ?_; exact Wanted.guard (dj := 15) (by rfl) (evb (by rfl) h_45) (by rfl)
      refine WL.off ?_ ?_; exact Wanted.guard (dj := 15) (by rfl) (evb (by rfl) h_45) (by rfl)
      refine WL.off ?_ ?_; exact Wanted.guard (dj := 15) (by rfl) (evb (by rfl) h_45) (by rfl)
      refine WL.val Wanted.none (Runs.pick_f (evb rfl h_45) rfl) ?_
      refine WL.nil ?_
      refine QW.then_n ?_
      refine CW.cf rfl rfl ?_
      refine CW.exit ?_
      refine QW.then_x ?_
      refine QW.then_x ?_
      refine QW.blk_x ?_
      refine QW.then_n ?_
      refine CW.sub [(4, .slice none 0 0), (6, .slice (some ⟨B_32, 0, none⟩) 160 160)] ⟨rfl, rfl, trivial⟩ ?_
      refine CW.seq ?_
      refine CW.region ?_
      refine WL.val Wanted.none (Runs.move rfl) ?_
      refine WL.val Wanted.none (Runs.assign rfl) ?_
      refine WL.nil ?_
      refine QW.then_n ?_
      refine CW.ret ?_
      obtain rfl := H
      exact QW.ret1 rfl rfl ⟨(some ⟨B_32, 0, none⟩), 160, 160, hn_39, rfl, st_42.pick [0] (by decide)⟩

end Go.Proofs.Ytjilndiemfhapaa
