/- Walks: each function computes what its relation says, and a call of it ends so. Printed by a program of this session (wip/gen). -/
import Derived.Test.YtjlifbnkdfofhaaGx1
namespace Go.Proofs.Ytjlifbnkdfofhaa
open Go Go.Kr Go.RowKit
set_option linter.unusedVariables false
set_option linter.unusedSimpArgs false
/-! ### disk_Disk_Read: function 15 -/
def disk_Disk_Read.rel (l0_0 : List R22) (l0_1 : List R69) (a0_2 : Int) (a0_3 : Bool) (l0_4 : List R71) (a1 : Int) (ls0_0 : List R22) (ls0_1 : List R69) (as0_2 : Int) (as0_3 : Bool) (ls0_4 : List R71) (lr0 : List Int) (ar1 : Int) : Prop := ((a0_3 = true ∧ ls0_0 = l0_0 ∧ ls0_1 = l0_1 ∧ as0_2 = a0_2 ∧ as0_3 = a0_3 ∧ ls0_4 = l0_4 ∧ lr0 = ([] : List Int) ∧ ar1 = 13) ∨ (¬ (a0_3 = true) ∧ ((a1 < 0 ∧ ls0_0 = l0_0 ∧ ls0_1 = l0_1 ∧ as0_2 = a0_2 ∧ as0_3 = a0_3 ∧ ls0_4 = l0_4 ∧ lr0 = ([] : List Int) ∧ ar1 = 12) ∨ (¬ (a1 < 0) ∧ ((a1 ≥ (l0_0.length : Int) ∧ ls0_0 = l0_0 ∧ ls0_1 = l0_1 ∧ as0_2 = a0_2 ∧ as0_3 = a0_3 ∧ ls0_4 = l0_4 ∧ lr0 = ([] : List Int) ∧ ar1 = 12) ∨ (¬ (a1 ≥ (l0_0.length : Int)) ∧ (∃ m_58 : List R71, m_58 = l0_4 ++ ([(1, a1)] : List R71) ∧ (m_58.length ≤ 1099511627776 ∧ ((l0_1.length ≤ 1099511627776 ∧ (∀ q_80 : Nat, q_80 < l0_1.length → ((¬ (((gx l0_1 q_80).1) = a1) ∧ True) ∨ (((gx l0_1 q_80).1) = a1 ∧ (∃ (r_131 : List Int), slices_Clone_s_byte_byte.rel ((gx l0_1 q_80).2) r_131 ∧ ((∀ p_142 : Nat, q_80 < p_142 → p_142 < l0_1.length → (¬ (((gx l0_1 p_142).1) = a1) ∧ True)) → ls0_0 = l0_0 ∧ ls0_1 = l0_1 ∧ as0_2 = a0_2 ∧ as0_3 = a0_3 ∧ ls0_4 = m_58 ∧ lr0 = r_131 ∧ ar1 = 0)))))) ∧ ((∀ p_172 : Nat, p_172 < l0_1.length → (¬ (((gx l0_1 p_172).1) = a1) ∧ True)) → ((0 ≤ a1 ∧ a1 < (l0_0.length : Int)) ∧ (∃ (r_162 : List Int), slices_Clone_s_byte_byte.rel (gx l0_0 ((a1).toNat)) r_162 ∧ ls0_0 = l0_0 ∧ ls0_1 = l0_1 ∧ as0_2 = a0_2 ∧ as0_3 = a0_3 ∧ ls0_4 = m_58 ∧ lr0 = r_162 ∧ ar1 = 0))))))))))))
set_option maxHeartbeats 1000000 in
set_option maxRecDepth 100000 in
theorem disk_Disk_Read.calls (w w1 : World) (T R : Pool) (l0_0 : List R22) (l0_1 : List R69) (a0_2 : Int) (a0_3 : Bool) (l0_4 : List R71) (a1 : Int) (b0 : Nat) (A0_0 : Option Addr) (n0_0 : Nat) (c0_0 : Nat) (x0_0 : Cells) (A0_1 : Option Addr) (n0_1 : Nat) (c0_1 : Nat) (x0_1 : Cells) (A0_4 : Option Addr) (n0_4 : Nat) (c0_4 : Nat) (x0_4 : Cells) (hT : celly T = true) (hR : celly R = true) (st0 : St w w1 (.cells b0 (([.slice A0_0 n0_0 c0_0] : List Value) ++ (([.slice A0_1 n0_1 c0_1] : List Value) ++ (([.int .i64 a0_2] : List Value) ++ (([.bool a0_3] : List Value) ++ ([.slice A0_4 n0_4 c0_4] : List Value))))) 66 :: .sl A0_0 c0_0 n0_0 x0_0 22 1 :: .sl A0_1 c0_1 n0_1 x0_1 69 2 :: .sl A0_4 c0_4 n0_4 x0_4 71 2 :: (T ++ R))) (hn0_0 : n0_0 = l0_0.length) (hx0_0 : HRs T (f22 w) x0_0 l0_0) (hn0_1 : n0_1 = l0_1.length) (hx0_1 : HRs T (f69 w) x0_1 l0_1) (hn0_4 : n0_4 = l0_4.length) (hx0_4 : HRs T (f71 w) x0_4 l0_4) (ls0_0 : List R22) (ls0_1 : List R69) (as0_2 : Int) (as0_3 : Bool) (ls0_4 : List R71) (lr0 : List Int) (ar1 : Int) (H : disk_Disk_Read.rel l0_0 l0_1 a0_2 a0_3 l0_4 a1 ls0_0 ls0_1 as0_2 as0_3 ls0_4 lr0 ar1) :
    Calls Try.prog 15 #[.pointer (some ⟨b0, 0, none⟩), .int .i64 a1] w1 fun e w' => ∃ T' As0_0 ns0_0 cs0_0 xs0_0 As0_1 ns0_1 cs0_1 xs0_1 As0_4 ns0_4 cs0_4 xs0_4 Ar0 nr0 cr0, Pl T T' ∧ ns0_0 = ls0_0.length ∧ HRs T' (f22 w) xs0_0 ls0_0 ∧ ns0_1 = ls0_1.length ∧ HRs T' (f69 w) xs0_1 ls0_1 ∧ ns0_4 = ls0_4.length ∧ HRs T' (f71 w) xs0_4 ls0_4 ∧ nr0 = lr0.length ∧ e = .returned (.tuple #[.slice Ar0 nr0 cr0, .int .i64 ar1]) ∧ St w w' (.cells b0 (([.slice As0_0 ns0_0 cs0_0] : List Value) ++ (([.slice As0_1 ns0_1 cs0_1] : List Value) ++ (([.int .i64 as0_2] : List Value) ++ (([.bool as0_3] : List Value) ++ ([.slice As0_4 ns0_4 cs0_4] : List Value))))) 66 :: .sl As0_0 cs0_0 ns0_0 xs0_0 22 1 :: .sl As0_1 cs0_1 ns0_1 xs0_1 69 2 :: .sl As0_4 cs0_4 ns0_4 xs0_4 71 2 :: .sl Ar0 cr0 nr0 (iv .u8 lr0) 5 1 :: (T' ++ R)) := by
  refine CW.enterM Try.func15 rfl (n := 61) rfl [.pointer (some ⟨b0, 0, none⟩), .int .i64 a1] (Nat.le_of_ble_eq_true rfl) ?_
  refine CW.sub [(0, .pointer (some ⟨b0, 0, none⟩)), (1, .int .i64 a1)] ⟨rfl, rfl, trivial⟩ ?_
  refine CW.seq ?_
  refine CW.region ?_
  refine WL.box st0 rfl rfl ?_
  intro B_1 w_2 st_3
  replace st_3 : St w w_2 (.cells B_1 [.int .i64 a1] 3 :: .cells b0 (([.slice A0_0 n0_0 c0_0] : List Value) ++ (([.slice A0_1 n0_1 c0_1] : List Value) ++ (([.int .i64 a0_2] : List Value) ++ (([.bool a0_3] : List Value) ++ ([.slice A0_4 n0_4 c0_4] : List Value))))) 66 :: .sl A0_0 c0_0 n0_0 x0_0 22 1 :: .sl A0_1 c0_1 n0_1 x0_1 69 2 :: .sl A0_4 c0_4 n0_4 x0_4 71 2 :: (T ++ R)) := st_3
  refine WL.alloc st_3 zero22 ?_
  intro B_5 w_6 st_7
  replace st_7 : St w w_6 (.cells B_5 [.slice none 0 0] 22 :: .cells B_1 [.int .i64 a1] 3 :: .cells b0 (([.slice A0_0 n0_0 c0_0] : List Value) ++ (([.slice A0_1 n0_1 c0_1] : List Value) ++ (([.int .i64 a0_2] : List Value) ++ (([.bool a0_3] : List Value) ++ ([.slice A0_4 n0_4 c0_4] : List Value))))) 66 :: .sl A0_0 c0_0 n0_0 x0_0 22 1 :: .sl A0_1 c0_1 n0_1 x0_1 69 2 :: .sl A0_4 c0_4 n0_4 x0_4 71 2 :: (T ++ R)) := st_7
  refine WL.alloc st_7 zero26 ?_
  intro B_9 w_10 st_11
  replace st_11 : St w w_10 (.cells B_9 [.int .i64 0] 26 :: .cells B_5 [.slice none 0 0] 22 :: .cells B_1 [.int .i64 a1] 3 :: .cells b0 (([.slice A0_0 n0_0 c0_0] : List Value) ++ (([.slice A0_1 n0_1 c0_1] : List Value) ++ (([.int .i64 a0_2] : List Value) ++ (([.bool a0_3] : List Value) ++ ([.slice A0_4 n0_4 c0_4] : List Value))))) 66 :: .sl A0_0 c0_0 n0_0 x0_0 22 1 :: .sl A0_1 c0_1 n0_1 x0_1 69 2 :: .sl A0_4 c0_4 n0_4 x0_4 71 2 :: (T ++ R)) := st_11
  refine WL.nil ?_
  refine QW.then_n ?_
  refine CW.seq ?_
  refine CW.block ?_
  refine CW.seq ?_
  refine CW.region ?_
  refine WL.val Wanted.none (Runs.move rfl) ?_
  refine WL.val Wanted.none (Runs.eql_ptr Try.underlying25 rfl rfl rfl) ?_
  refine WL.val Wanted.none (Runs.assign rfl) ?_
  refine WL.nil ?_
  refine QW.then_n ?_
  refine CW.cf rfl rfl ?_
  refine CW.seq ?_
  refine CW.region ?_
  refine WL.val Wanted.none (Runs.move rfl) ?_
  refine WL.val Wanted.none (Runs.nilCheck rfl) ?_
  refine WL.val Wanted.none (Runs.fieldAddr (off := 3) (p := 3) fld66_3 rfl rfl rfl) ?_
  refine WL.val Wanted.none (Runs.load nagg4 rfl (st_11.cell (k := 3) rfl (part_one (u := .bool a0_3) (pre := (([.slice A0_0 n0_0 c0_0] : List Value) ++ (([.slice A0_1 n0_1 c0_1] : List Value) ++ ([.int .i64 a0_2] : List Value)))) (post := (([.slice A0_4 n0_4 c0_4] : List Value))) (by first | rfl | simp only [List.append_assoc, List.append_nil, List.nil_append, List.cons_append]) (by first | rfl | simp only [List.length_append, List.length_cons, List.length_nil, iv_length])))) ?_
  refine WL.val Wanted.none (Runs.assign rfl) ?_
  refine WL.nil ?_
  refine QW.then_n ?_
  refine CW.sub [(0, .pointer (some ⟨b0, 0, none⟩)), (3, .pointer (some ⟨B_1, 0, none⟩)), (4, .pointer (some ⟨B_5, 0, none⟩)), (5, .pointer (some ⟨B_9, 0, none⟩)), (11, .bool a0_3)] ⟨rfl, rfl, rfl, rfl, rfl, trivial⟩ ?_
  rcases H with ⟨c_13, H⟩ | ⟨c_13, H⟩
  · have h_14 : a0_3 = true := c_13
    refine CW.ct rfl h_14 ?_
    refine CW.seq ?_
    refine CW.region ?_
    refine WL.store_cells (i := 1) (j := 0) st_11 rfl cells22 rfl (Nat.zero_lt_succ _) rfl rfl ?_
    intro w_15 st_16
    replace st_16 : St w w_15 (.cells B_9 [.int .i64 0] 26 :: .cells B_5 [.slice none 0 0] 22 :: .cells B_1 [.int .i64 a1] 3 :: .cells b0 (([.slice A0_0 n0_0 c0_0] : List Value) ++ (([.slice A0_1 n0_1 c0_1] : List Value) ++ (([.int .i64 a0_2] : List Value) ++ (([.bool a0_3] : List Value) ++ ([.slice A0_4 n0_4 c0_4] : List Value))))) 66 :: .sl A0_0 c0_0 n0_0 x0_0 22 1 :: .sl A0_1 c0_1 n0_1 x0_1 69 2 :: .sl A0_4 c0_4 n0_4 x0_4 71 2 :: (T ++ R)) := st_16
    refine WL.store_cells (i := 0) (j := 0) st_16 rfl cells26 rfl (Nat.zero_lt_succ _) rfl rfl ?_
    intro w_17 st_18
    replace st_18 : St w w_17 (.cells B_9 [.int .i64 13] 26 :: .cells B_5 [.slice none 0 0] 22 :: .cells B_1 [.int .i64 a1] 3 :: .cells b0 (([.slice A0_0 n0_0 c0_0] : List Value) ++ (([.slice A0_1 n0_1 c0_1] : List Value) ++ (([.int .i64 a0_2] : List Value) ++ (([.bool a0_3] : List Value) ++ ([.slice A0_4 n0_4 c0_4] : List Value))))) 66 :: .sl A0_0 c0_0 n0_0 x0_0 22 1 :: .sl A0_1 c0_1 n0_1 x0_1 69 2 :: .sl A0_4 c0_4 n0_4 x0_4 71 2 :: (T ++ R)) := st_18
    refine WL.nil ?_
    refine QW.then_n ?_
    refine CW.ret ?_
    refine QW.blk_r ?_
    refine QW.then_r ?_
    have st_20 := st_18.nil_sl 5 1
    have st_20 : St w w_17 (.sl none 0 0 (iv .u8 ([] : List Int)) 5 1 :: .cells B_9 [.int .i64 13] 26 :: .cells B_5 [.slice none 0 0] 22 :: .cells B_1 [.int .i64 a1] 3 :: .cells b0 (([.slice A0_0 n0_0 c0_0] : List Value) ++ (([.slice A0_1 n0_1 c0_1] : List Value) ++ (([.int .i64 a0_2] : List Value) ++ (([.bool a0_3] : List Value) ++ ([.slice A0_4 n0_4 c0_4] : List Value))))) 66 :: .sl A0_0 c0_0 n0_0 x0_0 22 1 :: .sl A0_1 c0_1 n0_1 x0_1 69 2 :: .sl A0_4 c0_4 n0_4 x0_4 71 2 :: (T ++ R)) := st_20
    obtain ⟨rfl, rfl, rfl, rfl, rfl, rfl, rfl⟩ := H
    exact QW.retN2m rfl (Res.cell rfl nagg22 st_20 (i := 2) rfl) (Res.cell rfl nagg26 st_20 (i := 1) rfl) ⟨T, A0_0, n0_0, c0_0, x0_0, A0_1, n0_1, c0_1, x0_1, A0_4, n0_4, c0_4, x0_4, none, 0, 0, Pl.refl, hn0_0, hx0_0, hn0_1, hx0_1, hn0_4, hx0_4, rfl, rfl, (St.pickT (L := [_, _, _, _, _, _, _, _]) st_20 [4, 5, 6, 7, 0] (by decide))⟩
  · have h_14 : a0_3 = false := (Bool.eq_false_iff.mpr c_13)
    refine CW.cf rfl h_14 ?_
    refine CW.seq ?_
    refine CW.region_qa wide (by kernel_rfl) st_11 ?_
    refine HL.val Wanted.none (fun wq sq => (Runs.load nagg3 rfl (sq.cell (k := 2) rfl rfl))) ?_
    refine HL.val Wanted.none (fun wq sq => (Runs.lss rfl rfl rfl)) ?_
    refine HL.val Wanted.none (fun wq sq => (Runs.move rfl)) ?_
    rcases H with ⟨c_21, H⟩ | ⟨c_21, H⟩
    · have h_22 : (decide (a1 < 0)) = true := (decide_eq_true c_21)
      refine HL.off ?_ ?_; exact Wanted.guard (dj := 19) (by rfl) (evb (by rfl) h_22) (by rfl)
      refine HL.off ?_ ?_; exact Wanted.guard (dj := 19) (by rfl) (evb (by rfl) h_22) (by rfl)
      refine HL.off ?_ ?_; exact Wanted.guard (dj := 19) (by rfl) (evb (by rfl) h_22) (by rfl)
      refine HL.off ?_ ?_; exact Wanted.guard (dj := 19) (by rfl) (evb (by rfl) h_22) (by rfl)
      refine HL.off ?_ ?_; exact Wanted.guard (dj := 19) (by rfl) (evb (by rfl) h_22) (by rfl)
      refine HL.off ?_ ?_; exact Wanted.guard (dj := 19) (by rfl) (evb (by rfl) h_22) (by rfl)
      refine HL.off ?_ ?_; exact Wanted.guard (dj := 19) (by rfl) (evb (by rfl) h_22) (by rfl)
      refine HL.val Wanted.none (fun wq sq => (Runs.pick_t (evb rfl h_22) rfl)) ?_
      refine HL.val Wanted.none (fun wq sq => (Runs.assign rfl)) ?_
      refine HL.nil (fun w_23 st_24 => ?_)
      refine WL.nil ?_
      refine QW.then_n ?_
      refine CW.sub [(0, .pointer (some ⟨b0, 0, none⟩)), (3, .pointer (some ⟨B_1, 0, none⟩)), (4, .pointer (some ⟨B_5, 0, none⟩)), (5, .pointer (some ⟨B_9, 0, none⟩)), (16, .bool true)] ⟨rfl, rfl, rfl, rfl, rfl, trivial⟩ ?_
      refine CW.ct rfl rfl ?_
      refine CW.seq ?_
      refine CW.region ?_
      refine WL.store_cells (i := 1) (j := 0) st_24 rfl cells22 rfl (Nat.zero_lt_succ _) rfl rfl ?_
      intro w_25 st_26
      replace st_26 : St w w_25 (.cells B_9 [.int .i64 0] 26 :: .cells B_5 [.slice none 0 0] 22 :: .cells B_1 [.int .i64 a1] 3 :: .cells b0 (([.slice A0_0 n0_0 c0_0] : List Value) ++ (([.slice A0_1 n0_1 c0_1] : List Value) ++ (([.int .i64 a0_2] : List Value) ++ (([.bool a0_3] : List Value) ++ ([.slice A0_4 n0_4 c0_4] : List Value))))) 66 :: .sl A0_0 c0_0 n0_0 x0_0 22 1 :: .sl A0_1 c0_1 n0_1 x0_1 69 2 :: .sl A0_4 c0_4 n0_4 x0_4 71 2 :: (T ++ R)) := st_26
      refine WL.store_cells (i := 0) (j := 0) st_26 rfl cells26 rfl (Nat.zero_lt_succ _) rfl rfl ?_
      intro w_27 st_28
      replace st_28 : St w w_27 (.cells B_9 [.int .i64 12] 26 :: .cells B_5 [.slice none 0 0] 22 :: .cells B_1 [.int .i64 a1] 3 :: .cells b0 (([.slice A0_0 n0_0 c0_0] : List Value) ++ (([.slice A0_1 n0_1 c0_1] : List Value) ++ (([.int .i64 a0_2] : List Value) ++ (([.bool a0_3] : List Value) ++ ([.slice A0_4 n0_4 c0_4] : List Value))))) 66 :: .sl A0_0 c0_0 n0_0 x0_0 22 1 :: .sl A0_1 c0_1 n0_1 x0_1 69 2 :: .sl A0_4 c0_4 n0_4 x0_4 71 2 :: (T ++ R)) := st_28
      refine WL.nil ?_
      refine QW.then_n ?_
      refine CW.ret ?_
      refine QW.blk_r ?_
      refine QW.then_r ?_
      have st_30 := st_28.nil_sl 5 1
      have st_30 : St w w_27 (.sl none 0 0 (iv .u8 ([] : List Int)) 5 1 :: .cells B_9 [.int .i64 12] 26 :: .cells B_5 [.slice none 0 0] 22 :: .cells B_1 [.int .i64 a1] 3 :: .cells b0 (([.slice A0_0 n0_0 c0_0] : List Value) ++ (([.slice A0_1 n0_1 c0_1] : List Value) ++ (([.int .i64 a0_2] : List Value) ++ (([.bool a0_3] : List Value) ++ ([.slice A0_4 n0_4 c0_4] : List Value))))) 66 :: .sl A0_0 c0_0 n0_0 x0_0 22 1 :: .sl A0_1 c0_1 n0_1 x0_1 69 2 :: .sl A0_4 c0_4 n0_4 x0_4 71 2 :: (T ++ R)) := st_30
      obtain ⟨rfl, rfl, rfl, rfl, rfl, rfl, rfl⟩ := H
      exact QW.retN2m rfl (Res.cell rfl nagg22 st_30 (i := 2) rfl) (Res.cell rfl nagg26 st_30 (i := 1) rfl) ⟨T, A0_0, n0_0, c0_0, x0_0, A0_1, n0_1, c0_1, x0_1, A0_4, n0_4, c0_4, x0_4, none, 0, 0, Pl.refl, hn0_0, hx0_0, hn0_1, hx0_1, hn0_4, hx0_4, rfl, rfl, (St.pickT (L := [_, _, _, _, _, _, _, _]) st_30 [4, 5, 6, 7, 0] (by decide))⟩
    · have h_22 : (decide (a1 < 0)) = false := (decide_eq_false c_21)
      refine HL.on ?_ ?_; exact Wanted.guard (dj := 19) (by rfl) (evb (by rfl) h_22) (by rfl)
      refine HL.val Wanted.none (fun wq sq => (Runs.load nagg3 rfl (sq.cell (k := 2) rfl rfl))) ?_
      refine HL.on ?_ ?_; exact Wanted.guard (dj := 19) (by rfl) (evb (by rfl) h_22) (by rfl)
      refine HL.val Wanted.none (fun wq sq => (Runs.move rfl)) ?_
      refine HL.on ?_ ?_; exact Wanted.guard (dj := 19) (by rfl) (evb (by rfl) h_22) (by rfl)
      refine HL.val Wanted.none (fun wq sq => (Runs.nilCheck rfl)) ?_
      refine HL.on ?_ ?_; exact Wanted.guard (dj := 19) (by rfl) (evb (by rfl) h_22) (by rfl)
      refine HL.val Wanted.none (fun wq sq => (Runs.fieldAddr (off := 0) (p := 0) fld66_0 rfl rfl rfl)) ?_
      refine HL.on ?_ ?_; exact Wanted.guard (dj := 19) (by rfl) (evb (by rfl) h_22) (by rfl)
      refine HL.val Wanted.none (fun wq sq => (Runs.load nagg41 rfl (sq.cell (k := 3) rfl (part_one (u := .slice A0_0 n0_0 c0_0) (pre := (([] : List Value))) (post := (([.slice A0_1 n0_1 c0_1] : List Value) ++ (([.int .i64 a0_2] : List Value) ++ (([.bool a0_3] : List Value) ++ ([.slice A0_4 n0_4 c0_4] : List Value))))) (by first | rfl | simp only [List.append_assoc, List.append_nil, List.nil_append, List.cons_append]) (by first | rfl | simp only [List.length_append, List.length_cons, List.length_nil, iv_length]))))) ?_
      refine HL.on ?_ ?_; exact Wanted.guard (dj := 19) (by rfl) (evb (by rfl) h_22) (by rfl)
      refine HL.val Wanted.none (fun wq sq => (Runs.len_sl Try.underlying41 rfl (by rw [hn0_0]))) ?_
      refine HL.on ?_ ?_; exact Wanted.guard (dj := 19) (by rfl) (evb (by rfl) h_22) (by rfl)
      refine HL.val Wanted.none (fun wq sq => (Runs.geq rfl rfl rfl)) ?_
      refine HL.val Wanted.none (fun wq sq => (Runs.pick_f (evb rfl h_22) rfl)) ?_
      refine HL.val Wanted.none (fun wq sq => (Runs.assign rfl)) ?_
      refine HL.nil (fun w_31 st_32 => ?_)
      refine WL.nil ?_
      refine QW.then_n ?_
      refine CW.sub [(0, .pointer (some ⟨b0, 0, none⟩)), (3, .pointer (some ⟨B_1, 0, none⟩)), (4, .pointer (some ⟨B_5, 0, none⟩)), (5, .pointer (some ⟨B_9, 0, none⟩)), (16, .bool (decide (a1 ≥ (l0_0.length : Int))))] ⟨rfl, rfl, rfl, rfl, rfl, trivial⟩ ?_
      rcases H with ⟨c_33, H⟩ | ⟨c_33, H⟩
      · have h_34 : (decide (a1 ≥ (l0_0.length : Int))) = true := (decide_eq_true c_33)
        refine CW.ct rfl h_34 ?_
        refine CW.seq ?_
        refine CW.region ?_
        refine WL.store_cells (i := 1) (j := 0) st_32 rfl cells22 rfl (Nat.zero_lt_succ _) rfl rfl ?_
        intro w_35 st_36
        replace st_36 : St w w_35 (.cells B_9 [.int .i64 0] 26 :: .cells B_5 [.slice none 0 0] 22 :: .cells B_1 [.int .i64 a1] 3 :: .cells b0 (([.slice A0_0 n0_0 c0_0] : List Value) ++ (([.slice A0_1 n0_1 c0_1] : List Value) ++ (([.int .i64 a0_2] : List Value) ++ (([.bool a0_3] : List Value) ++ ([.slice A0_4 n0_4 c0_4] : List Value))))) 66 :: .sl A0_0 c0_0 n0_0 x0_0 22 1 :: .sl A0_1 c0_1 n0_1 x0_1 69 2 :: .sl A0_4 c0_4 n0_4 x0_4 71 2 :: (T ++ R)) := st_36
        refine WL.store_cells (i := 0) (j := 0) st_36 rfl cells26 rfl (Nat.zero_lt_succ _) rfl rfl ?_
        intro w_37 st_38
        replace st_38 : St w w_37 (.cells B_9 [.int .i64 12] 26 :: .cells B_5 [.slice none 0 0] 22 :: .cells B_1 [.int .i64 a1] 3 :: .cells b0 (([.slice A0_0 n0_0 c0_0] : List Value) ++ (([.slice A0_1 n0_1 c0_1] : List Value) ++ (([.int .i64 a0_2] : List Value) ++ (([.bool a0_3] : List Value) ++ ([.slice A0_4 n0_4 c0_4] : List Value))))) 66 :: .sl A0_0 c0_0 n0_0 x0_0 22 1 :: .sl A0_1 c0_1 n0_1 x0_1 69 2 :: .sl A0_4 c0_4 n0_4 x0_4 71 2 :: (T ++ R)) := st_38
        refine WL.nil ?_
        refine QW.then_n ?_
        refine CW.ret ?_
        refine QW.blk_r ?_
        refine QW.then_r ?_
        have st_40 := st_38.nil_sl 5 1
        have st_40 : St w w_37 (.sl none 0 0 (iv .u8 ([] : List Int)) 5 1 :: .cells B_9 [.int .i64 12] 26 :: .cells B_5 [.slice none 0 0] 22 :: .cells B_1 [.int .i64 a1] 3 :: .cells b0 (([.slice A0_0 n0_0 c0_0] : List Value) ++ (([.slice A0_1 n0_1 c0_1] : List Value) ++ (([.int .i64 a0_2] : List Value) ++ (([.bool a0_3] : List Value) ++ ([.slice A0_4 n0_4 c0_4] : List Value))))) 66 :: .sl A0_0 c0_0 n0_0 x0_0 22 1 :: .sl A0_1 c0_1 n0_1 x0_1 69 2 :: .sl A0_4 c0_4 n0_4 x0_4 71 2 :: (T ++ R)) := st_40
        obtain ⟨rfl, rfl, rfl, rfl, rfl, rfl, rfl⟩ := H
        exact QW.retN2m rfl (Res.cell rfl nagg22 st_40 (i := 2) rfl) (Res.cell rfl nagg26 st_40 (i := 1) rfl) ⟨T, A0_0, n0_0, c0_0, x0_0, A0_1, n0_1, c0_1, x0_1, A0_4, n0_4, c0_4, x0_4, none, 0, 0, Pl.refl, hn0_0, hx0_0, hn0_1, hx0_1, hn0_4, hx0_4, rfl, rfl, (St.pickT (L := [_, _, _, _, _, _, _, _]) st_40 [4, 5, 6, 7, 0] (by decide))⟩
      · have h_34 : (decide (a1 ≥ (l0_0.length : Int))) = false := (decide_eq_false c_33)
        refine CW.cf rfl h_34 ?_
        refine CW.skip ?_
        refine QW.blk_n ?_
        refine QW.then_n ?_
        refine CW.seq ?_
        refine CW.region_awh (C := fun w_ => St w w_ (.cells B_9 [.int .i64 0] 26 :: .cells B_5 [.slice none 0 0] 22 :: .cells B_1 [.int .i64 a1] 3 :: .cells b0 (([.slice A0_0 n0_0 c0_0] : List Value) ++ (([.slice A0_1 n0_1 c0_1] : List Value) ++ (([.int .i64 a0_2] : List Value) ++ (([.bool a0_3] : List Value) ++ ([.slice A0_4 n0_4 c0_4] : List Value))))) 66 :: .sl A0_0 c0_0 n0_0 x0_0 22 1 :: .sl A0_1 c0_1 n0_1 x0_1 69 2 :: (T ++ R))) 9 wide (by kernel_rfl) st_32 (fun w_41 st_42 => ?_)
        have st_43 : St w w_41 (.cells B_9 [.int .i64 0] 26 :: .cells B_5 [.slice none 0 0] 22 :: .cells B_1 [.int .i64 a1] 3 :: .cells b0 (([.slice A0_0 n0_0 c0_0] : List Value) ++ (([.slice A0_1 n0_1 c0_1] : List Value) ++ (([.int .i64 a0_2] : List Value) ++ (([.bool a0_3] : List Value) ++ ([.slice A0_4 n0_4 c0_4] : List Value))))) 66 :: .sl A0_0 c0_0 n0_0 x0_0 22 1 :: .sl A0_1 c0_1 n0_1 x0_1 69 2 :: (T ++ R)) := (St.pickT (L := [_, _, _, _, _, _, _]) st_42 [0, 1, 2, 3, 4, 5] (by decide))
        refine AWH.take 0 rfl (by decide) (by kernel_rfl) (by kernel_rfl) (St.subset st_43 st_42 (List.forall_mem_cons.2 ⟨List.mem_of_getElem? (i := 0) rfl, (List.forall_mem_cons.2 ⟨List.mem_of_getElem? (i := 1) rfl, (List.forall_mem_cons.2 ⟨List.mem_of_getElem? (i := 2) rfl, (List.forall_mem_cons.2 ⟨List.mem_of_getElem? (i := 3) rfl, (List.forall_mem_cons.2 ⟨List.mem_of_getElem? (i := 4) rfl, (List.forall_mem_cons.2 ⟨List.mem_of_getElem? (i := 5) rfl, (mem_TR (A := [_, _, _, _, _, _, _]) (fun _ h_ => h_))⟩)⟩)⟩)⟩)⟩)⟩)) Wanted.none (fun wq sq => (Runs.move rfl)) ?_
        refine AWH.take 1 rfl (by decide) (by kernel_rfl) (by kernel_rfl) (St.subset st_43 st_42 (List.forall_mem_cons.2 ⟨List.mem_of_getElem? (i := 0) rfl, (List.forall_mem_cons.2 ⟨List.mem_of_getElem? (i := 1) rfl, (List.forall_mem_cons.2 ⟨List.mem_of_getElem? (i := 2) rfl, (List.forall_mem_cons.2 ⟨List.mem_of_getElem? (i := 3) rfl, (List.forall_mem_cons.2 ⟨List.mem_of_getElem? (i := 4) rfl, (List.forall_mem_cons.2 ⟨List.mem_of_getElem? (i := 5) rfl, (mem_TR (A := [_, _, _, _, _, _, _]) (fun _ h_ => h_))⟩)⟩)⟩)⟩)⟩)⟩)) Wanted.none (fun wq sq => (Runs.move rfl)) ?_
        refine AWH.take 2 rfl (by decide) (by kernel_rfl) (by kernel_rfl) (St.subset st_43 st_42 (List.forall_mem_cons.2 ⟨List.mem_of_getElem? (i := 0) rfl, (List.forall_mem_cons.2 ⟨List.mem_of_getElem? (i := 1) rfl, (List.forall_mem_cons.2 ⟨List.mem_of_getElem? (i := 2) rfl, (List.forall_mem_cons.2 ⟨List.mem_of_getElem? (i := 3) rfl, (List.forall_mem_cons.2 ⟨List.mem_of_getElem? (i := 4) rfl, (List.forall_mem_cons.2 ⟨List.mem_of_getElem? (i := 5) rfl, (mem_TR (A := [_, _, _, _, _, _, _]) (fun _ h_ => h_))⟩)⟩)⟩)⟩)⟩)⟩)) Wanted.none (fun wq sq => (Runs.nilCheck rfl)) ?_
        refine AWH.take 3 rfl (by decide) (by kernel_rfl) (by kernel_rfl) (St.subset st_43 st_42 (List.forall_mem_cons.2 ⟨List.mem_of_getElem? (i := 0) rfl, (List.forall_mem_cons.2 ⟨List.mem_of_getElem? (i := 1) rfl, (List.forall_mem_cons.2 ⟨List.mem_of_getElem? (i := 2) rfl, (List.forall_mem_cons.2 ⟨List.mem_of_getElem? (i := 3) rfl, (List.forall_mem_cons.2 ⟨List.mem_of_getElem? (i := 4) rfl, (List.forall_mem_cons.2 ⟨List.mem_of_getElem? (i := 5) rfl, (mem_TR (A := [_, _, _, _, _, _, _]) (fun _ h_ => h_))⟩)⟩)⟩)⟩)⟩)⟩)) Wanted.none (fun wq sq => (Runs.fieldAddr (off := 4) (p := 4) fld66_4 rfl rfl rfl)) ?_
        refine AWH.take 4 rfl (by decide) (by kernel_rfl) (by kernel_rfl) (St.subset st_43 st_42 (List.forall_mem_cons.2 ⟨List.mem_of_getElem? (i := 0) rfl, (List.forall_mem_cons.2 ⟨List.mem_of_getElem? (i := 1) rfl, (List.forall_mem_cons.2 ⟨List.mem_of_getElem? (i := 2) rfl, (List.forall_mem_cons.2 ⟨List.mem_of_getElem? (i := 3) rfl, (List.forall_mem_cons.2 ⟨List.mem_of_getElem? (i := 4) rfl, (List.forall_mem_cons.2 ⟨List.mem_of_getElem? (i := 5) rfl, (mem_TR (A := [_, _, _, _, _, _, _]) (fun _ h_ => h_))⟩)⟩)⟩)⟩)⟩)⟩)) Wanted.none (fun wq sq => (Runs.load nagg61 rfl (sq.cell (k := 3) rfl (part_one (u := .slice A0_4 n0_4 c0_4) (pre := (([.slice A0_0 n0_0 c0_0] : List Value) ++ (([.slice A0_1 n0_1 c0_1] : List Value) ++ (([.int .i64 a0_2] : List Value) ++ ([.bool a0_3] : List Value))))) (post := (([] : List Value))) (by first | rfl | simp only [List.append_assoc, List.append_nil, List.nil_append, List.cons_append]) (by first | rfl | simp only [List.length_append, List.length_cons, List.length_nil, iv_length]))))) ?_
        refine AWH.take 5 rfl (by decide) (by kernel_rfl) (by kernel_rfl) (St.subset st_43 st_42 (List.forall_mem_cons.2 ⟨List.mem_of_getElem? (i := 0) rfl, (List.forall_mem_cons.2 ⟨List.mem_of_getElem? (i := 1) rfl, (List.forall_mem_cons.2 ⟨List.mem_of_getElem? (i := 2) rfl, (List.forall_mem_cons.2 ⟨List.mem_of_getElem? (i := 3) rfl, (List.forall_mem_cons.2 ⟨List.mem_of_getElem? (i := 4) rfl, (List.forall_mem_cons.2 ⟨List.mem_of_getElem? (i := 5) rfl, (mem_TR (A := [_, _, _, _, _, _, _]) (fun _ h_ => h_))⟩)⟩)⟩)⟩)⟩)⟩)) Wanted.none (fun wq sq => (Runs.load nagg3 rfl (sq.cell (k := 2) rfl rfl))) ?_
        refine AWH.take 6 rfl (by decide) (by kernel_rfl) (by kernel_rfl) (St.subset st_43 st_42 (List.forall_mem_cons.2 ⟨List.mem_of_getElem? (i := 0) rfl, (List.forall_mem_cons.2 ⟨List.mem_of_getElem? (i := 1) rfl, (List.forall_mem_cons.2 ⟨List.mem_of_getElem? (i := 2) rfl, (List.forall_mem_cons.2 ⟨List.mem_of_getElem? (i := 3) rfl, (List.forall_mem_cons.2 ⟨List.mem_of_getElem? (i := 4) rfl, (List.forall_mem_cons.2 ⟨List.mem_of_getElem? (i := 5) rfl, (mem_TR (A := [_, _, _, _, _, _, _]) (fun _ h_ => h_))⟩)⟩)⟩)⟩)⟩)⟩)) Wanted.none (fun wq sq => (Runs.build_struct (ps := [(0, 1), (1, 1)]) (cs := (([.int .i64 1] : List Value) ++ ([.int .i64 a1] : List Value))) plc71 zero71 rfl (by refine Fills.cons (o := 0) (ms := (([.int .i64 1] : List Value))) (show _ = some (0, (([.int .i64 1] : List Value)).length) by rw [show (([.int .i64 1] : List Value)).length = 1 from (by first | rfl | simp only [List.length_append, List.length_cons, List.length_nil, iv_length])] <;> rfl) rfl (by have h1_ : (([.int .i64 1] : List Value)).length = 1 := (by first | rfl | simp only [List.length_append, List.length_cons, List.length_nil, iv_length]); have h2_ : (([.int .i64 0] : List Value) ++ ([.int .i64 0] : List Value)).length = 2 := (by first | rfl | simp only [List.length_append, List.length_cons, List.length_nil, iv_length]); omega) ?_; rw [show layV (([.int .i64 0] : List Value) ++ ([.int .i64 0] : List Value)) 0 (([.int .i64 1] : List Value)) = (([.int .i64 1] : List Value) ++ ([.int .i64 0] : List Value)) from (layV_mid (pre := (([] : List Value))) (mid := (([.int .i64 0] : List Value))) (post := (([.int .i64 0] : List Value))) (by first | rfl | simp only [List.append_assoc, List.append_nil, List.nil_append, List.cons_append]) (by first | rfl | simp only [List.length_append, List.length_cons, List.length_nil, iv_length]) (Eq.trans (b := 1) (by first | rfl | simp only [List.length_append, List.length_cons, List.length_nil, iv_length]) (Eq.symm (by first | rfl | simp only [List.length_append, List.length_cons, List.length_nil, iv_length])))).trans (by first | rfl | simp only [List.append_assoc, List.append_nil, List.nil_append, List.cons_append])]; refine Fills.cons (o := 1) (ms := (([.int .i64 a1] : List Value))) (show _ = some (1, (([.int .i64 a1] : List Value)).length) by rw [show (([.int .i64 a1] : List Value)).length = 1 from (by first | rfl | simp only [List.length_append, List.length_cons, List.length_nil, iv_length])] <;> rfl) rfl (by have h1_ : (([.int .i64 a1] : List Value)).length = 1 := (by first | rfl | simp only [List.length_append, List.length_cons, List.length_nil, iv_length]); have h2_ : (([.int .i64 1] : List Value) ++ ([.int .i64 0] : List Value)).length = 2 := (by first | rfl | simp only [List.length_append, List.length_cons, List.length_nil, iv_length]); omega) ?_; rw [show layV (([.int .i64 1] : List Value) ++ ([.int .i64 0] : List Value)) 1 (([.int .i64 a1] : List Value)) = (([.int .i64 1] : List Value) ++ ([.int .i64 a1] : List Value)) from (layV_mid (pre := (([.int .i64 1] : List Value))) (mid := (([.int .i64 0] : List Value))) (post := (([] : List Value))) (by first | rfl | simp only [List.append_assoc, List.append_nil, List.nil_append, List.cons_append]) (by first | rfl | simp only [List.length_append, List.length_cons, List.length_nil, iv_length]) (Eq.trans (b := 1) (by first | rfl | simp only [List.length_append, List.length_cons, List.length_nil, iv_length]) (Eq.symm (by first | rfl | simp only [List.length_append, List.length_cons, List.length_nil, iv_length])))).trans (by first | rfl | simp only [List.append_assoc, List.append_nil, List.nil_append, List.cons_append])]; exact Fills.nil))) ?_
        refine AWH.step 7 rfl (by decide) (by kernel_rfl) (fun inv_ hs_ hk_ hc_ hn_ => ?_)
        obtain ⟨ii_44, z_45, h_46, h_47, h_48, h_49⟩ := slr71_1
        refine WL.buildSlRows (sz := 2) (cs := (([.int .i64 1] : List Value) ++ ([.int .i64 a1] : List Value))) st_42 Try.underlying61 h_46 h_47 h_48 (by decide) (by decide) h_49 rfl (by refine Fills.cons (o := 0) (ms := (([.int .i64 1] : List Value) ++ ([.int .i64 a1] : List Value))) (show _ = some (0, (([.int .i64 1] : List Value) ++ ([.int .i64 a1] : List Value)).length) by rw [show (([.int .i64 1] : List Value) ++ ([.int .i64 a1] : List Value)).length = 2 from (by first | rfl | simp only [List.length_append, List.length_cons, List.length_nil, iv_length])] <;> rfl) rfl (by have h1_ : (([.int .i64 1] : List Value) ++ ([.int .i64 a1] : List Value)).length = 2 := (by first | rfl | simp only [List.length_append, List.length_cons, List.length_nil, iv_length]); have h2_ : (([.int .i64 0] : List Value) ++ ([.int .i64 0] : List Value)).length = 2 := (by first | rfl | simp only [List.length_append, List.length_cons, List.length_nil, iv_length]); omega) ?_; rw [show layV (([.int .i64 0] : List Value) ++ ([.int .i64 0] : List Value)) 0 (([.int .i64 1] : List Value) ++ ([.int .i64 a1] : List Value)) = (([.int .i64 1] : List Value) ++ ([.int .i64 a1] : List Value)) from (layV_mid (pre := (([] : List Value))) (mid := (([.int .i64 0] : List Value) ++ ([.int .i64 0] : List Value))) (post := (([] : List Value))) (by first | rfl | simp only [List.append_assoc, List.append_nil, List.nil_append, List.cons_append]) (by first | rfl | simp only [List.length_append, List.length_cons, List.length_nil, iv_length]) (Eq.trans (b := 2) (by first | rfl | simp only [List.length_append, List.length_cons, List.length_nil, iv_length]) (Eq.symm (by first | rfl | simp only [List.length_append, List.length_cons, List.length_nil, iv_length])))).trans (by first | rfl | simp only [List.append_assoc, List.append_nil, List.nil_append, List.cons_append])]; exact Fills.nil) ?_
        intro B_50 w_51 st_52
        replace st_52 : St w w_51 (.cells B_50 (([.int .i64 1] : List Value) ++ ([.int .i64 a1] : List Value)) 71 :: .cells B_9 [.int .i64 0] 26 :: .cells B_5 [.slice none 0 0] 22 :: .cells B_1 [.int .i64 a1] 3 :: .cells b0 (([.slice A0_0 n0_0 c0_0] : List Value) ++ (([.slice A0_1 n0_1 c0_1] : List Value) ++ (([.int .i64 a0_2] : List Value) ++ (([.bool a0_3] : List Value) ++ ([.slice A0_4 n0_4 c0_4] : List Value))))) 66 :: .sl A0_0 c0_0 n0_0 x0_0 22 1 :: .sl A0_1 c0_1 n0_1 x0_1 69 2 :: .sl A0_4 c0_4 n0_4 x0_4 71 2 :: (T ++ R)) := st_52
        have st_54 := St.rows_sl (i := 0) (m := 1) (size := 2) st_52 rfl rfl (by decide)
        obtain ⟨x_55, e_56⟩ : ∃ x_ : Cells, x_ = ([.int .i64 1] : List Value) ++ ([.int .i64 a1] : List Value) := ⟨_, rfl⟩
        have hx_57 : HRs T (f71 w) x_55 ([(1, a1)] : List R71) := by rw [e_56]; exact (HRs.one (.cons rfl (.cons rfl .nil)))
        replace st_54 : St w w_51 (.sl (some ⟨B_50, 0, none⟩) 1 1 x_55 71 2 :: .cells B_9 [.int .i64 0] 26 :: .cells B_5 [.slice none 0 0] 22 :: .cells B_1 [.int .i64 a1] 3 :: .cells b0 (([.slice A0_0 n0_0 c0_0] : List Value) ++ (([.slice A0_1 n0_1 c0_1] : List Value) ++ (([.int .i64 a0_2] : List Value) ++ (([.bool a0_3] : List Value) ++ ([.slice A0_4 n0_4 c0_4] : List Value))))) 66 :: .sl A0_0 c0_0 n0_0 x0_0 22 1 :: .sl A0_1 c0_1 n0_1 x0_1 69 2 :: .sl A0_4 c0_4 n0_4 x0_4 71 2 :: (T ++ R)) := by rw [e_56]; exact st_54
        refine WL.nil ?_
        refine AWH.back (St.subset st_43 st_54 (List.forall_mem_cons.2 ⟨List.mem_of_getElem? (i := 1) rfl, (List.forall_mem_cons.2 ⟨List.mem_of_getElem? (i := 2) rfl, (List.forall_mem_cons.2 ⟨List.mem_of_getElem? (i := 3) rfl, (List.forall_mem_cons.2 ⟨List.mem_of_getElem? (i := 4) rfl, (List.forall_mem_cons.2 ⟨List.mem_of_getElem? (i := 5) rfl, (List.forall_mem_cons.2 ⟨List.mem_of_getElem? (i := 6) rfl, (mem_TR (A := [_, _, _, _, _, _, _, _]) (fun _ h_ => h_))⟩)⟩)⟩)⟩)⟩)⟩)) inv_ hs_ hk_ hc_ hn_ ?_
        refine AWH.step 8 rfl (by decide) (by kernel_rfl) (fun inv_ hs_ hk_ hc_ hn_ => ?_)
        obtain ⟨m_58, e_59, H⟩ := H
        obtain ⟨z_60, H⟩ := H
        obtain ⟨n_63, hn_66⟩ : ∃ n_ : Nat, n_ = m_58.length := ⟨_, rfl⟩
        refine WL.appendR (i := 7) (N := n_63) (news := x_55) Wanted.none st_54 rfl Try.underlying61 elemS71 rfl rfl (st_54.src_sl (k := 0) rfl) (by have h1_ := (hx_57).length (fz71 w); have h2_ : 1 = ([(1, a1)] : List R71).length := rfl; rw [h1_, h2_]) (HLs.one hx_57) (by decide) (by have h1_ : n0_4 = l0_4.length := hn0_4; have h2_ : 1 = ([(1, a1)] : List R71).length := rfl; rw [hn_66, e_59, List.length_append]; omega) (by rw [hn_66]; exact z_60) ?_
        intro A_61 c_62 w_64 st_65
        obtain ⟨x_67, e_68⟩ : ∃ x_ : Cells, x_ = x0_4 ++ x_55 := ⟨_, rfl⟩
        have hx_69 : HRs T (f71 w) x_67 m_58 := by rw [e_68, e_59]; exact HRs.append hx0_4 hx_57
        replace st_65 : St w w_64 (.sl (some ⟨B_50, 0, none⟩) 1 1 x_55 71 2 :: .cells B_9 [.int .i64 0] 26 :: .cells B_5 [.slice none 0 0] 22 :: .cells B_1 [.int .i64 a1] 3 :: .cells b0 (([.slice A0_0 n0_0 c0_0] : List Value) ++ (([.slice A0_1 n0_1 c0_1] : List Value) ++ (([.int .i64 a0_2] : List Value) ++ (([.bool a0_3] : List Value) ++ ([.slice A0_4 n0_4 c0_4] : List Value))))) 66 :: .sl A0_0 c0_0 n0_0 x0_0 22 1 :: .sl A0_1 c0_1 n0_1 x0_1 69 2 :: .sl A_61 c_62 n_63 x_67 71 2 :: (T ++ R)) := by rw [e_68]; exact st_65
        refine WL.nil ?_
        refine AWH.back (St.subset st_43 st_65 (List.forall_mem_cons.2 ⟨List.mem_of_getElem? (i := 1) rfl, (List.forall_mem_cons.2 ⟨List.mem_of_getElem? (i := 2) rfl, (List.forall_mem_cons.2 ⟨List.mem_of_getElem? (i := 3) rfl, (List.forall_mem_cons.2 ⟨List.mem_of_getElem? (i := 4) rfl, (List.forall_mem_cons.2 ⟨List.mem_of_getElem? (i := 5) rfl, (List.forall_mem_cons.2 ⟨List.mem_of_getElem? (i := 6) rfl, (mem_TR (A := [_, _, _, _, _, _, _, _]) (fun _ h_ => h_))⟩)⟩)⟩)⟩)⟩)⟩)) inv_ hs_ hk_ hc_ hn_ ?_
        refine AWH.tail (by kernel_rfl) ?_
        refine AW.take 9 rfl (by kernel_rfl) (by kernel_rfl) (by kernel_rfl) Wanted.none (fun _ => (Runs.nilCheck rfl)) ?_
        refine AW.take 10 rfl (by kernel_rfl) (by kernel_rfl) (by kernel_rfl) Wanted.none (fun _ => (Runs.fieldAddr (off := 4) (p := 4) fld66_4 rfl rfl rfl)) ?_
        refine AW.step 11 rfl (by kernel_rfl) ?_
        refine WL.store_one (i := 4) (u0 := .slice A0_4 n0_4 c0_4) (pre := (([.slice A0_0 n0_0 c0_0] : List Value) ++ (([.slice A0_1 n0_1 c0_1] : List Value) ++ (([.int .i64 a0_2] : List Value) ++ ([.bool a0_3] : List Value))))) (post := (([] : List Value))) st_65 rfl cells61 (by first | rfl | simp only [List.append_assoc, List.append_nil, List.nil_append, List.cons_append]) (by first | rfl | simp only [List.length_append, List.length_cons, List.length_nil, iv_length]) rfl rfl rfl ?_
        intro w_70 st_71
        replace st_71 : St w w_70 (.sl (some ⟨B_50, 0, none⟩) 1 1 x_55 71 2 :: .cells B_9 [.int .i64 0] 26 :: .cells B_5 [.slice none 0 0] 22 :: .cells B_1 [.int .i64 a1] 3 :: .cells b0 (([.slice A0_0 n0_0 c0_0] : List Value) ++ (([.slice A0_1 n0_1 c0_1] : List Value) ++ (([.int .i64 a0_2] : List Value) ++ (([.bool a0_3] : List Value) ++ ([.slice A_61 n_63 c_62] : List Value))))) 66 :: .sl A0_0 c0_0 n0_0 x0_0 22 1 :: .sl A0_1 c0_1 n0_1 x0_1 69 2 :: .sl A_61 c_62 n_63 x_67 71 2 :: (T ++ R)) := by have e_ : (([.slice A0_0 n0_0 c0_0] : List Value) ++ (([.slice A0_1 n0_1 c0_1] : List Value) ++ (([.int .i64 a0_2] : List Value) ++ (([.bool a0_3] : List Value) ++ ([.slice A_61 n_63 c_62] : List Value))))) = (([.slice A0_0 n0_0 c0_0] : List Value) ++ (([.slice A0_1 n0_1 c0_1] : List Value) ++ (([.int .i64 a0_2] : List Value) ++ ([.bool a0_3] : List Value)))) ++ ((([.slice A_61 n_63 c_62] : List Value)) ++ (([] : List Value))) := (by first | rfl | simp only [List.append_assoc, List.append_nil, List.nil_append, List.cons_append]); have h_ : St w w_70 (.sl (some ⟨B_50, 0, none⟩) 1 1 x_55 71 2 :: .cells B_9 [.int .i64 0] 26 :: .cells B_5 [.slice none 0 0] 22 :: .cells B_1 [.int .i64 a1] 3 :: .cells b0 ((([.slice A0_0 n0_0 c0_0] : List Value) ++ (([.slice A0_1 n0_1 c0_1] : List Value) ++ (([.int .i64 a0_2] : List Value) ++ ([.bool a0_3] : List Value)))) ++ ((([.slice A_61 n_63 c_62] : List Value)) ++ (([] : List Value)))) 66 :: .sl A0_0 c0_0 n0_0 x0_0 22 1 :: .sl A0_1 c0_1 n0_1 x0_1 69 2 :: .sl A_61 c_62 n_63 x_67 71 2 :: (T ++ R)) := st_71; rw [← e_] at h_; exact h_
        refine WL.nil ?_
        refine AW.back  ?_
        refine AW.done (by kernel_rfl) ?_
        refine QW.then_n ?_
        refine CW.sub [(0, .pointer (some ⟨b0, 0, none⟩)), (3, .pointer (some ⟨B_1, 0, none⟩)), (4, .pointer (some ⟨B_5, 0, none⟩)), (5, .pointer (some ⟨B_9, 0, none⟩))] ⟨rfl, rfl, rfl, rfl, trivial⟩ ?_
        refine CW.seq ?_
        refine CW.seq ?_
        refine CW.region ?_
        refine WL.val Wanted.none (Runs.move rfl) ?_
        refine WL.val Wanted.none (Runs.nilCheck rfl) ?_
        refine WL.val Wanted.none (Runs.fieldAddr (off := 1) (p := 1) fld66_1 rfl rfl rfl) ?_
        refine WL.val Wanted.none (Runs.load nagg64 rfl (st_71.cell (k := 4) rfl (part_one (u := .slice A0_1 n0_1 c0_1) (pre := (([.slice A0_0 n0_0 c0_0] : List Value))) (post := (([.int .i64 a0_2] : List Value) ++ (([.bool a0_3] : List Value) ++ ([.slice A_61 n_63 c_62] : List Value)))) (by first | rfl | simp only [List.append_assoc, List.append_nil, List.nil_append, List.cons_append]) (by first | rfl | simp only [List.length_append, List.length_cons, List.length_nil, iv_length])))) ?_
        refine WL.call Wanted.none ent30 rfl (slices_Backward.calls w_70 A0_1 n0_1 c0_1) ?_
        rintro _ w_73 ⟨B_72, rfl, sc_75⟩
        have st_74 : St w w_73 (.cells B_72 [.slice A0_1 n0_1 c0_1] 64 :: .sl (some ⟨B_50, 0, none⟩) 1 1 x_55 71 2 :: .cells B_9 [.int .i64 0] 26 :: .cells B_5 [.slice none 0 0] 22 :: .cells B_1 [.int .i64 a1] 3 :: .cells b0 (([.slice A0_0 n0_0 c0_0] : List Value) ++ (([.slice A0_1 n0_1 c0_1] : List Value) ++ (([.int .i64 a0_2] : List Value) ++ (([.bool a0_3] : List Value) ++ ([.slice A_61 n_63 c_62] : List Value))))) 66 :: .sl A0_0 c0_0 n0_0 x0_0 22 1 :: .sl A0_1 c0_1 n0_1 x0_1 69 2 :: .sl A_61 c_62 n_63 x_67 71 2 :: (T ++ R)) := st_71.call sc_75
        refine ⟨_, rfl, ?_⟩
        refine WL.nil ?_
        refine QW.then_n ?_
        refine CW.block ?_
        obtain ⟨⟨h_77, Hq_78⟩, H_79⟩ := H
        refine CW.sub [(0, .pointer (some ⟨b0, 0, none⟩)), (3, .pointer (some ⟨B_1, 0, none⟩)), (4, .pointer (some ⟨B_5, 0, none⟩)), (5, .pointer (some ⟨B_9, 0, none⟩)), (43, .func (.func 43) #[] #[.pointer (some ⟨B_72, 0, none⟩)])] ⟨rfl, rfl, rfl, rfl, rfl, trivial⟩ ?_
        refine CW.search (M := n0_1) (ps := [44, 45]) (encs := fun x_ => bkenc x0_1 n0_1 x_.val) (Kp := KpK B_72 A0_1 (List.length x0_1)) (A := [.cells B_72 [.slice A0_1 n0_1 c0_1] 64, .sl (some ⟨B_50, 0, none⟩) 1 1 x_55 71 2, .cells B_9 [.int .i64 0] 26, .cells B_5 [.slice none 0 0] 22, .cells B_1 [.int .i64 a1] 3, .cells b0 (([.slice A0_0 n0_0 c0_0] : List Value) ++ (([.slice A0_1 n0_1 c0_1] : List Value) ++ (([.int .i64 a0_2] : List Value) ++ (([.bool a0_3] : List Value) ++ ([.slice A_61 n_63 c_62] : List Value))))) 66, .sl A0_0 c0_0 n0_0 x0_0 22 1, .sl A0_1 c0_1 n0_1 x0_1 69 2, .sl A_61 c_62 n_63 x_67 71 2]) (T := T) (R := R) st_74 (show celly ([.cells B_72 [.slice A0_1 n0_1 c0_1] 64, .sl (some ⟨B_50, 0, none⟩) 1 1 x_55 71 2, .cells B_9 [.int .i64 0] 26, .cells B_5 [.slice none 0 0] 22, .cells B_1 [.int .i64 a1] 3, .cells b0 (([.slice A0_0 n0_0 c0_0] : List Value) ++ (([.slice A0_1 n0_1 c0_1] : List Value) ++ (([.int .i64 a0_2] : List Value) ++ (([.bool a0_3] : List Value) ++ ([.slice A_61 n_63 c_62] : List Value))))) 66, .sl A0_0 c0_0 n0_0 x0_0 22 1, .sl A0_1 c0_1 n0_1 x0_1 69 2, .sl A_61 c_62 n_63 x_67 71 2] ++ (T ++ R)) = true from (celly_append hT hR : celly (T ++ R) = true)) rfl ent43 (backward_seq (st_74.cell (k := 0) (i := 0) rfl rfl) (st_74.src_sl (k := 7) rfl) ((hx0_1.length (fz69 w)).trans (by rw [show n0_1 = l0_1.length from hn0_1])) (by rw [show n0_1 = l0_1.length from hn0_1]; exact h_77)) (fun h k => h.trans k) (fun W j o o2 h1 h2 h3 => KpK.put (block_lt_of_cell (st_74.cell (k := 0) (i := 0) rfl rfl)) (st_74.src_sl (k := 7) rfl) W j o o2 h1 h2 h3) (fun _ => rfl) (fun x_ => (fun (q_80 : Nat) => (¬ (((gx l0_1 q_80).1) = a1) ∧ True)) (n0_1 - 1 - x_.val)) (fun x_ s_ => (fun (q_80 : Nat) => ∃ (r_131 : List Int) (A_132 : Option Addr) (n_134 : Nat) (c_133 : Nat), s_ = (.cells B_72 [.slice A0_1 n0_1 c0_1] 64 :: .sl (some ⟨B_50, 0, none⟩) 1 1 x_55 71 2 :: .cells B_9 [.int .i64 0] 26 :: .cells B_5 [.slice A_132 n_134 c_133] 22 :: .cells B_1 [.int .i64 a1] 3 :: .cells b0 (([.slice A0_0 n0_0 c0_0] : List Value) ++ (([.slice A0_1 n0_1 c0_1] : List Value) ++ (([.int .i64 a0_2] : List Value) ++ (([.bool a0_3] : List Value) ++ ([.slice A_61 n_63 c_62] : List Value))))) 66 :: .sl A0_0 c0_0 n0_0 x0_0 22 1 :: .sl A0_1 c0_1 n0_1 x0_1 69 2 :: .sl A_61 c_62 n_63 x_67 71 2 :: .sl A_132 c_133 n_134 (iv .u8 r_131) 5 1 :: (T ++ R)) ∧ n_134 = r_131.length ∧ ((∀ p_142 : Nat, q_80 < p_142 → p_142 < l0_1.length → (¬ (((gx l0_1 p_142).1) = a1) ∧ True)) → ls0_0 = l0_0 ∧ ls0_1 = l0_1 ∧ as0_2 = a0_2 ∧ as0_3 = a0_3 ∧ ls0_4 = m_58 ∧ lr0 = r_131 ∧ ar1 = 0)) (n0_1 - 1 - x_.val)) .ret (fun x_ l_ N_ => (fun (q_80 : Nat) => ∃ (B_97 : Nat) (A_93 : Option Addr) (n_94 : Nat) (c_95 : Nat), HB w T A_93 n_94 c_95 (iv .u8 ((gx l0_1 q_80).2)) ((gx l0_1 q_80).2).length ∧ (l_ = [(0, .pointer (some ⟨b0, 0, none⟩)), (3, .pointer (some ⟨B_1, 0, none⟩)), (4, .pointer (some ⟨B_5, 0, none⟩)), (5, .pointer (some ⟨B_9, 0, none⟩)), (7, .pointer (some ⟨B_97, 0, none⟩))] ∧ N_ = [.cells B_97 (([.int .i64 ((gx l0_1 q_80).1)] : List Value) ++ ([.slice A_93 n_94 c_95] : List Value)) 69])) (n0_1 - 1 - x_.val)) ?_ ?_ ?_ ?_
        · intro j_ x_81 w_85 O_84 st_86
          replace st_86 : St w w_85 (.cells B_72 [.slice A0_1 n0_1 c0_1] 64 :: .sl (some ⟨B_50, 0, none⟩) 1 1 x_55 71 2 :: .cells B_9 [.int .i64 0] 26 :: .cells B_5 [.slice none 0 0] 22 :: .cells B_1 [.int .i64 a1] 3 :: .cells b0 (([.slice A0_0 n0_0 c0_0] : List Value) ++ (([.slice A0_1 n0_1 c0_1] : List Value) ++ (([.int .i64 a0_2] : List Value) ++ (([.bool a0_3] : List Value) ++ ([.slice A_61 n_63 c_62] : List Value))))) 66 :: .sl A0_0 c0_0 n0_0 x0_0 22 1 :: .sl A0_1 c0_1 n0_1 x0_1 69 2 :: .sl A_61 c_62 n_63 x_67 71 2 :: (T ++ (R ++ O_84))) := st_86
          obtain ⟨q_80, hq_82⟩ : ∃ q_ : Nat, q_ = n0_1 - 1 - x_81.val := ⟨_, rfl⟩
          have hlt_83 : q_80 < l0_1.length := by have h1_ := x_81.isLt; have h2_ : n0_1 = l0_1.length := hn0_1; omega
          obtain ⟨a_87, e_88, ms_89, hc_90, hm_91⟩ := el_get (i := q_80) (st_86.src_sl (k := 7) rfl) hx0_1 (fz69 w) (by decide) hlt_83
          obtain ⟨A_93, n_94, c_95, em_92, hb_96⟩ := inv69 hm_91
          replace em_92 : ms_89 = ([.int .i64 ((gx l0_1 q_80).1)] : List Value) ++ ([.slice A_93 n_94 c_95] : List Value) := em_92
          subst em_92
          try dsimp only
          rw [show bkenc x0_1 n0_1 x_81.val = [.int .i64 ((q_80 : Nat) : Int), .agg (([.int .i64 ((gx l0_1 q_80).1)] : List Value) ++ ([.slice A_93 n_94 c_95] : List Value)).toArray] from by unfold bkenc; rw [← hq_82, hc_90]]
          refine CF.sub [(0, .pointer (some ⟨b0, 0, none⟩)), (3, .pointer (some ⟨B_1, 0, none⟩)), (4, .pointer (some ⟨B_5, 0, none⟩)), (5, .pointer (some ⟨B_9, 0, none⟩)), (44, .int .i64 ((q_80 : Nat) : Int)), (45, .agg (([.int .i64 ((gx l0_1 q_80).1)] : List Value) ++ ([.slice A_93 n_94 c_95] : List Value)).toArray)] ⟨rfl, rfl, rfl, rfl, rfl, rfl, trivial⟩ ?_
          refine CF.region (.inr ⟨j_, rfl⟩) (fun ⟨a, w, h⟩ => h) rfl ?_
          refine WL.alloc st_86 zero69 ?_
          intro B_97 w_98 st_99
          replace st_99 : St w w_98 (.cells B_97 (([.int .i64 0] : List Value) ++ ([.slice none 0 0] : List Value)) 69 :: .cells B_72 [.slice A0_1 n0_1 c0_1] 64 :: .sl (some ⟨B_50, 0, none⟩) 1 1 x_55 71 2 :: .cells B_9 [.int .i64 0] 26 :: .cells B_5 [.slice none 0 0] 22 :: .cells B_1 [.int .i64 a1] 3 :: .cells b0 (([.slice A0_0 n0_0 c0_0] : List Value) ++ (([.slice A0_1 n0_1 c0_1] : List Value) ++ (([.int .i64 a0_2] : List Value) ++ (([.bool a0_3] : List Value) ++ ([.slice A_61 n_63 c_62] : List Value))))) 66 :: .sl A0_0 c0_0 n0_0 x0_0 22 1 :: .sl A0_1 c0_1 n0_1 x0_1 69 2 :: .sl A_61 c_62 n_63 x_67 71 2 :: (T ++ (R ++ O_84))) := st_99
          refine WL.store_mid (i := 0) (pre := (([] : List Value))) (mid := (([.int .i64 0] : List Value) ++ ([.slice none 0 0] : List Value))) (post := (([] : List Value))) (ms := (([.int .i64 ((gx l0_1 q_80).1)] : List Value) ++ ([.slice A_93 n_94 c_95] : List Value))) st_99 rfl row69 (by first | rfl | simp only [List.append_assoc, List.append_nil, List.nil_append, List.cons_append]) (by first | rfl | simp only [List.length_append, List.length_cons, List.length_nil, iv_length]) rfl rfl (by first | rfl | simp only [List.length_append, List.length_cons, List.length_nil, iv_length]) (by first | rfl | simp only [List.length_append, List.length_cons, List.length_nil, iv_length]) (by intro u hu; simp only [List.mem_append, List.mem_singleton] at hu; rcases hu with hu | hu <;> first | exact one_iv _ _ u hu | (subst hu; rfl)) ?_
          intro w_101 st_102
          replace st_102 : St w w_101 (.cells B_97 (([.int .i64 ((gx l0_1 q_80).1)] : List Value) ++ ([.slice A_93 n_94 c_95] : List Value)) 69 :: .cells B_72 [.slice A0_1 n0_1 c0_1] 64 :: .sl (some ⟨B_50, 0, none⟩) 1 1 x_55 71 2 :: .cells B_9 [.int .i64 0] 26 :: .cells B_5 [.slice none 0 0] 22 :: .cells B_1 [.int .i64 a1] 3 :: .cells b0 (([.slice A0_0 n0_0 c0_0] : List Value) ++ (([.slice A0_1 n0_1 c0_1] : List Value) ++ (([.int .i64 a0_2] : List Value) ++ (([.bool a0_3] : List Value) ++ ([.slice A_61 n_63 c_62] : List Value))))) 66 :: .sl A0_0 c0_0 n0_0 x0_0 22 1 :: .sl A0_1 c0_1 n0_1 x0_1 69 2 :: .sl A_61 c_62 n_63 x_67 71 2 :: (T ++ (R ++ O_84))) := by have e_ : (([.int .i64 ((gx l0_1 q_80).1)] : List Value) ++ ([.slice A_93 n_94 c_95] : List Value)) = (([] : List Value)) ++ ((([.int .i64 ((gx l0_1 q_80).1)] : List Value) ++ ([.slice A_93 n_94 c_95] : List Value)) ++ (([] : List Value))) := (by first | rfl | simp only [List.append_assoc, List.append_nil, List.nil_append, List.cons_append]); have h_ : St w w_101 (.cells B_97 ((([] : List Value)) ++ ((([.int .i64 ((gx l0_1 q_80).1)] : List Value) ++ ([.slice A_93 n_94 c_95] : List Value)) ++ (([] : List Value)))) 69 :: .cells B_72 [.slice A0_1 n0_1 c0_1] 64 :: .sl (some ⟨B_50, 0, none⟩) 1 1 x_55 71 2 :: .cells B_9 [.int .i64 0] 26 :: .cells B_5 [.slice none 0 0] 22 :: .cells B_1 [.int .i64 a1] 3 :: .cells b0 (([.slice A0_0 n0_0 c0_0] : List Value) ++ (([.slice A0_1 n0_1 c0_1] : List Value) ++ (([.int .i64 a0_2] : List Value) ++ (([.bool a0_3] : List Value) ++ ([.slice A_61 n_63 c_62] : List Value))))) 66 :: .sl A0_0 c0_0 n0_0 x0_0 22 1 :: .sl A0_1 c0_1 n0_1 x0_1 69 2 :: .sl A_61 c_62 n_63 x_67 71 2 :: (T ++ (R ++ O_84))) := st_102; rw [← e_] at h_; exact h_
          refine WL.nil ?_
          exact QW.at [(0, .pointer (some ⟨b0, 0, none⟩)), (3, .pointer (some ⟨B_1, 0, none⟩)), (4, .pointer (some ⟨B_5, 0, none⟩)), (5, .pointer (some ⟨B_9, 0, none⟩)), (7, .pointer (some ⟨B_97, 0, none⟩))] ⟨rfl, rfl, rfl, rfl, rfl, trivial⟩ ⟨[.cells B_97 (([.int .i64 ((gx l0_1 q_80).1)] : List Value) ++ ([.slice A_93 n_94 c_95] : List Value)) 69], (by (try dsimp only); rw [← hq_82]; exact ⟨B_97, A_93, n_94, c_95, hb_96, rfl, rfl⟩), rfl, st_102, (KpK.of (st_86.src_sl (k := 7) rfl) (st_102.src_sl (k := 8) rfl) (st_86.cell (k := 0) (i := 0) rfl rfl) (st_102.cell (k := 1) (i := 0) rfl rfl))⟩
        · rintro j_ x_81 w_103 l_ N_ O_84 hBx_ st_104
          obtain ⟨q_80, hq_82⟩ : ∃ q_ : Nat, q_ = n0_1 - 1 - x_81.val := ⟨_, rfl⟩
          have hlt_83 : q_80 < l0_1.length := by have h1_ := x_81.isLt; have h2_ : n0_1 = l0_1.length := hn0_1; omega
          try dsimp only at hBx_
          rw [← hq_82] at hBx_
          obtain ⟨B_97, A_93, n_94, c_95, hb_96, rfl, rfl⟩ := hBx_
          replace st_104 : St w w_103 (.cells B_97 (([.int .i64 ((gx l0_1 q_80).1)] : List Value) ++ ([.slice A_93 n_94 c_95] : List Value)) 69 :: .cells B_72 [.slice A0_1 n0_1 c0_1] 64 :: .sl (some ⟨B_50, 0, none⟩) 1 1 x_55 71 2 :: .cells B_9 [.int .i64 0] 26 :: .cells B_5 [.slice none 0 0] 22 :: .cells B_1 [.int .i64 a1] 3 :: .cells b0 (([.slice A0_0 n0_0 c0_0] : List Value) ++ (([.slice A0_1 n0_1 c0_1] : List Value) ++ (([.int .i64 a0_2] : List Value) ++ (([.bool a0_3] : List Value) ++ ([.slice A_61 n_63 c_62] : List Value))))) 66 :: .sl A0_0 c0_0 n0_0 x0_0 22 1 :: .sl A0_1 c0_1 n0_1 x0_1 69 2 :: .sl A_61 c_62 n_63 x_67 71 2 :: (T ++ (R ++ O_84))) := st_104
          have H := Hq_78 q_80 hlt_83
          rcases H with H | H
          · have H_105 := H
            refine CF.block ?_
            refine CF.seq ?_
            refine CF.region (.inr ⟨j_, rfl⟩) (fun ⟨a, w, h⟩ => h) rfl ?_
            refine WL.val Wanted.none (Runs.fieldAddr (off := 0) (p := 0) fld69_0 rfl rfl rfl) ?_
            refine WL.val Wanted.none (Runs.load nagg3 rfl (st_104.cell (k := 0) rfl (part_one (u := .int .i64 ((gx l0_1 q_80).1)) (pre := (([] : List Value))) (post := (([.slice A_93 n_94 c_95] : List Value))) (by first | rfl | simp only [List.append_assoc, List.append_nil, List.nil_append, List.cons_append]) (by first | rfl | simp only [List.length_append, List.length_cons, List.length_nil, iv_length])))) ?_
            refine WL.val Wanted.none (Runs.load nagg3 rfl (st_104.cell (k := 5) rfl rfl)) ?_
            refine WL.val Wanted.none (Runs.eql rfl rfl rfl) ?_
            refine WL.nil ?_
            refine QW.fthen_n ?_
            obtain ⟨c_106, H⟩ := H
            have h_107 : (((gx l0_1 q_80).1) == a1) = false := (beq_eq_false_iff_ne.mpr c_106)
            refine CF.cf rfl h_107 ?_
            refine CF.skip ?_
            refine QW.blk_n ?_
            exact fun b hb hd => ⟨(by (try dsimp only); rw [← hq_82]; exact H_105), ⟨[.cells B_97 (([.int .i64 ((gx l0_1 q_80).1)] : List Value) ++ ([.slice A_93 n_94 c_95] : List Value)) 69], rfl, st_104⟩, (KpK.of (st_104.src_sl (k := 8) rfl) (st_104.src_sl (k := 8) rfl) (st_104.cell (k := 1) (i := 0) rfl rfl) (st_104.cell (k := 1) (i := 0) rfl rfl))⟩
          · refine CF.block ?_
            refine CF.seq ?_
            refine CF.region (.inr ⟨j_, rfl⟩) (fun ⟨a, w, h⟩ => h) rfl ?_
            refine WL.val Wanted.none (Runs.fieldAddr (off := 0) (p := 0) fld69_0 rfl rfl rfl) ?_
            refine WL.val Wanted.none (Runs.load nagg3 rfl (st_104.cell (k := 0) rfl (part_one (u := .int .i64 ((gx l0_1 q_80).1)) (pre := (([] : List Value))) (post := (([.slice A_93 n_94 c_95] : List Value))) (by first | rfl | simp only [List.append_assoc, List.append_nil, List.nil_append, List.cons_append]) (by first | rfl | simp only [List.length_append, List.length_cons, List.length_nil, iv_length])))) ?_
            refine WL.val Wanted.none (Runs.load nagg3 rfl (st_104.cell (k := 5) rfl rfl)) ?_
            refine WL.val Wanted.none (Runs.eql rfl rfl rfl) ?_
            refine WL.nil ?_
            refine QW.fthen_n ?_
            obtain ⟨c_125, H⟩ := H
            have h_126 : (((gx l0_1 q_80).1) == a1) = true := (beq_iff_eq.mpr c_125)
            refine CF.ct rfl h_126 ?_
            refine CF.seq ?_
            refine CF.region (.inr ⟨j_, rfl⟩) (fun ⟨a, w, h⟩ => h) rfl ?_
            refine WL.val Wanted.none (Runs.fieldAddr (off := 1) (p := 1) fld69_1 rfl rfl rfl) ?_
            refine WL.val Wanted.none (Runs.load nagg22 rfl (st_104.cell (k := 0) rfl (part_one (u := .slice A_93 n_94 c_95) (pre := (([.int .i64 ((gx l0_1 q_80).1)] : List Value))) (post := (([] : List Value))) (by first | rfl | simp only [List.append_assoc, List.append_nil, List.nil_append, List.cons_append]) (by first | rfl | simp only [List.length_append, List.length_cons, List.length_nil, iv_length])))) ?_
            obtain ⟨r_131, hr_127, H⟩ := H
            refine WL.call Wanted.none ent29 rfl (slices_Clone_s_byte_byte.calls w_103 ((gx l0_1 q_80).2) A_93 n_94 c_95 ((hb_96.2.2.at st_104 (mem_T (A := [_, _, _, _, _, _, _, _, _, _]) (fun _ h_ => h_)))) (hb_96.1) (hb_96.2.1) r_131 hr_127) ?_
            rintro _ w_128 ⟨A_132, c_133, n_134, hn_135, rfl, sc_130⟩
            have st_129 : St w w_128 (.sl A_132 c_133 n_134 (iv .u8 r_131) 5 1 :: .cells B_97 (([.int .i64 ((gx l0_1 q_80).1)] : List Value) ++ ([.slice A_93 n_94 c_95] : List Value)) 69 :: .cells B_72 [.slice A0_1 n0_1 c0_1] 64 :: .sl (some ⟨B_50, 0, none⟩) 1 1 x_55 71 2 :: .cells B_9 [.int .i64 0] 26 :: .cells B_5 [.slice none 0 0] 22 :: .cells B_1 [.int .i64 a1] 3 :: .cells b0 (([.slice A0_0 n0_0 c0_0] : List Value) ++ (([.slice A0_1 n0_1 c0_1] : List Value) ++ (([.int .i64 a0_2] : List Value) ++ (([.bool a0_3] : List Value) ++ ([.slice A_61 n_63 c_62] : List Value))))) 66 :: .sl A0_0 c0_0 n0_0 x0_0 22 1 :: .sl A0_1 c0_1 n0_1 x0_1 69 2 :: .sl A_61 c_62 n_63 x_67 71 2 :: (T ++ (R ++ O_84))) := st_104.call sc_130
            refine ⟨_, rfl, ?_⟩
            refine WL.store_cells (i := 5) (j := 0) st_129 rfl cells22 rfl (Nat.zero_lt_succ _) rfl rfl ?_
            intro w_137 st_138
            replace st_138 : St w w_137 (.sl A_132 c_133 n_134 (iv .u8 r_131) 5 1 :: .cells B_97 (([.int .i64 ((gx l0_1 q_80).1)] : List Value) ++ ([.slice A_93 n_94 c_95] : List Value)) 69 :: .cells B_72 [.slice A0_1 n0_1 c0_1] 64 :: .sl (some ⟨B_50, 0, none⟩) 1 1 x_55 71 2 :: .cells B_9 [.int .i64 0] 26 :: .cells B_5 [.slice A_132 n_134 c_133] 22 :: .cells B_1 [.int .i64 a1] 3 :: .cells b0 (([.slice A0_0 n0_0 c0_0] : List Value) ++ (([.slice A0_1 n0_1 c0_1] : List Value) ++ (([.int .i64 a0_2] : List Value) ++ (([.bool a0_3] : List Value) ++ ([.slice A_61 n_63 c_62] : List Value))))) 66 :: .sl A0_0 c0_0 n0_0 x0_0 22 1 :: .sl A0_1 c0_1 n0_1 x0_1 69 2 :: .sl A_61 c_62 n_63 x_67 71 2 :: (T ++ (R ++ O_84))) := st_138
            refine WL.store_cells (i := 4) (j := 0) st_138 rfl cells26 rfl (Nat.zero_lt_succ _) rfl rfl ?_
            intro w_139 st_140
            replace st_140 : St w w_139 (.sl A_132 c_133 n_134 (iv .u8 r_131) 5 1 :: .cells B_97 (([.int .i64 ((gx l0_1 q_80).1)] : List Value) ++ ([.slice A_93 n_94 c_95] : List Value)) 69 :: .cells B_72 [.slice A0_1 n0_1 c0_1] 64 :: .sl (some ⟨B_50, 0, none⟩) 1 1 x_55 71 2 :: .cells B_9 [.int .i64 0] 26 :: .cells B_5 [.slice A_132 n_134 c_133] 22 :: .cells B_1 [.int .i64 a1] 3 :: .cells b0 (([.slice A0_0 n0_0 c0_0] : List Value) ++ (([.slice A0_1 n0_1 c0_1] : List Value) ++ (([.int .i64 a0_2] : List Value) ++ (([.bool a0_3] : List Value) ++ ([.slice A_61 n_63 c_62] : List Value))))) 66 :: .sl A0_0 c0_0 n0_0 x0_0 22 1 :: .sl A0_1 c0_1 n0_1 x0_1 69 2 :: .sl A_61 c_62 n_63 x_67 71 2 :: (T ++ (R ++ O_84))) := st_140
            refine WL.nil ?_
            refine QW.fthen_n ?_
            refine CF.ret ?_
            refine QW.blk_r ?_
            exact fun b hb hd => ⟨rfl, ⟨[.cells B_97 (([.int .i64 ((gx l0_1 q_80).1)] : List Value) ++ ([.slice A_93 n_94 c_95] : List Value)) 69, .cells B_72 [.slice A0_1 n0_1 c0_1] 64, .sl (some ⟨B_50, 0, none⟩) 1 1 x_55 71 2, .cells B_9 [.int .i64 0] 26, .cells B_5 [.slice A_132 n_134 c_133] 22, .cells B_1 [.int .i64 a1] 3, .cells b0 (([.slice A0_0 n0_0 c0_0] : List Value) ++ (([.slice A0_1 n0_1 c0_1] : List Value) ++ (([.int .i64 a0_2] : List Value) ++ (([.bool a0_3] : List Value) ++ ([.slice A_61 n_63 c_62] : List Value))))) 66, .sl A0_0 c0_0 n0_0 x0_0 22 1, .sl A0_1 c0_1 n0_1 x0_1 69 2, .sl A_61 c_62 n_63 x_67 71 2], rfl, (St.pickT (L := [_, _, _, _, _, _, _, _, _, _, _]) st_140 [1, 2, 3, 4, 5, 6, 7, 8, 9, 10] (by decide))⟩, (.cells B_72 [.slice A0_1 n0_1 c0_1] 64 :: .sl (some ⟨B_50, 0, none⟩) 1 1 x_55 71 2 :: .cells B_9 [.int .i64 0] 26 :: .cells B_5 [.slice A_132 n_134 c_133] 22 :: .cells B_1 [.int .i64 a1] 3 :: .cells b0 (([.slice A0_0 n0_0 c0_0] : List Value) ++ (([.slice A0_1 n0_1 c0_1] : List Value) ++ (([.int .i64 a0_2] : List Value) ++ (([.bool a0_3] : List Value) ++ ([.slice A_61 n_63 c_62] : List Value))))) 66 :: .sl A0_0 c0_0 n0_0 x0_0 22 1 :: .sl A0_1 c0_1 n0_1 x0_1 69 2 :: .sl A_61 c_62 n_63 x_67 71 2 :: .sl A_132 c_133 n_134 (iv .u8 r_131) 5 1 :: (T ++ R)), (by (try dsimp only); rw [← hq_82]; exact ⟨r_131, A_132, n_134, c_133, rfl, hn_135, H⟩), (show celly (.cells B_72 [.slice A0_1 n0_1 c0_1] 64 :: .sl (some ⟨B_50, 0, none⟩) 1 1 x_55 71 2 :: .cells B_9 [.int .i64 0] 26 :: .cells B_5 [.slice A_132 n_134 c_133] 22 :: .cells B_1 [.int .i64 a1] 3 :: .cells b0 (([.slice A0_0 n0_0 c0_0] : List Value) ++ (([.slice A0_1 n0_1 c0_1] : List Value) ++ (([.int .i64 a0_2] : List Value) ++ (([.bool a0_3] : List Value) ++ ([.slice A_61 n_63 c_62] : List Value))))) 66 :: .sl A0_0 c0_0 n0_0 x0_0 22 1 :: .sl A0_1 c0_1 n0_1 x0_1 69 2 :: .sl A_61 c_62 n_63 x_67 71 2 :: .sl A_132 c_133 n_134 (iv .u8 r_131) 5 1 :: (T ++ R)) = true from (celly_append hT hR : celly (T ++ R) = true)), (St.dropO (A := [.cells B_72 [.slice A0_1 n0_1 c0_1] 64, .sl (some ⟨B_50, 0, none⟩) 1 1 x_55 71 2, .cells B_9 [.int .i64 0] 26, .cells B_5 [.slice A_132 n_134 c_133] 22, .cells B_1 [.int .i64 a1] 3, .cells b0 (([.slice A0_0 n0_0 c0_0] : List Value) ++ (([.slice A0_1 n0_1 c0_1] : List Value) ++ (([.int .i64 a0_2] : List Value) ++ (([.bool a0_3] : List Value) ++ ([.slice A_61 n_63 c_62] : List Value))))) 66, .sl A0_0 c0_0 n0_0 x0_0 22 1, .sl A0_1 c0_1 n0_1 x0_1 69 2, .sl A_61 c_62 n_63 x_67 71 2, .sl A_132 c_133 n_134 (iv .u8 r_131) 5 1]) (St.pickT (L := [_, _, _, _, _, _, _, _, _, _, _]) st_140 [2, 3, 4, 5, 6, 7, 8, 9, 10, 0] (by decide)))⟩
        · intro D_122 w_123 hgo_ st_124
          replace st_124 : St w w_123 (.obj D_122 (.deferred (some [])) :: .cells B_72 [.slice A0_1 n0_1 c0_1] 64 :: .sl (some ⟨B_50, 0, none⟩) 1 1 x_55 71 2 :: .cells B_9 [.int .i64 0] 26 :: .cells B_5 [.slice none 0 0] 22 :: .cells B_1 [.int .i64 a1] 3 :: .cells b0 (([.slice A0_0 n0_0 c0_0] : List Value) ++ (([.slice A0_1 n0_1 c0_1] : List Value) ++ (([.int .i64 a0_2] : List Value) ++ (([.bool a0_3] : List Value) ++ ([.slice A_61 n_63 c_62] : List Value))))) 66 :: .sl A0_0 c0_0 n0_0 x0_0 22 1 :: .sl A0_1 c0_1 n0_1 x0_1 69 2 :: .sl A_61 c_62 n_63 x_67 71 2 :: (T ++ R)) := st_124
          replace H := H_79 (fun p_ hp_ => by have h2_ : n0_1 = l0_1.length := hn0_1; have h_ : (fun (q_80 : Nat) => (¬ (((gx l0_1 q_80).1) = a1) ∧ True)) (n0_1 - 1 - (n0_1 - 1 - p_)) := hgo_ ⟨n0_1 - 1 - p_, by omega⟩; rw [show n0_1 - 1 - (n0_1 - 1 - p_) = p_ from by omega] at h_; exact h_)
          refine QW.blk_n ?_
          refine QW.then_n ?_
          refine CW.seq ?_
          refine CW.region_qt 7 wide (by kernel_rfl) st_124 ?_
          refine HL.val Wanted.none (fun wq sq => (Runs.move rfl)) ?_
          refine HL.val Wanted.none (fun wq sq => (Runs.nilCheck rfl)) ?_
          refine HL.val Wanted.none (fun wq sq => (Runs.fieldAddr (off := 0) (p := 0) fld66_0 rfl rfl rfl)) ?_
          refine HL.val Wanted.none (fun wq sq => (Runs.load nagg41 rfl (sq.cell (k := 6) rfl (part_one (u := .slice A0_0 n0_0 c0_0) (pre := (([] : List Value))) (post := (([.slice A0_1 n0_1 c0_1] : List Value) ++ (([.int .i64 a0_2] : List Value) ++ (([.bool a0_3] : List Value) ++ ([.slice A_61 n_63 c_62] : List Value))))) (by first | rfl | simp only [List.append_assoc, List.append_nil, List.nil_append, List.cons_append]) (by first | rfl | simp only [List.length_append, List.length_cons, List.length_nil, iv_length]))))) ?_
          refine HL.val Wanted.none (fun wq sq => (Runs.load nagg3 rfl (sq.cell (k := 5) rfl rfl))) ?_
          obtain ⟨⟨p_144, q_145⟩, H⟩ := H
          obtain ⟨a_146, e_147, ms_148, hc_149, hm_150⟩ := el_get (i := (a1).toNat) (st_124.src_sl (k := 7) rfl) hx0_0 (fz22 w) (by decide) (by omega)
          obtain ⟨A_151, n_152, c_153, em_155, hb_154⟩ := inv22 hm_150
          replace em_155 : ms_148 = ([.slice A_151 n_152 c_153] : List Value) := em_155
          subst em_155
          refine HL.val Wanted.none (fun wq sq => (Runs.indexAddr Try.underlying41 cells22 (by decide) rfl e_147 rfl p_144 (by rw [show n0_0 = l0_0.length from hn0_0]; exact q_145) (o := ((a1).toNat) * 1) (by first | rfl | omega))) ?_
          refine HL.val Wanted.none (fun wq sq => (Runs.load nagg22 rfl (Src.cellAt (j := 0) (Src.cut (sq.src_sl (k := 7) rfl) e_147 hc_149) rfl))) ?_
          refine HL.nil (fun w_156 st_157 => ?_)
          obtain ⟨r_162, hr_158, H⟩ := H
          refine WL.call Wanted.none ent29 rfl (slices_Clone_s_byte_byte.calls w_156 (gx l0_0 ((a1).toNat)) A_151 n_152 c_153 ((hb_154.2.2.at st_157 (mem_T (A := [_, _, _, _, _, _, _, _, _, _]) (fun _ h_ => h_)))) (hb_154.1) (hb_154.2.1) r_162 hr_158) ?_
          rintro _ w_159 ⟨A_163, c_164, n_165, hn_166, rfl, sc_161⟩
          have st_160 : St w w_159 (.sl A_163 c_164 n_165 (iv .u8 r_162) 5 1 :: .obj D_122 (.deferred (some [])) :: .cells B_72 [.slice A0_1 n0_1 c0_1] 64 :: .sl (some ⟨B_50, 0, none⟩) 1 1 x_55 71 2 :: .cells B_9 [.int .i64 0] 26 :: .cells B_5 [.slice none 0 0] 22 :: .cells B_1 [.int .i64 a1] 3 :: .cells b0 (([.slice A0_0 n0_0 c0_0] : List Value) ++ (([.slice A0_1 n0_1 c0_1] : List Value) ++ (([.int .i64 a0_2] : List Value) ++ (([.bool a0_3] : List Value) ++ ([.slice A_61 n_63 c_62] : List Value))))) 66 :: .sl A0_0 c0_0 n0_0 x0_0 22 1 :: .sl A0_1 c0_1 n0_1 x0_1 69 2 :: .sl A_61 c_62 n_63 x_67 71 2 :: (T ++ R)) := st_157.call sc_161
          refine ⟨_, rfl, ?_⟩
          refine WL.store_cells (i := 5) (j := 0) st_160 rfl cells22 rfl (Nat.zero_lt_succ _) rfl rfl ?_
          intro w_168 st_169
          replace st_169 : St w w_168 (.sl A_163 c_164 n_165 (iv .u8 r_162) 5 1 :: .obj D_122 (.deferred (some [])) :: .cells B_72 [.slice A0_1 n0_1 c0_1] 64 :: .sl (some ⟨B_50, 0, none⟩) 1 1 x_55 71 2 :: .cells B_9 [.int .i64 0] 26 :: .cells B_5 [.slice A_163 n_165 c_164] 22 :: .cells B_1 [.int .i64 a1] 3 :: .cells b0 (([.slice A0_0 n0_0 c0_0] : List Value) ++ (([.slice A0_1 n0_1 c0_1] : List Value) ++ (([.int .i64 a0_2] : List Value) ++ (([.bool a0_3] : List Value) ++ ([.slice A_61 n_63 c_62] : List Value))))) 66 :: .sl A0_0 c0_0 n0_0 x0_0 22 1 :: .sl A0_1 c0_1 n0_1 x0_1 69 2 :: .sl A_61 c_62 n_63 x_67 71 2 :: (T ++ R)) := st_169
          refine WL.store_cells (i := 4) (j := 0) st_169 rfl cells26 rfl (Nat.zero_lt_succ _) rfl rfl ?_
          intro w_170 st_171
          replace st_171 : St w w_170 (.sl A_163 c_164 n_165 (iv .u8 r_162) 5 1 :: .obj D_122 (.deferred (some [])) :: .cells B_72 [.slice A0_1 n0_1 c0_1] 64 :: .sl (some ⟨B_50, 0, none⟩) 1 1 x_55 71 2 :: .cells B_9 [.int .i64 0] 26 :: .cells B_5 [.slice A_163 n_165 c_164] 22 :: .cells B_1 [.int .i64 a1] 3 :: .cells b0 (([.slice A0_0 n0_0 c0_0] : List Value) ++ (([.slice A0_1 n0_1 c0_1] : List Value) ++ (([.int .i64 a0_2] : List Value) ++ (([.bool a0_3] : List Value) ++ ([.slice A_61 n_63 c_62] : List Value))))) 66 :: .sl A0_0 c0_0 n0_0 x0_0 22 1 :: .sl A0_1 c0_1 n0_1 x0_1 69 2 :: .sl A_61 c_62 n_63 x_67 71 2 :: (T ++ R)) := st_171
          refine WL.nil ?_
          refine QW.then_n ?_
          refine CW.sub [(4, .pointer (some ⟨B_5, 0, none⟩)), (5, .pointer (some ⟨B_9, 0, none⟩))] ⟨rfl, rfl, trivial⟩ ?_
          refine CW.ret ?_
          obtain ⟨rfl, rfl, rfl, rfl, rfl, rfl, rfl⟩ := H
          exact QW.retMN2 st_171 (i := 1) rfl rfl (fun wz stz => ⟨Res.cell rfl nagg22 stz (i := 5) rfl, Res.cell rfl nagg26 stz (i := 4) rfl, T, A0_0, n0_0, c0_0, x0_0, A0_1, n0_1, c0_1, x0_1, A_61, n_63, c_62, x_67, A_163, n_165, c_164, Pl.refl, hn0_0, hx0_0, hn0_1, hx0_1, hn_66, hx_69, hn_166, rfl, (St.pickT (L := [_, _, _, _, _, _, _, _, _, _, _]) stz [7, 8, 9, 10, 0] (by decide))⟩)
        · intro D_122 w_123 x_81 s_ hgo_ hphi_ st_124
          obtain ⟨q_80, hq_82⟩ : ∃ q_ : Nat, q_ = n0_1 - 1 - x_81.val := ⟨_, rfl⟩
          have hlt_83 : q_80 < l0_1.length := by have h1_ := x_81.isLt; have h2_ : n0_1 = l0_1.length := hn0_1; omega
          try dsimp only at hphi_
          rw [← hq_82] at hphi_
          obtain ⟨r_131, A_132, n_134, c_133, rfl, hn_135, H⟩ := hphi_
          replace st_124 : St w w_123 (.obj D_122 (.deferred (some [])) :: .cells B_72 [.slice A0_1 n0_1 c0_1] 64 :: .sl (some ⟨B_50, 0, none⟩) 1 1 x_55 71 2 :: .cells B_9 [.int .i64 0] 26 :: .cells B_5 [.slice A_132 n_134 c_133] 22 :: .cells B_1 [.int .i64 a1] 3 :: .cells b0 (([.slice A0_0 n0_0 c0_0] : List Value) ++ (([.slice A0_1 n0_1 c0_1] : List Value) ++ (([.int .i64 a0_2] : List Value) ++ (([.bool a0_3] : List Value) ++ ([.slice A_61 n_63 c_62] : List Value))))) 66 :: .sl A0_0 c0_0 n0_0 x0_0 22 1 :: .sl A0_1 c0_1 n0_1 x0_1 69 2 :: .sl A_61 c_62 n_63 x_67 71 2 :: .sl A_132 c_133 n_134 (iv .u8 r_131) 5 1 :: (T ++ R)) := st_124
          replace H := H (fun p_ hp1_ hp2_ => by have h2_ : n0_1 = l0_1.length := hn0_1; have h_ : (fun (q_80 : Nat) => (¬ (((gx l0_1 q_80).1) = a1) ∧ True)) (n0_1 - 1 - (n0_1 - 1 - p_)) := hgo_ ⟨n0_1 - 1 - p_, by omega⟩ (by show n0_1 - 1 - p_ < x_81.val; omega); rw [show n0_1 - 1 - (n0_1 - 1 - p_) = p_ from by omega] at h_; exact h_)
          refine CW.ret ?_
          refine QW.blk_r ?_
          refine QW.then_r ?_
          obtain ⟨rfl, rfl, rfl, rfl, rfl, rfl, rfl⟩ := H
          exact QW.retMN2 st_124 (i := 0) rfl rfl (fun wz stz => ⟨Res.cell rfl nagg22 stz (i := 4) rfl, Res.cell rfl nagg26 stz (i := 3) rfl, T, A0_0, n0_0, c0_0, x0_0, A0_1, n0_1, c0_1, x0_1, A_61, n_63, c_62, x_67, A_132, n_134, c_133, Pl.refl, hn0_0, hx0_0, hn0_1, hx0_1, hn_66, hx_69, hn_135, rfl, (St.pickT (L := [_, _, _, _, _, _, _, _, _, _, _]) stz [6, 7, 8, 9, 10] (by decide))⟩)

/-! ### disk_Disk_Pending: function 13 -/
def disk_Disk_Pending.rel (l0_0 : List R22) (l0_1 : List R69) (a0_2 : Int) (a0_3 : Bool) (l0_4 : List R71) (ls0_0 : List R22) (ls0_1 : List R69) (as0_2 : Int) (as0_3 : Bool) (ls0_4 : List R71) (ar0 : Int) : Prop := ls0_0 = l0_0 ∧ ls0_1 = l0_1 ∧ as0_2 = a0_2 ∧ as0_3 = a0_3 ∧ ls0_4 = l0_4 ∧ ar0 = (l0_1.length : Int)
set_option maxHeartbeats 1000000 in
set_option maxRecDepth 100000 in
theorem disk_Disk_Pending.calls (w w1 : World) (T R : Pool) (l0_0 : List R22) (l0_1 : List R69) (a0_2 : Int) (a0_3 : Bool) (l0_4 : List R71) (b0 : Nat) (A0_0 : Option Addr) (n0_0 : Nat) (c0_0 : Nat) (x0_0 : Cells) (A0_1 : Option Addr) (n0_1 : Nat) (c0_1 : Nat) (x0_1 : Cells) (A0_4 : Option Addr) (n0_4 : Nat) (c0_4 : Nat) (x0_4 : Cells) (st0 : St w w1 (.cells b0 (([.slice A0_0 n0_0 c0_0] : List Value) ++ (([.slice A0_1 n0_1 c0_1] : List Value) ++ (([.int .i64 a0_2] : List Value) ++ (([.bool a0_3] : List Value) ++ ([.slice A0_4 n0_4 c0_4] : List Value))))) 66 :: .sl A0_0 c0_0 n0_0 x0_0 22 1 :: .sl A0_1 c0_1 n0_1 x0_1 69 2 :: .sl A0_4 c0_4 n0_4 x0_4 71 2 :: (T ++ R))) (hn0_0 : n0_0 = l0_0.length) (hx0_0 : HRs T (f22 w) x0_0 l0_0) (hn0_1 : n0_1 = l0_1.length) (hx0_1 : HRs T (f69 w) x0_1 l0_1) (hn0_4 : n0_4 = l0_4.length) (hx0_4 : HRs T (f71 w) x0_4 l0_4) (ls0_0 : List R22) (ls0_1 : List R69) (as0_2 : Int) (as0_3 : Bool) (ls0_4 : List R71) (ar0 : Int) (H : disk_Disk_Pending.rel l0_0 l0_1 a0_2 a0_3 l0_4 ls0_0 ls0_1 as0_2 as0_3 ls0_4 ar0) :
    Calls Try.prog 13 #[.pointer (some ⟨b0, 0, none⟩)] w1 fun e w' => ∃ T' As0_0 ns0_0 cs0_0 xs0_0 As0_1 ns0_1 cs0_1 xs0_1 As0_4 ns0_4 cs0_4 xs0_4, Pl T T' ∧ ns0_0 = ls0_0.length ∧ HRs T' (f22 w) xs0_0 ls0_0 ∧ ns0_1 = ls0_1.length ∧ HRs T' (f69 w) xs0_1 ls0_1 ∧ ns0_4 = ls0_4.length ∧ HRs T' (f71 w) xs0_4 ls0_4 ∧ e = .returned (.int .i64 ar0) ∧ St w w' (.cells b0 (([.slice As0_0 ns0_0 cs0_0] : List Value) ++ (([.slice As0_1 ns0_1 cs0_1] : List Value) ++ (([.int .i64 as0_2] : List Value) ++ (([.bool as0_3] : List Value) ++ ([.slice As0_4 ns0_4 cs0_4] : List Value))))) 66 :: .sl As0_0 cs0_0 ns0_0 xs0_0 22 1 :: .sl As0_1 cs0_1 ns0_1 xs0_1 69 2 :: .sl As0_4 cs0_4 ns0_4 xs0_4 71 2 :: (T' ++ R)) := by
  refine CW.enter Try.func13 rfl (n := 10) rfl [.pointer (some ⟨b0, 0, none⟩)] (Nat.le_of_ble_eq_true rfl) ?_
  refine CW.sub [(0, .pointer (some ⟨b0, 0, none⟩))] ⟨rfl, trivial⟩ ?_
  refine CW.seq ?_
  refine CW.region ?_
  refine WL.val Wanted.none (Runs.assign rfl) ?_
  refine WL.nil ?_
  refine QW.then_n ?_
  refine CW.seq ?_
  refine CW.seq ?_
  refine CW.region ?_
  refine WL.val Wanted.none (Runs.move rfl) ?_
  refine WL.val Wanted.none (Runs.eql_ptr Try.underlying25 rfl rfl rfl) ?_
  refine WL.nil ?_
  refine QW.then_n ?_
  refine CW.cf rfl rfl ?_
  refine CW.skip ?_
  refine QW.then_n ?_
  refine CW.seq ?_
  refine CW.region ?_
  refine WL.val Wanted.none (Runs.move rfl) ?_
  refine WL.val Wanted.none (Runs.nilCheck rfl) ?_
  refine WL.val Wanted.none (Runs.fieldAddr (off := 1) (p := 1) fld66_1 rfl rfl rfl) ?_
  refine WL.val Wanted.none (Runs.load nagg64 rfl (st0.cell (k := 0) rfl (part_one (u := .slice A0_1 n0_1 c0_1) (pre := (([.slice A0_0 n0_0 c0_0] : List Value))) (post := (([.int .i64 a0_2] : List Value) ++ (([.bool a0_3] : List Value) ++ ([.slice A0_4 n0_4 c0_4] : List Value)))) (by first | rfl | simp only [List.append_assoc, List.append_nil, List.nil_append, List.cons_append]) (by first | rfl | simp only [List.length_append, List.length_cons, List.length_nil, iv_length])))) ?_
  refine WL.val Wanted.none (Runs.len_sl Try.underlying64 rfl (by rw [hn0_1])) ?_
  refine WL.val Wanted.none (Runs.assign rfl) ?_
  refine WL.nil ?_
  refine QW.then_n ?_
  refine CW.sub [(2, .int .i64 (l0_1.length : Int))] ⟨rfl, trivial⟩ ?_
  refine CW.ret ?_
  obtain ⟨rfl, rfl, rfl, rfl, rfl, rfl⟩ := H
  exact QW.ret1 rfl rfl ⟨T, A0_0, n0_0, c0_0, x0_0, A0_1, n0_1, c0_1, x0_1, A0_4, n0_4, c0_4, x0_4, Pl.refl, hn0_0, hx0_0, hn0_1, hx0_1, hn0_4, hx0_4, rfl, (St.pickT (L := [_, _, _, _]) st0 [0, 1, 2, 3] (by decide))⟩

/-! ### disk_Disk_Crash: function 14 -/
def disk_Disk_Crash.L1 (l0_1 : List R69) (l0_4 : List R71) (l1 : List Bool) (ls0_0 : List R22) (ls0_1 : List R69) (as0_2 : Int) (as0_3 : Bool) (ls0_4 : List R71) : Nat → (List R22) → Int → Prop
  | 0, _, _ => False
  | kL1 + 1, l_4, x_8 => ((x_8 < (l0_1.length : Int) ∧ ((0 ≤ x_8 ∧ x_8 < (l0_1.length : Int)) ∧ ((x_8 < (l1.length : Int) ∧ ((0 ≤ x_8 ∧ x_8 < (l1.length : Int)) ∧ ((gb l1 ((x_8).toNat) = true ∧ ((0 ≤ ((gx l0_1 ((x_8).toNat)).1) ∧ ((gx l0_1 ((x_8).toNat)).1) < (l_4.length : Int)) ∧ (∃ m_54 : List R22, m_54 = List.set l_4 (((gx l0_1 ((x_8).toNat)).1).toNat) (gx l0_1 ((x_8).toNat)).2 ∧ disk_Disk_Crash.L1 l0_1 l0_4 l1 ls0_0 ls0_1 as0_2 as0_3 ls0_4 kL1 m_54 (IntKind.i64.wrap (x_8 + 1))))) ∨ (¬ (gb l1 ((x_8).toNat) = true) ∧ disk_Disk_Crash.L1 l0_1 l0_4 l1 ls0_0 ls0_1 as0_2 as0_3 ls0_4 kL1 l_4 (IntKind.i64.wrap (x_8 + 1)))))) ∨ (¬ (x_8 < (l1.length : Int)) ∧ disk_Disk_Crash.L1 l0_1 l0_4 l1 ls0_0 ls0_1 as0_2 as0_3 ls0_4 kL1 l_4 (IntKind.i64.wrap (x_8 + 1)))))) ∨ (¬ (x_8 < (l0_1.length : Int)) ∧ ls0_0 = l_4 ∧ ls0_1 = ([] : List R69) ∧ as0_2 = -1 ∧ as0_3 = false ∧ ls0_4 = l0_4))
def disk_Disk_Crash.rel (l0_0 : List R22) (l0_1 : List R69) (a0_2 : Int) (a0_3 : Bool) (l0_4 : List R71) (l1 : List Bool) (ls0_0 : List R22) (ls0_1 : List R69) (as0_2 : Int) (as0_3 : Bool) (ls0_4 : List R71) : Prop := (∃ k_ : Nat, disk_Disk_Crash.L1 l0_1 l0_4 l1 ls0_0 ls0_1 as0_2 as0_3 ls0_4 k_ l0_0 0)
set_option maxHeartbeats 1000000 in
set_option maxRecDepth 100000 in
theorem disk_Disk_Crash.calls (w w1 : World) (T R : Pool) (l0_0 : List R22) (l0_1 : List R69) (a0_2 : Int) (a0_3 : Bool) (l0_4 : List R71) (l1 : List Bool) (b0 : Nat) (A0_0 : Option Addr) (n0_0 : Nat) (c0_0 : Nat) (x0_0 : Cells) (A0_1 : Option Addr) (n0_1 : Nat) (c0_1 : Nat) (x0_1 : Cells) (A0_4 : Option Addr) (n0_4 : Nat) (c0_4 : Nat) (x0_4 : Cells) (A1 : Option Addr) (n1 : Nat) (c1 : Nat) (st0 : St w w1 (.cells b0 (([.slice A0_0 n0_0 c0_0] : List Value) ++ (([.slice A0_1 n0_1 c0_1] : List Value) ++ (([.int .i64 a0_2] : List Value) ++ (([.bool a0_3] : List Value) ++ ([.slice A0_4 n0_4 c0_4] : List Value))))) 66 :: .sl A0_0 c0_0 n0_0 x0_0 22 1 :: .sl A0_1 c0_1 n0_1 x0_1 69 2 :: .sl A0_4 c0_4 n0_4 x0_4 71 2 :: (T ++ R))) (hn0_0 : n0_0 = l0_0.length) (hx0_0 : HRs T (f22 w) x0_0 l0_0) (hn0_1 : n0_1 = l0_1.length) (hx0_1 : HRs T (f69 w) x0_1 l0_1) (hn0_4 : n0_4 = l0_4.length) (hx0_4 : HRs T (f71 w) x0_4 l0_4) (hb1 : HB w (T ++ R) A1 n1 c1 (bv l1) l1.length) (ls0_0 : List R22) (ls0_1 : List R69) (as0_2 : Int) (as0_3 : Bool) (ls0_4 : List R71) (H : disk_Disk_Crash.rel l0_0 l0_1 a0_2 a0_3 l0_4 l1 ls0_0 ls0_1 as0_2 as0_3 ls0_4) :
    Calls Try.prog 14 #[.pointer (some ⟨b0, 0, none⟩), .slice A1 n1 c1] w1 fun e w' => ∃ T' As0_0 ns0_0 cs0_0 xs0_0 As0_1 ns0_1 cs0_1 xs0_1 As0_4 ns0_4 cs0_4 xs0_4, Pl T T' ∧ ns0_0 = ls0_0.length ∧ HRs T' (f22 w) xs0_0 ls0_0 ∧ ns0_1 = ls0_1.length ∧ HRs T' (f69 w) xs0_1 ls0_1 ∧ ns0_4 = ls0_4.length ∧ HRs T' (f71 w) xs0_4 ls0_4 ∧ e = .returned (.tuple #[]) ∧ St w w' (.cells b0 (([.slice As0_0 ns0_0 cs0_0] : List Value) ++ (([.slice As0_1 ns0_1 cs0_1] : List Value) ++ (([.int .i64 as0_2] : List Value) ++ (([.bool as0_3] : List Value) ++ ([.slice As0_4 ns0_4 cs0_4] : List Value))))) 66 :: .sl As0_0 cs0_0 ns0_0 xs0_0 22 1 :: .sl As0_1 cs0_1 ns0_1 xs0_1 69 2 :: .sl As0_4 cs0_4 ns0_4 xs0_4 71 2 :: (T' ++ R)) := by
  refine CW.enter Try.func14 rfl (n := 47) rfl [.pointer (some ⟨b0, 0, none⟩), .slice A1 n1 c1] (Nat.le_of_ble_eq_true rfl) ?_
  refine CW.sub [(0, .pointer (some ⟨b0, 0, none⟩)), (1, .slice A1 n1 c1)] ⟨rfl, rfl, trivial⟩ ?_
  refine CW.seq ?_
  refine CW.seq ?_
  refine CW.region ?_
  refine WL.val Wanted.none (Runs.move rfl) ?_
  refine WL.val Wanted.none (Runs.eql_ptr Try.underlying25 rfl rfl rfl) ?_
  refine WL.nil ?_
  refine QW.then_n ?_
  refine CW.cf rfl rfl ?_
  refine CW.skip ?_
  refine QW.then_n ?_
  refine CW.seq ?_
  refine CW.seq ?_
  refine CW.region ?_
  refine WL.val Wanted.none (Runs.move rfl) ?_
  refine WL.val Wanted.none (Runs.nilCheck rfl) ?_
  refine WL.val Wanted.none (Runs.fieldAddr (off := 1) (p := 1) fld66_1 rfl rfl rfl) ?_
  refine WL.val Wanted.none (Runs.load nagg64 rfl (st0.cell (k := 0) rfl (part_one (u := .slice A0_1 n0_1 c0_1) (pre := (([.slice A0_0 n0_0 c0_0] : List Value))) (post := (([.int .i64 a0_2] : List Value) ++ (([.bool a0_3] : List Value) ++ ([.slice A0_4 n0_4 c0_4] : List Value)))) (by first | rfl | simp only [List.append_assoc, List.append_nil, List.nil_append, List.cons_append]) (by first | rfl | simp only [List.length_append, List.length_cons, List.length_nil, iv_length])))) ?_
  refine WL.val Wanted.none (Runs.len_sl Try.underlying64 rfl (by rw [hn0_1])) ?_
  refine WL.val Wanted.none (Runs.move rfl) ?_
  refine WL.nil ?_
  refine QW.then_n ?_
  refine CW.block ?_
  obtain ⟨k_1, H⟩ := H
  refine CW.sub [(0, .pointer (some ⟨b0, 0, none⟩)), (1, .slice A1 n1 c1), (11, .slice A0_1 n0_1 c0_1), (12, .int .i64 (l0_1.length : Int)), (13, .int .i64 0)] ⟨rfl, rfl, rfl, rfl, rfl, trivial⟩ ?_
  refine CW.loop (fun kL1 l_ w_ => ∃ (T_2 : Pool) (x_6 : Cells) (l_4 : List R22) (x_8 : Int), l_ = [(0, .pointer (some ⟨b0, 0, none⟩)), (1, .slice A1 n1 c1), (11, .slice A0_1 n0_1 c0_1), (12, .int .i64 (l0_1.length : Int)), (13, .int .i64 x_8)] ∧ disk_Disk_Crash.L1 l0_1 l0_4 l1 ls0_0 ls0_1 as0_2 as0_3 ls0_4 kL1 l_4 x_8 ∧ (Pl T T_2) ∧ (n0_0 = l_4.length) ∧ (HRs T_2 (f22 w) x_6 l_4) ∧ St w w_ (.cells b0 (([.slice A0_0 n0_0 c0_0] : List Value) ++ (([.slice A0_1 n0_1 c0_1] : List Value) ++ (([.int .i64 a0_2] : List Value) ++ (([.bool a0_3] : List Value) ++ ([.slice A0_4 n0_4 c0_4] : List Value))))) 66 :: .sl A0_0 c0_0 n0_0 x_6 22 1 :: .sl A0_1 c0_1 n0_1 x0_1 69 2 :: .sl A0_4 c0_4 n0_4 x0_4 71 2 :: (T_2 ++ R))) (k := k_1) ⟨T, x0_0, l0_0, 0, rfl, H, Pl.refl, hn0_0, hx0_0, st0⟩ (fun _ _ h => by obtain ⟨_, _, _, _, _, h, _⟩ := h; exact h.elim) ?_
  rintro kL1 l_11 w_9 ⟨T_2, x_6, l_4, x_8, rfl, H, hs_3, hn_5, hx_7, st_10⟩
  refine CW.seq ?_
  refine CW.region ?_
  refine WL.val Wanted.none (Runs.lss rfl rfl rfl) ?_
  refine WL.nil ?_
  refine QW.then_n ?_
  refine CW.seq ?_
  rcases H with ⟨c_12, H⟩ | ⟨c_12, H⟩
  · have h_13 : (decide (x_8 < (l0_1.length : Int))) = true := (decide_eq_true c_12)
    refine CW.ct rfl h_13 ?_
    refine CW.skip ?_
    refine QW.then_n ?_
    refine CW.seq ?_
    refine CW.block ?_
    refine CW.seq ?_
    refine CW.region ?_
    refine WL.val Wanted.none (Runs.move rfl) ?_
    obtain ⟨⟨p_14, q_15⟩, H⟩ := H
    obtain ⟨a_16, e_17, ms_18, hc_19, hm_20⟩ := el_get (i := (x_8).toNat) (st_10.src_sl (k := 2) rfl) (hx0_1.mono (fun _ h_ => hs_3.1 _ h_)) (fz69 w) (by decide) (by omega)
    obtain ⟨A_21, n_22, c_23, em_25, hb_24⟩ := inv69 hm_20
    replace em_25 : ms_18 = ([.int .i64 ((gx l0_1 ((x_8).toNat)).1)] : List Value) ++ ([.slice A_21 n_22 c_23] : List Value) := em_25
    subst em_25
    refine WL.val Wanted.none (Runs.indexAddr Try.underlying64 cells69 (by decide) rfl e_17 rfl p_14 (by rw [show n0_1 = l0_1.length from hn0_1]; exact q_15) (o := ((x_8).toNat) * 2) (by first | rfl | omega)) ?_
    refine WL.val Wanted.none (Runs.load_srcR row69 rfl (Src.cut (st_10.src_sl (k := 2) rfl) e_17 hc_19) rfl) ?_
    refine WL.alloc st_10 zero69 ?_
    intro B_26 w_27 st_28
    replace st_28 : St w w_27 (.cells B_26 (([.int .i64 0] : List Value) ++ ([.slice none 0 0] : List Value)) 69 :: .cells b0 (([.slice A0_0 n0_0 c0_0] : List Value) ++ (([.slice A0_1 n0_1 c0_1] : List Value) ++ (([.int .i64 a0_2] : List Value) ++ (([.bool a0_3] : List Value) ++ ([.slice A0_4 n0_4 c0_4] : List Value))))) 66 :: .sl A0_0 c0_0 n0_0 x_6 22 1 :: .sl A0_1 c0_1 n0_1 x0_1 69 2 :: .sl A0_4 c0_4 n0_4 x0_4 71 2 :: (T_2 ++ R)) := st_28
    refine WL.val Wanted.none (Runs.assign rfl) ?_
    refine WL.store_mid (i := 0) (pre := (([] : List Value))) (mid := (([.int .i64 0] : List Value) ++ ([.slice none 0 0] : List Value))) (post := (([] : List Value))) (ms := (([.int .i64 ((gx l0_1 ((x_8).toNat)).1)] : List Value) ++ ([.slice A_21 n_22 c_23] : List Value))) st_28 rfl row69 (by first | rfl | simp only [List.append_assoc, List.append_nil, List.nil_append, List.cons_append]) (by first | rfl | simp only [List.length_append, List.length_cons, List.length_nil, iv_length]) rfl rfl (by first | rfl | simp only [List.length_append, List.length_cons, List.length_nil, iv_length]) (by first | rfl | simp only [List.length_append, List.length_cons, List.length_nil, iv_length]) (by intro u hu; simp only [List.mem_append, List.mem_singleton] at hu; rcases hu with hu | hu <;> first | exact one_iv _ _ u hu | (subst hu; rfl)) ?_
    intro w_30 st_31
    replace st_31 : St w w_30 (.cells B_26 (([.int .i64 ((gx l0_1 ((x_8).toNat)).1)] : List Value) ++ ([.slice A_21 n_22 c_23] : List Value)) 69 :: .cells b0 (([.slice A0_0 n0_0 c0_0] : List Value) ++ (([.slice A0_1 n0_1 c0_1] : List Value) ++ (([.int .i64 a0_2] : List Value) ++ (([.bool a0_3] : List Value) ++ ([.slice A0_4 n0_4 c0_4] : List Value))))) 66 :: .sl A0_0 c0_0 n0_0 x_6 22 1 :: .sl A0_1 c0_1 n0_1 x0_1 69 2 :: .sl A0_4 c0_4 n0_4 x0_4 71 2 :: (T_2 ++ R)) := by have e_ : (([.int .i64 ((gx l0_1 ((x_8).toNat)).1)] : List Value) ++ ([.slice A_21 n_22 c_23] : List Value)) = (([] : List Value)) ++ ((([.int .i64 ((gx l0_1 ((x_8).toNat)).1)] : List Value) ++ ([.slice A_21 n_22 c_23] : List Value)) ++ (([] : List Value))) := (by first | rfl | simp only [List.append_assoc, List.append_nil, List.nil_append, List.cons_append]); have h_ : St w w_30 (.cells B_26 ((([] : List Value)) ++ ((([.int .i64 ((gx l0_1 ((x_8).toNat)).1)] : List Value) ++ ([.slice A_21 n_22 c_23] : List Value)) ++ (([] : List Value)))) 69 :: .cells b0 (([.slice A0_0 n0_0 c0_0] : List Value) ++ (([.slice A0_1 n0_1 c0_1] : List Value) ++ (([.int .i64 a0_2] : List Value) ++ (([.bool a0_3] : List Value) ++ ([.slice A0_4 n0_4 c0_4] : List Value))))) 66 :: .sl A0_0 c0_0 n0_0 x_6 22 1 :: .sl A0_1 c0_1 n0_1 x0_1 69 2 :: .sl A0_4 c0_4 n0_4 x0_4 71 2 :: (T_2 ++ R)) := st_31; rw [← e_] at h_; exact h_
    refine WL.nil ?_
    refine QW.then_n ?_
    refine CW.seq ?_
    refine CW.region ?_
    refine WL.val Wanted.none (Runs.move rfl) ?_
    refine WL.val Wanted.none (Runs.move rfl) ?_
    refine WL.val Wanted.none (Runs.len_sl Try.underlying23 rfl (by rw [hb1.1])) ?_
    refine WL.val Wanted.none (Runs.lss rfl rfl rfl) ?_
    refine WL.val Wanted.none (Runs.move rfl) ?_
    rcases H with ⟨c_32, H⟩ | ⟨c_32, H⟩
    · have h_33 : (decide (x_8 < (l1.length : Int))) = true := (decide_eq_true c_32)
      refine WL.on ?_ ?_; exact Wanted.guard (dj := 22) (by rfl) (evb (by rfl) h_33) (by rfl)
      refine WL.val Wanted.none (Runs.move rfl) ?_
      refine WL.on ?_ ?_; exact Wanted.guard (dj := 22) (by rfl) (evb (by rfl) h_33) (by rfl)
      refine WL.val Wanted.none (Runs.move rfl) ?_
      refine WL.on ?_ ?_; exact Wanted.guard (dj := 22) (by rfl) (evb (by rfl) h_33) (by rfl)
      obtain ⟨⟨p_34, q_35⟩, H⟩ := H
      obtain ⟨a_36, e_37⟩ := ((hb1.2.2.at st_31 (mem_TR (A := [_, _, _, _, _]) (fun _ h_ => hs_3.1 _ h_)))).addr_bv ((x_8).toNat) (by omega)
      refine WL.val Wanted.none (Runs.indexAddr Try.underlying23 cells4 (by decide) rfl e_37 rfl p_34 (by rw [hb1.1]; exact q_35) (o := (x_8).toNat) (by first | rfl | omega)) ?_
      refine WL.on ?_ ?_; exact Wanted.guard (dj := 22) (by rfl) (evb (by rfl) h_33) (by rfl)
      refine WL.val Wanted.none (Runs.load nagg4 rfl (((hb1.2.2.at st_31 (mem_TR (A := [_, _, _, _, _]) (fun _ h_ => hs_3.1 _ h_)))).cell_bv e_37 (by omega))) ?_
      refine WL.val Wanted.none (Runs.pick_t (evb rfl h_33) rfl) ?_
      refine WL.nil ?_
      refine QW.then_n ?_
      rcases H with ⟨c_38, H⟩ | ⟨c_38, H⟩
      · have h_39 : (gb l1 ((x_8).toNat)) = true := c_38
        refine CW.ct rfl h_39 ?_
        refine CW.region_qt 9 wide (by kernel_rfl) st_31 ?_
        refine HL.val Wanted.none (fun wq sq => (Runs.move rfl)) ?_
        refine HL.val Wanted.none (fun wq sq => (Runs.nilCheck rfl)) ?_
        refine HL.val Wanted.none (fun wq sq => (Runs.fieldAddr (off := 0) (p := 0) fld66_0 rfl rfl rfl)) ?_
        refine HL.val Wanted.none (fun wq sq => (Runs.load nagg41 rfl (sq.cell (k := 1) rfl (part_one (u := .slice A0_0 n0_0 c0_0) (pre := (([] : List Value))) (post := (([.slice A0_1 n0_1 c0_1] : List Value) ++ (([.int .i64 a0_2] : List Value) ++ (([.bool a0_3] : List Value) ++ ([.slice A0_4 n0_4 c0_4] : List Value))))) (by first | rfl | simp only [List.append_assoc, List.append_nil, List.nil_append, List.cons_append]) (by first | rfl | simp only [List.length_append, List.length_cons, List.length_nil, iv_length]))))) ?_
        refine HL.val Wanted.none (fun wq sq => (Runs.fieldAddr (off := 0) (p := 0) fld69_0 rfl rfl rfl)) ?_
        refine HL.val Wanted.none (fun wq sq => (Runs.load nagg3 rfl (sq.cell (k := 0) rfl (part_one (u := .int .i64 ((gx l0_1 ((x_8).toNat)).1)) (pre := (([] : List Value))) (post := (([.slice A_21 n_22 c_23] : List Value))) (by first | rfl | simp only [List.append_assoc, List.append_nil, List.nil_append, List.cons_append]) (by first | rfl | simp only [List.length_append, List.length_cons, List.length_nil, iv_length]))))) ?_
        refine HL.val Wanted.none (fun wq sq => (Runs.fieldAddr (off := 1) (p := 1) fld69_1 rfl rfl rfl)) ?_
        refine HL.val Wanted.none (fun wq sq => (Runs.load nagg22 rfl (sq.cell (k := 0) rfl (part_one (u := .slice A_21 n_22 c_23) (pre := (([.int .i64 ((gx l0_1 ((x_8).toNat)).1)] : List Value))) (post := (([] : List Value))) (by first | rfl | simp only [List.append_assoc, List.append_nil, List.nil_append, List.cons_append]) (by first | rfl | simp only [List.length_append, List.length_cons, List.length_nil, iv_length]))))) ?_
        obtain ⟨⟨p_40, q_41⟩, H⟩ := H
        obtain ⟨a_42, e_43, ms_44, hc_45, hm_46⟩ := el_get (i := ((gx l0_1 ((x_8).toNat)).1).toNat) (st_31.src_sl (k := 2) rfl) hx_7 (fz22 w) (by decide) (by omega)
        obtain ⟨A_47, n_48, c_49, em_51, hb_50⟩ := inv22 hm_46
        replace em_51 : ms_44 = ([.slice A_47 n_48 c_49] : List Value) := em_51
        subst em_51
        refine HL.val Wanted.none (fun wq sq => (Runs.indexAddr Try.underlying41 cells22 (by decide) rfl e_43 rfl p_40 (by rw [show n0_0 = l_4.length from hn_5]; exact q_41) (o := (((gx l0_1 ((x_8).toNat)).1).toNat) * 1) (by first | rfl | omega))) ?_
        refine HL.nil (fun w_52 st_53 => ?_)
        obtain ⟨m_54, e_55, H⟩ := H
        have hl_62 := (hx_7).length (fz22 w)
        refine WL.storeF (i := 2) (o := (((gx l0_1 ((x_8).toNat)).1).toNat) * 1) (f := 0) st_53 rfl e_43 cells22 rfl rfl (by omega) rfl ?_
        intro w_56 st_57
        obtain ⟨x_59, e_60⟩ : ∃ x_ : Cells, x_ = List.set x_6 ((((gx l0_1 ((x_8).toNat)).1).toNat) * 1 + 0) (.slice A_21 n_22 c_23) := ⟨_, rfl⟩
        have hx_61 : HRs T_2 (f22 w) x_59 m_54 := by rw [e_60, e_55]; exact HRs.setF (j := 0) (u := .slice A_21 n_22 c_23) hx_7 (fz22 w) (by omega) (by decide) hc_45 (.cons ⟨_, _, _, rfl, hb_24⟩ .nil)
        have hn_58 : n0_0 = m_54.length := by rw [e_55, List.length_set]; exact hn_5
        replace st_57 : St w w_56 (.cells B_26 (([.int .i64 ((gx l0_1 ((x_8).toNat)).1)] : List Value) ++ ([.slice A_21 n_22 c_23] : List Value)) 69 :: .cells b0 (([.slice A0_0 n0_0 c0_0] : List Value) ++ (([.slice A0_1 n0_1 c0_1] : List Value) ++ (([.int .i64 a0_2] : List Value) ++ (([.bool a0_3] : List Value) ++ ([.slice A0_4 n0_4 c0_4] : List Value))))) 66 :: .sl A0_0 c0_0 n0_0 x_59 22 1 :: .sl A0_1 c0_1 n0_1 x0_1 69 2 :: .sl A0_4 c0_4 n0_4 x0_4 71 2 :: (T_2 ++ R)) := by rw [e_60]; exact st_57
        refine WL.nil ?_
        refine QW.blk_n ?_
        refine QW.then_n ?_
        refine CW.region ?_
        refine WL.val Wanted.none (Runs.add rfl rfl rfl) ?_
        refine WL.val Wanted.none (Runs.move rfl) ?_
        refine WL.nil ?_
        have st_57' := (St.pickT (L := [_, _, _, _, _]) st_57 [1, 2, 3, 4] (by decide))
        exact QW.at [(0, .pointer (some ⟨b0, 0, none⟩)), (1, .slice A1 n1 c1), (11, .slice A0_1 n0_1 c0_1), (12, .int .i64 (l0_1.length : Int)), (13, .int .i64 (IntKind.i64.wrap (x_8 + 1)))] ⟨rfl, rfl, rfl, rfl, rfl, trivial⟩ ⟨T_2, x_59, m_54, IntKind.i64.wrap (x_8 + 1), rfl, H, hs_3, hn_58, hx_61, st_57'⟩
      · have h_39 : (gb l1 ((x_8).toNat)) = false := (Bool.eq_false_iff.mpr c_38)
        refine CW.cf rfl h_39 ?_
        refine CW.skip ?_
        refine QW.blk_n ?_
        refine QW.then_n ?_
        refine CW.region ?_
        refine WL.val Wanted.none (Runs.add rfl rfl rfl) ?_
        refine WL.val Wanted.none (Runs.move rfl) ?_
        refine WL.nil ?_
        have st_31' := (St.pickT (L := [_, _, _, _, _]) st_31 [1, 2, 3, 4] (by decide))
        exact QW.at [(0, .pointer (some ⟨b0, 0, none⟩)), (1, .slice A1 n1 c1), (11, .slice A0_1 n0_1 c0_1), (12, .int .i64 (l0_1.length : Int)), (13, .int .i64 (IntKind.i64.wrap (x_8 + 1)))] ⟨rfl, rfl, rfl, rfl, rfl, trivial⟩ ⟨T_2, x_6, l_4, IntKind.i64.wrap (x_8 + 1), rfl, H, hs_3, hn_5, hx_7, st_31'⟩
    · have h_33 : (decide (x_8 < (l1.length : Int))) = false := (decide_eq_false c_32)
      refine WL.off ?_ ?_; exact Wanted.guard (dj := 22) (by rfl) (evb (by rfl) h_33) (by rfl)
      refine WL.off ?_ ?_; exact Wanted.guard (dj := 22) (by rfl) (evb (by rfl) h_33) (by rfl)
      refine WL.off ?_ ?_; exact Wanted.guard (dj := 22) (by rfl) (evb (by rfl) h_33) (by rfl)
      refine WL.off ?_ ?_; exact Wanted.guard (dj := 22) (by rfl) (evb (by rfl) h_33) (by rfl)
      refine WL.val Wanted.none (Runs.pick_f (evb rfl h_33) rfl) ?_
      refine WL.nil ?_
      refine QW.then_n ?_
      refine CW.cf rfl rfl ?_
      refine CW.skip ?_
      refine QW.blk_n ?_
      refine QW.then_n ?_
      refine CW.region ?_
      refine WL.val Wanted.none (Runs.add rfl rfl rfl) ?_
      refine WL.val Wanted.none (Runs.move rfl) ?_
      refine WL.nil ?_
      have st_31' := (St.pickT (L := [_, _, _, _, _]) st_31 [1, 2, 3, 4] (by decide))
      exact QW.at [(0, .pointer (some ⟨b0, 0, none⟩)), (1, .slice A1 n1 c1), (11, .slice A0_1 n0_1 c0_1), (12, .int .i64 (l0_1.length : Int)), (13, .int .i64 (IntKind.i64.wrap (x_8 + 1)))] ⟨rfl, rfl, rfl, rfl, rfl, trivial⟩ ⟨T_2, x_6, l_4, IntKind.i64.wrap (x_8 + 1), rfl, H, hs_3, hn_5, hx_7, st_31'⟩
  · have h_13 : (decide (x_8 < (l0_1.length : Int))) = false := (decide_eq_false c_12)
    refine CW.cf rfl h_13 ?_
    refine CW.exit ?_
    refine QW.then_x ?_
    refine QW.then_x ?_
    refine QW.blk_x ?_
    refine QW.then_n ?_
    refine CW.region ?_
    refine WL.val Wanted.none (Runs.move rfl) ?_
    refine WL.val Wanted.none (Runs.move rfl) ?_
    refine WL.val Wanted.none (Runs.move rfl) ?_
    refine WL.val Wanted.none (Runs.nilCheck rfl) ?_
    refine WL.val Wanted.none (Runs.fieldAddr (off := 1) (p := 1) fld66_1 rfl rfl rfl) ?_
    refine WL.store_one (i := 0) (u0 := .slice A0_1 n0_1 c0_1) (pre := (([.slice A0_0 n0_0 c0_0] : List Value))) (post := (([.int .i64 a0_2] : List Value) ++ (([.bool a0_3] : List Value) ++ ([.slice A0_4 n0_4 c0_4] : List Value)))) st_10 rfl cells64 (by first | rfl | simp only [List.append_assoc, List.append_nil, List.nil_append, List.cons_append]) (by first | rfl | simp only [List.length_append, List.length_cons, List.length_nil, iv_length]) rfl rfl rfl ?_
    intro w_63 st_64
    replace st_64 : St w w_63 (.cells b0 (([.slice A0_0 n0_0 c0_0] : List Value) ++ (([.slice none 0 0] : List Value) ++ (([.int .i64 a0_2] : List Value) ++ (([.bool a0_3] : List Value) ++ ([.slice A0_4 n0_4 c0_4] : List Value))))) 66 :: .sl A0_0 c0_0 n0_0 x_6 22 1 :: .sl A0_1 c0_1 n0_1 x0_1 69 2 :: .sl A0_4 c0_4 n0_4 x0_4 71 2 :: (T_2 ++ R)) := by have e_ : (([.slice A0_0 n0_0 c0_0] : List Value) ++ (([.slice none 0 0] : List Value) ++ (([.int .i64 a0_2] : List Value) ++ (([.bool a0_3] : List Value) ++ ([.slice A0_4 n0_4 c0_4] : List Value))))) = (([.slice A0_0 n0_0 c0_0] : List Value)) ++ ((([.slice none 0 0] : List Value)) ++ (([.int .i64 a0_2] : List Value) ++ (([.bool a0_3] : List Value) ++ ([.slice A0_4 n0_4 c0_4] : List Value)))) := (by first | rfl | simp only [List.append_assoc, List.append_nil, List.nil_append, List.cons_append]); have h_ : St w w_63 (.cells b0 ((([.slice A0_0 n0_0 c0_0] : List Value)) ++ ((([.slice none 0 0] : List Value)) ++ (([.int .i64 a0_2] : List Value) ++ (([.bool a0_3] : List Value) ++ ([.slice A0_4 n0_4 c0_4] : List Value))))) 66 :: .sl A0_0 c0_0 n0_0 x_6 22 1 :: .sl A0_1 c0_1 n0_1 x0_1 69 2 :: .sl A0_4 c0_4 n0_4 x0_4 71 2 :: (T_2 ++ R)) := st_64; rw [← e_] at h_; exact h_
    refine WL.val Wanted.none (Runs.nilCheck rfl) ?_
    refine WL.val Wanted.none (Runs.fieldAddr (off := 3) (p := 3) fld66_3 rfl rfl rfl) ?_
    refine WL.store_one (i := 0) (u0 := .bool a0_3) (pre := (([.slice A0_0 n0_0 c0_0] : List Value) ++ (([.slice none 0 0] : List Value) ++ ([.int .i64 a0_2] : List Value)))) (post := (([.slice A0_4 n0_4 c0_4] : List Value))) st_64 rfl cells4 (by first | rfl | simp only [List.append_assoc, List.append_nil, List.nil_append, List.cons_append]) (by first | rfl | simp only [List.length_append, List.length_cons, List.length_nil, iv_length]) rfl rfl rfl ?_
    intro w_65 st_66
    replace st_66 : St w w_65 (.cells b0 (([.slice A0_0 n0_0 c0_0] : List Value) ++ (([.slice none 0 0] : List Value) ++ (([.int .i64 a0_2] : List Value) ++ (([.bool false] : List Value) ++ ([.slice A0_4 n0_4 c0_4] : List Value))))) 66 :: .sl A0_0 c0_0 n0_0 x_6 22 1 :: .sl A0_1 c0_1 n0_1 x0_1 69 2 :: .sl A0_4 c0_4 n0_4 x0_4 71 2 :: (T_2 ++ R)) := by have e_ : (([.slice A0_0 n0_0 c0_0] : List Value) ++ (([.slice none 0 0] : List Value) ++ (([.int .i64 a0_2] : List Value) ++ (([.bool false] : List Value) ++ ([.slice A0_4 n0_4 c0_4] : List Value))))) = (([.slice A0_0 n0_0 c0_0] : List Value) ++ (([.slice none 0 0] : List Value) ++ ([.int .i64 a0_2] : List Value))) ++ ((([.bool false] : List Value)) ++ (([.slice A0_4 n0_4 c0_4] : List Value))) := (by first | rfl | simp only [List.append_assoc, List.append_nil, List.nil_append, List.cons_append]); have h_ : St w w_65 (.cells b0 ((([.slice A0_0 n0_0 c0_0] : List Value) ++ (([.slice none 0 0] : List Value) ++ ([.int .i64 a0_2] : List Value))) ++ ((([.bool false] : List Value)) ++ (([.slice A0_4 n0_4 c0_4] : List Value)))) 66 :: .sl A0_0 c0_0 n0_0 x_6 22 1 :: .sl A0_1 c0_1 n0_1 x0_1 69 2 :: .sl A0_4 c0_4 n0_4 x0_4 71 2 :: (T_2 ++ R)) := st_66; rw [← e_] at h_; exact h_
    refine WL.val Wanted.none (Runs.nilCheck rfl) ?_
    refine WL.val Wanted.none (Runs.fieldAddr (off := 2) (p := 2) fld66_2 rfl rfl rfl) ?_
    refine WL.store_one (i := 0) (u0 := .int .i64 a0_2) (pre := (([.slice A0_0 n0_0 c0_0] : List Value) ++ ([.slice none 0 0] : List Value))) (post := (([.bool false] : List Value) ++ ([.slice A0_4 n0_4 c0_4] : List Value))) st_66 rfl cells3 (by first | rfl | simp only [List.append_assoc, List.append_nil, List.nil_append, List.cons_append]) (by first | rfl | simp only [List.length_append, List.length_cons, List.length_nil, iv_length]) rfl rfl rfl ?_
    intro w_67 st_68
    replace st_68 : St w w_67 (.cells b0 (([.slice A0_0 n0_0 c0_0] : List Value) ++ (([.slice none 0 0] : List Value) ++ (([.int .i64 (-1)] : List Value) ++ (([.bool false] : List Value) ++ ([.slice A0_4 n0_4 c0_4] : List Value))))) 66 :: .sl A0_0 c0_0 n0_0 x_6 22 1 :: .sl A0_1 c0_1 n0_1 x0_1 69 2 :: .sl A0_4 c0_4 n0_4 x0_4 71 2 :: (T_2 ++ R)) := by have e_ : (([.slice A0_0 n0_0 c0_0] : List Value) ++ (([.slice none 0 0] : List Value) ++ (([.int .i64 (-1)] : List Value) ++ (([.bool false] : List Value) ++ ([.slice A0_4 n0_4 c0_4] : List Value))))) = (([.slice A0_0 n0_0 c0_0] : List Value) ++ ([.slice none 0 0] : List Value)) ++ ((([.int .i64 (-1)] : List Value)) ++ (([.bool false] : List Value) ++ ([.slice A0_4 n0_4 c0_4] : List Value))) := (by first | rfl | simp only [List.append_assoc, List.append_nil, List.nil_append, List.cons_append]); have h_ : St w w_67 (.cells b0 ((([.slice A0_0 n0_0 c0_0] : List Value) ++ ([.slice none 0 0] : List Value)) ++ ((([.int .i64 (-1)] : List Value)) ++ (([.bool false] : List Value) ++ ([.slice A0_4 n0_4 c0_4] : List Value)))) 66 :: .sl A0_0 c0_0 n0_0 x_6 22 1 :: .sl A0_1 c0_1 n0_1 x0_1 69 2 :: .sl A0_4 c0_4 n0_4 x0_4 71 2 :: (T_2 ++ R)) := st_68; rw [← e_] at h_; exact h_
    refine WL.nil ?_
    have st_70 := st_68.nil_sl 69 2
    have st_70 : St w w_67 (.sl none 0 0 ([] : Cells) 69 2 :: .cells b0 (([.slice A0_0 n0_0 c0_0] : List Value) ++ (([.slice none 0 0] : List Value) ++ (([.int .i64 (-1)] : List Value) ++ (([.bool false] : List Value) ++ ([.slice A0_4 n0_4 c0_4] : List Value))))) 66 :: .sl A0_0 c0_0 n0_0 x_6 22 1 :: .sl A0_1 c0_1 n0_1 x0_1 69 2 :: .sl A0_4 c0_4 n0_4 x0_4 71 2 :: (T_2 ++ R)) := st_70
    obtain ⟨rfl, rfl, rfl, rfl, rfl⟩ := H
    exact QW.end0 rfl ⟨T_2, A0_0, n0_0, c0_0, x_6, none, 0, 0, ([] : Cells), A0_4, n0_4, c0_4, x0_4, hs_3, hn_5, hx_7, rfl, (HRs.nil : HRs T_2 (f69 w) [] []), hn0_4, (hx0_4.mono (fun _ h_ => hs_3.1 _ h_)), rfl, (St.pickT (L := [_, _, _, _, _]) st_70 [1, 2, 0, 4] (by decide))⟩

/-! ### disk_Disk_Size: function 26 -/
def disk_Disk_Size.rel (l0_0 : List R22) (l0_1 : List R69) (a0_2 : Int) (a0_3 : Bool) (l0_4 : List R71) (ls0_0 : List R22) (ls0_1 : List R69) (as0_2 : Int) (as0_3 : Bool) (ls0_4 : List R71) (ar0 : Int) : Prop := ls0_0 = l0_0 ∧ ls0_1 = l0_1 ∧ as0_2 = a0_2 ∧ as0_3 = a0_3 ∧ ls0_4 = l0_4 ∧ ar0 = (l0_0.length : Int)
set_option maxHeartbeats 1000000 in
set_option maxRecDepth 100000 in
theorem disk_Disk_Size.calls (w w1 : World) (T R : Pool) (l0_0 : List R22) (l0_1 : List R69) (a0_2 : Int) (a0_3 : Bool) (l0_4 : List R71) (b0 : Nat) (A0_0 : Option Addr) (n0_0 : Nat) (c0_0 : Nat) (x0_0 : Cells) (A0_1 : Option Addr) (n0_1 : Nat) (c0_1 : Nat) (x0_1 : Cells) (A0_4 : Option Addr) (n0_4 : Nat) (c0_4 : Nat) (x0_4 : Cells) (st0 : St w w1 (.cells b0 (([.slice A0_0 n0_0 c0_0] : List Value) ++ (([.slice A0_1 n0_1 c0_1] : List Value) ++ (([.int .i64 a0_2] : List Value) ++ (([.bool a0_3] : List Value) ++ ([.slice A0_4 n0_4 c0_4] : List Value))))) 66 :: .sl A0_0 c0_0 n0_0 x0_0 22 1 :: .sl A0_1 c0_1 n0_1 x0_1 69 2 :: .sl A0_4 c0_4 n0_4 x0_4 71 2 :: (T ++ R))) (hn0_0 : n0_0 = l0_0.length) (hx0_0 : HRs T (f22 w) x0_0 l0_0) (hn0_1 : n0_1 = l0_1.length) (hx0_1 : HRs T (f69 w) x0_1 l0_1) (hn0_4 : n0_4 = l0_4.length) (hx0_4 : HRs T (f71 w) x0_4 l0_4) (ls0_0 : List R22) (ls0_1 : List R69) (as0_2 : Int) (as0_3 : Bool) (ls0_4 : List R71) (ar0 : Int) (H : disk_Disk_Size.rel l0_0 l0_1 a0_2 a0_3 l0_4 ls0_0 ls0_1 as0_2 as0_3 ls0_4 ar0) :
    Calls Try.prog 26 #[.pointer (some ⟨b0, 0, none⟩)] w1 fun e w' => ∃ T' As0_0 ns0_0 cs0_0 xs0_0 As0_1 ns0_1 cs0_1 xs0_1 As0_4 ns0_4 cs0_4 xs0_4, Pl T T' ∧ ns0_0 = ls0_0.length ∧ HRs T' (f22 w) xs0_0 ls0_0 ∧ ns0_1 = ls0_1.length ∧ HRs T' (f69 w) xs0_1 ls0_1 ∧ ns0_4 = ls0_4.length ∧ HRs T' (f71 w) xs0_4 ls0_4 ∧ e = .returned (.int .i64 ar0) ∧ St w w' (.cells b0 (([.slice As0_0 ns0_0 cs0_0] : List Value) ++ (([.slice As0_1 ns0_1 cs0_1] : List Value) ++ (([.int .i64 as0_2] : List Value) ++ (([.bool as0_3] : List Value) ++ ([.slice As0_4 ns0_4 cs0_4] : List Value))))) 66 :: .sl As0_0 cs0_0 ns0_0 xs0_0 22 1 :: .sl As0_1 cs0_1 ns0_1 xs0_1 69 2 :: .sl As0_4 cs0_4 ns0_4 xs0_4 71 2 :: (T' ++ R)) := by
  refine CW.enter Try.func26 rfl (n := 10) rfl [.pointer (some ⟨b0, 0, none⟩)] (Nat.le_of_ble_eq_true rfl) ?_
  refine CW.sub [(0, .pointer (some ⟨b0, 0, none⟩))] ⟨rfl, trivial⟩ ?_
  refine CW.seq ?_
  refine CW.region ?_
  refine WL.val Wanted.none (Runs.assign rfl) ?_
  refine WL.nil ?_
  refine QW.then_n ?_
  refine CW.seq ?_
  refine CW.seq ?_
  refine CW.region ?_
  refine WL.val Wanted.none (Runs.move rfl) ?_
  refine WL.val Wanted.none (Runs.eql_ptr Try.underlying25 rfl rfl rfl) ?_
  refine WL.nil ?_
  refine QW.then_n ?_
  refine CW.cf rfl rfl ?_
  refine CW.skip ?_
  refine QW.then_n ?_
  refine CW.seq ?_
  refine CW.region ?_
  refine WL.val Wanted.none (Runs.move rfl) ?_
  refine WL.val Wanted.none (Runs.nilCheck rfl) ?_
  refine WL.val Wanted.none (Runs.fieldAddr (off := 0) (p := 0) fld66_0 rfl rfl rfl) ?_
  refine WL.val Wanted.none (Runs.load nagg41 rfl (st0.cell (k := 0) rfl (part_one (u := .slice A0_0 n0_0 c0_0) (pre := (([] : List Value))) (post := (([.slice A0_1 n0_1 c0_1] : List Value) ++ (([.int .i64 a0_2] : List Value) ++ (([.bool a0_3] : List Value) ++ ([.slice A0_4 n0_4 c0_4] : List Value))))) (by first | rfl | simp only [List.append_assoc, List.append_nil, List.nil_append, List.cons_append]) (by first | rfl | simp only [List.length_append, List.length_cons, List.length_nil, iv_length])))) ?_
  refine WL.val Wanted.none (Runs.len_sl Try.underlying41 rfl (by rw [hn0_0])) ?_
  refine WL.val Wanted.none (Runs.assign rfl) ?_
  refine WL.nil ?_
  refine QW.then_n ?_
  refine CW.sub [(2, .int .i64 (l0_0.length : Int))] ⟨rfl, trivial⟩ ?_
  refine CW.ret ?_
  obtain ⟨rfl, rfl, rfl, rfl, rfl, rfl⟩ := H
  exact QW.ret1 rfl rfl ⟨T, A0_0, n0_0, c0_0, x0_0, A0_1, n0_1, c0_1, x0_1, A0_4, n0_4, c0_4, x0_4, Pl.refl, hn0_0, hx0_0, hn0_1, hx0_1, hn0_4, hx0_4, rfl, (St.pickT (L := [_, _, _, _]) st0 [0, 1, 2, 3] (by decide))⟩

/-! ### slices_Clone_s_disk_Op_disk_Op: function 42 -/
def slices_Clone_s_disk_Op_disk_Op.rel (l0 : List R71) (lr0 : List R71) : Prop := (l0 = [] → lr0 = ([] : List R71)) ∧ (∃ m_10 : List R71, m_10 = ([] : List R71) ++ l0 ∧ (m_10.length ≤ 1099511627776 ∧ lr0 = m_10))
set_option maxHeartbeats 1000000 in
set_option maxRecDepth 100000 in
theorem slices_Clone_s_disk_Op_disk_Op.calls (w w1 : World) (T R : Pool) (l0 : List R71) (A0 : Option Addr) (n0 : Nat) (c0 : Nat) (st0 : St w w1 ((T ++ R))) (hb0 : HS w (T ++ R) T A0 n0 c0 (f71 w) l0) (lr0 : List R71) (H : slices_Clone_s_disk_Op_disk_Op.rel l0 lr0) :
    Calls Try.prog 42 #[.slice A0 n0 c0] w1 fun e w' => ∃ T' Ar0 nr0 cr0 xr0, Pl T T' ∧ nr0 = lr0.length ∧ HRs T' (f71 w) xr0 lr0 ∧ e = .returned (.slice Ar0 nr0 cr0) ∧ St w w' (.sl Ar0 cr0 nr0 xr0 71 2 :: (T' ++ R)) := by
  rcases A0 with _ | A_
  · replace H := H.1 (hb0.nil_of (fz71 w) (by decide) st0 (mem_TR (A := []) (fun _ h_ => h_)))
    refine CW.enter Try.func42 rfl (n := 8) rfl [.slice none n0 c0] (Nat.le_of_ble_eq_true rfl) ?_
    refine CW.sub [(0, .slice none n0 c0)] ⟨rfl, trivial⟩ ?_
    refine CW.seq ?_
    refine CW.region ?_
    refine WL.val Wanted.none (Runs.assign rfl) ?_
    refine WL.nil ?_
    refine QW.then_n ?_
    refine CW.seq ?_
    refine CW.seq ?_
    refine CW.region ?_
    refine WL.val Wanted.none (Runs.move rfl) ?_
    refine WL.val Wanted.none (Runs.eql_nil Try.underlying61 rfl rfl rfl) ?_
    refine WL.nil ?_
    refine QW.then_n ?_
    refine CW.ct rfl rfl ?_
    refine CW.seq ?_
    refine CW.region ?_
    refine WL.val Wanted.none (Runs.assign rfl) ?_
    refine WL.nil ?_
    refine QW.then_n ?_
    refine CW.ret ?_
    refine QW.then_r ?_
    have st_2 := st0.nil_sl 71 2
    have st_2 : St w w1 (.sl none 0 0 ([] : Cells) 71 2 :: (T ++ R)) := st_2
    obtain rfl := H
    exact QW.ret1 rfl rfl ⟨T, none, 0, 0, ([] : Cells), Pl.refl, rfl, (HRs.nil : HRs T (f71 w) [] []), rfl, (St.pickT (L := [_]) st_2 [0] (by decide))⟩
  · replace H := H.2
    refine CW.enter Try.func42 rfl (n := 8) rfl [.slice (some A_) n0 c0] (Nat.le_of_ble_eq_true rfl) ?_
    refine CW.sub [(0, .slice (some A_) n0 c0)] ⟨rfl, trivial⟩ ?_
    refine CW.seq ?_
    refine CW.region ?_
    refine WL.val Wanted.none (Runs.assign rfl) ?_
    refine WL.nil ?_
    refine QW.then_n ?_
    refine CW.seq ?_
    refine CW.seq ?_
    refine CW.region ?_
    refine WL.val Wanted.none (Runs.move rfl) ?_
    refine WL.val Wanted.none (Runs.eql_nil Try.underlying61 rfl rfl rfl) ?_
    refine WL.nil ?_
    refine QW.then_n ?_
    refine CW.cf rfl rfl ?_
    refine CW.skip ?_
    refine QW.then_n ?_
    refine CW.seq ?_
    refine CW.region ?_
    refine WL.buildSlS0 st0 Try.underlying61 elemS71 ?_
    intro B_3 w_4 st_5
    replace st_5 : St w w_4 (.sl (some ⟨B_3, 0, none⟩) 0 0 ([] : Cells) 71 2 :: (T ++ R)) := st_5
    refine WL.val Wanted.none (Runs.move rfl) ?_
    obtain ⟨x_7, hs_8, hr_9⟩ := hb0.2.2
    obtain ⟨m_10, e_11, H⟩ := H
    obtain ⟨z_12, H⟩ := H
    obtain ⟨n_15, hn_18⟩ : ∃ n_ : Nat, n_ = m_10.length := ⟨_, rfl⟩
    refine WL.appendR (i := 0) (N := n_15) (news := x_7) Wanted.none st_5 rfl Try.underlying61 elemS71 rfl rfl ((hs_8.at st_5 (mem_TR (A := [_]) (fun _ h_ => h_)))) (by have h1_ := (hr_9).length (fz71 w); have h2_ : n0 = l0.length := hb0.1; rw [h1_, h2_]) (HLs.one hr_9) (by decide) (by have h1_ : 0 = ([] : List R71).length := rfl; have h2_ : n0 = l0.length := hb0.1; rw [hn_18, e_11, List.length_append]; omega) (by rw [hn_18]; exact z_12) ?_
    intro A_13 c_14 w_16 st_17
    obtain ⟨x_19, e_20⟩ : ∃ x_ : Cells, x_ = ([] : Cells) ++ x_7 := ⟨_, rfl⟩
    have hx_21 : HRs T (f71 w) x_19 m_10 := by rw [e_20, e_11]; exact HRs.append (HRs.nil : HRs T (f71 w) [] []) hr_9
    replace st_17 : St w w_16 (.sl A_13 c_14 n_15 x_19 71 2 :: (T ++ R)) := by rw [e_20]; exact st_17
    refine WL.val Wanted.none (Runs.assign rfl) ?_
    refine WL.nil ?_
    refine QW.then_n ?_
    refine CW.sub [(2, .slice A_13 n_15 c_14)] ⟨rfl, trivial⟩ ?_
    refine CW.ret ?_
    obtain rfl := H
    exact QW.ret1 rfl rfl ⟨T, A_13, n_15, c_14, x_19, Pl.refl, hn_18, hx_21, rfl, (St.pickT (L := [_]) st_17 [0] (by decide))⟩

/-! ### disk_Disk_Ops: function 27 -/
def disk_Disk_Ops.rel (l0_0 : List R22) (l0_1 : List R69) (a0_2 : Int) (a0_3 : Bool) (l0_4 : List R71) (ls0_0 : List R22) (ls0_1 : List R69) (as0_2 : Int) (as0_3 : Bool) (ls0_4 : List R71) (lr0 : List R71) : Prop := (∃ (l_9 : List R71), slices_Clone_s_disk_Op_disk_Op.rel l0_4 l_9 ∧ ls0_0 = l0_0 ∧ ls0_1 = l0_1 ∧ as0_2 = a0_2 ∧ as0_3 = a0_3 ∧ ls0_4 = l0_4 ∧ lr0 = l_9)
set_option maxHeartbeats 1000000 in
set_option maxRecDepth 100000 in
theorem disk_Disk_Ops.calls (w w1 : World) (T R : Pool) (l0_0 : List R22) (l0_1 : List R69) (a0_2 : Int) (a0_3 : Bool) (l0_4 : List R71) (b0 : Nat) (A0_0 : Option Addr) (n0_0 : Nat) (c0_0 : Nat) (x0_0 : Cells) (A0_1 : Option Addr) (n0_1 : Nat) (c0_1 : Nat) (x0_1 : Cells) (A0_4 : Option Addr) (n0_4 : Nat) (c0_4 : Nat) (x0_4 : Cells) (st0 : St w w1 (.cells b0 (([.slice A0_0 n0_0 c0_0] : List Value) ++ (([.slice A0_1 n0_1 c0_1] : List Value) ++ (([.int .i64 a0_2] : List Value) ++ (([.bool a0_3] : List Value) ++ ([.slice A0_4 n0_4 c0_4] : List Value))))) 66 :: .sl A0_0 c0_0 n0_0 x0_0 22 1 :: .sl A0_1 c0_1 n0_1 x0_1 69 2 :: .sl A0_4 c0_4 n0_4 x0_4 71 2 :: (T ++ R))) (hn0_0 : n0_0 = l0_0.length) (hx0_0 : HRs T (f22 w) x0_0 l0_0) (hn0_1 : n0_1 = l0_1.length) (hx0_1 : HRs T (f69 w) x0_1 l0_1) (hn0_4 : n0_4 = l0_4.length) (hx0_4 : HRs T (f71 w) x0_4 l0_4) (ls0_0 : List R22) (ls0_1 : List R69) (as0_2 : Int) (as0_3 : Bool) (ls0_4 : List R71) (lr0 : List R71) (H : disk_Disk_Ops.rel l0_0 l0_1 a0_2 a0_3 l0_4 ls0_0 ls0_1 as0_2 as0_3 ls0_4 lr0) :
    Calls Try.prog 27 #[.pointer (some ⟨b0, 0, none⟩)] w1 fun e w' => ∃ T' As0_0 ns0_0 cs0_0 xs0_0 As0_1 ns0_1 cs0_1 xs0_1 As0_4 ns0_4 cs0_4 xs0_4 Ar0 nr0 cr0 xr0, Pl T T' ∧ ns0_0 = ls0_0.length ∧ HRs T' (f22 w) xs0_0 ls0_0 ∧ ns0_1 = ls0_1.length ∧ HRs T' (f69 w) xs0_1 ls0_1 ∧ ns0_4 = ls0_4.length ∧ HRs T' (f71 w) xs0_4 ls0_4 ∧ nr0 = lr0.length ∧ HRs T' (f71 w) xr0 lr0 ∧ e = .returned (.slice Ar0 nr0 cr0) ∧ St w w' (.cells b0 (([.slice As0_0 ns0_0 cs0_0] : List Value) ++ (([.slice As0_1 ns0_1 cs0_1] : List Value) ++ (([.int .i64 as0_2] : List Value) ++ (([.bool as0_3] : List Value) ++ ([.slice As0_4 ns0_4 cs0_4] : List Value))))) 66 :: .sl As0_0 cs0_0 ns0_0 xs0_0 22 1 :: .sl As0_1 cs0_1 ns0_1 xs0_1 69 2 :: .sl As0_4 cs0_4 ns0_4 xs0_4 71 2 :: .sl Ar0 cr0 nr0 xr0 71 2 :: (T' ++ R)) := by
  refine CW.enter Try.func27 rfl (n := 10) rfl [.pointer (some ⟨b0, 0, none⟩)] (Nat.le_of_ble_eq_true rfl) ?_
  refine CW.sub [(0, .pointer (some ⟨b0, 0, none⟩))] ⟨rfl, trivial⟩ ?_
  refine CW.seq ?_
  refine CW.region ?_
  refine WL.val Wanted.none (Runs.assign rfl) ?_
  refine WL.nil ?_
  refine QW.then_n ?_
  refine CW.seq ?_
  refine CW.seq ?_
  refine CW.region ?_
  refine WL.val Wanted.none (Runs.move rfl) ?_
  refine WL.val Wanted.none (Runs.eql_ptr Try.underlying25 rfl rfl rfl) ?_
  refine WL.nil ?_
  refine QW.then_n ?_
  refine CW.cf rfl rfl ?_
  refine CW.skip ?_
  refine QW.then_n ?_
  refine CW.seq ?_
  refine CW.region ?_
  refine WL.val Wanted.none (Runs.move rfl) ?_
  refine WL.val Wanted.none (Runs.nilCheck rfl) ?_
  refine WL.val Wanted.none (Runs.fieldAddr (off := 4) (p := 4) fld66_4 rfl rfl rfl) ?_
  refine WL.val Wanted.none (Runs.load nagg61 rfl (st0.cell (k := 0) rfl (part_one (u := .slice A0_4 n0_4 c0_4) (pre := (([.slice A0_0 n0_0 c0_0] : List Value) ++ (([.slice A0_1 n0_1 c0_1] : List Value) ++ (([.int .i64 a0_2] : List Value) ++ ([.bool a0_3] : List Value))))) (post := (([] : List Value))) (by first | rfl | simp only [List.append_assoc, List.append_nil, List.nil_append, List.cons_append]) (by first | rfl | simp only [List.length_append, List.length_cons, List.length_nil, iv_length])))) ?_
  have st_1 : St w w1 ((T ++ (.cells b0 (([.slice A0_0 n0_0 c0_0] : List Value) ++ (([.slice A0_1 n0_1 c0_1] : List Value) ++ (([.int .i64 a0_2] : List Value) ++ (([.bool a0_3] : List Value) ++ ([.slice A0_4 n0_4 c0_4] : List Value))))) 66 :: .sl A0_0 c0_0 n0_0 x0_0 22 1 :: .sl A0_1 c0_1 n0_1 x0_1 69 2 :: .sl A0_4 c0_4 n0_4 x0_4 71 2 :: R))) := St.hide (A := []) (B := [_, _, _, _]) (T := T) (R := R) st0
  obtain ⟨l_9, hr_2, H⟩ := H
  refine WL.call Wanted.none ent42 rfl (slices_Clone_s_disk_Op_disk_Op.calls w w1 T (.cells b0 (([.slice A0_0 n0_0 c0_0] : List Value) ++ (([.slice A0_1 n0_1 c0_1] : List Value) ++ (([.int .i64 a0_2] : List Value) ++ (([.bool a0_3] : List Value) ++ ([.slice A0_4 n0_4 c0_4] : List Value))))) 66 :: .sl A0_0 c0_0 n0_0 x0_0 22 1 :: .sl A0_1 c0_1 n0_1 x0_1 69 2 :: .sl A0_4 c0_4 n0_4 x0_4 71 2 :: R) l0_4 A0_4 n0_4 c0_4  st_1 (HS.mk hn0_4 (st0.cap (i := 3) rfl) (fun W_ L_ st hT => st.src_mem (hT _ (List.mem_append_right _ (List.mem_of_getElem? (i := 3) rfl)))) hx0_4) l_9 hr_2) ?_
  rintro _ w_13 ⟨T_3, A_6, n_7, c_8, x_10, hs_4, hn_11, hx_12, rfl, sc_15⟩
  have st_14 : St w w_13 (.sl A_6 c_8 n_7 x_10 71 2 :: .cells b0 (([.slice A0_0 n0_0 c0_0] : List Value) ++ (([.slice A0_1 n0_1 c0_1] : List Value) ++ (([.int .i64 a0_2] : List Value) ++ (([.bool a0_3] : List Value) ++ ([.slice A0_4 n0_4 c0_4] : List Value))))) 66 :: .sl A0_0 c0_0 n0_0 x0_0 22 1 :: .sl A0_1 c0_1 n0_1 x0_1 69 2 :: .sl A0_4 c0_4 n0_4 x0_4 71 2 :: (T_3 ++ R)) := St.unhide (A := [_]) (B := [_, _, _, _]) (T := T_3) (R := R) sc_15
  refine ⟨_, rfl, ?_⟩
  refine WL.val Wanted.none (Runs.assign rfl) ?_
  refine WL.nil ?_
  refine QW.then_n ?_
  refine CW.sub [(2, .slice A_6 n_7 c_8)] ⟨rfl, trivial⟩ ?_
  refine CW.ret ?_
  obtain ⟨rfl, rfl, rfl, rfl, rfl, rfl⟩ := H
  exact QW.ret1 rfl rfl ⟨T_3, A0_0, n0_0, c0_0, x0_0, A0_1, n0_1, c0_1, x0_1, A0_4, n0_4, c0_4, x0_4, A_6, n_7, c_8, x_10, hs_4, hn0_0, (hx0_0.mono (fun _ h_ => hs_4.1 _ h_)), hn0_1, (hx0_1.mono (fun _ h_ => hs_4.1 _ h_)), hn0_4, (hx0_4.mono (fun _ h_ => hs_4.1 _ h_)), hn_11, hx_12, rfl, (St.pickT (L := [_, _, _, _, _]) st_14 [1, 2, 3, 4, 0] (by decide))⟩

/-! ### reliquarylaw06_awake: function 9 -/
def reliquarylaw06_awake.rel   : Prop := (∃ (o_3 : Option ((List R22) × (List R69) × Int × Bool × (List R71))) (a_7 : Int), disk_New.rel 2 o_3 a_7 ∧ ((∃ (l_18_0 : List R22) (l_18_1 : List R69) (a_22_2 : Int) (a_22_3 : Bool) (l_18_4 : List R71), o_3 = some (l_18_0, l_18_1, a_22_2, a_22_3, l_18_4) ∧ ((0 ≤ (0 : Int) ∧ (0 : Int) < ((List.replicate 192 (0 : Int)).length : Int)) ∧ (∃ m_37 : List Int, m_37 = List.set (List.replicate 192 (0 : Int)) 0 7 ∧ (∃ (l_50_0 : List R22) (l_50_1 : List R69) (a_54_2 : Int) (a_54_3 : Bool) (l_50_4 : List R71) (a_56 : Int), disk_Disk_Write.rel l_18_0 l_18_1 a_22_2 a_22_3 l_18_4 1 m_37 l_50_0 l_50_1 a_54_2 a_54_3 l_50_4 a_56 ∧ (∃ (l_67_0 : List R22) (l_67_1 : List R69) (a_71_2 : Int) (a_71_3 : Bool) (l_67_4 : List R71) (l_76 : List Int) (a_80 : Int), disk_Disk_Read.rel l_50_0 l_50_1 a_54_2 a_54_3 l_50_4 1 l_67_0 l_67_1 a_71_2 a_71_3 l_67_4 l_76 a_80 ∧ (∃ (l_91_0 : List R22) (l_91_1 : List R69) (a_95_2 : Int) (a_95_3 : Bool) (l_91_4 : List R71) (a_97 : Int), disk_Disk_Pending.rel l_67_0 l_67_1 a_71_2 a_71_3 l_67_4 l_91_0 l_91_1 a_95_2 a_95_3 l_91_4 a_97 ∧ (∃ (l_108_0 : List R22) (l_108_1 : List R69) (a_112_2 : Int) (a_112_3 : Bool) (l_108_4 : List R71), disk_Disk_Crash.rel l_91_0 l_91_1 a_95_2 a_95_3 l_91_4 [] l_108_0 l_108_1 a_112_2 a_112_3 l_108_4 ∧ (∃ (l_123_0 : List R22) (l_123_1 : List R69) (a_127_2 : Int) (a_127_3 : Bool) (l_123_4 : List R71) (l_132 : List Int) (a_136 : Int), disk_Disk_Read.rel l_108_0 l_108_1 a_112_2 a_112_3 l_108_4 1 l_123_0 l_123_1 a_127_2 a_127_3 l_123_4 l_132 a_136 ∧ (a_56 = 0 ∧ (a_80 = 0 ∧ ((l_76.length : Int) = 192 ∧ ((0 ≤ (0 : Int) ∧ (0 : Int) < (l_76.length : Int)) ∧ ((gn l_76 0) = 7 ∧ (a_97 = 1 ∧ (a_136 = 0 ∧ ((l_132.length : Int) = 192 ∧ ((0 ≤ (0 : Int) ∧ (0 : Int) < (l_132.length : Int)) ∧ ((gn l_132 0) = 0 ∧ (∃ (l_171_0 : List R22) (l_171_1 : List R69) (a_175_2 : Int) (a_175_3 : Bool) (l_171_4 : List R71) (a_177 : Int), disk_Disk_Size.rel l_123_0 l_123_1 a_127_2 a_127_3 l_123_4 l_171_0 l_171_1 a_175_2 a_175_3 l_171_4 a_177 ∧ (a_177 = 2 ∧ (∃ (l_190_0 : List R22) (l_190_1 : List R69) (a_194_2 : Int) (a_194_3 : Bool) (l_190_4 : List R71) (l_199 : List R71), disk_Disk_Ops.rel l_171_0 l_171_1 a_175_2 a_175_3 l_171_4 l_190_0 l_190_1 a_194_2 a_194_3 l_190_4 l_199 ∧ (l_199.length : Int) = 3)))))))))))))))))))))))
set_option maxHeartbeats 4000000 in
set_option maxRecDepth 100000 in
theorem reliquarylaw06_awake.calls (w : World)      (H : reliquarylaw06_awake.rel  ) :
    Calls Try.prog 9 #[] w fun e w' => e = .returned (.bool true) ∧ Below w.heap.size w w' := by
  refine CW.enter Try.func9 rfl (n := 87) rfl [] (Nat.le_of_ble_eq_true rfl) ?_
  refine CW.sub [] trivial ?_
  obtain ⟨T, R, hT, hR, st0⟩ := St.start w
  refine CW.seq ?_
  refine CW.region ?_
  refine WL.val Wanted.none (Runs.assign rfl) ?_
  refine WL.nil ?_
  refine QW.then_n ?_
  refine CW.seq ?_
  refine CW.region ?_
  have st_1 : St w w ((T ++ (R))) := St.hide (A := []) (B := []) (T := T) (R := R) st0
  obtain ⟨o_3, a_7, hr_2, H⟩ := H
  obtain ⟨l_18_0, l_18_1, a_22_2, a_22_3, l_18_4, rfl, H⟩ := H
  refine WL.call Wanted.none ent10 rfl (disk_New.calls_obj w w T (R) 2  st_1 l_18_0 l_18_1 a_22_2 a_22_3 l_18_4 a_7 (some (l_18_0, l_18_1, a_22_2, a_22_3, l_18_4)) rfl hr_2) ?_
  rintro _ w_25 ⟨T_11, b_14, A_15_0, n_16_0, c_17_0, x_19_0, A_15_1, n_16_1, c_17_1, x_19_1, A_15_4, n_16_4, c_17_4, x_19_4, hs_12, hn_20_0, hx_21_0, hn_20_1, hx_21_1, hn_20_4, hx_21_4, rfl, sc_27⟩
  have st_26 : St w w_25 (.cells b_14 (([.slice A_15_0 n_16_0 c_17_0] : List Value) ++ (([.slice A_15_1 n_16_1 c_17_1] : List Value) ++ (([.int .i64 a_22_2] : List Value) ++ (([.bool a_22_3] : List Value) ++ ([.slice A_15_4 n_16_4 c_17_4] : List Value))))) 66 :: .sl A_15_0 c_17_0 n_16_0 x_19_0 22 1 :: .sl A_15_1 c_17_1 n_16_1 x_19_1 69 2 :: .sl A_15_4 c_17_4 n_16_4 x_19_4 71 2 :: (T_11 ++ R)) := St.unhide (A := [_, _, _, _]) (B := []) (T := T_11) (R := R) sc_27
  refine ⟨_, rfl, ?_⟩
  refine WL.val Wanted.none (Runs.move rfl) ?_
  refine WL.val Wanted.none (Runs.extract rfl rfl) ?_
  refine WL.val Wanted.none (Runs.extract rfl rfl) ?_
  refine WL.val Wanted.none (Runs.assign rfl) ?_
  refine WL.val Wanted.none (Runs.assign rfl) ?_
  refine WL.nil ?_
  refine QW.then_n ?_
  refine CW.seq ?_
  refine CW.seq ?_
  refine CW.region ?_
  refine WL.val Wanted.none (Runs.move rfl) ?_
  refine WL.val Wanted.none (Runs.neq (b := false) rfl rfl (by decide)) ?_
  refine WL.val Wanted.none (Runs.move rfl) ?_
  refine WL.on ?_ ?_; exact Wanted.guard (dj := 16) (by rfl) (by rfl) (by rfl)
  refine WL.val Wanted.none (Runs.move rfl) ?_
  refine WL.on ?_ ?_; exact Wanted.guard (dj := 16) (by rfl) (by rfl) (by rfl)
  refine WL.val Wanted.none (Runs.eql_ptr Try.underlying25 rfl rfl rfl) ?_
  refine WL.val Wanted.none (Runs.pick_f rfl rfl) ?_
  refine WL.nil ?_
  refine QW.then_n ?_
  refine CW.sub [(0, .bool false), (1, .pointer (some ⟨b_14, 0, none⟩)), (19, .bool false)] ⟨rfl, rfl, rfl, trivial⟩ ?_
  refine CW.cf rfl rfl ?_
  refine CW.skip ?_
  refine QW.then_n ?_
  refine CW.seq ?_
  refine CW.region ?_
  refine WL.make st_26 Try.underlying22 elem5 rfl rfl (by decide) (by decide) (by decide) (N := 192) rfl ?_
  intro B_28 w_29 st_30
  replace st_30 : St w w_29 (.sl (some ⟨B_28, 0, none⟩) 192 192 (iv .u8 (List.replicate 192 (0 : Int))) 5 1 :: .cells b_14 (([.slice A_15_0 n_16_0 c_17_0] : List Value) ++ (([.slice A_15_1 n_16_1 c_17_1] : List Value) ++ (([.int .i64 a_22_2] : List Value) ++ (([.bool a_22_3] : List Value) ++ ([.slice A_15_4 n_16_4 c_17_4] : List Value))))) 66 :: .sl A_15_0 c_17_0 n_16_0 x_19_0 22 1 :: .sl A_15_1 c_17_1 n_16_1 x_19_1 69 2 :: .sl A_15_4 c_17_4 n_16_4 x_19_4 71 2 :: (T_11 ++ R)) := by rw [iv_replicate] at st_30; exact st_30
  have hn_31 : 192 = (List.replicate 192 (0 : Int)).length := by simp
  refine WL.val Wanted.none (Runs.assign rfl) ?_
  refine WL.nil ?_
  refine QW.then_n ?_
  refine CW.seq ?_
  refine CW.region ?_
  refine WL.val Wanted.none (Runs.move rfl) ?_
  obtain ⟨⟨p_33, q_34⟩, H⟩ := H
  obtain ⟨a_35, e_36⟩ := (st_30.src_sl (k := 0) rfl).addr_iv 0 (by omega)
  refine WL.val Wanted.none (Runs.indexAddr Try.underlying22 cells5 (by decide) rfl e_36 rfl p_33 (by rw [hn_31]; exact q_34) (o := 0) (by first | rfl | omega)) ?_
  obtain ⟨m_37, e_38, H⟩ := H
  refine WL.store_sl (i := 0) st_30 rfl cells5 rfl e_36 (by rw [iv_length]; omega) rfl rfl ?_
  intro w_39 st_40
  have hn_41 : 192 = m_37.length := by rw [e_38, List.length_set]; exact hn_31
  have st_40' : St w w_39 (.sl (some ⟨B_28, 0, none⟩) 192 192 (iv .u8 m_37) 5 1 :: .cells b_14 (([.slice A_15_0 n_16_0 c_17_0] : List Value) ++ (([.slice A_15_1 n_16_1 c_17_1] : List Value) ++ (([.int .i64 a_22_2] : List Value) ++ (([.bool a_22_3] : List Value) ++ ([.slice A_15_4 n_16_4 c_17_4] : List Value))))) 66 :: .sl A_15_0 c_17_0 n_16_0 x_19_0 22 1 :: .sl A_15_1 c_17_1 n_16_1 x_19_1 69 2 :: .sl A_15_4 c_17_4 n_16_4 x_19_4 71 2 :: (T_11 ++ R)) := by rw [e_38, ← iv_set .u8 (List.replicate 192 (0 : Int)) 0 7]; exact st_40
  refine WL.nil ?_
  refine QW.then_n ?_
  refine CW.seq ?_
  refine CW.region ?_
  refine WL.val Wanted.none (Runs.move rfl) ?_
  refine WL.val Wanted.none (Runs.move rfl) ?_
  have st_42 := (St.pickT (L := [_, _, _, _, _]) st_40' [1, 2, 3, 4, 0] (by decide))
  replace st_42 : St w w_39 (.cells b_14 (([.slice A_15_0 n_16_0 c_17_0] : List Value) ++ (([.slice A_15_1 n_16_1 c_17_1] : List Value) ++ (([.int .i64 a_22_2] : List Value) ++ (([.bool a_22_3] : List Value) ++ ([.slice A_15_4 n_16_4 c_17_4] : List Value))))) 66 :: .sl A_15_0 c_17_0 n_16_0 x_19_0 22 1 :: .sl A_15_1 c_17_1 n_16_1 x_19_1 69 2 :: .sl A_15_4 c_17_4 n_16_4 x_19_4 71 2 :: .sl (some ⟨B_28, 0, none⟩) 192 192 (iv .u8 m_37) 5 1 :: (T_11 ++ R)) := st_42
  have st_43 : St w w_39 (.cells b_14 (([.slice A_15_0 n_16_0 c_17_0] : List Value) ++ (([.slice A_15_1 n_16_1 c_17_1] : List Value) ++ (([.int .i64 a_22_2] : List Value) ++ (([.bool a_22_3] : List Value) ++ ([.slice A_15_4 n_16_4 c_17_4] : List Value))))) 66 :: .sl A_15_0 c_17_0 n_16_0 x_19_0 22 1 :: .sl A_15_1 c_17_1 n_16_1 x_19_1 69 2 :: .sl A_15_4 c_17_4 n_16_4 x_19_4 71 2 :: (T_11 ++ (.sl (some ⟨B_28, 0, none⟩) 192 192 (iv .u8 m_37) 5 1 :: R))) := St.hide (A := [_, _, _, _]) (B := [_]) (T := T_11) (R := R) st_42
  obtain ⟨l_50_0, l_50_1, a_54_2, a_54_3, l_50_4, a_56, hr_44, H⟩ := H
  refine WL.call Wanted.none ent11 rfl (disk_Disk_Write.calls w w_39 T_11 (.sl (some ⟨B_28, 0, none⟩) 192 192 (iv .u8 m_37) 5 1 :: R) l_18_0 l_18_1 a_22_2 a_22_3 l_18_4 1 m_37 b_14 A_15_0 n_16_0 c_17_0 x_19_0 A_15_1 n_16_1 c_17_1 x_19_1 A_15_4 n_16_4 c_17_4 x_19_4 (some ⟨B_28, 0, none⟩) 192 192  st_43 (hn_20_0) hx_21_0 (hn_20_1) hx_21_1 (hn_20_4) hx_21_4 ⟨hn_41, st_42.cap (i := 4) rfl, fun W_ L_ st hT => st.src_mem (hT _ (List.mem_append_right _ (List.mem_of_getElem? (i := 0) rfl)))⟩ l_50_0 l_50_1 a_54_2 a_54_3 l_50_4 a_56 hr_44) ?_
  rintro _ w_57 ⟨T_45, A_47_0, n_48_0, c_49_0, x_51_0, A_47_1, n_48_1, c_49_1, x_51_1, A_47_4, n_48_4, c_49_4, x_51_4, hs_46, hn_52_0, hx_53_0, hn_52_1, hx_53_1, hn_52_4, hx_53_4, rfl, sc_59⟩
  have st_58 : St w w_57 (.cells b_14 (([.slice A_47_0 n_48_0 c_49_0] : List Value) ++ (([.slice A_47_1 n_48_1 c_49_1] : List Value) ++ (([.int .i64 a_54_2] : List Value) ++ (([.bool a_54_3] : List Value) ++ ([.slice A_47_4 n_48_4 c_49_4] : List Value))))) 66 :: .sl A_47_0 c_49_0 n_48_0 x_51_0 22 1 :: .sl A_47_1 c_49_1 n_48_1 x_51_1 69 2 :: .sl A_47_4 c_49_4 n_48_4 x_51_4 71 2 :: .sl (some ⟨B_28, 0, none⟩) 192 192 (iv .u8 m_37) 5 1 :: (T_45 ++ R)) := St.unhide (A := [_, _, _, _]) (B := [_]) (T := T_45) (R := R) sc_59
  refine ⟨_, rfl, ?_⟩
  refine WL.val Wanted.none (Runs.assign rfl) ?_
  refine WL.nil ?_
  refine QW.then_n ?_
  refine CW.sub [(0, .bool false), (1, .pointer (some ⟨b_14, 0, none⟩)), (4, .int .i64 a_56)] ⟨rfl, rfl, rfl, trivial⟩ ?_
  refine CW.seq ?_
  refine CW.region ?_
  refine WL.val Wanted.none (Runs.move rfl) ?_
  have st_60 : St w w_57 (.cells b_14 (([.slice A_47_0 n_48_0 c_49_0] : List Value) ++ (([.slice A_47_1 n_48_1 c_49_1] : List Value) ++ (([.int .i64 a_54_2] : List Value) ++ (([.bool a_54_3] : List Value) ++ ([.slice A_47_4 n_48_4 c_49_4] : List Value))))) 66 :: .sl A_47_0 c_49_0 n_48_0 x_51_0 22 1 :: .sl A_47_1 c_49_1 n_48_1 x_51_1 69 2 :: .sl A_47_4 c_49_4 n_48_4 x_51_4 71 2 :: (T_45 ++ (.sl (some ⟨B_28, 0, none⟩) 192 192 (iv .u8 m_37) 5 1 :: R))) := St.hide (A := [_, _, _, _]) (B := [_]) (T := T_45) (R := R) st_58
  obtain ⟨l_67_0, l_67_1, a_71_2, a_71_3, l_67_4, l_76, a_80, hr_61, H⟩ := H
  refine WL.call Wanted.none ent15 rfl (disk_Disk_Read.calls w w_57 T_45 (.sl (some ⟨B_28, 0, none⟩) 192 192 (iv .u8 m_37) 5 1 :: R) l_50_0 l_50_1 a_54_2 a_54_3 l_50_4 1 b_14 A_47_0 n_48_0 c_49_0 x_51_0 A_47_1 n_48_1 c_49_1 x_51_1 A_47_4 n_48_4 c_49_4 x_51_4 (hs_46.2 (hs_12.2 hT)) (show celly (.sl (some ⟨B_28, 0, none⟩) 192 192 (iv .u8 m_37) 5 1 :: R) = true from hR) st_60 (hn_52_0) hx_53_0 (hn_52_1) hx_53_1 (hn_52_4) hx_53_4 l_67_0 l_67_1 a_71_2 a_71_3 l_67_4 l_76 a_80 hr_61) ?_
  rintro _ w_81 ⟨T_62, A_64_0, n_65_0, c_66_0, x_68_0, A_64_1, n_65_1, c_66_1, x_68_1, A_64_4, n_65_4, c_66_4, x_68_4, A_73, n_74, c_75, hs_63, hn_69_0, hx_70_0, hn_69_1, hx_70_1, hn_69_4, hx_70_4, hn_78, rfl, sc_83⟩
  have st_82 : St w w_81 (.cells b_14 (([.slice A_64_0 n_65_0 c_66_0] : List Value) ++ (([.slice A_64_1 n_65_1 c_66_1] : List Value) ++ (([.int .i64 a_71_2] : List Value) ++ (([.bool a_71_3] : List Value) ++ ([.slice A_64_4 n_65_4 c_66_4] : List Value))))) 66 :: .sl A_64_0 c_66_0 n_65_0 x_68_0 22 1 :: .sl A_64_1 c_66_1 n_65_1 x_68_1 69 2 :: .sl A_64_4 c_66_4 n_65_4 x_68_4 71 2 :: .sl A_73 c_75 n_74 (iv .u8 l_76) 5 1 :: .sl (some ⟨B_28, 0, none⟩) 192 192 (iv .u8 m_37) 5 1 :: (T_62 ++ R)) := St.unhide (A := [_, _, _, _, _]) (B := [_]) (T := T_62) (R := R) sc_83
  refine ⟨_, rfl, ?_⟩
  refine WL.val Wanted.none (Runs.move rfl) ?_
  refine WL.val Wanted.none (Runs.extract rfl rfl) ?_
  refine WL.val Wanted.none (Runs.extract rfl rfl) ?_
  refine WL.val Wanted.none (Runs.assign rfl) ?_
  refine WL.val Wanted.none (Runs.assign rfl) ?_
  refine WL.nil ?_
  refine QW.then_n ?_
  refine CW.seq ?_
  refine CW.region ?_
  refine WL.val Wanted.none (Runs.move rfl) ?_
  have st_84 : St w w_81 (.cells b_14 (([.slice A_64_0 n_65_0 c_66_0] : List Value) ++ (([.slice A_64_1 n_65_1 c_66_1] : List Value) ++ (([.int .i64 a_71_2] : List Value) ++ (([.bool a_71_3] : List Value) ++ ([.slice A_64_4 n_65_4 c_66_4] : List Value))))) 66 :: .sl A_64_0 c_66_0 n_65_0 x_68_0 22 1 :: .sl A_64_1 c_66_1 n_65_1 x_68_1 69 2 :: .sl A_64_4 c_66_4 n_65_4 x_68_4 71 2 :: (T_62 ++ (.sl A_73 c_75 n_74 (iv .u8 l_76) 5 1 :: .sl (some ⟨B_28, 0, none⟩) 192 192 (iv .u8 m_37) 5 1 :: R))) := St.hide (A := [_, _, _, _]) (B := [_, _]) (T := T_62) (R := R) st_82
  obtain ⟨l_91_0, l_91_1, a_95_2, a_95_3, l_91_4, a_97, hr_85, H⟩ := H
  refine WL.call Wanted.none ent13 rfl (disk_Disk_Pending.calls w w_81 T_62 (.sl A_73 c_75 n_74 (iv .u8 l_76) 5 1 :: .sl (some ⟨B_28, 0, none⟩) 192 192 (iv .u8 m_37) 5 1 :: R) l_67_0 l_67_1 a_71_2 a_71_3 l_67_4 b_14 A_64_0 n_65_0 c_66_0 x_68_0 A_64_1 n_65_1 c_66_1 x_68_1 A_64_4 n_65_4 c_66_4 x_68_4  st_84 (hn_69_0) hx_70_0 (hn_69_1) hx_70_1 (hn_69_4) hx_70_4 l_91_0 l_91_1 a_95_2 a_95_3 l_91_4 a_97 hr_85) ?_
  rintro _ w_98 ⟨T_86, A_88_0, n_89_0, c_90_0, x_92_0, A_88_1, n_89_1, c_90_1, x_92_1, A_88_4, n_89_4, c_90_4, x_92_4, hs_87, hn_93_0, hx_94_0, hn_93_1, hx_94_1, hn_93_4, hx_94_4, rfl, sc_100⟩
  have st_99 : St w w_98 (.cells b_14 (([.slice A_88_0 n_89_0 c_90_0] : List Value) ++ (([.slice A_88_1 n_89_1 c_90_1] : List Value) ++ (([.int .i64 a_95_2] : List Value) ++ (([.bool a_95_3] : List Value) ++ ([.slice A_88_4 n_89_4 c_90_4] : List Value))))) 66 :: .sl A_88_0 c_90_0 n_89_0 x_92_0 22 1 :: .sl A_88_1 c_90_1 n_89_1 x_92_1 69 2 :: .sl A_88_4 c_90_4 n_89_4 x_92_4 71 2 :: .sl A_73 c_75 n_74 (iv .u8 l_76) 5 1 :: .sl (some ⟨B_28, 0, none⟩) 192 192 (iv .u8 m_37) 5 1 :: (T_86 ++ R)) := St.unhide (A := [_, _, _, _]) (B := [_, _]) (T := T_86) (R := R) sc_100
  refine ⟨_, rfl, ?_⟩
  refine WL.val Wanted.none (Runs.assign rfl) ?_
  refine WL.nil ?_
  refine QW.then_n ?_
  refine CW.sub [(0, .bool false), (1, .pointer (some ⟨b_14, 0, none⟩)), (4, .int .i64 a_56), (5, .slice A_73 n_74 c_75), (6, .int .i64 a_80), (7, .int .i64 a_97)] ⟨rfl, rfl, rfl, rfl, rfl, rfl, trivial⟩ ?_
  refine CW.seq ?_
  refine CW.region ?_
  refine WL.val Wanted.none (Runs.move rfl) ?_
  have st_101 : St w w_98 (.cells b_14 (([.slice A_88_0 n_89_0 c_90_0] : List Value) ++ (([.slice A_88_1 n_89_1 c_90_1] : List Value) ++ (([.int .i64 a_95_2] : List Value) ++ (([.bool a_95_3] : List Value) ++ ([.slice A_88_4 n_89_4 c_90_4] : List Value))))) 66 :: .sl A_88_0 c_90_0 n_89_0 x_92_0 22 1 :: .sl A_88_1 c_90_1 n_89_1 x_92_1 69 2 :: .sl A_88_4 c_90_4 n_89_4 x_92_4 71 2 :: (T_86 ++ (.sl A_73 c_75 n_74 (iv .u8 l_76) 5 1 :: .sl (some ⟨B_28, 0, none⟩) 192 192 (iv .u8 m_37) 5 1 :: R))) := St.hide (A := [_, _, _, _]) (B := [_, _]) (T := T_86) (R := R) st_99
  obtain ⟨l_108_0, l_108_1, a_112_2, a_112_3, l_108_4, hr_102, H⟩ := H
  refine WL.call Wanted.none ent14 rfl (disk_Disk_Crash.calls w w_98 T_86 (.sl A_73 c_75 n_74 (iv .u8 l_76) 5 1 :: .sl (some ⟨B_28, 0, none⟩) 192 192 (iv .u8 m_37) 5 1 :: R) l_91_0 l_91_1 a_95_2 a_95_3 l_91_4 [] b_14 A_88_0 n_89_0 c_90_0 x_92_0 A_88_1 n_89_1 c_90_1 x_92_1 A_88_4 n_89_4 c_90_4 x_92_4 none 0 0  st_101 (hn_93_0) hx_94_0 (hn_93_1) hx_94_1 (hn_93_4) hx_94_4 HB.nil l_108_0 l_108_1 a_112_2 a_112_3 l_108_4 hr_102) ?_
  rintro _ w_113 ⟨T_103, A_105_0, n_106_0, c_107_0, x_109_0, A_105_1, n_106_1, c_107_1, x_109_1, A_105_4, n_106_4, c_107_4, x_109_4, hs_104, hn_110_0, hx_111_0, hn_110_1, hx_111_1, hn_110_4, hx_111_4, rfl, sc_115⟩
  have st_114 : St w w_113 (.cells b_14 (([.slice A_105_0 n_106_0 c_107_0] : List Value) ++ (([.slice A_105_1 n_106_1 c_107_1] : List Value) ++ (([.int .i64 a_112_2] : List Value) ++ (([.bool a_112_3] : List Value) ++ ([.slice A_105_4 n_106_4 c_107_4] : List Value))))) 66 :: .sl A_105_0 c_107_0 n_106_0 x_109_0 22 1 :: .sl A_105_1 c_107_1 n_106_1 x_109_1 69 2 :: .sl A_105_4 c_107_4 n_106_4 x_109_4 71 2 :: .sl A_73 c_75 n_74 (iv .u8 l_76) 5 1 :: .sl (some ⟨B_28, 0, none⟩) 192 192 (iv .u8 m_37) 5 1 :: (T_103 ++ R)) := St.unhide (A := [_, _, _, _]) (B := [_, _]) (T := T_103) (R := R) sc_115
  refine ⟨_, rfl, ?_⟩
  refine WL.nil ?_
  refine QW.then_n ?_
  refine CW.seq ?_
  refine CW.region ?_
  refine WL.val Wanted.none (Runs.move rfl) ?_
  have st_116 : St w w_113 (.cells b_14 (([.slice A_105_0 n_106_0 c_107_0] : List Value) ++ (([.slice A_105_1 n_106_1 c_107_1] : List Value) ++ (([.int .i64 a_112_2] : List Value) ++ (([.bool a_112_3] : List Value) ++ ([.slice A_105_4 n_106_4 c_107_4] : List Value))))) 66 :: .sl A_105_0 c_107_0 n_106_0 x_109_0 22 1 :: .sl A_105_1 c_107_1 n_106_1 x_109_1 69 2 :: .sl A_105_4 c_107_4 n_106_4 x_109_4 71 2 :: (T_103 ++ (.sl A_73 c_75 n_74 (iv .u8 l_76) 5 1 :: .sl (some ⟨B_28, 0, none⟩) 192 192 (iv .u8 m_37) 5 1 :: R))) := St.hide (A := [_, _, _, _]) (B := [_, _]) (T := T_103) (R := R) st_114
  obtain ⟨l_123_0, l_123_1, a_127_2, a_127_3, l_123_4, l_132, a_136, hr_117, H⟩ := H
  refine WL.call Wanted.none ent15 rfl (disk_Disk_Read.calls w w_113 T_103 (.sl A_73 c_75 n_74 (iv .u8 l_76) 5 1 :: .sl (some ⟨B_28, 0, none⟩) 192 192 (iv .u8 m_37) 5 1 :: R) l_108_0 l_108_1 a_112_2 a_112_3 l_108_4 1 b_14 A_105_0 n_106_0 c_107_0 x_109_0 A_105_1 n_106_1 c_107_1 x_109_1 A_105_4 n_106_4 c_107_4 x_109_4 (hs_104.2 (hs_87.2 (hs_63.2 (hs_46.2 (hs_12.2 hT))))) (show celly (.sl A_73 c_75 n_74 (iv .u8 l_76) 5 1 :: .sl (some ⟨B_28, 0, none⟩) 192 192 (iv .u8 m_37) 5 1 :: R) = true from hR) st_116 (hn_110_0) hx_111_0 (hn_110_1) hx_111_1 (hn_110_4) hx_111_4 l_123_0 l_123_1 a_127_2 a_127_3 l_123_4 l_132 a_136 hr_117) ?_
  rintro _ w_137 ⟨T_118, A_120_0, n_121_0, c_122_0, x_124_0, A_120_1, n_121_1, c_122_1, x_124_1, A_120_4, n_121_4, c_122_4, x_124_4, A_129, n_130, c_131, hs_119, hn_125_0, hx_126_0, hn_125_1, hx_126_1, hn_125_4, hx_126_4, hn_134, rfl, sc_139⟩
  have st_138 : St w w_137 (.cells b_14 (([.slice A_120_0 n_121_0 c_122_0] : List Value) ++ (([.slice A_120_1 n_121_1 c_122_1] : List Value) ++ (([.int .i64 a_127_2] : List Value) ++ (([.bool a_127_3] : List Value) ++ ([.slice A_120_4 n_121_4 c_122_4] : List Value))))) 66 :: .sl A_120_0 c_122_0 n_121_0 x_124_0 22 1 :: .sl A_120_1 c_122_1 n_121_1 x_124_1 69 2 :: .sl A_120_4 c_122_4 n_121_4 x_124_4 71 2 :: .sl A_129 c_131 n_130 (iv .u8 l_132) 5 1 :: .sl A_73 c_75 n_74 (iv .u8 l_76) 5 1 :: .sl (some ⟨B_28, 0, none⟩) 192 192 (iv .u8 m_37) 5 1 :: (T_118 ++ R)) := St.unhide (A := [_, _, _, _, _]) (B := [_, _]) (T := T_118) (R := R) sc_139
  refine ⟨_, rfl, ?_⟩
  refine WL.val Wanted.none (Runs.move rfl) ?_
  refine WL.val Wanted.none (Runs.extract rfl rfl) ?_
  refine WL.val Wanted.none (Runs.extract rfl rfl) ?_
  refine WL.val Wanted.none (Runs.assign rfl) ?_
  refine WL.val Wanted.none (Runs.assign rfl) ?_
  refine WL.nil ?_
  refine QW.then_n ?_
  refine CW.sub [(0, .bool false), (1, .pointer (some ⟨b_14, 0, none⟩)), (4, .int .i64 a_56), (5, .slice A_73 n_74 c_75), (6, .int .i64 a_80), (7, .int .i64 a_97), (8, .slice A_129 n_130 c_131), (9, .int .i64 a_136)] ⟨rfl, rfl, rfl, rfl, rfl, rfl, rfl, rfl, trivial⟩ ?_
  refine CW.seq ?_
  refine CW.region ?_
  refine WL.val Wanted.none (Runs.move rfl) ?_
  refine WL.val Wanted.none (Runs.eql rfl rfl rfl) ?_
  refine WL.val Wanted.none (Runs.move rfl) ?_
  obtain ⟨c_140, H⟩ := H
  have h_141 : (a_56 == 0) = true := (beq_iff_eq.mpr c_140)
  refine WL.on ?_ ?_; exact Wanted.guard (dj := 42) (by rfl) (evb (by rfl) h_141) (by rfl)
  refine WL.val Wanted.none (Runs.move rfl) ?_
  refine WL.on ?_ ?_; exact Wanted.guard (dj := 42) (by rfl) (evb (by rfl) h_141) (by rfl)
  refine WL.val Wanted.none (Runs.eql rfl rfl rfl) ?_
  refine WL.val Wanted.none (Runs.pick_t (evb rfl h_141) rfl) ?_
  refine WL.val Wanted.none (Runs.move rfl) ?_
  obtain ⟨c_142, H⟩ := H
  have h_143 : (a_80 == 0) = true := (beq_iff_eq.mpr c_142)
  refine WL.on ?_ ?_; exact Wanted.guard (dj := 46) (by rfl) (evb (by rfl) h_143) (by rfl)
  refine WL.val Wanted.none (Runs.move rfl) ?_
  refine WL.on ?_ ?_; exact Wanted.guard (dj := 46) (by rfl) (evb (by rfl) h_143) (by rfl)
  refine WL.val Wanted.none (Runs.len_sl Try.underlying22 rfl (by rw [hn_78])) ?_
  refine WL.on ?_ ?_; exact Wanted.guard (dj := 46) (by rfl) (evb (by rfl) h_143) (by rfl)
  refine WL.val Wanted.none (Runs.eql rfl rfl rfl) ?_
  refine WL.val Wanted.none (Runs.pick_t (evb rfl h_143) rfl) ?_
  refine WL.val Wanted.none (Runs.move rfl) ?_
  obtain ⟨c_144, H⟩ := H
  have h_145 : ((l_76.length : Int) == 192) = true := (beq_iff_eq.mpr c_144)
  refine WL.on ?_ ?_; exact Wanted.guard (dj := 51) (by rfl) (evb (by rfl) h_145) (by rfl)
  refine WL.val Wanted.none (Runs.move rfl) ?_
  refine WL.on ?_ ?_; exact Wanted.guard (dj := 51) (by rfl) (evb (by rfl) h_145) (by rfl)
  obtain ⟨⟨p_146, q_147⟩, H⟩ := H
  obtain ⟨a_148, e_149⟩ := (st_138.src_sl (k := 5) rfl).addr_iv 0 (by omega)
  refine WL.val Wanted.none (Runs.indexAddr Try.underlying22 cells5 (by decide) rfl e_149 rfl p_146 (by rw [hn_78]; exact q_147) (o := 0) (by first | rfl | omega)) ?_
  refine WL.on ?_ ?_; exact Wanted.guard (dj := 51) (by rfl) (evb (by rfl) h_145) (by rfl)
  refine WL.val Wanted.none (Runs.load nagg5 rfl ((st_138.src_sl (k := 5) rfl).cell_iv e_149 (by omega))) ?_
  refine WL.on ?_ ?_; exact Wanted.guard (dj := 51) (by rfl) (evb (by rfl) h_145) (by rfl)
  refine WL.val Wanted.none (Runs.eql rfl rfl rfl) ?_
  refine WL.val Wanted.none (Runs.pick_t (evb rfl h_145) rfl) ?_
  refine WL.val Wanted.none (Runs.move rfl) ?_
  obtain ⟨c_150, H⟩ := H
  have h_151 : ((gn l_76 0) == 7) = true := (beq_iff_eq.mpr c_150)
  refine WL.on ?_ ?_; exact Wanted.guard (dj := 57) (by rfl) (evb (by rfl) h_151) (by rfl)
  refine WL.val Wanted.none (Runs.move rfl) ?_
  refine WL.on ?_ ?_; exact Wanted.guard (dj := 57) (by rfl) (evb (by rfl) h_151) (by rfl)
  refine WL.val Wanted.none (Runs.eql rfl rfl rfl) ?_
  refine WL.val Wanted.none (Runs.pick_t (evb rfl h_151) rfl) ?_
  refine WL.val Wanted.none (Runs.move rfl) ?_
  obtain ⟨c_152, H⟩ := H
  have h_153 : (a_97 == 1) = true := (beq_iff_eq.mpr c_152)
  refine WL.on ?_ ?_; exact Wanted.guard (dj := 61) (by rfl) (evb (by rfl) h_153) (by rfl)
  refine WL.val Wanted.none (Runs.move rfl) ?_
  refine WL.on ?_ ?_; exact Wanted.guard (dj := 61) (by rfl) (evb (by rfl) h_153) (by rfl)
  refine WL.val Wanted.none (Runs.eql rfl rfl rfl) ?_
  refine WL.val Wanted.none (Runs.pick_t (evb rfl h_153) rfl) ?_
  refine WL.val Wanted.none (Runs.move rfl) ?_
  obtain ⟨c_154, H⟩ := H
  have h_155 : (a_136 == 0) = true := (beq_iff_eq.mpr c_154)
  refine WL.on ?_ ?_; exact Wanted.guard (dj := 65) (by rfl) (evb (by rfl) h_155) (by rfl)
  refine WL.val Wanted.none (Runs.move rfl) ?_
  refine WL.on ?_ ?_; exact Wanted.guard (dj := 65) (by rfl) (evb (by rfl) h_155) (by rfl)
  refine WL.val Wanted.none (Runs.len_sl Try.underlying22 rfl (by rw [hn_134])) ?_
  refine WL.on ?_ ?_; exact Wanted.guard (dj := 65) (by rfl) (evb (by rfl) h_155) (by rfl)
  refine WL.val Wanted.none (Runs.eql rfl rfl rfl) ?_
  refine WL.val Wanted.none (Runs.pick_t (evb rfl h_155) rfl) ?_
  refine WL.val Wanted.none (Runs.move rfl) ?_
  obtain ⟨c_156, H⟩ := H
  have h_157 : ((l_132.length : Int) == 192) = true := (beq_iff_eq.mpr c_156)
  refine WL.on ?_ ?_; exact Wanted.guard (dj := 70) (by rfl) (evb (by rfl) h_157) (by rfl)
  refine WL.val Wanted.none (Runs.move rfl) ?_
  refine WL.on ?_ ?_; exact Wanted.guard (dj := 70) (by rfl) (evb (by rfl) h_157) (by rfl)
  obtain ⟨⟨p_158, q_159⟩, H⟩ := H
  obtain ⟨a_160, e_161⟩ := (st_138.src_sl (k := 4) rfl).addr_iv 0 (by omega)
  refine WL.val Wanted.none (Runs.indexAddr Try.underlying22 cells5 (by decide) rfl e_161 rfl p_158 (by rw [hn_134]; exact q_159) (o := 0) (by first | rfl | omega)) ?_
  refine WL.on ?_ ?_; exact Wanted.guard (dj := 70) (by rfl) (evb (by rfl) h_157) (by rfl)
  refine WL.val Wanted.none (Runs.load nagg5 rfl ((st_138.src_sl (k := 4) rfl).cell_iv e_161 (by omega))) ?_
  refine WL.on ?_ ?_; exact Wanted.guard (dj := 70) (by rfl) (evb (by rfl) h_157) (by rfl)
  refine WL.val Wanted.none (Runs.eql rfl rfl rfl) ?_
  refine WL.val Wanted.none (Runs.pick_t (evb rfl h_157) rfl) ?_
  refine WL.val Wanted.none (Runs.move rfl) ?_
  obtain ⟨c_162, H⟩ := H
  have h_163 : ((gn l_132 0) == 0) = true := (beq_iff_eq.mpr c_162)
  refine WL.on ?_ ?_; exact Wanted.guard (dj := 76) (by rfl) (evb (by rfl) h_163) (by rfl)
  refine WL.val Wanted.none (Runs.move rfl) ?_
  refine WL.on ?_ ?_; exact Wanted.guard (dj := 76) (by rfl) (evb (by rfl) h_163) (by rfl)
  have st_164 : St w w_137 (.cells b_14 (([.slice A_120_0 n_121_0 c_122_0] : List Value) ++ (([.slice A_120_1 n_121_1 c_122_1] : List Value) ++ (([.int .i64 a_127_2] : List Value) ++ (([.bool a_127_3] : List Value) ++ ([.slice A_120_4 n_121_4 c_122_4] : List Value))))) 66 :: .sl A_120_0 c_122_0 n_121_0 x_124_0 22 1 :: .sl A_120_1 c_122_1 n_121_1 x_124_1 69 2 :: .sl A_120_4 c_122_4 n_121_4 x_124_4 71 2 :: (T_118 ++ (.sl A_129 c_131 n_130 (iv .u8 l_132) 5 1 :: .sl A_73 c_75 n_74 (iv .u8 l_76) 5 1 :: .sl (some ⟨B_28, 0, none⟩) 192 192 (iv .u8 m_37) 5 1 :: R))) := St.hide (A := [_, _, _, _]) (B := [_, _, _]) (T := T_118) (R := R) st_138
  obtain ⟨l_171_0, l_171_1, a_175_2, a_175_3, l_171_4, a_177, hr_165, H⟩ := H
  refine WL.call Wanted.none ent26 rfl (disk_Disk_Size.calls w w_137 T_118 (.sl A_129 c_131 n_130 (iv .u8 l_132) 5 1 :: .sl A_73 c_75 n_74 (iv .u8 l_76) 5 1 :: .sl (some ⟨B_28, 0, none⟩) 192 192 (iv .u8 m_37) 5 1 :: R) l_123_0 l_123_1 a_127_2 a_127_3 l_123_4 b_14 A_120_0 n_121_0 c_122_0 x_124_0 A_120_1 n_121_1 c_122_1 x_124_1 A_120_4 n_121_4 c_122_4 x_124_4  st_164 (hn_125_0) hx_126_0 (hn_125_1) hx_126_1 (hn_125_4) hx_126_4 l_171_0 l_171_1 a_175_2 a_175_3 l_171_4 a_177 hr_165) ?_
  rintro _ w_178 ⟨T_166, A_168_0, n_169_0, c_170_0, x_172_0, A_168_1, n_169_1, c_170_1, x_172_1, A_168_4, n_169_4, c_170_4, x_172_4, hs_167, hn_173_0, hx_174_0, hn_173_1, hx_174_1, hn_173_4, hx_174_4, rfl, sc_180⟩
  have st_179 : St w w_178 (.cells b_14 (([.slice A_168_0 n_169_0 c_170_0] : List Value) ++ (([.slice A_168_1 n_169_1 c_170_1] : List Value) ++ (([.int .i64 a_175_2] : List Value) ++ (([.bool a_175_3] : List Value) ++ ([.slice A_168_4 n_169_4 c_170_4] : List Value))))) 66 :: .sl A_168_0 c_170_0 n_169_0 x_172_0 22 1 :: .sl A_168_1 c_170_1 n_169_1 x_172_1 69 2 :: .sl A_168_4 c_170_4 n_169_4 x_172_4 71 2 :: .sl A_129 c_131 n_130 (iv .u8 l_132) 5 1 :: .sl A_73 c_75 n_74 (iv .u8 l_76) 5 1 :: .sl (some ⟨B_28, 0, none⟩) 192 192 (iv .u8 m_37) 5 1 :: (T_166 ++ R)) := St.unhide (A := [_, _, _, _]) (B := [_, _, _]) (T := T_166) (R := R) sc_180
  refine ⟨_, rfl, ?_⟩
  refine WL.on ?_ ?_; exact Wanted.guard (dj := 76) (by rfl) (evb (by rfl) h_163) (by rfl)
  refine WL.val Wanted.none (Runs.eql rfl rfl rfl) ?_
  refine WL.val Wanted.none (Runs.pick_t (evb rfl h_163) rfl) ?_
  refine WL.val Wanted.none (Runs.move rfl) ?_
  obtain ⟨c_181, H⟩ := H
  have h_182 : (a_177 == 2) = true := (beq_iff_eq.mpr c_181)
  refine WL.on ?_ ?_; exact Wanted.guard (dj := 81) (by rfl) (evb (by rfl) h_182) (by rfl)
  refine WL.val Wanted.none (Runs.move rfl) ?_
  refine WL.on ?_ ?_; exact Wanted.guard (dj := 81) (by rfl) (evb (by rfl) h_182) (by rfl)
  have st_183 : St w w_178 (.cells b_14 (([.slice A_168_0 n_169_0 c_170_0] : List Value) ++ (([.slice A_168_1 n_169_1 c_170_1] : List Value) ++ (([.int .i64 a_175_2] : List Value) ++ (([.bool a_175_3] : List Value) ++ ([.slice A_168_4 n_169_4 c_170_4] : List Value))))) 66 :: .sl A_168_0 c_170_0 n_169_0 x_172_0 22 1 :: .sl A_168_1 c_170_1 n_169_1 x_172_1 69 2 :: .sl A_168_4 c_170_4 n_169_4 x_172_4 71 2 :: (T_166 ++ (.sl A_129 c_131 n_130 (iv .u8 l_132) 5 1 :: .sl A_73 c_75 n_74 (iv .u8 l_76) 5 1 :: .sl (some ⟨B_28, 0, none⟩) 192 192 (iv .u8 m_37) 5 1 :: R))) := St.hide (A := [_, _, _, _]) (B := [_, _, _]) (T := T_166) (R := R) st_179
  obtain ⟨l_190_0, l_190_1, a_194_2, a_194_3, l_190_4, l_199, hr_184, H⟩ := H
  refine WL.call Wanted.none ent27 rfl (disk_Disk_Ops.calls w w_178 T_166 (.sl A_129 c_131 n_130 (iv .u8 l_132) 5 1 :: .sl A_73 c_75 n_74 (iv .u8 l_76) 5 1 :: .sl (some ⟨B_28, 0, none⟩) 192 192 (iv .u8 m_37) 5 1 :: R) l_171_0 l_171_1 a_175_2 a_175_3 l_171_4 b_14 A_168_0 n_169_0 c_170_0 x_172_0 A_168_1 n_169_1 c_170_1 x_172_1 A_168_4 n_169_4 c_170_4 x_172_4  st_183 (hn_173_0) hx_174_0 (hn_173_1) hx_174_1 (hn_173_4) hx_174_4 l_190_0 l_190_1 a_194_2 a_194_3 l_190_4 l_199 hr_184) ?_
  rintro _ w_203 ⟨T_185, A_187_0, n_188_0, c_189_0, x_191_0, A_187_1, n_188_1, c_189_1, x_191_1, A_187_4, n_188_4, c_189_4, x_191_4, A_196, n_197, c_198, x_200, hs_186, hn_192_0, hx_193_0, hn_192_1, hx_193_1, hn_192_4, hx_193_4, hn_201, hx_202, rfl, sc_205⟩
  have st_204 : St w w_203 (.cells b_14 (([.slice A_187_0 n_188_0 c_189_0] : List Value) ++ (([.slice A_187_1 n_188_1 c_189_1] : List Value) ++ (([.int .i64 a_194_2] : List Value) ++ (([.bool a_194_3] : List Value) ++ ([.slice A_187_4 n_188_4 c_189_4] : List Value))))) 66 :: .sl A_187_0 c_189_0 n_188_0 x_191_0 22 1 :: .sl A_187_1 c_189_1 n_188_1 x_191_1 69 2 :: .sl A_187_4 c_189_4 n_188_4 x_191_4 71 2 :: .sl A_196 c_198 n_197 x_200 71 2 :: .sl A_129 c_131 n_130 (iv .u8 l_132) 5 1 :: .sl A_73 c_75 n_74 (iv .u8 l_76) 5 1 :: .sl (some ⟨B_28, 0, none⟩) 192 192 (iv .u8 m_37) 5 1 :: (T_185 ++ R)) := St.unhide (A := [_, _, _, _, _]) (B := [_, _, _]) (T := T_185) (R := R) sc_205
  refine ⟨_, rfl, ?_⟩
  refine WL.on ?_ ?_; exact Wanted.guard (dj := 81) (by rfl) (evb (by rfl) h_182) (by rfl)
  refine WL.val Wanted.none (Runs.len_sl Try.underlying61 rfl (by rw [hn_201])) ?_
  refine WL.on ?_ ?_; exact Wanted.guard (dj := 81) (by rfl) (evb (by rfl) h_182) (by rfl)
  refine WL.val Wanted.none (Runs.eql rfl rfl rfl) ?_
  refine WL.val Wanted.none (Runs.pick_t (evb rfl h_182) rfl) ?_
  refine WL.val Wanted.none (Runs.assign rfl) ?_
  refine WL.nil ?_
  refine QW.then_n ?_
  refine CW.sub [(0, .bool ((l_199.length : Int) == 3))] ⟨rfl, trivial⟩ ?_
  refine CW.ret ?_
  have hz : ((l_199.length : Int) == 3) = true := (beq_iff_eq.mpr H)
  exact QW.ret1 rfl (evb rfl hz) ⟨rfl, st_204.ext⟩

/-! ### reliquarylaw06_full: function 12 -/
def reliquarylaw06_full.L1 (l0_2 : List Int) (lr0 : List Int) : Nat → (List Int) → Int → Prop
  | 0, _, _ => False
  | kL1 + 1, l_15, x_17 => ((x_17 < (l0_2.length : Int) ∧ ((x_17 < 191 ∧ ((0 ≤ x_17 ∧ x_17 < (l0_2.length : Int)) ∧ ((0 ≤ x_17 ∧ x_17 < (l_15.length : Int)) ∧ (∃ m_33 : List Int, m_33 = List.set l_15 ((x_17).toNat) (gn l0_2 ((x_17).toNat)) ∧ reliquarylaw06_full.L1 l0_2 lr0 kL1 m_33 (IntKind.i64.wrap (x_17 + 1)))))) ∨ (¬ (x_17 < 191) ∧ lr0 = l_15))) ∨ (¬ (x_17 < (l0_2.length : Int)) ∧ lr0 = l_15))
def reliquarylaw06_full.L2 (l0_2 : List Int) (lr0 : List Int) : Nat → (List Int) → Int → Prop
  | 0, _, _ => False
  | kL2 + 1, l_46, x_48 => ((x_48 < (l0_2.length : Int) ∧ ((x_48 < 192 ∧ ((0 ≤ x_48 ∧ x_48 < (l0_2.length : Int)) ∧ ((0 ≤ x_48 ∧ x_48 < (l_46.length : Int)) ∧ (∃ m_64 : List Int, m_64 = List.set l_46 ((x_48).toNat) (gn l0_2 ((x_48).toNat)) ∧ reliquarylaw06_full.L2 l0_2 lr0 kL2 m_64 (IntKind.i64.wrap (x_48 + 1)))))) ∨ (¬ (x_48 < 192) ∧ lr0 = l_46))) ∨ (¬ (x_48 < (l0_2.length : Int)) ∧ lr0 = l_46))
def reliquarylaw06_full.rel (a0_0 : Int) (a0_1 : Int) (l0_2 : List Int) (l0_3 : List Bool) (a0_4 : Bool) (lr0 : List Int) : Prop := ((a0_4 = true ∧ (∃ k_ : Nat, reliquarylaw06_full.L1 l0_2 lr0 k_ (List.replicate 191 (0 : Int)) 0)) ∨ (¬ (a0_4 = true) ∧ (∃ k_ : Nat, reliquarylaw06_full.L2 l0_2 lr0 k_ (List.replicate 192 (0 : Int)) 0)))
set_option maxHeartbeats 1000000 in
set_option maxRecDepth 100000 in
theorem reliquarylaw06_full.calls (w w1 : World) (T R : Pool) (a0_0 : Int) (a0_1 : Int) (l0_2 : List Int) (l0_3 : List Bool) (a0_4 : Bool) (A0_2 : Option Addr) (n0_2 : Nat) (c0_2 : Nat) (A0_3 : Option Addr) (n0_3 : Nat) (c0_3 : Nat) (st0 : St w w1 ((T ++ R))) (hb0_2 : HB w T A0_2 n0_2 c0_2 (iv .u8 l0_2) l0_2.length) (hb0_3 : HB w T A0_3 n0_3 c0_3 (bv l0_3) l0_3.length) (lr0 : List Int) (H : reliquarylaw06_full.rel a0_0 a0_1 l0_2 l0_3 a0_4 lr0) :
    Calls Try.prog 12 #[.agg (([.int .i64 a0_0] : List Value) ++ (([.int .i64 a0_1] : List Value) ++ (([.slice A0_2 n0_2 c0_2] : List Value) ++ (([.slice A0_3 n0_3 c0_3] : List Value) ++ ([.bool a0_4] : List Value))))).toArray] w1 fun e w' => ∃ T' Ar0 nr0 cr0, Pl T T' ∧ nr0 = lr0.length ∧ e = .returned (.slice Ar0 nr0 cr0) ∧ St w w' (.sl Ar0 cr0 nr0 (iv .u8 lr0) 5 1 :: (T' ++ R)) := by
  refine CW.enter Try.func12 rfl (n := 31) rfl [.agg (([.int .i64 a0_0] : List Value) ++ (([.int .i64 a0_1] : List Value) ++ (([.slice A0_2 n0_2 c0_2] : List Value) ++ (([.slice A0_3 n0_3 c0_3] : List Value) ++ ([.bool a0_4] : List Value))))).toArray] (Nat.le_of_ble_eq_true rfl) ?_
  refine CW.sub [(0, .agg (([.int .i64 a0_0] : List Value) ++ (([.int .i64 a0_1] : List Value) ++ (([.slice A0_2 n0_2 c0_2] : List Value) ++ (([.slice A0_3 n0_3 c0_3] : List Value) ++ ([.bool a0_4] : List Value))))).toArray)] ⟨rfl, trivial⟩ ?_
  refine CW.seq ?_
  refine CW.region ?_
  refine WL.box st0 rfl rfl ?_
  intro B_1 w_2 st_3
  replace st_3 : St w w_2 (.cells B_1 (([.int .i64 a0_0] : List Value) ++ (([.int .i64 a0_1] : List Value) ++ (([.slice A0_2 n0_2 c0_2] : List Value) ++ (([.slice A0_3 n0_3 c0_3] : List Value) ++ ([.bool a0_4] : List Value))))) 33 :: (T ++ R)) := st_3
  refine WL.val Wanted.none (Runs.assign rfl) ?_
  refine WL.nil ?_
  refine QW.then_n ?_
  refine CW.seq ?_
  refine CW.region ?_
  refine WL.val Wanted.none (Runs.assign rfl) ?_
  refine WL.nil ?_
  refine QW.then_n ?_
  refine CW.seq ?_
  refine CW.seq ?_
  refine CW.region ?_
  refine WL.val Wanted.none (Runs.fieldAddr (off := 4) (p := 4) fld33_4 rfl rfl rfl) ?_
  refine WL.val Wanted.none (Runs.load nagg4 rfl (st_3.cell (k := 0) rfl (part_one (u := .bool a0_4) (pre := (([.int .i64 a0_0] : List Value) ++ (([.int .i64 a0_1] : List Value) ++ (([.slice A0_2 n0_2 c0_2] : List Value) ++ ([.slice A0_3 n0_3 c0_3] : List Value))))) (post := (([] : List Value))) (by first | rfl | simp only [List.append_assoc, List.append_nil, List.nil_append, List.cons_append]) (by first | rfl | simp only [List.length_append, List.length_cons, List.length_nil, iv_length])))) ?_
  refine WL.nil ?_
  refine QW.then_n ?_
  rcases H with ⟨c_5, H⟩ | ⟨c_5, H⟩
  · have h_6 : a0_4 = true := c_5
    refine CW.ct rfl h_6 ?_
    refine CW.region ?_
    refine WL.val Wanted.none (Runs.assign rfl) ?_
    refine WL.nil ?_
    refine QW.then_n ?_
    refine CW.seq ?_
    refine CW.region ?_
    refine WL.val Wanted.none (Runs.move rfl) ?_
    refine WL.make st_3 Try.underlying22 elem5 rfl rfl (by decide) (by decide) (by decide) (N := 191) rfl ?_
    intro B_7 w_8 st_9
    replace st_9 : St w w_8 (.sl (some ⟨B_7, 0, none⟩) 191 191 (iv .u8 (List.replicate 191 (0 : Int))) 5 1 :: .cells B_1 (([.int .i64 a0_0] : List Value) ++ (([.int .i64 a0_1] : List Value) ++ (([.slice A0_2 n0_2 c0_2] : List Value) ++ (([.slice A0_3 n0_3 c0_3] : List Value) ++ ([.bool a0_4] : List Value))))) 33 :: (T ++ R)) := by rw [iv_replicate] at st_9; exact st_9
    have hn_10 : 191 = (List.replicate 191 (0 : Int)).length := by simp
    refine WL.val Wanted.none (Runs.assign rfl) ?_
    refine WL.nil ?_
    refine QW.then_n ?_
    refine CW.seq ?_
    refine CW.seq ?_
    refine CW.region ?_
    refine WL.val Wanted.none (Runs.assign rfl) ?_
    refine WL.nil ?_
    refine QW.then_n ?_
    refine CW.block ?_
    obtain ⟨k_12, H⟩ := H
    refine CW.sub [(1, .pointer (some ⟨B_1, 0, none⟩)), (2, .slice none 0 0), (3, .int .i64 191), (4, .slice (some ⟨B_7, 0, none⟩) 191 191), (5, .int .i64 0)] ⟨rfl, rfl, rfl, rfl, rfl, trivial⟩ ?_
    refine CW.loop (fun kL1 l_ w_ => ∃ (T_13 : Pool) (l_15 : List Int) (x_17 : Int), l_ = [(1, .pointer (some ⟨B_1, 0, none⟩)), (2, .slice none 0 0), (3, .int .i64 191), (4, .slice (some ⟨B_7, 0, none⟩) 191 191), (5, .int .i64 x_17)] ∧ reliquarylaw06_full.L1 l0_2 lr0 kL1 l_15 x_17 ∧ (Pl T T_13) ∧ (191 = l_15.length) ∧ St w w_ (.sl (some ⟨B_7, 0, none⟩) 191 191 (iv .u8 l_15) 5 1 :: .cells B_1 (([.int .i64 a0_0] : List Value) ++ (([.int .i64 a0_1] : List Value) ++ (([.slice A0_2 n0_2 c0_2] : List Value) ++ (([.slice A0_3 n0_3 c0_3] : List Value) ++ ([.bool a0_4] : List Value))))) 33 :: (T_13 ++ R))) (k := k_12) ⟨T, List.replicate 191 (0 : Int), 0, rfl, H, Pl.refl, hn_10, st_9⟩ (fun _ _ h => by obtain ⟨_, _, _, _, h, _⟩ := h; exact h.elim) ?_
    rintro kL1 l_20 w_18 ⟨T_13, l_15, x_17, rfl, H, hs_14, hn_16, st_19⟩
    refine CW.seq ?_
    refine CW.seq ?_
    refine CW.region ?_
    refine WL.val Wanted.none (Runs.move rfl) ?_
    refine WL.val Wanted.none (Runs.fieldAddr (off := 2) (p := 2) fld33_2 rfl rfl rfl) ?_
    refine WL.val Wanted.none (Runs.load nagg22 rfl (st_19.cell (k := 1) rfl (part_one (u := .slice A0_2 n0_2 c0_2) (pre := (([.int .i64 a0_0] : List Value) ++ ([.int .i64 a0_1] : List Value))) (post := (([.slice A0_3 n0_3 c0_3] : List Value) ++ ([.bool a0_4] : List Value))) (by first | rfl | simp only [List.append_assoc, List.append_nil, List.nil_append, List.cons_append]) (by first | rfl | simp only [List.length_append, List.length_cons, List.length_nil, iv_length])))) ?_
    refine WL.val Wanted.none (Runs.len_sl Try.underlying22 rfl (by rw [hb0_2.1])) ?_
    refine WL.val Wanted.none (Runs.lss rfl rfl rfl) ?_
    refine WL.val Wanted.none (Runs.move rfl) ?_
    rcases H with ⟨c_21, H⟩ | ⟨c_21, H⟩
    · have h_22 : (decide (x_17 < (l0_2.length : Int))) = true := (decide_eq_true c_21)
      refine WL.on ?_ ?_; exact Wanted.guard (dj := 15) (by rfl) (evb (by rfl) h_22) (by rfl)
      refine WL.val Wanted.none (Runs.move rfl) ?_
      refine WL.on ?_ ?_; exact Wanted.guard (dj := 15) (by rfl) (evb (by rfl) h_22) (by rfl)
      refine WL.val Wanted.none (Runs.move rfl) ?_
      refine WL.on ?_ ?_; exact Wanted.guard (dj := 15) (by rfl) (evb (by rfl) h_22) (by rfl)
      refine WL.val Wanted.none (Runs.lss rfl rfl rfl) ?_
      refine WL.val Wanted.none (Runs.pick_t (evb rfl h_22) rfl) ?_
      refine WL.nil ?_
      refine QW.then_n ?_
      rcases H with ⟨c_23, H⟩ | ⟨c_23, H⟩
      · have h_24 : (decide (x_17 < 191)) = true := (decide_eq_true c_23)
        refine CW.ct rfl h_24 ?_
        refine CW.skip ?_
        refine QW.then_n ?_
        refine CW.seq ?_
        refine CW.block ?_
        refine CW.region ?_
        refine WL.val Wanted.none (Runs.move rfl) ?_
        refine WL.val Wanted.none (Runs.move rfl) ?_
        refine WL.val Wanted.none (Runs.fieldAddr (off := 2) (p := 2) fld33_2 rfl rfl rfl) ?_
        refine WL.val Wanted.none (Runs.load nagg22 rfl (st_19.cell (k := 1) rfl (part_one (u := .slice A0_2 n0_2 c0_2) (pre := (([.int .i64 a0_0] : List Value) ++ ([.int .i64 a0_1] : List Value))) (post := (([.slice A0_3 n0_3 c0_3] : List Value) ++ ([.bool a0_4] : List Value))) (by first | rfl | simp only [List.append_assoc, List.append_nil, List.nil_append, List.cons_append]) (by first | rfl | simp only [List.length_append, List.length_cons, List.length_nil, iv_length])))) ?_
        refine WL.val Wanted.none (Runs.move rfl) ?_
        obtain ⟨⟨p_25, q_26⟩, H⟩ := H
        obtain ⟨a_27, e_28⟩ := ((hb0_2.2.2.at st_19 (mem_T (A := [_, _]) (fun _ h_ => hs_14.1 _ h_)))).addr_iv ((x_17).toNat) (by omega)
        refine WL.val Wanted.none (Runs.indexAddr Try.underlying22 cells5 (by decide) rfl e_28 rfl p_25 (by rw [hb0_2.1]; exact q_26) (o := (x_17).toNat) (by first | rfl | omega)) ?_
        refine WL.val Wanted.none (Runs.load nagg5 rfl (((hb0_2.2.2.at st_19 (mem_T (A := [_, _]) (fun _ h_ => hs_14.1 _ h_)))).cell_iv e_28 (by omega))) ?_
        obtain ⟨⟨p_29, q_30⟩, H⟩ := H
        obtain ⟨a_31, e_32⟩ := (st_19.src_sl (k := 0) rfl).addr_iv ((x_17).toNat) (by omega)
        refine WL.val Wanted.none (Runs.indexAddr Try.underlying22 cells5 (by decide) rfl e_32 rfl p_29 (by rw [hn_16]; exact q_30) (o := (x_17).toNat) (by first | rfl | omega)) ?_
        obtain ⟨m_33, e_34, H⟩ := H
        refine WL.store_sl (i := 0) st_19 rfl cells5 rfl e_32 (by rw [iv_length]; omega) rfl rfl ?_
        intro w_35 st_36
        have hn_37 : 191 = m_33.length := by rw [e_34, List.length_set]; exact hn_16
        have st_36' : St w w_35 (.sl (some ⟨B_7, 0, none⟩) 191 191 (iv .u8 m_33) 5 1 :: .cells B_1 (([.int .i64 a0_0] : List Value) ++ (([.int .i64 a0_1] : List Value) ++ (([.slice A0_2 n0_2 c0_2] : List Value) ++ (([.slice A0_3 n0_3 c0_3] : List Value) ++ ([.bool a0_4] : List Value))))) 33 :: (T_13 ++ R)) := by rw [e_34, ← iv_set .u8 l_15 ((x_17).toNat) (gn l0_2 ((x_17).toNat))]; exact st_36
        refine WL.nil ?_
        refine QW.blk_n ?_
        refine QW.then_n ?_
        refine CW.region ?_
        refine WL.val Wanted.none (Runs.move rfl) ?_
        refine WL.val Wanted.none (Runs.add rfl rfl rfl) ?_
        refine WL.val Wanted.none (Runs.assign rfl) ?_
        refine WL.nil ?_
        exact QW.at [(1, .pointer (some ⟨B_1, 0, none⟩)), (2, .slice none 0 0), (3, .int .i64 191), (4, .slice (some ⟨B_7, 0, none⟩) 191 191), (5, .int .i64 (IntKind.i64.wrap (x_17 + 1)))] ⟨rfl, rfl, rfl, rfl, rfl, trivial⟩ ⟨T_13, m_33, IntKind.i64.wrap (x_17 + 1), rfl, H, hs_14, hn_37, st_36'⟩
      · have h_24 : (decide (x_17 < 191)) = false := (decide_eq_false c_23)
        refine CW.cf rfl h_24 ?_
        refine CW.exit ?_
        refine QW.then_x ?_
        refine QW.then_x ?_
        refine QW.blk_x ?_
        refine QW.then_n ?_
        refine CW.sub [(2, .slice none 0 0), (4, .slice (some ⟨B_7, 0, none⟩) 191 191)] ⟨rfl, rfl, trivial⟩ ?_
        refine CW.seq ?_
        refine CW.region ?_
        refine WL.val Wanted.none (Runs.move rfl) ?_
        refine WL.val Wanted.none (Runs.assign rfl) ?_
        refine WL.nil ?_
        refine QW.then_n ?_
        refine CW.ret ?_
        obtain rfl := H
        exact QW.ret1 rfl rfl ⟨T_13, (some ⟨B_7, 0, none⟩), 191, 191, hs_14, hn_16, rfl, (St.pickT (L := [_, _]) st_19 [0] (by decide))⟩
    · have h_22 : (decide (x_17 < (l0_2.length : Int))) = false := (decide_eq_false c_21)
      refine WL.off ?_ ?_; exact Wanted.guard (dj := 15) (by rfl) (evb (by rfl) h_22) (by rfl)
      refine WL.off ?_ ?_; exact Wanted.guard (dj := 15) (by rfl) (evb (by rfl) h_22) (by rfl)
      refine WL.off ?_ ?_; exact Wanted.guard (dj := 15) (by rfl) (evb (by rfl) h_22) (by rfl)
      refine WL.val Wanted.none (Runs.pick_f (evb rfl h_22) rfl) ?_
      refine WL.nil ?_
      refine QW.then_n ?_
      refine CW.cf rfl rfl ?_
      refine CW.exit ?_
      refine QW.then_x ?_
      refine QW.then_x ?_
      refine QW.blk_x ?_
      refine QW.then_n ?_
      refine CW.sub [(2, .slice none 0 0), (4, .slice (some ⟨B_7, 0, none⟩) 191 191)] ⟨rfl, rfl, trivial⟩ ?_
      refine CW.seq ?_
      refine CW.region ?_
      refine WL.val Wanted.none (Runs.move rfl) ?_
      refine WL.val Wanted.none (Runs.assign rfl) ?_
      refine WL.nil ?_
      refine QW.then_n ?_
      refine CW.ret ?_
      obtain rfl := H
      exact QW.ret1 rfl rfl ⟨T_13, (some ⟨B_7, 0, none⟩), 191, 191, hs_14, hn_16, rfl, (St.pickT (L := [_, _]) st_19 [0] (by decide))⟩
  · have h_6 : a0_4 = false := (Bool.eq_false_iff.mpr c_5)
    refine CW.cf rfl h_6 ?_
    refine CW.skip ?_
    refine QW.then_n ?_
    refine CW.seq ?_
    refine CW.region ?_
    refine WL.val Wanted.none (Runs.move rfl) ?_
    refine WL.make st_3 Try.underlying22 elem5 rfl rfl (by decide) (by decide) (by decide) (N := 192) rfl ?_
    intro B_38 w_39 st_40
    replace st_40 : St w w_39 (.sl (some ⟨B_38, 0, none⟩) 192 192 (iv .u8 (List.replicate 192 (0 : Int))) 5 1 :: .cells B_1 (([.int .i64 a0_0] : List Value) ++ (([.int .i64 a0_1] : List Value) ++ (([.slice A0_2 n0_2 c0_2] : List Value) ++ (([.slice A0_3 n0_3 c0_3] : List Value) ++ ([.bool a0_4] : List Value))))) 33 :: (T ++ R)) := by rw [iv_replicate] at st_40; exact st_40
    have hn_41 : 192 = (List.replicate 192 (0 : Int)).length := by simp
    refine WL.val Wanted.none (Runs.assign rfl) ?_
    refine WL.nil ?_
    refine QW.then_n ?_
    refine CW.seq ?_
    refine CW.seq ?_
    refine CW.region ?_
    refine WL.val Wanted.none (Runs.assign rfl) ?_
    refine WL.nil ?_
    refine QW.then_n ?_
    refine CW.block ?_
    obtain ⟨k_43, H⟩ := H
    refine CW.sub [(1, .pointer (some ⟨B_1, 0, none⟩)), (2, .slice none 0 0), (3, .int .i64 192), (4, .slice (some ⟨B_38, 0, none⟩) 192 192), (5, .int .i64 0)] ⟨rfl, rfl, rfl, rfl, rfl, trivial⟩ ?_
    refine CW.loop (fun kL2 l_ w_ => ∃ (T_44 : Pool) (l_46 : List Int) (x_48 : Int), l_ = [(1, .pointer (some ⟨B_1, 0, none⟩)), (2, .slice none 0 0), (3, .int .i64 192), (4, .slice (some ⟨B_38, 0, none⟩) 192 192), (5, .int .i64 x_48)] ∧ reliquarylaw06_full.L2 l0_2 lr0 kL2 l_46 x_48 ∧ (Pl T T_44) ∧ (192 = l_46.length) ∧ St w w_ (.sl (some ⟨B_38, 0, none⟩) 192 192 (iv .u8 l_46) 5 1 :: .cells B_1 (([.int .i64 a0_0] : List Value) ++ (([.int .i64 a0_1] : List Value) ++ (([.slice A0_2 n0_2 c0_2] : List Value) ++ (([.slice A0_3 n0_3 c0_3] : List Value) ++ ([.bool a0_4] : List Value))))) 33 :: (T_44 ++ R))) (k := k_43) ⟨T, List.replicate 192 (0 : Int), 0, rfl, H, Pl.refl, hn_41, st_40⟩ (fun _ _ h => by obtain ⟨_, _, _, _, h, _⟩ := h; exact h.elim) ?_
    rintro kL2 l_51 w_49 ⟨T_44, l_46, x_48, rfl, H, hs_45, hn_47, st_50⟩
    refine CW.seq ?_
    refine CW.seq ?_
    refine CW.region ?_
    refine WL.val Wanted.none (Runs.move rfl) ?_
    refine WL.val Wanted.none (Runs.fieldAddr (off := 2) (p := 2) fld33_2 rfl rfl rfl) ?_
    refine WL.val Wanted.none (Runs.load nagg22 rfl (st_50.cell (k := 1) rfl (part_one (u := .slice A0_2 n0_2 c0_2) (pre := (([.int .i64 a0_0] : List Value) ++ ([.int .i64 a0_1] : List Value))) (post := (([.slice A0_3 n0_3 c0_3] : List Value) ++ ([.bool a0_4] : List Value))) (by first | rfl | simp only [List.append_assoc, List.append_nil, List.nil_append, List.cons_append]) (by first | rfl | simp only [List.length_append, List.length_cons, List.length_nil, iv_length])))) ?_
    refine WL.val Wanted.none (Runs.len_sl Try.underlying22 rfl (by rw [hb0_2.1])) ?_
    refine WL.val Wanted.none (Runs.lss rfl rfl rfl) ?_
    refine WL.val Wanted.none (Runs.move rfl) ?_
    rcases H with ⟨c_52, H⟩ | ⟨c_52, H⟩
    · have h_53 : (decide (x_48 < (l0_2.length : Int))) = true := (decide_eq_true c_52)
      refine WL.on ?_ ?_; exact Wanted.guard (dj := 15) (by rfl) (evb (by rfl) h_53) (by rfl)
      refine WL.val Wanted.none (Runs.move rfl) ?_
      refine WL.on ?_ ?_; exact Wanted.guard (dj := 15) (by rfl) (evb (by rfl) h_53) (by rfl)
      refine WL.val Wanted.none (Runs.move rfl) ?_
      refine WL.on ?_ ?_; exact Wanted.guard (dj := 15) (by rfl) (evb (by rfl) h_53) (by rfl)
      refine WL.val Wanted.none (Runs.lss rfl rfl rfl) ?_
      refine WL.val Wanted.none (Runs.pick_t (evb rfl h_53) rfl) ?_
      refine WL.nil ?_
      refine QW.then_n ?_
      rcases H with ⟨c_54, H⟩ | ⟨c_54, H⟩
      · have h_55 : (decide (x_48 < 192)) = true := (decide_eq_true c_54)
        refine CW.ct rfl h_55 ?_
        refine CW.skip ?_
        refine QW.then_n ?_
        refine CW.seq ?_
        refine CW.block ?_
        refine CW.region ?_
        refine WL.val Wanted.none (Runs.move rfl) ?_
        refine WL.val Wanted.none (Runs.move rfl) ?_
        refine WL.val Wanted.none (Runs.fieldAddr (off := 2) (p := 2) fld33_2 rfl rfl rfl) ?_
        refine WL.val Wanted.none (Runs.load nagg22 rfl (st_50.cell (k := 1) rfl (part_one (u := .slice A0_2 n0_2 c0_2) (pre := (([.int .i64 a0_0] : List Value) ++ ([.int .i64 a0_1] : List Value))) (post := (([.slice A0_3 n0_3 c0_3] : List Value) ++ ([.bool a0_4] : List Value))) (by first | rfl | simp only [List.append_assoc, List.append_nil, List.nil_append, List.cons_append]) (by first | rfl | simp only [List.length_append, List.length_cons, List.length_nil, iv_length])))) ?_
        refine WL.val Wanted.none (Runs.move rfl) ?_
        obtain ⟨⟨p_56, q_57⟩, H⟩ := H
        obtain ⟨a_58, e_59⟩ := ((hb0_2.2.2.at st_50 (mem_T (A := [_, _]) (fun _ h_ => hs_45.1 _ h_)))).addr_iv ((x_48).toNat) (by omega)
        refine WL.val Wanted.none (Runs.indexAddr Try.underlying22 cells5 (by decide) rfl e_59 rfl p_56 (by rw [hb0_2.1]; exact q_57) (o := (x_48).toNat) (by first | rfl | omega)) ?_
        refine WL.val Wanted.none (Runs.load nagg5 rfl (((hb0_2.2.2.at st_50 (mem_T (A := [_, _]) (fun _ h_ => hs_45.1 _ h_)))).cell_iv e_59 (by omega))) ?_
        obtain ⟨⟨p_60, q_61⟩, H⟩ := H
        obtain ⟨a_62, e_63⟩ := (st_50.src_sl (k := 0) rfl).addr_iv ((x_48).toNat) (by omega)
        refine WL.val Wanted.none (Runs.indexAddr Try.underlying22 cells5 (by decide) rfl e_63 rfl p_60 (by rw [hn_47]; exact q_61) (o := (x_48).toNat) (by first | rfl | omega)) ?_
        obtain ⟨m_64, e_65, H⟩ := H
        refine WL.store_sl (i := 0) st_50 rfl cells5 rfl e_63 (by rw [iv_length]; omega) rfl rfl ?_
        intro w_66 st_67
        have hn_68 : 192 = m_64.length := by rw [e_65, List.length_set]; exact hn_47
        have st_67' : St w w_66 (.sl (some ⟨B_38, 0, none⟩) 192 192 (iv .u8 m_64) 5 1 :: .cells B_1 (([.int .i64 a0_0] : List Value) ++ (([.int .i64 a0_1] : List Value) ++ (([.slice A0_2 n0_2 c0_2] : List Value) ++ (([.slice A0_3 n0_3 c0_3] : List Value) ++ ([.bool a0_4] : List Value))))) 33 :: (T_44 ++ R)) := by rw [e_65, ← iv_set .u8 l_46 ((x_48).toNat) (gn l0_2 ((x_48).toNat))]; exact st_67
        refine WL.nil ?_
        refine QW.blk_n ?_
        refine QW.then_n ?_
        refine CW.region ?_
        refine WL.val Wanted.none (Runs.move rfl) ?_
        refine WL.val Wanted.none (Runs.add rfl rfl rfl) ?_
        refine WL.val Wanted.none (Runs.assign rfl) ?_
        refine WL.nil ?_
        exact QW.at [(1, .pointer (some ⟨B_1, 0, none⟩)), (2, .slice none 0 0), (3, .int .i64 192), (4, .slice (some ⟨B_38, 0, none⟩) 192 192), (5, .int .i64 (IntKind.i64.wrap (x_48 + 1)))] ⟨rfl, rfl, rfl, rfl, rfl, trivial⟩ ⟨T_44, m_64, IntKind.i64.wrap (x_48 + 1), rfl, H, hs_45, hn_68, st_67'⟩
      · have h_55 : (decide (x_48 < 192)) = false := (decide_eq_false c_54)
        refine CW.cf rfl h_55 ?_
        refine CW.exit ?_
        refine QW.then_x ?_
        refine QW.then_x ?_
        refine QW.blk_x ?_
        refine QW.then_n ?_
        refine CW.sub [(2, .slice none 0 0), (4, .slice (some ⟨B_38, 0, none⟩) 192 192)] ⟨rfl, rfl, trivial⟩ ?_
        refine CW.seq ?_
        refine CW.region ?_
        refine WL.val Wanted.none (Runs.move rfl) ?_
        refine WL.val Wanted.none (Runs.assign rfl) ?_
        refine WL.nil ?_
        refine QW.then_n ?_
        refine CW.ret ?_
        obtain rfl := H
        exact QW.ret1 rfl rfl ⟨T_44, (some ⟨B_38, 0, none⟩), 192, 192, hs_45, hn_47, rfl, (St.pickT (L := [_, _]) st_50 [0] (by decide))⟩
    · have h_53 : (decide (x_48 < (l0_2.length : Int))) = false := (decide_eq_false c_52)
      refine WL.off ?_ ?_; exact Wanted.guard (dj := 15) (by rfl) (evb (by rfl) h_53) (by rfl)
      refine WL.off ?_ ?_; exact Wanted.guard (dj := 15) (by rfl) (evb (by rfl) h_53) (by rfl)
      refine WL.off ?_ ?_; exact Wanted.guard (dj := 15) (by rfl) (evb (by rfl) h_53) (by rfl)
      refine WL.val Wanted.none (Runs.pick_f (evb rfl h_53) rfl) ?_
      refine WL.nil ?_
      refine QW.then_n ?_
      refine CW.cf rfl rfl ?_
      refine CW.exit ?_
      refine QW.then_x ?_
      refine QW.then_x ?_
      refine QW.blk_x ?_
      refine QW.then_n ?_
      refine CW.sub [(2, .slice none 0 0), (4, .slice (some ⟨B_38, 0, none⟩) 192 192)] ⟨rfl, rfl, trivial⟩ ?_
      refine CW.seq ?_
      refine CW.region ?_
      refine WL.val Wanted.none (Runs.move rfl) ?_
      refine WL.val Wanted.none (Runs.assign rfl) ?_
      refine WL.nil ?_
      refine QW.then_n ?_
      refine CW.ret ?_
      obtain rfl := H
      exact QW.ret1 rfl rfl ⟨T_44, (some ⟨B_38, 0, none⟩), 192, 192, hs_45, hn_47, rfl, (St.pickT (L := [_, _]) st_50 [0] (by decide))⟩

/-! ### disk_Disk_Flush: function 16 -/
def disk_Disk_Flush.L1 (l0_1 : List R69) (a0_2 : Int) (a0_3 : Bool) (l0_4 : List R71) (ls0_0 : List R22) (ls0_1 : List R69) (as0_2 : Int) (as0_3 : Bool) (ls0_4 : List R71) (ar0 : Int) : Nat → (List R22) → Int → Prop
  | 0, _, _ => False
  | kL1 + 1, l_6, x_10 => ((x_10 < (l0_1.length : Int) ∧ ((0 ≤ x_10 ∧ x_10 < (l0_1.length : Int)) ∧ ((0 ≤ ((gx l0_1 ((x_10).toNat)).1) ∧ ((gx l0_1 ((x_10).toNat)).1) < (l_6.length : Int)) ∧ (∃ m_48 : List R22, m_48 = List.set l_6 (((gx l0_1 ((x_10).toNat)).1).toNat) (gx l0_1 ((x_10).toNat)).2 ∧ disk_Disk_Flush.L1 l0_1 a0_2 a0_3 l0_4 ls0_0 ls0_1 as0_2 as0_3 ls0_4 ar0 kL1 m_48 (IntKind.i64.wrap (x_10 + 1)))))) ∨ (¬ (x_10 < (l0_1.length : Int)) ∧ (∃ m_73 : List R71, m_73 = l0_4 ++ ([(3, 0)] : List R71) ∧ (m_73.length ≤ 1099511627776 ∧ ls0_0 = l_6 ∧ ls0_1 = ([] : List R69) ∧ as0_2 = a0_2 ∧ as0_3 = a0_3 ∧ ls0_4 = m_73 ∧ ar0 = 0))))
def disk_Disk_Flush.rel (l0_0 : List R22) (l0_1 : List R69) (a0_2 : Int) (a0_3 : Bool) (l0_4 : List R71) (ls0_0 : List R22) (ls0_1 : List R69) (as0_2 : Int) (as0_3 : Bool) (ls0_4 : List R71) (ar0 : Int) : Prop := ((a0_3 = true ∧ ls0_0 = l0_0 ∧ ls0_1 = l0_1 ∧ as0_2 = a0_2 ∧ as0_3 = a0_3 ∧ ls0_4 = l0_4 ∧ ar0 = 13) ∨ (¬ (a0_3 = true) ∧ (∃ k_ : Nat, disk_Disk_Flush.L1 l0_1 a0_2 a0_3 l0_4 ls0_0 ls0_1 as0_2 as0_3 ls0_4 ar0 k_ l0_0 0)))
set_option maxHeartbeats 1000000 in
set_option maxRecDepth 100000 in
theorem disk_Disk_Flush.calls (w w1 : World) (T R : Pool) (l0_0 : List R22) (l0_1 : List R69) (a0_2 : Int) (a0_3 : Bool) (l0_4 : List R71) (b0 : Nat) (A0_0 : Option Addr) (n0_0 : Nat) (c0_0 : Nat) (x0_0 : Cells) (A0_1 : Option Addr) (n0_1 : Nat) (c0_1 : Nat) (x0_1 : Cells) (A0_4 : Option Addr) (n0_4 : Nat) (c0_4 : Nat) (x0_4 : Cells) (st0 : St w w1 (.cells b0 (([.slice A0_0 n0_0 c0_0] : List Value) ++ (([.slice A0_1 n0_1 c0_1] : List Value) ++ (([.int .i64 a0_2] : List Value) ++ (([.bool a0_3] : List Value) ++ ([.slice A0_4 n0_4 c0_4] : List Value))))) 66 :: .sl A0_0 c0_0 n0_0 x0_0 22 1 :: .sl A0_1 c0_1 n0_1 x0_1 69 2 :: .sl A0_4 c0_4 n0_4 x0_4 71 2 :: (T ++ R))) (hn0_0 : n0_0 = l0_0.length) (hx0_0 : HRs T (f22 w) x0_0 l0_0) (hn0_1 : n0_1 = l0_1.length) (hx0_1 : HRs T (f69 w) x0_1 l0_1) (hn0_4 : n0_4 = l0_4.length) (hx0_4 : HRs T (f71 w) x0_4 l0_4) (ls0_0 : List R22) (ls0_1 : List R69) (as0_2 : Int) (as0_3 : Bool) (ls0_4 : List R71) (ar0 : Int) (H : disk_Disk_Flush.rel l0_0 l0_1 a0_2 a0_3 l0_4 ls0_0 ls0_1 as0_2 as0_3 ls0_4 ar0) :
    Calls Try.prog 16 #[.pointer (some ⟨b0, 0, none⟩)] w1 fun e w' => ∃ T' As0_0 ns0_0 cs0_0 xs0_0 As0_1 ns0_1 cs0_1 xs0_1 As0_4 ns0_4 cs0_4 xs0_4, Pl T T' ∧ ns0_0 = ls0_0.length ∧ HRs T' (f22 w) xs0_0 ls0_0 ∧ ns0_1 = ls0_1.length ∧ HRs T' (f69 w) xs0_1 ls0_1 ∧ ns0_4 = ls0_4.length ∧ HRs T' (f71 w) xs0_4 ls0_4 ∧ e = .returned (.int .i64 ar0) ∧ St w w' (.cells b0 (([.slice As0_0 ns0_0 cs0_0] : List Value) ++ (([.slice As0_1 ns0_1 cs0_1] : List Value) ++ (([.int .i64 as0_2] : List Value) ++ (([.bool as0_3] : List Value) ++ ([.slice As0_4 ns0_4 cs0_4] : List Value))))) 66 :: .sl As0_0 cs0_0 ns0_0 xs0_0 22 1 :: .sl As0_1 cs0_1 ns0_1 xs0_1 69 2 :: .sl As0_4 cs0_4 ns0_4 xs0_4 71 2 :: (T' ++ R)) := by
  refine CW.enter Try.func16 rfl (n := 45) rfl [.pointer (some ⟨b0, 0, none⟩)] (Nat.le_of_ble_eq_true rfl) ?_
  refine CW.sub [(0, .pointer (some ⟨b0, 0, none⟩))] ⟨rfl, trivial⟩ ?_
  refine CW.seq ?_
  refine CW.region ?_
  refine WL.val Wanted.none (Runs.assign rfl) ?_
  refine WL.nil ?_
  refine QW.then_n ?_
  refine CW.seq ?_
  refine CW.block ?_
  refine CW.seq ?_
  refine CW.region ?_
  refine WL.val Wanted.none (Runs.move rfl) ?_
  refine WL.val Wanted.none (Runs.eql_ptr Try.underlying25 rfl rfl rfl) ?_
  refine WL.val Wanted.none (Runs.assign rfl) ?_
  refine WL.nil ?_
  refine QW.then_n ?_
  refine CW.cf rfl rfl ?_
  refine CW.seq ?_
  refine CW.region ?_
  refine WL.val Wanted.none (Runs.move rfl) ?_
  refine WL.val Wanted.none (Runs.nilCheck rfl) ?_
  refine WL.val Wanted.none (Runs.fieldAddr (off := 3) (p := 3) fld66_3 rfl rfl rfl) ?_
  refine WL.val Wanted.none (Runs.load nagg4 rfl (st0.cell (k := 0) rfl (part_one (u := .bool a0_3) (pre := (([.slice A0_0 n0_0 c0_0] : List Value) ++ (([.slice A0_1 n0_1 c0_1] : List Value) ++ ([.int .i64 a0_2] : List Value)))) (post := (([.slice A0_4 n0_4 c0_4] : List Value))) (by first | rfl | simp only [List.append_assoc, List.append_nil, List.nil_append, List.cons_append]) (by first | rfl | simp only [List.length_append, List.length_cons, List.length_nil, iv_length])))) ?_
  refine WL.val Wanted.none (Runs.assign rfl) ?_
  refine WL.nil ?_
  refine QW.then_n ?_
  refine CW.sub [(0, .pointer (some ⟨b0, 0, none⟩)), (2, .int .i64 0), (8, .bool a0_3)] ⟨rfl, rfl, rfl, trivial⟩ ?_
  rcases H with ⟨c_1, H⟩ | ⟨c_1, H⟩
  · have h_2 : a0_3 = true := c_1
    refine CW.ct rfl h_2 ?_
    refine CW.seq ?_
    refine CW.region ?_
    refine WL.val Wanted.none (Runs.assign rfl) ?_
    refine WL.nil ?_
    refine QW.then_n ?_
    refine CW.ret ?_
    refine QW.blk_r ?_
    refine QW.then_r ?_
    obtain ⟨rfl, rfl, rfl, rfl, rfl, rfl⟩ := H
    exact QW.ret1 rfl rfl ⟨T, A0_0, n0_0, c0_0, x0_0, A0_1, n0_1, c0_1, x0_1, A0_4, n0_4, c0_4, x0_4, Pl.refl, hn0_0, hx0_0, hn0_1, hx0_1, hn0_4, hx0_4, rfl, (St.pickT (L := [_, _, _, _]) st0 [0, 1, 2, 3] (by decide))⟩
  · have h_2 : a0_3 = false := (Bool.eq_false_iff.mpr c_1)
    refine CW.cf rfl h_2 ?_
    refine CW.skip ?_
    refine QW.blk_n ?_
    refine QW.then_n ?_
    refine CW.seq ?_
    refine CW.seq ?_
    refine CW.region ?_
    refine WL.val Wanted.none (Runs.move rfl) ?_
    refine WL.val Wanted.none (Runs.nilCheck rfl) ?_
    refine WL.val Wanted.none (Runs.fieldAddr (off := 1) (p := 1) fld66_1 rfl rfl rfl) ?_
    refine WL.val Wanted.none (Runs.load nagg64 rfl (st0.cell (k := 0) rfl (part_one (u := .slice A0_1 n0_1 c0_1) (pre := (([.slice A0_0 n0_0 c0_0] : List Value))) (post := (([.int .i64 a0_2] : List Value) ++ (([.bool a0_3] : List Value) ++ ([.slice A0_4 n0_4 c0_4] : List Value)))) (by first | rfl | simp only [List.append_assoc, List.append_nil, List.nil_append, List.cons_append]) (by first | rfl | simp only [List.length_append, List.length_cons, List.length_nil, iv_length])))) ?_
    refine WL.val Wanted.none (Runs.len_sl Try.underlying64 rfl (by rw [hn0_1])) ?_
    refine WL.val Wanted.none (Runs.move rfl) ?_
    refine WL.nil ?_
    refine QW.then_n ?_
    refine CW.block ?_
    obtain ⟨k_3, H⟩ := H
    refine CW.sub [(0, .pointer (some ⟨b0, 0, none⟩)), (2, .int .i64 0), (16, .slice A0_1 n0_1 c0_1), (17, .int .i64 (l0_1.length : Int)), (18, .int .i64 0)] ⟨rfl, rfl, rfl, rfl, rfl, trivial⟩ ?_
    refine CW.loop (fun kL1 l_ w_ => ∃ (T_4 : Pool) (x_8 : Cells) (l_6 : List R22) (x_10 : Int), l_ = [(0, .pointer (some ⟨b0, 0, none⟩)), (2, .int .i64 0), (16, .slice A0_1 n0_1 c0_1), (17, .int .i64 (l0_1.length : Int)), (18, .int .i64 x_10)] ∧ disk_Disk_Flush.L1 l0_1 a0_2 a0_3 l0_4 ls0_0 ls0_1 as0_2 as0_3 ls0_4 ar0 kL1 l_6 x_10 ∧ (Pl T T_4) ∧ (n0_0 = l_6.length) ∧ (HRs T_4 (f22 w) x_8 l_6) ∧ St w w_ (.cells b0 (([.slice A0_0 n0_0 c0_0] : List Value) ++ (([.slice A0_1 n0_1 c0_1] : List Value) ++ (([.int .i64 a0_2] : List Value) ++ (([.bool a0_3] : List Value) ++ ([.slice A0_4 n0_4 c0_4] : List Value))))) 66 :: .sl A0_0 c0_0 n0_0 x_8 22 1 :: .sl A0_1 c0_1 n0_1 x0_1 69 2 :: .sl A0_4 c0_4 n0_4 x0_4 71 2 :: (T_4 ++ R))) (k := k_3) ⟨T, x0_0, l0_0, 0, rfl, H, Pl.refl, hn0_0, hx0_0, st0⟩ (fun _ _ h => by obtain ⟨_, _, _, _, _, h, _⟩ := h; exact h.elim) ?_
    rintro kL1 l_13 w_11 ⟨T_4, x_8, l_6, x_10, rfl, H, hs_5, hn_7, hx_9, st_12⟩
    refine CW.seq ?_
    refine CW.region ?_
    refine WL.val Wanted.none (Runs.lss rfl rfl rfl) ?_
    refine WL.nil ?_
    refine QW.then_n ?_
    refine CW.seq ?_
    rcases H with ⟨c_14, H⟩ | ⟨c_14, H⟩
    · have h_15 : (decide (x_10 < (l0_1.length : Int))) = true := (decide_eq_true c_14)
      refine CW.ct rfl h_15 ?_
      refine CW.skip ?_
      refine QW.then_n ?_
      refine CW.seq ?_
      refine CW.block ?_
      refine CW.seq ?_
      refine CW.region ?_
      obtain ⟨⟨p_16, q_17⟩, H⟩ := H
      obtain ⟨a_18, e_19, ms_20, hc_21, hm_22⟩ := el_get (i := (x_10).toNat) (st_12.src_sl (k := 2) rfl) (hx0_1.mono (fun _ h_ => hs_5.1 _ h_)) (fz69 w) (by decide) (by omega)
      obtain ⟨A_23, n_24, c_25, em_27, hb_26⟩ := inv69 hm_22
      replace em_27 : ms_20 = ([.int .i64 ((gx l0_1 ((x_10).toNat)).1)] : List Value) ++ ([.slice A_23 n_24 c_25] : List Value) := em_27
      subst em_27
      refine WL.val Wanted.none (Runs.indexAddr Try.underlying64 cells69 (by decide) rfl e_19 rfl p_16 (by rw [show n0_1 = l0_1.length from hn0_1]; exact q_17) (o := ((x_10).toNat) * 2) (by first | rfl | omega)) ?_
      refine WL.val Wanted.none (Runs.load_srcR row69 rfl (Src.cut (st_12.src_sl (k := 2) rfl) e_19 hc_21) rfl) ?_
      refine WL.alloc st_12 zero69 ?_
      intro B_28 w_29 st_30
      replace st_30 : St w w_29 (.cells B_28 (([.int .i64 0] : List Value) ++ ([.slice none 0 0] : List Value)) 69 :: .cells b0 (([.slice A0_0 n0_0 c0_0] : List Value) ++ (([.slice A0_1 n0_1 c0_1] : List Value) ++ (([.int .i64 a0_2] : List Value) ++ (([.bool a0_3] : List Value) ++ ([.slice A0_4 n0_4 c0_4] : List Value))))) 66 :: .sl A0_0 c0_0 n0_0 x_8 22 1 :: .sl A0_1 c0_1 n0_1 x0_1 69 2 :: .sl A0_4 c0_4 n0_4 x0_4 71 2 :: (T_4 ++ R)) := st_30
      refine WL.store_mid (i := 0) (pre := (([] : List Value))) (mid := (([.int .i64 0] : List Value) ++ ([.slice none 0 0] : List Value))) (post := (([] : List Value))) (ms := (([.int .i64 ((gx l0_1 ((x_10).toNat)).1)] : List Value) ++ ([.slice A_23 n_24 c_25] : List Value))) st_30 rfl row69 (by first | rfl | simp only [List.append_assoc, List.append_nil, List.nil_append, List.cons_append]) (by first | rfl | simp only [List.length_append, List.length_cons, List.length_nil, iv_length]) rfl rfl (by first | rfl | simp only [List.length_append, List.length_cons, List.length_nil, iv_length]) (by first | rfl | simp only [List.length_append, List.length_cons, List.length_nil, iv_length]) (by intro u hu; simp only [List.mem_append, List.mem_singleton] at hu; rcases hu with hu | hu <;> first | exact one_iv _ _ u hu | (subst hu; rfl)) ?_
      intro w_32 st_33
      replace st_33 : St w w_32 (.cells B_28 (([.int .i64 ((gx l0_1 ((x_10).toNat)).1)] : List Value) ++ ([.slice A_23 n_24 c_25] : List Value)) 69 :: .cells b0 (([.slice A0_0 n0_0 c0_0] : List Value) ++ (([.slice A0_1 n0_1 c0_1] : List Value) ++ (([.int .i64 a0_2] : List Value) ++ (([.bool a0_3] : List Value) ++ ([.slice A0_4 n0_4 c0_4] : List Value))))) 66 :: .sl A0_0 c0_0 n0_0 x_8 22 1 :: .sl A0_1 c0_1 n0_1 x0_1 69 2 :: .sl A0_4 c0_4 n0_4 x0_4 71 2 :: (T_4 ++ R)) := by have e_ : (([.int .i64 ((gx l0_1 ((x_10).toNat)).1)] : List Value) ++ ([.slice A_23 n_24 c_25] : List Value)) = (([] : List Value)) ++ ((([.int .i64 ((gx l0_1 ((x_10).toNat)).1)] : List Value) ++ ([.slice A_23 n_24 c_25] : List Value)) ++ (([] : List Value))) := (by first | rfl | simp only [List.append_assoc, List.append_nil, List.nil_append, List.cons_append]); have h_ : St w w_32 (.cells B_28 ((([] : List Value)) ++ ((([.int .i64 ((gx l0_1 ((x_10).toNat)).1)] : List Value) ++ ([.slice A_23 n_24 c_25] : List Value)) ++ (([] : List Value)))) 69 :: .cells b0 (([.slice A0_0 n0_0 c0_0] : List Value) ++ (([.slice A0_1 n0_1 c0_1] : List Value) ++ (([.int .i64 a0_2] : List Value) ++ (([.bool a0_3] : List Value) ++ ([.slice A0_4 n0_4 c0_4] : List Value))))) 66 :: .sl A0_0 c0_0 n0_0 x_8 22 1 :: .sl A0_1 c0_1 n0_1 x0_1 69 2 :: .sl A0_4 c0_4 n0_4 x0_4 71 2 :: (T_4 ++ R)) := st_33; rw [← e_] at h_; exact h_
      refine WL.nil ?_
      refine QW.then_n ?_
      refine CW.region_qt 9 wide (by kernel_rfl) st_33 ?_
      refine HL.val Wanted.none (fun wq sq => (Runs.move rfl)) ?_
      refine HL.val Wanted.none (fun wq sq => (Runs.nilCheck rfl)) ?_
      refine HL.val Wanted.none (fun wq sq => (Runs.fieldAddr (off := 0) (p := 0) fld66_0 rfl rfl rfl)) ?_
      refine HL.val Wanted.none (fun wq sq => (Runs.load nagg41 rfl (sq.cell (k := 1) rfl (part_one (u := .slice A0_0 n0_0 c0_0) (pre := (([] : List Value))) (post := (([.slice A0_1 n0_1 c0_1] : List Value) ++ (([.int .i64 a0_2] : List Value) ++ (([.bool a0_3] : List Value) ++ ([.slice A0_4 n0_4 c0_4] : List Value))))) (by first | rfl | simp only [List.append_assoc, List.append_nil, List.nil_append, List.cons_append]) (by first | rfl | simp only [List.length_append, List.length_cons, List.length_nil, iv_length]))))) ?_
      refine HL.val Wanted.none (fun wq sq => (Runs.fieldAddr (off := 0) (p := 0) fld69_0 rfl rfl rfl)) ?_
      refine HL.val Wanted.none (fun wq sq => (Runs.load nagg3 rfl (sq.cell (k := 0) rfl (part_one (u := .int .i64 ((gx l0_1 ((x_10).toNat)).1)) (pre := (([] : List Value))) (post := (([.slice A_23 n_24 c_25] : List Value))) (by first | rfl | simp only [List.append_assoc, List.append_nil, List.nil_append, List.cons_append]) (by first | rfl | simp only [List.length_append, List.length_cons, List.length_nil, iv_length]))))) ?_
      refine HL.val Wanted.none (fun wq sq => (Runs.fieldAddr (off := 1) (p := 1) fld69_1 rfl rfl rfl)) ?_
      refine HL.val Wanted.none (fun wq sq => (Runs.load nagg22 rfl (sq.cell (k := 0) rfl (part_one (u := .slice A_23 n_24 c_25) (pre := (([.int .i64 ((gx l0_1 ((x_10).toNat)).1)] : List Value))) (post := (([] : List Value))) (by first | rfl | simp only [List.append_assoc, List.append_nil, List.nil_append, List.cons_append]) (by first | rfl | simp only [List.length_append, List.length_cons, List.length_nil, iv_length]))))) ?_
      obtain ⟨⟨p_34, q_35⟩, H⟩ := H
      obtain ⟨a_36, e_37, ms_38, hc_39, hm_40⟩ := el_get (i := ((gx l0_1 ((x_10).toNat)).1).toNat) (st_33.src_sl (k := 2) rfl) hx_9 (fz22 w) (by decide) (by omega)
      obtain ⟨A_41, n_42, c_43, em_45, hb_44⟩ := inv22 hm_40
      replace em_45 : ms_38 = ([.slice A_41 n_42 c_43] : List Value) := em_45
      subst em_45
      refine HL.val Wanted.none (fun wq sq => (Runs.indexAddr Try.underlying41 cells22 (by decide) rfl e_37 rfl p_34 (by rw [show n0_0 = l_6.length from hn_7]; exact q_35) (o := (((gx l0_1 ((x_10).toNat)).1).toNat) * 1) (by first | rfl | omega))) ?_
      refine HL.nil (fun w_46 st_47 => ?_)
      obtain ⟨m_48, e_49, H⟩ := H
      have hl_56 := (hx_9).length (fz22 w)
      refine WL.storeF (i := 2) (o := (((gx l0_1 ((x_10).toNat)).1).toNat) * 1) (f := 0) st_47 rfl e_37 cells22 rfl rfl (by omega) rfl ?_
      intro w_50 st_51
      obtain ⟨x_53, e_54⟩ : ∃ x_ : Cells, x_ = List.set x_8 ((((gx l0_1 ((x_10).toNat)).1).toNat) * 1 + 0) (.slice A_23 n_24 c_25) := ⟨_, rfl⟩
      have hx_55 : HRs T_4 (f22 w) x_53 m_48 := by rw [e_54, e_49]; exact HRs.setF (j := 0) (u := .slice A_23 n_24 c_25) hx_9 (fz22 w) (by omega) (by decide) hc_39 (.cons ⟨_, _, _, rfl, hb_26⟩ .nil)
      have hn_52 : n0_0 = m_48.length := by rw [e_49, List.length_set]; exact hn_7
      replace st_51 : St w w_50 (.cells B_28 (([.int .i64 ((gx l0_1 ((x_10).toNat)).1)] : List Value) ++ ([.slice A_23 n_24 c_25] : List Value)) 69 :: .cells b0 (([.slice A0_0 n0_0 c0_0] : List Value) ++ (([.slice A0_1 n0_1 c0_1] : List Value) ++ (([.int .i64 a0_2] : List Value) ++ (([.bool a0_3] : List Value) ++ ([.slice A0_4 n0_4 c0_4] : List Value))))) 66 :: .sl A0_0 c0_0 n0_0 x_53 22 1 :: .sl A0_1 c0_1 n0_1 x0_1 69 2 :: .sl A0_4 c0_4 n0_4 x0_4 71 2 :: (T_4 ++ R)) := by rw [e_54]; exact st_51
      refine WL.nil ?_
      refine QW.blk_n ?_
      refine QW.then_n ?_
      refine CW.region ?_
      refine WL.val Wanted.none (Runs.add rfl rfl rfl) ?_
      refine WL.val Wanted.none (Runs.move rfl) ?_
      refine WL.nil ?_
      have st_51' := (St.pickT (L := [_, _, _, _, _]) st_51 [1, 2, 3, 4] (by decide))
      exact QW.at [(0, .pointer (some ⟨b0, 0, none⟩)), (2, .int .i64 0), (16, .slice A0_1 n0_1 c0_1), (17, .int .i64 (l0_1.length : Int)), (18, .int .i64 (IntKind.i64.wrap (x_10 + 1)))] ⟨rfl, rfl, rfl, rfl, rfl, trivial⟩ ⟨T_4, x_53, m_48, IntKind.i64.wrap (x_10 + 1), rfl, H, hs_5, hn_52, hx_55, st_51'⟩
    · have h_15 : (decide (x_10 < (l0_1.length : Int))) = false := (decide_eq_false c_14)
      refine CW.cf rfl h_15 ?_
      refine CW.exit ?_
      refine QW.then_x ?_
      refine QW.then_x ?_
      refine QW.blk_x ?_
      refine QW.then_n ?_
      refine CW.seq ?_
      refine CW.region ?_
      refine WL.val Wanted.none (Runs.move rfl) ?_
      refine WL.val Wanted.none (Runs.nilCheck rfl) ?_
      refine WL.val Wanted.none (Runs.fieldAddr (off := 1) (p := 1) fld66_1 rfl rfl rfl) ?_
      refine WL.store_one (i := 0) (u0 := .slice A0_1 n0_1 c0_1) (pre := (([.slice A0_0 n0_0 c0_0] : List Value))) (post := (([.int .i64 a0_2] : List Value) ++ (([.bool a0_3] : List Value) ++ ([.slice A0_4 n0_4 c0_4] : List Value)))) st_12 rfl cells64 (by first | rfl | simp only [List.append_assoc, List.append_nil, List.nil_append, List.cons_append]) (by first | rfl | simp only [List.length_append, List.length_cons, List.length_nil, iv_length]) rfl rfl rfl ?_
      intro w_57 st_58
      replace st_58 : St w w_57 (.cells b0 (([.slice A0_0 n0_0 c0_0] : List Value) ++ (([.slice none 0 0] : List Value) ++ (([.int .i64 a0_2] : List Value) ++ (([.bool a0_3] : List Value) ++ ([.slice A0_4 n0_4 c0_4] : List Value))))) 66 :: .sl A0_0 c0_0 n0_0 x_8 22 1 :: .sl A0_1 c0_1 n0_1 x0_1 69 2 :: .sl A0_4 c0_4 n0_4 x0_4 71 2 :: (T_4 ++ R)) := by have e_ : (([.slice A0_0 n0_0 c0_0] : List Value) ++ (([.slice none 0 0] : List Value) ++ (([.int .i64 a0_2] : List Value) ++ (([.bool a0_3] : List Value) ++ ([.slice A0_4 n0_4 c0_4] : List Value))))) = (([.slice A0_0 n0_0 c0_0] : List Value)) ++ ((([.slice none 0 0] : List Value)) ++ (([.int .i64 a0_2] : List Value) ++ (([.bool a0_3] : List Value) ++ ([.slice A0_4 n0_4 c0_4] : List Value)))) := (by first | rfl | simp only [List.append_assoc, List.append_nil, List.nil_append, List.cons_append]); have h_ : St w w_57 (.cells b0 ((([.slice A0_0 n0_0 c0_0] : List Value)) ++ ((([.slice none 0 0] : List Value)) ++ (([.int .i64 a0_2] : List Value) ++ (([.bool a0_3] : List Value) ++ ([.slice A0_4 n0_4 c0_4] : List Value))))) 66 :: .sl A0_0 c0_0 n0_0 x_8 22 1 :: .sl A0_1 c0_1 n0_1 x0_1 69 2 :: .sl A0_4 c0_4 n0_4 x0_4 71 2 :: (T_4 ++ R)) := st_58; rw [← e_] at h_; exact h_
      refine WL.nil ?_
      refine QW.then_n ?_
      refine CW.sub [(0, .pointer (some ⟨b0, 0, none⟩)), (2, .int .i64 0)] ⟨rfl, rfl, trivial⟩ ?_
      refine CW.seq ?_
      refine CW.region ?_
      refine WL.val Wanted.none (Runs.move rfl) ?_
      refine WL.val Wanted.none (Runs.move rfl) ?_
      refine WL.val Wanted.none (Runs.nilCheck rfl) ?_
      refine WL.val Wanted.none (Runs.fieldAddr (off := 4) (p := 4) fld66_4 rfl rfl rfl) ?_
      refine WL.val Wanted.none (Runs.load nagg61 rfl (st_58.cell (k := 0) rfl (part_one (u := .slice A0_4 n0_4 c0_4) (pre := (([.slice A0_0 n0_0 c0_0] : List Value) ++ (([.slice none 0 0] : List Value) ++ (([.int .i64 a0_2] : List Value) ++ ([.bool a0_3] : List Value))))) (post := (([] : List Value))) (by first | rfl | simp only [List.append_assoc, List.append_nil, List.nil_append, List.cons_append]) (by first | rfl | simp only [List.length_append, List.length_cons, List.length_nil, iv_length])))) ?_
      refine WL.val Wanted.none (Runs.build_struct (ps := [(0, 1), (1, 1)]) (cs := (([.int .i64 3] : List Value) ++ ([.int .i64 0] : List Value))) plc71 zero71 rfl (by refine Fills.cons (o := 0) (ms := (([.int .i64 3] : List Value))) (show _ = some (0, (([.int .i64 3] : List Value)).length) by rw [show (([.int .i64 3] : List Value)).length = 1 from (by first | rfl | simp only [List.length_append, List.length_cons, List.length_nil, iv_length])] <;> rfl) rfl (by have h1_ : (([.int .i64 3] : List Value)).length = 1 := (by first | rfl | simp only [List.length_append, List.length_cons, List.length_nil, iv_length]); have h2_ : (([.int .i64 0] : List Value) ++ ([.int .i64 0] : List Value)).length = 2 := (by first | rfl | simp only [List.length_append, List.length_cons, List.length_nil, iv_length]); omega) ?_; rw [show layV (([.int .i64 0] : List Value) ++ ([.int .i64 0] : List Value)) 0 (([.int .i64 3] : List Value)) = (([.int .i64 3] : List Value) ++ ([.int .i64 0] : List Value)) from (layV_mid (pre := (([] : List Value))) (mid := (([.int .i64 0] : List Value))) (post := (([.int .i64 0] : List Value))) (by first | rfl | simp only [List.append_assoc, List.append_nil, List.nil_append, List.cons_append]) (by first | rfl | simp only [List.length_append, List.length_cons, List.length_nil, iv_length]) (Eq.trans (b := 1) (by first | rfl | simp only [List.length_append, List.length_cons, List.length_nil, iv_length]) (Eq.symm (by first | rfl | simp only [List.length_append, List.length_cons, List.length_nil, iv_length])))).trans (by first | rfl | simp only [List.append_assoc, List.append_nil, List.nil_append, List.cons_append])]; exact Fills.nil)) ?_
      obtain ⟨ii_59, z_60, h_61, h_62, h_63, h_64⟩ := slr71_1
      refine WL.buildSlRows (sz := 2) (cs := (([.int .i64 3] : List Value) ++ ([.int .i64 0] : List Value))) st_58 Try.underlying61 h_61 h_62 h_63 (by decide) (by decide) h_64 rfl (by refine Fills.cons (o := 0) (ms := (([.int .i64 3] : List Value) ++ ([.int .i64 0] : List Value))) (show _ = some (0, (([.int .i64 3] : List Value) ++ ([.int .i64 0] : List Value)).length) by rw [show (([.int .i64 3] : List Value) ++ ([.int .i64 0] : List Value)).length = 2 from (by first | rfl | simp only [List.length_append, List.length_cons, List.length_nil, iv_length])] <;> rfl) rfl (by have h1_ : (([.int .i64 3] : List Value) ++ ([.int .i64 0] : List Value)).length = 2 := (by first | rfl | simp only [List.length_append, List.length_cons, List.length_nil, iv_length]); have h2_ : (([.int .i64 0] : List Value) ++ ([.int .i64 0] : List Value)).length = 2 := (by first | rfl | simp only [List.length_append, List.length_cons, List.length_nil, iv_length]); omega) ?_; rw [show layV (([.int .i64 0] : List Value) ++ ([.int .i64 0] : List Value)) 0 (([.int .i64 3] : List Value) ++ ([.int .i64 0] : List Value)) = (([.int .i64 3] : List Value) ++ ([.int .i64 0] : List Value)) from (layV_mid (pre := (([] : List Value))) (mid := (([.int .i64 0] : List Value) ++ ([.int .i64 0] : List Value))) (post := (([] : List Value))) (by first | rfl | simp only [List.append_assoc, List.append_nil, List.nil_append, List.cons_append]) (by first | rfl | simp only [List.length_append, List.length_cons, List.length_nil, iv_length]) (Eq.trans (b := 2) (by first | rfl | simp only [List.length_append, List.length_cons, List.length_nil, iv_length]) (Eq.symm (by first | rfl | simp only [List.length_append, List.length_cons, List.length_nil, iv_length])))).trans (by first | rfl | simp only [List.append_assoc, List.append_nil, List.nil_append, List.cons_append])]; exact Fills.nil) ?_
      intro B_65 w_66 st_67
      replace st_67 : St w w_66 (.cells B_65 (([.int .i64 3] : List Value) ++ ([.int .i64 0] : List Value)) 71 :: .cells b0 (([.slice A0_0 n0_0 c0_0] : List Value) ++ (([.slice none 0 0] : List Value) ++ (([.int .i64 a0_2] : List Value) ++ (([.bool a0_3] : List Value) ++ ([.slice A0_4 n0_4 c0_4] : List Value))))) 66 :: .sl A0_0 c0_0 n0_0 x_8 22 1 :: .sl A0_1 c0_1 n0_1 x0_1 69 2 :: .sl A0_4 c0_4 n0_4 x0_4 71 2 :: (T_4 ++ R)) := st_67
      have st_69 := St.rows_sl (i := 0) (m := 1) (size := 2) st_67 rfl rfl (by decide)
      obtain ⟨x_70, e_71⟩ : ∃ x_ : Cells, x_ = ([.int .i64 3] : List Value) ++ ([.int .i64 0] : List Value) := ⟨_, rfl⟩
      have hx_72 : HRs T_4 (f71 w) x_70 ([(3, 0)] : List R71) := by rw [e_71]; exact (HRs.one (.cons rfl (.cons rfl .nil)))
      replace st_69 : St w w_66 (.sl (some ⟨B_65, 0, none⟩) 1 1 x_70 71 2 :: .cells b0 (([.slice A0_0 n0_0 c0_0] : List Value) ++ (([.slice none 0 0] : List Value) ++ (([.int .i64 a0_2] : List Value) ++ (([.bool a0_3] : List Value) ++ ([.slice A0_4 n0_4 c0_4] : List Value))))) 66 :: .sl A0_0 c0_0 n0_0 x_8 22 1 :: .sl A0_1 c0_1 n0_1 x0_1 69 2 :: .sl A0_4 c0_4 n0_4 x0_4 71 2 :: (T_4 ++ R)) := by rw [e_71]; exact st_69
      obtain ⟨m_73, e_74, H⟩ := H
      obtain ⟨z_75, H⟩ := H
      obtain ⟨n_78, hn_81⟩ : ∃ n_ : Nat, n_ = m_73.length := ⟨_, rfl⟩
      refine WL.appendR (i := 4) (N := n_78) (news := x_70) Wanted.none st_69 rfl Try.underlying61 elemS71 rfl rfl (st_69.src_sl (k := 0) rfl) (by have h1_ := (hx_72).length (fz71 w); have h2_ : 1 = ([(3, 0)] : List R71).length := rfl; rw [h1_, h2_]) (HLs.one hx_72) (by decide) (by have h1_ : n0_4 = l0_4.length := hn0_4; have h2_ : 1 = ([(3, 0)] : List R71).length := rfl; rw [hn_81, e_74, List.length_append]; omega) (by rw [hn_81]; exact z_75) ?_
      intro A_76 c_77 w_79 st_80
      obtain ⟨x_82, e_83⟩ : ∃ x_ : Cells, x_ = x0_4 ++ x_70 := ⟨_, rfl⟩
      have hx_84 : HRs T_4 (f71 w) x_82 m_73 := by rw [e_83, e_74]; exact HRs.append (hx0_4.mono (fun _ h_ => hs_5.1 _ h_)) hx_72
      replace st_80 : St w w_79 (.sl (some ⟨B_65, 0, none⟩) 1 1 x_70 71 2 :: .cells b0 (([.slice A0_0 n0_0 c0_0] : List Value) ++ (([.slice none 0 0] : List Value) ++ (([.int .i64 a0_2] : List Value) ++ (([.bool a0_3] : List Value) ++ ([.slice A0_4 n0_4 c0_4] : List Value))))) 66 :: .sl A0_0 c0_0 n0_0 x_8 22 1 :: .sl A0_1 c0_1 n0_1 x0_1 69 2 :: .sl A_76 c_77 n_78 x_82 71 2 :: (T_4 ++ R)) := by rw [e_83]; exact st_80
      refine WL.val Wanted.none (Runs.nilCheck rfl) ?_
      refine WL.val Wanted.none (Runs.fieldAddr (off := 4) (p := 4) fld66_4 rfl rfl rfl) ?_
      refine WL.store_one (i := 1) (u0 := .slice A0_4 n0_4 c0_4) (pre := (([.slice A0_0 n0_0 c0_0] : List Value) ++ (([.slice none 0 0] : List Value) ++ (([.int .i64 a0_2] : List Value) ++ ([.bool a0_3] : List Value))))) (post := (([] : List Value))) st_80 rfl cells61 (by first | rfl | simp only [List.append_assoc, List.append_nil, List.nil_append, List.cons_append]) (by first | rfl | simp only [List.length_append, List.length_cons, List.length_nil, iv_length]) rfl rfl rfl ?_
      intro w_85 st_86
      replace st_86 : St w w_85 (.sl (some ⟨B_65, 0, none⟩) 1 1 x_70 71 2 :: .cells b0 (([.slice A0_0 n0_0 c0_0] : List Value) ++ (([.slice none 0 0] : List Value) ++ (([.int .i64 a0_2] : List Value) ++ (([.bool a0_3] : List Value) ++ ([.slice A_76 n_78 c_77] : List Value))))) 66 :: .sl A0_0 c0_0 n0_0 x_8 22 1 :: .sl A0_1 c0_1 n0_1 x0_1 69 2 :: .sl A_76 c_77 n_78 x_82 71 2 :: (T_4 ++ R)) := by have e_ : (([.slice A0_0 n0_0 c0_0] : List Value) ++ (([.slice none 0 0] : List Value) ++ (([.int .i64 a0_2] : List Value) ++ (([.bool a0_3] : List Value) ++ ([.slice A_76 n_78 c_77] : List Value))))) = (([.slice A0_0 n0_0 c0_0] : List Value) ++ (([.slice none 0 0] : List Value) ++ (([.int .i64 a0_2] : List Value) ++ ([.bool a0_3] : List Value)))) ++ ((([.slice A_76 n_78 c_77] : List Value)) ++ (([] : List Value))) := (by first | rfl | simp only [List.append_assoc, List.append_nil, List.nil_append, List.cons_append]); have h_ : St w w_85 (.sl (some ⟨B_65, 0, none⟩) 1 1 x_70 71 2 :: .cells b0 ((([.slice A0_0 n0_0 c0_0] : List Value) ++ (([.slice none 0 0] : List Value) ++ (([.int .i64 a0_2] : List Value) ++ ([.bool a0_3] : List Value)))) ++ ((([.slice A_76 n_78 c_77] : List Value)) ++ (([] : List Value)))) 66 :: .sl A0_0 c0_0 n0_0 x_8 22 1 :: .sl A0_1 c0_1 n0_1 x0_1 69 2 :: .sl A_76 c_77 n_78 x_82 71 2 :: (T_4 ++ R)) := st_86; rw [← e_] at h_; exact h_
      refine WL.nil ?_
      refine QW.then_n ?_
      refine CW.sub [(2, .int .i64 0)] ⟨rfl, trivial⟩ ?_
      refine CW.seq ?_
      refine CW.region ?_
      refine WL.val Wanted.none (Runs.assign rfl) ?_
      refine WL.nil ?_
      refine QW.then_n ?_
      refine CW.ret ?_
      have st_88 := st_86.nil_sl 69 2
      have st_88 : St w w_85 (.sl none 0 0 ([] : Cells) 69 2 :: .sl (some ⟨B_65, 0, none⟩) 1 1 x_70 71 2 :: .cells b0 (([.slice A0_0 n0_0 c0_0] : List Value) ++ (([.slice none 0 0] : List Value) ++ (([.int .i64 a0_2] : List Value) ++ (([.bool a0_3] : List Value) ++ ([.slice A_76 n_78 c_77] : List Value))))) 66 :: .sl A0_0 c0_0 n0_0 x_8 22 1 :: .sl A0_1 c0_1 n0_1 x0_1 69 2 :: .sl A_76 c_77 n_78 x_82 71 2 :: (T_4 ++ R)) := st_88
      obtain ⟨rfl, rfl, rfl, rfl, rfl, rfl⟩ := H
      exact QW.ret1 rfl rfl ⟨T_4, A0_0, n0_0, c0_0, x_8, none, 0, 0, ([] : Cells), A_76, n_78, c_77, x_82, hs_5, hn_7, hx_9, rfl, (HRs.nil : HRs T_4 (f69 w) [] []), hn_81, hx_84, rfl, (St.pickT (L := [_, _, _, _, _, _]) st_88 [2, 3, 0, 5] (by decide))⟩

end Go.Proofs.Ytjlifbnkdfofhaa
