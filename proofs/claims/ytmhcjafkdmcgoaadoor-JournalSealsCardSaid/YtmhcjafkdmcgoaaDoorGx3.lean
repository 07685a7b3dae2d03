/- Walks: each function computes what its relation says, and a call of it ends so. Printed by a program of this session (wip/gen). -/
import Derived.Test.YtmhcjafkdmcgoaaDoorGx2
namespace Go.Proofs.YtmhcjafkdmcgoaaDoor
open Go Go.Kr Go.RowKit
set_option linter.unusedVariables false
set_option linter.unusedSimpArgs false
set_option maxRecDepth 100000
/-! ### journal_Journal_Adopt: function 15 -/
def journal_Journal_Adopt.rel (l0_0_0 : List R25) (l0_0_1 : List R124) (a0_0_2 : Int) (a0_0_3 : Bool) (l0_0_4 : List R48) (l0_1 : List Int) (a0_2 : Int) (a0_3 : Int) (a0_4 : Int) (a0_5 : Int) (l0_6 : List Int) (a0_7 : Int) (a0_8 : Int) (a1_0 : Int) (a1_1 : Int) (l1_2 : List Int) (a2 : Int) (ls0_0_0 : List R25) (ls0_0_1 : List R124) (as0_0_2 : Int) (as0_0_3 : Bool) (ls0_0_4 : List R48) (ls0_1 : List Int) (as0_2 : Int) (as0_3 : Int) (as0_4 : Int) (as0_5 : Int) (ls0_6 : List Int) (as0_7 : Int) (as0_8 : Int) : Prop := (∃ (a0 : Bool), journal_may.rel a1_0 a1_1 l1_2 a0_3 a0 ∧ ((a0 = true ∧ ls0_0_0 = l0_0_0 ∧ ls0_0_1 = l0_0_1 ∧ as0_0_2 = a0_0_2 ∧ as0_0_3 = a0_0_3 ∧ ls0_0_4 = l0_0_4 ∧ ls0_1 = l0_1 ∧ as0_2 = a0_2 ∧ as0_3 = a0_3 ∧ as0_4 = a1_0 ∧ as0_5 = a1_1 ∧ ls0_6 = l1_2 ∧ as0_7 = a0_7 ∧ as0_8 = minI a2 9223372036854775807) ∨ (¬ (a0 = true) ∧ ls0_0_0 = l0_0_0 ∧ ls0_0_1 = l0_0_1 ∧ as0_0_2 = a0_0_2 ∧ as0_0_3 = a0_0_3 ∧ ls0_0_4 = l0_0_4 ∧ ls0_1 = l0_1 ∧ as0_2 = a0_2 ∧ as0_3 = a0_3 ∧ as0_4 = a0_4 ∧ as0_5 = a0_5 ∧ ls0_6 = l0_6 ∧ as0_7 = a0_7 ∧ as0_8 = a0_8)))
set_option maxHeartbeats 1000000 in
theorem journal_Journal_Adopt.calls (w w1 : World) (T R : Pool) (l0_0_0 : List R25) (l0_0_1 : List R124) (a0_0_2 : Int) (a0_0_3 : Bool) (l0_0_4 : List R48) (l0_1 : List Int) (a0_2 : Int) (a0_3 : Int) (a0_4 : Int) (a0_5 : Int) (l0_6 : List Int) (a0_7 : Int) (a0_8 : Int) (a1_0 : Int) (a1_1 : Int) (l1_2 : List Int) (a2 : Int) (b0 : Nat) (b0_0 : Nat) (A0_0_0 : Option Addr) (n0_0_0 : Nat) (c0_0_0 : Nat) (x0_0_0 : Cs) (A0_0_1 : Option Addr) (n0_0_1 : Nat) (c0_0_1 : Nat) (x0_0_1 : Cs) (A0_0_4 : Option Addr) (n0_0_4 : Nat) (c0_0_4 : Nat) (x0_0_4 : Cs) (st0 : St w w1 (oJ b0 b0_0 l0_1 a0_2 a0_3 a0_4 a0_5 l0_6 a0_7 a0_8 98 :: oD b0_0 A0_0_0 n0_0_0 c0_0_0 A0_0_1 n0_0_1 c0_0_1 a0_0_2 a0_0_3 A0_0_4 n0_0_4 c0_0_4 95 :: .sl A0_0_0 c0_0_0 n0_0_0 x0_0_0 25 1 :: .sl A0_0_1 c0_0_1 n0_0_1 x0_0_1 124 2 :: .sl A0_0_4 c0_0_4 n0_0_4 x0_0_4 48 2 :: (T ++ R))) (hn0_0_0 : n0_0_0 = l0_0_0.length) (hx0_0_0 : HRs T (f25 w) x0_0_0 l0_0_0) (hn0_0_1 : n0_0_1 = l0_0_1.length) (hx0_0_1 : HRs T (f124 w) x0_0_1 l0_0_1) (hn0_0_4 : n0_0_4 = l0_0_4.length) (hx0_0_4 : HRs T (f48 w) x0_0_4 l0_0_4) (hl0_1 : l0_1.length = 32) (hl0_6 : l0_6.length = 32) (hl1_2 : l1_2.length = 32) (ls0_0_0 : List R25) (ls0_0_1 : List R124) (as0_0_2 : Int) (as0_0_3 : Bool) (ls0_0_4 : List R48) (ls0_1 : List Int) (as0_2 : Int) (as0_3 : Int) (as0_4 : Int) (as0_5 : Int) (ls0_6 : List Int) (as0_7 : Int) (as0_8 : Int) (H : journal_Journal_Adopt.rel l0_0_0 l0_0_1 a0_0_2 a0_0_3 l0_0_4 l0_1 a0_2 a0_3 a0_4 a0_5 l0_6 a0_7 a0_8 a1_0 a1_1 l1_2 a2 ls0_0_0 ls0_0_1 as0_0_2 as0_0_3 ls0_0_4 ls0_1 as0_2 as0_3 as0_4 as0_5 ls0_6 as0_7 as0_8) :
  Calls Tryd.prog 15 #[.pointer (sp b0), .agg ((cu a1_0) ++ ((cu a1_1) ++ iv .u8 l1_2)).toArray, .int .u64 a2] w1 fun e w' => ∃ T' As0_0_0 ns0_0_0 cs0_0_0 xs0_0_0 As0_0_1 ns0_0_1 cs0_0_1 xs0_0_1 As0_0_4 ns0_0_4 cs0_0_4 xs0_0_4, Pl T T' ∧ ns0_0_0 = ls0_0_0.length ∧ HRs T' (f25 w) xs0_0_0 ls0_0_0 ∧ ns0_0_1 = ls0_0_1.length ∧ HRs T' (f124 w) xs0_0_1 ls0_0_1 ∧ ns0_0_4 = ls0_0_4.length ∧ HRs T' (f48 w) xs0_0_4 ls0_0_4 ∧ ls0_1.length = 32 ∧ ls0_6.length = 32 ∧ e = .returned (.tuple #[]) ∧ St w w' (oJ b0 b0_0 ls0_1 as0_2 as0_3 as0_4 as0_5 ls0_6 as0_7 as0_8 98 :: oD b0_0 As0_0_0 ns0_0_0 cs0_0_0 As0_0_1 ns0_0_1 cs0_0_1 as0_0_2 as0_0_3 As0_0_4 ns0_0_4 cs0_0_4 95 :: .sl As0_0_0 cs0_0_0 ns0_0_0 xs0_0_0 25 1 :: .sl As0_0_1 cs0_0_1 ns0_0_1 xs0_0_1 124 2 :: .sl As0_0_4 cs0_0_4 ns0_0_4 xs0_0_4 48 2 :: (T' ++ R)) := by
 refine CW.enter Tryd.func15 rfl (n := 25) rfl [.pointer (sp b0), .agg ((cu a1_0) ++ ((cu a1_1) ++ iv .u8 l1_2)).toArray, .int .u64 a2] (Nat.le_of_ble_eq_true rfl) ?_
 refine CW.sub [(0, .pointer (sp b0)), (1, .agg ((cu a1_0) ++ ((cu a1_1) ++ iv .u8 l1_2)).toArray), (2, .int .u64 a2)] ⟨rfl, rfl, rfl, trivial⟩ ?_
 refine cr ?_
 refine WL.box st0 rfl rfl ?_
 intro a1 b3 a8
 refine wn (CW.seq ?_)
 refine CW.region_qa wide (by kernel_rfl) a8 ?_
 refine HL.mv rfl ?_
 refine HL.v (fun wq sq => (Runs.neq_ptr Tryd.underlying34 rfl rfl rfl)) ?_
 refine HL.mv rfl ?_
 refine HL.on ?_ ?_; exact Wanted.guard (dj := 8) (by rfl) (by rfl) (by rfl)
 refine HL.v (fun wq sq => (Runs.load_mid row39 rfl sq (i := 0) rfl (pm [] ((cu a1_0) ++ ((cu a1_1) ++ iv .u8 l1_2)) [] (hm := by first | rfl | simp only [la, lc, ln, lv, hl1_2])) (by first | rfl | simp only [la, lc, ln, lv, hl1_2]))) ?_
 refine HL.on ?_ ?_; exact Wanted.guard (dj := 8) (by rfl) (by rfl) (by rfl)
 refine HL.mv rfl ?_
 refine HL.on ?_ ?_; exact Wanted.guard (dj := 8) (by rfl) (by rfl) (by rfl)
 refine HL.v (fun wq sq => (Runs.nilCheck rfl)) ?_
 refine HL.on ?_ ?_; exact Wanted.guard (dj := 8) (by rfl) (by rfl) (by rfl)
 refine HL.v (fun wq sq => (Runs.fieldAddr (off := 34) (p := 34) fld98_3 rfl rfl rfl)) ?_
 refine HL.on ?_ ?_; exact Wanted.guard (dj := 8) (by rfl) (by rfl) (by rfl)
 refine HL.v (fun wq sq => (Runs.load nagg37 rfl (sq.cell (k := 1) rfl (pa (.int .u64 a0_3) ((cp b0_0) ++ (iv .u8 l0_1 ++ (ci a0_2))) ((cu a0_4) ++ ((cu a0_5) ++ (iv .u8 l0_6 ++ ((cu a0_7) ++ (cu a0_8))))) (ho := by first | rfl | simp only [la, lc, ln, lv, hl0_1]))))) ?_
 refine HL.on ?_ ?_; exact Wanted.guard (dj := 8) (by rfl) (by rfl) (by rfl)
 obtain ⟨a0, a9, H⟩ := H
 refine HL.call Wanted.none ent36 rfl (fun wq sq => (journal_may.calls wq a1_0 a1_1 l1_2 a0_3 hl1_2 a0 a9).mono (by rintro _ _ ⟨rfl, sc⟩; exact ⟨rfl, sq.call sc⟩)) ?_
 refine HL.v (fun wq sq => (Runs.pick_t rfl rfl)) ?_
 refine HL.nil (fun b4 a3 => ?_)
 refine wn ?_
 refine CW.sub [(0, .pointer (sp b0)), (2, .int .u64 a2), (4, .pointer (sp a1)), (15, .bool a0)] ⟨rfl, rfl, rfl, rfl, trivial⟩ ?_
 rcases H with ⟨a4, H⟩ | ⟨a4, H⟩
 ·have a5 : a0 = true := a4
  refine CW.ct rfl a5 ?_
  refine CW.region (WL.mv rfl (WL.mv rfl ?_))
  refine WL.v (Runs.load_mid row39 rfl a3 (i := 0) rfl (pm [] ((cu a1_0) ++ ((cu a1_1) ++ iv .u8 l1_2)) [] (hm := by first | rfl | simp only [la, lc, ln, lv, hl1_2])) (by first | rfl | simp only [la, lc, ln, lv, hl1_2])) ?_
  refine WL.mv rfl ?_
  refine WL.v (Runs.min2 rfl rfl rfl) ?_
  refine WL.v (Runs.nilCheck rfl) ?_
  refine WL.v (Runs.fieldAddr (off := 35) (p := 35) fld98_4 rfl rfl rfl) ?_
  refine WL.sm (new := ((cp b0_0) ++ (iv .u8 l0_1 ++ ((ci a0_2) ++ ((cu a0_3) ++ ((cu a1_0) ++ ((cu a1_1) ++ (iv .u8 l1_2 ++ ((cu a0_7) ++ (cu a0_8)))))))))) (i := 1) (pre := ((cp b0_0) ++ (iv .u8 l0_1 ++ ((ci a0_2) ++ (cu a0_3))))) (mid := ((cu a0_4) ++ ((cu a0_5) ++ iv .u8 l0_6))) (post := ((cu a0_7) ++ (cu a0_8))) (ms := ((cu a1_0) ++ ((cu a1_1) ++ iv .u8 l1_2))) a3 rfl row39 (by first | rfl | simp only [aa, an, na, ca]) (by first | rfl | simp only [la, lc, ln, lv, hl0_1]) rfl rfl (by first | rfl | simp only [la, lc, ln, lv, hl1_2]) (by first | rfl | simp only [la, lc, ln, lv, hl0_6]) (one_cat oneU (one_cat oneU (one_iv _ _))) (by first | rfl | simp only [aa, an, na, ca]) ?_
  intro b1 a6
  try dsimp only [List.set] at a6
  refine WL.v (Runs.nilCheck rfl) ?_
  refine WL.v (Runs.fieldAddr (off := 70) (p := 70) fld98_6 rfl rfl rfl) ?_
  refine WL.so (new := ((cp b0_0) ++ (iv .u8 l0_1 ++ ((ci a0_2) ++ ((cu a0_3) ++ ((cu a1_0) ++ ((cu a1_1) ++ (iv .u8 l1_2 ++ ((cu a0_7) ++ (cu (minI a2 9223372036854775807))))))))))) (i := 1) (u0 := .int .u64 a0_8) (pre := ((cp b0_0) ++ (iv .u8 l0_1 ++ ((ci a0_2) ++ ((cu a0_3) ++ ((cu a1_0) ++ ((cu a1_1) ++ (iv .u8 l1_2 ++ (cu a0_7))))))))) (post := (([] : Cs))) a6 rfl cells37 (by first | rfl | simp only [aa, an, na, ca]) (by first | rfl | simp only [la, lc, ln, lv, hl0_1, hl1_2]) rfl rfl rfl (by first | rfl | simp only [aa, an, na, ca]) ?_
  intro b2 a7
  try dsimp only [List.set] at a7
  refine WL.nil ?_
  obtain ⟨rfl, rfl, rfl, rfl, rfl, rfl, rfl, rfl, rfl, rfl, rfl, rfl, rfl⟩ := H
  exact QW.end0 rfl ⟨T, A0_0_0, n0_0_0, c0_0_0, x0_0_0, A0_0_1, n0_0_1, c0_0_1, x0_0_1, A0_0_4, n0_0_4, c0_0_4, x0_0_4, Pl.refl, hn0_0_0, hx0_0_0, hn0_0_1, hx0_0_1, hn0_0_4, hx0_0_4, hl0_1, hl1_2, rfl, (St.pickT (L := [_, _, _, _, _, _]) a7 [1, 2, 3, 4, 5] (by decide))⟩
 have a5 : a0 = false := (Bool.eq_false_iff.mpr a4)
 refine CW.cf rfl a5 ?_
 refine CW.skip ?_
 obtain ⟨rfl, rfl, rfl, rfl, rfl, rfl, rfl, rfl, rfl, rfl, rfl, rfl, rfl⟩ := H
 exact QW.end0 rfl ⟨T, A0_0_0, n0_0_0, c0_0_0, x0_0_0, A0_0_1, n0_0_1, c0_0_1, x0_0_1, A0_0_4, n0_0_4, c0_0_4, x0_0_4, Pl.refl, hn0_0_0, hx0_0_0, hn0_0_1, hx0_0_1, hn0_0_4, hx0_0_4, hl0_1, hl0_6, rfl, (St.pickT (L := [_, _, _, _, _, _]) a3 [1, 2, 3, 4, 5] (by decide))⟩
/-! ### journal_Journal_State: function 25 -/
def journal_Journal_State.rel (l0_0_0 : List R25) (l0_0_1 : List R124) (a0_0_2 : Int) (a0_0_3 : Bool) (l0_0_4 : List R48) (l0_1 : List Int) (a0_2 : Int) (a0_3 : Int) (a0_4 : Int) (a0_5 : Int) (l0_6 : List Int) (a0_7 : Int) (a0_8 : Int) (ls0_0_0 : List R25) (ls0_0_1 : List R124) (as0_0_2 : Int) (as0_0_3 : Bool) (ls0_0_4 : List R48) (ls0_1 : List Int) (as0_2 : Int) (as0_3 : Int) (as0_4 : Int) (as0_5 : Int) (ls0_6 : List Int) (as0_7 : Int) (as0_8 : Int) (ar0_0 : Int) (ar0_1 : Int) (lr0_2 : List Int) (ar1 : Int) : Prop := ls0_0_0 = l0_0_0 ∧ ls0_0_1 = l0_0_1 ∧ as0_0_2 = a0_0_2 ∧ as0_0_3 = a0_0_3 ∧ ls0_0_4 = l0_0_4 ∧ ls0_1 = l0_1 ∧ as0_2 = a0_2 ∧ as0_3 = a0_3 ∧ as0_4 = a0_4 ∧ as0_5 = a0_5 ∧ ls0_6 = l0_6 ∧ as0_7 = a0_7 ∧ as0_8 = a0_8 ∧ ar0_0 = a0_4 ∧ ar0_1 = a0_5 ∧ lr0_2 = l0_6 ∧ ar1 = a0_7
set_option maxHeartbeats 1000000 in
theorem journal_Journal_State.calls (w w1 : World) (T R : Pool) (l0_0_0 : List R25) (l0_0_1 : List R124) (a0_0_2 : Int) (a0_0_3 : Bool) (l0_0_4 : List R48) (l0_1 : List Int) (a0_2 : Int) (a0_3 : Int) (a0_4 : Int) (a0_5 : Int) (l0_6 : List Int) (a0_7 : Int) (a0_8 : Int) (b0 : Nat) (b0_0 : Nat) (A0_0_0 : Option Addr) (n0_0_0 : Nat) (c0_0_0 : Nat) (x0_0_0 : Cs) (A0_0_1 : Option Addr) (n0_0_1 : Nat) (c0_0_1 : Nat) (x0_0_1 : Cs) (A0_0_4 : Option Addr) (n0_0_4 : Nat) (c0_0_4 : Nat) (x0_0_4 : Cs) (st0 : St w w1 (oJ b0 b0_0 l0_1 a0_2 a0_3 a0_4 a0_5 l0_6 a0_7 a0_8 98 :: oD b0_0 A0_0_0 n0_0_0 c0_0_0 A0_0_1 n0_0_1 c0_0_1 a0_0_2 a0_0_3 A0_0_4 n0_0_4 c0_0_4 95 :: .sl A0_0_0 c0_0_0 n0_0_0 x0_0_0 25 1 :: .sl A0_0_1 c0_0_1 n0_0_1 x0_0_1 124 2 :: .sl A0_0_4 c0_0_4 n0_0_4 x0_0_4 48 2 :: (T ++ R))) (hn0_0_0 : n0_0_0 = l0_0_0.length) (hx0_0_0 : HRs T (f25 w) x0_0_0 l0_0_0) (hn0_0_1 : n0_0_1 = l0_0_1.length) (hx0_0_1 : HRs T (f124 w) x0_0_1 l0_0_1) (hn0_0_4 : n0_0_4 = l0_0_4.length) (hx0_0_4 : HRs T (f48 w) x0_0_4 l0_0_4) (hl0_1 : l0_1.length = 32) (hl0_6 : l0_6.length = 32) (ls0_0_0 : List R25) (ls0_0_1 : List R124) (as0_0_2 : Int) (as0_0_3 : Bool) (ls0_0_4 : List R48) (ls0_1 : List Int) (as0_2 : Int) (as0_3 : Int) (as0_4 : Int) (as0_5 : Int) (ls0_6 : List Int) (as0_7 : Int) (as0_8 : Int) (ar0_0 : Int) (ar0_1 : Int) (lr0_2 : List Int) (ar1 : Int) (H : journal_Journal_State.rel l0_0_0 l0_0_1 a0_0_2 a0_0_3 l0_0_4 l0_1 a0_2 a0_3 a0_4 a0_5 l0_6 a0_7 a0_8 ls0_0_0 ls0_0_1 as0_0_2 as0_0_3 ls0_0_4 ls0_1 as0_2 as0_3 as0_4 as0_5 ls0_6 as0_7 as0_8 ar0_0 ar0_1 lr0_2 ar1) :
  Calls Tryd.prog 25 #[.pointer (sp b0)] w1 fun e w' => ∃ T' As0_0_0 ns0_0_0 cs0_0_0 xs0_0_0 As0_0_1 ns0_0_1 cs0_0_1 xs0_0_1 As0_0_4 ns0_0_4 cs0_0_4 xs0_0_4, Pl T T' ∧ ns0_0_0 = ls0_0_0.length ∧ HRs T' (f25 w) xs0_0_0 ls0_0_0 ∧ ns0_0_1 = ls0_0_1.length ∧ HRs T' (f124 w) xs0_0_1 ls0_0_1 ∧ ns0_0_4 = ls0_0_4.length ∧ HRs T' (f48 w) xs0_0_4 ls0_0_4 ∧ ls0_1.length = 32 ∧ ls0_6.length = 32 ∧ lr0_2.length = 32 ∧ e = .returned (.tuple #[.agg ((cu ar0_0) ++ ((cu ar0_1) ++ iv .u8 lr0_2)).toArray, .int .u64 ar1]) ∧ St w w' (oJ b0 b0_0 ls0_1 as0_2 as0_3 as0_4 as0_5 ls0_6 as0_7 as0_8 98 :: oD b0_0 As0_0_0 ns0_0_0 cs0_0_0 As0_0_1 ns0_0_1 cs0_0_1 as0_0_2 as0_0_3 As0_0_4 ns0_0_4 cs0_0_4 95 :: .sl As0_0_0 cs0_0_0 ns0_0_0 xs0_0_0 25 1 :: .sl As0_0_1 cs0_0_1 ns0_0_1 xs0_0_1 124 2 :: .sl As0_0_4 cs0_0_4 ns0_0_4 xs0_0_4 48 2 :: (T' ++ R)) := by
 refine CW.enter Tryd.func25 rfl (n := 15) rfl [.pointer (sp b0)] (Nat.le_of_ble_eq_true rfl) ?_
 refine CW.sub [(0, .pointer (sp b0))] ⟨rfl, trivial⟩ ?_
 refine cr ?_
 refine WL.alloc st0 zero39 ?_
 intro a3 a7 a4
 refine WL.as rfl (wn (CW.seq (cr (WL.mv rfl ?_))))
 refine WL.v (Runs.eql_ptr Tryd.underlying34 rfl rfl rfl) ?_
 refine wn ?_
 refine CW.cf rfl rfl ?_
 refine CW.skip (QW.then_n (CW.seq ?_))
 refine CW.region_awh (C := fun w_ => St w w_ (oJ b0 b0_0 l0_1 a0_2 a0_3 a0_4 a0_5 l0_6 a0_7 a0_8 98 :: oD b0_0 A0_0_0 n0_0_0 c0_0_0 A0_0_1 n0_0_1 c0_0_1 a0_0_2 a0_0_3 A0_0_4 n0_0_4 c0_0_4 95 :: .sl A0_0_0 c0_0_0 n0_0_0 x0_0_0 25 1 :: .sl A0_0_1 c0_0_1 n0_0_1 x0_0_1 124 2 :: .sl A0_0_4 c0_0_4 n0_0_4 x0_0_4 48 2 :: (T ++ R))) 9 wide (by kernel_rfl) a4 (fun a5 a0 => ?_)
 have a1 : St w a5 (oJ b0 b0_0 l0_1 a0_2 a0_3 a0_4 a0_5 l0_6 a0_7 a0_8 98 :: oD b0_0 A0_0_0 n0_0_0 c0_0_0 A0_0_1 n0_0_1 c0_0_1 a0_0_2 a0_0_3 A0_0_4 n0_0_4 c0_0_4 95 :: .sl A0_0_0 c0_0_0 n0_0_0 x0_0_0 25 1 :: .sl A0_0_1 c0_0_1 n0_0_1 x0_0_1 124 2 :: .sl A0_0_4 c0_0_4 n0_0_4 x0_0_4 48 2 :: (T ++ R)) := (St.pickT (L := [_, _, _, _, _, _]) a0 [1, 2, 3, 4, 5] (by decide))
 refine AWH.kn (St.subset a1 a0 (mc 1 rfl (mc 2 rfl (mc 3 rfl (mc 4 rfl (mc 5 rfl (mem_TR (A := [_, _, _, _, _, _]) (fun _ h_ => h_)))))))) fun zC1 => ?_
 refine AWH.tk 0 rfl zC1 (fun wq sq => (Runs.move rfl)) ?_
 refine AWH.tk 1 rfl zC1 (fun wq sq => (Runs.nilCheck rfl)) ?_
 refine AWH.tk 2 rfl zC1 (fun wq sq => (Runs.fieldAddr (off := 35) (p := 35) fld98_4 rfl rfl rfl)) ?_
 refine AWH.tk 3 rfl zC1 (fun wq sq => (Runs.load_mid row39 rfl sq (i := 0) rfl (pm ((cp b0_0) ++ (iv .u8 l0_1 ++ ((ci a0_2) ++ (cu a0_3)))) ((cu a0_4) ++ ((cu a0_5) ++ iv .u8 l0_6)) ((cu a0_7) ++ (cu a0_8)) (ho := by first | rfl | simp only [la, lc, ln, lv, hl0_1]) (hm := by first | rfl | simp only [la, lc, ln, lv, hl0_6])) (by first | rfl | simp only [la, lc, ln, lv, hl0_6]))) ?_
 refine AWH.tk 4 rfl zC1 (fun wq sq => (Runs.move rfl)) ?_
 refine AWH.tk 5 rfl zC1 (fun wq sq => (Runs.nilCheck rfl)) ?_
 refine AWH.tk 6 rfl zC1 (fun wq sq => (Runs.fieldAddr (off := 69) (p := 69) fld98_5 rfl rfl rfl)) ?_
 refine AWH.tk 7 rfl zC1 (fun wq sq => (Runs.load nagg37 rfl (sq.cell (k := 0) rfl (pa (.int .u64 a0_7) ((cp b0_0) ++ (iv .u8 l0_1 ++ ((ci a0_2) ++ ((cu a0_3) ++ ((cu a0_4) ++ ((cu a0_5) ++ iv .u8 l0_6)))))) (cu a0_8) (ho := by first | rfl | simp only [la, lc, ln, lv, hl0_1, hl0_6]))))) ?_
 refine AWH.step 8 rfl (by decide) (by kernel_rfl) (fun inv_ hs_ hk_ hc_ hn_ => ?_)
 refine WL.sm (new := ((cu a0_4) ++ ((cu a0_5) ++ iv .u8 l0_6))) (i := 0) (pre := (([] : Cs))) (mid := ((cu 0) ++ ((cu 0) ++ iv .u8 (z32)))) (post := (([] : Cs))) (ms := ((cu a0_4) ++ ((cu a0_5) ++ iv .u8 l0_6))) a0 rfl row39 (by first | rfl | simp only [aa, an, na, ca]) rfl rfl rfl (by first | rfl | simp only [la, lc, ln, lv, hl0_6]) (by first | rfl | simp only [la, lc, ln, lv, List.length_replicate]) (one_cat oneU (one_cat oneU (one_iv _ _))) (by first | rfl | simp only [aa, an, na, ca]) ?_
 intro a6 a2
 try dsimp only [List.set] at a2
 refine WL.nil ?_
 refine AWH.back (St.subset a1 a2 (mc 1 rfl (mc 2 rfl (mc 3 rfl (mc 4 rfl (mc 5 rfl (mem_TR (A := [_, _, _, _, _, _]) (fun _ h_ => h_)))))))) inv_ hs_ hk_ hc_ hn_ ?_
 refine AWH.tail (by kernel_rfl) ?_
 refine AW.tk 9 rfl (fun _ => (Runs.assign rfl)) ?_
 refine AW.done (by kernel_rfl) ?_
 refine QW.then_n (CW.ret ?_)
 obtain ⟨rfl, rfl, rfl, rfl, rfl, rfl, rfl, rfl, rfl, rfl, rfl, rfl, rfl, rfl, rfl, rfl, rfl⟩ := H
 exact QW.retN2 rfl (Res.row rfl row39 a2 (i := 0) rfl (by first | rfl | simp only [la, lc, ln, lv, hl0_6])) (Res.tmp rfl) ⟨T, A0_0_0, n0_0_0, c0_0_0, x0_0_0, A0_0_1, n0_0_1, c0_0_1, x0_0_1, A0_0_4, n0_0_4, c0_0_4, x0_0_4, Pl.refl, hn0_0_0, hx0_0_0, hn0_0_1, hx0_0_1, hn0_0_4, hx0_0_4, hl0_1, hl0_6, hl0_6, rfl, (St.pickT (L := [_, _, _, _, _, _]) a2 [1, 2, 3, 4, 5] (by decide))⟩
/-! ### journal_Journal_Empty: function 17 -/
def journal_Journal_Empty.rel (l0_0_0 : List R25) (l0_0_1 : List R124) (a0_0_2 : Int) (a0_0_3 : Bool) (l0_0_4 : List R48) (l0_1 : List Int) (a0_2 : Int) (a0_3 : Int) (a0_4 : Int) (a0_5 : Int) (l0_6 : List Int) (a0_7 : Int) (a0_8 : Int) (ls0_0_0 : List R25) (ls0_0_1 : List R124) (as0_0_2 : Int) (as0_0_3 : Bool) (ls0_0_4 : List R48) (ls0_1 : List Int) (as0_2 : Int) (as0_3 : Int) (as0_4 : Int) (as0_5 : Int) (ls0_6 : List Int) (as0_7 : Int) (as0_8 : Int) (ar0_0 : Int) (ar0_1 : Int) (lr0_2 : List Int) : Prop := (a0_3 ≠ 0 ∧ ls0_0_0 = l0_0_0 ∧ ls0_0_1 = l0_0_1 ∧ as0_0_2 = a0_0_2 ∧ as0_0_3 = a0_0_3 ∧ ls0_0_4 = l0_0_4 ∧ ls0_1 = l0_1 ∧ as0_2 = a0_2 ∧ as0_3 = a0_3 ∧ as0_4 = a0_4 ∧ as0_5 = a0_5 ∧ ls0_6 = l0_6 ∧ as0_7 = a0_7 ∧ as0_8 = a0_8 ∧ ar0_0 = Int.tmod (IntKind.u64.wrap (a0_4 + a0_5)) a0_3 ∧ ar0_1 = 0 ∧ lr0_2 = z32)
set_option maxHeartbeats 1000000 in
theorem journal_Journal_Empty.calls (w w1 : World) (T R : Pool) (l0_0_0 : List R25) (l0_0_1 : List R124) (a0_0_2 : Int) (a0_0_3 : Bool) (l0_0_4 : List R48) (l0_1 : List Int) (a0_2 : Int) (a0_3 : Int) (a0_4 : Int) (a0_5 : Int) (l0_6 : List Int) (a0_7 : Int) (a0_8 : Int) (b0 : Nat) (b0_0 : Nat) (A0_0_0 : Option Addr) (n0_0_0 : Nat) (c0_0_0 : Nat) (x0_0_0 : Cs) (A0_0_1 : Option Addr) (n0_0_1 : Nat) (c0_0_1 : Nat) (x0_0_1 : Cs) (A0_0_4 : Option Addr) (n0_0_4 : Nat) (c0_0_4 : Nat) (x0_0_4 : Cs) (st0 : St w w1 (oJ b0 b0_0 l0_1 a0_2 a0_3 a0_4 a0_5 l0_6 a0_7 a0_8 98 :: oD b0_0 A0_0_0 n0_0_0 c0_0_0 A0_0_1 n0_0_1 c0_0_1 a0_0_2 a0_0_3 A0_0_4 n0_0_4 c0_0_4 95 :: .sl A0_0_0 c0_0_0 n0_0_0 x0_0_0 25 1 :: .sl A0_0_1 c0_0_1 n0_0_1 x0_0_1 124 2 :: .sl A0_0_4 c0_0_4 n0_0_4 x0_0_4 48 2 :: (T ++ R))) (hn0_0_0 : n0_0_0 = l0_0_0.length) (hx0_0_0 : HRs T (f25 w) x0_0_0 l0_0_0) (hn0_0_1 : n0_0_1 = l0_0_1.length) (hx0_0_1 : HRs T (f124 w) x0_0_1 l0_0_1) (hn0_0_4 : n0_0_4 = l0_0_4.length) (hx0_0_4 : HRs T (f48 w) x0_0_4 l0_0_4) (hl0_1 : l0_1.length = 32) (hl0_6 : l0_6.length = 32) (ls0_0_0 : List R25) (ls0_0_1 : List R124) (as0_0_2 : Int) (as0_0_3 : Bool) (ls0_0_4 : List R48) (ls0_1 : List Int) (as0_2 : Int) (as0_3 : Int) (as0_4 : Int) (as0_5 : Int) (ls0_6 : List Int) (as0_7 : Int) (as0_8 : Int) (ar0_0 : Int) (ar0_1 : Int) (lr0_2 : List Int) (H : journal_Journal_Empty.rel l0_0_0 l0_0_1 a0_0_2 a0_0_3 l0_0_4 l0_1 a0_2 a0_3 a0_4 a0_5 l0_6 a0_7 a0_8 ls0_0_0 ls0_0_1 as0_0_2 as0_0_3 ls0_0_4 ls0_1 as0_2 as0_3 as0_4 as0_5 ls0_6 as0_7 as0_8 ar0_0 ar0_1 lr0_2) :
  Calls Tryd.prog 17 #[.pointer (sp b0)] w1 fun e w' => ∃ T' As0_0_0 ns0_0_0 cs0_0_0 xs0_0_0 As0_0_1 ns0_0_1 cs0_0_1 xs0_0_1 As0_0_4 ns0_0_4 cs0_0_4 xs0_0_4, Pl T T' ∧ ns0_0_0 = ls0_0_0.length ∧ HRs T' (f25 w) xs0_0_0 ls0_0_0 ∧ ns0_0_1 = ls0_0_1.length ∧ HRs T' (f124 w) xs0_0_1 ls0_0_1 ∧ ns0_0_4 = ls0_0_4.length ∧ HRs T' (f48 w) xs0_0_4 ls0_0_4 ∧ ls0_1.length = 32 ∧ ls0_6.length = 32 ∧ lr0_2.length = 32 ∧ e = .returned (.agg ((cu ar0_0) ++ ((cu ar0_1) ++ iv .u8 lr0_2)).toArray) ∧ St w w' (oJ b0 b0_0 ls0_1 as0_2 as0_3 as0_4 as0_5 ls0_6 as0_7 as0_8 98 :: oD b0_0 As0_0_0 ns0_0_0 cs0_0_0 As0_0_1 ns0_0_1 cs0_0_1 as0_0_2 as0_0_3 As0_0_4 ns0_0_4 cs0_0_4 95 :: .sl As0_0_0 cs0_0_0 ns0_0_0 xs0_0_0 25 1 :: .sl As0_0_1 cs0_0_1 ns0_0_1 xs0_0_1 124 2 :: .sl As0_0_4 cs0_0_4 ns0_0_4 xs0_0_4 48 2 :: (T' ++ R)) := by
 refine CW.enter Tryd.func17 rfl (n := 23) rfl [.pointer (sp b0)] (Nat.le_of_ble_eq_true rfl) ?_
 refine CW.sub [(0, .pointer (sp b0))] ⟨rfl, trivial⟩ ?_
 refine cr ?_
 refine WL.alloc st0 zero39 ?_
 intro a1 a6 a2
 refine wn (CW.seq (cr (WL.mv rfl ?_)))
 refine WL.v (Runs.eql_ptr Tryd.underlying34 rfl rfl rfl) ?_
 refine wn ?_
 refine CW.cf rfl rfl ?_
 refine CW.skip (QW.then_n (CW.seq ?_))
 refine CW.region_qt 17 wide (by kernel_rfl) a2 ?_
 refine HL.mv rfl ?_
 refine HL.v (fun wq sq => (Runs.nilCheck rfl)) ?_
 refine HL.v (fun wq sq => (Runs.fieldAddr (off := 35) (p := 35) fld98_4 rfl rfl rfl)) ?_
 refine HL.v (fun wq sq => (Runs.fieldAddr (off := 0) (p := 35) fld39_0 rfl rfl rfl)) ?_
 refine HL.v (fun wq sq => (Runs.load nagg37 rfl (sq.cell (k := 1) rfl (pa (.int .u64 a0_4) ((cp b0_0) ++ (iv .u8 l0_1 ++ ((ci a0_2) ++ (cu a0_3)))) ((cu a0_5) ++ (iv .u8 l0_6 ++ ((cu a0_7) ++ (cu a0_8)))) (ho := by first | rfl | simp only [la, lc, ln, lv, hl0_1]))))) ?_
 refine HL.mv rfl ?_
 refine HL.v (fun wq sq => (Runs.nilCheck rfl)) ?_
 refine HL.v (fun wq sq => (Runs.fieldAddr (off := 35) (p := 35) fld98_4 rfl rfl rfl)) ?_
 refine HL.v (fun wq sq => (Runs.fieldAddr (off := 1) (p := 36) fld39_1 rfl rfl rfl)) ?_
 refine HL.v (fun wq sq => (Runs.load nagg37 rfl (sq.cell (k := 1) rfl (pa (.int .u64 a0_5) ((cp b0_0) ++ (iv .u8 l0_1 ++ ((ci a0_2) ++ ((cu a0_3) ++ (cu a0_4))))) (iv .u8 l0_6 ++ ((cu a0_7) ++ (cu a0_8))) (ho := by first | rfl | simp only [la, lc, ln, lv, hl0_1]))))) ?_
 refine HL.v (fun wq sq => (Runs.add rfl rfl rfl)) ?_
 refine HL.mv rfl ?_
 refine HL.v (fun wq sq => (Runs.nilCheck rfl)) ?_
 refine HL.v (fun wq sq => (Runs.fieldAddr (off := 34) (p := 34) fld98_3 rfl rfl rfl)) ?_
 refine HL.v (fun wq sq => (Runs.load nagg37 rfl (sq.cell (k := 1) rfl (pa (.int .u64 a0_3) ((cp b0_0) ++ (iv .u8 l0_1 ++ (ci a0_2))) ((cu a0_4) ++ ((cu a0_5) ++ (iv .u8 l0_6 ++ ((cu a0_7) ++ (cu a0_8))))) (ho := by first | rfl | simp only [la, lc, ln, lv, hl0_1]))))) ?_
 obtain ⟨a3, H⟩ := H
 refine HL.v (fun wq sq => (Runs.rem rfl rfl a3 rfl)) ?_
 refine HL.v (fun wq sq => (Runs.build_struct (ps := [(0, 1), (1, 1), (2, 32)]) (cs := ((cu (Int.tmod (IntKind.u64.wrap (a0_4 + a0_5)) a0_3)) ++ ((cu 0) ++ iv .u8 (z32)))) plc39 zero39 rfl (by refine Fills.cons (o := 0) (ms := ((cu (Int.tmod (IntKind.u64.wrap (a0_4 + a0_5)) a0_3)))) (show _ = some (0, ((cu (Int.tmod (IntKind.u64.wrap (a0_4 + a0_5)) a0_3))).length) by rw [show ((cu (Int.tmod (IntKind.u64.wrap (a0_4 + a0_5)) a0_3))).length = 1 from rfl] <;> rfl) rfl (leL (m := 1) (n := 34) rfl (by first | rfl | simp only [la, lc, ln, lv, List.length_replicate])) ?_; rw [show layV ((cu 0) ++ ((cu 0) ++ iv .u8 (z32))) 0 ((cu (Int.tmod (IntKind.u64.wrap (a0_4 + a0_5)) a0_3))) = ((cu (Int.tmod (IntKind.u64.wrap (a0_4 + a0_5)) a0_3)) ++ ((cu 0) ++ iv .u8 (z32))) from (layV_mid (pre := (([] : Cs))) (mid := ((cu 0))) (post := ((cu 0) ++ iv .u8 (z32))) (by first | rfl | simp only [aa, an, na, ca]) rfl (Eq.trans (b := 1) rfl (Eq.symm rfl))).trans (by first | rfl | simp only [aa, an, na, ca])]; exact Fills.nil))) ?_
 refine HL.nil (fun a7 a4 => ?_)
 refine WL.sm (new := ((cu (Int.tmod (IntKind.u64.wrap (a0_4 + a0_5)) a0_3)) ++ ((cu 0) ++ iv .u8 (z32)))) (i := 0) (pre := (([] : Cs))) (mid := ((cu 0) ++ ((cu 0) ++ iv .u8 (z32)))) (post := (([] : Cs))) (ms := ((cu (Int.tmod (IntKind.u64.wrap (a0_4 + a0_5)) a0_3)) ++ ((cu 0) ++ iv .u8 (z32)))) a4 rfl row39 (by first | rfl | simp only [aa, an, na, ca]) rfl rfl rfl (by first | rfl | simp only [la, lc, ln, lv, List.length_replicate]) (by first | rfl | simp only [la, lc, ln, lv, List.length_replicate]) (one_cat oneU (one_cat oneU (one_iv _ _))) (by first | rfl | simp only [aa, an, na, ca]) ?_
 intro a5 a0
 try dsimp only [List.set] at a0
 refine wn (CW.ret ?_)
 obtain ⟨rfl, rfl, rfl, rfl, rfl, rfl, rfl, rfl, rfl, rfl, rfl, rfl, rfl, rfl, rfl, rfl⟩ := H
 exact QW.retN1 rfl (Res.row rfl row39 a0 (i := 0) rfl (by first | rfl | simp only [la, lc, ln, lv, List.length_replicate])) ⟨T, A0_0_0, n0_0_0, c0_0_0, x0_0_0, A0_0_1, n0_0_1, c0_0_1, x0_0_1, A0_0_4, n0_0_4, c0_0_4, x0_0_4, Pl.refl, hn0_0_0, hx0_0_0, hn0_0_1, hx0_0_1, hn0_0_4, hx0_0_4, hl0_1, hl0_6, (List.length_replicate ..), rfl, (St.pickT (L := [_, _, _, _, _, _]) a0 [1, 2, 3, 4, 5] (by decide))⟩
/-! ### disk_Disk_Pending: function 30 -/
def disk_Disk_Pending.rel (l0_0 : List R25) (l0_1 : List R124) (a0_2 : Int) (a0_3 : Bool) (l0_4 : List R48) (ls0_0 : List R25) (ls0_1 : List R124) (as0_2 : Int) (as0_3 : Bool) (ls0_4 : List R48) (ar0 : Int) : Prop := ls0_0 = l0_0 ∧ ls0_1 = l0_1 ∧ as0_2 = a0_2 ∧ as0_3 = a0_3 ∧ ls0_4 = l0_4 ∧ ar0 = (l0_1.length : Int)
set_option maxHeartbeats 1000000 in
theorem disk_Disk_Pending.calls (w w1 : World) (T R : Pool) (l0_0 : List R25) (l0_1 : List R124) (a0_2 : Int) (a0_3 : Bool) (l0_4 : List R48) (b0 : Nat) (A0_0 : Option Addr) (n0_0 : Nat) (c0_0 : Nat) (x0_0 : Cs) (A0_1 : Option Addr) (n0_1 : Nat) (c0_1 : Nat) (x0_1 : Cs) (A0_4 : Option Addr) (n0_4 : Nat) (c0_4 : Nat) (x0_4 : Cs) (st0 : St w w1 (oD b0 A0_0 n0_0 c0_0 A0_1 n0_1 c0_1 a0_2 a0_3 A0_4 n0_4 c0_4 95 :: .sl A0_0 c0_0 n0_0 x0_0 25 1 :: .sl A0_1 c0_1 n0_1 x0_1 124 2 :: .sl A0_4 c0_4 n0_4 x0_4 48 2 :: (T ++ R))) (hn0_0 : n0_0 = l0_0.length) (hx0_0 : HRs T (f25 w) x0_0 l0_0) (hn0_1 : n0_1 = l0_1.length) (hx0_1 : HRs T (f124 w) x0_1 l0_1) (hn0_4 : n0_4 = l0_4.length) (hx0_4 : HRs T (f48 w) x0_4 l0_4) (ls0_0 : List R25) (ls0_1 : List R124) (as0_2 : Int) (as0_3 : Bool) (ls0_4 : List R48) (ar0 : Int) (H : disk_Disk_Pending.rel l0_0 l0_1 a0_2 a0_3 l0_4 ls0_0 ls0_1 as0_2 as0_3 ls0_4 ar0) :
  Calls Tryd.prog 30 #[.pointer (sp b0)] w1 fun e w' => ∃ T' As0_0 ns0_0 cs0_0 xs0_0 As0_1 ns0_1 cs0_1 xs0_1 As0_4 ns0_4 cs0_4 xs0_4, Pl T T' ∧ ns0_0 = ls0_0.length ∧ HRs T' (f25 w) xs0_0 ls0_0 ∧ ns0_1 = ls0_1.length ∧ HRs T' (f124 w) xs0_1 ls0_1 ∧ ns0_4 = ls0_4.length ∧ HRs T' (f48 w) xs0_4 ls0_4 ∧ e = .returned (.int .i64 ar0) ∧ St w w' (oD b0 As0_0 ns0_0 cs0_0 As0_1 ns0_1 cs0_1 as0_2 as0_3 As0_4 ns0_4 cs0_4 95 :: .sl As0_0 cs0_0 ns0_0 xs0_0 25 1 :: .sl As0_1 cs0_1 ns0_1 xs0_1 124 2 :: .sl As0_4 cs0_4 ns0_4 xs0_4 48 2 :: (T' ++ R)) := by
 refine CW.enter Tryd.func30 rfl (n := 10) rfl [.pointer (sp b0)] (Nat.le_of_ble_eq_true rfl) ?_
 refine CW.sub [(0, .pointer (sp b0))] ⟨rfl, trivial⟩ ?_
 refine cr (WL.as rfl (wn (CW.seq (cr (WL.mv rfl ?_)))))
 refine WL.v (Runs.eql_ptr Tryd.underlying30 rfl rfl rfl) ?_
 refine wn ?_
 refine CW.cf rfl rfl ?_
 refine CW.skip (QW.then_n (cr (WL.mv rfl ?_)))
 refine WL.v (Runs.nilCheck rfl) ?_
 refine WL.v (Runs.fieldAddr (off := 1) (p := 1) fld95_1 rfl rfl rfl) ?_
 refine WL.v (Runs.load nagg93 rfl (st0.cell (k := 0) rfl (pa (.slice A0_1 n0_1 c0_1) (cl A0_0 n0_0 c0_0) ((ci a0_2) ++ ((cb a0_3) ++ (cl A0_4 n0_4 c0_4)))))) ?_
 refine WL.v (Runs.len_sl Tryd.underlying93 rfl (by rw [hn0_1])) ?_
 refine WL.as rfl (wn (CW.ret ?_))
 obtain ⟨rfl, rfl, rfl, rfl, rfl, rfl⟩ := H
 exact QW.ret1 rfl rfl ⟨T, A0_0, n0_0, c0_0, x0_0, A0_1, n0_1, c0_1, x0_1, A0_4, n0_4, c0_4, x0_4, Pl.refl, hn0_0, hx0_0, hn0_1, hx0_1, hn0_4, hx0_4, rfl, (St.pickT (L := [_, _, _, _]) st0 [0, 1, 2, 3] (by decide))⟩
/-! ### reliquarylaw13_awake: function 8 -/
def reliquarylaw13_awake.rel   : Prop := (∃ (a3 : Option ((List R25) × (List R124) × Int × Bool × (List R48))) (k6 : Int), disk_New.rel 4 a3 k6 ∧ ((∃ (a4 : List R25) (a5 : List R124) (a6 : Int) (a7 : Bool) (a8 : List R48), a3 = some (a4, a5, a6, a7, a8) ∧ (∃ a9 : List Int, a9 = [1, 0, 0, 0, 0, 0, 0, 0, 0, 0, 0, 0, 0, 0, 0, 0, 0, 0, 0, 0, 0, 0, 0, 0, 0, 0, 0, 0, 0, 0, 0, 0] ∧ (∃ (b0 : Option ((List Int) × Int × Int × Int × Int × (List Int) × Int × Int)) (b1 : List R25) (b2 : List R124) (b3 : Int) (b4 : Bool) (b5 : List R48) (k7 : Int), journal_New.rel a4 a5 a6 a7 a8 a9 1 2 0 0 (z32) 1 100 b1 b2 b3 b4 b5 b0 k7 ∧ ((∃ (b6 : List Int) (b7 : Int) (b8 : Int) (b9 : Int) (c0 : Int) (c1 : List Int) (c2 : Int) (c3 : Int), b0 = some (b6, b7, b8, b9, c0, c1, c2, c3) ∧ (∃ (c4 : List R25) (c5 : List R124) (c6 : Int) (c7 : Bool) (c8 : List R48) (c9 : List Int) (d0 : Int) (d1 : Int) (d2 : Int) (d3 : Int) (d4 : List Int) (d5 : Int) (d6 : Int) (k8 : Int) (k9 : Int) (l0 : List Int) (d7 : Int), journal_Journal_Append.rel b1 b2 b3 b4 b5 b6 b7 b8 b9 c0 c1 c2 c3 ([(3, List.replicate 160 (0 : Int)), (3, List.replicate 160 (0 : Int)), (3, List.replicate 160 (0 : Int))] : List R42) c4 c5 c6 c7 c8 c9 d0 d1 d2 d3 d4 d5 d6 k8 k9 l0 d7 ∧ (∃ (d8 : List R25) (d9 : List R124) (e0 : Int) (e1 : Bool) (e2 : List R48) (e3 : List Int) (e4 : Int) (e5 : Int) (e6 : Int) (e7 : Int) (e8 : List Int) (e9 : Int) (f0 : Int) (a1 : Int) (a0 : Int) (a2 : List Int) (f1 : Int), journal_Journal_Append.rel c4 c5 c6 c7 c8 c9 d0 d1 d2 d3 d4 d5 d6 ([(3, List.replicate 160 (0 : Int))] : List R42) d8 d9 e0 e1 e2 e3 e4 e5 e6 e7 e8 e9 f0 a1 a0 a2 f1 ∧ (∃ (f2 : List R25) (f3 : List R124) (f4 : Int) (f5 : Bool) (f6 : List R48) (f7 : List Int) (f8 : Int) (f9 : Int) (g0 : Int) (g1 : Int) (g2 : List Int) (g3 : Int) (g4 : Int), journal_Journal_Adopt.rel d8 d9 e0 e1 e2 e3 e4 e5 e6 e7 e8 e9 f0 a1 a0 a2 100 f2 f3 f4 f5 f6 f7 f8 f9 g0 g1 g2 g3 g4 ∧ (∃ (g5 : List R25) (g6 : List R124) (g7 : Int) (g8 : Bool) (g9 : List R48) (h0 : List Int) (h1 : Int) (h2 : Int) (h3 : Int) (h4 : Int) (h5 : List Int) (h6 : Int) (h7 : Int) (h8 : Int) (h9 : Int) (i0 : List Int) (i1 : Int), journal_Journal_State.rel f2 f3 f4 f5 f6 f7 f8 f9 g0 g1 g2 g3 g4 g5 g6 g7 g8 g9 h0 h1 h2 h3 h4 h5 h6 h7 h8 h9 i0 i1 ∧ (d7 = 17 ∧ (f1 = 0 ∧ (a0 = 1 ∧ (((h8 == a1) && ((h9 == a0) && ((i0 == a2) && true))) = true ∧ (i1 = 2 ∧ (∃ (i2 : List R25) (i3 : List R124) (i4 : Int) (i5 : Bool) (i6 : List R48) (i7 : List Int) (i8 : Int) (i9 : Int) (j0 : Int) (j1 : Int) (j2 : List Int) (j3 : Int) (j4 : Int) (j5 : Int), journal_Journal_Room.rel g5 g6 g7 g8 g9 h0 h1 h2 h3 h4 h5 h6 h7 i2 i3 i4 i5 i6 i7 i8 i9 j0 j1 j2 j3 j4 j5 ∧ (j5 = 1 ∧ (∃ (j6 : List R25) (j7 : List R124) (j8 : Int) (j9 : Bool) (k0 : List R48) (l1 : List Int) (l2 : Int) (l3 : Int) (l4 : Int) (l5 : Int) (l6 : List Int) (l7 : Int) (l8 : Int) (k1 : Int) (l9 : Int) (m0 : List Int), journal_Journal_Empty.rel i2 i3 i4 i5 i6 i7 i8 i9 j0 j1 j2 j3 j4 j6 j7 j8 j9 k0 l1 l2 l3 l4 l5 l6 l7 l8 k1 l9 m0 ∧ (k1 = 1 ∧ (∃ (m1 : List R25) (m2 : List R124) (m3 : Int) (m4 : Bool) (m5 : List R48) (k2 : Int), disk_Disk_Pending.rel j6 j7 j8 j9 k0 m1 m2 m3 m4 m5 k2 ∧ (k2 = 1 ∧ (∃ k3 : List Int, k3 = z32 ∧ (∃ (k4 : List Int), journal_Link.rel k3 0 ([] : List Int) k4 ∧ (∃ k5 : List Int, k5 = z32 ∧ ¬ (k4 = k5))))))))))))))))))))))))))
set_option maxHeartbeats 4000000 in
theorem reliquarylaw13_awake.calls (w : World)    (hG0 : Src w (sp 0) (iv .u32 tab0)) (hG1 : Src w (sp 1) (iv .i64 tab1))  (H : reliquarylaw13_awake.rel  ) :
  Calls Tryd.prog 8 #[] w fun e w' => e = .returned (.bool true) ∧ Below w.heap.size w w' := by
 refine CW.enter Tryd.func8 rfl (n := 101) rfl [] (Nat.le_of_ble_eq_true rfl) ?_
 refine CW.sub [] trivial ?_
 obtain ⟨T, R, hT, hR, st0⟩ := St.start w
 refine cr (WL.as rfl (WL.nx ?_))
 have D2 := St.hide (A := []) (B := []) (T := T) (R := R) st0
 obtain ⟨Q9, D3, D4, H⟩ := H
 obtain ⟨w2, w3, m8, m9, w4, rfl, H⟩ := H
 refine WL.call Wanted.none ent11 rfl (disk_New.calls_obj w w T (R) 4  D2 w2 w3 m8 m9 w4 D3 (some (w2, w3, m8, m9, w4)) rfl D4) ?_
 rintro _ w5 ⟨n0, a0, n1, n2, n3, w6, n4, n5, n6, w7, n7, n8, n9, w8, R0, D5, D6, D7, D8, D9, E0, rfl, E1⟩
 have E2 : St w w5 (oD a0 n1 n2 n3 n4 n5 n6 m8 m9 n7 n8 n9 95 :: .sl n1 n3 n2 w6 25 1 :: .sl n4 n6 n5 w7 124 2 :: .sl n7 n9 n8 w8 48 2 :: (n0 ++ R)) := St.unhide (A := [_, _, _, _]) (B := []) (T := n0) (R := R) E1
 refine ⟨_, rfl, ?_⟩
 refine WL.mv rfl ?_
 refine WL.v (Runs.extract rfl rfl) ?_
 refine WL.v (Runs.extract rfl rfl) ?_
 refine WL.as rfl (WL.as rfl (WL.nx (WL.mv rfl ?_)))
 obtain ⟨z5, z6, H⟩ := H
 refine WL.v (Runs.build_arr (xs := z5) arr23 rfl rfl (by rw [z6]; rfl)) ?_
 refine WL.v (Runs.build_struct (ps := [(0, 1), (1, 1), (2, 32)]) (cs := ((cu 0) ++ ((cu 0) ++ iv .u8 (z32)))) plc39 zero39 rfl Fills.nil) ?_
 have E3 := St.hide (A := [_, _, _, _]) (B := []) (T := n0) (R := R) E2
 obtain ⟨R1, z7, z8, e6, e7, z9, E4, E5, H⟩ := H
 obtain ⟨d8, d9, e0, e1, e2, e3, e4, e5, rfl, H⟩ := H
 refine WL.call Wanted.none ent12 rfl (journal_New.calls_obj w w5 n0 (R) w2 w3 m8 m9 w4 z5 1 2 0 0 (z32) 1 100 a0 n1 n2 n3 w6 n4 n5 n6 w7 n7 n8 n9 w8  E3 (D5) D6 (D7) D8 (D9) E0 (by rw [z6]; rfl) (List.length_replicate ..) z7 z8 e6 e7 z9 d8 d9 e0 e1 e2 e3 e4 e5 E4 (some (d8, d9, e0, e1, e2, e3, e4, e5)) rfl E5) ?_
 rintro _ E6 ⟨o0, b9, c0, c1, e9, c2, c3, c4, f0, c5, c6, c7, f1, a2, R2, E7, E8, E9, F0, F1, F2, F3, F4, rfl, F5⟩
 have F6 : St w E6 (oD a0 b9 c0 c1 c2 c3 c4 e6 e7 c5 c6 c7 95 :: .sl b9 c1 c0 e9 25 1 :: .sl c2 c4 c3 f0 124 2 :: .sl c5 c7 c6 f1 48 2 :: oJ a2 a0 d8 d9 e0 e1 e2 e3 e4 e5 98 :: (o0 ++ R)) := St.unhide (A := [_, _, _, _, _]) (B := []) (T := o0) (R := R) F5
 refine ⟨_, rfl, ?_⟩
 refine WL.mv rfl ?_
 refine WL.v (Runs.extract rfl rfl) ?_
 refine WL.v (Runs.extract rfl rfl) ?_
 refine WL.as rfl (WL.as rfl (wn ?_))
 refine CW.sub [(0, .bool false), (1, .pointer (sp a0)), (2, .int .i64 0), (3, .pointer (sp a2)), (4, .int .i64 0)] ⟨rfl, rfl, rfl, rfl, rfl, trivial⟩ ?_
 refine CW.seq (cr (WL.mv rfl ?_))
 refine WL.v (Runs.neq (b := false) rfl rfl (by decide)) ?_
 refine WL.mv rfl ?_
 refine WL.on ?_ ?_; exact Wg 25 rfl
 refine WL.mv rfl ?_
 refine WL.on ?_ ?_; exact Wg 25 rfl
 refine WL.v (Runs.neq (b := false) rfl rfl (by decide)) ?_
 refine WL.v (Runs.pick_f rfl rfl) ?_
 refine WL.mv rfl ?_
 refine WL.on ?_ ?_; exact Wg 29 rfl
 refine WL.mv rfl ?_
 refine WL.on ?_ ?_; exact Wg 29 rfl
 refine WL.v (Runs.eql_ptr Tryd.underlying34 rfl rfl rfl) ?_
 refine WL.v (Runs.pick_f rfl rfl) ?_
 refine wn ?_
 refine CW.sub [(0, .bool false), (1, .pointer (sp a0)), (3, .pointer (sp a2)), (32, .bool false)] ⟨rfl, rfl, rfl, rfl, trivial⟩ ?_
 refine CW.cf rfl rfl ?_
 refine CW.skip (QW.then_n (cr ?_))
 refine WL.make F6 Tryd.underlying25 elem5 rfl rfl (by decide) (by decide) (by decide) (N := 160) rfl ?_
 intro a1 F7 r5
 replace r5 : St w F7 (.sl (sp a1) 160 160 (iv .u8 (List.replicate 160 (0 : Int))) 5 1 :: oD a0 b9 c0 c1 c2 c3 c4 e6 e7 c5 c6 c7 95 :: .sl b9 c1 c0 e9 25 1 :: .sl c2 c4 c3 f0 124 2 :: .sl c5 c7 c6 f1 48 2 :: oJ a2 a0 d8 d9 e0 e1 e2 e3 e4 e5 98 :: (o0 ++ R)) := by rw [iv_replicate] at r5; exact r5
 have F8 : 160 = (List.replicate 160 (0 : Int)).length := by simp
 refine WL.v (Runs.build_seg (ps := [(0, 1), (1, 1)]) (cs := ((cu 3) ++ (cl (sp a1) 160 160))) plc42 zero42 rfl (.cons (ms := ((cu 3))) rfl rfl rfl (.one rfl rfl)) rfl rfl) ?_
 refine WL.alloc r5 zero42 ?_
 intro a3 R3 F9
 refine WL.sm (new := ((cu 3) ++ (cl (sp a1) 160 160))) (i := 0) (pre := (([] : Cs))) (mid := ((cu 0) ++ (cl none 0 0))) (post := (([] : Cs))) (ms := ((cu 3) ++ (cl (sp a1) 160 160))) F9 rfl row42 (by first | rfl | simp only [aa, an, na, ca]) rfl rfl rfl rfl rfl (one_cat oneU oneU) rfl ?_
 intro A0 i2
 try dsimp only [List.set] at i2
 refine WL.nx (WL.mv rfl ?_)
 refine WL.v (Runs.load_mid row42 rfl i2 (i := 0) rfl (pm [] ((cu 3) ++ (cl (sp a1) 160 160)) []) rfl) ?_
 refine WL.v (Runs.load_mid row42 rfl i2 (i := 0) rfl (pm [] ((cu 3) ++ (cl (sp a1) 160 160)) []) rfl) ?_
 refine WL.v (Runs.load_mid row42 rfl i2 (i := 0) rfl (pm [] ((cu 3) ++ (cl (sp a1) 160 160)) []) rfl) ?_
 have hb_93c := i2.cap (i := 1) rfl
 obtain ⟨f2, w9, G0, x0⟩ := St.freeze (A := [_]) (B := [_, _, _, _, _]) (T := o0) (R := R) i2
 have r6 : HB w f2 (sp a1) 160 160 (iv .u8 (List.replicate 160 (0 : Int))) (List.replicate 160 (0 : Int)).length := ⟨F8, hb_93c, Hd.of_sl G0⟩
 replace x0 : St w A0 (.cells a3 ((cu 3) ++ (cl (sp a1) 160 160)) 42 :: oD a0 b9 c0 c1 c2 c3 c4 e6 e7 c5 c6 c7 95 :: .sl b9 c1 c0 e9 25 1 :: .sl c2 c4 c3 f0 124 2 :: .sl c5 c7 c6 f1 48 2 :: oJ a2 a0 d8 d9 e0 e1 e2 e3 e4 e5 98 :: (f2 ++ R)) := x0
 obtain ⟨R4, R5, G1, G2, G3, G4⟩ := slr42_3
 refine WL.buildSlSg (sz := 2) (cs := ((cu 3) ++ ((cl (sp a1) 160 160) ++ ((cu 3) ++ ((cl (sp a1) 160 160) ++ ((cu 3) ++ (cl (sp a1) 160 160))))))) x0 Tryd.underlying40 G1 G2 G3 (by decide) (by decide) G4 rfl (.cons (ms := ((cu 3) ++ (cl (sp a1) 160 160))) rfl rfl rfl (.cons (ms := ((cu 3) ++ (cl (sp a1) 160 160))) rfl rfl rfl (.one rfl rfl))) rfl rfl ?_
 intro a4 o1 x1
 replace x1 : St w o1 (.cells a4 ((cu 3) ++ ((cl (sp a1) 160 160) ++ ((cu 3) ++ ((cl (sp a1) 160 160) ++ ((cu 3) ++ (cl (sp a1) 160 160)))))) 42 :: .cells a3 ((cu 3) ++ (cl (sp a1) 160 160)) 42 :: oD a0 b9 c0 c1 c2 c3 c4 e6 e7 c5 c6 c7 95 :: .sl b9 c1 c0 e9 25 1 :: .sl c2 c4 c3 f0 124 2 :: .sl c5 c7 c6 f1 48 2 :: oJ a2 a0 d8 d9 e0 e1 e2 e3 e4 e5 98 :: (f2 ++ R)) := x1
 have x2 := St.rows_sl (i := 0) (m := 3) (size := 2) x1 rfl rfl (by decide)
 obtain ⟨a5, A1⟩ : ∃ x_ : Cs, x_ = (cu 3) ++ ((cl (sp a1) 160 160) ++ ((cu 3) ++ ((cl (sp a1) 160 160) ++ ((cu 3) ++ (cl (sp a1) 160 160))))) := ⟨_, rfl⟩
 have G5 : HRs f2 (f42 w) a5 ([(3, List.replicate 160 (0 : Int)), (3, List.replicate 160 (0 : Int)), (3, List.replicate 160 (0 : Int))] : List R42) := by rw [A1]; exact (HRs.cons (ms := (cu 3) ++ (cl (sp a1) 160 160)) (.cons rfl (.cons ⟨_, _, _, rfl, r6⟩ .nil)) (HRs.cons (ms := (cu 3) ++ (cl (sp a1) 160 160)) (.cons rfl (.cons ⟨_, _, _, rfl, r6⟩ .nil)) (HRs.one (.cons rfl (.cons ⟨_, _, _, rfl, r6⟩ .nil)))))
 replace x2 : St w o1 (.sl (sp a4) 3 3 a5 42 2 :: .cells a3 ((cu 3) ++ (cl (sp a1) 160 160)) 42 :: oD a0 b9 c0 c1 c2 c3 c4 e6 e7 c5 c6 c7 95 :: .sl b9 c1 c0 e9 25 1 :: .sl c2 c4 c3 f0 124 2 :: .sl c5 c7 c6 f1 48 2 :: oJ a2 a0 d8 d9 e0 e1 e2 e3 e4 e5 98 :: (f2 ++ R)) := by rw [A1]; exact x2
 have r7 := (St.pickT (L := [_, _, _, _, _, _, _]) x2 [6, 2, 3, 4, 5, 0, 1] (by decide))
 have G6 := St.hide (A := [_, _, _, _, _]) (B := [_, _]) (T := f2) (R := R) r7
 obtain ⟨A2, A3, h1, h2, A4, h3, h4, h5, h6, h7, h8, h9, i0, a9, b0, b1, o2, G7, H⟩ := H
 refine WL.call Wanted.none ent14 rfl (journal_Journal_Append.calls w o1 f2 (.sl (sp a4) 3 3 a5 42 2 :: .cells a3 ((cu 3) ++ (cl (sp a1) 160 160)) 42 :: R) z7 z8 e6 e7 z9 d8 d9 e0 e1 e2 e3 e4 e5 ([(3, List.replicate 160 (0 : Int)), (3, List.replicate 160 (0 : Int)), (3, List.replicate 160 (0 : Int))] : List R42) a2 a0 b9 c0 c1 e9 c2 c3 c4 f0 c5 c6 c7 f1 (sp a4) 3 3  G6 hG0 hG1 (E7) (E8.mono (fun _ h_ => w9.1 _ h_)) (E9) (F0.mono (fun _ h_ => w9.1 _ h_)) (F1) (F2.mono (fun _ h_ => w9.1 _ h_)) F3 F4 (HS.mk rfl (r7.cap (i := 5) rfl) (fun W_ L_ st hT => st.src_mem (hT _ (List.mem_append_right _ (List.mem_of_getElem? (i := 0) rfl)))) G5) A2 A3 h1 h2 A4 h3 h4 h5 h6 h7 h8 h9 i0 a9 b0 b1 o2 G7) ?_
 rintro _ G8 ⟨e8, c9, d0, d1, i3, d2, d3, d4, i4, d5, d6, d7, i5, G9, H0, H1, H2, H3, H4, H5, H6, H7, H8, rfl, H9⟩
 have I0 : St w G8 (oJ a2 a0 h3 h4 h5 h6 h7 h8 h9 i0 98 :: oD a0 c9 d0 d1 d2 d3 d4 h1 h2 d5 d6 d7 95 :: .sl c9 d1 d0 i3 25 1 :: .sl d2 d4 d3 i4 124 2 :: .sl d5 d7 d6 i5 48 2 :: .sl (sp a4) 3 3 a5 42 2 :: .cells a3 ((cu 3) ++ (cl (sp a1) 160 160)) 42 :: (e8 ++ R)) := St.unhide (A := [_, _, _, _, _]) (B := [_, _]) (T := e8) (R := R) H9
 refine ⟨_, rfl, ?_⟩
 refine WL.mv rfl ?_
 refine WL.v (Runs.extract rfl rfl) ?_
 refine WL.v (Runs.extract rfl rfl) ?_
 refine WL.alloc I0 zero39 ?_
 intro b2 R6 I1
 refine WL.sm (new := ((cu a9) ++ ((cu b0) ++ iv .u8 b1))) (i := 0) (pre := (([] : Cs))) (mid := ((cu 0) ++ ((cu 0) ++ iv .u8 (z32)))) (post := (([] : Cs))) (ms := ((cu a9) ++ ((cu b0) ++ iv .u8 b1))) I1 rfl row39 (by first | rfl | simp only [aa, an, na, ca]) rfl rfl rfl (by first | rfl | simp only [la, lc, ln, lv, H8]) (by first | rfl | simp only [la, lc, ln, lv, List.length_replicate]) (one_cat oneU (one_cat oneU (one_iv _ _))) (by first | rfl | simp only [aa, an, na, ca]) ?_
 intro I2 r8
 try dsimp only [List.set] at r8
 refine WL.as rfl (wn ?_)
 refine CW.sub [(0, .bool false), (1, .pointer (sp a0)), (3, .pointer (sp a2)), (5, .pointer (sp a3)), (7, .int .i64 o2)] ⟨rfl, rfl, rfl, rfl, rfl, trivial⟩ ?_
 refine cr (WL.mv rfl ?_)
 refine WL.v (Runs.load_mid row42 rfl r8 (i := 7) rfl (pm [] ((cu 3) ++ (cl (sp a1) 160 160)) []) rfl) ?_
 obtain ⟨R7, R8, I3, I4, I5, I6⟩ := slr42_1
 refine WL.buildSlSg (sz := 2) (cs := ((cu 3) ++ (cl (sp a1) 160 160))) r8 Tryd.underlying40 I3 I4 I5 (by decide) (by decide) I6 rfl (.one rfl rfl) rfl rfl ?_
 intro b3 o3 x3
 replace x3 : St w o3 (.cells b3 ((cu 3) ++ (cl (sp a1) 160 160)) 42 :: oS b2 a9 b0 b1 39 :: oJ a2 a0 h3 h4 h5 h6 h7 h8 h9 i0 98 :: oD a0 c9 d0 d1 d2 d3 d4 h1 h2 d5 d6 d7 95 :: .sl c9 d1 d0 i3 25 1 :: .sl d2 d4 d3 i4 124 2 :: .sl d5 d7 d6 i5 48 2 :: .sl (sp a4) 3 3 a5 42 2 :: .cells a3 ((cu 3) ++ (cl (sp a1) 160 160)) 42 :: (e8 ++ R)) := x3
 have x4 := St.rows_sl (i := 0) (m := 1) (size := 2) x3 rfl rfl (by decide)
 obtain ⟨b4, A5⟩ : ∃ x_ : Cs, x_ = (cu 3) ++ (cl (sp a1) 160 160) := ⟨_, rfl⟩
 have I7 : HRs e8 (f42 w) b4 ([(3, List.replicate 160 (0 : Int))] : List R42) := by rw [A5]; exact (HRs.one (.cons rfl (.cons ⟨_, _, _, rfl, (r6.mono (fun _ h_ => G9.1 _ h_))⟩ .nil)))
 replace x4 : St w o3 (.sl (sp b3) 1 1 b4 42 2 :: oS b2 a9 b0 b1 39 :: oJ a2 a0 h3 h4 h5 h6 h7 h8 h9 i0 98 :: oD a0 c9 d0 d1 d2 d3 d4 h1 h2 d5 d6 d7 95 :: .sl c9 d1 d0 i3 25 1 :: .sl d2 d4 d3 i4 124 2 :: .sl d5 d7 d6 i5 48 2 :: .sl (sp a4) 3 3 a5 42 2 :: .cells a3 ((cu 3) ++ (cl (sp a1) 160 160)) 42 :: (e8 ++ R)) := by rw [A5]; exact x4
 have r9 := (St.pickT (L := [_, _, _, _, _, _, _, _, _]) x4 [2, 3, 4, 5, 6, 0, 1, 7, 8] (by decide))
 have I8 := St.hide (A := [_, _, _, _, _]) (B := [_, _, _, _]) (T := e8) (R := R) r9
 obtain ⟨A6, A7, k5, k6, A8, k7, k8, k9, l0, l1, l2, l3, l4, a7, a6, a8, s0, I9, H⟩ := H
 refine WL.call Wanted.none ent14 rfl (journal_Journal_Append.calls w o3 e8 (.sl (sp b3) 1 1 b4 42 2 :: oS b2 a9 b0 b1 39 :: .sl (sp a4) 3 3 a5 42 2 :: .cells a3 ((cu 3) ++ (cl (sp a1) 160 160)) 42 :: R) A2 A3 h1 h2 A4 h3 h4 h5 h6 h7 h8 h9 i0 ([(3, List.replicate 160 (0 : Int))] : List R42) a2 a0 c9 d0 d1 i3 d2 d3 d4 i4 d5 d6 d7 i5 (sp b3) 1 1  I8 hG0 hG1 (H0) H1 (H2) H3 (H4) H5 H6 H7 (HS.mk rfl (r9.cap (i := 5) rfl) (fun W_ L_ st hT => st.src_mem (hT _ (List.mem_append_right _ (List.mem_of_getElem? (i := 0) rfl)))) I7) A6 A7 k5 k6 A8 k7 k8 k9 l0 l1 l2 l3 l4 a7 a6 a8 s0 I9) ?_
 rintro _ J0 ⟨i6, f3, f4, f5, o4, f6, f7, f8, o5, f9, g0, g1, o6, R9, J1, J2, J3, J4, J5, J6, J7, J8, i1, rfl, J9⟩
 have K0 : St w J0 (oJ a2 a0 k7 k8 k9 l0 l1 l2 l3 l4 98 :: oD a0 f3 f4 f5 f6 f7 f8 k5 k6 f9 g0 g1 95 :: .sl f3 f5 f4 o4 25 1 :: .sl f6 f8 f7 o5 124 2 :: .sl f9 g1 g0 o6 48 2 :: .sl (sp b3) 1 1 b4 42 2 :: oS b2 a9 b0 b1 39 :: .sl (sp a4) 3 3 a5 42 2 :: .cells a3 ((cu 3) ++ (cl (sp a1) 160 160)) 42 :: (i6 ++ R)) := St.unhide (A := [_, _, _, _, _]) (B := [_, _, _, _]) (T := i6) (R := R) J9
 refine ⟨_, rfl, ?_⟩
 refine WL.mv rfl ?_
 refine WL.v (Runs.extract rfl rfl) ?_
 refine WL.v (Runs.extract rfl rfl) ?_
 refine WL.alloc K0 zero39 ?_
 intro b5 S0 K1
 refine WL.sm (new := ((cu a7) ++ ((cu a6) ++ iv .u8 a8))) (i := 0) (pre := (([] : Cs))) (mid := ((cu 0) ++ ((cu 0) ++ iv .u8 (z32)))) (post := (([] : Cs))) (ms := ((cu a7) ++ ((cu a6) ++ iv .u8 a8))) K1 rfl row39 (by first | rfl | simp only [aa, an, na, ca]) rfl rfl rfl (by first | rfl | simp only [la, lc, ln, lv, i1]) (by first | rfl | simp only [la, lc, ln, lv, List.length_replicate]) (one_cat oneU (one_cat oneU (one_iv _ _))) (by first | rfl | simp only [aa, an, na, ca]) ?_
 intro s1 s2
 try dsimp only [List.set] at s2
 refine WL.as rfl (wn ?_)
 refine CW.sub [(0, .bool false), (1, .pointer (sp a0)), (3, .pointer (sp a2)), (7, .int .i64 o2), (8, .pointer (sp b5)), (9, .int .i64 s0)] (by repeat' constructor) ?_
 refine cr (WL.mv rfl ?_)
 refine WL.v (Runs.load_mid row39 rfl s2 (i := 0) rfl (pm [] ((cu a7) ++ ((cu a6) ++ iv .u8 a8)) [] (hm := by first | rfl | simp only [la, lc, ln, lv, i1])) (by first | rfl | simp only [la, lc, ln, lv, i1])) ?_
 have x5 := (St.pickT (L := [_, _, _, _, _, _, _, _, _, _]) s2 [1, 2, 3, 4, 5, 0, 6, 7, 8, 9] (by decide))
 have K2 := St.hide (A := [_, _, _, _, _]) (B := [_, _, _, _, _]) (T := i6) (R := R) x5
 obtain ⟨A9, B0, s3, s4, B1, s5, s6, s7, s8, s9, t0, t1, t2, K3, H⟩ := H
 refine WL.call Wanted.none ent15 rfl (journal_Journal_Adopt.calls w s1 i6 (oS b5 a7 a6 a8 39 :: .sl (sp b3) 1 1 b4 42 2 :: oS b2 a9 b0 b1 39 :: .sl (sp a4) 3 3 a5 42 2 :: .cells a3 ((cu 3) ++ (cl (sp a1) 160 160)) 42 :: R) A6 A7 k5 k6 A8 k7 k8 k9 l0 l1 l2 l3 l4 a7 a6 a8 100 a2 a0 f3 f4 f5 o4 f6 f7 f8 o5 f9 g0 g1 o6  K2 (J1) J2 (J3) J4 (J5) J6 J7 J8 i1 A9 B0 s3 s4 B1 s5 s6 s7 s8 s9 t0 t1 t2 K3) ?_
 rintro _ x6 ⟨o7, o8, o9, p0, x7, p1, p2, p3, x8, p4, p5, p6, x9, S1, K4, K5, K6, K7, K8, K9, L0, L1, rfl, L2⟩
 have L3 : St w x6 (oJ a2 a0 s5 s6 s7 s8 s9 t0 t1 t2 98 :: oD a0 o8 o9 p0 p1 p2 p3 s3 s4 p4 p5 p6 95 :: .sl o8 p0 o9 x7 25 1 :: .sl p1 p3 p2 x8 124 2 :: .sl p4 p6 p5 x9 48 2 :: oS b5 a7 a6 a8 39 :: .sl (sp b3) 1 1 b4 42 2 :: oS b2 a9 b0 b1 39 :: .sl (sp a4) 3 3 a5 42 2 :: .cells a3 ((cu 3) ++ (cl (sp a1) 160 160)) 42 :: (o7 ++ R)) := St.unhide (A := [_, _, _, _, _]) (B := [_, _, _, _, _]) (T := o7) (R := R) L2
 refine ⟨_, rfl, ?_⟩
 refine WL.nx (WL.mv rfl ?_)
 have L4 := St.hide (A := [_, _, _, _, _]) (B := [_, _, _, _, _]) (T := o7) (R := R) L3
 obtain ⟨B2, B3, l5, l6, B4, l7, l8, l9, m0, m1, m2, m3, m4, b6, b7, b8, y0, L5, H⟩ := H
 refine WL.call Wanted.none ent25 rfl (journal_Journal_State.calls w x6 o7 (oS b5 a7 a6 a8 39 :: .sl (sp b3) 1 1 b4 42 2 :: oS b2 a9 b0 b1 39 :: .sl (sp a4) 3 3 a5 42 2 :: .cells a3 ((cu 3) ++ (cl (sp a1) 160 160)) 42 :: R) A9 B0 s3 s4 B1 s5 s6 s7 s8 s9 t0 t1 t2 a2 a0 o8 o9 p0 x7 p1 p2 p3 x8 p4 p5 p6 x9  L4 (K4) K5 (K6) K7 (K8) K9 L0 L1 B2 B3 l5 l6 B4 l7 l8 l9 m0 m1 m2 m3 m4 b6 b7 b8 y0 L5) ?_
 rintro _ L6 ⟨i7, g2, g3, g4, p7, g5, g6, g7, p8, g8, g9, h0, p9, S2, L7, L8, L9, M0, M1, M2, M3, M4, q0, rfl, M5⟩
 have M6 : St w L6 (oJ a2 a0 l7 l8 l9 m0 m1 m2 m3 m4 98 :: oD a0 g2 g3 g4 g5 g6 g7 l5 l6 g8 g9 h0 95 :: .sl g2 g4 g3 p7 25 1 :: .sl g5 g7 g6 p8 124 2 :: .sl g8 h0 g9 p9 48 2 :: oS b5 a7 a6 a8 39 :: .sl (sp b3) 1 1 b4 42 2 :: oS b2 a9 b0 b1 39 :: .sl (sp a4) 3 3 a5 42 2 :: .cells a3 ((cu 3) ++ (cl (sp a1) 160 160)) 42 :: (i7 ++ R)) := St.unhide (A := [_, _, _, _, _]) (B := [_, _, _, _, _]) (T := i7) (R := R) M5
 refine ⟨_, rfl, ?_⟩
 refine WL.mv rfl ?_
 refine WL.v (Runs.extract rfl rfl) ?_
 refine WL.v (Runs.extract rfl rfl) ?_
 refine WL.alloc M6 zero39 ?_
 intro c8 S3 M7
 refine WL.sm (new := ((cu b6) ++ ((cu b7) ++ iv .u8 b8))) (i := 0) (pre := (([] : Cs))) (mid := ((cu 0) ++ ((cu 0) ++ iv .u8 (z32)))) (post := (([] : Cs))) (ms := ((cu b6) ++ ((cu b7) ++ iv .u8 b8))) M7 rfl row39 (by first | rfl | simp only [aa, an, na, ca]) rfl rfl rfl (by first | rfl | simp only [la, lc, ln, lv, q0]) (by first | rfl | simp only [la, lc, ln, lv, List.length_replicate]) (one_cat oneU (one_cat oneU (one_iv _ _))) (by first | rfl | simp only [aa, an, na, ca]) ?_
 intro t3 m5
 try dsimp only [List.set] at m5
 refine WL.as rfl (wn ?_)
 refine CW.sub [(0, .bool false), (1, .pointer (sp a0)), (3, .pointer (sp a2)), (7, .int .i64 o2), (8, .pointer (sp b5)), (9, .int .i64 s0), (10, .pointer (sp c8)), (11, .int .u64 y0)] (by repeat' constructor) ?_
 refine cr (WL.mv rfl ?_)
 refine WL.v (Runs.eql rfl rfl rfl) ?_
 refine WL.mv rfl ?_
 obtain ⟨M8, H⟩ := H
 have y1 : (o2 == 17) = true := (beq_iff_eq.mpr M8)
 refine WL.on ?_ ?_; exact Wg 61 y1
 refine WL.mv rfl ?_
 refine WL.on ?_ ?_; exact Wg 61 y1
 refine WL.v (Runs.eql rfl rfl rfl) ?_
 refine WL.v (Runs.pick_t (evb rfl y1) rfl) ?_
 refine WL.mv rfl ?_
 obtain ⟨M9, H⟩ := H
 have t4 : (s0 == 0) = true := (beq_iff_eq.mpr M9)
 refine WL.on ?_ ?_; exact Wg 65 t4
 refine WL.v (Runs.fieldAddr (off := 1) (p := 1) fld39_1 rfl rfl rfl) ?_
 refine WL.on ?_ ?_; exact Wg 65 t4
 refine WL.v (Runs.load nagg37 rfl (m5.cell (k := 6) rfl (pa (.int .u64 a6) (cu a7) (iv .u8 a8)))) ?_
 refine WL.on ?_ ?_; exact Wg 65 t4
 refine WL.v (Runs.eql rfl rfl rfl) ?_
 refine WL.v (Runs.pick_t (evb rfl t4) rfl) ?_
 refine WL.mv rfl ?_
 obtain ⟨N0, H⟩ := H
 have t5 : (a6 == 1) = true := (beq_iff_eq.mpr N0)
 refine WL.on ?_ ?_; exact Wg 70 t5
 refine WL.v (Runs.load_mid row39 rfl m5 (i := 0) rfl (pm [] ((cu b6) ++ ((cu b7) ++ iv .u8 b8)) [] (hm := by first | rfl | simp only [la, lc, ln, lv, q0])) (by first | rfl | simp only [la, lc, ln, lv, q0])) ?_
 refine WL.on ?_ ?_; exact Wg 70 t5
 refine WL.v (Runs.load_mid row39 rfl m5 (i := 6) rfl (pm [] ((cu a7) ++ ((cu a6) ++ iv .u8 a8)) [] (hm := by first | rfl | simp only [la, lc, ln, lv, i1])) (by first | rfl | simp only [la, lc, ln, lv, i1])) ?_
 refine WL.on ?_ ?_; exact Wg 70 t5
 refine WL.v (Runs.eql_top (EqTop.struct eqs39 (EqFs.cons (part_mid' (pre := (([] : Cs))) (mid := ((cu b6))) (post := ((cu b7) ++ iv .u8 b8)) (by first | rfl | simp only [aa, an, na, ca]) rfl) (part_mid' (pre := (([] : Cs))) (mid := ((cu a7))) (post := ((cu a6) ++ iv .u8 a8)) (by first | rfl | simp only [aa, an, na, ca]) rfl) (EqPl.int Tryd.underlying37) (EqFs.cons (part_mid' (pre := ((cu b6))) (mid := ((cu b7))) (post := (iv .u8 b8)) (by first | rfl | simp only [aa, an, na, ca]) rfl) (part_mid' (pre := ((cu a7))) (mid := ((cu a6))) (post := (iv .u8 a8)) (by first | rfl | simp only [aa, an, na, ca]) rfl) (EqPl.int Tryd.underlying37) (EqFs.cons (part_mid' (pre := ((cu b6) ++ (cu b7))) (mid := (iv .u8 b8)) (post := (([] : Cs))) (by first | rfl | simp only [aa, an, na, ca]) rfl) (part_mid' (pre := ((cu a7) ++ (cu a6))) (mid := (iv .u8 a8)) (post := (([] : Cs))) (by first | rfl | simp only [aa, an, na, ca]) rfl) (EqTop.place (EqTop.arr arr23 q0 i1) row23 (by first | rfl | simp only [la, lc, ln, lv, q0]) (by first | rfl | simp only [la, lc, ln, lv, i1])) EqFs.nil)))) eqg39 rfl rfl) ?_
 refine WL.v (Runs.pick_t (evb rfl t5) rfl) ?_
 refine WL.mv rfl ?_
 obtain ⟨N1, H⟩ := H
 have y2 : ((b6 == a7) && ((b7 == a6) && ((b8 == a8) && true))) = true := N1
 refine WL.on ?_ ?_; exact Wg 75 y2
 refine WL.mv rfl ?_
 refine WL.on ?_ ?_; exact Wg 75 y2
 refine WL.v (Runs.eql rfl rfl rfl) ?_
 refine WL.v (Runs.pick_t (evb rfl y2) rfl) ?_
 refine WL.mv rfl ?_
 obtain ⟨N2, H⟩ := H
 have t6 : (y0 == 2) = true := (beq_iff_eq.mpr N2)
 refine WL.on ?_ ?_; exact Wg 79 t6
 refine WL.mv rfl ?_
 refine WL.on ?_ ?_; exact Wg 79 t6
 have y3 := (St.pickT (L := [_, _, _, _, _, _, _, _, _, _, _]) m5 [1, 2, 3, 4, 5, 0, 6, 7, 8, 9, 10] (by decide))
 have N3 := St.hide (A := [_, _, _, _, _]) (B := [_, _, _, _, _, _]) (T := i7) (R := R) y3
 obtain ⟨B5, B6, t7, t8, B7, t9, u0, u1, u2, u3, u4, u5, u6, B8, N4, H⟩ := H
 refine WL.call Wanted.none ent16 rfl (journal_Journal_Room.calls w t3 i7 (oS c8 b6 b7 b8 39 :: oS b5 a7 a6 a8 39 :: .sl (sp b3) 1 1 b4 42 2 :: oS b2 a9 b0 b1 39 :: .sl (sp a4) 3 3 a5 42 2 :: .cells a3 ((cu 3) ++ (cl (sp a1) 160 160)) 42 :: R) B2 B3 l5 l6 B4 l7 l8 l9 m0 m1 m2 m3 m4 a2 a0 g2 g3 g4 p7 g5 g6 g7 p8 g8 g9 h0 p9  N3 (L7) L8 (L9) M0 (M1) M2 M3 M4 B5 B6 t7 t8 B7 t9 u0 u1 u2 u3 u4 u5 u6 B8 N4) ?_
 rintro _ y4 ⟨q1, q2, q3, q4, y5, q5, q6, q7, y6, q8, q9, r0, y7, S4, N5, N6, N7, N8, N9, O0, O1, O2, rfl, O3⟩
 have O4 : St w y4 (oJ a2 a0 t9 u0 u1 u2 u3 u4 u5 u6 98 :: oD a0 q2 q3 q4 q5 q6 q7 t7 t8 q8 q9 r0 95 :: .sl q2 q4 q3 y5 25 1 :: .sl q5 q7 q6 y6 124 2 :: .sl q8 r0 q9 y7 48 2 :: oS c8 b6 b7 b8 39 :: oS b5 a7 a6 a8 39 :: .sl (sp b3) 1 1 b4 42 2 :: oS b2 a9 b0 b1 39 :: .sl (sp a4) 3 3 a5 42 2 :: .cells a3 ((cu 3) ++ (cl (sp a1) 160 160)) 42 :: (q1 ++ R)) := St.unhide (A := [_, _, _, _, _]) (B := [_, _, _, _, _, _]) (T := q1) (R := R) O3
 refine ⟨_, rfl, ?_⟩
 refine WL.on ?_ ?_; exact Wg 79 t6
 refine WL.v (Runs.eql rfl rfl rfl) ?_
 refine WL.v (Runs.pick_t (evb rfl t6) rfl) ?_
 refine WL.mv rfl ?_
 obtain ⟨O5, H⟩ := H
 have r1 : (B8 == 1) = true := (beq_iff_eq.mpr O5)
 refine WL.on ?_ ?_; exact Wg 84 r1
 refine WL.mv rfl ?_
 refine WL.on ?_ ?_; exact Wg 84 r1
 have O6 := St.hide (A := [_, _, _, _, _]) (B := [_, _, _, _, _, _]) (T := q1) (R := R) O4
 obtain ⟨B9, C0, r2, r3, C1, i8, i9, j0, j1, j2, j3, j4, j5, y8, C2, C3, O7, H⟩ := H
 refine WL.call Wanted.none ent17 rfl (journal_Journal_Empty.calls w y4 q1 (oS c8 b6 b7 b8 39 :: oS b5 a7 a6 a8 39 :: .sl (sp b3) 1 1 b4 42 2 :: oS b2 a9 b0 b1 39 :: .sl (sp a4) 3 3 a5 42 2 :: .cells a3 ((cu 3) ++ (cl (sp a1) 160 160)) 42 :: R) B5 B6 t7 t8 B7 t9 u0 u1 u2 u3 u4 u5 u6 a2 a0 q2 q3 q4 y5 q5 q6 q7 y6 q8 q9 r0 y7  O6 (N5) N6 (N7) N8 (N9) O0 O1 O2 B9 C0 r2 r3 C1 i8 i9 j0 j1 j2 j3 j4 j5 y8 C2 C3 O7) ?_
 rintro _ u7 ⟨m6, j6, j7, j8, u9, j9, k0, k1, v0, k2, k3, k4, v1, S5, O8, O9, P0, P1, P2, P3, S6, S7, S8, rfl, P4⟩
 have P5 : St w u7 (oJ a2 a0 i8 i9 j0 j1 j2 j3 j4 j5 98 :: oD a0 j6 j7 j8 j9 k0 k1 r2 r3 k2 k3 k4 95 :: .sl j6 j8 j7 u9 25 1 :: .sl j9 k1 k0 v0 124 2 :: .sl k2 k4 k3 v1 48 2 :: oS c8 b6 b7 b8 39 :: oS b5 a7 a6 a8 39 :: .sl (sp b3) 1 1 b4 42 2 :: oS b2 a9 b0 b1 39 :: .sl (sp a4) 3 3 a5 42 2 :: .cells a3 ((cu 3) ++ (cl (sp a1) 160 160)) 42 :: (m6 ++ R)) := St.unhide (A := [_, _, _, _, _]) (B := [_, _, _, _, _, _]) (T := m6) (R := R) P4
 refine ⟨_, rfl, ?_⟩
 refine WL.on ?_ ?_; exact Wg 84 r1
 refine WL.v (Runs.field_one fld39_0 nagg37 rfl (pa (.int .u64 y8) [] ((cu C2) ++ iv .u8 C3))) ?_
 refine WL.on ?_ ?_; exact Wg 84 r1
 refine WL.v (Runs.eql rfl rfl rfl) ?_
 refine WL.v (Runs.pick_t (evb rfl r1) rfl) ?_
 refine WL.mv rfl ?_
 obtain ⟨P6, H⟩ := H
 have v2 : (y8 == 1) = true := (beq_iff_eq.mpr P6)
 refine WL.on ?_ ?_; exact Wg 90 v2
 refine WL.mv rfl ?_
 refine WL.on ?_ ?_; exact Wg 90 v2
 have y9 := (St.pickT (L := [_, _, _, _, _, _, _, _, _, _, _]) P5 [1, 2, 3, 4, 0, 5, 6, 7, 8, 9, 10] (by decide))
 have P7 := St.hide (A := [_, _, _, _]) (B := [_, _, _, _, _, _, _]) (T := m6) (R := R) y9
 obtain ⟨P8, P9, z0, z1, Q0, C4, Q1, H⟩ := H
 refine WL.call Wanted.none ent30 rfl (disk_Disk_Pending.calls w u7 m6 (oJ a2 a0 i8 i9 j0 j1 j2 j3 j4 j5 98 :: oS c8 b6 b7 b8 39 :: oS b5 a7 a6 a8 39 :: .sl (sp b3) 1 1 b4 42 2 :: oS b2 a9 b0 b1 39 :: .sl (sp a4) 3 3 a5 42 2 :: .cells a3 ((cu 3) ++ (cl (sp a1) 160 160)) 42 :: R) B9 C0 r2 r3 C1 a0 j6 j7 j8 u9 j9 k0 k1 v0 k2 k3 k4 v1  P7 (O8) O9 (P0) P1 (P2) P3 P8 P9 z0 z1 Q0 C4 Q1) ?_
 rintro _ C5 ⟨m7, v3, v4, v5, C6, v6, v7, v8, C7, v9, w0, w1, C8, S9, T0, T1, T2, T3, T4, T5, rfl, Q2⟩
 have z2 : St w C5 (oD a0 v3 v4 v5 v6 v7 v8 z0 z1 v9 w0 w1 95 :: .sl v3 v5 v4 C6 25 1 :: .sl v6 v8 v7 C7 124 2 :: .sl v9 w1 w0 C8 48 2 :: oJ a2 a0 i8 i9 j0 j1 j2 j3 j4 j5 98 :: oS c8 b6 b7 b8 39 :: oS b5 a7 a6 a8 39 :: .sl (sp b3) 1 1 b4 42 2 :: oS b2 a9 b0 b1 39 :: .sl (sp a4) 3 3 a5 42 2 :: .cells a3 ((cu 3) ++ (cl (sp a1) 160 160)) 42 :: (m7 ++ R)) := St.unhide (A := [_, _, _, _]) (B := [_, _, _, _, _, _, _]) (T := m7) (R := R) Q2
 refine ⟨_, rfl, ?_⟩
 refine WL.on ?_ ?_; exact Wg 90 v2
 refine WL.v (Runs.eql rfl rfl rfl) ?_
 refine WL.v (Runs.pick_t (evb rfl v2) rfl) ?_
 refine WL.mv rfl ?_
 obtain ⟨Q3, H⟩ := H
 have r4 : (C4 == 1) = true := (beq_iff_eq.mpr Q3)
 refine WL.on ?_ ?_; exact Wg 95 r4
 obtain ⟨C9, D0, H⟩ := H
 refine WL.v (Runs.build_arr (xs := C9) arr23 rfl rfl (by rw [D0]; rfl)) ?_
 refine WL.on ?_ ?_; exact Wg 95 r4
 obtain ⟨z3, Q4, H⟩ := H
 refine WL.call Wanted.none ent9 rfl (journal_Link.calls C5 C9 0 ([] : List Int) none 0 0 (hG0.ext z2) (by rw [D0]; rfl) (((HB.nil : HB w m7 none 0 0 (iv .u8 ([] : List Int)) 0).2.2.at z2 (mem_T (A := [_, _, _, _, _, _, _, _, _, _, _]) (fun _ h_ => h_)))) ((HB.nil : HB w m7 none 0 0 (iv .u8 ([] : List Int)) 0).1) ((HB.nil : HB w m7 none 0 0 (iv .u8 ([] : List Int)) 0).2.1) z3 Q4) ?_
 rintro _ Q5 ⟨Q6, rfl, Q7⟩
 have Q8 := z2.call Q7
 refine ⟨_, rfl, ?_⟩
 refine WL.on ?_ ?_; exact Wg 95 r4
 obtain ⟨z4, D1, H⟩ := H
 refine WL.v (Runs.build_arr (xs := z4) arr23 rfl rfl (by rw [D1]; rfl)) ?_
 refine WL.on ?_ ?_; exact Wg 95 r4
 refine WL.v (Runs.neq_arr arr23 eqg23 rfl rfl Q6 (by rw [D1]; rfl) rfl) ?_
 refine WL.v (Runs.pick_t (evb rfl r4) rfl) ?_
 refine WL.as rfl (wn (CW.ret ?_))
 have hz : (!(z3 == z4)) = true := (not_t (beq_eq_false_iff_ne.mpr H))
 exact QW.ret1 rfl (evb rfl hz) ⟨rfl, Q8.ext⟩
/-! ### reliquaryref06_New: function 18 -/
def reliquaryref06_New.rel (a0 : Int) (ar0_0 : Int) (lr0_1 : List R145) (lr0_2 : List R145) (ar0_3 : Int) (ar0_4 : Bool) (lr0_5 : List R160) (ar1 : Int) : Prop := ((a0 < 1 ∧ ar0_0 = 0 ∧ lr0_1 = [] ∧ lr0_2 = [] ∧ ar0_3 = 0 ∧ ar0_4 = false ∧ lr0_5 = [] ∧ ar1 = 1) ∨ (¬ (a0 < 1) ∧ ((a0 > 4096 ∧ ar0_0 = 0 ∧ lr0_1 = [] ∧ lr0_2 = [] ∧ ar0_3 = 0 ∧ ar0_4 = false ∧ lr0_5 = [] ∧ ar1 = 1) ∨ (¬ (a0 > 4096) ∧ ar0_0 = a0 ∧ lr0_1 = [] ∧ lr0_2 = [] ∧ ar0_3 = -1 ∧ ar0_4 = false ∧ lr0_5 = [] ∧ ar1 = 0))))
set_option maxHeartbeats 1000000 in
theorem reliquaryref06_New.calls (w w1 : World) (T R : Pool) (a0 : Int)  (st0 : St w w1 ((T ++ R)))  (ar0_0 : Int) (lr0_1 : List R145) (lr0_2 : List R145) (ar0_3 : Int) (ar0_4 : Bool) (lr0_5 : List R160) (ar1 : Int) (H : reliquaryref06_New.rel a0 ar0_0 lr0_1 lr0_2 ar0_3 ar0_4 lr0_5 ar1) :
  Calls Tryd.prog 18 #[.int .i64 a0] w1 fun e w' => ∃ T' Ar0_1 nr0_1 cr0_1 Ar0_2 nr0_2 cr0_2 Ar0_5 nr0_5 cr0_5, Pl T T' ∧ HS w T' T' Ar0_1 nr0_1 cr0_1 (f145 w) lr0_1 ∧ HS w T' T' Ar0_2 nr0_2 cr0_2 (f145 w) lr0_2 ∧ HS w T' T' Ar0_5 nr0_5 cr0_5 (f160 w) lr0_5 ∧ e = .returned (.tuple #[.agg ((ci ar0_0) ++ ((cl Ar0_1 nr0_1 cr0_1) ++ ((cl Ar0_2 nr0_2 cr0_2) ++ ((ci ar0_3) ++ ((cb ar0_4) ++ (cl Ar0_5 nr0_5 cr0_5)))))).toArray, .int .i64 ar1]) ∧ St w w' ((T' ++ R)) := by
 refine CW.enter Tryd.func18 rfl (n := 13) rfl [.int .i64 a0] (Nat.le_of_ble_eq_true rfl) ?_
 refine CW.sub [(0, .int .i64 a0)] ⟨rfl, trivial⟩ ?_
 refine cr ?_
 refine WL.alloc st0 zero57 ?_
 intro a2 b3 a6
 refine WL.as rfl (wn (CW.seq (cr (WL.mv rfl ?_))))
 refine WL.v (Runs.lss rfl rfl rfl) ?_
 refine WL.mv rfl ?_
 rcases H with ⟨a7, H⟩ | ⟨a7, H⟩
 ·have a1 : (decide (a0 < 1)) = true := (decide_eq_true a7)
  refine WL.off ?_ ?_; exact Wg 6 a1
  refine WL.off ?_ ?_; exact Wg 6 a1
  refine WL.v (Runs.pick_t (evb rfl a1) rfl) ?_
  refine wn ?_
  refine CW.ct rfl rfl ?_
  refine cr ?_
  refine WL.v (Runs.build_struct (ps := [(0, 1), (1, 1), (2, 1), (3, 1), (4, 1), (5, 1)]) (cs := ((ci 0) ++ ((cl none 0 0) ++ ((cl none 0 0) ++ ((ci 0) ++ ((cb false) ++ (cl none 0 0))))))) plc57 zero57 rfl Fills.nil) ?_
  refine WL.sm (new := ((ci 0) ++ ((cl none 0 0) ++ ((cl none 0 0) ++ ((ci 0) ++ ((cb false) ++ (cl none 0 0))))))) (i := 0) (pre := (([] : Cs))) (mid := ((ci 0) ++ ((cl none 0 0) ++ ((cl none 0 0) ++ ((ci 0) ++ ((cb false) ++ (cl none 0 0))))))) (post := (([] : Cs))) (ms := ((ci 0) ++ ((cl none 0 0) ++ ((cl none 0 0) ++ ((ci 0) ++ ((cb false) ++ (cl none 0 0))))))) a6 rfl row57 (by first | rfl | simp only [aa, an, na, ca]) rfl rfl rfl rfl rfl (one_cat oneU (one_cat oneU (one_cat oneU (one_cat oneU (one_cat oneU oneU))))) rfl ?_
  intro b0 a3
  try dsimp only [List.set] at a3
  refine WL.as rfl (wn (CW.ret (QW.then_r ?_)))
  obtain ⟨rfl, rfl, rfl, rfl, rfl, rfl, rfl⟩ := H
  exact QW.retN2 rfl (Res.row rfl row57 a3 (i := 0) rfl rfl) (Res.tmp rfl) ⟨T, none, 0, 0, none, 0, 0, none, 0, 0, Pl.refl, HS.nil, HS.nil, HS.nil, rfl, (St.pickT (L := [_]) a3 [] (by decide))⟩
 have a1 : (decide (a0 < 1)) = false := (decide_eq_false a7)
 refine WL.on ?_ ?_; exact Wg 6 a1
 refine WL.mv rfl ?_
 refine WL.on ?_ ?_; exact Wg 6 a1
 refine WL.v (Runs.gtr rfl rfl rfl) ?_
 refine WL.v (Runs.pick_f (evb rfl a1) rfl) ?_
 refine wn ?_
 rcases H with ⟨a8, H⟩ | ⟨a8, H⟩
 ·have a9 : (decide (a0 > 4096)) = true := (decide_eq_true a8)
  refine CW.ct rfl a9 ?_
  refine cr ?_
  refine WL.v (Runs.build_struct (ps := [(0, 1), (1, 1), (2, 1), (3, 1), (4, 1), (5, 1)]) (cs := ((ci 0) ++ ((cl none 0 0) ++ ((cl none 0 0) ++ ((ci 0) ++ ((cb false) ++ (cl none 0 0))))))) plc57 zero57 rfl Fills.nil) ?_
  refine WL.sm (new := ((ci 0) ++ ((cl none 0 0) ++ ((cl none 0 0) ++ ((ci 0) ++ ((cb false) ++ (cl none 0 0))))))) (i := 0) (pre := (([] : Cs))) (mid := ((ci 0) ++ ((cl none 0 0) ++ ((cl none 0 0) ++ ((ci 0) ++ ((cb false) ++ (cl none 0 0))))))) (post := (([] : Cs))) (ms := ((ci 0) ++ ((cl none 0 0) ++ ((cl none 0 0) ++ ((ci 0) ++ ((cb false) ++ (cl none 0 0))))))) a6 rfl row57 (by first | rfl | simp only [aa, an, na, ca]) rfl rfl rfl rfl rfl (one_cat oneU (one_cat oneU (one_cat oneU (one_cat oneU (one_cat oneU oneU))))) rfl ?_
  intro b1 a4
  try dsimp only [List.set] at a4
  refine WL.as rfl (wn (CW.ret (QW.then_r ?_)))
  obtain ⟨rfl, rfl, rfl, rfl, rfl, rfl, rfl⟩ := H
  exact QW.retN2 rfl (Res.row rfl row57 a4 (i := 0) rfl rfl) (Res.tmp rfl) ⟨T, none, 0, 0, none, 0, 0, none, 0, 0, Pl.refl, HS.nil, HS.nil, HS.nil, rfl, (St.pickT (L := [_]) a4 [] (by decide))⟩
 have a9 : (decide (a0 > 4096)) = false := (decide_eq_false a8)
 refine CW.cf rfl a9 ?_
 refine CW.skip (QW.then_n ?_)
 refine CW.sub [(0, .int .i64 a0), (2, .pointer (sp a2)), (3, .int .i64 0)] ⟨rfl, rfl, rfl, trivial⟩ ?_
 refine cr (WL.mv rfl ?_)
 refine WL.v (Runs.build_struct (ps := [(0, 1), (1, 1), (2, 1), (3, 1), (4, 1), (5, 1)]) (cs := ((ci a0) ++ ((cl none 0 0) ++ ((cl none 0 0) ++ ((ci (-1)) ++ ((cb false) ++ (cl none 0 0))))))) plc57 zero57 rfl (by refine Fills.cons (o := 0) (ms := ((ci a0))) (show _ = some (0, ((ci a0)).length) by rw [show ((ci a0)).length = 1 from rfl] <;> rfl) rfl (Nat.le_of_ble_eq_true rfl) ?_; rw [show layV ((ci 0) ++ ((cl none 0 0) ++ ((cl none 0 0) ++ ((ci 0) ++ ((cb false) ++ (cl none 0 0)))))) 0 ((ci a0)) = ((ci a0) ++ ((cl none 0 0) ++ ((cl none 0 0) ++ ((ci 0) ++ ((cb false) ++ (cl none 0 0)))))) from (layV_mid (pre := (([] : Cs))) (mid := ((ci 0))) (post := ((cl none 0 0) ++ ((cl none 0 0) ++ ((ci 0) ++ ((cb false) ++ (cl none 0 0)))))) (by first | rfl | simp only [aa, an, na, ca]) rfl (Eq.trans (b := 1) rfl (Eq.symm rfl))).trans (by first | rfl | simp only [aa, an, na, ca])]; refine Fills.cons (o := 3) (ms := ((ci (-1)))) (show _ = some (3, ((ci (-1))).length) by rw [show ((ci (-1))).length = 1 from rfl] <;> rfl) rfl (Nat.le_of_ble_eq_true rfl) ?_; rw [show layV ((ci a0) ++ ((cl none 0 0) ++ ((cl none 0 0) ++ ((ci 0) ++ ((cb false) ++ (cl none 0 0)))))) 3 ((ci (-1))) = ((ci a0) ++ ((cl none 0 0) ++ ((cl none 0 0) ++ ((ci (-1)) ++ ((cb false) ++ (cl none 0 0)))))) from (layV_mid (pre := ((ci a0) ++ ((cl none 0 0) ++ (cl none 0 0)))) (mid := ((ci 0))) (post := ((cb false) ++ (cl none 0 0))) (by first | rfl | simp only [aa, an, na, ca]) rfl (Eq.trans (b := 1) rfl (Eq.symm rfl))).trans (by first | rfl | simp only [aa, an, na, ca])]; exact Fills.nil)) ?_
 refine WL.sm (new := ((ci a0) ++ ((cl none 0 0) ++ ((cl none 0 0) ++ ((ci (-1)) ++ ((cb false) ++ (cl none 0 0))))))) (i := 0) (pre := (([] : Cs))) (mid := ((ci 0) ++ ((cl none 0 0) ++ ((cl none 0 0) ++ ((ci 0) ++ ((cb false) ++ (cl none 0 0))))))) (post := (([] : Cs))) (ms := ((ci a0) ++ ((cl none 0 0) ++ ((cl none 0 0) ++ ((ci (-1)) ++ ((cb false) ++ (cl none 0 0))))))) a6 rfl row57 (by first | rfl | simp only [aa, an, na, ca]) rfl rfl rfl rfl rfl (one_cat oneU (one_cat oneU (one_cat oneU (one_cat oneU (one_cat oneU oneU))))) rfl ?_
 intro b2 a5
 try dsimp only [List.set] at a5
 refine WL.as rfl (wn (CW.ret ?_))
 obtain ⟨rfl, rfl, rfl, rfl, rfl, rfl, rfl⟩ := H
 exact QW.retN2 rfl (Res.row rfl row57 a5 (i := 0) rfl rfl) (Res.tmp rfl) ⟨T, none, 0, 0, none, 0, 0, none, 0, 0, Pl.refl, HS.nil, HS.nil, HS.nil, rfl, (St.pickT (L := [_]) a5 [] (by decide))⟩
/-! ### reliquaryref13_New: function 19 -/
def reliquaryref13_New.rel (a0 : Int) (l1 : List Int) (a2 : Int) (a3 : Int) (a4_0 : Int) (a4_1 : Int) (l4_2 : List Int) (a5 : Int) (a6 : Int) (r0_0 : List Int) (r0_1 : Int) (r0_2 : Int) (r0_3 : Int) (r0_4 : Int) (r0_5 : List Int) (r0_6 : Int) (r0_7 : Int) (r1 : Int) : Prop := ((a2 < 0 ∧ r0_0 = z32 ∧ r0_1 = 0 ∧ r0_2 = 0 ∧ r0_3 = 0 ∧ r0_4 = 0 ∧ r0_5 = z32 ∧ r0_6 = 0 ∧ r0_7 = 0 ∧ r1 = 1) ∨ (¬ (a2 < 0) ∧ ((a3 < 1 ∧ r0_0 = z32 ∧ r0_1 = 0 ∧ r0_2 = 0 ∧ r0_3 = 0 ∧ r0_4 = 0 ∧ r0_5 = z32 ∧ r0_6 = 0 ∧ r0_7 = 0 ∧ r1 = 1) ∨ (¬ (a3 < 1) ∧ ((a2 > a0 ∧ r0_0 = z32 ∧ r0_1 = 0 ∧ r0_2 = 0 ∧ r0_3 = 0 ∧ r0_4 = 0 ∧ r0_5 = z32 ∧ r0_6 = 0 ∧ r0_7 = 0 ∧ r1 = 1) ∨ (¬ (a2 > a0) ∧ ((a3 > (IntKind.i64.wrap (a0 - a2)) ∧ r0_0 = z32 ∧ r0_1 = 0 ∧ r0_2 = 0 ∧ r0_3 = 0 ∧ r0_4 = 0 ∧ r0_5 = z32 ∧ r0_6 = 0 ∧ r0_7 = 0 ∧ r1 = 1) ∨ (¬ (a3 > (IntKind.i64.wrap (a0 - a2))) ∧ ((a4_0 ≥ (IntKind.u64.wrap a3) ∧ r0_0 = z32 ∧ r0_1 = 0 ∧ r0_2 = 0 ∧ r0_3 = 0 ∧ r0_4 = 0 ∧ r0_5 = z32 ∧ r0_6 = 0 ∧ r0_7 = 0 ∧ r1 = 1) ∨ (¬ (a4_0 ≥ (IntKind.u64.wrap a3)) ∧ ((a4_1 > (IntKind.u64.wrap a3) ∧ r0_0 = z32 ∧ r0_1 = 0 ∧ r0_2 = 0 ∧ r0_3 = 0 ∧ r0_4 = 0 ∧ r0_5 = z32 ∧ r0_6 = 0 ∧ r0_7 = 0 ∧ r1 = 1) ∨ (¬ (a4_1 > (IntKind.u64.wrap a3)) ∧ ((a5 = 0 ∧ r0_0 = z32 ∧ r0_1 = 0 ∧ r0_2 = 0 ∧ r0_3 = 0 ∧ r0_4 = 0 ∧ r0_5 = z32 ∧ r0_6 = 0 ∧ r0_7 = 0 ∧ r1 = 1) ∨ (¬ (a5 = 0) ∧ ((a6 > 9223372036854775807 ∧ r0_0 = z32 ∧ r0_1 = 0 ∧ r0_2 = 0 ∧ r0_3 = 0 ∧ r0_4 = 0 ∧ r0_5 = z32 ∧ r0_6 = 0 ∧ r0_7 = 0 ∧ r1 = 1) ∨ (¬ (a6 > 9223372036854775807) ∧ r0_0 = l1 ∧ r0_1 = a2 ∧ r0_2 = IntKind.u64.wrap a3 ∧ r0_3 = a4_0 ∧ r0_4 = a4_1 ∧ r0_5 = l4_2 ∧ r0_6 = a5 ∧ r0_7 = a6 ∧ r1 = 0))))))))))))))))
set_option maxHeartbeats 4000000 in
theorem reliquaryref13_New.calls (w : World) (a0 : Int) (l1 : List Int) (a2 : Int) (a3 : Int) (a4_0 : Int) (a4_1 : Int) (l4_2 : List Int) (a5 : Int) (a6 : Int)   (hl1 : l1.length = 32) (hl4_2 : l4_2.length = 32) (r0_0 : List Int) (r0_1 : Int) (r0_2 : Int) (r0_3 : Int) (r0_4 : Int) (r0_5 : List Int) (r0_6 : Int) (r0_7 : Int) (r1 : Int) (H : reliquaryref13_New.rel a0 l1 a2 a3 a4_0 a4_1 l4_2 a5 a6 r0_0 r0_1 r0_2 r0_3 r0_4 r0_5 r0_6 r0_7 r1) :
  Calls Tryd.prog 19 #[.int .i64 a0, .agg (iv .u8 l1).toArray, .int .i64 a2, .int .i64 a3, .agg ((cu a4_0) ++ ((cu a4_1) ++ iv .u8 l4_2)).toArray, .int .u64 a5, .int .u64 a6] w fun e w' => r0_0.length = 32 ∧ r0_5.length = 32 ∧ e = .returned (.tuple #[.agg (iv .u8 r0_0 ++ ((ci r0_1) ++ ((cu r0_2) ++ ((cu r0_3) ++ ((cu r0_4) ++ (iv .u8 r0_5 ++ ((cu r0_6) ++ (cu r0_7)))))))).toArray, .int .i64 r1]) ∧ St w w' [] := by
 refine CW.enter Tryd.func19 rfl (n := 65) rfl [.int .i64 a0, .agg (iv .u8 l1).toArray, .int .i64 a2, .int .i64 a3, .agg ((cu a4_0) ++ ((cu a4_1) ++ iv .u8 l4_2)).toArray, .int .u64 a5, .int .u64 a6] (Nat.le_of_ble_eq_true rfl) ?_
 refine CW.sub [(0, .int .i64 a0), (1, .agg (iv .u8 l1).toArray), (2, .int .i64 a2), (3, .int .i64 a3), (4, .agg ((cu a4_0) ++ ((cu a4_1) ++ iv .u8 l4_2)).toArray), (5, .int .u64 a5), (6, .int .u64 a6)] (by repeat' constructor) ?_
 have st0 : St w w [] := St.refl w
 refine cr ?_
 refine WL.box st0 rfl rfl ?_
 intro a4 e5 d4
 refine WL.box d4 rfl rfl ?_
 intro a7 e6 d5
 refine WL.alloc d5 zero62 ?_
 intro a1 e7 a8
 refine WL.as rfl (wn (CW.seq (cr (WL.mv rfl ?_))))
 refine WL.v (Runs.lss rfl rfl rfl) ?_
 refine WL.mv rfl ?_
 rcases H with ⟨c5, H⟩ | ⟨c5, H⟩
 ·have b3 : (decide (a2 < 0)) = true := (decide_eq_true c5)
  refine WL.off ?_ ?_; exact Wg 18 b3
  refine WL.off ?_ ?_; exact Wg 18 b3
  refine WL.v (Runs.pick_t (evb rfl b3) rfl) ?_
  refine WL.mv rfl ?_
  refine WL.off ?_ ?_; exact Wg 22 rfl
  refine WL.off ?_ ?_; exact Wg 22 rfl
  refine WL.off ?_ ?_; exact Wg 22 rfl
  refine WL.v (Runs.pick_t rfl rfl) ?_
  refine WL.mv rfl ?_
  refine WL.off ?_ ?_; exact Wg 27 rfl
  refine WL.off ?_ ?_; exact Wg 27 rfl
  refine WL.off ?_ ?_; exact Wg 27 rfl
  refine WL.off ?_ ?_; exact Wg 27 rfl
  refine WL.off ?_ ?_; exact Wg 27 rfl
  refine WL.v (Runs.pick_t rfl rfl) ?_
  refine WL.mv rfl ?_
  refine WL.off ?_ ?_; exact Wg 34 rfl
  refine WL.off ?_ ?_; exact Wg 34 rfl
  refine WL.off ?_ ?_; exact Wg 34 rfl
  refine WL.off ?_ ?_; exact Wg 34 rfl
  refine WL.off ?_ ?_; exact Wg 34 rfl
  refine WL.v (Runs.pick_t rfl rfl) ?_
  refine WL.mv rfl ?_
  refine WL.off ?_ ?_; exact Wg 41 rfl
  refine WL.off ?_ ?_; exact Wg 41 rfl
  refine WL.off ?_ ?_; exact Wg 41 rfl
  refine WL.off ?_ ?_; exact Wg 41 rfl
  refine WL.off ?_ ?_; exact Wg 41 rfl
  refine WL.v (Runs.pick_t rfl rfl) ?_
  refine WL.mv rfl ?_
  refine WL.off ?_ ?_; exact Wg 48 rfl
  refine WL.off ?_ ?_; exact Wg 48 rfl
  refine WL.v (Runs.pick_t rfl rfl) ?_
  refine WL.mv rfl ?_
  refine WL.off ?_ ?_; exact Wg 52 rfl
  refine WL.off ?_ ?_; exact Wg 52 rfl
  refine WL.v (Runs.pick_t rfl rfl) ?_
  refine wn ?_
  refine CW.sub [(2, .int .i64 a2), (3, .int .i64 a3), (5, .int .u64 a5), (6, .int .u64 a6), (8, .pointer (sp a4)), (11, .pointer (sp a7)), (14, .pointer (sp a1)), (15, .int .i64 0), (55, .bool true)] (by repeat' constructor) ?_
  refine CW.ct rfl rfl ?_
  refine cr ?_
  refine WL.v (Runs.build_struct (ps := [(0, 32), (32, 1), (33, 1), (34, 34), (68, 1), (69, 1)]) (cs := (iv .u8 (z32) ++ ((ci 0) ++ ((cu 0) ++ ((cu 0) ++ ((cu 0) ++ (iv .u8 (z32) ++ ((cu 0) ++ (cu 0))))))))) plc62 zero62 rfl Fills.nil) ?_
  refine WL.sm (new := (iv .u8 (z32) ++ ((ci 0) ++ ((cu 0) ++ ((cu 0) ++ ((cu 0) ++ (iv .u8 (z32) ++ ((cu 0) ++ (cu 0))))))))) (i := 0) (pre := (([] : Cs))) (mid := (iv .u8 (z32) ++ ((ci 0) ++ ((cu 0) ++ ((cu 0) ++ ((cu 0) ++ (iv .u8 (z32) ++ ((cu 0) ++ (cu 0))))))))) (post := (([] : Cs))) (ms := (iv .u8 (z32) ++ ((ci 0) ++ ((cu 0) ++ ((cu 0) ++ ((cu 0) ++ (iv .u8 (z32) ++ ((cu 0) ++ (cu 0))))))))) a8 rfl row62 (by first | rfl | simp only [aa, an, na, ca]) rfl rfl rfl (by first | rfl | simp only [la, lc, ln, lv, List.length_replicate]) (by first | rfl | simp only [la, lc, ln, lv, List.length_replicate]) (one_cat (one_iv _ _) (one_cat oneU (one_cat oneU (one_cat oneU (one_cat oneU (one_cat (one_iv _ _) (one_cat oneU oneU))))))) (by first | rfl | simp only [aa, an, na, ca]) ?_
  intro d6 b6
  try dsimp only [List.set] at b6
  refine WL.as rfl (wn (CW.ret (QW.then_r ?_)))
  obtain ⟨rfl, rfl, rfl, rfl, rfl, rfl, rfl, rfl, rfl⟩ := H
  exact QW.retr1 rfl row62 rfl b6 (i := 0) rfl (by first | rfl | simp only [la, lc, ln, lv, List.length_replicate]) rfl ⟨(List.length_replicate ..), (List.length_replicate ..), rfl, b6.pick [] (by decide)⟩
 have b3 : (decide (a2 < 0)) = false := (decide_eq_false c5)
 refine WL.on ?_ ?_; exact Wg 18 b3
 refine WL.mv rfl ?_
 refine WL.on ?_ ?_; exact Wg 18 b3
 refine WL.v (Runs.lss rfl rfl rfl) ?_
 refine WL.v (Runs.pick_f (evb rfl b3) rfl) ?_
 refine WL.mv rfl ?_
 rcases H with ⟨c6, H⟩ | ⟨c6, H⟩
 ·have b2 : (decide (a3 < 1)) = true := (decide_eq_true c6)
  refine WL.off ?_ ?_; exact Wg 22 b2
  refine WL.off ?_ ?_; exact Wg 22 b2
  refine WL.off ?_ ?_; exact Wg 22 b2
  refine WL.v (Runs.pick_t (evb rfl b2) rfl) ?_
  refine WL.mv rfl ?_
  refine WL.off ?_ ?_; exact Wg 27 rfl
  refine WL.off ?_ ?_; exact Wg 27 rfl
  refine WL.off ?_ ?_; exact Wg 27 rfl
  refine WL.off ?_ ?_; exact Wg 27 rfl
  refine WL.off ?_ ?_; exact Wg 27 rfl
  refine WL.v (Runs.pick_t rfl rfl) ?_
  refine WL.mv rfl ?_
  refine WL.off ?_ ?_; exact Wg 34 rfl
  refine WL.off ?_ ?_; exact Wg 34 rfl
  refine WL.off ?_ ?_; exact Wg 34 rfl
  refine WL.off ?_ ?_; exact Wg 34 rfl
  refine WL.off ?_ ?_; exact Wg 34 rfl
  refine WL.v (Runs.pick_t rfl rfl) ?_
  refine WL.mv rfl ?_
  refine WL.off ?_ ?_; exact Wg 41 rfl
  refine WL.off ?_ ?_; exact Wg 41 rfl
  refine WL.off ?_ ?_; exact Wg 41 rfl
  refine WL.off ?_ ?_; exact Wg 41 rfl
  refine WL.off ?_ ?_; exact Wg 41 rfl
  refine WL.v (Runs.pick_t rfl rfl) ?_
  refine WL.mv rfl ?_
  refine WL.off ?_ ?_; exact Wg 48 rfl
  refine WL.off ?_ ?_; exact Wg 48 rfl
  refine WL.v (Runs.pick_t rfl rfl) ?_
  refine WL.mv rfl ?_
  refine WL.off ?_ ?_; exact Wg 52 rfl
  refine WL.off ?_ ?_; exact Wg 52 rfl
  refine WL.v (Runs.pick_t rfl rfl) ?_
  refine wn ?_
  refine CW.sub [(2, .int .i64 a2), (3, .int .i64 a3), (5, .int .u64 a5), (6, .int .u64 a6), (8, .pointer (sp a4)), (11, .pointer (sp a7)), (14, .pointer (sp a1)), (15, .int .i64 0), (55, .bool true)] (by repeat' constructor) ?_
  refine CW.ct rfl rfl ?_
  refine cr ?_
  refine WL.v (Runs.build_struct (ps := [(0, 32), (32, 1), (33, 1), (34, 34), (68, 1), (69, 1)]) (cs := (iv .u8 (z32) ++ ((ci 0) ++ ((cu 0) ++ ((cu 0) ++ ((cu 0) ++ (iv .u8 (z32) ++ ((cu 0) ++ (cu 0))))))))) plc62 zero62 rfl Fills.nil) ?_
  refine WL.sm (new := (iv .u8 (z32) ++ ((ci 0) ++ ((cu 0) ++ ((cu 0) ++ ((cu 0) ++ (iv .u8 (z32) ++ ((cu 0) ++ (cu 0))))))))) (i := 0) (pre := (([] : Cs))) (mid := (iv .u8 (z32) ++ ((ci 0) ++ ((cu 0) ++ ((cu 0) ++ ((cu 0) ++ (iv .u8 (z32) ++ ((cu 0) ++ (cu 0))))))))) (post := (([] : Cs))) (ms := (iv .u8 (z32) ++ ((ci 0) ++ ((cu 0) ++ ((cu 0) ++ ((cu 0) ++ (iv .u8 (z32) ++ ((cu 0) ++ (cu 0))))))))) a8 rfl row62 (by first | rfl | simp only [aa, an, na, ca]) rfl rfl rfl (by first | rfl | simp only [la, lc, ln, lv, List.length_replicate]) (by first | rfl | simp only [la, lc, ln, lv, List.length_replicate]) (one_cat (one_iv _ _) (one_cat oneU (one_cat oneU (one_cat oneU (one_cat oneU (one_cat (one_iv _ _) (one_cat oneU oneU))))))) (by first | rfl | simp only [aa, an, na, ca]) ?_
  intro d7 b7
  try dsimp only [List.set] at b7
  refine WL.as rfl (wn (CW.ret (QW.then_r ?_)))
  obtain ⟨rfl, rfl, rfl, rfl, rfl, rfl, rfl, rfl, rfl⟩ := H
  exact QW.retr1 rfl row62 rfl b7 (i := 0) rfl (by first | rfl | simp only [la, lc, ln, lv, List.length_replicate]) rfl ⟨(List.length_replicate ..), (List.length_replicate ..), rfl, b7.pick [] (by decide)⟩
 have b2 : (decide (a3 < 1)) = false := (decide_eq_false c6)
 refine WL.on ?_ ?_; exact Wg 22 b2
 refine WL.mv rfl ?_
 refine WL.on ?_ ?_; exact Wg 22 b2
 refine WL.mv rfl ?_
 refine WL.on ?_ ?_; exact Wg 22 b2
 refine WL.v (Runs.gtr rfl rfl rfl) ?_
 refine WL.v (Runs.pick_f (evb rfl b2) rfl) ?_
 refine WL.mv rfl ?_
 rcases H with ⟨c7, H⟩ | ⟨c7, H⟩
 ·have a9 : (decide (a2 > a0)) = true := (decide_eq_true c7)
  refine WL.off ?_ ?_; exact Wg 27 a9
  refine WL.off ?_ ?_; exact Wg 27 a9
  refine WL.off ?_ ?_; exact Wg 27 a9
  refine WL.off ?_ ?_; exact Wg 27 a9
  refine WL.off ?_ ?_; exact Wg 27 a9
  refine WL.v (Runs.pick_t (evb rfl a9) rfl) ?_
  refine WL.mv rfl ?_
  refine WL.off ?_ ?_; exact Wg 34 rfl
  refine WL.off ?_ ?_; exact Wg 34 rfl
  refine WL.off ?_ ?_; exact Wg 34 rfl
  refine WL.off ?_ ?_; exact Wg 34 rfl
  refine WL.off ?_ ?_; exact Wg 34 rfl
  refine WL.v (Runs.pick_t rfl rfl) ?_
  refine WL.mv rfl ?_
  refine WL.off ?_ ?_; exact Wg 41 rfl
  refine WL.off ?_ ?_; exact Wg 41 rfl
  refine WL.off ?_ ?_; exact Wg 41 rfl
  refine WL.off ?_ ?_; exact Wg 41 rfl
  refine WL.off ?_ ?_; exact Wg 41 rfl
  refine WL.v (Runs.pick_t rfl rfl) ?_
  refine WL.mv rfl ?_
  refine WL.off ?_ ?_; exact Wg 48 rfl
  refine WL.off ?_ ?_; exact Wg 48 rfl
  refine WL.v (Runs.pick_t rfl rfl) ?_
  refine WL.mv rfl ?_
  refine WL.off ?_ ?_; exact Wg 52 rfl
  refine WL.off ?_ ?_; exact Wg 52 rfl
  refine WL.v (Runs.pick_t rfl rfl) ?_
  refine wn ?_
  refine CW.sub [(2, .int .i64 a2), (3, .int .i64 a3), (5, .int .u64 a5), (6, .int .u64 a6), (8, .pointer (sp a4)), (11, .pointer (sp a7)), (14, .pointer (sp a1)), (15, .int .i64 0), (55, .bool true)] (by repeat' constructor) ?_
  refine CW.ct rfl rfl ?_
  refine cr ?_
  refine WL.v (Runs.build_struct (ps := [(0, 32), (32, 1), (33, 1), (34, 34), (68, 1), (69, 1)]) (cs := (iv .u8 (z32) ++ ((ci 0) ++ ((cu 0) ++ ((cu 0) ++ ((cu 0) ++ (iv .u8 (z32) ++ ((cu 0) ++ (cu 0))))))))) plc62 zero62 rfl Fills.nil) ?_
  refine WL.sm (new := (iv .u8 (z32) ++ ((ci 0) ++ ((cu 0) ++ ((cu 0) ++ ((cu 0) ++ (iv .u8 (z32) ++ ((cu 0) ++ (cu 0))))))))) (i := 0) (pre := (([] : Cs))) (mid := (iv .u8 (z32) ++ ((ci 0) ++ ((cu 0) ++ ((cu 0) ++ ((cu 0) ++ (iv .u8 (z32) ++ ((cu 0) ++ (cu 0))))))))) (post := (([] : Cs))) (ms := (iv .u8 (z32) ++ ((ci 0) ++ ((cu 0) ++ ((cu 0) ++ ((cu 0) ++ (iv .u8 (z32) ++ ((cu 0) ++ (cu 0))))))))) a8 rfl row62 (by first | rfl | simp only [aa, an, na, ca]) rfl rfl rfl (by first | rfl | simp only [la, lc, ln, lv, List.length_replicate]) (by first | rfl | simp only [la, lc, ln, lv, List.length_replicate]) (one_cat (one_iv _ _) (one_cat oneU (one_cat oneU (one_cat oneU (one_cat oneU (one_cat (one_iv _ _) (one_cat oneU oneU))))))) (by first | rfl | simp only [aa, an, na, ca]) ?_
  intro d8 b8
  try dsimp only [List.set] at b8
  refine WL.as rfl (wn (CW.ret (QW.then_r ?_)))
  obtain ⟨rfl, rfl, rfl, rfl, rfl, rfl, rfl, rfl, rfl⟩ := H
  exact QW.retr1 rfl row62 rfl b8 (i := 0) rfl (by first | rfl | simp only [la, lc, ln, lv, List.length_replicate]) rfl ⟨(List.length_replicate ..), (List.length_replicate ..), rfl, b8.pick [] (by decide)⟩
 have a9 : (decide (a2 > a0)) = false := (decide_eq_false c7)
 refine WL.on ?_ ?_; exact Wg 27 a9
 refine WL.mv rfl ?_
 refine WL.on ?_ ?_; exact Wg 27 a9
 refine WL.mv rfl ?_
 refine WL.on ?_ ?_; exact Wg 27 a9
 refine WL.mv rfl ?_
 refine WL.on ?_ ?_; exact Wg 27 a9
 refine WL.v (Runs.sub rfl rfl rfl) ?_
 refine WL.on ?_ ?_; exact Wg 27 a9
 refine WL.v (Runs.gtr rfl rfl rfl) ?_
 refine WL.v (Runs.pick_f (evb rfl a9) rfl) ?_
 refine WL.mv rfl ?_
 rcases H with ⟨c8, H⟩ | ⟨c8, H⟩
 ·have b0 : (decide (a3 > (IntKind.i64.wrap (a0 - a2)))) = true := (decide_eq_true c8)
  refine WL.off ?_ ?_; exact Wg 34 b0
  refine WL.off ?_ ?_; exact Wg 34 b0
  refine WL.off ?_ ?_; exact Wg 34 b0
  refine WL.off ?_ ?_; exact Wg 34 b0
  refine WL.off ?_ ?_; exact Wg 34 b0
  refine WL.v (Runs.pick_t (evb rfl b0) rfl) ?_
  refine WL.mv rfl ?_
  refine WL.off ?_ ?_; exact Wg 41 rfl
  refine WL.off ?_ ?_; exact Wg 41 rfl
  refine WL.off ?_ ?_; exact Wg 41 rfl
  refine WL.off ?_ ?_; exact Wg 41 rfl
  refine WL.off ?_ ?_; exact Wg 41 rfl
  refine WL.v (Runs.pick_t rfl rfl) ?_
  refine WL.mv rfl ?_
  refine WL.off ?_ ?_; exact Wg 48 rfl
  refine WL.off ?_ ?_; exact Wg 48 rfl
  refine WL.v (Runs.pick_t rfl rfl) ?_
  refine WL.mv rfl ?_
  refine WL.off ?_ ?_; exact Wg 52 rfl
  refine WL.off ?_ ?_; exact Wg 52 rfl
  refine WL.v (Runs.pick_t rfl rfl) ?_
  refine wn ?_
  refine CW.sub [(2, .int .i64 a2), (3, .int .i64 a3), (5, .int .u64 a5), (6, .int .u64 a6), (8, .pointer (sp a4)), (11, .pointer (sp a7)), (14, .pointer (sp a1)), (15, .int .i64 0), (55, .bool true)] (by repeat' constructor) ?_
  refine CW.ct rfl rfl ?_
  refine cr ?_
  refine WL.v (Runs.build_struct (ps := [(0, 32), (32, 1), (33, 1), (34, 34), (68, 1), (69, 1)]) (cs := (iv .u8 (z32) ++ ((ci 0) ++ ((cu 0) ++ ((cu 0) ++ ((cu 0) ++ (iv .u8 (z32) ++ ((cu 0) ++ (cu 0))))))))) plc62 zero62 rfl Fills.nil) ?_
  refine WL.sm (new := (iv .u8 (z32) ++ ((ci 0) ++ ((cu 0) ++ ((cu 0) ++ ((cu 0) ++ (iv .u8 (z32) ++ ((cu 0) ++ (cu 0))))))))) (i := 0) (pre := (([] : Cs))) (mid := (iv .u8 (z32) ++ ((ci 0) ++ ((cu 0) ++ ((cu 0) ++ ((cu 0) ++ (iv .u8 (z32) ++ ((cu 0) ++ (cu 0))))))))) (post := (([] : Cs))) (ms := (iv .u8 (z32) ++ ((ci 0) ++ ((cu 0) ++ ((cu 0) ++ ((cu 0) ++ (iv .u8 (z32) ++ ((cu 0) ++ (cu 0))))))))) a8 rfl row62 (by first | rfl | simp only [aa, an, na, ca]) rfl rfl rfl (by first | rfl | simp only [la, lc, ln, lv, List.length_replicate]) (by first | rfl | simp only [la, lc, ln, lv, List.length_replicate]) (one_cat (one_iv _ _) (one_cat oneU (one_cat oneU (one_cat oneU (one_cat oneU (one_cat (one_iv _ _) (one_cat oneU oneU))))))) (by first | rfl | simp only [aa, an, na, ca]) ?_
  intro d9 b9
  try dsimp only [List.set] at b9
  refine WL.as rfl (wn (CW.ret (QW.then_r ?_)))
  obtain ⟨rfl, rfl, rfl, rfl, rfl, rfl, rfl, rfl, rfl⟩ := H
  exact QW.retr1 rfl row62 rfl b9 (i := 0) rfl (by first | rfl | simp only [la, lc, ln, lv, List.length_replicate]) rfl ⟨(List.length_replicate ..), (List.length_replicate ..), rfl, b9.pick [] (by decide)⟩
 have b0 : (decide (a3 > (IntKind.i64.wrap (a0 - a2)))) = false := (decide_eq_false c8)
 refine WL.on ?_ ?_; exact Wg 34 b0
 refine WL.v (Runs.fieldAddr (off := 0) (p := 0) fld60_0 rfl rfl rfl) ?_
 refine WL.on ?_ ?_; exact Wg 34 b0
 refine WL.v (Runs.load nagg37 rfl (a8.cell (k := 1) rfl (pa (.int .u64 a4_0) [] ((cu a4_1) ++ iv .u8 l4_2)))) ?_
 refine WL.on ?_ ?_; exact Wg 34 b0
 refine WL.mv rfl ?_
 refine WL.on ?_ ?_; exact Wg 34 b0
 refine WL.v (Runs.conv Tryd.underlying37 ⟨_, Tryd.underlying3⟩ rfl rfl) ?_
 refine WL.on ?_ ?_; exact Wg 34 b0
 refine WL.v (Runs.geq rfl rfl rfl) ?_
 refine WL.v (Runs.pick_f (evb rfl b0) rfl) ?_
 refine WL.mv rfl ?_
 rcases H with ⟨c9, H⟩ | ⟨c9, H⟩
 ·have b1 : (decide (a4_0 ≥ (IntKind.u64.wrap a3))) = true := (decide_eq_true c9)
  refine WL.off ?_ ?_; exact Wg 41 b1
  refine WL.off ?_ ?_; exact Wg 41 b1
  refine WL.off ?_ ?_; exact Wg 41 b1
  refine WL.off ?_ ?_; exact Wg 41 b1
  refine WL.off ?_ ?_; exact Wg 41 b1
  refine WL.v (Runs.pick_t (evb rfl b1) rfl) ?_
  refine WL.mv rfl ?_
  refine WL.off ?_ ?_; exact Wg 48 rfl
  refine WL.off ?_ ?_; exact Wg 48 rfl
  refine WL.v (Runs.pick_t rfl rfl) ?_
  refine WL.mv rfl ?_
  refine WL.off ?_ ?_; exact Wg 52 rfl
  refine WL.off ?_ ?_; exact Wg 52 rfl
  refine WL.v (Runs.pick_t rfl rfl) ?_
  refine wn ?_
  refine CW.sub [(2, .int .i64 a2), (3, .int .i64 a3), (5, .int .u64 a5), (6, .int .u64 a6), (8, .pointer (sp a4)), (11, .pointer (sp a7)), (14, .pointer (sp a1)), (15, .int .i64 0), (55, .bool true)] (by repeat' constructor) ?_
  refine CW.ct rfl rfl ?_
  refine cr ?_
  refine WL.v (Runs.build_struct (ps := [(0, 32), (32, 1), (33, 1), (34, 34), (68, 1), (69, 1)]) (cs := (iv .u8 (z32) ++ ((ci 0) ++ ((cu 0) ++ ((cu 0) ++ ((cu 0) ++ (iv .u8 (z32) ++ ((cu 0) ++ (cu 0))))))))) plc62 zero62 rfl Fills.nil) ?_
  refine WL.sm (new := (iv .u8 (z32) ++ ((ci 0) ++ ((cu 0) ++ ((cu 0) ++ ((cu 0) ++ (iv .u8 (z32) ++ ((cu 0) ++ (cu 0))))))))) (i := 0) (pre := (([] : Cs))) (mid := (iv .u8 (z32) ++ ((ci 0) ++ ((cu 0) ++ ((cu 0) ++ ((cu 0) ++ (iv .u8 (z32) ++ ((cu 0) ++ (cu 0))))))))) (post := (([] : Cs))) (ms := (iv .u8 (z32) ++ ((ci 0) ++ ((cu 0) ++ ((cu 0) ++ ((cu 0) ++ (iv .u8 (z32) ++ ((cu 0) ++ (cu 0))))))))) a8 rfl row62 (by first | rfl | simp only [aa, an, na, ca]) rfl rfl rfl (by first | rfl | simp only [la, lc, ln, lv, List.length_replicate]) (by first | rfl | simp only [la, lc, ln, lv, List.length_replicate]) (one_cat (one_iv _ _) (one_cat oneU (one_cat oneU (one_cat oneU (one_cat oneU (one_cat (one_iv _ _) (one_cat oneU oneU))))))) (by first | rfl | simp only [aa, an, na, ca]) ?_
  intro e0 c0
  try dsimp only [List.set] at c0
  refine WL.as rfl (wn (CW.ret (QW.then_r ?_)))
  obtain ⟨rfl, rfl, rfl, rfl, rfl, rfl, rfl, rfl, rfl⟩ := H
  exact QW.retr1 rfl row62 rfl c0 (i := 0) rfl (by first | rfl | simp only [la, lc, ln, lv, List.length_replicate]) rfl ⟨(List.length_replicate ..), (List.length_replicate ..), rfl, c0.pick [] (by decide)⟩
 have b1 : (decide (a4_0 ≥ (IntKind.u64.wrap a3))) = false := (decide_eq_false c9)
 refine WL.on ?_ ?_; exact Wg 41 b1
 refine WL.v (Runs.fieldAddr (off := 1) (p := 1) fld60_1 rfl rfl rfl) ?_
 refine WL.on ?_ ?_; exact Wg 41 b1
 refine WL.v (Runs.load nagg37 rfl (a8.cell (k := 1) rfl (pa (.int .u64 a4_1) (cu a4_0) (iv .u8 l4_2)))) ?_
 refine WL.on ?_ ?_; exact Wg 41 b1
 refine WL.mv rfl ?_
 refine WL.on ?_ ?_; exact Wg 41 b1
 refine WL.v (Runs.conv Tryd.underlying37 ⟨_, Tryd.underlying3⟩ rfl rfl) ?_
 refine WL.on ?_ ?_; exact Wg 41 b1
 refine WL.v (Runs.gtr rfl rfl rfl) ?_
 refine WL.v (Runs.pick_f (evb rfl b1) rfl) ?_
 refine WL.mv rfl ?_
 rcases H with ⟨d0, H⟩ | ⟨d0, H⟩
 ·have b4 : (decide (a4_1 > (IntKind.u64.wrap a3))) = true := (decide_eq_true d0)
  refine WL.off ?_ ?_; exact Wg 48 b4
  refine WL.off ?_ ?_; exact Wg 48 b4
  refine WL.v (Runs.pick_t (evb rfl b4) rfl) ?_
  refine WL.mv rfl ?_
  refine WL.off ?_ ?_; exact Wg 52 rfl
  refine WL.off ?_ ?_; exact Wg 52 rfl
  refine WL.v (Runs.pick_t rfl rfl) ?_
  refine wn ?_
  refine CW.sub [(2, .int .i64 a2), (3, .int .i64 a3), (5, .int .u64 a5), (6, .int .u64 a6), (8, .pointer (sp a4)), (11, .pointer (sp a7)), (14, .pointer (sp a1)), (15, .int .i64 0), (55, .bool true)] (by repeat' constructor) ?_
  refine CW.ct rfl rfl ?_
  refine cr ?_
  refine WL.v (Runs.build_struct (ps := [(0, 32), (32, 1), (33, 1), (34, 34), (68, 1), (69, 1)]) (cs := (iv .u8 (z32) ++ ((ci 0) ++ ((cu 0) ++ ((cu 0) ++ ((cu 0) ++ (iv .u8 (z32) ++ ((cu 0) ++ (cu 0))))))))) plc62 zero62 rfl Fills.nil) ?_
  refine WL.sm (new := (iv .u8 (z32) ++ ((ci 0) ++ ((cu 0) ++ ((cu 0) ++ ((cu 0) ++ (iv .u8 (z32) ++ ((cu 0) ++ (cu 0))))))))) (i := 0) (pre := (([] : Cs))) (mid := (iv .u8 (z32) ++ ((ci 0) ++ ((cu 0) ++ ((cu 0) ++ ((cu 0) ++ (iv .u8 (z32) ++ ((cu 0) ++ (cu 0))))))))) (post := (([] : Cs))) (ms := (iv .u8 (z32) ++ ((ci 0) ++ ((cu 0) ++ ((cu 0) ++ ((cu 0) ++ (iv .u8 (z32) ++ ((cu 0) ++ (cu 0))))))))) a8 rfl row62 (by first | rfl | simp only [aa, an, na, ca]) rfl rfl rfl (by first | rfl | simp only [la, lc, ln, lv, List.length_replicate]) (by first | rfl | simp only [la, lc, ln, lv, List.length_replicate]) (one_cat (one_iv _ _) (one_cat oneU (one_cat oneU (one_cat oneU (one_cat oneU (one_cat (one_iv _ _) (one_cat oneU oneU))))))) (by first | rfl | simp only [aa, an, na, ca]) ?_
  intro e1 c1
  try dsimp only [List.set] at c1
  refine WL.as rfl (wn (CW.ret (QW.then_r ?_)))
  obtain ⟨rfl, rfl, rfl, rfl, rfl, rfl, rfl, rfl, rfl⟩ := H
  exact QW.retr1 rfl row62 rfl c1 (i := 0) rfl (by first | rfl | simp only [la, lc, ln, lv, List.length_replicate]) rfl ⟨(List.length_replicate ..), (List.length_replicate ..), rfl, c1.pick [] (by decide)⟩
 have b4 : (decide (a4_1 > (IntKind.u64.wrap a3))) = false := (decide_eq_false d0)
 refine WL.on ?_ ?_; exact Wg 48 b4
 refine WL.mv rfl ?_
 refine WL.on ?_ ?_; exact Wg 48 b4
 refine WL.v (Runs.eql rfl rfl rfl) ?_
 refine WL.v (Runs.pick_f (evb rfl b4) rfl) ?_
 refine WL.mv rfl ?_
 rcases H with ⟨d1, H⟩ | ⟨d1, H⟩
 ·have b5 : (a5 == 0) = true := (beq_iff_eq.mpr d1)
  refine WL.off ?_ ?_; exact Wg 52 b5
  refine WL.off ?_ ?_; exact Wg 52 b5
  refine WL.v (Runs.pick_t (evb rfl b5) rfl) ?_
  refine wn ?_
  refine CW.sub [(2, .int .i64 a2), (3, .int .i64 a3), (5, .int .u64 a5), (6, .int .u64 a6), (8, .pointer (sp a4)), (11, .pointer (sp a7)), (14, .pointer (sp a1)), (15, .int .i64 0), (55, .bool true)] (by repeat' constructor) ?_
  refine CW.ct rfl rfl ?_
  refine cr ?_
  refine WL.v (Runs.build_struct (ps := [(0, 32), (32, 1), (33, 1), (34, 34), (68, 1), (69, 1)]) (cs := (iv .u8 (z32) ++ ((ci 0) ++ ((cu 0) ++ ((cu 0) ++ ((cu 0) ++ (iv .u8 (z32) ++ ((cu 0) ++ (cu 0))))))))) plc62 zero62 rfl Fills.nil) ?_
  refine WL.sm (new := (iv .u8 (z32) ++ ((ci 0) ++ ((cu 0) ++ ((cu 0) ++ ((cu 0) ++ (iv .u8 (z32) ++ ((cu 0) ++ (cu 0))))))))) (i := 0) (pre := (([] : Cs))) (mid := (iv .u8 (z32) ++ ((ci 0) ++ ((cu 0) ++ ((cu 0) ++ ((cu 0) ++ (iv .u8 (z32) ++ ((cu 0) ++ (cu 0))))))))) (post := (([] : Cs))) (ms := (iv .u8 (z32) ++ ((ci 0) ++ ((cu 0) ++ ((cu 0) ++ ((cu 0) ++ (iv .u8 (z32) ++ ((cu 0) ++ (cu 0))))))))) a8 rfl row62 (by first | rfl | simp only [aa, an, na, ca]) rfl rfl rfl (by first | rfl | simp only [la, lc, ln, lv, List.length_replicate]) (by first | rfl | simp only [la, lc, ln, lv, List.length_replicate]) (one_cat (one_iv _ _) (one_cat oneU (one_cat oneU (one_cat oneU (one_cat oneU (one_cat (one_iv _ _) (one_cat oneU oneU))))))) (by first | rfl | simp only [aa, an, na, ca]) ?_
  intro e2 c2
  try dsimp only [List.set] at c2
  refine WL.as rfl (wn (CW.ret (QW.then_r ?_)))
  obtain ⟨rfl, rfl, rfl, rfl, rfl, rfl, rfl, rfl, rfl⟩ := H
  exact QW.retr1 rfl row62 rfl c2 (i := 0) rfl (by first | rfl | simp only [la, lc, ln, lv, List.length_replicate]) rfl ⟨(List.length_replicate ..), (List.length_replicate ..), rfl, c2.pick [] (by decide)⟩
 have b5 : (a5 == 0) = false := (beq_eq_false_iff_ne.mpr d1)
 refine WL.on ?_ ?_; exact Wg 52 b5
 refine WL.mv rfl ?_
 refine WL.on ?_ ?_; exact Wg 52 b5
 refine WL.v (Runs.gtr rfl rfl rfl) ?_
 refine WL.v (Runs.pick_f (evb rfl b5) rfl) ?_
 refine wn ?_
 refine CW.sub [(2, .int .i64 a2), (3, .int .i64 a3), (5, .int .u64 a5), (6, .int .u64 a6), (8, .pointer (sp a4)), (11, .pointer (sp a7)), (14, .pointer (sp a1)), (15, .int .i64 0), (55, .bool (decide (a6 > 9223372036854775807)))] (by repeat' constructor) ?_
 rcases H with ⟨d2, H⟩ | ⟨d2, H⟩
 ·have d3 : (decide (a6 > 9223372036854775807)) = true := (decide_eq_true d2)
  refine CW.ct rfl d3 ?_
  refine cr ?_
  refine WL.v (Runs.build_struct (ps := [(0, 32), (32, 1), (33, 1), (34, 34), (68, 1), (69, 1)]) (cs := (iv .u8 (z32) ++ ((ci 0) ++ ((cu 0) ++ ((cu 0) ++ ((cu 0) ++ (iv .u8 (z32) ++ ((cu 0) ++ (cu 0))))))))) plc62 zero62 rfl Fills.nil) ?_
  refine WL.sm (new := (iv .u8 (z32) ++ ((ci 0) ++ ((cu 0) ++ ((cu 0) ++ ((cu 0) ++ (iv .u8 (z32) ++ ((cu 0) ++ (cu 0))))))))) (i := 0) (pre := (([] : Cs))) (mid := (iv .u8 (z32) ++ ((ci 0) ++ ((cu 0) ++ ((cu 0) ++ ((cu 0) ++ (iv .u8 (z32) ++ ((cu 0) ++ (cu 0))))))))) (post := (([] : Cs))) (ms := (iv .u8 (z32) ++ ((ci 0) ++ ((cu 0) ++ ((cu 0) ++ ((cu 0) ++ (iv .u8 (z32) ++ ((cu 0) ++ (cu 0))))))))) a8 rfl row62 (by first | rfl | simp only [aa, an, na, ca]) rfl rfl rfl (by first | rfl | simp only [la, lc, ln, lv, List.length_replicate]) (by first | rfl | simp only [la, lc, ln, lv, List.length_replicate]) (one_cat (one_iv _ _) (one_cat oneU (one_cat oneU (one_cat oneU (one_cat oneU (one_cat (one_iv _ _) (one_cat oneU oneU))))))) (by first | rfl | simp only [aa, an, na, ca]) ?_
  intro e3 c3
  try dsimp only [List.set] at c3
  refine WL.as rfl (wn (CW.ret (QW.then_r ?_)))
  obtain ⟨rfl, rfl, rfl, rfl, rfl, rfl, rfl, rfl, rfl⟩ := H
  exact QW.retr1 rfl row62 rfl c3 (i := 0) rfl (by first | rfl | simp only [la, lc, ln, lv, List.length_replicate]) rfl ⟨(List.length_replicate ..), (List.length_replicate ..), rfl, c3.pick [] (by decide)⟩
 have d3 : (decide (a6 > 9223372036854775807)) = false := (decide_eq_false d2)
 refine CW.cf rfl d3 ?_
 refine CW.skip (QW.then_n (cr ?_))
 refine WL.v (Runs.load_arr arr23 rfl (a8.blk (i := 2) rfl) hl1) ?_
 refine WL.mv rfl (WL.mv rfl ?_)
 refine WL.v (Runs.conv Tryd.underlying37 ⟨_, Tryd.underlying3⟩ rfl rfl) ?_
 refine WL.v (Runs.load_mid row60 rfl a8 (i := 1) rfl (pm [] ((cu a4_0) ++ ((cu a4_1) ++ iv .u8 l4_2)) [] (hm := by first | rfl | simp only [la, lc, ln, lv, hl4_2])) (by first | rfl | simp only [la, lc, ln, lv, hl4_2])) ?_
 refine WL.mv rfl (WL.mv rfl ?_)
 refine WL.v (Runs.build_seg (ps := [(0, 32), (32, 1), (33, 1), (34, 34), (68, 1), (69, 1)]) (cs := (iv .u8 l1 ++ ((ci a2) ++ ((cu (IntKind.u64.wrap a3)) ++ ((cu a4_0) ++ ((cu a4_1) ++ (iv .u8 l4_2 ++ ((cu a5) ++ (cu a6))))))))) plc62 zero62 rfl (.cons (ms := (iv .u8 l1)) rfl (by first | rfl | simp only [la, lc, ln, lv, hl1]) rfl (.cons (ms := ((ci a2))) rfl rfl rfl (.cons (ms := ((cu (IntKind.u64.wrap a3)))) rfl rfl rfl (.cons (ms := ((cu a4_0) ++ ((cu a4_1) ++ iv .u8 l4_2))) rfl (by first | rfl | simp only [la, lc, ln, lv, hl4_2]) rfl (.cons (ms := ((cu a5))) rfl rfl rfl (.one rfl rfl)))))) (Eq.trans (b := 70) (by first | rfl | simp only [la, lc, ln, lv, List.length_replicate]) (Eq.symm (by first | rfl | simp only [List.append_assoc, la, lc, ln, lv, hl1, hl4_2]))) (by first | rfl | simp only [aa, an, na, ca])) ?_
 refine WL.sm (new := (iv .u8 l1 ++ ((ci a2) ++ ((cu (IntKind.u64.wrap a3)) ++ ((cu a4_0) ++ ((cu a4_1) ++ (iv .u8 l4_2 ++ ((cu a5) ++ (cu a6))))))))) (i := 0) (pre := (([] : Cs))) (mid := (iv .u8 (z32) ++ ((ci 0) ++ ((cu 0) ++ ((cu 0) ++ ((cu 0) ++ (iv .u8 (z32) ++ ((cu 0) ++ (cu 0))))))))) (post := (([] : Cs))) (ms := (iv .u8 l1 ++ ((ci a2) ++ ((cu (IntKind.u64.wrap a3)) ++ ((cu a4_0) ++ ((cu a4_1) ++ (iv .u8 l4_2 ++ ((cu a5) ++ (cu a6))))))))) a8 rfl row62 (by first | rfl | simp only [aa, an, na, ca]) rfl rfl rfl (by first | rfl | simp only [la, lc, ln, lv, hl1, hl4_2]) (by first | rfl | simp only [la, lc, ln, lv, List.length_replicate]) (one_cat (one_iv _ _) (one_cat oneU (one_cat oneU (one_cat oneU (one_cat oneU (one_cat (one_iv _ _) (one_cat oneU oneU))))))) (by first | rfl | simp only [aa, an, na, ca]) ?_
 intro e4 c4
 try dsimp only [List.set] at c4
 refine WL.as rfl (wn (CW.ret ?_))
 obtain ⟨rfl, rfl, rfl, rfl, rfl, rfl, rfl, rfl, rfl⟩ := H
 exact QW.retr1 rfl row62 rfl c4 (i := 0) rfl (by first | rfl | simp only [la, lc, ln, lv, hl1, hl4_2]) rfl ⟨hl1, hl4_2, rfl, c4.pick [] (by decide)⟩
/-! ### reliquarylaw13_images: function 20 -/
def reliquarylaw13_images.L2 (l0 : List R42) (a3 : List R42) (a0 : Int) (K_L1 : (List R42) → Int → Prop) : Nat → (List Int) → Int → Prop
 | 0, _, _ => False
 | kL2 + 1, a2, a1 => ((0 ≤ a0 ∧ a0 < (l0.length : Int)) ∧ ((a1 < (((gx l0 (a0.toNat)).2).length : Int) ∧ ((a1 < 159 ∧ ((0 ≤ a0 ∧ a0 < (l0.length : Int)) ∧ ((0 ≤ a1 ∧ a1 < (((gx l0 (a0.toNat)).2).length : Int)) ∧ ((0 ≤ a1 ∧ a1 < (a2.length : Int)) ∧ (∃ a6 : List Int, a6 = List.set a2 (a1.toNat) (gn ((gx l0 (a0.toNat)).2) (a1.toNat)) ∧ reliquarylaw13_images.L2 l0 a3 a0 K_L1 kL2 a6 (IntKind.i64.wrap (a1 + 1))))))) ∨ (¬ (a1 < 159) ∧ ((0 ≤ a0 ∧ a0 < (l0.length : Int)) ∧ (∃ a4 : List R42, a4 = a3 ++ ([((gx l0 (a0.toNat)).1, a2)] : List R42) ∧ (a4.length ≤ 1099511627776 ∧ K_L1 a4 (IntKind.i64.wrap (a0 + 1)))))))) ∨ (¬ (a1 < (((gx l0 (a0.toNat)).2).length : Int)) ∧ ((0 ≤ a0 ∧ a0 < (l0.length : Int)) ∧ (∃ a5 : List R42, a5 = a3 ++ ([((gx l0 (a0.toNat)).1, a2)] : List R42) ∧ (a5.length ≤ 1099511627776 ∧ K_L1 a5 (IntKind.i64.wrap (a0 + 1))))))))
def reliquarylaw13_images.L3 (l0 : List R42) (a3 : List R42) (a0 : Int) (K_L1 : (List R42) → Int → Prop) : Nat → (List Int) → Int → Prop
 | 0, _, _ => False
 | kL3 + 1, a2, a1 => ((0 ≤ a0 ∧ a0 < (l0.length : Int)) ∧ ((a1 < (((gx l0 (a0.toNat)).2).length : Int) ∧ ((a1 < 160 ∧ ((0 ≤ a0 ∧ a0 < (l0.length : Int)) ∧ ((0 ≤ a1 ∧ a1 < (((gx l0 (a0.toNat)).2).length : Int)) ∧ ((0 ≤ a1 ∧ a1 < (a2.length : Int)) ∧ (∃ a6 : List Int, a6 = List.set a2 (a1.toNat) (gn ((gx l0 (a0.toNat)).2) (a1.toNat)) ∧ reliquarylaw13_images.L3 l0 a3 a0 K_L1 kL3 a6 (IntKind.i64.wrap (a1 + 1))))))) ∨ (¬ (a1 < 160) ∧ ((0 ≤ a0 ∧ a0 < (l0.length : Int)) ∧ (∃ a4 : List R42, a4 = a3 ++ ([((gx l0 (a0.toNat)).1, a2)] : List R42) ∧ (a4.length ≤ 1099511627776 ∧ K_L1 a4 (IntKind.i64.wrap (a0 + 1)))))))) ∨ (¬ (a1 < (((gx l0 (a0.toNat)).2).length : Int)) ∧ ((0 ≤ a0 ∧ a0 < (l0.length : Int)) ∧ (∃ a5 : List R42, a5 = a3 ++ ([((gx l0 (a0.toNat)).1, a2)] : List R42) ∧ (a5.length ≤ 1099511627776 ∧ K_L1 a5 (IntKind.i64.wrap (a0 + 1))))))))
def reliquarylaw13_images.L4 (l0 : List R42) (a3 : List R42) (a0 : Int) (K_L1 : (List R42) → Int → Prop) : Nat → (List Int) → Int → Prop
 | 0, _, _ => False
 | kL4 + 1, a2, a1 => ((0 ≤ a0 ∧ a0 < (l0.length : Int)) ∧ ((a1 < (((gx l0 (a0.toNat)).2).length : Int) ∧ ((a1 < 160 ∧ ((0 ≤ a0 ∧ a0 < (l0.length : Int)) ∧ ((0 ≤ a1 ∧ a1 < (((gx l0 (a0.toNat)).2).length : Int)) ∧ ((0 ≤ a1 ∧ a1 < (a2.length : Int)) ∧ (∃ a6 : List Int, a6 = List.set a2 (a1.toNat) (gn ((gx l0 (a0.toNat)).2) (a1.toNat)) ∧ reliquarylaw13_images.L4 l0 a3 a0 K_L1 kL4 a6 (IntKind.i64.wrap (a1 + 1))))))) ∨ (¬ (a1 < 160) ∧ ((0 ≤ a0 ∧ a0 < (l0.length : Int)) ∧ (∃ a4 : List R42, a4 = a3 ++ ([((gx l0 (a0.toNat)).1, a2)] : List R42) ∧ (a4.length ≤ 1099511627776 ∧ K_L1 a4 (IntKind.i64.wrap (a0 + 1)))))))) ∨ (¬ (a1 < (((gx l0 (a0.toNat)).2).length : Int)) ∧ ((0 ≤ a0 ∧ a0 < (l0.length : Int)) ∧ (∃ a5 : List R42, a5 = a3 ++ ([((gx l0 (a0.toNat)).1, a2)] : List R42) ∧ (a5.length ≤ 1099511627776 ∧ K_L1 a5 (IntKind.i64.wrap (a0 + 1))))))))
def reliquarylaw13_images.L1 (l0 : List R42) (a1 : Bool) (lr0 : List R42) : Nat → (List R42) → Int → Prop
 | 0, _, _ => False
 | kL1 + 1, a2, a0 => ((a0 < (l0.length : Int) ∧ ((a1 = true ∧ ((a0 = 1 ∧ (∃ k_ : Nat, reliquarylaw13_images.L2 l0 a2 a0 (reliquarylaw13_images.L1 l0 a1 lr0 kL1) k_ (List.replicate 159 (0 : Int)) 0)) ∨ (¬ (a0 = 1) ∧ (∃ k_ : Nat, reliquarylaw13_images.L3 l0 a2 a0 (reliquarylaw13_images.L1 l0 a1 lr0 kL1) k_ (List.replicate 160 (0 : Int)) 0)))) ∨ (¬ (a1 = true) ∧ (∃ k_ : Nat, reliquarylaw13_images.L4 l0 a2 a0 (reliquarylaw13_images.L1 l0 a1 lr0 kL1) k_ (List.replicate 160 (0 : Int)) 0)))) ∨ (¬ (a0 < (l0.length : Int)) ∧ lr0 = a2))
def reliquarylaw13_images.rel (l0 : List R42) (a1 : Bool) (lr0 : List R42) : Prop := (∃ k_ : Nat, reliquarylaw13_images.L1 l0 a1 lr0 k_ ([] : List R42) 0)
set_option maxHeartbeats 1000000 in
theorem reliquarylaw13_images.calls (w w1 : World) (T R : Pool) (l0 : List R42) (a1 : Bool) (A0 : Option Addr) (n0 : Nat) (c0 : Nat) (st0 : St w w1 ((T ++ R))) (hb0 : HS w (T ++ R) T A0 n0 c0 (f42 w) l0) (lr0 : List R42) (H : reliquarylaw13_images.rel l0 a1 lr0) :
  Calls Tryd.prog 20 #[.slice A0 n0 c0, .bool a1] w1 fun e w' => ∃ T' Ar0 nr0 cr0 xr0, Pl T T' ∧ nr0 = lr0.length ∧ HRs T' (f42 w) xr0 lr0 ∧ e = .returned (.slice Ar0 nr0 cr0) ∧ St w w' (.sl Ar0 cr0 nr0 xr0 42 2 :: (T' ++ R)) := by
 refine CW.enter Tryd.func20 rfl (n := 60) rfl [.slice A0 n0 c0, .bool a1] (Nat.le_of_ble_eq_true rfl) ?_
 refine CW.sub [(0, .slice A0 n0 c0), (1, .bool a1)] ⟨rfl, rfl, trivial⟩ ?_
 refine cr (WL.as rfl (WL.nx (WL.as rfl (wn (CW.seq (cr (WL.as rfl (wn (CW.block ?_)))))))))
 have g5 := st0.nil_sl 42 2
 have g5 : St w w1 (.sl none 0 0 ([] : Cs) 42 2 :: (T ++ R)) := g5
 obtain ⟨x1, H⟩ := H
 refine CW.sub [(0, .slice A0 n0 c0), (1, .bool a1), (4, .slice none 0 0), (5, .slice none 0 0), (6, .int .i64 0)] ⟨rfl, rfl, rfl, rfl, rfl, trivial⟩ ?_
 refine CW.loop (fun kL1 l_ w_ => ∃ (b9 : Pool) (a4 : Option Addr) (a5 : Nat) (a2 : Nat) (a6 : Cs) (c4 : List R42) (a0 : Int), l_ = [(0, .slice A0 n0 c0), (1, .bool a1), (4, .slice none 0 0), (5, .slice a4 a2 a5), (6, .int .i64 a0)] ∧ reliquarylaw13_images.L1 l0 a1 lr0 kL1 c4 a0 ∧ (Pl T b9) ∧ (a2 = c4.length) ∧ (HRs b9 (f42 w) a6 c4) ∧ St w w_ (.sl a4 a5 a2 a6 42 2 :: (b9 ++ R))) (k := x1) ⟨T, none, 0, 0, ([] : Cs), ([] : List R42), 0, rfl, H, Pl.refl, rfl, (HRs.nil : HRs T (f42 w) [] []), g5⟩ (fun _ _ h => by obtain ⟨_, _, _, _, _, _, _, _, h, _⟩ := h; exact h.elim) ?_
 rintro kL1 Q9 R0 ⟨b9, a4, a5, a2, a6, c4, a0, rfl, H, a3, d4, d5, f2⟩
 refine CW.seq (cr (WL.mv rfl (WL.mv rfl ?_)))
 refine WL.v (Runs.len_sl Tryd.underlying40 rfl (by rw [hb0.1])) ?_
 refine WL.v (Runs.lss rfl rfl rfl) ?_
 refine wn ?_
 rcases H with ⟨g6, H⟩ | ⟨g6, H⟩
 ·have g7 : (decide (a0 < (l0.length : Int))) = true := (decide_eq_true g6)
  refine CW.ct rfl g7 ?_
  refine CW.skip (QW.then_n (CW.seq (CW.block (cr (WL.as rfl (wn (CW.seq (cr (WL.mv rfl (WL.mv rfl ?_))))))))))
  rcases H with ⟨g8, H⟩ | ⟨g8, H⟩
  ·have d6 : a1 = true := g8
   refine WL.on ?_ ?_; exact Wg 17 d6
   refine WL.mv rfl ?_
   refine WL.on ?_ ?_; exact Wg 17 d6
   refine WL.v (Runs.eql rfl rfl rfl) ?_
   refine WL.v (Runs.pick_t (evb rfl d6) rfl) ?_
   refine wn ?_
   rcases H with ⟨g9, H⟩ | ⟨g9, H⟩
   ·have h0 : (a0 == 1) = true := (beq_iff_eq.mpr g9)
    refine CW.ct rfl h0 ?_
    refine CW.region (WL.as rfl (WL.nx (WL.mv rfl ?_)))
    refine WL.make f2 Tryd.underlying25 elem5 rfl rfl (by decide) (by decide) (by decide) (N := 159) rfl ?_
    intro a7 x2 f3
    replace f3 : St w x2 (.sl (sp a7) 159 159 (iv .u8 (List.replicate 159 (0 : Int))) 5 1 :: .sl a4 a5 a2 a6 42 2 :: (b9 ++ R)) := by rw [iv_replicate] at f3; exact f3
    have x3 : 159 = (List.replicate 159 (0 : Int)).length := by simp
    refine WL.as rfl (wn (CW.seq (cr (WL.as rfl (wn (CW.block ?_))))))
    obtain ⟨x4, H⟩ := H
    refine CW.sub [(0, .slice A0 n0 c0), (1, .bool a1), (4, .slice none 0 0), (5, .slice a4 a2 a5), (6, .int .i64 a0), (10, .int .i64 a0), (11, .slice A0 n0 c0), (12, .int .i64 (l0.length : Int)), (13, .bool (decide (a0 < (l0.length : Int)))), (7, .int .i64 159), (16, .bool a1), (17, .bool a1), (18, .int .i64 a0), (19, .bool (a0 == 1)), (20, .bool (a0 == 1)), (21, .int .i64 159), (22, .slice (sp a7) 159 159), (8, .slice (sp a7) 159 159), (9, .int .i64 0)] (by repeat' constructor) ?_
    refine CW.loop (fun kL2 l_ w_ => ∃ (d7 : Pool) (b6 : List Int) (c1 : Int), l_ = [(0, .slice A0 n0 c0), (1, .bool a1), (4, .slice none 0 0), (5, .slice a4 a2 a5), (6, .int .i64 a0), (10, .int .i64 a0), (11, .slice A0 n0 c0), (12, .int .i64 (l0.length : Int)), (13, .bool (decide (a0 < (l0.length : Int)))), (7, .int .i64 159), (16, .bool a1), (17, .bool a1), (18, .int .i64 a0), (19, .bool (a0 == 1)), (20, .bool (a0 == 1)), (21, .int .i64 159), (22, .slice (sp a7) 159 159), (8, .slice (sp a7) 159 159), (9, .int .i64 c1)] ∧ reliquarylaw13_images.L2 l0 c4 a0 (reliquarylaw13_images.L1 l0 a1 lr0 kL1) kL2 b6 c1 ∧ (Pl b9 d7) ∧ (159 = b6.length) ∧ St w w_ (.sl (sp a7) 159 159 (iv .u8 b6) 5 1 :: .sl a4 a5 a2 a6 42 2 :: (d7 ++ R))) (k := x4) ⟨b9, List.replicate 159 (0 : Int), 0, rfl, H, Pl.refl, x3, f3⟩ (fun _ _ h => by obtain ⟨_, _, _, _, h, _⟩ := h; exact h.elim) ?_
    rintro kL2 R1 p1 ⟨d7, b6, c1, rfl, H, a8, f4, b3⟩
    refine CW.seq (cr (WL.mv rfl (WL.mv rfl (WL.mv rfl ?_))))
    obtain ⟨⟨x5, x6⟩, H⟩ := H
    obtain ⟨R2, p2, x7⟩ := hb0.2.2
    obtain ⟨R3, p3, x8, x9, y0⟩ := el_get (i := (a0).toNat) ((p2.at b3 (mem_TR (A := [_, _]) (fun _ h_ => a8.1 _ (a3.1 _ h_))))) (x7.mono (fun _ h_ => a8.1 _ (a3.1 _ h_))) (fz42 w) (by decide) (by omega)
    obtain ⟨y1, y2, y3, h1, y4⟩ := inv42 y0
    replace h1 : x8 = (cu ((gx l0 (a0.toNat)).1)) ++ (cl y1 y2 y3) := h1
    subst h1
    refine WL.v (Runs.indexAddr Tryd.underlying40 cells42 (by decide) rfl p3 rfl x5 (by rw [show n0 = l0.length from hb0.1]; exact x6) (o := (a0.toNat) * 2) (by first | rfl | omega)) ?_
    refine WL.v (Runs.fieldAddrB (off := 1) fld42_1 rfl rfl rfl) ?_
    refine WL.v (Runs.load nagg25 rfl (Src.cellAt (j := 1) (Src.cut ((p2.at b3 (mem_TR (A := [_, _]) (fun _ h_ => a8.1 _ (a3.1 _ h_))))) p3 x9) rfl)) ?_
    refine WL.v (Runs.len_sl Tryd.underlying25 rfl (by rw [y4.1])) ?_
    refine WL.v (Runs.lss rfl rfl rfl) ?_
    refine WL.mv rfl ?_
    rcases H with ⟨h2, H⟩ | ⟨h2, H⟩
    ·have c5 : (decide (c1 < (((gx l0 (a0.toNat)).2).length : Int))) = true := (decide_eq_true h2)
     refine WL.on ?_ ?_; exact Wg 31 c5
     refine WL.mv rfl ?_
     refine WL.on ?_ ?_; exact Wg 31 c5
     refine WL.mv rfl ?_
     refine WL.on ?_ ?_; exact Wg 31 c5
     refine WL.v (Runs.lss rfl rfl rfl) ?_
     refine WL.v (Runs.pick_t (evb rfl c5) rfl) ?_
     refine wn ?_
     rcases H with ⟨h3, H⟩ | ⟨h3, H⟩
     ·have h4 : (decide (c1 < 159)) = true := (decide_eq_true h3)
      refine CW.ct rfl h4 ?_
      refine CW.skip (QW.then_n (CW.seq (CW.block (CW.region (WL.mv rfl (WL.mv rfl (WL.mv rfl (WL.mv rfl ?_))))))))
      obtain ⟨⟨y5, y6⟩, H⟩ := H
      obtain ⟨R4, p4, y7⟩ := hb0.2.2
      obtain ⟨R5, p5, y8, y9, z0⟩ := el_get (i := (a0).toNat) ((p4.at b3 (mem_TR (A := [_, _]) (fun _ h_ => a8.1 _ (a3.1 _ h_))))) (y7.mono (fun _ h_ => a8.1 _ (a3.1 _ h_))) (fz42 w) (by decide) (by omega)
      obtain ⟨z1, z2, z3, h5, h6⟩ := inv42 z0
      replace h5 : y8 = (cu ((gx l0 (a0.toNat)).1)) ++ (cl z1 z2 z3) := h5
      subst h5
      refine WL.v (Runs.indexAddr Tryd.underlying40 cells42 (by decide) rfl p5 rfl y5 (by rw [show n0 = l0.length from hb0.1]; exact y6) (o := (a0.toNat) * 2) (by first | rfl | omega)) ?_
      refine WL.v (Runs.fieldAddrB (off := 1) fld42_1 rfl rfl rfl) ?_
      refine WL.v (Runs.load nagg25 rfl (Src.cellAt (j := 1) (Src.cut ((p4.at b3 (mem_TR (A := [_, _]) (fun _ h_ => a8.1 _ (a3.1 _ h_))))) p5 y9) rfl)) ?_
      refine WL.mv rfl ?_
      obtain ⟨⟨z4, z5⟩, H⟩ := H
      obtain ⟨R6, p6⟩ := ((h6.2.2.at b3 (mem_T (A := [_, _]) (fun _ h_ => h_)))).addr_iv (c1.toNat) (by omega)
      refine WL.v (Runs.indexAddr Tryd.underlying25 cells5 (by decide) rfl p6 rfl z4 (by rw [h6.1]; exact z5) (o := (c1).toNat) (by first | rfl | omega)) ?_
      refine WL.v (Runs.load nagg5 rfl (((h6.2.2.at b3 (mem_T (A := [_, _]) (fun _ h_ => h_)))).cell_iv p6 (by omega))) ?_
      obtain ⟨⟨z6, z7⟩, H⟩ := H
      obtain ⟨R7, p7⟩ := (b3.src_sl (k := 0) rfl).addr_iv (c1.toNat) (by omega)
      refine WL.v (Runs.indexAddr Tryd.underlying25 cells5 (by decide) rfl p7 rfl z6 (by rw [f4]; exact z7) (o := (c1).toNat) (by first | rfl | omega)) ?_
      obtain ⟨h7, p8, H⟩ := H
      refine WL.store_sl (i := 0) b3 rfl cells5 rfl p7 (by rw [iv_length]; omega) rfl rfl ?_
      intro z8 h8
      have z9 : 159 = h7.length := by rw [p8, List.length_set]; exact f4
      have h8' : St w z8 (.sl (sp a7) 159 159 (iv .u8 h7) 5 1 :: .sl a4 a5 a2 a6 42 2 :: (d7 ++ R)) := by rw [p8, ← iv_set .u8 b6 (c1.toNat) (gn ((gx l0 (a0.toNat)).2) (c1.toNat))]; exact h8
      refine WL.nil (QW.blk_n (QW.then_n (CW.region (WL.mv rfl ?_))))
      refine WL.v (Runs.add rfl rfl rfl) ?_
      refine WL.as rfl (WL.nil ?_)
      exact QW.at _ (by repeat' constructor) ⟨d7, h7, IntKind.i64.wrap (c1 + 1), rfl, H, a8, z9, h8'⟩
     have h4 : (decide (c1 < 159)) = false := (decide_eq_false h3)
     refine CW.cf rfl h4 ?_
     refine CW.exit (QW.then_x (QW.then_x (QW.blk_x (QW.then_n (CW.region (WL.mv rfl (WL.mv rfl (WL.mv rfl ?_))))))))
     obtain ⟨⟨A1, A2⟩, H⟩ := H
     obtain ⟨R8, p9, A3⟩ := hb0.2.2
     obtain ⟨R9, q0, A4, A5, A6⟩ := el_get (i := (a0).toNat) ((p9.at b3 (mem_TR (A := [_, _]) (fun _ h_ => a8.1 _ (a3.1 _ h_))))) (A3.mono (fun _ h_ => a8.1 _ (a3.1 _ h_))) (fz42 w) (by decide) (by omega)
     obtain ⟨A7, A8, A9, h9, S0⟩ := inv42 A6
     replace h9 : A4 = (cu ((gx l0 (a0.toNat)).1)) ++ (cl A7 A8 A9) := h9
     subst h9
     refine WL.v (Runs.indexAddr Tryd.underlying40 cells42 (by decide) rfl q0 rfl A1 (by rw [show n0 = l0.length from hb0.1]; exact A2) (o := (a0.toNat) * 2) (by first | rfl | omega)) ?_
     refine WL.v (Runs.fieldAddrB (off := 0) fld42_0 rfl rfl rfl) ?_
     refine WL.v (Runs.load nagg37 rfl (Src.cellAt (j := 0) (Src.cut ((p9.at b3 (mem_TR (A := [_, _]) (fun _ h_ => a8.1 _ (a3.1 _ h_))))) q0 A5) rfl)) ?_
     refine WL.mv rfl ?_
     refine WL.v (Runs.build_seg (ps := [(0, 1), (1, 1)]) (cs := ((cu ((gx l0 (a0.toNat)).1)) ++ (cl (sp a7) 159 159))) plc42 zero42 rfl (.cons (ms := ((cu ((gx l0 (a0.toNat)).1)))) rfl rfl rfl (.one rfl rfl)) rfl rfl) ?_
     have hb_103c := b3.cap (i := 0) rfl
     obtain ⟨c8, q1, B0, i0⟩ := St.freeze (A := []) (B := [_]) (T := d7) (R := R) b3
     have B1 : HB w c8 (sp a7) 159 159 (iv .u8 b6) b6.length := ⟨f4, hb_103c, Hd.of_sl B0⟩
     replace i0 : St w p1 (.sl a4 a5 a2 a6 42 2 :: (c8 ++ R)) := i0
     obtain ⟨S1, S2, B2, B3, B4, B5⟩ := slr42_1
     refine WL.buildSlSg (sz := 2) (cs := ((cu ((gx l0 (a0.toNat)).1)) ++ (cl (sp a7) 159 159))) i0 Tryd.underlying40 B2 B3 B4 (by decide) (by decide) B5 rfl (.one rfl rfl) rfl rfl ?_
     intro i1 q2 i2
     replace i2 : St w q2 (.cells i1 ((cu ((gx l0 (a0.toNat)).1)) ++ (cl (sp a7) 159 159)) 42 :: .sl a4 a5 a2 a6 42 2 :: (c8 ++ R)) := i2
     have f5 := St.rows_sl (i := 0) (m := 1) (size := 2) i2 rfl rfl (by decide)
     obtain ⟨e0, q3⟩ : ∃ x_ : Cs, x_ = (cu ((gx l0 (a0.toNat)).1)) ++ (cl (sp a7) 159 159) := ⟨_, rfl⟩
     have i3 : HRs c8 (f42 w) e0 ([((gx l0 (a0.toNat)).1, b6)] : List R42) := by rw [q3]; exact (HRs.one (.cons rfl (.cons ⟨_, _, _, rfl, B1⟩ .nil)))
     replace f5 : St w q2 (.sl (sp i1) 1 1 e0 42 2 :: .sl a4 a5 a2 a6 42 2 :: (c8 ++ R)) := by rw [q3]; exact f5
     obtain ⟨i4, q4, H⟩ := H
     obtain ⟨B6, H⟩ := H
     obtain ⟨i5, i6⟩ : ∃ n_ : Nat, n_ = i4.length := ⟨_, rfl⟩
     refine WL.appendR (i := 1) (N := i5) (news := e0) Wanted.none f5 rfl Tryd.underlying40 elemS42 rfl rfl (f5.src_sl (k := 0) rfl) (by have h1_ := (i3).length (fz42 w); have h2_ : 1 = ([((gx l0 (a0.toNat)).1, b6)] : List R42).length := rfl; rw [h1_, h2_]) (HLs.one i3) (by decide) (by have h1_ : a2 = c4.length := d4; have h2_ : 1 = ([((gx l0 (a0.toNat)).1, b6)] : List R42).length := rfl; rw [i6, q4, List.length_append]; omega) (by rw [i6]; exact B6) ?_
     intro q5 q6 B7 e1
     obtain ⟨i7, q7⟩ : ∃ x_ : Cs, x_ = a6 ++ e0 := ⟨_, rfl⟩
     have B8 : HRs c8 (f42 w) i7 i4 := by rw [q7, q4]; exact HRs.append (d5.mono (fun _ h_ => q1.1 _ (a8.1 _ h_))) i3
     replace e1 : St w B7 (.sl (sp i1) 1 1 e0 42 2 :: .sl q5 q6 i5 i7 42 2 :: (c8 ++ R)) := by rw [q7]; exact e1
     refine WL.as rfl (WL.nil (QW.blk_n (QW.then_n (CW.region (WL.mv rfl ?_)))))
     refine WL.v (Runs.add rfl rfl rfl) ?_
     refine WL.as rfl (WL.nil ?_)
     have e1' := (St.pickT (L := [_, _]) e1 [1] (by decide))
     exact QW.at _ (by repeat' constructor) ⟨c8, q5, q6, i5, i7, i4, IntKind.i64.wrap (a0 + 1), rfl, H, ((a3.trans a8).trans q1), i6, B8, e1'⟩
    have c5 : (decide (c1 < (((gx l0 (a0.toNat)).2).length : Int))) = false := (decide_eq_false h2)
    refine WL.off ?_ ?_; exact Wg 31 c5
    refine WL.off ?_ ?_; exact Wg 31 c5
    refine WL.off ?_ ?_; exact Wg 31 c5
    refine WL.v (Runs.pick_f (evb rfl c5) rfl) ?_
    refine wn ?_
    refine CW.cf rfl rfl ?_
    refine CW.exit (QW.then_x (QW.then_x (QW.blk_x (QW.then_n (CW.region (WL.mv rfl (WL.mv rfl (WL.mv rfl ?_))))))))
    obtain ⟨⟨B9, C0⟩, H⟩ := H
    obtain ⟨S3, q8, C1⟩ := hb0.2.2
    obtain ⟨S4, q9, C2, C3, C4⟩ := el_get (i := (a0).toNat) ((q8.at b3 (mem_TR (A := [_, _]) (fun _ h_ => a8.1 _ (a3.1 _ h_))))) (C1.mono (fun _ h_ => a8.1 _ (a3.1 _ h_))) (fz42 w) (by decide) (by omega)
    obtain ⟨C5, C6, C7, i8, S5⟩ := inv42 C4
    replace i8 : C2 = (cu ((gx l0 (a0.toNat)).1)) ++ (cl C5 C6 C7) := i8
    subst i8
    refine WL.v (Runs.indexAddr Tryd.underlying40 cells42 (by decide) rfl q9 rfl B9 (by rw [show n0 = l0.length from hb0.1]; exact C0) (o := (a0.toNat) * 2) (by first | rfl | omega)) ?_
    refine WL.v (Runs.fieldAddrB (off := 0) fld42_0 rfl rfl rfl) ?_
    refine WL.v (Runs.load nagg37 rfl (Src.cellAt (j := 0) (Src.cut ((q8.at b3 (mem_TR (A := [_, _]) (fun _ h_ => a8.1 _ (a3.1 _ h_))))) q9 C3) rfl)) ?_
    refine WL.mv rfl ?_
    refine WL.v (Runs.build_seg (ps := [(0, 1), (1, 1)]) (cs := ((cu ((gx l0 (a0.toNat)).1)) ++ (cl (sp a7) 159 159))) plc42 zero42 rfl (.cons (ms := ((cu ((gx l0 (a0.toNat)).1)))) rfl rfl rfl (.one rfl rfl)) rfl rfl) ?_
    have hb_149c := b3.cap (i := 0) rfl
    obtain ⟨c9, r0, C8, i9⟩ := St.freeze (A := []) (B := [_]) (T := d7) (R := R) b3
    have C9 : HB w c9 (sp a7) 159 159 (iv .u8 b6) b6.length := ⟨f4, hb_149c, Hd.of_sl C8⟩
    replace i9 : St w p1 (.sl a4 a5 a2 a6 42 2 :: (c9 ++ R)) := i9
    obtain ⟨S6, S7, D0, D1, D2, D3⟩ := slr42_1
    refine WL.buildSlSg (sz := 2) (cs := ((cu ((gx l0 (a0.toNat)).1)) ++ (cl (sp a7) 159 159))) i9 Tryd.underlying40 D0 D1 D2 (by decide) (by decide) D3 rfl (.one rfl rfl) rfl rfl ?_
    intro j0 r1 j1
    replace j1 : St w r1 (.cells j0 ((cu ((gx l0 (a0.toNat)).1)) ++ (cl (sp a7) 159 159)) 42 :: .sl a4 a5 a2 a6 42 2 :: (c9 ++ R)) := j1
    have f6 := St.rows_sl (i := 0) (m := 1) (size := 2) j1 rfl rfl (by decide)
    obtain ⟨e2, r2⟩ : ∃ x_ : Cs, x_ = (cu ((gx l0 (a0.toNat)).1)) ++ (cl (sp a7) 159 159) := ⟨_, rfl⟩
    have j2 : HRs c9 (f42 w) e2 ([((gx l0 (a0.toNat)).1, b6)] : List R42) := by rw [r2]; exact (HRs.one (.cons rfl (.cons ⟨_, _, _, rfl, C9⟩ .nil)))
    replace f6 : St w r1 (.sl (sp j0) 1 1 e2 42 2 :: .sl a4 a5 a2 a6 42 2 :: (c9 ++ R)) := by rw [r2]; exact f6
    obtain ⟨j3, r3, H⟩ := H
    obtain ⟨D4, H⟩ := H
    obtain ⟨j4, j5⟩ : ∃ n_ : Nat, n_ = j3.length := ⟨_, rfl⟩
    refine WL.appendR (i := 1) (N := j4) (news := e2) Wanted.none f6 rfl Tryd.underlying40 elemS42 rfl rfl (f6.src_sl (k := 0) rfl) (by have h1_ := (j2).length (fz42 w); have h2_ : 1 = ([((gx l0 (a0.toNat)).1, b6)] : List R42).length := rfl; rw [h1_, h2_]) (HLs.one j2) (by decide) (by have h1_ : a2 = c4.length := d4; have h2_ : 1 = ([((gx l0 (a0.toNat)).1, b6)] : List R42).length := rfl; rw [j5, r3, List.length_append]; omega) (by rw [j5]; exact D4) ?_
    intro r4 r5 D5 e3
    obtain ⟨j6, r6⟩ : ∃ x_ : Cs, x_ = a6 ++ e2 := ⟨_, rfl⟩
    have D6 : HRs c9 (f42 w) j6 j3 := by rw [r6, r3]; exact HRs.append (d5.mono (fun _ h_ => r0.1 _ (a8.1 _ h_))) j2
    replace e3 : St w D5 (.sl (sp j0) 1 1 e2 42 2 :: .sl r4 r5 j4 j6 42 2 :: (c9 ++ R)) := by rw [r6]; exact e3
    refine WL.as rfl (WL.nil (QW.blk_n (QW.then_n (CW.region (WL.mv rfl ?_)))))
    refine WL.v (Runs.add rfl rfl rfl) ?_
    refine WL.as rfl (WL.nil ?_)
    have e3' := (St.pickT (L := [_, _]) e3 [1] (by decide))
    exact QW.at _ (by repeat' constructor) ⟨c9, r4, r5, j4, j6, j3, IntKind.i64.wrap (a0 + 1), rfl, H, ((a3.trans a8).trans r0), j5, D6, e3'⟩
   have h0 : (a0 == 1) = false := (beq_eq_false_iff_ne.mpr g9)
   refine CW.cf rfl h0 ?_
   refine CW.skip (QW.then_n (cr (WL.mv rfl ?_)))
   refine WL.make f2 Tryd.underlying25 elem5 rfl rfl (by decide) (by decide) (by decide) (N := 160) rfl ?_
   intro a9 D7 f7
   replace f7 : St w D7 (.sl (sp a9) 160 160 (iv .u8 (List.replicate 160 (0 : Int))) 5 1 :: .sl a4 a5 a2 a6 42 2 :: (b9 ++ R)) := by rw [iv_replicate] at f7; exact f7
   have D8 : 160 = (List.replicate 160 (0 : Int)).length := by simp
   refine WL.as rfl (wn (CW.seq (cr (WL.as rfl (wn (CW.block ?_))))))
   obtain ⟨D9, H⟩ := H
   refine CW.sub [(0, .slice A0 n0 c0), (1, .bool a1), (4, .slice none 0 0), (5, .slice a4 a2 a5), (6, .int .i64 a0), (10, .int .i64 a0), (11, .slice A0 n0 c0), (12, .int .i64 (l0.length : Int)), (13, .bool (decide (a0 < (l0.length : Int)))), (7, .int .i64 160), (16, .bool a1), (17, .bool a1), (18, .int .i64 a0), (19, .bool (a0 == 1)), (20, .bool (a0 == 1)), (21, .int .i64 160), (22, .slice (sp a9) 160 160), (8, .slice (sp a9) 160 160), (9, .int .i64 0)] (by repeat' constructor) ?_
   refine CW.loop (fun kL3 l_ w_ => ∃ (d8 : Pool) (b7 : List Int) (c2 : Int), l_ = [(0, .slice A0 n0 c0), (1, .bool a1), (4, .slice none 0 0), (5, .slice a4 a2 a5), (6, .int .i64 a0), (10, .int .i64 a0), (11, .slice A0 n0 c0), (12, .int .i64 (l0.length : Int)), (13, .bool (decide (a0 < (l0.length : Int)))), (7, .int .i64 160), (16, .bool a1), (17, .bool a1), (18, .int .i64 a0), (19, .bool (a0 == 1)), (20, .bool (a0 == 1)), (21, .int .i64 160), (22, .slice (sp a9) 160 160), (8, .slice (sp a9) 160 160), (9, .int .i64 c2)] ∧ reliquarylaw13_images.L3 l0 c4 a0 (reliquarylaw13_images.L1 l0 a1 lr0 kL1) kL3 b7 c2 ∧ (Pl b9 d8) ∧ (160 = b7.length) ∧ St w w_ (.sl (sp a9) 160 160 (iv .u8 b7) 5 1 :: .sl a4 a5 a2 a6 42 2 :: (d8 ++ R))) (k := D9) ⟨b9, List.replicate 160 (0 : Int), 0, rfl, H, Pl.refl, D8, f7⟩ (fun _ _ h => by obtain ⟨_, _, _, _, h, _⟩ := h; exact h.elim) ?_
   rintro kL3 S8 r7 ⟨d8, b7, c2, rfl, H, b0, f8, b4⟩
   refine CW.seq (cr (WL.mv rfl (WL.mv rfl (WL.mv rfl ?_))))
   obtain ⟨⟨E0, E1⟩, H⟩ := H
   obtain ⟨S9, r8, E2⟩ := hb0.2.2
   obtain ⟨T0, r9, E3, E4, E5⟩ := el_get (i := (a0).toNat) ((r8.at b4 (mem_TR (A := [_, _]) (fun _ h_ => b0.1 _ (a3.1 _ h_))))) (E2.mono (fun _ h_ => b0.1 _ (a3.1 _ h_))) (fz42 w) (by decide) (by omega)
   obtain ⟨E6, E7, E8, j7, E9⟩ := inv42 E5
   replace j7 : E3 = (cu ((gx l0 (a0.toNat)).1)) ++ (cl E6 E7 E8) := j7
   subst j7
   refine WL.v (Runs.indexAddr Tryd.underlying40 cells42 (by decide) rfl r9 rfl E0 (by rw [show n0 = l0.length from hb0.1]; exact E1) (o := (a0.toNat) * 2) (by first | rfl | omega)) ?_
   refine WL.v (Runs.fieldAddrB (off := 1) fld42_1 rfl rfl rfl) ?_
   refine WL.v (Runs.load nagg25 rfl (Src.cellAt (j := 1) (Src.cut ((r8.at b4 (mem_TR (A := [_, _]) (fun _ h_ => b0.1 _ (a3.1 _ h_))))) r9 E4) rfl)) ?_
   refine WL.v (Runs.len_sl Tryd.underlying25 rfl (by rw [E9.1])) ?_
   refine WL.v (Runs.lss rfl rfl rfl) ?_
   refine WL.mv rfl ?_
   rcases H with ⟨j8, H⟩ | ⟨j8, H⟩
   ·have c6 : (decide (c2 < (((gx l0 (a0.toNat)).2).length : Int))) = true := (decide_eq_true j8)
    refine WL.on ?_ ?_; exact Wg 31 c6
    refine WL.mv rfl ?_
    refine WL.on ?_ ?_; exact Wg 31 c6
    refine WL.mv rfl ?_
    refine WL.on ?_ ?_; exact Wg 31 c6
    refine WL.v (Runs.lss rfl rfl rfl) ?_
    refine WL.v (Runs.pick_t (evb rfl c6) rfl) ?_
    refine wn ?_
    rcases H with ⟨j9, H⟩ | ⟨j9, H⟩
    ·have k0 : (decide (c2 < 160)) = true := (decide_eq_true j9)
     refine CW.ct rfl k0 ?_
     refine CW.skip (QW.then_n (CW.seq (CW.block (CW.region (WL.mv rfl (WL.mv rfl (WL.mv rfl (WL.mv rfl ?_))))))))
     obtain ⟨⟨F0, F1⟩, H⟩ := H
     obtain ⟨T1, s0, F2⟩ := hb0.2.2
     obtain ⟨T2, s1, F3, F4, F5⟩ := el_get (i := (a0).toNat) ((s0.at b4 (mem_TR (A := [_, _]) (fun _ h_ => b0.1 _ (a3.1 _ h_))))) (F2.mono (fun _ h_ => b0.1 _ (a3.1 _ h_))) (fz42 w) (by decide) (by omega)
     obtain ⟨F6, F7, F8, k1, k2⟩ := inv42 F5
     replace k1 : F3 = (cu ((gx l0 (a0.toNat)).1)) ++ (cl F6 F7 F8) := k1
     subst k1
     refine WL.v (Runs.indexAddr Tryd.underlying40 cells42 (by decide) rfl s1 rfl F0 (by rw [show n0 = l0.length from hb0.1]; exact F1) (o := (a0.toNat) * 2) (by first | rfl | omega)) ?_
     refine WL.v (Runs.fieldAddrB (off := 1) fld42_1 rfl rfl rfl) ?_
     refine WL.v (Runs.load nagg25 rfl (Src.cellAt (j := 1) (Src.cut ((s0.at b4 (mem_TR (A := [_, _]) (fun _ h_ => b0.1 _ (a3.1 _ h_))))) s1 F4) rfl)) ?_
     refine WL.mv rfl ?_
     obtain ⟨⟨F9, G0⟩, H⟩ := H
     obtain ⟨T3, s2⟩ := ((k2.2.2.at b4 (mem_T (A := [_, _]) (fun _ h_ => h_)))).addr_iv (c2.toNat) (by omega)
     refine WL.v (Runs.indexAddr Tryd.underlying25 cells5 (by decide) rfl s2 rfl F9 (by rw [k2.1]; exact G0) (o := (c2).toNat) (by first | rfl | omega)) ?_
     refine WL.v (Runs.load nagg5 rfl (((k2.2.2.at b4 (mem_T (A := [_, _]) (fun _ h_ => h_)))).cell_iv s2 (by omega))) ?_
     obtain ⟨⟨G1, G2⟩, H⟩ := H
     obtain ⟨T4, s3⟩ := (b4.src_sl (k := 0) rfl).addr_iv (c2.toNat) (by omega)
     refine WL.v (Runs.indexAddr Tryd.underlying25 cells5 (by decide) rfl s3 rfl G1 (by rw [f8]; exact G2) (o := (c2).toNat) (by first | rfl | omega)) ?_
     obtain ⟨k3, s4, H⟩ := H
     refine WL.store_sl (i := 0) b4 rfl cells5 rfl s3 (by rw [iv_length]; omega) rfl rfl ?_
     intro G3 k4
     have G4 : 160 = k3.length := by rw [s4, List.length_set]; exact f8
     have k4' : St w G3 (.sl (sp a9) 160 160 (iv .u8 k3) 5 1 :: .sl a4 a5 a2 a6 42 2 :: (d8 ++ R)) := by rw [s4, ← iv_set .u8 b7 (c2.toNat) (gn ((gx l0 (a0.toNat)).2) (c2.toNat))]; exact k4
     refine WL.nil (QW.blk_n (QW.then_n (CW.region (WL.mv rfl ?_))))
     refine WL.v (Runs.add rfl rfl rfl) ?_
     refine WL.as rfl (WL.nil ?_)
     exact QW.at _ (by repeat' constructor) ⟨d8, k3, IntKind.i64.wrap (c2 + 1), rfl, H, b0, G4, k4'⟩
    have k0 : (decide (c2 < 160)) = false := (decide_eq_false j9)
    refine CW.cf rfl k0 ?_
    refine CW.exit (QW.then_x (QW.then_x (QW.blk_x (QW.then_n (CW.region (WL.mv rfl (WL.mv rfl (WL.mv rfl ?_))))))))
    obtain ⟨⟨G5, G6⟩, H⟩ := H
    obtain ⟨T5, s5, G7⟩ := hb0.2.2
    obtain ⟨T6, s6, G8, G9, H0⟩ := el_get (i := (a0).toNat) ((s5.at b4 (mem_TR (A := [_, _]) (fun _ h_ => b0.1 _ (a3.1 _ h_))))) (G7.mono (fun _ h_ => b0.1 _ (a3.1 _ h_))) (fz42 w) (by decide) (by omega)
    obtain ⟨H1, H2, H3, k5, T7⟩ := inv42 H0
    replace k5 : G8 = (cu ((gx l0 (a0.toNat)).1)) ++ (cl H1 H2 H3) := k5
    subst k5
    refine WL.v (Runs.indexAddr Tryd.underlying40 cells42 (by decide) rfl s6 rfl G5 (by rw [show n0 = l0.length from hb0.1]; exact G6) (o := (a0.toNat) * 2) (by first | rfl | omega)) ?_
    refine WL.v (Runs.fieldAddrB (off := 0) fld42_0 rfl rfl rfl) ?_
    refine WL.v (Runs.load nagg37 rfl (Src.cellAt (j := 0) (Src.cut ((s5.at b4 (mem_TR (A := [_, _]) (fun _ h_ => b0.1 _ (a3.1 _ h_))))) s6 G9) rfl)) ?_
    refine WL.mv rfl ?_
    refine WL.v (Runs.build_seg (ps := [(0, 1), (1, 1)]) (cs := ((cu ((gx l0 (a0.toNat)).1)) ++ (cl (sp a9) 160 160))) plc42 zero42 rfl (.cons (ms := ((cu ((gx l0 (a0.toNat)).1)))) rfl rfl rfl (.one rfl rfl)) rfl rfl) ?_
    have hb_256c := b4.cap (i := 0) rfl
    obtain ⟨d0, s7, H4, k6⟩ := St.freeze (A := []) (B := [_]) (T := d8) (R := R) b4
    have H5 : HB w d0 (sp a9) 160 160 (iv .u8 b7) b7.length := ⟨f8, hb_256c, Hd.of_sl H4⟩
    replace k6 : St w r7 (.sl a4 a5 a2 a6 42 2 :: (d0 ++ R)) := k6
    obtain ⟨T8, T9, H6, H7, H8, H9⟩ := slr42_1
    refine WL.buildSlSg (sz := 2) (cs := ((cu ((gx l0 (a0.toNat)).1)) ++ (cl (sp a9) 160 160))) k6 Tryd.underlying40 H6 H7 H8 (by decide) (by decide) H9 rfl (.one rfl rfl) rfl rfl ?_
    intro k7 s8 k8
    replace k8 : St w s8 (.cells k7 ((cu ((gx l0 (a0.toNat)).1)) ++ (cl (sp a9) 160 160)) 42 :: .sl a4 a5 a2 a6 42 2 :: (d0 ++ R)) := k8
    have f9 := St.rows_sl (i := 0) (m := 1) (size := 2) k8 rfl rfl (by decide)
    obtain ⟨e4, s9⟩ : ∃ x_ : Cs, x_ = (cu ((gx l0 (a0.toNat)).1)) ++ (cl (sp a9) 160 160) := ⟨_, rfl⟩
    have k9 : HRs d0 (f42 w) e4 ([((gx l0 (a0.toNat)).1, b7)] : List R42) := by rw [s9]; exact (HRs.one (.cons rfl (.cons ⟨_, _, _, rfl, H5⟩ .nil)))
    replace f9 : St w s8 (.sl (sp k7) 1 1 e4 42 2 :: .sl a4 a5 a2 a6 42 2 :: (d0 ++ R)) := by rw [s9]; exact f9
    obtain ⟨l1, t0, H⟩ := H
    obtain ⟨I0, H⟩ := H
    obtain ⟨l2, l3⟩ : ∃ n_ : Nat, n_ = l1.length := ⟨_, rfl⟩
    refine WL.appendR (i := 1) (N := l2) (news := e4) Wanted.none f9 rfl Tryd.underlying40 elemS42 rfl rfl (f9.src_sl (k := 0) rfl) (by have h1_ := (k9).length (fz42 w); have h2_ : 1 = ([((gx l0 (a0.toNat)).1, b7)] : List R42).length := rfl; rw [h1_, h2_]) (HLs.one k9) (by decide) (by have h1_ : a2 = c4.length := d4; have h2_ : 1 = ([((gx l0 (a0.toNat)).1, b7)] : List R42).length := rfl; rw [l3, t0, List.length_append]; omega) (by rw [l3]; exact I0) ?_
    intro t1 t2 I1 e5
    obtain ⟨l4, t3⟩ : ∃ x_ : Cs, x_ = a6 ++ e4 := ⟨_, rfl⟩
    have I2 : HRs d0 (f42 w) l4 l1 := by rw [t3, t0]; exact HRs.append (d5.mono (fun _ h_ => s7.1 _ (b0.1 _ h_))) k9
    replace e5 : St w I1 (.sl (sp k7) 1 1 e4 42 2 :: .sl t1 t2 l2 l4 42 2 :: (d0 ++ R)) := by rw [t3]; exact e5
    refine WL.as rfl (WL.nil (QW.blk_n (QW.then_n (CW.region (WL.mv rfl ?_)))))
    refine WL.v (Runs.add rfl rfl rfl) ?_
    refine WL.as rfl (WL.nil ?_)
    have e5' := (St.pickT (L := [_, _]) e5 [1] (by decide))
    exact QW.at _ (by repeat' constructor) ⟨d0, t1, t2, l2, l4, l1, IntKind.i64.wrap (a0 + 1), rfl, H, ((a3.trans b0).trans s7), l3, I2, e5'⟩
   have c6 : (decide (c2 < (((gx l0 (a0.toNat)).2).length : Int))) = false := (decide_eq_false j8)
   refine WL.off ?_ ?_; exact Wg 31 c6
   refine WL.off ?_ ?_; exact Wg 31 c6
   refine WL.off ?_ ?_; exact Wg 31 c6
   refine WL.v (Runs.pick_f (evb rfl c6) rfl) ?_
   refine wn ?_
   refine CW.cf rfl rfl ?_
   refine CW.exit (QW.then_x (QW.then_x (QW.blk_x (QW.then_n (CW.region (WL.mv rfl (WL.mv rfl (WL.mv rfl ?_))))))))
   obtain ⟨⟨I3, I4⟩, H⟩ := H
   obtain ⟨U0, t4, I5⟩ := hb0.2.2
   obtain ⟨U1, t5, I6, I7, I8⟩ := el_get (i := (a0).toNat) ((t4.at b4 (mem_TR (A := [_, _]) (fun _ h_ => b0.1 _ (a3.1 _ h_))))) (I5.mono (fun _ h_ => b0.1 _ (a3.1 _ h_))) (fz42 w) (by decide) (by omega)
   obtain ⟨I9, J0, J1, l5, U2⟩ := inv42 I8
   replace l5 : I6 = (cu ((gx l0 (a0.toNat)).1)) ++ (cl I9 J0 J1) := l5
   subst l5
   refine WL.v (Runs.indexAddr Tryd.underlying40 cells42 (by decide) rfl t5 rfl I3 (by rw [show n0 = l0.length from hb0.1]; exact I4) (o := (a0.toNat) * 2) (by first | rfl | omega)) ?_
   refine WL.v (Runs.fieldAddrB (off := 0) fld42_0 rfl rfl rfl) ?_
   refine WL.v (Runs.load nagg37 rfl (Src.cellAt (j := 0) (Src.cut ((t4.at b4 (mem_TR (A := [_, _]) (fun _ h_ => b0.1 _ (a3.1 _ h_))))) t5 I7) rfl)) ?_
   refine WL.mv rfl ?_
   refine WL.v (Runs.build_seg (ps := [(0, 1), (1, 1)]) (cs := ((cu ((gx l0 (a0.toNat)).1)) ++ (cl (sp a9) 160 160))) plc42 zero42 rfl (.cons (ms := ((cu ((gx l0 (a0.toNat)).1)))) rfl rfl rfl (.one rfl rfl)) rfl rfl) ?_
   have hb_302c := b4.cap (i := 0) rfl
   obtain ⟨d1, t6, J2, l6⟩ := St.freeze (A := []) (B := [_]) (T := d8) (R := R) b4
   have J3 : HB w d1 (sp a9) 160 160 (iv .u8 b7) b7.length := ⟨f8, hb_302c, Hd.of_sl J2⟩
   replace l6 : St w r7 (.sl a4 a5 a2 a6 42 2 :: (d1 ++ R)) := l6
   obtain ⟨U3, U4, J4, J5, J6, J7⟩ := slr42_1
   refine WL.buildSlSg (sz := 2) (cs := ((cu ((gx l0 (a0.toNat)).1)) ++ (cl (sp a9) 160 160))) l6 Tryd.underlying40 J4 J5 J6 (by decide) (by decide) J7 rfl (.one rfl rfl) rfl rfl ?_
   intro l7 t7 l8
   replace l8 : St w t7 (.cells l7 ((cu ((gx l0 (a0.toNat)).1)) ++ (cl (sp a9) 160 160)) 42 :: .sl a4 a5 a2 a6 42 2 :: (d1 ++ R)) := l8
   have g0 := St.rows_sl (i := 0) (m := 1) (size := 2) l8 rfl rfl (by decide)
   obtain ⟨e6, t8⟩ : ∃ x_ : Cs, x_ = (cu ((gx l0 (a0.toNat)).1)) ++ (cl (sp a9) 160 160) := ⟨_, rfl⟩
   have l9 : HRs d1 (f42 w) e6 ([((gx l0 (a0.toNat)).1, b7)] : List R42) := by rw [t8]; exact (HRs.one (.cons rfl (.cons ⟨_, _, _, rfl, J3⟩ .nil)))
   replace g0 : St w t7 (.sl (sp l7) 1 1 e6 42 2 :: .sl a4 a5 a2 a6 42 2 :: (d1 ++ R)) := by rw [t8]; exact g0
   obtain ⟨m0, t9, H⟩ := H
   obtain ⟨J8, H⟩ := H
   obtain ⟨m1, m2⟩ : ∃ n_ : Nat, n_ = m0.length := ⟨_, rfl⟩
   refine WL.appendR (i := 1) (N := m1) (news := e6) Wanted.none g0 rfl Tryd.underlying40 elemS42 rfl rfl (g0.src_sl (k := 0) rfl) (by have h1_ := (l9).length (fz42 w); have h2_ : 1 = ([((gx l0 (a0.toNat)).1, b7)] : List R42).length := rfl; rw [h1_, h2_]) (HLs.one l9) (by decide) (by have h1_ : a2 = c4.length := d4; have h2_ : 1 = ([((gx l0 (a0.toNat)).1, b7)] : List R42).length := rfl; rw [m2, t9, List.length_append]; omega) (by rw [m2]; exact J8) ?_
   intro u0 u1 J9 e7
   obtain ⟨m3, u2⟩ : ∃ x_ : Cs, x_ = a6 ++ e6 := ⟨_, rfl⟩
   have K0 : HRs d1 (f42 w) m3 m0 := by rw [u2, t9]; exact HRs.append (d5.mono (fun _ h_ => t6.1 _ (b0.1 _ h_))) l9
   replace e7 : St w J9 (.sl (sp l7) 1 1 e6 42 2 :: .sl u0 u1 m1 m3 42 2 :: (d1 ++ R)) := by rw [u2]; exact e7
   refine WL.as rfl (WL.nil (QW.blk_n (QW.then_n (CW.region (WL.mv rfl ?_)))))
   refine WL.v (Runs.add rfl rfl rfl) ?_
   refine WL.as rfl (WL.nil ?_)
   have e7' := (St.pickT (L := [_, _]) e7 [1] (by decide))
   exact QW.at _ (by repeat' constructor) ⟨d1, u0, u1, m1, m3, m0, IntKind.i64.wrap (a0 + 1), rfl, H, ((a3.trans b0).trans t6), m2, K0, e7'⟩
  have d6 : a1 = false := (Bool.eq_false_iff.mpr g8)
  refine WL.off ?_ ?_; exact Wg 17 d6
  refine WL.off ?_ ?_; exact Wg 17 d6
  refine WL.v (Runs.pick_f (evb rfl d6) rfl) ?_
  refine wn ?_
  refine CW.cf rfl rfl ?_
  refine CW.skip (QW.then_n (cr (WL.mv rfl ?_)))
  refine WL.make f2 Tryd.underlying25 elem5 rfl rfl (by decide) (by decide) (by decide) (N := 160) rfl ?_
  intro b1 K1 g1
  replace g1 : St w K1 (.sl (sp b1) 160 160 (iv .u8 (List.replicate 160 (0 : Int))) 5 1 :: .sl a4 a5 a2 a6 42 2 :: (b9 ++ R)) := by rw [iv_replicate] at g1; exact g1
  have K2 : 160 = (List.replicate 160 (0 : Int)).length := by simp
  refine WL.as rfl (wn (CW.seq (cr (WL.as rfl (wn (CW.block ?_))))))
  obtain ⟨K3, H⟩ := H
  refine CW.sub [(0, .slice A0 n0 c0), (1, .bool a1), (4, .slice none 0 0), (5, .slice a4 a2 a5), (6, .int .i64 a0), (10, .int .i64 a0), (11, .slice A0 n0 c0), (12, .int .i64 (l0.length : Int)), (13, .bool (decide (a0 < (l0.length : Int)))), (7, .int .i64 160), (16, .bool a1), (17, .bool a1), (20, .bool false), (21, .int .i64 160), (22, .slice (sp b1) 160 160), (8, .slice (sp b1) 160 160), (9, .int .i64 0)] (by repeat' constructor) ?_
  refine CW.loop (fun kL4 l_ w_ => ∃ (d9 : Pool) (b8 : List Int) (c3 : Int), l_ = [(0, .slice A0 n0 c0), (1, .bool a1), (4, .slice none 0 0), (5, .slice a4 a2 a5), (6, .int .i64 a0), (10, .int .i64 a0), (11, .slice A0 n0 c0), (12, .int .i64 (l0.length : Int)), (13, .bool (decide (a0 < (l0.length : Int)))), (7, .int .i64 160), (16, .bool a1), (17, .bool a1), (20, .bool false), (21, .int .i64 160), (22, .slice (sp b1) 160 160), (8, .slice (sp b1) 160 160), (9, .int .i64 c3)] ∧ reliquarylaw13_images.L4 l0 c4 a0 (reliquarylaw13_images.L1 l0 a1 lr0 kL1) kL4 b8 c3 ∧ (Pl b9 d9) ∧ (160 = b8.length) ∧ St w w_ (.sl (sp b1) 160 160 (iv .u8 b8) 5 1 :: .sl a4 a5 a2 a6 42 2 :: (d9 ++ R))) (k := K3) ⟨b9, List.replicate 160 (0 : Int), 0, rfl, H, Pl.refl, K2, g1⟩ (fun _ _ h => by obtain ⟨_, _, _, _, h, _⟩ := h; exact h.elim) ?_
  rintro kL4 U5 u3 ⟨d9, b8, c3, rfl, H, b2, g2, b5⟩
  refine CW.seq (cr (WL.mv rfl (WL.mv rfl (WL.mv rfl ?_))))
  obtain ⟨⟨K4, K5⟩, H⟩ := H
  obtain ⟨U6, u4, K6⟩ := hb0.2.2
  obtain ⟨U7, u5, K7, K8, K9⟩ := el_get (i := (a0).toNat) ((u4.at b5 (mem_TR (A := [_, _]) (fun _ h_ => b2.1 _ (a3.1 _ h_))))) (K6.mono (fun _ h_ => b2.1 _ (a3.1 _ h_))) (fz42 w) (by decide) (by omega)
  obtain ⟨L0, L5, L6, m4, L7⟩ := inv42 K9
  replace m4 : K7 = (cu ((gx l0 (a0.toNat)).1)) ++ (cl L0 L5 L6) := m4
  subst m4
  refine WL.v (Runs.indexAddr Tryd.underlying40 cells42 (by decide) rfl u5 rfl K4 (by rw [show n0 = l0.length from hb0.1]; exact K5) (o := (a0.toNat) * 2) (by first | rfl | omega)) ?_
  refine WL.v (Runs.fieldAddrB (off := 1) fld42_1 rfl rfl rfl) ?_
  refine WL.v (Runs.load nagg25 rfl (Src.cellAt (j := 1) (Src.cut ((u4.at b5 (mem_TR (A := [_, _]) (fun _ h_ => b2.1 _ (a3.1 _ h_))))) u5 K8) rfl)) ?_
  refine WL.v (Runs.len_sl Tryd.underlying25 rfl (by rw [L7.1])) ?_
  refine WL.v (Runs.lss rfl rfl rfl) ?_
  refine WL.mv rfl ?_
  rcases H with ⟨m5, H⟩ | ⟨m5, H⟩
  ·have c7 : (decide (c3 < (((gx l0 (a0.toNat)).2).length : Int))) = true := (decide_eq_true m5)
   refine WL.on ?_ ?_; exact Wg 31 c7
   refine WL.mv rfl ?_
   refine WL.on ?_ ?_; exact Wg 31 c7
   refine WL.mv rfl ?_
   refine WL.on ?_ ?_; exact Wg 31 c7
   refine WL.v (Runs.lss rfl rfl rfl) ?_
   refine WL.v (Runs.pick_t (evb rfl c7) rfl) ?_
   refine wn ?_
   rcases H with ⟨m6, H⟩ | ⟨m6, H⟩
   ·have m7 : (decide (c3 < 160)) = true := (decide_eq_true m6)
    refine CW.ct rfl m7 ?_
    refine CW.skip (QW.then_n (CW.seq (CW.block (CW.region (WL.mv rfl (WL.mv rfl (WL.mv rfl (WL.mv rfl ?_))))))))
    obtain ⟨⟨L8, L9⟩, H⟩ := H
    obtain ⟨U8, u6, M0⟩ := hb0.2.2
    obtain ⟨U9, u7, M1, M2, M3⟩ := el_get (i := (a0).toNat) ((u6.at b5 (mem_TR (A := [_, _]) (fun _ h_ => b2.1 _ (a3.1 _ h_))))) (M0.mono (fun _ h_ => b2.1 _ (a3.1 _ h_))) (fz42 w) (by decide) (by omega)
    obtain ⟨M4, M5, M6, m8, m9⟩ := inv42 M3
    replace m8 : M1 = (cu ((gx l0 (a0.toNat)).1)) ++ (cl M4 M5 M6) := m8
    subst m8
    refine WL.v (Runs.indexAddr Tryd.underlying40 cells42 (by decide) rfl u7 rfl L8 (by rw [show n0 = l0.length from hb0.1]; exact L9) (o := (a0.toNat) * 2) (by first | rfl | omega)) ?_
    refine WL.v (Runs.fieldAddrB (off := 1) fld42_1 rfl rfl rfl) ?_
    refine WL.v (Runs.load nagg25 rfl (Src.cellAt (j := 1) (Src.cut ((u6.at b5 (mem_TR (A := [_, _]) (fun _ h_ => b2.1 _ (a3.1 _ h_))))) u7 M2) rfl)) ?_
    refine WL.mv rfl ?_
    obtain ⟨⟨M7, M8⟩, H⟩ := H
    obtain ⟨V0, u9⟩ := ((m9.2.2.at b5 (mem_T (A := [_, _]) (fun _ h_ => h_)))).addr_iv (c3.toNat) (by omega)
    refine WL.v (Runs.indexAddr Tryd.underlying25 cells5 (by decide) rfl u9 rfl M7 (by rw [m9.1]; exact M8) (o := (c3).toNat) (by first | rfl | omega)) ?_
    refine WL.v (Runs.load nagg5 rfl (((m9.2.2.at b5 (mem_T (A := [_, _]) (fun _ h_ => h_)))).cell_iv u9 (by omega))) ?_
    obtain ⟨⟨M9, N0⟩, H⟩ := H
    obtain ⟨V1, v0⟩ := (b5.src_sl (k := 0) rfl).addr_iv (c3.toNat) (by omega)
    refine WL.v (Runs.indexAddr Tryd.underlying25 cells5 (by decide) rfl v0 rfl M9 (by rw [g2]; exact N0) (o := (c3).toNat) (by first | rfl | omega)) ?_
    obtain ⟨n1, v1, H⟩ := H
    refine WL.store_sl (i := 0) b5 rfl cells5 rfl v0 (by rw [iv_length]; omega) rfl rfl ?_
    intro N1 n2
    have N2 : 160 = n1.length := by rw [v1, List.length_set]; exact g2
    have n2' : St w N1 (.sl (sp b1) 160 160 (iv .u8 n1) 5 1 :: .sl a4 a5 a2 a6 42 2 :: (d9 ++ R)) := by rw [v1, ← iv_set .u8 b8 (c3.toNat) (gn ((gx l0 (a0.toNat)).2) (c3.toNat))]; exact n2
    refine WL.nil (QW.blk_n (QW.then_n (CW.region (WL.mv rfl ?_))))
    refine WL.v (Runs.add rfl rfl rfl) ?_
    refine WL.as rfl (WL.nil ?_)
    exact QW.at _ (by repeat' constructor) ⟨d9, n1, IntKind.i64.wrap (c3 + 1), rfl, H, b2, N2, n2'⟩
   have m7 : (decide (c3 < 160)) = false := (decide_eq_false m6)
   refine CW.cf rfl m7 ?_
   refine CW.exit (QW.then_x (QW.then_x (QW.blk_x (QW.then_n (CW.region (WL.mv rfl (WL.mv rfl (WL.mv rfl ?_))))))))
   obtain ⟨⟨N3, N4⟩, H⟩ := H
   obtain ⟨V2, v2, N5⟩ := hb0.2.2
   obtain ⟨V3, v3, N6, N7, N8⟩ := el_get (i := (a0).toNat) ((v2.at b5 (mem_TR (A := [_, _]) (fun _ h_ => b2.1 _ (a3.1 _ h_))))) (N5.mono (fun _ h_ => b2.1 _ (a3.1 _ h_))) (fz42 w) (by decide) (by omega)
   obtain ⟨N9, O0, O1, n3, V4⟩ := inv42 N8
   replace n3 : N6 = (cu ((gx l0 (a0.toNat)).1)) ++ (cl N9 O0 O1) := n3
   subst n3
   refine WL.v (Runs.indexAddr Tryd.underlying40 cells42 (by decide) rfl v3 rfl N3 (by rw [show n0 = l0.length from hb0.1]; exact N4) (o := (a0.toNat) * 2) (by first | rfl | omega)) ?_
   refine WL.v (Runs.fieldAddrB (off := 0) fld42_0 rfl rfl rfl) ?_
   refine WL.v (Runs.load nagg37 rfl (Src.cellAt (j := 0) (Src.cut ((v2.at b5 (mem_TR (A := [_, _]) (fun _ h_ => b2.1 _ (a3.1 _ h_))))) v3 N7) rfl)) ?_
   refine WL.mv rfl ?_
   refine WL.v (Runs.build_seg (ps := [(0, 1), (1, 1)]) (cs := ((cu ((gx l0 (a0.toNat)).1)) ++ (cl (sp b1) 160 160))) plc42 zero42 rfl (.cons (ms := ((cu ((gx l0 (a0.toNat)).1)))) rfl rfl rfl (.one rfl rfl)) rfl rfl) ?_
   have hb_409c := b5.cap (i := 0) rfl
   obtain ⟨d2, v4, O2, n4⟩ := St.freeze (A := []) (B := [_]) (T := d9) (R := R) b5
   have O3 : HB w d2 (sp b1) 160 160 (iv .u8 b8) b8.length := ⟨g2, hb_409c, Hd.of_sl O2⟩
   replace n4 : St w u3 (.sl a4 a5 a2 a6 42 2 :: (d2 ++ R)) := n4
   obtain ⟨V5, V6, O4, O5, O6, O7⟩ := slr42_1
   refine WL.buildSlSg (sz := 2) (cs := ((cu ((gx l0 (a0.toNat)).1)) ++ (cl (sp b1) 160 160))) n4 Tryd.underlying40 O4 O5 O6 (by decide) (by decide) O7 rfl (.one rfl rfl) rfl rfl ?_
   intro n5 v5 n6
   replace n6 : St w v5 (.cells n5 ((cu ((gx l0 (a0.toNat)).1)) ++ (cl (sp b1) 160 160)) 42 :: .sl a4 a5 a2 a6 42 2 :: (d2 ++ R)) := n6
   have g3 := St.rows_sl (i := 0) (m := 1) (size := 2) n6 rfl rfl (by decide)
   obtain ⟨e8, v6⟩ : ∃ x_ : Cs, x_ = (cu ((gx l0 (a0.toNat)).1)) ++ (cl (sp b1) 160 160) := ⟨_, rfl⟩
   have n7 : HRs d2 (f42 w) e8 ([((gx l0 (a0.toNat)).1, b8)] : List R42) := by rw [v6]; exact (HRs.one (.cons rfl (.cons ⟨_, _, _, rfl, O3⟩ .nil)))
   replace g3 : St w v5 (.sl (sp n5) 1 1 e8 42 2 :: .sl a4 a5 a2 a6 42 2 :: (d2 ++ R)) := by rw [v6]; exact g3
   obtain ⟨n8, v7, H⟩ := H
   obtain ⟨O8, H⟩ := H
   obtain ⟨n9, o0⟩ : ∃ n_ : Nat, n_ = n8.length := ⟨_, rfl⟩
   refine WL.appendR (i := 1) (N := n9) (news := e8) Wanted.none g3 rfl Tryd.underlying40 elemS42 rfl rfl (g3.src_sl (k := 0) rfl) (by have h1_ := (n7).length (fz42 w); have h2_ : 1 = ([((gx l0 (a0.toNat)).1, b8)] : List R42).length := rfl; rw [h1_, h2_]) (HLs.one n7) (by decide) (by have h1_ : a2 = c4.length := d4; have h2_ : 1 = ([((gx l0 (a0.toNat)).1, b8)] : List R42).length := rfl; rw [o0, v7, List.length_append]; omega) (by rw [o0]; exact O8) ?_
   intro v8 v9 O9 e9
   obtain ⟨o1, w0⟩ : ∃ x_ : Cs, x_ = a6 ++ e8 := ⟨_, rfl⟩
   have P0 : HRs d2 (f42 w) o1 n8 := by rw [w0, v7]; exact HRs.append (d5.mono (fun _ h_ => v4.1 _ (b2.1 _ h_))) n7
   replace e9 : St w O9 (.sl (sp n5) 1 1 e8 42 2 :: .sl v8 v9 n9 o1 42 2 :: (d2 ++ R)) := by rw [w0]; exact e9
   refine WL.as rfl (WL.nil (QW.blk_n (QW.then_n (CW.region (WL.mv rfl ?_)))))
   refine WL.v (Runs.add rfl rfl rfl) ?_
   refine WL.as rfl (WL.nil ?_)
   have e9' := (St.pickT (L := [_, _]) e9 [1] (by decide))
   exact QW.at _ (by repeat' constructor) ⟨d2, v8, v9, n9, o1, n8, IntKind.i64.wrap (a0 + 1), rfl, H, ((a3.trans b2).trans v4), o0, P0, e9'⟩
  have c7 : (decide (c3 < (((gx l0 (a0.toNat)).2).length : Int))) = false := (decide_eq_false m5)
  refine WL.off ?_ ?_; exact Wg 31 c7
  refine WL.off ?_ ?_; exact Wg 31 c7
  refine WL.off ?_ ?_; exact Wg 31 c7
  refine WL.v (Runs.pick_f (evb rfl c7) rfl) ?_
  refine wn ?_
  refine CW.cf rfl rfl ?_
  refine CW.exit (QW.then_x (QW.then_x (QW.blk_x (QW.then_n (CW.region (WL.mv rfl (WL.mv rfl (WL.mv rfl ?_))))))))
  obtain ⟨⟨P1, P2⟩, H⟩ := H
  obtain ⟨V7, w2, P3⟩ := hb0.2.2
  obtain ⟨V8, w3, P4, P5, P6⟩ := el_get (i := (a0).toNat) ((w2.at b5 (mem_TR (A := [_, _]) (fun _ h_ => b2.1 _ (a3.1 _ h_))))) (P3.mono (fun _ h_ => b2.1 _ (a3.1 _ h_))) (fz42 w) (by decide) (by omega)
  obtain ⟨P7, P8, P9, o2, V9⟩ := inv42 P6
  replace o2 : P4 = (cu ((gx l0 (a0.toNat)).1)) ++ (cl P7 P8 P9) := o2
  subst o2
  refine WL.v (Runs.indexAddr Tryd.underlying40 cells42 (by decide) rfl w3 rfl P1 (by rw [show n0 = l0.length from hb0.1]; exact P2) (o := (a0.toNat) * 2) (by first | rfl | omega)) ?_
  refine WL.v (Runs.fieldAddrB (off := 0) fld42_0 rfl rfl rfl) ?_
  refine WL.v (Runs.load nagg37 rfl (Src.cellAt (j := 0) (Src.cut ((w2.at b5 (mem_TR (A := [_, _]) (fun _ h_ => b2.1 _ (a3.1 _ h_))))) w3 P5) rfl)) ?_
  refine WL.mv rfl ?_
  refine WL.v (Runs.build_seg (ps := [(0, 1), (1, 1)]) (cs := ((cu ((gx l0 (a0.toNat)).1)) ++ (cl (sp b1) 160 160))) plc42 zero42 rfl (.cons (ms := ((cu ((gx l0 (a0.toNat)).1)))) rfl rfl rfl (.one rfl rfl)) rfl rfl) ?_
  have hb_455c := b5.cap (i := 0) rfl
  obtain ⟨d3, w4, Q0, o3⟩ := St.freeze (A := []) (B := [_]) (T := d9) (R := R) b5
  have Q1 : HB w d3 (sp b1) 160 160 (iv .u8 b8) b8.length := ⟨g2, hb_455c, Hd.of_sl Q0⟩
  replace o3 : St w u3 (.sl a4 a5 a2 a6 42 2 :: (d3 ++ R)) := o3
  obtain ⟨W0, W1, Q2, Q3, Q4, Q5⟩ := slr42_1
  refine WL.buildSlSg (sz := 2) (cs := ((cu ((gx l0 (a0.toNat)).1)) ++ (cl (sp b1) 160 160))) o3 Tryd.underlying40 Q2 Q3 Q4 (by decide) (by decide) Q5 rfl (.one rfl rfl) rfl rfl ?_
  intro o4 w5 o5
  replace o5 : St w w5 (.cells o4 ((cu ((gx l0 (a0.toNat)).1)) ++ (cl (sp b1) 160 160)) 42 :: .sl a4 a5 a2 a6 42 2 :: (d3 ++ R)) := o5
  have g4 := St.rows_sl (i := 0) (m := 1) (size := 2) o5 rfl rfl (by decide)
  obtain ⟨f0, w6⟩ : ∃ x_ : Cs, x_ = (cu ((gx l0 (a0.toNat)).1)) ++ (cl (sp b1) 160 160) := ⟨_, rfl⟩
  have o6 : HRs d3 (f42 w) f0 ([((gx l0 (a0.toNat)).1, b8)] : List R42) := by rw [w6]; exact (HRs.one (.cons rfl (.cons ⟨_, _, _, rfl, Q1⟩ .nil)))
  replace g4 : St w w5 (.sl (sp o4) 1 1 f0 42 2 :: .sl a4 a5 a2 a6 42 2 :: (d3 ++ R)) := by rw [w6]; exact g4
  obtain ⟨o7, w7, H⟩ := H
  obtain ⟨Q6, H⟩ := H
  obtain ⟨o8, o9⟩ : ∃ n_ : Nat, n_ = o7.length := ⟨_, rfl⟩
  refine WL.appendR (i := 1) (N := o8) (news := f0) Wanted.none g4 rfl Tryd.underlying40 elemS42 rfl rfl (g4.src_sl (k := 0) rfl) (by have h1_ := (o6).length (fz42 w); have h2_ : 1 = ([((gx l0 (a0.toNat)).1, b8)] : List R42).length := rfl; rw [h1_, h2_]) (HLs.one o6) (by decide) (by have h1_ : a2 = c4.length := d4; have h2_ : 1 = ([((gx l0 (a0.toNat)).1, b8)] : List R42).length := rfl; rw [o9, w7, List.length_append]; omega) (by rw [o9]; exact Q6) ?_
  intro w8 w9 Q7 f1
  obtain ⟨p0, x0⟩ : ∃ x_ : Cs, x_ = a6 ++ f0 := ⟨_, rfl⟩
  have Q8 : HRs d3 (f42 w) p0 o7 := by rw [x0, w7]; exact HRs.append (d5.mono (fun _ h_ => w4.1 _ (b2.1 _ h_))) o6
  replace f1 : St w Q7 (.sl (sp o4) 1 1 f0 42 2 :: .sl w8 w9 o8 p0 42 2 :: (d3 ++ R)) := by rw [x0]; exact f1
  refine WL.as rfl (WL.nil (QW.blk_n (QW.then_n (CW.region (WL.mv rfl ?_)))))
  refine WL.v (Runs.add rfl rfl rfl) ?_
  refine WL.as rfl (WL.nil ?_)
  have f1' := (St.pickT (L := [_, _]) f1 [1] (by decide))
  exact QW.at _ (by repeat' constructor) ⟨d3, w8, w9, o8, p0, o7, IntKind.i64.wrap (a0 + 1), rfl, H, ((a3.trans b2).trans w4), o9, Q8, f1'⟩
 have g7 : (decide (a0 < (l0.length : Int))) = false := (decide_eq_false g6)
 refine CW.cf rfl g7 ?_
 refine CW.exit (QW.then_x (QW.then_x (QW.blk_x (QW.then_n ?_))))
 refine CW.sub [(4, .slice none 0 0), (5, .slice a4 a2 a5)] ⟨rfl, rfl, trivial⟩ ?_
 refine cr (WL.mv rfl (WL.as rfl (wn (CW.ret ?_))))
 obtain rfl := H
 exact QW.ret1 rfl rfl ⟨b9, a4, a2, a5, a6, a3, d4, d5, rfl, (St.pickT (L := [_]) f2 [0] (by decide))⟩
/-! ### reliquarylaw13_modelOf: function 22 -/
def reliquarylaw13_modelOf.L1 (l0 : List R42) (lr0 : List R116) : Nat → (List R116) → Int → Prop
 | 0, _, _ => False
 | kL1 + 1, a2, a0 => ((a0 < (l0.length : Int) ∧ ((0 ≤ a0 ∧ a0 < (l0.length : Int)) ∧ ((0 ≤ a0 ∧ a0 < (l0.length : Int)) ∧ (∃ a1 : List R116, a1 = a2 ++ ([((gx l0 (a0.toNat)).1, strOfNums ((gx l0 (a0.toNat)).2))] : List R116) ∧ (a1.length ≤ 1099511627776 ∧ reliquarylaw13_modelOf.L1 l0 lr0 kL1 a1 (IntKind.i64.wrap (a0 + 1))))))) ∨ (¬ (a0 < (l0.length : Int)) ∧ lr0 = a2))
def reliquarylaw13_modelOf.rel (l0 : List R42) (lr0 : List R116) : Prop := (∃ k_ : Nat, reliquarylaw13_modelOf.L1 l0 lr0 k_ ([] : List R116) 0)
set_option maxHeartbeats 1000000 in
theorem reliquarylaw13_modelOf.calls (w w1 : World) (T R : Pool) (l0 : List R42) (A0 : Option Addr) (n0 : Nat) (c0 : Nat) (st0 : St w w1 ((T ++ R))) (hb0 : HS w (T ++ R) T A0 n0 c0 (f42 w) l0) (lr0 : List R116) (H : reliquarylaw13_modelOf.rel l0 lr0) :
  Calls Tryd.prog 22 #[.slice A0 n0 c0] w1 fun e w' => ∃ T' Ar0 nr0 cr0 xr0, Pl T T' ∧ nr0 = lr0.length ∧ HRs T' (f116 w) xr0 lr0 ∧ e = .returned (.slice Ar0 nr0 cr0) ∧ St w w' (.sl Ar0 cr0 nr0 xr0 116 2 :: (T' ++ R)) := by
 refine CW.enter Tryd.func22 rfl (n := 27) rfl [.slice A0 n0 c0] (Nat.le_of_ble_eq_true rfl) ?_
 refine CW.sub [(0, .slice A0 n0 c0)] ⟨rfl, trivial⟩ ?_
 refine cr (WL.as rfl (WL.nx (WL.as rfl (wn (CW.seq (cr (WL.as rfl (wn (CW.block ?_)))))))))
 have b2 := st0.nil_sl 116 2
 have b2 : St w w1 (.sl none 0 0 ([] : Cs) 116 2 :: (T ++ R)) := b2
 obtain ⟨d9, H⟩ := H
 refine CW.sub [(0, .slice A0 n0 c0), (2, .slice none 0 0), (3, .slice none 0 0), (4, .int .i64 0)] ⟨rfl, rfl, rfl, rfl, trivial⟩ ?_
 refine CW.loop (fun kL1 l_ w_ => ∃ (a2 : Pool) (a4 : Option Addr) (a5 : Nat) (a3 : Nat) (a6 : Cs) (a8 : List R116) (a0 : Int), l_ = [(0, .slice A0 n0 c0), (2, .slice none 0 0), (3, .slice a4 a3 a5), (4, .int .i64 a0)] ∧ reliquarylaw13_modelOf.L1 l0 lr0 kL1 a8 a0 ∧ (Pl T a2) ∧ (a3 = a8.length) ∧ (HRs a2 (f116 w) a6 a8) ∧ St w w_ (.sl a4 a5 a3 a6 116 2 :: (a2 ++ R))) (k := d9) ⟨T, none, 0, 0, ([] : Cs), ([] : List R116), 0, rfl, H, Pl.refl, rfl, (HRs.nil : HRs T (f116 w) [] []), b2⟩ (fun _ _ h => by obtain ⟨_, _, _, _, _, _, _, _, h, _⟩ := h; exact h.elim) ?_
 rintro kL1 g5 g6 ⟨a2, a4, a5, a3, a6, a8, a0, rfl, H, a7, c5, c6, c7⟩
 refine CW.seq (cr (WL.mv rfl (WL.mv rfl ?_)))
 refine WL.v (Runs.len_sl Tryd.underlying40 rfl (by rw [hb0.1])) ?_
 refine WL.v (Runs.lss rfl rfl rfl) ?_
 refine wn ?_
 rcases H with ⟨b3, H⟩ | ⟨b3, H⟩
 ·have b4 : (decide (a0 < (l0.length : Int))) = true := (decide_eq_true b3)
  refine CW.ct rfl b4 ?_
  refine CW.skip (QW.then_n (CW.seq (CW.block ?_)))
  refine CW.region_awh (C := fun w_ => St w w_ (.sl a4 a5 a3 a6 116 2 :: (a2 ++ R))) 14 wide (by kernel_rfl) c7 (fun g7 a1 => ?_)
  refine AWH.tk 0 rfl a1 (fun wq sq => (Runs.move rfl)) ?_
  refine AWH.tk 1 rfl a1 (fun wq sq => (Runs.move rfl)) ?_
  refine AWH.tk 2 rfl a1 (fun wq sq => (Runs.move rfl)) ?_
  obtain ⟨⟨e0, e1⟩, H⟩ := H
  obtain ⟨g8, c8, e2⟩ := hb0.2.2
  obtain ⟨g9, c9, e3, e4, e5⟩ := el_get (i := (a0).toNat) ((c8.at a1 (mem_TR (A := [_]) (fun _ h_ => a7.1 _ h_)))) (e2.mono (fun _ h_ => a7.1 _ h_)) (fz42 w) (by decide) (by omega)
  obtain ⟨e6, e7, e8, b5, h0⟩ := inv42 e5
  replace b5 : e3 = (cu ((gx l0 (a0.toNat)).1)) ++ (cl e6 e7 e8) := b5
  subst b5
  refine AWH.tk 3 rfl a1 (fun wq sq => (Runs.indexAddr Tryd.underlying40 cells42 (by decide) rfl c9 rfl e0 (by rw [show n0 = l0.length from hb0.1]; exact e1) (o := (a0.toNat) * 2) (by first | rfl | omega))) ?_
  refine AWH.tk 4 rfl a1 (fun wq sq => (Runs.fieldAddrB (off := 0) fld42_0 rfl rfl rfl)) ?_
  refine AWH.tk 5 rfl a1 (fun wq sq => (Runs.load nagg37 rfl (Src.cellAt (j := 0) (Src.cut ((c8.at sq (mem_TR (A := [_]) (fun _ h_ => a7.1 _ h_)))) c9 e4) rfl))) ?_
  refine AWH.tk 6 rfl a1 (fun wq sq => (Runs.move rfl)) ?_
  refine AWH.tk 7 rfl a1 (fun wq sq => (Runs.move rfl)) ?_
  obtain ⟨⟨e9, f0⟩, H⟩ := H
  obtain ⟨h1, d0, f1⟩ := hb0.2.2
  obtain ⟨h2, d1, f2, f3, f4⟩ := el_get (i := (a0).toNat) ((d0.at a1 (mem_TR (A := [_]) (fun _ h_ => a7.1 _ h_)))) (f1.mono (fun _ h_ => a7.1 _ h_)) (fz42 w) (by decide) (by omega)
  obtain ⟨f5, f6, f7, b6, d2⟩ := inv42 f4
  replace b6 : f2 = (cu ((gx l0 (a0.toNat)).1)) ++ (cl f5 f6 f7) := b6
  subst b6
  refine AWH.tk 8 rfl a1 (fun wq sq => (Runs.indexAddr Tryd.underlying40 cells42 (by decide) rfl d1 rfl e9 (by rw [show n0 = l0.length from hb0.1]; exact f0) (o := (a0.toNat) * 2) (by first | rfl | omega))) ?_
  refine AWH.tk 9 rfl a1 (fun wq sq => (Runs.fieldAddrB (off := 1) fld42_1 rfl rfl rfl)) ?_
  refine AWH.tk 10 rfl a1 (fun wq sq => (Runs.load nagg25 rfl (Src.cellAt (j := 1) (Src.cut ((d0.at sq (mem_TR (A := [_]) (fun _ h_ => a7.1 _ h_)))) d1 f3) rfl))) ?_
  refine AWH.tk 11 rfl a1 (fun wq sq => (Runs.bytes_str Tryd.underlying25 Tryd.underlying5 Tryd.underlying9 rfl ((d2.2.2.at sq (mem_T (A := [_]) (fun _ h_ => h_)))) d2.1)) ?_
  refine AWH.tk 12 rfl a1 (fun wq sq => (Runs.build_seg (ps := [(0, 1), (1, 1)]) (cs := ((cu ((gx l0 (a0.toNat)).1)) ++ (ct (strOfNums ((gx l0 (a0.toNat)).2))))) plc116 zero116 rfl (.cons (ms := ((cu ((gx l0 (a0.toNat)).1)))) rfl rfl rfl (.one rfl rfl)) rfl rfl)) ?_
  refine AWH.step 13 rfl (by decide) (by kernel_rfl) (fun inv_ hs_ hk_ hc_ hn_ => ?_)
  obtain ⟨h3, h4, f8, f9, g0, g1⟩ := slr116_1
  refine WL.buildSlSg (sz := 2) (cs := ((cu ((gx l0 (a0.toNat)).1)) ++ (ct (strOfNums ((gx l0 (a0.toNat)).2))))) a1 Tryd.underlying68 f8 f9 g0 (by decide) (by decide) g1 rfl (.one rfl rfl) rfl rfl ?_
  intro b7 d3 b8
  replace b8 : St w d3 (.cells b7 ((cu ((gx l0 (a0.toNat)).1)) ++ (ct (strOfNums ((gx l0 (a0.toNat)).2)))) 116 :: .sl a4 a5 a3 a6 116 2 :: (a2 ++ R)) := b8
  have a9 := St.rows_sl (i := 0) (m := 1) (size := 2) b8 rfl rfl (by decide)
  obtain ⟨b0, d4⟩ : ∃ x_ : Cs, x_ = (cu ((gx l0 (a0.toNat)).1)) ++ (ct (strOfNums ((gx l0 (a0.toNat)).2))) := ⟨_, rfl⟩
  have b9 : HRs a2 (f116 w) b0 ([((gx l0 (a0.toNat)).1, strOfNums ((gx l0 (a0.toNat)).2))] : List R116) := by rw [d4]; exact (HRs.one (.cons rfl (.cons rfl .nil)))
  replace a9 : St w d3 (.sl (sp b7) 1 1 b0 116 2 :: .sl a4 a5 a3 a6 116 2 :: (a2 ++ R)) := by rw [d4]; exact a9
  refine WL.nil ?_
  refine AWH.back (St.subset a1 a9 (mc 1 rfl (mem_TR (A := [_, _]) (fun _ h_ => h_)))) inv_ hs_ hk_ hc_ hn_ ?_
  refine AWH.tail (by kernel_rfl) ?_
  refine AW.step 14 rfl (by kernel_rfl) ?_
  obtain ⟨c1, d5, H⟩ := H
  obtain ⟨g2, H⟩ := H
  obtain ⟨c2, c3⟩ : ∃ n_ : Nat, n_ = c1.length := ⟨_, rfl⟩
  refine WL.appendR (i := 1) (N := c2) (news := b0) Wanted.none a9 rfl Tryd.underlying68 elemS116 rfl rfl (a9.src_sl (k := 0) rfl) (by have h1_ := (b9).length (fz116 w); have h2_ : 1 = ([((gx l0 (a0.toNat)).1, strOfNums ((gx l0 (a0.toNat)).2))] : List R116).length := rfl; rw [h1_, h2_]) (HLs.one b9) (by decide) (by have h1_ : a3 = a8.length := c5; have h2_ : 1 = ([((gx l0 (a0.toNat)).1, strOfNums ((gx l0 (a0.toNat)).2))] : List R116).length := rfl; rw [c3, d5, List.length_append]; omega) (by rw [c3]; exact g2) ?_
  intro d6 d7 g3 b1
  obtain ⟨c4, d8⟩ : ∃ x_ : Cs, x_ = a6 ++ b0 := ⟨_, rfl⟩
  have g4 : HRs a2 (f116 w) c4 c1 := by rw [d8, d5]; exact HRs.append c6 b9
  replace b1 : St w g3 (.sl (sp b7) 1 1 b0 116 2 :: .sl d6 d7 c2 c4 116 2 :: (a2 ++ R)) := by rw [d8]; exact b1
  refine WL.nil ?_
  refine AW.back  ?_
  refine AW.tk 15 rfl (fun _ => (Runs.assign rfl)) ?_
  refine AW.done (by kernel_rfl) ?_
  refine QW.blk_n (QW.then_n (CW.region (WL.mv rfl ?_)))
  refine WL.v (Runs.add rfl rfl rfl) ?_
  refine WL.as rfl (WL.nil ?_)
  have b1' := (St.pickT (L := [_, _]) b1 [1] (by decide))
  exact QW.at _ (by repeat' constructor) ⟨a2, d6, d7, c2, c4, c1, IntKind.i64.wrap (a0 + 1), rfl, H, a7, c3, g4, b1'⟩
 have b4 : (decide (a0 < (l0.length : Int))) = false := (decide_eq_false b3)
 refine CW.cf rfl b4 ?_
 refine CW.exit (QW.then_x (QW.then_x (QW.blk_x (QW.then_n ?_))))
 refine CW.sub [(2, .slice none 0 0), (3, .slice a4 a3 a5)] ⟨rfl, rfl, trivial⟩ ?_
 refine cr (WL.mv rfl (WL.as rfl (wn (CW.ret ?_))))
 obtain rfl := H
 exact QW.ret1 rfl rfl ⟨a2, a4, a3, a5, a6, a7, c5, c6, rfl, (St.pickT (L := [_]) c7 [0] (by decide))⟩
/-! ### reliquaryref12_Of: function 43 -/
def reliquaryref12_Of.L1 (l0 : List R116) (lr0 : List R118) (ar1 : Int) : Nat → (List R118) → Int → Int → Prop
 | 0, _, _, _ => False
 | kL1 + 1, a2, a3, a0 => ((a0 < (l0.length : Int) ∧ ((0 ≤ a0 ∧ a0 < (l0.length : Int)) ∧ (((((gx l0 (a0.toNat)).2).size : Int) ≠ 160 ∧ lr0 = ([] : List R118) ∧ ar1 = 1) ∨ (¬ ((((gx l0 (a0.toNat)).2).size : Int) ≠ 160) ∧ ((0 ≤ a0 ∧ a0 < (l0.length : Int)) ∧ (∃ a1 : List R118, a1 = a2 ++ ([((gx l0 (a0.toNat)).1, (gx l0 (a0.toNat)).2, (IntKind.i64.wrap (a0 + 1)) == (l0.length : Int))] : List R118) ∧ (a1.length ≤ 1099511627776 ∧ reliquaryref12_Of.L1 l0 lr0 ar1 kL1 a1 a3 (IntKind.i64.wrap (a0 + 1))))))))) ∨ (¬ (a0 < (l0.length : Int)) ∧ lr0 = a2 ∧ ar1 = 0))
def reliquaryref12_Of.rel (l0 : List R116) (lr0 : List R118) (ar1 : Int) : Prop := (((l0.length : Int) = 0 ∧ lr0 = ([] : List R118) ∧ ar1 = 1) ∨ (¬ ((l0.length : Int) = 0) ∧ (∃ k_ : Nat, reliquaryref12_Of.L1 l0 lr0 ar1 k_ ([] : List R118) 0 0)))
set_option maxHeartbeats 1000000 in
theorem reliquaryref12_Of.calls (w w1 : World) (T R : Pool) (l0 : List R116) (A0 : Option Addr) (n0 : Nat) (c0 : Nat) (st0 : St w w1 ((T ++ R))) (hb0 : HS w (T ++ R) T A0 n0 c0 (f116 w) l0) (lr0 : List R118) (ar1 : Int) (H : reliquaryref12_Of.rel l0 lr0 ar1) :
  Calls Tryd.prog 43 #[.slice A0 n0 c0] w1 fun e w' => ∃ T' Ar0 nr0 cr0 xr0, Pl T T' ∧ nr0 = lr0.length ∧ HRs T' (f118 w) xr0 lr0 ∧ e = .returned (.tuple #[.slice Ar0 nr0 cr0, .int .i64 ar1]) ∧ St w w' (.sl Ar0 cr0 nr0 xr0 118 3 :: (T' ++ R)) := by
 refine CW.enter Tryd.func43 rfl (n := 36) rfl [.slice A0 n0 c0] (Nat.le_of_ble_eq_true rfl) ?_
 refine CW.sub [(0, .slice A0 n0 c0)] ⟨rfl, trivial⟩ ?_
 refine cr (WL.as rfl (WL.as rfl (wn (CW.seq (cr (WL.mv rfl ?_))))))
 refine WL.v (Runs.len_sl Tryd.underlying68 rfl (by rw [hb0.1])) ?_
 refine WL.v (Runs.eql rfl rfl rfl) ?_
 refine wn ?_
 rcases H with ⟨b3, H⟩ | ⟨b3, H⟩
 ·have b4 : ((l0.length : Int) == 0) = true := (beq_iff_eq.mpr b3)
  refine CW.ct rfl b4 ?_
  refine cr (WL.as rfl (WL.as rfl (wn (CW.ret (QW.then_r ?_)))))
  have b5 := st0.nil_sl 118 3
  have b5 : St w w1 (.sl none 0 0 ([] : Cs) 118 3 :: (T ++ R)) := b5
  obtain ⟨rfl, rfl⟩ := H
  exact QW.ret2 rfl rfl rfl ⟨T, none, 0, 0, ([] : Cs), Pl.refl, rfl, (HRs.nil : HRs T (f118 w) [] []), rfl, (St.pickT (L := [_]) b5 [0] (by decide))⟩
 have b4 : ((l0.length : Int) == 0) = false := (beq_eq_false_iff_ne.mpr b3)
 refine CW.cf rfl b4 ?_
 refine CW.skip (QW.then_n (cr (WL.as rfl (wn (CW.seq (cr (WL.as rfl (wn (CW.block ?_)))))))))
 have b6 := st0.nil_sl 118 3
 have b6 : St w w1 (.sl none 0 0 ([] : Cs) 118 3 :: (T ++ R)) := b6
 have b7 := b6.nil_sl 118 3
 have b7 : St w w1 (.sl none 0 0 ([] : Cs) 118 3 :: .sl none 0 0 ([] : Cs) 118 3 :: (T ++ R)) := b7
 obtain ⟨e5, H⟩ := H
 refine CW.sub [(0, .slice A0 n0 c0), (2, .slice none 0 0), (3, .int .i64 0), (4, .slice none 0 0), (5, .int .i64 0)] ⟨rfl, rfl, rfl, rfl, rfl, trivial⟩ ?_
 refine CW.loop (fun kL1 l_ w_ => ∃ (a1 : Pool) (a4 : Option Addr) (a5 : Nat) (a2 : Nat) (a6 : Cs) (a8 : List R118) (a9 : Int) (a0 : Int), l_ = [(0, .slice A0 n0 c0), (2, .slice none 0 0), (3, .int .i64 a9), (4, .slice a4 a2 a5), (5, .int .i64 a0)] ∧ reliquaryref12_Of.L1 l0 lr0 ar1 kL1 a8 a9 a0 ∧ (Pl T a1) ∧ (a2 = a8.length) ∧ (HRs a1 (f118 w) a6 a8) ∧ St w w_ (.sl a4 a5 a2 a6 118 3 :: .sl none 0 0 ([] : Cs) 118 3 :: (a1 ++ R))) (k := e5) ⟨T, none, 0, 0, ([] : Cs), ([] : List R118), 0, 0, rfl, H, Pl.refl, rfl, (HRs.nil : HRs T (f118 w) [] []), b7⟩ (fun _ _ h => by obtain ⟨_, _, _, _, _, _, _, _, _, h, _⟩ := h; exact h.elim) ?_
 rintro kL1 g6 e6 ⟨a1, a4, a5, a2, a6, a8, a9, a0, rfl, H, a3, d3, d4, a7⟩
 refine CW.seq (cr (WL.mv rfl (WL.mv rfl ?_)))
 refine WL.v (Runs.len_sl Tryd.underlying68 rfl (by rw [hb0.1])) ?_
 refine WL.v (Runs.lss rfl rfl rfl) ?_
 refine wn ?_
 rcases H with ⟨b8, H⟩ | ⟨b8, H⟩
 ·have b9 : (decide (a0 < (l0.length : Int))) = true := (decide_eq_true b8)
  refine CW.ct rfl b9 ?_
  refine CW.skip (QW.then_n (CW.seq (CW.block (CW.seq (cr (WL.mv rfl (WL.mv rfl ?_)))))))
  obtain ⟨⟨e7, e8⟩, H⟩ := H
  obtain ⟨g7, d5, e9⟩ := hb0.2.2
  obtain ⟨g8, d6, f0, f1, f2⟩ := el_get (i := (a0).toNat) ((d5.at a7 (mem_TR (A := [_, _]) (fun _ h_ => a3.1 _ h_)))) (e9.mono (fun _ h_ => a3.1 _ h_)) (fz116 w) (by decide) (by omega)
  obtain c1 := inv116 f2
  replace c1 : f0 = (cu ((gx l0 (a0.toNat)).1)) ++ (ct ((gx l0 (a0.toNat)).2)) := c1
  subst c1
  refine WL.v (Runs.indexAddr Tryd.underlying68 cells116 (by decide) rfl d6 rfl e7 (by rw [show n0 = l0.length from hb0.1]; exact e8) (o := (a0.toNat) * 2) (by first | rfl | omega)) ?_
  refine WL.v (Runs.fieldAddrB (off := 1) fld116_1 rfl rfl rfl) ?_
  refine WL.v (Runs.load nagg9 rfl (Src.cellAt (j := 1) (Src.cut ((d5.at a7 (mem_TR (A := [_, _]) (fun _ h_ => a3.1 _ h_)))) d6 f1) rfl)) ?_
  refine WL.v (Runs.len_str Tryd.underlying9 rfl) ?_
  refine WL.v (Runs.neq rfl rfl rfl) ?_
  refine wn ?_
  rcases H with ⟨c2, H⟩ | ⟨c2, H⟩
  ·have c3 : ((((gx l0 (a0.toNat)).2).size : Int) != 160) = true := (bne_iff_ne.mpr c2)
   refine CW.ct rfl c3 ?_
   refine cr (WL.as rfl (WL.as rfl (wn (CW.ret (QW.then_r (QW.blk_r (QW.then_r (QW.then_r (QW.blk_r (QW.then_r ?_))))))))))
   have c4 := a7.nil_sl 118 3
   have c4 : St w e6 (.sl none 0 0 ([] : Cs) 118 3 :: .sl a4 a5 a2 a6 118 3 :: .sl none 0 0 ([] : Cs) 118 3 :: (a1 ++ R)) := c4
   obtain ⟨rfl, rfl⟩ := H
   exact QW.ret2 rfl rfl rfl ⟨a1, none, 0, 0, ([] : Cs), a3, rfl, (HRs.nil : HRs a1 (f118 w) [] []), rfl, (St.pickT (L := [_, _, _]) c4 [0] (by decide))⟩
  have c3 : ((((gx l0 (a0.toNat)).2).size : Int) != 160) = false := (bne_eq_false_iff_eq.mpr (Decidable.not_not.mp c2))
  refine CW.cf rfl c3 ?_
  refine CW.skip (QW.then_n (CW.region (WL.mv rfl (WL.mv rfl (WL.mv rfl ?_)))))
  obtain ⟨⟨f3, f4⟩, H⟩ := H
  obtain ⟨g9, d7, f5⟩ := hb0.2.2
  obtain ⟨h0, d8, f6, f7, f8⟩ := el_get (i := (a0).toNat) ((d7.at a7 (mem_TR (A := [_, _]) (fun _ h_ => a3.1 _ h_)))) (f5.mono (fun _ h_ => a3.1 _ h_)) (fz116 w) (by decide) (by omega)
  obtain c5 := inv116 f8
  replace c5 : f6 = (cu ((gx l0 (a0.toNat)).1)) ++ (ct ((gx l0 (a0.toNat)).2)) := c5
  subst c5
  refine WL.v (Runs.indexAddr Tryd.underlying68 cells116 (by decide) rfl d8 rfl f3 (by rw [show n0 = l0.length from hb0.1]; exact f4) (o := (a0.toNat) * 2) (by first | rfl | omega)) ?_
  refine WL.v (Runs.load_srcR row116 rfl (Src.cut ((d7.at a7 (mem_TR (A := [_, _]) (fun _ h_ => a3.1 _ h_)))) d8 f7) rfl) ?_
  refine WL.mv rfl ?_
  refine WL.v (Runs.add rfl rfl rfl) ?_
  refine WL.mv rfl ?_
  refine WL.v (Runs.len_sl Tryd.underlying68 rfl (by rw [hb0.1])) ?_
  refine WL.v (Runs.eql rfl rfl rfl) ?_
  refine WL.v (Runs.build_seg (ps := [(0, 2), (2, 1)]) (cs := ((cu ((gx l0 (a0.toNat)).1)) ++ ((ct ((gx l0 (a0.toNat)).2)) ++ (cb ((IntKind.i64.wrap (a0 + 1)) == (l0.length : Int)))))) plc118 zero118 rfl (.cons (ms := ((cu ((gx l0 (a0.toNat)).1)) ++ (ct ((gx l0 (a0.toNat)).2)))) rfl rfl rfl (.one rfl rfl)) rfl rfl) ?_
  obtain ⟨h1, h2, f9, g0, g1, g2⟩ := slr118_1
  refine WL.buildSlSg (sz := 3) (cs := ((cu ((gx l0 (a0.toNat)).1)) ++ ((ct ((gx l0 (a0.toNat)).2)) ++ (cb ((IntKind.i64.wrap (a0 + 1)) == (l0.length : Int)))))) a7 Tryd.underlying110 f9 g0 g1 (by decide) (by decide) g2 rfl (.one rfl rfl) rfl rfl ?_
  intro c6 d9 c7
  replace c7 : St w d9 (.cells c6 ((cu ((gx l0 (a0.toNat)).1)) ++ ((ct ((gx l0 (a0.toNat)).2)) ++ (cb ((IntKind.i64.wrap (a0 + 1)) == (l0.length : Int))))) 118 :: .sl a4 a5 a2 a6 118 3 :: .sl none 0 0 ([] : Cs) 118 3 :: (a1 ++ R)) := c7
  have b2 := St.rows_sl (i := 0) (m := 1) (size := 3) c7 rfl rfl (by decide)
  obtain ⟨b0, e0⟩ : ∃ x_ : Cs, x_ = (cu ((gx l0 (a0.toNat)).1)) ++ ((ct ((gx l0 (a0.toNat)).2)) ++ (cb ((IntKind.i64.wrap (a0 + 1)) == (l0.length : Int)))) := ⟨_, rfl⟩
  have c8 : HRs a1 (f118 w) b0 ([((gx l0 (a0.toNat)).1, (gx l0 (a0.toNat)).2, (IntKind.i64.wrap (a0 + 1)) == (l0.length : Int))] : List R118) := by rw [e0]; exact (HRs.one (.cons rfl (.cons rfl (.cons rfl .nil))))
  replace b2 : St w d9 (.sl (sp c6) 1 1 b0 118 3 :: .sl a4 a5 a2 a6 118 3 :: .sl none 0 0 ([] : Cs) 118 3 :: (a1 ++ R)) := by rw [e0]; exact b2
  obtain ⟨c9, e1, H⟩ := H
  obtain ⟨g3, H⟩ := H
  obtain ⟨d0, d1⟩ : ∃ n_ : Nat, n_ = c9.length := ⟨_, rfl⟩
  refine WL.appendR (i := 1) (N := d0) (news := b0) Wanted.none b2 rfl Tryd.underlying110 elemS118 rfl rfl (b2.src_sl (k := 0) rfl) (by have h1_ := (c8).length (fz118 w); have h2_ : 1 = ([((gx l0 (a0.toNat)).1, (gx l0 (a0.toNat)).2, (IntKind.i64.wrap (a0 + 1)) == (l0.length : Int))] : List R118).length := rfl; rw [h1_, h2_]) (HLs.one c8) (by decide) (by have h1_ : a2 = a8.length := d3; have h2_ : 1 = ([((gx l0 (a0.toNat)).1, (gx l0 (a0.toNat)).2, (IntKind.i64.wrap (a0 + 1)) == (l0.length : Int))] : List R118).length := rfl; rw [d1, e1, List.length_append]; omega) (by rw [d1]; exact g3) ?_
  intro e2 e3 g4 b1
  obtain ⟨d2, e4⟩ : ∃ x_ : Cs, x_ = a6 ++ b0 := ⟨_, rfl⟩
  have g5 : HRs a1 (f118 w) d2 c9 := by rw [e4, e1]; exact HRs.append d4 c8
  replace b1 : St w g4 (.sl (sp c6) 1 1 b0 118 3 :: .sl e2 e3 d0 d2 118 3 :: .sl none 0 0 ([] : Cs) 118 3 :: (a1 ++ R)) := by rw [e4]; exact b1
  refine WL.as rfl (WL.nil (QW.blk_n (QW.then_n (CW.region (WL.mv rfl ?_)))))
  refine WL.v (Runs.add rfl rfl rfl) ?_
  refine WL.as rfl (WL.nil ?_)
  have b1' := (St.pickT (L := [_, _, _]) b1 [1, 2] (by decide))
  exact QW.at _ (by repeat' constructor) ⟨a1, e2, e3, d0, d2, c9, a9, IntKind.i64.wrap (a0 + 1), rfl, H, a3, d1, g5, b1'⟩
 have b9 : (decide (a0 < (l0.length : Int))) = false := (decide_eq_false b8)
 refine CW.cf rfl b9 ?_
 refine CW.exit (QW.then_x (QW.then_x (QW.blk_x (QW.then_n ?_))))
 refine CW.sub [(2, .slice none 0 0), (3, .int .i64 a9), (4, .slice a4 a2 a5)] ⟨rfl, rfl, rfl, trivial⟩ ?_
 refine cr (WL.mv rfl (WL.as rfl (WL.as rfl (wn (CW.ret ?_)))))
 obtain ⟨rfl, rfl⟩ := H
 exact QW.ret2 rfl rfl rfl ⟨a1, a4, a2, a5, a6, a3, d3, d4, rfl, (St.pickT (L := [_, _]) a7 [0] (by decide))⟩
/-! ### reliquaryref01_Put: function 33 -/
def reliquaryref01_Put.L1 (a1 : Int) (r0 : List Int) : Nat → (List Int) → Int → Int → Prop
 | 0, _, _, _ => False
 | kL1 + 1, a3, a4, a0 => ((a0 < a1 ∧ (∃ a2 : List Int, a2 = a3 ++ [IntKind.u8.wrap (Int.tmod a4 256)] ∧ (a2.length ≤ 1099511627776 ∧ reliquaryref01_Put.L1 a1 r0 kL1 a2 (IntKind.u64.wrap (Int.tdiv a4 256)) (IntKind.i64.wrap (a0 + 1))))) ∨ (¬ (a0 < a1) ∧ r0 = a3))
def reliquaryref01_Put.rel (a0 : Int) (a1 : Int) (r0 : List Int) : Prop := ((a1 > 8 ∧ r0 = []) ∨ (¬ (a1 > 8) ∧ (∃ k_ : Nat, reliquaryref01_Put.L1 a1 r0 k_ ([] : List Int) a0 0)))
set_option maxHeartbeats 4000000 in
theorem reliquaryref01_Put.calls (w : World) (a0 : Int) (a1 : Int)    (r0 : List Int) (H : reliquaryref01_Put.rel a0 a1 r0) :
  Calls Tryd.prog 33 #[.int .u64 a0, .int .i64 a1] w fun e w' => ∃ B0 q0 z0, z0 = r0.length ∧ e = .returned (.slice B0 z0 q0) ∧ St w w' [.sl B0 q0 z0 (iv .u8 r0) 5 1] := by
 refine CW.enter Tryd.func33 rfl (n := 24) rfl [.int .u64 a0, .int .i64 a1] (Nat.le_of_ble_eq_true rfl) ?_
 refine CW.sub [(0, .int .u64 a0), (1, .int .i64 a1)] ⟨rfl, rfl, trivial⟩ ?_
 have st0 : St w w [] := St.refl w
 refine cr (WL.as rfl (WL.nx (WL.as rfl (wn (CW.seq (cr (WL.mv rfl ?_)))))))
 refine WL.v (Runs.gtr rfl rfl rfl) ?_
 refine wn ?_
 rcases H with ⟨b0, H⟩ | ⟨b0, H⟩
 ·have b1 : (decide (a1 > 8)) = true := (decide_eq_true b0)
  refine CW.ct rfl b1 ?_
  refine cr (WL.mv rfl (WL.as rfl (wn (CW.ret (QW.then_r ?_)))))
  have b2 := st0.nil_sl 5 1
  have b2 : St w w [.sl none 0 0 (iv .u8 ([] : List Int)) 5 1] := b2
  obtain rfl := H
  exact QW.ret1 rfl rfl ⟨none, 0, 0, rfl, rfl, b2.pick [0] (by decide)⟩
 have b1 : (decide (a1 > 8)) = false := (decide_eq_false b0)
 refine CW.cf rfl b1 ?_
 refine CW.skip (QW.then_n (CW.seq (cr (WL.as rfl (wn (CW.block ?_))))))
 have b3 := st0.nil_sl 5 1
 have b3 : St w w [.sl none 0 0 (iv .u8 ([] : List Int)) 5 1] := b3
 obtain ⟨c5, H⟩ := H
 refine CW.sub [(0, .int .u64 a0), (1, .int .i64 a1), (4, .slice none 0 0), (5, .slice none 0 0), (6, .int .i64 0)] ⟨rfl, rfl, rfl, rfl, rfl, trivial⟩ ?_
 refine CW.loop (fun kL1 l_ w_ => ∃ (a4 : Option Addr) (a5 : Nat) (a3 : Nat) (a6 : List Int) (a2 : Int) (a7 : Int), l_ = [(0, .int .u64 a2), (1, .int .i64 a1), (4, .slice none 0 0), (5, .slice a4 a3 a5), (6, .int .i64 a7)] ∧ reliquaryref01_Put.L1 a1 r0 kL1 a6 a2 a7 ∧ (a3 = a6.length) ∧ St w w_ [.sl a4 a5 a3 (iv .u8 a6) 5 1]) (k := c5) ⟨none, 0, 0, ([] : List Int), a0, 0, rfl, H, rfl, b3⟩ (fun _ _ h => by obtain ⟨_, _, _, _, _, _, _, h, _⟩ := h; exact h.elim) ?_
 rintro kL1 c9 d0 ⟨a4, a5, a3, a6, a2, a7, rfl, H, b9, c0⟩
 refine CW.seq (cr (WL.mv rfl (WL.mv rfl ?_)))
 refine WL.v (Runs.lss rfl rfl rfl) ?_
 refine wn ?_
 rcases H with ⟨b4, H⟩ | ⟨b4, H⟩
 ·have b5 : (decide (a7 < a1)) = true := (decide_eq_true b4)
  refine CW.ct rfl b5 ?_
  refine CW.skip (QW.then_n (CW.seq (CW.block (cr (WL.mv rfl (WL.mv rfl ?_))))))
  refine WL.v (Runs.rem rfl rfl (by decide) rfl) ?_
  refine WL.v (Runs.conv Tryd.underlying5 ⟨_, Tryd.underlying37⟩ rfl rfl) ?_
  refine WL.buildSl [.int .u8 (IntKind.u8.wrap (Int.tmod a2 256))] c0 Tryd.underlying25 elem5 rfl rfl (by decide) (by decide) (by simp [Value.cells]) ?_
  intro c1 c6 a9
  replace a9 : St w c6 [.sl (sp c1) 1 1 (iv .u8 [IntKind.u8.wrap (Int.tmod a2 256)]) 5 1, .sl a4 a5 a3 (iv .u8 a6) 5 1] := a9
  obtain ⟨b6, c2, H⟩ := H
  obtain ⟨c7, H⟩ := H
  obtain ⟨b7, b8⟩ : ∃ n_ : Nat, n_ = b6.length := ⟨_, rfl⟩
  refine WL.append (i := 1) Wanted.none a9 rfl Tryd.underlying25 elem5 rfl rfl (a9.src_sl (k := 0) rfl) (by rw [iv_length]; exact (Eq.refl _).symm) (one_iv .u8 _) (by decide) (N := b7) (by rw [b8, c2, List.length_append]; exact congr (congrArg HAdd.hAdd (b9)) (rfl)) (by rw [b8]; exact c7) ?_
  intro c3 c4 c8 a8
  have a8' : St w c8 [.sl (sp c1) 1 1 (iv .u8 [IntKind.u8.wrap (Int.tmod a2 256)]) 5 1, .sl c3 c4 b7 (iv .u8 b6) 5 1] := by rw [c2, ← iv_append .u8 a6 [IntKind.u8.wrap (Int.tmod a2 256)]]; exact a8
  refine WL.as rfl (wn (CW.region (WL.mv rfl ?_)))
  refine WL.v (Runs.quo rfl rfl (by decide) rfl) ?_
  refine WL.as rfl (WL.nil (QW.blk_n (QW.then_n (CW.region (WL.mv rfl ?_)))))
  refine WL.v (Runs.add rfl rfl rfl) ?_
  refine WL.as rfl (WL.nil ?_)
  have a8'' := a8'.pick [1] (by decide)
  exact QW.at _ (by repeat' constructor) ⟨c3, c4, b7, b6, IntKind.u64.wrap (Int.tdiv a2 256), IntKind.i64.wrap (a7 + 1), rfl, H, b8, a8''⟩
 have b5 : (decide (a7 < a1)) = false := (decide_eq_false b4)
 refine CW.cf rfl b5 ?_
 refine CW.exit (QW.then_x (QW.then_x (QW.blk_x (QW.then_n ?_))))
 refine CW.sub [(4, .slice none 0 0), (5, .slice a4 a3 a5)] ⟨rfl, rfl, trivial⟩ ?_
 refine cr (WL.mv rfl (WL.as rfl (wn (CW.ret ?_))))
 obtain rfl := H
 exact QW.ret1 rfl rfl ⟨a4, a5, a3, b9, rfl, c0.pick [0] (by decide)⟩
/-! ### reliquaryref12_Put: function 44 -/
def reliquaryref12_Put.rel (a0_0 : Int) (a0_1 : ByteArray) (a0_2 : Bool) (r0 : ByteArray) (r1 : Int) : Prop := (((a0_1.size : Int) ≠ 160 ∧ r0 = (⟨#[]⟩ : ByteArray) ∧ r1 = 1) ∨ (¬ ((a0_1.size : Int) ≠ 160) ∧ ((a0_2 = true ∧ ((0 ≤ (1 : Int) ∧ (1 : Int) < ([1, 0, 0, 0, 0, 0, 0, 0].length : Int)) ∧ (∃ a2 : List Int, a2 = List.set [1, 0, 0, 0, 0, 0, 0, 0] 1 1 ∧ (∃ (a3 : List Int), reliquaryref01_Put.rel a0_0 8 a3 ∧ (∃ a0 : List Int, a0 = a2 ++ a3 ∧ (a0.length ≤ 1099511627776 ∧ (((strOfNums a0).size + a0_1.size ≤ 1099511627776) ∧ r0 = (strOfNums a0) ++ a0_1 ∧ r1 = 0))))))) ∨ (¬ (a0_2 = true) ∧ (∃ (a4 : List Int), reliquaryref01_Put.rel a0_0 8 a4 ∧ (∃ a1 : List Int, a1 = [1, 0, 0, 0, 0, 0, 0, 0] ++ a4 ∧ (a1.length ≤ 1099511627776 ∧ (((strOfNums a1).size + a0_1.size ≤ 1099511627776) ∧ r0 = (strOfNums a1) ++ a0_1 ∧ r1 = 0))))))))
set_option maxHeartbeats 4000000 in
theorem reliquaryref12_Put.calls (w : World) (a0_0 : Int) (a0_1 : ByteArray) (a0_2 : Bool)    (r0 : ByteArray) (r1 : Int) (H : reliquaryref12_Put.rel a0_0 a0_1 a0_2 r0 r1) :
  Calls Tryd.prog 44 #[.agg ((cu a0_0) ++ ((ct a0_1) ++ (cb a0_2))).toArray] w fun e w' => e = .returned (.tuple #[.string r0, .int .i64 r1]) ∧ St w w' [] := by
 refine CW.enter Tryd.func44 rfl (n := 27) rfl [.agg ((cu a0_0) ++ ((ct a0_1) ++ (cb a0_2))).toArray] (Nat.le_of_ble_eq_true rfl) ?_
 refine CW.sub [(0, .agg ((cu a0_0) ++ ((ct a0_1) ++ (cb a0_2))).toArray)] ⟨rfl, trivial⟩ ?_
 have st0 : St w w [] := St.refl w
 refine cr ?_
 refine WL.box st0 rfl rfl ?_
 intro a0 f5 a9
 refine WL.as rfl (WL.as rfl (wn (CW.seq (cr ?_))))
 refine WL.v (Runs.fieldAddr (off := 0) (p := 0) fld118_0 rfl rfl rfl) ?_
 refine WL.v (Runs.fieldAddr (off := 1) (p := 1) fld116_1 rfl rfl rfl) ?_
 refine WL.v (Runs.load nagg9 rfl (a9.cell (k := 0) rfl (pa (.string a0_1) (cu a0_0) (cb a0_2)))) ?_
 refine WL.v (Runs.len_str Tryd.underlying9 rfl) ?_
 refine WL.v (Runs.neq rfl rfl rfl) ?_
 refine wn ?_
 rcases H with ⟨b0, H⟩ | ⟨b0, H⟩
 ·have b1 : ((a0_1.size : Int) != 160) = true := (bne_iff_ne.mpr b0)
  refine CW.ct rfl b1 ?_
  refine cr (WL.as rfl (WL.as rfl (wn (CW.ret (QW.then_r ?_)))))
  obtain ⟨rfl, rfl⟩ := H
  exact QW.ret2 rfl rfl rfl ⟨rfl, a9.pick [] (by decide)⟩
 have b1 : ((a0_1.size : Int) != 160) = false := (bne_eq_false_iff_eq.mpr (Decidable.not_not.mp b0))
 refine CW.cf rfl b1 ?_
 refine CW.skip (QW.then_n ?_)
 refine CW.sub [(1, .pointer (sp a0)), (2, .string (⟨#[]⟩ : ByteArray)), (3, .int .i64 0)] ⟨rfl, rfl, rfl, trivial⟩ ?_
 refine cr ?_
 refine WL.buildSl [.int .u8 1, .int .u8 0, .int .u8 0, .int .u8 0, .int .u8 0, .int .u8 0, .int .u8 0, .int .u8 0] a9 Tryd.underlying25 elem5 rfl rfl (by decide) (by decide) (by simp [Value.cells]) ?_
 intro a4 c0 a1
 replace a1 : St w c0 [.sl (sp a4) 8 8 (iv .u8 [1, 0, 0, 0, 0, 0, 0, 0]) 5 1, .cells a0 ((cu a0_0) ++ ((ct a0_1) ++ (cb a0_2))) 118] := a1
 refine WL.as rfl (wn (CW.seq (cr ?_)))
 refine WL.v (Runs.fieldAddr (off := 2) (p := 2) fld118_1 rfl rfl rfl) ?_
 refine WL.v (Runs.load nagg4 rfl (a1.cell (k := 1) rfl (pa (.bool a0_2) ((cu a0_0) ++ (ct a0_1)) []))) ?_
 refine wn ?_
 rcases H with ⟨b2, H⟩ | ⟨b2, H⟩
 ·have b3 : a0_2 = true := b2
  refine CW.ct rfl b3 ?_
  refine CW.region (WL.mv rfl ?_)
  obtain ⟨⟨e0, e1⟩, H⟩ := H
  obtain ⟨f6, c1⟩ := (a1.src_sl (k := 0) rfl).addr_iv 1 (by omega)
  refine WL.v (Runs.indexAddr Tryd.underlying25 cells5 (by decide) rfl c1 rfl e0 e1 (o := 1) (by first | rfl | omega)) ?_
  obtain ⟨a5, c2, H⟩ := H
  refine WL.store_sl (i := 0) a1 rfl cells5 rfl c1 (by rw [iv_length]; omega) rfl rfl ?_
  intro c3 a6
  have e2 : 8 = a5.length := by rw [c2, List.length_set] <;> rfl
  have a6' : St w c3 [.sl (sp a4) 8 8 (iv .u8 a5) 5 1, .cells a0 ((cu a0_0) ++ ((ct a0_1) ++ (cb a0_2))) 118] := by rw [c2, ← iv_set .u8 [1, 0, 0, 0, 0, 0, 0, 0] 1 1]; exact a6
  refine WL.nx (WL.mv rfl ?_)
  refine WL.v (Runs.fieldAddr (off := 0) (p := 0) fld118_0 rfl rfl rfl) ?_
  refine WL.v (Runs.fieldAddr (off := 0) (p := 0) fld116_0 rfl rfl rfl) ?_
  refine WL.v (Runs.load nagg37 rfl (a6'.cell (k := 1) rfl (pa (.int .u64 a0_0) [] ((ct a0_1) ++ (cb a0_2))))) ?_
  obtain ⟨a7, e3, H⟩ := H
  refine WL.call Wanted.none ent33 rfl (reliquaryref01_Put.calls c3 a0_0 8 a7 e3) ?_
  rintro _ e4 ⟨c4, c5, c6, c7, rfl, e5⟩
  have c8 : St w e4 [.sl c4 c5 c6 (iv .u8 a7) 5 1, .sl (sp a4) 8 8 (iv .u8 a5) 5 1, .cells a0 ((cu a0_0) ++ ((ct a0_1) ++ (cb a0_2))) 118] := a6'.call e5
  refine ⟨_, rfl, ?_⟩
  obtain ⟨b4, c9, H⟩ := H
  obtain ⟨e6, H⟩ := H
  obtain ⟨b5, b6⟩ : ∃ n_ : Nat, n_ = b4.length := ⟨_, rfl⟩
  refine WL.append (i := 1) Wanted.none c8 rfl Tryd.underlying25 elem5 rfl rfl (c8.src_sl (k := 0) rfl) (by rw [iv_length]; exact (c7).symm) (one_iv .u8 _) (by decide) (N := b5) (by rw [b6, c9, List.length_append]; exact congr (congrArg HAdd.hAdd (e2)) (c7)) (by rw [b6]; exact e6) ?_
  intro d0 d1 e7 a2
  have a2' : St w e7 [.sl c4 c5 c6 (iv .u8 a7) 5 1, .sl d0 d1 b5 (iv .u8 b4) 5 1, .cells a0 ((cu a0_0) ++ ((ct a0_1) ++ (cb a0_2))) 118] := by rw [c9, ← iv_append .u8 a5 a7]; exact a2
  refine WL.as rfl (wn ?_)
  refine CW.sub [(1, .pointer (sp a0)), (2, .string (⟨#[]⟩ : ByteArray)), (3, .int .i64 0), (4, .slice d0 b5 d1)] ⟨rfl, rfl, rfl, rfl, trivial⟩ ?_
  refine cr (WL.mv rfl ?_)
  refine WL.v (Runs.bytes_str Tryd.underlying25 Tryd.underlying5 Tryd.underlying9 rfl (a2'.src_sl (k := 1) rfl) b6) ?_
  refine WL.v (Runs.fieldAddr (off := 0) (p := 0) fld118_0 rfl rfl rfl) ?_
  refine WL.v (Runs.fieldAddr (off := 1) (p := 1) fld116_1 rfl rfl rfl) ?_
  refine WL.v (Runs.load nagg9 rfl (a2'.cell (k := 2) rfl (pa (.string a0_1) (cu a0_0) (cb a0_2)))) ?_
  obtain ⟨e8, H⟩ := H
  refine WL.v (Runs.adds rfl rfl e8 rfl) ?_
  refine WL.as rfl (WL.as rfl (wn (CW.ret ?_)))
  obtain ⟨rfl, rfl⟩ := H
  exact QW.ret2 rfl rfl rfl ⟨rfl, a2'.pick [] (by decide)⟩
 have b3 : a0_2 = false := (Bool.eq_false_iff.mpr b2)
 refine CW.cf rfl b3 ?_
 refine CW.skip (QW.then_n (cr (WL.mv rfl ?_)))
 refine WL.v (Runs.fieldAddr (off := 0) (p := 0) fld118_0 rfl rfl rfl) ?_
 refine WL.v (Runs.fieldAddr (off := 0) (p := 0) fld116_0 rfl rfl rfl) ?_
 refine WL.v (Runs.load nagg37 rfl (a1.cell (k := 1) rfl (pa (.int .u64 a0_0) [] ((ct a0_1) ++ (cb a0_2))))) ?_
 obtain ⟨a8, e9, H⟩ := H
 refine WL.call Wanted.none ent33 rfl (reliquaryref01_Put.calls c0 a0_0 8 a8 e9) ?_
 rintro _ f0 ⟨d2, d3, d4, d5, rfl, f1⟩
 have d6 := a1.call f1
 refine ⟨_, rfl, ?_⟩
 obtain ⟨b7, d7, H⟩ := H
 obtain ⟨f2, H⟩ := H
 obtain ⟨b8, b9⟩ : ∃ n_ : Nat, n_ = b7.length := ⟨_, rfl⟩
 refine WL.append (i := 1) Wanted.none d6 rfl Tryd.underlying25 elem5 rfl rfl (d6.src_sl (k := 0) rfl) (by rw [iv_length]; exact (d5).symm) (one_iv .u8 _) (by decide) (N := b8) (by rw [b9, d7, List.length_append]; exact congr (congrArg HAdd.hAdd (rfl)) (d5)) (by rw [b9]; exact f2) ?_
 intro d8 d9 f3 a3
 have a3' : St w f3 [.sl d2 d3 d4 (iv .u8 a8) 5 1, .sl d8 d9 b8 (iv .u8 b7) 5 1, .cells a0 ((cu a0_0) ++ ((ct a0_1) ++ (cb a0_2))) 118] := by rw [d7, ← iv_append .u8 [1, 0, 0, 0, 0, 0, 0, 0] a8]; exact a3
 refine WL.as rfl (wn ?_)
 refine CW.sub [(1, .pointer (sp a0)), (2, .string (⟨#[]⟩ : ByteArray)), (3, .int .i64 0), (4, .slice d8 b8 d9)] ⟨rfl, rfl, rfl, rfl, trivial⟩ ?_
 refine cr (WL.mv rfl ?_)
 refine WL.v (Runs.bytes_str Tryd.underlying25 Tryd.underlying5 Tryd.underlying9 rfl (a3'.src_sl (k := 1) rfl) b9) ?_
 refine WL.v (Runs.fieldAddr (off := 0) (p := 0) fld118_0 rfl rfl rfl) ?_
 refine WL.v (Runs.fieldAddr (off := 1) (p := 1) fld116_1 rfl rfl rfl) ?_
 refine WL.v (Runs.load nagg9 rfl (a3'.cell (k := 2) rfl (pa (.string a0_1) (cu a0_0) (cb a0_2)))) ?_
 obtain ⟨f4, H⟩ := H
 refine WL.v (Runs.adds rfl rfl f4 rfl) ?_
 refine WL.as rfl (WL.as rfl (wn (CW.ret ?_)))
 obtain ⟨rfl, rfl⟩ := H
 exact QW.ret2 rfl rfl rfl ⟨rfl, a3'.pick [] (by decide)⟩
end Go.Proofs.YtmhcjafkdmcgoaaDoor
