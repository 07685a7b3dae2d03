/- Walks: each function computes what its relation says, and a call of it ends so. Printed by a program of this session (wip/gen). -/
import Derived.Test.YtmhcjafkdmcgoaaDoorGx4
namespace Go.Proofs.YtmhcjafkdmcgoaaDoor
open Go Go.Kr Go.RowKit
set_option linter.unusedVariables false
set_option linter.unusedSimpArgs false
set_option maxRecDepth 100000
/-! ### reliquaryref06_Write: function 46 -/
def reliquaryref06_Write.rel (a0_0 : Int) (l0_1 : List R145) (l0_2 : List R145) (a0_3 : Int) (a0_4 : Bool) (l0_5 : List R160) (a1 : Int) (a2 : ByteArray) (ar0_0 : Int) (lr0_1 : List R145) (lr0_2 : List R145) (ar0_3 : Int) (ar0_4 : Bool) (lr0_5 : List R160) (ar1 : Int) : Prop := ((a0_4 = true ∧ ar0_0 = a0_0 ∧ lr0_1 = l0_1 ∧ lr0_2 = l0_2 ∧ ar0_3 = a0_3 ∧ ar0_4 = a0_4 ∧ lr0_5 = l0_5 ∧ ar1 = 13) ∨ (¬ (a0_4 = true) ∧ (∃ (a0 : Int), reliquaryref06_fits.rel a0_0 l0_1 l0_2 a0_3 a0_4 l0_5 a1 a2 a0 ∧ ((a0 ≠ 0 ∧ ar0_0 = a0_0 ∧ lr0_1 = l0_1 ∧ lr0_2 = l0_2 ∧ ar0_3 = a0_3 ∧ ar0_4 = a0_4 ∧ lr0_5 = l0_5 ∧ ar1 = a0) ∨ (¬ (a0 ≠ 0) ∧ ((a0_3 = 0 ∧ ar0_0 = a0_0 ∧ lr0_1 = l0_1 ∧ lr0_2 = l0_2 ∧ ar0_3 = a0_3 ∧ ar0_4 = true ∧ lr0_5 = l0_5 ∧ ar1 = 13) ∨ (¬ (a0_3 = 0) ∧ ((a0_3 > 0 ∧ (∃ (a3 : List R145), reliquaryref06_more.rel l0_2 a1 a2 a3 ∧ (∃ (a4 : Int) (a5 : List R145) (a6 : List R145) (a7 : Int) (a8 : Bool) (a9 : List R160), reliquaryref06_noted.rel a0_0 l0_1 a3 (IntKind.i64.wrap (a0_3 - 1)) a0_4 l0_5 2 a1 a4 a5 a6 a7 a8 a9 ∧ ar0_0 = a4 ∧ lr0_1 = a5 ∧ lr0_2 = a6 ∧ ar0_3 = a7 ∧ ar0_4 = a8 ∧ lr0_5 = a9 ∧ ar1 = 0))) ∨ (¬ (a0_3 > 0) ∧ (∃ (b0 : List R145), reliquaryref06_more.rel l0_2 a1 a2 b0 ∧ (∃ (b1 : Int) (b2 : List R145) (b3 : List R145) (b4 : Int) (b5 : Bool) (b6 : List R160), reliquaryref06_noted.rel a0_0 l0_1 b0 a0_3 a0_4 l0_5 2 a1 b1 b2 b3 b4 b5 b6 ∧ ar0_0 = b1 ∧ lr0_1 = b2 ∧ lr0_2 = b3 ∧ ar0_3 = b4 ∧ ar0_4 = b5 ∧ lr0_5 = b6 ∧ ar1 = 0)))))))))))
set_option maxHeartbeats 1000000 in
theorem reliquaryref06_Write.calls (w w1 : World) (T R : Pool) (a0_0 : Int) (l0_1 : List R145) (l0_2 : List R145) (a0_3 : Int) (a0_4 : Bool) (l0_5 : List R160) (a1 : Int) (a2 : ByteArray) (A0_1 : Option Addr) (n0_1 : Nat) (c0_1 : Nat) (A0_2 : Option Addr) (n0_2 : Nat) (c0_2 : Nat) (A0_5 : Option Addr) (n0_5 : Nat) (c0_5 : Nat) (st0 : St w w1 ((T ++ R))) (hb0_1 : HS w T T A0_1 n0_1 c0_1 (f145 w) l0_1) (hb0_2 : HS w T T A0_2 n0_2 c0_2 (f145 w) l0_2) (hb0_5 : HS w T T A0_5 n0_5 c0_5 (f160 w) l0_5) (ar0_0 : Int) (lr0_1 : List R145) (lr0_2 : List R145) (ar0_3 : Int) (ar0_4 : Bool) (lr0_5 : List R160) (ar1 : Int) (H : reliquaryref06_Write.rel a0_0 l0_1 l0_2 a0_3 a0_4 l0_5 a1 a2 ar0_0 lr0_1 lr0_2 ar0_3 ar0_4 lr0_5 ar1) :
  Calls Tryd.prog 46 #[.agg ((ci a0_0) ++ ((cl A0_1 n0_1 c0_1) ++ ((cl A0_2 n0_2 c0_2) ++ ((ci a0_3) ++ ((cb a0_4) ++ (cl A0_5 n0_5 c0_5)))))).toArray, .int .i64 a1, .string a2] w1 fun e w' => ∃ T' Ar0_1 nr0_1 cr0_1 Ar0_2 nr0_2 cr0_2 Ar0_5 nr0_5 cr0_5, Pl T T' ∧ HS w T' T' Ar0_1 nr0_1 cr0_1 (f145 w) lr0_1 ∧ HS w T' T' Ar0_2 nr0_2 cr0_2 (f145 w) lr0_2 ∧ HS w T' T' Ar0_5 nr0_5 cr0_5 (f160 w) lr0_5 ∧ e = .returned (.tuple #[.agg ((ci ar0_0) ++ ((cl Ar0_1 nr0_1 cr0_1) ++ ((cl Ar0_2 nr0_2 cr0_2) ++ ((ci ar0_3) ++ ((cb ar0_4) ++ (cl Ar0_5 nr0_5 cr0_5)))))).toArray, .int .i64 ar1]) ∧ St w w' ((T' ++ R)) := by
 refine CW.enter Tryd.func46 rfl (n := 42) rfl [.agg ((ci a0_0) ++ ((cl A0_1 n0_1 c0_1) ++ ((cl A0_2 n0_2 c0_2) ++ ((ci a0_3) ++ ((cb a0_4) ++ (cl A0_5 n0_5 c0_5)))))).toArray, .int .i64 a1, .string a2] (Nat.le_of_ble_eq_true rfl) ?_
 refine CW.sub [(0, .agg ((ci a0_0) ++ ((cl A0_1 n0_1 c0_1) ++ ((cl A0_2 n0_2 c0_2) ++ ((ci a0_3) ++ ((cb a0_4) ++ (cl A0_5 n0_5 c0_5)))))).toArray), (1, .int .i64 a1), (2, .string a2)] ⟨rfl, rfl, rfl, trivial⟩ ?_
 refine cr ?_
 refine WL.box st0 rfl rfl ?_
 intro a0 m9 h7
 refine WL.alloc h7 zero57 ?_
 intro a3 h4 b7
 refine WL.as rfl (wn (CW.seq (cr ?_)))
 refine WL.v (Runs.fieldAddr (off := 4) (p := 4) fld57_4 rfl rfl rfl) ?_
 refine WL.v (Runs.load nagg4 rfl (b7.cell (k := 1) rfl (pa (.bool a0_4) ((ci a0_0) ++ ((cl A0_1 n0_1 c0_1) ++ ((cl A0_2 n0_2 c0_2) ++ (ci a0_3)))) (cl A0_5 n0_5 c0_5)))) ?_
 refine wn ?_
 rcases H with ⟨g0, H⟩ | ⟨g0, H⟩
 ·have g1 : a0_4 = true := g0
  refine CW.ct rfl g1 ?_
  refine cr ?_
  refine WL.v (Runs.load_mid row57 rfl b7 (i := 1) rfl (pm [] ((ci a0_0) ++ ((cl A0_1 n0_1 c0_1) ++ ((cl A0_2 n0_2 c0_2) ++ ((ci a0_3) ++ ((cb a0_4) ++ (cl A0_5 n0_5 c0_5)))))) []) rfl) ?_
  refine WL.sm (new := ((ci a0_0) ++ ((cl A0_1 n0_1 c0_1) ++ ((cl A0_2 n0_2 c0_2) ++ ((ci a0_3) ++ ((cb a0_4) ++ (cl A0_5 n0_5 c0_5))))))) (i := 0) (pre := (([] : Cs))) (mid := ((ci 0) ++ ((cl none 0 0) ++ ((cl none 0 0) ++ ((ci 0) ++ ((cb false) ++ (cl none 0 0))))))) (post := (([] : Cs))) (ms := ((ci a0_0) ++ ((cl A0_1 n0_1 c0_1) ++ ((cl A0_2 n0_2 c0_2) ++ ((ci a0_3) ++ ((cb a0_4) ++ (cl A0_5 n0_5 c0_5))))))) b7 rfl row57 (by first | rfl | simp only [aa, an, na, ca]) rfl rfl rfl rfl rfl (one_cat oneU (one_cat oneU (one_cat oneU (one_cat oneU (one_cat oneU oneU))))) rfl ?_
  intro h8 c2
  try dsimp only [List.set] at c2
  refine WL.as rfl (wn (CW.ret (QW.then_r ?_)))
  obtain ⟨rfl, rfl, rfl, rfl, rfl, rfl, rfl⟩ := H
  exact QW.retN2 rfl (Res.row rfl row57 c2 (i := 0) rfl rfl) (Res.tmp rfl) ⟨T, A0_1, n0_1, c0_1, A0_2, n0_2, c0_2, A0_5, n0_5, c0_5, Pl.refl, hb0_1, hb0_2, hb0_5, rfl, (St.pickT (L := [_, _]) c2 [] (by decide))⟩
 have g1 : a0_4 = false := (Bool.eq_false_iff.mpr g0)
 refine CW.cf rfl g1 ?_
 refine CW.skip (QW.then_n (cr ?_))
 refine WL.v (Runs.load_mid row57 rfl b7 (i := 1) rfl (pm [] ((ci a0_0) ++ ((cl A0_1 n0_1 c0_1) ++ ((cl A0_2 n0_2 c0_2) ++ ((ci a0_3) ++ ((cb a0_4) ++ (cl A0_5 n0_5 c0_5)))))) []) rfl) ?_
 refine WL.mv rfl (WL.mv rfl ?_)
 have h9 := St.hide (A := []) (B := [_, _]) (T := T) (R := R) b7
 obtain ⟨c3, i0, H⟩ := H
 refine WL.call Wanted.none ent67 rfl (reliquaryref06_fits.calls w h4 T (oM a3 0 none 0 0 none 0 0 0 false none 0 0 57 :: oM a0 a0_0 A0_1 n0_1 c0_1 A0_2 n0_2 c0_2 a0_3 a0_4 A0_5 n0_5 c0_5 57 :: R) a0_0 l0_1 l0_2 a0_3 a0_4 l0_5 a1 a2 A0_1 n0_1 c0_1 A0_2 n0_2 c0_2 A0_5 n0_5 c0_5  h9 hb0_1 hb0_2 hb0_5 c3 i0) ?_
 rintro _ g2 ⟨a5, a4, rfl, i1⟩
 have b2 : St w g2 (oM a3 0 none 0 0 none 0 0 0 false none 0 0 57 :: oM a0 a0_0 A0_1 n0_1 c0_1 A0_2 n0_2 c0_2 a0_3 a0_4 A0_5 n0_5 c0_5 57 :: (a5 ++ R)) := St.unhide (A := []) (B := [_, _]) (T := a5) (R := R) i1
 refine ⟨_, rfl, ?_⟩
 refine WL.as rfl (wn ?_)
 refine CW.sub [(1, .int .i64 a1), (2, .string a2), (3, .pointer (sp a0)), (6, .pointer (sp a3)), (7, .int .i64 0), (8, .int .i64 c3)] (by repeat' constructor) ?_
 refine CW.seq (cr (WL.mv rfl ?_))
 refine WL.v (Runs.neq rfl rfl rfl) ?_
 refine wn ?_
 rcases H with ⟨g3, H⟩ | ⟨g3, H⟩
 ·have g4 : (c3 != 0) = true := (bne_iff_ne.mpr g3)
  refine CW.ct rfl g4 ?_
  refine cr ?_
  refine WL.v (Runs.load_mid row57 rfl b2 (i := 1) rfl (pm [] ((ci a0_0) ++ ((cl A0_1 n0_1 c0_1) ++ ((cl A0_2 n0_2 c0_2) ++ ((ci a0_3) ++ ((cb a0_4) ++ (cl A0_5 n0_5 c0_5)))))) []) rfl) ?_
  refine WL.mv rfl ?_
  refine WL.sm (new := ((ci a0_0) ++ ((cl A0_1 n0_1 c0_1) ++ ((cl A0_2 n0_2 c0_2) ++ ((ci a0_3) ++ ((cb a0_4) ++ (cl A0_5 n0_5 c0_5))))))) (i := 0) (pre := (([] : Cs))) (mid := ((ci 0) ++ ((cl none 0 0) ++ ((cl none 0 0) ++ ((ci 0) ++ ((cb false) ++ (cl none 0 0))))))) (post := (([] : Cs))) (ms := ((ci a0_0) ++ ((cl A0_1 n0_1 c0_1) ++ ((cl A0_2 n0_2 c0_2) ++ ((ci a0_3) ++ ((cb a0_4) ++ (cl A0_5 n0_5 c0_5))))))) b2 rfl row57 (by first | rfl | simp only [aa, an, na, ca]) rfl rfl rfl rfl rfl (one_cat oneU (one_cat oneU (one_cat oneU (one_cat oneU (one_cat oneU oneU))))) rfl ?_
  intro i2 c4
  try dsimp only [List.set] at c4
  refine WL.as rfl (wn (CW.ret (QW.then_r ?_)))
  obtain ⟨rfl, rfl, rfl, rfl, rfl, rfl, rfl⟩ := H
  exact QW.retN2 rfl (Res.row rfl row57 c4 (i := 0) rfl rfl) (Res.tmp rfl) ⟨a5, A0_1, n0_1, c0_1, A0_2, n0_2, c0_2, A0_5, n0_5, c0_5, a4, (hb0_1.mono (fun _ h_ => a4.1 _ h_) (fun _ h_ => a4.1 _ h_)), (hb0_2.mono (fun _ h_ => a4.1 _ h_) (fun _ h_ => a4.1 _ h_)), (hb0_5.mono (fun _ h_ => a4.1 _ h_) (fun _ h_ => a4.1 _ h_)), rfl, (St.pickT (L := [_, _]) c4 [] (by decide))⟩
 have g4 : (c3 != 0) = false := (bne_eq_false_iff_eq.mpr (Decidable.not_not.mp g3))
 refine CW.cf rfl g4 ?_
 refine CW.skip (QW.then_n (CW.seq (cr ?_)))
 refine WL.v (Runs.fieldAddr (off := 3) (p := 3) fld57_3 rfl rfl rfl) ?_
 refine WL.v (Runs.load nagg3 rfl (b2.cell (k := 1) rfl (pa (.int .i64 a0_3) ((ci a0_0) ++ ((cl A0_1 n0_1 c0_1) ++ (cl A0_2 n0_2 c0_2))) ((cb a0_4) ++ (cl A0_5 n0_5 c0_5))))) ?_
 refine WL.v (Runs.eql rfl rfl rfl) ?_
 refine wn ?_
 rcases H with ⟨g5, H⟩ | ⟨g5, H⟩
 ·have g6 : (a0_3 == 0) = true := (beq_iff_eq.mpr g5)
  refine CW.ct rfl g6 ?_
  refine cr ?_
  refine WL.v (Runs.fieldAddr (off := 4) (p := 4) fld57_4 rfl rfl rfl) ?_
  refine WL.so (new := ((ci a0_0) ++ ((cl A0_1 n0_1 c0_1) ++ ((cl A0_2 n0_2 c0_2) ++ ((ci a0_3) ++ ((cb true) ++ (cl A0_5 n0_5 c0_5))))))) (i := 1) (u0 := .bool a0_4) (pre := ((ci a0_0) ++ ((cl A0_1 n0_1 c0_1) ++ ((cl A0_2 n0_2 c0_2) ++ (ci a0_3))))) (post := ((cl A0_5 n0_5 c0_5))) b2 rfl cells4 (by first | rfl | simp only [aa, an, na, ca]) rfl rfl rfl rfl rfl ?_
  intro i3 c5
  try dsimp only [List.set] at c5
  refine wn ?_
  refine CW.sub [(1, .int .i64 a1), (2, .string a2), (3, .pointer (sp a0)), (6, .pointer (sp a3)), (7, .int .i64 0)] ⟨rfl, rfl, rfl, rfl, rfl, trivial⟩ ?_
  refine cr ?_
  refine WL.v (Runs.load_mid row57 rfl c5 (i := 1) rfl (pm [] ((ci a0_0) ++ ((cl A0_1 n0_1 c0_1) ++ ((cl A0_2 n0_2 c0_2) ++ ((ci a0_3) ++ ((cb true) ++ (cl A0_5 n0_5 c0_5)))))) []) rfl) ?_
  refine WL.sm (new := ((ci a0_0) ++ ((cl A0_1 n0_1 c0_1) ++ ((cl A0_2 n0_2 c0_2) ++ ((ci a0_3) ++ ((cb true) ++ (cl A0_5 n0_5 c0_5))))))) (i := 0) (pre := (([] : Cs))) (mid := ((ci 0) ++ ((cl none 0 0) ++ ((cl none 0 0) ++ ((ci 0) ++ ((cb false) ++ (cl none 0 0))))))) (post := (([] : Cs))) (ms := ((ci a0_0) ++ ((cl A0_1 n0_1 c0_1) ++ ((cl A0_2 n0_2 c0_2) ++ ((ci a0_3) ++ ((cb true) ++ (cl A0_5 n0_5 c0_5))))))) c5 rfl row57 (by first | rfl | simp only [aa, an, na, ca]) rfl rfl rfl rfl rfl (one_cat oneU (one_cat oneU (one_cat oneU (one_cat oneU (one_cat oneU oneU))))) rfl ?_
  intro i4 c6
  try dsimp only [List.set] at c6
  refine WL.as rfl (wn (CW.ret (QW.then_r ?_)))
  obtain ⟨rfl, rfl, rfl, rfl, rfl, rfl, rfl⟩ := H
  exact QW.retN2 rfl (Res.row rfl row57 c6 (i := 0) rfl rfl) (Res.tmp rfl) ⟨a5, A0_1, n0_1, c0_1, A0_2, n0_2, c0_2, A0_5, n0_5, c0_5, a4, (hb0_1.mono (fun _ h_ => a4.1 _ h_) (fun _ h_ => a4.1 _ h_)), (hb0_2.mono (fun _ h_ => a4.1 _ h_) (fun _ h_ => a4.1 _ h_)), (hb0_5.mono (fun _ h_ => a4.1 _ h_) (fun _ h_ => a4.1 _ h_)), rfl, (St.pickT (L := [_, _]) c6 [] (by decide))⟩
 have g6 : (a0_3 == 0) = false := (beq_eq_false_iff_ne.mpr g5)
 refine CW.cf rfl g6 ?_
 refine CW.skip (QW.then_n ?_)
 refine CW.sub [(1, .int .i64 a1), (2, .string a2), (3, .pointer (sp a0)), (6, .pointer (sp a3)), (7, .int .i64 0)] ⟨rfl, rfl, rfl, rfl, rfl, trivial⟩ ?_
 refine CW.seq (cr ?_)
 refine WL.v (Runs.fieldAddr (off := 3) (p := 3) fld57_3 rfl rfl rfl) ?_
 refine WL.v (Runs.load nagg3 rfl (b2.cell (k := 1) rfl (pa (.int .i64 a0_3) ((ci a0_0) ++ ((cl A0_1 n0_1 c0_1) ++ (cl A0_2 n0_2 c0_2))) ((cb a0_4) ++ (cl A0_5 n0_5 c0_5))))) ?_
 refine WL.v (Runs.gtr rfl rfl rfl) ?_
 refine wn ?_
 rcases H with ⟨g7, H⟩ | ⟨g7, H⟩
 ·have g8 : (decide (a0_3 > 0)) = true := (decide_eq_true g7)
  refine CW.ct rfl g8 ?_
  refine CW.region ?_
  refine WL.v (Runs.fieldAddr (off := 3) (p := 3) fld57_3 rfl rfl rfl) ?_
  refine WL.v (Runs.load nagg3 rfl (b2.cell (k := 1) rfl (pa (.int .i64 a0_3) ((ci a0_0) ++ ((cl A0_1 n0_1 c0_1) ++ (cl A0_2 n0_2 c0_2))) ((cb a0_4) ++ (cl A0_5 n0_5 c0_5))))) ?_
  refine WL.v (Runs.sub rfl rfl rfl) ?_
  refine WL.v (Runs.fieldAddr (off := 3) (p := 3) fld57_3 rfl rfl rfl) ?_
  refine WL.so (new := ((ci a0_0) ++ ((cl A0_1 n0_1 c0_1) ++ ((cl A0_2 n0_2 c0_2) ++ ((ci (IntKind.i64.wrap (a0_3 - 1))) ++ ((cb a0_4) ++ (cl A0_5 n0_5 c0_5))))))) (i := 1) (u0 := .int .i64 a0_3) (pre := ((ci a0_0) ++ ((cl A0_1 n0_1 c0_1) ++ (cl A0_2 n0_2 c0_2)))) (post := ((cb a0_4) ++ (cl A0_5 n0_5 c0_5))) b2 rfl cells3 (by first | rfl | simp only [aa, an, na, ca]) rfl rfl rfl rfl rfl ?_
  intro g9 c7
  try dsimp only [List.set] at c7
  refine wn ?_
  refine CW.sub [(1, .int .i64 a1), (2, .string a2), (3, .pointer (sp a0)), (6, .pointer (sp a3)), (7, .int .i64 0)] ⟨rfl, rfl, rfl, rfl, rfl, trivial⟩ ?_
  refine cr ?_
  refine WL.v (Runs.fieldAddr (off := 2) (p := 2) fld57_2 rfl rfl rfl) ?_
  refine WL.v (Runs.load nagg54 rfl (c7.cell (k := 1) rfl (pa (.slice A0_2 n0_2 c0_2) ((ci a0_0) ++ (cl A0_1 n0_1 c0_1)) ((ci (IntKind.i64.wrap (a0_3 - 1))) ++ ((cb a0_4) ++ (cl A0_5 n0_5 c0_5)))))) ?_
  refine WL.mv rfl (WL.mv rfl ?_)
  refine WL.v (Runs.build_seg (ps := [(0, 1), (1, 1)]) (cs := ((ci a1) ++ (ct a2))) plc145 zero145 rfl (.cons (ms := ((ci a1))) rfl rfl rfl (.one rfl rfl)) rfl rfl) ?_
  have i5 := St.hide (A := []) (B := [_, _]) (T := a5) (R := R) c7
  obtain ⟨h0, i6, H⟩ := H
  refine WL.call Wanted.none ent68 rfl (reliquaryref06_more.calls w g9 a5 (oM a3 0 none 0 0 none 0 0 0 false none 0 0 57 :: oM a0 a0_0 A0_1 n0_1 c0_1 A0_2 n0_2 c0_2 (IntKind.i64.wrap (a0_3 - 1)) a0_4 A0_5 n0_5 c0_5 57 :: R) l0_2 a1 a2 A0_2 n0_2 c0_2  i5 (hb0_2.mono (memo_T (B := [_, _]) (fun _ h_ => a4.1 _ h_)) (fun _ h_ => a4.1 _ h_)) h0 i6) ?_
  rintro _ i7 ⟨c8, a6, a7, a8, h5, b8, i8, i9, rfl, j0⟩
  have j1 : St w i7 (.sl a6 a8 a7 h5 145 2 :: oM a3 0 none 0 0 none 0 0 0 false none 0 0 57 :: oM a0 a0_0 A0_1 n0_1 c0_1 A0_2 n0_2 c0_2 (IntKind.i64.wrap (a0_3 - 1)) a0_4 A0_5 n0_5 c0_5 57 :: (c8 ++ R)) := St.unhide (A := [_]) (B := [_, _]) (T := c8) (R := R) j0
  refine ⟨_, rfl, ?_⟩
  refine WL.v (Runs.fieldAddr (off := 2) (p := 2) fld57_2 rfl rfl rfl) ?_
  refine WL.so (new := ((ci a0_0) ++ ((cl A0_1 n0_1 c0_1) ++ ((cl a6 a7 a8) ++ ((ci (IntKind.i64.wrap (a0_3 - 1))) ++ ((cb a0_4) ++ (cl A0_5 n0_5 c0_5))))))) (i := 2) (u0 := .slice A0_2 n0_2 c0_2) (pre := ((ci a0_0) ++ (cl A0_1 n0_1 c0_1))) (post := ((ci (IntKind.i64.wrap (a0_3 - 1))) ++ ((cb a0_4) ++ (cl A0_5 n0_5 c0_5)))) j1 rfl cells54 (by first | rfl | simp only [aa, an, na, ca]) rfl rfl rfl rfl rfl ?_
  intro c9 b9
  try dsimp only [List.set] at b9
  refine wn ?_
  refine CW.sub [(1, .int .i64 a1), (3, .pointer (sp a0)), (6, .pointer (sp a3)), (7, .int .i64 0)] ⟨rfl, rfl, rfl, rfl, trivial⟩ ?_
  refine cr ?_
  refine WL.v (Runs.load_mid row57 rfl b9 (i := 2) rfl (pm [] ((ci a0_0) ++ ((cl A0_1 n0_1 c0_1) ++ ((cl a6 a7 a8) ++ ((ci (IntKind.i64.wrap (a0_3 - 1))) ++ ((cb a0_4) ++ (cl A0_5 n0_5 c0_5)))))) []) rfl) ?_
  refine WL.mv rfl ?_
  have hb_57c := b9.cap (i := 0) rfl
  obtain ⟨b3, b4, j2, h1⟩ := St.freeze (A := []) (B := [_, _]) (T := c8) (R := R) b9
  have j3 : HS w b3 b3 a6 a7 a8 (f145 w) h0 := HS.mk i8 hb_57c (Hd.of_sl j2) (i9.mono (fun _ h_ => b4.1 _ h_))
  replace h1 : St w c9 (oM a3 0 none 0 0 none 0 0 0 false none 0 0 57 :: oM a0 a0_0 A0_1 n0_1 c0_1 a6 a7 a8 (IntKind.i64.wrap (a0_3 - 1)) a0_4 A0_5 n0_5 c0_5 57 :: (b3 ++ R)) := h1
  have j4 := St.hide (A := []) (B := [_, _]) (T := b3) (R := R) h1
  obtain ⟨d0, j5, j6, d1, d2, j7, j8, H⟩ := H
  refine WL.call Wanted.none ent69 rfl (reliquaryref06_noted.calls w c9 b3 (oM a3 0 none 0 0 none 0 0 0 false none 0 0 57 :: oM a0 a0_0 A0_1 n0_1 c0_1 a6 a7 a8 (IntKind.i64.wrap (a0_3 - 1)) a0_4 A0_5 n0_5 c0_5 57 :: R) a0_0 l0_1 h0 (IntKind.i64.wrap (a0_3 - 1)) a0_4 l0_5 2 a1 A0_1 n0_1 c0_1 a6 a7 a8 A0_5 n0_5 c0_5  j4 (hb0_1.mono (fun _ h_ => b4.1 _ (b8.1 _ (a4.1 _ h_))) (fun _ h_ => b4.1 _ (b8.1 _ (a4.1 _ h_)))) j3 (hb0_5.mono (fun _ h_ => b4.1 _ (b8.1 _ (a4.1 _ h_))) (fun _ h_ => b4.1 _ (b8.1 _ (a4.1 _ h_)))) d0 j5 j6 d1 d2 j7 j8) ?_
  rintro _ j9 ⟨d3, d4, d5, d6, d7, d8, d9, e0, e1, e2, k0, k1, k2, k3, rfl, k4⟩
  have k5 : St w j9 (oM a3 0 none 0 0 none 0 0 0 false none 0 0 57 :: oM a0 a0_0 A0_1 n0_1 c0_1 a6 a7 a8 (IntKind.i64.wrap (a0_3 - 1)) a0_4 A0_5 n0_5 c0_5 57 :: (d3 ++ R)) := St.unhide (A := []) (B := [_, _]) (T := d3) (R := R) k4
  refine ⟨_, rfl, ?_⟩
  refine WL.sm (new := ((ci d0) ++ ((cl d4 d5 d6) ++ ((cl d7 d8 d9) ++ ((ci d1) ++ ((cb d2) ++ (cl e0 e1 e2))))))) (i := 0) (pre := (([] : Cs))) (mid := ((ci 0) ++ ((cl none 0 0) ++ ((cl none 0 0) ++ ((ci 0) ++ ((cb false) ++ (cl none 0 0))))))) (post := (([] : Cs))) (ms := ((ci d0) ++ ((cl d4 d5 d6) ++ ((cl d7 d8 d9) ++ ((ci d1) ++ ((cb d2) ++ (cl e0 e1 e2))))))) k5 rfl row57 (by first | rfl | simp only [aa, an, na, ca]) rfl rfl rfl rfl rfl (one_cat oneU (one_cat oneU (one_cat oneU (one_cat oneU (one_cat oneU oneU))))) rfl ?_
  intro k6 e3
  try dsimp only [List.set] at e3
  refine WL.as rfl (wn (CW.ret ?_))
  obtain ⟨rfl, rfl, rfl, rfl, rfl, rfl, rfl⟩ := H
  exact QW.retN2 rfl (Res.row rfl row57 e3 (i := 0) rfl rfl) (Res.tmp rfl) ⟨d3, d4, d5, d6, d7, d8, d9, e0, e1, e2, (((a4.trans b8).trans b4).trans k0), k1, k2, k3, rfl, (St.pickT (L := [_, _]) e3 [] (by decide))⟩
 have g8 : (decide (a0_3 > 0)) = false := (decide_eq_false g7)
 refine CW.cf rfl g8 ?_
 refine CW.skip (QW.then_n (cr ?_))
 refine WL.v (Runs.fieldAddr (off := 2) (p := 2) fld57_2 rfl rfl rfl) ?_
 refine WL.v (Runs.load nagg54 rfl (b2.cell (k := 1) rfl (pa (.slice A0_2 n0_2 c0_2) ((ci a0_0) ++ (cl A0_1 n0_1 c0_1)) ((ci a0_3) ++ ((cb a0_4) ++ (cl A0_5 n0_5 c0_5)))))) ?_
 refine WL.mv rfl (WL.mv rfl ?_)
 refine WL.v (Runs.build_seg (ps := [(0, 1), (1, 1)]) (cs := ((ci a1) ++ (ct a2))) plc145 zero145 rfl (.cons (ms := ((ci a1))) rfl rfl rfl (.one rfl rfl)) rfl rfl) ?_
 have k7 := St.hide (A := []) (B := [_, _]) (T := a5) (R := R) b2
 obtain ⟨h2, k8, H⟩ := H
 refine WL.call Wanted.none ent68 rfl (reliquaryref06_more.calls w g2 a5 (oM a3 0 none 0 0 none 0 0 0 false none 0 0 57 :: oM a0 a0_0 A0_1 n0_1 c0_1 A0_2 n0_2 c0_2 a0_3 a0_4 A0_5 n0_5 c0_5 57 :: R) l0_2 a1 a2 A0_2 n0_2 c0_2  k7 (hb0_2.mono (memo_T (B := [_, _]) (fun _ h_ => a4.1 _ h_)) (fun _ h_ => a4.1 _ h_)) h2 k8) ?_
 rintro _ k9 ⟨e4, a9, b0, b1, h6, c0, l0, l1, rfl, l2⟩
 have l3 : St w k9 (.sl a9 b1 b0 h6 145 2 :: oM a3 0 none 0 0 none 0 0 0 false none 0 0 57 :: oM a0 a0_0 A0_1 n0_1 c0_1 A0_2 n0_2 c0_2 a0_3 a0_4 A0_5 n0_5 c0_5 57 :: (e4 ++ R)) := St.unhide (A := [_]) (B := [_, _]) (T := e4) (R := R) l2
 refine ⟨_, rfl, ?_⟩
 refine WL.v (Runs.fieldAddr (off := 2) (p := 2) fld57_2 rfl rfl rfl) ?_
 refine WL.so (new := ((ci a0_0) ++ ((cl A0_1 n0_1 c0_1) ++ ((cl a9 b0 b1) ++ ((ci a0_3) ++ ((cb a0_4) ++ (cl A0_5 n0_5 c0_5))))))) (i := 2) (u0 := .slice A0_2 n0_2 c0_2) (pre := ((ci a0_0) ++ (cl A0_1 n0_1 c0_1))) (post := ((ci a0_3) ++ ((cb a0_4) ++ (cl A0_5 n0_5 c0_5)))) l3 rfl cells54 (by first | rfl | simp only [aa, an, na, ca]) rfl rfl rfl rfl rfl ?_
 intro e5 c1
 try dsimp only [List.set] at c1
 refine wn ?_
 refine CW.sub [(1, .int .i64 a1), (3, .pointer (sp a0)), (6, .pointer (sp a3)), (7, .int .i64 0)] ⟨rfl, rfl, rfl, rfl, trivial⟩ ?_
 refine cr ?_
 refine WL.v (Runs.load_mid row57 rfl c1 (i := 2) rfl (pm [] ((ci a0_0) ++ ((cl A0_1 n0_1 c0_1) ++ ((cl a9 b0 b1) ++ ((ci a0_3) ++ ((cb a0_4) ++ (cl A0_5 n0_5 c0_5)))))) []) rfl) ?_
 refine WL.mv rfl ?_
 have hb_96c := c1.cap (i := 0) rfl
 obtain ⟨b5, b6, l4, h3⟩ := St.freeze (A := []) (B := [_, _]) (T := e4) (R := R) c1
 have l5 : HS w b5 b5 a9 b0 b1 (f145 w) h2 := HS.mk l0 hb_96c (Hd.of_sl l4) (l1.mono (fun _ h_ => b6.1 _ h_))
 replace h3 : St w e5 (oM a3 0 none 0 0 none 0 0 0 false none 0 0 57 :: oM a0 a0_0 A0_1 n0_1 c0_1 a9 b0 b1 a0_3 a0_4 A0_5 n0_5 c0_5 57 :: (b5 ++ R)) := h3
 have l6 := St.hide (A := []) (B := [_, _]) (T := b5) (R := R) h3
 obtain ⟨e6, l7, l8, e7, e8, l9, m0, H⟩ := H
 refine WL.call Wanted.none ent69 rfl (reliquaryref06_noted.calls w e5 b5 (oM a3 0 none 0 0 none 0 0 0 false none 0 0 57 :: oM a0 a0_0 A0_1 n0_1 c0_1 a9 b0 b1 a0_3 a0_4 A0_5 n0_5 c0_5 57 :: R) a0_0 l0_1 h2 a0_3 a0_4 l0_5 2 a1 A0_1 n0_1 c0_1 a9 b0 b1 A0_5 n0_5 c0_5  l6 (hb0_1.mono (fun _ h_ => b6.1 _ (c0.1 _ (a4.1 _ h_))) (fun _ h_ => b6.1 _ (c0.1 _ (a4.1 _ h_)))) l5 (hb0_5.mono (fun _ h_ => b6.1 _ (c0.1 _ (a4.1 _ h_))) (fun _ h_ => b6.1 _ (c0.1 _ (a4.1 _ h_)))) e6 l7 l8 e7 e8 l9 m0) ?_
 rintro _ m1 ⟨e9, f0, f1, f2, f3, f4, f5, f6, f7, f8, m2, m3, m4, m5, rfl, m6⟩
 have m7 : St w m1 (oM a3 0 none 0 0 none 0 0 0 false none 0 0 57 :: oM a0 a0_0 A0_1 n0_1 c0_1 a9 b0 b1 a0_3 a0_4 A0_5 n0_5 c0_5 57 :: (e9 ++ R)) := St.unhide (A := []) (B := [_, _]) (T := e9) (R := R) m6
 refine ⟨_, rfl, ?_⟩
 refine WL.sm (new := ((ci e6) ++ ((cl f0 f1 f2) ++ ((cl f3 f4 f5) ++ ((ci e7) ++ ((cb e8) ++ (cl f6 f7 f8))))))) (i := 0) (pre := (([] : Cs))) (mid := ((ci 0) ++ ((cl none 0 0) ++ ((cl none 0 0) ++ ((ci 0) ++ ((cb false) ++ (cl none 0 0))))))) (post := (([] : Cs))) (ms := ((ci e6) ++ ((cl f0 f1 f2) ++ ((cl f3 f4 f5) ++ ((ci e7) ++ ((cb e8) ++ (cl f6 f7 f8))))))) m7 rfl row57 (by first | rfl | simp only [aa, an, na, ca]) rfl rfl rfl rfl rfl (one_cat oneU (one_cat oneU (one_cat oneU (one_cat oneU (one_cat oneU oneU))))) rfl ?_
 intro m8 f9
 try dsimp only [List.set] at f9
 refine WL.as rfl (wn (CW.ret ?_))
 obtain ⟨rfl, rfl, rfl, rfl, rfl, rfl, rfl⟩ := H
 exact QW.retN2 rfl (Res.row rfl row57 f9 (i := 0) rfl rfl) (Res.tmp rfl) ⟨e9, f0, f1, f2, f3, f4, f5, f6, f7, f8, (((a4.trans c0).trans b6).trans m2), m3, m4, m5, rfl, (St.pickT (L := [_, _]) f9 [] (by decide))⟩
/-! ### reliquaryref02_right: function 75 -/
def reliquaryref02_right.rel (a0 : Int) (a1 : Int) (r0 : Int) : Prop := (0 ≤ a1 ∧ (0 ≤ (IntKind.u64.wrap (32 - a1)) ∧ (∃ a2 : Int, a2 = bits .or .u32 (shrI .u32 a0 a1) (shlI .u32 a0 (IntKind.u64.wrap (32 - a1))) ∧ r0 = a2)))
set_option maxHeartbeats 4000000 in
theorem reliquaryref02_right.calls (w : World) (a0 : Int) (a1 : Int)    (r0 : Int) (H : reliquaryref02_right.rel a0 a1 r0) :
  Calls Tryd.prog 75 #[.int .u32 a0, .int .u64 a1] w fun e w' => e = .returned (.int .u32 r0) ∧ St w w' [] := by
 refine CW.enter Tryd.func75 rfl (n := 13) rfl [.int .u32 a0, .int .u64 a1] (Nat.le_of_ble_eq_true rfl) ?_
 refine CW.sub [(0, .int .u32 a0), (1, .int .u64 a1)] ⟨rfl, rfl, trivial⟩ ?_
 have st0 : St w w [] := St.refl w
 refine cr (WL.as rfl (WL.nx (WL.mv rfl (WL.mv rfl ?_))))
 obtain ⟨a2, H⟩ := H
 refine WL.v (Runs.shr rfl rfl a2 rfl) ?_
 refine WL.mv rfl (WL.mv rfl ?_)
 refine WL.v (Runs.sub rfl rfl rfl) ?_
 obtain ⟨a3, H⟩ := H
 refine WL.v (Runs.shl rfl rfl a3 rfl) ?_
 obtain ⟨a4, a5, H⟩ := H
 refine WL.v (Runs.bor rfl rfl a5) ?_
 refine WL.as rfl (wn (CW.ret ?_))
 obtain rfl := H
 exact QW.ret1 rfl rfl ⟨rfl, st0.pick [] (by decide)⟩
/-! ### reliquaryref02_Rounds: function 76 -/
def reliquaryref02_Rounds.rel  (r0 : List Int) : Prop := (∃ a0 : List Int, a0 = [1116352408, 1899447441, 3049323471, 3921009573, 961987163, 1508970993, 2453635748, 2870763221, 3624381080, 310598401, 607225278, 1426881987, 1925078388, 2162078206, 2614888103, 3248222580, 3835390401, 4022224774, 264347078, 604807628, 770255983, 1249150122, 1555081692, 1996064986, 2554220882, 2821834349, 2952996808, 3210313671, 3336571891, 3584528711, 113926993, 338241895, 666307205, 773529912, 1294757372, 1396182291, 1695183700, 1986661051, 2177026350, 2456956037, 2730485921, 2820302411, 3259730800, 3345764771, 3516065817, 3600352804, 4094571909, 275423344, 430227734, 506948616, 659060556, 883997877, 958139571, 1322822218, 1537002063, 1747873779, 1955562222, 2024104815, 2227730452, 2361852424, 2428436474, 2756734187, 3204031479, 3329325298] ∧ r0 = a0)
set_option maxHeartbeats 4000000 in
theorem reliquaryref02_Rounds.calls (w : World)     (r0 : List Int) (H : reliquaryref02_Rounds.rel  r0) :
  Calls Tryd.prog 76 #[] w fun e w' => r0.length = 64 ∧ e = .returned (.agg (iv .u32 r0).toArray) ∧ St w w' [] := by
 refine CW.enter Tryd.func76 rfl (n := 2) rfl [] (Nat.le_of_ble_eq_true rfl) ?_
 refine CW.sub [] trivial ?_
 have st0 : St w w [] := St.refl w
 refine cr ?_
 refine WL.alloc st0 arr154.zero ?_
 intro a3 a6 a4
 refine WL.nx ?_
 obtain ⟨a2, a0, H⟩ := H
 refine WL.v (Runs.build_arr (xs := a2) arr154 rfl rfl (by rw [a0]; rfl)) ?_
 refine WL.store_arr (i := 0) a4 rfl arr154 rfl (by rw [iv_length]; exact (List.length_replicate ..)) (by rw [a0]; rfl) rfl ?_
 intro a5 a1
 try dsimp only [List.set] at a1
 refine wn (CW.ret ?_)
 obtain rfl := H
 exact QW.retc rfl arr154 rfl (a1.blk (i := 0) rfl) (by rw [a0]; rfl) ⟨(by rw [a0]; rfl), rfl, a1.pick [] (by decide)⟩
/-! ### reliquaryref02_block: function 57 -/
def reliquaryref02_block.L4 (a3 : List Int) (a1 : Int) (a4 : Int) (a5 : Int) (a6 : Int) (a7 : Int) (a8 : Int) (K_L3 : (List Int) → Int → Prop) : Nat → (List Int) → Int → Prop
 | 0, _, _ => False
 | kL4 + 1, a2, a0 => ((a0 > 0 ∧ ((0 ≤ (IntKind.i64.wrap (a0 - 1)) ∧ (IntKind.i64.wrap (a0 - 1)) < (8 : Int)) ∧ ((0 ≤ a0 ∧ a0 < (8 : Int)) ∧ (∃ a9 : List Int, a9 = List.set a2 (a0.toNat) (gn a2 ((IntKind.i64.wrap (a0 - 1)).toNat)) ∧ reliquaryref02_block.L4 a3 a1 a4 a5 a6 a7 a8 K_L3 kL4 a9 (IntKind.i64.wrap (a0 - 1)))))) ∨ (¬ (a0 > 0) ∧ (∃ b0 : Int, b0 = IntKind.u32.wrap ((gn a2 4) + (IntKind.u32.wrap (a4 + (gn a3 (a1.toNat))))) ∧ (∃ b1 : List Int, b1 = List.set a2 4 b0 ∧ (∃ b2 : Int, b2 = IntKind.u32.wrap ((IntKind.u32.wrap (a4 + (gn a3 (a1.toNat)))) + (bits .xor .u32 (bits .xor .u32 a5 a6) a7)) ∧ (∃ b3 : List Int, b3 = List.set b1 0 (IntKind.u32.wrap (b2 + a8)) ∧ K_L3 b3 (IntKind.i64.wrap (a1 + 1))))))))
def reliquaryref02_block.L5 (l0 : List Int) (r0 : List Int) : Nat → (List Int) → Int → Prop
 | 0, _, _ => False
 | kL5 + 1, a1, a0 => ((a0 < 8 ∧ ((0 ≤ a0 ∧ a0 < (8 : Int)) ∧ ((0 ≤ a0 ∧ a0 < (8 : Int)) ∧ (∃ a2 : Int, a2 = IntKind.u32.wrap ((gn a1 (a0.toNat)) + (gn l0 (a0.toNat))) ∧ ((0 ≤ a0 ∧ a0 < (8 : Int)) ∧ (∃ a3 : List Int, a3 = List.set a1 (a0.toNat) a2 ∧ reliquaryref02_block.L5 l0 r0 kL5 a3 (IntKind.i64.wrap (a0 + 1)))))))) ∨ (¬ (a0 < 8) ∧ r0 = a1))
def reliquaryref02_block.L3 (l0 : List Int) (r0 : List Int) (a2 : List Int) (a3 : List Int) : Nat → (List Int) → Int → Prop
 | 0, _, _ => False
 | kL3 + 1, a0, a1 => ((a1 < 64 ∧ (∃ (a4 : Int), reliquaryref02_right.rel (gn a0 4) 6 a4 ∧ (∃ (a5 : Int), reliquaryref02_right.rel (gn a0 4) 11 a5 ∧ (∃ (a6 : Int), reliquaryref02_right.rel (gn a0 4) 25 a6 ∧ (∃ a7 : Int, a7 = bits .xor .u32 (bits .and .u32 (gn a0 4) (gn a0 5)) (bits .and .u32 (notI .u32 (gn a0 4)) (gn a0 6)) ∧ (∃ a8 : Int, a8 = IntKind.u32.wrap ((gn a0 7) + (bits .xor .u32 (bits .xor .u32 a4 a5) a6)) ∧ ((0 ≤ a1 ∧ a1 < (64 : Int)) ∧ (∃ a9 : Int, a9 = IntKind.u32.wrap ((IntKind.u32.wrap (a8 + a7)) + (gn a3 (a1.toNat))) ∧ ((0 ≤ a1 ∧ a1 < (64 : Int)) ∧ (∃ (b0 : Int), reliquaryref02_right.rel (gn a0 0) 2 b0 ∧ (∃ (b1 : Int), reliquaryref02_right.rel (gn a0 0) 13 b1 ∧ (∃ (b2 : Int), reliquaryref02_right.rel (gn a0 0) 22 b2 ∧ (∃ b3 : Int, b3 = bits .xor .u32 (bits .and .u32 (gn a0 0) (gn a0 1)) (bits .and .u32 (gn a0 0) (gn a0 2)) ∧ (∃ b4 : Int, b4 = bits .xor .u32 b3 (bits .and .u32 (gn a0 1) (gn a0 2)) ∧ (∃ k_ : Nat, reliquaryref02_block.L4 a2 a1 a9 b0 b1 b2 b4 (reliquaryref02_block.L3 l0 r0 a2 a3 kL3) k_ a0 7))))))))))))))) ∨ (¬ (a1 < 64) ∧ (∃ k_ : Nat, reliquaryref02_block.L5 l0 r0 k_ a0 0)))
def reliquaryref02_block.L2 (l0 : List Int) (r0 : List Int) : Nat → (List Int) → Int → Prop
 | 0, _, _ => False
 | kL2 + 1, a1, a0 => ((a0 < 64 ∧ ((0 ≤ (IntKind.i64.wrap (a0 - 15)) ∧ (IntKind.i64.wrap (a0 - 15)) < (64 : Int)) ∧ (∃ (a2 : Int), reliquaryref02_right.rel (gn a1 ((IntKind.i64.wrap (a0 - 15)).toNat)) 7 a2 ∧ ((0 ≤ (IntKind.i64.wrap (a0 - 15)) ∧ (IntKind.i64.wrap (a0 - 15)) < (64 : Int)) ∧ (∃ (a3 : Int), reliquaryref02_right.rel (gn a1 ((IntKind.i64.wrap (a0 - 15)).toNat)) 18 a3 ∧ ((0 ≤ (IntKind.i64.wrap (a0 - 15)) ∧ (IntKind.i64.wrap (a0 - 15)) < (64 : Int)) ∧ (∃ a4 : Int, a4 = bits .xor .u32 (bits .xor .u32 a2 a3) (shrI .u32 (gn a1 ((IntKind.i64.wrap (a0 - 15)).toNat)) 3) ∧ ((0 ≤ (IntKind.i64.wrap (a0 - 2)) ∧ (IntKind.i64.wrap (a0 - 2)) < (64 : Int)) ∧ (∃ (a5 : Int), reliquaryref02_right.rel (gn a1 ((IntKind.i64.wrap (a0 - 2)).toNat)) 17 a5 ∧ ((0 ≤ (IntKind.i64.wrap (a0 - 2)) ∧ (IntKind.i64.wrap (a0 - 2)) < (64 : Int)) ∧ (∃ (a6 : Int), reliquaryref02_right.rel (gn a1 ((IntKind.i64.wrap (a0 - 2)).toNat)) 19 a6 ∧ ((0 ≤ (IntKind.i64.wrap (a0 - 2)) ∧ (IntKind.i64.wrap (a0 - 2)) < (64 : Int)) ∧ (∃ a7 : Int, a7 = bits .xor .u32 (bits .xor .u32 a5 a6) (shrI .u32 (gn a1 ((IntKind.i64.wrap (a0 - 2)).toNat)) 10) ∧ ((0 ≤ (IntKind.i64.wrap (a0 - 16)) ∧ (IntKind.i64.wrap (a0 - 16)) < (64 : Int)) ∧ (∃ a8 : Int, a8 = IntKind.u32.wrap ((gn a1 ((IntKind.i64.wrap (a0 - 16)).toNat)) + a4) ∧ ((0 ≤ (IntKind.i64.wrap (a0 - 7)) ∧ (IntKind.i64.wrap (a0 - 7)) < (64 : Int)) ∧ (∃ a9 : Int, a9 = IntKind.u32.wrap (a8 + (gn a1 ((IntKind.i64.wrap (a0 - 7)).toNat))) ∧ ((0 ≤ a0 ∧ a0 < (64 : Int)) ∧ (∃ b0 : List Int, b0 = List.set a1 (a0.toNat) (IntKind.u32.wrap (a9 + a7)) ∧ reliquaryref02_block.L2 l0 r0 kL2 b0 (IntKind.i64.wrap (a0 + 1))))))))))))))))))))) ∨ (¬ (a0 < 64) ∧ (∃ (b1 : List Int), reliquaryref02_Rounds.rel  b1 ∧ (∃ k_ : Nat, reliquaryref02_block.L3 l0 r0 a1 b1 k_ l0 0))))
def reliquaryref02_block.L1 (l0 : List Int) (l1 : List Int) (a2 : Int) (r0 : List Int) : Nat → (List Int) → Int → Prop
 | 0, _, _ => False
 | kL1 + 1, a5, a0 => ((a0 < 16 ∧ ((0 ≤ (IntKind.i64.wrap (a2 + (IntKind.i64.wrap (4 * a0)))) ∧ (IntKind.i64.wrap (a2 + (IntKind.i64.wrap (4 * a0)))) < (l1.length : Int)) ∧ (∃ a6 : Int, a6 = IntKind.u32.wrap (gn l1 ((IntKind.i64.wrap (a2 + (IntKind.i64.wrap (4 * a0)))).toNat)) ∧ (∃ a1 : Int, a1 = IntKind.i64.wrap ((IntKind.i64.wrap (a2 + (IntKind.i64.wrap (4 * a0)))) + 1) ∧ ((0 ≤ a1 ∧ a1 < (l1.length : Int)) ∧ (∃ a7 : Int, a7 = IntKind.u32.wrap ((shlI .u32 a6 24) + (shlI .u32 (IntKind.u32.wrap (gn l1 (a1.toNat))) 16)) ∧ (∃ a3 : Int, a3 = IntKind.i64.wrap ((IntKind.i64.wrap (a2 + (IntKind.i64.wrap (4 * a0)))) + 2) ∧ ((0 ≤ a3 ∧ a3 < (l1.length : Int)) ∧ (∃ a8 : Int, a8 = IntKind.u32.wrap (a7 + (shlI .u32 (IntKind.u32.wrap (gn l1 (a3.toNat))) 8)) ∧ (∃ a4 : Int, a4 = IntKind.i64.wrap ((IntKind.i64.wrap (a2 + (IntKind.i64.wrap (4 * a0)))) + 3) ∧ ((0 ≤ a4 ∧ a4 < (l1.length : Int)) ∧ (∃ a9 : Int, a9 = IntKind.u32.wrap (a8 + (IntKind.u32.wrap (gn l1 (a4.toNat)))) ∧ ((0 ≤ a0 ∧ a0 < (64 : Int)) ∧ (∃ b0 : List Int, b0 = List.set a5 (a0.toNat) a9 ∧ reliquaryref02_block.L1 l0 l1 a2 r0 kL1 b0 (IntKind.i64.wrap (a0 + 1)))))))))))))))) ∨ (¬ (a0 < 16) ∧ (∃ k_ : Nat, reliquaryref02_block.L2 l0 r0 k_ a5 16)))
def reliquaryref02_block.rel (l0 : List Int) (l1 : List Int) (a2 : Int) (r0 : List Int) : Prop := (∃ k_ : Nat, reliquaryref02_block.L1 l0 l1 a2 r0 k_ (List.replicate 64 (0 : Int)) 0)
set_option maxHeartbeats 4000000 in
theorem reliquaryref02_block.calls (w : World) (l0 : List Int) (l1 : List Int) (a2 : Int) (A1 : Option Addr) (n1 : Nat) (c1 : Nat)  (hl0 : l0.length = 8) (hs1 : Src w A1 (iv .u8 l1)) (hn1 : n1 = l1.length) (hc1 : n1 ≤ c1) (r0 : List Int) (H : reliquaryref02_block.rel l0 l1 a2 r0) :
  Calls Tryd.prog 57 #[.agg (iv .u32 l0).toArray, .slice A1 n1 c1, .int .i64 a2] w fun e w' => r0.length = 8 ∧ e = .returned (.agg (iv .u32 r0).toArray) ∧ St w w' [] := by
 refine CW.enter Tryd.func57 rfl (n := 223) rfl [.agg (iv .u32 l0).toArray, .slice A1 n1 c1, .int .i64 a2] (Nat.le_of_ble_eq_true rfl) ?_
 refine CW.sub [(0, .agg (iv .u32 l0).toArray), (1, .slice A1 n1 c1), (2, .int .i64 a2)] ⟨rfl, rfl, rfl, trivial⟩ ?_
 have st0 : St w w [] := St.refl w
 refine cr ?_
 refine WL.box st0 rfl rfl ?_
 intro a5 w0 i5
 refine WL.alloc i5 arr134.zero ?_
 intro a4 w1 i6
 refine WL.nx ?_
 refine WL.alloc i6 arr154.zero ?_
 intro a6 w2 i7
 refine wn (CW.seq (cr (WL.as rfl (wn (CW.block ?_)))))
 obtain ⟨i8, H⟩ := H
 refine CW.sub [(1, .slice A1 n1 c1), (2, .int .i64 a2), (3, .pointer (sp a5)), (6, .pointer (sp a4)), (7, .pointer (sp a6)), (8, .int .i64 0)] (by repeat' constructor) ?_
 refine CW.loop (fun kL1 l_ w_ => ∃ (c8 : List Int) (b5 : Int), l_ = [(1, .slice A1 n1 c1), (2, .int .i64 a2), (3, .pointer (sp a5)), (6, .pointer (sp a4)), (7, .pointer (sp a6)), (8, .int .i64 b5)] ∧ reliquaryref02_block.L1 l0 l1 a2 r0 kL1 c8 b5 ∧ (c8.length = 64) ∧ St w w_ [.cells a6 (iv .u32 c8) 154, .cells a4 (iv .u32 (List.replicate 8 (0 : Int))) 134, .cells a5 (iv .u32 l0) 134]) (k := i8) ⟨List.replicate 64 (0 : Int), 0, rfl, H, (List.length_replicate ..), i7⟩ (fun _ _ h => by obtain ⟨_, _, _, h, _⟩ := h; exact h.elim) ?_
 rintro kL1 w3 w4 ⟨c8, b5, rfl, H, d8, c9⟩
 refine CW.seq (cr (WL.mv rfl ?_))
 refine WL.v (Runs.lss rfl rfl rfl) ?_
 refine wn ?_
 rcases H with ⟨d9, H⟩ | ⟨d9, H⟩
 ·have e0 : (decide (b5 < 16)) = true := (decide_eq_true d9)
  refine CW.ct rfl e0 ?_
  refine CW.skip (QW.then_n (CW.seq (CW.block ?_)))
  refine CW.region_qt 43 wide (by kernel_rfl) c9 ?_
  refine HL.mv rfl (HL.mv rfl (HL.mv rfl (HL.mv rfl ?_)))
  refine HL.v (fun wq sq => (Runs.mul rfl rfl rfl)) ?_
  refine HL.v (fun wq sq => (Runs.add rfl rfl rfl)) ?_
  obtain ⟨⟨i9, j0⟩, H⟩ := H
  obtain ⟨w5, g4⟩ := (hs1.ext c9).addr_iv ((IntKind.i64.wrap (a2 + (IntKind.i64.wrap (4 * b5)))).toNat) (by omega)
  refine HL.v (fun wq sq => (Runs.indexAddr Tryd.underlying25 cells5 (by decide) rfl g4 rfl i9 (by rw [hn1]; exact j0) (o := (IntKind.i64.wrap (a2 + (IntKind.i64.wrap (4 * b5)))).toNat) (by first | rfl | omega))) ?_
  refine HL.v (fun wq sq => (Runs.load nagg5 rfl ((hs1.ext sq).cell_iv g4 (by omega)))) ?_
  obtain ⟨w6, j1, H⟩ := H
  refine HL.v (fun wq sq => (Runs.conv Tryd.underlying24 ⟨_, Tryd.underlying5⟩ rfl j1)) ?_
  refine HL.v (fun wq sq => (Runs.shl rfl rfl (by decide) rfl)) ?_
  refine HL.mv rfl (HL.mv rfl (HL.mv rfl ?_))
  refine HL.v (fun wq sq => (Runs.mul rfl rfl rfl)) ?_
  refine HL.v (fun wq sq => (Runs.add rfl rfl rfl)) ?_
  obtain ⟨g5, j2, H⟩ := H
  refine HL.v (fun wq sq => (Runs.add rfl rfl j2)) ?_
  obtain ⟨⟨j3, j4⟩, H⟩ := H
  obtain ⟨w7, g6⟩ := (hs1.ext c9).addr_iv (g5.toNat) (by omega)
  refine HL.v (fun wq sq => (Runs.indexAddr Tryd.underlying25 cells5 (by decide) rfl g6 rfl j3 (by rw [hn1]; exact j4) (o := (g5).toNat) (by first | rfl | omega))) ?_
  refine HL.v (fun wq sq => (Runs.load nagg5 rfl ((hs1.ext sq).cell_iv g6 (by omega)))) ?_
  refine HL.v (fun wq sq => (Runs.conv Tryd.underlying24 ⟨_, Tryd.underlying5⟩ rfl rfl)) ?_
  refine HL.v (fun wq sq => (Runs.shl rfl rfl (by decide) rfl)) ?_
  obtain ⟨w8, j5, H⟩ := H
  refine HL.v (fun wq sq => (Runs.add rfl rfl j5)) ?_
  refine HL.mv rfl (HL.mv rfl (HL.mv rfl ?_))
  refine HL.v (fun wq sq => (Runs.mul rfl rfl rfl)) ?_
  refine HL.v (fun wq sq => (Runs.add rfl rfl rfl)) ?_
  obtain ⟨g7, j6, H⟩ := H
  refine HL.v (fun wq sq => (Runs.add rfl rfl j6)) ?_
  obtain ⟨⟨j7, j8⟩, H⟩ := H
  obtain ⟨w9, g8⟩ := (hs1.ext c9).addr_iv (g7.toNat) (by omega)
  refine HL.v (fun wq sq => (Runs.indexAddr Tryd.underlying25 cells5 (by decide) rfl g8 rfl j7 (by rw [hn1]; exact j8) (o := (g7).toNat) (by first | rfl | omega))) ?_
  refine HL.v (fun wq sq => (Runs.load nagg5 rfl ((hs1.ext sq).cell_iv g8 (by omega)))) ?_
  refine HL.v (fun wq sq => (Runs.conv Tryd.underlying24 ⟨_, Tryd.underlying5⟩ rfl rfl)) ?_
  refine HL.v (fun wq sq => (Runs.shl rfl rfl (by decide) rfl)) ?_
  obtain ⟨x0, j9, H⟩ := H
  refine HL.v (fun wq sq => (Runs.add rfl rfl j9)) ?_
  refine HL.mv rfl (HL.mv rfl (HL.mv rfl ?_))
  refine HL.v (fun wq sq => (Runs.mul rfl rfl rfl)) ?_
  refine HL.v (fun wq sq => (Runs.add rfl rfl rfl)) ?_
  obtain ⟨g9, k0, H⟩ := H
  refine HL.v (fun wq sq => (Runs.add rfl rfl k0)) ?_
  obtain ⟨⟨k1, k2⟩, H⟩ := H
  obtain ⟨x1, h0⟩ := (hs1.ext c9).addr_iv (g9.toNat) (by omega)
  refine HL.v (fun wq sq => (Runs.indexAddr Tryd.underlying25 cells5 (by decide) rfl h0 rfl k1 (by rw [hn1]; exact k2) (o := (g9).toNat) (by first | rfl | omega))) ?_
  refine HL.v (fun wq sq => (Runs.load nagg5 rfl ((hs1.ext sq).cell_iv h0 (by omega)))) ?_
  refine HL.v (fun wq sq => (Runs.conv Tryd.underlying24 ⟨_, Tryd.underlying5⟩ rfl rfl)) ?_
  obtain ⟨k3, k4, H⟩ := H
  refine HL.v (fun wq sq => (Runs.add rfl rfl k4)) ?_
  obtain ⟨⟨k5, k6⟩, H⟩ := H
  refine HL.v (fun wq sq => (Runs.indexAddr_blk arr154 rfl rfl k5 k6 (o := (b5).toNat) (by first | rfl | omega))) ?_
  refine HL.nil ?_
  generalize e_ : List.drop 43 _ = z_
  intro x2 k7
  subst e_
  obtain ⟨e1, h1, H⟩ := H
  have k8 : e1.length = 64 := by rw [h1, List.length_set]; exact d8
  refine WL.store_cells (i := 0) k7 rfl cells24 rfl (by rw [iv_length]; have := d8; omega) rfl rfl ?_
  intro k9 e2
  have e2' : St w k9 [.cells a6 (iv .u32 e1) 154, .cells a4 (iv .u32 (List.replicate 8 (0 : Int))) 134, .cells a5 (iv .u32 l0) 134] := by rw [h1, ← iv_set .u32 c8 (b5.toNat) k3]; exact e2
  refine WL.nil (QW.blk_n (QW.then_n (CW.region (WL.mv rfl ?_))))
  refine WL.v (Runs.add rfl rfl rfl) ?_
  refine WL.as rfl (WL.nil ?_)
  exact QW.at _ (by repeat' constructor) ⟨e1, IntKind.i64.wrap (b5 + 1), rfl, H, k8, e2'⟩
 have e0 : (decide (b5 < 16)) = false := (decide_eq_false d9)
 refine CW.cf rfl e0 ?_
 refine CW.exit (QW.then_x (QW.then_x (QW.blk_x (QW.then_n (CW.seq (cr (WL.as rfl (wn (CW.block ?_)))))))))
 obtain ⟨l2, H⟩ := H
 refine CW.sub [(3, .pointer (sp a5)), (6, .pointer (sp a4)), (7, .pointer (sp a6)), (9, .int .i64 16)] ⟨rfl, rfl, rfl, rfl, trivial⟩ ?_
 refine CW.loop (fun kL2 l_ w_ => ∃ (a3 : List Int) (b0 : Int), l_ = [(3, .pointer (sp a5)), (6, .pointer (sp a4)), (7, .pointer (sp a6)), (9, .int .i64 b0)] ∧ reliquaryref02_block.L2 l0 r0 kL2 a3 b0 ∧ (a3.length = 64) ∧ St w w_ [.cells a6 (iv .u32 a3) 154, .cells a4 (iv .u32 (List.replicate 8 (0 : Int))) 134, .cells a5 (iv .u32 l0) 134]) (k := l2) ⟨c8, 16, rfl, H, d8, c9⟩ (fun _ _ h => by obtain ⟨_, _, _, h, _⟩ := h; exact h.elim) ?_
 rintro kL2 x3 l3 ⟨a3, b0, rfl, H, b1, h2⟩
 refine CW.seq (cr (WL.mv rfl ?_))
 refine WL.v (Runs.lss rfl rfl rfl) ?_
 refine wn ?_
 rcases H with ⟨e3, H⟩ | ⟨e3, H⟩
 ·have e4 : (decide (b0 < 64)) = true := (decide_eq_true e3)
  refine CW.ct rfl e4 ?_
  refine CW.skip (QW.then_n (CW.seq (CW.block (CW.seq ?_))))
  refine CW.region_qa wide (by kernel_rfl) h2 ?_
  refine HL.mv rfl ?_
  refine HL.v (fun wq sq => (Runs.sub rfl rfl rfl)) ?_
  obtain ⟨⟨l4, l5⟩, H⟩ := H
  refine HL.v (fun wq sq => (Runs.indexAddr_blk arr154 rfl rfl l4 l5 (o := (IntKind.i64.wrap (b0 - 15)).toNat) (by first | rfl | omega))) ?_
  refine HL.v (fun wq sq => (Runs.load nagg24 rfl (sq.cell_iv (i := 0) rfl (by have := b1; omega)))) ?_
  obtain ⟨l6, l7, H⟩ := H
  refine HL.call Wanted.none ent75 rfl (fun wq sq => (reliquaryref02_right.calls wq (gn a3 ((IntKind.i64.wrap (b0 - 15)).toNat)) 7 l6 l7).mono (by rintro _ _ ⟨rfl, sc⟩; exact ⟨rfl, sq.call sc⟩)) ?_
  refine HL.mv rfl ?_
  refine HL.v (fun wq sq => (Runs.sub rfl rfl rfl)) ?_
  obtain ⟨⟨l8, l9⟩, H⟩ := H
  refine HL.v (fun wq sq => (Runs.indexAddr_blk arr154 rfl rfl l8 l9 (o := (IntKind.i64.wrap (b0 - 15)).toNat) (by first | rfl | omega))) ?_
  refine HL.v (fun wq sq => (Runs.load nagg24 rfl (sq.cell_iv (i := 0) rfl (by have := b1; omega)))) ?_
  obtain ⟨m0, m1, H⟩ := H
  refine HL.call Wanted.none ent75 rfl (fun wq sq => (reliquaryref02_right.calls wq (gn a3 ((IntKind.i64.wrap (b0 - 15)).toNat)) 18 m0 m1).mono (by rintro _ _ ⟨rfl, sc⟩; exact ⟨rfl, sq.call sc⟩)) ?_
  refine HL.v (fun wq sq => (Runs.bxor rfl rfl rfl)) ?_
  refine HL.mv rfl ?_
  refine HL.v (fun wq sq => (Runs.sub rfl rfl rfl)) ?_
  obtain ⟨⟨m2, m3⟩, H⟩ := H
  refine HL.v (fun wq sq => (Runs.indexAddr_blk arr154 rfl rfl m2 m3 (o := (IntKind.i64.wrap (b0 - 15)).toNat) (by first | rfl | omega))) ?_
  refine HL.v (fun wq sq => (Runs.load nagg24 rfl (sq.cell_iv (i := 0) rfl (by have := b1; omega)))) ?_
  refine HL.v (fun wq sq => (Runs.shr rfl rfl (by decide) rfl)) ?_
  obtain ⟨x4, m4, H⟩ := H
  refine HL.v (fun wq sq => (Runs.bxor rfl rfl m4)) ?_
  refine HL.as rfl ?_
  refine HL.nil (fun x5 m5 => ?_)
  refine wn (CW.seq ?_)
  refine CW.region_qa wide (by kernel_rfl) m5 ?_
  refine HL.mv rfl ?_
  refine HL.v (fun wq sq => (Runs.sub rfl rfl rfl)) ?_
  obtain ⟨⟨m6, m7⟩, H⟩ := H
  refine HL.v (fun wq sq => (Runs.indexAddr_blk arr154 rfl rfl m6 m7 (o := (IntKind.i64.wrap (b0 - 2)).toNat) (by first | rfl | omega))) ?_
  refine HL.v (fun wq sq => (Runs.load nagg24 rfl (sq.cell_iv (i := 0) rfl (by have := b1; omega)))) ?_
  obtain ⟨m8, m9, H⟩ := H
  refine HL.call Wanted.none ent75 rfl (fun wq sq => (reliquaryref02_right.calls wq (gn a3 ((IntKind.i64.wrap (b0 - 2)).toNat)) 17 m8 m9).mono (by rintro _ _ ⟨rfl, sc⟩; exact ⟨rfl, sq.call sc⟩)) ?_
  refine HL.mv rfl ?_
  refine HL.v (fun wq sq => (Runs.sub rfl rfl rfl)) ?_
  obtain ⟨⟨n0, n2⟩, H⟩ := H
  refine HL.v (fun wq sq => (Runs.indexAddr_blk arr154 rfl rfl n0 n2 (o := (IntKind.i64.wrap (b0 - 2)).toNat) (by first | rfl | omega))) ?_
  refine HL.v (fun wq sq => (Runs.load nagg24 rfl (sq.cell_iv (i := 0) rfl (by have := b1; omega)))) ?_
  obtain ⟨n3, n4, H⟩ := H
  refine HL.call Wanted.none ent75 rfl (fun wq sq => (reliquaryref02_right.calls wq (gn a3 ((IntKind.i64.wrap (b0 - 2)).toNat)) 19 n3 n4).mono (by rintro _ _ ⟨rfl, sc⟩; exact ⟨rfl, sq.call sc⟩)) ?_
  refine HL.v (fun wq sq => (Runs.bxor rfl rfl rfl)) ?_
  refine HL.mv rfl ?_
  refine HL.v (fun wq sq => (Runs.sub rfl rfl rfl)) ?_
  obtain ⟨⟨n5, n6⟩, H⟩ := H
  refine HL.v (fun wq sq => (Runs.indexAddr_blk arr154 rfl rfl n5 n6 (o := (IntKind.i64.wrap (b0 - 2)).toNat) (by first | rfl | omega))) ?_
  refine HL.v (fun wq sq => (Runs.load nagg24 rfl (sq.cell_iv (i := 0) rfl (by have := b1; omega)))) ?_
  refine HL.v (fun wq sq => (Runs.shr rfl rfl (by decide) rfl)) ?_
  obtain ⟨n7, n8, H⟩ := H
  refine HL.v (fun wq sq => (Runs.bxor rfl rfl n8)) ?_
  refine HL.as rfl ?_
  refine HL.nil (fun x6 n9 => ?_)
  refine wn ?_
  refine CW.region_qt 15 wide (by kernel_rfl) n9 ?_
  refine HL.mv rfl (HL.mv rfl ?_)
  refine HL.v (fun wq sq => (Runs.sub rfl rfl rfl)) ?_
  obtain ⟨⟨o0, o1⟩, H⟩ := H
  refine HL.v (fun wq sq => (Runs.indexAddr_blk arr154 rfl rfl o0 o1 (o := (IntKind.i64.wrap (b0 - 16)).toNat) (by first | rfl | omega))) ?_
  refine HL.v (fun wq sq => (Runs.load nagg24 rfl (sq.cell_iv (i := 0) rfl (by have := b1; omega)))) ?_
  refine HL.mv rfl ?_
  obtain ⟨x7, o2, H⟩ := H
  refine HL.v (fun wq sq => (Runs.add rfl rfl o2)) ?_
  refine HL.mv rfl ?_
  refine HL.v (fun wq sq => (Runs.sub rfl rfl rfl)) ?_
  obtain ⟨⟨o3, o4⟩, H⟩ := H
  refine HL.v (fun wq sq => (Runs.indexAddr_blk arr154 rfl rfl o3 o4 (o := (IntKind.i64.wrap (b0 - 7)).toNat) (by first | rfl | omega))) ?_
  refine HL.v (fun wq sq => (Runs.load nagg24 rfl (sq.cell_iv (i := 0) rfl (by have := b1; omega)))) ?_
  obtain ⟨o5, o6, H⟩ := H
  refine HL.v (fun wq sq => (Runs.add rfl rfl o6)) ?_
  refine HL.mv rfl ?_
  refine HL.v (fun wq sq => (Runs.add rfl rfl rfl)) ?_
  obtain ⟨⟨o7, o8⟩, H⟩ := H
  refine HL.v (fun wq sq => (Runs.indexAddr_blk arr154 rfl rfl o7 o8 (o := (b0).toNat) (by first | rfl | omega))) ?_
  refine HL.nil (fun x8 o9 => ?_)
  obtain ⟨e5, h3, H⟩ := H
  have p0 : e5.length = 64 := by rw [h3, List.length_set]; exact b1
  refine WL.store_cells (i := 0) o9 rfl cells24 rfl (by rw [iv_length]; have := b1; omega) rfl rfl ?_
  intro p1 e6
  have e6' : St w p1 [.cells a6 (iv .u32 e5) 154, .cells a4 (iv .u32 (List.replicate 8 (0 : Int))) 134, .cells a5 (iv .u32 l0) 134] := by rw [h3, ← iv_set .u32 a3 (b0.toNat) (IntKind.u32.wrap (o5 + n7))]; exact e6
  refine WL.nil (QW.blk_n (QW.then_n (CW.region (WL.mv rfl ?_))))
  refine WL.v (Runs.add rfl rfl rfl) ?_
  refine WL.as rfl (WL.nil ?_)
  exact QW.at _ (by repeat' constructor) ⟨e5, IntKind.i64.wrap (b0 + 1), rfl, H, p0, e6'⟩
 have e4 : (decide (b0 < 64)) = false := (decide_eq_false e3)
 refine CW.cf rfl e4 ?_
 refine CW.exit (QW.then_x (QW.then_x (QW.blk_x (QW.then_n (cr ?_)))))
 obtain ⟨a9, p2, H⟩ := H
 refine WL.call Wanted.none ent76 rfl (reliquaryref02_Rounds.calls l3 a9 p2) ?_
 rintro _ p3 ⟨h4, rfl, p4⟩
 have p5 := h2.call p4
 refine ⟨_, rfl, ?_⟩
 refine WL.alloc p5 arr154.zero ?_
 intro a8 x9 p6
 refine WL.store_arr (i := 0) p6 rfl arr154 rfl (by rw [iv_length]; exact (List.length_replicate ..)) h4 rfl ?_
 intro p7 d3
 try dsimp only [List.set] at d3
 refine WL.nx ?_
 refine WL.v (Runs.load_arr arr134 rfl (d3.blk (i := 3) rfl) hl0) ?_
 refine WL.alloc d3 arr134.zero ?_
 intro a1 y0 p8
 refine WL.store_arr (i := 0) p8 rfl arr134 rfl (by rw [iv_length]; exact (List.length_replicate ..)) hl0 rfl ?_
 intro p9 e7
 try dsimp only [List.set] at e7
 refine wn (CW.seq (cr (WL.as rfl (wn (CW.block ?_)))))
 obtain ⟨q0, H⟩ := H
 refine CW.sub [(3, .pointer (sp a5)), (6, .pointer (sp a4)), (7, .pointer (sp a6)), (12, .pointer (sp a8)), (13, .pointer (sp a1)), (14, .int .i64 0)] (by repeat' constructor) ?_
 refine CW.loop (fun kL3 l_ w_ => ∃ (a0 : List Int) (a7 : Int), l_ = [(3, .pointer (sp a5)), (6, .pointer (sp a4)), (7, .pointer (sp a6)), (12, .pointer (sp a8)), (13, .pointer (sp a1)), (14, .int .i64 a7)] ∧ reliquaryref02_block.L3 l0 r0 a3 a9 kL3 a0 a7 ∧ (a0.length = 8) ∧ St w w_ [.cells a1 (iv .u32 a0) 134, .cells a8 (iv .u32 a9) 154, .cells a6 (iv .u32 a3) 154, .cells a4 (iv .u32 (List.replicate 8 (0 : Int))) 134, .cells a5 (iv .u32 l0) 134]) (k := q0) ⟨l0, 0, rfl, H, hl0, e7⟩ (fun _ _ h => by obtain ⟨_, _, _, h, _⟩ := h; exact h.elim) ?_
 rintro kL3 y1 q1 ⟨a0, a7, rfl, H, b2, d4⟩
 refine CW.seq (cr (WL.mv rfl ?_))
 refine WL.v (Runs.lss rfl rfl rfl) ?_
 refine wn ?_
 rcases H with ⟨e8, H⟩ | ⟨e8, H⟩
 ·have e9 : (decide (a7 < 64)) = true := (decide_eq_true e8)
  refine CW.ct rfl e9 ?_
  refine CW.skip (QW.then_n (CW.seq (CW.block (cr ?_))))
  refine WL.v (Runs.indexAddr_blk arr134 rfl rfl (by decide) (by decide) (o := 4) (by first | rfl | omega)) ?_
  refine WL.v (Runs.load nagg24 rfl (d4.cell_iv (i := 0) rfl (by have := b2; omega))) ?_
  refine WL.as rfl (WL.nx ?_)
  refine WL.v (Runs.indexAddr_blk arr134 rfl rfl (by decide) (by decide) (o := 0) (by first | rfl | omega)) ?_
  refine WL.v (Runs.load nagg24 rfl (d4.cell_iv (i := 0) rfl (by have := b2; omega))) ?_
  refine WL.as rfl (WL.nx (WL.mv rfl ?_))
  obtain ⟨b3, q2, H⟩ := H
  refine WL.call Wanted.none ent75 rfl (reliquaryref02_right.calls q1 (gn a0 4) 6 b3 q2) ?_
  rintro _ h5 ⟨rfl, q3⟩
  have q4 := d4.call q3
  refine ⟨_, rfl, ?_⟩
  refine WL.mv rfl ?_
  obtain ⟨b4, q5, H⟩ := H
  refine WL.call Wanted.none ent75 rfl (reliquaryref02_right.calls h5 (gn a0 4) 11 b4 q5) ?_
  rintro _ h6 ⟨rfl, q6⟩
  have q7 := q4.call q6
  refine ⟨_, rfl, ?_⟩
  refine WL.v (Runs.bxor rfl rfl rfl) ?_
  refine WL.mv rfl ?_
  obtain ⟨c0, q8, H⟩ := H
  refine WL.call Wanted.none ent75 rfl (reliquaryref02_right.calls h6 (gn a0 4) 25 c0 q8) ?_
  rintro _ q9 ⟨rfl, r1⟩
  have f0 := q7.call r1
  refine ⟨_, rfl, ?_⟩
  refine WL.v (Runs.bxor rfl rfl rfl) ?_
  refine WL.as rfl (WL.nx (WL.mv rfl ?_))
  refine WL.v (Runs.indexAddr_blk arr134 rfl rfl (by decide) (by decide) (o := 5) (by first | rfl | omega)) ?_
  refine WL.v (Runs.load nagg24 rfl (f0.cell_iv (i := 0) rfl (by have := b2; omega))) ?_
  refine WL.v (Runs.band rfl rfl rfl) ?_
  refine WL.mv rfl ?_
  refine WL.v (Runs.compl rfl rfl) ?_
  refine WL.v (Runs.indexAddr_blk arr134 rfl rfl (by decide) (by decide) (o := 6) (by first | rfl | omega)) ?_
  refine WL.v (Runs.load nagg24 rfl (f0.cell_iv (i := 0) rfl (by have := b2; omega))) ?_
  refine WL.v (Runs.band rfl rfl rfl) ?_
  obtain ⟨c2, r2, H⟩ := H
  refine WL.v (Runs.bxor rfl rfl r2) ?_
  refine WL.as rfl (wn (CW.seq ?_))
  refine CW.region_qa wide (by kernel_rfl) f0 ?_
  refine HL.v (fun wq sq => (Runs.indexAddr_blk arr134 rfl rfl (by decide) (by decide) (o := 7) (by first | rfl | omega))) ?_
  refine HL.v (fun wq sq => (Runs.load nagg24 rfl (sq.cell_iv (i := 0) rfl (by have := b2; omega)))) ?_
  refine HL.mv rfl ?_
  obtain ⟨d5, r3, H⟩ := H
  refine HL.v (fun wq sq => (Runs.add rfl rfl r3)) ?_
  refine HL.mv rfl ?_
  refine HL.v (fun wq sq => (Runs.add rfl rfl rfl)) ?_
  refine HL.mv rfl ?_
  obtain ⟨⟨r4, r5⟩, H⟩ := H
  refine HL.v (fun wq sq => (Runs.indexAddr_blk arr154 rfl rfl r4 r5 (o := (a7).toNat) (by first | rfl | omega))) ?_
  refine HL.v (fun wq sq => (Runs.load nagg24 rfl (sq.cell_iv (i := 1) rfl (by have := h4; omega)))) ?_
  obtain ⟨c4, r6, H⟩ := H
  refine HL.v (fun wq sq => (Runs.add rfl rfl r6)) ?_
  refine HL.mv rfl ?_
  obtain ⟨⟨r7, r8⟩, H⟩ := H
  refine HL.v (fun wq sq => (Runs.indexAddr_blk arr154 rfl rfl r7 r8 (o := (a7).toNat) (by first | rfl | omega))) ?_
  refine HL.v (fun wq sq => (Runs.load nagg24 rfl (sq.cell_iv (i := 2) rfl (by have := b1; omega)))) ?_
  refine HL.v (fun wq sq => (Runs.add rfl rfl rfl)) ?_
  refine HL.as rfl ?_
  refine HL.nil (fun r9 s0 => ?_)
  refine WL.nx (WL.mv rfl ?_)
  obtain ⟨b6, s1, H⟩ := H
  refine WL.call Wanted.none ent75 rfl (reliquaryref02_right.calls r9 (gn a0 0) 2 b6 s1) ?_
  rintro _ h7 ⟨rfl, s2⟩
  have s3 := s0.call s2
  refine ⟨_, rfl, ?_⟩
  refine WL.mv rfl ?_
  obtain ⟨b7, s4, H⟩ := H
  refine WL.call Wanted.none ent75 rfl (reliquaryref02_right.calls h7 (gn a0 0) 13 b7 s4) ?_
  rintro _ h8 ⟨rfl, s5⟩
  have s6 := s3.call s5
  refine ⟨_, rfl, ?_⟩
  refine WL.v (Runs.bxor rfl rfl rfl) ?_
  refine WL.mv rfl ?_
  obtain ⟨c3, s7, H⟩ := H
  refine WL.call Wanted.none ent75 rfl (reliquaryref02_right.calls h8 (gn a0 0) 22 c3 s7) ?_
  rintro _ s8 ⟨rfl, s9⟩
  have d2 := s6.call s9
  refine ⟨_, rfl, ?_⟩
  refine WL.v (Runs.bxor rfl rfl rfl) ?_
  refine WL.as rfl (WL.nx (WL.mv rfl ?_))
  refine WL.v (Runs.indexAddr_blk arr134 rfl rfl (by decide) (by decide) (o := 1) (by first | rfl | omega)) ?_
  refine WL.v (Runs.load nagg24 rfl (d2.cell_iv (i := 0) rfl (by have := b2; omega))) ?_
  refine WL.v (Runs.band rfl rfl rfl) ?_
  refine WL.mv rfl ?_
  refine WL.v (Runs.indexAddr_blk arr134 rfl rfl (by decide) (by decide) (o := 2) (by first | rfl | omega)) ?_
  refine WL.v (Runs.load nagg24 rfl (d2.cell_iv (i := 0) rfl (by have := b2; omega))) ?_
  refine WL.v (Runs.band rfl rfl rfl) ?_
  obtain ⟨h9, t0, H⟩ := H
  refine WL.v (Runs.bxor rfl rfl t0) ?_
  refine WL.v (Runs.indexAddr_blk arr134 rfl rfl (by decide) (by decide) (o := 1) (by first | rfl | omega)) ?_
  refine WL.v (Runs.load nagg24 rfl (d2.cell_iv (i := 0) rfl (by have := b2; omega))) ?_
  refine WL.v (Runs.indexAddr_blk arr134 rfl rfl (by decide) (by decide) (o := 2) (by first | rfl | omega)) ?_
  refine WL.v (Runs.load nagg24 rfl (d2.cell_iv (i := 0) rfl (by have := b2; omega))) ?_
  refine WL.v (Runs.band rfl rfl rfl) ?_
  obtain ⟨d0, t1, H⟩ := H
  refine WL.v (Runs.bxor rfl rfl t1) ?_
  refine WL.as rfl (wn (CW.seq (cr (WL.as rfl (wn (CW.block ?_))))))
  obtain ⟨t2, H⟩ := H
  refine CW.sub [(3, .pointer (sp a5)), (6, .pointer (sp a4)), (7, .pointer (sp a6)), (12, .pointer (sp a8)), (13, .pointer (sp a1)), (14, .int .i64 a7), (126, .int .i64 a7), (127, .bool (decide (a7 < 64))), (130, .pointer (some ⟨a1, 4, none⟩)), (131, .int .u32 (gn a0 4)), (15, .int .u32 (gn a0 4)), (132, .pointer (sp a1)), (133, .int .u32 (gn a0 0)), (16, .int .u32 (gn a0 0)), (134, .int .u32 (gn a0 4)), (135, .int .u32 b3), (136, .int .u32 (gn a0 4)), (137, .int .u32 b4), (138, .int .u32 (bits .xor .u32 b3 b4)), (139, .int .u32 (gn a0 4)), (140, .int .u32 c0), (141, .int .u32 (bits .xor .u32 (bits .xor .u32 b3 b4) c0)), (17, .int .u32 (bits .xor .u32 (bits .xor .u32 b3 b4) c0)), (142, .int .u32 (gn a0 4)), (143, .pointer (some ⟨a1, 5, none⟩)), (144, .int .u32 (gn a0 5)), (145, .int .u32 (bits .and .u32 (gn a0 4) (gn a0 5))), (146, .int .u32 (gn a0 4)), (147, .int .u32 (notI .u32 (gn a0 4))), (148, .pointer (some ⟨a1, 6, none⟩)), (149, .int .u32 (gn a0 6)), (150, .int .u32 (bits .and .u32 (notI .u32 (gn a0 4)) (gn a0 6))), (151, .int .u32 c2), (18, .int .u32 c2), (152, .pointer (some ⟨a1, 7, none⟩)), (153, .int .u32 (gn a0 7)), (154, .int .u32 (bits .xor .u32 (bits .xor .u32 b3 b4) c0)), (155, .int .u32 d5), (156, .int .u32 c2), (157, .int .u32 (IntKind.u32.wrap (d5 + c2))), (158, .int .i64 a7), (159, .pointer (some ⟨a8, (a7).toNat, none⟩)), (160, .int .u32 (gn a9 (a7.toNat))), (161, .int .u32 c4), (162, .int .i64 a7), (163, .pointer (some ⟨a6, (a7).toNat, none⟩)), (164, .int .u32 (gn a3 (a7.toNat))), (165, .int .u32 (IntKind.u32.wrap (c4 + (gn a3 (a7.toNat))))), (19, .int .u32 (IntKind.u32.wrap (c4 + (gn a3 (a7.toNat))))), (166, .int .u32 (gn a0 0)), (167, .int .u32 b6), (168, .int .u32 (gn a0 0)), (169, .int .u32 b7), (170, .int .u32 (bits .xor .u32 b6 b7)), (171, .int .u32 (gn a0 0)), (172, .int .u32 c3), (173, .int .u32 (bits .xor .u32 (bits .xor .u32 b6 b7) c3)), (20, .int .u32 (bits .xor .u32 (bits .xor .u32 b6 b7) c3)), (174, .int .u32 (gn a0 0)), (175, .pointer (some ⟨a1, 1, none⟩)), (176, .int .u32 (gn a0 1)), (177, .int .u32 (bits .and .u32 (gn a0 0) (gn a0 1))), (178, .int .u32 (gn a0 0)), (179, .pointer (some ⟨a1, 2, none⟩)), (180, .int .u32 (gn a0 2)), (181, .int .u32 (bits .and .u32 (gn a0 0) (gn a0 2))), (182, .int .u32 h9), (183, .pointer (some ⟨a1, 1, none⟩)), (184, .int .u32 (gn a0 1)), (185, .pointer (some ⟨a1, 2, none⟩)), (186, .int .u32 (gn a0 2)), (187, .int .u32 (bits .and .u32 (gn a0 1) (gn a0 2))), (188, .int .u32 d0), (21, .int .u32 d0), (22, .int .i64 7)] (by repeat' constructor) ?_
  refine CW.loop (fun kL4 l_ w_ => ∃ (c5 : List Int) (b8 : Int), l_ = [(3, .pointer (sp a5)), (6, .pointer (sp a4)), (7, .pointer (sp a6)), (12, .pointer (sp a8)), (13, .pointer (sp a1)), (14, .int .i64 a7), (126, .int .i64 a7), (127, .bool (decide (a7 < 64))), (130, .pointer (some ⟨a1, 4, none⟩)), (131, .int .u32 (gn a0 4)), (15, .int .u32 (gn a0 4)), (132, .pointer (sp a1)), (133, .int .u32 (gn a0 0)), (16, .int .u32 (gn a0 0)), (134, .int .u32 (gn a0 4)), (135, .int .u32 b3), (136, .int .u32 (gn a0 4)), (137, .int .u32 b4), (138, .int .u32 (bits .xor .u32 b3 b4)), (139, .int .u32 (gn a0 4)), (140, .int .u32 c0), (141, .int .u32 (bits .xor .u32 (bits .xor .u32 b3 b4) c0)), (17, .int .u32 (bits .xor .u32 (bits .xor .u32 b3 b4) c0)), (142, .int .u32 (gn a0 4)), (143, .pointer (some ⟨a1, 5, none⟩)), (144, .int .u32 (gn a0 5)), (145, .int .u32 (bits .and .u32 (gn a0 4) (gn a0 5))), (146, .int .u32 (gn a0 4)), (147, .int .u32 (notI .u32 (gn a0 4))), (148, .pointer (some ⟨a1, 6, none⟩)), (149, .int .u32 (gn a0 6)), (150, .int .u32 (bits .and .u32 (notI .u32 (gn a0 4)) (gn a0 6))), (151, .int .u32 c2), (18, .int .u32 c2), (152, .pointer (some ⟨a1, 7, none⟩)), (153, .int .u32 (gn a0 7)), (154, .int .u32 (bits .xor .u32 (bits .xor .u32 b3 b4) c0)), (155, .int .u32 d5), (156, .int .u32 c2), (157, .int .u32 (IntKind.u32.wrap (d5 + c2))), (158, .int .i64 a7), (159, .pointer (some ⟨a8, (a7).toNat, none⟩)), (160, .int .u32 (gn a9 (a7.toNat))), (161, .int .u32 c4), (162, .int .i64 a7), (163, .pointer (some ⟨a6, (a7).toNat, none⟩)), (164, .int .u32 (gn a3 (a7.toNat))), (165, .int .u32 (IntKind.u32.wrap (c4 + (gn a3 (a7.toNat))))), (19, .int .u32 (IntKind.u32.wrap (c4 + (gn a3 (a7.toNat))))), (166, .int .u32 (gn a0 0)), (167, .int .u32 b6), (168, .int .u32 (gn a0 0)), (169, .int .u32 b7), (170, .int .u32 (bits .xor .u32 b6 b7)), (171, .int .u32 (gn a0 0)), (172, .int .u32 c3), (173, .int .u32 (bits .xor .u32 (bits .xor .u32 b6 b7) c3)), (20, .int .u32 (bits .xor .u32 (bits .xor .u32 b6 b7) c3)), (174, .int .u32 (gn a0 0)), (175, .pointer (some ⟨a1, 1, none⟩)), (176, .int .u32 (gn a0 1)), (177, .int .u32 (bits .and .u32 (gn a0 0) (gn a0 1))), (178, .int .u32 (gn a0 0)), (179, .pointer (some ⟨a1, 2, none⟩)), (180, .int .u32 (gn a0 2)), (181, .int .u32 (bits .and .u32 (gn a0 0) (gn a0 2))), (182, .int .u32 h9), (183, .pointer (some ⟨a1, 1, none⟩)), (184, .int .u32 (gn a0 1)), (185, .pointer (some ⟨a1, 2, none⟩)), (186, .int .u32 (gn a0 2)), (187, .int .u32 (bits .and .u32 (gn a0 1) (gn a0 2))), (188, .int .u32 d0), (21, .int .u32 d0), (22, .int .i64 b8)] ∧ reliquaryref02_block.L4 a3 a7 c4 b6 b7 c3 d0 (reliquaryref02_block.L3 l0 r0 a3 a9 kL3) kL4 c5 b8 ∧ (c5.length = 8) ∧ St w w_ [.cells a1 (iv .u32 c5) 134, .cells a8 (iv .u32 a9) 154, .cells a6 (iv .u32 a3) 154, .cells a4 (iv .u32 (List.replicate 8 (0 : Int))) 134, .cells a5 (iv .u32 l0) 134]) (k := t2) ⟨a0, 7, rfl, H, b2, d2⟩ (fun _ _ h => by obtain ⟨_, _, _, h, _⟩ := h; exact h.elim) ?_
  rintro kL4 y2 y3 ⟨c5, b8, rfl, H, d1, d6⟩
  refine CW.seq (cr (WL.mv rfl ?_))
  refine WL.v (Runs.gtr rfl rfl rfl) ?_
  refine wn ?_
  rcases H with ⟨f1, H⟩ | ⟨f1, H⟩
  ·have f2 : (decide (b8 > 0)) = true := (decide_eq_true f1)
   refine CW.ct rfl f2 ?_
   refine CW.skip (QW.then_n (CW.seq (CW.block (CW.region (WL.mv rfl (WL.mv rfl ?_))))))
   refine WL.v (Runs.sub rfl rfl rfl) ?_
   obtain ⟨⟨t3, t4⟩, H⟩ := H
   refine WL.v (Runs.indexAddr_blk arr134 rfl rfl t3 t4 (o := (IntKind.i64.wrap (b8 - 1)).toNat) (by first | rfl | omega)) ?_
   refine WL.v (Runs.load nagg24 rfl (d6.cell_iv (i := 0) rfl (by have := d1; omega))) ?_
   obtain ⟨⟨t5, t6⟩, H⟩ := H
   refine WL.v (Runs.indexAddr_blk arr134 rfl rfl t5 t6 (o := (b8).toNat) (by first | rfl | omega)) ?_
   obtain ⟨f3, i0, H⟩ := H
   have t7 : f3.length = 8 := by rw [i0, List.length_set]; exact d1
   refine WL.store_cells (i := 0) d6 rfl cells24 rfl (by rw [iv_length]; have := d1; omega) rfl rfl ?_
   intro t8 f4
   have f4' : St w t8 [.cells a1 (iv .u32 f3) 134, .cells a8 (iv .u32 a9) 154, .cells a6 (iv .u32 a3) 154, .cells a4 (iv .u32 (List.replicate 8 (0 : Int))) 134, .cells a5 (iv .u32 l0) 134] := by rw [i0, ← iv_set .u32 c5 (b8.toNat) (gn c5 ((IntKind.i64.wrap (b8 - 1)).toNat))]; exact f4
   refine WL.nil (QW.blk_n (QW.then_n (CW.region (WL.mv rfl ?_))))
   refine WL.v (Runs.sub rfl rfl rfl) ?_
   refine WL.as rfl (WL.nil ?_)
   exact QW.at _ (by repeat' constructor) ⟨f3, IntKind.i64.wrap (b8 - 1), rfl, H, t7, f4'⟩
  have f2 : (decide (b8 > 0)) = false := (decide_eq_false f1)
  refine CW.cf rfl f2 ?_
  refine CW.exit (QW.then_x (QW.then_x (QW.blk_x (QW.then_n (cr ?_)))))
  refine WL.v (Runs.indexAddr_blk arr134 rfl rfl (by decide) (by decide) (o := 4) (by first | rfl | omega)) ?_
  refine WL.v (Runs.load nagg24 rfl (d6.cell_iv (i := 0) rfl (by have := d1; omega))) ?_
  refine WL.mv rfl ?_
  obtain ⟨t9, u0, H⟩ := H
  refine WL.v (Runs.add rfl rfl u0) ?_
  refine WL.v (Runs.indexAddr_blk arr134 rfl rfl (by decide) (by decide) (o := 4) (by first | rfl | omega)) ?_
  obtain ⟨f5, i1, H⟩ := H
  have i2 : f5.length = 8 := by rw [i1, List.length_set]; exact d1
  refine WL.store_cells (i := 0) d6 rfl cells24 rfl (by rw [iv_length]; have := d1; omega) rfl rfl ?_
  intro u1 f6
  have f6' : St w u1 [.cells a1 (iv .u32 f5) 134, .cells a8 (iv .u32 a9) 154, .cells a6 (iv .u32 a3) 154, .cells a4 (iv .u32 (List.replicate 8 (0 : Int))) 134, .cells a5 (iv .u32 l0) 134] := by rw [i1, ← iv_set .u32 c5 4 t9]; exact f6
  refine wn (CW.region (WL.mv rfl (WL.mv rfl ?_)))
  obtain ⟨u2, u3, H⟩ := H
  refine WL.v (Runs.add rfl rfl u3) ?_
  refine WL.mv rfl ?_
  refine WL.v (Runs.add rfl rfl rfl) ?_
  refine WL.v (Runs.indexAddr_blk arr134 rfl rfl (by decide) (by decide) (o := 0) (by first | rfl | omega)) ?_
  obtain ⟨f7, i3, H⟩ := H
  have u4 : f7.length = 8 := by rw [i3, List.length_set]; exact i2
  refine WL.store_cells (i := 0) f6' rfl cells24 rfl (by rw [iv_length]; have := i2; omega) rfl rfl ?_
  intro u5 f8
  have f8' : St w u5 [.cells a1 (iv .u32 f7) 134, .cells a8 (iv .u32 a9) 154, .cells a6 (iv .u32 a3) 154, .cells a4 (iv .u32 (List.replicate 8 (0 : Int))) 134, .cells a5 (iv .u32 l0) 134] := by rw [i3, ← iv_set .u32 f5 0 (IntKind.u32.wrap (u2 + d0))]; exact f8
  refine WL.nil (QW.blk_n (QW.then_n (CW.region (WL.mv rfl ?_))))
  refine WL.v (Runs.add rfl rfl rfl) ?_
  refine WL.as rfl (WL.nil ?_)
  exact QW.at _ (by repeat' constructor) ⟨f7, IntKind.i64.wrap (a7 + 1), rfl, H, u4, f8'⟩
 have e9 : (decide (a7 < 64)) = false := (decide_eq_false e8)
 refine CW.cf rfl e9 ?_
 refine CW.exit (QW.then_x (QW.then_x (QW.blk_x (QW.then_n (CW.seq (cr (WL.as rfl (wn (CW.block ?_)))))))))
 obtain ⟨u6, H⟩ := H
 refine CW.sub [(3, .pointer (sp a5)), (6, .pointer (sp a4)), (13, .pointer (sp a1)), (23, .int .i64 0)] ⟨rfl, rfl, rfl, rfl, trivial⟩ ?_
 refine CW.loop (fun kL5 l_ w_ => ∃ (c6 : List Int) (b9 : Int), l_ = [(3, .pointer (sp a5)), (6, .pointer (sp a4)), (13, .pointer (sp a1)), (23, .int .i64 b9)] ∧ reliquaryref02_block.L5 l0 r0 kL5 c6 b9 ∧ (c6.length = 8) ∧ St w w_ [.cells a1 (iv .u32 c6) 134, .cells a8 (iv .u32 a9) 154, .cells a6 (iv .u32 a3) 154, .cells a4 (iv .u32 (List.replicate 8 (0 : Int))) 134, .cells a5 (iv .u32 l0) 134]) (k := u6) ⟨a0, 0, rfl, H, b2, d4⟩ (fun _ _ h => by obtain ⟨_, _, _, h, _⟩ := h; exact h.elim) ?_
 rintro kL5 y4 y5 ⟨c6, b9, rfl, H, c7, f9⟩
 refine CW.seq (cr (WL.mv rfl ?_))
 refine WL.v (Runs.lss rfl rfl rfl) ?_
 refine wn ?_
 rcases H with ⟨g0, H⟩ | ⟨g0, H⟩
 ·have g1 : (decide (b9 < 8)) = true := (decide_eq_true g0)
  refine CW.ct rfl g1 ?_
  refine CW.skip (QW.then_n (CW.seq (CW.block ?_)))
  refine CW.region_qt 8 wide (by kernel_rfl) f9 ?_
  refine HL.mv rfl ?_
  obtain ⟨⟨u7, u9⟩, H⟩ := H
  refine HL.v (fun wq sq => (Runs.indexAddr_blk arr134 rfl rfl u7 u9 (o := (b9).toNat) (by first | rfl | omega))) ?_
  refine HL.v (fun wq sq => (Runs.load nagg24 rfl (sq.cell_iv (i := 0) rfl (by have := c7; omega)))) ?_
  refine HL.mv rfl ?_
  obtain ⟨⟨v0, v1⟩, H⟩ := H
  refine HL.v (fun wq sq => (Runs.indexAddr_blk arr134 rfl rfl v0 v1 (o := (b9).toNat) (by first | rfl | omega))) ?_
  refine HL.v (fun wq sq => (Runs.load nagg24 rfl (sq.cell_iv (i := 4) rfl (by have := hl0; omega)))) ?_
  obtain ⟨v2, v3, H⟩ := H
  refine HL.v (fun wq sq => (Runs.add rfl rfl v3)) ?_
  obtain ⟨⟨v4, v5⟩, H⟩ := H
  refine HL.v (fun wq sq => (Runs.indexAddr_blk arr134 rfl rfl v4 v5 (o := (b9).toNat) (by first | rfl | omega))) ?_
  refine HL.nil (fun y6 v6 => ?_)
  obtain ⟨g2, i4, H⟩ := H
  have v7 : g2.length = 8 := by rw [i4, List.length_set]; exact c7
  refine WL.store_cells (i := 0) v6 rfl cells24 rfl (by rw [iv_length]; have := c7; omega) rfl rfl ?_
  intro v8 g3
  have g3' : St w v8 [.cells a1 (iv .u32 g2) 134, .cells a8 (iv .u32 a9) 154, .cells a6 (iv .u32 a3) 154, .cells a4 (iv .u32 (List.replicate 8 (0 : Int))) 134, .cells a5 (iv .u32 l0) 134] := by rw [i4, ← iv_set .u32 c6 (b9.toNat) v2]; exact g3
  refine WL.nil (QW.blk_n (QW.then_n (CW.region (WL.mv rfl ?_))))
  refine WL.v (Runs.add rfl rfl rfl) ?_
  refine WL.as rfl (WL.nil ?_)
  exact QW.at _ (by repeat' constructor) ⟨g2, IntKind.i64.wrap (b9 + 1), rfl, H, v7, g3'⟩
 have g1 : (decide (b9 < 8)) = false := (decide_eq_false g0)
 refine CW.cf rfl g1 ?_
 refine CW.exit (QW.then_x (QW.then_x (QW.blk_x (QW.then_n (cr ?_)))))
 refine WL.v (Runs.load_arr arr134 rfl (f9.blk (i := 0) rfl) c7) ?_
 refine WL.store_arr (i := 3) f9 rfl arr134 rfl (by rw [iv_length]; exact (List.length_replicate ..)) c7 rfl ?_
 intro v9 d7
 try dsimp only [List.set] at d7
 refine wn (CW.ret ?_)
 obtain rfl := H
 exact QW.retc rfl arr134 rfl (d7.blk (i := 3) rfl) c7 ⟨c7, rfl, d7.pick [] (by decide)⟩
/-! ### reliquaryref02_Of: function 34 -/
def reliquaryref02_Of.L4 (r0 : List Int) (a2 : List Int) : Nat → (List Int) → Int → Prop
 | 0, _, _ => False
 | kL4 + 1, a3, a0 => ((a0 < 32 ∧ ((0 ≤ (IntKind.i64.wrap (Int.tdiv a0 4)) ∧ (IntKind.i64.wrap (Int.tdiv a0 4)) < (8 : Int)) ∧ (∃ a1 : Int, a1 = IntKind.i64.wrap (24 - (IntKind.i64.wrap (8 * (Int.tmod a0 4)))) ∧ (0 ≤ (IntKind.u64.wrap a1) ∧ (∃ a4 : Int, a4 = shrI .u32 (gn a2 ((IntKind.i64.wrap (Int.tdiv a0 4)).toNat)) (IntKind.u64.wrap a1) ∧ ((0 ≤ a0 ∧ a0 < (32 : Int)) ∧ (∃ a5 : List Int, a5 = List.set a3 (a0.toNat) (IntKind.u8.wrap a4) ∧ reliquaryref02_Of.L4 r0 a2 kL4 a5 (IntKind.i64.wrap (a0 + 1))))))))) ∨ (¬ (a0 < 32) ∧ r0 = a3))
def reliquaryref02_Of.L3 (r0 : List Int) (a0 : List Int) : Nat → (List Int) → Int → Prop
 | 0, _, _ => False
 | kL3 + 1, a2, a1 => ((a1 < (a0.length : Int) ∧ (∃ (a3 : List Int), reliquaryref02_block.rel a2 a0 a1 a3 ∧ reliquaryref02_Of.L3 r0 a0 kL3 a3 (IntKind.i64.wrap (a1 + 64)))) ∨ (¬ (a1 < (a0.length : Int)) ∧ (∃ k_ : Nat, reliquaryref02_Of.L4 r0 a2 k_ (z32) 0)))
def reliquaryref02_Of.L2 (l0 : List Int) (r0 : List Int) : Nat → (List Int) → Int → Prop
 | 0, _, _ => False
 | kL2 + 1, a3, a0 => ((a0 < 8 ∧ (∃ a1 : Int, a1 = IntKind.u64.wrap (IntKind.i64.wrap (56 - (IntKind.i64.wrap (8 * a0)))) ∧ (0 ≤ a1 ∧ (∃ a4 : Int, a4 = shrI .u64 (IntKind.u64.wrap ((IntKind.u64.wrap (l0.length : Int)) * 8)) a1 ∧ (∃ a2 : List Int, a2 = a3 ++ [IntKind.u8.wrap a4] ∧ (a2.length ≤ 1099511627776 ∧ reliquaryref02_Of.L2 l0 r0 kL2 a2 (IntKind.i64.wrap (a0 + 1)))))))) ∨ (¬ (a0 < 8) ∧ (∃ a5 : List Int, a5 = [1779033703, 3144134277, 1013904242, 2773480762, 1359893119, 2600822924, 528734635, 1541459225] ∧ (∃ k_ : Nat, reliquaryref02_Of.L3 r0 a3 k_ a5 0))))
def reliquaryref02_Of.L1 (l0 : List Int) (r0 : List Int) : Nat → (List Int) → Prop
 | 0, _ => False
 | kL1 + 1, a0 => (((Int.tmod (a0.length : Int) 64) ≠ 56 ∧ (∃ a1 : List Int, a1 = a0 ++ [0] ∧ (a1.length ≤ 1099511627776 ∧ reliquaryref02_Of.L1 l0 r0 kL1 a1))) ∨ (¬ ((Int.tmod (a0.length : Int) 64) ≠ 56) ∧ (∃ k_ : Nat, reliquaryref02_Of.L2 l0 r0 k_ a0 0)))
def reliquaryref02_Of.rel (l0 : List Int) (r0 : List Int) : Prop := (∃ a0 : List Int, a0 = ([] : List Int) ++ l0 ∧ (a0.length ≤ 1099511627776 ∧ (∃ a1 : List Int, a1 = a0 ++ [128] ∧ (a1.length ≤ 1099511627776 ∧ (∃ k_ : Nat, reliquaryref02_Of.L1 l0 r0 k_ a1)))))
set_option maxHeartbeats 4000000 in
theorem reliquaryref02_Of.calls (w : World) (l0 : List Int) (A0 : Option Addr) (n0 : Nat) (c0 : Nat)  (hs0 : Src w A0 (iv .u8 l0)) (hn0 : n0 = l0.length) (hc0 : n0 ≤ c0) (r0 : List Int) (H : reliquaryref02_Of.rel l0 r0) :
  Calls Tryd.prog 34 #[.slice A0 n0 c0] w fun e w' => r0.length = 32 ∧ e = .returned (.agg (iv .u8 r0).toArray) ∧ St w w' [] := by
 refine CW.enter Tryd.func34 rfl (n := 70) rfl [.slice A0 n0 c0] (Nat.le_of_ble_eq_true rfl) ?_
 refine CW.sub [(0, .slice A0 n0 c0)] ⟨rfl, trivial⟩ ?_
 have st0 : St w w [] := St.refl w
 refine cr ?_
 refine WL.alloc st0 arr23.zero ?_
 intro a0 h9 i0
 refine WL.nx (WL.as rfl (WL.nx (WL.mv rfl (WL.mv rfl ?_))))
 have c3 := i0.nil_sl 5 1
 have c3 : St w h9 [.sl none 0 0 (iv .u8 ([] : List Int)) 5 1, .cells a0 (iv .u8 (z32)) 23] := c3
 obtain ⟨c4, g3, H⟩ := H
 obtain ⟨i1, H⟩ := H
 obtain ⟨d4, d5⟩ : ∃ n_ : Nat, n_ = c4.length := ⟨_, rfl⟩
 refine WL.append (i := 0) Wanted.none c3 rfl Tryd.underlying25 elem5 rfl rfl (hs0.ext c3) (by rw [iv_length]; exact (hn0).symm) (one_iv .u8 _) (by decide) (N := d4) (by rw [d5, g3, List.length_append]; exact congr (congrArg HAdd.hAdd (rfl)) (hn0)) (by rw [d5]; exact i1) ?_
 intro g4 g5 i2 d6
 have d6' : St w i2 [.sl g4 g5 d4 (iv .u8 c4) 5 1, .cells a0 (iv .u8 (z32)) 23] := by rw [g3, ← iv_append .u8 ([] : List Int) l0]; exact d6
 refine WL.as rfl (WL.nx (WL.mv rfl ?_))
 refine WL.buildSl [.int .u8 128] d6' Tryd.underlying25 elem5 rfl rfl (by decide) (by decide) (by simp [Value.cells]) ?_
 intro a2 i3 c5
 replace c5 : St w i3 [.sl (sp a2) 1 1 (iv .u8 [128]) 5 1, .sl g4 g5 d4 (iv .u8 c4) 5 1, .cells a0 (iv .u8 (z32)) 23] := c5
 obtain ⟨d7, g6, H⟩ := H
 obtain ⟨i4, H⟩ := H
 obtain ⟨b7, d8⟩ : ∃ n_ : Nat, n_ = d7.length := ⟨_, rfl⟩
 refine WL.append (i := 1) Wanted.none c5 rfl Tryd.underlying25 elem5 rfl rfl (c5.src_sl (k := 0) rfl) (by rw [iv_length]; exact (Eq.refl _).symm) (one_iv .u8 _) (by decide) (N := b7) (by rw [d8, g6, List.length_append]; exact congr (congrArg HAdd.hAdd (d5)) (rfl)) (by rw [d8]; exact i4) ?_
 intro c6 c7 i5 d9
 have d9' : St w i5 [.sl (sp a2) 1 1 (iv .u8 [128]) 5 1, .sl c6 c7 b7 (iv .u8 d7) 5 1, .cells a0 (iv .u8 (z32)) 23] := by rw [g6, ← iv_append .u8 c4 [128]]; exact d9
 refine WL.as rfl (wn ?_)
 refine CW.sub [(0, .slice A0 n0 c0), (2, .pointer (sp a0)), (3, .slice c6 b7 c7)] ⟨rfl, rfl, rfl, trivial⟩ ?_
 refine CW.seq (CW.block ?_)
 obtain ⟨i6, H⟩ := H
 refine CW.sub [(0, .slice A0 n0 c0), (2, .pointer (sp a0)), (3, .slice c6 b7 c7)] ⟨rfl, rfl, rfl, trivial⟩ ?_
 refine CW.loop (fun kL1 l_ w_ => ∃ (b1 : Option Addr) (b2 : Nat) (b0 : Nat) (a8 : List Int), l_ = [(0, .slice A0 n0 c0), (2, .pointer (sp a0)), (3, .slice b1 b0 b2)] ∧ reliquaryref02_Of.L1 l0 r0 kL1 a8 ∧ (b0 = a8.length) ∧ St w w_ [.sl (sp a2) 1 1 (iv .u8 [128]) 5 1, .sl b1 b2 b0 (iv .u8 a8) 5 1, .cells a0 (iv .u8 (z32)) 23]) (k := i6) ⟨c6, c7, b7, d7, rfl, H, d8, d9'⟩ (fun _ _ h => by obtain ⟨_, _, _, _, _, h, _⟩ := h; exact h.elim) ?_
 rintro kL1 m0 m1 ⟨b1, b2, b0, a8, rfl, H, e0, g7⟩
 refine CW.seq (cr (WL.mv rfl ?_))
 refine WL.v (Runs.len_sl Tryd.underlying25 rfl (by rw [e0])) ?_
 refine WL.v (Runs.rem rfl rfl (by decide) rfl) ?_
 refine WL.v (Runs.neq rfl rfl rfl) ?_
 refine wn ?_
 rcases H with ⟨e1, H⟩ | ⟨e1, H⟩
 ·have e2 : ((Int.tmod (a8.length : Int) 64) != 56) = true := (bne_iff_ne.mpr e1)
  refine CW.ct rfl e2 ?_
  refine CW.skip (QW.then_n (CW.block (CW.region (WL.mv rfl ?_))))
  refine WL.buildSl [.int .u8 0] g7 Tryd.underlying25 elem5 rfl rfl (by decide) (by decide) (by simp [Value.cells]) ?_
  intro g8 i7 c8
  replace c8 : St w i7 [.sl (sp g8) 1 1 (iv .u8 [0]) 5 1, .sl (sp a2) 1 1 (iv .u8 [128]) 5 1, .sl b1 b2 b0 (iv .u8 a8) 5 1, .cells a0 (iv .u8 (z32)) 23] := c8
  obtain ⟨e3, g9, H⟩ := H
  obtain ⟨i8, H⟩ := H
  obtain ⟨e4, e5⟩ : ∃ n_ : Nat, n_ = e3.length := ⟨_, rfl⟩
  refine WL.append (i := 2) Wanted.none c8 rfl Tryd.underlying25 elem5 rfl rfl (c8.src_sl (k := 0) rfl) (by rw [iv_length]; exact (Eq.refl _).symm) (one_iv .u8 _) (by decide) (N := e4) (by rw [e5, g9, List.length_append]; exact congr (congrArg HAdd.hAdd (e0)) (rfl)) (by rw [e5]; exact i8) ?_
  intro h0 h1 i9 b8
  have b8' : St w i9 [.sl (sp g8) 1 1 (iv .u8 [0]) 5 1, .sl (sp a2) 1 1 (iv .u8 [128]) 5 1, .sl h0 h1 e4 (iv .u8 e3) 5 1, .cells a0 (iv .u8 (z32)) 23] := by rw [g9, ← iv_append .u8 a8 [0]]; exact b8
  refine WL.as rfl (WL.nil (QW.blk_n ?_))
  have b8'' := b8'.pick [1, 2, 3] (by decide)
  exact QW.at _ (by repeat' constructor) ⟨h0, h1, e4, e3, rfl, H, e5, b8''⟩
 have e2 : ((Int.tmod (a8.length : Int) 64) != 56) = false := (bne_eq_false_iff_eq.mpr (Decidable.not_not.mp e1))
 refine CW.cf rfl e2 ?_
 refine CW.exit (QW.then_x (QW.then_x (QW.blk_x (QW.then_n (cr (WL.mv rfl ?_))))))
 refine WL.v (Runs.len_sl Tryd.underlying25 rfl (by rw [hn0])) ?_
 refine WL.v (Runs.conv Tryd.underlying37 ⟨_, Tryd.underlying3⟩ rfl rfl) ?_
 refine WL.v (Runs.mul rfl rfl rfl) ?_
 refine WL.as rfl (wn ?_)
 refine CW.sub [(2, .pointer (sp a0)), (3, .slice b1 b0 b2), (4, .int .u64 (IntKind.u64.wrap ((IntKind.u64.wrap (l0.length : Int)) * 8)))] ⟨rfl, rfl, rfl, trivial⟩ ?_
 refine CW.seq (cr (WL.as rfl (wn (CW.block ?_))))
 obtain ⟨j0, H⟩ := H
 refine CW.sub [(2, .pointer (sp a0)), (3, .slice b1 b0 b2), (4, .int .u64 (IntKind.u64.wrap ((IntKind.u64.wrap (l0.length : Int)) * 8))), (5, .int .i64 0)] ⟨rfl, rfl, rfl, rfl, trivial⟩ ?_
 refine CW.loop (fun kL2 l_ w_ => ∃ (a4 : Option Addr) (a5 : Nat) (a3 : Nat) (a1 : List Int) (b5 : Int), l_ = [(2, .pointer (sp a0)), (3, .slice a4 a3 a5), (4, .int .u64 (IntKind.u64.wrap ((IntKind.u64.wrap (l0.length : Int)) * 8))), (5, .int .i64 b5)] ∧ reliquaryref02_Of.L2 l0 r0 kL2 a1 b5 ∧ (a3 = a1.length) ∧ St w w_ [.sl (sp a2) 1 1 (iv .u8 [128]) 5 1, .sl a4 a5 a3 (iv .u8 a1) 5 1, .cells a0 (iv .u8 (z32)) 23]) (k := j0) ⟨b1, b2, b0, a8, 0, rfl, H, e0, g7⟩ (fun _ _ h => by obtain ⟨_, _, _, _, _, _, h, _⟩ := h; exact h.elim) ?_
 rintro kL2 m2 m3 ⟨a4, a5, a3, a1, b5, rfl, H, e6, h2⟩
 refine CW.seq (cr (WL.mv rfl ?_))
 refine WL.v (Runs.lss rfl rfl rfl) ?_
 refine wn ?_
 rcases H with ⟨e7, H⟩ | ⟨e7, H⟩
 ·have e8 : (decide (b5 < 8)) = true := (decide_eq_true e7)
  refine CW.ct rfl e8 ?_
  refine CW.skip (QW.then_n (CW.seq (CW.block (CW.region (WL.mv rfl (WL.mv rfl (WL.mv rfl ?_)))))))
  refine WL.v (Runs.mul rfl rfl rfl) ?_
  refine WL.v (Runs.sub rfl rfl rfl) ?_
  obtain ⟨m4, j1, H⟩ := H
  refine WL.v (Runs.conv Tryd.underlying133 ⟨_, Tryd.underlying3⟩ rfl j1) ?_
  obtain ⟨j2, H⟩ := H
  obtain ⟨c9, j3, H⟩ := H
  refine WL.v (Runs.shr rfl rfl j2 j3) ?_
  refine WL.v (Runs.conv Tryd.underlying5 ⟨_, Tryd.underlying37⟩ rfl rfl) ?_
  refine WL.buildSl [.int .u8 (IntKind.u8.wrap c9)] h2 Tryd.underlying25 elem5 rfl rfl (by decide) (by decide) (by simp [Value.cells]) ?_
  intro h3 j4 d0
  replace d0 : St w j4 [.sl (sp h3) 1 1 (iv .u8 [IntKind.u8.wrap c9]) 5 1, .sl (sp a2) 1 1 (iv .u8 [128]) 5 1, .sl a4 a5 a3 (iv .u8 a1) 5 1, .cells a0 (iv .u8 (z32)) 23] := d0
  obtain ⟨e9, h4, H⟩ := H
  obtain ⟨j5, H⟩ := H
  obtain ⟨f0, f1⟩ : ∃ n_ : Nat, n_ = e9.length := ⟨_, rfl⟩
  refine WL.append (i := 2) Wanted.none d0 rfl Tryd.underlying25 elem5 rfl rfl (d0.src_sl (k := 0) rfl) (by rw [iv_length]; exact (Eq.refl _).symm) (one_iv .u8 _) (by decide) (N := f0) (by rw [f1, h4, List.length_append]; exact congr (congrArg HAdd.hAdd (e6)) (rfl)) (by rw [f1]; exact j5) ?_
  intro h5 h6 j6 b9
  have b9' : St w j6 [.sl (sp h3) 1 1 (iv .u8 [IntKind.u8.wrap c9]) 5 1, .sl (sp a2) 1 1 (iv .u8 [128]) 5 1, .sl h5 h6 f0 (iv .u8 e9) 5 1, .cells a0 (iv .u8 (z32)) 23] := by rw [h4, ← iv_append .u8 a1 [IntKind.u8.wrap c9]]; exact b9
  refine WL.as rfl (WL.nil (QW.blk_n (QW.then_n (CW.region (WL.mv rfl ?_)))))
  refine WL.v (Runs.add rfl rfl rfl) ?_
  refine WL.as rfl (WL.nil ?_)
  have b9'' := b9'.pick [1, 2, 3] (by decide)
  exact QW.at _ (by repeat' constructor) ⟨h5, h6, f0, e9, IntKind.i64.wrap (b5 + 1), rfl, H, f1, b9''⟩
 have e8 : (decide (b5 < 8)) = false := (decide_eq_false e7)
 refine CW.cf rfl e8 ?_
 refine CW.exit (QW.then_x (QW.then_x (QW.blk_x (QW.then_n (cr ?_)))))
 obtain ⟨f2, f3, H⟩ := H
 refine WL.v (Runs.build_arr (xs := f2) arr134 rfl rfl (by rw [f3]; rfl)) ?_
 refine WL.alloc h2 arr134.zero ?_
 intro a6 m5 j7
 refine WL.store_arr (i := 0) j7 rfl arr134 rfl (by rw [iv_length]; exact (List.length_replicate ..)) (by rw [f3]; rfl) rfl ?_
 intro j8 f4
 try dsimp only [List.set] at f4
 refine wn (CW.seq (cr (WL.as rfl (wn (CW.block ?_)))))
 obtain ⟨j9, H⟩ := H
 refine CW.sub [(2, .pointer (sp a0)), (3, .slice a4 a3 a5), (6, .pointer (sp a6)), (7, .int .i64 0)] ⟨rfl, rfl, rfl, rfl, trivial⟩ ?_
 refine CW.loop (fun kL3 l_ w_ => ∃ (a7 : List Int) (b3 : Int), l_ = [(2, .pointer (sp a0)), (3, .slice a4 a3 a5), (6, .pointer (sp a6)), (7, .int .i64 b3)] ∧ reliquaryref02_Of.L3 r0 a1 kL3 a7 b3 ∧ (a7.length = 8) ∧ St w w_ [.cells a6 (iv .u32 a7) 134, .sl (sp a2) 1 1 (iv .u8 [128]) 5 1, .sl a4 a5 a3 (iv .u8 a1) 5 1, .cells a0 (iv .u8 (z32)) 23]) (k := j9) ⟨f2, 0, rfl, H, (by rw [f3]; rfl), f4⟩ (fun _ _ h => by obtain ⟨_, _, _, h, _⟩ := h; exact h.elim) ?_
 rintro kL3 m6 k0 ⟨a7, b3, rfl, H, d1, c1⟩
 refine CW.seq (cr (WL.mv rfl (WL.mv rfl ?_)))
 refine WL.v (Runs.len_sl Tryd.underlying25 rfl (by rw [e6])) ?_
 refine WL.v (Runs.lss rfl rfl rfl) ?_
 refine wn ?_
 rcases H with ⟨f5, H⟩ | ⟨f5, H⟩
 ·have f6 : (decide (b3 < (a1.length : Int))) = true := (decide_eq_true f5)
  refine CW.ct rfl f6 ?_
  refine CW.skip (QW.then_n (CW.seq (CW.block (CW.region ?_))))
  refine WL.v (Runs.load_arr arr134 rfl (c1.blk (i := 0) rfl) d1) ?_
  refine WL.mv rfl (WL.mv rfl ?_)
  obtain ⟨f7, k1, H⟩ := H
  refine WL.call Wanted.none ent57 rfl (reliquaryref02_block.calls k0 a7 a1 b3 a4 a3 a5 d1 (c1.src_sl (k := 2) rfl) (e6) (c1.cap (i := 2) rfl) f7 k1) ?_
  rintro _ k2 ⟨h7, rfl, k3⟩
  have k4 := c1.call k3
  refine ⟨_, rfl, ?_⟩
  refine WL.store_arr (i := 0) k4 rfl arr134 rfl (by rw [iv_length]; exact d1) h7 rfl ?_
  intro k5 f8
  try dsimp only [List.set] at f8
  refine WL.nil (QW.blk_n (QW.then_n (CW.region (WL.mv rfl ?_))))
  refine WL.v (Runs.add rfl rfl rfl) ?_
  refine WL.as rfl (WL.nil ?_)
  exact QW.at _ (by repeat' constructor) ⟨f7, IntKind.i64.wrap (b3 + 64), rfl, H, h7, f8⟩
 have f6 : (decide (b3 < (a1.length : Int))) = false := (decide_eq_false f5)
 refine CW.cf rfl f6 ?_
 refine CW.exit (QW.then_x (QW.then_x (QW.blk_x (QW.then_n ?_))))
 refine CW.sub [(2, .pointer (sp a0)), (6, .pointer (sp a6))] ⟨rfl, rfl, trivial⟩ ?_
 refine cr ?_
 refine WL.alloc c1 arr23.zero ?_
 intro c2 m7 k6
 refine wn (CW.seq (cr (WL.as rfl (wn (CW.block ?_)))))
 obtain ⟨k7, H⟩ := H
 refine CW.sub [(2, .pointer (sp a0)), (6, .pointer (sp a6)), (8, .pointer (sp c2)), (9, .int .i64 0)] ⟨rfl, rfl, rfl, rfl, trivial⟩ ?_
 refine CW.loop (fun kL4 l_ w_ => ∃ (b4 : List Int) (a9 : Int), l_ = [(2, .pointer (sp a0)), (6, .pointer (sp a6)), (8, .pointer (sp c2)), (9, .int .i64 a9)] ∧ reliquaryref02_Of.L4 r0 a7 kL4 b4 a9 ∧ (b4.length = 32) ∧ St w w_ [.cells c2 (iv .u8 b4) 23, .cells a6 (iv .u32 a7) 134, .sl (sp a2) 1 1 (iv .u8 [128]) 5 1, .sl a4 a5 a3 (iv .u8 a1) 5 1, .cells a0 (iv .u8 (z32)) 23]) (k := k7) ⟨z32, 0, rfl, H, (List.length_replicate ..), k6⟩ (fun _ _ h => by obtain ⟨_, _, _, h, _⟩ := h; exact h.elim) ?_
 rintro kL4 m8 m9 ⟨b4, a9, rfl, H, b6, d2⟩
 refine CW.seq (cr (WL.mv rfl ?_))
 refine WL.v (Runs.lss rfl rfl rfl) ?_
 refine wn ?_
 rcases H with ⟨f9, H⟩ | ⟨f9, H⟩
 ·have g0 : (decide (a9 < 32)) = true := (decide_eq_true f9)
  refine CW.ct rfl g0 ?_
  refine CW.skip (QW.then_n (CW.seq (CW.block (CW.region (WL.mv rfl (WL.mv rfl ?_))))))
  refine WL.v (Runs.quo rfl rfl (by decide) rfl) ?_
  obtain ⟨⟨k8, k9⟩, H⟩ := H
  refine WL.v (Runs.indexAddr_blk arr134 rfl rfl k8 k9 (o := (IntKind.i64.wrap (Int.tdiv a9 4)).toNat) (by first | rfl | omega)) ?_
  refine WL.v (Runs.load nagg24 rfl (d2.cell_iv (i := 1) rfl (by have := d1; omega))) ?_
  refine WL.mv rfl ?_
  refine WL.v (Runs.rem rfl rfl (by decide) rfl) ?_
  refine WL.v (Runs.mul rfl rfl rfl) ?_
  obtain ⟨n1, l1, H⟩ := H
  refine WL.v (Runs.sub rfl rfl l1) ?_
  refine WL.v (Runs.conv Tryd.underlying133 ⟨_, Tryd.underlying3⟩ rfl rfl) ?_
  obtain ⟨l2, H⟩ := H
  obtain ⟨l3, l4, H⟩ := H
  refine WL.v (Runs.shr rfl rfl l2 l4) ?_
  refine WL.v (Runs.conv Tryd.underlying5 ⟨_, Tryd.underlying24⟩ rfl rfl) ?_
  obtain ⟨⟨l5, l6⟩, H⟩ := H
  refine WL.v (Runs.indexAddr_blk arr23 rfl rfl l5 l6 (o := (a9).toNat) (by first | rfl | omega)) ?_
  obtain ⟨g1, h8, H⟩ := H
  have l7 : g1.length = 32 := by rw [h8, List.length_set]; exact b6
  refine WL.store_cells (i := 0) d2 rfl cells5 rfl (by rw [iv_length]; have := b6; omega) rfl rfl ?_
  intro l8 g2
  have g2' : St w l8 [.cells c2 (iv .u8 g1) 23, .cells a6 (iv .u32 a7) 134, .sl (sp a2) 1 1 (iv .u8 [128]) 5 1, .sl a4 a5 a3 (iv .u8 a1) 5 1, .cells a0 (iv .u8 (z32)) 23] := by rw [h8, ← iv_set .u8 b4 (a9.toNat) (IntKind.u8.wrap l3)]; exact g2
  refine WL.nil (QW.blk_n (QW.then_n (CW.region (WL.mv rfl ?_))))
  refine WL.v (Runs.add rfl rfl rfl) ?_
  refine WL.as rfl (WL.nil ?_)
  exact QW.at _ (by repeat' constructor) ⟨g1, IntKind.i64.wrap (a9 + 1), rfl, H, l7, g2'⟩
 have g0 : (decide (a9 < 32)) = false := (decide_eq_false f9)
 refine CW.cf rfl g0 ?_
 refine CW.exit (QW.then_x (QW.then_x (QW.blk_x (QW.then_n (cr ?_)))))
 refine WL.v (Runs.load_arr arr23 rfl (d2.blk (i := 0) rfl) b6) ?_
 refine WL.store_arr (i := 4) d2 rfl arr23 rfl (by rw [iv_length]; exact (List.length_replicate ..)) b6 rfl ?_
 intro l9 d3
 try dsimp only [List.set] at d3
 refine wn (CW.ret ?_)
 obtain rfl := H
 exact QW.retc rfl arr23 rfl (d3.blk (i := 4) rfl) b6 ⟨b6, rfl, d3.pick [] (by decide)⟩
/-! ### reliquaryref13_Link: function 10 -/
def reliquaryref13_Link.rel (l0 : List Int) (a1 : Int) (a2 : ByteArray) (r0 : List Int) : Prop := (∃ a0 : List Int, a0 = [255] ++ l0 ∧ (a0.length ≤ 1099511627776 ∧ (∃ (a5 : List Int), reliquaryref01_Put.rel (IntKind.u64.wrap a1) 4 a5 ∧ (∃ a3 : List Int, a3 = a0 ++ a5 ∧ (a3.length ≤ 1099511627776 ∧ (∃ a4 : List Int, a4 = a3 ++ bl a2 ∧ (a4.length ≤ 1099511627776 ∧ (∃ (a6 : List Int), reliquaryref02_Of.rel a4 a6 ∧ r0 = a6))))))))
set_option maxHeartbeats 4000000 in
theorem reliquaryref13_Link.calls (w : World) (l0 : List Int) (a1 : Int) (a2 : ByteArray)   (hl0 : l0.length = 32) (r0 : List Int) (H : reliquaryref13_Link.rel l0 a1 a2 r0) :
  Calls Tryd.prog 10 #[.agg (iv .u8 l0).toArray, .int .u32 a1, .string a2] w fun e w' => r0.length = 32 ∧ e = .returned (.agg (iv .u8 r0).toArray) ∧ St w w' [] := by
 refine CW.enter Tryd.func10 rfl (n := 22) rfl [.agg (iv .u8 l0).toArray, .int .u32 a1, .string a2] (Nat.le_of_ble_eq_true rfl) ?_
 refine CW.sub [(0, .agg (iv .u8 l0).toArray), (1, .int .u32 a1), (2, .string a2)] ⟨rfl, rfl, rfl, trivial⟩ ?_
 have st0 : St w w [] := St.refl w
 refine cr ?_
 refine WL.box st0 rfl rfl ?_
 intro a3 f3 d7
 refine WL.alloc d7 arr23.zero ?_
 intro a0 f4 d8
 refine WL.nx ?_
 refine WL.buildSl [.int .u8 255] d8 Tryd.underlying25 elem5 rfl rfl (by decide) (by decide) (by simp [Value.cells]) ?_
 intro d9 e0 b1
 replace b1 : St w e0 [.sl (sp d9) 1 1 (iv .u8 [255]) 5 1, .cells a0 (iv .u8 (z32)) 23, .cells a3 (iv .u8 l0) 23] := b1
 refine WL.as rfl (WL.nx (WL.mv rfl ?_))
 refine WL.v (Runs.slice_arr arr23 rfl (by decide)) ?_
 obtain ⟨b2, c7, H⟩ := H
 obtain ⟨e1, H⟩ := H
 obtain ⟨b3, b7⟩ : ∃ n_ : Nat, n_ = b2.length := ⟨_, rfl⟩
 refine WL.append (i := 0) Wanted.none b1 rfl Tryd.underlying25 elem5 rfl rfl (b1.src_blk (i := 2) rfl) (by rw [iv_length]; exact ((hl0).symm).symm) (one_iv .u8 _) (by decide) (N := b3) (by rw [b7, c7, List.length_append]; exact congr (congrArg HAdd.hAdd (rfl)) ((hl0).symm)) (by rw [b7]; exact e1) ?_
 intro b8 b9 c8 c0
 have c0' : St w c8 [.sl b8 b9 b3 (iv .u8 b2) 5 1, .cells a0 (iv .u8 (z32)) 23, .cells a3 (iv .u8 l0) 23] := by rw [c7, ← iv_append .u8 [255] l0]; exact c0
 refine WL.as rfl (wn ?_)
 refine CW.sub [(1, .int .u32 a1), (2, .string a2), (6, .pointer (sp a0)), (7, .slice b8 b3 b9)] ⟨rfl, rfl, rfl, rfl, trivial⟩ ?_
 refine cr (WL.mv rfl (WL.mv rfl ?_))
 refine WL.v (Runs.conv Tryd.underlying37 ⟨_, Tryd.underlying24⟩ rfl rfl) ?_
 obtain ⟨a4, e2, H⟩ := H
 refine WL.call Wanted.none ent33 rfl (reliquaryref01_Put.calls c8 (IntKind.u64.wrap a1) 4 a4 e2) ?_
 rintro _ e3 ⟨a5, a6, a7, c9, rfl, e4⟩
 have d0 : St w e3 [.sl a5 a6 a7 (iv .u8 a4) 5 1, .sl b8 b9 b3 (iv .u8 b2) 5 1, .cells a0 (iv .u8 (z32)) 23, .cells a3 (iv .u8 l0) 23] := c0'.call e4
 refine ⟨_, rfl, ?_⟩
 obtain ⟨c1, d1, H⟩ := H
 obtain ⟨e5, H⟩ := H
 obtain ⟨c2, c3⟩ : ∃ n_ : Nat, n_ = c1.length := ⟨_, rfl⟩
 refine WL.append (i := 1) Wanted.none d0 rfl Tryd.underlying25 elem5 rfl rfl (d0.src_sl (k := 0) rfl) (by rw [iv_length]; exact (c9).symm) (one_iv .u8 _) (by decide) (N := c2) (by rw [c3, d1, List.length_append]; exact congr (congrArg HAdd.hAdd (b7)) (c9)) (by rw [c3]; exact e5) ?_
 intro d2 d3 e6 c4
 have c4' : St w e6 [.sl a5 a6 a7 (iv .u8 a4) 5 1, .sl d2 d3 c2 (iv .u8 c1) 5 1, .cells a0 (iv .u8 (z32)) 23, .cells a3 (iv .u8 l0) 23] := by rw [d1, ← iv_append .u8 b2 a4]; exact c4
 refine WL.as rfl (wn ?_)
 refine CW.sub [(2, .string a2), (6, .pointer (sp a0)), (7, .slice d2 c2 d3)] ⟨rfl, rfl, rfl, trivial⟩ ?_
 refine cr (WL.mv rfl (WL.mv rfl ?_))
 obtain ⟨a8, d4, H⟩ := H
 obtain ⟨e7, H⟩ := H
 obtain ⟨a9, c5⟩ : ∃ n_ : Nat, n_ = a8.length := ⟨_, rfl⟩
 refine WL.append_str (i := 1) Wanted.none c4' rfl Tryd.underlying25 Tryd.underlying9 elem5 rfl rfl (N := a9) (by rw [c5, d4, List.length_append]; exact congr (congrArg HAdd.hAdd (c3)) (bl_length _)) (by rw [c5]; exact e7) ?_
 intro b4 b5 d5 b0
 have b0' : St w d5 [.sl a5 a6 a7 (iv .u8 a4) 5 1, .sl b4 b5 a9 (iv .u8 a8) 5 1, .cells a0 (iv .u8 (z32)) 23, .cells a3 (iv .u8 l0) 23] := by rw [d4, ← iv_append .u8 c1 (bl a2)]; exact b0
 refine WL.as rfl (WL.nx (WL.mv rfl ?_))
 obtain ⟨d6, e8, H⟩ := H
 refine WL.call Wanted.none ent34 rfl (reliquaryref02_Of.calls d5 a8 b4 a9 b5 (b0'.src_sl (k := 1) rfl) (c5) (b0'.cap (i := 1) rfl) d6 e8) ?_
 rintro _ e9 ⟨c6, rfl, f0⟩
 have f1 : St w e9 [.sl a5 a6 a7 (iv .u8 a4) 5 1, .sl b4 b5 a9 (iv .u8 a8) 5 1, .cells a0 (iv .u8 (z32)) 23, .cells a3 (iv .u8 l0) 23] := b0'.call f0
 refine ⟨_, rfl, ?_⟩
 refine WL.store_arr (i := 2) f1 rfl arr23 rfl (by rw [iv_length]; exact (List.length_replicate ..)) c6 rfl ?_
 intro f2 b6
 try dsimp only [List.set] at b6
 refine wn (CW.ret ?_)
 obtain rfl := H
 exact QW.retc rfl arr23 rfl (b6.blk (i := 2) rfl) c6 ⟨c6, rfl, b6.pick [] (by decide)⟩
/-! ### reliquaryref13_Append: function 21 -/
def reliquaryref13_Append.L1 (l1_0 : List Int) (a1_1 : Int) (a1_2 : Int) (a1_3 : Int) (a1_4 : Int) (l1_5 : List Int) (a1_7 : Int) (ar0_0 : Int) (lr0_1 : List R145) (lr0_2 : List R145) (ar0_3 : Int) (ar0_4 : Bool) (lr0_5 : List R160) (lr1_0 : List Int) (ar1_1 : Int) (ar1_2 : Int) (ar1_3 : Int) (ar1_4 : Int) (lr1_5 : List Int) (ar1_6 : Int) (ar1_7 : Int) (ar2_0 : Int) (ar2_1 : Int) (lr2_2 : List Int) (ar3 : Int) (a1 : List R118) : Nat → Int → (List Int) → Int → Int → (List R145) → (List R145) → Int → Bool → (List R160) → Int → Int → Int → Prop
 | 0, _, _, _, _, _, _, _, _, _, _, _, _ => False
 | kL1 + 1, a5, b3, a3, b4, b5, b6, b7, b8, b9, c2, c5, a0 => ((a0 < (a1.length : Int) ∧ (a1_2 ≠ 0 ∧ (∃ a4 : Int, a4 = IntKind.i64.wrap (Int.tmod (IntKind.u64.wrap (a1_3 + a5)) a1_2) ∧ ((0 ≤ a0 ∧ a0 < (a1.length : Int)) ∧ (∃ (c0 : ByteArray) (c3 : Int), reliquaryref12_Put.rel ((gx a1 (a0.toNat)).1) ((gx a1 (a0.toNat)).2.1) ((gx a1 (a0.toNat)).2.2) c0 c3 ∧ (∃ (a6 : ByteArray) (c4 : Int), reliquaryref08_Seal.rel l1_0 (IntKind.u32.wrap (IntKind.i64.wrap (a1_1 + a4))) a3 c0 a6 c4 ∧ (∃ (a7 : Int) (a8 : List R145) (a9 : List R145) (b0 : Int) (b1 : Bool) (b2 : List R160) (a2 : Int), reliquaryref06_Write.rel b4 b5 b6 b7 b8 b9 (IntKind.i64.wrap (a1_1 + a4)) a6 a7 a8 a9 b0 b1 b2 a2 ∧ ((a2 ≠ 0 ∧ ar0_0 = a7 ∧ lr0_1 = a8 ∧ lr0_2 = a9 ∧ ar0_3 = b0 ∧ ar0_4 = b1 ∧ lr0_5 = b2 ∧ lr1_0 = l1_0 ∧ ar1_1 = a1_1 ∧ ar1_2 = a1_2 ∧ ar1_3 = a1_3 ∧ ar1_4 = a1_4 ∧ lr1_5 = l1_5 ∧ ar1_6 = IntKind.u64.wrap (a3 + 1) ∧ ar1_7 = a1_7 ∧ ar2_0 = 0 ∧ ar2_1 = 0 ∧ lr2_2 = z32 ∧ ar3 = a2) ∨ (¬ (a2 ≠ 0) ∧ (∃ (c1 : List Int), reliquaryref13_Link.rel b3 (IntKind.u32.wrap (IntKind.i64.wrap (a1_1 + a4))) a6 c1 ∧ reliquaryref13_Append.L1 l1_0 a1_1 a1_2 a1_3 a1_4 l1_5 a1_7 ar0_0 lr0_1 lr0_2 ar0_3 ar0_4 lr0_5 lr1_0 ar1_1 ar1_2 ar1_3 ar1_4 lr1_5 ar1_6 ar1_7 ar2_0 ar2_1 lr2_2 ar3 a1 kL1 (IntKind.u64.wrap (a5 + 1)) c1 (IntKind.u64.wrap (a3 + 1)) a7 a8 a9 b0 b1 b2 c2 a2 (IntKind.i64.wrap (a0 + 1)))))))))))) ∨ (¬ (a0 < (a1.length : Int)) ∧ ar0_0 = b4 ∧ lr0_1 = b5 ∧ lr0_2 = b6 ∧ ar0_3 = b7 ∧ ar0_4 = b8 ∧ lr0_5 = b9 ∧ lr1_0 = l1_0 ∧ ar1_1 = a1_1 ∧ ar1_2 = a1_2 ∧ ar1_3 = a1_3 ∧ ar1_4 = a1_4 ∧ lr1_5 = l1_5 ∧ ar1_6 = a3 ∧ ar1_7 = a1_7 ∧ ar2_0 = a1_3 ∧ ar2_1 = a5 ∧ lr2_2 = b3 ∧ ar3 = 0))
def reliquaryref13_Append.rel (a0_0 : Int) (l0_1 : List R145) (l0_2 : List R145) (a0_3 : Int) (a0_4 : Bool) (l0_5 : List R160) (l1_0 : List Int) (a1_1 : Int) (a1_2 : Int) (a1_3 : Int) (a1_4 : Int) (l1_5 : List Int) (a1_6 : Int) (a1_7 : Int) (l2 : List R116) (ar0_0 : Int) (lr0_1 : List R145) (lr0_2 : List R145) (ar0_3 : Int) (ar0_4 : Bool) (lr0_5 : List R160) (lr1_0 : List Int) (ar1_1 : Int) (ar1_2 : Int) (ar1_3 : Int) (ar1_4 : Int) (lr1_5 : List Int) (ar1_6 : Int) (ar1_7 : Int) (ar2_0 : Int) (ar2_1 : Int) (lr2_2 : List Int) (ar3 : Int) : Prop := (∃ (a0 : List R118) (a1 : Int), reliquaryref12_Of.rel l2 a0 a1 ∧ ((a1 ≠ 0 ∧ ar0_0 = a0_0 ∧ lr0_1 = l0_1 ∧ lr0_2 = l0_2 ∧ ar0_3 = a0_3 ∧ ar0_4 = a0_4 ∧ lr0_5 = l0_5 ∧ lr1_0 = l1_0 ∧ ar1_1 = a1_1 ∧ ar1_2 = a1_2 ∧ ar1_3 = a1_3 ∧ ar1_4 = a1_4 ∧ lr1_5 = l1_5 ∧ ar1_6 = a1_6 ∧ ar1_7 = a1_7 ∧ ar2_0 = 0 ∧ ar2_1 = 0 ∧ lr2_2 = z32 ∧ ar3 = a1) ∨ (¬ (a1 ≠ 0) ∧ (((IntKind.u64.wrap (a0.length : Int)) > (IntKind.u64.wrap (a1_2 - a1_4)) ∧ ar0_0 = a0_0 ∧ lr0_1 = l0_1 ∧ lr0_2 = l0_2 ∧ ar0_3 = a0_3 ∧ ar0_4 = a0_4 ∧ lr0_5 = l0_5 ∧ lr1_0 = l1_0 ∧ ar1_1 = a1_1 ∧ ar1_2 = a1_2 ∧ ar1_3 = a1_3 ∧ ar1_4 = a1_4 ∧ lr1_5 = l1_5 ∧ ar1_6 = a1_6 ∧ ar1_7 = a1_7 ∧ ar2_0 = 0 ∧ ar2_1 = 0 ∧ lr2_2 = z32 ∧ ar3 = 17) ∨ (¬ ((IntKind.u64.wrap (a0.length : Int)) > (IntKind.u64.wrap (a1_2 - a1_4))) ∧ ((a1_6 > a1_7 ∧ ar0_0 = a0_0 ∧ lr0_1 = l0_1 ∧ lr0_2 = l0_2 ∧ ar0_3 = a0_3 ∧ ar0_4 = a0_4 ∧ lr0_5 = l0_5 ∧ lr1_0 = l1_0 ∧ ar1_1 = a1_1 ∧ ar1_2 = a1_2 ∧ ar1_3 = a1_3 ∧ ar1_4 = a1_4 ∧ lr1_5 = l1_5 ∧ ar1_6 = a1_6 ∧ ar1_7 = a1_7 ∧ ar2_0 = 0 ∧ ar2_1 = 0 ∧ lr2_2 = z32 ∧ ar3 = 15) ∨ (¬ (a1_6 > a1_7) ∧ (((IntKind.u64.wrap (a0.length : Int)) > (IntKind.u64.wrap (a1_7 - a1_6)) ∧ ar0_0 = a0_0 ∧ lr0_1 = l0_1 ∧ lr0_2 = l0_2 ∧ ar0_3 = a0_3 ∧ ar0_4 = a0_4 ∧ lr0_5 = l0_5 ∧ lr1_0 = l1_0 ∧ ar1_1 = a1_1 ∧ ar1_2 = a1_2 ∧ ar1_3 = a1_3 ∧ ar1_4 = a1_4 ∧ lr1_5 = l1_5 ∧ ar1_6 = a1_6 ∧ ar1_7 = a1_7 ∧ ar2_0 = 0 ∧ ar2_1 = 0 ∧ lr2_2 = z32 ∧ ar3 = 15) ∨ (¬ ((IntKind.u64.wrap (a0.length : Int)) > (IntKind.u64.wrap (a1_7 - a1_6))) ∧ (∃ k_ : Nat, reliquaryref13_Append.L1 l1_0 a1_1 a1_2 a1_3 a1_4 l1_5 a1_7 ar0_0 lr0_1 lr0_2 ar0_3 ar0_4 lr0_5 lr1_0 ar1_1 ar1_2 ar1_3 ar1_4 lr1_5 ar1_6 ar1_7 ar2_0 ar2_1 lr2_2 ar3 a0 k_ a1_4 l1_5 a1_6 a0_0 l0_1 l0_2 a0_3 a0_4 l0_5 0 a1 0))))))))))
set_option maxHeartbeats 1000000 in
theorem reliquaryref13_Append.calls (w w1 : World) (T R : Pool) (a0_0 : Int) (l0_1 : List R145) (l0_2 : List R145) (a0_3 : Int) (a0_4 : Bool) (l0_5 : List R160) (l1_0 : List Int) (a1_1 : Int) (a1_2 : Int) (a1_3 : Int) (a1_4 : Int) (l1_5 : List Int) (a1_6 : Int) (a1_7 : Int) (l2 : List R116) (A0_1 : Option Addr) (n0_1 : Nat) (c0_1 : Nat) (A0_2 : Option Addr) (n0_2 : Nat) (c0_2 : Nat) (A0_5 : Option Addr) (n0_5 : Nat) (c0_5 : Nat) (A2 : Option Addr) (n2 : Nat) (c2 : Nat) (st0 : St w w1 ((T ++ R))) (hb0_1 : HS w T T A0_1 n0_1 c0_1 (f145 w) l0_1) (hb0_2 : HS w T T A0_2 n0_2 c0_2 (f145 w) l0_2) (hb0_5 : HS w T T A0_5 n0_5 c0_5 (f160 w) l0_5) (hl1_0 : l1_0.length = 32) (hl1_5 : l1_5.length = 32) (hb2 : HS w (T ++ R) T A2 n2 c2 (f116 w) l2) (ar0_0 : Int) (lr0_1 : List R145) (lr0_2 : List R145) (ar0_3 : Int) (ar0_4 : Bool) (lr0_5 : List R160) (lr1_0 : List Int) (ar1_1 : Int) (ar1_2 : Int) (ar1_3 : Int) (ar1_4 : Int) (lr1_5 : List Int) (ar1_6 : Int) (ar1_7 : Int) (ar2_0 : Int) (ar2_1 : Int) (lr2_2 : List Int) (ar3 : Int) (H : reliquaryref13_Append.rel a0_0 l0_1 l0_2 a0_3 a0_4 l0_5 l1_0 a1_1 a1_2 a1_3 a1_4 l1_5 a1_6 a1_7 l2 ar0_0 lr0_1 lr0_2 ar0_3 ar0_4 lr0_5 lr1_0 ar1_1 ar1_2 ar1_3 ar1_4 lr1_5 ar1_6 ar1_7 ar2_0 ar2_1 lr2_2 ar3) :
  Calls Tryd.prog 21 #[.agg ((ci a0_0) ++ ((cl A0_1 n0_1 c0_1) ++ ((cl A0_2 n0_2 c0_2) ++ ((ci a0_3) ++ ((cb a0_4) ++ (cl A0_5 n0_5 c0_5)))))).toArray, .agg (iv .u8 l1_0 ++ ((ci a1_1) ++ ((cu a1_2) ++ ((cu a1_3) ++ ((cu a1_4) ++ (iv .u8 l1_5 ++ ((cu a1_6) ++ (cu a1_7)))))))).toArray, .slice A2 n2 c2] w1 fun e w' => ∃ T' Ar0_1 nr0_1 cr0_1 Ar0_2 nr0_2 cr0_2 Ar0_5 nr0_5 cr0_5, Pl T T' ∧ HS w T' T' Ar0_1 nr0_1 cr0_1 (f145 w) lr0_1 ∧ HS w T' T' Ar0_2 nr0_2 cr0_2 (f145 w) lr0_2 ∧ HS w T' T' Ar0_5 nr0_5 cr0_5 (f160 w) lr0_5 ∧ lr1_0.length = 32 ∧ lr1_5.length = 32 ∧ lr2_2.length = 32 ∧ e = .returned (.tuple #[.agg ((ci ar0_0) ++ ((cl Ar0_1 nr0_1 cr0_1) ++ ((cl Ar0_2 nr0_2 cr0_2) ++ ((ci ar0_3) ++ ((cb ar0_4) ++ (cl Ar0_5 nr0_5 cr0_5)))))).toArray, .agg (iv .u8 lr1_0 ++ ((ci ar1_1) ++ ((cu ar1_2) ++ ((cu ar1_3) ++ ((cu ar1_4) ++ (iv .u8 lr1_5 ++ ((cu ar1_6) ++ (cu ar1_7)))))))).toArray, .agg ((cu ar2_0) ++ ((cu ar2_1) ++ iv .u8 lr2_2)).toArray, .int .i64 ar3]) ∧ St w w' ((T' ++ R)) := by
 refine CW.enter Tryd.func21 rfl (n := 132) rfl [.agg ((ci a0_0) ++ ((cl A0_1 n0_1 c0_1) ++ ((cl A0_2 n0_2 c0_2) ++ ((ci a0_3) ++ ((cb a0_4) ++ (cl A0_5 n0_5 c0_5)))))).toArray, .agg (iv .u8 l1_0 ++ ((ci a1_1) ++ ((cu a1_2) ++ ((cu a1_3) ++ ((cu a1_4) ++ (iv .u8 l1_5 ++ ((cu a1_6) ++ (cu a1_7)))))))).toArray, .slice A2 n2 c2] (Nat.le_of_ble_eq_true rfl) ?_
 refine CW.sub [(0, .agg ((ci a0_0) ++ ((cl A0_1 n0_1 c0_1) ++ ((cl A0_2 n0_2 c0_2) ++ ((ci a0_3) ++ ((cb a0_4) ++ (cl A0_5 n0_5 c0_5)))))).toArray), (1, .agg (iv .u8 l1_0 ++ ((ci a1_1) ++ ((cu a1_2) ++ ((cu a1_3) ++ ((cu a1_4) ++ (iv .u8 l1_5 ++ ((cu a1_6) ++ (cu a1_7)))))))).toArray), (2, .slice A2 n2 c2)] ⟨rfl, rfl, rfl, trivial⟩ ?_
 refine cr ?_
 refine WL.box st0 rfl rfl ?_
 intro a1 t2 m8
 refine WL.box m8 rfl rfl ?_
 intro a2 t3 m9
 refine WL.alloc m9 zero57 ?_
 intro a7 t4 n0
 refine WL.alloc n0 zero62 ?_
 intro a8 t5 n1
 refine WL.alloc n1 zero60 ?_
 intro a0 k9 n3
 refine WL.as rfl (WL.nx (WL.mv rfl ?_))
 have n4 := St.hide (A := []) (B := [_, _, _, _, _]) (T := T) (R := R) n3
 obtain ⟨e1, e6, n5, H⟩ := H
 refine WL.call Wanted.none ent43 rfl (reliquaryref12_Of.calls w k9 T (oS a0 0 0 (z32) 60 :: oK a8 (z32) 0 0 0 0 (z32) 0 0 62 :: oM a7 0 none 0 0 none 0 0 0 false none 0 0 57 :: oK a2 l1_0 a1_1 a1_2 a1_3 a1_4 l1_5 a1_6 a1_7 62 :: oM a1 a0_0 A0_1 n0_1 c0_1 A0_2 n0_2 c0_2 a0_3 a0_4 A0_5 n0_5 c0_5 57 :: R) l2 A2 n2 c2  n4 (hb2.mono (memo_TR (B := [_, _, _, _, _]) (fun _ h_ => h_)) (fun _ h_ => h_)) e1 e6 n5) ?_
 rintro _ n6 ⟨b3, a4, a3, a5, a6, b0, i8, n7, rfl, n8⟩
 have e5 : St w n6 (.sl a4 a5 a3 a6 118 3 :: oS a0 0 0 (z32) 60 :: oK a8 (z32) 0 0 0 0 (z32) 0 0 62 :: oM a7 0 none 0 0 none 0 0 0 false none 0 0 57 :: oK a2 l1_0 a1_1 a1_2 a1_3 a1_4 l1_5 a1_6 a1_7 62 :: oM a1 a0_0 A0_1 n0_1 c0_1 A0_2 n0_2 c0_2 a0_3 a0_4 A0_5 n0_5 c0_5 57 :: (b3 ++ R)) := St.unhide (A := [_]) (B := [_, _, _, _, _]) (T := b3) (R := R) n8
 refine ⟨_, rfl, ?_⟩
 refine WL.mv rfl ?_
 refine WL.v (Runs.extract rfl rfl) ?_
 refine WL.v (Runs.extract rfl rfl) ?_
 refine WL.as rfl (WL.as rfl (wn ?_))
 refine CW.sub [(3, .pointer (sp a1)), (4, .pointer (sp a2)), (6, .pointer (sp a7)), (7, .pointer (sp a8)), (8, .pointer (sp a0)), (9, .int .i64 0), (10, .slice a4 a3 a5), (11, .int .i64 e6)] (by repeat' constructor) ?_
 refine CW.seq (cr (WL.mv rfl ?_))
 refine WL.v (Runs.neq rfl rfl rfl) ?_
 refine wn ?_
 rcases H with ⟨i9, H⟩ | ⟨i9, H⟩
 ·have j0 : (e6 != 0) = true := (bne_iff_ne.mpr i9)
  refine CW.ct rfl j0 ?_
  refine CW.seq ?_
  refine CW.region_awh (C := fun w_ => St w w_ (.sl a4 a5 a3 a6 118 3 :: oS a0 0 0 (z32) 60 :: oK a2 l1_0 a1_1 a1_2 a1_3 a1_4 l1_5 a1_6 a1_7 62 :: oM a1 a0_0 A0_1 n0_1 c0_1 A0_2 n0_2 c0_2 a0_3 a0_4 A0_5 n0_5 c0_5 57 :: (b3 ++ R))) 7 wide (by kernel_rfl) e5 (fun n9 f2 => ?_)
  have e8 : St w n9 (.sl a4 a5 a3 a6 118 3 :: oS a0 0 0 (z32) 60 :: oK a2 l1_0 a1_1 a1_2 a1_3 a1_4 l1_5 a1_6 a1_7 62 :: oM a1 a0_0 A0_1 n0_1 c0_1 A0_2 n0_2 c0_2 a0_3 a0_4 A0_5 n0_5 c0_5 57 :: (b3 ++ R)) := (St.pickT (L := [_, _, _, _, _, _]) f2 [0, 1, 4, 5] (by decide))
  refine AWH.kn (St.subset e8 f2 (mc 0 rfl (mc 1 rfl (mc 4 rfl (mc 5 rfl (mem_TR (A := [_, _, _, _, _, _]) (fun _ h_ => h_))))))) fun zC1 => ?_
  refine AWH.tk 0 rfl zC1 (fun wq sq => (Runs.load_mid row57 rfl sq (i := 3) rfl (pm [] ((ci a0_0) ++ ((cl A0_1 n0_1 c0_1) ++ ((cl A0_2 n0_2 c0_2) ++ ((ci a0_3) ++ ((cb a0_4) ++ (cl A0_5 n0_5 c0_5)))))) []) rfl)) ?_
  refine AWH.tk 1 rfl zC1 (fun wq sq => (Runs.load_mid row62 rfl sq (i := 2) rfl (pm [] (iv .u8 l1_0 ++ ((ci a1_1) ++ ((cu a1_2) ++ ((cu a1_3) ++ ((cu a1_4) ++ (iv .u8 l1_5 ++ ((cu a1_6) ++ (cu a1_7)))))))) [] (hm := by first | rfl | simp only [la, lc, ln, lv, hl1_0, hl1_5])) (by first | rfl | simp only [la, lc, ln, lv, hl1_0, hl1_5]))) ?_
  refine AWH.tk 2 rfl zC1 (fun wq sq => (Runs.build_struct (ps := [(0, 1), (1, 1), (2, 32)]) (cs := ((cu 0) ++ ((cu 0) ++ iv .u8 (z32)))) plc60 zero60 rfl Fills.nil)) ?_
  refine AWH.tk 3 rfl zC1 (fun wq sq => (Runs.move rfl)) ?_
  refine AWH.step 4 rfl (by decide) (by kernel_rfl) (fun inv_ hs_ hk_ hc_ hn_ => ?_)
  refine WL.sm (new := ((ci a0_0) ++ ((cl A0_1 n0_1 c0_1) ++ ((cl A0_2 n0_2 c0_2) ++ ((ci a0_3) ++ ((cb a0_4) ++ (cl A0_5 n0_5 c0_5))))))) (i := 3) (pre := (([] : Cs))) (mid := ((ci 0) ++ ((cl none 0 0) ++ ((cl none 0 0) ++ ((ci 0) ++ ((cb false) ++ (cl none 0 0))))))) (post := (([] : Cs))) (ms := ((ci a0_0) ++ ((cl A0_1 n0_1 c0_1) ++ ((cl A0_2 n0_2 c0_2) ++ ((ci a0_3) ++ ((cb a0_4) ++ (cl A0_5 n0_5 c0_5))))))) f2 rfl row57 (by first | rfl | simp only [aa, an, na, ca]) rfl rfl rfl rfl rfl (one_cat oneU (one_cat oneU (one_cat oneU (one_cat oneU (one_cat oneU oneU))))) rfl ?_
  intro o0 g9
  try dsimp only [List.set] at g9
  refine WL.nil ?_
  refine AWH.back (St.subset e8 g9 (mc 0 rfl (mc 1 rfl (mc 4 rfl (mc 5 rfl (mem_TR (A := [_, _, _, _, _, _]) (fun _ h_ => h_))))))) inv_ hs_ hk_ hc_ hn_ ?_
  refine AWH.step 5 rfl (by decide) (by kernel_rfl) (fun inv_ hs_ hk_ hc_ hn_ => ?_)
  refine WL.sm (new := (iv .u8 l1_0 ++ ((ci a1_1) ++ ((cu a1_2) ++ ((cu a1_3) ++ ((cu a1_4) ++ (iv .u8 l1_5 ++ ((cu a1_6) ++ (cu a1_7))))))))) (i := 2) (pre := (([] : Cs))) (mid := (iv .u8 (z32) ++ ((ci 0) ++ ((cu 0) ++ ((cu 0) ++ ((cu 0) ++ (iv .u8 (z32) ++ ((cu 0) ++ (cu 0))))))))) (post := (([] : Cs))) (ms := (iv .u8 l1_0 ++ ((ci a1_1) ++ ((cu a1_2) ++ ((cu a1_3) ++ ((cu a1_4) ++ (iv .u8 l1_5 ++ ((cu a1_6) ++ (cu a1_7))))))))) g9 rfl row62 (by first | rfl | simp only [aa, an, na, ca]) rfl rfl rfl (by first | rfl | simp only [la, lc, ln, lv, hl1_0, hl1_5]) (by first | rfl | simp only [la, lc, ln, lv, List.length_replicate]) (one_cat (one_iv _ _) (one_cat oneU (one_cat oneU (one_cat oneU (one_cat oneU (one_cat (one_iv _ _) (one_cat oneU oneU))))))) (by first | rfl | simp only [aa, an, na, ca]) ?_
  intro o1 h0
  try dsimp only [List.set] at h0
  refine WL.nil ?_
  refine AWH.back (St.subset e8 h0 (mc 0 rfl (mc 1 rfl (mc 4 rfl (mc 5 rfl (mem_TR (A := [_, _, _, _, _, _]) (fun _ h_ => h_))))))) inv_ hs_ hk_ hc_ hn_ ?_
  refine AWH.step 6 rfl (by decide) (by kernel_rfl) (fun inv_ hs_ hk_ hc_ hn_ => ?_)
  refine WL.sm (new := ((cu 0) ++ ((cu 0) ++ iv .u8 (z32)))) (i := 1) (pre := (([] : Cs))) (mid := ((cu 0) ++ ((cu 0) ++ iv .u8 (z32)))) (post := (([] : Cs))) (ms := ((cu 0) ++ ((cu 0) ++ iv .u8 (z32)))) h0 rfl row60 (by first | rfl | simp only [aa, an, na, ca]) rfl rfl rfl (by first | rfl | simp only [la, lc, ln, lv, List.length_replicate]) (by first | rfl | simp only [la, lc, ln, lv, List.length_replicate]) (one_cat oneU (one_cat oneU (one_iv _ _))) (by first | rfl | simp only [aa, an, na, ca]) ?_
  intro o2 e9
  try dsimp only [List.set] at e9
  refine WL.nil ?_
  refine AWH.back (St.subset e8 e9 (mc 0 rfl (mc 1 rfl (mc 4 rfl (mc 5 rfl (mem_TR (A := [_, _, _, _, _, _]) (fun _ h_ => h_))))))) inv_ hs_ hk_ hc_ hn_ ?_
  refine AWH.tail (by kernel_rfl) ?_
  refine AW.tk 7 rfl (fun _ => (Runs.assign rfl)) ?_
  refine AW.done (by kernel_rfl) ?_
  refine QW.then_n (CW.ret (QW.then_r ?_))
  obtain ⟨rfl, rfl, rfl, rfl, rfl, rfl, rfl, rfl, rfl, rfl, rfl, rfl, rfl, rfl, rfl, rfl, rfl, rfl⟩ := H
  exact QW.retN4 rfl (Res.row rfl row57 e9 (i := 3) rfl rfl) (Res.row rfl row62 e9 (i := 2) rfl (by first | rfl | simp only [la, lc, ln, lv, hl1_0, hl1_5])) (Res.row rfl row60 e9 (i := 1) rfl (by first | rfl | simp only [la, lc, ln, lv, List.length_replicate])) (Res.tmp rfl) ⟨b3, A0_1, n0_1, c0_1, A0_2, n0_2, c0_2, A0_5, n0_5, c0_5, b0, (hb0_1.mono (fun _ h_ => b0.1 _ h_) (fun _ h_ => b0.1 _ h_)), (hb0_2.mono (fun _ h_ => b0.1 _ h_) (fun _ h_ => b0.1 _ h_)), (hb0_5.mono (fun _ h_ => b0.1 _ h_) (fun _ h_ => b0.1 _ h_)), hl1_0, hl1_5, (List.length_replicate ..), rfl, (St.pickT (L := [_, _, _, _, _, _]) e9 [] (by decide))⟩
 have j0 : (e6 != 0) = false := (bne_eq_false_iff_eq.mpr (Decidable.not_not.mp i9))
 refine CW.cf rfl j0 ?_
 refine CW.skip (QW.then_n (cr (WL.mv rfl ?_)))
 refine WL.v (Runs.len_sl Tryd.underlying110 rfl (by rw [i8])) ?_
 refine WL.v (Runs.conv Tryd.underlying37 ⟨_, Tryd.underlying3⟩ rfl rfl) ?_
 refine WL.as rfl (wn (CW.seq (cr (WL.mv rfl ?_))))
 refine WL.v (Runs.fieldAddr (off := 33) (p := 33) fld62_2 rfl rfl rfl) ?_
 refine WL.v (Runs.load nagg37 rfl (e5.cell (k := 4) rfl (pa (.int .u64 a1_2) (iv .u8 l1_0 ++ (ci a1_1)) ((cu a1_3) ++ ((cu a1_4) ++ (iv .u8 l1_5 ++ ((cu a1_6) ++ (cu a1_7))))) (ho := by first | rfl | simp only [la, lc, ln, lv, hl1_0])))) ?_
 refine WL.v (Runs.fieldAddr (off := 34) (p := 34) fld62_3 rfl rfl rfl) ?_
 refine WL.v (Runs.fieldAddr (off := 1) (p := 35) fld60_1 rfl rfl rfl) ?_
 refine WL.v (Runs.load nagg37 rfl (e5.cell (k := 4) rfl (pa (.int .u64 a1_4) (iv .u8 l1_0 ++ ((ci a1_1) ++ ((cu a1_2) ++ (cu a1_3)))) (iv .u8 l1_5 ++ ((cu a1_6) ++ (cu a1_7))) (ho := by first | rfl | simp only [la, lc, ln, lv, hl1_0])))) ?_
 refine WL.v (Runs.sub rfl rfl rfl) ?_
 refine WL.v (Runs.gtr rfl rfl rfl) ?_
 refine wn ?_
 refine CW.sub [(3, .pointer (sp a1)), (4, .pointer (sp a2)), (6, .pointer (sp a7)), (7, .pointer (sp a8)), (8, .pointer (sp a0)), (9, .int .i64 0), (10, .slice a4 a3 a5), (11, .int .i64 e6), (12, .int .u64 (IntKind.u64.wrap (e1.length : Int))), (41, .bool (decide ((IntKind.u64.wrap (e1.length : Int)) > (IntKind.u64.wrap (a1_2 - a1_4)))))] (by repeat' constructor) ?_
 rcases H with ⟨j1, H⟩ | ⟨j1, H⟩
 ·have j2 : (decide ((IntKind.u64.wrap (e1.length : Int)) > (IntKind.u64.wrap (a1_2 - a1_4)))) = true := (decide_eq_true j1)
  refine CW.ct rfl j2 ?_
  refine CW.seq ?_
  refine CW.region_awh (C := fun w_ => St w w_ (.sl a4 a5 a3 a6 118 3 :: oS a0 0 0 (z32) 60 :: oK a2 l1_0 a1_1 a1_2 a1_3 a1_4 l1_5 a1_6 a1_7 62 :: oM a1 a0_0 A0_1 n0_1 c0_1 A0_2 n0_2 c0_2 a0_3 a0_4 A0_5 n0_5 c0_5 57 :: (b3 ++ R))) 5 wide (by kernel_rfl) e5 (fun o3 f8 => ?_)
  have f9 : St w o3 (.sl a4 a5 a3 a6 118 3 :: oS a0 0 0 (z32) 60 :: oK a2 l1_0 a1_1 a1_2 a1_3 a1_4 l1_5 a1_6 a1_7 62 :: oM a1 a0_0 A0_1 n0_1 c0_1 A0_2 n0_2 c0_2 a0_3 a0_4 A0_5 n0_5 c0_5 57 :: (b3 ++ R)) := (St.pickT (L := [_, _, _, _, _, _]) f8 [0, 1, 4, 5] (by decide))
  refine AWH.kn (St.subset f9 f8 (mc 0 rfl (mc 1 rfl (mc 4 rfl (mc 5 rfl (mem_TR (A := [_, _, _, _, _, _]) (fun _ h_ => h_))))))) fun zC2 => ?_
  refine AWH.tk 0 rfl zC2 (fun wq sq => (Runs.load_mid row57 rfl sq (i := 3) rfl (pm [] ((ci a0_0) ++ ((cl A0_1 n0_1 c0_1) ++ ((cl A0_2 n0_2 c0_2) ++ ((ci a0_3) ++ ((cb a0_4) ++ (cl A0_5 n0_5 c0_5)))))) []) rfl)) ?_
  refine AWH.tk 1 rfl zC2 (fun wq sq => (Runs.load_mid row62 rfl sq (i := 2) rfl (pm [] (iv .u8 l1_0 ++ ((ci a1_1) ++ ((cu a1_2) ++ ((cu a1_3) ++ ((cu a1_4) ++ (iv .u8 l1_5 ++ ((cu a1_6) ++ (cu a1_7)))))))) [] (hm := by first | rfl | simp only [la, lc, ln, lv, hl1_0, hl1_5])) (by first | rfl | simp only [la, lc, ln, lv, hl1_0, hl1_5]))) ?_
  refine AWH.tk 2 rfl zC2 (fun wq sq => (Runs.build_struct (ps := [(0, 1), (1, 1), (2, 32)]) (cs := ((cu 0) ++ ((cu 0) ++ iv .u8 (z32)))) plc60 zero60 rfl Fills.nil)) ?_
  refine AWH.step 3 rfl (by decide) (by kernel_rfl) (fun inv_ hs_ hk_ hc_ hn_ => ?_)
  refine WL.sm (new := ((ci a0_0) ++ ((cl A0_1 n0_1 c0_1) ++ ((cl A0_2 n0_2 c0_2) ++ ((ci a0_3) ++ ((cb a0_4) ++ (cl A0_5 n0_5 c0_5))))))) (i := 3) (pre := (([] : Cs))) (mid := ((ci 0) ++ ((cl none 0 0) ++ ((cl none 0 0) ++ ((ci 0) ++ ((cb false) ++ (cl none 0 0))))))) (post := (([] : Cs))) (ms := ((ci a0_0) ++ ((cl A0_1 n0_1 c0_1) ++ ((cl A0_2 n0_2 c0_2) ++ ((ci a0_3) ++ ((cb a0_4) ++ (cl A0_5 n0_5 c0_5))))))) f8 rfl row57 (by first | rfl | simp only [aa, an, na, ca]) rfl rfl rfl rfl rfl (one_cat oneU (one_cat oneU (one_cat oneU (one_cat oneU (one_cat oneU oneU))))) rfl ?_
  intro o4 h1
  try dsimp only [List.set] at h1
  refine WL.nil ?_
  refine AWH.back (St.subset f9 h1 (mc 0 rfl (mc 1 rfl (mc 4 rfl (mc 5 rfl (mem_TR (A := [_, _, _, _, _, _]) (fun _ h_ => h_))))))) inv_ hs_ hk_ hc_ hn_ ?_
  refine AWH.step 4 rfl (by decide) (by kernel_rfl) (fun inv_ hs_ hk_ hc_ hn_ => ?_)
  refine WL.sm (new := (iv .u8 l1_0 ++ ((ci a1_1) ++ ((cu a1_2) ++ ((cu a1_3) ++ ((cu a1_4) ++ (iv .u8 l1_5 ++ ((cu a1_6) ++ (cu a1_7))))))))) (i := 2) (pre := (([] : Cs))) (mid := (iv .u8 (z32) ++ ((ci 0) ++ ((cu 0) ++ ((cu 0) ++ ((cu 0) ++ (iv .u8 (z32) ++ ((cu 0) ++ (cu 0))))))))) (post := (([] : Cs))) (ms := (iv .u8 l1_0 ++ ((ci a1_1) ++ ((cu a1_2) ++ ((cu a1_3) ++ ((cu a1_4) ++ (iv .u8 l1_5 ++ ((cu a1_6) ++ (cu a1_7))))))))) h1 rfl row62 (by first | rfl | simp only [aa, an, na, ca]) rfl rfl rfl (by first | rfl | simp only [la, lc, ln, lv, hl1_0, hl1_5]) (by first | rfl | simp only [la, lc, ln, lv, List.length_replicate]) (one_cat (one_iv _ _) (one_cat oneU (one_cat oneU (one_cat oneU (one_cat oneU (one_cat (one_iv _ _) (one_cat oneU oneU))))))) (by first | rfl | simp only [aa, an, na, ca]) ?_
  intro o5 h2
  try dsimp only [List.set] at h2
  refine WL.nil ?_
  refine AWH.back (St.subset f9 h2 (mc 0 rfl (mc 1 rfl (mc 4 rfl (mc 5 rfl (mem_TR (A := [_, _, _, _, _, _]) (fun _ h_ => h_))))))) inv_ hs_ hk_ hc_ hn_ ?_
  refine AWH.tail (by kernel_rfl) ?_
  refine AW.step 5 rfl (by kernel_rfl) ?_
  refine WL.sm (new := ((cu 0) ++ ((cu 0) ++ iv .u8 (z32)))) (i := 1) (pre := (([] : Cs))) (mid := ((cu 0) ++ ((cu 0) ++ iv .u8 (z32)))) (post := (([] : Cs))) (ms := ((cu 0) ++ ((cu 0) ++ iv .u8 (z32)))) h2 rfl row60 (by first | rfl | simp only [aa, an, na, ca]) rfl rfl rfl (by first | rfl | simp only [la, lc, ln, lv, List.length_replicate]) (by first | rfl | simp only [la, lc, ln, lv, List.length_replicate]) (one_cat oneU (one_cat oneU (one_iv _ _))) (by first | rfl | simp only [aa, an, na, ca]) ?_
  intro o6 f3
  try dsimp only [List.set] at f3
  refine WL.nil ?_
  refine AW.back  ?_
  refine AW.tk 6 rfl (fun _ => (Runs.assign rfl)) ?_
  refine AW.done (by kernel_rfl) ?_
  refine QW.then_n (CW.ret (QW.then_r ?_))
  obtain ⟨rfl, rfl, rfl, rfl, rfl, rfl, rfl, rfl, rfl, rfl, rfl, rfl, rfl, rfl, rfl, rfl, rfl, rfl⟩ := H
  exact QW.retN4 rfl (Res.row rfl row57 f3 (i := 3) rfl rfl) (Res.row rfl row62 f3 (i := 2) rfl (by first | rfl | simp only [la, lc, ln, lv, hl1_0, hl1_5])) (Res.row rfl row60 f3 (i := 1) rfl (by first | rfl | simp only [la, lc, ln, lv, List.length_replicate])) (Res.tmp rfl) ⟨b3, A0_1, n0_1, c0_1, A0_2, n0_2, c0_2, A0_5, n0_5, c0_5, b0, (hb0_1.mono (fun _ h_ => b0.1 _ h_) (fun _ h_ => b0.1 _ h_)), (hb0_2.mono (fun _ h_ => b0.1 _ h_) (fun _ h_ => b0.1 _ h_)), (hb0_5.mono (fun _ h_ => b0.1 _ h_) (fun _ h_ => b0.1 _ h_)), hl1_0, hl1_5, (List.length_replicate ..), rfl, (St.pickT (L := [_, _, _, _, _, _]) f3 [] (by decide))⟩
 have j2 : (decide ((IntKind.u64.wrap (e1.length : Int)) > (IntKind.u64.wrap (a1_2 - a1_4)))) = false := (decide_eq_false j1)
 refine CW.cf rfl j2 ?_
 refine CW.skip (QW.then_n (CW.seq (cr ?_)))
 refine WL.v (Runs.fieldAddr (off := 68) (p := 68) fld62_4 rfl rfl rfl) ?_
 refine WL.v (Runs.load nagg37 rfl (e5.cell (k := 4) rfl (pa (.int .u64 a1_6) (iv .u8 l1_0 ++ ((ci a1_1) ++ ((cu a1_2) ++ ((cu a1_3) ++ ((cu a1_4) ++ iv .u8 l1_5))))) (cu a1_7) (ho := by first | rfl | simp only [la, lc, ln, lv, hl1_0, hl1_5])))) ?_
 refine WL.v (Runs.fieldAddr (off := 69) (p := 69) fld62_5 rfl rfl rfl) ?_
 refine WL.v (Runs.load nagg37 rfl (e5.cell (k := 4) rfl (pa (.int .u64 a1_7) (iv .u8 l1_0 ++ ((ci a1_1) ++ ((cu a1_2) ++ ((cu a1_3) ++ ((cu a1_4) ++ (iv .u8 l1_5 ++ (cu a1_6))))))) [] (ho := by first | rfl | simp only [la, lc, ln, lv, hl1_0, hl1_5])))) ?_
 refine WL.v (Runs.gtr rfl rfl rfl) ?_
 refine WL.mv rfl ?_
 rcases H with ⟨j3, H⟩ | ⟨j3, H⟩
 ·have e2 : (decide (a1_6 > a1_7)) = true := (decide_eq_true j3)
  refine WL.off ?_ ?_; exact Wg 50 e2
  refine WL.off ?_ ?_; exact Wg 50 e2
  refine WL.off ?_ ?_; exact Wg 50 e2
  refine WL.off ?_ ?_; exact Wg 50 e2
  refine WL.off ?_ ?_; exact Wg 50 e2
  refine WL.off ?_ ?_; exact Wg 50 e2
  refine WL.off ?_ ?_; exact Wg 50 e2
  refine WL.v (Runs.pick_t (evb rfl e2) rfl) ?_
  refine wn ?_
  refine CW.sub [(3, .pointer (sp a1)), (4, .pointer (sp a2)), (6, .pointer (sp a7)), (7, .pointer (sp a8)), (8, .pointer (sp a0)), (9, .int .i64 0), (10, .slice a4 a3 a5), (11, .int .i64 e6), (58, .bool true)] (by repeat' constructor) ?_
  refine CW.ct rfl rfl ?_
  refine CW.seq ?_
  refine CW.region_awh (C := fun w_ => St w w_ (.sl a4 a5 a3 a6 118 3 :: oS a0 0 0 (z32) 60 :: oK a2 l1_0 a1_1 a1_2 a1_3 a1_4 l1_5 a1_6 a1_7 62 :: oM a1 a0_0 A0_1 n0_1 c0_1 A0_2 n0_2 c0_2 a0_3 a0_4 A0_5 n0_5 c0_5 57 :: (b3 ++ R))) 5 wide (by kernel_rfl) e5 (fun o7 g0 => ?_)
  have g1 : St w o7 (.sl a4 a5 a3 a6 118 3 :: oS a0 0 0 (z32) 60 :: oK a2 l1_0 a1_1 a1_2 a1_3 a1_4 l1_5 a1_6 a1_7 62 :: oM a1 a0_0 A0_1 n0_1 c0_1 A0_2 n0_2 c0_2 a0_3 a0_4 A0_5 n0_5 c0_5 57 :: (b3 ++ R)) := (St.pickT (L := [_, _, _, _, _, _]) g0 [0, 1, 4, 5] (by decide))
  refine AWH.kn (St.subset g1 g0 (mc 0 rfl (mc 1 rfl (mc 4 rfl (mc 5 rfl (mem_TR (A := [_, _, _, _, _, _]) (fun _ h_ => h_))))))) fun zC3 => ?_
  refine AWH.tk 0 rfl zC3 (fun wq sq => (Runs.load_mid row57 rfl sq (i := 3) rfl (pm [] ((ci a0_0) ++ ((cl A0_1 n0_1 c0_1) ++ ((cl A0_2 n0_2 c0_2) ++ ((ci a0_3) ++ ((cb a0_4) ++ (cl A0_5 n0_5 c0_5)))))) []) rfl)) ?_
  refine AWH.tk 1 rfl zC3 (fun wq sq => (Runs.load_mid row62 rfl sq (i := 2) rfl (pm [] (iv .u8 l1_0 ++ ((ci a1_1) ++ ((cu a1_2) ++ ((cu a1_3) ++ ((cu a1_4) ++ (iv .u8 l1_5 ++ ((cu a1_6) ++ (cu a1_7)))))))) [] (hm := by first | rfl | simp only [la, lc, ln, lv, hl1_0, hl1_5])) (by first | rfl | simp only [la, lc, ln, lv, hl1_0, hl1_5]))) ?_
  refine AWH.tk 2 rfl zC3 (fun wq sq => (Runs.build_struct (ps := [(0, 1), (1, 1), (2, 32)]) (cs := ((cu 0) ++ ((cu 0) ++ iv .u8 (z32)))) plc60 zero60 rfl Fills.nil)) ?_
  refine AWH.step 3 rfl (by decide) (by kernel_rfl) (fun inv_ hs_ hk_ hc_ hn_ => ?_)
  refine WL.sm (new := ((ci a0_0) ++ ((cl A0_1 n0_1 c0_1) ++ ((cl A0_2 n0_2 c0_2) ++ ((ci a0_3) ++ ((cb a0_4) ++ (cl A0_5 n0_5 c0_5))))))) (i := 3) (pre := (([] : Cs))) (mid := ((ci 0) ++ ((cl none 0 0) ++ ((cl none 0 0) ++ ((ci 0) ++ ((cb false) ++ (cl none 0 0))))))) (post := (([] : Cs))) (ms := ((ci a0_0) ++ ((cl A0_1 n0_1 c0_1) ++ ((cl A0_2 n0_2 c0_2) ++ ((ci a0_3) ++ ((cb a0_4) ++ (cl A0_5 n0_5 c0_5))))))) g0 rfl row57 (by first | rfl | simp only [aa, an, na, ca]) rfl rfl rfl rfl rfl (one_cat oneU (one_cat oneU (one_cat oneU (one_cat oneU (one_cat oneU oneU))))) rfl ?_
  intro o8 h3
  try dsimp only [List.set] at h3
  refine WL.nil ?_
  refine AWH.back (St.subset g1 h3 (mc 0 rfl (mc 1 rfl (mc 4 rfl (mc 5 rfl (mem_TR (A := [_, _, _, _, _, _]) (fun _ h_ => h_))))))) inv_ hs_ hk_ hc_ hn_ ?_
  refine AWH.step 4 rfl (by decide) (by kernel_rfl) (fun inv_ hs_ hk_ hc_ hn_ => ?_)
  refine WL.sm (new := (iv .u8 l1_0 ++ ((ci a1_1) ++ ((cu a1_2) ++ ((cu a1_3) ++ ((cu a1_4) ++ (iv .u8 l1_5 ++ ((cu a1_6) ++ (cu a1_7))))))))) (i := 2) (pre := (([] : Cs))) (mid := (iv .u8 (z32) ++ ((ci 0) ++ ((cu 0) ++ ((cu 0) ++ ((cu 0) ++ (iv .u8 (z32) ++ ((cu 0) ++ (cu 0))))))))) (post := (([] : Cs))) (ms := (iv .u8 l1_0 ++ ((ci a1_1) ++ ((cu a1_2) ++ ((cu a1_3) ++ ((cu a1_4) ++ (iv .u8 l1_5 ++ ((cu a1_6) ++ (cu a1_7))))))))) h3 rfl row62 (by first | rfl | simp only [aa, an, na, ca]) rfl rfl rfl (by first | rfl | simp only [la, lc, ln, lv, hl1_0, hl1_5]) (by first | rfl | simp only [la, lc, ln, lv, List.length_replicate]) (one_cat (one_iv _ _) (one_cat oneU (one_cat oneU (one_cat oneU (one_cat oneU (one_cat (one_iv _ _) (one_cat oneU oneU))))))) (by first | rfl | simp only [aa, an, na, ca]) ?_
  intro o9 h4
  try dsimp only [List.set] at h4
  refine WL.nil ?_
  refine AWH.back (St.subset g1 h4 (mc 0 rfl (mc 1 rfl (mc 4 rfl (mc 5 rfl (mem_TR (A := [_, _, _, _, _, _]) (fun _ h_ => h_))))))) inv_ hs_ hk_ hc_ hn_ ?_
  refine AWH.tail (by kernel_rfl) ?_
  refine AW.step 5 rfl (by kernel_rfl) ?_
  refine WL.sm (new := ((cu 0) ++ ((cu 0) ++ iv .u8 (z32)))) (i := 1) (pre := (([] : Cs))) (mid := ((cu 0) ++ ((cu 0) ++ iv .u8 (z32)))) (post := (([] : Cs))) (ms := ((cu 0) ++ ((cu 0) ++ iv .u8 (z32)))) h4 rfl row60 (by first | rfl | simp only [aa, an, na, ca]) rfl rfl rfl (by first | rfl | simp only [la, lc, ln, lv, List.length_replicate]) (by first | rfl | simp only [la, lc, ln, lv, List.length_replicate]) (one_cat oneU (one_cat oneU (one_iv _ _))) (by first | rfl | simp only [aa, an, na, ca]) ?_
  intro p0 f4
  try dsimp only [List.set] at f4
  refine WL.nil ?_
  refine AW.back  ?_
  refine AW.tk 6 rfl (fun _ => (Runs.assign rfl)) ?_
  refine AW.done (by kernel_rfl) ?_
  refine QW.then_n (CW.ret (QW.then_r ?_))
  obtain ⟨rfl, rfl, rfl, rfl, rfl, rfl, rfl, rfl, rfl, rfl, rfl, rfl, rfl, rfl, rfl, rfl, rfl, rfl⟩ := H
  exact QW.retN4 rfl (Res.row rfl row57 f4 (i := 3) rfl rfl) (Res.row rfl row62 f4 (i := 2) rfl (by first | rfl | simp only [la, lc, ln, lv, hl1_0, hl1_5])) (Res.row rfl row60 f4 (i := 1) rfl (by first | rfl | simp only [la, lc, ln, lv, List.length_replicate])) (Res.tmp rfl) ⟨b3, A0_1, n0_1, c0_1, A0_2, n0_2, c0_2, A0_5, n0_5, c0_5, b0, (hb0_1.mono (fun _ h_ => b0.1 _ h_) (fun _ h_ => b0.1 _ h_)), (hb0_2.mono (fun _ h_ => b0.1 _ h_) (fun _ h_ => b0.1 _ h_)), (hb0_5.mono (fun _ h_ => b0.1 _ h_) (fun _ h_ => b0.1 _ h_)), hl1_0, hl1_5, (List.length_replicate ..), rfl, (St.pickT (L := [_, _, _, _, _, _]) f4 [] (by decide))⟩
 have e2 : (decide (a1_6 > a1_7)) = false := (decide_eq_false j3)
 refine WL.on ?_ ?_; exact Wg 50 e2
 refine WL.mv rfl ?_
 refine WL.on ?_ ?_; exact Wg 50 e2
 refine WL.v (Runs.fieldAddr (off := 69) (p := 69) fld62_5 rfl rfl rfl) ?_
 refine WL.on ?_ ?_; exact Wg 50 e2
 refine WL.v (Runs.load nagg37 rfl (e5.cell (k := 4) rfl (pa (.int .u64 a1_7) (iv .u8 l1_0 ++ ((ci a1_1) ++ ((cu a1_2) ++ ((cu a1_3) ++ ((cu a1_4) ++ (iv .u8 l1_5 ++ (cu a1_6))))))) [] (ho := by first | rfl | simp only [la, lc, ln, lv, hl1_0, hl1_5])))) ?_
 refine WL.on ?_ ?_; exact Wg 50 e2
 refine WL.v (Runs.fieldAddr (off := 68) (p := 68) fld62_4 rfl rfl rfl) ?_
 refine WL.on ?_ ?_; exact Wg 50 e2
 refine WL.v (Runs.load nagg37 rfl (e5.cell (k := 4) rfl (pa (.int .u64 a1_6) (iv .u8 l1_0 ++ ((ci a1_1) ++ ((cu a1_2) ++ ((cu a1_3) ++ ((cu a1_4) ++ iv .u8 l1_5))))) (cu a1_7) (ho := by first | rfl | simp only [la, lc, ln, lv, hl1_0, hl1_5])))) ?_
 refine WL.on ?_ ?_; exact Wg 50 e2
 refine WL.v (Runs.sub rfl rfl rfl) ?_
 refine WL.on ?_ ?_; exact Wg 50 e2
 refine WL.v (Runs.gtr rfl rfl rfl) ?_
 refine WL.v (Runs.pick_f (evb rfl e2) rfl) ?_
 refine wn ?_
 refine CW.sub [(3, .pointer (sp a1)), (4, .pointer (sp a2)), (6, .pointer (sp a7)), (7, .pointer (sp a8)), (8, .pointer (sp a0)), (9, .int .i64 0), (10, .slice a4 a3 a5), (11, .int .i64 e6), (58, .bool (decide ((IntKind.u64.wrap (e1.length : Int)) > (IntKind.u64.wrap (a1_7 - a1_6)))))] (by repeat' constructor) ?_
 rcases H with ⟨j4, H⟩ | ⟨j4, H⟩
 ·have j5 : (decide ((IntKind.u64.wrap (e1.length : Int)) > (IntKind.u64.wrap (a1_7 - a1_6)))) = true := (decide_eq_true j4)
  refine CW.ct rfl j5 ?_
  refine CW.seq ?_
  refine CW.region_awh (C := fun w_ => St w w_ (.sl a4 a5 a3 a6 118 3 :: oS a0 0 0 (z32) 60 :: oK a2 l1_0 a1_1 a1_2 a1_3 a1_4 l1_5 a1_6 a1_7 62 :: oM a1 a0_0 A0_1 n0_1 c0_1 A0_2 n0_2 c0_2 a0_3 a0_4 A0_5 n0_5 c0_5 57 :: (b3 ++ R))) 5 wide (by kernel_rfl) e5 (fun p1 g2 => ?_)
  have g3 : St w p1 (.sl a4 a5 a3 a6 118 3 :: oS a0 0 0 (z32) 60 :: oK a2 l1_0 a1_1 a1_2 a1_3 a1_4 l1_5 a1_6 a1_7 62 :: oM a1 a0_0 A0_1 n0_1 c0_1 A0_2 n0_2 c0_2 a0_3 a0_4 A0_5 n0_5 c0_5 57 :: (b3 ++ R)) := (St.pickT (L := [_, _, _, _, _, _]) g2 [0, 1, 4, 5] (by decide))
  refine AWH.kn (St.subset g3 g2 (mc 0 rfl (mc 1 rfl (mc 4 rfl (mc 5 rfl (mem_TR (A := [_, _, _, _, _, _]) (fun _ h_ => h_))))))) fun zC4 => ?_
  refine AWH.tk 0 rfl zC4 (fun wq sq => (Runs.load_mid row57 rfl sq (i := 3) rfl (pm [] ((ci a0_0) ++ ((cl A0_1 n0_1 c0_1) ++ ((cl A0_2 n0_2 c0_2) ++ ((ci a0_3) ++ ((cb a0_4) ++ (cl A0_5 n0_5 c0_5)))))) []) rfl)) ?_
  refine AWH.tk 1 rfl zC4 (fun wq sq => (Runs.load_mid row62 rfl sq (i := 2) rfl (pm [] (iv .u8 l1_0 ++ ((ci a1_1) ++ ((cu a1_2) ++ ((cu a1_3) ++ ((cu a1_4) ++ (iv .u8 l1_5 ++ ((cu a1_6) ++ (cu a1_7)))))))) [] (hm := by first | rfl | simp only [la, lc, ln, lv, hl1_0, hl1_5])) (by first | rfl | simp only [la, lc, ln, lv, hl1_0, hl1_5]))) ?_
  refine AWH.tk 2 rfl zC4 (fun wq sq => (Runs.build_struct (ps := [(0, 1), (1, 1), (2, 32)]) (cs := ((cu 0) ++ ((cu 0) ++ iv .u8 (z32)))) plc60 zero60 rfl Fills.nil)) ?_
  refine AWH.step 3 rfl (by decide) (by kernel_rfl) (fun inv_ hs_ hk_ hc_ hn_ => ?_)
  refine WL.sm (new := ((ci a0_0) ++ ((cl A0_1 n0_1 c0_1) ++ ((cl A0_2 n0_2 c0_2) ++ ((ci a0_3) ++ ((cb a0_4) ++ (cl A0_5 n0_5 c0_5))))))) (i := 3) (pre := (([] : Cs))) (mid := ((ci 0) ++ ((cl none 0 0) ++ ((cl none 0 0) ++ ((ci 0) ++ ((cb false) ++ (cl none 0 0))))))) (post := (([] : Cs))) (ms := ((ci a0_0) ++ ((cl A0_1 n0_1 c0_1) ++ ((cl A0_2 n0_2 c0_2) ++ ((ci a0_3) ++ ((cb a0_4) ++ (cl A0_5 n0_5 c0_5))))))) g2 rfl row57 (by first | rfl | simp only [aa, an, na, ca]) rfl rfl rfl rfl rfl (one_cat oneU (one_cat oneU (one_cat oneU (one_cat oneU (one_cat oneU oneU))))) rfl ?_
  intro p2 h5
  try dsimp only [List.set] at h5
  refine WL.nil ?_
  refine AWH.back (St.subset g3 h5 (mc 0 rfl (mc 1 rfl (mc 4 rfl (mc 5 rfl (mem_TR (A := [_, _, _, _, _, _]) (fun _ h_ => h_))))))) inv_ hs_ hk_ hc_ hn_ ?_
  refine AWH.step 4 rfl (by decide) (by kernel_rfl) (fun inv_ hs_ hk_ hc_ hn_ => ?_)
  refine WL.sm (new := (iv .u8 l1_0 ++ ((ci a1_1) ++ ((cu a1_2) ++ ((cu a1_3) ++ ((cu a1_4) ++ (iv .u8 l1_5 ++ ((cu a1_6) ++ (cu a1_7))))))))) (i := 2) (pre := (([] : Cs))) (mid := (iv .u8 (z32) ++ ((ci 0) ++ ((cu 0) ++ ((cu 0) ++ ((cu 0) ++ (iv .u8 (z32) ++ ((cu 0) ++ (cu 0))))))))) (post := (([] : Cs))) (ms := (iv .u8 l1_0 ++ ((ci a1_1) ++ ((cu a1_2) ++ ((cu a1_3) ++ ((cu a1_4) ++ (iv .u8 l1_5 ++ ((cu a1_6) ++ (cu a1_7))))))))) h5 rfl row62 (by first | rfl | simp only [aa, an, na, ca]) rfl rfl rfl (by first | rfl | simp only [la, lc, ln, lv, hl1_0, hl1_5]) (by first | rfl | simp only [la, lc, ln, lv, List.length_replicate]) (one_cat (one_iv _ _) (one_cat oneU (one_cat oneU (one_cat oneU (one_cat oneU (one_cat (one_iv _ _) (one_cat oneU oneU))))))) (by first | rfl | simp only [aa, an, na, ca]) ?_
  intro p3 h6
  try dsimp only [List.set] at h6
  refine WL.nil ?_
  refine AWH.back (St.subset g3 h6 (mc 0 rfl (mc 1 rfl (mc 4 rfl (mc 5 rfl (mem_TR (A := [_, _, _, _, _, _]) (fun _ h_ => h_))))))) inv_ hs_ hk_ hc_ hn_ ?_
  refine AWH.tail (by kernel_rfl) ?_
  refine AW.step 5 rfl (by kernel_rfl) ?_
  refine WL.sm (new := ((cu 0) ++ ((cu 0) ++ iv .u8 (z32)))) (i := 1) (pre := (([] : Cs))) (mid := ((cu 0) ++ ((cu 0) ++ iv .u8 (z32)))) (post := (([] : Cs))) (ms := ((cu 0) ++ ((cu 0) ++ iv .u8 (z32)))) h6 rfl row60 (by first | rfl | simp only [aa, an, na, ca]) rfl rfl rfl (by first | rfl | simp only [la, lc, ln, lv, List.length_replicate]) (by first | rfl | simp only [la, lc, ln, lv, List.length_replicate]) (one_cat oneU (one_cat oneU (one_iv _ _))) (by first | rfl | simp only [aa, an, na, ca]) ?_
  intro p4 f5
  try dsimp only [List.set] at f5
  refine WL.nil ?_
  refine AW.back  ?_
  refine AW.tk 6 rfl (fun _ => (Runs.assign rfl)) ?_
  refine AW.done (by kernel_rfl) ?_
  refine QW.then_n (CW.ret (QW.then_r ?_))
  obtain ⟨rfl, rfl, rfl, rfl, rfl, rfl, rfl, rfl, rfl, rfl, rfl, rfl, rfl, rfl, rfl, rfl, rfl, rfl⟩ := H
  exact QW.retN4 rfl (Res.row rfl row57 f5 (i := 3) rfl rfl) (Res.row rfl row62 f5 (i := 2) rfl (by first | rfl | simp only [la, lc, ln, lv, hl1_0, hl1_5])) (Res.row rfl row60 f5 (i := 1) rfl (by first | rfl | simp only [la, lc, ln, lv, List.length_replicate])) (Res.tmp rfl) ⟨b3, A0_1, n0_1, c0_1, A0_2, n0_2, c0_2, A0_5, n0_5, c0_5, b0, (hb0_1.mono (fun _ h_ => b0.1 _ h_) (fun _ h_ => b0.1 _ h_)), (hb0_2.mono (fun _ h_ => b0.1 _ h_) (fun _ h_ => b0.1 _ h_)), (hb0_5.mono (fun _ h_ => b0.1 _ h_) (fun _ h_ => b0.1 _ h_)), hl1_0, hl1_5, (List.length_replicate ..), rfl, (St.pickT (L := [_, _, _, _, _, _]) f5 [] (by decide))⟩
 have j5 : (decide ((IntKind.u64.wrap (e1.length : Int)) > (IntKind.u64.wrap (a1_7 - a1_6)))) = false := (decide_eq_false j4)
 refine CW.cf rfl j5 ?_
 refine CW.skip (QW.then_n (cr ?_))
 refine WL.v (Runs.fieldAddr (off := 34) (p := 34) fld62_3 rfl rfl rfl) ?_
 refine WL.v (Runs.load_mid row60 rfl e5 (i := 4) rfl (pm (iv .u8 l1_0 ++ ((ci a1_1) ++ (cu a1_2))) ((cu a1_3) ++ ((cu a1_4) ++ iv .u8 l1_5)) ((cu a1_6) ++ (cu a1_7)) (ho := by first | rfl | simp only [la, lc, ln, lv, hl1_0]) (hm := by first | rfl | simp only [la, lc, ln, lv, hl1_5])) (by first | rfl | simp only [la, lc, ln, lv, hl1_5])) ?_
 refine WL.alloc e5 zero60 ?_
 intro b4 t6 p5
 refine WL.sm (new := ((cu a1_3) ++ ((cu a1_4) ++ iv .u8 l1_5))) (i := 0) (pre := (([] : Cs))) (mid := ((cu 0) ++ ((cu 0) ++ iv .u8 (z32)))) (post := (([] : Cs))) (ms := ((cu a1_3) ++ ((cu a1_4) ++ iv .u8 l1_5))) p5 rfl row60 (by first | rfl | simp only [aa, an, na, ca]) rfl rfl rfl (by first | rfl | simp only [la, lc, ln, lv, hl1_5]) (by first | rfl | simp only [la, lc, ln, lv, List.length_replicate]) (one_cat oneU (one_cat oneU (one_iv _ _))) (by first | rfl | simp only [aa, an, na, ca]) ?_
 intro p6 j6
 try dsimp only [List.set] at j6
 refine wn (CW.seq (cr (WL.as rfl (wn (CW.block ?_)))))
 obtain ⟨p7, H⟩ := H
 refine CW.sub [(3, .pointer (sp a1)), (4, .pointer (sp a2)), (6, .pointer (sp a7)), (7, .pointer (sp a8)), (8, .pointer (sp a0)), (9, .int .i64 0), (10, .slice a4 a3 a5), (11, .int .i64 e6), (13, .pointer (sp b4)), (14, .int .i64 0)] (by repeat' constructor) ?_
 refine CW.loop (fun kL1 l_ w_ => ∃ (c8 : Pool) (b1 : Int) (b2 : List Int) (a9 : Int) (c5 : Int) (b5 : Option Addr) (b6 : Nat) (b7 : Nat) (h7 : List R145) (b8 : Option Addr) (b9 : Nat) (c0 : Nat) (h8 : List R145) (c6 : Int) (c7 : Bool) (c1 : Option Addr) (c3 : Nat) (c4 : Nat) (h9 : List R160) (g4 : Int) (j7 : Int) (e3 : Int), l_ = [(3, .pointer (sp a1)), (4, .pointer (sp a2)), (6, .pointer (sp a7)), (7, .pointer (sp a8)), (8, .pointer (sp a0)), (9, .int .i64 g4), (10, .slice a4 a3 a5), (11, .int .i64 j7), (13, .pointer (sp b4)), (14, .int .i64 e3)] ∧ reliquaryref13_Append.L1 l1_0 a1_1 a1_2 a1_3 a1_4 l1_5 a1_7 ar0_0 lr0_1 lr0_2 ar0_3 ar0_4 lr0_5 lr1_0 ar1_1 ar1_2 ar1_3 ar1_4 lr1_5 ar1_6 ar1_7 ar2_0 ar2_1 lr2_2 ar3 e1 kL1 b1 b2 a9 c5 h7 h8 c6 c7 h9 g4 j7 e3 ∧ (Pl b3 c8) ∧ (b2.length = 32) ∧ (HS w c8 c8 b5 b6 b7 (f145 w) h7) ∧ (HS w c8 c8 b8 b9 c0 (f145 w) h8) ∧ (HS w c8 c8 c1 c3 c4 (f160 w) h9) ∧ St w w_ (oS b4 a1_3 b1 b2 60 :: .sl a4 a5 a3 a6 118 3 :: oS a0 0 0 (z32) 60 :: oK a8 (z32) 0 0 0 0 (z32) 0 0 62 :: oM a7 0 none 0 0 none 0 0 0 false none 0 0 57 :: oK a2 l1_0 a1_1 a1_2 a1_3 a1_4 l1_5 a9 a1_7 62 :: oM a1 c5 b5 b6 b7 b8 b9 c0 c6 c7 c1 c3 c4 57 :: (c8 ++ R))) (k := p7) ⟨b3, a1_4, l1_5, a1_6, a0_0, A0_1, n0_1, c0_1, l0_1, A0_2, n0_2, c0_2, l0_2, a0_3, a0_4, A0_5, n0_5, c0_5, l0_5, 0, e6, 0, rfl, H, Pl.refl, hl1_5, (hb0_1.mono (fun _ h_ => b0.1 _ h_) (fun _ h_ => b0.1 _ h_)), (hb0_2.mono (fun _ h_ => b0.1 _ h_) (fun _ h_ => b0.1 _ h_)), (hb0_5.mono (fun _ h_ => b0.1 _ h_) (fun _ h_ => b0.1 _ h_)), j6⟩ (fun _ _ h => by obtain ⟨_, _, _, _, _, _, _, _, _, _, _, _, _, _, _, _, _, _, _, _, _, _, _, h, _⟩ := h; exact h.elim) ?_
 rintro kL1 t7 t8 ⟨c8, b1, b2, a9, c5, b5, b6, b7, h7, b8, b9, c0, h8, c6, c7, c1, c3, c4, h9, g4, j7, e3, rfl, H, i0, e7, l0, l1, l3, l4⟩
 refine CW.seq (cr (WL.mv rfl (WL.mv rfl ?_)))
 refine WL.v (Runs.len_sl Tryd.underlying110 rfl (by rw [i8])) ?_
 refine WL.v (Runs.lss rfl rfl rfl) ?_
 refine wn ?_
 rcases H with ⟨j8, H⟩ | ⟨j8, H⟩
 ·have j9 : (decide (e3 < (e1.length : Int))) = true := (decide_eq_true j8)
  refine CW.ct rfl j9 ?_
  refine CW.skip (QW.then_n (CW.seq (CW.block (CW.seq ?_))))
  refine CW.region_qa wide (by kernel_rfl) l4 ?_
  refine HL.v (fun wq sq => (Runs.fieldAddr (off := 32) (p := 32) fld62_1 rfl rfl rfl)) ?_
  refine HL.v (fun wq sq => (Runs.load nagg3 rfl (sq.cell (k := 5) rfl (pa (.int .i64 a1_1) (iv .u8 l1_0) ((cu a1_2) ++ ((cu a1_3) ++ ((cu a1_4) ++ (iv .u8 l1_5 ++ ((cu a9) ++ (cu a1_7)))))) (ho := by first | rfl | simp only [la, lc, ln, lv, hl1_0]))))) ?_
  refine HL.v (fun wq sq => (Runs.fieldAddr (off := 0) (p := 0) fld60_0 rfl rfl rfl)) ?_
  refine HL.v (fun wq sq => (Runs.load nagg37 rfl (sq.cell (k := 0) rfl (pa (.int .u64 a1_3) [] ((cu b1) ++ iv .u8 b2))))) ?_
  refine HL.v (fun wq sq => (Runs.fieldAddr (off := 1) (p := 1) fld60_1 rfl rfl rfl)) ?_
  refine HL.v (fun wq sq => (Runs.load nagg37 rfl (sq.cell (k := 0) rfl (pa (.int .u64 b1) (cu a1_3) (iv .u8 b2))))) ?_
  refine HL.v (fun wq sq => (Runs.add rfl rfl rfl)) ?_
  refine HL.v (fun wq sq => (Runs.fieldAddr (off := 33) (p := 33) fld62_2 rfl rfl rfl)) ?_
  refine HL.v (fun wq sq => (Runs.load nagg37 rfl (sq.cell (k := 5) rfl (pa (.int .u64 a1_2) (iv .u8 l1_0 ++ (ci a1_1)) ((cu a1_3) ++ ((cu a1_4) ++ (iv .u8 l1_5 ++ ((cu a9) ++ (cu a1_7))))) (ho := by first | rfl | simp only [la, lc, ln, lv, hl1_0]))))) ?_
  obtain ⟨p8, H⟩ := H
  refine HL.v (fun wq sq => (Runs.rem rfl rfl p8 rfl)) ?_
  obtain ⟨k0, p9, H⟩ := H
  refine HL.v (fun wq sq => (Runs.conv Tryd.underlying3 ⟨_, Tryd.underlying37⟩ rfl p9)) ?_
  refine HL.v (fun wq sq => (Runs.add rfl rfl rfl)) ?_
  refine HL.as rfl ?_
  refine HL.nil (fun q0 k1 => ?_)
  refine WL.nx (WL.mv rfl (WL.mv rfl ?_))
  obtain ⟨⟨q1, q2⟩, H⟩ := H
  obtain ⟨t9, l5, q3, q4, q5⟩ := el_get (i := (e3).toNat) (k1.src_sl (k := 1) rfl) (n7.mono (fun _ h_ => i0.1 _ h_)) (fz118 w) (by decide) (by omega)
  obtain k2 := inv118 q5
  replace k2 : q3 = (cu ((gx e1 (e3.toNat)).1)) ++ ((ct ((gx e1 (e3.toNat)).2.1)) ++ (cb ((gx e1 (e3.toNat)).2.2))) := k2
  subst k2
  refine WL.v (Runs.indexAddr Tryd.underlying110 cells118 (by decide) rfl l5 rfl q1 (by rw [show a3 = e1.length from i8]; exact q2) (o := (e3.toNat) * 3) (by first | rfl | omega)) ?_
  refine WL.v (Runs.load_srcR row118 rfl (Src.cut (k1.src_sl (k := 1) rfl) l5 q4) rfl) ?_
  obtain ⟨l6, q6, q7, H⟩ := H
  refine WL.call Wanted.none ent44 rfl (reliquaryref12_Put.calls q0 ((gx e1 (e3.toNat)).1) ((gx e1 (e3.toNat)).2.1) ((gx e1 (e3.toNat)).2.2) l6 q6 q7) ?_
  rintro _ l7 ⟨rfl, q8⟩
  have k3 := k1.call q8
  refine ⟨_, rfl, ?_⟩
  refine WL.mv rfl ?_
  refine WL.v (Runs.extract rfl rfl) ?_
  refine WL.v (Runs.extract rfl rfl) ?_
  refine WL.as rfl (WL.as rfl (WL.nx ?_))
  refine WL.v (Runs.fieldAddr (off := 0) (p := 0) fld62_0 rfl rfl rfl) ?_
  refine WL.v (Runs.load_mid row23 rfl k3 (i := 5) rfl (pm [] (iv .u8 l1_0) ((ci a1_1) ++ ((cu a1_2) ++ ((cu a1_3) ++ ((cu a1_4) ++ (iv .u8 l1_5 ++ ((cu a9) ++ (cu a1_7))))))) (hm := by first | rfl | simp only [la, lc, ln, lv, hl1_0])) (by first | rfl | simp only [la, lc, ln, lv, hl1_0])) ?_
  refine WL.mv rfl ?_
  refine WL.v (Runs.conv Tryd.underlying24 ⟨_, Tryd.underlying3⟩ rfl rfl) ?_
  refine WL.v (Runs.fieldAddr (off := 68) (p := 68) fld62_4 rfl rfl rfl) ?_
  refine WL.v (Runs.load nagg37 rfl (k3.cell (k := 5) rfl (pa (.int .u64 a9) (iv .u8 l1_0 ++ ((ci a1_1) ++ ((cu a1_2) ++ ((cu a1_3) ++ ((cu a1_4) ++ iv .u8 l1_5))))) (cu a1_7) (ho := by first | rfl | simp only [la, lc, ln, lv, hl1_0, hl1_5])))) ?_
  refine WL.mv rfl ?_
  obtain ⟨k4, q9, r0, H⟩ := H
  refine WL.call Wanted.none ent45 rfl (reliquaryref08_Seal.calls l7 l1_0 (IntKind.u32.wrap (IntKind.i64.wrap (a1_1 + k0))) a9 l6 hl1_0 k4 q9 r0) ?_
  rintro _ r1 ⟨rfl, r2⟩
  have l8 := k3.call r2
  refine ⟨_, rfl, ?_⟩
  refine WL.mv rfl ?_
  refine WL.v (Runs.extract rfl rfl) ?_
  refine WL.v (Runs.extract rfl rfl) ?_
  refine WL.as rfl (WL.as rfl (WL.nx ?_))
  refine WL.v (Runs.fieldAddr (off := 68) (p := 68) fld62_4 rfl rfl rfl) ?_
  refine WL.v (Runs.load nagg37 rfl (l8.cell (k := 5) rfl (pa (.int .u64 a9) (iv .u8 l1_0 ++ ((ci a1_1) ++ ((cu a1_2) ++ ((cu a1_3) ++ ((cu a1_4) ++ iv .u8 l1_5))))) (cu a1_7) (ho := by first | rfl | simp only [la, lc, ln, lv, hl1_0, hl1_5])))) ?_
  refine WL.v (Runs.add rfl rfl rfl) ?_
  refine WL.v (Runs.fieldAddr (off := 68) (p := 68) fld62_4 rfl rfl rfl) ?_
  refine WL.so (new := (iv .u8 l1_0 ++ ((ci a1_1) ++ ((cu a1_2) ++ ((cu a1_3) ++ ((cu a1_4) ++ (iv .u8 l1_5 ++ ((cu (IntKind.u64.wrap (a9 + 1))) ++ (cu a1_7))))))))) (i := 5) (u0 := .int .u64 a9) (pre := (iv .u8 l1_0 ++ ((ci a1_1) ++ ((cu a1_2) ++ ((cu a1_3) ++ ((cu a1_4) ++ iv .u8 l1_5)))))) (post := ((cu a1_7))) l8 rfl cells37 (by first | rfl | simp only [aa, an, na, ca]) (by first | rfl | simp only [la, lc, ln, lv, hl1_0, hl1_5]) rfl rfl rfl (by first | rfl | simp only [aa, an, na, ca]) ?_
  intro k5 i1
  try dsimp only [List.set] at i1
  refine WL.nx ?_
  refine WL.v (Runs.load_mid row57 rfl i1 (i := 6) rfl (pm [] ((ci c5) ++ ((cl b5 b6 b7) ++ ((cl b8 b9 c0) ++ ((ci c6) ++ ((cb c7) ++ (cl c1 c3 c4)))))) []) rfl) ?_
  refine WL.mv rfl (WL.mv rfl ?_)
  have r3 := St.hide (A := []) (B := [_, _, _, _, _, _, _]) (T := c8) (R := R) i1
  obtain ⟨c9, l9, m0, d0, d1, m1, i2, r4, H⟩ := H
  refine WL.call Wanted.none ent46 rfl (reliquaryref06_Write.calls w k5 c8 (oS b4 a1_3 b1 b2 60 :: .sl a4 a5 a3 a6 118 3 :: oS a0 0 0 (z32) 60 :: oK a8 (z32) 0 0 0 0 (z32) 0 0 62 :: oM a7 0 none 0 0 none 0 0 0 false none 0 0 57 :: oK a2 l1_0 a1_1 a1_2 a1_3 a1_4 l1_5 (IntKind.u64.wrap (a9 + 1)) a1_7 62 :: oM a1 c5 b5 b6 b7 b8 b9 c0 c6 c7 c1 c3 c4 57 :: R) c5 h7 h8 c6 c7 h9 (IntKind.i64.wrap (a1_1 + k0)) k4 b5 b6 b7 b8 b9 c0 c1 c3 c4  r3 l0 l1 l3 c9 l9 m0 d0 d1 m1 i2 r4) ?_
  rintro _ r5 ⟨e4, d2, d3, d4, d5, d6, d7, d8, d9, e0, m2, m3, m4, m5, rfl, r6⟩
  have r7 : St w r5 (oS b4 a1_3 b1 b2 60 :: .sl a4 a5 a3 a6 118 3 :: oS a0 0 0 (z32) 60 :: oK a8 (z32) 0 0 0 0 (z32) 0 0 62 :: oM a7 0 none 0 0 none 0 0 0 false none 0 0 57 :: oK a2 l1_0 a1_1 a1_2 a1_3 a1_4 l1_5 (IntKind.u64.wrap (a9 + 1)) a1_7 62 :: oM a1 c5 b5 b6 b7 b8 b9 c0 c6 c7 c1 c3 c4 57 :: (e4 ++ R)) := St.unhide (A := []) (B := [_, _, _, _, _, _, _]) (T := e4) (R := R) r6
  refine ⟨_, rfl, ?_⟩
  refine WL.mv rfl ?_
  refine WL.v (Runs.extract rfl rfl) ?_
  refine WL.v (Runs.extract rfl rfl) ?_
  refine WL.sm (new := ((ci c9) ++ ((cl d2 d3 d4) ++ ((cl d5 d6 d7) ++ ((ci d0) ++ ((cb d1) ++ (cl d8 d9 e0))))))) (i := 6) (pre := (([] : Cs))) (mid := ((ci c5) ++ ((cl b5 b6 b7) ++ ((cl b8 b9 c0) ++ ((ci c6) ++ ((cb c7) ++ (cl c1 c3 c4))))))) (post := (([] : Cs))) (ms := ((ci c9) ++ ((cl d2 d3 d4) ++ ((cl d5 d6 d7) ++ ((ci d0) ++ ((cb d1) ++ (cl d8 d9 e0))))))) r7 rfl row57 (by first | rfl | simp only [aa, an, na, ca]) rfl rfl rfl rfl rfl (one_cat oneU (one_cat oneU (one_cat oneU (one_cat oneU (one_cat oneU oneU))))) rfl ?_
  intro r8 g5
  try dsimp only [List.set] at g5
  refine WL.as rfl (wn (CW.seq (cr (WL.mv rfl ?_))))
  refine WL.v (Runs.neq rfl rfl rfl) ?_
  refine wn ?_
  rcases H with ⟨k6, H⟩ | ⟨k6, H⟩
  ·have k7 : (i2 != 0) = true := (bne_iff_ne.mpr k6)
   refine CW.ct rfl k7 ?_
   refine CW.seq ?_
   refine CW.region_awh (C := fun w_ => St w w_ (oS b4 a1_3 b1 b2 60 :: .sl a4 a5 a3 a6 118 3 :: oS a0 0 0 (z32) 60 :: oK a2 l1_0 a1_1 a1_2 a1_3 a1_4 l1_5 (IntKind.u64.wrap (a9 + 1)) a1_7 62 :: oM a1 c9 d2 d3 d4 d5 d6 d7 d0 d1 d8 d9 e0 57 :: (e4 ++ R))) 7 wide (by kernel_rfl) g5 (fun r9 f6 => ?_)
   have f0 : St w r9 (oS b4 a1_3 b1 b2 60 :: .sl a4 a5 a3 a6 118 3 :: oS a0 0 0 (z32) 60 :: oK a2 l1_0 a1_1 a1_2 a1_3 a1_4 l1_5 (IntKind.u64.wrap (a9 + 1)) a1_7 62 :: oM a1 c9 d2 d3 d4 d5 d6 d7 d0 d1 d8 d9 e0 57 :: (e4 ++ R)) := (St.pickT (L := [_, _, _, _, _, _, _]) f6 [0, 1, 2, 5, 6] (by decide))
   refine AWH.kn (St.subset f0 f6 (mc 0 rfl (mc 1 rfl (mc 2 rfl (mc 5 rfl (mc 6 rfl (mem_TR (A := [_, _, _, _, _, _, _]) (fun _ h_ => h_)))))))) fun zC5 => ?_
   refine AWH.tk 0 rfl zC5 (fun wq sq => (Runs.load_mid row57 rfl sq (i := 4) rfl (pm [] ((ci c9) ++ ((cl d2 d3 d4) ++ ((cl d5 d6 d7) ++ ((ci d0) ++ ((cb d1) ++ (cl d8 d9 e0)))))) []) rfl)) ?_
   refine AWH.tk 1 rfl zC5 (fun wq sq => (Runs.load_mid row62 rfl sq (i := 3) rfl (pm [] (iv .u8 l1_0 ++ ((ci a1_1) ++ ((cu a1_2) ++ ((cu a1_3) ++ ((cu a1_4) ++ (iv .u8 l1_5 ++ ((cu (IntKind.u64.wrap (a9 + 1))) ++ (cu a1_7)))))))) [] (hm := by first | rfl | simp only [la, lc, ln, lv, hl1_0, hl1_5])) (by first | rfl | simp only [la, lc, ln, lv, hl1_0, hl1_5]))) ?_
   refine AWH.tk 2 rfl zC5 (fun wq sq => (Runs.build_struct (ps := [(0, 1), (1, 1), (2, 32)]) (cs := ((cu 0) ++ ((cu 0) ++ iv .u8 (z32)))) plc60 zero60 rfl Fills.nil)) ?_
   refine AWH.tk 3 rfl zC5 (fun wq sq => (Runs.move rfl)) ?_
   refine AWH.step 4 rfl (by decide) (by kernel_rfl) (fun inv_ hs_ hk_ hc_ hn_ => ?_)
   refine WL.sm (new := ((ci c9) ++ ((cl d2 d3 d4) ++ ((cl d5 d6 d7) ++ ((ci d0) ++ ((cb d1) ++ (cl d8 d9 e0))))))) (i := 4) (pre := (([] : Cs))) (mid := ((ci 0) ++ ((cl none 0 0) ++ ((cl none 0 0) ++ ((ci 0) ++ ((cb false) ++ (cl none 0 0))))))) (post := (([] : Cs))) (ms := ((ci c9) ++ ((cl d2 d3 d4) ++ ((cl d5 d6 d7) ++ ((ci d0) ++ ((cb d1) ++ (cl d8 d9 e0))))))) f6 rfl row57 (by first | rfl | simp only [aa, an, na, ca]) rfl rfl rfl rfl rfl (one_cat oneU (one_cat oneU (one_cat oneU (one_cat oneU (one_cat oneU oneU))))) rfl ?_
   intro s0 i3
   try dsimp only [List.set] at i3
   refine WL.nil ?_
   refine AWH.back (St.subset f0 i3 (mc 0 rfl (mc 1 rfl (mc 2 rfl (mc 5 rfl (mc 6 rfl (mem_TR (A := [_, _, _, _, _, _, _]) (fun _ h_ => h_)))))))) inv_ hs_ hk_ hc_ hn_ ?_
   refine AWH.step 5 rfl (by decide) (by kernel_rfl) (fun inv_ hs_ hk_ hc_ hn_ => ?_)
   refine WL.sm (new := (iv .u8 l1_0 ++ ((ci a1_1) ++ ((cu a1_2) ++ ((cu a1_3) ++ ((cu a1_4) ++ (iv .u8 l1_5 ++ ((cu (IntKind.u64.wrap (a9 + 1))) ++ (cu a1_7))))))))) (i := 3) (pre := (([] : Cs))) (mid := (iv .u8 (z32) ++ ((ci 0) ++ ((cu 0) ++ ((cu 0) ++ ((cu 0) ++ (iv .u8 (z32) ++ ((cu 0) ++ (cu 0))))))))) (post := (([] : Cs))) (ms := (iv .u8 l1_0 ++ ((ci a1_1) ++ ((cu a1_2) ++ ((cu a1_3) ++ ((cu a1_4) ++ (iv .u8 l1_5 ++ ((cu (IntKind.u64.wrap (a9 + 1))) ++ (cu a1_7))))))))) i3 rfl row62 (by first | rfl | simp only [aa, an, na, ca]) rfl rfl rfl (by first | rfl | simp only [la, lc, ln, lv, hl1_0, hl1_5]) (by first | rfl | simp only [la, lc, ln, lv, List.length_replicate]) (one_cat (one_iv _ _) (one_cat oneU (one_cat oneU (one_cat oneU (one_cat oneU (one_cat (one_iv _ _) (one_cat oneU oneU))))))) (by first | rfl | simp only [aa, an, na, ca]) ?_
   intro s1 i4
   try dsimp only [List.set] at i4
   refine WL.nil ?_
   refine AWH.back (St.subset f0 i4 (mc 0 rfl (mc 1 rfl (mc 2 rfl (mc 5 rfl (mc 6 rfl (mem_TR (A := [_, _, _, _, _, _, _]) (fun _ h_ => h_)))))))) inv_ hs_ hk_ hc_ hn_ ?_
   refine AWH.step 6 rfl (by decide) (by kernel_rfl) (fun inv_ hs_ hk_ hc_ hn_ => ?_)
   refine WL.sm (new := ((cu 0) ++ ((cu 0) ++ iv .u8 (z32)))) (i := 2) (pre := (([] : Cs))) (mid := ((cu 0) ++ ((cu 0) ++ iv .u8 (z32)))) (post := (([] : Cs))) (ms := ((cu 0) ++ ((cu 0) ++ iv .u8 (z32)))) i4 rfl row60 (by first | rfl | simp only [aa, an, na, ca]) rfl rfl rfl (by first | rfl | simp only [la, lc, ln, lv, List.length_replicate]) (by first | rfl | simp only [la, lc, ln, lv, List.length_replicate]) (one_cat oneU (one_cat oneU (one_iv _ _))) (by first | rfl | simp only [aa, an, na, ca]) ?_
   intro s2 f1
   try dsimp only [List.set] at f1
   refine WL.nil ?_
   refine AWH.back (St.subset f0 f1 (mc 0 rfl (mc 1 rfl (mc 2 rfl (mc 5 rfl (mc 6 rfl (mem_TR (A := [_, _, _, _, _, _, _]) (fun _ h_ => h_)))))))) inv_ hs_ hk_ hc_ hn_ ?_
   refine AWH.tail (by kernel_rfl) ?_
   refine AW.tk 7 rfl (fun _ => (Runs.assign rfl)) ?_
   refine AW.done (by kernel_rfl) ?_
   refine QW.then_n (CW.ret (QW.then_r (QW.blk_r (QW.then_r (QW.then_r (QW.blk_r (QW.then_r ?_)))))))
   obtain ⟨rfl, rfl, rfl, rfl, rfl, rfl, rfl, rfl, rfl, rfl, rfl, rfl, rfl, rfl, rfl, rfl, rfl, rfl⟩ := H
   exact QW.retN4 rfl (Res.row rfl row57 f1 (i := 4) rfl rfl) (Res.row rfl row62 f1 (i := 3) rfl (by first | rfl | simp only [la, lc, ln, lv, hl1_0, hl1_5])) (Res.row rfl row60 f1 (i := 2) rfl (by first | rfl | simp only [la, lc, ln, lv, List.length_replicate])) (Res.tmp rfl) ⟨e4, d2, d3, d4, d5, d6, d7, d8, d9, e0, ((b0.trans i0).trans m2), m3, m4, m5, hl1_0, hl1_5, (List.length_replicate ..), rfl, (St.pickT (L := [_, _, _, _, _, _, _]) f1 [] (by decide))⟩
  have k7 : (i2 != 0) = false := (bne_eq_false_iff_eq.mpr (Decidable.not_not.mp k6))
  refine CW.cf rfl k7 ?_
  refine CW.skip (QW.then_n (cr ?_))
  refine WL.v (Runs.fieldAddr (off := 1) (p := 1) fld60_1 rfl rfl rfl) ?_
  refine WL.v (Runs.load nagg37 rfl (g5.cell (k := 0) rfl (pa (.int .u64 b1) (cu a1_3) (iv .u8 b2)))) ?_
  refine WL.v (Runs.add rfl rfl rfl) ?_
  refine WL.v (Runs.fieldAddr (off := 1) (p := 1) fld60_1 rfl rfl rfl) ?_
  refine WL.so (new := ((cu a1_3) ++ ((cu (IntKind.u64.wrap (b1 + 1))) ++ iv .u8 b2))) (i := 0) (u0 := .int .u64 b1) (pre := ((cu a1_3))) (post := (iv .u8 b2)) g5 rfl cells37 (by first | rfl | simp only [aa, an, na, ca]) rfl rfl rfl rfl rfl ?_
  intro m6 i5
  try dsimp only [List.set] at i5
  refine wn (CW.region ?_)
  refine WL.v (Runs.fieldAddr (off := 2) (p := 2) fld60_2 rfl rfl rfl) ?_
  refine WL.v (Runs.load_mid row23 rfl i5 (i := 0) rfl (pm ((cu a1_3) ++ (cu (IntKind.u64.wrap (b1 + 1)))) (iv .u8 b2) [] (hm := by first | rfl | simp only [la, lc, ln, lv, e7])) (by first | rfl | simp only [la, lc, ln, lv, e7])) ?_
  refine WL.mv rfl ?_
  refine WL.v (Runs.conv Tryd.underlying24 ⟨_, Tryd.underlying3⟩ rfl rfl) ?_
  refine WL.mv rfl ?_
  obtain ⟨g6, s3, H⟩ := H
  refine WL.call Wanted.none ent10 rfl (reliquaryref13_Link.calls m6 b2 (IntKind.u32.wrap (IntKind.i64.wrap (a1_1 + k0))) k4 e7 g6 s3) ?_
  rintro _ s4 ⟨m7, rfl, s5⟩
  have s6 := i5.call s5
  refine ⟨_, rfl, ?_⟩
  refine WL.v (Runs.fieldAddr (off := 2) (p := 2) fld60_2 rfl rfl rfl) ?_
  refine WL.sm (new := ((cu a1_3) ++ ((cu (IntKind.u64.wrap (b1 + 1))) ++ iv .u8 g6))) (i := 0) (pre := ((cu a1_3) ++ (cu (IntKind.u64.wrap (b1 + 1))))) (mid := (iv .u8 b2)) (post := (([] : Cs))) (ms := (iv .u8 g6)) s6 rfl row23 (by first | rfl | simp only [aa, an, na, ca]) rfl rfl rfl (by first | rfl | simp only [la, lc, ln, lv, m7]) (by first | rfl | simp only [la, lc, ln, lv, e7]) (one_iv _ _) (by first | rfl | simp only [aa, an, na, ca]) ?_
  intro s7 k8
  try dsimp only [List.set] at k8
  refine WL.nil (QW.blk_n (QW.then_n (CW.region (WL.mv rfl ?_))))
  refine WL.v (Runs.add rfl rfl rfl) ?_
  refine WL.as rfl (WL.nil ?_)
  exact QW.at _ (by repeat' constructor) ⟨e4, IntKind.u64.wrap (b1 + 1), g6, IntKind.u64.wrap (a9 + 1), c9, d2, d3, d4, l9, d5, d6, d7, m0, d0, d1, d8, d9, e0, m1, g4, i2, IntKind.i64.wrap (e3 + 1), rfl, H, (i0.trans m2), m7, m3, m4, m5, k8⟩
 have j9 : (decide (e3 < (e1.length : Int))) = false := (decide_eq_false j8)
 refine CW.cf rfl j9 ?_
 refine CW.exit (QW.then_x (QW.then_x (QW.blk_x (QW.then_n ?_))))
 refine CW.sub [(3, .pointer (sp a1)), (4, .pointer (sp a2)), (6, .pointer (sp a7)), (7, .pointer (sp a8)), (8, .pointer (sp a0)), (9, .int .i64 g4), (13, .pointer (sp b4))] (by repeat' constructor) ?_
 refine CW.seq ?_
 refine CW.region_awh (C := fun w_ => St w w_ (oS b4 a1_3 b1 b2 60 :: .sl a4 a5 a3 a6 118 3 :: oS a0 0 0 (z32) 60 :: oK a2 l1_0 a1_1 a1_2 a1_3 a1_4 l1_5 a9 a1_7 62 :: oM a1 c5 b5 b6 b7 b8 b9 c0 c6 c7 c1 c3 c4 57 :: (c8 ++ R))) 5 wide (by kernel_rfl) l4 (fun s8 g7 => ?_)
 have g8 : St w s8 (oS b4 a1_3 b1 b2 60 :: .sl a4 a5 a3 a6 118 3 :: oS a0 0 0 (z32) 60 :: oK a2 l1_0 a1_1 a1_2 a1_3 a1_4 l1_5 a9 a1_7 62 :: oM a1 c5 b5 b6 b7 b8 b9 c0 c6 c7 c1 c3 c4 57 :: (c8 ++ R)) := (St.pickT (L := [_, _, _, _, _, _, _]) g7 [0, 1, 2, 5, 6] (by decide))
 refine AWH.kn (St.subset g8 g7 (mc 0 rfl (mc 1 rfl (mc 2 rfl (mc 5 rfl (mc 6 rfl (mem_TR (A := [_, _, _, _, _, _, _]) (fun _ h_ => h_)))))))) fun zC6 => ?_
 refine AWH.tk 0 rfl zC6 (fun wq sq => (Runs.load_mid row57 rfl sq (i := 4) rfl (pm [] ((ci c5) ++ ((cl b5 b6 b7) ++ ((cl b8 b9 c0) ++ ((ci c6) ++ ((cb c7) ++ (cl c1 c3 c4)))))) []) rfl)) ?_
 refine AWH.tk 1 rfl zC6 (fun wq sq => (Runs.load_mid row62 rfl sq (i := 3) rfl (pm [] (iv .u8 l1_0 ++ ((ci a1_1) ++ ((cu a1_2) ++ ((cu a1_3) ++ ((cu a1_4) ++ (iv .u8 l1_5 ++ ((cu a9) ++ (cu a1_7)))))))) [] (hm := by first | rfl | simp only [la, lc, ln, lv, hl1_0, hl1_5])) (by first | rfl | simp only [la, lc, ln, lv, hl1_0, hl1_5]))) ?_
 refine AWH.tk 2 rfl zC6 (fun wq sq => (Runs.load_mid row60 rfl sq (i := 0) rfl (pm [] ((cu a1_3) ++ ((cu b1) ++ iv .u8 b2)) [] (hm := by first | rfl | simp only [la, lc, ln, lv, e7])) (by first | rfl | simp only [la, lc, ln, lv, e7]))) ?_
 refine AWH.step 3 rfl (by decide) (by kernel_rfl) (fun inv_ hs_ hk_ hc_ hn_ => ?_)
 refine WL.sm (new := ((ci c5) ++ ((cl b5 b6 b7) ++ ((cl b8 b9 c0) ++ ((ci c6) ++ ((cb c7) ++ (cl c1 c3 c4))))))) (i := 4) (pre := (([] : Cs))) (mid := ((ci 0) ++ ((cl none 0 0) ++ ((cl none 0 0) ++ ((ci 0) ++ ((cb false) ++ (cl none 0 0))))))) (post := (([] : Cs))) (ms := ((ci c5) ++ ((cl b5 b6 b7) ++ ((cl b8 b9 c0) ++ ((ci c6) ++ ((cb c7) ++ (cl c1 c3 c4))))))) g7 rfl row57 (by first | rfl | simp only [aa, an, na, ca]) rfl rfl rfl rfl rfl (one_cat oneU (one_cat oneU (one_cat oneU (one_cat oneU (one_cat oneU oneU))))) rfl ?_
 intro s9 i6
 try dsimp only [List.set] at i6
 refine WL.nil ?_
 refine AWH.back (St.subset g8 i6 (mc 0 rfl (mc 1 rfl (mc 2 rfl (mc 5 rfl (mc 6 rfl (mem_TR (A := [_, _, _, _, _, _, _]) (fun _ h_ => h_)))))))) inv_ hs_ hk_ hc_ hn_ ?_
 refine AWH.step 4 rfl (by decide) (by kernel_rfl) (fun inv_ hs_ hk_ hc_ hn_ => ?_)
 refine WL.sm (new := (iv .u8 l1_0 ++ ((ci a1_1) ++ ((cu a1_2) ++ ((cu a1_3) ++ ((cu a1_4) ++ (iv .u8 l1_5 ++ ((cu a9) ++ (cu a1_7))))))))) (i := 3) (pre := (([] : Cs))) (mid := (iv .u8 (z32) ++ ((ci 0) ++ ((cu 0) ++ ((cu 0) ++ ((cu 0) ++ (iv .u8 (z32) ++ ((cu 0) ++ (cu 0))))))))) (post := (([] : Cs))) (ms := (iv .u8 l1_0 ++ ((ci a1_1) ++ ((cu a1_2) ++ ((cu a1_3) ++ ((cu a1_4) ++ (iv .u8 l1_5 ++ ((cu a9) ++ (cu a1_7))))))))) i6 rfl row62 (by first | rfl | simp only [aa, an, na, ca]) rfl rfl rfl (by first | rfl | simp only [la, lc, ln, lv, hl1_0, hl1_5]) (by first | rfl | simp only [la, lc, ln, lv, List.length_replicate]) (one_cat (one_iv _ _) (one_cat oneU (one_cat oneU (one_cat oneU (one_cat oneU (one_cat (one_iv _ _) (one_cat oneU oneU))))))) (by first | rfl | simp only [aa, an, na, ca]) ?_
 intro t0 i7
 try dsimp only [List.set] at i7
 refine WL.nil ?_
 refine AWH.back (St.subset g8 i7 (mc 0 rfl (mc 1 rfl (mc 2 rfl (mc 5 rfl (mc 6 rfl (mem_TR (A := [_, _, _, _, _, _, _]) (fun _ h_ => h_)))))))) inv_ hs_ hk_ hc_ hn_ ?_
 refine AWH.tail (by kernel_rfl) ?_
 refine AW.step 5 rfl (by kernel_rfl) ?_
 refine WL.sm (new := ((cu a1_3) ++ ((cu b1) ++ iv .u8 b2))) (i := 2) (pre := (([] : Cs))) (mid := ((cu 0) ++ ((cu 0) ++ iv .u8 (z32)))) (post := (([] : Cs))) (ms := ((cu a1_3) ++ ((cu b1) ++ iv .u8 b2))) i7 rfl row60 (by first | rfl | simp only [aa, an, na, ca]) rfl rfl rfl (by first | rfl | simp only [la, lc, ln, lv, e7]) (by first | rfl | simp only [la, lc, ln, lv, List.length_replicate]) (one_cat oneU (one_cat oneU (one_iv _ _))) (by first | rfl | simp only [aa, an, na, ca]) ?_
 intro t1 f7
 try dsimp only [List.set] at f7
 refine WL.nil ?_
 refine AW.back  ?_
 refine AW.tk 6 rfl (fun _ => (Runs.assign rfl)) ?_
 refine AW.done (by kernel_rfl) ?_
 refine QW.then_n (CW.ret ?_)
 obtain ⟨rfl, rfl, rfl, rfl, rfl, rfl, rfl, rfl, rfl, rfl, rfl, rfl, rfl, rfl, rfl, rfl, rfl, rfl⟩ := H
 exact QW.retN4 rfl (Res.row rfl row57 f7 (i := 4) rfl rfl) (Res.row rfl row62 f7 (i := 3) rfl (by first | rfl | simp only [la, lc, ln, lv, hl1_0, hl1_5])) (Res.row rfl row60 f7 (i := 2) rfl (by first | rfl | simp only [la, lc, ln, lv, e7])) (Res.tmp rfl) ⟨c8, b5, b6, b7, b8, b9, c0, c1, c3, c4, (b0.trans i0), l0, l1, l3, hl1_0, hl1_5, e7, rfl, (St.pickT (L := [_, _, _, _, _, _, _]) f7 [] (by decide))⟩
/-! ### reliquarylaw13_stateOf: function 23 -/
def reliquarylaw13_stateOf.rel (a0_0 : Int) (a0_1 : Int) (l0_2 : List Int) (r0_0 : Int) (r0_1 : Int) (r0_2 : List Int) : Prop := r0_0 = a0_0 ∧ r0_1 = a0_1 ∧ r0_2 = l0_2
set_option maxHeartbeats 4000000 in
theorem reliquarylaw13_stateOf.calls (w : World) (a0_0 : Int) (a0_1 : Int) (l0_2 : List Int)   (hl0_2 : l0_2.length = 32) (r0_0 : Int) (r0_1 : Int) (r0_2 : List Int) (H : reliquarylaw13_stateOf.rel a0_0 a0_1 l0_2 r0_0 r0_1 r0_2) :
  Calls Tryd.prog 23 #[.agg ((cu a0_0) ++ ((cu a0_1) ++ iv .u8 l0_2)).toArray] w fun e w' => r0_2.length = 32 ∧ e = .returned (.agg ((cu r0_0) ++ ((cu r0_1) ++ iv .u8 r0_2)).toArray) ∧ St w w' [] := by
 refine CW.enter Tryd.func23 rfl (n := 10) rfl [.agg ((cu a0_0) ++ ((cu a0_1) ++ iv .u8 l0_2)).toArray] (Nat.le_of_ble_eq_true rfl) ?_
 refine CW.sub [(0, .agg ((cu a0_0) ++ ((cu a0_1) ++ iv .u8 l0_2)).toArray)] ⟨rfl, trivial⟩ ?_
 have st0 : St w w [] := St.refl w
 refine cr ?_
 refine WL.box st0 rfl rfl ?_
 intro a3 a6 a4
 refine WL.alloc a4 zero60 ?_
 intro a2 a7 a0
 refine WL.nx ?_
 refine WL.v (Runs.fieldAddr (off := 0) (p := 0) fld39_0 rfl rfl rfl) ?_
 refine WL.v (Runs.load nagg37 rfl (a0.cell (k := 1) rfl (pa (.int .u64 a0_0) [] ((cu a0_1) ++ iv .u8 l0_2)))) ?_
 refine WL.v (Runs.fieldAddr (off := 1) (p := 1) fld39_1 rfl rfl rfl) ?_
 refine WL.v (Runs.load nagg37 rfl (a0.cell (k := 1) rfl (pa (.int .u64 a0_1) (cu a0_0) (iv .u8 l0_2)))) ?_
 refine WL.v (Runs.fieldAddr (off := 2) (p := 2) fld39_2 rfl rfl rfl) ?_
 refine WL.v (Runs.load_mid row23 rfl a0 (i := 1) rfl (pm ((cu a0_0) ++ (cu a0_1)) (iv .u8 l0_2) [] (hm := by first | rfl | simp only [la, lc, ln, lv, hl0_2])) (by first | rfl | simp only [la, lc, ln, lv, hl0_2])) ?_
 refine WL.v (Runs.build_seg (ps := [(0, 1), (1, 1), (2, 32)]) (cs := ((cu a0_0) ++ ((cu a0_1) ++ iv .u8 l0_2))) plc60 zero60 rfl (.cons (ms := ((cu a0_0))) rfl rfl rfl (.cons (ms := ((cu a0_1))) rfl rfl rfl (.one (by rw [show (iv .u8 l0_2).length = 32 from (by first | rfl | simp only [la, lc, ln, lv, hl0_2])] <;> rfl) rfl))) (Eq.trans (b := 34) (by first | rfl | simp only [la, lc, ln, lv, List.length_replicate]) (Eq.symm (by first | rfl | simp only [List.append_assoc, la, lc, ln, lv, hl0_2]))) rfl) ?_
 refine WL.sm (new := ((cu a0_0) ++ ((cu a0_1) ++ iv .u8 l0_2))) (i := 0) (pre := (([] : Cs))) (mid := ((cu 0) ++ ((cu 0) ++ iv .u8 (z32)))) (post := (([] : Cs))) (ms := ((cu a0_0) ++ ((cu a0_1) ++ iv .u8 l0_2))) a0 rfl row60 (by first | rfl | simp only [aa, an, na, ca]) rfl rfl rfl (by first | rfl | simp only [la, lc, ln, lv, hl0_2]) (by first | rfl | simp only [la, lc, ln, lv, List.length_replicate]) (one_cat oneU (one_cat oneU (one_iv _ _))) (by first | rfl | simp only [aa, an, na, ca]) ?_
 intro a5 a1
 try dsimp only [List.set] at a1
 refine wn (CW.ret ?_)
 obtain ⟨rfl, rfl, rfl⟩ := H
 exact QW.retr rfl row60 rfl a1 (i := 0) rfl (by first | rfl | simp only [la, lc, ln, lv, hl0_2]) ⟨hl0_2, rfl, a1.pick [] (by decide)⟩
/-! ### disk_Disk_Image: function 27 -/
def disk_Disk_Image.L1 (l0_0 : List R25) (l0_1 : List R124) (a0_2 : Int) (a0_3 : Bool) (l0_4 : List R48) (ls0_0 : List R25) (ls0_1 : List R124) (as0_2 : Int) (as0_3 : Bool) (ls0_4 : List R48) (lr0 : List R25) : Nat → (List R25) → Int → Prop
 | 0, _, _ => False
 | kL1 + 1, a2, a0 => ((a0 < (l0_0.length : Int) ∧ ((0 ≤ a0 ∧ a0 < (l0_0.length : Int)) ∧ (∃ (a3 : List Int), slices_Clone_s_byte_byte.rel (gx l0_0 (a0.toNat)) a3 ∧ (∃ a1 : List R25, a1 = a2 ++ ([a3] : List R25) ∧ (a1.length ≤ 1099511627776 ∧ disk_Disk_Image.L1 l0_0 l0_1 a0_2 a0_3 l0_4 ls0_0 ls0_1 as0_2 as0_3 ls0_4 lr0 kL1 a1 (IntKind.i64.wrap (a0 + 1))))))) ∨ (¬ (a0 < (l0_0.length : Int)) ∧ ls0_0 = l0_0 ∧ ls0_1 = l0_1 ∧ as0_2 = a0_2 ∧ as0_3 = a0_3 ∧ ls0_4 = l0_4 ∧ lr0 = a2))
def disk_Disk_Image.rel (l0_0 : List R25) (l0_1 : List R124) (a0_2 : Int) (a0_3 : Bool) (l0_4 : List R48) (ls0_0 : List R25) (ls0_1 : List R124) (as0_2 : Int) (as0_3 : Bool) (ls0_4 : List R48) (lr0 : List R25) : Prop := (∃ k_ : Nat, disk_Disk_Image.L1 l0_0 l0_1 a0_2 a0_3 l0_4 ls0_0 ls0_1 as0_2 as0_3 ls0_4 lr0 k_ ([] : List R25) 0)
set_option maxHeartbeats 1000000 in
theorem disk_Disk_Image.calls (w w1 : World) (T R : Pool) (l0_0 : List R25) (l0_1 : List R124) (a0_2 : Int) (a0_3 : Bool) (l0_4 : List R48) (b0 : Nat) (A0_0 : Option Addr) (n0_0 : Nat) (c0_0 : Nat) (x0_0 : Cs) (A0_1 : Option Addr) (n0_1 : Nat) (c0_1 : Nat) (x0_1 : Cs) (A0_4 : Option Addr) (n0_4 : Nat) (c0_4 : Nat) (x0_4 : Cs) (st0 : St w w1 (oD b0 A0_0 n0_0 c0_0 A0_1 n0_1 c0_1 a0_2 a0_3 A0_4 n0_4 c0_4 95 :: .sl A0_0 c0_0 n0_0 x0_0 25 1 :: .sl A0_1 c0_1 n0_1 x0_1 124 2 :: .sl A0_4 c0_4 n0_4 x0_4 48 2 :: (T ++ R))) (hn0_0 : n0_0 = l0_0.length) (hx0_0 : HRs T (f25 w) x0_0 l0_0) (hn0_1 : n0_1 = l0_1.length) (hx0_1 : HRs T (f124 w) x0_1 l0_1) (hn0_4 : n0_4 = l0_4.length) (hx0_4 : HRs T (f48 w) x0_4 l0_4) (ls0_0 : List R25) (ls0_1 : List R124) (as0_2 : Int) (as0_3 : Bool) (ls0_4 : List R48) (lr0 : List R25) (H : disk_Disk_Image.rel l0_0 l0_1 a0_2 a0_3 l0_4 ls0_0 ls0_1 as0_2 as0_3 ls0_4 lr0) :
  Calls Tryd.prog 27 #[.pointer (sp b0)] w1 fun e w' => ∃ T' As0_0 ns0_0 cs0_0 xs0_0 As0_1 ns0_1 cs0_1 xs0_1 As0_4 ns0_4 cs0_4 xs0_4 Ar0 nr0 cr0 xr0, Pl T T' ∧ ns0_0 = ls0_0.length ∧ HRs T' (f25 w) xs0_0 ls0_0 ∧ ns0_1 = ls0_1.length ∧ HRs T' (f124 w) xs0_1 ls0_1 ∧ ns0_4 = ls0_4.length ∧ HRs T' (f48 w) xs0_4 ls0_4 ∧ nr0 = lr0.length ∧ HRs T' (f25 w) xr0 lr0 ∧ e = .returned (.slice Ar0 nr0 cr0) ∧ St w w' (oD b0 As0_0 ns0_0 cs0_0 As0_1 ns0_1 cs0_1 as0_2 as0_3 As0_4 ns0_4 cs0_4 95 :: .sl As0_0 cs0_0 ns0_0 xs0_0 25 1 :: .sl As0_1 cs0_1 ns0_1 xs0_1 124 2 :: .sl As0_4 cs0_4 ns0_4 xs0_4 48 2 :: .sl Ar0 cr0 nr0 xr0 25 1 :: (T' ++ R)) := by
 refine CW.enter Tryd.func27 rfl (n := 24) rfl [.pointer (sp b0)] (Nat.le_of_ble_eq_true rfl) ?_
 refine CW.sub [(0, .pointer (sp b0))] ⟨rfl, trivial⟩ ?_
 refine cr (WL.as rfl (wn (CW.seq (cr (WL.mv rfl ?_)))))
 refine WL.v (Runs.eql_ptr Tryd.underlying30 rfl rfl rfl) ?_
 refine wn ?_
 refine CW.cf rfl rfl ?_
 refine CW.skip (QW.then_n (cr (WL.as rfl (wn (CW.seq (cr (WL.mv rfl ?_)))))))
 refine WL.v (Runs.nilCheck rfl) ?_
 refine WL.v (Runs.fieldAddr (off := 0) (p := 0) fld95_0 rfl rfl rfl) ?_
 refine WL.v (Runs.load nagg76 rfl (st0.cell (k := 0) rfl (pa (.slice A0_0 n0_0 c0_0) [] ((cl A0_1 n0_1 c0_1) ++ ((ci a0_2) ++ ((cb a0_3) ++ (cl A0_4 n0_4 c0_4))))))) ?_
 refine WL.v (Runs.len_sl Tryd.underlying76 rfl (by rw [hn0_0])) ?_
 refine WL.mv rfl (wn ?_)
 refine CW.sub [(2, .slice none 0 0), (3, .slice none 0 0), (11, .slice A0_0 n0_0 c0_0), (12, .int .i64 (l0_0.length : Int)), (13, .int .i64 0)] ⟨rfl, rfl, rfl, rfl, rfl, trivial⟩ ?_
 refine CW.block ?_
 have b8 := st0.nil_sl 25 1
 have b8 : St w w1 (.sl none 0 0 ([] : Cs) 25 1 :: oD b0 A0_0 n0_0 c0_0 A0_1 n0_1 c0_1 a0_2 a0_3 A0_4 n0_4 c0_4 95 :: .sl A0_0 c0_0 n0_0 x0_0 25 1 :: .sl A0_1 c0_1 n0_1 x0_1 124 2 :: .sl A0_4 c0_4 n0_4 x0_4 48 2 :: (T ++ R)) := b8
 obtain ⟨e5, H⟩ := H
 refine CW.sub [(2, .slice none 0 0), (3, .slice none 0 0), (11, .slice A0_0 n0_0 c0_0), (12, .int .i64 (l0_0.length : Int)), (13, .int .i64 0)] ⟨rfl, rfl, rfl, rfl, rfl, trivial⟩ ?_
 refine CW.loop (fun kL1 l_ w_ => ∃ (a6 : Pool) (a1 : Option Addr) (a2 : Nat) (a0 : Nat) (a3 : Cs) (b1 : List R25) (a4 : Int), l_ = [(2, .slice none 0 0), (3, .slice a1 a0 a2), (11, .slice A0_0 n0_0 c0_0), (12, .int .i64 (l0_0.length : Int)), (13, .int .i64 a4)] ∧ disk_Disk_Image.L1 l0_0 l0_1 a0_2 a0_3 l0_4 ls0_0 ls0_1 as0_2 as0_3 ls0_4 lr0 kL1 b1 a4 ∧ (Pl T a6) ∧ (a0 = b1.length) ∧ (HRs a6 (f25 w) a3 b1) ∧ St w w_ (.sl a1 a2 a0 a3 25 1 :: oD b0 A0_0 n0_0 c0_0 A0_1 n0_1 c0_1 a0_2 a0_3 A0_4 n0_4 c0_4 95 :: .sl A0_0 c0_0 n0_0 x0_0 25 1 :: .sl A0_1 c0_1 n0_1 x0_1 124 2 :: .sl A0_4 c0_4 n0_4 x0_4 48 2 :: (a6 ++ R))) (k := e5) ⟨T, none, 0, 0, ([] : Cs), ([] : List R25), 0, rfl, H, Pl.refl, rfl, (HRs.nil : HRs T (f25 w) [] []), b8⟩ (fun _ _ h => by obtain ⟨_, _, _, _, _, _, _, _, h, _⟩ := h; exact h.elim) ?_
 rintro kL1 g0 e6 ⟨a6, a1, a2, a0, a3, b1, a4, rfl, H, a8, d0, d1, b2⟩
 refine cr ?_
 refine WL.v (Runs.lss rfl rfl rfl) ?_
 refine wn (CW.seq ?_)
 rcases H with ⟨b9, H⟩ | ⟨b9, H⟩
 ·have c0 : (decide (a4 < (l0_0.length : Int))) = true := (decide_eq_true b9)
  refine CW.ct rfl c0 ?_
  refine CW.skip (QW.then_n (CW.seq (CW.block (cr ?_))))
  obtain ⟨⟨e7, e8⟩, H⟩ := H
  obtain ⟨g1, d2, e9, f0, f1⟩ := el_get (i := (a4).toNat) (b2.src_sl (k := 2) rfl) (hx0_0.mono (fun _ h_ => a8.1 _ h_)) (fz25 w) (by decide) (by omega)
  obtain ⟨d3, d4, d5, c1, c2⟩ := inv25 f1
  replace c1 : e9 = (cl d3 d4 d5) := c1
  subst c1
  refine WL.v (Runs.indexAddr Tryd.underlying76 cells25 (by decide) rfl d2 rfl e7 (by rw [show n0_0 = l0_0.length from hn0_0]; exact e8) (o := (a4.toNat) * 1) (by first | rfl | omega)) ?_
  refine WL.v (Runs.load nagg25 rfl (Src.cellAt (j := 0) (Src.cut (b2.src_sl (k := 2) rfl) d2 f0) rfl)) ?_
  refine WL.as rfl (wn (CW.region (WL.mv rfl (WL.mv rfl ?_))))
  obtain ⟨a7, f2, H⟩ := H
  refine WL.call Wanted.none ent48 rfl (slices_Clone_s_byte_byte.calls e6 (gx l0_0 (a4.toNat)) d3 d4 d5 ((c2.2.2.at b2 (mem_T (A := [_, _, _, _, _]) (fun _ h_ => h_)))) (c2.1) (c2.2.1) a7 f2) ?_
  rintro _ d6 ⟨b3, b4, b5, f3, rfl, f4⟩
  have d7 := b2.call f4
  refine ⟨_, rfl, ?_⟩
  have hb_45c := d7.cap (i := 0) rfl
  obtain ⟨a5, d8, f5, c3⟩ := St.freeze (A := []) (B := [_, _, _, _, _]) (T := a6) (R := R) d7
  have f6 : HB w a5 b3 b5 b4 (iv .u8 a7) a7.length := ⟨f3, hb_45c, Hd.of_sl f5⟩
  replace c3 : St w d6 (.sl a1 a2 a0 a3 25 1 :: oD b0 A0_0 n0_0 c0_0 A0_1 n0_1 c0_1 a0_2 a0_3 A0_4 n0_4 c0_4 95 :: .sl A0_0 c0_0 n0_0 x0_0 25 1 :: .sl A0_1 c0_1 n0_1 x0_1 124 2 :: .sl A0_4 c0_4 n0_4 x0_4 48 2 :: (a5 ++ R)) := c3
  refine WL.buildSl [.slice b3 b5 b4] c3 Tryd.underlying76 elem25 rfl rfl (by decide) (by decide) (by simp [Value.cells]) ?_
  intro c4 d9 a9
  replace a9 : St w d9 (.sl (sp c4) 1 1 [.slice b3 b5 b4] 25 1 :: .sl a1 a2 a0 a3 25 1 :: oD b0 A0_0 n0_0 c0_0 A0_1 n0_1 c0_1 a0_2 a0_3 A0_4 n0_4 c0_4 95 :: .sl A0_0 c0_0 n0_0 x0_0 25 1 :: .sl A0_1 c0_1 n0_1 x0_1 124 2 :: .sl A0_4 c0_4 n0_4 x0_4 48 2 :: (a5 ++ R)) := a9
  obtain ⟨b6, e0⟩ : ∃ x_ : Cs, x_ = [.slice b3 b5 b4] := ⟨_, rfl⟩
  have c5 : HRs a5 (f25 w) b6 ([a7] : List R25) := by rw [e0]; exact (HRs.one (.cons ⟨_, _, _, rfl, f6⟩ .nil))
  replace a9 : St w d9 (.sl (sp c4) 1 1 b6 25 1 :: .sl a1 a2 a0 a3 25 1 :: oD b0 A0_0 n0_0 c0_0 A0_1 n0_1 c0_1 a0_2 a0_3 A0_4 n0_4 c0_4 95 :: .sl A0_0 c0_0 n0_0 x0_0 25 1 :: .sl A0_1 c0_1 n0_1 x0_1 124 2 :: .sl A0_4 c0_4 n0_4 x0_4 48 2 :: (a5 ++ R)) := by rw [e0]; exact a9
  obtain ⟨c6, e1, H⟩ := H
  obtain ⟨f7, H⟩ := H
  obtain ⟨c7, c8⟩ : ∃ n_ : Nat, n_ = c6.length := ⟨_, rfl⟩
  refine WL.appendR (i := 1) (N := c7) (news := b6) Wanted.none a9 rfl Tryd.underlying76 elemS25 rfl rfl (a9.src_sl (k := 0) rfl) (by have h1_ := (c5).length (fz25 w); have h2_ : 1 = ([a7] : List R25).length := rfl; rw [h1_, h2_]) (HLs.one c5) (by decide) (by have h1_ : a0 = b1.length := d0; have h2_ : 1 = ([a7] : List R25).length := rfl; rw [c8, e1, List.length_append]; omega) (by rw [c8]; exact f7) ?_
  intro e2 e3 f8 b7
  obtain ⟨c9, e4⟩ : ∃ x_ : Cs, x_ = a3 ++ b6 := ⟨_, rfl⟩
  have f9 : HRs a5 (f25 w) c9 c6 := by rw [e4, e1]; exact HRs.append (d1.mono (fun _ h_ => d8.1 _ h_)) c5
  replace b7 : St w f8 (.sl (sp c4) 1 1 b6 25 1 :: .sl e2 e3 c7 c9 25 1 :: oD b0 A0_0 n0_0 c0_0 A0_1 n0_1 c0_1 a0_2 a0_3 A0_4 n0_4 c0_4 95 :: .sl A0_0 c0_0 n0_0 x0_0 25 1 :: .sl A0_1 c0_1 n0_1 x0_1 124 2 :: .sl A0_4 c0_4 n0_4 x0_4 48 2 :: (a5 ++ R)) := by rw [e4]; exact b7
  refine WL.as rfl (WL.nil (QW.blk_n (QW.then_n (CW.region ?_))))
  refine WL.v (Runs.add rfl rfl rfl) ?_
  refine WL.mv rfl (WL.nil ?_)
  have b7' := (St.pickT (L := [_, _, _, _, _, _]) b7 [1, 2, 3, 4, 5] (by decide))
  exact QW.at _ (by repeat' constructor) ⟨a5, e2, e3, c7, c9, c6, IntKind.i64.wrap (a4 + 1), rfl, H, (a8.trans d8), c8, f9, b7'⟩
 have c0 : (decide (a4 < (l0_0.length : Int))) = false := (decide_eq_false b9)
 refine CW.cf rfl c0 ?_
 refine CW.exit (QW.then_x (QW.then_x (QW.blk_x (QW.then_n (cr (WL.mv rfl (WL.as rfl (wn (CW.ret ?_)))))))))
 obtain ⟨rfl, rfl, rfl, rfl, rfl, rfl⟩ := H
 exact QW.ret1 rfl rfl ⟨a6, A0_0, n0_0, c0_0, x0_0, A0_1, n0_1, c0_1, x0_1, A0_4, n0_4, c0_4, x0_4, a1, a0, a2, a3, a8, hn0_0, (hx0_0.mono (fun _ h_ => a8.1 _ h_)), hn0_1, (hx0_1.mono (fun _ h_ => a8.1 _ h_)), hn0_4, (hx0_4.mono (fun _ h_ => a8.1 _ h_)), d0, d1, rfl, (St.pickT (L := [_, _, _, _, _]) b2 [1, 2, 3, 4, 0] (by decide))⟩
/-! ### reliquaryref06_last: function 80 -/
def reliquaryref06_last.L1 (l0 : List R145) (a1 : Int) (ar0 : ByteArray) (ar1 : Bool) : Nat → ByteArray → Bool → Int → Prop
 | 0, _, _, _ => False
 | kL1 + 1, a2, a3, a0 => ((a0 ≥ 0 ∧ ((0 ≤ a0 ∧ a0 < (l0.length : Int)) ∧ ((((gx l0 (a0.toNat)).1) = a1 ∧ ((0 ≤ a0 ∧ a0 < (l0.length : Int)) ∧ ar0 = (gx l0 (a0.toNat)).2 ∧ ar1 = true)) ∨ (¬ (((gx l0 (a0.toNat)).1) = a1) ∧ reliquaryref06_last.L1 l0 a1 ar0 ar1 kL1 a2 a3 (IntKind.i64.wrap (a0 - 1)))))) ∨ (¬ (a0 ≥ 0) ∧ ar0 = (⟨#[]⟩ : ByteArray) ∧ ar1 = false))
def reliquaryref06_last.rel (l0 : List R145) (a1 : Int) (ar0 : ByteArray) (ar1 : Bool) : Prop := (∃ k_ : Nat, reliquaryref06_last.L1 l0 a1 ar0 ar1 k_ (⟨#[]⟩ : ByteArray) false (IntKind.i64.wrap ((l0.length : Int) - 1)))
set_option maxHeartbeats 1000000 in
theorem reliquaryref06_last.calls (w w1 : World) (T R : Pool) (l0 : List R145) (a1 : Int) (A0 : Option Addr) (n0 : Nat) (c0 : Nat) (st0 : St w w1 ((T ++ R))) (hb0 : HS w (T ++ R) T A0 n0 c0 (f145 w) l0) (ar0 : ByteArray) (ar1 : Bool) (H : reliquaryref06_last.rel l0 a1 ar0 ar1) :
  Calls Tryd.prog 80 #[.slice A0 n0 c0, .int .i64 a1] w1 fun e w' => ∃ T' , Pl T T' ∧ e = .returned (.tuple #[.string ar0, .bool ar1]) ∧ St w w' ((T' ++ R)) := by
 refine CW.enter Tryd.func80 rfl (n := 26) rfl [.slice A0 n0 c0, .int .i64 a1] (Nat.le_of_ble_eq_true rfl) ?_
 refine CW.sub [(0, .slice A0 n0 c0), (1, .int .i64 a1)] ⟨rfl, rfl, trivial⟩ ?_
 refine cr (WL.as rfl (WL.as rfl (wn (CW.seq (cr (WL.mv rfl ?_))))))
 refine WL.v (Runs.len_sl Tryd.underlying54 rfl (by rw [hb0.1])) ?_
 refine WL.v (Runs.sub rfl rfl rfl) ?_
 refine WL.as rfl (wn (CW.block ?_))
 obtain ⟨b7, H⟩ := H
 refine CW.sub [(0, .slice A0 n0 c0), (1, .int .i64 a1), (4, .string (⟨#[]⟩ : ByteArray)), (5, .bool false), (6, .int .i64 (IntKind.i64.wrap ((l0.length : Int) - 1)))] ⟨rfl, rfl, rfl, rfl, rfl, trivial⟩ ?_
 refine CW.loop (fun kL1 l_ w_ => ∃ (a4 : Pool) (a5 : ByteArray) (a6 : Bool) (a0 : Int), l_ = [(0, .slice A0 n0 c0), (1, .int .i64 a1), (4, .string a5), (5, .bool a6), (6, .int .i64 a0)] ∧ reliquaryref06_last.L1 l0 a1 ar0 ar1 kL1 a5 a6 a0 ∧ (Pl T a4) ∧ St w w_ ((a4 ++ R))) (k := b7) ⟨T, (⟨#[]⟩ : ByteArray), false, IntKind.i64.wrap ((l0.length : Int) - 1), rfl, H, Pl.refl, st0⟩ (fun _ _ h => by obtain ⟨_, _, _, _, _, h, _⟩ := h; exact h.elim) ?_
 rintro kL1 d1 d2 ⟨a4, a5, a6, a0, rfl, H, a2, a3⟩
 refine CW.seq (cr (WL.mv rfl ?_))
 refine WL.v (Runs.geq rfl rfl rfl) ?_
 refine wn ?_
 rcases H with ⟨a7, H⟩ | ⟨a7, H⟩
 ·have a8 : (decide (a0 ≥ 0)) = true := (decide_eq_true a7)
  refine CW.ct rfl a8 ?_
  refine CW.skip (QW.then_n (CW.seq (CW.block (cr (WL.mv rfl (WL.mv rfl ?_))))))
  obtain ⟨⟨b8, b9⟩, H⟩ := H
  obtain ⟨d3, b3, c1⟩ := hb0.2.2
  obtain ⟨d4, b4, c2, c3, c4⟩ := el_get (i := (a0).toNat) ((b3.at a3 (mem_TR (A := []) (fun _ h_ => a2.1 _ h_)))) (c1.mono (fun _ h_ => a2.1 _ h_)) (fz145 w) (by decide) (by omega)
  obtain a9 := inv145 c4
  replace a9 : c2 = (ci ((gx l0 (a0.toNat)).1)) ++ (ct ((gx l0 (a0.toNat)).2)) := a9
  subst a9
  refine WL.v (Runs.indexAddr Tryd.underlying54 cells145 (by decide) rfl b4 rfl b8 (by rw [show n0 = l0.length from hb0.1]; exact b9) (o := (a0.toNat) * 2) (by first | rfl | omega)) ?_
  refine WL.v (Runs.fieldAddrB (off := 0) fld145_0 rfl rfl rfl) ?_
  refine WL.v (Runs.load nagg3 rfl (Src.cellAt (j := 0) (Src.cut ((b3.at a3 (mem_TR (A := []) (fun _ h_ => a2.1 _ h_)))) b4 c3) rfl)) ?_
  refine WL.mv rfl ?_
  refine WL.v (Runs.eql rfl rfl rfl) ?_
  refine wn ?_
  rcases H with ⟨b0, H⟩ | ⟨b0, H⟩
  ·have b1 : (((gx l0 (a0.toNat)).1) == a1) = true := (beq_iff_eq.mpr b0)
   refine CW.ct rfl b1 ?_
   refine cr (WL.mv rfl (WL.mv rfl ?_))
   obtain ⟨⟨c5, c6⟩, H⟩ := H
   obtain ⟨d5, b5, c7⟩ := hb0.2.2
   obtain ⟨d6, b6, c8, c9, d0⟩ := el_get (i := (a0).toNat) ((b5.at a3 (mem_TR (A := []) (fun _ h_ => a2.1 _ h_)))) (c7.mono (fun _ h_ => a2.1 _ h_)) (fz145 w) (by decide) (by omega)
   obtain b2 := inv145 d0
   replace b2 : c8 = (ci ((gx l0 (a0.toNat)).1)) ++ (ct ((gx l0 (a0.toNat)).2)) := b2
   subst b2
   refine WL.v (Runs.indexAddr Tryd.underlying54 cells145 (by decide) rfl b6 rfl c5 (by rw [show n0 = l0.length from hb0.1]; exact c6) (o := (a0.toNat) * 2) (by first | rfl | omega)) ?_
   refine WL.v (Runs.fieldAddrB (off := 1) fld145_1 rfl rfl rfl) ?_
   refine WL.v (Runs.load nagg9 rfl (Src.cellAt (j := 1) (Src.cut ((b5.at a3 (mem_TR (A := []) (fun _ h_ => a2.1 _ h_)))) b6 c9) rfl)) ?_
   refine WL.as rfl (WL.as rfl (wn (CW.ret (QW.blk_r (QW.then_r (QW.then_r (QW.blk_r (QW.then_r ?_))))))))
   obtain ⟨rfl, rfl⟩ := H
   exact QW.ret2 rfl rfl rfl ⟨a4, a2, rfl, (St.pickT (L := []) a3 [] (by decide))⟩
  have b1 : (((gx l0 (a0.toNat)).1) == a1) = false := (beq_eq_false_iff_ne.mpr b0)
  refine CW.cf rfl b1 ?_
  refine CW.skip (QW.blk_n (QW.then_n (CW.region (WL.mv rfl ?_))))
  refine WL.v (Runs.sub rfl rfl rfl) ?_
  refine WL.as rfl (WL.nil ?_)
  exact QW.at _ (by repeat' constructor) ⟨a4, a5, a6, IntKind.i64.wrap (a0 - 1), rfl, H, a2, a3⟩
 have a8 : (decide (a0 ≥ 0)) = false := (decide_eq_false a7)
 refine CW.cf rfl a8 ?_
 refine CW.exit (QW.then_x (QW.then_x (QW.blk_x (QW.then_n (cr (WL.as rfl (WL.as rfl (wn (CW.ret ?_)))))))))
 obtain ⟨rfl, rfl⟩ := H
 exact QW.ret2 rfl rfl rfl ⟨a4, a2, rfl, (St.pickT (L := []) a3 [] (by decide))⟩
end Go.Proofs.YtmhcjafkdmcgoaaDoor
