/- Walks: each function computes what its relation says, and a call of it ends so. Printed by a program of this session (wip/gen). -/
import Derived.Test.YtmhcjafkdmcgoaaDoorGx1
namespace Go.Proofs.YtmhcjafkdmcgoaaDoor
open Go Go.Kr Go.RowKit Go.IntKind Tryd
set_option maxHeartbeats 1000000
variable {w w1 : World} {R : Pool} {iA iB iC iD iE iF iG iH iI iJ iK iL iM iN iO iP iQ iR iS iT iU iV iW iX iY iZ iAa iBa iCa iDa iEa iFa iGa iHa iIa iJa iKa iLa iMa iNa iOa iPa iQa : Int} {qA qB qC : List R25} {rA rB : List R124} {bA bB bC bD bE bF : Bool} {sA sB sC : List R48} {lA lB lC lD lE lF lG lH lI lJ lK lL lM : List Int} {nA nB nC nD nE nF nG nH nI nJ nK nL nM nN nO nP nQ nR : Nat} {pA pB pC pD pE pF pG pH : Option Addr} {xA xB xC : Cs} {tA tB : List R42} {uA : List R104} {vA vB vC vD : List R145} {dA dB : List R160} {eA : List R116} {fA : List R118} {yA yB : ByteArray} {gA : List Bool} {hA : List R9}
set_option linter.unusedVariables false
set_option linter.unusedSimpArgs false
set_option maxRecDepth 100000
def journal_Journal_Append.L1 (d6 : List R25) (d7 : List R124) (d8 : Int) (d9 : Bool) (e0 : List R48) (e1 : List Int) (e2 e3 e4 e5 : Int) (e6 : List Int) (e7 e8 e9 f0 : Int) (f1 : List Int) (ar1 : Int) (a1 : List R104) : Nat → (List R25) → (List R124) → (List R48) → Int → Int → (List Int) → (List Int) → Int → Int → Int → Int → (List Int) → Int → Int → Int → Bool → Int → Int → Prop
 | 0, _, _, _, _, _, _, _, _, _, _, _, _, _, _, _, _, _, _ => False
 | kL1 + 1, b6, b7, b8, b9, c0, c1, c2, c3, c4, c5, c6, c7, c8, c9, d0, d1, d5, a0 => ((a0 < (a1.length : Int) ∧ ((0 ≤ a0 ∧ a0 < (a1.length : Int)) ∧ (∃ a3 a4 a5 a6 a7 a8 a9 b0 b1 b2 b3 b4 b5 d2 d3 d4 a2, journal_Journal_Append_1.rel ((gx a1 (a0.toNat)).1) ((gx a1 (a0.toNat)).2.1) ((gx a1 (a0.toNat)).2.2) b6 b7 d0 d1 b8 c2 c3 c4 c5 c6 c7 c8 c9 b9 c0 c1 a3 a4 a5 a6 a7 a8 a9 b0 b1 b2 b3 b4 b5 d2 d3 d4 a2 ∧ ((a2 ≠ 0 ∧ d6 = a3 ∧ d7 = a4 ∧ d8 = a5 ∧ d9 = a6 ∧ e0 = a7 ∧ e1 = a8 ∧ e2 = a9 ∧ e3 = b0 ∧ e4 = b1 ∧ e5 = b2 ∧ e6 = b3 ∧ e7 = b4 ∧ e8 = b5 ∧ e9 = 0 ∧ f0 = 0 ∧ f1 = z32 ∧ ar1 = a2) ∨ (¬ (a2 ≠ 0) ∧ journal_Journal_Append.L1 d6 d7 d8 d9 e0 e1 e2 e3 e4 e5 e6 e7 e8 e9 f0 f1 ar1 a1 kL1 a3 a4 a7 d2 d3 d4 a8 a9 b0 b1 b2 b3 b4 b5 a5 a6 d5 (i64.wrap (a0 + 1))))))) ∨ (¬ (a0 < (a1.length : Int)) ∧ d6 = b6 ∧ d7 = b7 ∧ d8 = d0 ∧ d9 = d1 ∧ e0 = b8 ∧ e1 = c2 ∧ e2 = c3 ∧ e3 = c4 ∧ e4 = c5 ∧ e5 = c6 ∧ e6 = c7 ∧ e7 = c8 ∧ e8 = c9 ∧ e9 = b9 ∧ f0 = c0 ∧ f1 = c1 ∧ ar1 = 0))
def journal_Journal_Append.rel (d2 : List R25) (d3 : List R124) (d4 : Int) (d5 : Bool) (d6 : List R48) (d7 : List Int) (d8 d9 e0 e1 : Int) (e2 : List Int) (e3 e4 : Int) (l1 : List R42) (b6 : List R25) (b7 : List R124) (b8 : Int) (b9 : Bool) (c0 : List R48) (c1 : List Int) (c2 c3 c4 c5 : Int) (c6 : List Int) (c7 c8 c9 d0 : Int) (d1 : List Int) (ar1 : Int) : Prop := (∃ a2 b4, record_Of.rel l1 a2 b4 ∧ ((b4 ≠ 0 ∧ b6 = d2 ∧ b7 = d3 ∧ b8 = d4 ∧ b9 = d5 ∧ c0 = d6 ∧ c1 = d7 ∧ c2 = d8 ∧ c3 = d9 ∧ c4 = e0 ∧ c5 = e1 ∧ c6 = e2 ∧ c7 = e3 ∧ c8 = e4 ∧ c9 = 0 ∧ d0 = 0 ∧ d1 = z32 ∧ ar1 = b4) ∨ (¬ (b4 ≠ 0) ∧ (∃ a6 a7 a8 a9 b0 b1 b2 b3 a3 a4 a5 a0 a1 b5, journal_Journal_Room.rel d2 d3 d4 d5 d6 d7 d8 d9 e0 e1 e2 e3 e4 a6 a7 a8 a9 b0 b1 b2 b3 a3 a4 a5 a0 a1 b5 ∧ (((u64.wrap (a2.length : Int)) > b5 ∧ b6 = a6 ∧ b7 = a7 ∧ b8 = a8 ∧ b9 = a9 ∧ c0 = b0 ∧ c1 = b1 ∧ c2 = b2 ∧ c3 = b3 ∧ c4 = a3 ∧ c5 = a4 ∧ c6 = a5 ∧ c7 = a0 ∧ c8 = a1 ∧ c9 = 0 ∧ d0 = 0 ∧ d1 = z32 ∧ ar1 = 17) ∨ (¬ ((u64.wrap (a2.length : Int)) > b5) ∧ ((a0 > a1 ∧ b6 = a6 ∧ b7 = a7 ∧ b8 = a8 ∧ b9 = a9 ∧ c0 = b0 ∧ c1 = b1 ∧ c2 = b2 ∧ c3 = b3 ∧ c4 = a3 ∧ c5 = a4 ∧ c6 = a5 ∧ c7 = a0 ∧ c8 = a1 ∧ c9 = 0 ∧ d0 = 0 ∧ d1 = z32 ∧ ar1 = 15) ∨ (¬ (a0 > a1) ∧ (((u64.wrap (a2.length : Int)) > (u64.wrap (a1 - a0)) ∧ b6 = a6 ∧ b7 = a7 ∧ b8 = a8 ∧ b9 = a9 ∧ c0 = b0 ∧ c1 = b1 ∧ c2 = b2 ∧ c3 = b3 ∧ c4 = a3 ∧ c5 = a4 ∧ c6 = a5 ∧ c7 = a0 ∧ c8 = a1 ∧ c9 = 0 ∧ d0 = 0 ∧ d1 = z32 ∧ ar1 = 15) ∨ (¬ ((u64.wrap (a2.length : Int)) > (u64.wrap (a1 - a0))) ∧ (∃ k_ : Nat, journal_Journal_Append.L1 b6 b7 b8 b9 c0 c1 c2 c3 c4 c5 c6 c7 c8 c9 d0 d1 ar1 a2 k_ a6 a7 b0 a3 a4 a5 b1 b2 b3 a3 a4 a5 a0 a1 a8 a9 0 0)))))))))))
theorem journal_Journal_Append.calls (T : Pool) (st0 : St w w1 (oJ nA nB lA iB iC iD iE lB iF iG 98 :: oD nB pA nC nD pB nE nF iA bA pC nG nH 95 :: .sl pA nD nC xA 25 1 :: .sl pB nF nE xB 124 2 :: .sl pC nH nG xC 48 2 :: (T ++ R))) (hG0 : Src w (sp 0) (iv .u32 tab0)) (hG1 : Src w (sp 1) (iv .i64 tab1)) (n1 : nC = qA.length) (u9 : HRs T (f25 w) xA qA) (v0 : nE = rA.length) (v1 : HRs T (f124 w) xB rA) (v2 : nG = sA.length) (v3 : HRs T (f48 w) xC sA) (v4 : lA.length = 32) (v5 : lB.length = 32) (hb1 : HS w (T ++ R) T pD nI nJ (f42 w) tA) (H : journal_Journal_Append.rel qA rA iA bA sA lA iB iC iD iE lB iF iG tA qB rB iH bB sB lC iI iJ iK iL lD iM iN iO iP lE iQ) :
  Calls prog 14 #[.pointer (sp nA), .slice pD nI nJ] w1 fun e w' => ∃ T' v6 b0 v7 v8 v9 c1 w0 w2 w3 l1 w4 w5, Pl T T' ∧ b0 = qB.length ∧ HRs T' (f25 w) v8 qB ∧ c1 = rB.length ∧ HRs T' (f124 w) w2 rB ∧ l1 = sB.length ∧ HRs T' (f48 w) w5 sB ∧ lC.length = 32 ∧ lD.length = 32 ∧ lE.length = 32 ∧ e = .returned (.tuple #[.agg ((cu iO) ++ ((cu iP) ++ iv .u8 lE)).toArray, .int .i64 iQ]) ∧ St w w' (oJ nA nB lC iI iJ iK iL lD iM iN 98 :: oD nB v6 b0 v7 v9 c1 w0 iH bB w3 l1 w4 95 :: .sl v6 v7 b0 v8 25 1 :: .sl v9 w0 c1 w2 124 2 :: .sl w3 w4 l1 w5 48 2 :: (T' ++ R)) := by
 refine CW.en func14 rfl 80 [_, _] (CW.sub [(0, _), (1, _)] ⟨rfl, rfl, trivial⟩ (cr (WL.box st0 rfl rfl ?_)))
 intro a2 u0 q9
 refine WL.alloc q9 zero39 ?_
 intro a3 o2 o3
 refine WL.as rfl (wn (CW.seq (cr (WL.ld 1 nagg34 o3 rfl rfl rfl (WL.v (Runs.eql_ptr underlying34 rfl rfl rfl) (wn (CW.cf rfl rfl (CW.skip (QW.then_n (cr (WL.mv rfl ?_)))))))))))
 have r0 := St.hide (A := []) (B := [_, _, _, _, _, _, _]) o3
 obtain ⟨a0, i0, r1, H⟩ := H
 refine wC ent38 rfl (record_Of.calls T r0 (hb1.mono (memo_TR (B := [_, _, _, _, _, _, _]) ii) ii) r1) ?_
 rintro _ i6 ⟨f7, a5, a4, a6, a8, d7, m3, r2, rfl, r3⟩
 have m4 := St.unhide (A := [_]) (B := [_, _, _, _, _, _, _]) r3; dsimp only [ec, en] at m4
 refine ⟨_, rfl, WL.mv rfl (WL.v (Runs.extract rfl rfl) (WL.v (Runs.extract rfl rfl) (WL.as rfl (WL.as rfl (wn ?_)))))⟩
 refine CW.su [(2, _), (4, _), (5, _), (6, _), (7, _)] ?_
 refine cr (WL.mv rfl ?_)
 refine WL.v (Runs.len_sl underlying100 rfl (by rw [m3])) ?_
 refine WL.v (Runs.conv underlying37 ⟨_, underlying3⟩ rfl rfl) (WL.as rfl (wn (CW.seq (CW.block (cr (WL.mv rfl (WL.v (Runs.neq rfl rfl rfl) (WL.as rfl (wn ?_)))))))))
 rcases H with ⟨m5, H⟩ | ⟨m5, H⟩
 ·have m6 := (bne_iff_ne.mpr m5)
  refine CW.ct rfl m6 (cr (WL.v (Runs.build_struct (ps := [(0, 1), (1, 1), (2, 32)]) (cs := ((cu 0) ++ ((cu 0) ++ iv .u8 (z32)))) plc39 zero39 rfl Fills.nil) (WL.mv rfl (WL.sw 1 m4 row39 rfl rfl rfl ?_))))
  intro r4 i7
  try dsimp only [List.set] at i7
  refine WL.as rfl (wn (CW.ret (QW.blk_r (QW.then_r ?_))))
  obtain ⟨rfl, rfl, rfl, rfl, rfl, rfl, rfl, rfl, rfl, rfl, rfl, rfl, rfl, rfl, rfl, rfl, rfl⟩ := H
  exact QW.retN2 rfl (Res.row rfl row39 i7 (i := 1) rfl (by simp [lv])) (Res.tmp rfl) ⟨f7, pA, nC, nD, xA, pB, nE, nF, xB, pC, nG, nH, xC, d7, n1, (u9.mono d7.1), v0, (v1.mono d7.1), v2, (v3.mono d7.1), v4, v5, (List.length_replicate ..), rfl, (St.pk (L := [_, _, _, _, _, _, _, _]) i7 [3, 4, 5, 6, 7])⟩
 have m6 : (i0 != 0) = false := (bne_eq_false_iff_eq.mpr (Decidable.not_not.mp m5))
 refine CW.cf rfl m6 (cr (WL.mv rfl (WL.ld 2 nagg34 m4 rfl rfl rfl ?_)))
 have m7 := (St.pk (L := [_, _, _, _, _, _, _, _]) m4 [3, 4, 5, 6, 7, 0, 1, 2])
 have r5 := St.hide (A := [_, _, _, _, _]) (B := [_, _, _]) m7
 obtain ⟨o4, o5, g6, g7, o6, d8, d9, e0, b2, b3, b4, a9, b1, i8, r6, H⟩ := H
 refine wC ent16 rfl (journal_Journal_Room.calls f7 r5 (n1) (u9.mono d7.1) (v0) (v1.mono d7.1) (v2) (v3.mono d7.1) v4 v5 r6) ?_
 rintro _ r7 ⟨e4, b6, b7, b8, e8, b9, c0, c2, e9, c3, c4, c5, f0, g8, i9, j0, j1, j2, j3, j4, f1, e1, rfl, r8⟩
 have o7 := St.unhide (A := [_, _, _, _, _]) (B := [_, _, _]) r8; dsimp only [ec, en] at o7
 refine ⟨_, rfl, WL.v (Runs.gtr rfl rfl rfl) (WL.as rfl (wn ?_))⟩
 refine CW.su [(2, _), (4, _), (5, _), (6, _), (8, _), (30, _)] ?_
 rcases H with ⟨m8, H⟩ | ⟨m8, H⟩
 ·have m9 := (decide_eq_true m8)
  refine CW.ct rfl m9 (cr (WL.v (Runs.build_struct (ps := [(0, 1), (1, 1), (2, 32)]) (cs := ((cu 0) ++ ((cu 0) ++ iv .u8 (z32)))) plc39 zero39 rfl Fills.nil) (WL.sw 6 o7 row39 rfl rfl rfl ?_)))
  intro r9 j5
  try dsimp only [List.set] at j5
  refine WL.as rfl (wn (CW.ret (QW.blk_r (QW.then_r ?_))))
  obtain ⟨rfl, rfl, rfl, rfl, rfl, rfl, rfl, rfl, rfl, rfl, rfl, rfl, rfl, rfl, rfl, rfl, rfl⟩ := H
  exact QW.retN2 rfl (Res.row rfl row39 j5 (i := 6) rfl (by simp [lv])) (Res.tmp rfl) ⟨e4, b6, b7, b8, e8, b9, c0, c2, e9, c3, c4, c5, f0, (d7.trans g8), i9, j0, j1, j2, j3, j4, f1, e1, (List.length_replicate ..), rfl, (St.pk (L := [_, _, _, _, _, _, _, _]) j5 [0, 1, 2, 3, 4])⟩
 have m9 := (decide_eq_false m8)
 refine CW.cf rfl m9 (CW.seq ?_)
 refine CW.region_qa wide (by kernel_rfl) o7 ?_
 refine HL.ld 7 nagg34 rfl rfl rfl (HL.p (Runs.nilCheck rfl) (HL.p (Runs.fieldAddr (off := 69) (p := 69) fld98_5 rfl rfl rfl) ?_))
 refine HL.ld 0 nagg37 rfl rfl (pa (.int .u64 a9) ((cp nB) ++ (iv .u8 d8 ++ ((ci d9) ++ ((cu e0) ++ ((cu b2) ++ ((cu b3) ++ iv .u8 b4)))))) (cu b1) (ho := by simp [lv, f1, e1])) ?_
 refine HL.ld 7 nagg34 rfl rfl rfl (HL.p (Runs.nilCheck rfl) (HL.p (Runs.fieldAddr (off := 70) (p := 70) fld98_6 rfl rfl rfl) ?_))
 refine HL.ld 0 nagg37 rfl rfl (pa (.int .u64 b1) ((cp nB) ++ (iv .u8 d8 ++ ((ci d9) ++ ((cu e0) ++ ((cu b2) ++ ((cu b3) ++ (iv .u8 b4 ++ (cu a9)))))))) [] (ho := by simp [lv, f1, e1])) ?_
 refine HL.p (Runs.gtr rfl rfl rfl) (HL.mv rfl ?_)
 rcases H with ⟨n0, H⟩ | ⟨n0, H⟩
 ·have a7 := (decide_eq_true n0)
  iterate 11 (refine HL.off ?_ ?_; exact Wg 46 a7)
  refine HL.p (Runs.pick_t (evb rfl a7) rfl) (HL.as rfl (HL.nil ?_))
  generalize e_ : List.drop 23 _ = z_
  intro u1 s0
  subst e_
  refine wn ?_
  refine CW.su [(2, _), (4, _), (5, _), (6, _), (36, _)] ?_
  refine CW.ct rfl rfl (cr (WL.v (Runs.build_struct (ps := [(0, 1), (1, 1), (2, 32)]) (cs := ((cu 0) ++ ((cu 0) ++ iv .u8 (z32)))) plc39 zero39 rfl Fills.nil) (WL.sw 6 s0 row39 rfl rfl rfl ?_)))
  intro s1 j6
  try dsimp only [List.set] at j6
  refine WL.as rfl (wn (CW.ret (QW.blk_r (QW.then_r ?_))))
  obtain ⟨rfl, rfl, rfl, rfl, rfl, rfl, rfl, rfl, rfl, rfl, rfl, rfl, rfl, rfl, rfl, rfl, rfl⟩ := H
  exact QW.retN2 rfl (Res.row rfl row39 j6 (i := 6) rfl (by simp [lv])) (Res.tmp rfl) ⟨e4, b6, b7, b8, e8, b9, c0, c2, e9, c3, c4, c5, f0, (d7.trans g8), i9, j0, j1, j2, j3, j4, f1, e1, (List.length_replicate ..), rfl, (St.pk (L := [_, _, _, _, _, _, _, _]) j6 [0, 1, 2, 3, 4])⟩
 have a7 := (decide_eq_false n0)
 refine HL.on ?_ ?_; exact Wg 46 a7
 refine HL.mv rfl ?_
 refine HL.on ?_ ?_; exact Wg 46 a7
 refine HL.ld 7 nagg34 rfl rfl rfl ?_
 refine HL.on ?_ ?_; exact Wg 46 a7
 refine HL.p (Runs.nilCheck rfl) ?_
 refine HL.on ?_ ?_; exact Wg 46 a7
 refine HL.p (Runs.fieldAddr (off := 70) (p := 70) fld98_6 rfl rfl rfl) ?_
 refine HL.on ?_ ?_; exact Wg 46 a7
 refine HL.ld 0 nagg37 rfl rfl (pa (.int .u64 b1) ((cp nB) ++ (iv .u8 d8 ++ ((ci d9) ++ ((cu e0) ++ ((cu b2) ++ ((cu b3) ++ (iv .u8 b4 ++ (cu a9)))))))) [] (ho := by simp [lv, f1, e1])) ?_
 refine HL.on ?_ ?_; exact Wg 46 a7
 refine HL.ld 7 nagg34 rfl rfl rfl ?_
 refine HL.on ?_ ?_; exact Wg 46 a7
 refine HL.p (Runs.nilCheck rfl) ?_
 refine HL.on ?_ ?_; exact Wg 46 a7
 refine HL.p (Runs.fieldAddr (off := 69) (p := 69) fld98_5 rfl rfl rfl) ?_
 refine HL.on ?_ ?_; exact Wg 46 a7
 refine HL.ld 0 nagg37 rfl rfl (pa (.int .u64 a9) ((cp nB) ++ (iv .u8 d8 ++ ((ci d9) ++ ((cu e0) ++ ((cu b2) ++ ((cu b3) ++ iv .u8 b4)))))) (cu b1) (ho := by simp [lv, f1, e1])) ?_
 refine HL.on ?_ ?_; exact Wg 46 a7
 refine HL.p (Runs.sub rfl rfl rfl) ?_
 refine HL.on ?_ ?_; exact Wg 46 a7
 refine HL.p (Runs.gtr rfl rfl rfl) (HL.p (Runs.pick_f (evb rfl a7) rfl) (HL.as rfl (HL.nil ?_)))
 generalize e_ : List.drop 23 _ = z_
 intro u2 j7
 subst e_
 refine wn ?_
 refine CW.su [(2, _), (4, _), (5, _), (6, _), (36, _)] ?_
 rcases H with ⟨n2, H⟩ | ⟨n2, H⟩
 ·have n3 := (decide_eq_true n2)
  refine CW.ct rfl n3 (cr (WL.v (Runs.build_struct (ps := [(0, 1), (1, 1), (2, 32)]) (cs := ((cu 0) ++ ((cu 0) ++ iv .u8 (z32)))) plc39 zero39 rfl Fills.nil) (WL.sw 6 j7 row39 rfl rfl rfl ?_)))
  intro s2 j8
  try dsimp only [List.set] at j8
  refine WL.as rfl (wn (CW.ret (QW.blk_r (QW.then_r ?_))))
  obtain ⟨rfl, rfl, rfl, rfl, rfl, rfl, rfl, rfl, rfl, rfl, rfl, rfl, rfl, rfl, rfl, rfl, rfl⟩ := H
  exact QW.retN2 rfl (Res.row rfl row39 j8 (i := 6) rfl (by simp [lv])) (Res.tmp rfl) ⟨e4, b6, b7, b8, e8, b9, c0, c2, e9, c3, c4, c5, f0, (d7.trans g8), i9, j0, j1, j2, j3, j4, f1, e1, (List.length_replicate ..), rfl, (St.pk (L := [_, _, _, _, _, _, _, _]) j8 [0, 1, 2, 3, 4])⟩
 have n3 := (decide_eq_false n2)
 refine CW.cf rfl n3 (CW.skip (QW.blk_n (QW.then_n (cr (WL.ld 7 nagg34 j7 rfl rfl rfl (WL.v (Runs.nilCheck rfl) (WL.v (Runs.fieldAddr (off := 35) (p := 35) fld98_4 rfl rfl rfl) ?_)))))))
 refine WL.v (Runs.load_mid row39 rfl j7 (i := 0) rfl (pm ((cp nB) ++ (iv .u8 d8 ++ ((ci d9) ++ (cu e0)))) ((cu b2) ++ ((cu b3) ++ iv .u8 b4)) ((cu a9) ++ (cu b1)) (ho := by simp [lv, f1]) (hm := by simp [lv, e1])) (by simp [lv, e1])) ?_
 refine WL.alloc j7 zero39 ?_
 intro b5 u3 s3
 refine WL.sw 0 s3 row39 rfl rfl rfl (hm := by simp [lv, e1]) ?_
 intro s4 n4
 try dsimp only [List.set] at n4
 refine WL.nx (WL.v (Runs.makeFunc rfl) (WL.as rfl (wn ?_)))
 refine CW.su [(4, _), (5, _), (6, _), (9, _), (10, _)] ?_
 refine CW.seq (cr (WL.mv rfl ?_))
 refine WL.v (Runs.len_sl underlying100 rfl (by rw [m3])) ?_
 refine WL.mv rfl (wn (CW.block ?_))
 obtain ⟨s5, H⟩ := H
 refine CW.su [(4, _), (5, _), (9, _), (10, _), (65, _), (66, _), (67, _)] ?_
 refine CW.lp (fun kL1 l_ w_ => ∃ c9 d0 d1 c6 f2 i1 d2 d3 c7 f3 i2 d4 d5 c8 f4 i3 e2 e3 d6 f5 f8 f9 g0 g1 f6 g2 g3 g4 g5 j9 a1, l_ = [(4, .pointer (sp a3)), (5, .int .i64 j9), (9, .pointer (sp b5)), (10, .func (.func 39) #[] #[.pointer (sp a2), .pointer (sp b5)]), (65, .slice a5 a4 a6), (66, .int .i64 (a0.length : Int)), (67, .int .i64 a1)] ∧ journal_Journal_Append.L1 qB rB iH bB sB lC iI iJ iK iL lD iM iN iO iP lE iQ a0 kL1 i1 i2 i3 e2 e3 d6 f5 f8 f9 g0 g1 f6 g2 g3 g4 g5 j9 a1 ∧ (Pl e4 c9) ∧ (c6 = i1.length) ∧ (HRs c9 (f25 w) f2 i1) ∧ (c7 = i2.length) ∧ (HRs c9 (f124 w) f3 i2) ∧ (c8 = i3.length) ∧ (HRs c9 (f48 w) f4 i3) ∧ (d6.length = 32) ∧ (f5.length = 32) ∧ (f6.length = 32) ∧ St w w_ (oS b5 e2 e3 d6 39 :: oJ nA nB f5 f8 f9 g0 g1 f6 g2 g3 98 :: oD nB d0 c6 d1 d2 c7 d3 g4 g5 d4 c8 d5 95 :: .sl d0 d1 c6 f2 25 1 :: .sl d2 d3 c7 f3 124 2 :: .sl d4 d5 c8 f4 48 2 :: .sl a5 a6 a4 a8 104 3 :: oS a3 0 0 (z32) 39 :: .cells a2 [.pointer (sp nA)] 34 :: (c9 ++ R))) (k := s5) ⟨e4, b6, b8, b7, e8, o4, b9, c2, c0, e9, o5, c3, c5, c4, f0, o6, b2, b3, b4, d8, d9, e0, b2, b3, b4, a9, b1, g6, g7, 0, 0, rfl, H, Pl.refl, i9, j0, j1, j2, j3, j4, e1, f1, e1, n4⟩ ?_
 rintro kL1 u4 u5 ⟨c9, d0, d1, c6, f2, i1, d2, d3, c7, f3, i2, d4, d5, c8, f4, i3, e2, e3, d6, f5, f8, f9, g0, g1, f6, g2, g3, g4, g5, j9, a1, rfl, H, k0, o8, o9, p0, p1, p2, p3, g9, p4, p5, i4⟩
 refine cr (WL.v (Runs.lss rfl rfl rfl) (wn (CW.seq ?_)))
 rcases H with ⟨n5, H⟩ | ⟨n5, H⟩
 ·have n6 := (decide_eq_true n5)
  refine CW.ct rfl n6 (CW.skip (QW.then_n (CW.seq (CW.block (cr ?_)))))
  obtain ⟨⟨s6, s7⟩, H⟩ := H
  obtain ⟨u6, p6, s8, s9, t0⟩ := el_get (i := (a1).toNat) (i4.src_sl (k := 6) rfl) (r2.mono (g8.trans k0).1) (fz104 w) (by decide) (by omega)
  obtain ⟨e5, e6, e7, n7, t1⟩ := inv104 t0
  replace n7 : s8 = (cu ((gx a0 (a1.toNat)).1)) ++ ((cl e5 e6 e7) ++ (cb ((gx a0 (a1.toNat)).2.2))) := n7
  subst n7
  refine WL.v (Runs.indexAddr underlying100 cells104 (by decide) rfl p6 rfl s6 (by rw [show a4 = a0.length from m3]; exact s7) (o := (a1.toNat) * 3) (by first | rfl | omega)) ?_
  refine WL.v (Runs.load_srcR row104 rfl (Src.cut (i4.src_sl (k := 6) rfl) p6 s9) rfl) (WL.alloc i4 zero104 ?_)
  intro h0 u7 t2
  refine WL.sw 0 t2 row104 rfl rfl rfl ?_
  intro k1 k2
  try dsimp only [List.set] at k2
  refine WL.nx (WL.mv rfl (WL.v (Runs.load_mid row104 rfl k2 (i := 0) rfl (pm [] ((cu ((gx a0 (a1.toNat)).1)) ++ ((cl e5 e6 e7) ++ (cb ((gx a0 (a1.toNat)).2.2)))) []) rfl) ?_))
  have n8 := (St.pk (L := [_, _, _, _, _, _, _, _, _, _]) k2 [2, 3, 4, 5, 6, 1, 0, 7, 8, 9])
  have t3 := St.hide (A := [_, _, _, _, _, _]) (B := [_, _, _, _]) n8
  obtain ⟨p7, p8, k3, k4, p9, k5, k6, k7, k8, k9, l0, l2, l3, l4, l5, l6, n9, t4, H⟩ := H
  refine WL.callv Wanted.none ent39 rfl rfl (journal_Journal_Append_1.calls c9 t3 hG0 hG1 t1 (o8) o9 (p0) p1 (p2) p3 p4 p5 (fun W_ L_ st hT => st.cell_mem (hT _ (List.mem_append_right _ (List.mem_of_getElem? (i := 3) rfl))) rfl) g9 t4) ?_
  rintro _ t5 ⟨i5, h1, h2, h3, l7, h4, h5, h6, l8, h7, h8, h9, l9, q0, q1, q2, q3, q4, q5, q6, q7, q8, t6, rfl, t7⟩
  have m0 := St.unhide (A := [_, _, _, _, _, _]) (B := [_, _, _, _]) t7; dsimp only [ec, en] at m0
  refine ⟨_, rfl, WL.as rfl (WL.nx (WL.mv rfl (WL.v (Runs.neq rfl rfl rfl) (wn ?_))))⟩
  rcases H with ⟨o0, H⟩ | ⟨o0, H⟩
  ·have o1 := (bne_iff_ne.mpr o0)
   refine CW.ct rfl o1 (cr (WL.v (Runs.build_struct (ps := [(0, 1), (1, 1), (2, 32)]) (cs := ((cu 0) ++ ((cu 0) ++ iv .u8 (z32)))) plc39 zero39 rfl Fills.nil) (WL.mv rfl (WL.sw 8 m0 row39 rfl rfl rfl ?_))))
   intro t8 m1
   try dsimp only [List.set] at m1
   refine WL.as rfl (wn (CW.ret (QW.blk_r (QW.then_r (QW.then_r (QW.blk_r (QW.then_r ?_)))))))
   obtain ⟨rfl, rfl, rfl, rfl, rfl, rfl, rfl, rfl, rfl, rfl, rfl, rfl, rfl, rfl, rfl, rfl, rfl⟩ := H
   exact QW.retN2 rfl (Res.row rfl row39 m1 (i := 8) rfl (by simp [lv])) (Res.tmp rfl) ⟨i5, h1, h2, h3, l7, h4, h5, h6, l8, h7, h8, h9, l9, (((d7.trans g8).trans k0).trans q0), q1, q2, q3, q4, q5, q6, q7, q8, (List.length_replicate ..), rfl, (St.pk (L := [_, _, _, _, _, _, _, _, _, _]) m1 [0, 1, 2, 3, 4])⟩
  have o1 : (n9 != 0) = false := (bne_eq_false_iff_eq.mpr (Decidable.not_not.mp o0))
  refine CW.cf rfl o1 (CW.skip (QW.blk_n (QW.then_n (CW.region (WL.v (Runs.add rfl rfl rfl) (WL.mv rfl (WL.nil ?_)))))))
  have m0' := (St.pk (L := [_, _, _, _, _, _, _, _, _, _]) m0 [5, 0, 1, 2, 3, 4, 7, 8, 9])
  exact QW.a ⟨i5, h1, h3, h2, l7, p7, h4, h6, h5, l8, p8, h7, h9, h8, l9, p9, l4, l5, l6, k5, k6, k7, k8, k9, l0, l2, l3, k3, k4, j9, i64.wrap (a1 + 1), rfl, H, (k0.trans q0), q1, q2, q3, q4, q5, q6, t6, q7, q8, m0'⟩
 have n6 := (decide_eq_false n5)
 refine CW.cf rfl n6 (CW.exit (QW.then_x (QW.then_x (QW.blk_x (QW.then_n (cr ?_))))))
 refine WL.v (Runs.load_mid row39 rfl i4 (i := 0) rfl (pm [] ((cu e2) ++ ((cu e3) ++ iv .u8 d6)) [] (hm := by simp [lv, g9])) (by simp [lv, g9])) ?_
 refine WL.sw 7 i4 row39 rfl rfl rfl (hm := by simp [lv, g9]) ?_
 intro t9 m2
 try dsimp only [List.set] at m2
 refine WL.as rfl (wn (CW.ret ?_))
 obtain ⟨rfl, rfl, rfl, rfl, rfl, rfl, rfl, rfl, rfl, rfl, rfl, rfl, rfl, rfl, rfl, rfl, rfl⟩ := H
 exact QW.retN2 rfl (Res.row rfl row39 m2 (i := 7) rfl (by simp [lv, g9])) (Res.tmp rfl) ⟨c9, d0, c6, d1, f2, d2, c7, d3, f3, d4, c8, d5, f4, ((d7.trans g8).trans k0), o8, o9, p0, p1, p2, p3, p4, p5, g9, rfl, (St.pk (L := [_, _, _, _, _, _, _, _, _]) m2 [1, 2, 3, 4, 5])⟩
def journal_Journal_Adopt.rel (a3 : List R25) (a4 : List R124) (a5 : Int) (a6 : Bool) (a7 : List R48) (a8 : List Int) (a9 a1 c7 c8 : Int) (c9 : List Int) (b0 d0 b1 b2 : Int) (b3 : List Int) (a2 : Int) (b4 : List R25) (b5 : List R124) (b6 : Int) (b7 : Bool) (b8 : List R48) (b9 : List Int) (c0 c1 c2 c3 : Int) (c4 : List Int) (c5 c6 : Int) : Prop := (∃ a0, journal_may.rel b1 b2 b3 a1 a0 ∧ ((a0 = true ∧ b4 = a3 ∧ b5 = a4 ∧ b6 = a5 ∧ b7 = a6 ∧ b8 = a7 ∧ b9 = a8 ∧ c0 = a9 ∧ c1 = a1 ∧ c2 = b1 ∧ c3 = b2 ∧ c4 = b3 ∧ c5 = b0 ∧ c6 = minI a2 9223372036854775807) ∨ (¬ (a0 = true) ∧ b4 = a3 ∧ b5 = a4 ∧ b6 = a5 ∧ b7 = a6 ∧ b8 = a7 ∧ b9 = a8 ∧ c0 = a9 ∧ c1 = a1 ∧ c2 = c7 ∧ c3 = c8 ∧ c4 = c9 ∧ c5 = b0 ∧ c6 = d0)))
theorem journal_Journal_Adopt.calls (T : Pool) (st0 : St w w1 (oJ nA nB lA iB iC iD iE lB iF iG 98 :: oD nB pA nC nD pB nE nF iA bA pC nG nH 95 :: .sl pA nD nC xA 25 1 :: .sl pB nF nE xB 124 2 :: .sl pC nH nG xC 48 2 :: (T ++ R))) (b8 : nC = qA.length) (b9 : HRs T (f25 w) xA qA) (c0 : nE = rA.length) (c1 : HRs T (f124 w) xB rA) (c2 : nG = sA.length) (c3 : HRs T (f48 w) xC sA) (b0 : lA.length = 32) (c4 : lB.length = 32) (a2 : lC.length = 32) (H : journal_Journal_Adopt.rel qA rA iA bA sA lA iB iC iD iE lB iF iG iH iI lC iJ qB rB iK bB sB lD iL iM iN iO lE iP iQ) :
  Calls prog 15 #[.pointer (sp nA), .agg ((cu iH) ++ ((cu iI) ++ iv .u8 lC)).toArray, .int .u64 iJ] w1 fun e w' => ∃ T' c5 b5 c6 c7 c8 b6 c9 d0 d1 b7 d2 d3, Pl T T' ∧ b5 = qB.length ∧ HRs T' (f25 w) c7 qB ∧ b6 = rB.length ∧ HRs T' (f124 w) d0 rB ∧ b7 = sB.length ∧ HRs T' (f48 w) d3 sB ∧ lD.length = 32 ∧ lE.length = 32 ∧ e = .returned (.tuple #[]) ∧ St w w' (oJ nA nB lD iL iM iN iO lE iP iQ 98 :: oD nB c5 b5 c6 c8 b6 c9 iK bB d1 b7 d2 95 :: .sl c5 c6 b5 c7 25 1 :: .sl c8 c9 b6 d0 124 2 :: .sl d1 d2 b7 d3 48 2 :: (T' ++ R)) := by
 refine CW.en func15 rfl 25 [_, _, _] (CW.sub [(0, _), (1, _), (2, _)] ⟨rfl, rfl, rfl, trivial⟩ (cr (WL.box st0 rfl rfl ?_)))
 intro a1 b3 a8
 refine wn (CW.seq ?_)
 refine CW.region_qa wide (by kernel_rfl) a8 ?_
 refine HL.mv rfl (HL.p (Runs.neq_ptr underlying34 rfl rfl rfl) (HL.mv rfl ?_))
 refine HL.on ?_ ?_; exact Wg 8 rfl
 refine HL.v (fun wq sq => (Runs.load_mid row39 rfl sq (i := 0) rfl (pm [] ((cu iH) ++ ((cu iI) ++ iv .u8 lC)) [] (hm := by simp [lv, a2])) (by simp [lv, a2]))) ?_
 refine HL.on ?_ ?_; exact Wg 8 rfl
 refine HL.mv rfl ?_
 refine HL.on ?_ ?_; exact Wg 8 rfl
 refine HL.p (Runs.nilCheck rfl) ?_
 refine HL.on ?_ ?_; exact Wg 8 rfl
 refine HL.p (Runs.fieldAddr (off := 34) (p := 34) fld98_3 rfl rfl rfl) ?_
 refine HL.on ?_ ?_; exact Wg 8 rfl
 refine HL.ld 1 nagg37 rfl rfl (pa (.int .u64 iC) ((cp nB) ++ (iv .u8 lA ++ (ci iB))) ((cu iD) ++ ((cu iE) ++ (iv .u8 lB ++ ((cu iF) ++ (cu iG))))) (ho := by simp [lv, b0])) ?_
 refine HL.on ?_ ?_; exact Wg 8 rfl
 obtain ⟨a0, a9, H⟩ := H
 refine HL.call Wanted.none ent36 rfl (fun wq sq => (journal_may.calls a2 a9).mono (by rintro _ _ ⟨rfl, sc⟩; exact ⟨rfl, sq.call sc⟩)) ?_
 refine HL.p (Runs.pick_t rfl rfl) ?_
 refine HL.nil (fun b4 a3 => ?_)
 refine wn (CW.sub [(0, _), (2, _), (4, _), (15, _)] ⟨rfl, rfl, rfl, rfl, trivial⟩ ?_)
 rcases H with ⟨a4, H⟩ | ⟨a4, H⟩
 ·have a5 : a0 = true := a4
  refine CW.ct rfl a5 (CW.region (WL.mv rfl (WL.mv rfl ?_)))
  refine WL.v (Runs.load_mid row39 rfl a3 (i := 0) rfl (pm [] ((cu iH) ++ ((cu iI) ++ iv .u8 lC)) [] (hm := by simp [lv, a2])) (by simp [lv, a2])) ?_
  refine WL.mv rfl (WL.v (Runs.min2 rfl rfl rfl) (WL.v (Runs.nilCheck rfl) (WL.v (Runs.fieldAddr (off := 35) (p := 35) fld98_4 rfl rfl rfl) ?_)))
  refine WL.sm (new := ((cp nB) ++ (iv .u8 lA ++ ((ci iB) ++ ((cu iC) ++ ((cu iH) ++ ((cu iI) ++ (iv .u8 lC ++ ((cu iF) ++ (cu iG)))))))))) (i := 1) (pre := ((cp nB) ++ (iv .u8 lA ++ ((ci iB) ++ (cu iC))))) (mid := ((cu iD) ++ ((cu iE) ++ iv .u8 lB))) (post := ((cu iF) ++ (cu iG))) (ms := ((cu iH) ++ ((cu iI) ++ iv .u8 lC))) a3 rfl row39 (by first | rfl | simp only [aa, an, na, ca]) (by simp [lv, b0]) rfl rfl (by simp [lv, a2]) (by simp [lv, c4]) (one_cat oneU (one_cat oneU (one_iv _ _))) (by first | rfl | simp only [aa, an, na, ca]) ?_
  intro b1 a6
  try dsimp only [List.set] at a6
  refine WL.v (Runs.nilCheck rfl) (WL.v (Runs.fieldAddr (off := 70) (p := 70) fld98_6 rfl rfl rfl) ?_)
  refine WL.so (new := ((cp nB) ++ (iv .u8 lA ++ ((ci iB) ++ ((cu iC) ++ ((cu iH) ++ ((cu iI) ++ (iv .u8 lC ++ ((cu iF) ++ (cu (minI iJ 9223372036854775807))))))))))) (i := 1) (u0 := .int .u64 iG) (pre := ((cp nB) ++ (iv .u8 lA ++ ((ci iB) ++ ((cu iC) ++ ((cu iH) ++ ((cu iI) ++ (iv .u8 lC ++ (cu iF))))))))) (post := (([] : Cs))) a6 rfl cells37 (by first | rfl | simp only [aa, an, na, ca]) (by simp [lv, b0, a2]) rfl rfl rfl (by first | rfl | simp only [aa, an, na, ca]) ?_
  intro b2 a7
  try dsimp only [List.set] at a7
  refine WL.nil ?_
  obtain ⟨rfl, rfl, rfl, rfl, rfl, rfl, rfl, rfl, rfl, rfl, rfl, rfl, rfl⟩ := H
  exact QW.end0 rfl ⟨T, pA, nC, nD, xA, pB, nE, nF, xB, pC, nG, nH, xC, Pl.refl, b8, b9, c0, c1, c2, c3, b0, a2, rfl, (St.pk (L := [_, _, _, _, _, _]) a7 [1, 2, 3, 4, 5])⟩
 have a5 : a0 = false := (Bool.eq_false_iff.mpr a4)
 refine CW.cf rfl a5 (CW.skip ?_)
 obtain ⟨rfl, rfl, rfl, rfl, rfl, rfl, rfl, rfl, rfl, rfl, rfl, rfl, rfl⟩ := H
 exact QW.end0 rfl ⟨T, pA, nC, nD, xA, pB, nE, nF, xB, pC, nG, nH, xC, Pl.refl, b8, b9, c0, c1, c2, c3, b0, c4, rfl, (St.pk (L := [_, _, _, _, _, _]) a3 [1, 2, 3, 4, 5])⟩
def journal_Journal_State.rel (a4 : List R25) (a5 : List R124) (a6 : Int) (a7 : Bool) (a8 : List R48) (a9 : List Int) (b0 b1 a0 a1 : Int) (a2 : List Int) (a3 b2 : Int) (b3 : List R25) (b4 : List R124) (b5 : Int) (b6 : Bool) (b7 : List R48) (b8 : List Int) (b9 c0 c1 c2 : Int) (c3 : List Int) (c4 c5 c6 c7 : Int) (c8 : List Int) (ar1 : Int) : Prop := b3 = a4 ∧ b4 = a5 ∧ b5 = a6 ∧ b6 = a7 ∧ b7 = a8 ∧ b8 = a9 ∧ b9 = b0 ∧ c0 = b1 ∧ c1 = a0 ∧ c2 = a1 ∧ c3 = a2 ∧ c4 = a3 ∧ c5 = b2 ∧ c6 = a0 ∧ c7 = a1 ∧ c8 = a2 ∧ ar1 = a3
theorem journal_Journal_State.calls (T : Pool) (st0 : St w w1 (oJ nA nB lA iB iC iD iE lB iF iG 98 :: oD nB pA nC nD pB nE nF iA bA pC nG nH 95 :: .sl pA nD nC xA 25 1 :: .sl pB nF nE xB 124 2 :: .sl pC nH nG xC 48 2 :: (T ++ R))) (c2 : nC = qA.length) (c3 : HRs T (f25 w) xA qA) (c4 : nE = rA.length) (c5 : HRs T (f124 w) xB rA) (c6 : nG = sA.length) (c7 : HRs T (f48 w) xC sA) (a9 : lA.length = 32) (a8 : lB.length = 32) (H : journal_Journal_State.rel qA rA iA bA sA lA iB iC iD iE lB iF iG qB rB iH bB sB lC iI iJ iK iL lD iM iN iO iP lE iQ) :
  Calls prog 25 #[.pointer (sp nA)] w1 fun e w' => ∃ T' b3 b0 b4 b5 b6 b1 b7 b8 b9 b2 c0 c1, Pl T T' ∧ b0 = qB.length ∧ HRs T' (f25 w) b5 qB ∧ b1 = rB.length ∧ HRs T' (f124 w) b8 rB ∧ b2 = sB.length ∧ HRs T' (f48 w) c1 sB ∧ lC.length = 32 ∧ lD.length = 32 ∧ lE.length = 32 ∧ e = .returned (.tuple #[.agg ((cu iO) ++ ((cu iP) ++ iv .u8 lE)).toArray, .int .u64 iQ]) ∧ St w w' (oJ nA nB lC iI iJ iK iL lD iM iN 98 :: oD nB b3 b0 b4 b6 b1 b7 iH bB b9 b2 c0 95 :: .sl b3 b4 b0 b5 25 1 :: .sl b6 b7 b1 b8 124 2 :: .sl b9 c0 b2 c1 48 2 :: (T' ++ R)) := by
 refine CW.en func25 rfl 15 [_] (CW.sub [(0, _)] ⟨rfl, trivial⟩ (cr (WL.alloc st0 zero39 ?_)))
 intro a3 a7 a4
 refine WL.as rfl (wn (CW.seq (cr (WL.mv rfl (WL.v (Runs.eql_ptr underlying34 rfl rfl rfl) (wn (CW.cf rfl rfl (CW.skip (QW.then_n (CW.seq ?_))))))))))
 refine CW.region_awh (C := fun w_ => St w w_ (oJ nA nB lA iB iC iD iE lB iF iG 98 :: oD nB pA nC nD pB nE nF iA bA pC nG nH 95 :: .sl pA nD nC xA 25 1 :: .sl pB nF nE xB 124 2 :: .sl pC nH nG xC 48 2 :: (T ++ R))) 9 wide (by kernel_rfl) a4 (fun a5 a0 => ?_)
 have a1 : St w a5 (oJ nA nB lA iB iC iD iE lB iF iG 98 :: oD nB pA nC nD pB nE nF iA bA pC nG nH 95 :: .sl pA nD nC xA 25 1 :: .sl pB nF nE xB 124 2 :: .sl pC nH nG xC 48 2 :: (T ++ R)) := (St.pk (L := [_, _, _, _, _, _]) a0 [1, 2, 3, 4, 5])
 refine AWH.kn (St.subset a1 a0 (mcD 1 2 3 4 (mc 5 rfl (mem_TR (A := [_, _, _, _, _, _]) ii)))) fun zC1 => ?_
 refine AWH.tk 0 rfl zC1 (fun wq sq => (Runs.move rfl)) ?_
 refine AWH.tk 1 rfl zC1 (fun wq sq => (Runs.nilCheck rfl)) ?_
 refine AWH.tk 2 rfl zC1 (fun wq sq => (Runs.fieldAddr (off := 35) (p := 35) fld98_4 rfl rfl rfl)) ?_
 refine AWH.tk 3 rfl zC1 (fun wq sq => (Runs.load_mid row39 rfl sq (i := 0) rfl (pm ((cp nB) ++ (iv .u8 lA ++ ((ci iB) ++ (cu iC)))) ((cu iD) ++ ((cu iE) ++ iv .u8 lB)) ((cu iF) ++ (cu iG)) (ho := by simp [lv, a9]) (hm := by simp [lv, a8])) (by simp [lv, a8]))) ?_
 refine AWH.tk 4 rfl zC1 (fun wq sq => (Runs.move rfl)) ?_
 refine AWH.tk 5 rfl zC1 (fun wq sq => (Runs.nilCheck rfl)) ?_
 refine AWH.tk 6 rfl zC1 (fun wq sq => (Runs.fieldAddr (off := 69) (p := 69) fld98_5 rfl rfl rfl)) ?_
 refine AWH.tk 7 rfl zC1 (fun wq sq => (Runs.load nagg37 rfl (sq.cell (k := 0) rfl (pa (.int .u64 iF) ((cp nB) ++ (iv .u8 lA ++ ((ci iB) ++ ((cu iC) ++ ((cu iD) ++ ((cu iE) ++ iv .u8 lB)))))) (cu iG) (ho := by simp [lv, a9, a8]))))) ?_
 refine AWH.step 8 rfl (by decide) (by kernel_rfl) (fun inv_ hs_ hk_ hc_ hn_ => ?_)
 refine WL.sw 0 a0 row39 rfl rfl rfl (hm := by simp [lv, a8]) ?_
 intro a6 a2
 try dsimp only [List.set] at a2
 refine WL.nil ?_
 refine AWH.back (St.subset a1 a2 (mcD 1 2 3 4 (mc 5 rfl (mem_TR (A := [_, _, _, _, _, _]) ii)))) inv_ hs_ hk_ hc_ hn_ ?_
 refine AWH.tail (by kernel_rfl) ?_
 refine AW.tk 9 rfl (fun _ => (Runs.assign rfl)) ?_
 refine AW.done (by kernel_rfl) ?_
 refine QW.then_n (CW.ret ?_)
 obtain ⟨rfl, rfl, rfl, rfl, rfl, rfl, rfl, rfl, rfl, rfl, rfl, rfl, rfl, rfl, rfl, rfl, rfl⟩ := H
 exact QW.retN2 rfl (Res.row rfl row39 a2 (i := 0) rfl (by simp [lv, a8])) (Res.tmp rfl) ⟨T, pA, nC, nD, xA, pB, nE, nF, xB, pC, nG, nH, xC, Pl.refl, c2, c3, c4, c5, c6, c7, a9, a8, a8, rfl, (St.pk (L := [_, _, _, _, _, _]) a2 [1, 2, 3, 4, 5])⟩
def journal_Journal_Empty.rel (a3 : List R25) (a4 : List R124) (a5 : Int) (a6 : Bool) (a7 : List R48) (a8 : List Int) (a9 a0 a1 a2 : Int) (b0 : List Int) (b1 b2 : Int) (b3 : List R25) (b4 : List R124) (b5 : Int) (b6 : Bool) (b7 : List R48) (b8 : List Int) (b9 c0 c1 c2 : Int) (c3 : List Int) (c4 c5 c6 c7 : Int) (c8 : List Int) : Prop := (a0 ≠ 0 ∧ b3 = a3 ∧ b4 = a4 ∧ b5 = a5 ∧ b6 = a6 ∧ b7 = a7 ∧ b8 = a8 ∧ b9 = a9 ∧ c0 = a0 ∧ c1 = a1 ∧ c2 = a2 ∧ c3 = b0 ∧ c4 = b1 ∧ c5 = b2 ∧ c6 = Int.tmod (u64.wrap (a1 + a2)) a0 ∧ c7 = 0 ∧ c8 = z32)
theorem journal_Journal_Empty.calls (T : Pool) (st0 : St w w1 (oJ nA nB lA iB iC iD iE lB iF iG 98 :: oD nB pA nC nD pB nE nF iA bA pC nG nH 95 :: .sl pA nD nC xA 25 1 :: .sl pB nF nE xB 124 2 :: .sl pC nH nG xC 48 2 :: (T ++ R))) (c1 : nC = qA.length) (c2 : HRs T (f25 w) xA qA) (c3 : nE = rA.length) (c4 : HRs T (f124 w) xB rA) (c5 : nG = sA.length) (c6 : HRs T (f48 w) xC sA) (a8 : lA.length = 32) (c7 : lB.length = 32) (H : journal_Journal_Empty.rel qA rA iA bA sA lA iB iC iD iE lB iF iG qB rB iH bB sB lC iI iJ iK iL lD iM iN iO iP lE) :
  Calls prog 17 #[.pointer (sp nA)] w1 fun e w' => ∃ T' b2 a9 b3 b4 b5 b0 b6 b7 b8 b1 b9 c0, Pl T T' ∧ a9 = qB.length ∧ HRs T' (f25 w) b4 qB ∧ b0 = rB.length ∧ HRs T' (f124 w) b7 rB ∧ b1 = sB.length ∧ HRs T' (f48 w) c0 sB ∧ lC.length = 32 ∧ lD.length = 32 ∧ lE.length = 32 ∧ e = .returned (.agg ((cu iO) ++ ((cu iP) ++ iv .u8 lE)).toArray) ∧ St w w' (oJ nA nB lC iI iJ iK iL lD iM iN 98 :: oD nB b2 a9 b3 b5 b0 b6 iH bB b8 b1 b9 95 :: .sl b2 b3 a9 b4 25 1 :: .sl b5 b6 b0 b7 124 2 :: .sl b8 b9 b1 c0 48 2 :: (T' ++ R)) := by
 refine CW.en func17 rfl 23 [_] (CW.sub [(0, _)] ⟨rfl, trivial⟩ (cr (WL.alloc st0 zero39 ?_)))
 intro a1 a6 a2
 refine wn (CW.seq (cr (WL.mv rfl (WL.v (Runs.eql_ptr underlying34 rfl rfl rfl) (wn (CW.cf rfl rfl (CW.skip (QW.then_n (CW.seq ?_)))))))))
 refine CW.region_qt 17 wide (by kernel_rfl) a2 ?_
 refine HL.mv rfl (HL.p (Runs.nilCheck rfl) (HL.p (Runs.fieldAddr (off := 35) (p := 35) fld98_4 rfl rfl rfl) (HL.p (Runs.fieldAddr (off := 0) (p := 35) fld39_0 rfl rfl rfl) ?_)))
 refine HL.ld 1 nagg37 rfl rfl (pa (.int .u64 iD) ((cp nB) ++ (iv .u8 lA ++ ((ci iB) ++ (cu iC)))) ((cu iE) ++ (iv .u8 lB ++ ((cu iF) ++ (cu iG)))) (ho := by simp [lv, a8])) ?_
 refine HL.mv rfl (HL.p (Runs.nilCheck rfl) (HL.p (Runs.fieldAddr (off := 35) (p := 35) fld98_4 rfl rfl rfl) (HL.p (Runs.fieldAddr (off := 1) (p := 36) fld39_1 rfl rfl rfl) ?_)))
 refine HL.ld 1 nagg37 rfl rfl (pa (.int .u64 iE) ((cp nB) ++ (iv .u8 lA ++ ((ci iB) ++ ((cu iC) ++ (cu iD))))) (iv .u8 lB ++ ((cu iF) ++ (cu iG))) (ho := by simp [lv, a8])) ?_
 refine HL.p (Runs.add rfl rfl rfl) (HL.mv rfl (HL.p (Runs.nilCheck rfl) (HL.p (Runs.fieldAddr (off := 34) (p := 34) fld98_3 rfl rfl rfl) ?_)))
 refine HL.ld 1 nagg37 rfl rfl (pa (.int .u64 iC) ((cp nB) ++ (iv .u8 lA ++ (ci iB))) ((cu iD) ++ ((cu iE) ++ (iv .u8 lB ++ ((cu iF) ++ (cu iG))))) (ho := by simp [lv, a8])) ?_
 obtain ⟨a3, H⟩ := H
 refine HL.p (Runs.rem rfl rfl a3 rfl) ?_
 refine HL.p (Runs.build_struct (ps := [(0, 1), (1, 1), (2, 32)]) (cs := ((cu (Int.tmod (u64.wrap (iD + iE)) iC)) ++ ((cu 0) ++ iv .u8 (z32)))) plc39 zero39 rfl (by refine Fills.cons (o := 0) (ms := ((cu (Int.tmod (u64.wrap (iD + iE)) iC)))) (show _ = some (0, ((cu (Int.tmod (u64.wrap (iD + iE)) iC))).length) by rw [show ((cu (Int.tmod (u64.wrap (iD + iE)) iC))).length = 1 from rfl] <;> rfl) rfl (leL (m := 1) (n := 34) rfl (by simp [lv])) ?_; rw [show layV ((cu 0) ++ ((cu 0) ++ iv .u8 (z32))) 0 ((cu (Int.tmod (u64.wrap (iD + iE)) iC))) = ((cu (Int.tmod (u64.wrap (iD + iE)) iC)) ++ ((cu 0) ++ iv .u8 (z32))) from (layV_mid (pre := (([] : Cs))) (mid := ((cu 0))) (post := ((cu 0) ++ iv .u8 (z32))) (by first | rfl | simp only [aa, an, na, ca]) rfl (Eq.trans (b := 1) rfl (Eq.symm rfl))).trans (by first | rfl | simp only [aa, an, na, ca])]; exact Fills.nil)) ?_
 refine HL.nil (fun a7 a4 => ?_)
 refine WL.sw 0 a4 row39 rfl rfl rfl ?_
 intro a5 a0
 try dsimp only [List.set] at a0
 refine wn (CW.ret ?_)
 obtain ⟨rfl, rfl, rfl, rfl, rfl, rfl, rfl, rfl, rfl, rfl, rfl, rfl, rfl, rfl, rfl, rfl⟩ := H
 exact QW.retN1 rfl (Res.row rfl row39 a0 (i := 0) rfl (by simp [lv])) ⟨T, pA, nC, nD, xA, pB, nE, nF, xB, pC, nG, nH, xC, Pl.refl, c1, c2, c3, c4, c5, c6, a8, c7, (List.length_replicate ..), rfl, (St.pk (L := [_, _, _, _, _, _]) a0 [1, 2, 3, 4, 5])⟩
def disk_Disk_Pending.rel (a1 : List R25) (a0 : List R124) (a2 : Int) (a3 : Bool) (a4 : List R48) (a5 : List R25) (a6 : List R124) (a7 : Int) (a8 : Bool) (a9 : List R48) (ar0 : Int) : Prop := a5 = a1 ∧ a6 = a0 ∧ a7 = a2 ∧ a8 = a3 ∧ a9 = a4 ∧ ar0 = (a0.length : Int)
theorem disk_Disk_Pending.calls (T : Pool) (st0 : St w w1 (oD nA pA nB nC pB nD nE iA bA pC nF nG 95 :: .sl pA nC nB xA 25 1 :: .sl pB nE nD xB 124 2 :: .sl pC nG nF xC 48 2 :: (T ++ R))) (b3 : nB = qA.length) (b4 : HRs T (f25 w) xA qA) (a3 : nD = rA.length) (b5 : HRs T (f124 w) xB rA) (b6 : nF = sA.length) (b7 : HRs T (f48 w) xC sA) (H : disk_Disk_Pending.rel qA rA iA bA sA qB rB iB bB sB iC) :
  Calls prog 30 #[.pointer (sp nA)] w1 fun e w' => ∃ T' a4 a0 a5 a6 a7 a1 a8 a9 b0 a2 b1 b2, Pl T T' ∧ a0 = qB.length ∧ HRs T' (f25 w) a6 qB ∧ a1 = rB.length ∧ HRs T' (f124 w) a9 rB ∧ a2 = sB.length ∧ HRs T' (f48 w) b2 sB ∧ e = .returned (.int .i64 iC) ∧ St w w' (oD nA a4 a0 a5 a7 a1 a8 iB bB b0 a2 b1 95 :: .sl a4 a5 a0 a6 25 1 :: .sl a7 a8 a1 a9 124 2 :: .sl b0 b1 a2 b2 48 2 :: (T' ++ R)) := by
 refine CW.en func30 rfl 10 [_] (CW.sub [(0, _)] ⟨rfl, trivial⟩ (cr (WL.as rfl (wn (CW.seq (cr (WL.mv rfl (WL.v (Runs.eql_ptr underlying30 rfl rfl rfl) (wn (CW.cf rfl rfl (CW.skip (QW.then_n (cr (WL.mv rfl (WL.v (Runs.nilCheck rfl) ?_)))))))))))))))
 refine WL.v (Runs.fieldAddr (off := 1) (p := 1) fld95_1 rfl rfl rfl) (WL.ld 0 nagg93 st0 rfl rfl (pa (.slice pB nD nE) (cl pA nB nC) ((ci iA) ++ ((cb bA) ++ (cl pC nF nG)))) ?_)
 refine WL.v (Runs.len_sl underlying93 rfl (by rw [a3])) ?_
 refine WL.as rfl (wn (CW.ret ?_))
 obtain ⟨rfl, rfl, rfl, rfl, rfl, rfl⟩ := H
 exact QW.ret1 rfl rfl ⟨T, pA, nB, nC, xA, pB, nD, nE, xB, pC, nF, nG, xC, Pl.refl, b3, b4, a3, b5, b6, b7, rfl, (St.pk (L := [_, _, _, _]) st0 [0, 1, 2, 3])⟩
def reliquarylaw13_awake.rel  : Prop := (∃ a3 k6, disk_New.rel 4 a3 k6 ∧ ((∃ a4 a5 a6 a7 a8, a3 = some (a4, a5, a6, a7, a8) ∧ (∃ a9 : List Int, a9 = [1, 0, 0, 0, 0, 0, 0, 0, 0, 0, 0, 0, 0, 0, 0, 0, 0, 0, 0, 0, 0, 0, 0, 0, 0, 0, 0, 0, 0, 0, 0, 0] ∧ (∃ b0 b1 b2 b3 b4 b5 k7, journal_New.rel a4 a5 a6 a7 a8 a9 1 2 0 0 (z32) 1 100 b1 b2 b3 b4 b5 b0 k7 ∧ ((∃ b6 b7 b8 b9 c0 c1 c2 c3, b0 = some (b6, b7, b8, b9, c0, c1, c2, c3) ∧ (∃ c4 c5 c6 c7 c8 c9 d0 d1 d2 d3 d4 d5 d6 k8 k9 l0 d7, journal_Journal_Append.rel b1 b2 b3 b4 b5 b6 b7 b8 b9 c0 c1 c2 c3 ([(3, List.replicate 160 (0 : Int)), (3, List.replicate 160 (0 : Int)), (3, List.replicate 160 (0 : Int))] : List R42) c4 c5 c6 c7 c8 c9 d0 d1 d2 d3 d4 d5 d6 k8 k9 l0 d7 ∧ (∃ d8 d9 e0 e1 e2 e3 e4 e5 e6 e7 e8 e9 f0 a1 a0 a2 f1, journal_Journal_Append.rel c4 c5 c6 c7 c8 c9 d0 d1 d2 d3 d4 d5 d6 ([(3, List.replicate 160 (0 : Int))] : List R42) d8 d9 e0 e1 e2 e3 e4 e5 e6 e7 e8 e9 f0 a1 a0 a2 f1 ∧ (∃ f2 f3 f4 f5 f6 f7 f8 f9 g0 g1 g2 g3 g4, journal_Journal_Adopt.rel d8 d9 e0 e1 e2 e3 e4 e5 e6 e7 e8 e9 f0 a1 a0 a2 100 f2 f3 f4 f5 f6 f7 f8 f9 g0 g1 g2 g3 g4 ∧ (∃ g5 g6 g7 g8 g9 h0 h1 h2 h3 h4 h5 h6 h7 h8 h9 i0 i1, journal_Journal_State.rel f2 f3 f4 f5 f6 f7 f8 f9 g0 g1 g2 g3 g4 g5 g6 g7 g8 g9 h0 h1 h2 h3 h4 h5 h6 h7 h8 h9 i0 i1 ∧ (d7 = 17 ∧ (f1 = 0 ∧ (a0 = 1 ∧ (((h8 == a1) && ((h9 == a0) && ((i0 == a2) && true))) = true ∧ (i1 = 2 ∧ (∃ i2 i3 i4 i5 i6 i7 i8 i9 j0 j1 j2 j3 j4 j5, journal_Journal_Room.rel g5 g6 g7 g8 g9 h0 h1 h2 h3 h4 h5 h6 h7 i2 i3 i4 i5 i6 i7 i8 i9 j0 j1 j2 j3 j4 j5 ∧ (j5 = 1 ∧ (∃ j6 j7 j8 j9 k0 l1 l2 l3 l4 l5 l6 l7 l8 k1 l9 m0, journal_Journal_Empty.rel i2 i3 i4 i5 i6 i7 i8 i9 j0 j1 j2 j3 j4 j6 j7 j8 j9 k0 l1 l2 l3 l4 l5 l6 l7 l8 k1 l9 m0 ∧ (k1 = 1 ∧ (∃ m1 m2 m3 m4 m5 k2, disk_Disk_Pending.rel j6 j7 j8 j9 k0 m1 m2 m3 m4 m5 k2 ∧ (k2 = 1 ∧ (∃ k3 : List Int, k3 = z32 ∧ (∃ k4, journal_Link.rel k3 0 ([] : List Int) k4 ∧ (∃ k5 : List Int, k5 = z32 ∧ ¬ (k4 = k5))))))))))))))))))))))))))
theorem reliquarylaw13_awake.calls (hG0 : Src w (sp 0) (iv .u32 tab0)) (hG1 : Src w (sp 1) (iv .i64 tab1)) (H : reliquarylaw13_awake.rel  ) :
  Calls prog 8 #[] w fun e w' => e = .returned (.bool true) ∧ Below w.heap.size w w' := by
 refine CW.en func8 rfl 101 [] (CW.sub [] trivial ?_)
 obtain ⟨T, R, hT, hR, st0⟩ := St.start w
 refine cr (WL.as rfl (WL.nx ?_))
 have D2 := St.hide (A := []) (B := []) st0
 obtain ⟨Q9, D3, D4, H⟩ := H
 obtain ⟨w2, w3, m8, m9, w4, rfl, H⟩ := H
 refine wC ent11 rfl (disk_New.calls_obj T D2 (some (w2, w3, m8, m9, w4)) rfl D4) ?_
 rintro _ w5 ⟨n0, a0, n1, n2, n3, w6, n4, n5, n6, w7, n7, n8, n9, w8, R0, D5, D6, D7, D8, D9, E0, rfl, E1⟩
 have E2 := St.unhide (A := [_, _, _, _]) (B := []) E1; dsimp only [ec, en] at E2
 refine ⟨_, rfl, WL.mv rfl (WL.v (Runs.extract rfl rfl) (WL.v (Runs.extract rfl rfl) (WL.as rfl (WL.as rfl (WL.nx (WL.mv rfl ?_))))))⟩
 obtain ⟨z5, z6, H⟩ := H
 refine WL.v (Runs.build_arr (xs := z5) arr23 rfl rfl (by rw [z6]; rfl)) ?_
 refine WL.v (Runs.build_struct (ps := [(0, 1), (1, 1), (2, 32)]) (cs := ((cu 0) ++ ((cu 0) ++ iv .u8 (z32)))) plc39 zero39 rfl Fills.nil) ?_
 have E3 := St.hide (A := [_, _, _, _]) (B := []) E2
 obtain ⟨R1, z7, z8, e6, e7, z9, E4, E5, H⟩ := H
 obtain ⟨d8, d9, e0, e1, e2, e3, e4, e5, rfl, H⟩ := H
 refine wC ent12 rfl (journal_New.calls_obj n0 E3 (D5) D6 (D7) D8 (D9) E0 (by rw [z6]; rfl) (List.length_replicate ..) (some (d8, d9, e0, e1, e2, e3, e4, e5)) rfl E5) ?_
 rintro _ E6 ⟨o0, b9, c0, c1, e9, c2, c3, c4, f0, c5, c6, c7, f1, a2, R2, E7, E8, E9, F0, F1, F2, F3, F4, rfl, F5⟩
 have F6 := St.unhide (A := [_, _, _, _, _]) (B := []) F5; dsimp only [ec, en] at F6
 refine ⟨_, rfl, WL.mv rfl (WL.v (Runs.extract rfl rfl) (WL.v (Runs.extract rfl rfl) (WL.as rfl (WL.as rfl (wn ?_)))))⟩
 refine CW.su [(0, _), (1, _), (2, _), (3, _), (4, _)] ?_
 refine CW.seq (cr (WL.mv rfl ?_))
 refine WL.v (Runs.neq (b := false) rfl rfl (by decide)) ?_
 refine WL.mv rfl ?_
 refine WL.on ?_ ?_; exact Wg 25 rfl
 refine WL.mv rfl ?_
 refine WL.on ?_ ?_; exact Wg 25 rfl
 refine WL.v (Runs.neq (b := false) rfl rfl (by decide)) ?_
 refine WL.v (Runs.pick_f rfl rfl) (WL.mv rfl ?_)
 refine WL.on ?_ ?_; exact Wg 29 rfl
 refine WL.mv rfl ?_
 refine WL.on ?_ ?_; exact Wg 29 rfl
 refine WL.v (Runs.eql_ptr underlying34 rfl rfl rfl) (WL.v (Runs.pick_f rfl rfl) (wn (CW.sub [(0, _), (1, _), (3, _), (32, _)] ⟨rfl, rfl, rfl, rfl, trivial⟩ (CW.cf rfl rfl (CW.skip (QW.then_n (cr ?_)))))))
 refine WL.make F6 underlying25 elem5 rfl rfl (by decide) (by decide) (by decide) (N := 160) rfl ?_
 intro a1 F7 r5
 replace r5 : St w F7 (.sl (sp a1) 160 160 (iv .u8 (List.replicate 160 (0 : Int))) 5 1 :: oD a0 b9 c0 c1 c2 c3 c4 e6 e7 c5 c6 c7 95 :: .sl b9 c1 c0 e9 25 1 :: .sl c2 c4 c3 f0 124 2 :: .sl c5 c7 c6 f1 48 2 :: oJ a2 a0 d8 d9 e0 e1 e2 e3 e4 e5 98 :: (o0 ++ R)) := by rw [iv_replicate] at r5; exact r5
 have F8 : 160 = (List.replicate 160 (0 : Int)).length := by simp
 refine WL.v (Runs.build_seg (ps := [(0, 1), (1, 1)]) (cs := ((cu 3) ++ (cl (sp a1) 160 160))) plc42 zero42 rfl (.cons (ms := ((cu 3))) rfl rfl rfl (.one rfl rfl)) rfl rfl) (WL.alloc r5 zero42 ?_)
 intro a3 R3 F9
 refine WL.sw 0 F9 row42 rfl rfl rfl ?_
 intro A0 i2
 try dsimp only [List.set] at i2
 refine WL.nx (WL.mv rfl (WL.v (Runs.load_mid row42 rfl i2 (i := 0) rfl (pm [] ((cu 3) ++ (cl (sp a1) 160 160)) []) rfl) (WL.v (Runs.load_mid row42 rfl i2 (i := 0) rfl (pm [] ((cu 3) ++ (cl (sp a1) 160 160)) []) rfl) (WL.v (Runs.load_mid row42 rfl i2 (i := 0) rfl (pm [] ((cu 3) ++ (cl (sp a1) 160 160)) []) rfl) ?_))))
 have hb_93c := i2.cap (i := 1) rfl
 obtain ⟨f2, w9, G0, x0⟩ := St.freeze (A := [_]) (B := [_, _, _, _, _]) (T := o0) (R := R) i2
 have r6 : HB w f2 (sp a1) 160 160 (iv .u8 (List.replicate 160 (0 : Int))) (List.replicate 160 (0 : Int)).length := ⟨F8, hb_93c, Hd.of_sl G0⟩
 try dsimp only [List.set, ec, en] at x0
 obtain ⟨R4, R5, G1, G2, G3, G4⟩ := slr42_3
 refine WL.buildSlSg (sz := 2) (cs := ((cu 3) ++ ((cl (sp a1) 160 160) ++ ((cu 3) ++ ((cl (sp a1) 160 160) ++ ((cu 3) ++ (cl (sp a1) 160 160))))))) x0 underlying40 G1 G2 G3 (by decide) (by decide) G4 rfl (.cons (ms := ((cu 3) ++ (cl (sp a1) 160 160))) rfl rfl rfl (.cons (ms := ((cu 3) ++ (cl (sp a1) 160 160))) rfl rfl rfl (.one rfl rfl))) rfl rfl ?_
 intro a4 o1 x1
 try dsimp only [List.set, ec, en] at x1
 have x2 := St.rows_sl (i := 0) (m := 3) (size := 2) x1 rfl rfl (by decide)
 obtain ⟨a5, A1⟩ : ∃ x_ : Cs, x_ = (cu 3) ++ ((cl (sp a1) 160 160) ++ ((cu 3) ++ ((cl (sp a1) 160 160) ++ ((cu 3) ++ (cl (sp a1) 160 160))))) := ⟨_, rfl⟩
 have G5 : HRs f2 (f42 w) a5 ([(3, List.replicate 160 (0 : Int)), (3, List.replicate 160 (0 : Int)), (3, List.replicate 160 (0 : Int))] : List R42) := by rw [A1]; exact (HRs.cons (ms := (cu 3) ++ (cl (sp a1) 160 160)) (.cons rfl (.cons ⟨_, _, _, rfl, r6⟩ .nil)) (HRs.cons (ms := (cu 3) ++ (cl (sp a1) 160 160)) (.cons rfl (.cons ⟨_, _, _, rfl, r6⟩ .nil)) (HRs.one (.cons rfl (.cons ⟨_, _, _, rfl, r6⟩ .nil)))))
 (try dsimp only [List.set, ec, en] at x2); rw [← A1] at x2
 have r7 := (St.pk (L := [_, _, _, _, _, _, _]) x2 [6, 2, 3, 4, 5, 0, 1])
 have G6 := St.hide (A := [_, _, _, _, _]) (B := [_, _]) r7
 obtain ⟨A2, A3, h1, h2, A4, h3, h4, h5, h6, h7, h8, h9, i0, a9, b0, b1, o2, G7, H⟩ := H
 refine wC ent14 rfl (journal_Journal_Append.calls f2 G6 hG0 hG1 (E7) (E8.mono w9.1) (E9) (F0.mono w9.1) (F1) (F2.mono w9.1) F3 F4 (HS.mk rfl (r7.cap (i := 5) rfl) (fun W_ L_ st hT => st.src_mem (hT _ (List.mem_append_right _ (List.mem_of_getElem? (i := 0) rfl)))) G5) G7) ?_
 rintro _ G8 ⟨e8, c9, d0, d1, i3, d2, d3, d4, i4, d5, d6, d7, i5, G9, H0, H1, H2, H3, H4, H5, H6, H7, H8, rfl, H9⟩
 have I0 := St.unhide (A := [_, _, _, _, _]) (B := [_, _]) H9; dsimp only [ec, en] at I0
 refine ⟨_, rfl, WL.mv rfl (WL.v (Runs.extract rfl rfl) (WL.v (Runs.extract rfl rfl) (WL.alloc I0 zero39 ?_)))⟩
 intro b2 R6 I1
 refine WL.sw 0 I1 row39 rfl rfl rfl (hm := by simp [lv, H8]) ?_
 intro I2 r8
 try dsimp only [List.set] at r8
 refine WL.as rfl (wn ?_)
 refine CW.su [(0, _), (1, _), (3, _), (5, _), (7, _)] ?_
 refine cr (WL.mv rfl (WL.v (Runs.load_mid row42 rfl r8 (i := 7) rfl (pm [] ((cu 3) ++ (cl (sp a1) 160 160)) []) rfl) ?_))
 obtain ⟨R7, R8, I3, I4, I5, I6⟩ := slr42_1
 refine WL.buildSlSg (sz := 2) (cs := ((cu 3) ++ (cl (sp a1) 160 160))) r8 underlying40 I3 I4 I5 (by decide) (by decide) I6 rfl (.one rfl rfl) rfl rfl ?_
 intro b3 o3 x3
 try dsimp only [List.set, ec, en] at x3
 have x4 := St.rows_sl (i := 0) (m := 1) (size := 2) x3 rfl rfl (by decide)
 obtain ⟨b4, A5⟩ : ∃ x_ : Cs, x_ = (cu 3) ++ (cl (sp a1) 160 160) := ⟨_, rfl⟩
 have I7 : HRs e8 (f42 w) b4 ([(3, List.replicate 160 (0 : Int))] : List R42) := by rw [A5]; exact (HRs.one (.cons rfl (.cons ⟨_, _, _, rfl, (r6.mono G9.1)⟩ .nil)))
 (try dsimp only [List.set, ec, en] at x4); rw [← A5] at x4
 have r9 := (St.pk (L := [_, _, _, _, _, _, _, _, _]) x4 [2, 3, 4, 5, 6, 0, 1, 7, 8])
 have I8 := St.hide (A := [_, _, _, _, _]) (B := [_, _, _, _]) r9
 obtain ⟨A6, A7, k5, k6, A8, k7, k8, k9, l0, l1, l2, l3, l4, a7, a6, a8, s0, I9, H⟩ := H
 refine wC ent14 rfl (journal_Journal_Append.calls e8 I8 hG0 hG1 (H0) H1 (H2) H3 (H4) H5 H6 H7 (HS.mk rfl (r9.cap (i := 5) rfl) (fun W_ L_ st hT => st.src_mem (hT _ (List.mem_append_right _ (List.mem_of_getElem? (i := 0) rfl)))) I7) I9) ?_
 rintro _ J0 ⟨i6, f3, f4, f5, o4, f6, f7, f8, o5, f9, g0, g1, o6, R9, J1, J2, J3, J4, J5, J6, J7, J8, i1, rfl, J9⟩
 have K0 := St.unhide (A := [_, _, _, _, _]) (B := [_, _, _, _]) J9; dsimp only [ec, en] at K0
 refine ⟨_, rfl, WL.mv rfl (WL.v (Runs.extract rfl rfl) (WL.v (Runs.extract rfl rfl) (WL.alloc K0 zero39 ?_)))⟩
 intro b5 S0 K1
 refine WL.sw 0 K1 row39 rfl rfl rfl (hm := by simp [lv, i1]) ?_
 intro s1 s2
 try dsimp only [List.set] at s2
 refine WL.as rfl (wn ?_)
 refine CW.su [(0, _), (1, _), (3, _), (7, _), (8, _), (9, _)] ?_
 refine cr (WL.mv rfl ?_)
 refine WL.v (Runs.load_mid row39 rfl s2 (i := 0) rfl (pm [] ((cu a7) ++ ((cu a6) ++ iv .u8 a8)) [] (hm := by simp [lv, i1])) (by simp [lv, i1])) ?_
 have x5 := (St.pk (L := [_, _, _, _, _, _, _, _, _, _]) s2 [1, 2, 3, 4, 5, 0, 6, 7, 8, 9])
 have K2 := St.hide (A := [_, _, _, _, _]) (B := [_, _, _, _, _]) x5
 obtain ⟨A9, B0, s3, s4, B1, s5, s6, s7, s8, s9, t0, t1, t2, K3, H⟩ := H
 refine wC ent15 rfl (journal_Journal_Adopt.calls i6 K2 (J1) J2 (J3) J4 (J5) J6 J7 J8 i1 K3) ?_
 rintro _ x6 ⟨o7, o8, o9, p0, x7, p1, p2, p3, x8, p4, p5, p6, x9, S1, K4, K5, K6, K7, K8, K9, L0, L1, rfl, L2⟩
 have L3 := St.unhide (A := [_, _, _, _, _]) (B := [_, _, _, _, _]) L2; dsimp only [ec, en] at L3
 refine ⟨_, rfl, WL.nx (WL.mv rfl ?_)⟩
 have L4 := St.hide (A := [_, _, _, _, _]) (B := [_, _, _, _, _]) L3
 obtain ⟨B2, B3, l5, l6, B4, l7, l8, l9, m0, m1, m2, m3, m4, b6, b7, b8, y0, L5, H⟩ := H
 refine wC ent25 rfl (journal_Journal_State.calls o7 L4 (K4) K5 (K6) K7 (K8) K9 L0 L1 L5) ?_
 rintro _ L6 ⟨i7, g2, g3, g4, p7, g5, g6, g7, p8, g8, g9, h0, p9, S2, L7, L8, L9, M0, M1, M2, M3, M4, q0, rfl, M5⟩
 have M6 := St.unhide (A := [_, _, _, _, _]) (B := [_, _, _, _, _]) M5; dsimp only [ec, en] at M6
 refine ⟨_, rfl, WL.mv rfl (WL.v (Runs.extract rfl rfl) (WL.v (Runs.extract rfl rfl) (WL.alloc M6 zero39 ?_)))⟩
 intro c8 S3 M7
 refine WL.sw 0 M7 row39 rfl rfl rfl (hm := by simp [lv, q0]) ?_
 intro t3 m5
 try dsimp only [List.set] at m5
 refine WL.as rfl (wn ?_)
 refine CW.su [(0, _), (1, _), (3, _), (7, _), (8, _), (9, _), (10, _), (11, _)] ?_
 refine cr (WL.mv rfl (WL.v (Runs.eql rfl rfl rfl) (WL.mv rfl ?_)))
 obtain ⟨M8, H⟩ := H
 have y1 := (beq_iff_eq.mpr M8)
 refine WL.on ?_ ?_; exact Wg 61 y1
 refine WL.mv rfl ?_
 refine WL.on ?_ ?_; exact Wg 61 y1
 refine WL.v (Runs.eql rfl rfl rfl) (WL.v (Runs.pick_t (evb rfl y1) rfl) (WL.mv rfl ?_))
 obtain ⟨M9, H⟩ := H
 have t4 := (beq_iff_eq.mpr M9)
 refine WL.on ?_ ?_; exact Wg 65 t4
 refine WL.v (Runs.fieldAddr (off := 1) (p := 1) fld39_1 rfl rfl rfl) ?_
 refine WL.on ?_ ?_; exact Wg 65 t4
 refine WL.ld 6 nagg37 m5 rfl rfl (pa (.int .u64 a6) (cu a7) (iv .u8 a8)) ?_
 refine WL.on ?_ ?_; exact Wg 65 t4
 refine WL.v (Runs.eql rfl rfl rfl) (WL.v (Runs.pick_t (evb rfl t4) rfl) (WL.mv rfl ?_))
 obtain ⟨N0, H⟩ := H
 have t5 := (beq_iff_eq.mpr N0)
 refine WL.on ?_ ?_; exact Wg 70 t5
 refine WL.v (Runs.load_mid row39 rfl m5 (i := 0) rfl (pm [] ((cu b6) ++ ((cu b7) ++ iv .u8 b8)) [] (hm := by simp [lv, q0])) (by simp [lv, q0])) ?_
 refine WL.on ?_ ?_; exact Wg 70 t5
 refine WL.v (Runs.load_mid row39 rfl m5 (i := 6) rfl (pm [] ((cu a7) ++ ((cu a6) ++ iv .u8 a8)) [] (hm := by simp [lv, i1])) (by simp [lv, i1])) ?_
 refine WL.on ?_ ?_; exact Wg 70 t5
 refine WL.v (Runs.eql_top (EqTop.struct eqs39 (EqFs.cons (part_mid' (pre := (([] : Cs))) (mid := ((cu b6))) (post := ((cu b7) ++ iv .u8 b8)) (by first | rfl | simp only [aa, an, na, ca]) rfl) (part_mid' (pre := (([] : Cs))) (mid := ((cu a7))) (post := ((cu a6) ++ iv .u8 a8)) (by first | rfl | simp only [aa, an, na, ca]) rfl) (EqPl.int underlying37) (EqFs.cons (part_mid' (pre := ((cu b6))) (mid := ((cu b7))) (post := (iv .u8 b8)) (by first | rfl | simp only [aa, an, na, ca]) rfl) (part_mid' (pre := ((cu a7))) (mid := ((cu a6))) (post := (iv .u8 a8)) (by first | rfl | simp only [aa, an, na, ca]) rfl) (EqPl.int underlying37) (EqFs.cons (part_mid' (pre := ((cu b6) ++ (cu b7))) (mid := (iv .u8 b8)) (post := (([] : Cs))) (by first | rfl | simp only [aa, an, na, ca]) rfl) (part_mid' (pre := ((cu a7) ++ (cu a6))) (mid := (iv .u8 a8)) (post := (([] : Cs))) (by first | rfl | simp only [aa, an, na, ca]) rfl) (EqTop.place (EqTop.arr arr23 q0 i1) row23 (by simp [lv, q0]) (by simp [lv, i1])) EqFs.nil)))) eqg39 rfl rfl) ?_
 refine WL.v (Runs.pick_t (evb rfl t5) rfl) (WL.mv rfl ?_)
 obtain ⟨N1, H⟩ := H
 have y2 : ((b6 == a7) && ((b7 == a6) && ((b8 == a8) && true))) = true := N1
 refine WL.on ?_ ?_; exact Wg 75 y2
 refine WL.mv rfl ?_
 refine WL.on ?_ ?_; exact Wg 75 y2
 refine WL.v (Runs.eql rfl rfl rfl) (WL.v (Runs.pick_t (evb rfl y2) rfl) (WL.mv rfl ?_))
 obtain ⟨N2, H⟩ := H
 have t6 := (beq_iff_eq.mpr N2)
 refine WL.on ?_ ?_; exact Wg 79 t6
 refine WL.mv rfl ?_
 refine WL.on ?_ ?_; exact Wg 79 t6
 have y3 := (St.pk (L := [_, _, _, _, _, _, _, _, _, _, _]) m5 [1, 2, 3, 4, 5, 0, 6, 7, 8, 9, 10])
 have N3 := St.hide (A := [_, _, _, _, _]) (B := [_, _, _, _, _, _]) y3
 obtain ⟨B5, B6, t7, t8, B7, t9, u0, u1, u2, u3, u4, u5, u6, B8, N4, H⟩ := H
 refine wC ent16 rfl (journal_Journal_Room.calls i7 N3 (L7) L8 (L9) M0 (M1) M2 M3 M4 N4) ?_
 rintro _ y4 ⟨q1, q2, q3, q4, y5, q5, q6, q7, y6, q8, q9, r0, y7, S4, N5, N6, N7, N8, N9, O0, O1, O2, rfl, O3⟩
 have O4 := St.unhide (A := [_, _, _, _, _]) (B := [_, _, _, _, _, _]) O3; dsimp only [ec, en] at O4
 refine ⟨_, rfl, ?_⟩
 refine WL.on ?_ ?_; exact Wg 79 t6
 refine WL.v (Runs.eql rfl rfl rfl) (WL.v (Runs.pick_t (evb rfl t6) rfl) (WL.mv rfl ?_))
 obtain ⟨O5, H⟩ := H
 have r1 := (beq_iff_eq.mpr O5)
 refine WL.on ?_ ?_; exact Wg 84 r1
 refine WL.mv rfl ?_
 refine WL.on ?_ ?_; exact Wg 84 r1
 have O6 := St.hide (A := [_, _, _, _, _]) (B := [_, _, _, _, _, _]) O4
 obtain ⟨B9, C0, r2, r3, C1, i8, i9, j0, j1, j2, j3, j4, j5, y8, C2, C3, O7, H⟩ := H
 refine wC ent17 rfl (journal_Journal_Empty.calls q1 O6 (N5) N6 (N7) N8 (N9) O0 O1 O2 O7) ?_
 rintro _ u7 ⟨m6, j6, j7, j8, u9, j9, k0, k1, v0, k2, k3, k4, v1, S5, O8, O9, P0, P1, P2, P3, S6, S7, S8, rfl, P4⟩
 have P5 := St.unhide (A := [_, _, _, _, _]) (B := [_, _, _, _, _, _]) P4; dsimp only [ec, en] at P5
 refine ⟨_, rfl, ?_⟩
 refine WL.on ?_ ?_; exact Wg 84 r1
 refine WL.v (Runs.field_one fld39_0 nagg37 rfl (pa (.int .u64 y8) [] ((cu C2) ++ iv .u8 C3))) ?_
 refine WL.on ?_ ?_; exact Wg 84 r1
 refine WL.v (Runs.eql rfl rfl rfl) (WL.v (Runs.pick_t (evb rfl r1) rfl) (WL.mv rfl ?_))
 obtain ⟨P6, H⟩ := H
 have v2 := (beq_iff_eq.mpr P6)
 refine WL.on ?_ ?_; exact Wg 90 v2
 refine WL.mv rfl ?_
 refine WL.on ?_ ?_; exact Wg 90 v2
 have y9 := (St.pk (L := [_, _, _, _, _, _, _, _, _, _, _]) P5 [1, 2, 3, 4, 0, 5, 6, 7, 8, 9, 10])
 have P7 := St.hide (A := [_, _, _, _]) (B := [_, _, _, _, _, _, _]) y9
 obtain ⟨P8, P9, z0, z1, Q0, C4, Q1, H⟩ := H
 refine wC ent30 rfl (disk_Disk_Pending.calls m6 P7 (O8) O9 (P0) P1 (P2) P3 Q1) ?_
 rintro _ C5 ⟨m7, v3, v4, v5, C6, v6, v7, v8, C7, v9, w0, w1, C8, S9, T0, T1, T2, T3, T4, T5, rfl, Q2⟩
 have z2 := St.unhide (A := [_, _, _, _]) (B := [_, _, _, _, _, _, _]) Q2; dsimp only [ec, en] at z2
 refine ⟨_, rfl, ?_⟩
 refine WL.on ?_ ?_; exact Wg 90 v2
 refine WL.v (Runs.eql rfl rfl rfl) (WL.v (Runs.pick_t (evb rfl v2) rfl) (WL.mv rfl ?_))
 obtain ⟨Q3, H⟩ := H
 have r4 := (beq_iff_eq.mpr Q3)
 refine WL.on ?_ ?_; exact Wg 95 r4
 obtain ⟨C9, D0, H⟩ := H
 refine WL.v (Runs.build_arr (xs := C9) arr23 rfl rfl (by rw [D0]; rfl)) ?_
 refine WL.on ?_ ?_; exact Wg 95 r4
 obtain ⟨z3, Q4, H⟩ := H
 refine wC ent9 rfl (journal_Link.calls (lB := []) (hG0.ext z2) (by rw [D0]; rfl) (((HB.nil : HB w m7 none 0 0 (iv .u8 ([] : List Int)) 0).2.2.at z2 (mem_T (A := [_, _, _, _, _, _, _, _, _, _, _]) ii))) ((HB.nil : HB w m7 none 0 0 (iv .u8 ([] : List Int)) 0).1) ((HB.nil : HB w m7 none 0 0 (iv .u8 ([] : List Int)) 0).2.1) Q4) ?_
 rintro _ Q5 ⟨Q6, rfl, Q7⟩
 have Q8 := z2.call Q7
 refine ⟨_, rfl, ?_⟩
 refine WL.on ?_ ?_; exact Wg 95 r4
 obtain ⟨z4, D1, H⟩ := H
 refine WL.v (Runs.build_arr (xs := z4) arr23 rfl rfl (by rw [D1]; rfl)) ?_
 refine WL.on ?_ ?_; exact Wg 95 r4
 refine WL.v (Runs.neq_arr arr23 eqg23 rfl rfl Q6 (by rw [D1]; rfl) rfl) ?_
 refine WL.v (Runs.pick_t (evb rfl r4) rfl) (WL.as rfl (wn (CW.ret ?_)))
 have hz : (!(z3 == z4)) = true := (not_t (beq_eq_false_iff_ne.mpr H))
 exact QW.ret1 rfl (evb rfl hz) ⟨rfl, Q8.ext⟩
def reliquaryref06_New.rel (a0 a1 : Int) (a2 a3 : List R145) (a4 : Int) (a5 : Bool) (a6 : List R160) (ar1 : Int) : Prop := ((a0 < 1 ∧ a1 = 0 ∧ a2 = [] ∧ a3 = [] ∧ a4 = 0 ∧ a5 = false ∧ a6 = [] ∧ ar1 = 1) ∨ (¬ (a0 < 1) ∧ ((a0 > 4096 ∧ a1 = 0 ∧ a2 = [] ∧ a3 = [] ∧ a4 = 0 ∧ a5 = false ∧ a6 = [] ∧ ar1 = 1) ∨ (¬ (a0 > 4096) ∧ a1 = a0 ∧ a2 = [] ∧ a3 = [] ∧ a4 = -1 ∧ a5 = false ∧ a6 = [] ∧ ar1 = 0))))
theorem reliquaryref06_New.calls (T : Pool) (st0 : St w w1 ((T ++ R))) (H : reliquaryref06_New.rel iA iB vA vB iC bA dA iD) :
  Calls prog 18 #[.int .i64 iA] w1 fun e w' => ∃ T' a0 b4 b5 b6 b7 b8 b9 c0 c1, Pl T T' ∧ HS w T' T' a0 b4 b5 (f145 w) vA ∧ HS w T' T' b6 b7 b8 (f145 w) vB ∧ HS w T' T' b9 c0 c1 (f160 w) dA ∧ e = .returned (.tuple #[.agg ((ci iB) ++ ((cl a0 b4 b5) ++ ((cl b6 b7 b8) ++ ((ci iC) ++ ((cb bA) ++ (cl b9 c0 c1)))))).toArray, .int .i64 iD]) ∧ St w w' ((T' ++ R)) := by
 refine CW.en func18 rfl 13 [_] (CW.sub [(0, _)] ⟨rfl, trivial⟩ (cr (WL.alloc st0 zero57 ?_)))
 intro a2 b3 a6
 refine WL.as rfl (wn (CW.seq (cr (WL.mv rfl (WL.v (Runs.lss rfl rfl rfl) (WL.mv rfl ?_))))))
 rcases H with ⟨a7, H⟩ | ⟨a7, H⟩
 ·have a1 := (decide_eq_true a7)
  iterate 2 (refine WL.off ?_ ?_; exact Wg 6 a1)
  refine WL.v (Runs.pick_t (evb rfl a1) rfl) (wn (CW.ct rfl rfl (cr (WL.v (Runs.build_struct (ps := [(0, 1), (1, 1), (2, 1), (3, 1), (4, 1), (5, 1)]) (cs := ((ci 0) ++ ((cl none 0 0) ++ ((cl none 0 0) ++ ((ci 0) ++ ((cb false) ++ (cl none 0 0))))))) plc57 zero57 rfl Fills.nil) (WL.sw 0 a6 row57 rfl rfl rfl ?_)))))
  intro b0 a3
  try dsimp only [List.set] at a3
  refine WL.as rfl (wn (CW.ret (QW.then_r ?_)))
  obtain ⟨rfl, rfl, rfl, rfl, rfl, rfl, rfl⟩ := H
  exact QW.retN2 rfl (Res.row rfl row57 a3 (i := 0) rfl rfl) (Res.tmp rfl) ⟨T, none, 0, 0, none, 0, 0, none, 0, 0, Pl.refl, HS.nil, HS.nil, HS.nil, rfl, (St.pk (L := [_]) a3 [])⟩
 have a1 := (decide_eq_false a7)
 refine WL.on ?_ ?_; exact Wg 6 a1
 refine WL.mv rfl ?_
 refine WL.on ?_ ?_; exact Wg 6 a1
 refine WL.v (Runs.gtr rfl rfl rfl) (WL.v (Runs.pick_f (evb rfl a1) rfl) (wn ?_))
 rcases H with ⟨a8, H⟩ | ⟨a8, H⟩
 ·have a9 := (decide_eq_true a8)
  refine CW.ct rfl a9 (cr (WL.v (Runs.build_struct (ps := [(0, 1), (1, 1), (2, 1), (3, 1), (4, 1), (5, 1)]) (cs := ((ci 0) ++ ((cl none 0 0) ++ ((cl none 0 0) ++ ((ci 0) ++ ((cb false) ++ (cl none 0 0))))))) plc57 zero57 rfl Fills.nil) (WL.sw 0 a6 row57 rfl rfl rfl ?_)))
  intro b1 a4
  try dsimp only [List.set] at a4
  refine WL.as rfl (wn (CW.ret (QW.then_r ?_)))
  obtain ⟨rfl, rfl, rfl, rfl, rfl, rfl, rfl⟩ := H
  exact QW.retN2 rfl (Res.row rfl row57 a4 (i := 0) rfl rfl) (Res.tmp rfl) ⟨T, none, 0, 0, none, 0, 0, none, 0, 0, Pl.refl, HS.nil, HS.nil, HS.nil, rfl, (St.pk (L := [_]) a4 [])⟩
 have a9 := (decide_eq_false a8)
 refine CW.cf rfl a9 (CW.skip (QW.then_n (CW.sub [(0, _), (2, _), (3, _)] ⟨rfl, rfl, rfl, trivial⟩ (cr (WL.mv rfl ?_)))))
 refine WL.v (Runs.build_struct (ps := [(0, 1), (1, 1), (2, 1), (3, 1), (4, 1), (5, 1)]) (cs := ((ci iA) ++ ((cl none 0 0) ++ ((cl none 0 0) ++ ((ci (-1)) ++ ((cb false) ++ (cl none 0 0))))))) plc57 zero57 rfl (by refine Fills.cons (o := 0) (ms := ((ci iA))) (show _ = some (0, ((ci iA)).length) by rw [show ((ci iA)).length = 1 from rfl] <;> rfl) rfl (Nat.le_of_ble_eq_true rfl) ?_; rw [show layV ((ci 0) ++ ((cl none 0 0) ++ ((cl none 0 0) ++ ((ci 0) ++ ((cb false) ++ (cl none 0 0)))))) 0 ((ci iA)) = ((ci iA) ++ ((cl none 0 0) ++ ((cl none 0 0) ++ ((ci 0) ++ ((cb false) ++ (cl none 0 0)))))) from (layV_mid (pre := (([] : Cs))) (mid := ((ci 0))) (post := ((cl none 0 0) ++ ((cl none 0 0) ++ ((ci 0) ++ ((cb false) ++ (cl none 0 0)))))) (by first | rfl | simp only [aa, an, na, ca]) rfl (Eq.trans (b := 1) rfl (Eq.symm rfl))).trans (by first | rfl | simp only [aa, an, na, ca])]; refine Fills.cons (o := 3) (ms := ((ci (-1)))) (show _ = some (3, ((ci (-1))).length) by rw [show ((ci (-1))).length = 1 from rfl] <;> rfl) rfl (Nat.le_of_ble_eq_true rfl) ?_; rw [show layV ((ci iA) ++ ((cl none 0 0) ++ ((cl none 0 0) ++ ((ci 0) ++ ((cb false) ++ (cl none 0 0)))))) 3 ((ci (-1))) = ((ci iA) ++ ((cl none 0 0) ++ ((cl none 0 0) ++ ((ci (-1)) ++ ((cb false) ++ (cl none 0 0)))))) from (layV_mid (pre := ((ci iA) ++ ((cl none 0 0) ++ (cl none 0 0)))) (mid := ((ci 0))) (post := ((cb false) ++ (cl none 0 0))) (by first | rfl | simp only [aa, an, na, ca]) rfl (Eq.trans (b := 1) rfl (Eq.symm rfl))).trans (by first | rfl | simp only [aa, an, na, ca])]; exact Fills.nil)) ?_
 refine WL.sw 0 a6 row57 rfl rfl rfl ?_
 intro b2 a5
 try dsimp only [List.set] at a5
 refine WL.as rfl (wn (CW.ret ?_))
 obtain ⟨rfl, rfl, rfl, rfl, rfl, rfl, rfl⟩ := H
 exact QW.retN2 rfl (Res.row rfl row57 a5 (i := 0) rfl rfl) (Res.tmp rfl) ⟨T, none, 0, 0, none, 0, 0, none, 0, 0, Pl.refl, HS.nil, HS.nil, HS.nil, rfl, (St.pk (L := [_]) a5 [])⟩
def reliquarylaw13_stateOf.rel (a0 a1 : Int) (a2 : List Int) (a3 a4 : Int) (a5 : List Int) : Prop := a3 = a0 ∧ a4 = a1 ∧ a5 = a2
theorem reliquarylaw13_stateOf.calls (a8 : lA.length = 32) (H : reliquarylaw13_stateOf.rel iA iB lA iC iD lB) :
  Calls prog 23 #[.agg ((cu iA) ++ ((cu iB) ++ iv .u8 lA)).toArray] w fun e w' => lB.length = 32 ∧ e = .returned (.agg ((cu iC) ++ ((cu iD) ++ iv .u8 lB)).toArray) ∧ St w w' [] := by
 refine CW.en func23 rfl 10 [_] (CW.sub [(0, _)] ⟨rfl, trivial⟩ ?_)
 have st0 := St.refl w
 refine cr (WL.box st0 rfl rfl ?_)
 intro a3 a6 a4
 refine WL.alloc a4 zero60 ?_
 intro a2 a7 a0
 refine WL.nx (WL.v (Runs.fieldAddr (off := 0) (p := 0) fld39_0 rfl rfl rfl) (WL.ld 1 nagg37 a0 rfl rfl (pa (.int .u64 iA) [] ((cu iB) ++ iv .u8 lA)) (WL.v (Runs.fieldAddr (off := 1) (p := 1) fld39_1 rfl rfl rfl) (WL.ld 1 nagg37 a0 rfl rfl (pa (.int .u64 iB) (cu iA) (iv .u8 lA)) (WL.v (Runs.fieldAddr (off := 2) (p := 2) fld39_2 rfl rfl rfl) ?_)))))
 refine WL.v (Runs.load_mid row23 rfl a0 (i := 1) rfl (pm ((cu iA) ++ (cu iB)) (iv .u8 lA) [] (hm := by simp [lv, a8])) (by simp [lv, a8])) ?_
 refine WL.v (Runs.build_seg (ps := [(0, 1), (1, 1), (2, 32)]) (cs := ((cu iA) ++ ((cu iB) ++ iv .u8 lA))) plc60 zero60 rfl (.cons (ms := ((cu iA))) rfl rfl rfl (.cons (ms := ((cu iB))) rfl rfl rfl (.one (by rw [show (iv .u8 lA).length = 32 from (by simp [lv, a8])] <;> rfl) rfl))) (Eq.trans (b := 34) (by simp [lv]) (Eq.symm (by first | rfl | simp only [List.append_assoc, la, lc, ln, lv, a8]))) rfl) ?_
 refine WL.sw 0 a0 row60 rfl rfl rfl (hm := by simp [lv, a8]) ?_
 intro a5 a1
 try dsimp only [List.set] at a1
 refine wn (CW.ret ?_)
 obtain ⟨rfl, rfl, rfl⟩ := H
 exact QW.retr rfl row60 rfl a1 (i := 0) rfl (by simp [lv, a8]) ⟨a8, rfl, a1.pick [] (by decide)⟩
def reliquaryref13_New.rel (a0 : Int) (l1 : List Int) (a2 a3 b3 b4 : Int) (b5 : List Int) (a5 a6 : Int) (a1 : List Int) (a4 a7 a8 a9 : Int) (b0 : List Int) (b1 b2 r1 : Int) : Prop := ((a2 < 0 ∧ a1 = z32 ∧ a4 = 0 ∧ a7 = 0 ∧ a8 = 0 ∧ a9 = 0 ∧ b0 = z32 ∧ b1 = 0 ∧ b2 = 0 ∧ r1 = 1) ∨ (¬ (a2 < 0) ∧ ((a3 < 1 ∧ a1 = z32 ∧ a4 = 0 ∧ a7 = 0 ∧ a8 = 0 ∧ a9 = 0 ∧ b0 = z32 ∧ b1 = 0 ∧ b2 = 0 ∧ r1 = 1) ∨ (¬ (a3 < 1) ∧ ((a2 > a0 ∧ a1 = z32 ∧ a4 = 0 ∧ a7 = 0 ∧ a8 = 0 ∧ a9 = 0 ∧ b0 = z32 ∧ b1 = 0 ∧ b2 = 0 ∧ r1 = 1) ∨ (¬ (a2 > a0) ∧ ((a3 > (i64.wrap (a0 - a2)) ∧ a1 = z32 ∧ a4 = 0 ∧ a7 = 0 ∧ a8 = 0 ∧ a9 = 0 ∧ b0 = z32 ∧ b1 = 0 ∧ b2 = 0 ∧ r1 = 1) ∨ (¬ (a3 > (i64.wrap (a0 - a2))) ∧ ((b3 ≥ (u64.wrap a3) ∧ a1 = z32 ∧ a4 = 0 ∧ a7 = 0 ∧ a8 = 0 ∧ a9 = 0 ∧ b0 = z32 ∧ b1 = 0 ∧ b2 = 0 ∧ r1 = 1) ∨ (¬ (b3 ≥ (u64.wrap a3)) ∧ ((b4 > (u64.wrap a3) ∧ a1 = z32 ∧ a4 = 0 ∧ a7 = 0 ∧ a8 = 0 ∧ a9 = 0 ∧ b0 = z32 ∧ b1 = 0 ∧ b2 = 0 ∧ r1 = 1) ∨ (¬ (b4 > (u64.wrap a3)) ∧ ((a5 = 0 ∧ a1 = z32 ∧ a4 = 0 ∧ a7 = 0 ∧ a8 = 0 ∧ a9 = 0 ∧ b0 = z32 ∧ b1 = 0 ∧ b2 = 0 ∧ r1 = 1) ∨ (¬ (a5 = 0) ∧ ((a6 > 9223372036854775807 ∧ a1 = z32 ∧ a4 = 0 ∧ a7 = 0 ∧ a8 = 0 ∧ a9 = 0 ∧ b0 = z32 ∧ b1 = 0 ∧ b2 = 0 ∧ r1 = 1) ∨ (¬ (a6 > 9223372036854775807) ∧ a1 = l1 ∧ a4 = a2 ∧ a7 = u64.wrap a3 ∧ a8 = b3 ∧ a9 = b4 ∧ b0 = b5 ∧ b1 = a5 ∧ b2 = a6 ∧ r1 = 0))))))))))))))))
theorem reliquaryref13_New.calls (hl1 : lA.length = 32) (a0 : lB.length = 32) (H : reliquaryref13_New.rel iA lA iB iC iD iE lB iF iG lC iH iI iJ iK lD iL iM iN) :
  Calls prog 19 #[.int .i64 iA, .agg (iv .u8 lA).toArray, .int .i64 iB, .int .i64 iC, .agg ((cu iD) ++ ((cu iE) ++ iv .u8 lB)).toArray, .int .u64 iF, .int .u64 iG] w fun e w' => lC.length = 32 ∧ lD.length = 32 ∧ e = .returned (.tuple #[.agg (iv .u8 lC ++ ((ci iH) ++ ((cu iI) ++ ((cu iJ) ++ ((cu iK) ++ (iv .u8 lD ++ ((cu iL) ++ (cu iM)))))))).toArray, .int .i64 iN]) ∧ St w w' [] := by
 refine CW.en func19 rfl 65 [_, _, _, _, _, _, _] ?_
 refine CW.su [(0, _), (1, _), (2, _), (3, _), (4, _), (5, _), (6, _)] ?_
 have st0 := St.refl w
 refine cr (WL.box st0 rfl rfl ?_)
 intro a4 e5 d4
 refine WL.box d4 rfl rfl ?_
 intro a7 e6 d5
 refine WL.alloc d5 zero62 ?_
 intro a1 e7 a8
 refine WL.as rfl (wn (CW.seq (cr (WL.mv rfl (WL.v (Runs.lss rfl rfl rfl) (WL.mv rfl ?_))))))
 rcases H with ⟨c5, H⟩ | ⟨c5, H⟩
 ·have b3 := (decide_eq_true c5)
  iterate 2 (refine WL.off ?_ ?_; exact Wg 18 b3)
  refine WL.v (Runs.pick_t (evb rfl b3) rfl) (WL.mv rfl ?_)
  iterate 3 (refine WL.off ?_ ?_; exact Wg 22 rfl)
  refine WL.v (Runs.pick_t rfl rfl) (WL.mv rfl ?_)
  iterate 5 (refine WL.off ?_ ?_; exact Wg 27 rfl)
  refine WL.v (Runs.pick_t rfl rfl) (WL.mv rfl ?_)
  iterate 5 (refine WL.off ?_ ?_; exact Wg 34 rfl)
  refine WL.v (Runs.pick_t rfl rfl) (WL.mv rfl ?_)
  iterate 5 (refine WL.off ?_ ?_; exact Wg 41 rfl)
  refine WL.v (Runs.pick_t rfl rfl) (WL.mv rfl ?_)
  iterate 2 (refine WL.off ?_ ?_; exact Wg 48 rfl)
  refine WL.v (Runs.pick_t rfl rfl) (WL.mv rfl ?_)
  iterate 2 (refine WL.off ?_ ?_; exact Wg 52 rfl)
  refine WL.v (Runs.pick_t rfl rfl) (wn ?_)
  refine CW.su [(2, _), (3, _), (5, _), (6, _), (8, _), (11, _), (14, _), (15, _), (55, _)] ?_
  refine CW.ct rfl rfl (cr (WL.v (Runs.build_struct (ps := [(0, 32), (32, 1), (33, 1), (34, 34), (68, 1), (69, 1)]) (cs := (iv .u8 (z32) ++ ((ci 0) ++ ((cu 0) ++ ((cu 0) ++ ((cu 0) ++ (iv .u8 (z32) ++ ((cu 0) ++ (cu 0))))))))) plc62 zero62 rfl Fills.nil) (WL.sw 0 a8 row62 rfl rfl rfl ?_)))
  intro d6 b6
  try dsimp only [List.set] at b6
  refine WL.as rfl (wn (CW.ret (QW.then_r ?_)))
  obtain ⟨rfl, rfl, rfl, rfl, rfl, rfl, rfl, rfl, rfl⟩ := H
  exact QW.retr1 rfl row62 rfl b6 (i := 0) rfl (by simp [lv]) rfl ⟨(List.length_replicate ..), (List.length_replicate ..), rfl, b6.pick [] (by decide)⟩
 have b3 := (decide_eq_false c5)
 refine WL.on ?_ ?_; exact Wg 18 b3
 refine WL.mv rfl ?_
 refine WL.on ?_ ?_; exact Wg 18 b3
 refine WL.v (Runs.lss rfl rfl rfl) (WL.v (Runs.pick_f (evb rfl b3) rfl) (WL.mv rfl ?_))
 rcases H with ⟨c6, H⟩ | ⟨c6, H⟩
 ·have b2 := (decide_eq_true c6)
  iterate 3 (refine WL.off ?_ ?_; exact Wg 22 b2)
  refine WL.v (Runs.pick_t (evb rfl b2) rfl) (WL.mv rfl ?_)
  iterate 5 (refine WL.off ?_ ?_; exact Wg 27 rfl)
  refine WL.v (Runs.pick_t rfl rfl) (WL.mv rfl ?_)
  iterate 5 (refine WL.off ?_ ?_; exact Wg 34 rfl)
  refine WL.v (Runs.pick_t rfl rfl) (WL.mv rfl ?_)
  iterate 5 (refine WL.off ?_ ?_; exact Wg 41 rfl)
  refine WL.v (Runs.pick_t rfl rfl) (WL.mv rfl ?_)
  iterate 2 (refine WL.off ?_ ?_; exact Wg 48 rfl)
  refine WL.v (Runs.pick_t rfl rfl) (WL.mv rfl ?_)
  iterate 2 (refine WL.off ?_ ?_; exact Wg 52 rfl)
  refine WL.v (Runs.pick_t rfl rfl) (wn ?_)
  refine CW.su [(2, _), (3, _), (5, _), (6, _), (8, _), (11, _), (14, _), (15, _), (55, _)] ?_
  refine CW.ct rfl rfl (cr (WL.v (Runs.build_struct (ps := [(0, 32), (32, 1), (33, 1), (34, 34), (68, 1), (69, 1)]) (cs := (iv .u8 (z32) ++ ((ci 0) ++ ((cu 0) ++ ((cu 0) ++ ((cu 0) ++ (iv .u8 (z32) ++ ((cu 0) ++ (cu 0))))))))) plc62 zero62 rfl Fills.nil) (WL.sw 0 a8 row62 rfl rfl rfl ?_)))
  intro d7 b7
  try dsimp only [List.set] at b7
  refine WL.as rfl (wn (CW.ret (QW.then_r ?_)))
  obtain ⟨rfl, rfl, rfl, rfl, rfl, rfl, rfl, rfl, rfl⟩ := H
  exact QW.retr1 rfl row62 rfl b7 (i := 0) rfl (by simp [lv]) rfl ⟨(List.length_replicate ..), (List.length_replicate ..), rfl, b7.pick [] (by decide)⟩
 have b2 := (decide_eq_false c6)
 refine WL.on ?_ ?_; exact Wg 22 b2
 refine WL.mv rfl ?_
 refine WL.on ?_ ?_; exact Wg 22 b2
 refine WL.mv rfl ?_
 refine WL.on ?_ ?_; exact Wg 22 b2
 refine WL.v (Runs.gtr rfl rfl rfl) (WL.v (Runs.pick_f (evb rfl b2) rfl) (WL.mv rfl ?_))
 rcases H with ⟨c7, H⟩ | ⟨c7, H⟩
 ·have a9 := (decide_eq_true c7)
  iterate 5 (refine WL.off ?_ ?_; exact Wg 27 a9)
  refine WL.v (Runs.pick_t (evb rfl a9) rfl) (WL.mv rfl ?_)
  iterate 5 (refine WL.off ?_ ?_; exact Wg 34 rfl)
  refine WL.v (Runs.pick_t rfl rfl) (WL.mv rfl ?_)
  iterate 5 (refine WL.off ?_ ?_; exact Wg 41 rfl)
  refine WL.v (Runs.pick_t rfl rfl) (WL.mv rfl ?_)
  iterate 2 (refine WL.off ?_ ?_; exact Wg 48 rfl)
  refine WL.v (Runs.pick_t rfl rfl) (WL.mv rfl ?_)
  iterate 2 (refine WL.off ?_ ?_; exact Wg 52 rfl)
  refine WL.v (Runs.pick_t rfl rfl) (wn ?_)
  refine CW.su [(2, _), (3, _), (5, _), (6, _), (8, _), (11, _), (14, _), (15, _), (55, _)] ?_
  refine CW.ct rfl rfl (cr (WL.v (Runs.build_struct (ps := [(0, 32), (32, 1), (33, 1), (34, 34), (68, 1), (69, 1)]) (cs := (iv .u8 (z32) ++ ((ci 0) ++ ((cu 0) ++ ((cu 0) ++ ((cu 0) ++ (iv .u8 (z32) ++ ((cu 0) ++ (cu 0))))))))) plc62 zero62 rfl Fills.nil) (WL.sw 0 a8 row62 rfl rfl rfl ?_)))
  intro d8 b8
  try dsimp only [List.set] at b8
  refine WL.as rfl (wn (CW.ret (QW.then_r ?_)))
  obtain ⟨rfl, rfl, rfl, rfl, rfl, rfl, rfl, rfl, rfl⟩ := H
  exact QW.retr1 rfl row62 rfl b8 (i := 0) rfl (by simp [lv]) rfl ⟨(List.length_replicate ..), (List.length_replicate ..), rfl, b8.pick [] (by decide)⟩
 have a9 := (decide_eq_false c7)
 refine WL.on ?_ ?_; exact Wg 27 a9
 refine WL.mv rfl ?_
 refine WL.on ?_ ?_; exact Wg 27 a9
 refine WL.mv rfl ?_
 refine WL.on ?_ ?_; exact Wg 27 a9
 refine WL.mv rfl ?_
 refine WL.on ?_ ?_; exact Wg 27 a9
 refine WL.v (Runs.sub rfl rfl rfl) ?_
 refine WL.on ?_ ?_; exact Wg 27 a9
 refine WL.v (Runs.gtr rfl rfl rfl) (WL.v (Runs.pick_f (evb rfl a9) rfl) (WL.mv rfl ?_))
 rcases H with ⟨c8, H⟩ | ⟨c8, H⟩
 ·have b0 := (decide_eq_true c8)
  iterate 5 (refine WL.off ?_ ?_; exact Wg 34 b0)
  refine WL.v (Runs.pick_t (evb rfl b0) rfl) (WL.mv rfl ?_)
  iterate 5 (refine WL.off ?_ ?_; exact Wg 41 rfl)
  refine WL.v (Runs.pick_t rfl rfl) (WL.mv rfl ?_)
  iterate 2 (refine WL.off ?_ ?_; exact Wg 48 rfl)
  refine WL.v (Runs.pick_t rfl rfl) (WL.mv rfl ?_)
  iterate 2 (refine WL.off ?_ ?_; exact Wg 52 rfl)
  refine WL.v (Runs.pick_t rfl rfl) (wn ?_)
  refine CW.su [(2, _), (3, _), (5, _), (6, _), (8, _), (11, _), (14, _), (15, _), (55, _)] ?_
  refine CW.ct rfl rfl (cr (WL.v (Runs.build_struct (ps := [(0, 32), (32, 1), (33, 1), (34, 34), (68, 1), (69, 1)]) (cs := (iv .u8 (z32) ++ ((ci 0) ++ ((cu 0) ++ ((cu 0) ++ ((cu 0) ++ (iv .u8 (z32) ++ ((cu 0) ++ (cu 0))))))))) plc62 zero62 rfl Fills.nil) (WL.sw 0 a8 row62 rfl rfl rfl ?_)))
  intro d9 b9
  try dsimp only [List.set] at b9
  refine WL.as rfl (wn (CW.ret (QW.then_r ?_)))
  obtain ⟨rfl, rfl, rfl, rfl, rfl, rfl, rfl, rfl, rfl⟩ := H
  exact QW.retr1 rfl row62 rfl b9 (i := 0) rfl (by simp [lv]) rfl ⟨(List.length_replicate ..), (List.length_replicate ..), rfl, b9.pick [] (by decide)⟩
 have b0 := (decide_eq_false c8)
 refine WL.on ?_ ?_; exact Wg 34 b0
 refine WL.v (Runs.fieldAddr (off := 0) (p := 0) fld60_0 rfl rfl rfl) ?_
 refine WL.on ?_ ?_; exact Wg 34 b0
 refine WL.ld 1 nagg37 a8 rfl rfl (pa (.int .u64 iD) [] ((cu iE) ++ iv .u8 lB)) ?_
 refine WL.on ?_ ?_; exact Wg 34 b0
 refine WL.mv rfl ?_
 refine WL.on ?_ ?_; exact Wg 34 b0
 refine WL.v (Runs.conv underlying37 ⟨_, underlying3⟩ rfl rfl) ?_
 refine WL.on ?_ ?_; exact Wg 34 b0
 refine WL.v (Runs.geq rfl rfl rfl) (WL.v (Runs.pick_f (evb rfl b0) rfl) (WL.mv rfl ?_))
 rcases H with ⟨c9, H⟩ | ⟨c9, H⟩
 ·have b1 := (decide_eq_true c9)
  iterate 5 (refine WL.off ?_ ?_; exact Wg 41 b1)
  refine WL.v (Runs.pick_t (evb rfl b1) rfl) (WL.mv rfl ?_)
  iterate 2 (refine WL.off ?_ ?_; exact Wg 48 rfl)
  refine WL.v (Runs.pick_t rfl rfl) (WL.mv rfl ?_)
  iterate 2 (refine WL.off ?_ ?_; exact Wg 52 rfl)
  refine WL.v (Runs.pick_t rfl rfl) (wn ?_)
  refine CW.su [(2, _), (3, _), (5, _), (6, _), (8, _), (11, _), (14, _), (15, _), (55, _)] ?_
  refine CW.ct rfl rfl (cr (WL.v (Runs.build_struct (ps := [(0, 32), (32, 1), (33, 1), (34, 34), (68, 1), (69, 1)]) (cs := (iv .u8 (z32) ++ ((ci 0) ++ ((cu 0) ++ ((cu 0) ++ ((cu 0) ++ (iv .u8 (z32) ++ ((cu 0) ++ (cu 0))))))))) plc62 zero62 rfl Fills.nil) (WL.sw 0 a8 row62 rfl rfl rfl ?_)))
  intro e0 c0
  try dsimp only [List.set] at c0
  refine WL.as rfl (wn (CW.ret (QW.then_r ?_)))
  obtain ⟨rfl, rfl, rfl, rfl, rfl, rfl, rfl, rfl, rfl⟩ := H
  exact QW.retr1 rfl row62 rfl c0 (i := 0) rfl (by simp [lv]) rfl ⟨(List.length_replicate ..), (List.length_replicate ..), rfl, c0.pick [] (by decide)⟩
 have b1 := (decide_eq_false c9)
 refine WL.on ?_ ?_; exact Wg 41 b1
 refine WL.v (Runs.fieldAddr (off := 1) (p := 1) fld60_1 rfl rfl rfl) ?_
 refine WL.on ?_ ?_; exact Wg 41 b1
 refine WL.ld 1 nagg37 a8 rfl rfl (pa (.int .u64 iE) (cu iD) (iv .u8 lB)) ?_
 refine WL.on ?_ ?_; exact Wg 41 b1
 refine WL.mv rfl ?_
 refine WL.on ?_ ?_; exact Wg 41 b1
 refine WL.v (Runs.conv underlying37 ⟨_, underlying3⟩ rfl rfl) ?_
 refine WL.on ?_ ?_; exact Wg 41 b1
 refine WL.v (Runs.gtr rfl rfl rfl) (WL.v (Runs.pick_f (evb rfl b1) rfl) (WL.mv rfl ?_))
 rcases H with ⟨d0, H⟩ | ⟨d0, H⟩
 ·have b4 := (decide_eq_true d0)
  iterate 2 (refine WL.off ?_ ?_; exact Wg 48 b4)
  refine WL.v (Runs.pick_t (evb rfl b4) rfl) (WL.mv rfl ?_)
  iterate 2 (refine WL.off ?_ ?_; exact Wg 52 rfl)
  refine WL.v (Runs.pick_t rfl rfl) (wn ?_)
  refine CW.su [(2, _), (3, _), (5, _), (6, _), (8, _), (11, _), (14, _), (15, _), (55, _)] ?_
  refine CW.ct rfl rfl (cr (WL.v (Runs.build_struct (ps := [(0, 32), (32, 1), (33, 1), (34, 34), (68, 1), (69, 1)]) (cs := (iv .u8 (z32) ++ ((ci 0) ++ ((cu 0) ++ ((cu 0) ++ ((cu 0) ++ (iv .u8 (z32) ++ ((cu 0) ++ (cu 0))))))))) plc62 zero62 rfl Fills.nil) (WL.sw 0 a8 row62 rfl rfl rfl ?_)))
  intro e1 c1
  try dsimp only [List.set] at c1
  refine WL.as rfl (wn (CW.ret (QW.then_r ?_)))
  obtain ⟨rfl, rfl, rfl, rfl, rfl, rfl, rfl, rfl, rfl⟩ := H
  exact QW.retr1 rfl row62 rfl c1 (i := 0) rfl (by simp [lv]) rfl ⟨(List.length_replicate ..), (List.length_replicate ..), rfl, c1.pick [] (by decide)⟩
 have b4 := (decide_eq_false d0)
 refine WL.on ?_ ?_; exact Wg 48 b4
 refine WL.mv rfl ?_
 refine WL.on ?_ ?_; exact Wg 48 b4
 refine WL.v (Runs.eql rfl rfl rfl) (WL.v (Runs.pick_f (evb rfl b4) rfl) (WL.mv rfl ?_))
 rcases H with ⟨d1, H⟩ | ⟨d1, H⟩
 ·have b5 := (beq_iff_eq.mpr d1)
  iterate 2 (refine WL.off ?_ ?_; exact Wg 52 b5)
  refine WL.v (Runs.pick_t (evb rfl b5) rfl) (wn ?_)
  refine CW.su [(2, _), (3, _), (5, _), (6, _), (8, _), (11, _), (14, _), (15, _), (55, _)] ?_
  refine CW.ct rfl rfl (cr (WL.v (Runs.build_struct (ps := [(0, 32), (32, 1), (33, 1), (34, 34), (68, 1), (69, 1)]) (cs := (iv .u8 (z32) ++ ((ci 0) ++ ((cu 0) ++ ((cu 0) ++ ((cu 0) ++ (iv .u8 (z32) ++ ((cu 0) ++ (cu 0))))))))) plc62 zero62 rfl Fills.nil) (WL.sw 0 a8 row62 rfl rfl rfl ?_)))
  intro e2 c2
  try dsimp only [List.set] at c2
  refine WL.as rfl (wn (CW.ret (QW.then_r ?_)))
  obtain ⟨rfl, rfl, rfl, rfl, rfl, rfl, rfl, rfl, rfl⟩ := H
  exact QW.retr1 rfl row62 rfl c2 (i := 0) rfl (by simp [lv]) rfl ⟨(List.length_replicate ..), (List.length_replicate ..), rfl, c2.pick [] (by decide)⟩
 have b5 := (beq_eq_false_iff_ne.mpr d1)
 refine WL.on ?_ ?_; exact Wg 52 b5
 refine WL.mv rfl ?_
 refine WL.on ?_ ?_; exact Wg 52 b5
 refine WL.v (Runs.gtr rfl rfl rfl) (WL.v (Runs.pick_f (evb rfl b5) rfl) (wn ?_))
 refine CW.su [(2, _), (3, _), (5, _), (6, _), (8, _), (11, _), (14, _), (15, _), (55, _)] ?_
 rcases H with ⟨d2, H⟩ | ⟨d2, H⟩
 ·have d3 := (decide_eq_true d2)
  refine CW.ct rfl d3 (cr (WL.v (Runs.build_struct (ps := [(0, 32), (32, 1), (33, 1), (34, 34), (68, 1), (69, 1)]) (cs := (iv .u8 (z32) ++ ((ci 0) ++ ((cu 0) ++ ((cu 0) ++ ((cu 0) ++ (iv .u8 (z32) ++ ((cu 0) ++ (cu 0))))))))) plc62 zero62 rfl Fills.nil) (WL.sw 0 a8 row62 rfl rfl rfl ?_)))
  intro e3 c3
  try dsimp only [List.set] at c3
  refine WL.as rfl (wn (CW.ret (QW.then_r ?_)))
  obtain ⟨rfl, rfl, rfl, rfl, rfl, rfl, rfl, rfl, rfl⟩ := H
  exact QW.retr1 rfl row62 rfl c3 (i := 0) rfl (by simp [lv]) rfl ⟨(List.length_replicate ..), (List.length_replicate ..), rfl, c3.pick [] (by decide)⟩
 have d3 := (decide_eq_false d2)
 refine CW.cf rfl d3 (CW.skip (QW.then_n (cr (WL.v (Runs.load_arr arr23 rfl (a8.blk (i := 2) rfl) hl1) (WL.mv rfl (WL.mv rfl (WL.v (Runs.conv underlying37 ⟨_, underlying3⟩ rfl rfl) ?_)))))))
 refine WL.v (Runs.load_mid row60 rfl a8 (i := 1) rfl (pm [] ((cu iD) ++ ((cu iE) ++ iv .u8 lB)) [] (hm := by simp [lv, a0])) (by simp [lv, a0])) ?_
 refine WL.mv rfl (WL.mv rfl ?_)
 refine WL.v (Runs.build_seg (ps := [(0, 32), (32, 1), (33, 1), (34, 34), (68, 1), (69, 1)]) (cs := (iv .u8 lA ++ ((ci iB) ++ ((cu (u64.wrap iC)) ++ ((cu iD) ++ ((cu iE) ++ (iv .u8 lB ++ ((cu iF) ++ (cu iG))))))))) plc62 zero62 rfl (.cons (ms := (iv .u8 lA)) rfl (by simp [lv, hl1]) rfl (.cons (ms := ((ci iB))) rfl rfl rfl (.cons (ms := ((cu (u64.wrap iC)))) rfl rfl rfl (.cons (ms := ((cu iD) ++ ((cu iE) ++ iv .u8 lB))) rfl (by simp [lv, a0]) rfl (.cons (ms := ((cu iF))) rfl rfl rfl (.one rfl rfl)))))) (Eq.trans (b := 70) (by simp [lv]) (Eq.symm (by first | rfl | simp only [List.append_assoc, la, lc, ln, lv, hl1, a0]))) (by first | rfl | simp only [aa, an, na, ca])) ?_
 refine WL.sw 0 a8 row62 rfl rfl rfl (hm := by simp [lv, hl1, a0]) ?_
 intro e4 c4
 try dsimp only [List.set] at c4
 refine WL.as rfl (wn (CW.ret ?_))
 obtain ⟨rfl, rfl, rfl, rfl, rfl, rfl, rfl, rfl, rfl⟩ := H
 exact QW.retr1 rfl row62 rfl c4 (i := 0) rfl (by simp [lv, hl1, a0]) rfl ⟨hl1, a0, rfl, c4.pick [] (by decide)⟩
def reliquarylaw13_images.L2 (l0 a3 : List R42) (a0 : Int) (K_L1 : (List R42) → Int → Prop) : Nat → (List Int) → Int → Prop
 | 0, _, _ => False
 | kL2 + 1, a2, a1 => ((0 ≤ a0 ∧ a0 < (l0.length : Int)) ∧ ((a1 < (((gx l0 (a0.toNat)).2).length : Int) ∧ ((a1 < 159 ∧ ((0 ≤ a0 ∧ a0 < (l0.length : Int)) ∧ ((0 ≤ a1 ∧ a1 < (((gx l0 (a0.toNat)).2).length : Int)) ∧ ((0 ≤ a1 ∧ a1 < (a2.length : Int)) ∧ (∃ a6 : List Int, a6 = List.set a2 (a1.toNat) (gn ((gx l0 (a0.toNat)).2) (a1.toNat)) ∧ reliquarylaw13_images.L2 l0 a3 a0 K_L1 kL2 a6 (i64.wrap (a1 + 1))))))) ∨ (¬ (a1 < 159) ∧ ((0 ≤ a0 ∧ a0 < (l0.length : Int)) ∧ (∃ a4 : List R42, a4 = a3 ++ ([((gx l0 (a0.toNat)).1, a2)] : List R42) ∧ (a4.length ≤ 1099511627776 ∧ K_L1 a4 (i64.wrap (a0 + 1)))))))) ∨ (¬ (a1 < (((gx l0 (a0.toNat)).2).length : Int)) ∧ ((0 ≤ a0 ∧ a0 < (l0.length : Int)) ∧ (∃ a5 : List R42, a5 = a3 ++ ([((gx l0 (a0.toNat)).1, a2)] : List R42) ∧ (a5.length ≤ 1099511627776 ∧ K_L1 a5 (i64.wrap (a0 + 1))))))))
def reliquarylaw13_images.L3 (l0 a3 : List R42) (a0 : Int) (K_L1 : (List R42) → Int → Prop) : Nat → (List Int) → Int → Prop
 | 0, _, _ => False
 | kL3 + 1, a2, a1 => ((0 ≤ a0 ∧ a0 < (l0.length : Int)) ∧ ((a1 < (((gx l0 (a0.toNat)).2).length : Int) ∧ ((a1 < 160 ∧ ((0 ≤ a0 ∧ a0 < (l0.length : Int)) ∧ ((0 ≤ a1 ∧ a1 < (((gx l0 (a0.toNat)).2).length : Int)) ∧ ((0 ≤ a1 ∧ a1 < (a2.length : Int)) ∧ (∃ a6 : List Int, a6 = List.set a2 (a1.toNat) (gn ((gx l0 (a0.toNat)).2) (a1.toNat)) ∧ reliquarylaw13_images.L3 l0 a3 a0 K_L1 kL3 a6 (i64.wrap (a1 + 1))))))) ∨ (¬ (a1 < 160) ∧ ((0 ≤ a0 ∧ a0 < (l0.length : Int)) ∧ (∃ a4 : List R42, a4 = a3 ++ ([((gx l0 (a0.toNat)).1, a2)] : List R42) ∧ (a4.length ≤ 1099511627776 ∧ K_L1 a4 (i64.wrap (a0 + 1)))))))) ∨ (¬ (a1 < (((gx l0 (a0.toNat)).2).length : Int)) ∧ ((0 ≤ a0 ∧ a0 < (l0.length : Int)) ∧ (∃ a5 : List R42, a5 = a3 ++ ([((gx l0 (a0.toNat)).1, a2)] : List R42) ∧ (a5.length ≤ 1099511627776 ∧ K_L1 a5 (i64.wrap (a0 + 1))))))))
def reliquarylaw13_images.L4 (l0 a3 : List R42) (a0 : Int) (K_L1 : (List R42) → Int → Prop) : Nat → (List Int) → Int → Prop
 | 0, _, _ => False
 | kL4 + 1, a2, a1 => ((0 ≤ a0 ∧ a0 < (l0.length : Int)) ∧ ((a1 < (((gx l0 (a0.toNat)).2).length : Int) ∧ ((a1 < 160 ∧ ((0 ≤ a0 ∧ a0 < (l0.length : Int)) ∧ ((0 ≤ a1 ∧ a1 < (((gx l0 (a0.toNat)).2).length : Int)) ∧ ((0 ≤ a1 ∧ a1 < (a2.length : Int)) ∧ (∃ a6 : List Int, a6 = List.set a2 (a1.toNat) (gn ((gx l0 (a0.toNat)).2) (a1.toNat)) ∧ reliquarylaw13_images.L4 l0 a3 a0 K_L1 kL4 a6 (i64.wrap (a1 + 1))))))) ∨ (¬ (a1 < 160) ∧ ((0 ≤ a0 ∧ a0 < (l0.length : Int)) ∧ (∃ a4 : List R42, a4 = a3 ++ ([((gx l0 (a0.toNat)).1, a2)] : List R42) ∧ (a4.length ≤ 1099511627776 ∧ K_L1 a4 (i64.wrap (a0 + 1)))))))) ∨ (¬ (a1 < (((gx l0 (a0.toNat)).2).length : Int)) ∧ ((0 ≤ a0 ∧ a0 < (l0.length : Int)) ∧ (∃ a5 : List R42, a5 = a3 ++ ([((gx l0 (a0.toNat)).1, a2)] : List R42) ∧ (a5.length ≤ 1099511627776 ∧ K_L1 a5 (i64.wrap (a0 + 1))))))))
def reliquarylaw13_images.L1 (l0 : List R42) (a1 : Bool) (lr0 : List R42) : Nat → (List R42) → Int → Prop
 | 0, _, _ => False
 | kL1 + 1, a2, a0 => ((a0 < (l0.length : Int) ∧ ((a1 = true ∧ ((a0 = 1 ∧ (∃ k_ : Nat, reliquarylaw13_images.L2 l0 a2 a0 (reliquarylaw13_images.L1 l0 a1 lr0 kL1) k_ (List.replicate 159 (0 : Int)) 0)) ∨ (¬ (a0 = 1) ∧ (∃ k_ : Nat, reliquarylaw13_images.L3 l0 a2 a0 (reliquarylaw13_images.L1 l0 a1 lr0 kL1) k_ (List.replicate 160 (0 : Int)) 0)))) ∨ (¬ (a1 = true) ∧ (∃ k_ : Nat, reliquarylaw13_images.L4 l0 a2 a0 (reliquarylaw13_images.L1 l0 a1 lr0 kL1) k_ (List.replicate 160 (0 : Int)) 0)))) ∨ (¬ (a0 < (l0.length : Int)) ∧ lr0 = a2))
def reliquarylaw13_images.rel (l0 : List R42) (a1 : Bool) (lr0 : List R42) : Prop := (∃ k_ : Nat, reliquarylaw13_images.L1 l0 a1 lr0 k_ ([] : List R42) 0)
theorem reliquarylaw13_images.calls (T : Pool) (st0 : St w w1 ((T ++ R))) (hb0 : HS w (T ++ R) T pA nA nB (f42 w) tA) (H : reliquarylaw13_images.rel tA bA tB) :
  Calls prog 20 #[.slice pA nA nB, .bool bA] w1 fun e w' => ∃ T' Ar0 nr0 cr0 xr0, Pl T T' ∧ nr0 = tB.length ∧ HRs T' (f42 w) xr0 tB ∧ e = .returned (.slice Ar0 nr0 cr0) ∧ St w w' (.sl Ar0 cr0 nr0 xr0 42 2 :: (T' ++ R)) := by
 refine CW.en func20 rfl 60 [_, _] (CW.sub [(0, _), (1, _)] ⟨rfl, rfl, trivial⟩ (cr (WL.as rfl (WL.nx (WL.as rfl (wn (CW.seq (cr (WL.as rfl (wn (CW.block ?_)))))))))))
 have g5 := st0.nil_sl 42 2
 have g5 : St w w1 (.sl none 0 0 ([] : Cs) 42 2 :: (T ++ R)) := g5
 obtain ⟨x1, H⟩ := H
 refine CW.su [(0, _), (1, _), (4, _), (5, _), (6, _)] ?_
 refine CW.lp (fun kL1 l_ w_ => ∃ b9 a4 a5 a2 a6 c4 a0, l_ = [(0, .slice pA nA nB), (1, .bool bA), (4, .slice none 0 0), (5, .slice a4 a2 a5), (6, .int .i64 a0)] ∧ reliquarylaw13_images.L1 tA bA tB kL1 c4 a0 ∧ (Pl T b9) ∧ (a2 = c4.length) ∧ (HRs b9 (f42 w) a6 c4) ∧ St w w_ (.sl a4 a5 a2 a6 42 2 :: (b9 ++ R))) (k := x1) ⟨T, none, 0, 0, ([] : Cs), ([] : List R42), 0, rfl, H, Pl.refl, rfl, (HRs.nil : HRs T (f42 w) [] []), g5⟩ ?_
 rintro kL1 Q9 R0 ⟨b9, a4, a5, a2, a6, c4, a0, rfl, H, a3, d4, d5, f2⟩
 refine CW.seq (cr (WL.mv rfl (WL.mv rfl ?_)))
 refine WL.v (Runs.len_sl underlying40 rfl (by rw [hb0.1])) ?_
 refine WL.v (Runs.lss rfl rfl rfl) (wn ?_)
 rcases H with ⟨g6, H⟩ | ⟨g6, H⟩
 ·have g7 := (decide_eq_true g6)
  refine CW.ct rfl g7 (CW.skip (QW.then_n (CW.seq (CW.block (cr (WL.as rfl (wn (CW.seq (cr (WL.mv rfl (WL.mv rfl ?_)))))))))))
  rcases H with ⟨g8, H⟩ | ⟨g8, H⟩
  ·have d6 : bA = true := g8
   refine WL.on ?_ ?_; exact Wg 17 d6
   refine WL.mv rfl ?_
   refine WL.on ?_ ?_; exact Wg 17 d6
   refine WL.v (Runs.eql rfl rfl rfl) (WL.v (Runs.pick_t (evb rfl d6) rfl) (wn ?_))
   rcases H with ⟨g9, H⟩ | ⟨g9, H⟩
   ·have h0 := (beq_iff_eq.mpr g9)
    refine CW.ct rfl h0 (CW.region (WL.as rfl (WL.nx (WL.mv rfl ?_))))
    refine WL.make f2 underlying25 elem5 rfl rfl (by decide) (by decide) (by decide) (N := 159) rfl ?_
    intro a7 x2 f3
    replace f3 : St w x2 (.sl (sp a7) 159 159 (iv .u8 (List.replicate 159 (0 : Int))) 5 1 :: .sl a4 a5 a2 a6 42 2 :: (b9 ++ R)) := by rw [iv_replicate] at f3; exact f3
    have x3 : 159 = (List.replicate 159 (0 : Int)).length := by simp
    refine WL.as rfl (wn (CW.seq (cr (WL.as rfl (wn (CW.block ?_))))))
    obtain ⟨x4, H⟩ := H
    refine CW.su [(0, _), (1, _), (4, _), (5, _), (6, _), (10, _), (11, _), (12, _), (13, _), (7, _), (16, _), (17, _), (18, _), (19, _), (20, _), (21, _), (22, _), (8, _), (9, _)] ?_
    refine CW.lp (fun kL2 l_ w_ => ∃ d7 b6 c1, l_ = [(0, .slice pA nA nB), (1, .bool bA), (4, .slice none 0 0), (5, .slice a4 a2 a5), (6, .int .i64 a0), (10, .int .i64 a0), (11, .slice pA nA nB), (12, .int .i64 (tA.length : Int)), (13, .bool (decide (a0 < (tA.length : Int)))), (7, .int .i64 159), (16, .bool bA), (17, .bool bA), (18, .int .i64 a0), (19, .bool (a0 == 1)), (20, .bool (a0 == 1)), (21, .int .i64 159), (22, .slice (sp a7) 159 159), (8, .slice (sp a7) 159 159), (9, .int .i64 c1)] ∧ reliquarylaw13_images.L2 tA c4 a0 (reliquarylaw13_images.L1 tA bA tB kL1) kL2 b6 c1 ∧ (Pl b9 d7) ∧ (159 = b6.length) ∧ St w w_ (.sl (sp a7) 159 159 (iv .u8 b6) 5 1 :: .sl a4 a5 a2 a6 42 2 :: (d7 ++ R))) (k := x4) ⟨b9, List.replicate 159 (0 : Int), 0, rfl, H, Pl.refl, x3, f3⟩ ?_
    rintro kL2 R1 p1 ⟨d7, b6, c1, rfl, H, a8, f4, b3⟩
    refine CW.seq (cr (WL.mv rfl (WL.mv rfl (WL.mv rfl ?_))))
    obtain ⟨⟨x5, x6⟩, H⟩ := H
    obtain ⟨R2, p2, x7⟩ := hb0.2.2
    obtain ⟨R3, p3, x8, x9, y0⟩ := el_get (i := (a0).toNat) ((p2.at b3 (mem_TR (A := [_, _]) (a3.trans a8).1))) (x7.mono (a3.trans a8).1) (fz42 w) (by decide) (by omega)
    obtain ⟨y1, y2, y3, h1, y4⟩ := inv42 y0
    replace h1 : x8 = (cu ((gx tA (a0.toNat)).1)) ++ (cl y1 y2 y3) := h1
    subst h1
    refine WL.v (Runs.indexAddr underlying40 cells42 (by decide) rfl p3 rfl x5 (by rw [show nA = tA.length from hb0.1]; exact x6) (o := (a0.toNat) * 2) (by first | rfl | omega)) ?_
    refine WL.v (Runs.fieldAddrB (off := 1) fld42_1 rfl rfl rfl) ?_
    refine WL.v (Runs.load nagg25 rfl (Src.cellAt (j := 1) (Src.cut ((p2.at b3 (mem_TR (A := [_, _]) (a3.trans a8).1))) p3 x9) rfl)) ?_
    refine WL.v (Runs.len_sl underlying25 rfl (by rw [y4.1])) ?_
    refine WL.v (Runs.lss rfl rfl rfl) (WL.mv rfl ?_)
    rcases H with ⟨h2, H⟩ | ⟨h2, H⟩
    ·have c5 := (decide_eq_true h2)
     refine WL.on ?_ ?_; exact Wg 31 c5
     refine WL.mv rfl ?_
     refine WL.on ?_ ?_; exact Wg 31 c5
     refine WL.mv rfl ?_
     refine WL.on ?_ ?_; exact Wg 31 c5
     refine WL.v (Runs.lss rfl rfl rfl) (WL.v (Runs.pick_t (evb rfl c5) rfl) (wn ?_))
     rcases H with ⟨h3, H⟩ | ⟨h3, H⟩
     ·have h4 := (decide_eq_true h3)
      refine CW.ct rfl h4 (CW.skip (QW.then_n (CW.seq (CW.block (CW.region (WL.mv rfl (WL.mv rfl (WL.mv rfl (WL.mv rfl ?_)))))))))
      obtain ⟨⟨y5, y6⟩, H⟩ := H
      obtain ⟨R4, p4, y7⟩ := hb0.2.2
      obtain ⟨R5, p5, y8, y9, z0⟩ := el_get (i := (a0).toNat) ((p4.at b3 (mem_TR (A := [_, _]) (a3.trans a8).1))) (y7.mono (a3.trans a8).1) (fz42 w) (by decide) (by omega)
      obtain ⟨z1, z2, z3, h5, h6⟩ := inv42 z0
      replace h5 : y8 = (cu ((gx tA (a0.toNat)).1)) ++ (cl z1 z2 z3) := h5
      subst h5
      refine WL.v (Runs.indexAddr underlying40 cells42 (by decide) rfl p5 rfl y5 (by rw [show nA = tA.length from hb0.1]; exact y6) (o := (a0.toNat) * 2) (by first | rfl | omega)) ?_
      refine WL.v (Runs.fieldAddrB (off := 1) fld42_1 rfl rfl rfl) ?_
      refine WL.v (Runs.load nagg25 rfl (Src.cellAt (j := 1) (Src.cut ((p4.at b3 (mem_TR (A := [_, _]) (a3.trans a8).1))) p5 y9) rfl)) ?_
      refine WL.mv rfl ?_
      obtain ⟨⟨z4, z5⟩, H⟩ := H
      obtain ⟨R6, p6⟩ := ((h6.2.2.at b3 (mem_T (A := [_, _]) ii))).addr_iv (c1.toNat) (by omega)
      refine WL.v (Runs.indexAddr underlying25 cells5 (by decide) rfl p6 rfl z4 (by rw [h6.1]; exact z5) (o := (c1).toNat) (by first | rfl | omega)) ?_
      refine WL.v (Runs.load nagg5 rfl (((h6.2.2.at b3 (mem_T (A := [_, _]) ii))).cell_iv p6 (by omega))) ?_
      obtain ⟨⟨z6, z7⟩, H⟩ := H
      obtain ⟨R7, p7⟩ := (b3.src_sl (k := 0) rfl).addr_iv (c1.toNat) (by omega)
      refine WL.v (Runs.indexAddr underlying25 cells5 (by decide) rfl p7 rfl z6 (by rw [f4]; exact z7) (o := (c1).toNat) (by first | rfl | omega)) ?_
      obtain ⟨h7, p8, H⟩ := H
      refine WL.store_sl (i := 0) b3 rfl cells5 rfl p7 (by rw [iv_length]; omega) rfl rfl ?_
      intro z8 h8
      have z9 : 159 = h7.length := by rw [p8, List.length_set]; exact f4
      have h8' := h8; (try dsimp only [List.set, ec, en] at h8'); rw [iv_set .u8 b6 (c1.toNat) (gn ((gx tA (a0.toNat)).2) (c1.toNat)), ← p8] at h8'
      refine WL.nil (QW.blk_n (QW.then_n (CW.region (WL.mv rfl (WL.v (Runs.add rfl rfl rfl) (WL.as rfl (WL.nil ?_)))))))
      exact QW.a ⟨d7, h7, i64.wrap (c1 + 1), rfl, H, a8, z9, h8'⟩
     have h4 := (decide_eq_false h3)
     refine CW.cf rfl h4 (CW.exit (QW.then_x (QW.then_x (QW.blk_x (QW.then_n (CW.region (WL.mv rfl (WL.mv rfl (WL.mv rfl ?_)))))))))
     obtain ⟨⟨A1, A2⟩, H⟩ := H
     obtain ⟨R8, p9, A3⟩ := hb0.2.2
     obtain ⟨R9, q0, A4, A5, A6⟩ := el_get (i := (a0).toNat) ((p9.at b3 (mem_TR (A := [_, _]) (a3.trans a8).1))) (A3.mono (a3.trans a8).1) (fz42 w) (by decide) (by omega)
     obtain ⟨A7, A8, A9, h9, S0⟩ := inv42 A6
     replace h9 : A4 = (cu ((gx tA (a0.toNat)).1)) ++ (cl A7 A8 A9) := h9
     subst h9
     refine WL.v (Runs.indexAddr underlying40 cells42 (by decide) rfl q0 rfl A1 (by rw [show nA = tA.length from hb0.1]; exact A2) (o := (a0.toNat) * 2) (by first | rfl | omega)) ?_
     refine WL.v (Runs.fieldAddrB (off := 0) fld42_0 rfl rfl rfl) ?_
     refine WL.v (Runs.load nagg37 rfl (Src.cellAt (j := 0) (Src.cut ((p9.at b3 (mem_TR (A := [_, _]) (a3.trans a8).1))) q0 A5) rfl)) ?_
     refine WL.mv rfl (WL.v (Runs.build_seg (ps := [(0, 1), (1, 1)]) (cs := ((cu ((gx tA (a0.toNat)).1)) ++ (cl (sp a7) 159 159))) plc42 zero42 rfl (.cons (ms := ((cu ((gx tA (a0.toNat)).1)))) rfl rfl rfl (.one rfl rfl)) rfl rfl) ?_)
     have hb_103c := b3.cap (i := 0) rfl
     obtain ⟨c8, q1, B0, i0⟩ := St.freeze (A := []) (B := [_]) (T := d7) (R := R) b3
     have B1 : HB w c8 (sp a7) 159 159 (iv .u8 b6) b6.length := ⟨f4, hb_103c, Hd.of_sl B0⟩
     try dsimp only [List.set, ec, en] at i0
     obtain ⟨S1, S2, B2, B3, B4, B5⟩ := slr42_1
     refine WL.buildSlSg (sz := 2) (cs := ((cu ((gx tA (a0.toNat)).1)) ++ (cl (sp a7) 159 159))) i0 underlying40 B2 B3 B4 (by decide) (by decide) B5 rfl (.one rfl rfl) rfl rfl ?_
     intro i1 q2 i2
     try dsimp only [List.set, ec, en] at i2
     have f5 := St.rows_sl (i := 0) (m := 1) (size := 2) i2 rfl rfl (by decide)
     obtain ⟨e0, q3⟩ : ∃ x_ : Cs, x_ = (cu ((gx tA (a0.toNat)).1)) ++ (cl (sp a7) 159 159) := ⟨_, rfl⟩
     have i3 : HRs c8 (f42 w) e0 ([((gx tA (a0.toNat)).1, b6)] : List R42) := by rw [q3]; exact (HRs.one (.cons rfl (.cons ⟨_, _, _, rfl, B1⟩ .nil)))
     (try dsimp only [List.set, ec, en] at f5); rw [← q3] at f5
     obtain ⟨i4, q4, H⟩ := H
     obtain ⟨B6, H⟩ := H
     obtain ⟨i5, i6⟩ : ∃ n_ : Nat, n_ = i4.length := ⟨_, rfl⟩
     refine WL.appendR (i := 1) (N := i5) (news := e0) Wanted.none f5 rfl underlying40 elemS42 rfl rfl (f5.src_sl (k := 0) rfl) (by have h1_ := (i3).length (fz42 w); have h2_ : 1 = ([((gx tA (a0.toNat)).1, b6)] : List R42).length := rfl; rw [h1_, h2_]) (HLs.one i3) (by decide) (by have h1_ : a2 = c4.length := d4; have h2_ : 1 = ([((gx tA (a0.toNat)).1, b6)] : List R42).length := rfl; rw [i6, q4, List.length_append]; omega) (by rw [i6]; exact B6) ?_
     intro q5 q6 B7 e1
     obtain ⟨i7, q7⟩ : ∃ x_ : Cs, x_ = a6 ++ e0 := ⟨_, rfl⟩
     have B8 : HRs c8 (f42 w) i7 i4 := by rw [q7, q4]; exact HRs.append (d5.mono (a8.trans q1).1) i3
     (try dsimp only [List.set, ec, en] at e1); rw [← q7] at e1
     refine WL.as rfl (WL.nil (QW.blk_n (QW.then_n (CW.region (WL.mv rfl (WL.v (Runs.add rfl rfl rfl) (WL.as rfl (WL.nil ?_))))))))
     have e1' := (St.pk (L := [_, _]) e1 [1])
     exact QW.a ⟨c8, q5, q6, i5, i7, i4, i64.wrap (a0 + 1), rfl, H, ((a3.trans a8).trans q1), i6, B8, e1'⟩
    have c5 := (decide_eq_false h2)
    iterate 3 (refine WL.off ?_ ?_; exact Wg 31 c5)
    refine WL.v (Runs.pick_f (evb rfl c5) rfl) (wn (CW.cf rfl rfl (CW.exit (QW.then_x (QW.then_x (QW.blk_x (QW.then_n (CW.region (WL.mv rfl (WL.mv rfl (WL.mv rfl ?_)))))))))))
    obtain ⟨⟨B9, C0⟩, H⟩ := H
    obtain ⟨S3, q8, C1⟩ := hb0.2.2
    obtain ⟨S4, q9, C2, C3, C4⟩ := el_get (i := (a0).toNat) ((q8.at b3 (mem_TR (A := [_, _]) (a3.trans a8).1))) (C1.mono (a3.trans a8).1) (fz42 w) (by decide) (by omega)
    obtain ⟨C5, C6, C7, i8, S5⟩ := inv42 C4
    replace i8 : C2 = (cu ((gx tA (a0.toNat)).1)) ++ (cl C5 C6 C7) := i8
    subst i8
    refine WL.v (Runs.indexAddr underlying40 cells42 (by decide) rfl q9 rfl B9 (by rw [show nA = tA.length from hb0.1]; exact C0) (o := (a0.toNat) * 2) (by first | rfl | omega)) ?_
    refine WL.v (Runs.fieldAddrB (off := 0) fld42_0 rfl rfl rfl) ?_
    refine WL.v (Runs.load nagg37 rfl (Src.cellAt (j := 0) (Src.cut ((q8.at b3 (mem_TR (A := [_, _]) (a3.trans a8).1))) q9 C3) rfl)) ?_
    refine WL.mv rfl (WL.v (Runs.build_seg (ps := [(0, 1), (1, 1)]) (cs := ((cu ((gx tA (a0.toNat)).1)) ++ (cl (sp a7) 159 159))) plc42 zero42 rfl (.cons (ms := ((cu ((gx tA (a0.toNat)).1)))) rfl rfl rfl (.one rfl rfl)) rfl rfl) ?_)
    have hb_149c := b3.cap (i := 0) rfl
    obtain ⟨c9, r0, C8, i9⟩ := St.freeze (A := []) (B := [_]) (T := d7) (R := R) b3
    have C9 : HB w c9 (sp a7) 159 159 (iv .u8 b6) b6.length := ⟨f4, hb_149c, Hd.of_sl C8⟩
    try dsimp only [List.set, ec, en] at i9
    obtain ⟨S6, S7, D0, D1, D2, D3⟩ := slr42_1
    refine WL.buildSlSg (sz := 2) (cs := ((cu ((gx tA (a0.toNat)).1)) ++ (cl (sp a7) 159 159))) i9 underlying40 D0 D1 D2 (by decide) (by decide) D3 rfl (.one rfl rfl) rfl rfl ?_
    intro j0 r1 j1
    try dsimp only [List.set, ec, en] at j1
    have f6 := St.rows_sl (i := 0) (m := 1) (size := 2) j1 rfl rfl (by decide)
    obtain ⟨e2, r2⟩ : ∃ x_ : Cs, x_ = (cu ((gx tA (a0.toNat)).1)) ++ (cl (sp a7) 159 159) := ⟨_, rfl⟩
    have j2 : HRs c9 (f42 w) e2 ([((gx tA (a0.toNat)).1, b6)] : List R42) := by rw [r2]; exact (HRs.one (.cons rfl (.cons ⟨_, _, _, rfl, C9⟩ .nil)))
    (try dsimp only [List.set, ec, en] at f6); rw [← r2] at f6
    obtain ⟨j3, r3, H⟩ := H
    obtain ⟨D4, H⟩ := H
    obtain ⟨j4, j5⟩ : ∃ n_ : Nat, n_ = j3.length := ⟨_, rfl⟩
    refine WL.appendR (i := 1) (N := j4) (news := e2) Wanted.none f6 rfl underlying40 elemS42 rfl rfl (f6.src_sl (k := 0) rfl) (by have h1_ := (j2).length (fz42 w); have h2_ : 1 = ([((gx tA (a0.toNat)).1, b6)] : List R42).length := rfl; rw [h1_, h2_]) (HLs.one j2) (by decide) (by have h1_ : a2 = c4.length := d4; have h2_ : 1 = ([((gx tA (a0.toNat)).1, b6)] : List R42).length := rfl; rw [j5, r3, List.length_append]; omega) (by rw [j5]; exact D4) ?_
    intro r4 r5 D5 e3
    obtain ⟨j6, r6⟩ : ∃ x_ : Cs, x_ = a6 ++ e2 := ⟨_, rfl⟩
    have D6 : HRs c9 (f42 w) j6 j3 := by rw [r6, r3]; exact HRs.append (d5.mono (a8.trans r0).1) j2
    (try dsimp only [List.set, ec, en] at e3); rw [← r6] at e3
    refine WL.as rfl (WL.nil (QW.blk_n (QW.then_n (CW.region (WL.mv rfl (WL.v (Runs.add rfl rfl rfl) (WL.as rfl (WL.nil ?_))))))))
    have e3' := (St.pk (L := [_, _]) e3 [1])
    exact QW.a ⟨c9, r4, r5, j4, j6, j3, i64.wrap (a0 + 1), rfl, H, ((a3.trans a8).trans r0), j5, D6, e3'⟩
   have h0 := (beq_eq_false_iff_ne.mpr g9)
   refine CW.cf rfl h0 (CW.skip (QW.then_n (cr (WL.mv rfl ?_))))
   refine WL.make f2 underlying25 elem5 rfl rfl (by decide) (by decide) (by decide) (N := 160) rfl ?_
   intro a9 D7 f7
   replace f7 : St w D7 (.sl (sp a9) 160 160 (iv .u8 (List.replicate 160 (0 : Int))) 5 1 :: .sl a4 a5 a2 a6 42 2 :: (b9 ++ R)) := by rw [iv_replicate] at f7; exact f7
   have D8 : 160 = (List.replicate 160 (0 : Int)).length := by simp
   refine WL.as rfl (wn (CW.seq (cr (WL.as rfl (wn (CW.block ?_))))))
   obtain ⟨D9, H⟩ := H
   refine CW.su [(0, _), (1, _), (4, _), (5, _), (6, _), (10, _), (11, _), (12, _), (13, _), (7, _), (16, _), (17, _), (18, _), (19, _), (20, _), (21, _), (22, _), (8, _), (9, _)] ?_
   refine CW.lp (fun kL3 l_ w_ => ∃ d8 b7 c2, l_ = [(0, .slice pA nA nB), (1, .bool bA), (4, .slice none 0 0), (5, .slice a4 a2 a5), (6, .int .i64 a0), (10, .int .i64 a0), (11, .slice pA nA nB), (12, .int .i64 (tA.length : Int)), (13, .bool (decide (a0 < (tA.length : Int)))), (7, .int .i64 160), (16, .bool bA), (17, .bool bA), (18, .int .i64 a0), (19, .bool (a0 == 1)), (20, .bool (a0 == 1)), (21, .int .i64 160), (22, .slice (sp a9) 160 160), (8, .slice (sp a9) 160 160), (9, .int .i64 c2)] ∧ reliquarylaw13_images.L3 tA c4 a0 (reliquarylaw13_images.L1 tA bA tB kL1) kL3 b7 c2 ∧ (Pl b9 d8) ∧ (160 = b7.length) ∧ St w w_ (.sl (sp a9) 160 160 (iv .u8 b7) 5 1 :: .sl a4 a5 a2 a6 42 2 :: (d8 ++ R))) (k := D9) ⟨b9, List.replicate 160 (0 : Int), 0, rfl, H, Pl.refl, D8, f7⟩ ?_
   rintro kL3 S8 r7 ⟨d8, b7, c2, rfl, H, b0, f8, b4⟩
   refine CW.seq (cr (WL.mv rfl (WL.mv rfl (WL.mv rfl ?_))))
   obtain ⟨⟨E0, E1⟩, H⟩ := H
   obtain ⟨S9, r8, E2⟩ := hb0.2.2
   obtain ⟨T0, r9, E3, E4, E5⟩ := el_get (i := (a0).toNat) ((r8.at b4 (mem_TR (A := [_, _]) (a3.trans b0).1))) (E2.mono (a3.trans b0).1) (fz42 w) (by decide) (by omega)
   obtain ⟨E6, E7, E8, j7, E9⟩ := inv42 E5
   replace j7 : E3 = (cu ((gx tA (a0.toNat)).1)) ++ (cl E6 E7 E8) := j7
   subst j7
   refine WL.v (Runs.indexAddr underlying40 cells42 (by decide) rfl r9 rfl E0 (by rw [show nA = tA.length from hb0.1]; exact E1) (o := (a0.toNat) * 2) (by first | rfl | omega)) ?_
   refine WL.v (Runs.fieldAddrB (off := 1) fld42_1 rfl rfl rfl) ?_
   refine WL.v (Runs.load nagg25 rfl (Src.cellAt (j := 1) (Src.cut ((r8.at b4 (mem_TR (A := [_, _]) (a3.trans b0).1))) r9 E4) rfl)) ?_
   refine WL.v (Runs.len_sl underlying25 rfl (by rw [E9.1])) ?_
   refine WL.v (Runs.lss rfl rfl rfl) (WL.mv rfl ?_)
   rcases H with ⟨j8, H⟩ | ⟨j8, H⟩
   ·have c6 := (decide_eq_true j8)
    refine WL.on ?_ ?_; exact Wg 31 c6
    refine WL.mv rfl ?_
    refine WL.on ?_ ?_; exact Wg 31 c6
    refine WL.mv rfl ?_
    refine WL.on ?_ ?_; exact Wg 31 c6
    refine WL.v (Runs.lss rfl rfl rfl) (WL.v (Runs.pick_t (evb rfl c6) rfl) (wn ?_))
    rcases H with ⟨j9, H⟩ | ⟨j9, H⟩
    ·have k0 := (decide_eq_true j9)
     refine CW.ct rfl k0 (CW.skip (QW.then_n (CW.seq (CW.block (CW.region (WL.mv rfl (WL.mv rfl (WL.mv rfl (WL.mv rfl ?_)))))))))
     obtain ⟨⟨F0, F1⟩, H⟩ := H
     obtain ⟨T1, s0, F2⟩ := hb0.2.2
     obtain ⟨T2, s1, F3, F4, F5⟩ := el_get (i := (a0).toNat) ((s0.at b4 (mem_TR (A := [_, _]) (a3.trans b0).1))) (F2.mono (a3.trans b0).1) (fz42 w) (by decide) (by omega)
     obtain ⟨F6, F7, F8, k1, k2⟩ := inv42 F5
     replace k1 : F3 = (cu ((gx tA (a0.toNat)).1)) ++ (cl F6 F7 F8) := k1
     subst k1
     refine WL.v (Runs.indexAddr underlying40 cells42 (by decide) rfl s1 rfl F0 (by rw [show nA = tA.length from hb0.1]; exact F1) (o := (a0.toNat) * 2) (by first | rfl | omega)) ?_
     refine WL.v (Runs.fieldAddrB (off := 1) fld42_1 rfl rfl rfl) ?_
     refine WL.v (Runs.load nagg25 rfl (Src.cellAt (j := 1) (Src.cut ((s0.at b4 (mem_TR (A := [_, _]) (a3.trans b0).1))) s1 F4) rfl)) ?_
     refine WL.mv rfl ?_
     obtain ⟨⟨F9, G0⟩, H⟩ := H
     obtain ⟨T3, s2⟩ := ((k2.2.2.at b4 (mem_T (A := [_, _]) ii))).addr_iv (c2.toNat) (by omega)
     refine WL.v (Runs.indexAddr underlying25 cells5 (by decide) rfl s2 rfl F9 (by rw [k2.1]; exact G0) (o := (c2).toNat) (by first | rfl | omega)) ?_
     refine WL.v (Runs.load nagg5 rfl (((k2.2.2.at b4 (mem_T (A := [_, _]) ii))).cell_iv s2 (by omega))) ?_
     obtain ⟨⟨G1, G2⟩, H⟩ := H
     obtain ⟨T4, s3⟩ := (b4.src_sl (k := 0) rfl).addr_iv (c2.toNat) (by omega)
     refine WL.v (Runs.indexAddr underlying25 cells5 (by decide) rfl s3 rfl G1 (by rw [f8]; exact G2) (o := (c2).toNat) (by first | rfl | omega)) ?_
     obtain ⟨k3, s4, H⟩ := H
     refine WL.store_sl (i := 0) b4 rfl cells5 rfl s3 (by rw [iv_length]; omega) rfl rfl ?_
     intro G3 k4
     have G4 : 160 = k3.length := by rw [s4, List.length_set]; exact f8
     have k4' := k4; (try dsimp only [List.set, ec, en] at k4'); rw [iv_set .u8 b7 (c2.toNat) (gn ((gx tA (a0.toNat)).2) (c2.toNat)), ← s4] at k4'
     refine WL.nil (QW.blk_n (QW.then_n (CW.region (WL.mv rfl (WL.v (Runs.add rfl rfl rfl) (WL.as rfl (WL.nil ?_)))))))
     exact QW.a ⟨d8, k3, i64.wrap (c2 + 1), rfl, H, b0, G4, k4'⟩
    have k0 := (decide_eq_false j9)
    refine CW.cf rfl k0 (CW.exit (QW.then_x (QW.then_x (QW.blk_x (QW.then_n (CW.region (WL.mv rfl (WL.mv rfl (WL.mv rfl ?_)))))))))
    obtain ⟨⟨G5, G6⟩, H⟩ := H
    obtain ⟨T5, s5, G7⟩ := hb0.2.2
    obtain ⟨T6, s6, G8, G9, H0⟩ := el_get (i := (a0).toNat) ((s5.at b4 (mem_TR (A := [_, _]) (a3.trans b0).1))) (G7.mono (a3.trans b0).1) (fz42 w) (by decide) (by omega)
    obtain ⟨H1, H2, H3, k5, T7⟩ := inv42 H0
    replace k5 : G8 = (cu ((gx tA (a0.toNat)).1)) ++ (cl H1 H2 H3) := k5
    subst k5
    refine WL.v (Runs.indexAddr underlying40 cells42 (by decide) rfl s6 rfl G5 (by rw [show nA = tA.length from hb0.1]; exact G6) (o := (a0.toNat) * 2) (by first | rfl | omega)) ?_
    refine WL.v (Runs.fieldAddrB (off := 0) fld42_0 rfl rfl rfl) ?_
    refine WL.v (Runs.load nagg37 rfl (Src.cellAt (j := 0) (Src.cut ((s5.at b4 (mem_TR (A := [_, _]) (a3.trans b0).1))) s6 G9) rfl)) ?_
    refine WL.mv rfl (WL.v (Runs.build_seg (ps := [(0, 1), (1, 1)]) (cs := ((cu ((gx tA (a0.toNat)).1)) ++ (cl (sp a9) 160 160))) plc42 zero42 rfl (.cons (ms := ((cu ((gx tA (a0.toNat)).1)))) rfl rfl rfl (.one rfl rfl)) rfl rfl) ?_)
    have hb_256c := b4.cap (i := 0) rfl
    obtain ⟨d0, s7, H4, k6⟩ := St.freeze (A := []) (B := [_]) (T := d8) (R := R) b4
    have H5 : HB w d0 (sp a9) 160 160 (iv .u8 b7) b7.length := ⟨f8, hb_256c, Hd.of_sl H4⟩
    try dsimp only [List.set, ec, en] at k6
    obtain ⟨T8, T9, H6, H7, H8, H9⟩ := slr42_1
    refine WL.buildSlSg (sz := 2) (cs := ((cu ((gx tA (a0.toNat)).1)) ++ (cl (sp a9) 160 160))) k6 underlying40 H6 H7 H8 (by decide) (by decide) H9 rfl (.one rfl rfl) rfl rfl ?_
    intro k7 s8 k8
    try dsimp only [List.set, ec, en] at k8
    have f9 := St.rows_sl (i := 0) (m := 1) (size := 2) k8 rfl rfl (by decide)
    obtain ⟨e4, s9⟩ : ∃ x_ : Cs, x_ = (cu ((gx tA (a0.toNat)).1)) ++ (cl (sp a9) 160 160) := ⟨_, rfl⟩
    have k9 : HRs d0 (f42 w) e4 ([((gx tA (a0.toNat)).1, b7)] : List R42) := by rw [s9]; exact (HRs.one (.cons rfl (.cons ⟨_, _, _, rfl, H5⟩ .nil)))
    (try dsimp only [List.set, ec, en] at f9); rw [← s9] at f9
    obtain ⟨l1, t0, H⟩ := H
    obtain ⟨I0, H⟩ := H
    obtain ⟨l2, l3⟩ : ∃ n_ : Nat, n_ = l1.length := ⟨_, rfl⟩
    refine WL.appendR (i := 1) (N := l2) (news := e4) Wanted.none f9 rfl underlying40 elemS42 rfl rfl (f9.src_sl (k := 0) rfl) (by have h1_ := (k9).length (fz42 w); have h2_ : 1 = ([((gx tA (a0.toNat)).1, b7)] : List R42).length := rfl; rw [h1_, h2_]) (HLs.one k9) (by decide) (by have h1_ : a2 = c4.length := d4; have h2_ : 1 = ([((gx tA (a0.toNat)).1, b7)] : List R42).length := rfl; rw [l3, t0, List.length_append]; omega) (by rw [l3]; exact I0) ?_
    intro t1 t2 I1 e5
    obtain ⟨l4, t3⟩ : ∃ x_ : Cs, x_ = a6 ++ e4 := ⟨_, rfl⟩
    have I2 : HRs d0 (f42 w) l4 l1 := by rw [t3, t0]; exact HRs.append (d5.mono (b0.trans s7).1) k9
    (try dsimp only [List.set, ec, en] at e5); rw [← t3] at e5
    refine WL.as rfl (WL.nil (QW.blk_n (QW.then_n (CW.region (WL.mv rfl (WL.v (Runs.add rfl rfl rfl) (WL.as rfl (WL.nil ?_))))))))
    have e5' := (St.pk (L := [_, _]) e5 [1])
    exact QW.a ⟨d0, t1, t2, l2, l4, l1, i64.wrap (a0 + 1), rfl, H, ((a3.trans b0).trans s7), l3, I2, e5'⟩
   have c6 := (decide_eq_false j8)
   iterate 3 (refine WL.off ?_ ?_; exact Wg 31 c6)
   refine WL.v (Runs.pick_f (evb rfl c6) rfl) (wn (CW.cf rfl rfl (CW.exit (QW.then_x (QW.then_x (QW.blk_x (QW.then_n (CW.region (WL.mv rfl (WL.mv rfl (WL.mv rfl ?_)))))))))))
   obtain ⟨⟨I3, I4⟩, H⟩ := H
   obtain ⟨U0, t4, I5⟩ := hb0.2.2
   obtain ⟨U1, t5, I6, I7, I8⟩ := el_get (i := (a0).toNat) ((t4.at b4 (mem_TR (A := [_, _]) (a3.trans b0).1))) (I5.mono (a3.trans b0).1) (fz42 w) (by decide) (by omega)
   obtain ⟨I9, J0, J1, l5, U2⟩ := inv42 I8
   replace l5 : I6 = (cu ((gx tA (a0.toNat)).1)) ++ (cl I9 J0 J1) := l5
   subst l5
   refine WL.v (Runs.indexAddr underlying40 cells42 (by decide) rfl t5 rfl I3 (by rw [show nA = tA.length from hb0.1]; exact I4) (o := (a0.toNat) * 2) (by first | rfl | omega)) ?_
   refine WL.v (Runs.fieldAddrB (off := 0) fld42_0 rfl rfl rfl) ?_
   refine WL.v (Runs.load nagg37 rfl (Src.cellAt (j := 0) (Src.cut ((t4.at b4 (mem_TR (A := [_, _]) (a3.trans b0).1))) t5 I7) rfl)) ?_
   refine WL.mv rfl (WL.v (Runs.build_seg (ps := [(0, 1), (1, 1)]) (cs := ((cu ((gx tA (a0.toNat)).1)) ++ (cl (sp a9) 160 160))) plc42 zero42 rfl (.cons (ms := ((cu ((gx tA (a0.toNat)).1)))) rfl rfl rfl (.one rfl rfl)) rfl rfl) ?_)
   have hb_302c := b4.cap (i := 0) rfl
   obtain ⟨d1, t6, J2, l6⟩ := St.freeze (A := []) (B := [_]) (T := d8) (R := R) b4
   have J3 : HB w d1 (sp a9) 160 160 (iv .u8 b7) b7.length := ⟨f8, hb_302c, Hd.of_sl J2⟩
   try dsimp only [List.set, ec, en] at l6
   obtain ⟨U3, U4, J4, J5, J6, J7⟩ := slr42_1
   refine WL.buildSlSg (sz := 2) (cs := ((cu ((gx tA (a0.toNat)).1)) ++ (cl (sp a9) 160 160))) l6 underlying40 J4 J5 J6 (by decide) (by decide) J7 rfl (.one rfl rfl) rfl rfl ?_
   intro l7 t7 l8
   try dsimp only [List.set, ec, en] at l8
   have g0 := St.rows_sl (i := 0) (m := 1) (size := 2) l8 rfl rfl (by decide)
   obtain ⟨e6, t8⟩ : ∃ x_ : Cs, x_ = (cu ((gx tA (a0.toNat)).1)) ++ (cl (sp a9) 160 160) := ⟨_, rfl⟩
   have l9 : HRs d1 (f42 w) e6 ([((gx tA (a0.toNat)).1, b7)] : List R42) := by rw [t8]; exact (HRs.one (.cons rfl (.cons ⟨_, _, _, rfl, J3⟩ .nil)))
   (try dsimp only [List.set, ec, en] at g0); rw [← t8] at g0
   obtain ⟨m0, t9, H⟩ := H
   obtain ⟨J8, H⟩ := H
   obtain ⟨m1, m2⟩ : ∃ n_ : Nat, n_ = m0.length := ⟨_, rfl⟩
   refine WL.appendR (i := 1) (N := m1) (news := e6) Wanted.none g0 rfl underlying40 elemS42 rfl rfl (g0.src_sl (k := 0) rfl) (by have h1_ := (l9).length (fz42 w); have h2_ : 1 = ([((gx tA (a0.toNat)).1, b7)] : List R42).length := rfl; rw [h1_, h2_]) (HLs.one l9) (by decide) (by have h1_ : a2 = c4.length := d4; have h2_ : 1 = ([((gx tA (a0.toNat)).1, b7)] : List R42).length := rfl; rw [m2, t9, List.length_append]; omega) (by rw [m2]; exact J8) ?_
   intro u0 u1 J9 e7
   obtain ⟨m3, u2⟩ : ∃ x_ : Cs, x_ = a6 ++ e6 := ⟨_, rfl⟩
   have K0 : HRs d1 (f42 w) m3 m0 := by rw [u2, t9]; exact HRs.append (d5.mono (b0.trans t6).1) l9
   (try dsimp only [List.set, ec, en] at e7); rw [← u2] at e7
   refine WL.as rfl (WL.nil (QW.blk_n (QW.then_n (CW.region (WL.mv rfl (WL.v (Runs.add rfl rfl rfl) (WL.as rfl (WL.nil ?_))))))))
   have e7' := (St.pk (L := [_, _]) e7 [1])
   exact QW.a ⟨d1, u0, u1, m1, m3, m0, i64.wrap (a0 + 1), rfl, H, ((a3.trans b0).trans t6), m2, K0, e7'⟩
  have d6 : bA = false := (Bool.eq_false_iff.mpr g8)
  iterate 2 (refine WL.off ?_ ?_; exact Wg 17 d6)
  refine WL.v (Runs.pick_f (evb rfl d6) rfl) (wn (CW.cf rfl rfl (CW.skip (QW.then_n (cr (WL.mv rfl ?_))))))
  refine WL.make f2 underlying25 elem5 rfl rfl (by decide) (by decide) (by decide) (N := 160) rfl ?_
  intro b1 K1 g1
  replace g1 : St w K1 (.sl (sp b1) 160 160 (iv .u8 (List.replicate 160 (0 : Int))) 5 1 :: .sl a4 a5 a2 a6 42 2 :: (b9 ++ R)) := by rw [iv_replicate] at g1; exact g1
  have K2 : 160 = (List.replicate 160 (0 : Int)).length := by simp
  refine WL.as rfl (wn (CW.seq (cr (WL.as rfl (wn (CW.block ?_))))))
  obtain ⟨K3, H⟩ := H
  refine CW.su [(0, _), (1, _), (4, _), (5, _), (6, _), (10, _), (11, _), (12, _), (13, _), (7, _), (16, _), (17, _), (20, _), (21, _), (22, _), (8, _), (9, _)] ?_
  refine CW.lp (fun kL4 l_ w_ => ∃ d9 b8 c3, l_ = [(0, .slice pA nA nB), (1, .bool bA), (4, .slice none 0 0), (5, .slice a4 a2 a5), (6, .int .i64 a0), (10, .int .i64 a0), (11, .slice pA nA nB), (12, .int .i64 (tA.length : Int)), (13, .bool (decide (a0 < (tA.length : Int)))), (7, .int .i64 160), (16, .bool bA), (17, .bool bA), (20, .bool false), (21, .int .i64 160), (22, .slice (sp b1) 160 160), (8, .slice (sp b1) 160 160), (9, .int .i64 c3)] ∧ reliquarylaw13_images.L4 tA c4 a0 (reliquarylaw13_images.L1 tA bA tB kL1) kL4 b8 c3 ∧ (Pl b9 d9) ∧ (160 = b8.length) ∧ St w w_ (.sl (sp b1) 160 160 (iv .u8 b8) 5 1 :: .sl a4 a5 a2 a6 42 2 :: (d9 ++ R))) (k := K3) ⟨b9, List.replicate 160 (0 : Int), 0, rfl, H, Pl.refl, K2, g1⟩ ?_
  rintro kL4 U5 u3 ⟨d9, b8, c3, rfl, H, b2, g2, b5⟩
  refine CW.seq (cr (WL.mv rfl (WL.mv rfl (WL.mv rfl ?_))))
  obtain ⟨⟨K4, K5⟩, H⟩ := H
  obtain ⟨U6, u4, K6⟩ := hb0.2.2
  obtain ⟨U7, u5, K7, K8, K9⟩ := el_get (i := (a0).toNat) ((u4.at b5 (mem_TR (A := [_, _]) (a3.trans b2).1))) (K6.mono (a3.trans b2).1) (fz42 w) (by decide) (by omega)
  obtain ⟨L0, L5, L6, m4, L7⟩ := inv42 K9
  replace m4 : K7 = (cu ((gx tA (a0.toNat)).1)) ++ (cl L0 L5 L6) := m4
  subst m4
  refine WL.v (Runs.indexAddr underlying40 cells42 (by decide) rfl u5 rfl K4 (by rw [show nA = tA.length from hb0.1]; exact K5) (o := (a0.toNat) * 2) (by first | rfl | omega)) ?_
  refine WL.v (Runs.fieldAddrB (off := 1) fld42_1 rfl rfl rfl) ?_
  refine WL.v (Runs.load nagg25 rfl (Src.cellAt (j := 1) (Src.cut ((u4.at b5 (mem_TR (A := [_, _]) (a3.trans b2).1))) u5 K8) rfl)) ?_
  refine WL.v (Runs.len_sl underlying25 rfl (by rw [L7.1])) ?_
  refine WL.v (Runs.lss rfl rfl rfl) (WL.mv rfl ?_)
  rcases H with ⟨m5, H⟩ | ⟨m5, H⟩
  ·have c7 := (decide_eq_true m5)
   refine WL.on ?_ ?_; exact Wg 31 c7
   refine WL.mv rfl ?_
   refine WL.on ?_ ?_; exact Wg 31 c7
   refine WL.mv rfl ?_
   refine WL.on ?_ ?_; exact Wg 31 c7
   refine WL.v (Runs.lss rfl rfl rfl) (WL.v (Runs.pick_t (evb rfl c7) rfl) (wn ?_))
   rcases H with ⟨m6, H⟩ | ⟨m6, H⟩
   ·have m7 := (decide_eq_true m6)
    refine CW.ct rfl m7 (CW.skip (QW.then_n (CW.seq (CW.block (CW.region (WL.mv rfl (WL.mv rfl (WL.mv rfl (WL.mv rfl ?_)))))))))
    obtain ⟨⟨L8, L9⟩, H⟩ := H
    obtain ⟨U8, u6, M0⟩ := hb0.2.2
    obtain ⟨U9, u7, M1, M2, M3⟩ := el_get (i := (a0).toNat) ((u6.at b5 (mem_TR (A := [_, _]) (a3.trans b2).1))) (M0.mono (a3.trans b2).1) (fz42 w) (by decide) (by omega)
    obtain ⟨M4, M5, M6, m8, m9⟩ := inv42 M3
    replace m8 : M1 = (cu ((gx tA (a0.toNat)).1)) ++ (cl M4 M5 M6) := m8
    subst m8
    refine WL.v (Runs.indexAddr underlying40 cells42 (by decide) rfl u7 rfl L8 (by rw [show nA = tA.length from hb0.1]; exact L9) (o := (a0.toNat) * 2) (by first | rfl | omega)) ?_
    refine WL.v (Runs.fieldAddrB (off := 1) fld42_1 rfl rfl rfl) ?_
    refine WL.v (Runs.load nagg25 rfl (Src.cellAt (j := 1) (Src.cut ((u6.at b5 (mem_TR (A := [_, _]) (a3.trans b2).1))) u7 M2) rfl)) ?_
    refine WL.mv rfl ?_
    obtain ⟨⟨M7, M8⟩, H⟩ := H
    obtain ⟨V0, u9⟩ := ((m9.2.2.at b5 (mem_T (A := [_, _]) ii))).addr_iv (c3.toNat) (by omega)
    refine WL.v (Runs.indexAddr underlying25 cells5 (by decide) rfl u9 rfl M7 (by rw [m9.1]; exact M8) (o := (c3).toNat) (by first | rfl | omega)) ?_
    refine WL.v (Runs.load nagg5 rfl (((m9.2.2.at b5 (mem_T (A := [_, _]) ii))).cell_iv u9 (by omega))) ?_
    obtain ⟨⟨M9, N0⟩, H⟩ := H
    obtain ⟨V1, v0⟩ := (b5.src_sl (k := 0) rfl).addr_iv (c3.toNat) (by omega)
    refine WL.v (Runs.indexAddr underlying25 cells5 (by decide) rfl v0 rfl M9 (by rw [g2]; exact N0) (o := (c3).toNat) (by first | rfl | omega)) ?_
    obtain ⟨n1, v1, H⟩ := H
    refine WL.store_sl (i := 0) b5 rfl cells5 rfl v0 (by rw [iv_length]; omega) rfl rfl ?_
    intro N1 n2
    have N2 : 160 = n1.length := by rw [v1, List.length_set]; exact g2
    have n2' := n2; (try dsimp only [List.set, ec, en] at n2'); rw [iv_set .u8 b8 (c3.toNat) (gn ((gx tA (a0.toNat)).2) (c3.toNat)), ← v1] at n2'
    refine WL.nil (QW.blk_n (QW.then_n (CW.region (WL.mv rfl (WL.v (Runs.add rfl rfl rfl) (WL.as rfl (WL.nil ?_)))))))
    exact QW.a ⟨d9, n1, i64.wrap (c3 + 1), rfl, H, b2, N2, n2'⟩
   have m7 := (decide_eq_false m6)
   refine CW.cf rfl m7 (CW.exit (QW.then_x (QW.then_x (QW.blk_x (QW.then_n (CW.region (WL.mv rfl (WL.mv rfl (WL.mv rfl ?_)))))))))
   obtain ⟨⟨N3, N4⟩, H⟩ := H
   obtain ⟨V2, v2, N5⟩ := hb0.2.2
   obtain ⟨V3, v3, N6, N7, N8⟩ := el_get (i := (a0).toNat) ((v2.at b5 (mem_TR (A := [_, _]) (a3.trans b2).1))) (N5.mono (a3.trans b2).1) (fz42 w) (by decide) (by omega)
   obtain ⟨N9, O0, O1, n3, V4⟩ := inv42 N8
   replace n3 : N6 = (cu ((gx tA (a0.toNat)).1)) ++ (cl N9 O0 O1) := n3
   subst n3
   refine WL.v (Runs.indexAddr underlying40 cells42 (by decide) rfl v3 rfl N3 (by rw [show nA = tA.length from hb0.1]; exact N4) (o := (a0.toNat) * 2) (by first | rfl | omega)) ?_
   refine WL.v (Runs.fieldAddrB (off := 0) fld42_0 rfl rfl rfl) ?_
   refine WL.v (Runs.load nagg37 rfl (Src.cellAt (j := 0) (Src.cut ((v2.at b5 (mem_TR (A := [_, _]) (a3.trans b2).1))) v3 N7) rfl)) ?_
   refine WL.mv rfl (WL.v (Runs.build_seg (ps := [(0, 1), (1, 1)]) (cs := ((cu ((gx tA (a0.toNat)).1)) ++ (cl (sp b1) 160 160))) plc42 zero42 rfl (.cons (ms := ((cu ((gx tA (a0.toNat)).1)))) rfl rfl rfl (.one rfl rfl)) rfl rfl) ?_)
   have hb_409c := b5.cap (i := 0) rfl
   obtain ⟨d2, v4, O2, n4⟩ := St.freeze (A := []) (B := [_]) (T := d9) (R := R) b5
   have O3 : HB w d2 (sp b1) 160 160 (iv .u8 b8) b8.length := ⟨g2, hb_409c, Hd.of_sl O2⟩
   try dsimp only [List.set, ec, en] at n4
   obtain ⟨V5, V6, O4, O5, O6, O7⟩ := slr42_1
   refine WL.buildSlSg (sz := 2) (cs := ((cu ((gx tA (a0.toNat)).1)) ++ (cl (sp b1) 160 160))) n4 underlying40 O4 O5 O6 (by decide) (by decide) O7 rfl (.one rfl rfl) rfl rfl ?_
   intro n5 v5 n6
   try dsimp only [List.set, ec, en] at n6
   have g3 := St.rows_sl (i := 0) (m := 1) (size := 2) n6 rfl rfl (by decide)
   obtain ⟨e8, v6⟩ : ∃ x_ : Cs, x_ = (cu ((gx tA (a0.toNat)).1)) ++ (cl (sp b1) 160 160) := ⟨_, rfl⟩
   have n7 : HRs d2 (f42 w) e8 ([((gx tA (a0.toNat)).1, b8)] : List R42) := by rw [v6]; exact (HRs.one (.cons rfl (.cons ⟨_, _, _, rfl, O3⟩ .nil)))
   (try dsimp only [List.set, ec, en] at g3); rw [← v6] at g3
   obtain ⟨n8, v7, H⟩ := H
   obtain ⟨O8, H⟩ := H
   obtain ⟨n9, o0⟩ : ∃ n_ : Nat, n_ = n8.length := ⟨_, rfl⟩
   refine WL.appendR (i := 1) (N := n9) (news := e8) Wanted.none g3 rfl underlying40 elemS42 rfl rfl (g3.src_sl (k := 0) rfl) (by have h1_ := (n7).length (fz42 w); have h2_ : 1 = ([((gx tA (a0.toNat)).1, b8)] : List R42).length := rfl; rw [h1_, h2_]) (HLs.one n7) (by decide) (by have h1_ : a2 = c4.length := d4; have h2_ : 1 = ([((gx tA (a0.toNat)).1, b8)] : List R42).length := rfl; rw [o0, v7, List.length_append]; omega) (by rw [o0]; exact O8) ?_
   intro v8 v9 O9 e9
   obtain ⟨o1, w0⟩ : ∃ x_ : Cs, x_ = a6 ++ e8 := ⟨_, rfl⟩
   have P0 : HRs d2 (f42 w) o1 n8 := by rw [w0, v7]; exact HRs.append (d5.mono (b2.trans v4).1) n7
   (try dsimp only [List.set, ec, en] at e9); rw [← w0] at e9
   refine WL.as rfl (WL.nil (QW.blk_n (QW.then_n (CW.region (WL.mv rfl (WL.v (Runs.add rfl rfl rfl) (WL.as rfl (WL.nil ?_))))))))
   have e9' := (St.pk (L := [_, _]) e9 [1])
   exact QW.a ⟨d2, v8, v9, n9, o1, n8, i64.wrap (a0 + 1), rfl, H, ((a3.trans b2).trans v4), o0, P0, e9'⟩
  have c7 := (decide_eq_false m5)
  iterate 3 (refine WL.off ?_ ?_; exact Wg 31 c7)
  refine WL.v (Runs.pick_f (evb rfl c7) rfl) (wn (CW.cf rfl rfl (CW.exit (QW.then_x (QW.then_x (QW.blk_x (QW.then_n (CW.region (WL.mv rfl (WL.mv rfl (WL.mv rfl ?_)))))))))))
  obtain ⟨⟨P1, P2⟩, H⟩ := H
  obtain ⟨V7, w2, P3⟩ := hb0.2.2
  obtain ⟨V8, w3, P4, P5, P6⟩ := el_get (i := (a0).toNat) ((w2.at b5 (mem_TR (A := [_, _]) (a3.trans b2).1))) (P3.mono (a3.trans b2).1) (fz42 w) (by decide) (by omega)
  obtain ⟨P7, P8, P9, o2, V9⟩ := inv42 P6
  replace o2 : P4 = (cu ((gx tA (a0.toNat)).1)) ++ (cl P7 P8 P9) := o2
  subst o2
  refine WL.v (Runs.indexAddr underlying40 cells42 (by decide) rfl w3 rfl P1 (by rw [show nA = tA.length from hb0.1]; exact P2) (o := (a0.toNat) * 2) (by first | rfl | omega)) ?_
  refine WL.v (Runs.fieldAddrB (off := 0) fld42_0 rfl rfl rfl) ?_
  refine WL.v (Runs.load nagg37 rfl (Src.cellAt (j := 0) (Src.cut ((w2.at b5 (mem_TR (A := [_, _]) (a3.trans b2).1))) w3 P5) rfl)) ?_
  refine WL.mv rfl (WL.v (Runs.build_seg (ps := [(0, 1), (1, 1)]) (cs := ((cu ((gx tA (a0.toNat)).1)) ++ (cl (sp b1) 160 160))) plc42 zero42 rfl (.cons (ms := ((cu ((gx tA (a0.toNat)).1)))) rfl rfl rfl (.one rfl rfl)) rfl rfl) ?_)
  have hb_455c := b5.cap (i := 0) rfl
  obtain ⟨d3, w4, Q0, o3⟩ := St.freeze (A := []) (B := [_]) (T := d9) (R := R) b5
  have Q1 : HB w d3 (sp b1) 160 160 (iv .u8 b8) b8.length := ⟨g2, hb_455c, Hd.of_sl Q0⟩
  try dsimp only [List.set, ec, en] at o3
  obtain ⟨W0, W1, Q2, Q3, Q4, Q5⟩ := slr42_1
  refine WL.buildSlSg (sz := 2) (cs := ((cu ((gx tA (a0.toNat)).1)) ++ (cl (sp b1) 160 160))) o3 underlying40 Q2 Q3 Q4 (by decide) (by decide) Q5 rfl (.one rfl rfl) rfl rfl ?_
  intro o4 w5 o5
  try dsimp only [List.set, ec, en] at o5
  have g4 := St.rows_sl (i := 0) (m := 1) (size := 2) o5 rfl rfl (by decide)
  obtain ⟨f0, w6⟩ : ∃ x_ : Cs, x_ = (cu ((gx tA (a0.toNat)).1)) ++ (cl (sp b1) 160 160) := ⟨_, rfl⟩
  have o6 : HRs d3 (f42 w) f0 ([((gx tA (a0.toNat)).1, b8)] : List R42) := by rw [w6]; exact (HRs.one (.cons rfl (.cons ⟨_, _, _, rfl, Q1⟩ .nil)))
  (try dsimp only [List.set, ec, en] at g4); rw [← w6] at g4
  obtain ⟨o7, w7, H⟩ := H
  obtain ⟨Q6, H⟩ := H
  obtain ⟨o8, o9⟩ : ∃ n_ : Nat, n_ = o7.length := ⟨_, rfl⟩
  refine WL.appendR (i := 1) (N := o8) (news := f0) Wanted.none g4 rfl underlying40 elemS42 rfl rfl (g4.src_sl (k := 0) rfl) (by have h1_ := (o6).length (fz42 w); have h2_ : 1 = ([((gx tA (a0.toNat)).1, b8)] : List R42).length := rfl; rw [h1_, h2_]) (HLs.one o6) (by decide) (by have h1_ : a2 = c4.length := d4; have h2_ : 1 = ([((gx tA (a0.toNat)).1, b8)] : List R42).length := rfl; rw [o9, w7, List.length_append]; omega) (by rw [o9]; exact Q6) ?_
  intro w8 w9 Q7 f1
  obtain ⟨p0, x0⟩ : ∃ x_ : Cs, x_ = a6 ++ f0 := ⟨_, rfl⟩
  have Q8 : HRs d3 (f42 w) p0 o7 := by rw [x0, w7]; exact HRs.append (d5.mono (b2.trans w4).1) o6
  (try dsimp only [List.set, ec, en] at f1); rw [← x0] at f1
  refine WL.as rfl (WL.nil (QW.blk_n (QW.then_n (CW.region (WL.mv rfl (WL.v (Runs.add rfl rfl rfl) (WL.as rfl (WL.nil ?_))))))))
  have f1' := (St.pk (L := [_, _]) f1 [1])
  exact QW.a ⟨d3, w8, w9, o8, p0, o7, i64.wrap (a0 + 1), rfl, H, ((a3.trans b2).trans w4), o9, Q8, f1'⟩
 have g7 := (decide_eq_false g6)
 refine CW.cf rfl g7 (CW.exit (QW.then_x (QW.then_x (QW.blk_x (QW.then_n (CW.sub [(4, _), (5, _)] ⟨rfl, rfl, trivial⟩ (cr (WL.mv rfl (WL.as rfl (wn (CW.ret ?_)))))))))))
 obtain rfl := H
 exact QW.ret1 rfl rfl ⟨b9, a4, a2, a5, a6, a3, d4, d5, rfl, (St.pk (L := [_]) f2 [0])⟩
def reliquarylaw13_modelOf.L1 (l0 : List R42) (lr0 : List R116) : Nat → (List R116) → Int → Prop
 | 0, _, _ => False
 | kL1 + 1, a2, a0 => ((a0 < (l0.length : Int) ∧ ((0 ≤ a0 ∧ a0 < (l0.length : Int)) ∧ ((0 ≤ a0 ∧ a0 < (l0.length : Int)) ∧ (∃ a1 : List R116, a1 = a2 ++ ([((gx l0 (a0.toNat)).1, strOfNums ((gx l0 (a0.toNat)).2))] : List R116) ∧ (a1.length ≤ 1099511627776 ∧ reliquarylaw13_modelOf.L1 l0 lr0 kL1 a1 (i64.wrap (a0 + 1))))))) ∨ (¬ (a0 < (l0.length : Int)) ∧ lr0 = a2))
def reliquarylaw13_modelOf.rel (l0 : List R42) (lr0 : List R116) : Prop := (∃ k_ : Nat, reliquarylaw13_modelOf.L1 l0 lr0 k_ ([] : List R116) 0)
theorem reliquarylaw13_modelOf.calls (T : Pool) (st0 : St w w1 ((T ++ R))) (hb0 : HS w (T ++ R) T pA nA nB (f42 w) tA) (H : reliquarylaw13_modelOf.rel tA eA) :
  Calls prog 22 #[.slice pA nA nB] w1 fun e w' => ∃ T' Ar0 nr0 cr0 xr0, Pl T T' ∧ nr0 = eA.length ∧ HRs T' (f116 w) xr0 eA ∧ e = .returned (.slice Ar0 nr0 cr0) ∧ St w w' (.sl Ar0 cr0 nr0 xr0 116 2 :: (T' ++ R)) := by
 refine CW.en func22 rfl 27 [_] (CW.sub [(0, _)] ⟨rfl, trivial⟩ (cr (WL.as rfl (WL.nx (WL.as rfl (wn (CW.seq (cr (WL.as rfl (wn (CW.block ?_)))))))))))
 have b2 := st0.nil_sl 116 2
 have b2 : St w w1 (.sl none 0 0 ([] : Cs) 116 2 :: (T ++ R)) := b2
 obtain ⟨d9, H⟩ := H
 refine CW.sub [(0, _), (2, _), (3, _), (4, _)] ⟨rfl, rfl, rfl, rfl, trivial⟩ ?_
 refine CW.lp (fun kL1 l_ w_ => ∃ a2 a4 a5 a3 a6 a8 a0, l_ = [(0, .slice pA nA nB), (2, .slice none 0 0), (3, .slice a4 a3 a5), (4, .int .i64 a0)] ∧ reliquarylaw13_modelOf.L1 tA eA kL1 a8 a0 ∧ (Pl T a2) ∧ (a3 = a8.length) ∧ (HRs a2 (f116 w) a6 a8) ∧ St w w_ (.sl a4 a5 a3 a6 116 2 :: (a2 ++ R))) (k := d9) ⟨T, none, 0, 0, ([] : Cs), ([] : List R116), 0, rfl, H, Pl.refl, rfl, (HRs.nil : HRs T (f116 w) [] []), b2⟩ ?_
 rintro kL1 g5 g6 ⟨a2, a4, a5, a3, a6, a8, a0, rfl, H, a7, c5, c6, c7⟩
 refine CW.seq (cr (WL.mv rfl (WL.mv rfl ?_)))
 refine WL.v (Runs.len_sl underlying40 rfl (by rw [hb0.1])) ?_
 refine WL.v (Runs.lss rfl rfl rfl) (wn ?_)
 rcases H with ⟨b3, H⟩ | ⟨b3, H⟩
 ·have b4 := (decide_eq_true b3)
  refine CW.ct rfl b4 (CW.skip (QW.then_n (CW.seq (CW.block ?_))))
  refine CW.region_awh (C := fun w_ => St w w_ (.sl a4 a5 a3 a6 116 2 :: (a2 ++ R))) 14 wide (by kernel_rfl) c7 (fun g7 a1 => ?_)
  refine AWH.tk 0 rfl a1 (fun wq sq => (Runs.move rfl)) ?_
  refine AWH.tk 1 rfl a1 (fun wq sq => (Runs.move rfl)) ?_
  refine AWH.tk 2 rfl a1 (fun wq sq => (Runs.move rfl)) ?_
  obtain ⟨⟨e0, e1⟩, H⟩ := H
  obtain ⟨g8, c8, e2⟩ := hb0.2.2
  obtain ⟨g9, c9, e3, e4, e5⟩ := el_get (i := (a0).toNat) ((c8.at a1 (mem_TR (A := [_]) a7.1))) (e2.mono a7.1) (fz42 w) (by decide) (by omega)
  obtain ⟨e6, e7, e8, b5, h0⟩ := inv42 e5
  replace b5 : e3 = (cu ((gx tA (a0.toNat)).1)) ++ (cl e6 e7 e8) := b5
  subst b5
  refine AWH.tk 3 rfl a1 (fun wq sq => (Runs.indexAddr underlying40 cells42 (by decide) rfl c9 rfl e0 (by rw [show nA = tA.length from hb0.1]; exact e1) (o := (a0.toNat) * 2) (by first | rfl | omega))) ?_
  refine AWH.tk 4 rfl a1 (fun wq sq => (Runs.fieldAddrB (off := 0) fld42_0 rfl rfl rfl)) ?_
  refine AWH.tk 5 rfl a1 (fun wq sq => (Runs.load nagg37 rfl (Src.cellAt (j := 0) (Src.cut ((c8.at sq (mem_TR (A := [_]) a7.1))) c9 e4) rfl))) ?_
  refine AWH.tk 6 rfl a1 (fun wq sq => (Runs.move rfl)) ?_
  refine AWH.tk 7 rfl a1 (fun wq sq => (Runs.move rfl)) ?_
  obtain ⟨⟨e9, f0⟩, H⟩ := H
  obtain ⟨h1, d0, f1⟩ := hb0.2.2
  obtain ⟨h2, d1, f2, f3, f4⟩ := el_get (i := (a0).toNat) ((d0.at a1 (mem_TR (A := [_]) a7.1))) (f1.mono a7.1) (fz42 w) (by decide) (by omega)
  obtain ⟨f5, f6, f7, b6, d2⟩ := inv42 f4
  replace b6 : f2 = (cu ((gx tA (a0.toNat)).1)) ++ (cl f5 f6 f7) := b6
  subst b6
  refine AWH.tk 8 rfl a1 (fun wq sq => (Runs.indexAddr underlying40 cells42 (by decide) rfl d1 rfl e9 (by rw [show nA = tA.length from hb0.1]; exact f0) (o := (a0.toNat) * 2) (by first | rfl | omega))) ?_
  refine AWH.tk 9 rfl a1 (fun wq sq => (Runs.fieldAddrB (off := 1) fld42_1 rfl rfl rfl)) ?_
  refine AWH.tk 10 rfl a1 (fun wq sq => (Runs.load nagg25 rfl (Src.cellAt (j := 1) (Src.cut ((d0.at sq (mem_TR (A := [_]) a7.1))) d1 f3) rfl))) ?_
  refine AWH.tk 11 rfl a1 (fun wq sq => (Runs.bytes_str underlying25 underlying5 underlying9 rfl ((d2.2.2.at sq (mem_T (A := [_]) ii))) d2.1)) ?_
  refine AWH.tk 12 rfl a1 (fun wq sq => (Runs.build_seg (ps := [(0, 1), (1, 1)]) (cs := ((cu ((gx tA (a0.toNat)).1)) ++ (ct (strOfNums ((gx tA (a0.toNat)).2))))) plc116 zero116 rfl (.cons (ms := ((cu ((gx tA (a0.toNat)).1)))) rfl rfl rfl (.one rfl rfl)) rfl rfl)) ?_
  refine AWH.step 13 rfl (by decide) (by kernel_rfl) (fun inv_ hs_ hk_ hc_ hn_ => ?_)
  obtain ⟨h3, h4, f8, f9, g0, g1⟩ := slr116_1
  refine WL.buildSlSg (sz := 2) (cs := ((cu ((gx tA (a0.toNat)).1)) ++ (ct (strOfNums ((gx tA (a0.toNat)).2))))) a1 underlying68 f8 f9 g0 (by decide) (by decide) g1 rfl (.one rfl rfl) rfl rfl ?_
  intro b7 d3 b8
  try dsimp only [List.set, ec, en] at b8
  have a9 := St.rows_sl (i := 0) (m := 1) (size := 2) b8 rfl rfl (by decide)
  obtain ⟨b0, d4⟩ : ∃ x_ : Cs, x_ = (cu ((gx tA (a0.toNat)).1)) ++ (ct (strOfNums ((gx tA (a0.toNat)).2))) := ⟨_, rfl⟩
  have b9 : HRs a2 (f116 w) b0 ([((gx tA (a0.toNat)).1, strOfNums ((gx tA (a0.toNat)).2))] : List R116) := by rw [d4]; exact (HRs.one (.cons rfl (.cons rfl .nil)))
  (try dsimp only [List.set, ec, en] at a9); rw [← d4] at a9
  refine WL.nil ?_
  refine AWH.back (St.subset a1 a9 (mc 1 rfl (mem_TR (A := [_, _]) ii))) inv_ hs_ hk_ hc_ hn_ ?_
  refine AWH.tail (by kernel_rfl) ?_
  refine AW.step 14 rfl (by kernel_rfl) ?_
  obtain ⟨c1, d5, H⟩ := H
  obtain ⟨g2, H⟩ := H
  obtain ⟨c2, c3⟩ : ∃ n_ : Nat, n_ = c1.length := ⟨_, rfl⟩
  refine WL.appendR (i := 1) (N := c2) (news := b0) Wanted.none a9 rfl underlying68 elemS116 rfl rfl (a9.src_sl (k := 0) rfl) (by have h1_ := (b9).length (fz116 w); have h2_ : 1 = ([((gx tA (a0.toNat)).1, strOfNums ((gx tA (a0.toNat)).2))] : List R116).length := rfl; rw [h1_, h2_]) (HLs.one b9) (by decide) (by have h1_ : a3 = a8.length := c5; have h2_ : 1 = ([((gx tA (a0.toNat)).1, strOfNums ((gx tA (a0.toNat)).2))] : List R116).length := rfl; rw [c3, d5, List.length_append]; omega) (by rw [c3]; exact g2) ?_
  intro d6 d7 g3 b1
  obtain ⟨c4, d8⟩ : ∃ x_ : Cs, x_ = a6 ++ b0 := ⟨_, rfl⟩
  have g4 : HRs a2 (f116 w) c4 c1 := by rw [d8, d5]; exact HRs.append c6 b9
  (try dsimp only [List.set, ec, en] at b1); rw [← d8] at b1
  refine WL.nil ?_
  refine AW.back  ?_
  refine AW.tk 15 rfl (fun _ => (Runs.assign rfl)) ?_
  refine AW.done (by kernel_rfl) ?_
  refine QW.blk_n (QW.then_n (CW.region (WL.mv rfl (WL.v (Runs.add rfl rfl rfl) (WL.as rfl (WL.nil ?_))))))
  have b1' := (St.pk (L := [_, _]) b1 [1])
  exact QW.a ⟨a2, d6, d7, c2, c4, c1, i64.wrap (a0 + 1), rfl, H, a7, c3, g4, b1'⟩
 have b4 := (decide_eq_false b3)
 refine CW.cf rfl b4 (CW.exit (QW.then_x (QW.then_x (QW.blk_x (QW.then_n (CW.sub [(2, _), (3, _)] ⟨rfl, rfl, trivial⟩ (cr (WL.mv rfl (WL.as rfl (wn (CW.ret ?_)))))))))))
 obtain rfl := H
 exact QW.ret1 rfl rfl ⟨a2, a4, a3, a5, a6, a7, c5, c6, rfl, (St.pk (L := [_]) c7 [0])⟩
def reliquaryref12_Of.L1 (l0 : List R116) (lr0 : List R118) (ar1 : Int) : Nat → (List R118) → Int → Int → Prop
 | 0, _, _, _ => False
 | kL1 + 1, a2, a3, a0 => ((a0 < (l0.length : Int) ∧ ((0 ≤ a0 ∧ a0 < (l0.length : Int)) ∧ (((((gx l0 (a0.toNat)).2).size : Int) ≠ 160 ∧ lr0 = ([] : List R118) ∧ ar1 = 1) ∨ (¬ ((((gx l0 (a0.toNat)).2).size : Int) ≠ 160) ∧ ((0 ≤ a0 ∧ a0 < (l0.length : Int)) ∧ (∃ a1 : List R118, a1 = a2 ++ ([((gx l0 (a0.toNat)).1, (gx l0 (a0.toNat)).2, (i64.wrap (a0 + 1)) == (l0.length : Int))] : List R118) ∧ (a1.length ≤ 1099511627776 ∧ reliquaryref12_Of.L1 l0 lr0 ar1 kL1 a1 a3 (i64.wrap (a0 + 1))))))))) ∨ (¬ (a0 < (l0.length : Int)) ∧ lr0 = a2 ∧ ar1 = 0))
def reliquaryref12_Of.rel (l0 : List R116) (lr0 : List R118) (ar1 : Int) : Prop := (((l0.length : Int) = 0 ∧ lr0 = ([] : List R118) ∧ ar1 = 1) ∨ (¬ ((l0.length : Int) = 0) ∧ (∃ k_ : Nat, reliquaryref12_Of.L1 l0 lr0 ar1 k_ ([] : List R118) 0 0)))
theorem reliquaryref12_Of.calls (T : Pool) (st0 : St w w1 ((T ++ R))) (hb0 : HS w (T ++ R) T pA nA nB (f116 w) eA) (H : reliquaryref12_Of.rel eA fA iA) :
  Calls prog 43 #[.slice pA nA nB] w1 fun e w' => ∃ T' Ar0 nr0 cr0 xr0, Pl T T' ∧ nr0 = fA.length ∧ HRs T' (f118 w) xr0 fA ∧ e = .returned (.tuple #[.slice Ar0 nr0 cr0, .int .i64 iA]) ∧ St w w' (.sl Ar0 cr0 nr0 xr0 118 3 :: (T' ++ R)) := by
 refine CW.en func43 rfl 36 [_] (CW.sub [(0, _)] ⟨rfl, trivial⟩ (cr (WL.as rfl (WL.as rfl (wn (CW.seq (cr (WL.mv rfl ?_))))))))
 refine WL.v (Runs.len_sl underlying68 rfl (by rw [hb0.1])) ?_
 refine WL.v (Runs.eql rfl rfl rfl) (wn ?_)
 rcases H with ⟨b3, H⟩ | ⟨b3, H⟩
 ·have b4 : ((eA.length : Int) == 0) = true := (beq_iff_eq.mpr b3)
  refine CW.ct rfl b4 (cr (WL.as rfl (WL.as rfl (wn (CW.ret (QW.then_r ?_))))))
  have b5 := st0.nil_sl 118 3
  have b5 : St w w1 (.sl none 0 0 ([] : Cs) 118 3 :: (T ++ R)) := b5
  obtain ⟨rfl, rfl⟩ := H
  exact QW.ret2 rfl rfl rfl ⟨T, none, 0, 0, ([] : Cs), Pl.refl, rfl, (HRs.nil : HRs T (f118 w) [] []), rfl, (St.pk (L := [_]) b5 [0])⟩
 have b4 : ((eA.length : Int) == 0) = false := (beq_eq_false_iff_ne.mpr b3)
 refine CW.cf rfl b4 (CW.skip (QW.then_n (cr (WL.as rfl (wn (CW.seq (cr (WL.as rfl (wn (CW.block ?_))))))))))
 have b6 := st0.nil_sl 118 3
 have b6 : St w w1 (.sl none 0 0 ([] : Cs) 118 3 :: (T ++ R)) := b6
 have b7 := b6.nil_sl 118 3
 have b7 : St w w1 (.sl none 0 0 ([] : Cs) 118 3 :: .sl none 0 0 ([] : Cs) 118 3 :: (T ++ R)) := b7
 obtain ⟨e5, H⟩ := H
 refine CW.su [(0, _), (2, _), (3, _), (4, _), (5, _)] ?_
 refine CW.lp (fun kL1 l_ w_ => ∃ a1 a4 a5 a2 a6 a8 a9 a0, l_ = [(0, .slice pA nA nB), (2, .slice none 0 0), (3, .int .i64 a9), (4, .slice a4 a2 a5), (5, .int .i64 a0)] ∧ reliquaryref12_Of.L1 eA fA iA kL1 a8 a9 a0 ∧ (Pl T a1) ∧ (a2 = a8.length) ∧ (HRs a1 (f118 w) a6 a8) ∧ St w w_ (.sl a4 a5 a2 a6 118 3 :: .sl none 0 0 ([] : Cs) 118 3 :: (a1 ++ R))) (k := e5) ⟨T, none, 0, 0, ([] : Cs), ([] : List R118), 0, 0, rfl, H, Pl.refl, rfl, (HRs.nil : HRs T (f118 w) [] []), b7⟩ ?_
 rintro kL1 g6 e6 ⟨a1, a4, a5, a2, a6, a8, a9, a0, rfl, H, a3, d3, d4, a7⟩
 refine CW.seq (cr (WL.mv rfl (WL.mv rfl ?_)))
 refine WL.v (Runs.len_sl underlying68 rfl (by rw [hb0.1])) ?_
 refine WL.v (Runs.lss rfl rfl rfl) (wn ?_)
 rcases H with ⟨b8, H⟩ | ⟨b8, H⟩
 ·have b9 := (decide_eq_true b8)
  refine CW.ct rfl b9 (CW.skip (QW.then_n (CW.seq (CW.block (CW.seq (cr (WL.mv rfl (WL.mv rfl ?_))))))))
  obtain ⟨⟨e7, e8⟩, H⟩ := H
  obtain ⟨g7, d5, e9⟩ := hb0.2.2
  obtain ⟨g8, d6, f0, f1, f2⟩ := el_get (i := (a0).toNat) ((d5.at a7 (mem_TR (A := [_, _]) a3.1))) (e9.mono a3.1) (fz116 w) (by decide) (by omega)
  obtain c1 := inv116 f2
  replace c1 : f0 = (cu ((gx eA (a0.toNat)).1)) ++ (ct ((gx eA (a0.toNat)).2)) := c1
  subst c1
  refine WL.v (Runs.indexAddr underlying68 cells116 (by decide) rfl d6 rfl e7 (by rw [show nA = eA.length from hb0.1]; exact e8) (o := (a0.toNat) * 2) (by first | rfl | omega)) ?_
  refine WL.v (Runs.fieldAddrB (off := 1) fld116_1 rfl rfl rfl) ?_
  refine WL.v (Runs.load nagg9 rfl (Src.cellAt (j := 1) (Src.cut ((d5.at a7 (mem_TR (A := [_, _]) a3.1))) d6 f1) rfl)) ?_
  refine WL.v (Runs.len_str underlying9 rfl) (WL.v (Runs.neq rfl rfl rfl) (wn ?_))
  rcases H with ⟨c2, H⟩ | ⟨c2, H⟩
  ·have c3 : ((((gx eA (a0.toNat)).2).size : Int) != 160) = true := (bne_iff_ne.mpr c2)
   refine CW.ct rfl c3 (cr (WL.as rfl (WL.as rfl (wn (CW.ret (QW.then_r (QW.blk_r (QW.then_r (QW.then_r (QW.blk_r (QW.then_r ?_)))))))))))
   have c4 := a7.nil_sl 118 3
   have c4 : St w e6 (.sl none 0 0 ([] : Cs) 118 3 :: .sl a4 a5 a2 a6 118 3 :: .sl none 0 0 ([] : Cs) 118 3 :: (a1 ++ R)) := c4
   obtain ⟨rfl, rfl⟩ := H
   exact QW.ret2 rfl rfl rfl ⟨a1, none, 0, 0, ([] : Cs), a3, rfl, (HRs.nil : HRs a1 (f118 w) [] []), rfl, (St.pk (L := [_, _, _]) c4 [0])⟩
  have c3 : ((((gx eA (a0.toNat)).2).size : Int) != 160) = false := (bne_eq_false_iff_eq.mpr (Decidable.not_not.mp c2))
  refine CW.cf rfl c3 (CW.skip (QW.then_n (CW.region (WL.mv rfl (WL.mv rfl (WL.mv rfl ?_))))))
  obtain ⟨⟨f3, f4⟩, H⟩ := H
  obtain ⟨g9, d7, f5⟩ := hb0.2.2
  obtain ⟨h0, d8, f6, f7, f8⟩ := el_get (i := (a0).toNat) ((d7.at a7 (mem_TR (A := [_, _]) a3.1))) (f5.mono a3.1) (fz116 w) (by decide) (by omega)
  obtain c5 := inv116 f8
  replace c5 : f6 = (cu ((gx eA (a0.toNat)).1)) ++ (ct ((gx eA (a0.toNat)).2)) := c5
  subst c5
  refine WL.v (Runs.indexAddr underlying68 cells116 (by decide) rfl d8 rfl f3 (by rw [show nA = eA.length from hb0.1]; exact f4) (o := (a0.toNat) * 2) (by first | rfl | omega)) ?_
  refine WL.v (Runs.load_srcR row116 rfl (Src.cut ((d7.at a7 (mem_TR (A := [_, _]) a3.1))) d8 f7) rfl) ?_
  refine WL.mv rfl (WL.v (Runs.add rfl rfl rfl) (WL.mv rfl ?_))
  refine WL.v (Runs.len_sl underlying68 rfl (by rw [hb0.1])) ?_
  refine WL.v (Runs.eql rfl rfl rfl) (WL.v (Runs.build_seg (ps := [(0, 2), (2, 1)]) (cs := ((cu ((gx eA (a0.toNat)).1)) ++ ((ct ((gx eA (a0.toNat)).2)) ++ (cb ((i64.wrap (a0 + 1)) == (eA.length : Int)))))) plc118 zero118 rfl (.cons (ms := ((cu ((gx eA (a0.toNat)).1)) ++ (ct ((gx eA (a0.toNat)).2)))) rfl rfl rfl (.one rfl rfl)) rfl rfl) ?_)
  obtain ⟨h1, h2, f9, g0, g1, g2⟩ := slr118_1
  refine WL.buildSlSg (sz := 3) (cs := ((cu ((gx eA (a0.toNat)).1)) ++ ((ct ((gx eA (a0.toNat)).2)) ++ (cb ((i64.wrap (a0 + 1)) == (eA.length : Int)))))) a7 underlying110 f9 g0 g1 (by decide) (by decide) g2 rfl (.one rfl rfl) rfl rfl ?_
  intro c6 d9 c7
  try dsimp only [List.set, ec, en] at c7
  have b2 := St.rows_sl (i := 0) (m := 1) (size := 3) c7 rfl rfl (by decide)
  obtain ⟨b0, e0⟩ : ∃ x_ : Cs, x_ = (cu ((gx eA (a0.toNat)).1)) ++ ((ct ((gx eA (a0.toNat)).2)) ++ (cb ((i64.wrap (a0 + 1)) == (eA.length : Int)))) := ⟨_, rfl⟩
  have c8 : HRs a1 (f118 w) b0 ([((gx eA (a0.toNat)).1, (gx eA (a0.toNat)).2, (i64.wrap (a0 + 1)) == (eA.length : Int))] : List R118) := by rw [e0]; exact (HRs.one (.cons rfl (.cons rfl (.cons rfl .nil))))
  (try dsimp only [List.set, ec, en] at b2); rw [← e0] at b2
  obtain ⟨c9, e1, H⟩ := H
  obtain ⟨g3, H⟩ := H
  obtain ⟨d0, d1⟩ : ∃ n_ : Nat, n_ = c9.length := ⟨_, rfl⟩
  refine WL.appendR (i := 1) (N := d0) (news := b0) Wanted.none b2 rfl underlying110 elemS118 rfl rfl (b2.src_sl (k := 0) rfl) (by have h1_ := (c8).length (fz118 w); have h2_ : 1 = ([((gx eA (a0.toNat)).1, (gx eA (a0.toNat)).2, (i64.wrap (a0 + 1)) == (eA.length : Int))] : List R118).length := rfl; rw [h1_, h2_]) (HLs.one c8) (by decide) (by have h1_ : a2 = a8.length := d3; have h2_ : 1 = ([((gx eA (a0.toNat)).1, (gx eA (a0.toNat)).2, (i64.wrap (a0 + 1)) == (eA.length : Int))] : List R118).length := rfl; rw [d1, e1, List.length_append]; omega) (by rw [d1]; exact g3) ?_
  intro e2 e3 g4 b1
  obtain ⟨d2, e4⟩ : ∃ x_ : Cs, x_ = a6 ++ b0 := ⟨_, rfl⟩
  have g5 : HRs a1 (f118 w) d2 c9 := by rw [e4, e1]; exact HRs.append d4 c8
  (try dsimp only [List.set, ec, en] at b1); rw [← e4] at b1
  refine WL.as rfl (WL.nil (QW.blk_n (QW.then_n (CW.region (WL.mv rfl (WL.v (Runs.add rfl rfl rfl) (WL.as rfl (WL.nil ?_))))))))
  have b1' := (St.pk (L := [_, _, _]) b1 [1, 2])
  exact QW.a ⟨a1, e2, e3, d0, d2, c9, a9, i64.wrap (a0 + 1), rfl, H, a3, d1, g5, b1'⟩
 have b9 := (decide_eq_false b8)
 refine CW.cf rfl b9 (CW.exit (QW.then_x (QW.then_x (QW.blk_x (QW.then_n (CW.sub [(2, _), (3, _), (4, _)] ⟨rfl, rfl, rfl, trivial⟩ (cr (WL.mv rfl (WL.as rfl (WL.as rfl (wn (CW.ret ?_))))))))))))
 obtain ⟨rfl, rfl⟩ := H
 exact QW.ret2 rfl rfl rfl ⟨a1, a4, a2, a5, a6, a3, d3, d4, rfl, (St.pk (L := [_, _]) a7 [0])⟩
def reliquaryref01_Put.L1 (a1 : Int) (r0 : List Int) : Nat → (List Int) → Int → Int → Prop
 | 0, _, _, _ => False
 | kL1 + 1, a3, a4, a0 => ((a0 < a1 ∧ (∃ a2 : List Int, a2 = a3 ++ [IntKind.u8.wrap (Int.tmod a4 256)] ∧ (a2.length ≤ 1099511627776 ∧ reliquaryref01_Put.L1 a1 r0 kL1 a2 (u64.wrap (Int.tdiv a4 256)) (i64.wrap (a0 + 1))))) ∨ (¬ (a0 < a1) ∧ r0 = a3))
def reliquaryref01_Put.rel (a0 a1 : Int) (r0 : List Int) : Prop := ((a1 > 8 ∧ r0 = []) ∨ (¬ (a1 > 8) ∧ (∃ k_ : Nat, reliquaryref01_Put.L1 a1 r0 k_ ([] : List Int) a0 0)))
theorem reliquaryref01_Put.calls (H : reliquaryref01_Put.rel iA iB lA) :
  Calls prog 33 #[.int .u64 iA, .int .i64 iB] w fun e w' => ∃ B0 q0 z0, z0 = lA.length ∧ e = .returned (.slice B0 z0 q0) ∧ St w w' [.sl B0 q0 z0 (iv .u8 lA) 5 1] := by
 refine CW.en func33 rfl 24 [_, _] (CW.sub [(0, _), (1, _)] ⟨rfl, rfl, trivial⟩ ?_)
 have st0 := St.refl w
 refine cr (WL.as rfl (WL.nx (WL.as rfl (wn (CW.seq (cr (WL.mv rfl (WL.v (Runs.gtr rfl rfl rfl) (wn ?_)))))))))
 rcases H with ⟨b0, H⟩ | ⟨b0, H⟩
 ·have b1 := (decide_eq_true b0)
  refine CW.ct rfl b1 (cr (WL.mv rfl (WL.as rfl (wn (CW.ret (QW.then_r ?_))))))
  have b2 := st0.nil_sl 5 1
  have b2 : St w w [.sl none 0 0 (iv .u8 ([] : List Int)) 5 1] := b2
  obtain rfl := H
  exact QW.ret1 rfl rfl ⟨none, 0, 0, rfl, rfl, b2.pick [0] (by decide)⟩
 have b1 := (decide_eq_false b0)
 refine CW.cf rfl b1 (CW.skip (QW.then_n (CW.seq (cr (WL.as rfl (wn (CW.block ?_)))))))
 have b3 := st0.nil_sl 5 1
 have b3 : St w w [.sl none 0 0 (iv .u8 ([] : List Int)) 5 1] := b3
 obtain ⟨c5, H⟩ := H
 refine CW.su [(0, _), (1, _), (4, _), (5, _), (6, _)] ?_
 refine CW.lp (fun kL1 l_ w_ => ∃ a4 a5 a3 a6 a2 a7, l_ = [(0, .int .u64 a2), (1, .int .i64 iB), (4, .slice none 0 0), (5, .slice a4 a3 a5), (6, .int .i64 a7)] ∧ reliquaryref01_Put.L1 iB lA kL1 a6 a2 a7 ∧ (a3 = a6.length) ∧ St w w_ [.sl a4 a5 a3 (iv .u8 a6) 5 1]) (k := c5) ⟨none, 0, 0, ([] : List Int), iA, 0, rfl, H, rfl, b3⟩ ?_
 rintro kL1 c9 d0 ⟨a4, a5, a3, a6, a2, a7, rfl, H, b9, c0⟩
 refine CW.seq (cr (WL.mv rfl (WL.mv rfl (WL.v (Runs.lss rfl rfl rfl) (wn ?_)))))
 rcases H with ⟨b4, H⟩ | ⟨b4, H⟩
 ·have b5 := (decide_eq_true b4)
  refine CW.ct rfl b5 (CW.skip (QW.then_n (CW.seq (CW.block (cr (WL.mv rfl (WL.mv rfl ?_)))))))
  refine WL.v (Runs.rem rfl rfl (by decide) rfl) ?_
  refine WL.v (Runs.conv underlying5 ⟨_, underlying37⟩ rfl rfl) ?_
  refine WL.buildSl [.int .u8 (IntKind.u8.wrap (Int.tmod a2 256))] c0 underlying25 elem5 rfl rfl (by decide) (by decide) (by simp [Value.cells]) ?_
  intro c1 c6 a9
  replace a9 : St w c6 [.sl (sp c1) 1 1 (iv .u8 [IntKind.u8.wrap (Int.tmod a2 256)]) 5 1, .sl a4 a5 a3 (iv .u8 a6) 5 1] := a9
  obtain ⟨b6, c2, H⟩ := H
  obtain ⟨c7, H⟩ := H
  obtain ⟨b7, b8⟩ : ∃ n_ : Nat, n_ = b6.length := ⟨_, rfl⟩
  refine WL.append (i := 1) Wanted.none a9 rfl underlying25 elem5 rfl rfl (a9.src_sl (k := 0) rfl) (by rw [iv_length]; exact (Eq.refl _).symm) (one_iv .u8 _) (by decide) (N := b7) (by rw [b8, c2, List.length_append]; exact congr (congrArg HAdd.hAdd (b9)) (rfl)) (by rw [b8]; exact c7) ?_
  intro c3 c4 c8 a8
  have a8' : St w c8 [.sl (sp c1) 1 1 (iv .u8 [IntKind.u8.wrap (Int.tmod a2 256)]) 5 1, .sl c3 c4 b7 (iv .u8 b6) 5 1] := by rw [c2, ← iv_append .u8 a6 [IntKind.u8.wrap (Int.tmod a2 256)]]; exact a8
  refine WL.as rfl (wn (CW.region (WL.mv rfl ?_)))
  refine WL.v (Runs.quo rfl rfl (by decide) rfl) ?_
  refine WL.as rfl (WL.nil (QW.blk_n (QW.then_n (CW.region (WL.mv rfl (WL.v (Runs.add rfl rfl rfl) (WL.as rfl (WL.nil ?_))))))))
  have a8'' := a8'.pick [1] (by decide)
  exact QW.a ⟨c3, c4, b7, b6, u64.wrap (Int.tdiv a2 256), i64.wrap (a7 + 1), rfl, H, b8, a8''⟩
 have b5 := (decide_eq_false b4)
 refine CW.cf rfl b5 (CW.exit (QW.then_x (QW.then_x (QW.blk_x (QW.then_n (CW.sub [(4, _), (5, _)] ⟨rfl, rfl, trivial⟩ (cr (WL.mv rfl (WL.as rfl (wn (CW.ret ?_)))))))))))
 obtain rfl := H
 exact QW.ret1 rfl rfl ⟨a4, a5, a3, b9, rfl, c0.pick [0] (by decide)⟩
def reliquaryref12_Put.rel (a6 : Int) (a5 : ByteArray) (a7 : Bool) (r0 : ByteArray) (r1 : Int) : Prop := (((a5.size : Int) ≠ 160 ∧ r0 = (⟨#[]⟩ : ByteArray) ∧ r1 = 1) ∨ (¬ ((a5.size : Int) ≠ 160) ∧ ((a7 = true ∧ ((0 ≤ (1 : Int) ∧ (1 : Int) < ([1, 0, 0, 0, 0, 0, 0, 0].length : Int)) ∧ (∃ a2 : List Int, a2 = List.set [1, 0, 0, 0, 0, 0, 0, 0] 1 1 ∧ (∃ a3, reliquaryref01_Put.rel a6 8 a3 ∧ (∃ a0 : List Int, a0 = a2 ++ a3 ∧ (a0.length ≤ 1099511627776 ∧ (((strOfNums a0).size + a5.size ≤ 1099511627776) ∧ r0 = (strOfNums a0) ++ a5 ∧ r1 = 0))))))) ∨ (¬ (a7 = true) ∧ (∃ a4, reliquaryref01_Put.rel a6 8 a4 ∧ (∃ a1 : List Int, a1 = [1, 0, 0, 0, 0, 0, 0, 0] ++ a4 ∧ (a1.length ≤ 1099511627776 ∧ (((strOfNums a1).size + a5.size ≤ 1099511627776) ∧ r0 = (strOfNums a1) ++ a5 ∧ r1 = 0))))))))
theorem reliquaryref12_Put.calls (H : reliquaryref12_Put.rel iA yA bA yB iB) :
  Calls prog 44 #[.agg ((cu iA) ++ ((ct yA) ++ (cb bA))).toArray] w fun e w' => e = .returned (.tuple #[.string yB, .int .i64 iB]) ∧ St w w' [] := by
 refine CW.en func44 rfl 27 [_] (CW.sub [(0, _)] ⟨rfl, trivial⟩ ?_)
 have st0 := St.refl w
 refine cr (WL.box st0 rfl rfl ?_)
 intro a0 f5 a9
 refine WL.as rfl (WL.as rfl (wn (CW.seq (cr (WL.v (Runs.fieldAddr (off := 0) (p := 0) fld118_0 rfl rfl rfl) (WL.v (Runs.fieldAddr (off := 1) (p := 1) fld116_1 rfl rfl rfl) (WL.ld 0 nagg9 a9 rfl rfl (pa (.string yA) (cu iA) (cb bA)) (WL.v (Runs.len_str underlying9 rfl) (WL.v (Runs.neq rfl rfl rfl) (wn ?_))))))))))
 rcases H with ⟨b0, H⟩ | ⟨b0, H⟩
 ·have b1 : ((yA.size : Int) != 160) = true := (bne_iff_ne.mpr b0)
  refine CW.ct rfl b1 (cr (WL.as rfl (WL.as rfl (wn (CW.ret (QW.then_r ?_))))))
  obtain ⟨rfl, rfl⟩ := H
  exact QW.ret2 rfl rfl rfl ⟨rfl, a9.pick [] (by decide)⟩
 have b1 : ((yA.size : Int) != 160) = false := (bne_eq_false_iff_eq.mpr (Decidable.not_not.mp b0))
 refine CW.cf rfl b1 (CW.skip (QW.then_n (CW.sub [(1, _), (2, _), (3, _)] ⟨rfl, rfl, rfl, trivial⟩ (cr ?_))))
 refine WL.buildSl [.int .u8 1, .int .u8 0, .int .u8 0, .int .u8 0, .int .u8 0, .int .u8 0, .int .u8 0, .int .u8 0] a9 underlying25 elem5 rfl rfl (by decide) (by decide) (by simp [Value.cells]) ?_
 intro a4 c0 a1
 replace a1 : St w c0 [.sl (sp a4) 8 8 (iv .u8 [1, 0, 0, 0, 0, 0, 0, 0]) 5 1, .cells a0 ((cu iA) ++ ((ct yA) ++ (cb bA))) 118] := a1
 refine WL.as rfl (wn (CW.seq (cr (WL.v (Runs.fieldAddr (off := 2) (p := 2) fld118_1 rfl rfl rfl) (WL.ld 1 nagg4 a1 rfl rfl (pa (.bool bA) ((cu iA) ++ (ct yA)) []) (wn ?_))))))
 rcases H with ⟨b2, H⟩ | ⟨b2, H⟩
 ·have b3 : bA = true := b2
  refine CW.ct rfl b3 (CW.region (WL.mv rfl ?_))
  obtain ⟨⟨e0, e1⟩, H⟩ := H
  obtain ⟨f6, c1⟩ := (a1.src_sl (k := 0) rfl).addr_iv 1 (by omega)
  refine WL.v (Runs.indexAddr underlying25 cells5 (by decide) rfl c1 rfl e0 e1 (o := 1) (by first | rfl | omega)) ?_
  obtain ⟨a5, c2, H⟩ := H
  refine WL.store_sl (i := 0) a1 rfl cells5 rfl c1 (by rw [iv_length]; omega) rfl rfl ?_
  intro c3 a6
  have e2 : 8 = a5.length := by rw [c2, List.length_set] <;> rfl
  have a6' : St w c3 [.sl (sp a4) 8 8 (iv .u8 a5) 5 1, .cells a0 ((cu iA) ++ ((ct yA) ++ (cb bA))) 118] := by rw [c2, ← iv_set .u8 [1, 0, 0, 0, 0, 0, 0, 0] 1 1]; exact a6
  refine WL.nx (WL.mv rfl (WL.v (Runs.fieldAddr (off := 0) (p := 0) fld118_0 rfl rfl rfl) (WL.v (Runs.fieldAddr (off := 0) (p := 0) fld116_0 rfl rfl rfl) (WL.v (Runs.load nagg37 rfl (a6'.cell (k := 1) rfl (pa (.int .u64 iA) [] ((ct yA) ++ (cb bA))))) ?_))))
  obtain ⟨a7, e3, H⟩ := H
  refine wC ent33 rfl (reliquaryref01_Put.calls e3) ?_
  rintro _ e4 ⟨c4, c5, c6, c7, rfl, e5⟩
  have c8 : St w e4 [.sl c4 c5 c6 (iv .u8 a7) 5 1, .sl (sp a4) 8 8 (iv .u8 a5) 5 1, .cells a0 ((cu iA) ++ ((ct yA) ++ (cb bA))) 118] := a6'.call e5
  refine ⟨_, rfl, ?_⟩
  obtain ⟨b4, c9, H⟩ := H
  obtain ⟨e6, H⟩ := H
  obtain ⟨b5, b6⟩ : ∃ n_ : Nat, n_ = b4.length := ⟨_, rfl⟩
  refine WL.append (i := 1) Wanted.none c8 rfl underlying25 elem5 rfl rfl (c8.src_sl (k := 0) rfl) (by rw [iv_length]; exact (c7).symm) (one_iv .u8 _) (by decide) (N := b5) (by rw [b6, c9, List.length_append]; exact congr (congrArg HAdd.hAdd (e2)) (c7)) (by rw [b6]; exact e6) ?_
  intro d0 d1 e7 a2
  have a2' := a2; (try dsimp only [List.set, ec, en] at a2'); rw [iv_append .u8 a5 a7, ← c9] at a2'
  refine WL.as rfl (wn (CW.sub [(1, _), (2, _), (3, _), (4, _)] ⟨rfl, rfl, rfl, rfl, trivial⟩ (cr (WL.mv rfl (WL.v (Runs.bytes_str underlying25 underlying5 underlying9 rfl (a2'.src_sl (k := 1) rfl) b6) (WL.v (Runs.fieldAddr (off := 0) (p := 0) fld118_0 rfl rfl rfl) (WL.v (Runs.fieldAddr (off := 1) (p := 1) fld116_1 rfl rfl rfl) (WL.v (Runs.load nagg9 rfl (a2'.cell (k := 2) rfl (pa (.string yA) (cu iA) (cb bA)))) ?_))))))))
  obtain ⟨e8, H⟩ := H
  refine WL.v (Runs.adds rfl rfl e8 rfl) (WL.as rfl (WL.as rfl (wn (CW.ret ?_))))
  obtain ⟨rfl, rfl⟩ := H
  exact QW.ret2 rfl rfl rfl ⟨rfl, a2'.pick [] (by decide)⟩
 have b3 : bA = false := (Bool.eq_false_iff.mpr b2)
 refine CW.cf rfl b3 (CW.skip (QW.then_n (cr (WL.mv rfl (WL.v (Runs.fieldAddr (off := 0) (p := 0) fld118_0 rfl rfl rfl) (WL.v (Runs.fieldAddr (off := 0) (p := 0) fld116_0 rfl rfl rfl) (WL.ld 1 nagg37 a1 rfl rfl (pa (.int .u64 iA) [] ((ct yA) ++ (cb bA))) ?_)))))))
 obtain ⟨a8, e9, H⟩ := H
 refine wC ent33 rfl (reliquaryref01_Put.calls e9) ?_
 rintro _ f0 ⟨d2, d3, d4, d5, rfl, f1⟩
 have d6 := a1.call f1
 refine ⟨_, rfl, ?_⟩
 obtain ⟨b7, d7, H⟩ := H
 obtain ⟨f2, H⟩ := H
 obtain ⟨b8, b9⟩ : ∃ n_ : Nat, n_ = b7.length := ⟨_, rfl⟩
 refine WL.append (i := 1) Wanted.none d6 rfl underlying25 elem5 rfl rfl (d6.src_sl (k := 0) rfl) (by rw [iv_length]; exact (d5).symm) (one_iv .u8 _) (by decide) (N := b8) (by rw [b9, d7, List.length_append]; exact congr (congrArg HAdd.hAdd (rfl)) (d5)) (by rw [b9]; exact f2) ?_
 intro d8 d9 f3 a3
 have a3' : St w f3 [.sl d2 d3 d4 (iv .u8 a8) 5 1, .sl d8 d9 b8 (iv .u8 b7) 5 1, .cells a0 ((cu iA) ++ ((ct yA) ++ (cb bA))) 118] := by rw [d7, ← iv_append .u8 [1, 0, 0, 0, 0, 0, 0, 0] a8]; exact a3
 refine WL.as rfl (wn (CW.sub [(1, _), (2, _), (3, _), (4, _)] ⟨rfl, rfl, rfl, rfl, trivial⟩ (cr (WL.mv rfl (WL.v (Runs.bytes_str underlying25 underlying5 underlying9 rfl (a3'.src_sl (k := 1) rfl) b9) (WL.v (Runs.fieldAddr (off := 0) (p := 0) fld118_0 rfl rfl rfl) (WL.v (Runs.fieldAddr (off := 1) (p := 1) fld116_1 rfl rfl rfl) (WL.v (Runs.load nagg9 rfl (a3'.cell (k := 2) rfl (pa (.string yA) (cu iA) (cb bA)))) ?_))))))))
 obtain ⟨f4, H⟩ := H
 refine WL.v (Runs.adds rfl rfl f4 rfl) (WL.as rfl (WL.as rfl (wn (CW.ret ?_))))
 obtain ⟨rfl, rfl⟩ := H
 exact QW.ret2 rfl rfl rfl ⟨rfl, a3'.pick [] (by decide)⟩
def reliquaryref04_Nonce.L2 (r0 a1 : List Int) : Nat → (List Int) → Int → Prop
 | 0, _, _ => False
 | kL2 + 1, a2, a0 => ((a0 < 8 ∧ ((0 ≤ a0 ∧ a0 < (a1.length : Int)) ∧ ((0 ≤ (i64.wrap (4 + a0)) ∧ (i64.wrap (4 + a0)) < (12 : Int)) ∧ (∃ a3 : List Int, a3 = List.set a2 ((i64.wrap (4 + a0)).toNat) (gn a1 (a0.toNat)) ∧ reliquaryref04_Nonce.L2 r0 a1 kL2 a3 (i64.wrap (a0 + 1)))))) ∨ (¬ (a0 < 8) ∧ r0 = a2))
def reliquaryref04_Nonce.L1 (r0 a1 a2 : List Int) : Nat → (List Int) → Int → Prop
 | 0, _, _ => False
 | kL1 + 1, a3, a0 => ((a0 < 4 ∧ ((0 ≤ a0 ∧ a0 < (a1.length : Int)) ∧ ((0 ≤ a0 ∧ a0 < (12 : Int)) ∧ (∃ a4 : List Int, a4 = List.set a3 (a0.toNat) (gn a1 (a0.toNat)) ∧ reliquaryref04_Nonce.L1 r0 a1 a2 kL1 a4 (i64.wrap (a0 + 1)))))) ∨ (¬ (a0 < 4) ∧ (∃ k_ : Nat, reliquaryref04_Nonce.L2 r0 a2 k_ a3 0)))
def reliquaryref04_Nonce.rel (a0 a1 : Int) (r0 : List Int) : Prop := (∃ a2, reliquaryref01_Put.rel (u64.wrap a0) 4 a2 ∧ (∃ a3, reliquaryref01_Put.rel a1 8 a3 ∧ (∃ k_ : Nat, reliquaryref04_Nonce.L1 r0 a2 a3 k_ (List.replicate 12 (0 : Int)) 0)))
theorem reliquaryref04_Nonce.calls (H : reliquaryref04_Nonce.rel iA iB lA) :
  Calls prog 66 #[.int .u32 iA, .int .u64 iB] w fun e w' => lA.length = 12 ∧ e = .returned (.agg (iv .u8 lA).toArray) ∧ St w w' [] := by
 refine CW.en func66 rfl 37 [_, _] (CW.sub [(0, _), (1, _)] ⟨rfl, rfl, trivial⟩ ?_)
 have st0 := St.refl w
 refine cr (WL.alloc st0 arr140.zero ?_)
 intro a2 g1 d4
 refine WL.nx (WL.alloc d4 arr140.zero ?_)
 intro a3 d5 d6
 refine WL.nx (WL.mv rfl (WL.v (Runs.conv underlying37 ⟨_, underlying24⟩ rfl rfl) ?_))
 obtain ⟨a9, d7, H⟩ := H
 refine wC ent33 rfl (reliquaryref01_Put.calls d7) ?_
 rintro _ c9 ⟨b0, b1, b2, d8, rfl, d9⟩
 have e0 := d6.call d9
 refine ⟨_, rfl, WL.as rfl (WL.nx (WL.mv rfl ?_))⟩
 obtain ⟨b3, e1, H⟩ := H
 refine wC ent33 rfl (reliquaryref01_Put.calls e1) ?_
 rintro _ e2 ⟨a4, a5, a6, e3, rfl, e4⟩
 have e5 := e0.call e4
 refine ⟨_, rfl, WL.as rfl (wn (CW.sub [(4, _), (5, _), (6, _), (7, _)] ⟨rfl, rfl, rfl, rfl, trivial⟩ (CW.seq (cr (WL.as rfl (wn (CW.block ?_)))))))⟩
 obtain ⟨e6, H⟩ := H
 refine CW.su [(4, _), (5, _), (6, _), (7, _), (8, _)] ?_
 refine CW.lp (fun kL1 l_ w_ => ∃ b5 a7, l_ = [(4, .pointer (sp a2)), (5, .pointer (sp a3)), (6, .slice b0 b2 b1), (7, .slice a4 a6 a5), (8, .int .i64 a7)] ∧ reliquaryref04_Nonce.L1 lA a9 b3 kL1 b5 a7 ∧ (b5.length = 12) ∧ St w w_ [.sl a4 a5 a6 (iv .u8 b3) 5 1, .sl b0 b1 b2 (iv .u8 a9) 5 1, .cells a3 (iv .u8 b5) 140, .cells a2 (iv .u8 (List.replicate 12 (0 : Int))) 140]) (k := e6) ⟨List.replicate 12 (0 : Int), 0, rfl, H, (List.length_replicate ..), e5⟩ ?_
 rintro kL1 g2 g3 ⟨b5, a7, rfl, H, c0, b8⟩
 refine CW.seq (cr (WL.mv rfl (WL.v (Runs.lss rfl rfl rfl) (wn ?_))))
 rcases H with ⟨c1, H⟩ | ⟨c1, H⟩
 ·have c2 := (decide_eq_true c1)
  refine CW.ct rfl c2 (CW.skip (QW.then_n (CW.seq (CW.block (CW.region (WL.mv rfl (WL.mv rfl (WL.mv rfl ?_))))))))
  obtain ⟨⟨e7, e8⟩, H⟩ := H
  obtain ⟨g4, d0⟩ := (b8.src_sl (k := 1) rfl).addr_iv (a7.toNat) (by omega)
  refine WL.v (Runs.indexAddr underlying25 cells5 (by decide) rfl d0 rfl e7 (by rw [d8]; exact e8) (o := (a7).toNat) (by first | rfl | omega)) ?_
  refine WL.v (Runs.load nagg5 rfl ((b8.src_sl (k := 1) rfl).cell_iv d0 (by omega))) ?_
  obtain ⟨⟨e9, f0⟩, H⟩ := H
  refine WL.v (Runs.indexAddr_blk arr140 rfl rfl e9 f0 (o := (a7).toNat) (by first | rfl | omega)) ?_
  obtain ⟨c3, d1, H⟩ := H
  have f1 : c3.length = 12 := by rw [d1, List.length_set]; exact c0
  refine WL.store_cells (i := 2) b8 rfl cells5 rfl (by rw [iv_length]; have := c0; omega) rfl rfl ?_
  intro f2 c4
  have c4' := c4; (try dsimp only [List.set, ec, en] at c4'); rw [iv_set .u8 b5 (a7.toNat) (gn a9 (a7.toNat)), ← d1] at c4'
  refine WL.nil (QW.blk_n (QW.then_n (CW.region (WL.mv rfl (WL.v (Runs.add rfl rfl rfl) (WL.as rfl (WL.nil ?_)))))))
  exact QW.a ⟨c3, i64.wrap (a7 + 1), rfl, H, f1, c4'⟩
 have c2 := (decide_eq_false c1)
 refine CW.cf rfl c2 (CW.exit (QW.then_x (QW.then_x (QW.blk_x (QW.then_n (CW.seq (cr (WL.as rfl (wn (CW.block ?_))))))))))
 obtain ⟨f3, H⟩ := H
 refine CW.sub [(4, _), (5, _), (7, _), (9, _)] ⟨rfl, rfl, rfl, rfl, trivial⟩ ?_
 refine CW.lp (fun kL2 l_ w_ => ∃ b4 a8, l_ = [(4, .pointer (sp a2)), (5, .pointer (sp a3)), (7, .slice a4 a6 a5), (9, .int .i64 a8)] ∧ reliquaryref04_Nonce.L2 lA b3 kL2 b4 a8 ∧ (b4.length = 12) ∧ St w w_ [.sl a4 a5 a6 (iv .u8 b3) 5 1, .sl b0 b1 b2 (iv .u8 a9) 5 1, .cells a3 (iv .u8 b4) 140, .cells a2 (iv .u8 (List.replicate 12 (0 : Int))) 140]) (k := f3) ⟨b5, 0, rfl, H, c0, b8⟩ ?_
 rintro kL2 g5 g6 ⟨b4, a8, rfl, H, b6, b7⟩
 refine CW.seq (cr (WL.mv rfl (WL.v (Runs.lss rfl rfl rfl) (wn ?_))))
 rcases H with ⟨c5, H⟩ | ⟨c5, H⟩
 ·have c6 := (decide_eq_true c5)
  refine CW.ct rfl c6 (CW.skip (QW.then_n (CW.seq (CW.block (CW.region (WL.mv rfl (WL.v (Runs.add rfl rfl rfl) (WL.mv rfl (WL.mv rfl ?_)))))))))
  obtain ⟨⟨f4, f5⟩, H⟩ := H
  obtain ⟨g7, d2⟩ := (b7.src_sl (k := 0) rfl).addr_iv (a8.toNat) (by omega)
  refine WL.v (Runs.indexAddr underlying25 cells5 (by decide) rfl d2 rfl f4 (by rw [e3]; exact f5) (o := (a8).toNat) (by first | rfl | omega)) ?_
  refine WL.v (Runs.load nagg5 rfl ((b7.src_sl (k := 0) rfl).cell_iv d2 (by omega))) ?_
  obtain ⟨⟨f6, f7⟩, H⟩ := H
  refine WL.v (Runs.indexAddr_blk arr140 rfl rfl f6 f7 (o := (i64.wrap (4 + a8)).toNat) (by first | rfl | omega)) ?_
  obtain ⟨c7, d3, H⟩ := H
  have f8 : c7.length = 12 := by rw [d3, List.length_set]; exact b6
  refine WL.store_cells (i := 2) b7 rfl cells5 rfl (by rw [iv_length]; have := b6; omega) rfl rfl ?_
  intro f9 c8
  have c8' := c8; (try dsimp only [List.set, ec, en] at c8'); rw [iv_set .u8 b4 ((i64.wrap (4 + a8)).toNat) (gn b3 (a8.toNat)), ← d3] at c8'
  refine WL.nil (QW.blk_n (QW.then_n (CW.region (WL.mv rfl (WL.v (Runs.add rfl rfl rfl) (WL.as rfl (WL.nil ?_)))))))
  exact QW.a ⟨c7, i64.wrap (a8 + 1), rfl, H, f8, c8'⟩
 have c6 := (decide_eq_false c5)
 refine CW.cf rfl c6 (CW.exit (QW.then_x (QW.then_x (QW.blk_x (QW.then_n (cr (WL.v (Runs.load_arr arr140 rfl (b7.blk (i := 2) rfl) b6) ?_)))))))
 refine WL.store_arr (i := 3) b7 rfl arr140 rfl (by rw [iv_length]; exact (List.length_replicate ..)) b6 rfl ?_
 intro g0 b9
 try dsimp only [List.set] at b9
 refine wn (CW.ret ?_)
 obtain rfl := H
 exact QW.retc rfl arr140 rfl (b9.blk (i := 3) rfl) b6 ⟨b6, rfl, b9.pick [] (by decide)⟩
def reliquaryref01_Get.L1 (l0 : List Int) (a1 a2 r0 r1 : Int) : Nat → Int → Int → Int → Prop
 | 0, _, _, _ => False
 | kL1 + 1, a3, a4, a0 => ((a0 < a2 ∧ ((0 ≤ (i64.wrap (a1 + a0)) ∧ (i64.wrap (a1 + a0)) < (l0.length : Int)) ∧ (∃ a5 : Int, a5 = u64.wrap (gn l0 ((i64.wrap (a1 + a0)).toNat)) ∧ reliquaryref01_Get.L1 l0 a1 a2 r0 r1 kL1 (u64.wrap (a3 + (u64.wrap (a5 * a4)))) (u64.wrap (a4 * 256)) (i64.wrap (a0 + 1))))) ∨ (¬ (a0 < a2) ∧ r0 = a3 ∧ r1 = 0))
def reliquaryref01_Get.rel (l0 : List Int) (a1 a2 r0 r1 : Int) : Prop := ((a2 < 1 ∧ r0 = 0 ∧ r1 = 1) ∨ (¬ (a2 < 1) ∧ ((a2 > 8 ∧ r0 = 0 ∧ r1 = 1) ∨ (¬ (a2 > 8) ∧ ((a1 < 0 ∧ r0 = 0 ∧ r1 = 12) ∨ (¬ (a1 < 0) ∧ ((a1 > (l0.length : Int) ∧ r0 = 0 ∧ r1 = 12) ∨ (¬ (a1 > (l0.length : Int)) ∧ (((i64.wrap ((l0.length : Int) - a1)) < a2 ∧ r0 = 0 ∧ r1 = 12) ∨ (¬ ((i64.wrap ((l0.length : Int) - a1)) < a2) ∧ (∃ k_ : Nat, reliquaryref01_Get.L1 l0 a1 a2 r0 r1 k_ 0 1 0)))))))))))
theorem reliquaryref01_Get.calls (hs0 : Src w pA (iv .u8 lA)) (hn0 : nA = lA.length) (hc0 : nA ≤ nB) (H : reliquaryref01_Get.rel lA iA iB iC iD) :
  Calls prog 90 #[.slice pA nA nB, .int .i64 iA, .int .i64 iB] w fun e w' => e = .returned (.tuple #[.int .u64 iC, .int .i64 iD]) ∧ St w w' [] := by
 refine CW.en func90 rfl 52 [_, _, _] (CW.sub [(0, _), (1, _), (2, _)] ⟨rfl, rfl, rfl, trivial⟩ ?_)
 have st0 := St.refl w
 refine cr (WL.as rfl (WL.as rfl (wn (CW.seq (cr (WL.mv rfl (WL.v (Runs.lss rfl rfl rfl) (WL.mv rfl ?_))))))))
 rcases H with ⟨a9, H⟩ | ⟨a9, H⟩
 ·have a5 := (decide_eq_true a9)
  iterate 2 (refine WL.off ?_ ?_; exact Wg 13 a5)
  refine WL.v (Runs.pick_t (evb rfl a5) rfl) (wn (CW.ct rfl rfl (cr (WL.as rfl (WL.as rfl (wn (CW.ret (QW.then_r ?_))))))))
  obtain ⟨rfl, rfl⟩ := H
  exact QW.ret2 rfl rfl rfl ⟨rfl, st0.pick [] (by decide)⟩
 have a5 := (decide_eq_false a9)
 refine WL.on ?_ ?_; exact Wg 13 a5
 refine WL.mv rfl ?_
 refine WL.on ?_ ?_; exact Wg 13 a5
 refine WL.v (Runs.gtr rfl rfl rfl) (WL.v (Runs.pick_f (evb rfl a5) rfl) (wn ?_))
 rcases H with ⟨b0, H⟩ | ⟨b0, H⟩
 ·have b1 := (decide_eq_true b0)
  refine CW.ct rfl b1 (cr (WL.as rfl (WL.as rfl (wn (CW.ret (QW.then_r ?_))))))
  obtain ⟨rfl, rfl⟩ := H
  exact QW.ret2 rfl rfl rfl ⟨rfl, st0.pick [] (by decide)⟩
 have b1 := (decide_eq_false b0)
 refine CW.cf rfl b1 (CW.skip (QW.then_n ?_))
 refine CW.su [(0, _), (1, _), (2, _), (6, _), (7, _)] ?_
 refine CW.seq (cr (WL.mv rfl (WL.v (Runs.lss rfl rfl rfl) (WL.mv rfl ?_))))
 rcases H with ⟨b2, H⟩ | ⟨b2, H⟩
 ·have a3 := (decide_eq_true b2)
  iterate 4 (refine WL.off ?_ ?_; exact Wg 19 a3)
  refine WL.v (Runs.pick_t (evb rfl a3) rfl) (WL.mv rfl ?_)
  iterate 6 (refine WL.off ?_ ?_; exact Wg 25 rfl)
  refine WL.v (Runs.pick_t rfl rfl) (wn ?_)
  refine CW.su [(0, _), (1, _), (2, _), (6, _), (7, _), (32, _)] ?_
  refine CW.ct rfl rfl (cr (WL.as rfl (WL.as rfl (wn (CW.ret (QW.then_r ?_))))))
  obtain ⟨rfl, rfl⟩ := H
  exact QW.ret2 rfl rfl rfl ⟨rfl, st0.pick [] (by decide)⟩
 have a3 := (decide_eq_false b2)
 refine WL.on ?_ ?_; exact Wg 19 a3
 refine WL.mv rfl ?_
 refine WL.on ?_ ?_; exact Wg 19 a3
 refine WL.mv rfl ?_
 refine WL.on ?_ ?_; exact Wg 19 a3
 refine WL.v (Runs.len_sl underlying25 rfl (by rw [hn0])) ?_
 refine WL.on ?_ ?_; exact Wg 19 a3
 refine WL.v (Runs.gtr rfl rfl rfl) (WL.v (Runs.pick_f (evb rfl a3) rfl) (WL.mv rfl ?_))
 rcases H with ⟨b3, H⟩ | ⟨b3, H⟩
 ·have a0 := (decide_eq_true b3)
  iterate 6 (refine WL.off ?_ ?_; exact Wg 25 a0)
  refine WL.v (Runs.pick_t (evb rfl a0) rfl) (wn ?_)
  refine CW.su [(0, _), (1, _), (2, _), (6, _), (7, _), (32, _)] ?_
  refine CW.ct rfl rfl (cr (WL.as rfl (WL.as rfl (wn (CW.ret (QW.then_r ?_))))))
  obtain ⟨rfl, rfl⟩ := H
  exact QW.ret2 rfl rfl rfl ⟨rfl, st0.pick [] (by decide)⟩
 have a0 := (decide_eq_false b3)
 refine WL.on ?_ ?_; exact Wg 25 a0
 refine WL.mv rfl ?_
 refine WL.on ?_ ?_; exact Wg 25 a0
 refine WL.v (Runs.len_sl underlying25 rfl (by rw [hn0])) ?_
 refine WL.on ?_ ?_; exact Wg 25 a0
 refine WL.mv rfl ?_
 refine WL.on ?_ ?_; exact Wg 25 a0
 refine WL.v (Runs.sub rfl rfl rfl) ?_
 refine WL.on ?_ ?_; exact Wg 25 a0
 refine WL.mv rfl ?_
 refine WL.on ?_ ?_; exact Wg 25 a0
 refine WL.v (Runs.lss rfl rfl rfl) (WL.v (Runs.pick_f (evb rfl a0) rfl) (wn ?_))
 refine CW.su [(0, _), (1, _), (2, _), (6, _), (7, _), (32, _)] ?_
 rcases H with ⟨b4, H⟩ | ⟨b4, H⟩
 ·have b5 := (decide_eq_true b4)
  refine CW.ct rfl b5 (cr (WL.as rfl (WL.as rfl (wn (CW.ret (QW.then_r ?_))))))
  obtain ⟨rfl, rfl⟩ := H
  exact QW.ret2 rfl rfl rfl ⟨rfl, st0.pick [] (by decide)⟩
 have b5 := (decide_eq_false b4)
 refine CW.cf rfl b5 (CW.skip (QW.then_n (cr (WL.as rfl (WL.nx (WL.as rfl (wn (CW.seq (cr (WL.as rfl (wn (CW.block ?_))))))))))))
 obtain ⟨b9, H⟩ := H
 refine CW.su [(0, _), (1, _), (2, _), (6, _), (7, _), (8, _), (9, _), (10, _)] ?_
 refine CW.lp (fun kL1 l_ w_ => ∃ a6 a7 a4, l_ = [(0, .slice pA nA nB), (1, .int .i64 iA), (2, .int .i64 iB), (6, .int .u64 0), (7, .int .i64 0), (8, .int .u64 a6), (9, .int .u64 a7), (10, .int .i64 a4)] ∧ reliquaryref01_Get.L1 lA iA iB iC iD kL1 a6 a7 a4 ∧ St w w_ []) (k := b9) ⟨0, 1, 0, rfl, H, st0⟩ ?_
 rintro kL1 c5 c6 ⟨a6, a7, a4, rfl, H, a8⟩
 refine CW.seq (cr (WL.mv rfl (WL.mv rfl (WL.v (Runs.lss rfl rfl rfl) (wn ?_)))))
 rcases H with ⟨b6, H⟩ | ⟨b6, H⟩
 ·have b7 := (decide_eq_true b6)
  refine CW.ct rfl b7 (CW.skip (QW.then_n (CW.seq (CW.block (cr (WL.mv rfl (WL.mv rfl (WL.mv rfl (WL.mv rfl (WL.v (Runs.add rfl rfl rfl) ?_))))))))))
  obtain ⟨⟨c1, c2⟩, H⟩ := H
  obtain ⟨c7, b8⟩ := (hs0.ext a8).addr_iv ((i64.wrap (iA + a4)).toNat) (by omega)
  refine WL.v (Runs.indexAddr underlying25 cells5 (by decide) rfl b8 rfl c1 (by rw [hn0]; exact c2) (o := (i64.wrap (iA + a4)).toNat) (by first | rfl | omega)) ?_
  refine WL.v (Runs.load nagg5 rfl ((hs0.ext a8).cell_iv b8 (by omega))) ?_
  obtain ⟨c3, c4, H⟩ := H
  refine WL.v (Runs.conv underlying37 ⟨_, underlying5⟩ rfl c4) (WL.mv rfl (WL.v (Runs.mul rfl rfl rfl) (WL.v (Runs.add rfl rfl rfl) (WL.as rfl (wn (CW.region (WL.mv rfl (WL.v (Runs.mul rfl rfl rfl) (WL.as rfl (WL.nil (QW.blk_n (QW.then_n (CW.region (WL.mv rfl (WL.v (Runs.add rfl rfl rfl) ?_)))))))))))))))
  refine WL.as rfl (WL.nil ?_)
  exact QW.a ⟨u64.wrap (a6 + (u64.wrap (c3 * a7))), u64.wrap (a7 * 256), i64.wrap (a4 + 1), rfl, H, a8⟩
 have b7 := (decide_eq_false b6)
 refine CW.cf rfl b7 (CW.exit (QW.then_x (QW.then_x (QW.blk_x (QW.then_n (CW.sub [(6, _), (7, _), (8, _)] ⟨rfl, rfl, rfl, trivial⟩ (cr (WL.mv rfl (WL.as rfl (WL.as rfl (wn (CW.ret ?_))))))))))))
 obtain ⟨rfl, rfl⟩ := H
 exact QW.ret2 rfl rfl rfl ⟨rfl, a8.pick [] (by decide)⟩
def reliquaryref04_at.rel (l0 : List Int) (a1 r0 : Int) : Prop := (∃ a0 a2, reliquaryref01_Get.rel l0 a1 4 a0 a2 ∧ r0 = u32.wrap a0)
theorem reliquaryref04_at.calls (hs0 : Src w pA (iv .u8 lA)) (hn0 : nA = lA.length) (hc0 : nA ≤ nB) (H : reliquaryref04_at.rel lA iA iB) :
  Calls prog 87 #[.slice pA nA nB, .int .i64 iA] w fun e w' => e = .returned (.int .u32 iB) ∧ St w w' [] := by
 refine CW.en func87 rfl 15 [_, _] (CW.sub [(0, _), (1, _)] ⟨rfl, rfl, trivial⟩ ?_)
 have st0 := St.refl w
 refine cr (WL.as rfl (WL.nx (WL.mv rfl (WL.mv rfl ?_))))
 obtain ⟨a0, a2, a3, H⟩ := H
 refine wC ent90 rfl (reliquaryref01_Get.calls (hs0.ext st0) (hn0) (hc0) a3) ?_
 rintro _ a4 ⟨rfl, a5⟩
 have a6 := st0.call a5
 refine ⟨_, rfl, WL.mv rfl (WL.v (Runs.extract rfl rfl) (WL.v (Runs.extract rfl rfl) (WL.as rfl (WL.as rfl (wn (CW.sub [(4, _), (5, _)] ⟨rfl, rfl, trivial⟩ (cr (WL.mv rfl (WL.v (Runs.conv underlying24 ⟨_, underlying37⟩ rfl rfl) (WL.as rfl (wn (CW.ret ?_))))))))))))⟩
 obtain rfl := H
 exact QW.ret1 rfl rfl ⟨rfl, a6.pick [] (by decide)⟩
def reliquaryref04_left.rel (a0 a1 r0 : Int) : Prop := (0 ≤ a1 ∧ (0 ≤ (u64.wrap (32 - a1)) ∧ (∃ a2 : Int, a2 = bits .or .u32 (shlI .u32 a0 a1) (shrI .u32 a0 (u64.wrap (32 - a1))) ∧ r0 = a2)))
theorem reliquaryref04_left.calls (H : reliquaryref04_left.rel iA iB iC) :
  Calls prog 91 #[.int .u32 iA, .int .u64 iB] w fun e w' => e = .returned (.int .u32 iC) ∧ St w w' [] := by
 refine CW.en func91 rfl 13 [_, _] (CW.sub [(0, _), (1, _)] ⟨rfl, rfl, trivial⟩ ?_)
 have st0 := St.refl w
 refine cr (WL.as rfl (WL.nx (WL.mv rfl (WL.mv rfl ?_))))
 obtain ⟨a2, H⟩ := H
 refine WL.v (Runs.shl rfl rfl a2 rfl) (WL.mv rfl (WL.mv rfl (WL.v (Runs.sub rfl rfl rfl) ?_)))
 obtain ⟨a3, H⟩ := H
 refine WL.v (Runs.shr rfl rfl a3 rfl) ?_
 obtain ⟨a4, a5, H⟩ := H
 refine WL.v (Runs.bor rfl rfl a5) (WL.as rfl (wn (CW.ret ?_)))
 obtain rfl := H
 exact QW.ret1 rfl rfl ⟨rfl, st0.pick [] (by decide)⟩
def reliquaryref04_quarter.rel (l0 : List Int) (a1 a2 a3 a4 : Int) (r0 : List Int) : Prop := ((0 ≤ a1 ∧ a1 < (16 : Int)) ∧ ((0 ≤ a2 ∧ a2 < (16 : Int)) ∧ (∃ b1 : Int, b1 = u32.wrap ((gn l0 (a1.toNat)) + (gn l0 (a2.toNat))) ∧ ((0 ≤ a1 ∧ a1 < (16 : Int)) ∧ (∃ a0 : List Int, a0 = List.set l0 (a1.toNat) b1 ∧ ((0 ≤ a4 ∧ a4 < (16 : Int)) ∧ ((0 ≤ a1 ∧ a1 < (16 : Int)) ∧ (∃ b2, reliquaryref04_left.rel (bits .xor .u32 (gn a0 (a4.toNat)) (gn a0 (a1.toNat))) 16 b2 ∧ ((0 ≤ a4 ∧ a4 < (16 : Int)) ∧ (∃ a5 : List Int, a5 = List.set a0 (a4.toNat) b2 ∧ ((0 ≤ a3 ∧ a3 < (16 : Int)) ∧ ((0 ≤ a4 ∧ a4 < (16 : Int)) ∧ (∃ b3 : Int, b3 = u32.wrap ((gn a5 (a3.toNat)) + (gn a5 (a4.toNat))) ∧ ((0 ≤ a3 ∧ a3 < (16 : Int)) ∧ (∃ a6 : List Int, a6 = List.set a5 (a3.toNat) b3 ∧ ((0 ≤ a2 ∧ a2 < (16 : Int)) ∧ ((0 ≤ a3 ∧ a3 < (16 : Int)) ∧ (∃ b4, reliquaryref04_left.rel (bits .xor .u32 (gn a6 (a2.toNat)) (gn a6 (a3.toNat))) 12 b4 ∧ ((0 ≤ a2 ∧ a2 < (16 : Int)) ∧ (∃ a7 : List Int, a7 = List.set a6 (a2.toNat) b4 ∧ ((0 ≤ a1 ∧ a1 < (16 : Int)) ∧ ((0 ≤ a2 ∧ a2 < (16 : Int)) ∧ (∃ b5 : Int, b5 = u32.wrap ((gn a7 (a1.toNat)) + (gn a7 (a2.toNat))) ∧ ((0 ≤ a1 ∧ a1 < (16 : Int)) ∧ (∃ a8 : List Int, a8 = List.set a7 (a1.toNat) b5 ∧ ((0 ≤ a4 ∧ a4 < (16 : Int)) ∧ ((0 ≤ a1 ∧ a1 < (16 : Int)) ∧ (∃ b6, reliquaryref04_left.rel (bits .xor .u32 (gn a8 (a4.toNat)) (gn a8 (a1.toNat))) 8 b6 ∧ ((0 ≤ a4 ∧ a4 < (16 : Int)) ∧ (∃ a9 : List Int, a9 = List.set a8 (a4.toNat) b6 ∧ ((0 ≤ a3 ∧ a3 < (16 : Int)) ∧ ((0 ≤ a4 ∧ a4 < (16 : Int)) ∧ (∃ b7 : Int, b7 = u32.wrap ((gn a9 (a3.toNat)) + (gn a9 (a4.toNat))) ∧ ((0 ≤ a3 ∧ a3 < (16 : Int)) ∧ (∃ b0 : List Int, b0 = List.set a9 (a3.toNat) b7 ∧ ((0 ≤ a2 ∧ a2 < (16 : Int)) ∧ ((0 ≤ a3 ∧ a3 < (16 : Int)) ∧ (∃ b8 : Int, b8 = bits .xor .u32 (gn b0 (a2.toNat)) (gn b0 (a3.toNat)) ∧ (∃ b9, reliquaryref04_left.rel b8 7 b9 ∧ ((0 ≤ a2 ∧ a2 < (16 : Int)) ∧ (∃ c0 : List Int, c0 = List.set b0 (a2.toNat) b9 ∧ r0 = c0)))))))))))))))))))))))))))))))))))))))))
theorem reliquaryref04_quarter.calls (hl0 : lA.length = 16) (H : reliquaryref04_quarter.rel lA iA iB iC iD lB) :
  Calls prog 88 #[.agg (iv .u32 lA).toArray, .int .i64 iA, .int .i64 iB, .int .i64 iC, .int .i64 iD] w fun e w' => lB.length = 16 ∧ e = .returned (.agg (iv .u32 lB).toArray) ∧ St w w' [] := by
 refine CW.en func88 rfl 88 [_, _, _, _, _] ?_
 refine CW.su [(0, _), (1, _), (2, _), (3, _), (4, _)] ?_
 have st0 := St.refl w
 refine cr (WL.box st0 rfl rfl ?_)
 intro a0 m5 e3
 refine WL.alloc e3 arr166.zero ?_
 intro a5 m6 e4
 refine wn (CW.seq ?_)
 refine CW.region_qt 9 wide (by kernel_rfl) e4 ?_
 refine HL.mv rfl (HL.mv rfl ?_)
 obtain ⟨⟨e5, e6⟩, H⟩ := H
 refine HL.p (Runs.indexAddr_blk arr166 rfl rfl e5 e6 (o := (iA).toNat) (by first | rfl | omega)) ?_
 refine HL.v (fun wq sq => (Runs.load nagg24 rfl (sq.cell_iv (i := 1) rfl (by have := hl0; omega)))) ?_
 refine HL.mv rfl ?_
 obtain ⟨⟨e7, e8⟩, H⟩ := H
 refine HL.p (Runs.indexAddr_blk arr166 rfl rfl e7 e8 (o := (iB).toNat) (by first | rfl | omega)) ?_
 refine HL.v (fun wq sq => (Runs.load nagg24 rfl (sq.cell_iv (i := 1) rfl (by have := hl0; omega)))) ?_
 obtain ⟨e9, f0, H⟩ := H
 refine HL.p (Runs.add rfl rfl f0) ?_
 obtain ⟨⟨f1, f2⟩, H⟩ := H
 refine HL.p (Runs.indexAddr_blk arr166 rfl rfl f1 f2 (o := (iA).toNat) (by first | rfl | omega)) ?_
 refine HL.nil (fun m7 f3 => ?_)
 obtain ⟨a6, d1, H⟩ := H
 have a9 : a6.length = 16 := by rw [d1, List.length_set]; exact hl0
 refine WL.store_cells (i := 1) f3 rfl cells24 rfl (by rw [iv_length]; have := hl0; omega) rfl rfl ?_
 intro f4 c0
 have c0' := c0; (try dsimp only [List.set, ec, en] at c0'); rw [iv_set .u32 lA (iA.toNat) e9, ← d1] at c0'
 refine wn ?_
 refine CW.su [(1, _), (2, _), (3, _), (4, _), (5, _), (10, _)] ?_
 refine CW.seq ?_
 refine CW.region_qt 10 wide (by kernel_rfl) c0' ?_
 refine HL.mv rfl (HL.mv rfl ?_)
 obtain ⟨⟨f5, f6⟩, H⟩ := H
 refine HL.p (Runs.indexAddr_blk arr166 rfl rfl f5 f6 (o := (iD).toNat) (by first | rfl | omega)) ?_
 refine HL.v (fun wq sq => (Runs.load nagg24 rfl (sq.cell_iv (i := 1) rfl (by have := a9; omega)))) ?_
 refine HL.mv rfl ?_
 obtain ⟨⟨f7, f8⟩, H⟩ := H
 refine HL.p (Runs.indexAddr_blk arr166 rfl rfl f7 f8 (o := (iA).toNat) (by first | rfl | omega)) ?_
 refine HL.v (fun wq sq => (Runs.load nagg24 rfl (sq.cell_iv (i := 1) rfl (by have := a9; omega)))) ?_
 refine HL.p (Runs.bxor rfl rfl rfl) ?_
 obtain ⟨d2, f9, H⟩ := H
 refine HL.call Wanted.none ent91 rfl (fun wq sq => (reliquaryref04_left.calls f9).mono (by rintro _ _ ⟨rfl, sc⟩; exact ⟨rfl, sq.call sc⟩)) ?_
 obtain ⟨⟨g0, g1⟩, H⟩ := H
 refine HL.p (Runs.indexAddr_blk arr166 rfl rfl g0 g1 (o := (iD).toNat) (by first | rfl | omega)) ?_
 refine HL.nil (fun m8 g2 => ?_)
 obtain ⟨c1, d3, H⟩ := H
 have b0 : c1.length = 16 := by rw [d3, List.length_set]; exact a9
 refine WL.store_cells (i := 1) g2 rfl cells24 rfl (by rw [iv_length]; have := a9; omega) rfl rfl ?_
 intro g3 c2
 have c2' := c2; (try dsimp only [List.set, ec, en] at c2'); rw [iv_set .u32 a6 (iD.toNat) d2, ← d3] at c2'
 refine wn ?_
 refine CW.su [(1, _), (2, _), (3, _), (4, _), (5, _), (10, _)] ?_
 refine CW.seq ?_
 refine CW.region_qt 9 wide (by kernel_rfl) c2' ?_
 refine HL.mv rfl (HL.mv rfl ?_)
 obtain ⟨⟨g4, g5⟩, H⟩ := H
 refine HL.p (Runs.indexAddr_blk arr166 rfl rfl g4 g5 (o := (iC).toNat) (by first | rfl | omega)) ?_
 refine HL.v (fun wq sq => (Runs.load nagg24 rfl (sq.cell_iv (i := 1) rfl (by have := b0; omega)))) ?_
 refine HL.mv rfl ?_
 obtain ⟨⟨g6, g7⟩, H⟩ := H
 refine HL.p (Runs.indexAddr_blk arr166 rfl rfl g6 g7 (o := (iD).toNat) (by first | rfl | omega)) ?_
 refine HL.v (fun wq sq => (Runs.load nagg24 rfl (sq.cell_iv (i := 1) rfl (by have := b0; omega)))) ?_
 obtain ⟨g8, g9, H⟩ := H
 refine HL.p (Runs.add rfl rfl g9) ?_
 obtain ⟨⟨h0, h1⟩, H⟩ := H
 refine HL.p (Runs.indexAddr_blk arr166 rfl rfl h0 h1 (o := (iC).toNat) (by first | rfl | omega)) ?_
 refine HL.nil (fun m9 h2 => ?_)
 obtain ⟨a7, d4, H⟩ := H
 have b1 : a7.length = 16 := by rw [d4, List.length_set]; exact b0
 refine WL.store_cells (i := 1) h2 rfl cells24 rfl (by rw [iv_length]; have := b0; omega) rfl rfl ?_
 intro h3 c3
 have c3' := c3; (try dsimp only [List.set, ec, en] at c3'); rw [iv_set .u32 c1 (iC.toNat) g8, ← d4] at c3'
 refine wn ?_
 refine CW.su [(1, _), (2, _), (3, _), (4, _), (5, _), (10, _)] ?_
 refine CW.seq ?_
 refine CW.region_qt 10 wide (by kernel_rfl) c3' ?_
 refine HL.mv rfl (HL.mv rfl ?_)
 obtain ⟨⟨h4, h5⟩, H⟩ := H
 refine HL.p (Runs.indexAddr_blk arr166 rfl rfl h4 h5 (o := (iB).toNat) (by first | rfl | omega)) ?_
 refine HL.v (fun wq sq => (Runs.load nagg24 rfl (sq.cell_iv (i := 1) rfl (by have := b1; omega)))) ?_
 refine HL.mv rfl ?_
 obtain ⟨⟨h6, h7⟩, H⟩ := H
 refine HL.p (Runs.indexAddr_blk arr166 rfl rfl h6 h7 (o := (iC).toNat) (by first | rfl | omega)) ?_
 refine HL.v (fun wq sq => (Runs.load nagg24 rfl (sq.cell_iv (i := 1) rfl (by have := b1; omega)))) ?_
 refine HL.p (Runs.bxor rfl rfl rfl) ?_
 obtain ⟨d5, h8, H⟩ := H
 refine HL.call Wanted.none ent91 rfl (fun wq sq => (reliquaryref04_left.calls h8).mono (by rintro _ _ ⟨rfl, sc⟩; exact ⟨rfl, sq.call sc⟩)) ?_
 obtain ⟨⟨h9, i0⟩, H⟩ := H
 refine HL.p (Runs.indexAddr_blk arr166 rfl rfl h9 i0 (o := (iB).toNat) (by first | rfl | omega)) ?_
 refine HL.nil (fun n0 i1 => ?_)
 obtain ⟨c4, d6, H⟩ := H
 have b2 : c4.length = 16 := by rw [d6, List.length_set]; exact b1
 refine WL.store_cells (i := 1) i1 rfl cells24 rfl (by rw [iv_length]; have := b1; omega) rfl rfl ?_
 intro i2 c5
 have c5' := c5; (try dsimp only [List.set, ec, en] at c5'); rw [iv_set .u32 a7 (iB.toNat) d5, ← d6] at c5'
 refine wn ?_
 refine CW.su [(1, _), (2, _), (3, _), (4, _), (5, _), (10, _)] ?_
 refine CW.seq ?_
 refine CW.region_qt 9 wide (by kernel_rfl) c5' ?_
 refine HL.mv rfl (HL.mv rfl ?_)
 obtain ⟨⟨i3, i4⟩, H⟩ := H
 refine HL.p (Runs.indexAddr_blk arr166 rfl rfl i3 i4 (o := (iA).toNat) (by first | rfl | omega)) ?_
 refine HL.v (fun wq sq => (Runs.load nagg24 rfl (sq.cell_iv (i := 1) rfl (by have := b2; omega)))) ?_
 refine HL.mv rfl ?_
 obtain ⟨⟨i5, i6⟩, H⟩ := H
 refine HL.p (Runs.indexAddr_blk arr166 rfl rfl i5 i6 (o := (iB).toNat) (by first | rfl | omega)) ?_
 refine HL.v (fun wq sq => (Runs.load nagg24 rfl (sq.cell_iv (i := 1) rfl (by have := b2; omega)))) ?_
 obtain ⟨i7, i8, H⟩ := H
 refine HL.p (Runs.add rfl rfl i8) ?_
 obtain ⟨⟨i9, j0⟩, H⟩ := H
 refine HL.p (Runs.indexAddr_blk arr166 rfl rfl i9 j0 (o := (iA).toNat) (by first | rfl | omega)) ?_
 refine HL.nil (fun n1 j1 => ?_)
 obtain ⟨a8, d7, H⟩ := H
 have b3 : a8.length = 16 := by rw [d7, List.length_set]; exact b2
 refine WL.store_cells (i := 1) j1 rfl cells24 rfl (by rw [iv_length]; have := b2; omega) rfl rfl ?_
 intro j2 c6
 have c6' := c6; (try dsimp only [List.set, ec, en] at c6'); rw [iv_set .u32 c4 (iA.toNat) i7, ← d7] at c6'
 refine wn ?_
 refine CW.su [(1, _), (2, _), (3, _), (4, _), (5, _), (10, _)] ?_
 refine CW.seq ?_
 refine CW.region_qt 10 wide (by kernel_rfl) c6' ?_
 refine HL.mv rfl (HL.mv rfl ?_)
 obtain ⟨⟨j3, j4⟩, H⟩ := H
 refine HL.p (Runs.indexAddr_blk arr166 rfl rfl j3 j4 (o := (iD).toNat) (by first | rfl | omega)) ?_
 refine HL.v (fun wq sq => (Runs.load nagg24 rfl (sq.cell_iv (i := 1) rfl (by have := b3; omega)))) ?_
 refine HL.mv rfl ?_
 obtain ⟨⟨j5, j6⟩, H⟩ := H
 refine HL.p (Runs.indexAddr_blk arr166 rfl rfl j5 j6 (o := (iA).toNat) (by first | rfl | omega)) ?_
 refine HL.v (fun wq sq => (Runs.load nagg24 rfl (sq.cell_iv (i := 1) rfl (by have := b3; omega)))) ?_
 refine HL.p (Runs.bxor rfl rfl rfl) ?_
 obtain ⟨d8, j7, H⟩ := H
 refine HL.call Wanted.none ent91 rfl (fun wq sq => (reliquaryref04_left.calls j7).mono (by rintro _ _ ⟨rfl, sc⟩; exact ⟨rfl, sq.call sc⟩)) ?_
 obtain ⟨⟨j8, j9⟩, H⟩ := H
 refine HL.p (Runs.indexAddr_blk arr166 rfl rfl j8 j9 (o := (iD).toNat) (by first | rfl | omega)) ?_
 refine HL.nil (fun n2 k0 => ?_)
 obtain ⟨c7, d9, H⟩ := H
 have b4 : c7.length = 16 := by rw [d9, List.length_set]; exact b3
 refine WL.store_cells (i := 1) k0 rfl cells24 rfl (by rw [iv_length]; have := b3; omega) rfl rfl ?_
 intro k1 c8
 have c8' := c8; (try dsimp only [List.set, ec, en] at c8'); rw [iv_set .u32 a8 (iD.toNat) d8, ← d9] at c8'
 refine wn ?_
 refine CW.su [(2, _), (3, _), (4, _), (5, _), (10, _)] ?_
 refine CW.seq ?_
 refine CW.region_qt 9 wide (by kernel_rfl) c8' ?_
 refine HL.mv rfl (HL.mv rfl ?_)
 obtain ⟨⟨k2, k3⟩, H⟩ := H
 refine HL.p (Runs.indexAddr_blk arr166 rfl rfl k2 k3 (o := (iC).toNat) (by first | rfl | omega)) ?_
 refine HL.v (fun wq sq => (Runs.load nagg24 rfl (sq.cell_iv (i := 1) rfl (by have := b4; omega)))) ?_
 refine HL.mv rfl ?_
 obtain ⟨⟨k4, k5⟩, H⟩ := H
 refine HL.p (Runs.indexAddr_blk arr166 rfl rfl k4 k5 (o := (iD).toNat) (by first | rfl | omega)) ?_
 refine HL.v (fun wq sq => (Runs.load nagg24 rfl (sq.cell_iv (i := 1) rfl (by have := b4; omega)))) ?_
 obtain ⟨k6, k7, H⟩ := H
 refine HL.p (Runs.add rfl rfl k7) ?_
 obtain ⟨⟨k8, k9⟩, H⟩ := H
 refine HL.p (Runs.indexAddr_blk arr166 rfl rfl k8 k9 (o := (iC).toNat) (by first | rfl | omega)) ?_
 refine HL.nil (fun n3 l1 => ?_)
 obtain ⟨c9, e0, H⟩ := H
 have b5 : c9.length = 16 := by rw [e0, List.length_set]; exact b4
 refine WL.store_cells (i := 1) l1 rfl cells24 rfl (by rw [iv_length]; have := b4; omega) rfl rfl ?_
 intro l2 d0
 have d0' := d0; (try dsimp only [List.set, ec, en] at d0'); rw [iv_set .u32 c7 (iC.toNat) k6, ← e0] at d0'
 refine wn (CW.sub [(2, _), (3, _), (5, _), (10, _)] ⟨rfl, rfl, rfl, rfl, trivial⟩ (CW.seq ?_))
 refine CW.region_qt 10 wide (by kernel_rfl) d0' ?_
 refine HL.mv rfl (HL.mv rfl ?_)
 obtain ⟨⟨l3, l4⟩, H⟩ := H
 refine HL.p (Runs.indexAddr_blk arr166 rfl rfl l3 l4 (o := (iB).toNat) (by first | rfl | omega)) ?_
 refine HL.v (fun wq sq => (Runs.load nagg24 rfl (sq.cell_iv (i := 1) rfl (by have := b5; omega)))) ?_
 refine HL.mv rfl ?_
 obtain ⟨⟨l5, l6⟩, H⟩ := H
 refine HL.p (Runs.indexAddr_blk arr166 rfl rfl l5 l6 (o := (iC).toNat) (by first | rfl | omega)) ?_
 refine HL.v (fun wq sq => (Runs.load nagg24 rfl (sq.cell_iv (i := 1) rfl (by have := b5; omega)))) ?_
 obtain ⟨l7, l8, H⟩ := H
 refine HL.p (Runs.bxor rfl rfl l8) ?_
 obtain ⟨e1, l9, H⟩ := H
 refine HL.call Wanted.none ent91 rfl (fun wq sq => (reliquaryref04_left.calls l9).mono (by rintro _ _ ⟨rfl, sc⟩; exact ⟨rfl, sq.call sc⟩)) ?_
 obtain ⟨⟨m0, m1⟩, H⟩ := H
 refine HL.p (Runs.indexAddr_blk arr166 rfl rfl m0 m1 (o := (iB).toNat) (by first | rfl | omega)) ?_
 refine HL.nil (fun n4 m2 => ?_)
 obtain ⟨b6, e2, H⟩ := H
 have b7 : b6.length = 16 := by rw [e2, List.length_set]; exact b5
 refine WL.store_cells (i := 1) m2 rfl cells24 rfl (by rw [iv_length]; have := b5; omega) rfl rfl ?_
 intro m3 b8
 have b8' := b8; (try dsimp only [List.set, ec, en] at b8'); rw [iv_set .u32 c9 (iB.toNat) e1, ← e2] at b8'
 refine wn (CW.sub [(5, _), (10, _)] ⟨rfl, rfl, trivial⟩ (cr (WL.v (Runs.load_arr arr166 rfl (b8'.blk (i := 1) rfl) b7) ?_)))
 refine WL.store_arr (i := 0) b8' rfl arr166 rfl (by rw [iv_length]; exact (List.length_replicate ..)) b7 rfl ?_
 intro m4 b9
 try dsimp only [List.set] at b9
 refine wn (CW.ret ?_)
 obtain rfl := H
 exact QW.retc rfl arr166 rfl (b9.blk (i := 0) rfl) b7 ⟨b7, rfl, b9.pick [] (by decide)⟩
def reliquaryref04_Block.L6 (a1 : Int) (K_L4 : (List Int) → Int → Prop) : Nat → (List Int) → Int → Prop
 | 0, _, _ => False
 | kL6 + 1, a2, a0 => ((a0 < 4 ∧ (∃ a3 : Int, a3 = i64.wrap (4 + (Int.tmod (i64.wrap (a0 + 1)) 4)) ∧ (∃ a4 : Int, a4 = i64.wrap (8 + (Int.tmod (i64.wrap (a0 + 2)) 4)) ∧ (∃ a5 : Int, a5 = i64.wrap (12 + (Int.tmod (i64.wrap (a0 + 3)) 4)) ∧ (∃ a6, reliquaryref04_quarter.rel a2 a0 a3 a4 a5 a6 ∧ reliquaryref04_Block.L6 a1 K_L4 kL6 a6 (i64.wrap (a0 + 1))))))) ∨ (¬ (a0 < 4) ∧ K_L4 a2 (i64.wrap (a1 + 1))))
def reliquaryref04_Block.L5 (a1 : Int) (K_L4 : (List Int) → Int → Prop) : Nat → (List Int) → Int → Prop
 | 0, _, _ => False
 | kL5 + 1, a2, a0 => ((a0 < 4 ∧ (∃ a3, reliquaryref04_quarter.rel a2 a0 (i64.wrap (4 + a0)) (i64.wrap (8 + a0)) (i64.wrap (12 + a0)) a3 ∧ reliquaryref04_Block.L5 a1 K_L4 kL5 a3 (i64.wrap (a0 + 1)))) ∨ (¬ (a0 < 4) ∧ (∃ k_ : Nat, reliquaryref04_Block.L6 a1 (K_L4) k_ a2 0)))
def reliquaryref04_Block.L7 (r0 a1 a2 : List Int) : Nat → (List Int) → Int → Prop
 | 0, _, _ => False
 | kL7 + 1, a3, a0 => ((a0 < 64 ∧ ((0 ≤ (i64.wrap (Int.tdiv a0 4)) ∧ (i64.wrap (Int.tdiv a0 4)) < (16 : Int)) ∧ ((0 ≤ (i64.wrap (Int.tdiv a0 4)) ∧ (i64.wrap (Int.tdiv a0 4)) < (16 : Int)) ∧ (∃ a4 : Int, a4 = u32.wrap ((gn a2 ((i64.wrap (Int.tdiv a0 4)).toNat)) + (gn a1 ((i64.wrap (Int.tdiv a0 4)).toNat))) ∧ (0 ≤ (u64.wrap (i64.wrap (8 * (Int.tmod a0 4)))) ∧ (∃ a5 : Int, a5 = shrI .u32 a4 (u64.wrap (i64.wrap (8 * (Int.tmod a0 4)))) ∧ ((0 ≤ a0 ∧ a0 < (64 : Int)) ∧ (∃ a6 : List Int, a6 = List.set a3 (a0.toNat) (IntKind.u8.wrap a5) ∧ reliquaryref04_Block.L7 r0 a1 a2 kL7 a6 (i64.wrap (a0 + 1)))))))))) ∨ (¬ (a0 < 64) ∧ r0 = a3))
def reliquaryref04_Block.L4 (r0 a1 : List Int) : Nat → (List Int) → Int → Prop
 | 0, _, _ => False
 | kL4 + 1, a2, a0 => ((a0 < 10 ∧ (∃ k_ : Nat, reliquaryref04_Block.L5 a0 (reliquaryref04_Block.L4 r0 a1 kL4) k_ a2 0)) ∨ (¬ (a0 < 10) ∧ (∃ k_ : Nat, reliquaryref04_Block.L7 r0 a1 a2 k_ (List.replicate 64 (0 : Int)) 0)))
def reliquaryref04_Block.L3 (l2 r0 : List Int) : Nat → (List Int) → Int → Prop
 | 0, _, _ => False
 | kL3 + 1, a1, a0 => ((a0 < 3 ∧ (∃ a2, reliquaryref04_at.rel l2 (i64.wrap (4 * a0)) a2 ∧ ((0 ≤ (i64.wrap (13 + a0)) ∧ (i64.wrap (13 + a0)) < (16 : Int)) ∧ (∃ a3 : List Int, a3 = List.set a1 ((i64.wrap (13 + a0)).toNat) a2 ∧ reliquaryref04_Block.L3 l2 r0 kL3 a3 (i64.wrap (a0 + 1)))))) ∨ (¬ (a0 < 3) ∧ (∃ k_ : Nat, reliquaryref04_Block.L4 r0 a1 k_ a1 0)))
def reliquaryref04_Block.L2 (l0 : List Int) (a1 : Int) (l2 r0 : List Int) : Nat → (List Int) → Int → Prop
 | 0, _, _ => False
 | kL2 + 1, a2, a0 => ((a0 < 8 ∧ (∃ a3, reliquaryref04_at.rel l0 (i64.wrap (4 * a0)) a3 ∧ ((0 ≤ (i64.wrap (4 + a0)) ∧ (i64.wrap (4 + a0)) < (16 : Int)) ∧ (∃ a4 : List Int, a4 = List.set a2 ((i64.wrap (4 + a0)).toNat) a3 ∧ reliquaryref04_Block.L2 l0 a1 l2 r0 kL2 a4 (i64.wrap (a0 + 1)))))) ∨ (¬ (a0 < 8) ∧ (∃ a5 : List Int, a5 = List.set a2 12 a1 ∧ (∃ k_ : Nat, reliquaryref04_Block.L3 l2 r0 k_ a5 0))))
def reliquaryref04_Block.L1 (l0 : List Int) (a1 : Int) (l2 r0 : List Int) : Nat → (List Int) → Int → Prop
 | 0, _, _ => False
 | kL1 + 1, a2, a0 => ((a0 < 4 ∧ (∃ a3, reliquaryref04_at.rel [101, 120, 112, 97, 110, 100, 32, 51, 50, 45, 98, 121, 116, 101, 32, 107] (i64.wrap (4 * a0)) a3 ∧ ((0 ≤ a0 ∧ a0 < (16 : Int)) ∧ (∃ a4 : List Int, a4 = List.set a2 (a0.toNat) a3 ∧ reliquaryref04_Block.L1 l0 a1 l2 r0 kL1 a4 (i64.wrap (a0 + 1)))))) ∨ (¬ (a0 < 4) ∧ (∃ k_ : Nat, reliquaryref04_Block.L2 l0 a1 l2 r0 k_ a2 0)))
def reliquaryref04_Block.rel (l0 : List Int) (a1 : Int) (l2 r0 : List Int) : Prop := (∃ k_ : Nat, reliquaryref04_Block.L1 l0 a1 l2 r0 k_ (List.replicate 16 (0 : Int)) 0)
theorem reliquaryref04_Block.calls (hl0 : lA.length = 32) (hl2 : lB.length = 12) (H : reliquaryref04_Block.rel lA iA lB lC) :
  Calls prog 79 #[.agg (iv .u8 lA).toArray, .int .u32 iA, .agg (iv .u8 lB).toArray] w fun e w' => lC.length = 64 ∧ e = .returned (.agg (iv .u8 lC).toArray) ∧ St w w' [] := by
 refine CW.en func79 rfl 115 [_, _, _] (CW.sub [(0, _), (1, _), (2, _)] ⟨rfl, rfl, rfl, trivial⟩ ?_)
 have st0 := St.refl w
 refine cr (WL.box st0 rfl rfl ?_)
 intro a4 q0 h9
 refine WL.box h9 rfl rfl ?_
 intro a3 q1 i0
 refine WL.alloc i0 arr158.zero ?_
 intro a0 q2 i1
 refine WL.nx (WL.alloc i1 arr166.zero ?_)
 intro a2 q3 i2
 refine WL.nx ?_
 refine WL.buildSl [.int .u8 101, .int .u8 120, .int .u8 112, .int .u8 97, .int .u8 110, .int .u8 100, .int .u8 32, .int .u8 51, .int .u8 50, .int .u8 45, .int .u8 98, .int .u8 121, .int .u8 116, .int .u8 101, .int .u8 32, .int .u8 107] i2 underlying25 elem5 rfl rfl (by decide) (by decide) (by simp [Value.cells]) ?_
 intro a5 i3 d0
 replace d0 : St w i3 [.sl (sp a5) 16 16 (iv .u8 [101, 120, 112, 97, 110, 100, 32, 51, 50, 45, 98, 121, 116, 101, 32, 107]) 5 1, .cells a2 (iv .u32 (List.replicate 16 (0 : Int))) 166, .cells a0 (iv .u8 (List.replicate 64 (0 : Int))) 158, .cells a3 (iv .u8 lB) 140, .cells a4 (iv .u8 lA) 23] := d0
 refine WL.mark (i := 0) d0 rfl underlying25 underlying5 rfl ?_
 intro a7 i4 i5 q4 i6 d1
 replace d1 : St w i4 [.obj a5 (.cells a7.toArray 5 (16, 16 + 1)), .cells a2 (iv .u32 (List.replicate 16 (0 : Int))) 166, .cells a0 (iv .u8 (List.replicate 64 (0 : Int))) 158, .cells a3 (iv .u8 lB) 140, .cells a4 (iv .u8 lA) 23] := d1
 refine WL.as rfl (wn (CW.seq (cr (WL.as rfl (wn (CW.block ?_))))))
 obtain ⟨i7, H⟩ := H
 refine CW.su [(1, _), (3, _), (5, _), (6, _), (7, _), (8, _), (9, _)] ?_
 refine CW.lp (fun kL1 l_ w_ => ∃ b6 b2, l_ = [(1, .int .u32 iA), (3, .pointer (sp a4)), (5, .pointer (sp a3)), (6, .pointer (sp a0)), (7, .pointer (sp a2)), (8, .slice (sp a5) 16 16), (9, .int .i64 b2)] ∧ reliquaryref04_Block.L1 lA iA lB lC kL1 b6 b2 ∧ (b6.length = 16) ∧ St w w_ [.obj a5 (.cells a7.toArray 5 (16, 16 + 1)), .cells a2 (iv .u32 b6) 166, .cells a0 (iv .u8 (List.replicate 64 (0 : Int))) 158, .cells a3 (iv .u8 lB) 140, .cells a4 (iv .u8 lA) 23]) (k := i7) ⟨List.replicate 16 (0 : Int), 0, rfl, H, (List.length_replicate ..), d1⟩ ?_
 rintro kL1 q5 i8 ⟨b6, b2, rfl, H, d2, d3⟩
 refine CW.seq (cr (WL.mv rfl (WL.v (Runs.lss rfl rfl rfl) (wn ?_))))
 rcases H with ⟨d4, H⟩ | ⟨d4, H⟩
 ·have d5 := (decide_eq_true d4)
  refine CW.ct rfl d5 (CW.skip (QW.then_n (CW.seq (CW.block (CW.region (WL.mv rfl (WL.mv rfl (WL.mv rfl (WL.v (Runs.mul rfl rfl rfl) ?_)))))))))
  obtain ⟨g7, i9, H⟩ := H
  refine wC ent87 rfl (reliquaryref04_at.calls (d3.src_obj (i := 0) rfl i6) (rfl) (i5) i9) ?_
  rintro _ j0 ⟨rfl, j1⟩
  have j2 := d3.call j1
  refine ⟨_, rfl, ?_⟩
  obtain ⟨⟨j3, j4⟩, H⟩ := H
  refine WL.v (Runs.indexAddr_blk arr166 rfl rfl j3 j4 (o := (b2).toNat) (by first | rfl | omega)) ?_
  obtain ⟨d6, g8, H⟩ := H
  have j5 : d6.length = 16 := by rw [g8, List.length_set]; exact d2
  refine WL.store_cells (i := 1) j2 rfl cells24 rfl (by rw [iv_length]; have := d2; omega) rfl rfl ?_
  intro j6 d7
  have d7' := d7; (try dsimp only [List.set, ec, en] at d7'); rw [iv_set .u32 b6 (b2.toNat) g7, ← g8] at d7'
  refine WL.nil (QW.blk_n (QW.then_n (CW.region (WL.mv rfl (WL.v (Runs.add rfl rfl rfl) (WL.as rfl (WL.nil ?_)))))))
  exact QW.a ⟨d6, i64.wrap (b2 + 1), rfl, H, j5, d7'⟩
 have d5 := (decide_eq_false d4)
 refine CW.cf rfl d5 (CW.exit (QW.then_x (QW.then_x (QW.blk_x (QW.then_n (CW.seq (cr (WL.as rfl (wn (CW.block ?_))))))))))
 obtain ⟨j7, H⟩ := H
 refine CW.su [(1, _), (3, _), (5, _), (6, _), (7, _), (10, _)] ?_
 refine CW.lp (fun kL2 l_ w_ => ∃ b7 b3, l_ = [(1, .int .u32 iA), (3, .pointer (sp a4)), (5, .pointer (sp a3)), (6, .pointer (sp a0)), (7, .pointer (sp a2)), (10, .int .i64 b3)] ∧ reliquaryref04_Block.L2 lA iA lB lC kL2 b7 b3 ∧ (b7.length = 16) ∧ St w w_ [.obj a5 (.cells a7.toArray 5 (16, 16 + 1)), .cells a2 (iv .u32 b7) 166, .cells a0 (iv .u8 (List.replicate 64 (0 : Int))) 158, .cells a3 (iv .u8 lB) 140, .cells a4 (iv .u8 lA) 23]) (k := j7) ⟨b6, 0, rfl, H, d2, d3⟩ ?_
 rintro kL2 q6 j8 ⟨b7, b3, rfl, H, c5, d8⟩
 refine CW.seq (cr (WL.mv rfl (WL.v (Runs.lss rfl rfl rfl) (wn ?_))))
 rcases H with ⟨d9, H⟩ | ⟨d9, H⟩
 ·have e0 := (decide_eq_true d9)
  refine CW.ct rfl e0 (CW.skip (QW.then_n (CW.seq (CW.block (CW.region (WL.mv rfl (WL.v (Runs.add rfl rfl rfl) ?_)))))))
  refine WL.v (Runs.slice_arr arr23 rfl (by decide)) ?_
  refine WL.mv rfl (WL.v (Runs.mul rfl rfl rfl) ?_)
  obtain ⟨g9, j9, H⟩ := H
  refine wC ent87 rfl (reliquaryref04_at.calls (d8.src_blk (i := 4) rfl) ((hl0).symm) (Nat.le_refl _) j9) ?_
  rintro _ k0 ⟨rfl, k1⟩
  have k2 := d8.call k1
  refine ⟨_, rfl, ?_⟩
  obtain ⟨⟨k3, k4⟩, H⟩ := H
  refine WL.v (Runs.indexAddr_blk arr166 rfl rfl k3 k4 (o := (i64.wrap (4 + b3)).toNat) (by first | rfl | omega)) ?_
  obtain ⟨e1, h0, H⟩ := H
  have k5 : e1.length = 16 := by rw [h0, List.length_set]; exact c5
  refine WL.store_cells (i := 1) k2 rfl cells24 rfl (by rw [iv_length]; have := c5; omega) rfl rfl ?_
  intro k6 e2
  have e2' := e2; (try dsimp only [List.set, ec, en] at e2'); rw [iv_set .u32 b7 ((i64.wrap (4 + b3)).toNat) g9, ← h0] at e2'
  refine WL.nil (QW.blk_n (QW.then_n (CW.region (WL.mv rfl (WL.v (Runs.add rfl rfl rfl) (WL.as rfl (WL.nil ?_)))))))
  exact QW.a ⟨e1, i64.wrap (b3 + 1), rfl, H, k5, e2'⟩
 have e0 := (decide_eq_false d9)
 refine CW.cf rfl e0 (CW.exit (QW.then_x (QW.then_x (QW.blk_x (QW.then_n (cr (WL.mv rfl ?_)))))))
 refine WL.v (Runs.indexAddr_blk arr166 rfl rfl (by decide) (by decide) (o := 12) (by first | rfl | omega)) ?_
 obtain ⟨e3, h1, H⟩ := H
 have k7 : e3.length = 16 := by rw [h1, List.length_set]; exact c5
 refine WL.store_cells (i := 1) d8 rfl cells24 rfl (by rw [iv_length]; have := c5; omega) rfl rfl ?_
 intro k8 e4
 have e4' := e4; (try dsimp only [List.set, ec, en] at e4'); rw [iv_set .u32 b7 12 iA, ← h1] at e4'
 refine wn (CW.sub [(5, _), (6, _), (7, _)] ⟨rfl, rfl, rfl, trivial⟩ (CW.seq (cr (WL.as rfl (wn (CW.block ?_))))))
 obtain ⟨k9, H⟩ := H
 refine CW.sub [(5, _), (6, _), (7, _), (11, _)] ⟨rfl, rfl, rfl, rfl, trivial⟩ ?_
 refine CW.lp (fun kL3 l_ w_ => ∃ a6 b4, l_ = [(5, .pointer (sp a3)), (6, .pointer (sp a0)), (7, .pointer (sp a2)), (11, .int .i64 b4)] ∧ reliquaryref04_Block.L3 lB lC kL3 a6 b4 ∧ (a6.length = 16) ∧ St w w_ [.obj a5 (.cells a7.toArray 5 (16, 16 + 1)), .cells a2 (iv .u32 a6) 166, .cells a0 (iv .u8 (List.replicate 64 (0 : Int))) 158, .cells a3 (iv .u8 lB) 140, .cells a4 (iv .u8 lA) 23]) (k := k9) ⟨e3, 0, rfl, H, k7, e4'⟩ ?_
 rintro kL3 q7 l1 ⟨a6, b4, rfl, H, c2, c6⟩
 refine CW.seq (cr (WL.mv rfl (WL.v (Runs.lss rfl rfl rfl) (wn ?_))))
 rcases H with ⟨e5, H⟩ | ⟨e5, H⟩
 ·have e6 := (decide_eq_true e5)
  refine CW.ct rfl e6 (CW.skip (QW.then_n (CW.seq (CW.block (CW.region (WL.mv rfl (WL.v (Runs.add rfl rfl rfl) ?_)))))))
  refine WL.v (Runs.slice_arr arr140 rfl (by decide)) ?_
  refine WL.mv rfl (WL.v (Runs.mul rfl rfl rfl) ?_)
  obtain ⟨h2, l3, H⟩ := H
  refine wC ent87 rfl (reliquaryref04_at.calls (c6.src_blk (i := 3) rfl) ((hl2).symm) (Nat.le_refl _) l3) ?_
  rintro _ l4 ⟨rfl, l5⟩
  have l6 := c6.call l5
  refine ⟨_, rfl, ?_⟩
  obtain ⟨⟨l7, l8⟩, H⟩ := H
  refine WL.v (Runs.indexAddr_blk arr166 rfl rfl l7 l8 (o := (i64.wrap (13 + b4)).toNat) (by first | rfl | omega)) ?_
  obtain ⟨e7, h3, H⟩ := H
  have l9 : e7.length = 16 := by rw [h3, List.length_set]; exact c2
  refine WL.store_cells (i := 1) l6 rfl cells24 rfl (by rw [iv_length]; have := c2; omega) rfl rfl ?_
  intro m0 e8
  have e8' := e8; (try dsimp only [List.set, ec, en] at e8'); rw [iv_set .u32 a6 ((i64.wrap (13 + b4)).toNat) h2, ← h3] at e8'
  refine WL.nil (QW.blk_n (QW.then_n (CW.region (WL.mv rfl (WL.v (Runs.add rfl rfl rfl) (WL.as rfl (WL.nil ?_)))))))
  exact QW.a ⟨e7, i64.wrap (b4 + 1), rfl, H, l9, e8'⟩
 have e6 := (decide_eq_false e5)
 refine CW.cf rfl e6 (CW.exit (QW.then_x (QW.then_x (QW.blk_x (QW.then_n (cr (WL.v (Runs.load_arr arr166 rfl (c6.blk (i := 1) rfl) c2) (WL.alloc c6 arr166.zero ?_))))))))
 intro a9 q8 m1
 refine WL.store_arr (i := 0) m1 rfl arr166 rfl (by rw [iv_length]; exact (List.length_replicate ..)) c2 rfl ?_
 intro m2 e9
 try dsimp only [List.set] at e9
 refine wn (CW.seq (cr (WL.as rfl (wn (CW.block ?_)))))
 obtain ⟨m3, H⟩ := H
 refine CW.sub [(6, _), (7, _), (12, _), (13, _)] ⟨rfl, rfl, rfl, rfl, trivial⟩ ?_
 refine CW.lp (fun kL4 l_ w_ => ∃ b5 a8, l_ = [(6, .pointer (sp a0)), (7, .pointer (sp a2)), (12, .pointer (sp a9)), (13, .int .i64 a8)] ∧ reliquaryref04_Block.L4 lC a6 kL4 b5 a8 ∧ (b5.length = 16) ∧ St w w_ [.cells a9 (iv .u32 b5) 166, .obj a5 (.cells a7.toArray 5 (16, 16 + 1)), .cells a2 (iv .u32 a6) 166, .cells a0 (iv .u8 (List.replicate 64 (0 : Int))) 158, .cells a3 (iv .u8 lB) 140, .cells a4 (iv .u8 lA) 23]) (k := m3) ⟨a6, 0, rfl, H, c2, e9⟩ ?_
 rintro kL4 q9 r1 ⟨b5, a8, rfl, H, h4, h5⟩
 refine CW.seq (cr (WL.mv rfl (WL.v (Runs.lss rfl rfl rfl) (wn ?_))))
 rcases H with ⟨f0, H⟩ | ⟨f0, H⟩
 ·have f1 := (decide_eq_true f0)
  refine CW.ct rfl f1 (CW.skip (QW.then_n (CW.seq (CW.block (CW.seq (cr (WL.as rfl (wn (CW.block ?_)))))))))
  obtain ⟨m4, H⟩ := H
  refine CW.su [(6, _), (7, _), (12, _), (13, _), (56, _), (57, _), (14, _)] ?_
  refine CW.lp (fun kL5 l_ w_ => ∃ b8 b0, l_ = [(6, .pointer (sp a0)), (7, .pointer (sp a2)), (12, .pointer (sp a9)), (13, .int .i64 a8), (56, .int .i64 a8), (57, .bool (decide (a8 < 10))), (14, .int .i64 b0)] ∧ reliquaryref04_Block.L5 a8 (reliquaryref04_Block.L4 lC a6 kL4) kL5 b8 b0 ∧ (b8.length = 16) ∧ St w w_ [.cells a9 (iv .u32 b8) 166, .obj a5 (.cells a7.toArray 5 (16, 16 + 1)), .cells a2 (iv .u32 a6) 166, .cells a0 (iv .u8 (List.replicate 64 (0 : Int))) 158, .cells a3 (iv .u8 lB) 140, .cells a4 (iv .u8 lA) 23]) (k := m4) ⟨b5, 0, rfl, H, h4, h5⟩ ?_
  rintro kL5 r2 m5 ⟨b8, b0, rfl, H, c7, f2⟩
  refine CW.seq (cr (WL.mv rfl (WL.v (Runs.lss rfl rfl rfl) (wn ?_))))
  rcases H with ⟨f3, H⟩ | ⟨f3, H⟩
  ·have f4 := (decide_eq_true f3)
   refine CW.ct rfl f4 (CW.skip (QW.then_n (CW.seq (CW.block (CW.region (WL.v (Runs.load_arr arr166 rfl (f2.blk (i := 0) rfl) c7) (WL.mv rfl (WL.mv rfl (WL.v (Runs.add rfl rfl rfl) (WL.mv rfl (WL.v (Runs.add rfl rfl rfl) (WL.mv rfl ?_))))))))))))
   refine WL.v (Runs.add rfl rfl rfl) ?_
   obtain ⟨f5, m6, H⟩ := H
   refine wC ent88 rfl (reliquaryref04_quarter.calls c7 m6) ?_
   rintro _ m7 ⟨h6, rfl, m8⟩
   have m9 := f2.call m8
   refine ⟨_, rfl, ?_⟩
   refine WL.store_arr (i := 0) m9 rfl arr166 rfl (by rw [iv_length]; exact c7) h6 rfl ?_
   intro n0 f6
   try dsimp only [List.set] at f6
   refine WL.nil (QW.blk_n (QW.then_n (CW.region (WL.mv rfl (WL.v (Runs.add rfl rfl rfl) (WL.as rfl (WL.nil ?_)))))))
   exact QW.a ⟨f5, i64.wrap (b0 + 1), rfl, H, h6, f6⟩
  have f4 := (decide_eq_false f3)
  refine CW.cf rfl f4 (CW.exit (QW.then_x (QW.then_x (QW.blk_x (QW.then_n (cr (WL.as rfl (wn (CW.block ?_)))))))))
  obtain ⟨n1, H⟩ := H
  refine CW.su [(6, _), (7, _), (12, _), (13, _), (56, _), (57, _), (14, _), (60, _), (61, _), (15, _)] ?_
  refine CW.lp (fun kL6 l_ w_ => ∃ b9 c0, l_ = [(6, .pointer (sp a0)), (7, .pointer (sp a2)), (12, .pointer (sp a9)), (13, .int .i64 a8), (56, .int .i64 a8), (57, .bool (decide (a8 < 10))), (14, .int .i64 b0), (60, .int .i64 b0), (61, .bool (decide (b0 < 4))), (15, .int .i64 c0)] ∧ reliquaryref04_Block.L6 a8 (reliquaryref04_Block.L4 lC a6 kL4) kL6 b9 c0 ∧ (b9.length = 16) ∧ St w w_ [.cells a9 (iv .u32 b9) 166, .obj a5 (.cells a7.toArray 5 (16, 16 + 1)), .cells a2 (iv .u32 a6) 166, .cells a0 (iv .u8 (List.replicate 64 (0 : Int))) 158, .cells a3 (iv .u8 lB) 140, .cells a4 (iv .u8 lA) 23]) (k := n1) ⟨b8, 0, rfl, H, c7, f2⟩ ?_
  rintro kL6 r3 n2 ⟨b9, c0, rfl, H, c8, f7⟩
  refine CW.seq (cr (WL.mv rfl (WL.v (Runs.lss rfl rfl rfl) (wn ?_))))
  rcases H with ⟨f8, H⟩ | ⟨f8, H⟩
  ·have f9 := (decide_eq_true f8)
   refine CW.ct rfl f9 (CW.skip (QW.then_n (CW.seq (CW.block (CW.region (WL.v (Runs.load_arr arr166 rfl (f7.blk (i := 0) rfl) c8) (WL.mv rfl (WL.mv rfl (WL.v (Runs.add rfl rfl rfl) ?_)))))))))
   refine WL.v (Runs.rem rfl rfl (by decide) rfl) ?_
   obtain ⟨n3, n4, H⟩ := H
   refine WL.v (Runs.add rfl rfl n4) (WL.mv rfl (WL.v (Runs.add rfl rfl rfl) ?_))
   refine WL.v (Runs.rem rfl rfl (by decide) rfl) ?_
   obtain ⟨n5, n6, H⟩ := H
   refine WL.v (Runs.add rfl rfl n6) (WL.mv rfl (WL.v (Runs.add rfl rfl rfl) ?_))
   refine WL.v (Runs.rem rfl rfl (by decide) rfl) ?_
   obtain ⟨n7, n8, H⟩ := H
   refine WL.v (Runs.add rfl rfl n8) ?_
   obtain ⟨g0, n9, H⟩ := H
   refine wC ent88 rfl (reliquaryref04_quarter.calls c8 n9) ?_
   rintro _ o0 ⟨h7, rfl, o1⟩
   have o2 := f7.call o1
   refine ⟨_, rfl, ?_⟩
   refine WL.store_arr (i := 0) o2 rfl arr166 rfl (by rw [iv_length]; exact c8) h7 rfl ?_
   intro o3 g1
   try dsimp only [List.set] at g1
   refine WL.nil (QW.blk_n (QW.then_n (CW.region (WL.mv rfl (WL.v (Runs.add rfl rfl rfl) (WL.as rfl (WL.nil ?_)))))))
   exact QW.a ⟨g0, i64.wrap (c0 + 1), rfl, H, h7, g1⟩
  have f9 := (decide_eq_false f8)
  refine CW.cf rfl f9 (CW.exit (QW.then_x (QW.then_x (QW.blk_x (QW.blk_n (QW.then_n (CW.region (WL.mv rfl (WL.v (Runs.add rfl rfl rfl) (WL.as rfl (WL.nil ?_)))))))))))
  exact QW.a ⟨b9, i64.wrap (a8 + 1), rfl, H, c8, f7⟩
 have f1 := (decide_eq_false f0)
 refine CW.cf rfl f1 (CW.exit (QW.then_x (QW.then_x (QW.blk_x (QW.then_n (cr (WL.alloc h5 arr158.zero ?_)))))))
 intro c4 r4 o4
 refine wn (CW.seq (cr (WL.as rfl (wn (CW.block ?_)))))
 obtain ⟨o5, H⟩ := H
 refine CW.su [(6, _), (7, _), (12, _), (16, _), (17, _)] ?_
 refine CW.lp (fun kL7 l_ w_ => ∃ c1 b1, l_ = [(6, .pointer (sp a0)), (7, .pointer (sp a2)), (12, .pointer (sp a9)), (16, .pointer (sp c4)), (17, .int .i64 b1)] ∧ reliquaryref04_Block.L7 lC a6 b5 kL7 c1 b1 ∧ (c1.length = 64) ∧ St w w_ [.cells c4 (iv .u8 c1) 158, .cells a9 (iv .u32 b5) 166, .obj a5 (.cells a7.toArray 5 (16, 16 + 1)), .cells a2 (iv .u32 a6) 166, .cells a0 (iv .u8 (List.replicate 64 (0 : Int))) 158, .cells a3 (iv .u8 lB) 140, .cells a4 (iv .u8 lA) 23]) (k := o5) ⟨List.replicate 64 (0 : Int), 0, rfl, H, (List.length_replicate ..), o4⟩ ?_
 rintro kL7 r5 r6 ⟨c1, b1, rfl, H, c3, g2⟩
 refine CW.seq (cr (WL.mv rfl (WL.v (Runs.lss rfl rfl rfl) (wn ?_))))
 rcases H with ⟨g3, H⟩ | ⟨g3, H⟩
 ·have g4 := (decide_eq_true g3)
  refine CW.ct rfl g4 (CW.skip (QW.then_n (CW.seq (CW.block (CW.seq ?_)))))
  refine CW.region_qa wide (by kernel_rfl) g2 ?_
  refine HL.mv rfl ?_
  refine HL.p (Runs.quo rfl rfl (by decide) rfl) ?_
  obtain ⟨⟨o6, o7⟩, H⟩ := H
  refine HL.p (Runs.indexAddr_blk arr166 rfl rfl o6 o7 (o := (i64.wrap (Int.tdiv b1 4)).toNat) (by first | rfl | omega)) ?_
  refine HL.v (fun wq sq => (Runs.load nagg24 rfl (sq.cell_iv (i := 1) rfl (by have := h4; omega)))) ?_
  refine HL.mv rfl ?_
  refine HL.p (Runs.quo rfl rfl (by decide) rfl) ?_
  obtain ⟨⟨o8, o9⟩, H⟩ := H
  refine HL.p (Runs.indexAddr_blk arr166 rfl rfl o8 o9 (o := (i64.wrap (Int.tdiv b1 4)).toNat) (by first | rfl | omega)) ?_
  refine HL.v (fun wq sq => (Runs.load nagg24 rfl (sq.cell_iv (i := 3) rfl (by have := c2; omega)))) ?_
  obtain ⟨r7, p0, H⟩ := H
  refine HL.p (Runs.add rfl rfl p0) (HL.as rfl ?_)
  refine HL.nil (fun r8 p1 => ?_)
  refine wn (CW.region (WL.mv rfl (WL.mv rfl (WL.mv rfl ?_))))
  refine WL.v (Runs.rem rfl rfl (by decide) rfl) ?_
  refine WL.v (Runs.mul rfl rfl rfl) (WL.v (Runs.conv underlying133 ⟨_, underlying3⟩ rfl rfl) ?_)
  obtain ⟨p2, H⟩ := H
  obtain ⟨p3, p4, H⟩ := H
  refine WL.v (Runs.shr rfl rfl p2 p4) (WL.v (Runs.conv underlying5 ⟨_, underlying24⟩ rfl rfl) ?_)
  obtain ⟨⟨p5, p6⟩, H⟩ := H
  refine WL.v (Runs.indexAddr_blk arr158 rfl rfl p5 p6 (o := (b1).toNat) (by first | rfl | omega)) ?_
  obtain ⟨g5, h8, H⟩ := H
  have p7 : g5.length = 64 := by rw [h8, List.length_set]; exact c3
  refine WL.store_cells (i := 0) p1 rfl cells5 rfl (by rw [iv_length]; have := c3; omega) rfl rfl ?_
  intro p8 g6
  have g6' := g6; (try dsimp only [List.set, ec, en] at g6'); rw [iv_set .u8 c1 (b1.toNat) (IntKind.u8.wrap p3), ← h8] at g6'
  refine WL.nil (QW.blk_n (QW.then_n (CW.region (WL.mv rfl (WL.v (Runs.add rfl rfl rfl) (WL.as rfl (WL.nil ?_)))))))
  exact QW.a ⟨g5, i64.wrap (b1 + 1), rfl, H, p7, g6'⟩
 have g4 := (decide_eq_false g3)
 refine CW.cf rfl g4 (CW.exit (QW.then_x (QW.then_x (QW.blk_x (QW.then_n (cr (WL.v (Runs.load_arr arr158 rfl (g2.blk (i := 0) rfl) c3) ?_)))))))
 refine WL.store_arr (i := 4) g2 rfl arr158 rfl (by rw [iv_length]; exact (List.length_replicate ..)) c3 rfl ?_
 intro p9 c9
 try dsimp only [List.set] at c9
 refine wn (CW.ret ?_)
 obtain rfl := H
 exact QW.retc rfl arr158 rfl (c9.blk (i := 4) rfl) c3 ⟨c3, rfl, c9.pick [] (by decide)⟩
def reliquaryref04_Crypt.L2 (l3 : List Int) (a2 : Int) (a3 : List Int) (K_L1 : (List Int) → Int → Prop) : Nat → (List Int) → Int → Prop
 | 0, _, _ => False
 | kL2 + 1, a4, a0 => ((a0 < 64 ∧ (∃ a1 : Int, a1 = i64.wrap ((i64.wrap ((i64.wrap a2) * 64)) + a0) ∧ ((a1 < (l3.length : Int) ∧ ((0 ≤ a1 ∧ a1 < (l3.length : Int)) ∧ ((0 ≤ a0 ∧ a0 < (64 : Int)) ∧ (∃ a6 : Int, a6 = bits .xor .u8 (gn l3 (a1.toNat)) (gn a3 (a0.toNat)) ∧ (∃ a5 : List Int, a5 = a4 ++ [a6] ∧ (a5.length ≤ 1099511627776 ∧ reliquaryref04_Crypt.L2 l3 a2 a3 K_L1 kL2 a5 (i64.wrap (a0 + 1)))))))) ∨ (¬ (a1 < (l3.length : Int)) ∧ reliquaryref04_Crypt.L2 l3 a2 a3 K_L1 kL2 a4 (i64.wrap (a0 + 1)))))) ∨ (¬ (a0 < 64) ∧ K_L1 a4 (u64.wrap (a2 + 1))))
def reliquaryref04_Crypt.L1 (l0 : List Int) (a1 : Int) (l2 l3 r0 : List Int) (r1 a2 : Int) : Nat → (List Int) → Int → Prop
 | 0, _, _ => False
 | kL1 + 1, a3, a0 => ((a0 < a2 ∧ (∃ a4, reliquaryref04_Block.rel l0 (u32.wrap (a1 + (u32.wrap a0))) l2 a4 ∧ (∃ k_ : Nat, reliquaryref04_Crypt.L2 l3 a0 a4 (reliquaryref04_Crypt.L1 l0 a1 l2 l3 r0 r1 a2 kL1) k_ a3 0))) ∨ (¬ (a0 < a2) ∧ r0 = a3 ∧ r1 = 0))
def reliquaryref04_Crypt.rel (l0 : List Int) (a1 : Int) (l2 l3 r0 : List Int) (r1 : Int) : Prop := (∃ a0 : Int, a0 = u64.wrap (Int.tdiv (u64.wrap (i64.wrap ((l3.length : Int) + 63))) 64) ∧ (((u64.wrap ((u64.wrap a1) + a0)) > 4294967296 ∧ r0 = [] ∧ r1 = 1) ∨ (¬ ((u64.wrap ((u64.wrap a1) + a0)) > 4294967296) ∧ (∃ k_ : Nat, reliquaryref04_Crypt.L1 l0 a1 l2 l3 r0 r1 a0 k_ ([] : List Int) 0))))
theorem reliquaryref04_Crypt.calls (hl0 : lA.length = 32) (hl2 : lB.length = 12) (hs3 : Src w pA (iv .u8 lC)) (hn3 : nA = lC.length) (hc3 : nA ≤ nB) (H : reliquaryref04_Crypt.rel lA iA lB lC lD iB) :
  Calls prog 65 #[.agg (iv .u8 lA).toArray, .int .u32 iA, .agg (iv .u8 lB).toArray, .slice pA nA nB] w fun e w' => ∃ B0 q0 z0, z0 = lD.length ∧ e = .returned (.tuple #[.slice B0 z0 q0, .int .i64 iB]) ∧ St w w' [.sl B0 q0 z0 (iv .u8 lD) 5 1] := by
 refine CW.en func65 rfl 63 [_, _, _, _] (CW.sub [(0, _), (1, _), (2, _), (3, _)] ⟨rfl, rfl, rfl, rfl, trivial⟩ ?_)
 have st0 := St.refl w
 refine cr (WL.box st0 rfl rfl ?_)
 intro a3 g8 e8
 refine WL.box e8 rfl rfl ?_
 intro a4 d9 e0
 refine WL.as rfl (WL.as rfl (WL.nx (WL.mv rfl ?_)))
 refine WL.v (Runs.len_sl underlying25 rfl (by rw [hn3])) ?_
 refine WL.v (Runs.add rfl rfl rfl) (WL.v (Runs.conv underlying37 ⟨_, underlying3⟩ rfl rfl) ?_)
 obtain ⟨a2, e9, H⟩ := H
 refine WL.v (Runs.quo rfl rfl (by decide) e9) ?_
 refine WL.as rfl (wn ?_)
 refine CW.su [(1, _), (3, _), (4, _), (6, _), (8, _), (9, _), (10, _)] ?_
 refine CW.seq (cr (WL.mv rfl (WL.v (Runs.conv underlying37 ⟨_, underlying24⟩ rfl rfl) (WL.mv rfl (WL.v (Runs.add rfl rfl rfl) (WL.v (Runs.gtr rfl rfl rfl) (wn ?_)))))))
 rcases H with ⟨c4, H⟩ | ⟨c4, H⟩
 ·have c5 := (decide_eq_true c4)
  refine CW.ct rfl c5 (cr (WL.as rfl (WL.as rfl (wn (CW.ret (QW.then_r ?_))))))
  have c6 := e0.nil_sl 5 1
  have c6 : St w d9 [.sl none 0 0 (iv .u8 ([] : List Int)) 5 1, .cells a4 (iv .u8 lB) 140, .cells a3 (iv .u8 lA) 23] := c6
  obtain ⟨rfl, rfl⟩ := H
  exact QW.ret2 rfl rfl rfl ⟨none, 0, 0, rfl, rfl, c6.pick [0] (by decide)⟩
 have c5 := (decide_eq_false c4)
 refine CW.cf rfl c5 (CW.skip (QW.then_n (cr (WL.as rfl (wn (CW.seq (cr (WL.as rfl (wn (CW.block ?_))))))))))
 have c7 := e0.nil_sl 5 1
 have c7 : St w d9 [.sl none 0 0 (iv .u8 ([] : List Int)) 5 1, .cells a4 (iv .u8 lB) 140, .cells a3 (iv .u8 lA) 23] := c7
 obtain ⟨f0, H⟩ := H
 refine CW.su [(1, _), (3, _), (4, _), (6, _), (8, _), (9, _), (10, _), (11, _), (12, _)] ?_
 refine CW.lp (fun kL1 l_ w_ => ∃ a7 a8 a6 b3 a0, l_ = [(1, .int .u32 iA), (3, .slice pA nA nB), (4, .pointer (sp a3)), (6, .pointer (sp a4)), (8, .slice none 0 0), (9, .int .i64 0), (10, .int .u64 a2), (11, .slice a7 a6 a8), (12, .int .u64 a0)] ∧ reliquaryref04_Crypt.L1 lA iA lB lC lD iB a2 kL1 b3 a0 ∧ (a6 = b3.length) ∧ St w w_ [.sl a7 a8 a6 (iv .u8 b3) 5 1, .cells a4 (iv .u8 lB) 140, .cells a3 (iv .u8 lA) 23]) (k := f0) ⟨none, 0, 0, ([] : List Int), 0, rfl, H, rfl, c7⟩ ?_
 rintro kL1 g9 f1 ⟨a7, a8, a6, b3, a0, rfl, H, e1, c0⟩
 refine CW.seq (cr (WL.mv rfl (WL.mv rfl (WL.v (Runs.lss rfl rfl rfl) (wn ?_)))))
 rcases H with ⟨c8, H⟩ | ⟨c8, H⟩
 ·have c9 := (decide_eq_true c8)
  refine CW.ct rfl c9 (CW.skip (QW.then_n (CW.seq (CW.block (cr (WL.v (Runs.load_arr arr23 rfl (c0.blk (i := 2) rfl) hl0) (WL.mv rfl (WL.mv rfl (WL.v (Runs.conv underlying24 ⟨_, underlying37⟩ rfl rfl) (WL.v (Runs.add rfl rfl rfl) (WL.v (Runs.load_arr arr140 rfl (c0.blk (i := 1) rfl) hl2) ?_)))))))))))
  obtain ⟨a9, f2, H⟩ := H
  refine wC ent79 rfl (reliquaryref04_Block.calls hl0 hl2 f2) ?_
  rintro _ f3 ⟨e2, rfl, f4⟩
  have f5 := c0.call f4
  refine ⟨_, rfl, WL.alloc f5 arr158.zero ?_⟩
  intro b4 h0 f6
  refine WL.store_arr (i := 0) f6 rfl arr158 rfl (by rw [iv_length]; exact (List.length_replicate ..)) e2 rfl ?_
  intro f7 d0
  try dsimp only [List.set] at d0
  refine WL.nx (WL.as rfl (wn (CW.block ?_)))
  obtain ⟨f8, H⟩ := H
  refine CW.su [(1, _), (3, _), (4, _), (6, _), (8, _), (9, _), (10, _), (11, _), (12, _), (26, _), (27, _), (28, _), (31, _), (32, _), (33, _), (34, _), (35, _), (36, _), (37, _), (13, _), (14, _)] ?_
  refine CW.lp (fun kL2 l_ w_ => ∃ b5 b6 b1 b0 b2, l_ = [(1, .int .u32 iA), (3, .slice pA nA nB), (4, .pointer (sp a3)), (6, .pointer (sp a4)), (8, .slice none 0 0), (9, .int .i64 0), (10, .int .u64 a2), (11, .slice b5 b1 b6), (12, .int .u64 a0), (26, .int .u64 a0), (27, .int .u64 a2), (28, .bool (decide (a0 < a2))), (31, .agg (iv .u8 lA).toArray), (32, .int .u32 iA), (33, .int .u64 a0), (34, .int .u32 (u32.wrap a0)), (35, .int .u32 (u32.wrap (iA + (u32.wrap a0)))), (36, .agg (iv .u8 lB).toArray), (37, .agg (iv .u8 a9).toArray), (13, .pointer (sp b4)), (14, .int .i64 b2)] ∧ reliquaryref04_Crypt.L2 lC a0 a9 (reliquaryref04_Crypt.L1 lA iA lB lC lD iB a2 kL1) kL2 b0 b2 ∧ (b1 = b0.length) ∧ St w w_ [.cells b4 (iv .u8 a9) 158, .sl b5 b6 b1 (iv .u8 b0) 5 1, .cells a4 (iv .u8 lB) 140, .cells a3 (iv .u8 lA) 23]) (k := f8) ⟨a7, a8, a6, b3, 0, rfl, H, e1, d0⟩ ?_
  rintro kL2 h1 h2 ⟨b5, b6, b1, b0, b2, rfl, H, d1, b7⟩
  refine CW.seq (cr (WL.mv rfl (WL.v (Runs.lss rfl rfl rfl) (wn ?_))))
  rcases H with ⟨d2, H⟩ | ⟨d2, H⟩
  ·have d3 := (decide_eq_true d2)
   refine CW.ct rfl d3 (CW.skip (QW.then_n (CW.seq (CW.block (cr (WL.mv rfl (WL.v (Runs.conv underlying3 ⟨_, underlying37⟩ rfl rfl) (WL.v (Runs.mul rfl rfl rfl) (WL.mv rfl ?_)))))))))
   obtain ⟨c1, f9, H⟩ := H
   refine WL.v (Runs.add rfl rfl f9) (WL.as rfl (WL.nx (WL.mv rfl (WL.mv rfl ?_))))
   refine WL.v (Runs.len_sl underlying25 rfl (by rw [hn3])) ?_
   refine WL.v (Runs.lss rfl rfl rfl) (wn ?_)
   rcases H with ⟨d4, H⟩ | ⟨d4, H⟩
   ·have d5 := (decide_eq_true d4)
    refine CW.ct rfl d5 ?_
    refine CW.region_awh (C := fun w_ => St w w_ [.cells b4 (iv .u8 a9) 158, .sl b5 b6 b1 (iv .u8 b0) 5 1, .cells a4 (iv .u8 lB) 140, .cells a3 (iv .u8 lA) 23]) 10 wide (by kernel_rfl) b7 (fun h3 a5 => ?_)
    refine AWH.tk 0 rfl a5 (fun wq sq => (Runs.move rfl)) ?_
    refine AWH.tk 1 rfl a5 (fun wq sq => (Runs.move rfl)) ?_
    refine AWH.tk 2 rfl a5 (fun wq sq => (Runs.move rfl)) ?_
    obtain ⟨⟨g0, g1⟩, H⟩ := H
    obtain ⟨h4, e3⟩ := (hs3.ext a5).addr_iv (c1.toNat) (by omega)
    refine AWH.tk 3 rfl a5 (fun wq sq => (Runs.indexAddr underlying25 cells5 (by decide) rfl e3 rfl g0 (by rw [hn3]; exact g1) (o := (c1).toNat) (by first | rfl | omega))) ?_
    refine AWH.tk 4 rfl a5 (fun wq sq => (Runs.load nagg5 rfl ((hs3.ext sq).cell_iv e3 (by omega)))) ?_
    refine AWH.tk 5 rfl a5 (fun wq sq => (Runs.move rfl)) ?_
    obtain ⟨⟨g2, g3⟩, H⟩ := H
    refine AWH.tk 6 rfl a5 (fun wq sq => (Runs.indexAddr_blk arr158 rfl rfl g2 g3 (o := (b2).toNat) (by first | rfl | omega))) ?_
    refine AWH.tk 7 rfl a5 (fun wq sq => (Runs.load nagg5 rfl (sq.cell_iv (i := 0) rfl (by have := e2; omega)))) ?_
    obtain ⟨c2, g4, H⟩ := H
    refine AWH.tk 8 rfl a5 (fun wq sq => (Runs.bxor rfl rfl g4)) ?_
    refine AWH.step 9 rfl (by decide) (by kernel_rfl) (fun inv_ hs_ hk_ hc_ hn_ => ?_)
    refine WL.buildSl [.int .u8 c2] a5 underlying25 elem5 rfl rfl (by decide) (by decide) (by simp [Value.cells]) ?_
    intro e4 g5 b8
    replace b8 : St w g5 [.sl (sp e4) 1 1 (iv .u8 [c2]) 5 1, .cells b4 (iv .u8 a9) 158, .sl b5 b6 b1 (iv .u8 b0) 5 1, .cells a4 (iv .u8 lB) 140, .cells a3 (iv .u8 lA) 23] := b8
    refine WL.nil ?_
    refine AWH.back (St.subset a5 b8 (mcD 1 2 3 4 (fun x_ h_ => by cases h_))) inv_ hs_ hk_ hc_ hn_ ?_
    refine AWH.tail (by kernel_rfl) ?_
    refine AW.step 10 rfl (by kernel_rfl) ?_
    obtain ⟨d6, e5, H⟩ := H
    obtain ⟨g6, H⟩ := H
    obtain ⟨d7, d8⟩ : ∃ n_ : Nat, n_ = d6.length := ⟨_, rfl⟩
    refine WL.append (i := 2) Wanted.none b8 rfl underlying25 elem5 rfl rfl (b8.src_sl (k := 0) rfl) (by rw [iv_length]; exact (Eq.refl _).symm) (one_iv .u8 _) (by decide) (N := d7) (by rw [d8, e5, List.length_append]; exact congr (congrArg HAdd.hAdd (d1)) (rfl)) (by rw [d8]; exact g6) ?_
    intro e6 e7 g7 b9
    have b9' : St w g7 [.sl (sp e4) 1 1 (iv .u8 [c2]) 5 1, .cells b4 (iv .u8 a9) 158, .sl e6 e7 d7 (iv .u8 d6) 5 1, .cells a4 (iv .u8 lB) 140, .cells a3 (iv .u8 lA) 23] := by rw [e5, ← iv_append .u8 b0 [c2]]; exact b9
    refine WL.nil ?_
    refine AW.back  ?_
    refine AW.tk 11 rfl (fun _ => (Runs.assign rfl)) ?_
    refine AW.done (by kernel_rfl) ?_
    refine QW.blk_n (QW.then_n (CW.region (WL.mv rfl (WL.v (Runs.add rfl rfl rfl) (WL.as rfl (WL.nil ?_))))))
    have b9'' := b9'.pick [1, 2, 3, 4] (by decide)
    exact QW.a ⟨e6, e7, d7, d6, i64.wrap (b2 + 1), rfl, H, d8, b9''⟩
   have d5 := (decide_eq_false d4)
   refine CW.cf rfl d5 (CW.skip (QW.blk_n (QW.then_n (CW.region (WL.mv rfl (WL.v (Runs.add rfl rfl rfl) (WL.as rfl (WL.nil ?_))))))))
   exact QW.a ⟨b5, b6, b1, b0, i64.wrap (b2 + 1), rfl, H, d1, b7⟩
  have d3 := (decide_eq_false d2)
  refine CW.cf rfl d3 (CW.exit (QW.then_x (QW.then_x (QW.blk_x (QW.blk_n (QW.then_n (CW.region (WL.mv rfl (WL.v (Runs.add rfl rfl rfl) (WL.as rfl (WL.nil ?_)))))))))))
  have b7' := b7.pick [1, 2, 3] (by decide)
  exact QW.a ⟨b5, b6, b1, b0, u64.wrap (a0 + 1), rfl, H, d1, b7'⟩
 have c9 := (decide_eq_false c8)
 refine CW.cf rfl c9 (CW.exit (QW.then_x (QW.then_x (QW.blk_x (QW.then_n (CW.sub [(8, _), (9, _), (11, _)] ⟨rfl, rfl, rfl, trivial⟩ (cr (WL.mv rfl (WL.as rfl (WL.as rfl (wn (CW.ret ?_))))))))))))
 obtain ⟨rfl, rfl⟩ := H
 exact QW.ret2 rfl rfl rfl ⟨a7, a8, a6, e1, rfl, c0.pick [0] (by decide)⟩
end Go.Proofs.YtmhcjafkdmcgoaaDoor
