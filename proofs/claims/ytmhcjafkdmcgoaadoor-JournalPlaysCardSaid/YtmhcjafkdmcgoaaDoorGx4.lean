/- Walks: each function computes what its relation says, and a call of it ends so. Printed by a program of this session (wip/gen). -/
import Derived.Test.YtmhcjafkdmcgoaaDoorGx3
namespace Go.Proofs.YtmhcjafkdmcgoaaDoor
open Go Go.Kr Go.RowKit Go.IntKind Tryd
set_option maxHeartbeats 1000000
variable {w w1 : World} {R : Pool} {iA iB iC iD iE iF iG iH iI iJ iK iL iM iN iO iP iQ iR iS iT iU iV iW iX iY iZ iAa iBa iCa iDa iEa iFa iGa iHa iIa iJa iKa iLa iMa iNa iOa iPa iQa : Int} {qA qB qC : List R25} {rA rB : List R124} {bA bB bC bD bE bF : Bool} {sA sB sC : List R48} {lA lB lC lD lE lF lG lH lI lJ lK lL lM : List Int} {nA nB nC nD nE nF nG nH nI nJ nK nL nM nN nO nP nQ nR : Nat} {pA pB pC pD pE pF pG pH : Option Addr} {xA xB xC : Cs} {tA tB : List R42} {uA : List R104} {vA vB vC vD : List R145} {dA dB : List R160} {eA : List R116} {fA : List R118} {yA yB : ByteArray} {gA : List Bool} {hA : List R9}
set_option linter.unusedVariables false
set_option linter.unusedSimpArgs false
set_option maxRecDepth 100000
def reliquarylaw13_step.rel (t0 : List R25) (t1 : List R124) (t2 : Int) (t3 : Bool) (t4 : List R48) (t5 : List Int) (t6 t7 t8 t9 : Int) (u0 : List Int) (u1 u2 u3 : Int) (u4 u5 : List R145) (u6 : Int) (u7 : Bool) (u8 : List R160) (u9 : List Int) (v0 v1 v2 v3 : Int) (v4 : List Int) (v5 v6 s4 s5 : Int) (s6 : List Int) (s7 s8 : Int) (s9 : List Int) (p0 : Int) (w4 : List R42) (v8 : Bool) (v9 w0 : Int) (w1 : List Int) (v7 w2 : Int) (w3 : List Bool) (p1 : List R25) (p2 : List R124) (p3 : Int) (p4 : Bool) (p5 : List R48) (p6 : List Int) (p7 p8 p9 q0 : Int) (q1 : List Int) (q2 q3 q4 : Int) (q5 q6 : List R145) (q7 : Int) (q8 : Bool) (q9 : List R160) (r0 : List Int) (r1 r2 r3 r4 : Int) (r5 : List Int) (r6 r7 r8 r9 : Int) (s0 : List Int) (s1 s2 : Int) (s3 : List Int) (ar1 : Bool) : Prop := ((((bits .and .i64 p0 7) = 0 ∨ (bits .and .i64 p0 7) = 1 ∨ (bits .and .i64 p0 7) = 2) ∧ (∃ d5, reliquarylaw13_images.rel w4 v8 d5 ∧ (∃ a1 a2 a3 a4 a5 a6 a7 a8 a9 b0 b1 b2 b3 b4 b5 b6 a0, journal_Journal_Append.rel t0 t1 t2 t3 t4 t5 t6 t7 t8 t9 u0 u1 u2 d5 a1 a2 a3 a4 a5 a6 a7 a8 a9 b0 b1 b2 b3 b4 b5 b6 a0 ∧ (∃ e5, reliquarylaw13_modelOf.rel d5 e5 ∧ (∃ b7 b8 b9 c0 c1 c2 c3 c4 c5 c6 c7 c8 c9 d0 d1 d2 d3 d4, reliquaryref13_Append.rel u3 u4 u5 u6 u7 u8 u9 v0 v1 v2 v3 v4 v5 v6 e5 b7 b8 b9 c0 c1 c2 c3 c4 c5 c6 c7 c8 c9 d0 d1 d2 d3 d4 ∧ ((a0 = 0 ∧ ((a0 = d4 ∧ (∃ e6 e7 e8, reliquarylaw13_stateOf.rel b4 b5 b6 e6 e7 e8 ∧ p1 = a1 ∧ p2 = a2 ∧ p3 = a3 ∧ p4 = a4 ∧ p5 = a5 ∧ p6 = a6 ∧ p7 = a7 ∧ p8 = a8 ∧ p9 = a9 ∧ q0 = b0 ∧ q1 = b1 ∧ q2 = b2 ∧ q3 = b3 ∧ q4 = b7 ∧ q5 = b8 ∧ q6 = b9 ∧ q7 = c0 ∧ q8 = c1 ∧ q9 = c2 ∧ r0 = c3 ∧ r1 = c4 ∧ r2 = c5 ∧ r3 = c6 ∧ r4 = c7 ∧ r5 = c8 ∧ r6 = c9 ∧ r7 = d0 ∧ r8 = b4 ∧ r9 = b5 ∧ s0 = b6 ∧ s1 = d1 ∧ s2 = d2 ∧ s3 = d3 ∧ ar1 = ((e6 == d1) && ((e7 == d2) && ((e8 == d3) && true))))) ∨ (¬ (a0 = d4) ∧ p1 = a1 ∧ p2 = a2 ∧ p3 = a3 ∧ p4 = a4 ∧ p5 = a5 ∧ p6 = a6 ∧ p7 = a7 ∧ p8 = a8 ∧ p9 = a9 ∧ q0 = b0 ∧ q1 = b1 ∧ q2 = b2 ∧ q3 = b3 ∧ q4 = b7 ∧ q5 = b8 ∧ q6 = b9 ∧ q7 = c0 ∧ q8 = c1 ∧ q9 = c2 ∧ r0 = c3 ∧ r1 = c4 ∧ r2 = c5 ∧ r3 = c6 ∧ r4 = c7 ∧ r5 = c8 ∧ r6 = c9 ∧ r7 = d0 ∧ r8 = b4 ∧ r9 = b5 ∧ s0 = b6 ∧ s1 = d1 ∧ s2 = d2 ∧ s3 = d3 ∧ ar1 = false))) ∨ (¬ (a0 = 0) ∧ ((a0 = d4 ∧ (∃ e9 f0 f1, reliquarylaw13_stateOf.rel b4 b5 b6 e9 f0 f1 ∧ p1 = a1 ∧ p2 = a2 ∧ p3 = a3 ∧ p4 = a4 ∧ p5 = a5 ∧ p6 = a6 ∧ p7 = a7 ∧ p8 = a8 ∧ p9 = a9 ∧ q0 = b0 ∧ q1 = b1 ∧ q2 = b2 ∧ q3 = b3 ∧ q4 = b7 ∧ q5 = b8 ∧ q6 = b9 ∧ q7 = c0 ∧ q8 = c1 ∧ q9 = c2 ∧ r0 = c3 ∧ r1 = c4 ∧ r2 = c5 ∧ r3 = c6 ∧ r4 = c7 ∧ r5 = c8 ∧ r6 = c9 ∧ r7 = d0 ∧ r8 = s4 ∧ r9 = s5 ∧ s0 = s6 ∧ s1 = s7 ∧ s2 = s8 ∧ s3 = s9 ∧ ar1 = ((e9 == d1) && ((f0 == d2) && ((f1 == d3) && true))))) ∨ (¬ (a0 = d4) ∧ p1 = a1 ∧ p2 = a2 ∧ p3 = a3 ∧ p4 = a4 ∧ p5 = a5 ∧ p6 = a6 ∧ p7 = a7 ∧ p8 = a8 ∧ p9 = a9 ∧ q0 = b0 ∧ q1 = b1 ∧ q2 = b2 ∧ q3 = b3 ∧ q4 = b7 ∧ q5 = b8 ∧ q6 = b9 ∧ q7 = c0 ∧ q8 = c1 ∧ q9 = c2 ∧ r0 = c3 ∧ r1 = c4 ∧ r2 = c5 ∧ r3 = c6 ∧ r4 = c7 ∧ r5 = c8 ∧ r6 = c9 ∧ r7 = d0 ∧ r8 = s4 ∧ r9 = s5 ∧ s0 = s6 ∧ s1 = s7 ∧ s2 = s8 ∧ s3 = s9 ∧ ar1 = false))))))))) ∨ (¬ ((bits .and .i64 p0 7) = 0 ∨ (bits .and .i64 p0 7) = 1 ∨ (bits .and .i64 p0 7) = 2) ∧ ((((bits .and .i64 p0 7) = 3 ∨ (bits .and .i64 p0 7) = 4) ∧ (∃ f2 f3 f4 f5 f6 f7 f8 f9 g0 g1 g2 g3 g4, journal_Journal_Adopt.rel t0 t1 t2 t3 t4 t5 t6 t7 t8 t9 u0 u1 u2 s4 s5 s6 v7 f2 f3 f4 f5 f6 f7 f8 f9 g0 g1 g2 g3 g4 ∧ (∃ g5 g6 g7 g8 g9 h0 h1 h2, reliquaryref13_Adopt.rel u9 v0 v1 v2 v3 v4 v5 v6 s7 s8 s9 v7 g5 g6 g7 g8 g9 h0 h1 h2 ∧ p1 = f2 ∧ p2 = f3 ∧ p3 = f4 ∧ p4 = f5 ∧ p5 = f6 ∧ p6 = f7 ∧ p7 = f8 ∧ p8 = f9 ∧ p9 = g0 ∧ q0 = g1 ∧ q1 = g2 ∧ q2 = g3 ∧ q3 = g4 ∧ q4 = u3 ∧ q5 = u4 ∧ q6 = u5 ∧ q7 = u6 ∧ q8 = u7 ∧ q9 = u8 ∧ r0 = g5 ∧ r1 = g6 ∧ r2 = g7 ∧ r3 = g8 ∧ r4 = g9 ∧ r5 = h0 ∧ r6 = h1 ∧ r7 = h2 ∧ r8 = s4 ∧ r9 = s5 ∧ s0 = s6 ∧ s1 = s7 ∧ s2 = s8 ∧ s3 = s9 ∧ ar1 = true))) ∨ (¬ ((bits .and .i64 p0 7) = 3 ∨ (bits .and .i64 p0 7) = 4) ∧ (((bits .and .i64 p0 7) = 5 ∧ ((v8 = true ∧ (∃ h3 h4 h5 h6 h7 h8 h9 i0 i1 i2 i3 i4 i5 d6 d7 d8, journal_Journal_Empty.rel t0 t1 t2 t3 t4 t5 t6 t7 t8 t9 u0 u1 u2 h3 h4 h5 h6 h7 h8 h9 i0 i1 i2 i3 i4 i5 d6 d7 d8 ∧ (∃ i6 i7 i8 i9 j0 j1 j2 j3 j4 j5 j6 j7 j8, journal_Journal_Adopt.rel h3 h4 h5 h6 h7 h8 h9 i0 i1 i2 i3 i4 i5 d6 d7 d8 v7 i6 i7 i8 i9 j0 j1 j2 j3 j4 j5 j6 j7 j8 ∧ (∃ j9 k0 d9, reliquarylaw13_stateOf.rel d6 d7 d8 j9 k0 d9 ∧ (d9.length = 32 ∧ (∃ e0 k1 k2 k3 k4 e1 k5 k6, reliquaryref13_Adopt.rel u9 v0 v1 v2 v3 v4 v5 v6 j9 k0 d9 v7 e0 k1 k2 k3 k4 e1 k5 k6 ∧ (e0.length = 32 ∧ (e1.length = 32 ∧ p1 = i6 ∧ p2 = i7 ∧ p3 = i8 ∧ p4 = i9 ∧ p5 = j0 ∧ p6 = j1 ∧ p7 = j2 ∧ p8 = j3 ∧ p9 = j4 ∧ q0 = j5 ∧ q1 = j6 ∧ q2 = j7 ∧ q3 = j8 ∧ q4 = u3 ∧ q5 = u4 ∧ q6 = u5 ∧ q7 = u6 ∧ q8 = u7 ∧ q9 = u8 ∧ r0 = e0 ∧ r1 = k1 ∧ r2 = k2 ∧ r3 = k3 ∧ r4 = k4 ∧ r5 = e1 ∧ r6 = k5 ∧ r7 = k6 ∧ r8 = s4 ∧ r9 = s5 ∧ s0 = s6 ∧ s1 = s7 ∧ s2 = s8 ∧ s3 = s9 ∧ ar1 = true)))))))) ∨ (¬ (v8 = true) ∧ (∃ k7 k8 k9 l0 l1 l2 l3 l4 l5 l6 l7 l8 l9, journal_Journal_Adopt.rel t0 t1 t2 t3 t4 t5 t6 t7 t8 t9 u0 u1 u2 v9 w0 w1 v7 k7 k8 k9 l0 l1 l2 l3 l4 l5 l6 l7 l8 l9 ∧ (∃ m0 m1 e2, reliquarylaw13_stateOf.rel v9 w0 w1 m0 m1 e2 ∧ (e2.length = 32 ∧ (∃ e3 m2 m3 m4 m5 e4 m6 m7, reliquaryref13_Adopt.rel u9 v0 v1 v2 v3 v4 v5 v6 m0 m1 e2 v7 e3 m2 m3 m4 m5 e4 m6 m7 ∧ (e3.length = 32 ∧ (e4.length = 32 ∧ p1 = k7 ∧ p2 = k8 ∧ p3 = k9 ∧ p4 = l0 ∧ p5 = l1 ∧ p6 = l2 ∧ p7 = l3 ∧ p8 = l4 ∧ p9 = l5 ∧ q0 = l6 ∧ q1 = l7 ∧ q2 = l8 ∧ q3 = l9 ∧ q4 = u3 ∧ q5 = u4 ∧ q6 = u5 ∧ q7 = u6 ∧ q8 = u7 ∧ q9 = u8 ∧ r0 = e3 ∧ r1 = m2 ∧ r2 = m3 ∧ r3 = m4 ∧ r4 = m5 ∧ r5 = e4 ∧ r6 = m6 ∧ r7 = m7 ∧ r8 = s4 ∧ r9 = s5 ∧ s0 = s6 ∧ s1 = s7 ∧ s2 = s8 ∧ s3 = s9 ∧ ar1 = true))))))))) ∨ (¬ ((bits .and .i64 p0 7) = 5) ∧ (((bits .and .i64 p0 7) = 6 ∧ (∃ m8 m9 n0 n1 n2, disk_Disk_Stop.rel t0 t1 t2 t3 t4 (bits .and .i64 w2 7) m8 m9 n0 n1 n2 ∧ (∃ n3 n4 n5 n6 n7 n8, reliquaryref06_Stop.rel u3 u4 u5 u6 u7 u8 (bits .and .i64 w2 7) n3 n4 n5 n6 n7 n8 ∧ p1 = m8 ∧ p2 = m9 ∧ p3 = n0 ∧ p4 = n1 ∧ p5 = n2 ∧ p6 = t5 ∧ p7 = t6 ∧ p8 = t7 ∧ p9 = t8 ∧ q0 = t9 ∧ q1 = u0 ∧ q2 = u1 ∧ q3 = u2 ∧ q4 = n3 ∧ q5 = n4 ∧ q6 = n5 ∧ q7 = n6 ∧ q8 = n7 ∧ q9 = n8 ∧ r0 = u9 ∧ r1 = v0 ∧ r2 = v1 ∧ r3 = v2 ∧ r4 = v3 ∧ r5 = v4 ∧ r6 = v5 ∧ r7 = v6 ∧ r8 = s4 ∧ r9 = s5 ∧ s0 = s6 ∧ s1 = s7 ∧ s2 = s8 ∧ s3 = s9 ∧ ar1 = true))) ∨ (¬ ((bits .and .i64 p0 7) = 6) ∧ (∃ n9 o0 o1 o2 o3, disk_Disk_Crash.rel t0 t1 t2 t3 t4 w3 n9 o0 o1 o2 o3 ∧ (∃ o4 o5 o6 o7 o8 o9, reliquaryref06_Crash.rel u3 u4 u5 u6 u7 u8 w3 o4 o5 o6 o7 o8 o9 ∧ p1 = n9 ∧ p2 = o0 ∧ p3 = o1 ∧ p4 = o2 ∧ p5 = o3 ∧ p6 = t5 ∧ p7 = t6 ∧ p8 = t7 ∧ p9 = t8 ∧ q0 = t9 ∧ q1 = u0 ∧ q2 = u1 ∧ q3 = u2 ∧ q4 = o4 ∧ q5 = o5 ∧ q6 = o6 ∧ q7 = o7 ∧ q8 = o8 ∧ q9 = o9 ∧ r0 = u9 ∧ r1 = v0 ∧ r2 = v1 ∧ r3 = v2 ∧ r4 = v3 ∧ r5 = v4 ∧ r6 = v5 ∧ r7 = v6 ∧ r8 = s4 ∧ r9 = s5 ∧ s0 = s6 ∧ s1 = s7 ∧ s2 = s8 ∧ s3 = s9 ∧ ar1 = true))))))))))
theorem reliquarylaw13_step.calls (T : Pool) (st0 : St w w1 (oJ nA nB lA iB iC iD iE lB iF iG 98 :: oD nB pA nC nD pB nE nF iA bA pC nG nH 95 :: .sl pA nD nC xA 25 1 :: .sl pB nF nE xB 124 2 :: .sl pC nH nG xC 48 2 :: (T ++ R))) (hG0 : Src w (sp 0) (iv .u32 tab0)) (hG1 : Src w (sp 1) (iv .i64 tab1)) (aw5 : nC = qA.length) (aw6 : HRs T (f25 w) xA qA) (aw7 : nE = rA.length) (aw8 : HRs T (f124 w) xB rA) (aw9 : nG = sA.length) (ax0 : HRs T (f48 w) xC sA) (ax1 : lA.length = 32) (ax2 : lB.length = 32) (aw2 : HS w T T pD nI nJ (f145 w) vA) (aw3 : HS w T T pE nK nL (f145 w) vB) (aw4 : HS w T T pF nM nN (f160 w) dA) (av9 : lC.length = 32) (aw0 : lD.length = 32) (b1 : lE.length = 32) (ar1 : lF.length = 32) (az5 : HS w T T pG nO nP (f42 w) tA) (aw1 : lG.length = 32) (ax6 : HB w T pH nQ nR (bv gA) gA.length) (H : reliquarylaw13_step.rel qA rA iA bA sA lA iB iC iD iE lB iF iG iH vA vB iI bB dA lC iJ iK iL iM lD iN iO iP iQ lE iR iS lF iT tA bC iU iV lG iW iX gA qB rB iY bD sB lH iZ iAa iBa iCa lI iDa iEa iFa vC vD iGa bE dB lJ iHa iIa iJa iKa lK iLa iMa iNa iOa lL iPa iQa lM bF) :
  Calls prog 28 #[.pointer (sp nB), .pointer (sp nA), .agg ((ci iH) ++ ((cl pD nI nJ) ++ ((cl pE nK nL) ++ ((ci iI) ++ ((cb bB) ++ ((cl pF nM nN) ++ (iv .u8 lC ++ ((ci iJ) ++ ((cu iK) ++ ((cu iL) ++ ((cu iM) ++ (iv .u8 lD ++ ((cu iN) ++ ((cu iO) ++ ((cu iP) ++ ((cu iQ) ++ (iv .u8 lE ++ ((cu iR) ++ ((cu iS) ++ iv .u8 lF))))))))))))))))))).toArray, .agg ((ci iT) ++ ((cl pG nO nP) ++ ((cb bC) ++ ((cu iU) ++ ((cu iV) ++ (iv .u8 lG ++ ((cu iW) ++ ((ci iX) ++ (cl pH nQ nR))))))))).toArray] w1 fun e w' => ∃ T' ax7 ax3 ax8 ax9 ay0 ax4 ay1 ay2 ay3 ax5 ay4 ay5 ay6 ay7 ay8 ay9 az0 az1 az2 az3 az4, Pl T T' ∧ ax3 = qB.length ∧ HRs T' (f25 w) ax9 qB ∧ ax4 = rB.length ∧ HRs T' (f124 w) ay2 rB ∧ ax5 = sB.length ∧ HRs T' (f48 w) ay5 sB ∧ lH.length = 32 ∧ lI.length = 32 ∧ HS w T' T' ay6 ay7 ay8 (f145 w) vC ∧ HS w T' T' ay9 az0 az1 (f145 w) vD ∧ HS w T' T' az2 az3 az4 (f160 w) dB ∧ lJ.length = 32 ∧ lK.length = 32 ∧ lL.length = 32 ∧ lM.length = 32 ∧ e = .returned (.tuple #[.agg ((ci iFa) ++ ((cl ay6 ay7 ay8) ++ ((cl ay9 az0 az1) ++ ((ci iGa) ++ ((cb bE) ++ ((cl az2 az3 az4) ++ (iv .u8 lJ ++ ((ci iHa) ++ ((cu iIa) ++ ((cu iJa) ++ ((cu iKa) ++ (iv .u8 lK ++ ((cu iLa) ++ ((cu iMa) ++ ((cu iNa) ++ ((cu iOa) ++ (iv .u8 lL ++ ((cu iPa) ++ ((cu iQa) ++ iv .u8 lM))))))))))))))))))).toArray, .bool bF]) ∧ St w w' (oJ nA nB lH iZ iAa iBa iCa lI iDa iEa 98 :: oD nB ax7 ax3 ax8 ay0 ax4 ay1 iY bD ay3 ax5 ay4 95 :: .sl ax7 ax8 ax3 ax9 25 1 :: .sl ay0 ay1 ax4 ay2 124 2 :: .sl ay3 ay4 ax5 ay5 48 2 :: (T' ++ R)) := by
 refine CW.en func28 rfl 134 [_, _, _, _] (CW.sub [(0, _), (1, _), (2, _), (3, _)] ⟨rfl, rfl, rfl, rfl, trivial⟩ (cr (WL.box st0 rfl rfl ?_)))
 intro a3 aq9 U6
 refine WL.box U6 rfl rfl ?_
 intro a4 ar0 U7
 refine WL.alloc U7 zero81 ?_
 intro a5 j4 j5
 refine WL.as rfl (wn (CW.seq (cr (WL.v (Runs.fieldAddr (off := 0) (p := 0) fld84_0 rfl rfl rfl) (WL.ld 1 nagg3 j5 rfl rfl (pa (.int .i64 iT) [] ((cl pG nO nP) ++ ((cb bC) ++ ((cu iU) ++ ((cu iV) ++ (iv .u8 lG ++ ((cu iW) ++ ((ci iX) ++ (cl pH nQ nR))))))))) (WL.v (Runs.band rfl rfl rfl) (wn (CW.block ?_))))))))
 refine CW.cut (fun l_ w_ => l_ = [(0, .pointer (sp nB)), (1, .pointer (sp nA)), (6, .pointer (sp a3)), (7, .pointer (sp a4)), (8, .pointer (sp a5)), (9, .bool false), (20, .int .i64 (bits .and .i64 iT 7)), (21, .bool (decide ((bits .and .i64 iT 7) = 0 ∨ (bits .and .i64 iT 7) = 1 ∨ (bits .and .i64 iT 7) = 2)))] ∧ j4 = w_) ?_ ?_
 ·refine cr (WL.v (Runs.eql rfl rfl rfl) (WL.as rfl (wn ?_)))
  rcases Decidable.em ((bits .and .i64 iT 7) = 0) with w9 | w9
  ·have I6 : ((bits .and .i64 iT 7) == 0) = true := (beq_iff_eq.mpr w9)
   refine CW.ct rfl I6 (CW.skip ?_)
   exact QW.at _ (by repeat' constructor) ⟨congrArg (fun b_ : Bool => ([(0, .pointer (sp nB)), (1, .pointer (sp nA)), (6, .pointer (sp a3)), (7, .pointer (sp a4)), (8, .pointer (sp a5)), (9, .bool false), (20, .int .i64 (bits .and .i64 iT 7)), (21, .bool b_)] : Ov)) (by simp [w9]), rfl⟩
  have I6 : ((bits .and .i64 iT 7) == 0) = false := (beq_eq_false_iff_ne.mpr w9)
  refine CW.cf rfl I6 (cr (WL.v (Runs.eql rfl rfl rfl) (WL.as rfl (wn ?_))))
  refine CW.su [(0, _), (1, _), (6, _), (7, _), (8, _), (9, _), (20, _), (21, _)] ?_
  rcases Decidable.em ((bits .and .i64 iT 7) = 1) with x9 | x9
  ·have I7 : ((bits .and .i64 iT 7) == 1) = true := (beq_iff_eq.mpr x9)
   refine CW.ct rfl I7 (CW.skip ?_)
   exact QW.at _ (by repeat' constructor) ⟨congrArg (fun b_ : Bool => ([(0, .pointer (sp nB)), (1, .pointer (sp nA)), (6, .pointer (sp a3)), (7, .pointer (sp a4)), (8, .pointer (sp a5)), (9, .bool false), (20, .int .i64 (bits .and .i64 iT 7)), (21, .bool b_)] : Ov)) (by simp [w9, x9]), rfl⟩
  have I7 : ((bits .and .i64 iT 7) == 1) = false := (beq_eq_false_iff_ne.mpr x9)
  refine CW.cf rfl I7 (CW.region (WL.v (Runs.eql rfl rfl rfl) (WL.as rfl (WL.nil ?_))))
  exact QW.at _ (by repeat' constructor) ⟨congrArg (fun b_ : Bool => ([(0, .pointer (sp nB)), (1, .pointer (sp nA)), (6, .pointer (sp a3)), (7, .pointer (sp a4)), (8, .pointer (sp a5)), (9, .bool false), (20, .int .i64 (bits .and .i64 iT 7)), (21, .bool b_)] : Ov)) (by by_cases h_ : (bits .and .i64 iT 7) = 2 <;> simp [w9, x9, h_]), rfl⟩
 rintro _ _ ⟨rfl, rfl⟩
 rcases H with ⟨I8, H⟩ | ⟨I8, H⟩
 ·have I9 := (decide_eq_true I8)
  refine CW.ct rfl I9 (cr (WL.v (Runs.fieldAddr (off := 1) (p := 1) fld84_1 rfl rfl rfl) (WL.ld 1 nagg40 j5 rfl rfl (pa (.slice pG nO nP) (ci iT) ((cb bC) ++ ((cu iU) ++ ((cu iV) ++ (iv .u8 lG ++ ((cu iW) ++ ((ci iX) ++ (cl pH nQ nR)))))))) (WL.v (Runs.fieldAddr (off := 2) (p := 2) fld84_2 rfl rfl rfl) (WL.ld 1 nagg4 j5 rfl rfl (pa (.bool bC) ((ci iT) ++ (cl pG nO nP)) ((cu iU) ++ ((cu iV) ++ (iv .u8 lG ++ ((cu iW) ++ ((ci iX) ++ (cl pH nQ nR))))))) ?_)))))
  have U8 := St.hide (A := []) (B := [_, _, _, _, _, _, _, _]) j5
  obtain ⟨l9, U9, H⟩ := H
  refine wC ent20 rfl (reliquarylaw13_images.calls T U8 (az5.mono (memo_T (B := [_, _, _, _, _, _, _, _]) ii) ii) U9) ?_
  rintro _ C3 ⟨x0, c3, c4, c5, c7, f1, m0, m1, rfl, V0⟩
  have V1 := St.unhide (A := [_]) (B := [_, _, _, _, _, _, _, _]) V0; dsimp only [ec, en] at V1
  refine ⟨_, rfl, WL.as rfl (wn ?_)⟩
  refine CW.su [(0, _), (1, _), (6, _), (7, _), (8, _), (9, _), (10, _)] ?_
  refine cr (WL.mv rfl (WL.mv rfl ?_))
  have C4 := (St.pk (L := [_, _, _, _, _, _, _, _, _]) V1 [4, 5, 6, 7, 8, 0, 1, 2, 3])
  have V2 := St.hide (A := [_, _, _, _, _]) (B := [_, _, _, _]) C4
  obtain ⟨V3, V4, h5, h6, V5, h7, h8, h9, i0, i1, i2, i3, i4, g5, g6, g7, e1, V6, H⟩ := H
  refine wC ent14 rfl (journal_Journal_Append.calls x0 V2 hG0 hG1 (aw5) (aw6.mono f1.1) (aw7) (aw8.mono f1.1) (aw9) (ax0.mono f1.1) ax1 ax2 (HS.mk m0 (C4.cap (i := 5) rfl) (fun W_ L_ st hT => st.src_mem (hT _ (List.mem_append_right _ (List.mem_of_getElem? (i := 0) rfl)))) m1) V6) ?_
  rintro _ V7 ⟨f0, f5, f6, f7, h2, f8, f9, g0, h3, g1, g2, g3, h4, e7, C5, C6, C7, C8, C9, D0, D1, D2, i6, rfl, V8⟩
  have V9 := St.unhide (A := [_, _, _, _, _]) (B := [_, _, _, _]) V8; dsimp only [ec, en] at V9
  refine ⟨_, rfl, WL.mv rfl (WL.v (Runs.extract rfl rfl) (WL.v (Runs.extract rfl rfl) (WL.alloc V9 zero39 ?_)))⟩
  intro c8 ar2 W0
  refine WL.sw 0 W0 row39 rfl rfl rfl (hm := by simp [lv, i6]) ?_
  intro W1 J0
  try dsimp only [List.set] at J0
  refine WL.as rfl (wn ?_)
  refine CW.su [(0, _), (6, _), (7, _), (8, _), (9, _), (10, _), (11, _), (12, _)] ?_
  refine CW.seq ?_
  refine CW.region_aw wide J0 (fun J1 W2 => ?_)
  obtain ⟨c6, J2⟩ : ∃ r_ : Pool, r_ = (oS c8 g5 g6 g7 39 :: oJ nA nB h7 h8 h9 i0 i1 i2 i3 i4 98 :: oD nB f5 f6 f7 f8 f9 g0 h5 h6 g1 g2 g3 95 :: .sl f5 f7 f6 h2 25 1 :: .sl f8 g0 f9 h3 124 2 :: .sl g1 g3 g2 h4 48 2 :: .cells a5 ((ci 0) ++ ((cl none 0 0) ++ ((cl none 0 0) ++ ((ci 0) ++ ((cb false) ++ ((cl none 0 0) ++ (iv .u8 (z32) ++ ((ci 0) ++ ((cu 0) ++ ((cu 0) ++ ((cu 0) ++ (iv .u8 (z32) ++ ((cu 0) ++ ((cu 0) ++ ((cu 0) ++ ((cu 0) ++ (iv .u8 (z32) ++ ((cu 0) ++ ((cu 0) ++ iv .u8 (z32)))))))))))))))))))) 81 :: .cells a4 ((ci iT) ++ ((cl pG nO nP) ++ ((cb bC) ++ ((cu iU) ++ ((cu iV) ++ (iv .u8 lG ++ ((cu iW) ++ ((ci iX) ++ (cl pH nQ nR))))))))) 84 :: .cells a3 ((ci iH) ++ ((cl pD nI nJ) ++ ((cl pE nK nL) ++ ((ci iI) ++ ((cb bB) ++ ((cl pF nM nN) ++ (iv .u8 lC ++ ((ci iJ) ++ ((cu iK) ++ ((cu iL) ++ ((cu iM) ++ (iv .u8 lD ++ ((cu iN) ++ ((cu iO) ++ ((cu iP) ++ ((cu iQ) ++ (iv .u8 lE ++ ((cu iR) ++ ((cu iS) ++ iv .u8 lF))))))))))))))))))) 81 :: R) := ⟨_, rfl⟩
  have f4 : St w J1 (.sl c3 c5 c4 c7 42 2 :: (f0 ++ c6)) := by rw [J2]; exact St.hide (A := [_]) (B := [_, _, _, _, _, _, _, _, _]) (T := f0) (R := R) ((St.pk (L := [_, _, _, _, _, _, _, _, _, _]) W2 [6, 0, 1, 2, 3, 4, 5, 7, 8, 9]))
  have M6 : ∀ w_, St w w_ (.sl c3 c5 c4 c7 42 2 :: (f0 ++ c6)) → St w w_ (oS c8 g5 g6 g7 39 :: oJ nA nB h7 h8 h9 i0 i1 i2 i3 i4 98 :: oD nB f5 f6 f7 f8 f9 g0 h5 h6 g1 g2 g3 95 :: .sl f5 f7 f6 h2 25 1 :: .sl f8 g0 f9 h3 124 2 :: .sl g1 g3 g2 h4 48 2 :: .sl c3 c5 c4 c7 42 2 :: .cells a5 ((ci 0) ++ ((cl none 0 0) ++ ((cl none 0 0) ++ ((ci 0) ++ ((cb false) ++ ((cl none 0 0) ++ (iv .u8 (z32) ++ ((ci 0) ++ ((cu 0) ++ ((cu 0) ++ ((cu 0) ++ (iv .u8 (z32) ++ ((cu 0) ++ ((cu 0) ++ ((cu 0) ++ ((cu 0) ++ (iv .u8 (z32) ++ ((cu 0) ++ ((cu 0) ++ iv .u8 (z32)))))))))))))))))))) 81 :: .cells a4 ((ci iT) ++ ((cl pG nO nP) ++ ((cb bC) ++ ((cu iU) ++ ((cu iV) ++ (iv .u8 lG ++ ((cu iW) ++ ((ci iX) ++ (cl pH nQ nR))))))))) 84 :: .cells a3 ((ci iH) ++ ((cl pD nI nJ) ++ ((cl pE nK nL) ++ ((ci iI) ++ ((cb bB) ++ ((cl pF nM nN) ++ (iv .u8 lC ++ ((ci iJ) ++ ((cu iK) ++ ((cu iL) ++ ((cu iM) ++ (iv .u8 lD ++ ((cu iN) ++ ((cu iO) ++ ((cu iP) ++ ((cu iQ) ++ (iv .u8 lE ++ ((cu iR) ++ ((cu iS) ++ iv .u8 lF))))))))))))))))))) 81 :: (f0 ++ R)) := fun w_ h_ => by rw [J2] at h_; exact St.pickT (L := [_, _, _, _, _, _, _, _, _, _]) (St.unhide (A := [_]) (B := [_, _, _, _, _, _, _, _, _]) (T := f0) (R := R) h_) [1, 2, 3, 4, 5, 6, 0, 7, 8, 9] (by decide)
  refine AWX.enter (C := fun w_ => St w w_ (.sl c3 c5 c4 c7 42 2 :: (f0 ++ c6))) (F := [1, 3, 5, 12, 13, 14]) ?_
  refine AWX.tp 0 rfl (Runs.fieldAddr (off := 0) (p := 0) fld81_0 rfl rfl rfl) ?_
  refine AWX.tp 2 rfl (Runs.fieldAddr (off := 6) (p := 6) fld81_1 rfl rfl rfl) ?_
  refine AWX.tp 4 rfl (Runs.move rfl) ?_
  refine AWX.take 1 [6, 7, 8, 9, 10, 11, 15, 16, 17, 18] rfl (by kernel_rfl) f4 Wanted.none (fun wq sq => (Runs.load_mid row57 rfl (M6 _ sq) (i := 9) rfl (pm [] ((ci iH) ++ ((cl pD nI nJ) ++ ((cl pE nK nL) ++ ((ci iI) ++ ((cb bB) ++ (cl pF nM nN)))))) (iv .u8 lC ++ ((ci iJ) ++ ((cu iK) ++ ((cu iL) ++ ((cu iM) ++ (iv .u8 lD ++ ((cu iN) ++ ((cu iO) ++ ((cu iP) ++ ((cu iQ) ++ (iv .u8 lE ++ ((cu iR) ++ ((cu iS) ++ iv .u8 lF)))))))))))))) rfl)) ?_
  refine AWX.take 3 [6, 7, 8, 9, 10, 11, 15, 16, 17, 18] rfl (by kernel_rfl) f4 Wanted.none (fun wq sq => (Runs.load_mid row62 rfl (M6 _ sq) (i := 9) rfl (pm ((ci iH) ++ ((cl pD nI nJ) ++ ((cl pE nK nL) ++ ((ci iI) ++ ((cb bB) ++ (cl pF nM nN)))))) (iv .u8 lC ++ ((ci iJ) ++ ((cu iK) ++ ((cu iL) ++ ((cu iM) ++ (iv .u8 lD ++ ((cu iN) ++ (cu iO)))))))) ((cu iP) ++ ((cu iQ) ++ (iv .u8 lE ++ ((cu iR) ++ ((cu iS) ++ iv .u8 lF))))) (hm := by simp [lv, av9, aw0])) (by simp [lv, av9, aw0]))) ?_
  obtain ⟨g4, r9, H⟩ := H
  obtain ⟨d1, i9, j0, d2, d3, j1, c9, d4, d5, d6, d7, d0, d8, d9, e2, e3, e0, g8, s0, H⟩ := H
  refine AWX.join (f2 := 4) (listed2 := #[true, true, true, true, true, true, true, true, true, true, true, true, true, true, true, false, false, false, false]) (fun l_ w_ => ∃ a6 a1 a0 a2 b0 b3 b4 b5 b6 b7 b8 b9 c0 c1 c2 a9 a8 a7, l_ = [(0, .pointer (sp nB)), (6, .pointer (sp a3)), (7, .pointer (sp a4)), (8, .pointer (sp a5)), (9, .bool false), (11, .pointer (sp c8)), (12, .int .i64 e1), (13, .pointer (sp a9)), (14, .pointer (sp a8)), (15, .pointer (sp a7)), (44, .agg ((ci d1) ++ ((cl b4 b5 b6) ++ ((cl b7 b8 b9) ++ ((ci d2) ++ ((cb d3) ++ (cl c0 c1 c2)))))).toArray), (45, .agg (iv .u8 c9 ++ ((ci d4) ++ ((cu d5) ++ ((cu d6) ++ ((cu d7) ++ (iv .u8 d0 ++ ((cu d8) ++ (cu d9)))))))).toArray), (46, .agg ((cu e2) ++ ((cu e3) ++ iv .u8 e0)).toArray), (47, .int .i64 g8)] ∧ (Pl f0 a6) ∧ (a0 = g4.length) ∧ (HRs a6 (f116 w) b0 g4) ∧ (Pl a6 b3) ∧ (HS w b3 b3 b4 b5 b6 (f145 w) i9) ∧ (HS w b3 b3 b7 b8 b9 (f145 w) j0) ∧ (HS w b3 b3 c0 c1 c2 (f160 w) j1) ∧ (c9.length = 32) ∧ (d0.length = 32) ∧ (e0.length = 32) ∧ St w w_ (oS a7 0 0 (z32) 60 :: oK a8 (z32) 0 0 0 0 (z32) 0 0 62 :: oM a9 0 none 0 0 none 0 0 0 false none 0 0 57 :: .sl a1 a2 a0 b0 116 2 :: .sl c3 c5 c4 c7 42 2 :: (b3 ++ c6))) ?_ (fun cont_5_6_12_13_14_d_131 => ?_)
  ·rintro _ W3 ⟨a6, a1, a0, a2, b0, b3, b4, b5, b6, b7, b8, b9, c0, c1, c2, a9, a8, a7, rfl, b2, e4, e5, e6, g9, h0, h1, e8, e9, f3, M7⟩
   rw [J2] at M7
   have W4 := St.unhide (A := [_, _, _, _, _]) (B := [_, _, _, _, _, _, _, _, _]) M7; dsimp only [ec, en] at W4
   refine AWX.s1 15 rfl ?_
   refine WL.sw 2 W4 row57 rfl rfl rfl ?_
   intro W5 J3
   try dsimp only [List.set] at J3
   refine WL.nil ?_
   refine AWX.back (fun h_ => absurd h_ (by decide)) ?_
   refine AWX.s1 16 rfl ?_
   refine WL.sw 1 J3 row62 rfl rfl rfl (hm := by simp [lv, e8, e9]) ?_
   intro W6 J4
   try dsimp only [List.set] at J4
   refine WL.nil ?_
   refine AWX.back (fun h_ => absurd h_ (by decide)) ?_
   refine AWX.s1 17 rfl ?_
   refine WL.sw 0 J4 row60 rfl rfl rfl (hm := by simp [lv, f3]) ?_
   intro W7 D3
   try dsimp only [List.set] at D3
   refine WL.nil ?_
   refine AWX.back (fun h_ => absurd h_ (by decide)) ?_
   refine AWX.tp 18 rfl (Runs.assign rfl) ?_
   refine AWX.done (by kernel_rfl) ?_
   refine QW.then_n (cr (WL.v (Runs.load_mid row57 rfl D3 (i := 2) rfl (pm [] ((ci d1) ++ ((cl b4 b5 b6) ++ ((cl b7 b8 b9) ++ ((ci d2) ++ ((cb d3) ++ (cl c0 c1 c2)))))) []) rfl) (WL.v (Runs.fieldAddr (off := 0) (p := 0) fld81_0 rfl rfl rfl) ?_)))
   refine WL.sm (new := ((ci d1) ++ ((cl b4 b5 b6) ++ ((cl b7 b8 b9) ++ ((ci d2) ++ ((cb d3) ++ ((cl c0 c1 c2) ++ (iv .u8 lC ++ ((ci iJ) ++ ((cu iK) ++ ((cu iL) ++ ((cu iM) ++ (iv .u8 lD ++ ((cu iN) ++ ((cu iO) ++ ((cu iP) ++ ((cu iQ) ++ (iv .u8 lE ++ ((cu iR) ++ ((cu iS) ++ iv .u8 lF)))))))))))))))))))) (i := 13) (pre := (([] : Cs))) (mid := ((ci iH) ++ ((cl pD nI nJ) ++ ((cl pE nK nL) ++ ((ci iI) ++ ((cb bB) ++ (cl pF nM nN))))))) (post := (iv .u8 lC ++ ((ci iJ) ++ ((cu iK) ++ ((cu iL) ++ ((cu iM) ++ (iv .u8 lD ++ ((cu iN) ++ ((cu iO) ++ ((cu iP) ++ ((cu iQ) ++ (iv .u8 lE ++ ((cu iR) ++ ((cu iS) ++ iv .u8 lF)))))))))))))) (ms := ((ci d1) ++ ((cl b4 b5 b6) ++ ((cl b7 b8 b9) ++ ((ci d2) ++ ((cb d3) ++ (cl c0 c1 c2))))))) D3 rfl row57 (by first | rfl | simp only [aa, an, na, ca]) rfl rfl rfl rfl rfl (one_cat oneU (one_cat oneU (one_cat oneU (one_cat oneU (one_cat oneU oneU))))) rfl ?_
   intro W8 D4
   try dsimp only [List.set] at D4
   refine wn ?_
   refine CW.su [(0, _), (6, _), (7, _), (8, _), (9, _), (11, _), (12, _), (14, _), (15, _), (16, _)] ?_
   refine cr ?_
   refine WL.v (Runs.load_mid row62 rfl D4 (i := 1) rfl (pm [] (iv .u8 c9 ++ ((ci d4) ++ ((cu d5) ++ ((cu d6) ++ ((cu d7) ++ (iv .u8 d0 ++ ((cu d8) ++ (cu d9)))))))) [] (hm := by simp [lv, e8, e9])) (by simp [lv, e8, e9])) ?_
   refine WL.v (Runs.fieldAddr (off := 6) (p := 6) fld81_1 rfl rfl rfl) ?_
   refine WL.sm (new := ((ci d1) ++ ((cl b4 b5 b6) ++ ((cl b7 b8 b9) ++ ((ci d2) ++ ((cb d3) ++ ((cl c0 c1 c2) ++ (iv .u8 c9 ++ ((ci d4) ++ ((cu d5) ++ ((cu d6) ++ ((cu d7) ++ (iv .u8 d0 ++ ((cu d8) ++ ((cu d9) ++ ((cu iP) ++ ((cu iQ) ++ (iv .u8 lE ++ ((cu iR) ++ ((cu iS) ++ iv .u8 lF)))))))))))))))))))) (i := 13) (pre := ((ci d1) ++ ((cl b4 b5 b6) ++ ((cl b7 b8 b9) ++ ((ci d2) ++ ((cb d3) ++ (cl c0 c1 c2))))))) (mid := (iv .u8 lC ++ ((ci iJ) ++ ((cu iK) ++ ((cu iL) ++ ((cu iM) ++ (iv .u8 lD ++ ((cu iN) ++ (cu iO))))))))) (post := ((cu iP) ++ ((cu iQ) ++ (iv .u8 lE ++ ((cu iR) ++ ((cu iS) ++ iv .u8 lF)))))) (ms := (iv .u8 c9 ++ ((ci d4) ++ ((cu d5) ++ ((cu d6) ++ ((cu d7) ++ (iv .u8 d0 ++ ((cu d8) ++ (cu d9))))))))) D4 rfl row62 (by first | rfl | simp only [aa, an, na, ca]) rfl rfl rfl (by simp [lv, e8, e9]) (by simp [lv, av9, aw0]) (one_cat (one_iv _ _) (one_cat oneU (one_cat oneU (one_cat oneU (one_cat oneU (one_cat (one_iv _ _) (one_cat oneU oneU))))))) (by first | rfl | simp only [aa, an, na, ca]) ?_
   intro W9 y0
   try dsimp only [List.set] at y0
   refine wn (CW.seq (cr (WL.mv rfl (WL.v (Runs.eql rfl rfl rfl) (wn ?_)))))
   rcases H with ⟨J5, H⟩ | ⟨J5, H⟩
   ·have J6 := (beq_iff_eq.mpr J5)
    refine CW.ct rfl J6 (cr ?_)
    refine WL.v (Runs.load_mid row39 rfl y0 (i := 5) rfl (pm [] ((cu g5) ++ ((cu g6) ++ iv .u8 g7)) [] (hm := by simp [lv, i6])) (by simp [lv, i6])) ?_
    refine WL.v (Runs.fieldAddr (off := 76) (p := 76) fld81_2 rfl rfl rfl) ?_
    refine WL.sm (new := ((ci d1) ++ ((cl b4 b5 b6) ++ ((cl b7 b8 b9) ++ ((ci d2) ++ ((cb d3) ++ ((cl c0 c1 c2) ++ (iv .u8 c9 ++ ((ci d4) ++ ((cu d5) ++ ((cu d6) ++ ((cu d7) ++ (iv .u8 d0 ++ ((cu d8) ++ ((cu d9) ++ ((cu g5) ++ ((cu g6) ++ (iv .u8 g7 ++ ((cu iR) ++ ((cu iS) ++ iv .u8 lF)))))))))))))))))))) (i := 13) (pre := ((ci d1) ++ ((cl b4 b5 b6) ++ ((cl b7 b8 b9) ++ ((ci d2) ++ ((cb d3) ++ ((cl c0 c1 c2) ++ (iv .u8 c9 ++ ((ci d4) ++ ((cu d5) ++ ((cu d6) ++ ((cu d7) ++ (iv .u8 d0 ++ ((cu d8) ++ (cu d9))))))))))))))) (mid := ((cu iP) ++ ((cu iQ) ++ iv .u8 lE))) (post := ((cu iR) ++ ((cu iS) ++ iv .u8 lF))) (ms := ((cu g5) ++ ((cu g6) ++ iv .u8 g7))) y0 rfl row39 (by first | rfl | simp only [aa, an, na, ca]) (by simp [lv, e8, e9]) rfl rfl (by simp [lv, i6]) (by simp [lv, b1]) (one_cat oneU (one_cat oneU (one_iv _ _))) (by first | rfl | simp only [aa, an, na, ca]) ?_
    intro X0 D5
    try dsimp only [List.set] at D5
    refine wn ?_
    refine CW.su [(0, _), (6, _), (7, _), (8, _), (9, _), (11, _), (12, _), (15, _), (16, _)] ?_
    refine CW.region ?_
    refine WL.v (Runs.load_mid row60 rfl D5 (i := 0) rfl (pm [] ((cu e2) ++ ((cu e3) ++ iv .u8 e0)) [] (hm := by simp [lv, f3])) (by simp [lv, f3])) ?_
    refine WL.v (Runs.fieldAddr (off := 110) (p := 110) fld81_3 rfl rfl rfl) ?_
    refine WL.sm (new := ((ci d1) ++ ((cl b4 b5 b6) ++ ((cl b7 b8 b9) ++ ((ci d2) ++ ((cb d3) ++ ((cl c0 c1 c2) ++ (iv .u8 c9 ++ ((ci d4) ++ ((cu d5) ++ ((cu d6) ++ ((cu d7) ++ (iv .u8 d0 ++ ((cu d8) ++ ((cu d9) ++ ((cu g5) ++ ((cu g6) ++ (iv .u8 g7 ++ ((cu e2) ++ ((cu e3) ++ iv .u8 e0)))))))))))))))))))) (i := 13) (pre := ((ci d1) ++ ((cl b4 b5 b6) ++ ((cl b7 b8 b9) ++ ((ci d2) ++ ((cb d3) ++ ((cl c0 c1 c2) ++ (iv .u8 c9 ++ ((ci d4) ++ ((cu d5) ++ ((cu d6) ++ ((cu d7) ++ (iv .u8 d0 ++ ((cu d8) ++ ((cu d9) ++ ((cu g5) ++ ((cu g6) ++ iv .u8 g7))))))))))))))))) (mid := ((cu iR) ++ ((cu iS) ++ iv .u8 lF))) (post := (([] : Cs))) (ms := ((cu e2) ++ ((cu e3) ++ iv .u8 e0))) D5 rfl row60 (by first | rfl | simp only [aa, an, na, ca]) (by simp [lv, e8, e9, i6]) rfl rfl (by simp [lv, f3]) (by simp [lv, ar1]) (one_cat oneU (one_cat oneU (one_iv _ _))) (by first | rfl | simp only [aa, an, na, ca]) ?_
    intro X1 J7
    try dsimp only [List.set] at J7
    refine wn (CW.seq ?_)
    refine CW.region_awh (C := fun w_ => St w w_ (oS a7 e2 e3 e0 60 :: oK a8 c9 d4 d5 d6 d7 d0 d8 d9 62 :: oM a9 d1 b4 b5 b6 b7 b8 b9 d2 d3 c0 c1 c2 57 :: .sl a1 a2 a0 b0 116 2 :: .sl c3 c5 c4 c7 42 2 :: oS c8 g5 g6 g7 39 :: oJ nA nB h7 h8 h9 i0 i1 i2 i3 i4 98 :: oD nB f5 f6 f7 f8 f9 g0 h5 h6 g1 g2 g3 95 :: .sl f5 f7 f6 h2 25 1 :: .sl f8 g0 f9 h3 124 2 :: .sl g1 g3 g2 h4 48 2 :: .cells a4 ((ci iT) ++ ((cl pG nO nP) ++ ((cb bC) ++ ((cu iU) ++ ((cu iV) ++ (iv .u8 lG ++ ((cu iW) ++ ((ci iX) ++ (cl pH nQ nR))))))))) 84 :: .cells a3 ((ci d1) ++ ((cl b4 b5 b6) ++ ((cl b7 b8 b9) ++ ((ci d2) ++ ((cb d3) ++ ((cl c0 c1 c2) ++ (iv .u8 c9 ++ ((ci d4) ++ ((cu d5) ++ ((cu d6) ++ ((cu d7) ++ (iv .u8 d0 ++ ((cu d8) ++ ((cu d9) ++ ((cu g5) ++ ((cu g6) ++ (iv .u8 g7 ++ ((cu e2) ++ ((cu e3) ++ iv .u8 e0))))))))))))))))))) 81 :: (b3 ++ R))) 11 wide (by kernel_rfl) J7 (fun M8 j2 => ?_)
    have i7 : St w M8 (oS a7 e2 e3 e0 60 :: oK a8 c9 d4 d5 d6 d7 d0 d8 d9 62 :: oM a9 d1 b4 b5 b6 b7 b8 b9 d2 d3 c0 c1 c2 57 :: .sl a1 a2 a0 b0 116 2 :: .sl c3 c5 c4 c7 42 2 :: oS c8 g5 g6 g7 39 :: oJ nA nB h7 h8 h9 i0 i1 i2 i3 i4 98 :: oD nB f5 f6 f7 f8 f9 g0 h5 h6 g1 g2 g3 95 :: .sl f5 f7 f6 h2 25 1 :: .sl f8 g0 f9 h3 124 2 :: .sl g1 g3 g2 h4 48 2 :: .cells a4 ((ci iT) ++ ((cl pG nO nP) ++ ((cb bC) ++ ((cu iU) ++ ((cu iV) ++ (iv .u8 lG ++ ((cu iW) ++ ((ci iX) ++ (cl pH nQ nR))))))))) 84 :: .cells a3 ((ci d1) ++ ((cl b4 b5 b6) ++ ((cl b7 b8 b9) ++ ((ci d2) ++ ((cb d3) ++ ((cl c0 c1 c2) ++ (iv .u8 c9 ++ ((ci d4) ++ ((cu d5) ++ ((cu d6) ++ ((cu d7) ++ (iv .u8 d0 ++ ((cu d8) ++ ((cu d9) ++ ((cu g5) ++ ((cu g6) ++ (iv .u8 g7 ++ ((cu e2) ++ ((cu e3) ++ iv .u8 e0))))))))))))))))))) 81 :: (b3 ++ R)) := (St.pk (L := [_, _, _, _, _, _, _, _, _, _, _, _, _, _]) j2 [0, 1, 2, 3, 4, 5, 6, 7, 8, 9, 10, 12, 13])
    have zD1 := St.subset i7 j2 (mcD 0 1 2 3 (mcD 4 5 6 7 (mcD 8 9 10 12 (mc 13 rfl (mem_TR (A := [_, _, _, _, _, _, _, _, _, _, _, _, _, _]) ii)))))
    refine AWH.tk 0 rfl zD1 (fun wq sq => (Runs.load_mid row81 rfl sq (i := 12) rfl (pm [] ((ci d1) ++ ((cl b4 b5 b6) ++ ((cl b7 b8 b9) ++ ((ci d2) ++ ((cb d3) ++ ((cl c0 c1 c2) ++ (iv .u8 c9 ++ ((ci d4) ++ ((cu d5) ++ ((cu d6) ++ ((cu d7) ++ (iv .u8 d0 ++ ((cu d8) ++ ((cu d9) ++ ((cu g5) ++ ((cu g6) ++ (iv .u8 g7 ++ ((cu e2) ++ ((cu e3) ++ iv .u8 e0))))))))))))))))))) [] (hm := by simp [lv, e8, e9, i6, f3])) (by simp [lv, e8, e9, i6, f3]))) ?_
    refine AWH.tk 1 rfl zD1 (fun wq sq => (Runs.move rfl)) ?_
    refine AWH.tk 2 rfl zD1 (fun wq sq => (Runs.move rfl)) ?_
    refine AWH.tk 3 rfl zD1 (fun wq sq => (Runs.eql rfl rfl rfl)) ?_
    refine AWH.tk 4 rfl zD1 (fun wq sq => (Runs.move rfl)) ?_
    rcases H with ⟨J8, H⟩ | ⟨J8, H⟩
    ·have l7 := (beq_iff_eq.mpr J8)
     refine AWH.tw 5 rfl zD1 ?_ (fun wq sq => (Runs.load_mid row39 rfl sq (i := 5) rfl (pm [] ((cu g5) ++ ((cu g6) ++ iv .u8 g7)) [] (hm := by simp [lv, i6])) (by simp [lv, i6]))) ?_; exact Wg 62 l7
     refine AWH.tw 7 rfl zD1 ?_ (fun wq sq => (Runs.load_mid row60 rfl sq (i := 0) rfl (pm [] ((cu e2) ++ ((cu e3) ++ iv .u8 e0)) [] (hm := by simp [lv, f3])) (by simp [lv, f3]))) ?_; exact Wg 62 l7
     refine AWH.step 6 rfl (by decide) (by kernel_rfl) (fun inv_ hs_ hk_ hc_ hn_ => ?_); refine WL.on ?_ ?_; exact Wg 62 l7
     obtain ⟨y1, y2, y3, X2, H⟩ := H
     refine wC ent23 rfl (reliquarylaw13_stateOf.calls i6 X2) ?_
     rintro _ X3 ⟨M9, rfl, X4⟩
     have D6 := j2.call X4
     refine ⟨_, rfl, WL.nil ?_⟩
     have zD2 := St.subset i7 D6 (mcD 0 1 2 3 (mcD 4 5 6 7 (mcD 8 9 10 12 (mc 13 rfl (mem_TR (A := [_, _, _, _, _, _, _, _, _, _, _, _, _, _]) ii)))))
     refine AWH.back zD2 inv_ hs_ hk_ hc_ hn_ ?_
     refine AWH.tw 8 rfl zD2 ?_ (fun wq sq => (Runs.eql_top (EqTop.struct eqs60 (EqFs.cons (part_mid' (pre := (([] : Cs))) (mid := ((cu y1))) (post := ((cu y2) ++ iv .u8 y3)) (by first | rfl | simp only [aa, an, na, ca]) rfl) (part_mid' (pre := (([] : Cs))) (mid := ((cu e2))) (post := ((cu e3) ++ iv .u8 e0)) (by first | rfl | simp only [aa, an, na, ca]) rfl) (EqPl.int underlying37) (EqFs.cons (part_mid' (pre := ((cu y1))) (mid := ((cu y2))) (post := (iv .u8 y3)) (by first | rfl | simp only [aa, an, na, ca]) rfl) (part_mid' (pre := ((cu e2))) (mid := ((cu e3))) (post := (iv .u8 e0)) (by first | rfl | simp only [aa, an, na, ca]) rfl) (EqPl.int underlying37) (EqFs.cons (part_mid' (pre := ((cu y1) ++ (cu y2))) (mid := (iv .u8 y3)) (post := (([] : Cs))) (by first | rfl | simp only [aa, an, na, ca]) rfl) (part_mid' (pre := ((cu e2) ++ (cu e3))) (mid := (iv .u8 e0)) (post := (([] : Cs))) (by first | rfl | simp only [aa, an, na, ca]) rfl) (EqTop.place (EqTop.arr arr23 M9 f3) row23 (by simp [lv, M9]) (by simp [lv, f3])) EqFs.nil)))) eqg60 rfl rfl)) ?_; exact Wg 62 l7
     refine AWH.tk 9 rfl zD2 (fun wq sq => (Runs.pick_t (evb rfl l7) rfl)) ?_
     refine AWH.step 10 rfl (by decide) (by kernel_rfl) (fun inv_ hs_ hk_ hc_ hn_ => ?_)
     refine WL.sw 11 D6 row81 rfl rfl rfl (hm := by simp [lv, e8, e9, i6, f3]) ?_
     intro X5 y4
     try dsimp only [List.set] at y4
     refine WL.nil ?_
     refine AWH.back (St.subset i7 y4 (mcD 0 1 2 3 (mcD 4 5 6 7 (mcD 8 9 10 12 (mc 13 rfl (mem_TR (A := [_, _, _, _, _, _, _, _, _, _, _, _, _, _]) ii)))))) inv_ hs_ hk_ hc_ hn_ ?_
     refine AWH.tail (by kernel_rfl) ?_
     refine AW.tk 11 rfl (fun _ => (Runs.assign rfl)) ?_
     refine AW.done (by kernel_rfl) ?_
     refine QW.then_n (CW.ret (QW.blk_r (QW.then_r ?_)))
     obtain ⟨rfl, rfl, rfl, rfl, rfl, rfl, rfl, rfl, rfl, rfl, rfl, rfl, rfl, rfl, rfl, rfl, rfl, rfl, rfl, rfl, rfl, rfl, rfl, rfl, rfl, rfl, rfl, rfl, rfl, rfl, rfl, rfl, rfl, rfl⟩ := H
     exact QW.retN2 rfl (Res.row rfl row81 y4 (i := 11) rfl (by simp [lv, e8, e9, i6, f3])) (Res.tmp rfl) ⟨b3, f5, f6, f7, h2, f8, f9, g0, h3, g1, g2, g3, h4, b4, b5, b6, b7, b8, b9, c0, c1, c2, (((f1.trans e7).trans b2).trans e6), C5, (C6.mono (b2.trans e6).1), C7, (C8.mono (b2.trans e6).1), C9, (D0.mono (b2.trans e6).1), D1, D2, g9, h0, h1, e8, e9, i6, f3, rfl, (St.pk (L := [_, _, _, _, _, _, _, _, _, _, _, _, _, _]) y4 [6, 7, 8, 9, 10])⟩
    have l7 := (beq_eq_false_iff_ne.mpr J8)
    refine AWH.takeoff 5 rfl (by decide) (by kernel_rfl) (by kernel_rfl) zD1 ?_ ?_; exact Wg 62 l7
    refine AWH.takeoff 6 rfl (by decide) (by kernel_rfl) (by kernel_rfl) zD1 ?_ ?_; exact Wg 62 l7
    refine AWH.takeoff 7 rfl (by decide) (by kernel_rfl) (by kernel_rfl) zD1 ?_ ?_; exact Wg 62 l7
    refine AWH.takeoff 8 rfl (by decide) (by kernel_rfl) (by kernel_rfl) zD1 ?_ ?_; exact Wg 62 l7
    refine AWH.tk 9 rfl zD1 (fun wq sq => (Runs.pick_f (evb rfl l7) rfl)) ?_
    refine AWH.step 10 rfl (by decide) (by kernel_rfl) (fun inv_ hs_ hk_ hc_ hn_ => ?_)
    refine WL.sw 11 j2 row81 rfl rfl rfl (hm := by simp [lv, e8, e9, i6, f3]) ?_
    intro X6 y5
    try dsimp only [List.set] at y5
    refine WL.nil ?_
    refine AWH.back (St.subset i7 y5 (mcD 0 1 2 3 (mcD 4 5 6 7 (mcD 8 9 10 12 (mc 13 rfl (mem_TR (A := [_, _, _, _, _, _, _, _, _, _, _, _, _, _]) ii)))))) inv_ hs_ hk_ hc_ hn_ ?_
    refine AWH.tail (by kernel_rfl) ?_
    refine AW.tk 11 rfl (fun _ => (Runs.assign rfl)) ?_
    refine AW.done (by kernel_rfl) ?_
    refine QW.then_n (CW.ret (QW.blk_r (QW.then_r ?_)))
    obtain ⟨rfl, rfl, rfl, rfl, rfl, rfl, rfl, rfl, rfl, rfl, rfl, rfl, rfl, rfl, rfl, rfl, rfl, rfl, rfl, rfl, rfl, rfl, rfl, rfl, rfl, rfl, rfl, rfl, rfl, rfl, rfl, rfl, rfl, rfl⟩ := H
    exact QW.retN2 rfl (Res.row rfl row81 y5 (i := 11) rfl (by simp [lv, e8, e9, i6, f3])) (Res.tmp rfl) ⟨b3, f5, f6, f7, h2, f8, f9, g0, h3, g1, g2, g3, h4, b4, b5, b6, b7, b8, b9, c0, c1, c2, (((f1.trans e7).trans b2).trans e6), C5, (C6.mono (b2.trans e6).1), C7, (C8.mono (b2.trans e6).1), C9, (D0.mono (b2.trans e6).1), D1, D2, g9, h0, h1, e8, e9, i6, f3, rfl, (St.pk (L := [_, _, _, _, _, _, _, _, _, _, _, _, _, _]) y5 [6, 7, 8, 9, 10])⟩
   have J6 := (beq_eq_false_iff_ne.mpr J5)
   refine CW.cf rfl J6 (CW.skip (QW.then_n (CW.seq ?_)))
   refine CW.region_awh (C := fun w_ => St w w_ (oS a7 e2 e3 e0 60 :: oK a8 c9 d4 d5 d6 d7 d0 d8 d9 62 :: oM a9 d1 b4 b5 b6 b7 b8 b9 d2 d3 c0 c1 c2 57 :: .sl a1 a2 a0 b0 116 2 :: .sl c3 c5 c4 c7 42 2 :: oS c8 g5 g6 g7 39 :: oJ nA nB h7 h8 h9 i0 i1 i2 i3 i4 98 :: oD nB f5 f6 f7 f8 f9 g0 h5 h6 g1 g2 g3 95 :: .sl f5 f7 f6 h2 25 1 :: .sl f8 g0 f9 h3 124 2 :: .sl g1 g3 g2 h4 48 2 :: .cells a4 ((ci iT) ++ ((cl pG nO nP) ++ ((cb bC) ++ ((cu iU) ++ ((cu iV) ++ (iv .u8 lG ++ ((cu iW) ++ ((ci iX) ++ (cl pH nQ nR))))))))) 84 :: .cells a3 ((ci d1) ++ ((cl b4 b5 b6) ++ ((cl b7 b8 b9) ++ ((ci d2) ++ ((cb d3) ++ ((cl c0 c1 c2) ++ (iv .u8 c9 ++ ((ci d4) ++ ((cu d5) ++ ((cu d6) ++ ((cu d7) ++ (iv .u8 d0 ++ ((cu d8) ++ ((cu d9) ++ ((cu iP) ++ ((cu iQ) ++ (iv .u8 lE ++ ((cu iR) ++ ((cu iS) ++ iv .u8 lF))))))))))))))))))) 81 :: (b3 ++ R))) 11 wide (by kernel_rfl) y0 (fun N0 j3 => ?_)
   have i8 : St w N0 (oS a7 e2 e3 e0 60 :: oK a8 c9 d4 d5 d6 d7 d0 d8 d9 62 :: oM a9 d1 b4 b5 b6 b7 b8 b9 d2 d3 c0 c1 c2 57 :: .sl a1 a2 a0 b0 116 2 :: .sl c3 c5 c4 c7 42 2 :: oS c8 g5 g6 g7 39 :: oJ nA nB h7 h8 h9 i0 i1 i2 i3 i4 98 :: oD nB f5 f6 f7 f8 f9 g0 h5 h6 g1 g2 g3 95 :: .sl f5 f7 f6 h2 25 1 :: .sl f8 g0 f9 h3 124 2 :: .sl g1 g3 g2 h4 48 2 :: .cells a4 ((ci iT) ++ ((cl pG nO nP) ++ ((cb bC) ++ ((cu iU) ++ ((cu iV) ++ (iv .u8 lG ++ ((cu iW) ++ ((ci iX) ++ (cl pH nQ nR))))))))) 84 :: .cells a3 ((ci d1) ++ ((cl b4 b5 b6) ++ ((cl b7 b8 b9) ++ ((ci d2) ++ ((cb d3) ++ ((cl c0 c1 c2) ++ (iv .u8 c9 ++ ((ci d4) ++ ((cu d5) ++ ((cu d6) ++ ((cu d7) ++ (iv .u8 d0 ++ ((cu d8) ++ ((cu d9) ++ ((cu iP) ++ ((cu iQ) ++ (iv .u8 lE ++ ((cu iR) ++ ((cu iS) ++ iv .u8 lF))))))))))))))))))) 81 :: (b3 ++ R)) := (St.pk (L := [_, _, _, _, _, _, _, _, _, _, _, _, _, _]) j3 [0, 1, 2, 3, 4, 5, 6, 7, 8, 9, 10, 12, 13])
   have zD3 := St.subset i8 j3 (mcD 0 1 2 3 (mcD 4 5 6 7 (mcD 8 9 10 12 (mc 13 rfl (mem_TR (A := [_, _, _, _, _, _, _, _, _, _, _, _, _, _]) ii)))))
   refine AWH.tk 0 rfl zD3 (fun wq sq => (Runs.load_mid row81 rfl sq (i := 12) rfl (pm [] ((ci d1) ++ ((cl b4 b5 b6) ++ ((cl b7 b8 b9) ++ ((ci d2) ++ ((cb d3) ++ ((cl c0 c1 c2) ++ (iv .u8 c9 ++ ((ci d4) ++ ((cu d5) ++ ((cu d6) ++ ((cu d7) ++ (iv .u8 d0 ++ ((cu d8) ++ ((cu d9) ++ ((cu iP) ++ ((cu iQ) ++ (iv .u8 lE ++ ((cu iR) ++ ((cu iS) ++ iv .u8 lF))))))))))))))))))) [] (hm := by simp [lv, e8, e9, b1, ar1])) (by simp [lv, e8, e9, b1, ar1]))) ?_
   refine AWH.tk 1 rfl zD3 (fun wq sq => (Runs.move rfl)) ?_
   refine AWH.tk 2 rfl zD3 (fun wq sq => (Runs.move rfl)) ?_
   refine AWH.tk 3 rfl zD3 (fun wq sq => (Runs.eql rfl rfl rfl)) ?_
   refine AWH.tk 4 rfl zD3 (fun wq sq => (Runs.move rfl)) ?_
   rcases H with ⟨J9, H⟩ | ⟨J9, H⟩
   ·have l8 := (beq_iff_eq.mpr J9)
    refine AWH.tw 5 rfl zD3 ?_ (fun wq sq => (Runs.load_mid row39 rfl sq (i := 5) rfl (pm [] ((cu g5) ++ ((cu g6) ++ iv .u8 g7)) [] (hm := by simp [lv, i6])) (by simp [lv, i6]))) ?_; exact Wg 62 l8
    refine AWH.tw 7 rfl zD3 ?_ (fun wq sq => (Runs.load_mid row60 rfl sq (i := 0) rfl (pm [] ((cu e2) ++ ((cu e3) ++ iv .u8 e0)) [] (hm := by simp [lv, f3])) (by simp [lv, f3]))) ?_; exact Wg 62 l8
    refine AWH.step 6 rfl (by decide) (by kernel_rfl) (fun inv_ hs_ hk_ hc_ hn_ => ?_); refine WL.on ?_ ?_; exact Wg 62 l8
    obtain ⟨y6, y7, y8, X7, H⟩ := H
    refine wC ent23 rfl (reliquarylaw13_stateOf.calls i6 X7) ?_
    rintro _ X8 ⟨N1, rfl, X9⟩
    have D7 := j3.call X9
    refine ⟨_, rfl, WL.nil ?_⟩
    have zD4 := St.subset i8 D7 (mcD 0 1 2 3 (mcD 4 5 6 7 (mcD 8 9 10 12 (mc 13 rfl (mem_TR (A := [_, _, _, _, _, _, _, _, _, _, _, _, _, _]) ii)))))
    refine AWH.back zD4 inv_ hs_ hk_ hc_ hn_ ?_
    refine AWH.tw 8 rfl zD4 ?_ (fun wq sq => (Runs.eql_top (EqTop.struct eqs60 (EqFs.cons (part_mid' (pre := (([] : Cs))) (mid := ((cu y6))) (post := ((cu y7) ++ iv .u8 y8)) (by first | rfl | simp only [aa, an, na, ca]) rfl) (part_mid' (pre := (([] : Cs))) (mid := ((cu e2))) (post := ((cu e3) ++ iv .u8 e0)) (by first | rfl | simp only [aa, an, na, ca]) rfl) (EqPl.int underlying37) (EqFs.cons (part_mid' (pre := ((cu y6))) (mid := ((cu y7))) (post := (iv .u8 y8)) (by first | rfl | simp only [aa, an, na, ca]) rfl) (part_mid' (pre := ((cu e2))) (mid := ((cu e3))) (post := (iv .u8 e0)) (by first | rfl | simp only [aa, an, na, ca]) rfl) (EqPl.int underlying37) (EqFs.cons (part_mid' (pre := ((cu y6) ++ (cu y7))) (mid := (iv .u8 y8)) (post := (([] : Cs))) (by first | rfl | simp only [aa, an, na, ca]) rfl) (part_mid' (pre := ((cu e2) ++ (cu e3))) (mid := (iv .u8 e0)) (post := (([] : Cs))) (by first | rfl | simp only [aa, an, na, ca]) rfl) (EqTop.place (EqTop.arr arr23 N1 f3) row23 (by simp [lv, N1]) (by simp [lv, f3])) EqFs.nil)))) eqg60 rfl rfl)) ?_; exact Wg 62 l8
    refine AWH.tk 9 rfl zD4 (fun wq sq => (Runs.pick_t (evb rfl l8) rfl)) ?_
    refine AWH.step 10 rfl (by decide) (by kernel_rfl) (fun inv_ hs_ hk_ hc_ hn_ => ?_)
    refine WL.sw 11 D7 row81 rfl rfl rfl (hm := by simp [lv, e8, e9, b1, ar1]) ?_
    intro Y0 y9
    try dsimp only [List.set] at y9
    refine WL.nil ?_
    refine AWH.back (St.subset i8 y9 (mcD 0 1 2 3 (mcD 4 5 6 7 (mcD 8 9 10 12 (mc 13 rfl (mem_TR (A := [_, _, _, _, _, _, _, _, _, _, _, _, _, _]) ii)))))) inv_ hs_ hk_ hc_ hn_ ?_
    refine AWH.tail (by kernel_rfl) ?_
    refine AW.tk 11 rfl (fun _ => (Runs.assign rfl)) ?_
    refine AW.done (by kernel_rfl) ?_
    refine QW.then_n (CW.ret (QW.blk_r (QW.then_r ?_)))
    obtain ⟨rfl, rfl, rfl, rfl, rfl, rfl, rfl, rfl, rfl, rfl, rfl, rfl, rfl, rfl, rfl, rfl, rfl, rfl, rfl, rfl, rfl, rfl, rfl, rfl, rfl, rfl, rfl, rfl, rfl, rfl, rfl, rfl, rfl, rfl⟩ := H
    exact QW.retN2 rfl (Res.row rfl row81 y9 (i := 11) rfl (by simp [lv, e8, e9, b1, ar1])) (Res.tmp rfl) ⟨b3, f5, f6, f7, h2, f8, f9, g0, h3, g1, g2, g3, h4, b4, b5, b6, b7, b8, b9, c0, c1, c2, (((f1.trans e7).trans b2).trans e6), C5, (C6.mono (b2.trans e6).1), C7, (C8.mono (b2.trans e6).1), C9, (D0.mono (b2.trans e6).1), D1, D2, g9, h0, h1, e8, e9, b1, ar1, rfl, (St.pk (L := [_, _, _, _, _, _, _, _, _, _, _, _, _, _]) y9 [6, 7, 8, 9, 10])⟩
   have l8 := (beq_eq_false_iff_ne.mpr J9)
   refine AWH.takeoff 5 rfl (by decide) (by kernel_rfl) (by kernel_rfl) zD3 ?_ ?_; exact Wg 62 l8
   refine AWH.takeoff 6 rfl (by decide) (by kernel_rfl) (by kernel_rfl) zD3 ?_ ?_; exact Wg 62 l8
   refine AWH.takeoff 7 rfl (by decide) (by kernel_rfl) (by kernel_rfl) zD3 ?_ ?_; exact Wg 62 l8
   refine AWH.takeoff 8 rfl (by decide) (by kernel_rfl) (by kernel_rfl) zD3 ?_ ?_; exact Wg 62 l8
   refine AWH.tk 9 rfl zD3 (fun wq sq => (Runs.pick_f (evb rfl l8) rfl)) ?_
   refine AWH.step 10 rfl (by decide) (by kernel_rfl) (fun inv_ hs_ hk_ hc_ hn_ => ?_)
   refine WL.sw 11 j3 row81 rfl rfl rfl (hm := by simp [lv, e8, e9, b1, ar1]) ?_
   intro Y1 z0
   try dsimp only [List.set] at z0
   refine WL.nil ?_
   refine AWH.back (St.subset i8 z0 (mcD 0 1 2 3 (mcD 4 5 6 7 (mcD 8 9 10 12 (mc 13 rfl (mem_TR (A := [_, _, _, _, _, _, _, _, _, _, _, _, _, _]) ii)))))) inv_ hs_ hk_ hc_ hn_ ?_
   refine AWH.tail (by kernel_rfl) ?_
   refine AW.tk 11 rfl (fun _ => (Runs.assign rfl)) ?_
   refine AW.done (by kernel_rfl) ?_
   refine QW.then_n (CW.ret (QW.blk_r (QW.then_r ?_)))
   obtain ⟨rfl, rfl, rfl, rfl, rfl, rfl, rfl, rfl, rfl, rfl, rfl, rfl, rfl, rfl, rfl, rfl, rfl, rfl, rfl, rfl, rfl, rfl, rfl, rfl, rfl, rfl, rfl, rfl, rfl, rfl, rfl, rfl, rfl, rfl⟩ := H
   exact QW.retN2 rfl (Res.row rfl row81 z0 (i := 11) rfl (by simp [lv, e8, e9, b1, ar1])) (Res.tmp rfl) ⟨b3, f5, f6, f7, h2, f8, f9, g0, h3, g1, g2, g3, h4, b4, b5, b6, b7, b8, b9, c0, c1, c2, (((f1.trans e7).trans b2).trans e6), C5, (C6.mono (b2.trans e6).1), C7, (C8.mono (b2.trans e6).1), C9, (D0.mono (b2.trans e6).1), D1, D2, g9, h0, h1, e8, e9, b1, ar1, rfl, (St.pk (L := [_, _, _, _, _, _, _, _, _, _, _, _, _, _]) z0 [6, 7, 8, 9, 10])⟩
  refine AWX.join (f2 := 5) (listed2 := #[true, true, true, true, true, true, true, true, true, true, true, true, true, true, false, false, false, false, false]) (fun l_ w_ => ∃ a6 a1 a0 a2 b0 b3 b4 b5 b6 b7 b8 b9 c0 c1 c2 a9 a8, l_ = [(0, .pointer (sp nB)), (6, .pointer (sp a3)), (7, .pointer (sp a4)), (8, .pointer (sp a5)), (9, .bool false), (11, .pointer (sp c8)), (12, .int .i64 e1), (13, .pointer (sp a9)), (14, .pointer (sp a8)), (44, .agg ((ci d1) ++ ((cl b4 b5 b6) ++ ((cl b7 b8 b9) ++ ((ci d2) ++ ((cb d3) ++ (cl c0 c1 c2)))))).toArray), (45, .agg (iv .u8 c9 ++ ((ci d4) ++ ((cu d5) ++ ((cu d6) ++ ((cu d7) ++ (iv .u8 d0 ++ ((cu d8) ++ (cu d9)))))))).toArray), (46, .agg ((cu e2) ++ ((cu e3) ++ iv .u8 e0)).toArray), (47, .int .i64 g8)] ∧ (Pl f0 a6) ∧ (a0 = g4.length) ∧ (HRs a6 (f116 w) b0 g4) ∧ (Pl a6 b3) ∧ (HS w b3 b3 b4 b5 b6 (f145 w) i9) ∧ (HS w b3 b3 b7 b8 b9 (f145 w) j0) ∧ (HS w b3 b3 c0 c1 c2 (f160 w) j1) ∧ (c9.length = 32) ∧ (d0.length = 32) ∧ (e0.length = 32) ∧ St w w_ (oK a8 (z32) 0 0 0 0 (z32) 0 0 62 :: oM a9 0 none 0 0 none 0 0 0 false none 0 0 57 :: .sl a1 a2 a0 b0 116 2 :: .sl c3 c5 c4 c7 42 2 :: (b3 ++ c6))) ?_ (fun cont_5_6_12_13_d_131 => ?_)
  ·rintro _ ar3 ⟨a6, a1, a0, a2, b0, b3, b4, b5, b6, b7, b8, b9, c0, c1, c2, a9, a8, rfl, b2, e4, e5, e6, g9, h0, h1, e8, e9, f3, Y2⟩
   refine AWX.s1 14 rfl ?_
   refine WL.alloc Y2 zero60 ?_
   intro a7 ar4 N2
   refine WL.nil ?_
   refine AWX.back (fun _ => (St.subset f4 N2 (mc 4 rfl (mem_TR (A := [_, _, _, _, _]) (b2.trans e6).1)))) ?_
   exact AWX.to cont_5_6_12_13_14_d_131 ⟨a6, a1, a0, a2, b0, b3, b4, b5, b6, b7, b8, b9, c0, c1, c2, a9, a8, a7, rfl, b2, e4, e5, e6, g9, h0, h1, e8, e9, f3, N2⟩
  refine AWX.join (f2 := 5) (listed2 := #[true, true, true, true, true, true, true, true, true, true, true, true, true, false, true, false, false, false, false]) (fun l_ w_ => ∃ a6 a1 a0 a2 b0 b3 b4 b5 b6 b7 b8 b9 c0 c1 c2 a9 a7, l_ = [(0, .pointer (sp nB)), (6, .pointer (sp a3)), (7, .pointer (sp a4)), (8, .pointer (sp a5)), (9, .bool false), (11, .pointer (sp c8)), (12, .int .i64 e1), (13, .pointer (sp a9)), (15, .pointer (sp a7)), (44, .agg ((ci d1) ++ ((cl b4 b5 b6) ++ ((cl b7 b8 b9) ++ ((ci d2) ++ ((cb d3) ++ (cl c0 c1 c2)))))).toArray), (45, .agg (iv .u8 c9 ++ ((ci d4) ++ ((cu d5) ++ ((cu d6) ++ ((cu d7) ++ (iv .u8 d0 ++ ((cu d8) ++ (cu d9)))))))).toArray), (46, .agg ((cu e2) ++ ((cu e3) ++ iv .u8 e0)).toArray), (47, .int .i64 g8)] ∧ (Pl f0 a6) ∧ (a0 = g4.length) ∧ (HRs a6 (f116 w) b0 g4) ∧ (Pl a6 b3) ∧ (HS w b3 b3 b4 b5 b6 (f145 w) i9) ∧ (HS w b3 b3 b7 b8 b9 (f145 w) j0) ∧ (HS w b3 b3 c0 c1 c2 (f160 w) j1) ∧ (c9.length = 32) ∧ (d0.length = 32) ∧ (e0.length = 32) ∧ St w w_ (oS a7 0 0 (z32) 60 :: oM a9 0 none 0 0 none 0 0 0 false none 0 0 57 :: .sl a1 a2 a0 b0 116 2 :: .sl c3 c5 c4 c7 42 2 :: (b3 ++ c6))) ?_ (fun cont_5_6_12_14_d_131 => ?_)
  ·rintro _ ar5 ⟨a6, a1, a0, a2, b0, b3, b4, b5, b6, b7, b8, b9, c0, c1, c2, a9, a7, rfl, b2, e4, e5, e6, g9, h0, h1, e8, e9, f3, Y3⟩
   refine AWX.s1 13 rfl ?_
   refine WL.alloc Y3 zero62 ?_
   intro a8 ar6 N3
   refine WL.nil ?_
   refine AWX.back (fun _ => (St.subset f4 N3 (mc 4 rfl (mem_TR (A := [_, _, _, _, _]) (b2.trans e6).1)))) ?_
   exact AWX.to cont_5_6_12_13_14_d_131 ⟨a6, a1, a0, a2, b0, b3, b4, b5, b6, b7, b8, b9, c0, c1, c2, a9, a8, a7, rfl, b2, e4, e5, e6, g9, h0, h1, e8, e9, f3, ((St.pickT (L := [_, _, _, _, _]) N3 [1, 0, 2, 3, 4] (by decide)))⟩
  refine AWX.join (f2 := 5) (listed2 := #[true, true, true, true, true, true, true, true, true, true, true, true, false, true, true, false, false, false, false]) (fun l_ w_ => ∃ a6 a1 a0 a2 b0 b3 b4 b5 b6 b7 b8 b9 c0 c1 c2 a8 a7, l_ = [(0, .pointer (sp nB)), (6, .pointer (sp a3)), (7, .pointer (sp a4)), (8, .pointer (sp a5)), (9, .bool false), (11, .pointer (sp c8)), (12, .int .i64 e1), (14, .pointer (sp a8)), (15, .pointer (sp a7)), (44, .agg ((ci d1) ++ ((cl b4 b5 b6) ++ ((cl b7 b8 b9) ++ ((ci d2) ++ ((cb d3) ++ (cl c0 c1 c2)))))).toArray), (45, .agg (iv .u8 c9 ++ ((ci d4) ++ ((cu d5) ++ ((cu d6) ++ ((cu d7) ++ (iv .u8 d0 ++ ((cu d8) ++ (cu d9)))))))).toArray), (46, .agg ((cu e2) ++ ((cu e3) ++ iv .u8 e0)).toArray), (47, .int .i64 g8)] ∧ (Pl f0 a6) ∧ (a0 = g4.length) ∧ (HRs a6 (f116 w) b0 g4) ∧ (Pl a6 b3) ∧ (HS w b3 b3 b4 b5 b6 (f145 w) i9) ∧ (HS w b3 b3 b7 b8 b9 (f145 w) j0) ∧ (HS w b3 b3 c0 c1 c2 (f160 w) j1) ∧ (c9.length = 32) ∧ (d0.length = 32) ∧ (e0.length = 32) ∧ St w w_ (oS a7 0 0 (z32) 60 :: oK a8 (z32) 0 0 0 0 (z32) 0 0 62 :: .sl a1 a2 a0 b0 116 2 :: .sl c3 c5 c4 c7 42 2 :: (b3 ++ c6))) ?_ (fun cont_5_6_13_14_d_131 => ?_)
  ·rintro _ ar7 ⟨a6, a1, a0, a2, b0, b3, b4, b5, b6, b7, b8, b9, c0, c1, c2, a8, a7, rfl, b2, e4, e5, e6, g9, h0, h1, e8, e9, f3, Y4⟩
   refine AWX.s1 12 rfl ?_
   refine WL.alloc Y4 zero57 ?_
   intro a9 ar8 N4
   refine WL.nil ?_
   refine AWX.back (fun _ => (St.subset f4 N4 (mc 4 rfl (mem_TR (A := [_, _, _, _, _]) (b2.trans e6).1)))) ?_
   exact AWX.to cont_5_6_12_13_14_d_131 ⟨a6, a1, a0, a2, b0, b3, b4, b5, b6, b7, b8, b9, c0, c1, c2, a9, a8, a7, rfl, b2, e4, e5, e6, g9, h0, h1, e8, e9, f3, ((St.pickT (L := [_, _, _, _, _]) N4 [1, 2, 0, 3, 4] (by decide)))⟩
  refine AWX.join (f2 := 10) (listed2 := #[true, true, true, true, true, true, false, false, false, false, false, false, true, true, true, false, false, false, false]) (fun l_ w_ => ∃ a6 a1 a0 a2 b0 a9 a8 a7, l_ = [(0, .pointer (sp nB)), (6, .pointer (sp a3)), (7, .pointer (sp a4)), (8, .pointer (sp a5)), (9, .bool false), (11, .pointer (sp c8)), (12, .int .i64 e1), (13, .pointer (sp a9)), (14, .pointer (sp a8)), (15, .pointer (sp a7)), (38, .agg ((ci iH) ++ ((cl pD nI nJ) ++ ((cl pE nK nL) ++ ((ci iI) ++ ((cb bB) ++ (cl pF nM nN)))))).toArray), (40, .agg (iv .u8 lC ++ ((ci iJ) ++ ((cu iK) ++ ((cu iL) ++ ((cu iM) ++ (iv .u8 lD ++ ((cu iN) ++ (cu iO)))))))).toArray), (42, .slice a1 a0 a2)] ∧ (Pl f0 a6) ∧ (a0 = g4.length) ∧ (HRs a6 (f116 w) b0 g4) ∧ St w w_ (oS a7 0 0 (z32) 60 :: oK a8 (z32) 0 0 0 0 (z32) 0 0 62 :: oM a9 0 none 0 0 none 0 0 0 false none 0 0 57 :: .sl a1 a2 a0 b0 116 2 :: .sl c3 c5 c4 c7 42 2 :: (a6 ++ c6))) ?_ (fun cont_5_12_13_14_d_131 => ?_)
  ·rintro _ N5 ⟨a6, a1, a0, a2, b0, a9, a8, a7, rfl, b2, e4, e5, N6⟩
   refine AWX.s1 6 rfl ?_
   have Y5 := St.hide (A := []) (B := [_, _, _, _, _]) N6
   refine wC ent21 rfl (reliquaryref13_Append.calls a6 Y5 (aw2.mono ((f1.trans e7).trans b2).1 ((f1.trans e7).trans b2).1) (aw3.mono ((f1.trans e7).trans b2).1 ((f1.trans e7).trans b2).1) (aw4.mono ((f1.trans e7).trans b2).1 ((f1.trans e7).trans b2).1) av9 aw0 (HS.mk e4 (N6.cap (i := 3) rfl) (fun W_ L_ st hT => st.src_mem (hT _ (List.mem_append_right _ (List.mem_of_getElem? (i := 3) rfl)))) e5) s0) ?_
   rintro _ Y6 ⟨b3, b4, b5, b6, b7, b8, b9, c0, c1, c2, e6, g9, h0, h1, e8, e9, f3, rfl, Y7⟩
   have Y8 := St.unhide (A := []) (B := [_, _, _, _, _]) Y7; dsimp only [ec, en] at Y8
   refine ⟨_, rfl, WL.nil ?_⟩
   refine AWX.back (fun h_ => absurd h_ (by decide)) ?_
   refine AWX.tp 7 rfl (Runs.move rfl) ?_
   refine AWX.tp 8 rfl (Runs.extract rfl rfl) ?_
   refine AWX.tp 9 rfl (Runs.extract rfl rfl) ?_
   refine AWX.tp 10 rfl (Runs.extract rfl rfl) ?_
   refine AWX.tp 11 rfl (Runs.extract rfl rfl) ?_
   exact AWX.to cont_5_6_12_13_14_d_131 ⟨a6, a1, a0, a2, b0, b3, b4, b5, b6, b7, b8, b9, c0, c1, c2, a9, a8, a7, rfl, b2, e4, e5, e6, g9, h0, h1, e8, e9, f3, Y8⟩
  refine AWX.join (f2 := 6) (listed2 := #[true, true, true, true, true, true, true, true, true, true, true, true, true, false, false, false, false, false, false]) (fun l_ w_ => ∃ a6 a1 a0 a2 b0 b3 b4 b5 b6 b7 b8 b9 c0 c1 c2 a9, l_ = [(0, .pointer (sp nB)), (6, .pointer (sp a3)), (7, .pointer (sp a4)), (8, .pointer (sp a5)), (9, .bool false), (11, .pointer (sp c8)), (12, .int .i64 e1), (13, .pointer (sp a9)), (44, .agg ((ci d1) ++ ((cl b4 b5 b6) ++ ((cl b7 b8 b9) ++ ((ci d2) ++ ((cb d3) ++ (cl c0 c1 c2)))))).toArray), (45, .agg (iv .u8 c9 ++ ((ci d4) ++ ((cu d5) ++ ((cu d6) ++ ((cu d7) ++ (iv .u8 d0 ++ ((cu d8) ++ (cu d9)))))))).toArray), (46, .agg ((cu e2) ++ ((cu e3) ++ iv .u8 e0)).toArray), (47, .int .i64 g8)] ∧ (Pl f0 a6) ∧ (a0 = g4.length) ∧ (HRs a6 (f116 w) b0 g4) ∧ (Pl a6 b3) ∧ (HS w b3 b3 b4 b5 b6 (f145 w) i9) ∧ (HS w b3 b3 b7 b8 b9 (f145 w) j0) ∧ (HS w b3 b3 c0 c1 c2 (f160 w) j1) ∧ (c9.length = 32) ∧ (d0.length = 32) ∧ (e0.length = 32) ∧ St w w_ (oM a9 0 none 0 0 none 0 0 0 false none 0 0 57 :: .sl a1 a2 a0 b0 116 2 :: .sl c3 c5 c4 c7 42 2 :: (b3 ++ c6))) ?_ (fun cont_5_6_12_d_131 => ?_)
  ·rintro _ ar9 ⟨a6, a1, a0, a2, b0, b3, b4, b5, b6, b7, b8, b9, c0, c1, c2, a9, rfl, b2, e4, e5, e6, g9, h0, h1, e8, e9, f3, N7⟩
   refine AWX.steps [13, 14] (by kernel_rfl) (by decide) (List.forall_mem_cons.2 ⟨⟨_, rfl, ?_⟩, List.forall_mem_cons.2 ⟨⟨_, rfl, ?_⟩, fun _ h_ => by cases h_⟩⟩)
   ·refine WL.alloc N7 zero62 ?_
    intro a8 as0 N8
    refine WL.nil ?_
    refine AWX.back (fun _ => (St.subset f4 N8 (mc 3 rfl (mem_TR (A := [_, _, _, _]) (b2.trans e6).1)))) ?_
    exact AWX.to cont_5_6_12_13_d_131 ⟨a6, a1, a0, a2, b0, b3, b4, b5, b6, b7, b8, b9, c0, c1, c2, a9, a8, rfl, b2, e4, e5, e6, g9, h0, h1, e8, e9, f3, N8⟩
   refine WL.alloc N7 zero60 ?_
   intro a7 as1 N9
   refine WL.nil ?_
   refine AWX.back (fun _ => (St.subset f4 N9 (mc 3 rfl (mem_TR (A := [_, _, _, _]) (b2.trans e6).1)))) ?_
   exact AWX.to cont_5_6_12_14_d_131 ⟨a6, a1, a0, a2, b0, b3, b4, b5, b6, b7, b8, b9, c0, c1, c2, a9, a7, rfl, b2, e4, e5, e6, g9, h0, h1, e8, e9, f3, N9⟩
  refine AWX.join (f2 := 6) (listed2 := #[true, true, true, true, true, true, true, true, true, true, true, true, false, true, false, false, false, false, false]) (fun l_ w_ => ∃ a6 a1 a0 a2 b0 b3 b4 b5 b6 b7 b8 b9 c0 c1 c2 a8, l_ = [(0, .pointer (sp nB)), (6, .pointer (sp a3)), (7, .pointer (sp a4)), (8, .pointer (sp a5)), (9, .bool false), (11, .pointer (sp c8)), (12, .int .i64 e1), (14, .pointer (sp a8)), (44, .agg ((ci d1) ++ ((cl b4 b5 b6) ++ ((cl b7 b8 b9) ++ ((ci d2) ++ ((cb d3) ++ (cl c0 c1 c2)))))).toArray), (45, .agg (iv .u8 c9 ++ ((ci d4) ++ ((cu d5) ++ ((cu d6) ++ ((cu d7) ++ (iv .u8 d0 ++ ((cu d8) ++ (cu d9)))))))).toArray), (46, .agg ((cu e2) ++ ((cu e3) ++ iv .u8 e0)).toArray), (47, .int .i64 g8)] ∧ (Pl f0 a6) ∧ (a0 = g4.length) ∧ (HRs a6 (f116 w) b0 g4) ∧ (Pl a6 b3) ∧ (HS w b3 b3 b4 b5 b6 (f145 w) i9) ∧ (HS w b3 b3 b7 b8 b9 (f145 w) j0) ∧ (HS w b3 b3 c0 c1 c2 (f160 w) j1) ∧ (c9.length = 32) ∧ (d0.length = 32) ∧ (e0.length = 32) ∧ St w w_ (oK a8 (z32) 0 0 0 0 (z32) 0 0 62 :: .sl a1 a2 a0 b0 116 2 :: .sl c3 c5 c4 c7 42 2 :: (b3 ++ c6))) ?_ (fun cont_5_6_13_d_131 => ?_)
  ·rintro _ as2 ⟨a6, a1, a0, a2, b0, b3, b4, b5, b6, b7, b8, b9, c0, c1, c2, a8, rfl, b2, e4, e5, e6, g9, h0, h1, e8, e9, f3, O0⟩
   refine AWX.steps [12, 14] (by kernel_rfl) (by decide) (List.forall_mem_cons.2 ⟨⟨_, rfl, ?_⟩, List.forall_mem_cons.2 ⟨⟨_, rfl, ?_⟩, fun _ h_ => by cases h_⟩⟩)
   ·refine WL.alloc O0 zero57 ?_
    intro a9 as3 O1
    refine WL.nil ?_
    refine AWX.back (fun _ => (St.subset f4 O1 (mc 3 rfl (mem_TR (A := [_, _, _, _]) (b2.trans e6).1)))) ?_
    exact AWX.to cont_5_6_12_13_d_131 ⟨a6, a1, a0, a2, b0, b3, b4, b5, b6, b7, b8, b9, c0, c1, c2, a9, a8, rfl, b2, e4, e5, e6, g9, h0, h1, e8, e9, f3, ((St.pickT (L := [_, _, _, _]) O1 [1, 0, 2, 3] (by decide)))⟩
   refine WL.alloc O0 zero60 ?_
   intro a7 as4 O2
   refine WL.nil ?_
   refine AWX.back (fun _ => (St.subset f4 O2 (mc 3 rfl (mem_TR (A := [_, _, _, _]) (b2.trans e6).1)))) ?_
   exact AWX.to cont_5_6_13_14_d_131 ⟨a6, a1, a0, a2, b0, b3, b4, b5, b6, b7, b8, b9, c0, c1, c2, a8, a7, rfl, b2, e4, e5, e6, g9, h0, h1, e8, e9, f3, O2⟩
  refine AWX.join (f2 := 6) (listed2 := #[true, true, true, true, true, true, true, true, true, true, true, true, false, false, true, false, false, false, false]) (fun l_ w_ => ∃ a6 a1 a0 a2 b0 b3 b4 b5 b6 b7 b8 b9 c0 c1 c2 a7, l_ = [(0, .pointer (sp nB)), (6, .pointer (sp a3)), (7, .pointer (sp a4)), (8, .pointer (sp a5)), (9, .bool false), (11, .pointer (sp c8)), (12, .int .i64 e1), (15, .pointer (sp a7)), (44, .agg ((ci d1) ++ ((cl b4 b5 b6) ++ ((cl b7 b8 b9) ++ ((ci d2) ++ ((cb d3) ++ (cl c0 c1 c2)))))).toArray), (45, .agg (iv .u8 c9 ++ ((ci d4) ++ ((cu d5) ++ ((cu d6) ++ ((cu d7) ++ (iv .u8 d0 ++ ((cu d8) ++ (cu d9)))))))).toArray), (46, .agg ((cu e2) ++ ((cu e3) ++ iv .u8 e0)).toArray), (47, .int .i64 g8)] ∧ (Pl f0 a6) ∧ (a0 = g4.length) ∧ (HRs a6 (f116 w) b0 g4) ∧ (Pl a6 b3) ∧ (HS w b3 b3 b4 b5 b6 (f145 w) i9) ∧ (HS w b3 b3 b7 b8 b9 (f145 w) j0) ∧ (HS w b3 b3 c0 c1 c2 (f160 w) j1) ∧ (c9.length = 32) ∧ (d0.length = 32) ∧ (e0.length = 32) ∧ St w w_ (oS a7 0 0 (z32) 60 :: .sl a1 a2 a0 b0 116 2 :: .sl c3 c5 c4 c7 42 2 :: (b3 ++ c6))) ?_ (fun cont_5_6_14_d_131 => ?_)
  ·rintro _ as5 ⟨a6, a1, a0, a2, b0, b3, b4, b5, b6, b7, b8, b9, c0, c1, c2, a7, rfl, b2, e4, e5, e6, g9, h0, h1, e8, e9, f3, O3⟩
   refine AWX.steps [12, 13] (by kernel_rfl) (by decide) (List.forall_mem_cons.2 ⟨⟨_, rfl, ?_⟩, List.forall_mem_cons.2 ⟨⟨_, rfl, ?_⟩, fun _ h_ => by cases h_⟩⟩)
   ·refine WL.alloc O3 zero57 ?_
    intro a9 as6 O4
    refine WL.nil ?_
    refine AWX.back (fun _ => (St.subset f4 O4 (mc 3 rfl (mem_TR (A := [_, _, _, _]) (b2.trans e6).1)))) ?_
    exact AWX.to cont_5_6_12_14_d_131 ⟨a6, a1, a0, a2, b0, b3, b4, b5, b6, b7, b8, b9, c0, c1, c2, a9, a7, rfl, b2, e4, e5, e6, g9, h0, h1, e8, e9, f3, ((St.pickT (L := [_, _, _, _]) O4 [1, 0, 2, 3] (by decide)))⟩
   refine WL.alloc O3 zero62 ?_
   intro a8 as7 O5
   refine WL.nil ?_
   refine AWX.back (fun _ => (St.subset f4 O5 (mc 3 rfl (mem_TR (A := [_, _, _, _]) (b2.trans e6).1)))) ?_
   exact AWX.to cont_5_6_13_14_d_131 ⟨a6, a1, a0, a2, b0, b3, b4, b5, b6, b7, b8, b9, c0, c1, c2, a8, a7, rfl, b2, e4, e5, e6, g9, h0, h1, e8, e9, f3, ((St.pickT (L := [_, _, _, _]) O5 [1, 0, 2, 3] (by decide)))⟩
  refine AWX.join (f2 := 11) (listed2 := #[true, true, true, true, true, true, false, false, false, false, false, false, true, true, false, false, false, false, false]) (fun l_ w_ => ∃ a6 a1 a0 a2 b0 a9 a8, l_ = [(0, .pointer (sp nB)), (6, .pointer (sp a3)), (7, .pointer (sp a4)), (8, .pointer (sp a5)), (9, .bool false), (11, .pointer (sp c8)), (12, .int .i64 e1), (13, .pointer (sp a9)), (14, .pointer (sp a8)), (38, .agg ((ci iH) ++ ((cl pD nI nJ) ++ ((cl pE nK nL) ++ ((ci iI) ++ ((cb bB) ++ (cl pF nM nN)))))).toArray), (40, .agg (iv .u8 lC ++ ((ci iJ) ++ ((cu iK) ++ ((cu iL) ++ ((cu iM) ++ (iv .u8 lD ++ ((cu iN) ++ (cu iO)))))))).toArray), (42, .slice a1 a0 a2)] ∧ (Pl f0 a6) ∧ (a0 = g4.length) ∧ (HRs a6 (f116 w) b0 g4) ∧ St w w_ (oK a8 (z32) 0 0 0 0 (z32) 0 0 62 :: oM a9 0 none 0 0 none 0 0 0 false none 0 0 57 :: .sl a1 a2 a0 b0 116 2 :: .sl c3 c5 c4 c7 42 2 :: (a6 ++ c6))) ?_ (fun cont_5_12_13_d_131 => ?_)
  ·rintro _ O6 ⟨a6, a1, a0, a2, b0, a9, a8, rfl, b2, e4, e5, K0⟩
   refine AWX.steps [6, 14] (by kernel_rfl) (by decide) (List.forall_mem_cons.2 ⟨⟨_, rfl, ?_⟩, List.forall_mem_cons.2 ⟨⟨_, rfl, ?_⟩, fun _ h_ => by cases h_⟩⟩)
   ·have Y9 := St.hide (A := []) (B := [_, _, _, _]) K0
    refine wC ent21 rfl (reliquaryref13_Append.calls a6 Y9 (aw2.mono ((f1.trans e7).trans b2).1 ((f1.trans e7).trans b2).1) (aw3.mono ((f1.trans e7).trans b2).1 ((f1.trans e7).trans b2).1) (aw4.mono ((f1.trans e7).trans b2).1 ((f1.trans e7).trans b2).1) av9 aw0 (HS.mk e4 (K0.cap (i := 2) rfl) (fun W_ L_ st hT => st.src_mem (hT _ (List.mem_append_right _ (List.mem_of_getElem? (i := 2) rfl)))) e5) s0) ?_
    rintro _ Z0 ⟨b3, b4, b5, b6, b7, b8, b9, c0, c1, c2, e6, g9, h0, h1, e8, e9, f3, rfl, Z1⟩
    have Z2 := St.unhide (A := []) (B := [_, _, _, _]) Z1; dsimp only [ec, en] at Z2
    refine ⟨_, rfl, WL.nil ?_⟩
    refine AWX.back (fun h_ => absurd h_ (by decide)) ?_
    refine AWX.tp 7 rfl (Runs.move rfl) ?_
    refine AWX.tp 8 rfl (Runs.extract rfl rfl) ?_
    refine AWX.tp 9 rfl (Runs.extract rfl rfl) ?_
    refine AWX.tp 10 rfl (Runs.extract rfl rfl) ?_
    refine AWX.tp 11 rfl (Runs.extract rfl rfl) ?_
    exact AWX.to cont_5_6_12_13_d_131 ⟨a6, a1, a0, a2, b0, b3, b4, b5, b6, b7, b8, b9, c0, c1, c2, a9, a8, rfl, b2, e4, e5, e6, g9, h0, h1, e8, e9, f3, Z2⟩
   refine WL.alloc K0 zero60 ?_
   intro a7 as8 O7
   refine WL.nil ?_
   refine AWX.back (fun _ => (St.subset f4 O7 (mc 4 rfl (mem_TR (A := [_, _, _, _, _]) b2.1)))) ?_
   exact AWX.to cont_5_12_13_14_d_131 ⟨a6, a1, a0, a2, b0, a9, a8, a7, rfl, b2, e4, e5, O7⟩
  refine AWX.join (f2 := 11) (listed2 := #[true, true, true, true, true, true, false, false, false, false, false, false, true, false, true, false, false, false, false]) (fun l_ w_ => ∃ a6 a1 a0 a2 b0 a9 a7, l_ = [(0, .pointer (sp nB)), (6, .pointer (sp a3)), (7, .pointer (sp a4)), (8, .pointer (sp a5)), (9, .bool false), (11, .pointer (sp c8)), (12, .int .i64 e1), (13, .pointer (sp a9)), (15, .pointer (sp a7)), (38, .agg ((ci iH) ++ ((cl pD nI nJ) ++ ((cl pE nK nL) ++ ((ci iI) ++ ((cb bB) ++ (cl pF nM nN)))))).toArray), (40, .agg (iv .u8 lC ++ ((ci iJ) ++ ((cu iK) ++ ((cu iL) ++ ((cu iM) ++ (iv .u8 lD ++ ((cu iN) ++ (cu iO)))))))).toArray), (42, .slice a1 a0 a2)] ∧ (Pl f0 a6) ∧ (a0 = g4.length) ∧ (HRs a6 (f116 w) b0 g4) ∧ St w w_ (oS a7 0 0 (z32) 60 :: oM a9 0 none 0 0 none 0 0 0 false none 0 0 57 :: .sl a1 a2 a0 b0 116 2 :: .sl c3 c5 c4 c7 42 2 :: (a6 ++ c6))) ?_ (fun cont_5_12_14_d_131 => ?_)
  ·rintro _ O8 ⟨a6, a1, a0, a2, b0, a9, a7, rfl, b2, e4, e5, K1⟩
   refine AWX.steps [6, 13] (by kernel_rfl) (by decide) (List.forall_mem_cons.2 ⟨⟨_, rfl, ?_⟩, List.forall_mem_cons.2 ⟨⟨_, rfl, ?_⟩, fun _ h_ => by cases h_⟩⟩)
   ·have Z3 := St.hide (A := []) (B := [_, _, _, _]) K1
    refine wC ent21 rfl (reliquaryref13_Append.calls a6 Z3 (aw2.mono ((f1.trans e7).trans b2).1 ((f1.trans e7).trans b2).1) (aw3.mono ((f1.trans e7).trans b2).1 ((f1.trans e7).trans b2).1) (aw4.mono ((f1.trans e7).trans b2).1 ((f1.trans e7).trans b2).1) av9 aw0 (HS.mk e4 (K1.cap (i := 2) rfl) (fun W_ L_ st hT => st.src_mem (hT _ (List.mem_append_right _ (List.mem_of_getElem? (i := 2) rfl)))) e5) s0) ?_
    rintro _ Z4 ⟨b3, b4, b5, b6, b7, b8, b9, c0, c1, c2, e6, g9, h0, h1, e8, e9, f3, rfl, Z5⟩
    have Z6 := St.unhide (A := []) (B := [_, _, _, _]) Z5; dsimp only [ec, en] at Z6
    refine ⟨_, rfl, WL.nil ?_⟩
    refine AWX.back (fun h_ => absurd h_ (by decide)) ?_
    refine AWX.tp 7 rfl (Runs.move rfl) ?_
    refine AWX.tp 8 rfl (Runs.extract rfl rfl) ?_
    refine AWX.tp 9 rfl (Runs.extract rfl rfl) ?_
    refine AWX.tp 10 rfl (Runs.extract rfl rfl) ?_
    refine AWX.tp 11 rfl (Runs.extract rfl rfl) ?_
    exact AWX.to cont_5_6_12_14_d_131 ⟨a6, a1, a0, a2, b0, b3, b4, b5, b6, b7, b8, b9, c0, c1, c2, a9, a7, rfl, b2, e4, e5, e6, g9, h0, h1, e8, e9, f3, Z6⟩
   refine WL.alloc K1 zero62 ?_
   intro a8 as9 O9
   refine WL.nil ?_
   refine AWX.back (fun _ => (St.subset f4 O9 (mc 4 rfl (mem_TR (A := [_, _, _, _, _]) b2.1)))) ?_
   exact AWX.to cont_5_12_13_14_d_131 ⟨a6, a1, a0, a2, b0, a9, a8, a7, rfl, b2, e4, e5, ((St.pickT (L := [_, _, _, _, _]) O9 [1, 0, 2, 3, 4] (by decide)))⟩
  refine AWX.join (f2 := 11) (listed2 := #[true, true, true, true, true, true, false, false, false, false, false, false, false, true, true, false, false, false, false]) (fun l_ w_ => ∃ a6 a1 a0 a2 b0 a8 a7, l_ = [(0, .pointer (sp nB)), (6, .pointer (sp a3)), (7, .pointer (sp a4)), (8, .pointer (sp a5)), (9, .bool false), (11, .pointer (sp c8)), (12, .int .i64 e1), (14, .pointer (sp a8)), (15, .pointer (sp a7)), (38, .agg ((ci iH) ++ ((cl pD nI nJ) ++ ((cl pE nK nL) ++ ((ci iI) ++ ((cb bB) ++ (cl pF nM nN)))))).toArray), (40, .agg (iv .u8 lC ++ ((ci iJ) ++ ((cu iK) ++ ((cu iL) ++ ((cu iM) ++ (iv .u8 lD ++ ((cu iN) ++ (cu iO)))))))).toArray), (42, .slice a1 a0 a2)] ∧ (Pl f0 a6) ∧ (a0 = g4.length) ∧ (HRs a6 (f116 w) b0 g4) ∧ St w w_ (oS a7 0 0 (z32) 60 :: oK a8 (z32) 0 0 0 0 (z32) 0 0 62 :: .sl a1 a2 a0 b0 116 2 :: .sl c3 c5 c4 c7 42 2 :: (a6 ++ c6))) ?_ (fun cont_5_13_14_d_131 => ?_)
  ·rintro _ P0 ⟨a6, a1, a0, a2, b0, a8, a7, rfl, b2, e4, e5, K2⟩
   refine AWX.steps [6, 12] (by kernel_rfl) (by decide) (List.forall_mem_cons.2 ⟨⟨_, rfl, ?_⟩, List.forall_mem_cons.2 ⟨⟨_, rfl, ?_⟩, fun _ h_ => by cases h_⟩⟩)
   ·have Z7 := St.hide (A := []) (B := [_, _, _, _]) K2
    refine wC ent21 rfl (reliquaryref13_Append.calls a6 Z7 (aw2.mono ((f1.trans e7).trans b2).1 ((f1.trans e7).trans b2).1) (aw3.mono ((f1.trans e7).trans b2).1 ((f1.trans e7).trans b2).1) (aw4.mono ((f1.trans e7).trans b2).1 ((f1.trans e7).trans b2).1) av9 aw0 (HS.mk e4 (K2.cap (i := 2) rfl) (fun W_ L_ st hT => st.src_mem (hT _ (List.mem_append_right _ (List.mem_of_getElem? (i := 2) rfl)))) e5) s0) ?_
    rintro _ Z8 ⟨b3, b4, b5, b6, b7, b8, b9, c0, c1, c2, e6, g9, h0, h1, e8, e9, f3, rfl, Z9⟩
    have aa0 := St.unhide (A := []) (B := [_, _, _, _]) Z9; dsimp only [ec, en] at aa0
    refine ⟨_, rfl, WL.nil ?_⟩
    refine AWX.back (fun h_ => absurd h_ (by decide)) ?_
    refine AWX.tp 7 rfl (Runs.move rfl) ?_
    refine AWX.tp 8 rfl (Runs.extract rfl rfl) ?_
    refine AWX.tp 9 rfl (Runs.extract rfl rfl) ?_
    refine AWX.tp 10 rfl (Runs.extract rfl rfl) ?_
    refine AWX.tp 11 rfl (Runs.extract rfl rfl) ?_
    exact AWX.to cont_5_6_13_14_d_131 ⟨a6, a1, a0, a2, b0, b3, b4, b5, b6, b7, b8, b9, c0, c1, c2, a8, a7, rfl, b2, e4, e5, e6, g9, h0, h1, e8, e9, f3, aa0⟩
   refine WL.alloc K2 zero57 ?_
   intro a9 at0 P1
   refine WL.nil ?_
   refine AWX.back (fun _ => (St.subset f4 P1 (mc 4 rfl (mem_TR (A := [_, _, _, _, _]) b2.1)))) ?_
   exact AWX.to cont_5_12_13_14_d_131 ⟨a6, a1, a0, a2, b0, a9, a8, a7, rfl, b2, e4, e5, ((St.pickT (L := [_, _, _, _, _]) P1 [1, 2, 0, 3, 4] (by decide)))⟩
  refine AWX.join (f2 := 11) (listed2 := #[true, true, true, true, true, false, false, false, false, false, false, false, true, true, true, false, false, false, false]) (fun l_ w_ => ∃ a9 a8 a7, l_ = [(0, .pointer (sp nB)), (6, .pointer (sp a3)), (7, .pointer (sp a4)), (8, .pointer (sp a5)), (9, .bool false), (11, .pointer (sp c8)), (12, .int .i64 e1), (13, .pointer (sp a9)), (14, .pointer (sp a8)), (15, .pointer (sp a7)), (38, .agg ((ci iH) ++ ((cl pD nI nJ) ++ ((cl pE nK nL) ++ ((ci iI) ++ ((cb bB) ++ (cl pF nM nN)))))).toArray), (40, .agg (iv .u8 lC ++ ((ci iJ) ++ ((cu iK) ++ ((cu iL) ++ ((cu iM) ++ (iv .u8 lD ++ ((cu iN) ++ (cu iO)))))))).toArray), (41, .slice c3 c4 c5)] ∧ St w w_ (oS a7 0 0 (z32) 60 :: oK a8 (z32) 0 0 0 0 (z32) 0 0 62 :: oM a9 0 none 0 0 none 0 0 0 false none 0 0 57 :: .sl c3 c5 c4 c7 42 2 :: (f0 ++ c6))) ?_ (fun cont_12_13_14_d_131 => ?_)
  ·rintro _ P2 ⟨a9, a8, a7, rfl, P3⟩
   refine AWX.s1 5 rfl ?_
   have aa1 := St.hide (A := []) (B := [_, _, _, _]) P3
   refine wC ent22 rfl (reliquarylaw13_modelOf.calls f0 aa1 (HS.mk m0 (P3.cap (i := 3) rfl) (fun W_ L_ st hT => st.src_mem (hT _ (List.mem_append_right _ (List.mem_of_getElem? (i := 3) rfl)))) (m1.mono e7.1)) r9) ?_
   rintro _ aa2 ⟨a6, a1, a0, a2, b0, b2, e4, e5, rfl, aa3⟩
   have P4 := St.unhide (A := [_]) (B := [_, _, _, _]) aa3; dsimp only [ec, en] at P4
   refine ⟨_, rfl, WL.nil ?_⟩
   refine AWX.back (fun _ => (St.subset f4 P4 (mc 4 rfl (mem_TR (A := [_, _, _, _, _]) b2.1)))) ?_
   exact AWX.to cont_5_12_13_14_d_131 ⟨a6, a1, a0, a2, b0, a9, a8, a7, rfl, b2, e4, e5, ((St.pickT (L := [_, _, _, _, _]) P4 [1, 2, 3, 0, 4] (by decide)))⟩
  refine AWX.join (f2 := 7) (listed2 := #[true, true, true, true, true, true, true, true, true, true, true, true, false, false, false, false, false, false, false]) (fun l_ w_ => ∃ a6 a1 a0 a2 b0 b3 b4 b5 b6 b7 b8 b9 c0 c1 c2, l_ = [(0, .pointer (sp nB)), (6, .pointer (sp a3)), (7, .pointer (sp a4)), (8, .pointer (sp a5)), (9, .bool false), (11, .pointer (sp c8)), (12, .int .i64 e1), (44, .agg ((ci d1) ++ ((cl b4 b5 b6) ++ ((cl b7 b8 b9) ++ ((ci d2) ++ ((cb d3) ++ (cl c0 c1 c2)))))).toArray), (45, .agg (iv .u8 c9 ++ ((ci d4) ++ ((cu d5) ++ ((cu d6) ++ ((cu d7) ++ (iv .u8 d0 ++ ((cu d8) ++ (cu d9)))))))).toArray), (46, .agg ((cu e2) ++ ((cu e3) ++ iv .u8 e0)).toArray), (47, .int .i64 g8)] ∧ (Pl f0 a6) ∧ (a0 = g4.length) ∧ (HRs a6 (f116 w) b0 g4) ∧ (Pl a6 b3) ∧ (HS w b3 b3 b4 b5 b6 (f145 w) i9) ∧ (HS w b3 b3 b7 b8 b9 (f145 w) j0) ∧ (HS w b3 b3 c0 c1 c2 (f160 w) j1) ∧ (c9.length = 32) ∧ (d0.length = 32) ∧ (e0.length = 32) ∧ St w w_ (.sl a1 a2 a0 b0 116 2 :: .sl c3 c5 c4 c7 42 2 :: (b3 ++ c6))) ?_ (fun cont_5_6_d_131 => ?_)
  ·rintro _ at1 ⟨a6, a1, a0, a2, b0, b3, b4, b5, b6, b7, b8, b9, c0, c1, c2, rfl, b2, e4, e5, e6, g9, h0, h1, e8, e9, f3, K3⟩
   refine AWX.steps [12, 13, 14] (by kernel_rfl) (by decide) (List.forall_mem_cons.2 ⟨⟨_, rfl, ?_⟩, List.forall_mem_cons.2 ⟨⟨_, rfl, ?_⟩, List.forall_mem_cons.2 ⟨⟨_, rfl, ?_⟩, fun _ h_ => by cases h_⟩⟩⟩)
   ·refine WL.alloc K3 zero57 ?_
    intro a9 at2 P5
    refine WL.nil ?_
    refine AWX.back (fun _ => (St.subset f4 P5 (mc 2 rfl (mem_TR (A := [_, _, _]) (b2.trans e6).1)))) ?_
    exact AWX.to cont_5_6_12_d_131 ⟨a6, a1, a0, a2, b0, b3, b4, b5, b6, b7, b8, b9, c0, c1, c2, a9, rfl, b2, e4, e5, e6, g9, h0, h1, e8, e9, f3, P5⟩
   ·refine WL.alloc K3 zero62 ?_
    intro a8 at3 P6
    refine WL.nil ?_
    refine AWX.back (fun _ => (St.subset f4 P6 (mc 2 rfl (mem_TR (A := [_, _, _]) (b2.trans e6).1)))) ?_
    exact AWX.to cont_5_6_13_d_131 ⟨a6, a1, a0, a2, b0, b3, b4, b5, b6, b7, b8, b9, c0, c1, c2, a8, rfl, b2, e4, e5, e6, g9, h0, h1, e8, e9, f3, P6⟩
   refine WL.alloc K3 zero60 ?_
   intro a7 at4 P7
   refine WL.nil ?_
   refine AWX.back (fun _ => (St.subset f4 P7 (mc 2 rfl (mem_TR (A := [_, _, _]) (b2.trans e6).1)))) ?_
   exact AWX.to cont_5_6_14_d_131 ⟨a6, a1, a0, a2, b0, b3, b4, b5, b6, b7, b8, b9, c0, c1, c2, a7, rfl, b2, e4, e5, e6, g9, h0, h1, e8, e9, f3, P7⟩
  refine AWX.join (f2 := 12) (listed2 := #[true, true, true, true, true, true, false, false, false, false, false, false, true, false, false, false, false, false, false]) (fun l_ w_ => ∃ a6 a1 a0 a2 b0 a9, l_ = [(0, .pointer (sp nB)), (6, .pointer (sp a3)), (7, .pointer (sp a4)), (8, .pointer (sp a5)), (9, .bool false), (11, .pointer (sp c8)), (12, .int .i64 e1), (13, .pointer (sp a9)), (38, .agg ((ci iH) ++ ((cl pD nI nJ) ++ ((cl pE nK nL) ++ ((ci iI) ++ ((cb bB) ++ (cl pF nM nN)))))).toArray), (40, .agg (iv .u8 lC ++ ((ci iJ) ++ ((cu iK) ++ ((cu iL) ++ ((cu iM) ++ (iv .u8 lD ++ ((cu iN) ++ (cu iO)))))))).toArray), (42, .slice a1 a0 a2)] ∧ (Pl f0 a6) ∧ (a0 = g4.length) ∧ (HRs a6 (f116 w) b0 g4) ∧ St w w_ (oM a9 0 none 0 0 none 0 0 0 false none 0 0 57 :: .sl a1 a2 a0 b0 116 2 :: .sl c3 c5 c4 c7 42 2 :: (a6 ++ c6))) ?_ (fun cont_5_12_d_131 => ?_)
  ·rintro _ P8 ⟨a6, a1, a0, a2, b0, a9, rfl, b2, e4, e5, D8⟩
   refine AWX.steps [6, 13, 14] (by kernel_rfl) (by decide) (List.forall_mem_cons.2 ⟨⟨_, rfl, ?_⟩, List.forall_mem_cons.2 ⟨⟨_, rfl, ?_⟩, List.forall_mem_cons.2 ⟨⟨_, rfl, ?_⟩, fun _ h_ => by cases h_⟩⟩⟩)
   ·have aa4 := St.hide (A := []) (B := [_, _, _]) D8
    refine wC ent21 rfl (reliquaryref13_Append.calls a6 aa4 (aw2.mono ((f1.trans e7).trans b2).1 ((f1.trans e7).trans b2).1) (aw3.mono ((f1.trans e7).trans b2).1 ((f1.trans e7).trans b2).1) (aw4.mono ((f1.trans e7).trans b2).1 ((f1.trans e7).trans b2).1) av9 aw0 (HS.mk e4 (D8.cap (i := 1) rfl) (fun W_ L_ st hT => st.src_mem (hT _ (List.mem_append_right _ (List.mem_of_getElem? (i := 1) rfl)))) e5) s0) ?_
    rintro _ aa5 ⟨b3, b4, b5, b6, b7, b8, b9, c0, c1, c2, e6, g9, h0, h1, e8, e9, f3, rfl, aa6⟩
    have aa7 := St.unhide (A := []) (B := [_, _, _]) aa6; dsimp only [ec, en] at aa7
    refine ⟨_, rfl, WL.nil ?_⟩
    refine AWX.back (fun h_ => absurd h_ (by decide)) ?_
    refine AWX.tp 7 rfl (Runs.move rfl) ?_
    refine AWX.tp 8 rfl (Runs.extract rfl rfl) ?_
    refine AWX.tp 9 rfl (Runs.extract rfl rfl) ?_
    refine AWX.tp 10 rfl (Runs.extract rfl rfl) ?_
    refine AWX.tp 11 rfl (Runs.extract rfl rfl) ?_
    exact AWX.to cont_5_6_12_d_131 ⟨a6, a1, a0, a2, b0, b3, b4, b5, b6, b7, b8, b9, c0, c1, c2, a9, rfl, b2, e4, e5, e6, g9, h0, h1, e8, e9, f3, aa7⟩
   ·refine WL.alloc D8 zero62 ?_
    intro a8 at5 P9
    refine WL.nil ?_
    refine AWX.back (fun _ => (St.subset f4 P9 (mc 3 rfl (mem_TR (A := [_, _, _, _]) b2.1)))) ?_
    exact AWX.to cont_5_12_13_d_131 ⟨a6, a1, a0, a2, b0, a9, a8, rfl, b2, e4, e5, P9⟩
   refine WL.alloc D8 zero60 ?_
   intro a7 at6 Q0
   refine WL.nil ?_
   refine AWX.back (fun _ => (St.subset f4 Q0 (mc 3 rfl (mem_TR (A := [_, _, _, _]) b2.1)))) ?_
   exact AWX.to cont_5_12_14_d_131 ⟨a6, a1, a0, a2, b0, a9, a7, rfl, b2, e4, e5, Q0⟩
  refine AWX.join (f2 := 12) (listed2 := #[true, true, true, true, true, true, false, false, false, false, false, false, false, true, false, false, false, false, false]) (fun l_ w_ => ∃ a6 a1 a0 a2 b0 a8, l_ = [(0, .pointer (sp nB)), (6, .pointer (sp a3)), (7, .pointer (sp a4)), (8, .pointer (sp a5)), (9, .bool false), (11, .pointer (sp c8)), (12, .int .i64 e1), (14, .pointer (sp a8)), (38, .agg ((ci iH) ++ ((cl pD nI nJ) ++ ((cl pE nK nL) ++ ((ci iI) ++ ((cb bB) ++ (cl pF nM nN)))))).toArray), (40, .agg (iv .u8 lC ++ ((ci iJ) ++ ((cu iK) ++ ((cu iL) ++ ((cu iM) ++ (iv .u8 lD ++ ((cu iN) ++ (cu iO)))))))).toArray), (42, .slice a1 a0 a2)] ∧ (Pl f0 a6) ∧ (a0 = g4.length) ∧ (HRs a6 (f116 w) b0 g4) ∧ St w w_ (oK a8 (z32) 0 0 0 0 (z32) 0 0 62 :: .sl a1 a2 a0 b0 116 2 :: .sl c3 c5 c4 c7 42 2 :: (a6 ++ c6))) ?_ (fun cont_5_13_d_131 => ?_)
  ·rintro _ Q1 ⟨a6, a1, a0, a2, b0, a8, rfl, b2, e4, e5, D9⟩
   refine AWX.steps [6, 12, 14] (by kernel_rfl) (by decide) (List.forall_mem_cons.2 ⟨⟨_, rfl, ?_⟩, List.forall_mem_cons.2 ⟨⟨_, rfl, ?_⟩, List.forall_mem_cons.2 ⟨⟨_, rfl, ?_⟩, fun _ h_ => by cases h_⟩⟩⟩)
   ·have aa8 := St.hide (A := []) (B := [_, _, _]) D9
    refine wC ent21 rfl (reliquaryref13_Append.calls a6 aa8 (aw2.mono ((f1.trans e7).trans b2).1 ((f1.trans e7).trans b2).1) (aw3.mono ((f1.trans e7).trans b2).1 ((f1.trans e7).trans b2).1) (aw4.mono ((f1.trans e7).trans b2).1 ((f1.trans e7).trans b2).1) av9 aw0 (HS.mk e4 (D9.cap (i := 1) rfl) (fun W_ L_ st hT => st.src_mem (hT _ (List.mem_append_right _ (List.mem_of_getElem? (i := 1) rfl)))) e5) s0) ?_
    rintro _ aa9 ⟨b3, b4, b5, b6, b7, b8, b9, c0, c1, c2, e6, g9, h0, h1, e8, e9, f3, rfl, ab0⟩
    have ab1 := St.unhide (A := []) (B := [_, _, _]) ab0; dsimp only [ec, en] at ab1
    refine ⟨_, rfl, WL.nil ?_⟩
    refine AWX.back (fun h_ => absurd h_ (by decide)) ?_
    refine AWX.tp 7 rfl (Runs.move rfl) ?_
    refine AWX.tp 8 rfl (Runs.extract rfl rfl) ?_
    refine AWX.tp 9 rfl (Runs.extract rfl rfl) ?_
    refine AWX.tp 10 rfl (Runs.extract rfl rfl) ?_
    refine AWX.tp 11 rfl (Runs.extract rfl rfl) ?_
    exact AWX.to cont_5_6_13_d_131 ⟨a6, a1, a0, a2, b0, b3, b4, b5, b6, b7, b8, b9, c0, c1, c2, a8, rfl, b2, e4, e5, e6, g9, h0, h1, e8, e9, f3, ab1⟩
   ·refine WL.alloc D9 zero57 ?_
    intro a9 at7 Q2
    refine WL.nil ?_
    refine AWX.back (fun _ => (St.subset f4 Q2 (mc 3 rfl (mem_TR (A := [_, _, _, _]) b2.1)))) ?_
    exact AWX.to cont_5_12_13_d_131 ⟨a6, a1, a0, a2, b0, a9, a8, rfl, b2, e4, e5, ((St.pickT (L := [_, _, _, _]) Q2 [1, 0, 2, 3] (by decide)))⟩
   refine WL.alloc D9 zero60 ?_
   intro a7 at8 Q3
   refine WL.nil ?_
   refine AWX.back (fun _ => (St.subset f4 Q3 (mc 3 rfl (mem_TR (A := [_, _, _, _]) b2.1)))) ?_
   exact AWX.to cont_5_13_14_d_131 ⟨a6, a1, a0, a2, b0, a8, a7, rfl, b2, e4, e5, Q3⟩
  refine AWX.join (f2 := 12) (listed2 := #[true, true, true, true, true, true, false, false, false, false, false, false, false, false, true, false, false, false, false]) (fun l_ w_ => ∃ a6 a1 a0 a2 b0 a7, l_ = [(0, .pointer (sp nB)), (6, .pointer (sp a3)), (7, .pointer (sp a4)), (8, .pointer (sp a5)), (9, .bool false), (11, .pointer (sp c8)), (12, .int .i64 e1), (15, .pointer (sp a7)), (38, .agg ((ci iH) ++ ((cl pD nI nJ) ++ ((cl pE nK nL) ++ ((ci iI) ++ ((cb bB) ++ (cl pF nM nN)))))).toArray), (40, .agg (iv .u8 lC ++ ((ci iJ) ++ ((cu iK) ++ ((cu iL) ++ ((cu iM) ++ (iv .u8 lD ++ ((cu iN) ++ (cu iO)))))))).toArray), (42, .slice a1 a0 a2)] ∧ (Pl f0 a6) ∧ (a0 = g4.length) ∧ (HRs a6 (f116 w) b0 g4) ∧ St w w_ (oS a7 0 0 (z32) 60 :: .sl a1 a2 a0 b0 116 2 :: .sl c3 c5 c4 c7 42 2 :: (a6 ++ c6))) ?_ (fun cont_5_14_d_131 => ?_)
  ·rintro _ Q4 ⟨a6, a1, a0, a2, b0, a7, rfl, b2, e4, e5, E0⟩
   refine AWX.steps [6, 12, 13] (by kernel_rfl) (by decide) (List.forall_mem_cons.2 ⟨⟨_, rfl, ?_⟩, List.forall_mem_cons.2 ⟨⟨_, rfl, ?_⟩, List.forall_mem_cons.2 ⟨⟨_, rfl, ?_⟩, fun _ h_ => by cases h_⟩⟩⟩)
   ·have ab2 := St.hide (A := []) (B := [_, _, _]) E0
    refine wC ent21 rfl (reliquaryref13_Append.calls a6 ab2 (aw2.mono ((f1.trans e7).trans b2).1 ((f1.trans e7).trans b2).1) (aw3.mono ((f1.trans e7).trans b2).1 ((f1.trans e7).trans b2).1) (aw4.mono ((f1.trans e7).trans b2).1 ((f1.trans e7).trans b2).1) av9 aw0 (HS.mk e4 (E0.cap (i := 1) rfl) (fun W_ L_ st hT => st.src_mem (hT _ (List.mem_append_right _ (List.mem_of_getElem? (i := 1) rfl)))) e5) s0) ?_
    rintro _ ab3 ⟨b3, b4, b5, b6, b7, b8, b9, c0, c1, c2, e6, g9, h0, h1, e8, e9, f3, rfl, ab4⟩
    have ab5 := St.unhide (A := []) (B := [_, _, _]) ab4; dsimp only [ec, en] at ab5
    refine ⟨_, rfl, WL.nil ?_⟩
    refine AWX.back (fun h_ => absurd h_ (by decide)) ?_
    refine AWX.tp 7 rfl (Runs.move rfl) ?_
    refine AWX.tp 8 rfl (Runs.extract rfl rfl) ?_
    refine AWX.tp 9 rfl (Runs.extract rfl rfl) ?_
    refine AWX.tp 10 rfl (Runs.extract rfl rfl) ?_
    refine AWX.tp 11 rfl (Runs.extract rfl rfl) ?_
    exact AWX.to cont_5_6_14_d_131 ⟨a6, a1, a0, a2, b0, b3, b4, b5, b6, b7, b8, b9, c0, c1, c2, a7, rfl, b2, e4, e5, e6, g9, h0, h1, e8, e9, f3, ab5⟩
   ·refine WL.alloc E0 zero57 ?_
    intro a9 at9 Q5
    refine WL.nil ?_
    refine AWX.back (fun _ => (St.subset f4 Q5 (mc 3 rfl (mem_TR (A := [_, _, _, _]) b2.1)))) ?_
    exact AWX.to cont_5_12_14_d_131 ⟨a6, a1, a0, a2, b0, a9, a7, rfl, b2, e4, e5, ((St.pickT (L := [_, _, _, _]) Q5 [1, 0, 2, 3] (by decide)))⟩
   refine WL.alloc E0 zero62 ?_
   intro a8 au0 Q6
   refine WL.nil ?_
   refine AWX.back (fun _ => (St.subset f4 Q6 (mc 3 rfl (mem_TR (A := [_, _, _, _]) b2.1)))) ?_
   exact AWX.to cont_5_13_14_d_131 ⟨a6, a1, a0, a2, b0, a8, a7, rfl, b2, e4, e5, ((St.pickT (L := [_, _, _, _]) Q6 [1, 0, 2, 3] (by decide)))⟩
  refine AWX.join (f2 := 12) (listed2 := #[true, true, true, true, true, false, false, false, false, false, false, false, true, true, false, false, false, false, false]) (fun l_ w_ => ∃ a9 a8, l_ = [(0, .pointer (sp nB)), (6, .pointer (sp a3)), (7, .pointer (sp a4)), (8, .pointer (sp a5)), (9, .bool false), (11, .pointer (sp c8)), (12, .int .i64 e1), (13, .pointer (sp a9)), (14, .pointer (sp a8)), (38, .agg ((ci iH) ++ ((cl pD nI nJ) ++ ((cl pE nK nL) ++ ((ci iI) ++ ((cb bB) ++ (cl pF nM nN)))))).toArray), (40, .agg (iv .u8 lC ++ ((ci iJ) ++ ((cu iK) ++ ((cu iL) ++ ((cu iM) ++ (iv .u8 lD ++ ((cu iN) ++ (cu iO)))))))).toArray), (41, .slice c3 c4 c5)] ∧ St w w_ (oK a8 (z32) 0 0 0 0 (z32) 0 0 62 :: oM a9 0 none 0 0 none 0 0 0 false none 0 0 57 :: .sl c3 c5 c4 c7 42 2 :: (f0 ++ c6))) ?_ (fun cont_12_13_d_131 => ?_)
  ·rintro _ Q7 ⟨a9, a8, rfl, K4⟩
   refine AWX.steps [5, 14] (by kernel_rfl) (by decide) (List.forall_mem_cons.2 ⟨⟨_, rfl, ?_⟩, List.forall_mem_cons.2 ⟨⟨_, rfl, ?_⟩, fun _ h_ => by cases h_⟩⟩)
   ·have ab6 := St.hide (A := []) (B := [_, _, _]) K4
    refine wC ent22 rfl (reliquarylaw13_modelOf.calls f0 ab6 (HS.mk m0 (K4.cap (i := 2) rfl) (fun W_ L_ st hT => st.src_mem (hT _ (List.mem_append_right _ (List.mem_of_getElem? (i := 2) rfl)))) (m1.mono e7.1)) r9) ?_
    rintro _ ab7 ⟨a6, a1, a0, a2, b0, b2, e4, e5, rfl, ab8⟩
    have Q8 := St.unhide (A := [_]) (B := [_, _, _]) ab8; dsimp only [ec, en] at Q8
    refine ⟨_, rfl, WL.nil ?_⟩
    refine AWX.back (fun _ => (St.subset f4 Q8 (mc 3 rfl (mem_TR (A := [_, _, _, _]) b2.1)))) ?_
    exact AWX.to cont_5_12_13_d_131 ⟨a6, a1, a0, a2, b0, a9, a8, rfl, b2, e4, e5, ((St.pickT (L := [_, _, _, _]) Q8 [1, 2, 0, 3] (by decide)))⟩
   refine WL.alloc K4 zero60 ?_
   intro a7 au1 Q9
   refine WL.nil ?_
   refine AWX.back (fun _ => (St.subset f4 Q9 (mc 3 rfl (mem_TR (A := [_, _, _, _]) ii)))) ?_
   exact AWX.to cont_12_13_14_d_131 ⟨a9, a8, a7, rfl, Q9⟩
  refine AWX.join (f2 := 12) (listed2 := #[true, true, true, true, true, false, false, false, false, false, false, false, true, false, true, false, false, false, false]) (fun l_ w_ => ∃ a9 a7, l_ = [(0, .pointer (sp nB)), (6, .pointer (sp a3)), (7, .pointer (sp a4)), (8, .pointer (sp a5)), (9, .bool false), (11, .pointer (sp c8)), (12, .int .i64 e1), (13, .pointer (sp a9)), (15, .pointer (sp a7)), (38, .agg ((ci iH) ++ ((cl pD nI nJ) ++ ((cl pE nK nL) ++ ((ci iI) ++ ((cb bB) ++ (cl pF nM nN)))))).toArray), (40, .agg (iv .u8 lC ++ ((ci iJ) ++ ((cu iK) ++ ((cu iL) ++ ((cu iM) ++ (iv .u8 lD ++ ((cu iN) ++ (cu iO)))))))).toArray), (41, .slice c3 c4 c5)] ∧ St w w_ (oS a7 0 0 (z32) 60 :: oM a9 0 none 0 0 none 0 0 0 false none 0 0 57 :: .sl c3 c5 c4 c7 42 2 :: (f0 ++ c6))) ?_ (fun cont_12_14_d_131 => ?_)
  ·rintro _ R0 ⟨a9, a7, rfl, K5⟩
   refine AWX.steps [5, 13] (by kernel_rfl) (by decide) (List.forall_mem_cons.2 ⟨⟨_, rfl, ?_⟩, List.forall_mem_cons.2 ⟨⟨_, rfl, ?_⟩, fun _ h_ => by cases h_⟩⟩)
   ·have ab9 := St.hide (A := []) (B := [_, _, _]) K5
    refine wC ent22 rfl (reliquarylaw13_modelOf.calls f0 ab9 (HS.mk m0 (K5.cap (i := 2) rfl) (fun W_ L_ st hT => st.src_mem (hT _ (List.mem_append_right _ (List.mem_of_getElem? (i := 2) rfl)))) (m1.mono e7.1)) r9) ?_
    rintro _ ac0 ⟨a6, a1, a0, a2, b0, b2, e4, e5, rfl, ac1⟩
    have R1 := St.unhide (A := [_]) (B := [_, _, _]) ac1; dsimp only [ec, en] at R1
    refine ⟨_, rfl, WL.nil ?_⟩
    refine AWX.back (fun _ => (St.subset f4 R1 (mc 3 rfl (mem_TR (A := [_, _, _, _]) b2.1)))) ?_
    exact AWX.to cont_5_12_14_d_131 ⟨a6, a1, a0, a2, b0, a9, a7, rfl, b2, e4, e5, ((St.pickT (L := [_, _, _, _]) R1 [1, 2, 0, 3] (by decide)))⟩
   refine WL.alloc K5 zero62 ?_
   intro a8 au2 R2
   refine WL.nil ?_
   refine AWX.back (fun _ => (St.subset f4 R2 (mc 3 rfl (mem_TR (A := [_, _, _, _]) ii)))) ?_
   exact AWX.to cont_12_13_14_d_131 ⟨a9, a8, a7, rfl, ((St.pickT (L := [_, _, _, _]) R2 [1, 0, 2, 3] (by decide)))⟩
  refine AWX.join (f2 := 12) (listed2 := #[true, true, true, true, true, false, false, false, false, false, false, false, false, true, true, false, false, false, false]) (fun l_ w_ => ∃ a8 a7, l_ = [(0, .pointer (sp nB)), (6, .pointer (sp a3)), (7, .pointer (sp a4)), (8, .pointer (sp a5)), (9, .bool false), (11, .pointer (sp c8)), (12, .int .i64 e1), (14, .pointer (sp a8)), (15, .pointer (sp a7)), (38, .agg ((ci iH) ++ ((cl pD nI nJ) ++ ((cl pE nK nL) ++ ((ci iI) ++ ((cb bB) ++ (cl pF nM nN)))))).toArray), (40, .agg (iv .u8 lC ++ ((ci iJ) ++ ((cu iK) ++ ((cu iL) ++ ((cu iM) ++ (iv .u8 lD ++ ((cu iN) ++ (cu iO)))))))).toArray), (41, .slice c3 c4 c5)] ∧ St w w_ (oS a7 0 0 (z32) 60 :: oK a8 (z32) 0 0 0 0 (z32) 0 0 62 :: .sl c3 c5 c4 c7 42 2 :: (f0 ++ c6))) ?_ (fun cont_13_14_d_131 => ?_)
  ·rintro _ R3 ⟨a8, a7, rfl, K6⟩
   refine AWX.steps [5, 12] (by kernel_rfl) (by decide) (List.forall_mem_cons.2 ⟨⟨_, rfl, ?_⟩, List.forall_mem_cons.2 ⟨⟨_, rfl, ?_⟩, fun _ h_ => by cases h_⟩⟩)
   ·have ac2 := St.hide (A := []) (B := [_, _, _]) K6
    refine wC ent22 rfl (reliquarylaw13_modelOf.calls f0 ac2 (HS.mk m0 (K6.cap (i := 2) rfl) (fun W_ L_ st hT => st.src_mem (hT _ (List.mem_append_right _ (List.mem_of_getElem? (i := 2) rfl)))) (m1.mono e7.1)) r9) ?_
    rintro _ ac3 ⟨a6, a1, a0, a2, b0, b2, e4, e5, rfl, ac4⟩
    have R4 := St.unhide (A := [_]) (B := [_, _, _]) ac4; dsimp only [ec, en] at R4
    refine ⟨_, rfl, WL.nil ?_⟩
    refine AWX.back (fun _ => (St.subset f4 R4 (mc 3 rfl (mem_TR (A := [_, _, _, _]) b2.1)))) ?_
    exact AWX.to cont_5_13_14_d_131 ⟨a6, a1, a0, a2, b0, a8, a7, rfl, b2, e4, e5, ((St.pickT (L := [_, _, _, _]) R4 [1, 2, 0, 3] (by decide)))⟩
   refine WL.alloc K6 zero57 ?_
   intro a9 au3 R5
   refine WL.nil ?_
   refine AWX.back (fun _ => (St.subset f4 R5 (mc 3 rfl (mem_TR (A := [_, _, _, _]) ii)))) ?_
   exact AWX.to cont_12_13_14_d_131 ⟨a9, a8, a7, rfl, ((St.pickT (L := [_, _, _, _]) R5 [1, 2, 0, 3] (by decide)))⟩
  refine AWX.join (f2 := 13) (listed2 := #[true, true, true, true, true, true, false, false, false, false, false, false, false, false, false, false, false, false, false]) (fun l_ w_ => ∃ a6 a1 a0 a2 b0, l_ = [(0, .pointer (sp nB)), (6, .pointer (sp a3)), (7, .pointer (sp a4)), (8, .pointer (sp a5)), (9, .bool false), (11, .pointer (sp c8)), (12, .int .i64 e1), (38, .agg ((ci iH) ++ ((cl pD nI nJ) ++ ((cl pE nK nL) ++ ((ci iI) ++ ((cb bB) ++ (cl pF nM nN)))))).toArray), (40, .agg (iv .u8 lC ++ ((ci iJ) ++ ((cu iK) ++ ((cu iL) ++ ((cu iM) ++ (iv .u8 lD ++ ((cu iN) ++ (cu iO)))))))).toArray), (42, .slice a1 a0 a2)] ∧ (Pl f0 a6) ∧ (a0 = g4.length) ∧ (HRs a6 (f116 w) b0 g4) ∧ St w w_ (.sl a1 a2 a0 b0 116 2 :: .sl c3 c5 c4 c7 42 2 :: (a6 ++ c6))) ?_ (fun cont_5_d_131 => ?_)
  ·rintro _ R6 ⟨a6, a1, a0, a2, b0, rfl, b2, e4, e5, z1⟩
   refine AWX.steps [6, 12, 13, 14] (by kernel_rfl) (by decide) (List.forall_mem_cons.2 ⟨⟨_, rfl, ?_⟩, List.forall_mem_cons.2 ⟨⟨_, rfl, ?_⟩, List.forall_mem_cons.2 ⟨⟨_, rfl, ?_⟩, List.forall_mem_cons.2 ⟨⟨_, rfl, ?_⟩, fun _ h_ => by cases h_⟩⟩⟩⟩)
   ·have ac5 := St.hide (A := []) (B := [_, _]) z1
    refine wC ent21 rfl (reliquaryref13_Append.calls a6 ac5 (aw2.mono ((f1.trans e7).trans b2).1 ((f1.trans e7).trans b2).1) (aw3.mono ((f1.trans e7).trans b2).1 ((f1.trans e7).trans b2).1) (aw4.mono ((f1.trans e7).trans b2).1 ((f1.trans e7).trans b2).1) av9 aw0 (HS.mk e4 (z1.cap (i := 0) rfl) (fun W_ L_ st hT => st.src_mem (hT _ (List.mem_append_right _ (List.mem_of_getElem? (i := 0) rfl)))) e5) s0) ?_
    rintro _ ac6 ⟨b3, b4, b5, b6, b7, b8, b9, c0, c1, c2, e6, g9, h0, h1, e8, e9, f3, rfl, ac7⟩
    have ac8 := St.unhide (A := []) (B := [_, _]) ac7; dsimp only [ec, en] at ac8
    refine ⟨_, rfl, WL.nil ?_⟩
    refine AWX.back (fun h_ => absurd h_ (by decide)) ?_
    refine AWX.tp 7 rfl (Runs.move rfl) ?_
    refine AWX.tp 8 rfl (Runs.extract rfl rfl) ?_
    refine AWX.tp 9 rfl (Runs.extract rfl rfl) ?_
    refine AWX.tp 10 rfl (Runs.extract rfl rfl) ?_
    refine AWX.tp 11 rfl (Runs.extract rfl rfl) ?_
    exact AWX.to cont_5_6_d_131 ⟨a6, a1, a0, a2, b0, b3, b4, b5, b6, b7, b8, b9, c0, c1, c2, rfl, b2, e4, e5, e6, g9, h0, h1, e8, e9, f3, ac8⟩
   ·refine WL.alloc z1 zero57 ?_
    intro a9 au4 R7
    refine WL.nil ?_
    refine AWX.back (fun _ => (St.subset f4 R7 (mc 2 rfl (mem_TR (A := [_, _, _]) b2.1)))) ?_
    exact AWX.to cont_5_12_d_131 ⟨a6, a1, a0, a2, b0, a9, rfl, b2, e4, e5, R7⟩
   ·refine WL.alloc z1 zero62 ?_
    intro a8 au5 R8
    refine WL.nil ?_
    refine AWX.back (fun _ => (St.subset f4 R8 (mc 2 rfl (mem_TR (A := [_, _, _]) b2.1)))) ?_
    exact AWX.to cont_5_13_d_131 ⟨a6, a1, a0, a2, b0, a8, rfl, b2, e4, e5, R8⟩
   refine WL.alloc z1 zero60 ?_
   intro a7 au6 R9
   refine WL.nil ?_
   refine AWX.back (fun _ => (St.subset f4 R9 (mc 2 rfl (mem_TR (A := [_, _, _]) b2.1)))) ?_
   exact AWX.to cont_5_14_d_131 ⟨a6, a1, a0, a2, b0, a7, rfl, b2, e4, e5, R9⟩
  refine AWX.join (f2 := 13) (listed2 := #[true, true, true, true, true, false, false, false, false, false, false, false, true, false, false, false, false, false, false]) (fun l_ w_ => ∃ a9, l_ = [(0, .pointer (sp nB)), (6, .pointer (sp a3)), (7, .pointer (sp a4)), (8, .pointer (sp a5)), (9, .bool false), (11, .pointer (sp c8)), (12, .int .i64 e1), (13, .pointer (sp a9)), (38, .agg ((ci iH) ++ ((cl pD nI nJ) ++ ((cl pE nK nL) ++ ((ci iI) ++ ((cb bB) ++ (cl pF nM nN)))))).toArray), (40, .agg (iv .u8 lC ++ ((ci iJ) ++ ((cu iK) ++ ((cu iL) ++ ((cu iM) ++ (iv .u8 lD ++ ((cu iN) ++ (cu iO)))))))).toArray), (41, .slice c3 c4 c5)] ∧ St w w_ (oM a9 0 none 0 0 none 0 0 0 false none 0 0 57 :: .sl c3 c5 c4 c7 42 2 :: (f0 ++ c6))) ?_ (fun cont_12_d_131 => ?_)
  ·rintro _ S0 ⟨a9, rfl, E1⟩
   refine AWX.steps [5, 13, 14] (by kernel_rfl) (by decide) (List.forall_mem_cons.2 ⟨⟨_, rfl, ?_⟩, List.forall_mem_cons.2 ⟨⟨_, rfl, ?_⟩, List.forall_mem_cons.2 ⟨⟨_, rfl, ?_⟩, fun _ h_ => by cases h_⟩⟩⟩)
   ·have ac9 := St.hide (A := []) (B := [_, _]) E1
    refine wC ent22 rfl (reliquarylaw13_modelOf.calls f0 ac9 (HS.mk m0 (E1.cap (i := 1) rfl) (fun W_ L_ st hT => st.src_mem (hT _ (List.mem_append_right _ (List.mem_of_getElem? (i := 1) rfl)))) (m1.mono e7.1)) r9) ?_
    rintro _ ad0 ⟨a6, a1, a0, a2, b0, b2, e4, e5, rfl, ad1⟩
    have S1 := St.unhide (A := [_]) (B := [_, _]) ad1; dsimp only [ec, en] at S1
    refine ⟨_, rfl, WL.nil ?_⟩
    refine AWX.back (fun _ => (St.subset f4 S1 (mc 2 rfl (mem_TR (A := [_, _, _]) b2.1)))) ?_
    exact AWX.to cont_5_12_d_131 ⟨a6, a1, a0, a2, b0, a9, rfl, b2, e4, e5, ((St.pickT (L := [_, _, _]) S1 [1, 0, 2] (by decide)))⟩
   ·refine WL.alloc E1 zero62 ?_
    intro a8 au7 S2
    refine WL.nil ?_
    refine AWX.back (fun _ => (St.subset f4 S2 (mc 2 rfl (mem_TR (A := [_, _, _]) ii)))) ?_
    exact AWX.to cont_12_13_d_131 ⟨a9, a8, rfl, S2⟩
   refine WL.alloc E1 zero60 ?_
   intro a7 au8 S3
   refine WL.nil ?_
   refine AWX.back (fun _ => (St.subset f4 S3 (mc 2 rfl (mem_TR (A := [_, _, _]) ii)))) ?_
   exact AWX.to cont_12_14_d_131 ⟨a9, a7, rfl, S3⟩
  refine AWX.join (f2 := 13) (listed2 := #[true, true, true, true, true, false, false, false, false, false, false, false, false, true, false, false, false, false, false]) (fun l_ w_ => ∃ a8, l_ = [(0, .pointer (sp nB)), (6, .pointer (sp a3)), (7, .pointer (sp a4)), (8, .pointer (sp a5)), (9, .bool false), (11, .pointer (sp c8)), (12, .int .i64 e1), (14, .pointer (sp a8)), (38, .agg ((ci iH) ++ ((cl pD nI nJ) ++ ((cl pE nK nL) ++ ((ci iI) ++ ((cb bB) ++ (cl pF nM nN)))))).toArray), (40, .agg (iv .u8 lC ++ ((ci iJ) ++ ((cu iK) ++ ((cu iL) ++ ((cu iM) ++ (iv .u8 lD ++ ((cu iN) ++ (cu iO)))))))).toArray), (41, .slice c3 c4 c5)] ∧ St w w_ (oK a8 (z32) 0 0 0 0 (z32) 0 0 62 :: .sl c3 c5 c4 c7 42 2 :: (f0 ++ c6))) ?_ (fun cont_13_d_131 => ?_)
  ·rintro _ S4 ⟨a8, rfl, E2⟩
   refine AWX.steps [5, 12, 14] (by kernel_rfl) (by decide) (List.forall_mem_cons.2 ⟨⟨_, rfl, ?_⟩, List.forall_mem_cons.2 ⟨⟨_, rfl, ?_⟩, List.forall_mem_cons.2 ⟨⟨_, rfl, ?_⟩, fun _ h_ => by cases h_⟩⟩⟩)
   ·have ad2 := St.hide (A := []) (B := [_, _]) E2
    refine wC ent22 rfl (reliquarylaw13_modelOf.calls f0 ad2 (HS.mk m0 (E2.cap (i := 1) rfl) (fun W_ L_ st hT => st.src_mem (hT _ (List.mem_append_right _ (List.mem_of_getElem? (i := 1) rfl)))) (m1.mono e7.1)) r9) ?_
    rintro _ ad3 ⟨a6, a1, a0, a2, b0, b2, e4, e5, rfl, ad4⟩
    have S5 := St.unhide (A := [_]) (B := [_, _]) ad4; dsimp only [ec, en] at S5
    refine ⟨_, rfl, WL.nil ?_⟩
    refine AWX.back (fun _ => (St.subset f4 S5 (mc 2 rfl (mem_TR (A := [_, _, _]) b2.1)))) ?_
    exact AWX.to cont_5_13_d_131 ⟨a6, a1, a0, a2, b0, a8, rfl, b2, e4, e5, ((St.pickT (L := [_, _, _]) S5 [1, 0, 2] (by decide)))⟩
   ·refine WL.alloc E2 zero57 ?_
    intro a9 au9 S6
    refine WL.nil ?_
    refine AWX.back (fun _ => (St.subset f4 S6 (mc 2 rfl (mem_TR (A := [_, _, _]) ii)))) ?_
    exact AWX.to cont_12_13_d_131 ⟨a9, a8, rfl, ((St.pickT (L := [_, _, _]) S6 [1, 0, 2] (by decide)))⟩
   refine WL.alloc E2 zero60 ?_
   intro a7 av0 S7
   refine WL.nil ?_
   refine AWX.back (fun _ => (St.subset f4 S7 (mc 2 rfl (mem_TR (A := [_, _, _]) ii)))) ?_
   exact AWX.to cont_13_14_d_131 ⟨a8, a7, rfl, S7⟩
  refine AWX.join (f2 := 13) (listed2 := #[true, true, true, true, true, false, false, false, false, false, false, false, false, false, true, false, false, false, false]) (fun l_ w_ => ∃ a7, l_ = [(0, .pointer (sp nB)), (6, .pointer (sp a3)), (7, .pointer (sp a4)), (8, .pointer (sp a5)), (9, .bool false), (11, .pointer (sp c8)), (12, .int .i64 e1), (15, .pointer (sp a7)), (38, .agg ((ci iH) ++ ((cl pD nI nJ) ++ ((cl pE nK nL) ++ ((ci iI) ++ ((cb bB) ++ (cl pF nM nN)))))).toArray), (40, .agg (iv .u8 lC ++ ((ci iJ) ++ ((cu iK) ++ ((cu iL) ++ ((cu iM) ++ (iv .u8 lD ++ ((cu iN) ++ (cu iO)))))))).toArray), (41, .slice c3 c4 c5)] ∧ St w w_ (oS a7 0 0 (z32) 60 :: .sl c3 c5 c4 c7 42 2 :: (f0 ++ c6))) ?_ (fun cont_14_d_131 => ?_)
  ·rintro _ S8 ⟨a7, rfl, E3⟩
   refine AWX.steps [5, 12, 13] (by kernel_rfl) (by decide) (List.forall_mem_cons.2 ⟨⟨_, rfl, ?_⟩, List.forall_mem_cons.2 ⟨⟨_, rfl, ?_⟩, List.forall_mem_cons.2 ⟨⟨_, rfl, ?_⟩, fun _ h_ => by cases h_⟩⟩⟩)
   ·have ad5 := St.hide (A := []) (B := [_, _]) E3
    refine wC ent22 rfl (reliquarylaw13_modelOf.calls f0 ad5 (HS.mk m0 (E3.cap (i := 1) rfl) (fun W_ L_ st hT => st.src_mem (hT _ (List.mem_append_right _ (List.mem_of_getElem? (i := 1) rfl)))) (m1.mono e7.1)) r9) ?_
    rintro _ ad6 ⟨a6, a1, a0, a2, b0, b2, e4, e5, rfl, ad7⟩
    have S9 := St.unhide (A := [_]) (B := [_, _]) ad7; dsimp only [ec, en] at S9
    refine ⟨_, rfl, WL.nil ?_⟩
    refine AWX.back (fun _ => (St.subset f4 S9 (mc 2 rfl (mem_TR (A := [_, _, _]) b2.1)))) ?_
    exact AWX.to cont_5_14_d_131 ⟨a6, a1, a0, a2, b0, a7, rfl, b2, e4, e5, ((St.pickT (L := [_, _, _]) S9 [1, 0, 2] (by decide)))⟩
   ·refine WL.alloc E3 zero57 ?_
    intro a9 av1 T0
    refine WL.nil ?_
    refine AWX.back (fun _ => (St.subset f4 T0 (mc 2 rfl (mem_TR (A := [_, _, _]) ii)))) ?_
    exact AWX.to cont_12_14_d_131 ⟨a9, a7, rfl, ((St.pickT (L := [_, _, _]) T0 [1, 0, 2] (by decide)))⟩
   refine WL.alloc E3 zero62 ?_
   intro a8 av2 T1
   refine WL.nil ?_
   refine AWX.back (fun _ => (St.subset f4 T1 (mc 2 rfl (mem_TR (A := [_, _, _]) ii)))) ?_
   exact AWX.to cont_13_14_d_131 ⟨a8, a7, rfl, ((St.pickT (L := [_, _, _]) T1 [1, 0, 2] (by decide)))⟩
  refine AWX.steps [5, 12, 13, 14] (by kernel_rfl) (by decide) (List.forall_mem_cons.2 ⟨⟨_, rfl, ?_⟩, List.forall_mem_cons.2 ⟨⟨_, rfl, ?_⟩, List.forall_mem_cons.2 ⟨⟨_, rfl, ?_⟩, List.forall_mem_cons.2 ⟨⟨_, rfl, ?_⟩, fun _ h_ => by cases h_⟩⟩⟩⟩)
  ·have ad8 := St.hide (A := []) (B := [_]) f4
   refine wC ent22 rfl (reliquarylaw13_modelOf.calls f0 ad8 (HS.mk m0 (f4.cap (i := 0) rfl) (fun W_ L_ st hT => st.src_mem (hT _ (List.mem_append_right _ (List.mem_of_getElem? (i := 0) rfl)))) (m1.mono e7.1)) r9) ?_
   rintro _ ad9 ⟨a6, a1, a0, a2, b0, b2, e4, e5, rfl, ae0⟩
   have T2 := St.unhide (A := [_]) (B := [_]) ae0; dsimp only [ec, en] at T2
   refine ⟨_, rfl, WL.nil ?_⟩
   refine AWX.back (fun _ => (St.subset f4 T2 (mc 1 rfl (mem_TR (A := [_, _]) b2.1)))) ?_
   exact AWX.to cont_5_d_131 ⟨a6, a1, a0, a2, b0, rfl, b2, e4, e5, T2⟩
  ·refine WL.alloc f4 zero57 ?_
   intro a9 av3 T3
   refine WL.nil ?_
   refine AWX.back (fun _ => (St.subset f4 T3 (mc 1 rfl (mem_TR (A := [_, _]) ii)))) ?_
   exact AWX.to cont_12_d_131 ⟨a9, rfl, T3⟩
  ·refine WL.alloc f4 zero62 ?_
   intro a8 av4 T4
   refine WL.nil ?_
   refine AWX.back (fun _ => (St.subset f4 T4 (mc 1 rfl (mem_TR (A := [_, _]) ii)))) ?_
   exact AWX.to cont_13_d_131 ⟨a8, rfl, T4⟩
  refine WL.alloc f4 zero60 ?_
  intro a7 av5 T5
  refine WL.nil ?_
  refine AWX.back (fun _ => (St.subset f4 T5 (mc 1 rfl (mem_TR (A := [_, _]) ii)))) ?_
  exact AWX.to cont_14_d_131 ⟨a7, rfl, T5⟩
 have I9 := (decide_eq_false I8)
 refine CW.cf rfl I9 ?_
 refine CW.cut (fun l_ w_ => l_ = [(0, .pointer (sp nB)), (1, .pointer (sp nA)), (6, .pointer (sp a3)), (7, .pointer (sp a4)), (8, .pointer (sp a5)), (9, .bool false), (20, .int .i64 (bits .and .i64 iT 7)), (68, .bool (decide ((bits .and .i64 iT 7) = 3 ∨ (bits .and .i64 iT 7) = 4)))] ∧ j4 = w_) ?_ ?_
 ·refine cr (WL.v (Runs.eql rfl rfl rfl) (WL.as rfl (wn ?_)))
  rcases Decidable.em ((bits .and .i64 iT 7) = 3) with z2 | z2
  ·have K7 : ((bits .and .i64 iT 7) == 3) = true := (beq_iff_eq.mpr z2)
   refine CW.ct rfl K7 (CW.skip ?_)
   exact QW.at _ (by repeat' constructor) ⟨congrArg (fun b_ : Bool => ([(0, .pointer (sp nB)), (1, .pointer (sp nA)), (6, .pointer (sp a3)), (7, .pointer (sp a4)), (8, .pointer (sp a5)), (9, .bool false), (20, .int .i64 (bits .and .i64 iT 7)), (68, .bool b_)] : Ov)) (by simp [z2]), rfl⟩
  have K7 : ((bits .and .i64 iT 7) == 3) = false := (beq_eq_false_iff_ne.mpr z2)
  refine CW.cf rfl K7 (CW.region (WL.v (Runs.eql rfl rfl rfl) (WL.as rfl (WL.nil ?_))))
  exact QW.at _ (by repeat' constructor) ⟨congrArg (fun b_ : Bool => ([(0, .pointer (sp nB)), (1, .pointer (sp nA)), (6, .pointer (sp a3)), (7, .pointer (sp a4)), (8, .pointer (sp a5)), (9, .bool false), (20, .int .i64 (bits .and .i64 iT 7)), (68, .bool b_)] : Ov)) (by by_cases h_ : (bits .and .i64 iT 7) = 4 <;> simp [z2, h_]), rfl⟩
 rintro _ _ ⟨rfl, rfl⟩
 rcases H with ⟨K8, H⟩ | ⟨K8, H⟩
 ·have K9 := (decide_eq_true K8)
  refine CW.ct rfl K9 (cr (WL.mv rfl (WL.v (Runs.fieldAddr (off := 76) (p := 76) fld81_2 rfl rfl rfl) ?_)))
  refine WL.v (Runs.load_mid row39 rfl j5 (i := 2) rfl (pm ((ci iH) ++ ((cl pD nI nJ) ++ ((cl pE nK nL) ++ ((ci iI) ++ ((cb bB) ++ ((cl pF nM nN) ++ (iv .u8 lC ++ ((ci iJ) ++ ((cu iK) ++ ((cu iL) ++ ((cu iM) ++ (iv .u8 lD ++ ((cu iN) ++ (cu iO)))))))))))))) ((cu iP) ++ ((cu iQ) ++ iv .u8 lE)) ((cu iR) ++ ((cu iS) ++ iv .u8 lF)) (ho := by simp [lv, av9, aw0]) (hm := by simp [lv, b1])) (by simp [lv, b1])) ?_
  refine WL.v (Runs.fieldAddr (off := 37) (p := 37) fld84_4 rfl rfl rfl) ?_
  refine WL.ld 1 nagg37 j5 rfl rfl (pa (.int .u64 iW) ((ci iT) ++ ((cl pG nO nP) ++ ((cb bC) ++ ((cu iU) ++ ((cu iV) ++ iv .u8 lG))))) ((ci iX) ++ (cl pH nQ nR)) (ho := by simp [lv, aw1])) ?_
  have L0 := (St.pk (L := [_, _, _, _, _, _, _, _]) j5 [3, 4, 5, 6, 7, 0, 1, 2])
  have ae1 := St.hide (A := [_, _, _, _, _]) (B := [_, _, _]) L0
  obtain ⟨ae2, ae3, z3, z4, ae4, z5, z6, z7, z8, z9, A0, A1, A2, ae5, H⟩ := H
  refine wC ent15 rfl (journal_Journal_Adopt.calls T ae1 (aw5) aw6 (aw7) aw8 (aw9) ax0 ax1 ax2 b1 ae5) ?_
  rintro _ T6 ⟨x1, m2, m3, m4, A3, m5, m6, m7, A4, m8, m9, n0, A5, s2, ae6, ae7, ae8, ae9, af0, af1, af2, af3, rfl, af4⟩
  have E4 := St.unhide (A := [_, _, _, _, _]) (B := [_, _, _]) af4; dsimp only [ec, en] at E4
  refine ⟨_, rfl, wn ?_⟩
  refine CW.su [(0, _), (6, _), (7, _), (8, _), (9, _)] ?_
  refine cr (WL.v (Runs.fieldAddr (off := 6) (p := 6) fld81_1 rfl rfl rfl) ?_)
  refine WL.v (Runs.load_mid row62 rfl E4 (i := 7) rfl (pm ((ci iH) ++ ((cl pD nI nJ) ++ ((cl pE nK nL) ++ ((ci iI) ++ ((cb bB) ++ (cl pF nM nN)))))) (iv .u8 lC ++ ((ci iJ) ++ ((cu iK) ++ ((cu iL) ++ ((cu iM) ++ (iv .u8 lD ++ ((cu iN) ++ (cu iO)))))))) ((cu iP) ++ ((cu iQ) ++ (iv .u8 lE ++ ((cu iR) ++ ((cu iS) ++ iv .u8 lF))))) (hm := by simp [lv, av9, aw0])) (by simp [lv, av9, aw0])) ?_
  refine WL.v (Runs.fieldAddr (off := 110) (p := 110) fld81_3 rfl rfl rfl) ?_
  refine WL.v (Runs.load_mid row60 rfl E4 (i := 7) rfl (pm ((ci iH) ++ ((cl pD nI nJ) ++ ((cl pE nK nL) ++ ((ci iI) ++ ((cb bB) ++ ((cl pF nM nN) ++ (iv .u8 lC ++ ((ci iJ) ++ ((cu iK) ++ ((cu iL) ++ ((cu iM) ++ (iv .u8 lD ++ ((cu iN) ++ ((cu iO) ++ ((cu iP) ++ ((cu iQ) ++ iv .u8 lE)))))))))))))))) ((cu iR) ++ ((cu iS) ++ iv .u8 lF)) [] (ho := by simp [lv, av9, aw0, b1]) (hm := by simp [lv, ar1])) (by simp [lv, ar1])) ?_
  refine WL.v (Runs.fieldAddr (off := 37) (p := 37) fld84_4 rfl rfl rfl) ?_
  refine WL.ld 6 nagg37 E4 rfl rfl (pa (.int .u64 iW) ((ci iT) ++ ((cl pG nO nP) ++ ((cb bC) ++ ((cu iU) ++ ((cu iV) ++ iv .u8 lG))))) ((ci iX) ++ (cl pH nQ nR)) (ho := by simp [lv, aw1])) ?_
  obtain ⟨n1, n2, n3, n4, n5, n6, n7, n8, af5, H⟩ := H
  refine wC ent49 rfl (reliquaryref13_Adopt.calls av9 aw0 ar1 af5) ?_
  rintro _ af6 ⟨x2, x3, rfl, af7⟩
  have af8 := E4.call af7
  refine ⟨_, rfl, WL.v (Runs.fieldAddr (off := 6) (p := 6) fld81_1 rfl rfl rfl) ?_⟩
  refine WL.sm (new := ((ci iH) ++ ((cl pD nI nJ) ++ ((cl pE nK nL) ++ ((ci iI) ++ ((cb bB) ++ ((cl pF nM nN) ++ (iv .u8 n1 ++ ((ci n2) ++ ((cu n3) ++ ((cu n4) ++ ((cu n5) ++ (iv .u8 n6 ++ ((cu n7) ++ ((cu n8) ++ ((cu iP) ++ ((cu iQ) ++ (iv .u8 lE ++ ((cu iR) ++ ((cu iS) ++ iv .u8 lF)))))))))))))))))))) (i := 7) (pre := ((ci iH) ++ ((cl pD nI nJ) ++ ((cl pE nK nL) ++ ((ci iI) ++ ((cb bB) ++ (cl pF nM nN))))))) (mid := (iv .u8 lC ++ ((ci iJ) ++ ((cu iK) ++ ((cu iL) ++ ((cu iM) ++ (iv .u8 lD ++ ((cu iN) ++ (cu iO))))))))) (post := ((cu iP) ++ ((cu iQ) ++ (iv .u8 lE ++ ((cu iR) ++ ((cu iS) ++ iv .u8 lF)))))) (ms := (iv .u8 n1 ++ ((ci n2) ++ ((cu n3) ++ ((cu n4) ++ ((cu n5) ++ (iv .u8 n6 ++ ((cu n7) ++ (cu n8))))))))) af8 rfl row62 (by first | rfl | simp only [aa, an, na, ca]) rfl rfl rfl (by simp [lv, x2, x3]) (by simp [lv, av9, aw0]) (one_cat (one_iv _ _) (one_cat oneU (one_cat oneU (one_cat oneU (one_cat oneU (one_cat (one_iv _ _) (one_cat oneU oneU))))))) (by first | rfl | simp only [aa, an, na, ca]) ?_
  intro af9 E5
  try dsimp only [List.set] at E5
  refine wn ?_
  refine CW.su [(0, _), (6, _), (7, _), (8, _), (9, _)] ?_
  refine cr ?_
  refine WL.v (Runs.load_mid row81 rfl E5 (i := 7) rfl (pm [] ((ci iH) ++ ((cl pD nI nJ) ++ ((cl pE nK nL) ++ ((ci iI) ++ ((cb bB) ++ ((cl pF nM nN) ++ (iv .u8 n1 ++ ((ci n2) ++ ((cu n3) ++ ((cu n4) ++ ((cu n5) ++ (iv .u8 n6 ++ ((cu n7) ++ ((cu n8) ++ ((cu iP) ++ ((cu iQ) ++ (iv .u8 lE ++ ((cu iR) ++ ((cu iS) ++ iv .u8 lF))))))))))))))))))) [] (hm := by simp [lv, x2, x3, b1, ar1])) (by simp [lv, x2, x3, b1, ar1])) ?_
  refine WL.sw 5 E5 row81 rfl rfl rfl (hm := by simp [lv, x2, x3, b1, ar1]) ?_
  intro ag0 E6
  try dsimp only [List.set] at E6
  refine WL.as rfl (wn (CW.ret (QW.blk_r (QW.then_r ?_))))
  obtain ⟨rfl, rfl, rfl, rfl, rfl, rfl, rfl, rfl, rfl, rfl, rfl, rfl, rfl, rfl, rfl, rfl, rfl, rfl, rfl, rfl, rfl, rfl, rfl, rfl, rfl, rfl, rfl, rfl, rfl, rfl, rfl, rfl, rfl, rfl⟩ := H
  exact QW.retN2 rfl (Res.row rfl row81 E6 (i := 5) rfl (by simp [lv, x2, x3, b1, ar1])) (Res.tmp rfl) ⟨x1, m2, m3, m4, A3, m5, m6, m7, A4, m8, m9, n0, A5, pD, nI, nJ, pE, nK, nL, pF, nM, nN, s2, ae6, ae7, ae8, ae9, af0, af1, af2, af3, (aw2.mono s2.1 s2.1), (aw3.mono s2.1 s2.1), (aw4.mono s2.1 s2.1), x2, x3, b1, ar1, rfl, (St.pk (L := [_, _, _, _, _, _, _, _]) E6 [0, 1, 2, 3, 4])⟩
 have K9 := (decide_eq_false K8)
 refine CW.cf rfl K9 (cr (WL.v (Runs.eql rfl rfl rfl) (WL.as rfl (wn ?_))))
 rcases H with ⟨L1, H⟩ | ⟨L1, H⟩
 ·have L2 : ((bits .and .i64 iT 7) == 5) = true := (beq_iff_eq.mpr L1)
  refine CW.ct rfl L2 (cr (WL.v (Runs.fieldAddr (off := 3) (p := 3) fld84_3 rfl rfl rfl) ?_))
  refine WL.v (Runs.load_mid row39 rfl j5 (i := 1) rfl (pm ((ci iT) ++ ((cl pG nO nP) ++ (cb bC))) ((cu iU) ++ ((cu iV) ++ iv .u8 lG)) ((cu iW) ++ ((ci iX) ++ (cl pH nQ nR))) (hm := by simp [lv, aw1])) (by simp [lv, aw1])) ?_
  refine WL.alloc j5 zero39 ?_
  intro i5 av6 ag1
  refine WL.sw 0 ag1 row39 rfl rfl rfl (hm := by simp [lv, aw1]) ?_
  intro s3 s4
  try dsimp only [List.set] at s4
  refine wn ?_
  refine CW.su [(0, _), (1, _), (6, _), (7, _), (8, _), (9, _), (17, _)] ?_
  refine CW.seq (cr (WL.v (Runs.fieldAddr (off := 2) (p := 2) fld84_2 rfl rfl rfl) (WL.ld 2 nagg4 s4 rfl rfl (pa (.bool bC) ((ci iT) ++ (cl pG nO nP)) ((cu iU) ++ ((cu iV) ++ (iv .u8 lG ++ ((cu iW) ++ ((ci iX) ++ (cl pH nQ nR))))))) (wn ?_))))
  rcases H with ⟨L3, H⟩ | ⟨L3, H⟩
  ·have L4 : bC = true := L3
   refine CW.ct rfl L4 (CW.region (WL.mv rfl ?_))
   have L5 := (St.pk (L := [_, _, _, _, _, _, _, _, _]) s4 [4, 5, 6, 7, 8, 0, 1, 2, 3])
   have ag2 := St.hide (A := [_, _, _, _, _]) (B := [_, _, _, _]) L5
   obtain ⟨T7, T8, A6, A7, T9, A8, A9, B0, B1, B2, B3, B4, B5, j6, j7, j8, ag3, H⟩ := H
   refine wC ent17 rfl (journal_Journal_Empty.calls T ag2 (aw5) aw6 (aw7) aw8 (aw9) ax0 ax1 ax2 ag3) ?_
   rintro _ ag4 ⟨x4, s5, s6, s7, E7, s8, s9, t0, E8, t1, t2, t3, E9, t4, ag5, ag6, ag7, ag8, ag9, ah0, ah1, ah2, t5, rfl, ah3⟩
   have ah4 := St.unhide (A := [_, _, _, _, _]) (B := [_, _, _, _]) ah3; dsimp only [ec, en] at ah4
   refine ⟨_, rfl, ?_⟩
   refine WL.sw 5 ah4 row39 rfl rfl rfl (hm := by simp [lv, t5]) (hc := by simp [lv, aw1]) ?_
   intro L6 B6
   try dsimp only [List.set] at B6
   refine WL.nx (WL.mv rfl ?_)
   refine WL.v (Runs.load_mid row39 rfl B6 (i := 5) rfl (pm [] ((cu j6) ++ ((cu j7) ++ iv .u8 j8)) [] (hm := by simp [lv, t5])) (by simp [lv, t5])) ?_
   refine WL.v (Runs.fieldAddr (off := 37) (p := 37) fld84_4 rfl rfl rfl) ?_
   refine WL.ld 7 nagg37 B6 rfl rfl (pa (.int .u64 iW) ((ci iT) ++ ((cl pG nO nP) ++ ((cb bC) ++ ((cu iU) ++ ((cu iV) ++ iv .u8 lG))))) ((ci iX) ++ (cl pH nQ nR)) (ho := by simp [lv, aw1])) ?_
   have ah5 := St.hide (A := [_, _, _, _, _]) (B := [_, _, _, _]) B6
   obtain ⟨ah6, ah7, F0, F1, ah8, F2, F3, F4, F5, F6, F7, F8, F9, ah9, H⟩ := H
   refine wC ent15 rfl (journal_Journal_Adopt.calls x4 ah5 (ag5) ag6 (ag7) ag8 (ag9) ah0 ah1 ah2 t5 ah9) ?_
   rintro _ ai0 ⟨B7, t6, t7, t8, G0, t9, u0, u1, G1, u2, u3, u4, G2, u5, ai1, ai2, ai3, ai4, ai5, ai6, ai7, ai8, rfl, ai9⟩
   have aj0 := St.unhide (A := [_, _, _, _, _]) (B := [_, _, _, _]) ai9; dsimp only [ec, en] at aj0
   refine ⟨_, rfl, wn ?_⟩
   refine CW.su [(0, _), (6, _), (7, _), (8, _), (9, _), (17, _)] ?_
   refine CW.seq ?_
   refine CW.region_qt 8 wide (by kernel_rfl) aj0 ?_
   refine HL.p (Runs.fieldAddr (off := 6) (p := 6) fld81_1 rfl rfl rfl) ?_
   refine HL.v (fun wq sq => (Runs.load_mid row62 rfl sq (i := 8) rfl (pm ((ci iH) ++ ((cl pD nI nJ) ++ ((cl pE nK nL) ++ ((ci iI) ++ ((cb bB) ++ (cl pF nM nN)))))) (iv .u8 lC ++ ((ci iJ) ++ ((cu iK) ++ ((cu iL) ++ ((cu iM) ++ (iv .u8 lD ++ ((cu iN) ++ (cu iO)))))))) ((cu iP) ++ ((cu iQ) ++ (iv .u8 lE ++ ((cu iR) ++ ((cu iS) ++ iv .u8 lF))))) (hm := by simp [lv, av9, aw0])) (by simp [lv, av9, aw0]))) ?_
   refine HL.v (fun wq sq => (Runs.load_mid row39 rfl sq (i := 5) rfl (pm [] ((cu j6) ++ ((cu j7) ++ iv .u8 j8)) [] (hm := by simp [lv, t5])) (by simp [lv, t5]))) ?_
   obtain ⟨U0, U1, U2, aj1, H⟩ := H
   obtain ⟨aj2, H⟩ := H
   refine HL.call Wanted.none ent23 rfl (fun wq sq => (reliquarylaw13_stateOf.calls t5 aj1).mono (by rintro _ _ ⟨_, rfl, sc⟩; exact ⟨rfl, sq.call sc⟩)) ?_
   refine HL.p (Runs.fieldAddr (off := 37) (p := 37) fld84_4 rfl rfl rfl) ?_
   refine HL.ld 7 nagg37 rfl rfl (pa (.int .u64 iW) ((ci iT) ++ ((cl pG nO nP) ++ ((cb bC) ++ ((cu iU) ++ ((cu iV) ++ iv .u8 lG))))) ((ci iX) ++ (cl pH nQ nR)) (ho := by simp [lv, aw1])) ?_
   obtain ⟨n9, o0, o1, o2, o3, o4, o5, o6, aj3, H⟩ := H
   obtain ⟨x5, H⟩ := H
   obtain ⟨x6, H⟩ := H
   refine HL.call Wanted.none ent49 rfl (fun wq sq => (reliquaryref13_Adopt.calls av9 aw0 aj2 aj3).mono (by rintro _ _ ⟨_, _, rfl, sc⟩; exact ⟨rfl, sq.call sc⟩)) ?_
   refine HL.p (Runs.fieldAddr (off := 6) (p := 6) fld81_1 rfl rfl rfl) ?_
   refine HL.nil (fun av7 aj4 => ?_)
   refine WL.sm (new := ((ci iH) ++ ((cl pD nI nJ) ++ ((cl pE nK nL) ++ ((ci iI) ++ ((cb bB) ++ ((cl pF nM nN) ++ (iv .u8 n9 ++ ((ci o0) ++ ((cu o1) ++ ((cu o2) ++ ((cu o3) ++ (iv .u8 o4 ++ ((cu o5) ++ ((cu o6) ++ ((cu iP) ++ ((cu iQ) ++ (iv .u8 lE ++ ((cu iR) ++ ((cu iS) ++ iv .u8 lF)))))))))))))))))))) (i := 8) (pre := ((ci iH) ++ ((cl pD nI nJ) ++ ((cl pE nK nL) ++ ((ci iI) ++ ((cb bB) ++ (cl pF nM nN))))))) (mid := (iv .u8 lC ++ ((ci iJ) ++ ((cu iK) ++ ((cu iL) ++ ((cu iM) ++ (iv .u8 lD ++ ((cu iN) ++ (cu iO))))))))) (post := ((cu iP) ++ ((cu iQ) ++ (iv .u8 lE ++ ((cu iR) ++ ((cu iS) ++ iv .u8 lF)))))) (ms := (iv .u8 n9 ++ ((ci o0) ++ ((cu o1) ++ ((cu o2) ++ ((cu o3) ++ (iv .u8 o4 ++ ((cu o5) ++ (cu o6))))))))) aj4 rfl row62 (by first | rfl | simp only [aa, an, na, ca]) rfl rfl rfl (by simp [lv, x5, x6]) (by simp [lv, av9, aw0]) (one_cat (one_iv _ _) (one_cat oneU (one_cat oneU (one_cat oneU (one_cat oneU (one_cat (one_iv _ _) (one_cat oneU oneU))))))) (by first | rfl | simp only [aa, an, na, ca]) ?_
   intro aj5 G3
   try dsimp only [List.set] at G3
   refine wn ?_
   refine CW.su [(0, _), (6, _), (7, _), (8, _), (9, _)] ?_
   refine cr ?_
   refine WL.v (Runs.load_mid row81 rfl G3 (i := 8) rfl (pm [] ((ci iH) ++ ((cl pD nI nJ) ++ ((cl pE nK nL) ++ ((ci iI) ++ ((cb bB) ++ ((cl pF nM nN) ++ (iv .u8 n9 ++ ((ci o0) ++ ((cu o1) ++ ((cu o2) ++ ((cu o3) ++ (iv .u8 o4 ++ ((cu o5) ++ ((cu o6) ++ ((cu iP) ++ ((cu iQ) ++ (iv .u8 lE ++ ((cu iR) ++ ((cu iS) ++ iv .u8 lF))))))))))))))))))) [] (hm := by simp [lv, x5, x6, b1, ar1])) (by simp [lv, x5, x6, b1, ar1])) ?_
   refine WL.sw 6 G3 row81 rfl rfl rfl (hm := by simp [lv, x5, x6, b1, ar1]) ?_
   intro aj6 G4
   try dsimp only [List.set] at G4
   refine WL.as rfl (wn (CW.ret (QW.blk_r (QW.then_r ?_))))
   obtain ⟨rfl, rfl, rfl, rfl, rfl, rfl, rfl, rfl, rfl, rfl, rfl, rfl, rfl, rfl, rfl, rfl, rfl, rfl, rfl, rfl, rfl, rfl, rfl, rfl, rfl, rfl, rfl, rfl, rfl, rfl, rfl, rfl, rfl, rfl⟩ := H
   exact QW.retN2 rfl (Res.row rfl row81 G4 (i := 6) rfl (by simp [lv, x5, x6, b1, ar1])) (Res.tmp rfl) ⟨B7, t6, t7, t8, G0, t9, u0, u1, G1, u2, u3, u4, G2, pD, nI, nJ, pE, nK, nL, pF, nM, nN, (t4.trans u5), ai1, ai2, ai3, ai4, ai5, ai6, ai7, ai8, (aw2.mono (t4.trans u5).1 (t4.trans u5).1), (aw3.mono (t4.trans u5).1 (t4.trans u5).1), (aw4.mono (t4.trans u5).1 (t4.trans u5).1), x5, x6, b1, ar1, rfl, (St.pk (L := [_, _, _, _, _, _, _, _, _]) G4 [0, 1, 2, 3, 4])⟩
  have L4 : bC = false := (Bool.eq_false_iff.mpr L3)
  refine CW.cf rfl L4 (CW.skip (QW.then_n (cr (WL.mv rfl ?_))))
  refine WL.v (Runs.load_mid row39 rfl s4 (i := 0) rfl (pm [] ((cu iU) ++ ((cu iV) ++ iv .u8 lG)) [] (hm := by simp [lv, aw1])) (by simp [lv, aw1])) ?_
  refine WL.v (Runs.fieldAddr (off := 37) (p := 37) fld84_4 rfl rfl rfl) ?_
  refine WL.ld 2 nagg37 s4 rfl rfl (pa (.int .u64 iW) ((ci iT) ++ ((cl pG nO nP) ++ ((cb bC) ++ ((cu iU) ++ ((cu iV) ++ iv .u8 lG))))) ((ci iX) ++ (cl pH nQ nR)) (ho := by simp [lv, aw1])) ?_
  have L7 := (St.pk (L := [_, _, _, _, _, _, _, _, _]) s4 [4, 5, 6, 7, 8, 0, 1, 2, 3])
  have aj7 := St.hide (A := [_, _, _, _, _]) (B := [_, _, _, _]) L7
  obtain ⟨aj8, aj9, G5, G6, ak0, G7, G8, G9, H0, H1, H2, H3, H4, ak1, H⟩ := H
  refine wC ent15 rfl (journal_Journal_Adopt.calls T aj7 (aw5) aw6 (aw7) aw8 (aw9) ax0 ax1 ax2 aw1 ak1) ?_
  rintro _ ak2 ⟨B8, u6, u7, u9, H5, v0, v1, v2, H6, v3, v4, v5, H7, v6, ak3, ak4, ak5, ak6, ak7, ak8, ak9, al0, rfl, al1⟩
  have al2 := St.unhide (A := [_, _, _, _, _]) (B := [_, _, _, _]) al1; dsimp only [ec, en] at al2
  refine ⟨_, rfl, wn ?_⟩
  refine CW.su [(0, _), (6, _), (7, _), (8, _), (9, _), (17, _)] ?_
  refine CW.seq ?_
  refine CW.region_qt 8 wide (by kernel_rfl) al2 ?_
  refine HL.p (Runs.fieldAddr (off := 6) (p := 6) fld81_1 rfl rfl rfl) ?_
  refine HL.v (fun wq sq => (Runs.load_mid row62 rfl sq (i := 8) rfl (pm ((ci iH) ++ ((cl pD nI nJ) ++ ((cl pE nK nL) ++ ((ci iI) ++ ((cb bB) ++ (cl pF nM nN)))))) (iv .u8 lC ++ ((ci iJ) ++ ((cu iK) ++ ((cu iL) ++ ((cu iM) ++ (iv .u8 lD ++ ((cu iN) ++ (cu iO)))))))) ((cu iP) ++ ((cu iQ) ++ (iv .u8 lE ++ ((cu iR) ++ ((cu iS) ++ iv .u8 lF))))) (hm := by simp [lv, av9, aw0])) (by simp [lv, av9, aw0]))) ?_
  refine HL.v (fun wq sq => (Runs.load_mid row39 rfl sq (i := 5) rfl (pm [] ((cu iU) ++ ((cu iV) ++ iv .u8 lG)) [] (hm := by simp [lv, aw1])) (by simp [lv, aw1]))) ?_
  obtain ⟨U3, U4, U5, al3, H⟩ := H
  obtain ⟨al4, H⟩ := H
  refine HL.call Wanted.none ent23 rfl (fun wq sq => (reliquarylaw13_stateOf.calls aw1 al3).mono (by rintro _ _ ⟨_, rfl, sc⟩; exact ⟨rfl, sq.call sc⟩)) ?_
  refine HL.p (Runs.fieldAddr (off := 37) (p := 37) fld84_4 rfl rfl rfl) ?_
  refine HL.ld 7 nagg37 rfl rfl (pa (.int .u64 iW) ((ci iT) ++ ((cl pG nO nP) ++ ((cb bC) ++ ((cu iU) ++ ((cu iV) ++ iv .u8 lG))))) ((ci iX) ++ (cl pH nQ nR)) (ho := by simp [lv, aw1])) ?_
  obtain ⟨o7, o8, o9, p0, p1, p2, p3, p4, al5, H⟩ := H
  obtain ⟨x7, H⟩ := H
  obtain ⟨x8, H⟩ := H
  refine HL.call Wanted.none ent49 rfl (fun wq sq => (reliquaryref13_Adopt.calls av9 aw0 al4 al5).mono (by rintro _ _ ⟨_, _, rfl, sc⟩; exact ⟨rfl, sq.call sc⟩)) ?_
  refine HL.p (Runs.fieldAddr (off := 6) (p := 6) fld81_1 rfl rfl rfl) ?_
  refine HL.nil (fun av8 al6 => ?_)
  refine WL.sm (new := ((ci iH) ++ ((cl pD nI nJ) ++ ((cl pE nK nL) ++ ((ci iI) ++ ((cb bB) ++ ((cl pF nM nN) ++ (iv .u8 o7 ++ ((ci o8) ++ ((cu o9) ++ ((cu p0) ++ ((cu p1) ++ (iv .u8 p2 ++ ((cu p3) ++ ((cu p4) ++ ((cu iP) ++ ((cu iQ) ++ (iv .u8 lE ++ ((cu iR) ++ ((cu iS) ++ iv .u8 lF)))))))))))))))))))) (i := 8) (pre := ((ci iH) ++ ((cl pD nI nJ) ++ ((cl pE nK nL) ++ ((ci iI) ++ ((cb bB) ++ (cl pF nM nN))))))) (mid := (iv .u8 lC ++ ((ci iJ) ++ ((cu iK) ++ ((cu iL) ++ ((cu iM) ++ (iv .u8 lD ++ ((cu iN) ++ (cu iO))))))))) (post := ((cu iP) ++ ((cu iQ) ++ (iv .u8 lE ++ ((cu iR) ++ ((cu iS) ++ iv .u8 lF)))))) (ms := (iv .u8 o7 ++ ((ci o8) ++ ((cu o9) ++ ((cu p0) ++ ((cu p1) ++ (iv .u8 p2 ++ ((cu p3) ++ (cu p4))))))))) al6 rfl row62 (by first | rfl | simp only [aa, an, na, ca]) rfl rfl rfl (by simp [lv, x7, x8]) (by simp [lv, av9, aw0]) (one_cat (one_iv _ _) (one_cat oneU (one_cat oneU (one_cat oneU (one_cat oneU (one_cat (one_iv _ _) (one_cat oneU oneU))))))) (by first | rfl | simp only [aa, an, na, ca]) ?_
  intro al7 H8
  try dsimp only [List.set] at H8
  refine wn ?_
  refine CW.su [(0, _), (6, _), (7, _), (8, _), (9, _)] ?_
  refine cr ?_
  refine WL.v (Runs.load_mid row81 rfl H8 (i := 8) rfl (pm [] ((ci iH) ++ ((cl pD nI nJ) ++ ((cl pE nK nL) ++ ((ci iI) ++ ((cb bB) ++ ((cl pF nM nN) ++ (iv .u8 o7 ++ ((ci o8) ++ ((cu o9) ++ ((cu p0) ++ ((cu p1) ++ (iv .u8 p2 ++ ((cu p3) ++ ((cu p4) ++ ((cu iP) ++ ((cu iQ) ++ (iv .u8 lE ++ ((cu iR) ++ ((cu iS) ++ iv .u8 lF))))))))))))))))))) [] (hm := by simp [lv, x7, x8, b1, ar1])) (by simp [lv, x7, x8, b1, ar1])) ?_
  refine WL.sw 6 H8 row81 rfl rfl rfl (hm := by simp [lv, x7, x8, b1, ar1]) ?_
  intro al8 H9
  try dsimp only [List.set] at H9
  refine WL.as rfl (wn (CW.ret (QW.blk_r (QW.then_r ?_))))
  obtain ⟨rfl, rfl, rfl, rfl, rfl, rfl, rfl, rfl, rfl, rfl, rfl, rfl, rfl, rfl, rfl, rfl, rfl, rfl, rfl, rfl, rfl, rfl, rfl, rfl, rfl, rfl, rfl, rfl, rfl, rfl, rfl, rfl, rfl, rfl⟩ := H
  exact QW.retN2 rfl (Res.row rfl row81 H9 (i := 6) rfl (by simp [lv, x7, x8, b1, ar1])) (Res.tmp rfl) ⟨B8, u6, u7, u9, H5, v0, v1, v2, H6, v3, v4, v5, H7, pD, nI, nJ, pE, nK, nL, pF, nM, nN, v6, ak3, ak4, ak5, ak6, ak7, ak8, ak9, al0, (aw2.mono v6.1 v6.1), (aw3.mono v6.1 v6.1), (aw4.mono v6.1 v6.1), x7, x8, b1, ar1, rfl, (St.pk (L := [_, _, _, _, _, _, _, _, _]) H9 [0, 1, 2, 3, 4])⟩
 have L2 : ((bits .and .i64 iT 7) == 5) = false := (beq_eq_false_iff_ne.mpr L1)
 refine CW.cf rfl L2 (cr (WL.v (Runs.eql rfl rfl rfl) (WL.as rfl (wn ?_))))
 refine CW.su [(0, _), (6, _), (7, _), (8, _), (9, _), (108, _)] ?_
 rcases H with ⟨L8, H⟩ | ⟨L8, H⟩
 ·have L9 : ((bits .and .i64 iT 7) == 6) = true := (beq_iff_eq.mpr L8)
  refine CW.ct rfl L9 (cr (WL.mv rfl (WL.v (Runs.fieldAddr (off := 38) (p := 38) fld84_5 rfl rfl rfl) ?_)))
  refine WL.ld 1 nagg3 j5 rfl rfl (pa (.int .i64 iX) ((ci iT) ++ ((cl pG nO nP) ++ ((cb bC) ++ ((cu iU) ++ ((cu iV) ++ (iv .u8 lG ++ (cu iW))))))) (cl pH nQ nR) (ho := by simp [lv, aw1])) ?_
  refine WL.v (Runs.band rfl rfl rfl) ?_
  have M0 := (St.pk (L := [_, _, _, _, _, _, _, _]) j5 [4, 5, 6, 7, 0, 1, 2, 3])
  have al9 := St.hide (A := [_, _, _, _]) (B := [_, _, _, _]) M0
  obtain ⟨am0, am1, v7, v8, am2, am3, H⟩ := H
  refine wC ent50 rfl (disk_Disk_Stop.calls T al9 (aw5) aw6 (aw7) aw8 (aw9) ax0 am3) ?_
  rintro _ M1 ⟨B9, j9, k0, k1, v9, k2, k3, k4, w0, k5, k6, k7, w2, w3, am4, am5, am6, am7, am8, am9, rfl, an0⟩
  have M2 := St.unhide (A := [_, _, _, _]) (B := [_, _, _, _]) an0; dsimp only [ec, en] at M2
  refine ⟨_, rfl, wn ?_⟩
  refine CW.su [(0, _), (6, _), (7, _), (8, _), (9, _)] ?_
  refine cr (WL.v (Runs.fieldAddr (off := 0) (p := 0) fld81_0 rfl rfl rfl) (WL.v (Runs.load_mid row57 rfl M2 (i := 6) rfl (pm [] ((ci iH) ++ ((cl pD nI nJ) ++ ((cl pE nK nL) ++ ((ci iI) ++ ((cb bB) ++ (cl pF nM nN)))))) (iv .u8 lC ++ ((ci iJ) ++ ((cu iK) ++ ((cu iL) ++ ((cu iM) ++ (iv .u8 lD ++ ((cu iN) ++ ((cu iO) ++ ((cu iP) ++ ((cu iQ) ++ (iv .u8 lE ++ ((cu iR) ++ ((cu iS) ++ iv .u8 lF)))))))))))))) rfl) (WL.v (Runs.fieldAddr (off := 38) (p := 38) fld84_5 rfl rfl rfl) ?_)))
  refine WL.ld 5 nagg3 M2 rfl rfl (pa (.int .i64 iX) ((ci iT) ++ ((cl pG nO nP) ++ ((cb bC) ++ ((cu iU) ++ ((cu iV) ++ (iv .u8 lG ++ (cu iW))))))) (cl pH nQ nR) (ho := by simp [lv, aw1])) ?_
  refine WL.v (Runs.band rfl rfl rfl) ?_
  have an1 := St.hide (A := []) (B := [_, _, _, _, _, _, _, _]) M2
  obtain ⟨p5, an2, an3, p6, p7, an4, an5, H⟩ := H
  refine wC ent51 rfl (reliquaryref06_Stop.calls B9 an1 (aw2.mono w3.1 w3.1) (aw3.mono w3.1 w3.1) (aw4.mono w3.1 w3.1) an5) ?_
  rintro _ an6 ⟨C0, p8, p9, q0, q1, q2, q3, q4, q5, q6, I0, an7, an8, an9, rfl, ao0⟩
  have ao1 := St.unhide (A := []) (B := [_, _, _, _, _, _, _, _]) ao0; dsimp only [ec, en] at ao1
  refine ⟨_, rfl, WL.v (Runs.fieldAddr (off := 0) (p := 0) fld81_0 rfl rfl rfl) ?_⟩
  refine WL.sm (new := ((ci p5) ++ ((cl p8 p9 q0) ++ ((cl q1 q2 q3) ++ ((ci p6) ++ ((cb p7) ++ ((cl q4 q5 q6) ++ (iv .u8 lC ++ ((ci iJ) ++ ((cu iK) ++ ((cu iL) ++ ((cu iM) ++ (iv .u8 lD ++ ((cu iN) ++ ((cu iO) ++ ((cu iP) ++ ((cu iQ) ++ (iv .u8 lE ++ ((cu iR) ++ ((cu iS) ++ iv .u8 lF)))))))))))))))))))) (i := 6) (pre := (([] : Cs))) (mid := ((ci iH) ++ ((cl pD nI nJ) ++ ((cl pE nK nL) ++ ((ci iI) ++ ((cb bB) ++ (cl pF nM nN))))))) (post := (iv .u8 lC ++ ((ci iJ) ++ ((cu iK) ++ ((cu iL) ++ ((cu iM) ++ (iv .u8 lD ++ ((cu iN) ++ ((cu iO) ++ ((cu iP) ++ ((cu iQ) ++ (iv .u8 lE ++ ((cu iR) ++ ((cu iS) ++ iv .u8 lF)))))))))))))) (ms := ((ci p5) ++ ((cl p8 p9 q0) ++ ((cl q1 q2 q3) ++ ((ci p6) ++ ((cb p7) ++ (cl q4 q5 q6))))))) ao1 rfl row57 (by first | rfl | simp only [aa, an, na, ca]) rfl rfl rfl rfl rfl (one_cat oneU (one_cat oneU (one_cat oneU (one_cat oneU (one_cat oneU oneU))))) rfl ?_
  intro ao2 I1
  try dsimp only [List.set] at I1
  refine wn ?_
  refine CW.su [(0, _), (6, _), (7, _), (8, _), (9, _)] ?_
  refine cr ?_
  refine WL.v (Runs.load_mid row81 rfl I1 (i := 6) rfl (pm [] ((ci p5) ++ ((cl p8 p9 q0) ++ ((cl q1 q2 q3) ++ ((ci p6) ++ ((cb p7) ++ ((cl q4 q5 q6) ++ (iv .u8 lC ++ ((ci iJ) ++ ((cu iK) ++ ((cu iL) ++ ((cu iM) ++ (iv .u8 lD ++ ((cu iN) ++ ((cu iO) ++ ((cu iP) ++ ((cu iQ) ++ (iv .u8 lE ++ ((cu iR) ++ ((cu iS) ++ iv .u8 lF))))))))))))))))))) [] (hm := by simp [lv, av9, aw0, b1, ar1])) (by simp [lv, av9, aw0, b1, ar1])) ?_
  refine WL.sw 4 I1 row81 rfl rfl rfl (hm := by simp [lv, av9, aw0, b1, ar1]) ?_
  intro ao3 I2
  try dsimp only [List.set] at I2
  refine WL.as rfl (wn (CW.ret (QW.blk_r (QW.then_r ?_))))
  obtain ⟨rfl, rfl, rfl, rfl, rfl, rfl, rfl, rfl, rfl, rfl, rfl, rfl, rfl, rfl, rfl, rfl, rfl, rfl, rfl, rfl, rfl, rfl, rfl, rfl, rfl, rfl, rfl, rfl, rfl, rfl, rfl, rfl, rfl, rfl⟩ := H
  exact QW.retN2 rfl (Res.row rfl row81 I2 (i := 4) rfl (by simp [lv, av9, aw0, b1, ar1])) (Res.tmp rfl) ⟨C0, j9, k0, k1, v9, k2, k3, k4, w0, k5, k6, k7, w2, p8, p9, q0, q1, q2, q3, q4, q5, q6, (w3.trans I0), am4, (am5.mono I0.1), am6, (am7.mono I0.1), am8, (am9.mono I0.1), ax1, ax2, an7, an8, an9, av9, aw0, b1, ar1, rfl, (St.pk (L := [_, _, _, _, _, _, _, _]) I2 [7, 0, 1, 2, 3])⟩
 have L9 : ((bits .and .i64 iT 7) == 6) = false := (beq_eq_false_iff_ne.mpr L8)
 refine CW.cf rfl L9 (CW.skip (QW.blk_n (QW.then_n (cr (WL.mv rfl (WL.v (Runs.fieldAddr (off := 39) (p := 39) fld84_6 rfl rfl rfl) ?_))))))
 refine WL.ld 1 nagg82 j5 rfl rfl (pa (.slice pH nQ nR) ((ci iT) ++ ((cl pG nO nP) ++ ((cb bC) ++ ((cu iU) ++ ((cu iV) ++ (iv .u8 lG ++ ((cu iW) ++ (ci iX)))))))) [] (ho := by simp [lv, aw1])) ?_
 have M3 := (St.pk (L := [_, _, _, _, _, _, _, _]) j5 [4, 5, 6, 7, 0, 1, 2, 3])
 have ao4 := St.hide (A := [_, _, _, _]) (B := [_, _, _, _]) M3
 obtain ⟨ao5, ao6, w4, w5, ao7, ao8, H⟩ := H
 refine wC ent52 rfl (disk_Disk_Crash.calls T ao4 (aw5) aw6 (aw7) aw8 (aw9) ax0 (ax6.mono (memo_T (B := [_, _, _, _]) ii)) ao8) ?_
 rintro _ M4 ⟨C1, k8, k9, l0, w6, l1, l2, l3, w7, l4, l5, l6, w8, s1, ao9, ap0, ap1, ap2, ap3, ap4, rfl, ap5⟩
 have M5 := St.unhide (A := [_, _, _, _]) (B := [_, _, _, _]) ap5; dsimp only [ec, en] at M5
 refine ⟨_, rfl, wn (CW.sub [(6, _), (7, _), (8, _), (9, _)] ⟨rfl, rfl, rfl, rfl, trivial⟩ (cr (WL.v (Runs.fieldAddr (off := 0) (p := 0) fld81_0 rfl rfl rfl) (WL.v (Runs.load_mid row57 rfl M5 (i := 6) rfl (pm [] ((ci iH) ++ ((cl pD nI nJ) ++ ((cl pE nK nL) ++ ((ci iI) ++ ((cb bB) ++ (cl pF nM nN)))))) (iv .u8 lC ++ ((ci iJ) ++ ((cu iK) ++ ((cu iL) ++ ((cu iM) ++ (iv .u8 lD ++ ((cu iN) ++ ((cu iO) ++ ((cu iP) ++ ((cu iQ) ++ (iv .u8 lE ++ ((cu iR) ++ ((cu iS) ++ iv .u8 lF)))))))))))))) rfl) (WL.v (Runs.fieldAddr (off := 39) (p := 39) fld84_6 rfl rfl rfl) ?_)))))⟩
 refine WL.ld 5 nagg82 M5 rfl rfl (pa (.slice pH nQ nR) ((ci iT) ++ ((cl pG nO nP) ++ ((cb bC) ++ ((cu iU) ++ ((cu iV) ++ (iv .u8 lG ++ ((cu iW) ++ (ci iX)))))))) [] (ho := by simp [lv, aw1])) ?_
 have ap6 := St.hide (A := []) (B := [_, _, _, _, _, _, _, _]) M5
 obtain ⟨q7, ap7, ap8, q8, q9, ap9, aq0, H⟩ := H
 refine wC ent53 rfl (reliquaryref06_Crash.calls C1 ap6 (aw2.mono s1.1 s1.1) (aw3.mono s1.1 s1.1) (aw4.mono s1.1 s1.1) (ax6.mono (memo_T (B := [_, _, _, _, _, _, _, _]) s1.1)) aq0) ?_
 rintro _ aq1 ⟨C2, r0, r1, r2, r3, r4, r5, r6, r7, r8, I3, aq2, aq3, aq4, rfl, aq5⟩
 have aq6 := St.unhide (A := []) (B := [_, _, _, _, _, _, _, _]) aq5; dsimp only [ec, en] at aq6
 refine ⟨_, rfl, WL.v (Runs.fieldAddr (off := 0) (p := 0) fld81_0 rfl rfl rfl) ?_⟩
 refine WL.sm (new := ((ci q7) ++ ((cl r0 r1 r2) ++ ((cl r3 r4 r5) ++ ((ci q8) ++ ((cb q9) ++ ((cl r6 r7 r8) ++ (iv .u8 lC ++ ((ci iJ) ++ ((cu iK) ++ ((cu iL) ++ ((cu iM) ++ (iv .u8 lD ++ ((cu iN) ++ ((cu iO) ++ ((cu iP) ++ ((cu iQ) ++ (iv .u8 lE ++ ((cu iR) ++ ((cu iS) ++ iv .u8 lF)))))))))))))))))))) (i := 6) (pre := (([] : Cs))) (mid := ((ci iH) ++ ((cl pD nI nJ) ++ ((cl pE nK nL) ++ ((ci iI) ++ ((cb bB) ++ (cl pF nM nN))))))) (post := (iv .u8 lC ++ ((ci iJ) ++ ((cu iK) ++ ((cu iL) ++ ((cu iM) ++ (iv .u8 lD ++ ((cu iN) ++ ((cu iO) ++ ((cu iP) ++ ((cu iQ) ++ (iv .u8 lE ++ ((cu iR) ++ ((cu iS) ++ iv .u8 lF)))))))))))))) (ms := ((ci q7) ++ ((cl r0 r1 r2) ++ ((cl r3 r4 r5) ++ ((ci q8) ++ ((cb q9) ++ (cl r6 r7 r8))))))) aq6 rfl row57 (by first | rfl | simp only [aa, an, na, ca]) rfl rfl rfl rfl rfl (one_cat oneU (one_cat oneU (one_cat oneU (one_cat oneU (one_cat oneU oneU))))) rfl ?_
 intro aq7 I4
 try dsimp only [List.set] at I4
 refine wn (CW.sub [(6, _), (8, _), (9, _)] ⟨rfl, rfl, rfl, trivial⟩ (cr ?_))
 refine WL.v (Runs.load_mid row81 rfl I4 (i := 6) rfl (pm [] ((ci q7) ++ ((cl r0 r1 r2) ++ ((cl r3 r4 r5) ++ ((ci q8) ++ ((cb q9) ++ ((cl r6 r7 r8) ++ (iv .u8 lC ++ ((ci iJ) ++ ((cu iK) ++ ((cu iL) ++ ((cu iM) ++ (iv .u8 lD ++ ((cu iN) ++ ((cu iO) ++ ((cu iP) ++ ((cu iQ) ++ (iv .u8 lE ++ ((cu iR) ++ ((cu iS) ++ iv .u8 lF))))))))))))))))))) [] (hm := by simp [lv, av9, aw0, b1, ar1])) (by simp [lv, av9, aw0, b1, ar1])) ?_
 refine WL.sw 4 I4 row81 rfl rfl rfl (hm := by simp [lv, av9, aw0, b1, ar1]) ?_
 intro aq8 I5
 try dsimp only [List.set] at I5
 refine WL.as rfl (wn (CW.ret ?_))
 obtain ⟨rfl, rfl, rfl, rfl, rfl, rfl, rfl, rfl, rfl, rfl, rfl, rfl, rfl, rfl, rfl, rfl, rfl, rfl, rfl, rfl, rfl, rfl, rfl, rfl, rfl, rfl, rfl, rfl, rfl, rfl, rfl, rfl, rfl, rfl⟩ := H
 exact QW.retN2 rfl (Res.row rfl row81 I5 (i := 4) rfl (by simp [lv, av9, aw0, b1, ar1])) (Res.tmp rfl) ⟨C2, k8, k9, l0, w6, l1, l2, l3, w7, l4, l5, l6, w8, r0, r1, r2, r3, r4, r5, r6, r7, r8, (s1.trans I3), ao9, (ap0.mono I3.1), ap1, (ap2.mono I3.1), ap3, (ap4.mono I3.1), ax1, ax2, aq2, aq3, aq4, av9, aw0, b1, ar1, rfl, (St.pk (L := [_, _, _, _, _, _, _, _]) I5 [7, 0, 1, 2, 3])⟩
def reliquaryref13_Empty.rel (a6 : List Int) (a7 a0 a1 a2 : Int) (a8 : List Int) (a9 b0 a3 a4 : Int) (a5 : List Int) : Prop := (a0 ≠ 0 ∧ a3 = Int.tmod (u64.wrap (a1 + a2)) a0 ∧ a4 = 0 ∧ a5 = z32)
theorem reliquaryref13_Empty.calls (a9 : lA.length = 32) (b0 : lB.length = 32) (H : reliquaryref13_Empty.rel lA iA iB iC iD lB iE iF iG iH lC) :
  Calls prog 29 #[.agg (iv .u8 lA ++ ((ci iA) ++ ((cu iB) ++ ((cu iC) ++ ((cu iD) ++ (iv .u8 lB ++ ((cu iE) ++ (cu iF)))))))).toArray] w fun e w' => lC.length = 32 ∧ e = .returned (.agg ((cu iG) ++ ((cu iH) ++ iv .u8 lC)).toArray) ∧ St w w' [] := by
 refine CW.en func29 rfl 14 [_] (CW.sub [(0, _)] ⟨rfl, trivial⟩ ?_)
 have st0 := St.refl w
 refine cr (WL.box st0 rfl rfl ?_)
 intro a3 a7 a4
 refine WL.alloc a4 zero60 ?_
 intro a2 a8 a0
 refine WL.nx (WL.v (Runs.fieldAddr (off := 34) (p := 34) fld62_3 rfl rfl rfl) (WL.v (Runs.fieldAddr (off := 0) (p := 34) fld60_0 rfl rfl rfl) ?_))
 refine WL.ld 1 nagg37 a0 rfl rfl (pa (.int .u64 iC) (iv .u8 lA ++ ((ci iA) ++ (cu iB))) ((cu iD) ++ (iv .u8 lB ++ ((cu iE) ++ (cu iF)))) (ho := by simp [lv, a9])) ?_
 refine WL.v (Runs.fieldAddr (off := 34) (p := 34) fld62_3 rfl rfl rfl) (WL.v (Runs.fieldAddr (off := 1) (p := 35) fld60_1 rfl rfl rfl) ?_)
 refine WL.ld 1 nagg37 a0 rfl rfl (pa (.int .u64 iD) (iv .u8 lA ++ ((ci iA) ++ ((cu iB) ++ (cu iC)))) (iv .u8 lB ++ ((cu iE) ++ (cu iF))) (ho := by simp [lv, a9])) ?_
 refine WL.v (Runs.add rfl rfl rfl) (WL.v (Runs.fieldAddr (off := 33) (p := 33) fld62_2 rfl rfl rfl) ?_)
 refine WL.ld 1 nagg37 a0 rfl rfl (pa (.int .u64 iB) (iv .u8 lA ++ (ci iA)) ((cu iC) ++ ((cu iD) ++ (iv .u8 lB ++ ((cu iE) ++ (cu iF))))) (ho := by simp [lv, a9])) ?_
 obtain ⟨a5, H⟩ := H
 refine WL.v (Runs.rem rfl rfl a5 rfl) ?_
 refine WL.v (Runs.build_struct (ps := [(0, 1), (1, 1), (2, 32)]) (cs := ((cu (Int.tmod (u64.wrap (iC + iD)) iB)) ++ ((cu 0) ++ iv .u8 (z32)))) plc60 zero60 rfl (by refine Fills.cons (o := 0) (ms := ((cu (Int.tmod (u64.wrap (iC + iD)) iB)))) (show _ = some (0, ((cu (Int.tmod (u64.wrap (iC + iD)) iB))).length) by rw [show ((cu (Int.tmod (u64.wrap (iC + iD)) iB))).length = 1 from rfl] <;> rfl) rfl (leL (m := 1) (n := 34) rfl (by simp [lv])) ?_; rw [show layV ((cu 0) ++ ((cu 0) ++ iv .u8 (z32))) 0 ((cu (Int.tmod (u64.wrap (iC + iD)) iB))) = ((cu (Int.tmod (u64.wrap (iC + iD)) iB)) ++ ((cu 0) ++ iv .u8 (z32))) from (layV_mid (pre := (([] : Cs))) (mid := ((cu 0))) (post := ((cu 0) ++ iv .u8 (z32))) (by first | rfl | simp only [aa, an, na, ca]) rfl (Eq.trans (b := 1) rfl (Eq.symm rfl))).trans (by first | rfl | simp only [aa, an, na, ca])]; exact Fills.nil)) ?_
 refine WL.sw 0 a0 row60 rfl rfl rfl ?_
 intro a6 a1
 try dsimp only [List.set] at a1
 refine wn (CW.ret ?_)
 obtain ⟨rfl, rfl, rfl⟩ := H
 exact QW.retr rfl row60 rfl a1 (i := 0) rfl (by simp [lv]) ⟨(List.length_replicate ..), rfl, a1.pick [] (by decide)⟩
def disk_Disk_Image.L1 (a4 : List R25) (a5 : List R124) (a6 : Int) (a7 : Bool) (a8 : List R48) (a9 : List R25) (b0 : List R124) (b1 : Int) (b2 : Bool) (b3 : List R48) (lr0 : List R25) : Nat → (List R25) → Int → Prop
 | 0, _, _ => False
 | kL1 + 1, a2, a0 => ((a0 < (a4.length : Int) ∧ ((0 ≤ a0 ∧ a0 < (a4.length : Int)) ∧ (∃ a3, slices_Clone_s_byte_byte.rel (gx a4 (a0.toNat)) a3 ∧ (∃ a1 : List R25, a1 = a2 ++ ([a3] : List R25) ∧ (a1.length ≤ 1099511627776 ∧ disk_Disk_Image.L1 a4 a5 a6 a7 a8 a9 b0 b1 b2 b3 lr0 kL1 a1 (i64.wrap (a0 + 1))))))) ∨ (¬ (a0 < (a4.length : Int)) ∧ a9 = a4 ∧ b0 = a5 ∧ b1 = a6 ∧ b2 = a7 ∧ b3 = a8 ∧ lr0 = a2))
def disk_Disk_Image.rel (a0 : List R25) (a1 : List R124) (a2 : Int) (a3 : Bool) (a4 : List R48) (a5 : List R25) (a6 : List R124) (a7 : Int) (a8 : Bool) (a9 : List R48) (lr0 : List R25) : Prop := (∃ k_ : Nat, disk_Disk_Image.L1 a0 a1 a2 a3 a4 a5 a6 a7 a8 a9 lr0 k_ ([] : List R25) 0)
theorem disk_Disk_Image.calls (T : Pool) (st0 : St w w1 (oD nA pA nB nC pB nD nE iA bA pC nF nG 95 :: .sl pA nC nB xA 25 1 :: .sl pB nE nD xB 124 2 :: .sl pC nG nF xC 48 2 :: (T ++ R))) (b0 : nB = qA.length) (g5 : HRs T (f25 w) xA qA) (h5 : nD = rA.length) (h6 : HRs T (f124 w) xB rA) (h7 : nF = sA.length) (h8 : HRs T (f48 w) xC sA) (H : disk_Disk_Image.rel qA rA iA bA sA qB rB iB bB sB qC) :
  Calls prog 27 #[.pointer (sp nA)] w1 fun e w' => ∃ T' g6 g2 g7 g8 g9 g3 h0 h1 h2 g4 h3 h4 Ar0 nr0 cr0 xr0, Pl T T' ∧ g2 = qB.length ∧ HRs T' (f25 w) g8 qB ∧ g3 = rB.length ∧ HRs T' (f124 w) h1 rB ∧ g4 = sB.length ∧ HRs T' (f48 w) h4 sB ∧ nr0 = qC.length ∧ HRs T' (f25 w) xr0 qC ∧ e = .returned (.slice Ar0 nr0 cr0) ∧ St w w' (oD nA g6 g2 g7 g9 g3 h0 iB bB h2 g4 h3 95 :: .sl g6 g7 g2 g8 25 1 :: .sl g9 h0 g3 h1 124 2 :: .sl h2 h3 g4 h4 48 2 :: .sl Ar0 cr0 nr0 xr0 25 1 :: (T' ++ R)) := by
 refine CW.en func27 rfl 24 [_] (CW.sub [(0, _)] ⟨rfl, trivial⟩ (cr (WL.as rfl (wn (CW.seq (cr (WL.mv rfl (WL.v (Runs.eql_ptr underlying30 rfl rfl rfl) (wn (CW.cf rfl rfl (CW.skip (QW.then_n (cr (WL.as rfl (wn (CW.seq (cr (WL.mv rfl (WL.v (Runs.nilCheck rfl) ?_)))))))))))))))))))
 refine WL.v (Runs.fieldAddr (off := 0) (p := 0) fld95_0 rfl rfl rfl) (WL.ld 0 nagg76 st0 rfl rfl (pa (.slice pA nB nC) [] ((cl pB nD nE) ++ ((ci iA) ++ ((cb bA) ++ (cl pC nF nG))))) ?_)
 refine WL.v (Runs.len_sl underlying76 rfl (by rw [b0])) ?_
 refine WL.mv rfl (wn ?_)
 refine CW.su [(2, _), (3, _), (11, _), (12, _), (13, _)] ?_
 refine CW.block ?_
 have b8 := st0.nil_sl 25 1
 have b8 : St w w1 (.sl none 0 0 ([] : Cs) 25 1 :: oD nA pA nB nC pB nD nE iA bA pC nF nG 95 :: .sl pA nC nB xA 25 1 :: .sl pB nE nD xB 124 2 :: .sl pC nG nF xC 48 2 :: (T ++ R)) := b8
 obtain ⟨e5, H⟩ := H
 refine CW.su [(2, _), (3, _), (11, _), (12, _), (13, _)] ?_
 refine CW.lp (fun kL1 l_ w_ => ∃ a6 a1 a2 a0 a3 b1 a4, l_ = [(2, .slice none 0 0), (3, .slice a1 a0 a2), (11, .slice pA nB nC), (12, .int .i64 (qA.length : Int)), (13, .int .i64 a4)] ∧ disk_Disk_Image.L1 qA rA iA bA sA qB rB iB bB sB qC kL1 b1 a4 ∧ (Pl T a6) ∧ (a0 = b1.length) ∧ (HRs a6 (f25 w) a3 b1) ∧ St w w_ (.sl a1 a2 a0 a3 25 1 :: oD nA pA nB nC pB nD nE iA bA pC nF nG 95 :: .sl pA nC nB xA 25 1 :: .sl pB nE nD xB 124 2 :: .sl pC nG nF xC 48 2 :: (a6 ++ R))) (k := e5) ⟨T, none, 0, 0, ([] : Cs), ([] : List R25), 0, rfl, H, Pl.refl, rfl, (HRs.nil : HRs T (f25 w) [] []), b8⟩ ?_
 rintro kL1 g0 e6 ⟨a6, a1, a2, a0, a3, b1, a4, rfl, H, a8, d0, d1, b2⟩
 refine cr (WL.v (Runs.lss rfl rfl rfl) (wn (CW.seq ?_)))
 rcases H with ⟨b9, H⟩ | ⟨b9, H⟩
 ·have c0 := (decide_eq_true b9)
  refine CW.ct rfl c0 (CW.skip (QW.then_n (CW.seq (CW.block (cr ?_)))))
  obtain ⟨⟨e7, e8⟩, H⟩ := H
  obtain ⟨g1, d2, e9, f0, f1⟩ := el_get (i := (a4).toNat) (b2.src_sl (k := 2) rfl) (g5.mono a8.1) (fz25 w) (by decide) (by omega)
  obtain ⟨d3, d4, d5, c1, c2⟩ := inv25 f1
  replace c1 : e9 = (cl d3 d4 d5) := c1
  subst c1
  refine WL.v (Runs.indexAddr underlying76 cells25 (by decide) rfl d2 rfl e7 (by rw [show nB = qA.length from b0]; exact e8) (o := (a4.toNat) * 1) (by first | rfl | omega)) ?_
  refine WL.v (Runs.load nagg25 rfl (Src.cellAt (j := 0) (Src.cut (b2.src_sl (k := 2) rfl) d2 f0) rfl)) (WL.as rfl (wn (CW.region (WL.mv rfl (WL.mv rfl ?_)))))
  obtain ⟨a7, f2, H⟩ := H
  refine wC ent48 rfl (slices_Clone_s_byte_byte.calls ((c2.2.2.at b2 (mem_T (A := [_, _, _, _, _]) ii))) (c2.1) (c2.2.1) f2) ?_
  rintro _ d6 ⟨b3, b4, b5, f3, rfl, f4⟩
  have d7 := b2.call f4
  refine ⟨_, rfl, ?_⟩
  have hb_45c := d7.cap (i := 0) rfl
  obtain ⟨a5, d8, f5, c3⟩ := St.freeze (A := []) (B := [_, _, _, _, _]) (T := a6) (R := R) d7
  have f6 : HB w a5 b3 b5 b4 (iv .u8 a7) a7.length := ⟨f3, hb_45c, Hd.of_sl f5⟩
  try dsimp only [List.set, ec, en] at c3
  refine WL.buildSl [.slice b3 b5 b4] c3 underlying76 elem25 rfl rfl (by decide) (by decide) (by simp [Value.cells]) ?_
  intro c4 d9 a9
  try dsimp only [List.set, ec, en] at a9
  obtain ⟨b6, e0⟩ : ∃ x_ : Cs, x_ = [.slice b3 b5 b4] := ⟨_, rfl⟩
  have c5 : HRs a5 (f25 w) b6 ([a7] : List R25) := by rw [e0]; exact (HRs.one (.cons ⟨_, _, _, rfl, f6⟩ .nil))
  (try dsimp only [List.set, ec, en] at a9); rw [← e0] at a9
  obtain ⟨c6, e1, H⟩ := H
  obtain ⟨f7, H⟩ := H
  obtain ⟨c7, c8⟩ : ∃ n_ : Nat, n_ = c6.length := ⟨_, rfl⟩
  refine WL.appendR (i := 1) (N := c7) (news := b6) Wanted.none a9 rfl underlying76 elemS25 rfl rfl (a9.src_sl (k := 0) rfl) (by have h1_ := (c5).length (fz25 w); have h2_ : 1 = ([a7] : List R25).length := rfl; rw [h1_, h2_]) (HLs.one c5) (by decide) (by have h1_ : a0 = b1.length := d0; have h2_ : 1 = ([a7] : List R25).length := rfl; rw [c8, e1, List.length_append]; omega) (by rw [c8]; exact f7) ?_
  intro e2 e3 f8 b7
  obtain ⟨c9, e4⟩ : ∃ x_ : Cs, x_ = a3 ++ b6 := ⟨_, rfl⟩
  have f9 : HRs a5 (f25 w) c9 c6 := by rw [e4, e1]; exact HRs.append (d1.mono d8.1) c5
  (try dsimp only [List.set, ec, en] at b7); rw [← e4] at b7
  refine WL.as rfl (WL.nil (QW.blk_n (QW.then_n (CW.region (WL.v (Runs.add rfl rfl rfl) (WL.mv rfl (WL.nil ?_)))))))
  have b7' := (St.pk (L := [_, _, _, _, _, _]) b7 [1, 2, 3, 4, 5])
  exact QW.a ⟨a5, e2, e3, c7, c9, c6, i64.wrap (a4 + 1), rfl, H, (a8.trans d8), c8, f9, b7'⟩
 have c0 := (decide_eq_false b9)
 refine CW.cf rfl c0 (CW.exit (QW.then_x (QW.then_x (QW.blk_x (QW.then_n (cr (WL.mv rfl (WL.as rfl (wn (CW.ret ?_))))))))))
 obtain ⟨rfl, rfl, rfl, rfl, rfl, rfl⟩ := H
 exact QW.ret1 rfl rfl ⟨a6, pA, nB, nC, xA, pB, nD, nE, xB, pC, nF, nG, xC, a1, a0, a2, a3, a8, b0, (g5.mono a8.1), h5, (h6.mono a8.1), h7, (h8.mono a8.1), d0, d1, rfl, (St.pk (L := [_, _, _, _, _]) b2 [1, 2, 3, 4, 0])⟩
def reliquaryref06_last.L1 (l0 : List R145) (a1 : Int) (ar0 : ByteArray) (ar1 : Bool) : Nat → ByteArray → Bool → Int → Prop
 | 0, _, _, _ => False
 | kL1 + 1, a2, a3, a0 => ((a0 ≥ 0 ∧ ((0 ≤ a0 ∧ a0 < (l0.length : Int)) ∧ ((((gx l0 (a0.toNat)).1) = a1 ∧ ((0 ≤ a0 ∧ a0 < (l0.length : Int)) ∧ ar0 = (gx l0 (a0.toNat)).2 ∧ ar1 = true)) ∨ (¬ (((gx l0 (a0.toNat)).1) = a1) ∧ reliquaryref06_last.L1 l0 a1 ar0 ar1 kL1 a2 a3 (i64.wrap (a0 - 1)))))) ∨ (¬ (a0 ≥ 0) ∧ ar0 = (⟨#[]⟩ : ByteArray) ∧ ar1 = false))
def reliquaryref06_last.rel (l0 : List R145) (a1 : Int) (ar0 : ByteArray) (ar1 : Bool) : Prop := (∃ k_ : Nat, reliquaryref06_last.L1 l0 a1 ar0 ar1 k_ (⟨#[]⟩ : ByteArray) false (i64.wrap ((l0.length : Int) - 1)))
theorem reliquaryref06_last.calls (T : Pool) (st0 : St w w1 ((T ++ R))) (hb0 : HS w (T ++ R) T pA nA nB (f145 w) vA) (H : reliquaryref06_last.rel vA iA yA bA) :
  Calls prog 80 #[.slice pA nA nB, .int .i64 iA] w1 fun e w' => ∃ T' , Pl T T' ∧ e = .returned (.tuple #[.string yA, .bool bA]) ∧ St w w' ((T' ++ R)) := by
 refine CW.en func80 rfl 26 [_, _] (CW.sub [(0, _), (1, _)] ⟨rfl, rfl, trivial⟩ (cr (WL.as rfl (WL.as rfl (wn (CW.seq (cr (WL.mv rfl ?_))))))))
 refine WL.v (Runs.len_sl underlying54 rfl (by rw [hb0.1])) ?_
 refine WL.v (Runs.sub rfl rfl rfl) (WL.as rfl (wn (CW.block ?_)))
 obtain ⟨b7, H⟩ := H
 refine CW.su [(0, _), (1, _), (4, _), (5, _), (6, _)] ?_
 refine CW.lp (fun kL1 l_ w_ => ∃ a4 a5 a6 a0, l_ = [(0, .slice pA nA nB), (1, .int .i64 iA), (4, .string a5), (5, .bool a6), (6, .int .i64 a0)] ∧ reliquaryref06_last.L1 vA iA yA bA kL1 a5 a6 a0 ∧ (Pl T a4) ∧ St w w_ ((a4 ++ R))) (k := b7) ⟨T, (⟨#[]⟩ : ByteArray), false, i64.wrap ((vA.length : Int) - 1), rfl, H, Pl.refl, st0⟩ ?_
 rintro kL1 d1 d2 ⟨a4, a5, a6, a0, rfl, H, a2, a3⟩
 refine CW.seq (cr (WL.mv rfl (WL.v (Runs.geq rfl rfl rfl) (wn ?_))))
 rcases H with ⟨a7, H⟩ | ⟨a7, H⟩
 ·have a8 := (decide_eq_true a7)
  refine CW.ct rfl a8 (CW.skip (QW.then_n (CW.seq (CW.block (cr (WL.mv rfl (WL.mv rfl ?_)))))))
  obtain ⟨⟨b8, b9⟩, H⟩ := H
  obtain ⟨d3, b3, c1⟩ := hb0.2.2
  obtain ⟨d4, b4, c2, c3, c4⟩ := el_get (i := (a0).toNat) ((b3.at a3 (mem_TR (A := []) a2.1))) (c1.mono a2.1) (fz145 w) (by decide) (by omega)
  obtain a9 := inv145 c4
  replace a9 : c2 = (ci ((gx vA (a0.toNat)).1)) ++ (ct ((gx vA (a0.toNat)).2)) := a9
  subst a9
  refine WL.v (Runs.indexAddr underlying54 cells145 (by decide) rfl b4 rfl b8 (by rw [show nA = vA.length from hb0.1]; exact b9) (o := (a0.toNat) * 2) (by first | rfl | omega)) ?_
  refine WL.v (Runs.fieldAddrB (off := 0) fld145_0 rfl rfl rfl) ?_
  refine WL.v (Runs.load nagg3 rfl (Src.cellAt (j := 0) (Src.cut ((b3.at a3 (mem_TR (A := []) a2.1))) b4 c3) rfl)) ?_
  refine WL.mv rfl (WL.v (Runs.eql rfl rfl rfl) (wn ?_))
  rcases H with ⟨b0, H⟩ | ⟨b0, H⟩
  ·have b1 : (((gx vA (a0.toNat)).1) == iA) = true := (beq_iff_eq.mpr b0)
   refine CW.ct rfl b1 (cr (WL.mv rfl (WL.mv rfl ?_)))
   obtain ⟨⟨c5, c6⟩, H⟩ := H
   obtain ⟨d5, b5, c7⟩ := hb0.2.2
   obtain ⟨d6, b6, c8, c9, d0⟩ := el_get (i := (a0).toNat) ((b5.at a3 (mem_TR (A := []) a2.1))) (c7.mono a2.1) (fz145 w) (by decide) (by omega)
   obtain b2 := inv145 d0
   replace b2 : c8 = (ci ((gx vA (a0.toNat)).1)) ++ (ct ((gx vA (a0.toNat)).2)) := b2
   subst b2
   refine WL.v (Runs.indexAddr underlying54 cells145 (by decide) rfl b6 rfl c5 (by rw [show nA = vA.length from hb0.1]; exact c6) (o := (a0.toNat) * 2) (by first | rfl | omega)) ?_
   refine WL.v (Runs.fieldAddrB (off := 1) fld145_1 rfl rfl rfl) ?_
   refine WL.v (Runs.load nagg9 rfl (Src.cellAt (j := 1) (Src.cut ((b5.at a3 (mem_TR (A := []) a2.1))) b6 c9) rfl)) ?_
   refine WL.as rfl (WL.as rfl (wn (CW.ret (QW.blk_r (QW.then_r (QW.then_r (QW.blk_r (QW.then_r ?_))))))))
   obtain ⟨rfl, rfl⟩ := H
   exact QW.ret2 rfl rfl rfl ⟨a4, a2, rfl, (St.pk (L := []) a3 [])⟩
  have b1 : (((gx vA (a0.toNat)).1) == iA) = false := (beq_eq_false_iff_ne.mpr b0)
  refine CW.cf rfl b1 (CW.skip (QW.blk_n (QW.then_n (CW.region (WL.mv rfl (WL.v (Runs.sub rfl rfl rfl) (WL.as rfl (WL.nil ?_))))))))
  exact QW.a ⟨a4, a5, a6, i64.wrap (a0 - 1), rfl, H, a2, a3⟩
 have a8 := (decide_eq_false a7)
 refine CW.cf rfl a8 (CW.exit (QW.then_x (QW.then_x (QW.blk_x (QW.then_n (cr (WL.as rfl (WL.as rfl (wn (CW.ret ?_))))))))))
 obtain ⟨rfl, rfl⟩ := H
 exact QW.ret2 rfl rfl rfl ⟨a4, a2, rfl, (St.pk (L := []) a3 [])⟩
def reliquaryref06_At.rel (a4 : Int) (a3 a5 : List R145) (a6 : Int) (a7 : Bool) (a8 : List R160) (a1 : Int) (ar0 : ByteArray) : Prop := (∃ a2 a0, reliquaryref06_last.rel a3 a1 a2 a0 ∧ ((a0 = true ∧ ar0 = a2) ∨ (¬ (a0 = true) ∧ ar0 = strOfNums (List.replicate 192 (0 : Int)))))
theorem reliquaryref06_At.calls (T : Pool) (st0 : St w w1 ((T ++ R))) (a1 : HS w T T pA nA nB (f145 w) vA) (b9 : HS w T T pB nC nD (f145 w) vB) (c0 : HS w T T pC nE nF (f160 w) dA) (H : reliquaryref06_At.rel iA vA vB iB bA dA iC yA) :
  Calls prog 70 #[.agg ((ci iA) ++ ((cl pA nA nB) ++ ((cl pB nC nD) ++ ((ci iB) ++ ((cb bA) ++ (cl pC nE nF)))))).toArray, .int .i64 iC] w1 fun e w' => ∃ T' , Pl T T' ∧ e = .returned (.string yA) ∧ St w w' ((T' ++ R)) := by
 refine CW.en func70 rfl 18 [_, _] (CW.sub [(0, _), (1, _)] ⟨rfl, rfl, trivial⟩ (cr (WL.box st0 rfl rfl ?_)))
 intro a3 a7 a8
 refine WL.as rfl (WL.nx (WL.v (Runs.fieldAddr (off := 1) (p := 1) fld57_1 rfl rfl rfl) (WL.ld 0 nagg54 a8 rfl rfl (pa (.slice pA nA nB) (ci iA) ((cl pB nC nD) ++ ((ci iB) ++ ((cb bA) ++ (cl pC nE nF))))) (WL.mv rfl ?_))))
 have b2 := St.hide (A := []) (B := [_]) a8
 obtain ⟨a9, a4, b3, H⟩ := H
 refine wC ent80 rfl (reliquaryref06_last.calls T b2 (a1.mono (memo_T (B := [_]) ii) ii) b3) ?_
 rintro _ b4 ⟨a0, b0, rfl, b5⟩
 have b1 := St.unhide (A := []) (B := [_]) b5; dsimp only [ec, en] at b1
 refine ⟨_, rfl, WL.mv rfl (WL.v (Runs.extract rfl rfl) (WL.v (Runs.extract rfl rfl) (WL.as rfl (WL.as rfl (wn (CW.sub [(4, _), (5, _), (6, _)] ⟨rfl, rfl, rfl, trivial⟩ (CW.seq (cr (WL.mv rfl (wn ?_))))))))))⟩
 rcases H with ⟨a5, H⟩ | ⟨a5, H⟩
 ·have a6 : a4 = true := a5
  refine CW.ct rfl a6 (cr (WL.mv rfl (WL.as rfl (wn (CW.ret (QW.then_r ?_))))))
  obtain rfl := H
  exact QW.ret1 rfl rfl ⟨a0, b0, rfl, (St.pk (L := [_]) b1 [])⟩
 have a6 : a4 = false := (Bool.eq_false_iff.mpr a5)
 refine CW.cf rfl a6 (CW.skip (QW.then_n (cr ?_)))
 refine WL.make b1 underlying25 elem5 rfl rfl (by decide) (by decide) (by decide) (N := 192) rfl ?_
 intro b6 b7 a2
 replace a2 : St w b7 (.sl (sp b6) 192 192 (iv .u8 (List.replicate 192 (0 : Int))) 5 1 :: oM a3 iA pA nA nB pB nC nD iB bA pC nE nF 57 :: (a0 ++ R)) := by rw [iv_replicate] at a2; exact a2
 have b8 : 192 = (List.replicate 192 (0 : Int)).length := by simp
 refine WL.v (Runs.bytes_str underlying25 underlying5 underlying9 rfl (a2.src_sl (k := 0) rfl) b8) (WL.as rfl (wn (CW.ret ?_)))
 obtain rfl := H
 exact QW.ret1 rfl rfl ⟨a0, b0, rfl, (St.pk (L := [_, _]) a2 [])⟩
def reliquaryref06_Image.L1 (a4 : Int) (a5 a6 : List R145) (a7 : Int) (a8 : Bool) (a9 : List R160) (lr0 : List R9) : Nat → (List R9) → Int → Prop
 | 0, _, _ => False
 | kL1 + 1, a2, a0 => ((a0 < a4 ∧ (∃ a3, reliquaryref06_At.rel a4 a5 a6 a7 a8 a9 a0 a3 ∧ (∃ a1 : List R9, a1 = a2 ++ ([a3] : List R9) ∧ (a1.length ≤ 1099511627776 ∧ reliquaryref06_Image.L1 a4 a5 a6 a7 a8 a9 lr0 kL1 a1 (i64.wrap (a0 + 1)))))) ∨ (¬ (a0 < a4) ∧ lr0 = a2))
def reliquaryref06_Image.rel (a0 : Int) (a1 a2 : List R145) (a3 : Int) (a4 : Bool) (a5 : List R160) (lr0 : List R9) : Prop := (∃ k_ : Nat, reliquaryref06_Image.L1 a0 a1 a2 a3 a4 a5 lr0 k_ ([] : List R9) 0)
theorem reliquaryref06_Image.calls (T : Pool) (st0 : St w w1 ((T ++ R))) (e6 : HS w T T pA nA nB (f145 w) vA) (e7 : HS w T T pB nC nD (f145 w) vB) (e8 : HS w T T pC nE nF (f160 w) dA) (H : reliquaryref06_Image.rel iA vA vB iB bA dA hA) :
  Calls prog 47 #[.agg ((ci iA) ++ ((cl pA nA nB) ++ ((cl pB nC nD) ++ ((ci iB) ++ ((cb bA) ++ (cl pC nE nF)))))).toArray] w1 fun e w' => ∃ T' Ar0 nr0 cr0 xr0, Pl T T' ∧ nr0 = hA.length ∧ HRs T' (f9 w) xr0 hA ∧ e = .returned (.slice Ar0 nr0 cr0) ∧ St w w' (.sl Ar0 cr0 nr0 xr0 9 1 :: (T' ++ R)) := by
 refine CW.en func47 rfl 18 [_] (CW.sub [(0, _)] ⟨rfl, trivial⟩ (cr (WL.box st0 rfl rfl ?_)))
 intro a1 d4 d5
 refine WL.as rfl (WL.nx (WL.as rfl (wn (CW.seq (cr (WL.as rfl (wn (CW.block ?_))))))))
 have b5 := d5.nil_sl 9 1
 have b5 : St w d4 (.sl none 0 0 ([] : Cs) 9 1 :: oM a1 iA pA nA nB pB nC nD iB bA pC nE nF 57 :: (T ++ R)) := b5
 obtain ⟨d6, H⟩ := H
 refine CW.sub [(1, _), (2, _), (3, _), (4, _)] ⟨rfl, rfl, rfl, rfl, trivial⟩ ?_
 refine CW.lp (fun kL1 l_ w_ => ∃ a5 a2 a3 a0 a4 b1 a8, l_ = [(1, .pointer (sp a1)), (2, .slice none 0 0), (3, .slice a2 a0 a3), (4, .int .i64 a8)] ∧ reliquaryref06_Image.L1 iA vA vB iB bA dA hA kL1 b1 a8 ∧ (Pl T a5) ∧ (a0 = b1.length) ∧ (HRs a5 (f9 w) a4 b1) ∧ St w w_ (.sl a2 a3 a0 a4 9 1 :: oM a1 iA pA nA nB pB nC nD iB bA pC nE nF 57 :: (a5 ++ R))) (k := d6) ⟨T, none, 0, 0, ([] : Cs), ([] : List R9), 0, rfl, H, Pl.refl, rfl, (HRs.nil : HRs T (f9 w) [] []), b5⟩ ?_
 rintro kL1 e5 c4 ⟨a5, a2, a3, a0, a4, b1, a8, rfl, H, a6, c5, c6, b4⟩
 refine CW.seq (cr (WL.mv rfl (WL.v (Runs.fieldAddr (off := 0) (p := 0) fld57_0 rfl rfl rfl) (WL.ld 1 nagg3 b4 rfl rfl (pa (.int .i64 iA) [] ((cl pA nA nB) ++ ((cl pB nC nD) ++ ((ci iB) ++ ((cb bA) ++ (cl pC nE nF)))))) (WL.v (Runs.lss rfl rfl rfl) (wn ?_))))))
 rcases H with ⟨b6, H⟩ | ⟨b6, H⟩
 ·have b7 := (decide_eq_true b6)
  refine CW.ct rfl b7 (CW.skip (QW.then_n (CW.seq (CW.block (CW.region (WL.mv rfl (WL.v (Runs.load_mid row57 rfl b4 (i := 1) rfl (pm [] ((ci iA) ++ ((cl pA nA nB) ++ ((cl pB nC nD) ++ ((ci iB) ++ ((cb bA) ++ (cl pC nE nF)))))) []) rfl) (WL.mv rfl ?_))))))))
  have d7 := St.hide (A := []) (B := [_, _]) b4
  obtain ⟨a9, d8, H⟩ := H
  refine wC ent70 rfl (reliquaryref06_At.calls a5 d7 (e6.mono a6.1 a6.1) (e7.mono a6.1 a6.1) (e8.mono a6.1 a6.1) d8) ?_
  rintro _ d9 ⟨a7, c7, rfl, e0⟩
  have e1 := St.unhide (A := []) (B := [_, _]) e0; dsimp only [ec, en] at e1
  refine ⟨_, rfl, ?_⟩
  refine WL.buildSl [.string a9] e1 underlying121 elem9 rfl rfl (by decide) (by decide) (by simp [Value.cells]) ?_
  intro b8 c8 b0
  try dsimp only [List.set, ec, en] at b0
  obtain ⟨b2, c9⟩ : ∃ x_ : Cs, x_ = [.string a9] := ⟨_, rfl⟩
  have b9 : HRs a7 (f9 w) b2 ([a9] : List R9) := by rw [c9]; exact (HRs.one (.cons rfl .nil))
  (try dsimp only [List.set, ec, en] at b0); rw [← c9] at b0
  obtain ⟨c0, d0, H⟩ := H
  obtain ⟨e2, H⟩ := H
  obtain ⟨c1, c2⟩ : ∃ n_ : Nat, n_ = c0.length := ⟨_, rfl⟩
  refine WL.appendR (i := 1) (N := c1) (news := b2) Wanted.none b0 rfl underlying121 elemS9 rfl rfl (b0.src_sl (k := 0) rfl) (by have h1_ := (b9).length (fz9 w); have h2_ : 1 = ([a9] : List R9).length := rfl; rw [h1_, h2_]) (HLs.one b9) (by decide) (by have h1_ : a0 = b1.length := c5; have h2_ : 1 = ([a9] : List R9).length := rfl; rw [c2, d0, List.length_append]; omega) (by rw [c2]; exact e2) ?_
  intro d1 d2 e3 b3
  obtain ⟨c3, d3⟩ : ∃ x_ : Cs, x_ = a4 ++ b2 := ⟨_, rfl⟩
  have e4 : HRs a7 (f9 w) c3 c0 := by rw [d3, d0]; exact HRs.append (c6.mono c7.1) b9
  (try dsimp only [List.set, ec, en] at b3); rw [← d3] at b3
  refine WL.as rfl (WL.nil (QW.blk_n (QW.then_n (CW.region (WL.mv rfl (WL.v (Runs.add rfl rfl rfl) (WL.as rfl (WL.nil ?_))))))))
  have b3' := (St.pk (L := [_, _, _]) b3 [1, 2])
  exact QW.a ⟨a7, d1, d2, c1, c3, c0, i64.wrap (a8 + 1), rfl, H, (a6.trans c7), c2, e4, b3'⟩
 have b7 := (decide_eq_false b6)
 refine CW.cf rfl b7 (CW.exit (QW.then_x (QW.then_x (QW.blk_x (QW.then_n (CW.sub [(2, _), (3, _)] ⟨rfl, rfl, trivial⟩ (cr (WL.mv rfl (WL.as rfl (wn (CW.ret ?_)))))))))))
 obtain rfl := H
 exact QW.ret1 rfl rfl ⟨a5, a2, a0, a3, a4, a6, c5, c6, rfl, (St.pk (L := [_, _]) b4 [0])⟩
def slices_Clone_s_disk_Op_disk_Op.rel (l0 lr0 : List R48) : Prop := (l0 = [] → lr0 = ([] : List R48)) ∧ (∃ a0 : List R48, a0 = ([] : List R48) ++ l0 ∧ (a0.length ≤ 1099511627776 ∧ lr0 = a0))
theorem slices_Clone_s_disk_Op_disk_Op.calls (T : Pool) (st0 : St w w1 ((T ++ R))) (hb0 : HS w (T ++ R) T pA nA nB (f48 w) sA) (H : slices_Clone_s_disk_Op_disk_Op.rel sA sB) :
  Calls prog 37 #[.slice pA nA nB] w1 fun e w' => ∃ T' Ar0 nr0 cr0 xr0, Pl T T' ∧ nr0 = sB.length ∧ HRs T' (f48 w) xr0 sB ∧ e = .returned (.slice Ar0 nr0 cr0) ∧ St w w' (.sl Ar0 cr0 nr0 xr0 48 2 :: (T' ++ R)) := by
 rcases pA with _ | A_
 ·replace H := H.1 (hb0.nil_of (fz48 w) (by decide) st0 (mem_TR (A := []) ii))
  refine CW.en func37 rfl 8 [_] (CW.sub [(0, _)] ⟨rfl, trivial⟩ (cr (WL.as rfl (wn (CW.seq (cr (WL.mv rfl (WL.v (Runs.eql_nil underlying43 rfl rfl rfl) (wn (CW.ct rfl rfl (cr (WL.as rfl (wn (CW.ret (QW.then_r ?_)))))))))))))))
  have a2 := st0.nil_sl 48 2
  have a2 : St w w1 (.sl none 0 0 ([] : Cs) 48 2 :: (T ++ R)) := a2
  obtain rfl := H
  exact QW.ret1 rfl rfl ⟨T, none, 0, 0, ([] : Cs), Pl.refl, rfl, (HRs.nil : HRs T (f48 w) [] []), rfl, (St.pk (L := [_]) a2 [0])⟩
 replace H := H.2
 refine CW.en func37 rfl 8 [_] (CW.sub [(0, _)] ⟨rfl, trivial⟩ (cr (WL.as rfl (wn (CW.seq (cr (WL.mv rfl (WL.v (Runs.eql_nil underlying43 rfl rfl rfl) (wn (CW.cf rfl rfl (CW.skip (QW.then_n (cr (WL.buildSlS0 st0 underlying43 elemS48 ?_))))))))))))))
 intro b3 b4 a0
 try dsimp only [List.set, ec, en] at a0
 refine WL.mv rfl ?_
 obtain ⟨a9, b5, a3⟩ := hb0.2.2
 obtain ⟨b0, b1, H⟩ := H
 obtain ⟨b6, H⟩ := H
 obtain ⟨a1, a4⟩ : ∃ n_ : Nat, n_ = b0.length := ⟨_, rfl⟩
 refine WL.appendR (i := 0) (N := a1) (news := a9) Wanted.none a0 rfl underlying43 elemS48 rfl rfl ((b5.at a0 (mem_TR (A := [_]) ii))) (by have h1_ := (a3).length (fz48 w); have h2_ : nA = sA.length := hb0.1; rw [h1_, h2_]) (HLs.one a3) (by decide) (by have h1_ : 0 = ([] : List R48).length := rfl; have h2_ : nA = sA.length := hb0.1; rw [a4, b1, List.length_append]; omega) (by rw [a4]; exact b6) ?_
 intro a5 a6 b7 a7
 obtain ⟨a8, b2⟩ : ∃ x_ : Cs, x_ = ([] : Cs) ++ a9 := ⟨_, rfl⟩
 have b8 : HRs T (f48 w) a8 b0 := by rw [b2, b1]; exact HRs.append (HRs.nil : HRs T (f48 w) [] []) a3
 (try dsimp only [List.set, ec, en] at a7); rw [← b2] at a7
 refine WL.as rfl (wn (CW.ret ?_))
 obtain rfl := H
 exact QW.ret1 rfl rfl ⟨T, a5, a1, a6, a8, Pl.refl, a4, b8, rfl, (St.pk (L := [_]) a7 [0])⟩
def disk_Disk_Ops.rel (a2 : List R25) (a3 : List R124) (a4 : Int) (a5 : Bool) (a1 : List R48) (a6 : List R25) (a7 : List R124) (a8 : Int) (a9 : Bool) (b0 lr0 : List R48) : Prop := (∃ a0, slices_Clone_s_disk_Op_disk_Op.rel a1 a0 ∧ a6 = a2 ∧ a7 = a3 ∧ a8 = a4 ∧ a9 = a5 ∧ b0 = a1 ∧ lr0 = a0)
theorem disk_Disk_Ops.calls (T : Pool) (st0 : St w w1 (oD nA pA nB nC pB nD nE iA bA pC nF nG 95 :: .sl pA nC nB xA 25 1 :: .sl pB nE nD xB 124 2 :: .sl pC nG nF xC 48 2 :: (T ++ R))) (c8 : nB = qA.length) (c9 : HRs T (f25 w) xA qA) (d0 : nD = rA.length) (d1 : HRs T (f124 w) xB rA) (b7 : nF = sA.length) (b8 : HRs T (f48 w) xC sA) (H : disk_Disk_Ops.rel qA rA iA bA sA qB rB iB bB sB sC) :
  Calls prog 13 #[.pointer (sp nA)] w1 fun e w' => ∃ T' b9 b0 c0 c1 c2 b5 c3 c4 c5 b6 c6 c7 Ar0 nr0 cr0 xr0, Pl T T' ∧ b0 = qB.length ∧ HRs T' (f25 w) c1 qB ∧ b5 = rB.length ∧ HRs T' (f124 w) c4 rB ∧ b6 = sB.length ∧ HRs T' (f48 w) c7 sB ∧ nr0 = sC.length ∧ HRs T' (f48 w) xr0 sC ∧ e = .returned (.slice Ar0 nr0 cr0) ∧ St w w' (oD nA b9 b0 c0 c2 b5 c3 iB bB c5 b6 c6 95 :: .sl b9 c0 b0 c1 25 1 :: .sl c2 c3 b5 c4 124 2 :: .sl c5 c6 b6 c7 48 2 :: .sl Ar0 cr0 nr0 xr0 48 2 :: (T' ++ R)) := by
 refine CW.en func13 rfl 10 [_] (CW.sub [(0, _)] ⟨rfl, trivial⟩ (cr (WL.as rfl (wn (CW.seq (cr (WL.mv rfl (WL.v (Runs.eql_ptr underlying30 rfl rfl rfl) (wn (CW.cf rfl rfl (CW.skip (QW.then_n (cr (WL.mv rfl (WL.v (Runs.nilCheck rfl) ?_)))))))))))))))
 refine WL.v (Runs.fieldAddr (off := 4) (p := 4) fld95_4 rfl rfl rfl) (WL.ld 0 nagg43 st0 rfl rfl (pa (.slice pC nF nG) ((cl pA nB nC) ++ ((cl pB nD nE) ++ ((ci iA) ++ (cb bA)))) []) ?_)
 have a6 := St.hide (A := []) (B := [_, _, _, _]) st0
 obtain ⟨a7, a8, H⟩ := H
 refine wC ent37 rfl (slices_Clone_s_disk_Op_disk_Op.calls T a6 (HS.mk b7 (st0.cap (i := 3) rfl) (fun W_ L_ st hT => st.src_mem (hT _ (List.mem_append_right _ (List.mem_of_getElem? (i := 3) rfl)))) b8) a8) ?_
 rintro _ a9 ⟨a1, a2, a3, a4, a5, a0, b1, b2, rfl, b3⟩
 have b4 := St.unhide (A := [_]) (B := [_, _, _, _]) b3; dsimp only [ec, en] at b4
 refine ⟨_, rfl, WL.as rfl (wn (CW.ret ?_))⟩
 obtain ⟨rfl, rfl, rfl, rfl, rfl, rfl⟩ := H
 exact QW.ret1 rfl rfl ⟨a1, pA, nB, nC, xA, pB, nD, nE, xB, pC, nF, nG, xC, a2, a3, a4, a5, a0, c8, (c9.mono a0.1), d0, (d1.mono a0.1), b7, (b8.mono a0.1), b1, b2, rfl, (St.pk (L := [_, _, _, _, _]) b4 [1, 2, 3, 4, 0])⟩
def reliquarylaw13_sameDisk.L1 (a9 : List R25) (b0 : List R124) (b1 : Int) (b2 : Bool) (b3 : List R48) (ar0 : Bool) (a1 : List R25) (a2 : List R9) (a3 : List R25) (a4 : List R124) (a5 : Int) (a6 : Bool) (a7 : List R48) : Nat → Bool → Int → Prop
 | 0, _, _ => False
 | kL1 + 1, a8, a0 => ((a0 < (a1.length : Int) ∧ ((0 ≤ a0 ∧ a0 < (a1.length : Int)) ∧ ((0 ≤ a0 ∧ a0 < (a2.length : Int)) ∧ ((¬ ((strOfNums (gx a1 (a0.toNat))).toList = (gx a2 (a0.toNat)).toList) ∧ a9 = a3 ∧ b0 = a4 ∧ b1 = a5 ∧ b2 = a6 ∧ b3 = a7 ∧ ar0 = false) ∨ (¬ (¬ ((strOfNums (gx a1 (a0.toNat))).toList = (gx a2 (a0.toNat)).toList)) ∧ reliquarylaw13_sameDisk.L1 a9 b0 b1 b2 b3 ar0 a1 a2 a3 a4 a5 a6 a7 kL1 a8 (i64.wrap (a0 + 1))))))) ∨ (¬ (a0 < (a1.length : Int)) ∧ a9 = a3 ∧ b0 = a4 ∧ b1 = a5 ∧ b2 = a6 ∧ b3 = a7 ∧ ar0 = true))
def reliquarylaw13_sameDisk.rel (c6 : List R25) (c7 : List R124) (c8 : Int) (c9 : Bool) (d0 : List R48) (d1 : Int) (d2 c4 : List R145) (d3 : Int) (d4 : Bool) (c5 : List R160) (b9 : List R25) (c0 : List R124) (c1 : Int) (c2 : Bool) (c3 : List R48) (ar0 : Bool) : Prop := (∃ a2 a3 a4 a5 a6 a0, disk_Disk_Image.rel c6 c7 c8 c9 d0 a2 a3 a4 a5 a6 a0 ∧ (∃ a1, reliquaryref06_Image.rel d1 d2 c4 d3 d4 c5 a1 ∧ (((a0.length : Int) ≠ (a1.length : Int) ∧ b9 = a2 ∧ c0 = a3 ∧ c1 = a4 ∧ c2 = a5 ∧ c3 = a6 ∧ ar0 = false) ∨ (¬ ((a0.length : Int) ≠ (a1.length : Int)) ∧ (∃ a7 a8 a9 b0 b1 b2, disk_Disk_Pending.rel a2 a3 a4 a5 a6 a7 a8 a9 b0 b1 b2 ∧ ((b2 ≠ (c4.length : Int) ∧ b9 = a7 ∧ c0 = a8 ∧ c1 = a9 ∧ c2 = b0 ∧ c3 = b1 ∧ ar0 = false) ∨ (¬ (b2 ≠ (c4.length : Int)) ∧ (∃ b3 b4 b5 b6 b7 b8, disk_Disk_Ops.rel a7 a8 a9 b0 b1 b3 b4 b5 b6 b7 b8 ∧ (((b8.length : Int) ≠ (c5.length : Int) ∧ b9 = b3 ∧ c0 = b4 ∧ c1 = b5 ∧ c2 = b6 ∧ c3 = b7 ∧ ar0 = false) ∨ (¬ ((b8.length : Int) ≠ (c5.length : Int)) ∧ (∃ k_ : Nat, reliquarylaw13_sameDisk.L1 b9 c0 c1 c2 c3 ar0 a0 a1 b3 b4 b5 b6 b7 k_ false 0)))))))))))
theorem reliquarylaw13_sameDisk.calls (T : Pool) (st0 : St w w1 (oD nA pA nB nC pB nD nE iA bA pC nF nG 95 :: .sl pA nC nB xA 25 1 :: .sl pB nE nD xB 124 2 :: .sl pC nG nF xC 48 2 :: (T ++ R))) (s1 : nB = qA.length) (s2 : HRs T (f25 w) xA qA) (s3 : nD = rA.length) (s4 : HRs T (f124 w) xB rA) (s5 : nF = sA.length) (s6 : HRs T (f48 w) xC sA) (s7 : HS w T T pD nH nI (f145 w) vA) (r0 : HS w T T pE nJ nK (f145 w) vB) (r1 : HS w T T pF nL nM (f160 w) dA) (H : reliquarylaw13_sameDisk.rel qA rA iA bA sA iB vA vB iC bB dA qB rB iD bC sB bD) :
  Calls prog 24 #[.pointer (sp nA), .agg ((ci iB) ++ ((cl pD nH nI) ++ ((cl pE nJ nK) ++ ((ci iC) ++ ((cb bB) ++ (cl pF nL nM)))))).toArray] w1 fun e w' => ∃ T' r2 b0 r3 r4 r5 q8 r6 r7 r8 q9 r9 s0, Pl T T' ∧ b0 = qB.length ∧ HRs T' (f25 w) r4 qB ∧ q8 = rB.length ∧ HRs T' (f124 w) r7 rB ∧ q9 = sB.length ∧ HRs T' (f48 w) s0 sB ∧ e = .returned (.bool bD) ∧ St w w' (oD nA r2 b0 r3 r5 q8 r6 iD bC r8 q9 r9 95 :: .sl r2 r3 b0 r4 25 1 :: .sl r5 r6 q8 r7 124 2 :: .sl r8 r9 q9 s0 48 2 :: (T' ++ R)) := by
 refine CW.en func24 rfl 50 [_, _] (CW.sub [(0, _), (1, _)] ⟨rfl, rfl, trivial⟩ (cr (WL.box st0 rfl rfl ?_)))
 intro a6 h5 m9
 refine WL.as rfl (WL.nx (WL.mv rfl ?_))
 have h6 := (St.pk (L := [_, _, _, _, _]) m9 [1, 2, 3, 4, 0])
 have n0 := St.hide (A := [_, _, _, _]) (B := [_]) h6
 obtain ⟨j8, j9, d1, d2, k0, c9, n1, H⟩ := H
 refine wC ent27 rfl (disk_Disk_Image.calls T n0 (s1) s2 (s3) s4 (s5) s6 n1) ?_
 rintro _ h7 ⟨f8, b5, b6, b7, d3, b8, b9, c0, d4, c1, c2, c3, d5, a4, a3, a5, c4, c6, k1, k2, k3, k4, k5, k6, h8, n2, rfl, n3⟩
 have k7 := St.unhide (A := [_, _, _, _, _]) (B := [_]) n3; dsimp only [ec, en] at k7
 refine ⟨_, rfl, WL.as rfl (WL.nx (WL.v (Runs.load_mid row57 rfl k7 (i := 5) rfl (pm [] ((ci iB) ++ ((cl pD nH nI) ++ ((cl pE nJ nK) ++ ((ci iC) ++ ((cb bB) ++ (cl pF nL nM)))))) []) rfl) ?_))⟩
 have n4 := St.hide (A := []) (B := [_, _, _, _, _, _]) k7
 obtain ⟨d6, n5, H⟩ := H
 refine wC ent47 rfl (reliquaryref06_Image.calls f8 n4 (s7.mono c6.1 c6.1) (r0.mono c6.1 c6.1) (r1.mono c6.1 c6.1) n5) ?_
 rintro _ n6 ⟨d0, a9, a7, b1, c7, c5, k8, n7, rfl, n8⟩
 have n9 := St.unhide (A := [_]) (B := [_, _, _, _, _, _]) n8; dsimp only [ec, en] at n9
 refine ⟨_, rfl, WL.as rfl (wn (CW.seq (CW.seq ?_)))⟩
 refine CW.region_awh (C := fun w_ => St w w_ (.sl a9 b1 a7 c7 9 1 :: .sl a4 a5 a3 c4 25 1 :: oM a6 iB pD nH nI pE nJ nK iC bB pF nL nM 57 :: (d0 ++ R))) 20 wide (by kernel_rfl) n9 (fun g4 a1 => ?_)
 have a0 : St w g4 (.sl a9 b1 a7 c7 9 1 :: .sl a4 a5 a3 c4 25 1 :: oM a6 iB pD nH nI pE nJ nK iC bB pF nL nM 57 :: (d0 ++ R)) := (St.pk (L := [_, _, _, _, _, _, _]) a1 [0, 5, 6])
 have zD1 := St.subset a0 a1 (mcB 0 5 (mc 6 rfl (mem_TR (A := [_, _, _, _, _, _, _]) ii)))
 refine AWH.tk 0 rfl zD1 (fun wq sq => (Runs.move rfl)) ?_
 refine AWH.tk 1 rfl zD1 (fun wq sq => (Runs.len_sl underlying76 rfl (by rw [h8]))) ?_
 refine AWH.tk 2 rfl zD1 (fun wq sq => (Runs.move rfl)) ?_
 refine AWH.tk 3 rfl zD1 (fun wq sq => (Runs.len_sl underlying121 rfl (by rw [k8]))) ?_
 refine AWH.tk 4 rfl zD1 (fun wq sq => (Runs.neq rfl rfl rfl)) ?_
 refine AWH.tk 5 rfl zD1 (fun wq sq => (Runs.move rfl)) ?_
 rcases H with ⟨h9, H⟩ | ⟨h9, H⟩
 ·have b3 : ((c9.length : Int) != (d6.length : Int)) = true := (bne_iff_ne.mpr h9)
  refine AWH.takeoff 6 rfl (by decide) (by kernel_rfl) (by kernel_rfl) zD1 ?_ ?_; exact Wg 17 b3
  refine AWH.takeoff 7 rfl (by decide) (by kernel_rfl) (by kernel_rfl) zD1 ?_ ?_; exact Wg 17 b3
  refine AWH.takeoff 8 rfl (by decide) (by kernel_rfl) (by kernel_rfl) zD1 ?_ ?_; exact Wg 17 b3
  refine AWH.takeoff 9 rfl (by decide) (by kernel_rfl) (by kernel_rfl) zD1 ?_ ?_; exact Wg 17 b3
  refine AWH.takeoff 10 rfl (by decide) (by kernel_rfl) (by kernel_rfl) zD1 ?_ ?_; exact Wg 17 b3
  refine AWH.takeoff 11 rfl (by decide) (by kernel_rfl) (by kernel_rfl) zD1 ?_ ?_; exact Wg 17 b3
  refine AWH.tk 12 rfl zD1 (fun wq sq => (Runs.pick_t (evb rfl b3) rfl)) ?_
  refine AWH.tk 13 rfl zD1 (fun wq sq => (Runs.move rfl)) ?_
  refine AWH.takeoff 14 rfl (by decide) (by kernel_rfl) (by kernel_rfl) zD1 ?_ ?_; exact Wg 25 rfl
  refine AWH.takeoff 15 rfl (by decide) (by kernel_rfl) (by kernel_rfl) zD1 ?_ ?_; exact Wg 25 rfl
  refine AWH.takeoff 16 rfl (by decide) (by kernel_rfl) (by kernel_rfl) zD1 ?_ ?_; exact Wg 25 rfl
  refine AWH.takeoff 17 rfl (by decide) (by kernel_rfl) (by kernel_rfl) zD1 ?_ ?_; exact Wg 25 rfl
  refine AWH.takeoff 18 rfl (by decide) (by kernel_rfl) (by kernel_rfl) zD1 ?_ ?_; exact Wg 25 rfl
  refine AWH.takeoff 19 rfl (by decide) (by kernel_rfl) (by kernel_rfl) zD1 ?_ ?_; exact Wg 25 rfl
  refine AWH.tail (by kernel_rfl) ?_
  refine AW.takeoff 20 rfl (by kernel_rfl) (by kernel_rfl) (by kernel_rfl)  ?_ ?_; exact Wg 25 rfl
  refine AW.tk 21 rfl (fun _ => (Runs.pick_t rfl rfl)) ?_
  refine AW.done (by kernel_rfl) ?_
  refine QW.then_n (CW.sub [(4, _), (5, _), (6, _), (33, _)] ⟨rfl, rfl, rfl, rfl, trivial⟩ (CW.ct rfl rfl (cr (WL.as rfl (wn (CW.ret (QW.then_r ?_)))))))
  obtain ⟨rfl, rfl, rfl, rfl, rfl, rfl⟩ := H
  exact QW.ret1 rfl rfl ⟨d0, b5, b6, b7, d3, b8, b9, c0, d4, c1, c2, c3, d5, (c6.trans c5), k1, (k2.mono c5.1), k3, (k4.mono c5.1), k5, (k6.mono c5.1), rfl, (St.pk (L := [_, _, _, _, _, _, _]) a1 [1, 2, 3, 4])⟩
 have b3 : ((c9.length : Int) != (d6.length : Int)) = false := (bne_eq_false_iff_eq.mpr (Decidable.not_not.mp h9))
 refine AWH.tw 6 rfl zD1 ?_ (fun wq sq => (Runs.move rfl)) ?_; exact Wg 17 b3
 refine AWH.tw 8 rfl zD1 ?_ (fun wq sq => (Runs.fieldAddr (off := 2) (p := 2) fld57_2 rfl rfl rfl)) ?_; exact Wg 17 b3
 refine AWH.tw 9 rfl zD1 ?_ (fun wq sq => (Runs.load nagg54 rfl (sq.cell (k := 2) rfl (pa (.slice pE nJ nK) ((ci iB) ++ (cl pD nH nI)) ((ci iC) ++ ((cb bB) ++ (cl pF nL nM))))))) ?_; exact Wg 17 b3
 refine AWH.tw 10 rfl zD1 ?_ (fun wq sq => (Runs.len_sl underlying54 rfl (by rw [r0.1]))) ?_; exact Wg 17 b3
 refine AWH.step 7 rfl (by decide) (by kernel_rfl) (fun inv_ hs_ hk_ hc_ hn_ => ?_); refine WL.on ?_ ?_; exact Wg 17 b3
 have i0 := (St.pk (L := [_, _, _, _, _, _, _]) a1 [1, 2, 3, 4, 0, 5, 6])
 have o0 := St.hide (A := [_, _, _, _]) (B := [_, _, _]) i0
 obtain ⟨k9, l0, g5, g6, l1, i1, o1, H⟩ := H
 refine wC ent30 rfl (disk_Disk_Pending.calls d0 o0 (k1) (k2.mono c5.1) (k3) (k4.mono c5.1) (k5) (k6.mono c5.1) o1) ?_
 rintro _ i2 ⟨e7, e8, e9, f0, g7, f1, f2, f3, g8, f4, f5, f6, g9, a2, l2, l3, l4, l5, l6, l7, rfl, o2⟩
 have b2 := St.unhide (A := [_, _, _, _]) (B := [_, _, _]) o2; dsimp only [ec, en] at b2
 refine ⟨_, rfl, WL.nil ?_⟩
 have zD2 := St.subset a0 b2 (mcB 4 5 (mc 6 rfl (mem_TR (A := [_, _, _, _, _, _, _]) a2.1)))
 refine AWH.back zD2 inv_ hs_ hk_ hc_ hn_ ?_
 refine AWH.tw 11 rfl zD2 ?_ (fun wq sq => (Runs.neq rfl rfl rfl)) ?_; exact Wg 17 b3
 refine AWH.tk 12 rfl zD2 (fun wq sq => (Runs.pick_f (evb rfl b3) rfl)) ?_
 refine AWH.tk 13 rfl zD2 (fun wq sq => (Runs.move rfl)) ?_
 rcases H with ⟨i3, H⟩ | ⟨i3, H⟩
 ·have a8 : (i1 != (vB.length : Int)) = true := (bne_iff_ne.mpr i3)
  refine AWH.takeoff 14 rfl (by decide) (by kernel_rfl) (by kernel_rfl) zD2 ?_ ?_; exact Wg 25 a8
  refine AWH.takeoff 15 rfl (by decide) (by kernel_rfl) (by kernel_rfl) zD2 ?_ ?_; exact Wg 25 a8
  refine AWH.takeoff 16 rfl (by decide) (by kernel_rfl) (by kernel_rfl) zD2 ?_ ?_; exact Wg 25 a8
  refine AWH.takeoff 17 rfl (by decide) (by kernel_rfl) (by kernel_rfl) zD2 ?_ ?_; exact Wg 25 a8
  refine AWH.takeoff 18 rfl (by decide) (by kernel_rfl) (by kernel_rfl) zD2 ?_ ?_; exact Wg 25 a8
  refine AWH.takeoff 19 rfl (by decide) (by kernel_rfl) (by kernel_rfl) zD2 ?_ ?_; exact Wg 25 a8
  refine AWH.tail (by kernel_rfl) ?_
  refine AW.takeoff 20 rfl (by kernel_rfl) (by kernel_rfl) (by kernel_rfl)  ?_ ?_; exact Wg 25 a8
  refine AW.tk 21 rfl (fun _ => (Runs.pick_t (evb rfl a8) rfl)) ?_
  refine AW.done (by kernel_rfl) ?_
  refine QW.then_n (CW.sub [(4, _), (5, _), (6, _), (33, _)] ⟨rfl, rfl, rfl, rfl, trivial⟩ (CW.ct rfl rfl (cr (WL.as rfl (wn (CW.ret (QW.then_r ?_)))))))
  obtain ⟨rfl, rfl, rfl, rfl, rfl, rfl⟩ := H
  exact QW.ret1 rfl rfl ⟨e7, e8, e9, f0, g7, f1, f2, f3, g8, f4, f5, f6, g9, ((c6.trans c5).trans a2), l2, l3, l4, l5, l6, l7, rfl, (St.pk (L := [_, _, _, _, _, _, _]) b2 [0, 1, 2, 3])⟩
 have a8 : (i1 != (vB.length : Int)) = false := (bne_eq_false_iff_eq.mpr (Decidable.not_not.mp i3))
 refine AWH.tw 14 rfl zD2 ?_ (fun wq sq => (Runs.move rfl)) ?_; exact Wg 25 a8
 refine AWH.tw 17 rfl zD2 ?_ (fun wq sq => (Runs.fieldAddr (off := 5) (p := 5) fld57_5 rfl rfl rfl)) ?_; exact Wg 25 a8
 refine AWH.tw 18 rfl zD2 ?_ (fun wq sq => (Runs.load nagg55 rfl (sq.cell (k := 2) rfl (pa (.slice pF nL nM) ((ci iB) ++ ((cl pD nH nI) ++ ((cl pE nJ nK) ++ ((ci iC) ++ (cb bB))))) [])))) ?_; exact Wg 25 a8
 refine AWH.tw 19 rfl zD2 ?_ (fun wq sq => (Runs.len_sl underlying55 rfl (by rw [r1.1]))) ?_; exact Wg 25 a8
 refine AWH.step 15 rfl (by decide) (by kernel_rfl) (fun inv_ hs_ hk_ hc_ hn_ => ?_); refine WL.on ?_ ?_; exact Wg 25 a8
 have o3 := St.hide (A := [_, _, _, _]) (B := [_, _, _]) b2
 obtain ⟨l8, l9, h0, h1, m0, h2, o4, H⟩ := H
 refine wC ent13 rfl (disk_Disk_Ops.calls e7 o3 (l2) l3 (l4) l5 (l6) l7 o4) ?_
 rintro _ o5 ⟨f9, d7, d8, d9, g0, e0, e1, e2, g1, e3, e4, e5, g2, m1, m2, m3, m4, e6, i4, i5, i6, i7, i8, i9, o6, q2, rfl, o7⟩
 have h3 := St.unhide (A := [_, _, _, _, _]) (B := [_, _, _]) o7; dsimp only [ec, en] at h3
 refine ⟨_, rfl, WL.nil ?_⟩
 have zD3 := St.subset a0 h3 (mcB 5 6 (mc 7 rfl (mem_TR (A := [_, _, _, _, _, _, _, _]) (a2.trans e6).1)))
 refine AWH.back zD3 inv_ hs_ hk_ hc_ hn_ ?_
 refine AWH.step 16 rfl (by decide) (by kernel_rfl) (fun inv_ hs_ hk_ hc_ hn_ => ?_); refine WL.on ?_ ?_; exact Wg 25 a8
 refine WL.v (Runs.len_sl underlying43 rfl (by rw [o6])) ?_
 refine WL.nil ?_
 refine AWH.back zD3 inv_ hs_ hk_ hc_ hn_ ?_
 refine AWH.tail (by kernel_rfl) ?_
 refine AW.take 20 rfl (by kernel_rfl) (by kernel_rfl) (by kernel_rfl) ?_ (fun _ => (Runs.neq rfl rfl rfl)) ?_; exact Wg 25 a8
 refine AW.tk 21 rfl (fun _ => (Runs.pick_f (evb rfl a8) rfl)) ?_
 refine AW.done (by kernel_rfl) ?_
 refine QW.then_n (CW.sub [(4, _), (5, _), (6, _), (33, _)] ⟨rfl, rfl, rfl, rfl, trivial⟩ ?_)
 rcases H with ⟨j0, H⟩ | ⟨j0, H⟩
 ·have j1 : ((h2.length : Int) != (dA.length : Int)) = true := (bne_iff_ne.mpr j0)
  refine CW.ct rfl j1 (cr (WL.as rfl (wn (CW.ret (QW.then_r ?_)))))
  obtain ⟨rfl, rfl, rfl, rfl, rfl, rfl⟩ := H
  exact QW.ret1 rfl rfl ⟨f9, d7, d8, d9, g0, e0, e1, e2, g1, e3, e4, e5, g2, (((c6.trans c5).trans a2).trans e6), i4, i5, i6, i7, i8, i9, rfl, (St.pk (L := [_, _, _, _, _, _, _, _]) h3 [0, 1, 2, 3])⟩
 have j1 : ((h2.length : Int) != (dA.length : Int)) = false := (bne_eq_false_iff_eq.mpr (Decidable.not_not.mp j0))
 refine CW.cf rfl j1 (CW.skip (QW.then_n (CW.seq (cr (WL.as rfl (wn (CW.block ?_)))))))
 obtain ⟨o8, H⟩ := H
 refine CW.sub [(4, _), (5, _), (6, _), (7, _)] ⟨rfl, rfl, rfl, rfl, trivial⟩ ?_
 refine CW.lp (fun kL1 l_ w_ => ∃ f7 g3 b4, l_ = [(4, .bool g3), (5, .slice a4 a3 a5), (6, .slice a9 a7 b1), (7, .int .i64 b4)] ∧ reliquarylaw13_sameDisk.L1 qB rB iD bC sB bD c9 d6 l8 l9 h0 h1 m0 kL1 g3 b4 ∧ (Pl f9 f7) ∧ St w w_ (oD nA d7 d8 d9 e0 e1 e2 h0 h1 e3 e4 e5 95 :: .sl d7 d9 d8 g0 25 1 :: .sl e0 e2 e1 g1 124 2 :: .sl e3 e5 e4 g2 48 2 :: .sl m1 m3 m2 m4 48 2 :: .sl a9 b1 a7 c7 9 1 :: .sl a4 a5 a3 c4 25 1 :: oM a6 iB pD nH nI pE nJ nK iC bB pF nL nM 57 :: (f7 ++ R))) (k := o8) ⟨f9, false, 0, rfl, H, Pl.refl, h3⟩ ?_
 rintro kL1 q3 q4 ⟨f7, g3, b4, rfl, H, c8, h4⟩
 refine CW.seq (cr (WL.mv rfl (WL.mv rfl ?_)))
 refine WL.v (Runs.len_sl underlying76 rfl (by rw [h8])) ?_
 refine WL.v (Runs.lss rfl rfl rfl) (wn ?_)
 rcases H with ⟨j2, H⟩ | ⟨j2, H⟩
 ·have j3 := (decide_eq_true j2)
  refine CW.ct rfl j3 (CW.skip (QW.then_n (CW.seq (CW.block (CW.seq ?_)))))
  refine CW.region_qa wide (by kernel_rfl) h4 ?_
  refine HL.mv rfl (HL.mv rfl ?_)
  obtain ⟨⟨o9, p0⟩, H⟩ := H
  obtain ⟨q5, m5, p1, p2, p3⟩ := el_get (i := (b4).toNat) (h4.src_sl (k := 6) rfl) (n2.mono (((c5.trans a2).trans e6).trans c8).1) (fz25 w) (by decide) (by omega)
  obtain ⟨p4, p5, p6, j4, m6⟩ := inv25 p3
  replace j4 : p1 = (cl p4 p5 p6) := j4
  subst j4
  refine HL.p (Runs.indexAddr underlying76 cells25 (by decide) rfl m5 rfl o9 (by rw [show a3 = c9.length from h8]; exact p0) (o := (b4.toNat) * 1) (by first | rfl | omega)) ?_
  refine HL.v (fun wq sq => (Runs.load nagg25 rfl (Src.cellAt (j := 0) (Src.cut (sq.src_sl (k := 6) rfl) m5 p2) rfl))) ?_
  refine HL.v (fun wq sq => (Runs.bytes_str underlying25 underlying5 underlying9 rfl ((m6.2.2.at sq (mem_T (A := [_, _, _, _, _, _, _, _]) ii))) m6.1)) ?_
  refine HL.mv rfl (HL.mv rfl ?_)
  obtain ⟨⟨p7, p8⟩, H⟩ := H
  obtain ⟨q6, m7, p9, q0, q1⟩ := el_get (i := (b4).toNat) (h4.src_sl (k := 5) rfl) (n7.mono ((a2.trans e6).trans c8).1) (fz9 w) (by decide) (by omega)
  obtain j5 := inv9 q1
  replace j5 : p9 = (ct (gx d6 (b4.toNat))) := j5
  subst j5
  refine HL.p (Runs.indexAddr underlying121 cells9 (by decide) rfl m7 rfl p7 (by rw [show a7 = d6.length from k8]; exact p8) (o := (b4.toNat) * 1) (by first | rfl | omega)) ?_
  refine HL.v (fun wq sq => (Runs.load nagg9 rfl (Src.cellAt (j := 0) (Src.cut (sq.src_sl (k := 5) rfl) m7 q0) rfl))) ?_
  refine HL.p (Runs.nes rfl rfl rfl) ?_
  refine HL.nil (fun q7 m8 => ?_)
  refine wn ?_
  rcases H with ⟨j6, H⟩ | ⟨j6, H⟩
  ·have j7 : (!((strOfNums (gx c9 (b4.toNat))).toList == (gx d6 (b4.toNat)).toList)) = true := (not_t (beq_eq_false_iff_ne.mpr j6))
   refine CW.ct rfl j7 (cr (WL.as rfl (wn (CW.ret (QW.blk_r (QW.then_r (QW.then_r (QW.blk_r (QW.then_r ?_)))))))))
   obtain ⟨rfl, rfl, rfl, rfl, rfl, rfl⟩ := H
   exact QW.ret1 rfl rfl ⟨f7, d7, d8, d9, g0, e0, e1, e2, g1, e3, e4, e5, g2, ((((c6.trans c5).trans a2).trans e6).trans c8), i4, (i5.mono c8.1), i6, (i7.mono c8.1), i8, (i9.mono c8.1), rfl, (St.pk (L := [_, _, _, _, _, _, _, _]) m8 [0, 1, 2, 3])⟩
  have j7 : (!((strOfNums (gx c9 (b4.toNat))).toList == (gx d6 (b4.toNat)).toList)) = false := (not_f (beq_iff_eq.mpr (Decidable.not_not.mp j6)))
  refine CW.cf rfl j7 (CW.skip (QW.blk_n (QW.then_n (CW.region (WL.mv rfl (WL.v (Runs.add rfl rfl rfl) (WL.as rfl (WL.nil ?_))))))))
  exact QW.a ⟨f7, g3, i64.wrap (b4 + 1), rfl, H, c8, m8⟩
 have j3 := (decide_eq_false j2)
 refine CW.cf rfl j3 (CW.exit (QW.then_x (QW.then_x (QW.blk_x (QW.then_n (CW.sub [(4, _)] ⟨rfl, trivial⟩ (cr (WL.as rfl (wn (CW.ret ?_))))))))))
 obtain ⟨rfl, rfl, rfl, rfl, rfl, rfl⟩ := H
 exact QW.ret1 rfl rfl ⟨f7, d7, d8, d9, g0, e0, e1, e2, g1, e3, e4, e5, g2, ((((c6.trans c5).trans a2).trans e6).trans c8), i4, (i5.mono c8.1), i6, (i7.mono c8.1), i8, (i9.mono c8.1), rfl, (St.pk (L := [_, _, _, _, _, _, _, _]) h4 [0, 1, 2, 3])⟩
end Go.Proofs.YtmhcjafkdmcgoaaDoor
