/- Walks: each function computes what its relation says, and a call of it ends so. Printed by a program of this session (wip/gen). -/
import Derived.Test.YtmhcjafkdmcgoaaDoorGx4
namespace Go.Proofs.YtmhcjafkdmcgoaaDoor
open Go Go.Kr Go.RowKit Go.IntKind Tryd
set_option maxHeartbeats 1000000
variable {w w1 : World} {R : Pool} {iA iB iC iD iE iF iG iH iI iJ iK iL iM iN iO iP iQ iR iS iT iU iV iW iX iY iZ iAa iBa iCa iDa iEa iFa iGa iHa iIa iJa iKa iLa iMa iNa iOa iPa iQa : Int} {qA qB qC : List R25} {rA rB : List R124} {bA bB bC bD bE bF : Bool} {sA sB sC : List R48} {lA lB lC lD lE lF lG lH lI lJ lK lL lM : List Int} {nA nB nC nD nE nF nG nH nI nJ nK nL nM nN nO nP nQ nR : Nat} {pA pB pC pD pE pF pG pH : Option Addr} {xA xB xC : Cs} {tA tB : List R42} {uA : List R104} {vA vB vC vD : List R145} {dA dB : List R160} {eA : List R116} {fA : List R118} {yA yB : ByteArray} {gA : List Bool} {hA : List R9}
set_option linter.unusedVariables false
set_option linter.unusedSimpArgs false
set_option maxRecDepth 100000
def reliquarylaw13_JournalPlays.L1 (l7 : List R84) : Nat → Bool → Int → Prop
 | 0, _, _ => False
 | kL1 + 1, a1, a0 => ((a0 < (l7.length : Int) ∧ ((a0 < 20 ∧ True) ∨ (¬ (a0 < 20) ∧ True))) ∨ (¬ (a0 < (l7.length : Int)) ∧ True))
def reliquarylaw13_JournalPlays.L2 (l7 : List R84) : Nat → (List R25) → (List R124) → (List R48) → Int → (List R145) → (List R145) → Int → Bool → (List R160) → (List Int) → Int → Int → Int → Int → (List Int) → Int → Int → Int → Int → (List Int) → Int → Int → (List Int) → Int → Bool → (List Int) → Int → Int → Int → Int → (List Int) → Int → Int → Bool → Int → Prop
 | 0, _, _, _, _, _, _, _, _, _, _, _, _, _, _, _, _, _, _, _, _, _, _, _, _, _, _, _, _, _, _, _, _, _, _, _ => False
 | kL2 + 1, j7, j8, j9, k0, k1, k2, k3, k4, k5, k6, k7, k8, k9, l0, l1, l2, l3, l4, l5, l6, l8, l9, m0, m1, m2, m3, m4, m5, m6, m7, m8, m9, n0, n1, a0 => ((a0 < (l7.length : Int) ∧ ((a0 < 20 ∧ ((0 ≤ a0 ∧ a0 < (l7.length : Int)) ∧ (((((gx l7 (a0.toNat)).2.1).length : Int) > 8 ∧ True) ∨ (¬ ((((gx l7 (a0.toNat)).2.1).length : Int) > 8) ∧ ((0 ≤ a0 ∧ a0 < (l7.length : Int)) ∧ (∃ b5 b6 b7 b8 b9 c0 c1 c2 c3 c4 c5 c6 c7 a6 a7 a8 a9 b0 b1 b2 b3 a2 a3 a1 a4 a5 b4 c8 c9 d0 d1 d2 d3 d4, reliquarylaw13_step.rel j7 j8 m1 m2 j9 m3 m4 m5 m6 m7 m8 m9 n0 k0 k1 k2 k3 k4 k5 k6 k7 k8 k9 l0 l1 l2 l3 l4 l5 l6 l8 l9 m0 ((gx l7 (a0.toNat)).1) ((gx l7 (a0.toNat)).2.1) ((gx l7 (a0.toNat)).2.2.1) ((gx l7 (a0.toNat)).2.2.2.1) ((gx l7 (a0.toNat)).2.2.2.2.1) (pad 32 ((gx l7 (a0.toNat)).2.2.2.2.2.1)) ((gx l7 (a0.toNat)).2.2.2.2.2.2.1) ((gx l7 (a0.toNat)).2.2.2.2.2.2.2.1) ((gx l7 (a0.toNat)).2.2.2.2.2.2.2.2) b5 b6 b7 b8 b9 c0 c1 c2 c3 c4 c5 c6 c7 a6 a7 a8 a9 b0 b1 b2 b3 a2 a3 a1 a4 a5 b4 c8 c9 d0 d1 d2 d3 d4 ∧ (∃ d5 d6 d7 d8 d9 e0 e1 e2 e3 e4 e5 e6 e7 e8 e9 f0 f1, journal_Journal_State.rel b5 b6 b7 b8 b9 c0 c1 c2 c3 c4 c5 c6 c7 d5 d6 d7 d8 d9 e0 e1 e2 e3 e4 e5 e6 e7 e8 e9 f0 f1 ∧ (¬ (¬ (d4 = true)) ∧ (∃ f2 f3 f4, reliquarylaw13_stateOf.rel e8 e9 f0 f2 f3 f4 ∧ (¬ (¬ (((f2 == a3) && ((f3 == a1) && ((f4 == a4) && true))) = true)) ∧ (¬ (f1 ≠ a5) ∧ (∃ f5 f6 f7 f8 f9 g0 g1 g2 g3 g4 g5 g6 g7 g8, journal_Journal_Room.rel d5 d6 d7 d8 d9 e0 e1 e2 e3 e4 e5 e6 e7 f5 f6 f7 f8 f9 g0 g1 g2 g3 g4 g5 g6 g7 g8 ∧ (¬ (g8 ≠ (u64.wrap (a2 - a1))) ∧ (∃ g9 h0 h1 h2 h3 h4 h5 h6 h7 h8 h9 i0 i1 i2 i3 i4, journal_Journal_Empty.rel f5 f6 f7 f8 f9 g0 g1 g2 g3 g4 g5 g6 g7 g9 h0 h1 h2 h3 h4 h5 h6 h7 h8 h9 i0 i1 i2 i3 i4 ∧ (∃ i5 i6 i7, reliquarylaw13_stateOf.rel i2 i3 i4 i5 i6 i7 ∧ (∃ i8 i9 j0, reliquaryref13_Empty.rel b2 b3 a2 a3 a1 a4 a5 b4 i8 i9 j0 ∧ (¬ (¬ (((i5 == i8) && ((i6 == i9) && ((i7 == j0) && true))) = true)) ∧ (∃ j1 j2 j3 j4 j5 j6, reliquarylaw13_sameDisk.rel g9 h0 h1 h2 h3 a6 a7 a8 a9 b0 b1 j1 j2 j3 j4 j5 j6 ∧ (¬ (¬ (j6 = true)) ∧ reliquarylaw13_JournalPlays.L2 l7 kL2 j1 j2 j5 a6 a7 a8 a9 b0 b1 b2 b3 a2 a3 a1 a4 a5 b4 c8 c9 d0 d1 d2 d3 j3 j4 h4 h5 h6 h7 h8 h9 i0 i1 n1 (i64.wrap (a0 + 1))))))))))))))))))))) ∨ (¬ (a0 < 20) ∧ True))) ∨ (¬ (a0 < (l7.length : Int)) ∧ True))
def reliquarylaw13_JournalPlays.rel (a0 : Int) (l1 : List Int) (a2 a3 f7 f8 : Int) (f9 : List Int) (a5 a6 : Int) (l7 : List R84) : Prop := (reliquarylaw13_awake.rel  ∧ ((a0 < 1 ∧ True) ∨ (¬ (a0 < 1) ∧ ((a0 > 30 ∧ True) ∨ (¬ (a0 > 30) ∧ (∃ a4 a7 a8 a9 b0 e6, disk_New.rel a0 (some (a4, a7, a8, a9, b0)) e6 ∧ (∃ b1 b2 b3 b4 b5 b6 e7, reliquaryref06_New.rel a0 b1 b2 b3 b4 b5 b6 e7 ∧ (∃ a1 b7 b8 b9 c0 c1 e8, journal_New.rel a4 a7 a8 a9 b0 l1 a2 a3 f7 f8 f9 a5 a6 b7 b8 b9 c0 c1 a1 e8 ∧ ((a1 = none ∧ (∃ c2 c3 c4, reliquarylaw13_stateOf.rel f7 f8 f9 c2 c3 c4 ∧ (∃ e9 f0 f1 f2 f3 f4 f5 f6 c5, reliquaryref13_New.rel a0 l1 a2 a3 c2 c3 c4 a5 a6 e9 f0 f1 f2 f3 f4 f5 f6 c5 ∧ (¬ ((1 : Int) ≠ c5) ∧ (∃ k_ : Nat, reliquarylaw13_JournalPlays.L1 l7 k_ false 0))))) ∨ (∃ c6 c7 c8 c9 d0 d1 d2 d3, a1 = some (c6, c7, c8, c9, d0, d1, d2, d3) ∧ (∃ d4 d5 d6, reliquarylaw13_stateOf.rel f7 f8 f9 d4 d5 d6 ∧ (∃ d7 d8 d9 e0 e1 e2 e3 e4 e5, reliquaryref13_New.rel a0 l1 a2 a3 d4 d5 d6 a5 a6 d7 d8 d9 e0 e1 e2 e3 e4 e5 ∧ (¬ ((0 : Int) ≠ e5) ∧ (∃ k_ : Nat, reliquarylaw13_JournalPlays.L2 l7 k_ b7 b8 c1 b1 b2 b3 b4 b5 b6 d7 d8 d9 e0 e1 e2 e3 e4 0 0 (z32) 0 0 (z32) b9 c0 c6 c7 c8 c9 d0 d1 d2 d3 false 0))))))))))))))
theorem reliquarylaw13_JournalPlays.calls (w : World) (a0 : Int) (l1 : List Int) (a2 : Int) (a3 : Int) (aq6 : Int) (aq7 : Int) (aq5 : List Int) (a5 : Int) (a6 : Int) (l7 : List R84) (A7 : Option Addr) (n7 : Nat) (c7 : Nat)  (hG0 : Src w (sp 0) (iv .u32 tab0)) (hG1 : Src w (sp 1) (iv .i64 tab1)) (hl1 : l1.length = 32) (aq8 : aq5.length = 32) (hb7 : HS w [] [] A7 n7 c7 (f84 w) l7)  (H : reliquarylaw13_JournalPlays.rel a0 l1 a2 a3 aq6 aq7 aq5 a5 a6 l7 ) :
  Calls prog 7 #[.int .i64 a0, .agg (iv .u8 l1).toArray, .int .i64 a2, .int .i64 a3, .agg ((cu aq6) ++ ((cu aq7) ++ iv .u8 aq5)).toArray, .int .u64 a5, .int .u64 a6, .slice A7 n7 c7] w fun e w' => e = .returned (.bool true) ∧ Below w.heap.size w w' := by
 refine CW.en func7 rfl 169 [_, _, _, _, _, _, _, _] ?_
 refine CW.su [(0, _), (1, _), (2, _), (3, _), (4, _), (5, _), (6, _), (7, _)] ?_
 obtain ⟨T, R, hT, hR, st0⟩ := St.start w
 have hT0 : Pl [] T := ⟨fun _ h_ => (by cases h_), fun _ => hT⟩
 refine cr (WL.box st0 rfl rfl ?_)
 intro b9 ao1 W7
 refine WL.box W7 rfl rfl ?_
 intro c0 W8 I1
 refine WL.as rfl (WL.nx ?_)
 obtain ⟨W9, H⟩ := H
 refine wC ent8 rfl (reliquarylaw13_awake.calls (hG0.ext I1) (hG1.ext I1) W9) ?_
 rintro _ I2 ⟨rfl, X0⟩
 have I3 : St w I2 (oS c0 aq6 aq7 aq5 39 :: .cells b9 (iv .u8 l1) 23 :: (T ++ R)) := I1.below X0
 refine ⟨_, rfl, WL.as rfl (wn (CW.seq (cr (WL.mv rfl (WL.v (Runs.not rfl rfl) (wn (CW.cf rfl rfl (CW.skip (QW.then_n ?_)))))))))⟩
 refine CW.su [(0, _), (2, _), (3, _), (5, _), (6, _), (7, _), (9, _), (12, _), (16, _)] ?_
 refine CW.seq (cr (WL.mv rfl (WL.v (Runs.lss rfl rfl rfl) (WL.mv rfl ?_))))
 rcases H with ⟨I4, H⟩ | ⟨I4, H⟩
 ·have v4 := (decide_eq_true I4)
  iterate 2 (refine WL.off ?_ ?_; exact Wg 36 v4)
  refine WL.v (Runs.pick_t (evb rfl v4) rfl) (wn (CW.ct rfl rfl (cr (WL.as rfl (wn (CW.ret (QW.then_r ?_)))))))
  exact QW.ret1 rfl rfl ⟨rfl, I3.ext⟩
 have v4 := (decide_eq_false I4)
 refine WL.on ?_ ?_; exact Wg 36 v4
 refine WL.mv rfl ?_
 refine WL.on ?_ ?_; exact Wg 36 v4
 refine WL.v (Runs.gtr rfl rfl rfl) (WL.v (Runs.pick_f (evb rfl v4) rfl) (wn ?_))
 rcases H with ⟨I5, H⟩ | ⟨I5, H⟩
 ·have I6 := (decide_eq_true I5)
  refine CW.ct rfl I6 (cr (WL.as rfl (wn (CW.ret (QW.then_r ?_)))))
  exact QW.ret1 rfl rfl ⟨rfl, I3.ext⟩
 have I6 := (decide_eq_false I5)
 refine CW.cf rfl I6 (CW.skip (QW.then_n ?_))
 refine CW.su [(0, _), (2, _), (3, _), (5, _), (6, _), (7, _), (9, _), (12, _), (16, _)] ?_
 refine cr (WL.mv rfl ?_)
 have X1 := St.hide (A := []) (B := [_, _]) I3
 obtain ⟨F3, F4, m0, m1, F5, X2, X3, H⟩ := H
 refine wC ent11 rfl (disk_New.calls_obj T X1 (some (F3, F4, m0, m1, F5)) rfl X3) ?_
 rintro _ I7 ⟨B4, a1, i9, j0, j1, r0, j2, j3, j4, r1, j5, j6, j7, r2, y6, N3, N4, N5, N6, N7, N8, rfl, X4⟩
 have X5 := St.unhide (A := [_, _, _, _]) (B := [_, _]) X4; dsimp only [ec, en] at X5
 refine ⟨_, rfl, WL.mv rfl (WL.v (Runs.extract rfl rfl) (WL.v (Runs.extract rfl rfl) (WL.as rfl (WL.as rfl (wn ?_)))))⟩
 refine CW.su [(0, _), (2, _), (3, _), (5, _), (6, _), (7, _), (9, _), (12, _), (16, _), (18, _)] ?_
 refine cr (WL.mv rfl ?_)
 have X6 := St.hide (A := []) (B := [_, _, _, _, _, _]) X5
 obtain ⟨a4, N9, O0, a7, a8, O1, X7, X8, H⟩ := H
 refine wC ent18 rfl (reliquaryref06_New.calls B4 X6 X8) ?_
 rintro _ X9 ⟨u0, a9, b0, b1, b2, b3, b4, b5, b6, b7, l4, Y0, Y1, Y2, rfl, Y3⟩
 have Y4 := St.unhide (A := []) (B := [_, _, _, _, _, _]) Y3; dsimp only [ec, en] at Y4
 refine ⟨_, rfl, WL.mv rfl (WL.v (Runs.extract rfl rfl) (WL.v (Runs.extract rfl rfl) (WL.alloc Y4 zero57 ?_)))⟩
 intro b8 ao2 Y5
 refine WL.sw 0 Y5 row57 rfl rfl rfl ?_
 intro B5 B6
 try dsimp only [List.set] at B6
 refine WL.as rfl (wn ?_)
 refine CW.su [(0, _), (2, _), (3, _), (5, _), (6, _), (7, _), (9, _), (12, _), (16, _), (18, _), (20, _)] ?_
 refine cr (WL.mv rfl (WL.v (Runs.load_arr arr23 rfl (B6.blk (i := 6) rfl) hl1) (WL.mv rfl (WL.mv rfl ?_))))
 refine WL.v (Runs.load_mid row39 rfl B6 (i := 5) rfl (pm [] ((cu aq6) ++ ((cu aq7) ++ iv .u8 aq5)) [] (hm := by simp [lv, aq8])) (by simp [lv, aq8])) ?_
 refine WL.mv rfl (WL.mv rfl ?_)
 have I8 := (St.pk (L := [_, _, _, _, _, _, _]) B6 [1, 2, 3, 4, 0, 5, 6])
 have O2 := St.hide (A := [_, _, _, _]) (B := [_, _, _]) I8
 obtain ⟨ao3, I9, J0, j8, j9, J1, O3, O4, H⟩ := H
 rcases H with ⟨rfl, H⟩ | ⟨r3, r4, r5, r6, r7, r8, r9, s0, rfl, H⟩
 ·refine wC ent12 rfl (journal_New.calls_nil u0 O2 (N3) (N4.mono l4.1) (N5) (N6.mono l4.1) (N7) (N8.mono l4.1) hl1 aq8 none rfl O4) ?_
  rintro _ Y6 ⟨d1, g5, g6, g7, k0, g8, g9, h0, k1, h1, h2, h3, k2, k5, O5, O6, O7, O8, O9, P0, rfl, Y7⟩
  have Y8 := St.unhide (A := [_, _, _, _]) (B := [_, _, _]) Y7; dsimp only [ec, en] at Y8
  refine ⟨_, rfl, WL.mv rfl (WL.v (Runs.extract rfl rfl) (WL.v (Runs.extract rfl rfl) (WL.as rfl (WL.as rfl (wn ?_)))))⟩
  refine CW.su [(0, _), (2, _), (3, _), (5, _), (6, _), (7, _), (9, _), (12, _), (16, _), (18, _), (20, _), (22, _), (23, _)] ?_
  refine CW.seq ?_
  refine CW.region_aw wide Y8 (fun P1 Y9 => ?_)
  obtain ⟨l5, J2⟩ : ∃ r_ : Pool, r_ = (oD a1 g5 g6 g7 g8 g9 h0 j8 j9 h1 h2 h3 95 :: .sl g5 g7 g6 k0 25 1 :: .sl g8 h0 g9 k1 124 2 :: .sl h1 h3 h2 k2 48 2 :: oM b8 a4 a9 b0 b1 b2 b3 b4 a7 a8 b5 b6 b7 57 :: oS c0 aq6 aq7 aq5 39 :: .cells b9 (iv .u8 l1) 23 :: R) := ⟨_, rfl⟩
  have s1 : St w P1 ((d1 ++ l5)) := by rw [J2]; exact St.hide (A := []) (B := [_, _, _, _, _, _, _]) (T := d1) (R := R) ((St.pk (L := [_, _, _, _, _, _, _]) Y9 [0, 1, 2, 3, 4, 5, 6]))
  have P2 : ∀ w_, St w w_ ((d1 ++ l5)) → St w w_ (oD a1 g5 g6 g7 g8 g9 h0 j8 j9 h1 h2 h3 95 :: .sl g5 g7 g6 k0 25 1 :: .sl g8 h0 g9 k1 124 2 :: .sl h1 h3 h2 k2 48 2 :: oM b8 a4 a9 b0 b1 b2 b3 b4 a7 a8 b5 b6 b7 57 :: oS c0 aq6 aq7 aq5 39 :: .cells b9 (iv .u8 l1) 23 :: (d1 ++ R)) := fun w_ h_ => by rw [J2] at h_; exact St.pickT (L := [_, _, _, _, _, _, _]) (St.unhide (A := []) (B := [_, _, _, _, _, _, _]) (T := d1) (R := R) h_) [0, 1, 2, 3, 4, 5, 6] (by decide)
  refine AWX.enter (C := fun w_ => St w w_ ((d1 ++ l5))) (F := [1, 4, 5, 12]) ?_
  refine AWX.tp 0 rfl (Runs.move rfl) ?_
  refine AWX.tp 2 rfl (Runs.move rfl) ?_
  refine AWX.tp 3 rfl (Runs.move rfl) ?_
  refine AWX.tp 6 rfl (Runs.move rfl) ?_
  refine AWX.tp 7 rfl (Runs.move rfl) ?_
  refine AWX.take 1 [8, 9, 10, 11, 13, 14] rfl (by kernel_rfl) s1 Wanted.none (fun wq sq => (Runs.load_arr arr23 rfl ((P2 _ sq).blk (i := 6) rfl) hl1)) ?_
  refine AWX.take 4 [5, 8, 9, 10, 11, 13, 14] rfl (by kernel_rfl) s1 Wanted.none (fun wq sq => (Runs.load_mid row39 rfl (P2 _ sq) (i := 5) rfl (pm [] ((cu aq6) ++ ((cu aq7) ++ iv .u8 aq5)) [] (hm := by simp [lv, aq8])) (by simp [lv, aq8]))) ?_
  obtain ⟨s2, s3, k6, P3, H⟩ := H
  obtain ⟨h4, h6, h7, h8, h9, h5, i0, i1, u1, P4, H⟩ := H
  refine AWX.join (f2 := 2) (listed2 := #[true, true, true, true, true, true, true, true, true, true, true, true, true, false, false]) (fun l_ w_ => ∃ e6, l_ = [(7, .slice A7 n7 c7), (16, .bool false), (18, .pointer (sp a1)), (20, .pointer (sp b8)), (22, .pointer none), (23, .int .i64 1), (24, .pointer (sp e6)), (71, .agg (iv .u8 h4 ++ ((ci h6) ++ ((cu h7) ++ ((cu h8) ++ ((cu h9) ++ (iv .u8 h5 ++ ((cu i0) ++ (cu i1)))))))).toArray), (72, .int .i64 u1)] ∧ (k6.length = 32) ∧ (h4.length = 32) ∧ (h5.length = 32) ∧ St w w_ (oK e6 (z32) 0 0 0 0 (z32) 0 0 62 :: (d1 ++ l5))) ?_ (fun cont_5_8_12_d_118 => ?_)
  ·rintro _ Z0 ⟨e6, rfl, k7, k8, k9, P5⟩
   rw [J2] at P5
   have Z1 := St.unhide (A := [_]) (B := [_, _, _, _, _, _, _]) P5; dsimp only [ec, en] at Z1
   refine AWX.s1 13 rfl ?_
   refine WL.sw 0 Z1 row62 rfl rfl rfl (hm := by simp [lv, k8, k9]) ?_
   intro Z2 B7
   try dsimp only [List.set] at B7
   refine WL.nil ?_
   refine AWX.back (fun h_ => absurd h_ (by decide)) ?_
   refine AWX.tp 14 rfl (Runs.assign rfl) ?_
   refine AWX.done (by kernel_rfl) ?_
   refine QW.then_n (CW.seq (cr (WL.mv rfl (WL.mv rfl (WL.v (Runs.neq rfl rfl rfl) (WL.mv rfl ?_))))))
   obtain ⟨Z3, H⟩ := H
   have y7 : ((1 : Int) != u1) = false := (bne_eq_false_iff_eq.mpr (Decidable.not_not.mp Z3))
   refine WL.on ?_ ?_; exact Wg 76 y7
   refine WL.mv rfl ?_
   refine WL.on ?_ ?_; exact Wg 76 y7
   refine WL.v (Runs.eql_ptr underlying34 rfl rfl rfl) ?_
   refine WL.on ?_ ?_; exact Wg 76 y7
   refine WL.mv rfl ?_
   refine WL.on ?_ ?_; exact Wg 76 y7
   refine WL.v (Runs.neq (b := true) rfl rfl (by decide)) ?_
   refine WL.on ?_ ?_; exact Wg 76 y7
   refine WL.v (Runs.neb underlying4 rfl rfl rfl) (WL.v (Runs.pick_f (evb rfl y7) rfl) (wn ?_))
   refine CW.su [(7, _), (16, _), (18, _), (20, _), (22, _), (23, _), (24, _), (82, _)] ?_
   refine CW.cf rfl rfl (CW.skip (QW.then_n (cr (WL.v (Runs.load_mid row57 rfl B7 (i := 5) rfl (pm [] ((ci a4) ++ ((cl a9 b0 b1) ++ ((cl b2 b3 b4) ++ ((ci a7) ++ ((cb a8) ++ (cl b5 b6 b7)))))) []) rfl) ?_))))
   refine WL.v (Runs.load_mid row62 rfl B7 (i := 0) rfl (pm [] (iv .u8 h4 ++ ((ci h6) ++ ((cu h7) ++ ((cu h8) ++ ((cu h9) ++ (iv .u8 h5 ++ ((cu i0) ++ (cu i1)))))))) [] (hm := by simp [lv, k8, k9])) (by simp [lv, k8, k9])) ?_
   refine WL.v (Runs.build_struct (ps := [(0, 6), (6, 70), (76, 34), (110, 34)]) (cs := ((ci a4) ++ ((cl a9 b0 b1) ++ ((cl b2 b3 b4) ++ ((ci a7) ++ ((cb a8) ++ ((cl b5 b6 b7) ++ (iv .u8 h4 ++ ((ci h6) ++ ((cu h7) ++ ((cu h8) ++ ((cu h9) ++ (iv .u8 h5 ++ ((cu i0) ++ ((cu i1) ++ ((cu 0) ++ ((cu 0) ++ (iv .u8 (z32) ++ ((cu 0) ++ ((cu 0) ++ iv .u8 (z32))))))))))))))))))))) plc81 zero81 rfl (by refine Fills.cons (o := 0) (ms := ((ci a4) ++ ((cl a9 b0 b1) ++ ((cl b2 b3 b4) ++ ((ci a7) ++ ((cb a8) ++ (cl b5 b6 b7))))))) (show _ = some (0, ((ci a4) ++ ((cl a9 b0 b1) ++ ((cl b2 b3 b4) ++ ((ci a7) ++ ((cb a8) ++ (cl b5 b6 b7)))))).length) by rw [show ((ci a4) ++ ((cl a9 b0 b1) ++ ((cl b2 b3 b4) ++ ((ci a7) ++ ((cb a8) ++ (cl b5 b6 b7)))))).length = 6 from rfl] <;> rfl) rfl (leL (m := 6) (n := 144) rfl (by simp [lv])) ?_; rw [show layV ((ci 0) ++ ((cl none 0 0) ++ ((cl none 0 0) ++ ((ci 0) ++ ((cb false) ++ ((cl none 0 0) ++ (iv .u8 (z32) ++ ((ci 0) ++ ((cu 0) ++ ((cu 0) ++ ((cu 0) ++ (iv .u8 (z32) ++ ((cu 0) ++ ((cu 0) ++ ((cu 0) ++ ((cu 0) ++ (iv .u8 (z32) ++ ((cu 0) ++ ((cu 0) ++ iv .u8 (z32)))))))))))))))))))) 0 ((ci a4) ++ ((cl a9 b0 b1) ++ ((cl b2 b3 b4) ++ ((ci a7) ++ ((cb a8) ++ (cl b5 b6 b7)))))) = ((ci a4) ++ ((cl a9 b0 b1) ++ ((cl b2 b3 b4) ++ ((ci a7) ++ ((cb a8) ++ ((cl b5 b6 b7) ++ (iv .u8 (z32) ++ ((ci 0) ++ ((cu 0) ++ ((cu 0) ++ ((cu 0) ++ (iv .u8 (z32) ++ ((cu 0) ++ ((cu 0) ++ ((cu 0) ++ ((cu 0) ++ (iv .u8 (z32) ++ ((cu 0) ++ ((cu 0) ++ iv .u8 (z32)))))))))))))))))))) from (layV_mid (pre := (([] : Cs))) (mid := ((ci 0) ++ ((cl none 0 0) ++ ((cl none 0 0) ++ ((ci 0) ++ ((cb false) ++ (cl none 0 0))))))) (post := (iv .u8 (z32) ++ ((ci 0) ++ ((cu 0) ++ ((cu 0) ++ ((cu 0) ++ (iv .u8 (z32) ++ ((cu 0) ++ ((cu 0) ++ ((cu 0) ++ ((cu 0) ++ (iv .u8 (z32) ++ ((cu 0) ++ ((cu 0) ++ iv .u8 (z32))))))))))))))) (by first | rfl | simp only [aa, an, na, ca]) rfl (Eq.trans (b := 6) rfl (Eq.symm rfl))).trans (by first | rfl | simp only [aa, an, na, ca])]; refine Fills.cons (o := 6) (ms := (iv .u8 h4 ++ ((ci h6) ++ ((cu h7) ++ ((cu h8) ++ ((cu h9) ++ (iv .u8 h5 ++ ((cu i0) ++ (cu i1))))))))) (show _ = some (6, (iv .u8 h4 ++ ((ci h6) ++ ((cu h7) ++ ((cu h8) ++ ((cu h9) ++ (iv .u8 h5 ++ ((cu i0) ++ (cu i1)))))))).length) by rw [show (iv .u8 h4 ++ ((ci h6) ++ ((cu h7) ++ ((cu h8) ++ ((cu h9) ++ (iv .u8 h5 ++ ((cu i0) ++ (cu i1)))))))).length = 70 from (by simp [lv, k8, k9])] <;> rfl) rfl (leL (m := 70) (n := 144) (by simp [lv, k8, k9]) (by simp [lv])) ?_; rw [show layV ((ci a4) ++ ((cl a9 b0 b1) ++ ((cl b2 b3 b4) ++ ((ci a7) ++ ((cb a8) ++ ((cl b5 b6 b7) ++ (iv .u8 (z32) ++ ((ci 0) ++ ((cu 0) ++ ((cu 0) ++ ((cu 0) ++ (iv .u8 (z32) ++ ((cu 0) ++ ((cu 0) ++ ((cu 0) ++ ((cu 0) ++ (iv .u8 (z32) ++ ((cu 0) ++ ((cu 0) ++ iv .u8 (z32)))))))))))))))))))) 6 (iv .u8 h4 ++ ((ci h6) ++ ((cu h7) ++ ((cu h8) ++ ((cu h9) ++ (iv .u8 h5 ++ ((cu i0) ++ (cu i1)))))))) = ((ci a4) ++ ((cl a9 b0 b1) ++ ((cl b2 b3 b4) ++ ((ci a7) ++ ((cb a8) ++ ((cl b5 b6 b7) ++ (iv .u8 h4 ++ ((ci h6) ++ ((cu h7) ++ ((cu h8) ++ ((cu h9) ++ (iv .u8 h5 ++ ((cu i0) ++ ((cu i1) ++ ((cu 0) ++ ((cu 0) ++ (iv .u8 (z32) ++ ((cu 0) ++ ((cu 0) ++ iv .u8 (z32)))))))))))))))))))) from (layV_mid (pre := ((ci a4) ++ ((cl a9 b0 b1) ++ ((cl b2 b3 b4) ++ ((ci a7) ++ ((cb a8) ++ (cl b5 b6 b7))))))) (mid := (iv .u8 (z32) ++ ((ci 0) ++ ((cu 0) ++ ((cu 0) ++ ((cu 0) ++ (iv .u8 (z32) ++ ((cu 0) ++ (cu 0))))))))) (post := ((cu 0) ++ ((cu 0) ++ (iv .u8 (z32) ++ ((cu 0) ++ ((cu 0) ++ iv .u8 (z32))))))) (by first | rfl | simp only [aa, an, na, ca]) rfl (Eq.trans (b := 70) (by simp [lv]) (Eq.symm (by simp [lv, k8, k9])))).trans (by first | rfl | simp only [aa, an, na, ca])]; exact Fills.nil)) ?_
   refine WL.alloc B7 zero81 ?_
   intro B8 ao4 Z4
   refine WL.sw 0 Z4 row81 rfl rfl rfl (hm := by simp [lv, k8, k9]) ?_
   intro Z5 J3
   try dsimp only [List.set] at J3
   refine wn ?_
   refine CW.su [(7, _), (16, _), (18, _), (22, _), (23, _), (26, _)] ?_
   refine CW.seq (cr (WL.as rfl (wn (CW.block ?_))))
   obtain ⟨Z6, H⟩ := H
   refine CW.su [(7, _), (16, _), (18, _), (22, _), (23, _), (26, _), (27, _)] ?_
   refine CW.lp (fun kL1 l_ w_ => ∃ J4 y8 v5, l_ = [(7, .slice A7 n7 c7), (16, .bool y8), (18, .pointer (sp a1)), (22, .pointer none), (23, .int .i64 1), (26, .pointer (sp B8)), (27, .int .i64 v5)] ∧ reliquarylaw13_JournalPlays.L1 l7 kL1 y8 v5 ∧ (Pl d1 J4) ∧ St w w_ (.cells B8 ((ci a4) ++ ((cl a9 b0 b1) ++ ((cl b2 b3 b4) ++ ((ci a7) ++ ((cb a8) ++ ((cl b5 b6 b7) ++ (iv .u8 h4 ++ ((ci h6) ++ ((cu h7) ++ ((cu h8) ++ ((cu h9) ++ (iv .u8 h5 ++ ((cu i0) ++ ((cu i1) ++ ((cu 0) ++ ((cu 0) ++ (iv .u8 (z32) ++ ((cu 0) ++ ((cu 0) ++ iv .u8 (z32)))))))))))))))))))) 81 :: oK e6 h4 h6 h7 h8 h9 h5 i0 i1 62 :: oD a1 g5 g6 g7 g8 g9 h0 j8 j9 h1 h2 h3 95 :: .sl g5 g7 g6 k0 25 1 :: .sl g8 h0 g9 k1 124 2 :: .sl h1 h3 h2 k2 48 2 :: oM b8 a4 a9 b0 b1 b2 b3 b4 a7 a8 b5 b6 b7 57 :: oS c0 aq6 aq7 aq5 39 :: .cells b9 (iv .u8 l1) 23 :: (J4 ++ R))) (k := Z6) ⟨d1, false, 0, rfl, H, Pl.refl, J3⟩ ?_
   rintro kL1 ao5 ao6 ⟨J4, y8, v5, rfl, H, ao7, J5⟩
   refine CW.seq (cr (WL.mv rfl (WL.mv rfl ?_)))
   refine WL.v (Runs.len_sl underlying79 rfl (by rw [hb7.1])) ?_
   refine WL.v (Runs.lss rfl rfl rfl) (WL.mv rfl ?_)
   rcases H with ⟨J6, H⟩ | ⟨J6, H⟩
   ·have v6 := (decide_eq_true J6)
    refine WL.on ?_ ?_; exact Wg 90 v6
    refine WL.mv rfl ?_
    refine WL.on ?_ ?_; exact Wg 90 v6
    refine WL.v (Runs.lss rfl rfl rfl) (WL.v (Runs.pick_t (evb rfl v6) rfl) (WL.mv rfl ?_))
    rcases H with ⟨J7, H⟩ | ⟨J7, H⟩
    ·have v7 := (decide_eq_true J7)
     refine WL.on ?_ ?_; exact Wg 94 v7
     refine WL.mv rfl ?_
     refine WL.on ?_ ?_; exact Wg 94 v7
     refine WL.v (Runs.eql (b := false) rfl rfl (by decide)) ?_
     refine WL.v (Runs.pick_t (evb rfl v7) rfl) (wn (CW.cf rfl rfl (CW.exit (QW.then_x (QW.then_x (QW.blk_x (QW.then_n (CW.sub [(16, _)] ⟨rfl, trivial⟩ (cr (WL.as rfl (wn (CW.ret ?_))))))))))))
     exact QW.ret1 rfl rfl ⟨rfl, J5.ext⟩
    have v7 := (decide_eq_false J7)
    iterate 2 (refine WL.off ?_ ?_; exact Wg 94 v7)
    refine WL.v (Runs.pick_f (evb rfl v7) rfl) (wn (CW.cf rfl rfl (CW.exit (QW.then_x (QW.then_x (QW.blk_x (QW.then_n (CW.sub [(16, _)] ⟨rfl, trivial⟩ (cr (WL.as rfl (wn (CW.ret ?_))))))))))))
    exact QW.ret1 rfl rfl ⟨rfl, J5.ext⟩
   have v6 := (decide_eq_false J6)
   iterate 2 (refine WL.off ?_ ?_; exact Wg 90 v6)
   refine WL.v (Runs.pick_f (evb rfl v6) rfl) (WL.mv rfl ?_)
   iterate 2 (refine WL.off ?_ ?_; exact Wg 94 rfl)
   refine WL.v (Runs.pick_f rfl rfl) (wn (CW.cf rfl rfl (CW.exit (QW.then_x (QW.then_x (QW.blk_x (QW.then_n (CW.sub [(16, _)] ⟨rfl, trivial⟩ (cr (WL.as rfl (wn (CW.ret ?_))))))))))))
   exact QW.ret1 rfl rfl ⟨rfl, J5.ext⟩
  refine AWX.join (f2 := 3) (listed2 := #[true, true, true, true, true, true, true, true, true, true, true, true, false, false, false]) (fun l_ w_ => l_ = [(7, .slice A7 n7 c7), (16, .bool false), (18, .pointer (sp a1)), (20, .pointer (sp b8)), (22, .pointer none), (23, .int .i64 1), (71, .agg (iv .u8 h4 ++ ((ci h6) ++ ((cu h7) ++ ((cu h8) ++ ((cu h9) ++ (iv .u8 h5 ++ ((cu i0) ++ (cu i1)))))))).toArray), (72, .int .i64 u1)] ∧ (k6.length = 32) ∧ (h4.length = 32) ∧ (h5.length = 32) ∧ St w w_ ((d1 ++ l5))) ?_ (fun cont_5_8_d_118 => ?_)
  ·rintro _ ao8 ⟨rfl, k7, k8, k9, Z7⟩
   refine AWX.s1 12 rfl ?_
   refine WL.alloc Z7 zero62 ?_
   intro e6 ao9 P6
   refine WL.nil ?_
   refine AWX.back (fun _ => (St.subset s1 P6 (mem_TR (A := [_]) ii))) ?_
   exact AWX.to cont_5_8_12_d_118 ⟨e6, rfl, k7, k8, k9, P6⟩
  refine AWX.join (f2 := 6) (listed2 := #[true, true, true, true, true, true, true, true, false, false, false, false, true, false, false]) (fun l_ w_ => ∃ e6, l_ = [(7, .slice A7 n7 c7), (16, .bool false), (18, .pointer (sp a1)), (20, .pointer (sp b8)), (22, .pointer none), (23, .int .i64 1), (24, .pointer (sp e6)), (62, .int .i64 a0), (63, .agg (iv .u8 l1).toArray), (64, .int .i64 a2), (65, .int .i64 a3), (67, .agg ((cu s2) ++ ((cu s3) ++ iv .u8 k6)).toArray), (68, .int .u64 a5), (69, .int .u64 a6)] ∧ (k6.length = 32) ∧ St w w_ (oK e6 (z32) 0 0 0 0 (z32) 0 0 62 :: (d1 ++ l5))) ?_ (fun cont_5_12_d_118 => ?_)
  ·rintro _ Z8 ⟨e6, rfl, k7, Z9⟩
   refine AWX.s1 8 rfl ?_
   refine wC ent19 rfl (reliquaryref13_New.calls hl1 k7 P4) ?_
   rintro _ aa0 ⟨k8, k9, rfl, aa1⟩
   have aa2 := Z9.call aa1
   refine ⟨_, rfl, WL.nil ?_⟩
   refine AWX.back (fun h_ => absurd h_ (by decide)) ?_
   refine AWX.tp 9 rfl (Runs.move rfl) ?_
   refine AWX.tp 10 rfl (Runs.extract rfl rfl) ?_
   refine AWX.tp 11 rfl (Runs.extract rfl rfl) ?_
   exact AWX.to cont_5_8_12_d_118 ⟨e6, rfl, k7, k8, k9, aa2⟩
  refine AWX.join (f2 := 7) (listed2 := #[true, true, true, true, true, true, true, true, false, false, false, false, false, false, false]) (fun l_ w_ => l_ = [(7, .slice A7 n7 c7), (16, .bool false), (18, .pointer (sp a1)), (20, .pointer (sp b8)), (22, .pointer none), (23, .int .i64 1), (62, .int .i64 a0), (63, .agg (iv .u8 l1).toArray), (64, .int .i64 a2), (65, .int .i64 a3), (67, .agg ((cu s2) ++ ((cu s3) ++ iv .u8 k6)).toArray), (68, .int .u64 a5), (69, .int .u64 a6)] ∧ (k6.length = 32) ∧ St w w_ ((d1 ++ l5))) ?_ (fun cont_5_d_118 => ?_)
  ·rintro _ aa3 ⟨rfl, k7, P7⟩
   refine AWX.steps [8, 12] (by kernel_rfl) (by decide) (List.forall_mem_cons.2 ⟨⟨_, rfl, ?_⟩, List.forall_mem_cons.2 ⟨⟨_, rfl, ?_⟩, fun _ h_ => by cases h_⟩⟩)
   ·refine wC ent19 rfl (reliquaryref13_New.calls hl1 k7 P4) ?_
    rintro _ aa4 ⟨k8, k9, rfl, aa5⟩
    have aa6 := P7.call aa5
    refine ⟨_, rfl, WL.nil ?_⟩
    refine AWX.back (fun h_ => absurd h_ (by decide)) ?_
    refine AWX.tp 9 rfl (Runs.move rfl) ?_
    refine AWX.tp 10 rfl (Runs.extract rfl rfl) ?_
    refine AWX.tp 11 rfl (Runs.extract rfl rfl) ?_
    exact AWX.to cont_5_8_d_118 ⟨rfl, k7, k8, k9, aa6⟩
   refine WL.alloc P7 zero62 ?_
   intro e6 ap0 P8
   refine WL.nil ?_
   refine AWX.back (fun _ => (St.subset s1 P8 (mem_TR (A := [_]) ii))) ?_
   exact AWX.to cont_5_12_d_118 ⟨e6, rfl, k7, P8⟩
  refine AWX.join (f2 := 7) (listed2 := #[true, true, true, true, true, false, true, true, false, false, false, false, true, false, false]) (fun l_ w_ => ∃ e6, l_ = [(7, .slice A7 n7 c7), (16, .bool false), (18, .pointer (sp a1)), (20, .pointer (sp b8)), (22, .pointer none), (23, .int .i64 1), (24, .pointer (sp e6)), (62, .int .i64 a0), (63, .agg (iv .u8 l1).toArray), (64, .int .i64 a2), (65, .int .i64 a3), (66, .agg ((cu aq6) ++ ((cu aq7) ++ iv .u8 aq5)).toArray), (68, .int .u64 a5), (69, .int .u64 a6)] ∧ St w w_ (oK e6 (z32) 0 0 0 0 (z32) 0 0 62 :: (d1 ++ l5))) ?_ (fun cont_12_d_118 => ?_)
  ·rintro _ aa7 ⟨e6, rfl, aa8⟩
   refine AWX.s1 5 rfl ?_
   refine wC ent23 rfl (reliquarylaw13_stateOf.calls aq8 P3) ?_
   rintro _ aa9 ⟨k7, rfl, ab0⟩
   have P9 := aa8.call ab0
   refine ⟨_, rfl, WL.nil ?_⟩
   refine AWX.back (fun _ => (St.subset s1 P9 (mem_TR (A := [_]) ii))) ?_
   exact AWX.to cont_5_12_d_118 ⟨e6, rfl, k7, P9⟩
  refine AWX.steps [5, 12] (by kernel_rfl) (by decide) (List.forall_mem_cons.2 ⟨⟨_, rfl, ?_⟩, List.forall_mem_cons.2 ⟨⟨_, rfl, ?_⟩, fun _ h_ => by cases h_⟩⟩)
  ·refine wC ent23 rfl (reliquarylaw13_stateOf.calls aq8 P3) ?_
   rintro _ ab1 ⟨k7, rfl, ab2⟩
   have Q0 := s1.call ab2
   refine ⟨_, rfl, WL.nil ?_⟩
   refine AWX.back (fun _ => (St.subset s1 Q0 (mem_TR (A := []) ii))) ?_
   exact AWX.to cont_5_d_118 ⟨rfl, k7, Q0⟩
  refine WL.alloc s1 zero62 ?_
  intro e6 ap1 Q1
  refine WL.nil ?_
  refine AWX.back (fun _ => (St.subset s1 Q1 (mem_TR (A := [_]) ii))) ?_
  exact AWX.to cont_12_d_118 ⟨e6, rfl, Q1⟩
 refine wC ent12 rfl (journal_New.calls_obj u0 O2 (N3) (N4.mono l4.1) (N5) (N6.mono l4.1) (N7) (N8.mono l4.1) hl1 aq8 (some (r3, r4, r5, r6, r7, r8, r9, s0)) rfl O4) ?_
 rintro _ ab3 ⟨d1, g5, g6, g7, k0, g8, g9, h0, k1, h1, h2, h3, k2, d2, k5, O5, O6, O7, O8, O9, P0, ab4, ab5, rfl, ab6⟩
 have ab7 := St.unhide (A := [_, _, _, _, _]) (B := [_, _, _]) ab6; dsimp only [ec, en] at ab7
 refine ⟨_, rfl, WL.mv rfl (WL.v (Runs.extract rfl rfl) (WL.v (Runs.extract rfl rfl) (WL.as rfl (WL.as rfl (wn ?_)))))⟩
 refine CW.su [(0, _), (2, _), (3, _), (5, _), (6, _), (7, _), (9, _), (12, _), (16, _), (18, _), (20, _), (22, _), (23, _)] ?_
 refine CW.seq ?_
 refine CW.region_aw wide ab7 (fun Q2 ab8 => ?_)
 obtain ⟨l6, J8⟩ : ∃ r_ : Pool, r_ = (oD a1 g5 g6 g7 g8 g9 h0 j8 j9 h1 h2 h3 95 :: .sl g5 g7 g6 k0 25 1 :: .sl g8 h0 g9 k1 124 2 :: .sl h1 h3 h2 k2 48 2 :: oJ d2 a1 r3 r4 r5 r6 r7 r8 r9 s0 98 :: oM b8 a4 a9 b0 b1 b2 b3 b4 a7 a8 b5 b6 b7 57 :: oS c0 aq6 aq7 aq5 39 :: .cells b9 (iv .u8 l1) 23 :: R) := ⟨_, rfl⟩
 have s4 : St w Q2 ((d1 ++ l6)) := by rw [J8]; exact St.hide (A := []) (B := [_, _, _, _, _, _, _, _]) (T := d1) (R := R) ((St.pk (L := [_, _, _, _, _, _, _, _]) ab8 [0, 1, 2, 3, 4, 5, 6, 7]))
 have Q3 : ∀ w_, St w w_ ((d1 ++ l6)) → St w w_ (oD a1 g5 g6 g7 g8 g9 h0 j8 j9 h1 h2 h3 95 :: .sl g5 g7 g6 k0 25 1 :: .sl g8 h0 g9 k1 124 2 :: .sl h1 h3 h2 k2 48 2 :: oJ d2 a1 r3 r4 r5 r6 r7 r8 r9 s0 98 :: oM b8 a4 a9 b0 b1 b2 b3 b4 a7 a8 b5 b6 b7 57 :: oS c0 aq6 aq7 aq5 39 :: .cells b9 (iv .u8 l1) 23 :: (d1 ++ R)) := fun w_ h_ => by rw [J8] at h_; exact St.pickT (L := [_, _, _, _, _, _, _, _]) (St.unhide (A := []) (B := [_, _, _, _, _, _, _, _]) (T := d1) (R := R) h_) [0, 1, 2, 3, 4, 5, 6, 7] (by decide)
 refine AWX.enter (C := fun w_ => St w w_ ((d1 ++ l6))) (F := [1, 4, 5, 12]) ?_
 refine AWX.tp 0 rfl (Runs.move rfl) ?_
 refine AWX.tp 2 rfl (Runs.move rfl) ?_
 refine AWX.tp 3 rfl (Runs.move rfl) ?_
 refine AWX.tp 6 rfl (Runs.move rfl) ?_
 refine AWX.tp 7 rfl (Runs.move rfl) ?_
 refine AWX.take 1 [8, 9, 10, 11, 13, 14] rfl (by kernel_rfl) s4 Wanted.none (fun wq sq => (Runs.load_arr arr23 rfl ((Q3 _ sq).blk (i := 7) rfl) hl1)) ?_
 refine AWX.take 4 [5, 8, 9, 10, 11, 13, 14] rfl (by kernel_rfl) s4 Wanted.none (fun wq sq => (Runs.load_mid row39 rfl (Q3 _ sq) (i := 6) rfl (pm [] ((cu aq6) ++ ((cu aq7) ++ iv .u8 aq5)) [] (hm := by simp [lv, aq8])) (by simp [lv, aq8]))) ?_
 obtain ⟨s5, s6, l0, Q4, H⟩ := H
 obtain ⟨c2, c4, c5, c6, c8, c3, c9, d0, u2, Q5, H⟩ := H
 refine AWX.join (f2 := 2) (listed2 := #[true, true, true, true, true, true, true, true, true, true, true, true, true, false, false]) (fun l_ w_ => ∃ c1, l_ = [(7, .slice A7 n7 c7), (16, .bool false), (18, .pointer (sp a1)), (20, .pointer (sp b8)), (22, .pointer (sp d2)), (23, .int .i64 0), (24, .pointer (sp c1)), (71, .agg (iv .u8 c2 ++ ((ci c4) ++ ((cu c5) ++ ((cu c6) ++ ((cu c8) ++ (iv .u8 c3 ++ ((cu c9) ++ (cu d0)))))))).toArray), (72, .int .i64 u2)] ∧ (l0.length = 32) ∧ (c2.length = 32) ∧ (c3.length = 32) ∧ St w w_ (oK c1 (z32) 0 0 0 0 (z32) 0 0 62 :: (d1 ++ l6))) ?_ (fun cont_5_8_12_d_259 => ?_)
 ·rintro _ ab9 ⟨c1, rfl, l2, k3, k4, Q6⟩
  rw [J8] at Q6
  have ac0 := St.unhide (A := [_]) (B := [_, _, _, _, _, _, _, _]) Q6; dsimp only [ec, en] at ac0
  refine AWX.s1 13 rfl ?_
  refine WL.sw 0 ac0 row62 rfl rfl rfl (hm := by simp [lv, k3, k4]) ?_
  intro ac1 B9
  try dsimp only [List.set] at B9
  refine WL.nil ?_
  refine AWX.back (fun h_ => absurd h_ (by decide)) ?_
  refine AWX.tp 14 rfl (Runs.assign rfl) ?_
  refine AWX.done (by kernel_rfl) ?_
  refine QW.then_n (CW.seq (cr (WL.mv rfl (WL.mv rfl (WL.v (Runs.neq rfl rfl rfl) (WL.mv rfl ?_))))))
  obtain ⟨ac2, H⟩ := H
  have y9 : ((0 : Int) != u2) = false := (bne_eq_false_iff_eq.mpr (Decidable.not_not.mp ac2))
  refine WL.on ?_ ?_; exact Wg 76 y9
  refine WL.mv rfl ?_
  refine WL.on ?_ ?_; exact Wg 76 y9
  refine WL.v (Runs.eql_ptr underlying34 rfl rfl rfl) ?_
  refine WL.on ?_ ?_; exact Wg 76 y9
  refine WL.mv rfl ?_
  refine WL.on ?_ ?_; exact Wg 76 y9
  refine WL.v (Runs.neq (b := false) rfl rfl (by decide)) ?_
  refine WL.on ?_ ?_; exact Wg 76 y9
  refine WL.v (Runs.neb underlying4 rfl rfl rfl) (WL.v (Runs.pick_f (evb rfl y9) rfl) (wn ?_))
  refine CW.su [(7, _), (16, _), (18, _), (20, _), (22, _), (23, _), (24, _), (82, _)] ?_
  refine CW.cf rfl rfl (CW.skip (QW.then_n (cr (WL.v (Runs.load_mid row57 rfl B9 (i := 6) rfl (pm [] ((ci a4) ++ ((cl a9 b0 b1) ++ ((cl b2 b3 b4) ++ ((ci a7) ++ ((cb a8) ++ (cl b5 b6 b7)))))) []) rfl) ?_))))
  refine WL.v (Runs.load_mid row62 rfl B9 (i := 0) rfl (pm [] (iv .u8 c2 ++ ((ci c4) ++ ((cu c5) ++ ((cu c6) ++ ((cu c8) ++ (iv .u8 c3 ++ ((cu c9) ++ (cu d0)))))))) [] (hm := by simp [lv, k3, k4])) (by simp [lv, k3, k4])) ?_
  refine WL.v (Runs.build_struct (ps := [(0, 6), (6, 70), (76, 34), (110, 34)]) (cs := ((ci a4) ++ ((cl a9 b0 b1) ++ ((cl b2 b3 b4) ++ ((ci a7) ++ ((cb a8) ++ ((cl b5 b6 b7) ++ (iv .u8 c2 ++ ((ci c4) ++ ((cu c5) ++ ((cu c6) ++ ((cu c8) ++ (iv .u8 c3 ++ ((cu c9) ++ ((cu d0) ++ ((cu 0) ++ ((cu 0) ++ (iv .u8 (z32) ++ ((cu 0) ++ ((cu 0) ++ iv .u8 (z32))))))))))))))))))))) plc81 zero81 rfl (by refine Fills.cons (o := 0) (ms := ((ci a4) ++ ((cl a9 b0 b1) ++ ((cl b2 b3 b4) ++ ((ci a7) ++ ((cb a8) ++ (cl b5 b6 b7))))))) (show _ = some (0, ((ci a4) ++ ((cl a9 b0 b1) ++ ((cl b2 b3 b4) ++ ((ci a7) ++ ((cb a8) ++ (cl b5 b6 b7)))))).length) by rw [show ((ci a4) ++ ((cl a9 b0 b1) ++ ((cl b2 b3 b4) ++ ((ci a7) ++ ((cb a8) ++ (cl b5 b6 b7)))))).length = 6 from rfl] <;> rfl) rfl (leL (m := 6) (n := 144) rfl (by simp [lv])) ?_; rw [show layV ((ci 0) ++ ((cl none 0 0) ++ ((cl none 0 0) ++ ((ci 0) ++ ((cb false) ++ ((cl none 0 0) ++ (iv .u8 (z32) ++ ((ci 0) ++ ((cu 0) ++ ((cu 0) ++ ((cu 0) ++ (iv .u8 (z32) ++ ((cu 0) ++ ((cu 0) ++ ((cu 0) ++ ((cu 0) ++ (iv .u8 (z32) ++ ((cu 0) ++ ((cu 0) ++ iv .u8 (z32)))))))))))))))))))) 0 ((ci a4) ++ ((cl a9 b0 b1) ++ ((cl b2 b3 b4) ++ ((ci a7) ++ ((cb a8) ++ (cl b5 b6 b7)))))) = ((ci a4) ++ ((cl a9 b0 b1) ++ ((cl b2 b3 b4) ++ ((ci a7) ++ ((cb a8) ++ ((cl b5 b6 b7) ++ (iv .u8 (z32) ++ ((ci 0) ++ ((cu 0) ++ ((cu 0) ++ ((cu 0) ++ (iv .u8 (z32) ++ ((cu 0) ++ ((cu 0) ++ ((cu 0) ++ ((cu 0) ++ (iv .u8 (z32) ++ ((cu 0) ++ ((cu 0) ++ iv .u8 (z32)))))))))))))))))))) from (layV_mid (pre := (([] : Cs))) (mid := ((ci 0) ++ ((cl none 0 0) ++ ((cl none 0 0) ++ ((ci 0) ++ ((cb false) ++ (cl none 0 0))))))) (post := (iv .u8 (z32) ++ ((ci 0) ++ ((cu 0) ++ ((cu 0) ++ ((cu 0) ++ (iv .u8 (z32) ++ ((cu 0) ++ ((cu 0) ++ ((cu 0) ++ ((cu 0) ++ (iv .u8 (z32) ++ ((cu 0) ++ ((cu 0) ++ iv .u8 (z32))))))))))))))) (by first | rfl | simp only [aa, an, na, ca]) rfl (Eq.trans (b := 6) rfl (Eq.symm rfl))).trans (by first | rfl | simp only [aa, an, na, ca])]; refine Fills.cons (o := 6) (ms := (iv .u8 c2 ++ ((ci c4) ++ ((cu c5) ++ ((cu c6) ++ ((cu c8) ++ (iv .u8 c3 ++ ((cu c9) ++ (cu d0))))))))) (show _ = some (6, (iv .u8 c2 ++ ((ci c4) ++ ((cu c5) ++ ((cu c6) ++ ((cu c8) ++ (iv .u8 c3 ++ ((cu c9) ++ (cu d0)))))))).length) by rw [show (iv .u8 c2 ++ ((ci c4) ++ ((cu c5) ++ ((cu c6) ++ ((cu c8) ++ (iv .u8 c3 ++ ((cu c9) ++ (cu d0)))))))).length = 70 from (by simp [lv, k3, k4])] <;> rfl) rfl (leL (m := 70) (n := 144) (by simp [lv, k3, k4]) (by simp [lv])) ?_; rw [show layV ((ci a4) ++ ((cl a9 b0 b1) ++ ((cl b2 b3 b4) ++ ((ci a7) ++ ((cb a8) ++ ((cl b5 b6 b7) ++ (iv .u8 (z32) ++ ((ci 0) ++ ((cu 0) ++ ((cu 0) ++ ((cu 0) ++ (iv .u8 (z32) ++ ((cu 0) ++ ((cu 0) ++ ((cu 0) ++ ((cu 0) ++ (iv .u8 (z32) ++ ((cu 0) ++ ((cu 0) ++ iv .u8 (z32)))))))))))))))))))) 6 (iv .u8 c2 ++ ((ci c4) ++ ((cu c5) ++ ((cu c6) ++ ((cu c8) ++ (iv .u8 c3 ++ ((cu c9) ++ (cu d0)))))))) = ((ci a4) ++ ((cl a9 b0 b1) ++ ((cl b2 b3 b4) ++ ((ci a7) ++ ((cb a8) ++ ((cl b5 b6 b7) ++ (iv .u8 c2 ++ ((ci c4) ++ ((cu c5) ++ ((cu c6) ++ ((cu c8) ++ (iv .u8 c3 ++ ((cu c9) ++ ((cu d0) ++ ((cu 0) ++ ((cu 0) ++ (iv .u8 (z32) ++ ((cu 0) ++ ((cu 0) ++ iv .u8 (z32)))))))))))))))))))) from (layV_mid (pre := ((ci a4) ++ ((cl a9 b0 b1) ++ ((cl b2 b3 b4) ++ ((ci a7) ++ ((cb a8) ++ (cl b5 b6 b7))))))) (mid := (iv .u8 (z32) ++ ((ci 0) ++ ((cu 0) ++ ((cu 0) ++ ((cu 0) ++ (iv .u8 (z32) ++ ((cu 0) ++ (cu 0))))))))) (post := ((cu 0) ++ ((cu 0) ++ (iv .u8 (z32) ++ ((cu 0) ++ ((cu 0) ++ iv .u8 (z32))))))) (by first | rfl | simp only [aa, an, na, ca]) rfl (Eq.trans (b := 70) (by simp [lv]) (Eq.symm (by simp [lv, k3, k4])))).trans (by first | rfl | simp only [aa, an, na, ca])]; exact Fills.nil)) ?_
  refine WL.alloc B9 zero81 ?_
  intro g3 ap2 ac3
  refine WL.sw 0 ac3 row81 rfl rfl rfl (hm := by simp [lv, k3, k4]) ?_
  intro ac4 J9
  try dsimp only [List.set] at J9
  refine wn ?_
  refine CW.su [(7, _), (16, _), (18, _), (22, _), (23, _), (26, _)] ?_
  refine CW.seq (cr (WL.as rfl (wn (CW.block ?_))))
  obtain ⟨ac5, H⟩ := H
  refine CW.su [(7, _), (16, _), (18, _), (22, _), (23, _), (26, _), (27, _)] ?_
  refine CW.lp (fun kL2 l_ w_ => ∃ i7 u3 u4 s7 z0 C0 u5 u6 s8 z1 C1 u7 u9 s9 z2 C2 o6 o7 o8 o9 F6 p0 p1 p2 F7 p3 p4 p5 p6 p7 F8 m2 p8 p9 q0 q1 m3 q2 q3 q4 q5 m4 q6 q7 m5 z3 z4 v8 z5 z6 z7 z8 v9 z9 A0 A1 d3, l_ = [(7, .slice A7 n7 c7), (16, .bool A1), (18, .pointer (sp a1)), (22, .pointer (sp d2)), (23, .int .i64 0), (26, .pointer (sp g3)), (27, .int .i64 d3)] ∧ reliquarylaw13_JournalPlays.L2 l7 kL2 C0 C1 C2 o6 F6 F7 p3 p4 F8 m2 p8 p9 q0 q1 m3 q2 q3 q4 q5 m4 q6 q7 m5 z3 z4 v8 z5 z6 z7 z8 v9 z9 A0 A1 d3 ∧ (Pl d1 i7) ∧ (s7 = C0.length) ∧ (HRs i7 (f25 w) z0 C0) ∧ (s8 = C1.length) ∧ (HRs i7 (f124 w) z1 C1) ∧ (s9 = C2.length) ∧ (HRs i7 (f48 w) z2 C2) ∧ (HS w i7 i7 o7 o8 o9 (f145 w) F6) ∧ (HS w i7 i7 p0 p1 p2 (f145 w) F7) ∧ (HS w i7 i7 p5 p6 p7 (f160 w) F8) ∧ (m2.length = 32) ∧ (m3.length = 32) ∧ (m4.length = 32) ∧ (m5.length = 32) ∧ (v8.length = 32) ∧ (v9.length = 32) ∧ St w w_ (.cells g3 ((ci o6) ++ ((cl o7 o8 o9) ++ ((cl p0 p1 p2) ++ ((ci p3) ++ ((cb p4) ++ ((cl p5 p6 p7) ++ (iv .u8 m2 ++ ((ci p8) ++ ((cu p9) ++ ((cu q0) ++ ((cu q1) ++ (iv .u8 m3 ++ ((cu q2) ++ ((cu q3) ++ ((cu q4) ++ ((cu q5) ++ (iv .u8 m4 ++ ((cu q6) ++ ((cu q7) ++ iv .u8 m5))))))))))))))))))) 81 :: oK c1 c2 c4 c5 c6 c8 c3 c9 d0 62 :: oD a1 u3 s7 u4 u5 s8 u6 z3 z4 u7 s9 u9 95 :: .sl u3 u4 s7 z0 25 1 :: .sl u5 u6 s8 z1 124 2 :: .sl u7 u9 s9 z2 48 2 :: oJ d2 a1 v8 z5 z6 z7 z8 v9 z9 A0 98 :: oM b8 a4 a9 b0 b1 b2 b3 b4 a7 a8 b5 b6 b7 57 :: oS c0 aq6 aq7 aq5 39 :: .cells b9 (iv .u8 l1) 23 :: (i7 ++ R))) (k := ac5) ⟨d1, g5, g7, g6, k0, I9, g8, h0, g9, k1, J0, h1, h3, h2, k2, J1, a4, a9, b0, b1, N9, b2, b3, b4, O0, a7, a8, b5, b6, b7, O1, c2, c4, c5, c6, c8, c3, c9, d0, 0, 0, z32, 0, 0, z32, j8, j9, r3, r4, r5, r6, r7, r8, r9, s0, false, 0, rfl, H, Pl.refl, O5, O6, O7, O8, O9, P0, (Y0.mono k5.1 k5.1), (Y1.mono k5.1 k5.1), (Y2.mono k5.1 k5.1), k3, k4, (List.length_replicate ..), (List.length_replicate ..), ab4, ab5, J9⟩ ?_
  rintro kL2 ap3 ap4 ⟨i7, u3, u4, s7, z0, C0, u5, u6, s8, z1, C1, u7, u9, s9, z2, C2, o6, o7, o8, o9, F6, p0, p1, p2, F7, p3, p4, p5, p6, p7, F8, m2, p8, p9, q0, q1, m3, q2, q3, q4, q5, m4, q6, q7, m5, z3, z4, v8, z5, z6, z7, z8, v9, z9, A0, A1, d3, rfl, H, w0, ac6, ac7, ac8, ac9, ad0, ad1, ad2, ad3, ad4, F9, G0, G1, G2, ad5, ad6, A2⟩
  refine CW.seq (cr (WL.mv rfl (WL.mv rfl ?_)))
  refine WL.v (Runs.len_sl underlying79 rfl (by rw [hb7.1])) ?_
  refine WL.v (Runs.lss rfl rfl rfl) (WL.mv rfl ?_)
  rcases H with ⟨K0, H⟩ | ⟨K0, H⟩
  ·have w1 := (decide_eq_true K0)
   refine WL.on ?_ ?_; exact Wg 90 w1
   refine WL.mv rfl ?_
   refine WL.on ?_ ?_; exact Wg 90 w1
   refine WL.v (Runs.lss rfl rfl rfl) (WL.v (Runs.pick_t (evb rfl w1) rfl) (WL.mv rfl ?_))
   rcases H with ⟨K1, H⟩ | ⟨K1, H⟩
   ·have w2 := (decide_eq_true K1)
    refine WL.on ?_ ?_; exact Wg 94 w2
    refine WL.mv rfl ?_
    refine WL.on ?_ ?_; exact Wg 94 w2
    refine WL.v (Runs.eql (b := true) rfl rfl (by decide)) ?_
    refine WL.v (Runs.pick_t (evb rfl w2) rfl) (wn (CW.ct rfl rfl (CW.skip (QW.then_n (CW.seq (CW.block (CW.seq (cr (WL.mv rfl (WL.mv rfl ?_))))))))))
    obtain ⟨⟨ad7, ad8⟩, H⟩ := H
    obtain ⟨ap5, Q7, ad9⟩ := hb7.2.2
    obtain ⟨ap6, Q8, ae0, ae1, ae2⟩ := el_get (i := (d3).toNat) ((Q7.at A2 (mem_T (A := [_, _, _, _, _, _, _, _, _, _]) ((((hT0.trans y6).trans l4).trans k5).trans w0).1))) (ad9.mono ((((hT0.trans y6).trans l4).trans k5).trans w0).1) (fz84 w) (by decide) (by ((try clear H); omega))
    obtain ⟨Q9, R0, R1, R2, R3, R4, K2, ae3, ap7⟩ := inv84 ae2
    replace K2 : ae0 = (ci ((gx l7 (d3.toNat)).1)) ++ ((cl Q9 R0 R1) ++ ((cb ((gx l7 (d3.toNat)).2.2.1)) ++ ((cu ((gx l7 (d3.toNat)).2.2.2.1)) ++ ((cu ((gx l7 (d3.toNat)).2.2.2.2.1)) ++ (iv .u8 (pad 32 ((gx l7 (d3.toNat)).2.2.2.2.2.1)) ++ ((cu ((gx l7 (d3.toNat)).2.2.2.2.2.2.1)) ++ ((ci ((gx l7 (d3.toNat)).2.2.2.2.2.2.2.1)) ++ (cl R2 R3 R4)))))))) := K2
    subst K2
    refine WL.v (Runs.indexAddr underlying79 cells84 (by decide) rfl Q8 rfl ad7 (by rw [show n7 = l7.length from hb7.1]; exact ad8) (o := (d3.toNat) * 40) (by first | rfl | ((try clear H); omega))) ?_
    refine WL.v (Runs.fieldAddrB (off := 1) fld84_1 rfl rfl rfl) ?_
    refine WL.v (Runs.load nagg40 rfl (Src.cellAt (j := 1) (Src.cut ((Q7.at A2 (mem_T (A := [_, _, _, _, _, _, _, _, _, _]) ((((hT0.trans y6).trans l4).trans k5).trans w0).1))) Q8 ae1) (pa (.slice Q9 R0 R1) (ci ((gx l7 (d3.toNat)).1)) ((cb ((gx l7 (d3.toNat)).2.2.1)) ++ ((cu ((gx l7 (d3.toNat)).2.2.2.1)) ++ ((cu ((gx l7 (d3.toNat)).2.2.2.2.1)) ++ (iv .u8 (pad 32 ((gx l7 (d3.toNat)).2.2.2.2.2.1)) ++ ((cu ((gx l7 (d3.toNat)).2.2.2.2.2.2.1)) ++ ((ci ((gx l7 (d3.toNat)).2.2.2.2.2.2.2.1)) ++ (cl R2 R3 R4)))))))))) ?_
    refine WL.v (Runs.len_sl underlying40 rfl (by rw [ae3.1])) ?_
    refine WL.v (Runs.gtr rfl rfl rfl) (wn ?_)
    rcases H with ⟨K3, H⟩ | ⟨K3, H⟩
    ·have K4 := (decide_eq_true K3)
     refine CW.ct rfl K4 (cr (WL.as rfl (wn (CW.ret (QW.then_r (QW.blk_r (QW.then_r (QW.then_r (QW.blk_r (QW.then_r ?_))))))))))
     exact QW.ret1 rfl rfl ⟨rfl, A2.ext⟩
    have K4 := (decide_eq_false K3)
    refine CW.cf rfl K4 (CW.skip (QW.then_n (cr (WL.as rfl (wn (CW.seq ?_))))))
    refine CW.region_awh (C := fun w_ => St w w_ (oK c1 c2 c4 c5 c6 c8 c3 c9 d0 62 :: oM b8 a4 a9 b0 b1 b2 b3 b4 a7 a8 b5 b6 b7 57 :: oS c0 aq6 aq7 aq5 39 :: .cells b9 (iv .u8 l1) 23 :: (i7 ++ R))) 12 wide (by kernel_rfl) A2 (fun G3 m6 => ?_)
    have l8 : St w G3 (oK c1 c2 c4 c5 c6 c8 c3 c9 d0 62 :: oM b8 a4 a9 b0 b1 b2 b3 b4 a7 a8 b5 b6 b7 57 :: oS c0 aq6 aq7 aq5 39 :: .cells b9 (iv .u8 l1) 23 :: (i7 ++ R)) := (St.pk (L := [_, _, _, _, _, _, _, _, _, _]) m6 [1, 7, 8, 9])
    have zD1 := St.subset l8 m6 (mcD 1 7 8 9 (mem_TR (A := [_, _, _, _, _, _, _, _, _, _]) ii))
    refine AWH.tk 0 rfl zD1 (fun wq sq => (Runs.move rfl)) ?_
    refine AWH.tk 1 rfl zD1 (fun wq sq => (Runs.move rfl)) ?_
    refine AWH.tk 3 rfl zD1 (fun wq sq => (Runs.move rfl)) ?_
    refine AWH.tk 4 rfl zD1 (fun wq sq => (Runs.move rfl)) ?_
    obtain ⟨⟨ae4, ae5⟩, H⟩ := H
    obtain ⟨ap8, R5, ae6⟩ := hb7.2.2
    obtain ⟨ap9, R6, ae7, ae8, ae9⟩ := el_get (i := (d3).toNat) ((R5.at m6 (mem_T (A := [_, _, _, _, _, _, _, _, _, _]) ((((hT0.trans y6).trans l4).trans k5).trans w0).1))) (ae6.mono ((((hT0.trans y6).trans l4).trans k5).trans w0).1) (fz84 w) (by decide) (by ((try clear H); omega))
    obtain ⟨R7, R8, R9, S0, S1, S2, K5, af0, af1⟩ := inv84 ae9
    replace K5 : ae7 = (ci ((gx l7 (d3.toNat)).1)) ++ ((cl R7 R8 R9) ++ ((cb ((gx l7 (d3.toNat)).2.2.1)) ++ ((cu ((gx l7 (d3.toNat)).2.2.2.1)) ++ ((cu ((gx l7 (d3.toNat)).2.2.2.2.1)) ++ (iv .u8 (pad 32 ((gx l7 (d3.toNat)).2.2.2.2.2.1)) ++ ((cu ((gx l7 (d3.toNat)).2.2.2.2.2.2.1)) ++ ((ci ((gx l7 (d3.toNat)).2.2.2.2.2.2.2.1)) ++ (cl S0 S1 S2)))))))) := K5
    subst K5
    refine AWH.tk 5 rfl zD1 (fun wq sq => (Runs.indexAddr underlying79 cells84 (by decide) rfl R6 rfl ae4 (by rw [show n7 = l7.length from hb7.1]; exact ae5) (o := (d3.toNat) * 40) (by first | rfl | ((try clear H); omega)))) ?_
    refine AWH.tk 6 rfl zD1 (fun wq sq => (Runs.load_srcR row84 rfl (Src.cut ((R5.at sq (mem_T (A := [_, _, _, _]) ((((hT0.trans y6).trans l4).trans k5).trans w0).1))) R6 ae8) (by first | rfl | simp only [la, lc, ln, lv, (show (pad 32 ((gx l7 (d3.toNat)).2.2.2.2.2.1)).length = 32 from (pad_length 32 _))]))) ?_
    refine AWH.step 2 rfl (by decide) (by kernel_rfl) (fun inv_ hs_ hk_ hc_ hn_ => ?_)
    refine WL.v (Runs.load_mid row81 rfl m6 (i := 0) rfl (pm [] ((ci o6) ++ ((cl o7 o8 o9) ++ ((cl p0 p1 p2) ++ ((ci p3) ++ ((cb p4) ++ ((cl p5 p6 p7) ++ (iv .u8 m2 ++ ((ci p8) ++ ((cu p9) ++ ((cu q0) ++ ((cu q1) ++ (iv .u8 m3 ++ ((cu q2) ++ ((cu q3) ++ ((cu q4) ++ ((cu q5) ++ (iv .u8 m4 ++ ((cu q6) ++ ((cu q7) ++ iv .u8 m5))))))))))))))))))) [] (hm := by simp [lv, F9, G0, G1, G2])) (by simp [lv, F9, G0, G1, G2])) ?_
    refine WL.nil ?_
    refine AWH.back zD1 inv_ hs_ hk_ hc_ hn_ ?_
    refine AWH.step 7 rfl (by decide) (by kernel_rfl) (fun inv_ hs_ hk_ hc_ hn_ => ?_)
    have K6 := (St.pk (L := [_, _, _, _, _, _, _, _, _, _]) m6 [6, 2, 3, 4, 5, 0, 1, 7, 8, 9])
    have af2 := St.hide (A := [_, _, _, _, _]) (B := [_, _, _, _, _]) K6
    obtain ⟨S3, S4, C3, C4, S5, C5, C6, C7, C8, C9, D0, D1, D2, e0, K7, K8, e1, e2, K9, e3, e4, d8, d6, d5, d7, d9, e5, e7, e8, e9, f0, f1, f3, S6, af3, H⟩ := H
    refine wC ent28 rfl (reliquarylaw13_step.calls i7 af2 hG0 hG1 (ac6) ac7 (ac8) ac9 (ad0) ad1 ad5 ad6 ad2 ad3 ad4 F9 G0 G1 G2 af0 (pad_length 32 _) af1 af3) ?_
    rintro _ af4 ⟨A3, w3, w4, w5, G4, w6, w7, w8, G5, w9, x0, x1, G6, f4, f5, f6, f7, f8, f9, g0, g1, g2, A4, af5, af6, af7, af8, af9, ag0, ag1, ag2, S7, S8, S9, t0, q8, T0, T1, rfl, ag3⟩
    have D3 := St.unhide (A := [_, _, _, _, _]) (B := [_, _, _, _, _]) ag3; dsimp only [ec, en] at D3
    refine ⟨_, rfl, WL.nil ?_⟩
    have zD2 := St.subset l8 D3 (mcD 6 7 8 9 (mem_TR (A := [_, _, _, _, _, _, _, _, _, _]) A4.1))
    refine AWH.back zD2 inv_ hs_ hk_ hc_ hn_ ?_
    refine AWH.tk 8 rfl zD2 (fun wq sq => (Runs.move rfl)) ?_
    refine AWH.tk 9 rfl zD2 (fun wq sq => (Runs.extract rfl rfl)) ?_
    refine AWH.tk 10 rfl zD2 (fun wq sq => (Runs.extract rfl rfl)) ?_
    refine AWH.step 11 rfl (by decide) (by kernel_rfl) (fun inv_ hs_ hk_ hc_ hn_ => ?_)
    refine WL.sw 5 D3 row81 rfl rfl rfl (hm := by simp [lv, t0, q8, T0, T1]) (hc := by simp [lv, F9, G0, G1, G2]) ?_
    intro L0 G7
    try dsimp only [List.set] at G7
    refine WL.nil ?_
    refine AWH.back (St.subset l8 G7 (mcD 6 7 8 9 (mem_TR (A := [_, _, _, _, _, _, _, _, _, _]) A4.1))) inv_ hs_ hk_ hc_ hn_ ?_
    refine AWH.tail (by kernel_rfl) ?_
    refine AW.tk 12 rfl (fun _ => (Runs.assign rfl)) ?_
    refine AW.done (by kernel_rfl) ?_
    refine QW.then_n (cr (WL.mv rfl ?_))
    have ag4 := St.hide (A := [_, _, _, _, _]) (B := [_, _, _, _, _]) G7
    obtain ⟨T2, T3, x2, x3, T4, x4, x5, x6, x7, x8, x9, y0, y1, i2, i3, i4, T5, ag5, H⟩ := H
    refine wC ent25 rfl (journal_Journal_State.calls A3 ag4 (af5) af6 (af7) af8 (af9) ag0 ag1 ag2 ag5) ?_
    rintro _ ag6 ⟨q9, m7, m8, m9, A5, n0, n1, n2, A6, n3, n4, n5, A8, l3, ag7, ag8, ag9, ah0, ah1, ah2, ah3, ah4, G8, rfl, ah5⟩
    have ah6 := St.unhide (A := [_, _, _, _, _]) (B := [_, _, _, _, _]) ah5; dsimp only [ec, en] at ah6
    refine ⟨_, rfl, WL.mv rfl (WL.v (Runs.extract rfl rfl) (WL.v (Runs.extract rfl rfl) (WL.alloc ah6 zero39 ?_)))⟩
    intro i8 aq0 ah7
    refine WL.sw 0 ah7 row39 rfl rfl rfl (hm := by simp [lv, G8]) ?_
    intro ah8 L3
    try dsimp only [List.set] at L3
    refine WL.as rfl (wn (CW.seq ?_))
    refine CW.region_awh (C := fun w_ => St w w_ (oS i8 i2 i3 i4 39 :: .cells g3 ((ci e0) ++ ((cl f4 f5 f6) ++ ((cl f7 f8 f9) ++ ((ci e1) ++ ((cb e2) ++ ((cl g0 g1 g2) ++ (iv .u8 e3 ++ ((ci e4) ++ ((cu d8) ++ ((cu d6) ++ ((cu d5) ++ (iv .u8 d7 ++ ((cu d9) ++ ((cu e5) ++ ((cu e7) ++ ((cu e8) ++ (iv .u8 e9 ++ ((cu f0) ++ ((cu f1) ++ iv .u8 f3))))))))))))))))))) 81 :: oK c1 c2 c4 c5 c6 c8 c3 c9 d0 62 :: oM b8 a4 a9 b0 b1 b2 b3 b4 a7 a8 b5 b6 b7 57 :: oS c0 aq6 aq7 aq5 39 :: .cells b9 (iv .u8 l1) 23 :: (q9 ++ R))) 43 wide (by kernel_rfl) L3 (fun T6 t1 => ?_)
    have d4 : St w T6 (oS i8 i2 i3 i4 39 :: .cells g3 ((ci e0) ++ ((cl f4 f5 f6) ++ ((cl f7 f8 f9) ++ ((ci e1) ++ ((cb e2) ++ ((cl g0 g1 g2) ++ (iv .u8 e3 ++ ((ci e4) ++ ((cu d8) ++ ((cu d6) ++ ((cu d5) ++ (iv .u8 d7 ++ ((cu d9) ++ ((cu e5) ++ ((cu e7) ++ ((cu e8) ++ (iv .u8 e9 ++ ((cu f0) ++ ((cu f1) ++ iv .u8 f3))))))))))))))))))) 81 :: oK c1 c2 c4 c5 c6 c8 c3 c9 d0 62 :: oM b8 a4 a9 b0 b1 b2 b3 b4 a7 a8 b5 b6 b7 57 :: oS c0 aq6 aq7 aq5 39 :: .cells b9 (iv .u8 l1) 23 :: (q9 ++ R)) := (St.pk (L := [_, _, _, _, _, _, _, _, _, _, _]) t1 [0, 6, 7, 8, 9, 10])
    have zD3 := St.subset d4 t1 (mcD 0 6 7 8 (mcB 9 10 (mem_TR (A := [_, _, _, _, _, _, _, _, _, _, _]) ii)))
    refine AWH.tk 0 rfl zD3 (fun wq sq => (Runs.move rfl)) ?_
    refine AWH.tk 1 rfl zD3 (fun wq sq => (Runs.not rfl rfl)) ?_
    refine AWH.tk 2 rfl zD3 (fun wq sq => (Runs.move rfl)) ?_
    obtain ⟨ah9, H⟩ := H
    have y2 : (!S6) = false := (not_f (Decidable.not_not.mp ah9))
    refine AWH.tw 3 rfl zD3 ?_ (fun wq sq => (Runs.load_mid row39 rfl sq (i := 0) rfl (pm [] ((cu i2) ++ ((cu i3) ++ iv .u8 i4)) [] (hm := by simp [lv, G8])) (by simp [lv, G8]))) ?_; exact Wg 125 y2
    refine AWH.tw 5 rfl zD3 ?_ (fun wq sq => (Runs.fieldAddr (off := 6) (p := 6) fld81_1 rfl rfl rfl)) ?_; exact Wg 125 y2
    refine AWH.tw 6 rfl zD3 ?_ (fun wq sq => (Runs.fieldAddr (off := 34) (p := 40) fld62_3 rfl rfl rfl)) ?_; exact Wg 125 y2
    refine AWH.tw 7 rfl zD3 ?_ (fun wq sq => (Runs.load_mid row60 rfl sq (i := 1) rfl (pm ((ci e0) ++ ((cl f4 f5 f6) ++ ((cl f7 f8 f9) ++ ((ci e1) ++ ((cb e2) ++ ((cl g0 g1 g2) ++ (iv .u8 e3 ++ ((ci e4) ++ (cu d8))))))))) ((cu d6) ++ ((cu d5) ++ iv .u8 d7)) ((cu d9) ++ ((cu e5) ++ ((cu e7) ++ ((cu e8) ++ (iv .u8 e9 ++ ((cu f0) ++ ((cu f1) ++ iv .u8 f3))))))) (ho := by simp [lv, t0]) (hm := by simp [lv, q8])) (by simp [lv, q8]))) ?_; exact Wg 125 y2
    refine AWH.step 4 rfl (by decide) (by kernel_rfl) (fun inv_ hs_ hk_ hc_ hn_ => ?_); refine WL.on ?_ ?_; exact Wg 125 y2
    obtain ⟨D4, D5, D6, ai0, H⟩ := H
    refine wC ent23 rfl (reliquarylaw13_stateOf.calls G8 ai0) ?_
    rintro _ G9 ⟨T7, rfl, ai1⟩
    have i6 := t1.call ai1
    refine ⟨_, rfl, WL.nil ?_⟩
    have zD4 := St.subset d4 i6 (mcD 0 6 7 8 (mcB 9 10 (mem_TR (A := [_, _, _, _, _, _, _, _, _, _, _]) ii)))
    refine AWH.back zD4 inv_ hs_ hk_ hc_ hn_ ?_
    refine AWH.tw 8 rfl zD4 ?_ (fun wq sq => (Runs.neq_top (EqTop.struct eqs60 (EqFs.cons (part_mid' (pre := (([] : Cs))) (mid := ((cu D4))) (post := ((cu D5) ++ iv .u8 D6)) (by first | rfl | simp only [aa, an, na, ca]) rfl) (part_mid' (pre := (([] : Cs))) (mid := ((cu d6))) (post := ((cu d5) ++ iv .u8 d7)) (by first | rfl | simp only [aa, an, na, ca]) rfl) (EqPl.int underlying37) (EqFs.cons (part_mid' (pre := ((cu D4))) (mid := ((cu D5))) (post := (iv .u8 D6)) (by first | rfl | simp only [aa, an, na, ca]) rfl) (part_mid' (pre := ((cu d6))) (mid := ((cu d5))) (post := (iv .u8 d7)) (by first | rfl | simp only [aa, an, na, ca]) rfl) (EqPl.int underlying37) (EqFs.cons (part_mid' (pre := ((cu D4) ++ (cu D5))) (mid := (iv .u8 D6)) (post := (([] : Cs))) (by first | rfl | simp only [aa, an, na, ca]) rfl) (part_mid' (pre := ((cu d6) ++ (cu d5))) (mid := (iv .u8 d7)) (post := (([] : Cs))) (by first | rfl | simp only [aa, an, na, ca]) rfl) (EqTop.place (EqTop.arr arr23 T7 q8) row23 (by simp [lv, T7]) (by simp [lv, q8])) EqFs.nil)))) eqg60 rfl rfl)) ?_; exact Wg 125 y2
    refine AWH.tk 9 rfl zD4 (fun wq sq => (Runs.pick_f (evb rfl y2) rfl)) ?_
    refine AWH.tk 10 rfl zD4 (fun wq sq => (Runs.move rfl)) ?_
    obtain ⟨ai2, H⟩ := H
    have A9 : (!((D4 == d6) && ((D5 == d5) && ((D6 == d7) && true)))) = false := (not_f (Decidable.not_not.mp ai2))
    refine AWH.tw 11 rfl zD4 ?_ (fun wq sq => (Runs.move rfl)) ?_; exact Wg 133 A9
    refine AWH.tw 12 rfl zD4 ?_ (fun wq sq => (Runs.fieldAddr (off := 6) (p := 6) fld81_1 rfl rfl rfl)) ?_; exact Wg 133 A9
    refine AWH.tw 13 rfl zD4 ?_ (fun wq sq => (Runs.fieldAddr (off := 68) (p := 74) fld62_4 rfl rfl rfl)) ?_; exact Wg 133 A9
    refine AWH.tw 14 rfl zD4 ?_ (fun wq sq => (Runs.load nagg37 rfl (sq.cell (k := 1) rfl (pa (.int .u64 d9) ((ci e0) ++ ((cl f4 f5 f6) ++ ((cl f7 f8 f9) ++ ((ci e1) ++ ((cb e2) ++ ((cl g0 g1 g2) ++ (iv .u8 e3 ++ ((ci e4) ++ ((cu d8) ++ ((cu d6) ++ ((cu d5) ++ iv .u8 d7))))))))))) ((cu e5) ++ ((cu e7) ++ ((cu e8) ++ (iv .u8 e9 ++ ((cu f0) ++ ((cu f1) ++ iv .u8 f3)))))) (ho := by simp [lv, t0, q8]))))) ?_; exact Wg 133 A9
    refine AWH.tw 15 rfl zD4 ?_ (fun wq sq => (Runs.neq rfl rfl rfl)) ?_; exact Wg 133 A9
    refine AWH.tk 16 rfl zD4 (fun wq sq => (Runs.pick_f (evb rfl A9) rfl)) ?_
    refine AWH.tk 17 rfl zD4 (fun wq sq => (Runs.move rfl)) ?_
    obtain ⟨ai3, H⟩ := H
    have l9 : (T5 != d9) = false := (bne_eq_false_iff_eq.mpr (Decidable.not_not.mp ai3))
    refine AWH.tw 18 rfl zD4 ?_ (fun wq sq => (Runs.move rfl)) ?_; exact Wg 140 l9
    refine AWH.tw 20 rfl zD4 ?_ (fun wq sq => (Runs.fieldAddr (off := 6) (p := 6) fld81_1 rfl rfl rfl)) ?_; exact Wg 140 l9
    refine AWH.tw 21 rfl zD4 ?_ (fun wq sq => (Runs.fieldAddr (off := 33) (p := 39) fld62_2 rfl rfl rfl)) ?_; exact Wg 140 l9
    refine AWH.tw 22 rfl zD4 ?_ (fun wq sq => (Runs.load nagg37 rfl (sq.cell (k := 1) rfl (pa (.int .u64 d8) ((ci e0) ++ ((cl f4 f5 f6) ++ ((cl f7 f8 f9) ++ ((ci e1) ++ ((cb e2) ++ ((cl g0 g1 g2) ++ (iv .u8 e3 ++ (ci e4)))))))) ((cu d6) ++ ((cu d5) ++ (iv .u8 d7 ++ ((cu d9) ++ ((cu e5) ++ ((cu e7) ++ ((cu e8) ++ (iv .u8 e9 ++ ((cu f0) ++ ((cu f1) ++ iv .u8 f3)))))))))) (ho := by simp [lv, t0]))))) ?_; exact Wg 140 l9
    refine AWH.tw 23 rfl zD4 ?_ (fun wq sq => (Runs.fieldAddr (off := 6) (p := 6) fld81_1 rfl rfl rfl)) ?_; exact Wg 140 l9
    refine AWH.tw 24 rfl zD4 ?_ (fun wq sq => (Runs.fieldAddr (off := 34) (p := 40) fld62_3 rfl rfl rfl)) ?_; exact Wg 140 l9
    refine AWH.tw 25 rfl zD4 ?_ (fun wq sq => (Runs.fieldAddr (off := 1) (p := 41) fld60_1 rfl rfl rfl)) ?_; exact Wg 140 l9
    refine AWH.tw 26 rfl zD4 ?_ (fun wq sq => (Runs.load nagg37 rfl (sq.cell (k := 1) rfl (pa (.int .u64 d5) ((ci e0) ++ ((cl f4 f5 f6) ++ ((cl f7 f8 f9) ++ ((ci e1) ++ ((cb e2) ++ ((cl g0 g1 g2) ++ (iv .u8 e3 ++ ((ci e4) ++ ((cu d8) ++ (cu d6)))))))))) (iv .u8 d7 ++ ((cu d9) ++ ((cu e5) ++ ((cu e7) ++ ((cu e8) ++ (iv .u8 e9 ++ ((cu f0) ++ ((cu f1) ++ iv .u8 f3)))))))) (ho := by simp [lv, t0]))))) ?_; exact Wg 140 l9
    refine AWH.tw 27 rfl zD4 ?_ (fun wq sq => (Runs.sub rfl rfl rfl)) ?_; exact Wg 140 l9
    refine AWH.step 19 rfl (by decide) (by kernel_rfl) (fun inv_ hs_ hk_ hc_ hn_ => ?_); refine WL.on ?_ ?_; exact Wg 140 l9
    have L4 := (St.pk (L := [_, _, _, _, _, _, _, _, _, _, _]) i6 [1, 2, 3, 4, 5, 0, 6, 7, 8, 9, 10])
    have ai4 := St.hide (A := [_, _, _, _, _]) (B := [_, _, _, _, _, _]) L4
    obtain ⟨T8, T9, H0, H1, U0, H2, H3, H4, H5, H6, H7, H8, H9, U1, ai5, H⟩ := H
    refine wC ent16 rfl (journal_Journal_Room.calls q9 ai4 (ag7) ag8 (ag9) ah0 (ah1) ah2 ah3 ah4 ai5) ?_
    rintro _ L5 ⟨D7, D8, D9, E0, L6, E1, E2, E3, L7, E4, E5, E6, L8, g4, ai6, ai7, ai8, ai9, aj0, aj1, aj2, aj3, rfl, aj4⟩
    have v0 := St.unhide (A := [_, _, _, _, _]) (B := [_, _, _, _, _, _]) aj4; dsimp only [ec, en] at v0
    refine ⟨_, rfl, WL.nil ?_⟩
    have zD5 := St.subset d4 v0 (mcD 5 6 7 8 (mcB 9 10 (mem_TR (A := [_, _, _, _, _, _, _, _, _, _, _]) g4.1)))
    refine AWH.back zD5 inv_ hs_ hk_ hc_ hn_ ?_
    refine AWH.tw 28 rfl zD5 ?_ (fun wq sq => (Runs.neq rfl rfl rfl)) ?_; exact Wg 140 l9
    refine AWH.tk 29 rfl zD5 (fun wq sq => (Runs.pick_f (evb rfl l9) rfl)) ?_
    refine AWH.tk 30 rfl zD5 (fun wq sq => (Runs.move rfl)) ?_
    obtain ⟨aj5, H⟩ := H
    have v1 : (U1 != (u64.wrap (d8 - d5))) = false := (bne_eq_false_iff_eq.mpr (Decidable.not_not.mp aj5))
    refine AWH.tw 31 rfl zD5 ?_ (fun wq sq => (Runs.move rfl)) ?_; exact Wg 153 v1
    refine AWH.tw 34 rfl zD5 ?_ (fun wq sq => (Runs.fieldAddr (off := 6) (p := 6) fld81_1 rfl rfl rfl)) ?_; exact Wg 153 v1
    refine AWH.tw 35 rfl zD5 ?_ (fun wq sq => (Runs.load_mid row62 rfl sq (i := 1) rfl (pm ((ci e0) ++ ((cl f4 f5 f6) ++ ((cl f7 f8 f9) ++ ((ci e1) ++ ((cb e2) ++ (cl g0 g1 g2)))))) (iv .u8 e3 ++ ((ci e4) ++ ((cu d8) ++ ((cu d6) ++ ((cu d5) ++ (iv .u8 d7 ++ ((cu d9) ++ (cu e5)))))))) ((cu e7) ++ ((cu e8) ++ (iv .u8 e9 ++ ((cu f0) ++ ((cu f1) ++ iv .u8 f3))))) (hm := by simp [lv, t0, q8])) (by simp [lv, t0, q8]))) ?_; exact Wg 153 v1
    refine AWH.step 32 rfl (by decide) (by kernel_rfl) (fun inv_ hs_ hk_ hc_ hn_ => ?_); refine WL.on ?_ ?_; exact Wg 153 v1
    have aj6 := St.hide (A := [_, _, _, _, _]) (B := [_, _, _, _, _, _]) v0
    obtain ⟨U2, U3, y3, y4, U4, t2, t3, t4, t5, t6, t7, t8, t9, U5, U6, U7, aj7, H⟩ := H
    refine wC ent17 rfl (journal_Journal_Empty.calls D7 aj6 (ai6) ai7 (ai8) ai9 (aj0) aj1 aj2 aj3 aj7) ?_
    rintro _ U8 ⟨v2, n6, n8, n9, B0, o0, o1, o2, B1, o3, o4, o5, B2, i5, aj8, aj9, ak0, ak1, ak2, ak3, ak4, ak5, ak6, rfl, ak7⟩
    have U9 := St.unhide (A := [_, _, _, _, _]) (B := [_, _, _, _, _, _]) ak7; dsimp only [ec, en] at U9
    refine ⟨_, rfl, WL.nil ?_⟩
    refine AWH.back (St.subset d4 U9 (mcD 5 6 7 8 (mcB 9 10 (mem_TR (A := [_, _, _, _, _, _, _, _, _, _, _]) (g4.trans i5).1)))) inv_ hs_ hk_ hc_ hn_ ?_
    refine AWH.step 33 rfl (by decide) (by kernel_rfl) (fun inv_ hs_ hk_ hc_ hn_ => ?_); refine WL.on ?_ ?_; exact Wg 153 v1
    obtain ⟨E7, E8, E9, ak8, H⟩ := H
    refine wC ent23 rfl (reliquarylaw13_stateOf.calls ak6 ak8) ?_
    rintro _ V0 ⟨V1, rfl, ak9⟩
    have V2 := U9.call ak9
    refine ⟨_, rfl, WL.nil ?_⟩
    refine AWH.back (St.subset d4 V2 (mcD 5 6 7 8 (mcB 9 10 (mem_TR (A := [_, _, _, _, _, _, _, _, _, _, _]) (g4.trans i5).1)))) inv_ hs_ hk_ hc_ hn_ ?_
    refine AWH.step 36 rfl (by decide) (by kernel_rfl) (fun inv_ hs_ hk_ hc_ hn_ => ?_); refine WL.on ?_ ?_; exact Wg 153 v1
    obtain ⟨F0, F1, F2, al0, H⟩ := H
    refine wC ent29 rfl (reliquaryref13_Empty.calls t0 q8 al0) ?_
    rintro _ I0 ⟨V3, rfl, al1⟩
    have v3 := V2.call al1
    refine ⟨_, rfl, WL.nil ?_⟩
    have zD6 := St.subset d4 v3 (mcD 5 6 7 8 (mcB 9 10 (mem_TR (A := [_, _, _, _, _, _, _, _, _, _, _]) (g4.trans i5).1)))
    refine AWH.back zD6 inv_ hs_ hk_ hc_ hn_ ?_
    refine AWH.tw 37 rfl zD6 ?_ (fun wq sq => (Runs.neq_top (EqTop.struct eqs60 (EqFs.cons (part_mid' (pre := (([] : Cs))) (mid := ((cu E7))) (post := ((cu E8) ++ iv .u8 E9)) (by first | rfl | simp only [aa, an, na, ca]) rfl) (part_mid' (pre := (([] : Cs))) (mid := ((cu F0))) (post := ((cu F1) ++ iv .u8 F2)) (by first | rfl | simp only [aa, an, na, ca]) rfl) (EqPl.int underlying37) (EqFs.cons (part_mid' (pre := ((cu E7))) (mid := ((cu E8))) (post := (iv .u8 E9)) (by first | rfl | simp only [aa, an, na, ca]) rfl) (part_mid' (pre := ((cu F0))) (mid := ((cu F1))) (post := (iv .u8 F2)) (by first | rfl | simp only [aa, an, na, ca]) rfl) (EqPl.int underlying37) (EqFs.cons (part_mid' (pre := ((cu E7) ++ (cu E8))) (mid := (iv .u8 E9)) (post := (([] : Cs))) (by first | rfl | simp only [aa, an, na, ca]) rfl) (part_mid' (pre := ((cu F0) ++ (cu F1))) (mid := (iv .u8 F2)) (post := (([] : Cs))) (by first | rfl | simp only [aa, an, na, ca]) rfl) (EqTop.place (EqTop.arr arr23 V1 V3) row23 (by simp [lv, V1]) (by simp [lv, V3])) EqFs.nil)))) eqg60 rfl rfl)) ?_; exact Wg 153 v1
    refine AWH.tk 38 rfl zD6 (fun wq sq => (Runs.pick_f (evb rfl v1) rfl)) ?_
    refine AWH.tk 39 rfl zD6 (fun wq sq => (Runs.move rfl)) ?_
    obtain ⟨al2, H⟩ := H
    have B3 : (!((E7 == F0) && ((E8 == F1) && ((E9 == F2) && true)))) = false := (not_f (Decidable.not_not.mp al2))
    refine AWH.tw 40 rfl zD6 ?_ (fun wq sq => (Runs.move rfl)) ?_; exact Wg 162 B3
    refine AWH.tw 41 rfl zD6 ?_ (fun wq sq => (Runs.fieldAddr (off := 0) (p := 0) fld81_0 rfl rfl rfl)) ?_; exact Wg 162 B3
    refine AWH.tw 42 rfl zD6 ?_ (fun wq sq => (Runs.load_mid row57 rfl sq (i := 1) rfl (pm [] ((ci e0) ++ ((cl f4 f5 f6) ++ ((cl f7 f8 f9) ++ ((ci e1) ++ ((cb e2) ++ (cl g0 g1 g2)))))) (iv .u8 e3 ++ ((ci e4) ++ ((cu d8) ++ ((cu d6) ++ ((cu d5) ++ (iv .u8 d7 ++ ((cu d9) ++ ((cu e5) ++ ((cu e7) ++ ((cu e8) ++ (iv .u8 e9 ++ ((cu f0) ++ ((cu f1) ++ iv .u8 f3)))))))))))))) rfl)) ?_; exact Wg 162 B3
    refine AWH.tail (by kernel_rfl) ?_
    refine AW.step 43 rfl (by kernel_rfl) ?_; refine WL.on ?_ ?_; exact Wg 162 B3
    have L9 := (St.pk (L := [_, _, _, _, _, _, _, _, _, _, _]) v3 [1, 2, 3, 4, 0, 5, 6, 7, 8, 9, 10])
    have al3 := St.hide (A := [_, _, _, _]) (B := [_, _, _, _, _, _, _]) L9
    obtain ⟨V4, V5, M0, M1, V6, V7, al4, H⟩ := H
    refine wC ent24 rfl (reliquarylaw13_sameDisk.calls v2 al3 (aj8) aj9 (ak0) ak1 (ak2) ak3 (S7.mono ((l3.trans g4).trans i5).1 ((l3.trans g4).trans i5).1) (S8.mono ((l3.trans g4).trans i5).1 ((l3.trans g4).trans i5).1) (S9.mono ((l3.trans g4).trans i5).1 ((l3.trans g4).trans i5).1) al4) ?_
    rintro _ al5 ⟨M2, M3, M4, M5, V8, M6, M7, M8, V9, M9, N0, N1, W0, y5, al6, al7, al8, al9, am0, am1, rfl, am2⟩
    have N2 := St.unhide (A := [_, _, _, _]) (B := [_, _, _, _, _, _, _]) am2; dsimp only [ec, en] at N2
    refine ⟨_, rfl, WL.nil ?_⟩
    refine AW.back  ?_
    refine AW.take 44 rfl (by kernel_rfl) (by kernel_rfl) (by kernel_rfl) ?_ (fun _ => (Runs.not rfl rfl)) ?_; exact Wg 162 B3
    refine AW.tk 45 rfl (fun _ => (Runs.pick_f (evb rfl B3) rfl)) ?_
    refine AW.done (by kernel_rfl) ?_
    refine QW.then_n ?_
    obtain ⟨am3, H⟩ := H
    have am4 : (!V7) = false := (not_f (Decidable.not_not.mp am3))
    refine CW.cf rfl am4 (CW.skip (QW.blk_n (QW.then_n (CW.region (WL.mv rfl (WL.v (Runs.add rfl rfl rfl) (WL.as rfl (WL.nil ?_))))))))
    have N2' := (St.pk (L := [_, _, _, _, _, _, _, _, _, _, _]) N2 [6, 7, 0, 1, 2, 3, 4, 8, 9, 10])
    exact QW.a ⟨M2, M3, M5, M4, V8, V4, M6, M8, M7, V9, V5, M9, N1, N0, W0, V6, e0, f4, f5, f6, K7, f7, f8, f9, K8, e1, e2, g0, g1, g2, K9, e3, e4, d8, d6, d5, d7, d9, e5, e7, e8, e9, f0, f1, f3, M0, M1, t2, t3, t4, t5, t6, t7, t8, t9, A1, i64.wrap (d3 + 1), rfl, H, (((((w0.trans A4).trans l3).trans g4).trans i5).trans y5), al6, al7, al8, al9, am0, am1, (S7.mono (((l3.trans g4).trans i5).trans y5).1 (((l3.trans g4).trans i5).trans y5).1), (S8.mono (((l3.trans g4).trans i5).trans y5).1 (((l3.trans g4).trans i5).trans y5).1), (S9.mono (((l3.trans g4).trans i5).trans y5).1 (((l3.trans g4).trans i5).trans y5).1), t0, q8, T0, T1, ak4, ak5, N2'⟩
   have w2 := (decide_eq_false K1)
   iterate 2 (refine WL.off ?_ ?_; exact Wg 94 w2)
   refine WL.v (Runs.pick_f (evb rfl w2) rfl) (wn (CW.cf rfl rfl (CW.exit (QW.then_x (QW.then_x (QW.blk_x (QW.then_n (CW.sub [(16, _)] ⟨rfl, trivial⟩ (cr (WL.as rfl (wn (CW.ret ?_))))))))))))
   exact QW.ret1 rfl rfl ⟨rfl, A2.ext⟩
  have w1 := (decide_eq_false K0)
  iterate 2 (refine WL.off ?_ ?_; exact Wg 90 w1)
  refine WL.v (Runs.pick_f (evb rfl w1) rfl) (WL.mv rfl ?_)
  iterate 2 (refine WL.off ?_ ?_; exact Wg 94 rfl)
  refine WL.v (Runs.pick_f rfl rfl) (wn (CW.cf rfl rfl (CW.exit (QW.then_x (QW.then_x (QW.blk_x (QW.then_n (CW.sub [(16, _)] ⟨rfl, trivial⟩ (cr (WL.as rfl (wn (CW.ret ?_))))))))))))
  exact QW.ret1 rfl rfl ⟨rfl, A2.ext⟩
 refine AWX.join (f2 := 3) (listed2 := #[true, true, true, true, true, true, true, true, true, true, true, true, false, false, false]) (fun l_ w_ => l_ = [(7, .slice A7 n7 c7), (16, .bool false), (18, .pointer (sp a1)), (20, .pointer (sp b8)), (22, .pointer (sp d2)), (23, .int .i64 0), (71, .agg (iv .u8 c2 ++ ((ci c4) ++ ((cu c5) ++ ((cu c6) ++ ((cu c8) ++ (iv .u8 c3 ++ ((cu c9) ++ (cu d0)))))))).toArray), (72, .int .i64 u2)] ∧ (l0.length = 32) ∧ (c2.length = 32) ∧ (c3.length = 32) ∧ St w w_ ((d1 ++ l6))) ?_ (fun cont_5_8_d_259 => ?_)
 ·rintro _ aq1 ⟨rfl, l2, k3, k4, am5⟩
  refine AWX.s1 12 rfl ?_
  refine WL.alloc am5 zero62 ?_
  intro c1 aq2 W1
  refine WL.nil ?_
  refine AWX.back (fun _ => (St.subset s4 W1 (mem_TR (A := [_]) ii))) ?_
  exact AWX.to cont_5_8_12_d_259 ⟨c1, rfl, l2, k3, k4, W1⟩
 refine AWX.join (f2 := 6) (listed2 := #[true, true, true, true, true, true, true, true, false, false, false, false, true, false, false]) (fun l_ w_ => ∃ c1, l_ = [(7, .slice A7 n7 c7), (16, .bool false), (18, .pointer (sp a1)), (20, .pointer (sp b8)), (22, .pointer (sp d2)), (23, .int .i64 0), (24, .pointer (sp c1)), (62, .int .i64 a0), (63, .agg (iv .u8 l1).toArray), (64, .int .i64 a2), (65, .int .i64 a3), (67, .agg ((cu s5) ++ ((cu s6) ++ iv .u8 l0)).toArray), (68, .int .u64 a5), (69, .int .u64 a6)] ∧ (l0.length = 32) ∧ St w w_ (oK c1 (z32) 0 0 0 0 (z32) 0 0 62 :: (d1 ++ l6))) ?_ (fun cont_5_12_d_259 => ?_)
 ·rintro _ am6 ⟨c1, rfl, l2, am7⟩
  refine AWX.s1 8 rfl ?_
  refine wC ent19 rfl (reliquaryref13_New.calls hl1 l2 Q5) ?_
  rintro _ am8 ⟨k3, k4, rfl, am9⟩
  have an0 := am7.call am9
  refine ⟨_, rfl, WL.nil ?_⟩
  refine AWX.back (fun h_ => absurd h_ (by decide)) ?_
  refine AWX.tp 9 rfl (Runs.move rfl) ?_
  refine AWX.tp 10 rfl (Runs.extract rfl rfl) ?_
  refine AWX.tp 11 rfl (Runs.extract rfl rfl) ?_
  exact AWX.to cont_5_8_12_d_259 ⟨c1, rfl, l2, k3, k4, an0⟩
 refine AWX.join (f2 := 7) (listed2 := #[true, true, true, true, true, true, true, true, false, false, false, false, false, false, false]) (fun l_ w_ => l_ = [(7, .slice A7 n7 c7), (16, .bool false), (18, .pointer (sp a1)), (20, .pointer (sp b8)), (22, .pointer (sp d2)), (23, .int .i64 0), (62, .int .i64 a0), (63, .agg (iv .u8 l1).toArray), (64, .int .i64 a2), (65, .int .i64 a3), (67, .agg ((cu s5) ++ ((cu s6) ++ iv .u8 l0)).toArray), (68, .int .u64 a5), (69, .int .u64 a6)] ∧ (l0.length = 32) ∧ St w w_ ((d1 ++ l6))) ?_ (fun cont_5_d_259 => ?_)
 ·rintro _ an1 ⟨rfl, l2, W2⟩
  refine AWX.steps [8, 12] (by kernel_rfl) (by decide) (List.forall_mem_cons.2 ⟨⟨_, rfl, ?_⟩, List.forall_mem_cons.2 ⟨⟨_, rfl, ?_⟩, fun _ h_ => by cases h_⟩⟩)
  ·refine wC ent19 rfl (reliquaryref13_New.calls hl1 l2 Q5) ?_
   rintro _ an2 ⟨k3, k4, rfl, an3⟩
   have an4 := W2.call an3
   refine ⟨_, rfl, WL.nil ?_⟩
   refine AWX.back (fun h_ => absurd h_ (by decide)) ?_
   refine AWX.tp 9 rfl (Runs.move rfl) ?_
   refine AWX.tp 10 rfl (Runs.extract rfl rfl) ?_
   refine AWX.tp 11 rfl (Runs.extract rfl rfl) ?_
   exact AWX.to cont_5_8_d_259 ⟨rfl, l2, k3, k4, an4⟩
  refine WL.alloc W2 zero62 ?_
  intro c1 aq3 W3
  refine WL.nil ?_
  refine AWX.back (fun _ => (St.subset s4 W3 (mem_TR (A := [_]) ii))) ?_
  exact AWX.to cont_5_12_d_259 ⟨c1, rfl, l2, W3⟩
 refine AWX.join (f2 := 7) (listed2 := #[true, true, true, true, true, false, true, true, false, false, false, false, true, false, false]) (fun l_ w_ => ∃ c1, l_ = [(7, .slice A7 n7 c7), (16, .bool false), (18, .pointer (sp a1)), (20, .pointer (sp b8)), (22, .pointer (sp d2)), (23, .int .i64 0), (24, .pointer (sp c1)), (62, .int .i64 a0), (63, .agg (iv .u8 l1).toArray), (64, .int .i64 a2), (65, .int .i64 a3), (66, .agg ((cu aq6) ++ ((cu aq7) ++ iv .u8 aq5)).toArray), (68, .int .u64 a5), (69, .int .u64 a6)] ∧ St w w_ (oK c1 (z32) 0 0 0 0 (z32) 0 0 62 :: (d1 ++ l6))) ?_ (fun cont_12_d_259 => ?_)
 ·rintro _ an5 ⟨c1, rfl, an6⟩
  refine AWX.s1 5 rfl ?_
  refine wC ent23 rfl (reliquarylaw13_stateOf.calls aq8 Q4) ?_
  rintro _ an7 ⟨l2, rfl, an8⟩
  have W4 := an6.call an8
  refine ⟨_, rfl, WL.nil ?_⟩
  refine AWX.back (fun _ => (St.subset s4 W4 (mem_TR (A := [_]) ii))) ?_
  exact AWX.to cont_5_12_d_259 ⟨c1, rfl, l2, W4⟩
 refine AWX.steps [5, 12] (by kernel_rfl) (by decide) (List.forall_mem_cons.2 ⟨⟨_, rfl, ?_⟩, List.forall_mem_cons.2 ⟨⟨_, rfl, ?_⟩, fun _ h_ => by cases h_⟩⟩)
 ·refine wC ent23 rfl (reliquarylaw13_stateOf.calls aq8 Q4) ?_
  rintro _ an9 ⟨l2, rfl, ao0⟩
  have W5 := s4.call ao0
  refine ⟨_, rfl, WL.nil ?_⟩
  refine AWX.back (fun _ => (St.subset s4 W5 (mem_TR (A := []) ii))) ?_
  exact AWX.to cont_5_d_259 ⟨rfl, l2, W5⟩
 refine WL.alloc s4 zero62 ?_
 intro c1 aq4 W6
 refine WL.nil ?_
 refine AWX.back (fun _ => (St.subset s4 W6 (mem_TR (A := [_]) ii))) ?_
 exact AWX.to cont_12_d_259 ⟨c1, rfl, W6⟩
end Go.Proofs.YtmhcjafkdmcgoaaDoor
