/- Walks: each function computes what its relation says, and a call of it ends so. Printed by a program of this session (wip/gen). -/
import Derived.Test.YtmhcjafkdmcgoaaDoorGx0
namespace Go.Proofs.YtmhcjafkdmcgoaaDoor
open Go Go.Kr Go.RowKit Go.IntKind Tryd
set_option maxHeartbeats 1000000
variable {w w1 : World} {R : Pool} {iA iB iC iD iE iF iG iH iI iJ iK iL iM iN iO iP iQ iR iS iT iU iV iW iX iY iZ iAa iBa iCa iDa iEa iFa iGa iHa iIa iJa iKa iLa iMa iNa iOa iPa iQa : Int} {qA qB qC : List R25} {rA rB : List R124} {bA bB bC bD bE bF : Bool} {sA sB sC : List R48} {lA lB lC lD lE lF lG lH lI lJ lK lL lM : List Int} {nA nB nC nD nE nF nG nH nI nJ nK nL nM nN nO nP nQ nR : Nat} {pA pB pC pD pE pF pG pH : Option Addr} {xA xB xC : Cs} {tA tB : List R42} {uA : List R104} {vA vB vC vD : List R145} {dA dB : List R160} {eA : List R116} {fA : List R118} {yA yB : ByteArray} {gA : List Bool} {hA : List R9}
set_option linter.unusedVariables false
set_option linter.unusedSimpArgs false
set_option maxRecDepth 100000
def disk_New.L1 (a0 : Int) (or0 : Option ((List R25) × (List R124) × Int × Bool × (List R48))) (ar1 : Int) : Nat → (List R25) → Int → Prop
 | 0, _, _ => False
 | kL1 + 1, a3, a1 => ((a1 < a0 ∧ (∃ a2 : List R25, a2 = a3 ++ ([List.replicate 192 (0 : Int)] : List R25) ∧ (a2.length ≤ 1099511627776 ∧ disk_New.L1 a0 or0 ar1 kL1 a2 (i64.wrap (a1 + 1))))) ∨ (¬ (a1 < a0) ∧ or0 = some (a3, ([] : List R124), -1, false, ([] : List R48)) ∧ ar1 = 0))
def disk_New.rel (a0 : Int) (or0 : Option ((List R25) × (List R124) × Int × Bool × (List R48))) (ar1 : Int) : Prop := ((a0 < 1 ∧ or0 = none ∧ ar1 = 1) ∨ (¬ (a0 < 1) ∧ ((a0 > 4096 ∧ or0 = none ∧ ar1 = 1) ∨ (¬ (a0 > 4096) ∧ (∃ k_ : Nat, disk_New.L1 a0 or0 ar1 k_ ([] : List R25) 0)))))
theorem disk_New.calls_obj (T : Pool) (st0 : St w w1 ((T ++ R))) (or0 : Option ((List R25) × (List R124) × Int × Bool × (List R48))) (ho_ : or0 = some (qA, rA, iB, bA, sA)) (H : disk_New.rel iA or0 iC) :
  Calls prog 11 #[.int .i64 iA] w1 fun e w' => ∃ T' br0 g1 a0 g2 g3 g4 f9 g5 g6 g7 g0 g8 g9, Pl T T' ∧ a0 = qA.length ∧ HRs T' (f25 w) g3 qA ∧ f9 = rA.length ∧ HRs T' (f124 w) g6 rA ∧ g0 = sA.length ∧ HRs T' (f48 w) g9 sA ∧ e = .returned (.tuple #[.pointer (sp br0), .int .i64 0]) ∧ St w w' (oD br0 g1 a0 g2 g4 f9 g5 iB bA g7 g0 g8 95 :: .sl g1 g2 a0 g3 25 1 :: .sl g4 g5 f9 g6 124 2 :: .sl g7 g8 g0 g9 48 2 :: (T' ++ R)) := by
 refine CW.en func11 rfl 28 [_] (CW.sub [(0, _)] ⟨rfl, trivial⟩ (cr (WL.as rfl (WL.as rfl (wn (CW.seq (cr (WL.mv rfl (WL.v (Runs.lss rfl rfl rfl) (WL.mv rfl ?_))))))))))
 rcases H with ⟨c6, H⟩ | ⟨c6, H⟩
 ·have a9 := (decide_eq_true c6)
  iterate 2 (refine WL.off ?_ ?_; exact Wg 7 a9)
  refine WL.v (Runs.pick_t (evb rfl a9) rfl) (wn (CW.ct rfl rfl (cr (WL.as rfl (WL.as rfl (wn (CW.ret (QW.then_r ?_))))))))
  exact nomatch (ho_.symm.trans H.1)
 have a9 := (decide_eq_false c6)
 refine WL.on ?_ ?_; exact Wg 7 a9
 refine WL.mv rfl ?_
 refine WL.on ?_ ?_; exact Wg 7 a9
 refine WL.v (Runs.gtr rfl rfl rfl) (WL.v (Runs.pick_f (evb rfl a9) rfl) (wn ?_))
 rcases H with ⟨c7, H⟩ | ⟨c7, H⟩
 ·have c8 := (decide_eq_true c7)
  refine CW.ct rfl c8 (cr (WL.as rfl (WL.as rfl (wn (CW.ret (QW.then_r ?_))))))
  exact nomatch (ho_.symm.trans H.1)
 have c8 := (decide_eq_false c7)
 refine CW.cf rfl c8 (CW.skip (QW.then_n (CW.sub [(0, _), (2, _), (3, _)] ⟨rfl, rfl, rfl, trivial⟩ (cr ?_))))
 refine WL.v (Runs.build_struct (ps := [(0, 1), (1, 1), (2, 1), (3, 1), (4, 1)]) (cs := ((cl none 0 0) ++ ((cl none 0 0) ++ ((ci (-1)) ++ ((cb false) ++ (cl none 0 0)))))) plc95 zero95 rfl (by refine Fills.cons (o := 2) (ms := ((ci (-1)))) (show _ = some (2, ((ci (-1))).length) by rw [show ((ci (-1))).length = 1 from rfl] <;> rfl) rfl (Nat.le_of_ble_eq_true rfl) ?_; rw [show layV ((cl none 0 0) ++ ((cl none 0 0) ++ ((ci 0) ++ ((cb false) ++ (cl none 0 0))))) 2 ((ci (-1))) = ((cl none 0 0) ++ ((cl none 0 0) ++ ((ci (-1)) ++ ((cb false) ++ (cl none 0 0))))) from (layV_mid (pre := ((cl none 0 0) ++ (cl none 0 0))) (mid := ((ci 0))) (post := ((cb false) ++ (cl none 0 0))) (by first | rfl | simp only [aa, an, na, ca]) rfl (Eq.trans (b := 1) rfl (Eq.symm rfl))).trans (by first | rfl | simp only [aa, an, na, ca])]; exact Fills.nil)) ?_
 refine WL.box st0 rfl rfl ?_
 intro a4 c9 e7
 have d0 := e7.nil_sl 25 1
 have d0 : St w c9 (.sl none 0 0 ([] : Cs) 25 1 :: oD a4 none 0 0 none 0 0 (-1) false none 0 0 95 :: (T ++ R)) := d0
 have d1 := d0.nil_sl 124 2
 have d1 : St w c9 (.sl none 0 0 ([] : Cs) 124 2 :: .sl none 0 0 ([] : Cs) 25 1 :: oD a4 none 0 0 none 0 0 (-1) false none 0 0 95 :: (T ++ R)) := d1
 have d2 := d1.nil_sl 48 2
 have d2 : St w c9 (.sl none 0 0 ([] : Cs) 48 2 :: .sl none 0 0 ([] : Cs) 124 2 :: .sl none 0 0 ([] : Cs) 25 1 :: oD a4 none 0 0 none 0 0 (-1) false none 0 0 95 :: (T ++ R)) := d2
 refine WL.as rfl (wn (CW.seq (cr (WL.mv rfl (WL.mv rfl (wn (CW.block ?_)))))))
 obtain ⟨e8, H⟩ := H
 refine CW.su [(2, _), (3, _), (4, _), (13, _), (14, _)] ?_
 refine CW.lp (fun kL1 l_ w_ => ∃ a5 a2 a3 a1 a6 b6 b2, l_ = [(2, .pointer none), (3, .int .i64 0), (4, .pointer (sp a4)), (13, .int .i64 iA), (14, .int .i64 b2)] ∧ disk_New.L1 iA or0 iC kL1 b6 b2 ∧ (Pl T a5) ∧ (a1 = b6.length) ∧ (HRs a5 (f25 w) a6 b6) ∧ St w w_ (.sl none 0 0 ([] : Cs) 48 2 :: .sl none 0 0 ([] : Cs) 124 2 :: .sl a2 a3 a1 a6 25 1 :: oD a4 a2 a1 a3 none 0 0 (-1) false none 0 0 95 :: (a5 ++ R))) (k := e8) ⟨T, none, 0, 0, ([] : Cs), ([] : List R25), 0, rfl, H, Pl.refl, rfl, (HRs.nil : HRs T (f25 w) [] []), d2⟩ ?_
 rintro kL1 f7 f8 ⟨a5, a2, a3, a1, a6, b6, b2, rfl, H, c1, d9, e0, e1⟩
 refine cr (WL.v (Runs.lss rfl rfl rfl) (wn (CW.seq ?_)))
 rcases H with ⟨d3, H⟩ | ⟨d3, H⟩
 ·have d4 := (decide_eq_true d3)
  refine CW.ct rfl d4 (CW.skip (QW.then_n (CW.seq (CW.block ?_))))
  refine CW.region_awh (C := fun w_ => St w w_ (.sl none 0 0 ([] : Cs) 48 2 :: .sl none 0 0 ([] : Cs) 124 2 :: oD a4 a2 a1 a3 none 0 0 (-1) false none 0 0 95 :: (a5 ++ R))) 8 wide (by kernel_rfl) e1 (fun e9 b0 => ?_)
  have a8 : St w e9 (.sl none 0 0 ([] : Cs) 48 2 :: .sl none 0 0 ([] : Cs) 124 2 :: oD a4 a2 a1 a3 none 0 0 (-1) false none 0 0 95 :: (a5 ++ R)) := (St.pk (L := [_, _, _, _]) b0 [0, 1, 3])
  refine AWH.kn (St.subset a8 b0 (mcB 0 1 (mc 3 rfl (mem_TR (A := [_, _, _, _]) ii)))) fun zC1 => ?_
  refine AWH.tk 0 rfl zC1 (fun wq sq => (Runs.move rfl)) ?_
  refine AWH.tk 1 rfl zC1 (fun wq sq => (Runs.move rfl)) ?_
  refine AWH.tk 2 rfl zC1 (fun wq sq => (Runs.nilCheck rfl)) ?_
  refine AWH.tk 3 rfl zC1 (fun wq sq => (Runs.fieldAddr (off := 0) (p := 0) fld95_0 rfl rfl rfl)) ?_
  refine AWH.tk 4 rfl zC1 (fun wq sq => (Runs.load nagg76 rfl (sq.cell (k := 2) rfl (pa (.slice a2 a1 a3) [] ((cl none 0 0) ++ ((ci (-1)) ++ ((cb false) ++ (cl none 0 0)))))))) ?_
  refine AWH.step 5 rfl (by decide) (by kernel_rfl) (fun inv_ hs_ hk_ hc_ hn_ => ?_)
  refine WL.make b0 underlying25 elem5 rfl rfl (by decide) (by decide) (by decide) (N := 192) rfl ?_
  intro b7 e2 b3
  replace b3 : St w e2 (.sl (sp b7) 192 192 (iv .u8 (List.replicate 192 (0 : Int))) 5 1 :: .sl none 0 0 ([] : Cs) 48 2 :: .sl none 0 0 ([] : Cs) 124 2 :: .sl a2 a3 a1 a6 25 1 :: oD a4 a2 a1 a3 none 0 0 (-1) false none 0 0 95 :: (a5 ++ R)) := by rw [iv_replicate] at b3; exact b3
  have f0 : 192 = (List.replicate 192 (0 : Int)).length := by simp
  refine WL.nil ?_
  refine AWH.back (St.subset a8 b3 (mcB 1 2 (mc 4 rfl (mem_TR (A := [_, _, _, _, _]) ii)))) inv_ hs_ hk_ hc_ hn_ ?_
  refine AWH.step 6 rfl (by decide) (by kernel_rfl) (fun inv_ hs_ hk_ hc_ hn_ => ?_)
  have hb_43c := b3.cap (i := 0) rfl
  obtain ⟨a7, c2, f1, d5⟩ := St.freeze (A := []) (B := [_, _, _, _]) (T := a5) (R := R) b3
  have f2 : HB w a7 (sp b7) 192 192 (iv .u8 (List.replicate 192 (0 : Int))) (List.replicate 192 (0 : Int)).length := ⟨f0, hb_43c, Hd.of_sl f1⟩
  try dsimp only [List.set, ec, en] at d5
  refine WL.buildSl [.slice (sp b7) 192 192] d5 underlying76 elem25 rfl rfl (by decide) (by decide) (by simp [Value.cells]) ?_
  intro c3 e3 b1
  try dsimp only [List.set, ec, en] at b1
  obtain ⟨b4, e4⟩ : ∃ x_ : Cs, x_ = [.slice (sp b7) 192 192] := ⟨_, rfl⟩
  have d6 : HRs a7 (f25 w) b4 ([List.replicate 192 (0 : Int)] : List R25) := by rw [e4]; exact (HRs.one (.cons ⟨_, _, _, rfl, f2⟩ .nil))
  (try dsimp only [List.set, ec, en] at b1); rw [← e4] at b1
  refine WL.nil ?_
  refine AWH.back (St.subset a8 b1 (mcB 1 2 (mc 4 rfl (mem_TR (A := [_, _, _, _, _]) c2.1)))) inv_ hs_ hk_ hc_ hn_ ?_
  refine AWH.step 7 rfl (by decide) (by kernel_rfl) (fun inv_ hs_ hk_ hc_ hn_ => ?_)
  obtain ⟨d7, e5, H⟩ := H
  obtain ⟨f3, H⟩ := H
  obtain ⟨b5, d8⟩ : ∃ n_ : Nat, n_ = d7.length := ⟨_, rfl⟩
  refine WL.appendR (i := 3) (N := b5) (news := b4) Wanted.none b1 rfl underlying76 elemS25 rfl rfl (b1.src_sl (k := 0) rfl) (by have h1_ := (d6).length (fz25 w); have h2_ : 1 = ([List.replicate 192 (0 : Int)] : List R25).length := rfl; rw [h1_, h2_]) (HLs.one d6) (by decide) (by have h1_ : a1 = b6.length := d9; have h2_ : 1 = ([List.replicate 192 (0 : Int)] : List R25).length := rfl; rw [d8, e5, List.length_append]; omega) (by rw [d8]; exact f3) ?_
  intro b8 b9 f4 c4
  obtain ⟨c5, e6⟩ : ∃ x_ : Cs, x_ = a6 ++ b4 := ⟨_, rfl⟩
  have f5 : HRs a7 (f25 w) c5 d7 := by rw [e6, e5]; exact HRs.append (e0.mono c2.1) d6
  (try dsimp only [List.set, ec, en] at c4); rw [← e6] at c4
  refine WL.nil ?_
  refine AWH.back (St.subset a8 c4 (mcB 1 2 (mc 4 rfl (mem_TR (A := [_, _, _, _, _]) c2.1)))) inv_ hs_ hk_ hc_ hn_ ?_
  refine AWH.tail (by kernel_rfl) ?_
  refine AW.tk 8 rfl (fun _ => (Runs.nilCheck rfl)) ?_
  refine AW.tk 9 rfl (fun _ => (Runs.fieldAddr (off := 0) (p := 0) fld95_0 rfl rfl rfl)) ?_
  refine AW.step 10 rfl (by kernel_rfl) ?_
  refine WL.so (new := ((cl b8 b5 b9) ++ ((cl none 0 0) ++ ((ci (-1)) ++ ((cb false) ++ (cl none 0 0)))))) (i := 4) (u0 := .slice a2 a1 a3) (pre := (([] : Cs))) (post := ((cl none 0 0) ++ ((ci (-1)) ++ ((cb false) ++ (cl none 0 0))))) c4 rfl cells76 (by first | rfl | simp only [aa, an, na, ca]) rfl rfl rfl rfl rfl ?_
  intro f6 c0
  try dsimp only [List.set] at c0
  refine WL.nil ?_
  refine AW.back  ?_
  refine AW.done (by kernel_rfl) ?_
  refine QW.blk_n (QW.then_n (CW.region (WL.v (Runs.add rfl rfl rfl) (WL.mv rfl (WL.nil ?_)))))
  have c0' := (St.pk (L := [_, _, _, _, _]) c0 [1, 2, 3, 4])
  exact QW.a ⟨a7, b8, b9, b5, c5, d7, i64.wrap (b2 + 1), rfl, H, (c1.trans c2), d8, f5, c0'⟩
 have d4 := (decide_eq_false d3)
 refine CW.cf rfl d4 (CW.exit (QW.then_x (QW.then_x (QW.blk_x (QW.then_n (cr (WL.mv rfl (WL.as rfl (WL.as rfl (wn (CW.ret ?_)))))))))))
 obtain ⟨h_, rfl⟩ := H
 replace h_ := ho_.symm.trans h_
 cases h_
 exact QW.ret2 rfl rfl rfl ⟨a5, a4, a2, a1, a3, a6, none, 0, 0, ([] : Cs), none, 0, 0, ([] : Cs), c1, d9, e0, rfl, ((HRs.nil : HRs T (f124 w) [] []).mono c1.1), rfl, ((HRs.nil : HRs T (f48 w) [] []).mono c1.1), rfl, (St.pk (L := [_, _, _, _]) e1 [3, 2, 1, 0])⟩
def journal_may.rel (a0 a2 : Int) (a3 : List Int) (a1 : Int) (r0 : Bool) : Prop := ((a0 < a1 ∧ r0 = (decide (a2 ≤ a1))) ∨ (¬ (a0 < a1) ∧ r0 = false))
theorem journal_may.calls (a1 : lA.length = 32) (H : journal_may.rel iA iB lA iC bA) :
  Calls prog 36 #[.agg ((cu iA) ++ ((cu iB) ++ iv .u8 lA)).toArray, .int .u64 iC] w fun e w' => e = .returned (.bool bA) ∧ St w w' [] := by
 refine CW.en func36 rfl 15 [_, _] (CW.sub [(0, _), (1, _)] ⟨rfl, rfl, trivial⟩ ?_)
 have st0 := St.refl w
 refine cr (WL.box st0 rfl rfl ?_)
 intro a4 a5 a2
 refine WL.as rfl (WL.nx (WL.v (Runs.fieldAddr (off := 0) (p := 0) fld39_0 rfl rfl rfl) (WL.ld 0 nagg37 a2 rfl rfl (pa (.int .u64 iA) [] ((cu iB) ++ iv .u8 lA)) (WL.mv rfl (WL.v (Runs.lss rfl rfl rfl) (WL.mv rfl ?_))))))
 rcases H with ⟨a3, H⟩ | ⟨a3, H⟩
 ·have a0 := (decide_eq_true a3)
  refine WL.on ?_ ?_; exact Wg 9 a0
  refine WL.v (Runs.fieldAddr (off := 1) (p := 1) fld39_1 rfl rfl rfl) ?_
  refine WL.on ?_ ?_; exact Wg 9 a0
  refine WL.ld 0 nagg37 a2 rfl rfl (pa (.int .u64 iB) (cu iA) (iv .u8 lA)) ?_
  refine WL.on ?_ ?_; exact Wg 9 a0
  refine WL.mv rfl ?_
  refine WL.on ?_ ?_; exact Wg 9 a0
  refine WL.v (Runs.leq rfl rfl rfl) (WL.v (Runs.pick_t (evb rfl a0) rfl) (WL.as rfl (wn (CW.ret ?_))))
  obtain rfl := H
  exact QW.ret1 rfl rfl ⟨rfl, a2.pick [] (by decide)⟩
 have a0 := (decide_eq_false a3)
 iterate 4 (refine WL.off ?_ ?_; exact Wg 9 a0)
 refine WL.v (Runs.pick_f (evb rfl a0) rfl) (WL.as rfl (wn (CW.ret ?_)))
 obtain rfl := H
 exact QW.ret1 rfl rfl ⟨rfl, a2.pick [] (by decide)⟩
def disk_Disk_Size.rel (a0 : List R25) (a1 : List R124) (a2 : Int) (a3 : Bool) (a4 : List R48) (a5 : List R25) (a6 : List R124) (a7 : Int) (a8 : Bool) (a9 : List R48) (ar0 : Int) : Prop := a5 = a0 ∧ a6 = a1 ∧ a7 = a2 ∧ a8 = a3 ∧ a9 = a4 ∧ ar0 = (a0.length : Int)
theorem disk_Disk_Size.calls (T : Pool) (st0 : St w w1 (oD nA pA nB nC pB nD nE iA bA pC nF nG 95 :: .sl pA nC nB xA 25 1 :: .sl pB nE nD xB 124 2 :: .sl pC nG nF xC 48 2 :: (T ++ R))) (a3 : nB = qA.length) (b3 : HRs T (f25 w) xA qA) (b4 : nD = rA.length) (b5 : HRs T (f124 w) xB rA) (b6 : nF = sA.length) (b7 : HRs T (f48 w) xC sA) (H : disk_Disk_Size.rel qA rA iA bA sA qB rB iB bB sB iC) :
  Calls prog 35 #[.pointer (sp nA)] w1 fun e w' => ∃ T' a4 a0 a5 a6 a7 a1 a8 a9 b0 a2 b1 b2, Pl T T' ∧ a0 = qB.length ∧ HRs T' (f25 w) a6 qB ∧ a1 = rB.length ∧ HRs T' (f124 w) a9 rB ∧ a2 = sB.length ∧ HRs T' (f48 w) b2 sB ∧ e = .returned (.int .i64 iC) ∧ St w w' (oD nA a4 a0 a5 a7 a1 a8 iB bB b0 a2 b1 95 :: .sl a4 a5 a0 a6 25 1 :: .sl a7 a8 a1 a9 124 2 :: .sl b0 b1 a2 b2 48 2 :: (T' ++ R)) := by
 refine CW.en func35 rfl 10 [_] (CW.sub [(0, _)] ⟨rfl, trivial⟩ (cr (WL.as rfl (wn (CW.seq (cr (WL.mv rfl (WL.v (Runs.eql_ptr underlying30 rfl rfl rfl) (wn (CW.cf rfl rfl (CW.skip (QW.then_n (cr (WL.mv rfl (WL.v (Runs.nilCheck rfl) ?_)))))))))))))))
 refine WL.v (Runs.fieldAddr (off := 0) (p := 0) fld95_0 rfl rfl rfl) (WL.ld 0 nagg76 st0 rfl rfl (pa (.slice pA nB nC) [] ((cl pB nD nE) ++ ((ci iA) ++ ((cb bA) ++ (cl pC nF nG))))) ?_)
 refine WL.v (Runs.len_sl underlying76 rfl (by rw [a3])) ?_
 refine WL.as rfl (wn (CW.ret ?_))
 obtain ⟨rfl, rfl, rfl, rfl, rfl, rfl⟩ := H
 exact QW.ret1 rfl rfl ⟨T, pA, nB, nC, xA, pB, nD, nE, xB, pC, nF, nG, xC, Pl.refl, a3, b3, b4, b5, b6, b7, rfl, (St.pk (L := [_, _, _, _]) st0 [0, 1, 2, 3])⟩
def journal_New.rel (c2 : List R25) (c3 : List R124) (c4 : Int) (c5 : Bool) (c6 : List R48) (l1 : List Int) (a2 a3 c7 c8 : Int) (c9 : List Int) (a5 a6 : Int) (b7 : List R25) (b8 : List R124) (b9 : Int) (c0 : Bool) (c1 : List R48) (or0 : Option ((List Int) × Int × Int × Int × Int × (List Int) × Int × Int)) (ar1 : Int) : Prop := ((a2 < 0 ∧ or0 = none ∧ b7 = c2 ∧ b8 = c3 ∧ b9 = c4 ∧ c0 = c5 ∧ c1 = c6 ∧ ar1 = 1) ∨ (¬ (a2 < 0) ∧ ((a3 < 1 ∧ or0 = none ∧ b7 = c2 ∧ b8 = c3 ∧ b9 = c4 ∧ c0 = c5 ∧ c1 = c6 ∧ ar1 = 1) ∨ (¬ (a3 < 1) ∧ (∃ a9 b0 b1 b2 b3 b4, disk_Disk_Size.rel c2 c3 c4 c5 c6 a9 b0 b1 b2 b3 b4 ∧ ((a2 > b4 ∧ or0 = none ∧ b7 = a9 ∧ b8 = b0 ∧ b9 = b1 ∧ c0 = b2 ∧ c1 = b3 ∧ ar1 = 1) ∨ (¬ (a2 > b4) ∧ (∃ a0 a1 a4 a7 a8 b5, disk_Disk_Size.rel a9 b0 b1 b2 b3 a0 a1 a4 a7 a8 b5 ∧ (((i64.wrap (b5 - a2)) < a3 ∧ or0 = none ∧ b7 = a0 ∧ b8 = a1 ∧ b9 = a4 ∧ c0 = a7 ∧ c1 = a8 ∧ ar1 = 1) ∨ (¬ ((i64.wrap (b5 - a2)) < a3) ∧ (∃ b6, journal_may.rel c7 c8 c9 (u64.wrap a3) b6 ∧ ((¬ (b6 = true) ∧ or0 = none ∧ b7 = a0 ∧ b8 = a1 ∧ b9 = a4 ∧ c0 = a7 ∧ c1 = a8 ∧ ar1 = 1) ∨ (¬ (¬ (b6 = true)) ∧ ((a5 < 1 ∧ or0 = none ∧ b7 = a0 ∧ b8 = a1 ∧ b9 = a4 ∧ c0 = a7 ∧ c1 = a8 ∧ ar1 = 1) ∨ (¬ (a5 < 1) ∧ ((a6 > 9223372036854775807 ∧ or0 = none ∧ b7 = a0 ∧ b8 = a1 ∧ b9 = a4 ∧ c0 = a7 ∧ c1 = a8 ∧ ar1 = 1) ∨ (¬ (a6 > 9223372036854775807) ∧ or0 = some (l1, a2, u64.wrap a3, c7, c8, c9, a5, a6) ∧ b7 = a0 ∧ b8 = a1 ∧ b9 = a4 ∧ c0 = a7 ∧ c1 = a8 ∧ ar1 = 0)))))))))))))))))
theorem journal_New.calls_nil (T : Pool) (st0 : St w w1 (oD nA pA nB nC pB nD nE iA bA pC nF nG 95 :: .sl pA nC nB xA 25 1 :: .sl pB nE nD xB 124 2 :: .sl pC nG nF xC 48 2 :: (T ++ R))) (a3 : nB = qA.length) (a5 : HRs T (f25 w) xA qA) (a6 : nD = rA.length) (b0 : HRs T (f124 w) xB rA) (j6 : nF = sA.length) (j7 : HRs T (f48 w) xC sA) (hl1 : lA.length = 32) (a2 : lB.length = 32) (or0 : Option ((List Int) × Int × Int × Int × Int × (List Int) × Int × Int)) (ho_ : or0 = none) (H : journal_New.rel qA rA iA bA sA lA iB iC iD iE lB iF iG qB rB iH bB sB or0 iI) :
  Calls prog 12 #[.pointer (sp nA), .agg (iv .u8 lA).toArray, .int .i64 iB, .int .i64 iC, .agg ((cu iD) ++ ((cu iE) ++ iv .u8 lB)).toArray, .int .u64 iF, .int .u64 iG] w1 fun e w' => ∃ T' k1 j8 k2 k3 k4 j9 k5 k6 k7 k0 k8 k9, Pl T T' ∧ j8 = qB.length ∧ HRs T' (f25 w) k3 qB ∧ j9 = rB.length ∧ HRs T' (f124 w) k6 rB ∧ k0 = sB.length ∧ HRs T' (f48 w) k9 sB ∧ e = .returned (.tuple #[.pointer none, .int .i64 1]) ∧ St w w' (oD nA k1 j8 k2 k4 j9 k5 iH bB k7 k0 k8 95 :: .sl k1 k2 j8 k3 25 1 :: .sl k4 k5 j9 k6 124 2 :: .sl k7 k8 k0 k9 48 2 :: (T' ++ R)) := by
 refine CW.en func12 rfl 61 [_, _, _, _, _, _, _] ?_
 refine CW.su [(0, _), (1, _), (2, _), (3, _), (4, _), (5, _), (6, _)] ?_
 refine cr (WL.box st0 rfl rfl ?_)
 intro a0 j3 h9
 refine WL.box h9 rfl rfl ?_
 intro a1 f0 f1
 refine WL.as rfl (WL.as rfl (wn (CW.seq (cr (WL.mv rfl (WL.v (Runs.lss rfl rfl rfl) (WL.mv rfl ?_)))))))
 rcases H with ⟨f2, H⟩ | ⟨f2, H⟩
 ·have b9 := (decide_eq_true f2)
  iterate 2 (refine WL.off ?_ ?_; exact Wg 18 b9)
  refine WL.v (Runs.pick_t (evb rfl b9) rfl) (WL.mv rfl ?_)
  iterate 4 (refine WL.off ?_ ?_; exact Wg 22 rfl)
  refine WL.v (Runs.pick_t rfl rfl) (WL.mv rfl ?_)
  iterate 6 (refine WL.off ?_ ?_; exact Wg 28 rfl)
  refine WL.v (Runs.pick_t rfl rfl) (WL.mv rfl ?_)
  iterate 5 (refine WL.off ?_ ?_; exact Wg 36 rfl)
  refine WL.v (Runs.pick_t rfl rfl) (WL.mv rfl ?_)
  iterate 2 (refine WL.off ?_ ?_; exact Wg 43 rfl)
  refine WL.v (Runs.pick_t rfl rfl) (WL.mv rfl ?_)
  iterate 2 (refine WL.off ?_ ?_; exact Wg 47 rfl)
  refine WL.v (Runs.pick_t rfl rfl) (wn ?_)
  refine CW.su [(0, _), (2, _), (3, _), (5, _), (6, _), (8, _), (11, _), (14, _), (15, _), (50, _)] ?_
  refine CW.ct rfl rfl (cr (WL.as rfl (WL.as rfl (wn (CW.ret (QW.then_r ?_))))))
  obtain ⟨-, rfl, rfl, rfl, rfl, rfl, rfl⟩ := H
  exact QW.ret2 rfl rfl rfl ⟨T, pA, nB, nC, xA, pB, nD, nE, xB, pC, nF, nG, xC, Pl.refl, a3, a5, a6, b0, j6, j7, rfl, (St.pk (L := [_, _, _, _, _, _]) f1 [2, 3, 4, 5])⟩
 have b9 := (decide_eq_false f2)
 refine WL.on ?_ ?_; exact Wg 18 b9
 refine WL.mv rfl ?_
 refine WL.on ?_ ?_; exact Wg 18 b9
 refine WL.v (Runs.lss rfl rfl rfl) (WL.v (Runs.pick_f (evb rfl b9) rfl) (WL.mv rfl ?_))
 rcases H with ⟨f3, H⟩ | ⟨f3, H⟩
 ·have a8 := (decide_eq_true f3)
  iterate 4 (refine WL.off ?_ ?_; exact Wg 22 a8)
  refine WL.v (Runs.pick_t (evb rfl a8) rfl) (WL.mv rfl ?_)
  iterate 6 (refine WL.off ?_ ?_; exact Wg 28 rfl)
  refine WL.v (Runs.pick_t rfl rfl) (WL.mv rfl ?_)
  iterate 5 (refine WL.off ?_ ?_; exact Wg 36 rfl)
  refine WL.v (Runs.pick_t rfl rfl) (WL.mv rfl ?_)
  iterate 2 (refine WL.off ?_ ?_; exact Wg 43 rfl)
  refine WL.v (Runs.pick_t rfl rfl) (WL.mv rfl ?_)
  iterate 2 (refine WL.off ?_ ?_; exact Wg 47 rfl)
  refine WL.v (Runs.pick_t rfl rfl) (wn ?_)
  refine CW.su [(0, _), (2, _), (3, _), (5, _), (6, _), (8, _), (11, _), (14, _), (15, _), (50, _)] ?_
  refine CW.ct rfl rfl (cr (WL.as rfl (WL.as rfl (wn (CW.ret (QW.then_r ?_))))))
  obtain ⟨-, rfl, rfl, rfl, rfl, rfl, rfl⟩ := H
  exact QW.ret2 rfl rfl rfl ⟨T, pA, nB, nC, xA, pB, nD, nE, xB, pC, nF, nG, xC, Pl.refl, a3, a5, a6, b0, j6, j7, rfl, (St.pk (L := [_, _, _, _, _, _]) f1 [2, 3, 4, 5])⟩
 have a8 := (decide_eq_false f3)
 refine WL.on ?_ ?_; exact Wg 22 a8
 refine WL.mv rfl ?_
 refine WL.on ?_ ?_; exact Wg 22 a8
 refine WL.mv rfl ?_
 refine WL.on ?_ ?_; exact Wg 22 a8
 have f4 := (St.pk (L := [_, _, _, _, _, _]) f1 [2, 3, 4, 5, 0, 1])
 have i0 := St.hide (A := [_, _, _, _]) (B := [_, _]) f4
 obtain ⟨g8, g9, d8, d9, h0, f5, i1, H⟩ := H
 refine wC ent35 rfl (disk_Disk_Size.calls T i0 (a3) a5 (a6) b0 (j6) j7 i1) ?_
 rintro _ f6 ⟨c3, c4, c5, c6, e0, c7, c8, c9, e1, d0, d1, d2, e2, d7, h1, h2, h3, h4, h5, h6, rfl, i2⟩
 have h7 := St.unhide (A := [_, _, _, _]) (B := [_, _]) i2; dsimp only [ec, en] at h7
 refine ⟨_, rfl, ?_⟩
 refine WL.on ?_ ?_; exact Wg 22 a8
 refine WL.v (Runs.gtr rfl rfl rfl) (WL.v (Runs.pick_f (evb rfl a8) rfl) (WL.mv rfl ?_))
 rcases H with ⟨f7, H⟩ | ⟨f7, H⟩
 ·have a4 := (decide_eq_true f7)
  iterate 6 (refine WL.off ?_ ?_; exact Wg 28 a4)
  refine WL.v (Runs.pick_t (evb rfl a4) rfl) (WL.mv rfl ?_)
  iterate 5 (refine WL.off ?_ ?_; exact Wg 36 rfl)
  refine WL.v (Runs.pick_t rfl rfl) (WL.mv rfl ?_)
  iterate 2 (refine WL.off ?_ ?_; exact Wg 43 rfl)
  refine WL.v (Runs.pick_t rfl rfl) (WL.mv rfl ?_)
  iterate 2 (refine WL.off ?_ ?_; exact Wg 47 rfl)
  refine WL.v (Runs.pick_t rfl rfl) (wn ?_)
  refine CW.su [(0, _), (2, _), (3, _), (5, _), (6, _), (8, _), (11, _), (14, _), (15, _), (50, _)] ?_
  refine CW.ct rfl rfl (cr (WL.as rfl (WL.as rfl (wn (CW.ret (QW.then_r ?_))))))
  obtain ⟨-, rfl, rfl, rfl, rfl, rfl, rfl⟩ := H
  exact QW.ret2 rfl rfl rfl ⟨c3, c4, c5, c6, e0, c7, c8, c9, e1, d0, d1, d2, e2, d7, h1, h2, h3, h4, h5, h6, rfl, (St.pk (L := [_, _, _, _, _, _]) h7 [0, 1, 2, 3])⟩
 have a4 := (decide_eq_false f7)
 refine WL.on ?_ ?_; exact Wg 28 a4
 refine WL.mv rfl ?_
 refine WL.on ?_ ?_; exact Wg 28 a4
 have i3 := St.hide (A := [_, _, _, _]) (B := [_, _]) h7
 obtain ⟨i4, i5, f8, f9, i6, g0, i7, H⟩ := H
 refine wC ent35 rfl (disk_Disk_Size.calls c3 i3 (h1) h2 (h3) h4 (h5) h6 i7) ?_
 rintro _ h8 ⟨c0, a9, b1, b2, d3, b3, b4, b5, d4, b6, b7, b8, d5, e3, e4, e5, e6, e7, e8, e9, rfl, i8⟩
 have g1 := St.unhide (A := [_, _, _, _]) (B := [_, _]) i8; dsimp only [ec, en] at g1
 refine ⟨_, rfl, ?_⟩
 refine WL.on ?_ ?_; exact Wg 28 a4
 refine WL.mv rfl ?_
 refine WL.on ?_ ?_; exact Wg 28 a4
 refine WL.v (Runs.sub rfl rfl rfl) ?_
 refine WL.on ?_ ?_; exact Wg 28 a4
 refine WL.mv rfl ?_
 refine WL.on ?_ ?_; exact Wg 28 a4
 refine WL.v (Runs.lss rfl rfl rfl) (WL.v (Runs.pick_f (evb rfl a4) rfl) (WL.mv rfl ?_))
 rcases H with ⟨g2, H⟩ | ⟨g2, H⟩
 ·have a7 := (decide_eq_true g2)
  iterate 5 (refine WL.off ?_ ?_; exact Wg 36 a7)
  refine WL.v (Runs.pick_t (evb rfl a7) rfl) (WL.mv rfl ?_)
  iterate 2 (refine WL.off ?_ ?_; exact Wg 43 rfl)
  refine WL.v (Runs.pick_t rfl rfl) (WL.mv rfl ?_)
  iterate 2 (refine WL.off ?_ ?_; exact Wg 47 rfl)
  refine WL.v (Runs.pick_t rfl rfl) (wn ?_)
  refine CW.su [(0, _), (2, _), (3, _), (5, _), (6, _), (8, _), (11, _), (14, _), (15, _), (50, _)] ?_
  refine CW.ct rfl rfl (cr (WL.as rfl (WL.as rfl (wn (CW.ret (QW.then_r ?_))))))
  obtain ⟨-, rfl, rfl, rfl, rfl, rfl, rfl⟩ := H
  exact QW.ret2 rfl rfl rfl ⟨c0, a9, b1, b2, d3, b3, b4, b5, d4, b6, b7, b8, d5, (d7.trans e3), e4, e5, e6, e7, e8, e9, rfl, (St.pk (L := [_, _, _, _, _, _]) g1 [0, 1, 2, 3])⟩
 have a7 := (decide_eq_false g2)
 refine WL.on ?_ ?_; exact Wg 36 a7
 refine WL.v (Runs.load_mid row39 rfl g1 (i := 4) rfl (pm [] ((cu iD) ++ ((cu iE) ++ iv .u8 lB)) [] (hm := by simp [lv, a2])) (by simp [lv, a2])) ?_
 refine WL.on ?_ ?_; exact Wg 36 a7
 refine WL.mv rfl ?_
 refine WL.on ?_ ?_; exact Wg 36 a7
 refine WL.v (Runs.conv underlying37 ⟨_, underlying3⟩ rfl rfl) ?_
 refine WL.on ?_ ?_; exact Wg 36 a7
 obtain ⟨g3, i9, H⟩ := H
 refine wC ent36 rfl (journal_may.calls a2 i9) ?_
 rintro _ j0 ⟨rfl, j1⟩
 have d6 := g1.call j1
 refine ⟨_, rfl, ?_⟩
 refine WL.on ?_ ?_; exact Wg 36 a7
 refine WL.v (Runs.not rfl rfl) (WL.v (Runs.pick_f (evb rfl a7) rfl) (WL.mv rfl ?_))
 rcases H with ⟨g4, H⟩ | ⟨g4, H⟩
 ·have c1 : (!g3) = true := (not_t (Bool.eq_false_iff.mpr g4))
  iterate 2 (refine WL.off ?_ ?_; exact Wg 43 c1)
  refine WL.v (Runs.pick_t (evb rfl c1) rfl) (WL.mv rfl ?_)
  iterate 2 (refine WL.off ?_ ?_; exact Wg 47 rfl)
  refine WL.v (Runs.pick_t rfl rfl) (wn ?_)
  refine CW.su [(0, _), (2, _), (3, _), (5, _), (6, _), (8, _), (11, _), (14, _), (15, _), (50, _)] ?_
  refine CW.ct rfl rfl (cr (WL.as rfl (WL.as rfl (wn (CW.ret (QW.then_r ?_))))))
  obtain ⟨-, rfl, rfl, rfl, rfl, rfl, rfl⟩ := H
  exact QW.ret2 rfl rfl rfl ⟨c0, a9, b1, b2, d3, b3, b4, b5, d4, b6, b7, b8, d5, (d7.trans e3), e4, e5, e6, e7, e8, e9, rfl, (St.pk (L := [_, _, _, _, _, _]) d6 [0, 1, 2, 3])⟩
 have c1 : (!g3) = false := (not_f (Decidable.not_not.mp g4))
 refine WL.on ?_ ?_; exact Wg 43 c1
 refine WL.mv rfl ?_
 refine WL.on ?_ ?_; exact Wg 43 c1
 refine WL.v (Runs.lss rfl rfl rfl) (WL.v (Runs.pick_f (evb rfl c1) rfl) (WL.mv rfl ?_))
 rcases H with ⟨g5, H⟩ | ⟨g5, H⟩
 ·have c2 := (decide_eq_true g5)
  iterate 2 (refine WL.off ?_ ?_; exact Wg 47 c2)
  refine WL.v (Runs.pick_t (evb rfl c2) rfl) (wn ?_)
  refine CW.su [(0, _), (2, _), (3, _), (5, _), (6, _), (8, _), (11, _), (14, _), (15, _), (50, _)] ?_
  refine CW.ct rfl rfl (cr (WL.as rfl (WL.as rfl (wn (CW.ret (QW.then_r ?_))))))
  obtain ⟨-, rfl, rfl, rfl, rfl, rfl, rfl⟩ := H
  exact QW.ret2 rfl rfl rfl ⟨c0, a9, b1, b2, d3, b3, b4, b5, d4, b6, b7, b8, d5, (d7.trans e3), e4, e5, e6, e7, e8, e9, rfl, (St.pk (L := [_, _, _, _, _, _]) d6 [0, 1, 2, 3])⟩
 have c2 := (decide_eq_false g5)
 refine WL.on ?_ ?_; exact Wg 47 c2
 refine WL.mv rfl ?_
 refine WL.on ?_ ?_; exact Wg 47 c2
 refine WL.v (Runs.gtr rfl rfl rfl) (WL.v (Runs.pick_f (evb rfl c2) rfl) (wn ?_))
 refine CW.su [(0, _), (2, _), (3, _), (5, _), (6, _), (8, _), (11, _), (14, _), (15, _), (50, _)] ?_
 rcases H with ⟨g6, H⟩ | ⟨g6, H⟩
 ·have g7 := (decide_eq_true g6)
  refine CW.ct rfl g7 (cr (WL.as rfl (WL.as rfl (wn (CW.ret (QW.then_r ?_))))))
  obtain ⟨-, rfl, rfl, rfl, rfl, rfl, rfl⟩ := H
  exact QW.ret2 rfl rfl rfl ⟨c0, a9, b1, b2, d3, b3, b4, b5, d4, b6, b7, b8, d5, (d7.trans e3), e4, e5, e6, e7, e8, e9, rfl, (St.pk (L := [_, _, _, _, _, _]) d6 [0, 1, 2, 3])⟩
 have g7 := (decide_eq_false g6)
 refine CW.cf rfl g7 (CW.skip (QW.then_n (cr (WL.mv rfl (WL.v (Runs.load_arr arr23 rfl (d6.blk (i := 5) rfl) hl1) (WL.mv rfl (WL.mv rfl (WL.v (Runs.conv underlying37 ⟨_, underlying3⟩ rfl rfl) ?_))))))))
 refine WL.v (Runs.load_mid row39 rfl d6 (i := 4) rfl (pm [] ((cu iD) ++ ((cu iE) ++ iv .u8 lB)) [] (hm := by simp [lv, a2])) (by simp [lv, a2])) ?_
 refine WL.mv rfl (WL.mv rfl ?_)
 refine WL.v (Runs.build_seg (ps := [(0, 1), (1, 32), (33, 1), (34, 1), (35, 34), (69, 1), (70, 1)]) (cs := ((cp nA) ++ (iv .u8 lA ++ ((ci iB) ++ ((cu (u64.wrap iC)) ++ ((cu iD) ++ ((cu iE) ++ (iv .u8 lB ++ ((cu iF) ++ (cu iG)))))))))) plc98 zero98 rfl (.cons (ms := ((cp nA))) rfl rfl rfl (.cons (ms := (iv .u8 lA)) rfl (by simp [lv, hl1]) rfl (.cons (ms := ((ci iB))) rfl rfl rfl (.cons (ms := ((cu (u64.wrap iC)))) rfl rfl rfl (.cons (ms := ((cu iD) ++ ((cu iE) ++ iv .u8 lB))) rfl (by simp [lv, a2]) rfl (.cons (ms := ((cu iF))) rfl rfl rfl (.one rfl rfl))))))) (Eq.trans (b := 71) (by simp [lv]) (Eq.symm (by first | rfl | simp only [List.append_assoc, la, lc, ln, lv, hl1, a2]))) (by first | rfl | simp only [aa, an, na, ca])) ?_
 refine WL.box d6 rfl rfl ?_
 intro j2 j4 j5
 refine WL.as rfl (WL.as rfl (wn (CW.ret ?_)))
 exact nomatch (ho_.symm.trans H.1)
theorem journal_New.calls_obj (T : Pool) (st0 : St w w1 (oD nA pA nB nC pB nD nE iA bA pC nF nG 95 :: .sl pA nC nB xA 25 1 :: .sl pB nE nD xB 124 2 :: .sl pC nG nF xC 48 2 :: (T ++ R))) (k4 : nB = qA.length) (k5 : HRs T (f25 w) xA qA) (k6 : nD = rA.length) (k7 : HRs T (f124 w) xB rA) (k8 : nF = sA.length) (k9 : HRs T (f48 w) xC sA) (hl1 : lA.length = 32) (a2 : lB.length = 32) (or0 : Option ((List Int) × Int × Int × Int × Int × (List Int) × Int × Int)) (ho_ : or0 = some (lC, iI, iJ, iK, iL, lD, iM, iN)) (H : journal_New.rel qA rA iA bA sA lA iB iC iD iE lB iF iG qB rB iH bB sB or0 iO) :
  Calls prog 12 #[.pointer (sp nA), .agg (iv .u8 lA).toArray, .int .i64 iB, .int .i64 iC, .agg ((cu iD) ++ ((cu iE) ++ iv .u8 lB)).toArray, .int .u64 iF, .int .u64 iG] w1 fun e w' => ∃ T' b0 a3 j6 j7 j8 a5 j9 k0 k1 a6 k2 k3 br0, Pl T T' ∧ a3 = qB.length ∧ HRs T' (f25 w) j7 qB ∧ a5 = rB.length ∧ HRs T' (f124 w) k0 rB ∧ a6 = sB.length ∧ HRs T' (f48 w) k3 sB ∧ lC.length = 32 ∧ lD.length = 32 ∧ e = .returned (.tuple #[.pointer (sp br0), .int .i64 0]) ∧ St w w' (oD nA b0 a3 j6 j8 a5 j9 iH bB k1 a6 k2 95 :: .sl b0 j6 a3 j7 25 1 :: .sl j8 j9 a5 k0 124 2 :: .sl k1 k2 a6 k3 48 2 :: oJ br0 nA lC iI iJ iK iL lD iM iN 98 :: (T' ++ R)) := by
 refine CW.en func12 rfl 61 [_, _, _, _, _, _, _] ?_
 refine CW.su [(0, _), (1, _), (2, _), (3, _), (4, _), (5, _), (6, _)] ?_
 refine cr (WL.box st0 rfl rfl ?_)
 intro a0 j4 g4
 refine WL.box g4 rfl rfl ?_
 intro a1 d5 g5
 refine WL.as rfl (WL.as rfl (wn (CW.seq (cr (WL.mv rfl (WL.v (Runs.lss rfl rfl rfl) (WL.mv rfl ?_)))))))
 rcases H with ⟨d6, H⟩ | ⟨d6, H⟩
 ·have a9 := (decide_eq_true d6)
  iterate 2 (refine WL.off ?_ ?_; exact Wg 18 a9)
  refine WL.v (Runs.pick_t (evb rfl a9) rfl) (WL.mv rfl ?_)
  iterate 4 (refine WL.off ?_ ?_; exact Wg 22 rfl)
  refine WL.v (Runs.pick_t rfl rfl) (WL.mv rfl ?_)
  iterate 6 (refine WL.off ?_ ?_; exact Wg 28 rfl)
  refine WL.v (Runs.pick_t rfl rfl) (WL.mv rfl ?_)
  iterate 5 (refine WL.off ?_ ?_; exact Wg 36 rfl)
  refine WL.v (Runs.pick_t rfl rfl) (WL.mv rfl ?_)
  iterate 2 (refine WL.off ?_ ?_; exact Wg 43 rfl)
  refine WL.v (Runs.pick_t rfl rfl) (WL.mv rfl ?_)
  iterate 2 (refine WL.off ?_ ?_; exact Wg 47 rfl)
  refine WL.v (Runs.pick_t rfl rfl) (wn ?_)
  refine CW.su [(0, _), (2, _), (3, _), (5, _), (6, _), (8, _), (11, _), (14, _), (15, _), (50, _)] ?_
  refine CW.ct rfl rfl (cr (WL.as rfl (WL.as rfl (wn (CW.ret (QW.then_r ?_))))))
  exact nomatch (ho_.symm.trans H.1)
 have a9 := (decide_eq_false d6)
 refine WL.on ?_ ?_; exact Wg 18 a9
 refine WL.mv rfl ?_
 refine WL.on ?_ ?_; exact Wg 18 a9
 refine WL.v (Runs.lss rfl rfl rfl) (WL.v (Runs.pick_f (evb rfl a9) rfl) (WL.mv rfl ?_))
 rcases H with ⟨d7, H⟩ | ⟨d7, H⟩
 ·have a8 := (decide_eq_true d7)
  iterate 4 (refine WL.off ?_ ?_; exact Wg 22 a8)
  refine WL.v (Runs.pick_t (evb rfl a8) rfl) (WL.mv rfl ?_)
  iterate 6 (refine WL.off ?_ ?_; exact Wg 28 rfl)
  refine WL.v (Runs.pick_t rfl rfl) (WL.mv rfl ?_)
  iterate 5 (refine WL.off ?_ ?_; exact Wg 36 rfl)
  refine WL.v (Runs.pick_t rfl rfl) (WL.mv rfl ?_)
  iterate 2 (refine WL.off ?_ ?_; exact Wg 43 rfl)
  refine WL.v (Runs.pick_t rfl rfl) (WL.mv rfl ?_)
  iterate 2 (refine WL.off ?_ ?_; exact Wg 47 rfl)
  refine WL.v (Runs.pick_t rfl rfl) (wn ?_)
  refine CW.su [(0, _), (2, _), (3, _), (5, _), (6, _), (8, _), (11, _), (14, _), (15, _), (50, _)] ?_
  refine CW.ct rfl rfl (cr (WL.as rfl (WL.as rfl (wn (CW.ret (QW.then_r ?_))))))
  exact nomatch (ho_.symm.trans H.1)
 have a8 := (decide_eq_false d7)
 refine WL.on ?_ ?_; exact Wg 22 a8
 refine WL.mv rfl ?_
 refine WL.on ?_ ?_; exact Wg 22 a8
 refine WL.mv rfl ?_
 refine WL.on ?_ ?_; exact Wg 22 a8
 have d8 := (St.pk (L := [_, _, _, _, _, _]) g5 [2, 3, 4, 5, 0, 1])
 have g6 := St.hide (A := [_, _, _, _]) (B := [_, _]) d8
 obtain ⟨f8, f9, d2, d3, g0, d9, g7, H⟩ := H
 refine wC ent35 rfl (disk_Disk_Size.calls T g6 (k4) k5 (k6) k7 (k8) k9 g7) ?_
 rintro _ e0 ⟨b3, b4, b5, b6, e1, b7, b8, b9, e2, c0, c1, c2, e3, g8, g9, h0, h1, h2, h3, h4, rfl, h5⟩
 have h6 := St.unhide (A := [_, _, _, _]) (B := [_, _]) h5; dsimp only [ec, en] at h6
 refine ⟨_, rfl, ?_⟩
 refine WL.on ?_ ?_; exact Wg 22 a8
 refine WL.v (Runs.gtr rfl rfl rfl) (WL.v (Runs.pick_f (evb rfl a8) rfl) (WL.mv rfl ?_))
 rcases H with ⟨e4, H⟩ | ⟨e4, H⟩
 ·have a4 := (decide_eq_true e4)
  iterate 6 (refine WL.off ?_ ?_; exact Wg 28 a4)
  refine WL.v (Runs.pick_t (evb rfl a4) rfl) (WL.mv rfl ?_)
  iterate 5 (refine WL.off ?_ ?_; exact Wg 36 rfl)
  refine WL.v (Runs.pick_t rfl rfl) (WL.mv rfl ?_)
  iterate 2 (refine WL.off ?_ ?_; exact Wg 43 rfl)
  refine WL.v (Runs.pick_t rfl rfl) (WL.mv rfl ?_)
  iterate 2 (refine WL.off ?_ ?_; exact Wg 47 rfl)
  refine WL.v (Runs.pick_t rfl rfl) (wn ?_)
  refine CW.su [(0, _), (2, _), (3, _), (5, _), (6, _), (8, _), (11, _), (14, _), (15, _), (50, _)] ?_
  refine CW.ct rfl rfl (cr (WL.as rfl (WL.as rfl (wn (CW.ret (QW.then_r ?_))))))
  exact nomatch (ho_.symm.trans H.1)
 have a4 := (decide_eq_false e4)
 refine WL.on ?_ ?_; exact Wg 28 a4
 refine WL.mv rfl ?_
 refine WL.on ?_ ?_; exact Wg 28 a4
 have h7 := St.hide (A := [_, _, _, _]) (B := [_, _]) h6
 obtain ⟨h8, h9, e5, e6, i0, e7, i1, H⟩ := H
 refine wC ent35 rfl (disk_Disk_Size.calls b3 h7 (g9) h0 (h1) h2 (h3) h4 i1) ?_
 rintro _ g1 ⟨d4, c3, c4, c5, e8, c6, c7, c8, e9, c9, d0, d1, f0, i2, i3, i4, i5, i6, i7, i8, rfl, i9⟩
 have g2 := St.unhide (A := [_, _, _, _]) (B := [_, _]) i9; dsimp only [ec, en] at g2
 refine ⟨_, rfl, ?_⟩
 refine WL.on ?_ ?_; exact Wg 28 a4
 refine WL.mv rfl ?_
 refine WL.on ?_ ?_; exact Wg 28 a4
 refine WL.v (Runs.sub rfl rfl rfl) ?_
 refine WL.on ?_ ?_; exact Wg 28 a4
 refine WL.mv rfl ?_
 refine WL.on ?_ ?_; exact Wg 28 a4
 refine WL.v (Runs.lss rfl rfl rfl) (WL.v (Runs.pick_f (evb rfl a4) rfl) (WL.mv rfl ?_))
 rcases H with ⟨f1, H⟩ | ⟨f1, H⟩
 ·have a7 := (decide_eq_true f1)
  iterate 5 (refine WL.off ?_ ?_; exact Wg 36 a7)
  refine WL.v (Runs.pick_t (evb rfl a7) rfl) (WL.mv rfl ?_)
  iterate 2 (refine WL.off ?_ ?_; exact Wg 43 rfl)
  refine WL.v (Runs.pick_t rfl rfl) (WL.mv rfl ?_)
  iterate 2 (refine WL.off ?_ ?_; exact Wg 47 rfl)
  refine WL.v (Runs.pick_t rfl rfl) (wn ?_)
  refine CW.su [(0, _), (2, _), (3, _), (5, _), (6, _), (8, _), (11, _), (14, _), (15, _), (50, _)] ?_
  refine CW.ct rfl rfl (cr (WL.as rfl (WL.as rfl (wn (CW.ret (QW.then_r ?_))))))
  exact nomatch (ho_.symm.trans H.1)
 have a7 := (decide_eq_false f1)
 refine WL.on ?_ ?_; exact Wg 36 a7
 refine WL.v (Runs.load_mid row39 rfl g2 (i := 4) rfl (pm [] ((cu iD) ++ ((cu iE) ++ iv .u8 lB)) [] (hm := by simp [lv, a2])) (by simp [lv, a2])) ?_
 refine WL.on ?_ ?_; exact Wg 36 a7
 refine WL.mv rfl ?_
 refine WL.on ?_ ?_; exact Wg 36 a7
 refine WL.v (Runs.conv underlying37 ⟨_, underlying3⟩ rfl rfl) ?_
 refine WL.on ?_ ?_; exact Wg 36 a7
 obtain ⟨f2, j0, H⟩ := H
 refine wC ent36 rfl (journal_may.calls a2 j0) ?_
 rintro _ j1 ⟨rfl, j2⟩
 have f3 := g2.call j2
 refine ⟨_, rfl, ?_⟩
 refine WL.on ?_ ?_; exact Wg 36 a7
 refine WL.v (Runs.not rfl rfl) (WL.v (Runs.pick_f (evb rfl a7) rfl) (WL.mv rfl ?_))
 rcases H with ⟨f4, H⟩ | ⟨f4, H⟩
 ·have b1 : (!f2) = true := (not_t (Bool.eq_false_iff.mpr f4))
  iterate 2 (refine WL.off ?_ ?_; exact Wg 43 b1)
  refine WL.v (Runs.pick_t (evb rfl b1) rfl) (WL.mv rfl ?_)
  iterate 2 (refine WL.off ?_ ?_; exact Wg 47 rfl)
  refine WL.v (Runs.pick_t rfl rfl) (wn ?_)
  refine CW.su [(0, _), (2, _), (3, _), (5, _), (6, _), (8, _), (11, _), (14, _), (15, _), (50, _)] ?_
  refine CW.ct rfl rfl (cr (WL.as rfl (WL.as rfl (wn (CW.ret (QW.then_r ?_))))))
  exact nomatch (ho_.symm.trans H.1)
 have b1 : (!f2) = false := (not_f (Decidable.not_not.mp f4))
 refine WL.on ?_ ?_; exact Wg 43 b1
 refine WL.mv rfl ?_
 refine WL.on ?_ ?_; exact Wg 43 b1
 refine WL.v (Runs.lss rfl rfl rfl) (WL.v (Runs.pick_f (evb rfl b1) rfl) (WL.mv rfl ?_))
 rcases H with ⟨f5, H⟩ | ⟨f5, H⟩
 ·have b2 := (decide_eq_true f5)
  iterate 2 (refine WL.off ?_ ?_; exact Wg 47 b2)
  refine WL.v (Runs.pick_t (evb rfl b2) rfl) (wn ?_)
  refine CW.su [(0, _), (2, _), (3, _), (5, _), (6, _), (8, _), (11, _), (14, _), (15, _), (50, _)] ?_
  refine CW.ct rfl rfl (cr (WL.as rfl (WL.as rfl (wn (CW.ret (QW.then_r ?_))))))
  exact nomatch (ho_.symm.trans H.1)
 have b2 := (decide_eq_false f5)
 refine WL.on ?_ ?_; exact Wg 47 b2
 refine WL.mv rfl ?_
 refine WL.on ?_ ?_; exact Wg 47 b2
 refine WL.v (Runs.gtr rfl rfl rfl) (WL.v (Runs.pick_f (evb rfl b2) rfl) (wn ?_))
 refine CW.su [(0, _), (2, _), (3, _), (5, _), (6, _), (8, _), (11, _), (14, _), (15, _), (50, _)] ?_
 rcases H with ⟨f6, H⟩ | ⟨f6, H⟩
 ·have f7 := (decide_eq_true f6)
  refine CW.ct rfl f7 (cr (WL.as rfl (WL.as rfl (wn (CW.ret (QW.then_r ?_))))))
  exact nomatch (ho_.symm.trans H.1)
 have f7 := (decide_eq_false f6)
 refine CW.cf rfl f7 (CW.skip (QW.then_n (cr (WL.mv rfl (WL.v (Runs.load_arr arr23 rfl (f3.blk (i := 5) rfl) hl1) (WL.mv rfl (WL.mv rfl (WL.v (Runs.conv underlying37 ⟨_, underlying3⟩ rfl rfl) ?_))))))))
 refine WL.v (Runs.load_mid row39 rfl f3 (i := 4) rfl (pm [] ((cu iD) ++ ((cu iE) ++ iv .u8 lB)) [] (hm := by simp [lv, a2])) (by simp [lv, a2])) ?_
 refine WL.mv rfl (WL.mv rfl ?_)
 refine WL.v (Runs.build_seg (ps := [(0, 1), (1, 32), (33, 1), (34, 1), (35, 34), (69, 1), (70, 1)]) (cs := ((cp nA) ++ (iv .u8 lA ++ ((ci iB) ++ ((cu (u64.wrap iC)) ++ ((cu iD) ++ ((cu iE) ++ (iv .u8 lB ++ ((cu iF) ++ (cu iG)))))))))) plc98 zero98 rfl (.cons (ms := ((cp nA))) rfl rfl rfl (.cons (ms := (iv .u8 lA)) rfl (by simp [lv, hl1]) rfl (.cons (ms := ((ci iB))) rfl rfl rfl (.cons (ms := ((cu (u64.wrap iC)))) rfl rfl rfl (.cons (ms := ((cu iD) ++ ((cu iE) ++ iv .u8 lB))) rfl (by simp [lv, a2]) rfl (.cons (ms := ((cu iF))) rfl rfl rfl (.one rfl rfl))))))) (Eq.trans (b := 71) (by simp [lv]) (Eq.symm (by first | rfl | simp only [List.append_assoc, la, lc, ln, lv, hl1, a2]))) (by first | rfl | simp only [aa, an, na, ca])) ?_
 refine WL.box f3 rfl rfl ?_
 intro g3 j5 j3
 refine WL.as rfl (WL.as rfl (wn (CW.ret ?_)))
 obtain ⟨h_, rfl, rfl, rfl, rfl, rfl, rfl⟩ := H
 replace h_ := ho_.symm.trans h_
 cases h_
 exact QW.ret2 rfl rfl rfl ⟨d4, c3, c4, c5, e8, c6, c7, c8, e9, c9, d0, d1, f0, g3, (g8.trans i2), i3, i4, i5, i6, i7, i8, hl1, a2, rfl, (St.pk (L := [_, _, _, _, _, _, _]) j3 [1, 2, 3, 4, 0])⟩
def record_Of_1.rel (a1 : Int) (a0 : List Int) (ar0 : Bool) : Prop := ar0 = ((a0.length : Int) != 160)
theorem record_Of_1.calls (T : Pool) (st0 : St w w1 ((T ++ R))) (a3 : HB w T pA nA nB (iv .u8 lA) lA.length) (H : record_Of_1.rel iA lA bA) :
  Calls prog 58 #[.agg ((cu iA) ++ (cl pA nA nB)).toArray] w1 fun e w' => ∃ T' , Pl T T' ∧ e = .returned (.bool bA) ∧ St w w' ((T' ++ R)) := by
 refine CW.en func58 rfl 7 [_] (CW.sub [(0, _)] ⟨rfl, trivial⟩ (cr (WL.box st0 rfl rfl ?_)))
 intro a1 a2 a0
 refine WL.as rfl (WL.nx (WL.v (Runs.fieldAddr (off := 1) (p := 1) fld42_1 rfl rfl rfl) (WL.ld 0 nagg25 a0 rfl rfl (pa (.slice pA nA nB) (cu iA) []) ?_)))
 refine WL.v (Runs.len_sl underlying25 rfl (by rw [a3.1])) ?_
 refine WL.v (Runs.neq rfl rfl rfl) (WL.as rfl (wn (CW.ret ?_)))
 obtain rfl := H
 exact QW.ret1 rfl rfl ⟨T, Pl.refl, rfl, (St.pk (L := [_]) a0 [])⟩
def slices_IndexFunc_s_api_Image_api_Image_fn1_record_Of_1.L1 (l0 : List R42) (ar0 : Int) : Nat → Int → Int → Prop
 | 0, _, _ => False
 | kL1 + 1, a2, a0 => ((a0 < (l0.length : Int) ∧ ((0 ≤ a0 ∧ a0 < (l0.length : Int)) ∧ (∃ a1, record_Of_1.rel ((gx l0 (a0.toNat)).1) ((gx l0 (a0.toNat)).2) a1 ∧ ((a1 = true ∧ ar0 = a0) ∨ (¬ (a1 = true) ∧ slices_IndexFunc_s_api_Image_api_Image_fn1_record_Of_1.L1 l0 ar0 kL1 a2 (i64.wrap (a0 + 1))))))) ∨ (¬ (a0 < (l0.length : Int)) ∧ ar0 = -1))
def slices_IndexFunc_s_api_Image_api_Image_fn1_record_Of_1.rel (l0 : List R42) (ar0 : Int) : Prop := (∃ k_ : Nat, slices_IndexFunc_s_api_Image_api_Image_fn1_record_Of_1.L1 l0 ar0 k_ 0 0)
theorem slices_IndexFunc_s_api_Image_api_Image_fn1_record_Of_1.calls (T : Pool) (st0 : St w w1 ((T ++ R))) (hb0 : HS w (T ++ R) T pA nA nB (f42 w) tA) (H : slices_IndexFunc_s_api_Image_api_Image_fn1_record_Of_1.rel tA iA) :
  Calls prog 77 #[.slice pA nA nB, .func (.func 58) #[] #[]] w1 fun e w' => ∃ T' , Pl T T' ∧ e = .returned (.int .i64 iA) ∧ St w w' ((T' ++ R)) := by
 refine CW.en func77 rfl 19 [_, _] (CW.sub [(0, _), (1, _)] ⟨rfl, rfl, trivial⟩ (cr (WL.as rfl (wn (CW.seq (cr (WL.mv rfl ?_)))))))
 refine WL.v (Runs.len_sl underlying40 rfl (by rw [hb0.1])) ?_
 refine WL.mv rfl (wn (CW.block ?_))
 obtain ⟨c1, H⟩ := H
 refine CW.su [(0, _), (1, _), (4, _), (7, _), (8, _)] ?_
 refine CW.lp (fun kL1 l_ w_ => ∃ a1 a3 a0, l_ = [(0, .slice pA nA nB), (1, .func (.func 58) #[] #[]), (4, .int .i64 a3), (7, .int .i64 (tA.length : Int)), (8, .int .i64 a0)] ∧ slices_IndexFunc_s_api_Image_api_Image_fn1_record_Of_1.L1 tA iA kL1 a3 a0 ∧ (Pl T a1) ∧ St w w_ ((a1 ++ R))) (k := c1) ⟨T, 0, 0, rfl, H, Pl.refl, st0⟩ ?_
 rintro kL1 d3 b2 ⟨a1, a3, a0, rfl, H, a2, a4⟩
 refine cr (WL.v (Runs.lss rfl rfl rfl) (wn (CW.seq ?_)))
 rcases H with ⟨a6, H⟩ | ⟨a6, H⟩
 ·have a7 := (decide_eq_true a6)
  refine CW.ct rfl a7 (CW.skip (QW.then_n (CW.seq (CW.block (cr (WL.mv rfl (WL.as rfl (WL.nx (WL.mv rfl (WL.mv rfl (WL.mv rfl ?_)))))))))))
  obtain ⟨⟨c2, c3⟩, H⟩ := H
  obtain ⟨d4, b3, c4⟩ := hb0.2.2
  obtain ⟨d5, b4, c5, c6, c7⟩ := el_get (i := (a0).toNat) ((b3.at a4 (mem_TR (A := []) a2.1))) (c4.mono a2.1) (fz42 w) (by decide) (by omega)
  obtain ⟨b5, b6, b7, a8, c8⟩ := inv42 c7
  replace a8 : c5 = (cu ((gx tA (a0.toNat)).1)) ++ (cl b5 b6 b7) := a8
  subst a8
  refine WL.v (Runs.indexAddr underlying40 cells42 (by decide) rfl b4 rfl c2 (by rw [show nA = tA.length from hb0.1]; exact c3) (o := (a0.toNat) * 2) (by first | rfl | omega)) ?_
  refine WL.v (Runs.load_srcR row42 rfl (Src.cut ((b3.at a4 (mem_TR (A := []) a2.1))) b4 c6) rfl) ?_
  have c9 := St.hide (A := []) (B := []) a4
  obtain ⟨a9, d0, H⟩ := H
  refine WL.callv Wanted.none ent58 rfl rfl (record_Of_1.calls a1 c9 c8 d0) ?_
  rintro _ d1 ⟨a5, b8, rfl, d2⟩
  have b9 := St.unhide (A := []) (B := []) d2; dsimp only [ec, en] at b9
  refine ⟨_, rfl, wn ?_⟩
  rcases H with ⟨b0, H⟩ | ⟨b0, H⟩
  ·have b1 : a9 = true := b0
   refine CW.ct rfl b1 (cr (WL.mv rfl (WL.as rfl (wn (CW.ret (QW.blk_r (QW.then_r (QW.then_r (QW.blk_r (QW.then_r ?_))))))))))
   obtain rfl := H
   exact QW.ret1 rfl rfl ⟨a5, (a2.trans b8), rfl, (St.pk (L := []) b9 [])⟩
  have b1 : a9 = false := (Bool.eq_false_iff.mpr b0)
  refine CW.cf rfl b1 (CW.skip (QW.blk_n (QW.then_n (CW.region (WL.v (Runs.add rfl rfl rfl) (WL.mv rfl (WL.nil ?_)))))))
  exact QW.a ⟨a5, a3, i64.wrap (a0 + 1), rfl, H, (a2.trans b8), b9⟩
 have a7 := (decide_eq_false a6)
 refine CW.cf rfl a7 (CW.exit (QW.then_x (QW.then_x (QW.blk_x (QW.then_n (cr (WL.as rfl (wn (CW.ret ?_)))))))))
 obtain rfl := H
 exact QW.ret1 rfl rfl ⟨a1, a2, rfl, (St.pk (L := []) a4 [])⟩
def slices_ContainsFunc_s_api_Image_api_Image_fn1_record_Of_1.rel (l0 : List R42) (ar0 : Bool) : Prop := (∃ a0, slices_IndexFunc_s_api_Image_api_Image_fn1_record_Of_1.rel l0 a0 ∧ ar0 = (decide (a0 ≥ 0)))
theorem slices_ContainsFunc_s_api_Image_api_Image_fn1_record_Of_1.calls (T : Pool) (st0 : St w w1 ((T ++ R))) (hb0 : HS w (T ++ R) T pA nA nB (f42 w) tA) (H : slices_ContainsFunc_s_api_Image_api_Image_fn1_record_Of_1.rel tA bA) :
  Calls prog 59 #[.slice pA nA nB, .func (.func 58) #[] #[]] w1 fun e w' => ∃ T' , Pl T T' ∧ e = .returned (.bool bA) ∧ St w w' ((T' ++ R)) := by
 refine CW.en func59 rfl 9 [_, _] (CW.sub [(0, _), (1, _)] ⟨rfl, rfl, trivial⟩ (cr (WL.as rfl (WL.nx (WL.mv rfl (WL.mv rfl ?_))))))
 have a2 := St.hide (A := []) (B := []) st0
 obtain ⟨a1, a3, H⟩ := H
 refine wC ent77 rfl (slices_IndexFunc_s_api_Image_api_Image_fn1_record_Of_1.calls T a2 (hb0.mono (memo_TR (B := []) ii) ii) a3) ?_
 rintro _ a4 ⟨a0, a5, rfl, a6⟩
 have a7 := St.unhide (A := []) (B := []) a6; dsimp only [ec, en] at a7
 refine ⟨_, rfl, WL.v (Runs.geq rfl rfl rfl) (WL.as rfl (wn (CW.ret ?_)))⟩
 obtain rfl := H
 exact QW.ret1 rfl rfl ⟨a0, a5, rfl, (St.pk (L := []) a7 [])⟩
def slices_Clone_s_byte_byte.rel (l0 r0 : List Int) : Prop := (l0 = [] → r0 = []) ∧ (∃ a0 : List Int, a0 = ([] : List Int) ++ l0 ∧ (a0.length ≤ 1099511627776 ∧ r0 = a0))
theorem slices_Clone_s_byte_byte.calls (hs0 : Src w pA (iv .u8 lA)) (hn0 : nA = lA.length) (hc0 : nA ≤ nB) (H : slices_Clone_s_byte_byte.rel lA lB) :
  Calls prog 48 #[.slice pA nA nB] w fun e w' => ∃ B0 q0 z0, z0 = lB.length ∧ e = .returned (.slice B0 z0 q0) ∧ St w w' [.sl B0 q0 z0 (iv .u8 lB) 5 1] := by
 rcases pA with _ | A_
 ·replace H := H.1 (nil_of_src hs0)
  refine CW.en func48 rfl 8 [_] (CW.sub [(0, _)] ⟨rfl, trivial⟩ ?_)
  have st0 := St.refl w
  refine cr (WL.as rfl (wn (CW.seq (cr (WL.mv rfl (WL.v (Runs.eql_nil underlying25 rfl rfl rfl) (wn (CW.ct rfl rfl (cr (WL.as rfl (wn (CW.ret (QW.then_r ?_)))))))))))))
  have a2 := st0.nil_sl 5 1
  have a2 : St w w [.sl none 0 0 (iv .u8 ([] : List Int)) 5 1] := a2
  obtain rfl := H
  exact QW.ret1 rfl rfl ⟨none, 0, 0, rfl, rfl, a2.pick [0] (by decide)⟩
 replace H := H.2
 refine CW.en func48 rfl 8 [_] (CW.sub [(0, _)] ⟨rfl, trivial⟩ ?_)
 have st0 := St.refl w
 refine cr (WL.as rfl (wn (CW.seq (cr (WL.mv rfl (WL.v (Runs.eql_nil underlying25 rfl rfl rfl) (wn (CW.cf rfl rfl (CW.skip (QW.then_n (cr (WL.buildSl0 st0 underlying25 elem5 ?_))))))))))))
 intro a9 b0 a0
 try dsimp only [List.set, ec, en] at a0
 refine WL.mv rfl ?_
 obtain ⟨a7, a8, H⟩ := H
 obtain ⟨b1, H⟩ := H
 obtain ⟨a1, a3⟩ : ∃ n_ : Nat, n_ = a7.length := ⟨_, rfl⟩
 refine WL.append (i := 0) Wanted.none a0 rfl underlying25 elem5 rfl rfl (hs0.ext a0) (by rw [iv_length]; exact (hn0).symm) (one_iv .u8 _) (by decide) (N := a1) (by rw [a3, a8, List.length_append]; exact congr (congrArg HAdd.hAdd (rfl)) (hn0)) (by rw [a3]; exact b1) ?_
 intro a4 a5 b2 a6
 have a6' : St w b2 [.sl a4 a5 a1 (iv .u8 a7) 5 1] := by rw [a8, ← iv_append .u8 ([] : List Int) lA]; exact a6
 refine WL.as rfl (wn (CW.ret ?_))
 obtain rfl := H
 exact QW.ret1 rfl rfl ⟨a4, a5, a1, a3, rfl, a6'.pick [0] (by decide)⟩
def record_Of.L1 (l0 : List R42) (lr0 : List R104) (ar1 : Int) : Nat → (List R104) → Int → Prop
 | 0, _, _ => False
 | kL1 + 1, a2, a0 => ((a0 < (l0.length : Int) ∧ ((0 ≤ a0 ∧ a0 < (l0.length : Int)) ∧ (∃ a3, slices_Clone_s_byte_byte.rel ((gx l0 (a0.toNat)).2) a3 ∧ (∃ a1 : List R104, a1 = a2 ++ ([((gx l0 (a0.toNat)).1, a3, a0 == (i64.wrap ((l0.length : Int) - 1)))] : List R104) ∧ (a1.length ≤ 1099511627776 ∧ record_Of.L1 l0 lr0 ar1 kL1 a1 (i64.wrap (a0 + 1))))))) ∨ (¬ (a0 < (l0.length : Int)) ∧ lr0 = a2 ∧ ar1 = 0))
def record_Of.rel (l0 : List R42) (lr0 : List R104) (ar1 : Int) : Prop := (((l0.length : Int) = 0 ∧ lr0 = ([] : List R104) ∧ ar1 = 1) ∨ (¬ ((l0.length : Int) = 0) ∧ (∃ a0, slices_ContainsFunc_s_api_Image_api_Image_fn1_record_Of_1.rel l0 a0 ∧ ((a0 = true ∧ lr0 = ([] : List R104) ∧ ar1 = 1) ∨ (¬ (a0 = true) ∧ (∃ k_ : Nat, record_Of.L1 l0 lr0 ar1 k_ ([] : List R104) 0))))))
theorem record_Of.calls (T : Pool) (st0 : St w w1 ((T ++ R))) (hb0 : HS w (T ++ R) T pA nA nB (f42 w) tA) (H : record_Of.rel tA uA iA) :
  Calls prog 38 #[.slice pA nA nB] w1 fun e w' => ∃ T' Ar0 nr0 cr0 xr0, Pl T T' ∧ nr0 = uA.length ∧ HRs T' (f104 w) xr0 uA ∧ e = .returned (.tuple #[.slice Ar0 nr0 cr0, .int .i64 iA]) ∧ St w w' (.sl Ar0 cr0 nr0 xr0 104 3 :: (T' ++ R)) := by
 refine CW.en func38 rfl 39 [_] (CW.sub [(0, _)] ⟨rfl, trivial⟩ (cr (WL.as rfl (WL.as rfl (WL.nx (WL.as rfl (wn (CW.seq (cr (WL.mv rfl ?_))))))))))
 refine WL.v (Runs.len_sl underlying40 rfl (by rw [hb0.1])) ?_
 refine WL.v (Runs.eql rfl rfl rfl) (WL.mv rfl ?_)
 rcases H with ⟨c8, H⟩ | ⟨c8, H⟩
 ·have a8 : ((tA.length : Int) == 0) = true := (beq_iff_eq.mpr c8)
  iterate 3 (refine WL.off ?_ ?_; exact Wg 11 a8)
  refine WL.v (Runs.pick_t (evb rfl a8) rfl) (wn (CW.sub [(0, _), (2, _), (3, _), (15, _)] ⟨rfl, rfl, rfl, rfl, trivial⟩ (CW.ct rfl rfl (cr (WL.as rfl (WL.as rfl (wn (CW.ret (QW.then_r ?_)))))))))
  have c9 := st0.nil_sl 104 3
  have c9 : St w w1 (.sl none 0 0 ([] : Cs) 104 3 :: (T ++ R)) := c9
  obtain ⟨rfl, rfl⟩ := H
  exact QW.ret2 rfl rfl rfl ⟨T, none, 0, 0, ([] : Cs), Pl.refl, rfl, (HRs.nil : HRs T (f104 w) [] []), rfl, (St.pk (L := [_]) c9 [0])⟩
 have a8 : ((tA.length : Int) == 0) = false := (beq_eq_false_iff_ne.mpr c8)
 refine WL.on ?_ ?_; exact Wg 11 a8
 refine WL.mv rfl ?_
 refine WL.on ?_ ?_; exact Wg 11 a8
 refine WL.mv rfl ?_
 refine WL.on ?_ ?_; exact Wg 11 a8
 have g1 := St.hide (A := []) (B := []) st0
 obtain ⟨c5, g2, H⟩ := H
 refine wC ent59 rfl (slices_ContainsFunc_s_api_Image_api_Image_fn1_record_Of_1.calls T g1 (hb0.mono (memo_TR (B := []) ii) ii) g2) ?_
 rintro _ d0 ⟨a9, b7, rfl, g3⟩
 have e7 := St.unhide (A := []) (B := []) g3; dsimp only [ec, en] at e7
 refine ⟨_, rfl, WL.v (Runs.pick_f (evb rfl a8) rfl) (wn (CW.sub [(0, _), (2, _), (3, _), (15, _)] ⟨rfl, rfl, rfl, rfl, trivial⟩ ?_))⟩
 rcases H with ⟨d1, H⟩ | ⟨d1, H⟩
 ·have d2 : c5 = true := d1
  refine CW.ct rfl d2 (cr (WL.as rfl (WL.as rfl (wn (CW.ret (QW.then_r ?_))))))
  have d3 := e7.nil_sl 104 3
  have d3 : St w d0 (.sl none 0 0 ([] : Cs) 104 3 :: (a9 ++ R)) := d3
  obtain ⟨rfl, rfl⟩ := H
  exact QW.ret2 rfl rfl rfl ⟨a9, none, 0, 0, ([] : Cs), b7, rfl, (HRs.nil : HRs a9 (f104 w) [] []), rfl, (St.pk (L := [_]) d3 [0])⟩
 have d2 : c5 = false := (Bool.eq_false_iff.mpr d1)
 refine CW.cf rfl d2 (CW.skip (QW.then_n (cr (WL.as rfl (wn (CW.seq (cr (WL.mv rfl ?_))))))))
 refine WL.v (Runs.len_sl underlying40 rfl (by rw [hb0.1])) ?_
 refine WL.mv rfl (wn (CW.block ?_))
 have d4 := e7.nil_sl 104 3
 have d4 : St w d0 (.sl none 0 0 ([] : Cs) 104 3 :: (a9 ++ R)) := d4
 obtain ⟨g4, H⟩ := H
 refine CW.su [(0, _), (2, _), (3, _), (5, _), (16, _), (17, _), (18, _)] ?_
 refine CW.lp (fun kL1 l_ w_ => ∃ b0 a5 a6 a4 a7 b8 a0, l_ = [(0, .slice pA nA nB), (2, .slice none 0 0), (3, .int .i64 0), (5, .slice a5 a4 a6), (16, .slice pA nA nB), (17, .int .i64 (tA.length : Int)), (18, .int .i64 a0)] ∧ record_Of.L1 tA uA iA kL1 b8 a0 ∧ (Pl a9 b0) ∧ (a4 = b8.length) ∧ (HRs b0 (f104 w) a7 b8) ∧ St w w_ (.sl a5 a6 a4 a7 104 3 :: (b0 ++ R))) (k := g4) ⟨a9, none, 0, 0, ([] : Cs), ([] : List R104), 0, rfl, H, Pl.refl, rfl, (HRs.nil : HRs a9 (f104 w) [] []), d4⟩ ?_
 rintro kL1 i6 i7 ⟨b0, a5, a6, a4, a7, b8, a0, rfl, H, b9, e8, e9, c6⟩
 refine cr (WL.v (Runs.lss rfl rfl rfl) (wn (CW.seq ?_)))
 rcases H with ⟨d5, H⟩ | ⟨d5, H⟩
 ·have d6 := (decide_eq_true d5)
  refine CW.ct rfl d6 (CW.skip (QW.then_n (CW.seq (CW.block (cr (WL.mv rfl ?_))))))
  obtain ⟨⟨g5, g6⟩, H⟩ := H
  obtain ⟨i8, f0, g7⟩ := hb0.2.2
  obtain ⟨i9, f1, g8, g9, h0⟩ := el_get (i := (a0).toNat) ((f0.at c6 (mem_TR (A := [_]) (b7.trans b9).1))) (g7.mono (b7.trans b9).1) (fz42 w) (by decide) (by omega)
  obtain ⟨b1, b2, b3, d7, d8⟩ := inv42 h0
  replace d7 : g8 = (cu ((gx tA (a0.toNat)).1)) ++ (cl b1 b2 b3) := d7
  subst d7
  refine WL.v (Runs.indexAddr underlying40 cells42 (by decide) rfl f1 rfl g5 (by rw [show nA = tA.length from hb0.1]; exact g6) (o := (a0.toNat) * 2) (by first | rfl | omega)) ?_
  refine WL.v (Runs.load_srcR row42 rfl (Src.cut ((f0.at c6 (mem_TR (A := [_]) (b7.trans b9).1))) f1 g9) rfl) ?_
  refine WL.alloc c6 zero42 ?_
  intro b6 j0 h1
  refine WL.as rfl (WL.sw 0 h1 row42 rfl rfl rfl ?_)
  intro f2 c1
  try dsimp only [List.set] at c1
  refine WL.nx (WL.v (Runs.fieldAddr (off := 1) (p := 1) fld42_1 rfl rfl rfl) (WL.ld 0 nagg25 c1 rfl rfl (pa (.slice b1 b2 b3) (cu ((gx tA (a0.toNat)).1)) []) ?_))
  obtain ⟨b4, h2, H⟩ := H
  refine wC ent48 rfl (slices_Clone_s_byte_byte.calls ((d8.2.2.at c1 (mem_T (A := [_, _]) ii))) (d8.1) (d8.2.1) h2) ?_
  rintro _ h3 ⟨a1, a2, a3, h4, rfl, h5⟩
  have h6 := c1.call h5
  refine ⟨_, rfl, WL.v (Runs.fieldAddr (off := 1) (p := 1) fld42_1 rfl rfl rfl) ?_⟩
  refine WL.so (new := ((cu ((gx tA (a0.toNat)).1)) ++ (cl a1 a3 a2))) (i := 1) (u0 := .slice b1 b2 b3) (pre := ((cu ((gx tA (a0.toNat)).1)))) (post := (([] : Cs))) h6 rfl cells25 (by first | rfl | simp only [aa, an, na, ca]) rfl rfl rfl rfl rfl ?_
  intro f3 c2
  try dsimp only [List.set] at c2
  refine wn (CW.region (WL.mv rfl (WL.v (Runs.load_mid row42 rfl c2 (i := 1) rfl (pm [] ((cu ((gx tA (a0.toNat)).1)) ++ (cl a1 a3 a2)) []) rfl) (WL.mv rfl (WL.mv rfl ?_)))))
  refine WL.v (Runs.len_sl underlying40 rfl (by rw [hb0.1])) ?_
  refine WL.v (Runs.sub rfl rfl rfl) (WL.v (Runs.eql rfl rfl rfl) (WL.v (Runs.build_seg (ps := [(0, 2), (2, 1)]) (cs := ((cu ((gx tA (a0.toNat)).1)) ++ ((cl a1 a3 a2) ++ (cb (a0 == (i64.wrap ((tA.length : Int) - 1))))))) plc104 zero104 rfl (.cons (ms := ((cu ((gx tA (a0.toNat)).1)) ++ (cl a1 a3 a2))) rfl rfl rfl (.one rfl rfl)) rfl rfl) ?_))
  have hb_73c := c2.cap (i := 0) rfl
  obtain ⟨b5, f4, h7, d9⟩ := St.freeze (A := []) (B := [_, _]) (T := b0) (R := R) c2
  have h8 : HB w b5 a1 a3 a2 (iv .u8 b4) b4.length := ⟨h4, hb_73c, Hd.of_sl h7⟩
  try dsimp only [List.set, ec, en] at d9
  obtain ⟨j1, j2, h9, i0, i1, i2⟩ := slr104_1
  refine WL.buildSlSg (sz := 3) (cs := ((cu ((gx tA (a0.toNat)).1)) ++ ((cl a1 a3 a2) ++ (cb (a0 == (i64.wrap ((tA.length : Int) - 1))))))) d9 underlying100 h9 i0 i1 (by decide) (by decide) i2 rfl (.one rfl rfl) rfl rfl ?_
  intro e0 f5 e1
  try dsimp only [List.set, ec, en] at e1
  have c7 := St.rows_sl (i := 0) (m := 1) (size := 3) e1 rfl rfl (by decide)
  obtain ⟨c3, f6⟩ : ∃ x_ : Cs, x_ = (cu ((gx tA (a0.toNat)).1)) ++ ((cl a1 a3 a2) ++ (cb (a0 == (i64.wrap ((tA.length : Int) - 1))))) := ⟨_, rfl⟩
  have e2 : HRs b5 (f104 w) c3 ([((gx tA (a0.toNat)).1, b4, a0 == (i64.wrap ((tA.length : Int) - 1)))] : List R104) := by rw [f6]; exact (HRs.one (.cons rfl (.cons ⟨_, _, _, rfl, h8⟩ (.cons rfl .nil))))
  (try dsimp only [List.set, ec, en] at c7); rw [← f6] at c7
  obtain ⟨e3, f7, H⟩ := H
  obtain ⟨i3, H⟩ := H
  obtain ⟨e4, e5⟩ : ∃ n_ : Nat, n_ = e3.length := ⟨_, rfl⟩
  refine WL.appendR (i := 2) (N := e4) (news := c3) Wanted.none c7 rfl underlying100 elemS104 rfl rfl (c7.src_sl (k := 0) rfl) (by have h1_ := (e2).length (fz104 w); have h2_ : 1 = ([((gx tA (a0.toNat)).1, b4, a0 == (i64.wrap ((tA.length : Int) - 1)))] : List R104).length := rfl; rw [h1_, h2_]) (HLs.one e2) (by decide) (by have h1_ : a4 = b8.length := e8; have h2_ : 1 = ([((gx tA (a0.toNat)).1, b4, a0 == (i64.wrap ((tA.length : Int) - 1)))] : List R104).length := rfl; rw [e5, f7, List.length_append]; omega) (by rw [e5]; exact i3) ?_
  intro f8 f9 i4 c4
  obtain ⟨e6, g0⟩ : ∃ x_ : Cs, x_ = a7 ++ c3 := ⟨_, rfl⟩
  have i5 : HRs b5 (f104 w) e6 e3 := by rw [g0, f7]; exact HRs.append (e9.mono f4.1) e2
  (try dsimp only [List.set, ec, en] at c4); rw [← g0] at c4
  refine WL.as rfl (WL.nil (QW.blk_n (QW.then_n (CW.region (WL.v (Runs.add rfl rfl rfl) (WL.mv rfl (WL.nil ?_)))))))
  have c4' := (St.pk (L := [_, _, _]) c4 [2])
  exact QW.a ⟨b5, f8, f9, e4, e6, e3, i64.wrap (a0 + 1), rfl, H, (b9.trans f4), e5, i5, c4'⟩
 have d6 := (decide_eq_false d5)
 refine CW.cf rfl d6 (CW.exit (QW.then_x (QW.then_x (QW.blk_x (QW.then_n (cr (WL.mv rfl (WL.as rfl (WL.as rfl (wn (CW.ret ?_)))))))))))
 obtain ⟨rfl, rfl⟩ := H
 exact QW.ret2 rfl rfl rfl ⟨b0, a5, a4, a6, a7, (b7.trans b9), e8, e9, rfl, (St.pk (L := [_]) c6 [0])⟩
def journal_Journal_Room.rel (a2 : List R25) (a3 : List R124) (a4 : Int) (a5 : Bool) (a6 : List R48) (a7 : List Int) (a8 a0 a9 a1 : Int) (b0 : List Int) (b1 b2 : Int) (b3 : List R25) (b4 : List R124) (b5 : Int) (b6 : Bool) (b7 : List R48) (b8 : List Int) (b9 c0 c1 c2 : Int) (c3 : List Int) (c4 c5 ar0 : Int) : Prop := b3 = a2 ∧ b4 = a3 ∧ b5 = a4 ∧ b6 = a5 ∧ b7 = a6 ∧ b8 = a7 ∧ b9 = a8 ∧ c0 = a0 ∧ c1 = a9 ∧ c2 = a1 ∧ c3 = b0 ∧ c4 = b1 ∧ c5 = b2 ∧ ar0 = u64.wrap (a0 - a1)
theorem journal_Journal_Room.calls (T : Pool) (st0 : St w w1 (oJ nA nB lA iB iC iD iE lB iF iG 98 :: oD nB pA nC nD pB nE nF iA bA pC nG nH 95 :: .sl pA nD nC xA 25 1 :: .sl pB nF nE xB 124 2 :: .sl pC nH nG xC 48 2 :: (T ++ R))) (b5 : nC = qA.length) (b6 : HRs T (f25 w) xA qA) (b7 : nE = rA.length) (b8 : HRs T (f124 w) xB rA) (b9 : nG = sA.length) (c0 : HRs T (f48 w) xC sA) (a2 : lA.length = 32) (c1 : lB.length = 32) (H : journal_Journal_Room.rel qA rA iA bA sA lA iB iC iD iE lB iF iG qB rB iH bB sB lC iI iJ iK iL lD iM iN iO) :
  Calls prog 16 #[.pointer (sp nA)] w1 fun e w' => ∃ T' a6 a3 a7 a8 a9 a4 b0 b1 b2 a5 b3 b4, Pl T T' ∧ a3 = qB.length ∧ HRs T' (f25 w) a8 qB ∧ a4 = rB.length ∧ HRs T' (f124 w) b1 rB ∧ a5 = sB.length ∧ HRs T' (f48 w) b4 sB ∧ lC.length = 32 ∧ lD.length = 32 ∧ e = .returned (.int .u64 iO) ∧ St w w' (oJ nA nB lC iI iJ iK iL lD iM iN 98 :: oD nB a6 a3 a7 a9 a4 b0 iH bB b2 a5 b3 95 :: .sl a6 a7 a3 a8 25 1 :: .sl a9 b0 a4 b1 124 2 :: .sl b2 b3 a5 b4 48 2 :: (T' ++ R)) := by
 refine CW.en func16 rfl 15 [_] (CW.sub [(0, _)] ⟨rfl, trivial⟩ (cr (WL.as rfl (wn (CW.seq (cr (WL.mv rfl (WL.v (Runs.eql_ptr underlying34 rfl rfl rfl) (wn (CW.cf rfl rfl (CW.skip (QW.then_n (CW.seq ?_)))))))))))))
 refine CW.region_qa wide (by kernel_rfl) st0 ?_
 refine HL.mv rfl (HL.p (Runs.nilCheck rfl) (HL.p (Runs.fieldAddr (off := 34) (p := 34) fld98_3 rfl rfl rfl) ?_))
 refine HL.ld 0 nagg37 rfl rfl (pa (.int .u64 iC) ((cp nB) ++ (iv .u8 lA ++ (ci iB))) ((cu iD) ++ ((cu iE) ++ (iv .u8 lB ++ ((cu iF) ++ (cu iG))))) (ho := by simp [lv, a2])) ?_
 refine HL.mv rfl (HL.p (Runs.nilCheck rfl) (HL.p (Runs.fieldAddr (off := 35) (p := 35) fld98_4 rfl rfl rfl) (HL.p (Runs.fieldAddr (off := 1) (p := 36) fld39_1 rfl rfl rfl) ?_)))
 refine HL.ld 0 nagg37 rfl rfl (pa (.int .u64 iE) ((cp nB) ++ (iv .u8 lA ++ ((ci iB) ++ ((cu iC) ++ (cu iD))))) (iv .u8 lB ++ ((cu iF) ++ (cu iG))) (ho := by simp [lv, a2])) ?_
 refine HL.p (Runs.sub rfl rfl rfl) (HL.as rfl ?_)
 refine HL.nil (fun a1 a0 => ?_)
 refine wn (CW.ret ?_)
 obtain ⟨rfl, rfl, rfl, rfl, rfl, rfl, rfl, rfl, rfl, rfl, rfl, rfl, rfl, rfl⟩ := H
 exact QW.ret1 rfl rfl ⟨T, pA, nC, nD, xA, pB, nE, nF, xB, pC, nG, nH, xC, Pl.refl, b5, b6, b7, b8, b9, c0, a2, c1, rfl, (St.pk (L := [_, _, _, _, _]) a0 [0, 1, 2, 3, 4])⟩
def word_Pad.rel (l0 : List Int) (a1 : Int) (r0 : List Int) : Prop := ((a1 < 1 ∧ r0 = []) ∨ (¬ (a1 < 1) ∧ ((0 ≤ a1 ∧ a1 ≤ 1099511627776) ∧ (∃ a0 : List Int, a0 = cpy (List.replicate (a1).toNat (0 : Int)) (0) ((List.replicate (a1).toNat (0 : Int)).length) l0 ∧ r0 = a0))))
theorem word_Pad.calls (hs0 : Src w pA (iv .u8 lA)) (hn0 : nA = lA.length) (hc0 : nA ≤ nB) (H : word_Pad.rel lA iA lB) :
  Calls prog 60 #[.slice pA nA nB, .int .i64 iA] w fun e w' => ∃ B0 q0 z0, z0 = lB.length ∧ e = .returned (.slice B0 z0 q0) ∧ St w w' [.sl B0 q0 z0 (iv .u8 lB) 5 1] := by
 refine CW.en func60 rfl 14 [_, _] (CW.sub [(0, _), (1, _)] ⟨rfl, rfl, trivial⟩ ?_)
 have st0 := St.refl w
 refine cr (WL.as rfl (wn (CW.seq (cr (WL.mv rfl (WL.v (Runs.lss rfl rfl rfl) (wn ?_)))))))
 rcases H with ⟨a5, H⟩ | ⟨a5, H⟩
 ·have a6 := (decide_eq_true a5)
  refine CW.ct rfl a6 (cr (WL.as rfl (wn (CW.ret (QW.then_r ?_)))))
  have a7 := st0.nil_sl 5 1
  have a7 : St w w [.sl none 0 0 (iv .u8 ([] : List Int)) 5 1] := a7
  obtain rfl := H
  exact QW.ret1 rfl rfl ⟨none, 0, 0, rfl, rfl, a7.pick [0] (by decide)⟩
 have a6 := (decide_eq_false a5)
 refine CW.cf rfl a6 (CW.skip (QW.then_n (cr (WL.mv rfl ?_))))
 obtain ⟨⟨b2, b3⟩, H⟩ := H
 obtain ⟨a0, a8⟩ : ∃ n_ : Nat, n_ = (iA).toNat := ⟨_, rfl⟩
 refine WL.make st0 underlying25 elem5 rfl rfl b2 b3 (by decide) (N := a0) a8 ?_
 intro a4 b4 a2
 replace a2 : St w b4 [.sl (sp a4) a0 a0 (iv .u8 (List.replicate (iA).toNat (0 : Int))) 5 1] := by rw [← a8]; rw [iv_replicate] at a2; exact a2
 have a3 : a0 = (List.replicate (iA).toNat (0 : Int)).length := by rw [List.length_replicate]; exact a8
 refine WL.as rfl (WL.nx (WL.mv rfl (WL.mv rfl ?_)))
 obtain ⟨a9, b1, H⟩ := H
 have hfit_ : 0 + a0 ≤ a0 := by have := a3; omega
 refine WL.copy_sl (i := 0) (o := 0) a2 rfl underlying25 cells5 rfl rfl (fun _ => map_add_zero) hfit_ (hs0.ext a2) (hn0.trans (iv_length .u8 _).symm) (one_iv .u8 _) ?_
 intro b5 b0
 have b6 : a9.length = (List.replicate (iA).toNat (0 : Int)).length := by rw [b1]; exact cpy_length (by have := (show a0 = (List.replicate (iA).toNat (0 : Int)).length from a3); have := a3; omega)
 have b7 : a0 = a9.length := by rw [b6]; exact a3
 have b0' : St w b5 [.sl (sp a4) a0 a0 (iv .u8 a9) 5 1] := by rw [b1, ← (show a0 = (List.replicate (iA).toNat (0 : Int)).length from a3), ← cpy_iv .u8]; exact b0
 have b8 := iv_length .u8 lA
 refine wn (CW.sub [(4, _), (5, _)] ⟨rfl, rfl, trivial⟩ (cr (WL.mv rfl (WL.as rfl (wn (CW.ret ?_))))))
 obtain rfl := H
 exact QW.ret1 rfl rfl ⟨(sp a4), a0, a0, b7, rfl, b0'.pick [0] (by decide)⟩
def word_size.rel (a0 : Int) (r0 : Bool) : Prop := ((a0 ≥ 1 ∧ r0 = (decide (a0 ≤ 8))) ∨ (¬ (a0 ≥ 1) ∧ r0 = false))
theorem word_size.calls (H : word_size.rel iA bA) :
  Calls prog 56 #[.int .i64 iA] w fun e w' => e = .returned (.bool bA) ∧ St w w' [] := by
 refine CW.en func56 rfl 9 [_] (CW.sub [(0, _)] ⟨rfl, trivial⟩ ?_)
 have st0 := St.refl w
 refine cr (WL.as rfl (WL.nx (WL.mv rfl (WL.v (Runs.geq rfl rfl rfl) (WL.mv rfl ?_)))))
 rcases H with ⟨a2, H⟩ | ⟨a2, H⟩
 ·have a1 := (decide_eq_true a2)
  refine WL.on ?_ ?_; exact Wg 5 a1
  refine WL.mv rfl ?_
  refine WL.on ?_ ?_; exact Wg 5 a1
  refine WL.v (Runs.leq rfl rfl rfl) (WL.v (Runs.pick_t (evb rfl a1) rfl) (WL.as rfl (wn (CW.ret ?_))))
  obtain rfl := H
  exact QW.ret1 rfl rfl ⟨rfl, st0.pick [] (by decide)⟩
 have a1 := (decide_eq_false a2)
 iterate 2 (refine WL.off ?_ ?_; exact Wg 5 a1)
 refine WL.v (Runs.pick_f (evb rfl a1) rfl) (WL.as rfl (wn (CW.ret ?_)))
 obtain rfl := H
 exact QW.ret1 rfl rfl ⟨rfl, st0.pick [] (by decide)⟩
def word_Put.L1 (a0 a1 : Int) (r0 : List Int) : Nat → (List Int) → Int → Prop
 | 0, _, _ => False
 | kL1 + 1, a3, a2 => ((a2 < a1 ∧ (0 ≤ (u64.wrap (i64.wrap (8 * a2))) ∧ (∃ a4 : Int, a4 = shrI .u64 a0 (u64.wrap (i64.wrap (8 * a2))) ∧ ((0 ≤ a2 ∧ a2 < (a3.length : Int)) ∧ (∃ a5 : List Int, a5 = List.set a3 (a2.toNat) (IntKind.u8.wrap a4) ∧ word_Put.L1 a0 a1 r0 kL1 a5 (i64.wrap (a2 + 1))))))) ∨ (¬ (a2 < a1) ∧ r0 = a3))
def word_Put.rel (a0 a1 : Int) (r0 : List Int) : Prop := (∃ a2, word_size.rel a1 a2 ∧ ((¬ (a2 = true) ∧ r0 = []) ∨ (¬ (¬ (a2 = true)) ∧ ((0 ≤ a1 ∧ a1 ≤ 1099511627776) ∧ (∃ k_ : Nat, word_Put.L1 a0 a1 r0 k_ (List.replicate (a1).toNat (0 : Int)) 0)))))
theorem word_Put.calls (H : word_Put.rel iA iB lA) :
  Calls prog 32 #[.int .u64 iA, .int .i64 iB] w fun e w' => ∃ B0 q0 z0, z0 = lA.length ∧ e = .returned (.slice B0 z0 q0) ∧ St w w' [.sl B0 q0 z0 (iv .u8 lA) 5 1] := by
 refine CW.en func32 rfl 27 [_, _] (CW.sub [(0, _), (1, _)] ⟨rfl, rfl, trivial⟩ ?_)
 have st0 := St.refl w
 refine cr (WL.as rfl (wn (CW.seq (cr (WL.mv rfl ?_)))))
 obtain ⟨a7, c2, H⟩ := H
 refine wC ent56 rfl (word_size.calls c2) ?_
 rintro _ b8 ⟨rfl, c3⟩
 have b9 := st0.call c3
 refine ⟨_, rfl, WL.v (Runs.not rfl rfl) (wn ?_)⟩
 rcases H with ⟨a8, H⟩ | ⟨a8, H⟩
 ·have a9 : (!a7) = true := (not_t (Bool.eq_false_iff.mpr a8))
  refine CW.ct rfl a9 (cr (WL.as rfl (wn (CW.ret (QW.then_r ?_)))))
  have b0 := b9.nil_sl 5 1
  have b0 : St w b8 [.sl none 0 0 (iv .u8 ([] : List Int)) 5 1] := b0
  obtain rfl := H
  exact QW.ret1 rfl rfl ⟨none, 0, 0, rfl, rfl, b0.pick [0] (by decide)⟩
 have a9 : (!a7) = false := (not_f (Decidable.not_not.mp a8))
 refine CW.cf rfl a9 (CW.skip (QW.then_n (cr (WL.mv rfl ?_))))
 obtain ⟨⟨c4, c5⟩, H⟩ := H
 obtain ⟨a2, b1⟩ : ∃ n_ : Nat, n_ = (iB).toNat := ⟨_, rfl⟩
 refine WL.make b9 underlying25 elem5 rfl rfl c4 c5 (by decide) (N := a2) b1 ?_
 intro a4 c6 a6
 replace a6 : St w c6 [.sl (sp a4) a2 a2 (iv .u8 (List.replicate (iB).toNat (0 : Int))) 5 1] := by rw [← b1]; rw [iv_replicate] at a6; exact a6
 have c7 : a2 = (List.replicate (iB).toNat (0 : Int)).length := by rw [List.length_replicate]; exact b1
 refine WL.as rfl (wn (CW.seq (cr (WL.mv rfl (WL.mv rfl (wn ?_))))))
 refine CW.su [(0, _), (4, _), (5, _), (12, _), (13, _)] ?_
 refine CW.block ?_
 obtain ⟨c8, H⟩ := H
 refine CW.su [(0, _), (4, _), (5, _), (12, _), (13, _)] ?_
 refine CW.lp (fun kL1 l_ w_ => ∃ a5 a3, l_ = [(0, .int .u64 iA), (4, .slice none 0 0), (5, .slice (sp a4) a2 a2), (12, .int .i64 iB), (13, .int .i64 a3)] ∧ word_Put.L1 iA iB lA kL1 a5 a3 ∧ (a2 = a5.length) ∧ St w w_ [.sl (sp a4) a2 a2 (iv .u8 a5) 5 1]) (k := c8) ⟨List.replicate (iB).toNat (0 : Int), 0, rfl, H, c7, a6⟩ ?_
 rintro kL1 d6 d7 ⟨a5, a3, rfl, H, b2, b3⟩
 refine cr (WL.v (Runs.lss rfl rfl rfl) (wn (CW.seq ?_)))
 rcases H with ⟨b4, H⟩ | ⟨b4, H⟩
 ·have b5 := (decide_eq_true b4)
  refine CW.ct rfl b5 (CW.skip (QW.then_n (CW.seq (CW.block (cr (WL.mv rfl (WL.as rfl (wn (CW.region (WL.mv rfl (WL.mv rfl (WL.mv rfl (WL.mv rfl (WL.v (Runs.mul rfl rfl rfl) (WL.v (Runs.conv underlying133 ⟨_, underlying3⟩ rfl rfl) ?_)))))))))))))))
  obtain ⟨c9, H⟩ := H
  obtain ⟨d0, d1, H⟩ := H
  refine WL.v (Runs.shr rfl rfl c9 d1) (WL.v (Runs.conv underlying5 ⟨_, underlying37⟩ rfl rfl) ?_)
  obtain ⟨⟨d2, d3⟩, H⟩ := H
  obtain ⟨d8, c0⟩ := (b3.src_sl (k := 0) rfl).addr_iv (a3.toNat) (by omega)
  refine WL.v (Runs.indexAddr underlying25 cells5 (by decide) rfl c0 rfl d2 (by rw [b2]; exact d3) (o := (a3).toNat) (by first | rfl | omega)) ?_
  obtain ⟨b6, c1, H⟩ := H
  refine WL.store_sl (i := 0) b3 rfl cells5 rfl c0 (by rw [iv_length]; omega) rfl rfl ?_
  intro d4 b7
  have d5 : a2 = b6.length := by rw [c1, List.length_set]; exact b2
  have b7' := b7; (try dsimp only [List.set, ec, en] at b7'); rw [iv_set .u8 a5 (a3.toNat) (IntKind.u8.wrap d0), ← c1] at b7'
  refine WL.nil (QW.blk_n (QW.then_n (CW.region (WL.v (Runs.add rfl rfl rfl) (WL.mv rfl (WL.nil ?_))))))
  exact QW.a ⟨b6, i64.wrap (a3 + 1), rfl, H, d5, b7'⟩
 have b5 := (decide_eq_false b4)
 refine CW.cf rfl b5 (CW.exit (QW.then_x (QW.then_x (QW.blk_x (QW.then_n (cr (WL.mv rfl (WL.as rfl (wn (CW.ret ?_))))))))))
 obtain rfl := H
 exact QW.ret1 rfl rfl ⟨(sp a4), a2, a2, b2, rfl, b3.pick [0] (by decide)⟩
def slices_Grow_s_byte_byte_nil0.rel (a1 : Int) (r0 : List Int) : Prop := (¬ (a1 < 0) ∧ (((i64.wrap (a1 - (i64.wrap (0 - 0)))) > 0 ∧ ((0 < (i64.wrap (a1 - (i64.wrap (0 - 0)))) ∧ (i64.wrap (a1 - (i64.wrap (0 - 0)))) ≤ 1099511627776) ∧ (0 ≤ (List.replicate (i64.wrap (a1 - (i64.wrap (0 - 0)))).toNat (0 : Int)).length ∧ r0 = (List.take 0 (List.replicate (i64.wrap (a1 - (i64.wrap (0 - 0)))).toNat (0 : Int)))))) ∨ (¬ ((i64.wrap (a1 - (i64.wrap (0 - 0)))) > 0) ∧ r0 = [])))
theorem slices_Grow_s_byte_byte_nil0.calls (H : slices_Grow_s_byte_byte_nil0.rel iA lA) :
  Calls prog 74 #[.slice none 0 0, .int .i64 iA] w fun e w' => ∃ B0 q0 z0, z0 = lA.length ∧ e = .returned (.slice B0 z0 q0) ∧ St w w' [.sl B0 q0 z0 (iv .u8 lA) 5 1] := by
 refine CW.en func74 rfl 27 [_, _] (CW.sub [(0, _), (1, _)] ⟨rfl, rfl, trivial⟩ ?_)
 have st0 := St.refl w
 refine cr (WL.as rfl (wn (CW.seq (cr (WL.mv rfl (WL.v (Runs.lss rfl rfl rfl) (wn ?_)))))))
 obtain ⟨b2, H⟩ := H
 have b3 := (decide_eq_false b2)
 refine CW.cf rfl b3 (CW.skip (QW.then_n (CW.seq (cr (WL.mv rfl (WL.mv rfl (WL.v (Runs.cap_sl underlying25 rfl rfl) (WL.mv rfl (WL.v (Runs.len_sl underlying25 rfl rfl) (WL.v (Runs.sub rfl rfl rfl) (WL.v (Runs.sub rfl rfl rfl) (WL.as rfl (wn ?_)))))))))))))
 refine CW.sub [(0, _), (1, _), (4, _)] ⟨rfl, rfl, rfl, trivial⟩ (cr (WL.mv rfl (WL.v (Runs.gtr rfl rfl rfl) (wn ?_))))
 rcases H with ⟨a5, H⟩ | ⟨a5, H⟩
 ·have a6 := (decide_eq_true a5)
  refine CW.ct rfl a6 (CW.region (WL.mv rfl (WL.mv rfl (WL.v (Runs.cap_sl underlying25 rfl rfl) ?_))))
  refine WL.v (Runs.slice_h (A := none) (c := 0) (m := 0) (B := none) (N := 0) underlying25 cells5 rfl rfl (by decide) (by decide) rfl rfl) ?_
  refine WL.mv rfl ?_
  obtain ⟨⟨b4, b5⟩, H⟩ := H
  obtain ⟨a3, a7⟩ : ∃ n_ : Nat, n_ = (i64.wrap (iA - (i64.wrap (0 - 0)))).toNat := ⟨_, rfl⟩
  refine WL.append_make (N := a3) st0 underlying25 underlying3 elem5 rfl rfl b4 b5 (by decide) a7 ?_
  intro a4 a0 b0 a2
  replace a2 : St w b0 [.sl (sp a4) a0 a3 (iv .u8 (List.replicate (i64.wrap (iA - (i64.wrap (0 - 0)))).toNat (0 : Int))) 5 1] := by rw [← a7]; rw [iv_replicate] at a2; exact a2
  have b6 : a3 = (List.replicate (i64.wrap (iA - (i64.wrap (0 - 0)))).toNat (0 : Int)).length := by rw [List.length_replicate]; exact a7
  refine WL.mv rfl (WL.v (Runs.len_sl underlying25 rfl rfl) ?_)
  obtain ⟨b1, H⟩ := H
  rw [← b6] at b1
  have h_17c : a3 ≤ a0 := a2.cap (i := 0) rfl
  have a8 := a2.trunc (i := 0) rfl 0 b1
  have b7 : 0 = (List.take 0 (List.replicate (i64.wrap (iA - (i64.wrap (0 - 0)))).toNat (0 : Int))).length := by rw [List.length_take]; omega
  have a8' := a8; (try dsimp only [List.set, ec, en] at a8'); rw [iv_take] at a8'
  refine WL.v (Runs.slice_hp underlying25 cells5 rfl rfl (by decide) (by omega) rfl) ?_
  refine WL.as rfl (wn (CW.sub [(0, _), (4, _)] ⟨rfl, rfl, trivial⟩ (cr (WL.mv rfl (WL.as rfl (wn (CW.ret ?_)))))))
  obtain rfl := H
  exact QW.ret1 rfl rfl ⟨(sp a4), a0, 0, b7, rfl, a8'.pick [0] (by decide)⟩
 have a6 := (decide_eq_false a5)
 refine CW.cf rfl a6 (CW.skip (QW.then_n (cr (WL.mv rfl (WL.as rfl (wn (CW.ret ?_)))))))
 have a9 := st0.nil_sl 5 1
 have a9 : St w w [.sl none 0 0 (iv .u8 ([] : List Int)) 5 1] := a9
 obtain rfl := H
 exact QW.ret1 rfl rfl ⟨none, 0, 0, rfl, rfl, a9.pick [0] (by decide)⟩
def slices_Concat_s_byte_byte.L2 (l0 : List R25) (lr0 : List Int) : Nat → (List Int) → Int → Prop
 | 0, _, _ => False
 | kL2 + 1, a2, a0 => ((a0 < (l0.length : Int) ∧ ((0 ≤ a0 ∧ a0 < (l0.length : Int)) ∧ (∃ a1 : List Int, a1 = a2 ++ (gx l0 (a0.toNat)) ∧ (a1.length ≤ 1099511627776 ∧ slices_Concat_s_byte_byte.L2 l0 lr0 kL2 a1 (i64.wrap (a0 + 1)))))) ∨ (¬ (a0 < (l0.length : Int)) ∧ lr0 = a2))
def slices_Concat_s_byte_byte.L1 (l0 : List R25) (lr0 : List Int) : Nat → Int → Int → Prop
 | 0, _, _ => False
 | kL1 + 1, a2, a0 => ((a0 < (l0.length : Int) ∧ ((0 ≤ a0 ∧ a0 < (l0.length : Int)) ∧ (∃ a1 : Int, a1 = i64.wrap (a2 + ((gx l0 (a0.toNat)).length : Int)) ∧ (¬ (a1 < 0) ∧ slices_Concat_s_byte_byte.L1 l0 lr0 kL1 a1 (i64.wrap (a0 + 1)))))) ∨ (¬ (a0 < (l0.length : Int)) ∧ (∃ a3, slices_Grow_s_byte_byte_nil0.rel a2 a3 ∧ (∃ k_ : Nat, slices_Concat_s_byte_byte.L2 l0 lr0 k_ a3 0))))
def slices_Concat_s_byte_byte.rel (l0 : List R25) (lr0 : List Int) : Prop := (∃ k_ : Nat, slices_Concat_s_byte_byte.L1 l0 lr0 k_ 0 0)
theorem slices_Concat_s_byte_byte.calls (T : Pool) (st0 : St w w1 ((T ++ R))) (hb0 : HS w (T ++ R) T pA nA nB (f25 w) qA) (H : slices_Concat_s_byte_byte.rel qA lA) :
  Calls prog 55 #[.slice pA nA nB] w1 fun e w' => ∃ T' Ar0 nr0 cr0, Pl T T' ∧ nr0 = lA.length ∧ e = .returned (.slice Ar0 nr0 cr0) ∧ St w w' (.sl Ar0 cr0 nr0 (iv .u8 lA) 5 1 :: (T' ++ R)) := by
 refine CW.en func55 rfl 36 [_] (CW.sub [(0, _)] ⟨rfl, trivial⟩ (cr (WL.as rfl (WL.nx (WL.as rfl (wn (CW.seq (cr (WL.mv rfl ?_)))))))))
 refine WL.v (Runs.len_sl underlying76 rfl (by rw [hb0.1])) ?_
 refine WL.mv rfl (wn (CW.block ?_))
 obtain ⟨d8, H⟩ := H
 refine CW.su [(0, _), (2, _), (3, _), (9, _), (10, _), (11, _)] ?_
 refine CW.lp (fun kL1 l_ w_ => ∃ a3 b1 a1, l_ = [(0, .slice pA nA nB), (2, .slice none 0 0), (3, .int .i64 b1), (9, .slice pA nA nB), (10, .int .i64 (qA.length : Int)), (11, .int .i64 a1)] ∧ slices_Concat_s_byte_byte.L1 qA lA kL1 b1 a1 ∧ (Pl T a3) ∧ St w w_ ((a3 ++ R))) (k := d8) ⟨T, 0, 0, rfl, H, Pl.refl, st0⟩ ?_
 rintro kL1 h0 d9 ⟨a3, b1, a1, rfl, H, a2, b2⟩
 refine cr (WL.v (Runs.lss rfl rfl rfl) (wn (CW.seq ?_)))
 rcases H with ⟨b6, H⟩ | ⟨b6, H⟩
 ·have b7 := (decide_eq_true b6)
  refine CW.ct rfl b7 (CW.skip (QW.then_n (CW.seq (CW.block (cr ?_)))))
  obtain ⟨⟨e0, e1⟩, H⟩ := H
  obtain ⟨h1, c9, e2⟩ := hb0.2.2
  obtain ⟨h2, d0, e3, e4, e5⟩ := el_get (i := (a1).toNat) ((c9.at b2 (mem_TR (A := []) a2.1))) (e2.mono a2.1) (fz25 w) (by decide) (by omega)
  obtain ⟨e6, e7, e8, b8, e9⟩ := inv25 e5
  replace b8 : e3 = (cl e6 e7 e8) := b8
  subst b8
  refine WL.v (Runs.indexAddr underlying76 cells25 (by decide) rfl d0 rfl e0 (by rw [show nA = qA.length from hb0.1]; exact e1) (o := (a1.toNat) * 1) (by first | rfl | omega)) ?_
  refine WL.v (Runs.load nagg25 rfl (Src.cellAt (j := 0) (Src.cut ((c9.at b2 (mem_TR (A := []) a2.1))) d0 e4) rfl)) ?_
  refine WL.as rfl (WL.nx (WL.mv rfl (WL.mv rfl ?_)))
  refine WL.v (Runs.len_sl underlying25 rfl (by rw [e9.1])) ?_
  obtain ⟨d1, f0, H⟩ := H
  refine WL.v (Runs.add rfl rfl f0) (WL.as rfl (WL.nx (WL.mv rfl (WL.v (Runs.lss rfl rfl rfl) (wn ?_)))))
  obtain ⟨f1, H⟩ := H
  have f2 := (decide_eq_false f1)
  refine CW.cf rfl f2 (CW.skip (QW.blk_n (QW.then_n (CW.region (WL.v (Runs.add rfl rfl rfl) (WL.mv rfl (WL.nil ?_)))))))
  exact QW.a ⟨a3, d1, i64.wrap (a1 + 1), rfl, H, a2, b2⟩
 have b7 := (decide_eq_false b6)
 refine CW.cf rfl b7 (CW.exit (QW.then_x (QW.then_x (QW.blk_x (QW.then_n (cr (WL.mv rfl ?_)))))))
 obtain ⟨b9, f3, H⟩ := H
 refine wC ent74 rfl (slices_Grow_s_byte_byte_nil0.calls f3) ?_
 rintro _ f4 ⟨b3, b4, b5, f5, rfl, f6⟩
 have f7 := b2.call f6
 refine ⟨_, rfl, WL.as rfl (wn (CW.sub [(0, _), (2, _), (6, _)] ⟨rfl, rfl, rfl, trivial⟩ (CW.seq (cr (WL.mv rfl ?_)))))⟩
 refine WL.v (Runs.len_sl underlying76 rfl (by rw [hb0.1])) ?_
 refine WL.mv rfl (wn (CW.block ?_))
 obtain ⟨f8, H⟩ := H
 refine CW.su [(2, _), (6, _), (25, _), (26, _), (27, _)] ?_
 refine CW.lp (fun kL2 l_ w_ => ∃ a4 a6 a7 a5 a8 a0, l_ = [(2, .slice none 0 0), (6, .slice a6 a5 a7), (25, .slice pA nA nB), (26, .int .i64 (qA.length : Int)), (27, .int .i64 a0)] ∧ slices_Concat_s_byte_byte.L2 qA lA kL2 a8 a0 ∧ (Pl a3 a4) ∧ (a5 = a8.length) ∧ St w w_ (.sl a6 a7 a5 (iv .u8 a8) 5 1 :: (a4 ++ R))) (k := f8) ⟨a3, b3, b4, b5, b9, 0, rfl, H, Pl.refl, f5, f7⟩ ?_
 rintro kL2 h3 h4 ⟨a4, a6, a7, a5, a8, a0, rfl, H, a9, d2, b0⟩
 refine cr (WL.v (Runs.lss rfl rfl rfl) (wn (CW.seq ?_)))
 rcases H with ⟨c1, H⟩ | ⟨c1, H⟩
 ·have c2 := (decide_eq_true c1)
  refine CW.ct rfl c2 (CW.skip (QW.then_n (CW.seq (CW.block (cr ?_)))))
  obtain ⟨⟨f9, g0⟩, H⟩ := H
  obtain ⟨h5, d3, g1⟩ := hb0.2.2
  obtain ⟨h6, d4, g2, g3, g4⟩ := el_get (i := (a0).toNat) ((d3.at b0 (mem_TR (A := [_]) (a2.trans a9).1))) (g1.mono (a2.trans a9).1) (fz25 w) (by decide) (by omega)
  obtain ⟨g5, g6, g7, c3, c4⟩ := inv25 g4
  replace c3 : g2 = (cl g5 g6 g7) := c3
  subst c3
  refine WL.v (Runs.indexAddr underlying76 cells25 (by decide) rfl d4 rfl f9 (by rw [show nA = qA.length from hb0.1]; exact g0) (o := (a0.toNat) * 1) (by first | rfl | omega)) ?_
  refine WL.v (Runs.load nagg25 rfl (Src.cellAt (j := 0) (Src.cut ((d3.at b0 (mem_TR (A := [_]) (a2.trans a9).1))) d4 g3) rfl)) ?_
  refine WL.as rfl (wn (CW.region (WL.mv rfl (WL.mv rfl ?_))))
  obtain ⟨c5, d5, H⟩ := H
  obtain ⟨g8, H⟩ := H
  obtain ⟨c6, c7⟩ : ∃ n_ : Nat, n_ = c5.length := ⟨_, rfl⟩
  refine WL.append (i := 0) Wanted.none b0 rfl underlying25 elem5 rfl rfl ((c4.2.2.at b0 (mem_T (A := [_]) ii))) (by rw [iv_length]; exact (c4.1).symm) (one_iv .u8 _) (by decide) (N := c6) (by rw [c7, d5, List.length_append]; exact congr (congrArg HAdd.hAdd (d2)) (c4.1)) (by rw [c7]; exact g8) ?_
  intro d6 d7 g9 c8
  have c8' := c8; (try dsimp only [List.set, ec, en] at c8'); rw [iv_append .u8 a8 (gx qA (a0.toNat)), ← d5] at c8'
  refine WL.as rfl (WL.nil (QW.blk_n (QW.then_n (CW.region (WL.v (Runs.add rfl rfl rfl) (WL.mv rfl (WL.nil ?_)))))))
  exact QW.a ⟨a4, d6, d7, c6, c5, i64.wrap (a0 + 1), rfl, H, a9, c7, c8'⟩
 have c2 := (decide_eq_false c1)
 refine CW.cf rfl c2 (CW.exit (QW.then_x (QW.then_x (QW.blk_x (QW.then_n (cr (WL.mv rfl (WL.as rfl (wn (CW.ret ?_))))))))))
 obtain rfl := H
 exact QW.ret1 rfl rfl ⟨a4, a6, a5, a7, (a2.trans a9), d2, rfl, (St.pk (L := [_]) b0 [0])⟩
def record_Put.rel (a8 : Int) (a7 : List Int) (a9 : Bool) (lr0 : List Int) (ar1 : Int) : Prop := (((a7.length : Int) ≠ 160 ∧ lr0 = ([] : List Int) ∧ ar1 = 1) ∨ (¬ ((a7.length : Int) ≠ 160) ∧ ((a9 = true ∧ ((0 ≤ (1 : Int) ∧ (1 : Int) < ([1, 0].length : Int)) ∧ (∃ a0 : List Int, a0 = List.set [1, 0] 1 1 ∧ (∃ a1, word_Pad.rel a0 8 a1 ∧ (∃ a2, word_Put.rel a8 8 a2 ∧ (∃ a3, slices_Concat_s_byte_byte.rel ([a1, a2, a7] : List R25) a3 ∧ lr0 = a3 ∧ ar1 = 0)))))) ∨ (¬ (a9 = true) ∧ (∃ a4, word_Pad.rel [1, 0] 8 a4 ∧ (∃ a5, word_Put.rel a8 8 a5 ∧ (∃ a6, slices_Concat_s_byte_byte.rel ([a4, a5, a7] : List R25) a6 ∧ lr0 = a6 ∧ ar1 = 0)))))))
theorem record_Put.calls (T : Pool) (st0 : St w w1 ((T ++ R))) (l6 : HB w T pA nA nB (iv .u8 lA) lA.length) (H : record_Put.rel iA lA bA lB iB) :
  Calls prog 40 #[.agg ((cu iA) ++ ((cl pA nA nB) ++ (cb bA))).toArray] w1 fun e w' => ∃ T' Ar0 nr0 cr0, Pl T T' ∧ nr0 = lB.length ∧ e = .returned (.tuple #[.slice Ar0 nr0 cr0, .int .i64 iB]) ∧ St w w' (.sl Ar0 cr0 nr0 (iv .u8 lB) 5 1 :: (T' ++ R)) := by
 refine CW.en func40 rfl 26 [_] (CW.sub [(0, _)] ⟨rfl, trivial⟩ (cr (WL.box st0 rfl rfl ?_)))
 intro a0 h1 d4
 refine WL.as rfl (WL.as rfl (wn (CW.seq (cr (WL.v (Runs.fieldAddr (off := 0) (p := 0) fld104_0 rfl rfl rfl) (WL.v (Runs.fieldAddr (off := 1) (p := 1) fld42_1 rfl rfl rfl) (WL.ld 0 nagg25 d4 rfl rfl (pa (.slice pA nA nB) (cu iA) (cb bA)) ?_)))))))
 refine WL.v (Runs.len_sl underlying25 rfl (by rw [l6.1])) ?_
 refine WL.v (Runs.neq rfl rfl rfl) (wn ?_)
 rcases H with ⟨d5, H⟩ | ⟨d5, H⟩
 ·have d6 : ((lA.length : Int) != 160) = true := (bne_iff_ne.mpr d5)
  refine CW.ct rfl d6 (cr (WL.as rfl (WL.as rfl (wn (CW.ret (QW.then_r ?_))))))
  have d7 := d4.nil_sl 5 1
  have d7 : St w h1 (.sl none 0 0 (iv .u8 ([] : List Int)) 5 1 :: .cells a0 ((cu iA) ++ ((cl pA nA nB) ++ (cb bA))) 104 :: (T ++ R)) := d7
  obtain ⟨rfl, rfl⟩ := H
  exact QW.ret2 rfl rfl rfl ⟨T, none, 0, 0, Pl.refl, rfl, rfl, (St.pk (L := [_, _]) d7 [0])⟩
 have d6 : ((lA.length : Int) != 160) = false := (bne_eq_false_iff_eq.mpr (Decidable.not_not.mp d5))
 refine CW.cf rfl d6 (CW.skip (QW.then_n (CW.sub [(1, _), (2, _), (3, _)] ⟨rfl, rfl, rfl, trivial⟩ (cr ?_))))
 refine WL.buildSl [.int .u8 1, .int .u8 0] d4 underlying25 elem5 rfl rfl (by decide) (by decide) (by simp [Value.cells]) ?_
 intro a1 h2 c3
 replace c3 : St w h2 (.sl (sp a1) 2 2 (iv .u8 [1, 0]) 5 1 :: .cells a0 ((cu iA) ++ ((cl pA nA nB) ++ (cb bA))) 104 :: (T ++ R)) := c3
 refine WL.as rfl (wn (CW.seq (cr (WL.v (Runs.fieldAddr (off := 2) (p := 2) fld104_1 rfl rfl rfl) (WL.ld 1 nagg4 c3 rfl rfl (pa (.bool bA) ((cu iA) ++ (cl pA nA nB)) []) (wn ?_))))))
 rcases H with ⟨d8, H⟩ | ⟨d8, H⟩
 ·have d9 : bA = true := d8
  refine CW.ct rfl d9 (CW.region (WL.mv rfl ?_))
  obtain ⟨⟨h3, h4⟩, H⟩ := H
  obtain ⟨l5, f9⟩ := (c3.src_sl (k := 0) rfl).addr_iv 1 (by omega)
  refine WL.v (Runs.indexAddr underlying25 cells5 (by decide) rfl f9 rfl h3 h4 (o := 1) (by first | rfl | omega)) ?_
  obtain ⟨a2, g0, H⟩ := H
  refine WL.store_sl (i := 0) c3 rfl cells5 rfl f9 (by rw [iv_length]; omega) rfl rfl ?_
  intro h5 e0
  have h6 : 2 = a2.length := by rw [g0, List.length_set] <;> rfl
  have e0' : St w h5 (.sl (sp a1) 2 2 (iv .u8 a2) 5 1 :: .cells a0 ((cu iA) ++ ((cl pA nA nB) ++ (cb bA))) 104 :: (T ++ R)) := by rw [g0, ← iv_set .u8 [1, 0] 1 1]; exact e0
  refine wn (CW.seq ?_)
  refine CW.region_awh (C := fun w_ => St w w_ (.sl (sp a1) 2 2 (iv .u8 a2) 5 1 :: .cells a0 ((cu iA) ++ ((cl pA nA nB) ++ (cb bA))) 104 :: (T ++ R))) 9 wide (by kernel_rfl) e0' (fun h7 a3 => ?_)
  refine AWH.tk 0 rfl a3 (fun wq sq => (Runs.move rfl)) ?_
  refine AWH.tk 2 rfl a3 (fun wq sq => (Runs.fieldAddr (off := 0) (p := 0) fld104_0 rfl rfl rfl)) ?_
  refine AWH.tk 3 rfl a3 (fun wq sq => (Runs.fieldAddr (off := 0) (p := 0) fld42_0 rfl rfl rfl)) ?_
  refine AWH.tk 4 rfl a3 (fun wq sq => (Runs.load nagg37 rfl (sq.cell (k := 1) rfl (pa (.int .u64 iA) [] ((cl pA nA nB) ++ (cb bA)))))) ?_
  refine AWH.tk 6 rfl a3 (fun wq sq => (Runs.fieldAddr (off := 0) (p := 0) fld104_0 rfl rfl rfl)) ?_
  refine AWH.tk 7 rfl a3 (fun wq sq => (Runs.fieldAddr (off := 1) (p := 1) fld42_1 rfl rfl rfl)) ?_
  refine AWH.tk 8 rfl a3 (fun wq sq => (Runs.load nagg25 rfl (sq.cell (k := 1) rfl (pa (.slice pA nA nB) (cu iA) (cb bA))))) ?_
  refine AWH.step 1 rfl (by decide) (by kernel_rfl) (fun inv_ hs_ hk_ hc_ hn_ => ?_)
  obtain ⟨a7, h8, H⟩ := H
  refine wC ent60 rfl (word_Pad.calls (a3.src_sl (k := 0) rfl) (h6) (a3.cap (i := 0) rfl) h8) ?_
  rintro _ g1 ⟨a8, a9, b0, h9, rfl, i0⟩
  have g2 := a3.call i0
  refine ⟨_, rfl, WL.nil ?_⟩
  refine AWH.back (St.subset a3 g2 (mcB 1 2 (mem_TR (A := [_, _, _]) ii))) inv_ hs_ hk_ hc_ hn_ ?_
  refine AWH.step 5 rfl (by decide) (by kernel_rfl) (fun inv_ hs_ hk_ hc_ hn_ => ?_)
  obtain ⟨b1, i1, H⟩ := H
  refine wC ent32 rfl (word_Put.calls i1) ?_
  rintro _ e1 ⟨b2, b3, b4, i2, rfl, i3⟩
  have e2 := g2.call i3
  refine ⟨_, rfl, WL.nil ?_⟩
  refine AWH.back (St.subset a3 e2 (mcB 2 3 (mem_TR (A := [_, _, _, _]) ii))) inv_ hs_ hk_ hc_ hn_ ?_
  refine AWH.tail (by kernel_rfl) ?_
  refine AW.step 9 rfl (by kernel_rfl) ?_
  have hb_50c := e2.cap (i := 1) rfl
  obtain ⟨e3, g3, i4, d0⟩ := St.freeze (A := [_]) (B := [_, _]) (T := T) (R := R) e2
  have i5 : HB w e3 a8 b0 a9 (iv .u8 a7) a7.length := ⟨h9, hb_50c, Hd.of_sl i4⟩
  try dsimp only [List.set, ec, en] at d0
  have hb_55c := d0.cap (i := 0) rfl
  obtain ⟨a5, e4, i6, e5⟩ := St.freeze (A := []) (B := [_, _]) (T := e3) (R := R) d0
  have i7 : HB w a5 b2 b4 b3 (iv .u8 b1) b1.length := ⟨i2, hb_55c, Hd.of_sl i6⟩
  try dsimp only [List.set, ec, en] at e5
  refine WL.buildSl [.slice a8 b0 a9, .slice b2 b4 b3, .slice pA nA nB] e5 underlying76 elem25 rfl rfl (by decide) (by decide) (by simp [Value.cells]) ?_
  intro c4 d1 c5
  try dsimp only [List.set, ec, en] at c5
  obtain ⟨c8, g4⟩ : ∃ x_ : Cs, x_ = [.slice a8 b0 a9, .slice b2 b4 b3, .slice pA nA nB] := ⟨_, rfl⟩
  have i8 : HRs a5 (f25 w) c8 ([a7, b1, lA] : List R25) := by rw [g4]; exact (HRs.cons (ms := (cl a8 b0 a9)) (.cons ⟨_, _, _, rfl, (i5.mono e4.1)⟩ .nil) (HRs.cons (ms := (cl b2 b4 b3)) (.cons ⟨_, _, _, rfl, i7⟩ .nil) (HRs.one (.cons ⟨_, _, _, rfl, (l6.mono (g3.trans e4).1)⟩ .nil))))
  (try dsimp only [List.set, ec, en] at c5); rw [← g4] at c5
  refine WL.nil ?_
  refine AW.back  ?_
  refine AW.step 10 rfl (by kernel_rfl) ?_
  have i9 := St.hide (A := []) (B := [_, _, _]) c5
  obtain ⟨g5, j0, H⟩ := H
  refine wC ent55 rfl (slices_Concat_s_byte_byte.calls a5 i9 (HS.mk rfl (c5.cap (i := 0) rfl) (fun W_ L_ st hT => st.src_mem (hT _ (List.mem_append_right _ (List.mem_of_getElem? (i := 0) rfl)))) i8) j0) ?_
  rintro _ j1 ⟨e6, e7, e8, e9, j2, j3, rfl, j4⟩
  have j5 := St.unhide (A := [_]) (B := [_, _, _]) j4; dsimp only [ec, en] at j5
  refine ⟨_, rfl, WL.nil ?_⟩
  refine AW.back  ?_
  refine AW.tk 11 rfl (fun _ => (Runs.assign rfl)) ?_
  refine AW.tk 12 rfl (fun _ => (Runs.assign rfl)) ?_
  refine AW.done (by kernel_rfl) ?_
  refine QW.then_n (CW.ret ?_)
  obtain ⟨rfl, rfl⟩ := H
  exact QW.ret2 rfl rfl rfl ⟨e6, e7, e8, e9, ((g3.trans e4).trans j2), j3, rfl, (St.pk (L := [_, _, _, _]) j5 [0])⟩
 have d9 : bA = false := (Bool.eq_false_iff.mpr d8)
 refine CW.cf rfl d9 (CW.skip (QW.then_n (CW.seq ?_)))
 refine CW.region_awh (C := fun w_ => St w w_ (.sl (sp a1) 2 2 (iv .u8 [1, 0]) 5 1 :: .cells a0 ((cu iA) ++ ((cl pA nA nB) ++ (cb bA))) 104 :: (T ++ R))) 9 wide (by kernel_rfl) c3 (fun j6 a4 => ?_)
 refine AWH.tk 0 rfl a4 (fun wq sq => (Runs.move rfl)) ?_
 refine AWH.tk 2 rfl a4 (fun wq sq => (Runs.fieldAddr (off := 0) (p := 0) fld104_0 rfl rfl rfl)) ?_
 refine AWH.tk 3 rfl a4 (fun wq sq => (Runs.fieldAddr (off := 0) (p := 0) fld42_0 rfl rfl rfl)) ?_
 refine AWH.tk 4 rfl a4 (fun wq sq => (Runs.load nagg37 rfl (sq.cell (k := 1) rfl (pa (.int .u64 iA) [] ((cl pA nA nB) ++ (cb bA)))))) ?_
 refine AWH.tk 6 rfl a4 (fun wq sq => (Runs.fieldAddr (off := 0) (p := 0) fld104_0 rfl rfl rfl)) ?_
 refine AWH.tk 7 rfl a4 (fun wq sq => (Runs.fieldAddr (off := 1) (p := 1) fld42_1 rfl rfl rfl)) ?_
 refine AWH.tk 8 rfl a4 (fun wq sq => (Runs.load nagg25 rfl (sq.cell (k := 1) rfl (pa (.slice pA nA nB) (cu iA) (cb bA))))) ?_
 refine AWH.step 1 rfl (by decide) (by kernel_rfl) (fun inv_ hs_ hk_ hc_ hn_ => ?_)
 obtain ⟨b5, j7, H⟩ := H
 refine wC ent60 rfl (word_Pad.calls (a4.src_sl (k := 0) rfl) (rfl) (a4.cap (i := 0) rfl) j7) ?_
 rintro _ g6 ⟨b6, b7, b8, j8, rfl, j9⟩
 have g7 := a4.call j9
 refine ⟨_, rfl, WL.nil ?_⟩
 refine AWH.back (St.subset a4 g7 (mcB 1 2 (mem_TR (A := [_, _, _]) ii))) inv_ hs_ hk_ hc_ hn_ ?_
 refine AWH.step 5 rfl (by decide) (by kernel_rfl) (fun inv_ hs_ hk_ hc_ hn_ => ?_)
 obtain ⟨b9, k0, H⟩ := H
 refine wC ent32 rfl (word_Put.calls k0) ?_
 rintro _ f0 ⟨c0, c1, c2, k1, rfl, k2⟩
 have f1 := g7.call k2
 refine ⟨_, rfl, WL.nil ?_⟩
 refine AWH.back (St.subset a4 f1 (mcB 2 3 (mem_TR (A := [_, _, _, _]) ii))) inv_ hs_ hk_ hc_ hn_ ?_
 refine AWH.tail (by kernel_rfl) ?_
 refine AW.step 9 rfl (by kernel_rfl) ?_
 have hb_103c := f1.cap (i := 1) rfl
 obtain ⟨f2, g8, k3, d2⟩ := St.freeze (A := [_]) (B := [_, _]) (T := T) (R := R) f1
 have k4 : HB w f2 b6 b8 b7 (iv .u8 b5) b5.length := ⟨j8, hb_103c, Hd.of_sl k3⟩
 try dsimp only [List.set, ec, en] at d2
 have hb_108c := d2.cap (i := 0) rfl
 obtain ⟨a6, f3, k5, f4⟩ := St.freeze (A := []) (B := [_, _]) (T := f2) (R := R) d2
 have k6 : HB w a6 c0 c2 c1 (iv .u8 b9) b9.length := ⟨k1, hb_108c, Hd.of_sl k5⟩
 try dsimp only [List.set, ec, en] at f4
 refine WL.buildSl [.slice b6 b8 b7, .slice c0 c2 c1, .slice pA nA nB] f4 underlying76 elem25 rfl rfl (by decide) (by decide) (by simp [Value.cells]) ?_
 intro c6 d3 c7
 try dsimp only [List.set, ec, en] at c7
 obtain ⟨c9, g9⟩ : ∃ x_ : Cs, x_ = [.slice b6 b8 b7, .slice c0 c2 c1, .slice pA nA nB] := ⟨_, rfl⟩
 have k7 : HRs a6 (f25 w) c9 ([b5, b9, lA] : List R25) := by rw [g9]; exact (HRs.cons (ms := (cl b6 b8 b7)) (.cons ⟨_, _, _, rfl, (k4.mono f3.1)⟩ .nil) (HRs.cons (ms := (cl c0 c2 c1)) (.cons ⟨_, _, _, rfl, k6⟩ .nil) (HRs.one (.cons ⟨_, _, _, rfl, (l6.mono (g8.trans f3).1)⟩ .nil))))
 (try dsimp only [List.set, ec, en] at c7); rw [← g9] at c7
 refine WL.nil ?_
 refine AW.back  ?_
 refine AW.step 10 rfl (by kernel_rfl) ?_
 have k8 := St.hide (A := []) (B := [_, _, _]) c7
 obtain ⟨h0, k9, H⟩ := H
 refine wC ent55 rfl (slices_Concat_s_byte_byte.calls a6 k8 (HS.mk rfl (c7.cap (i := 0) rfl) (fun W_ L_ st hT => st.src_mem (hT _ (List.mem_append_right _ (List.mem_of_getElem? (i := 0) rfl)))) k7) k9) ?_
 rintro _ l0 ⟨f5, f6, f7, f8, l1, l2, rfl, l3⟩
 have l4 := St.unhide (A := [_]) (B := [_, _, _]) l3; dsimp only [ec, en] at l4
 refine ⟨_, rfl, WL.nil ?_⟩
 refine AW.back  ?_
 refine AW.tk 11 rfl (fun _ => (Runs.assign rfl)) ?_
 refine AW.tk 12 rfl (fun _ => (Runs.assign rfl)) ?_
 refine AW.done (by kernel_rfl) ?_
 refine QW.then_n (CW.ret ?_)
 obtain ⟨rfl, rfl⟩ := H
 exact QW.ret2 rfl rfl rfl ⟨f5, f6, f7, f8, ((g8.trans f3).trans l1), l2, rfl, (St.pk (L := [_, _, _, _]) l4 [0])⟩
def seal_size.rel (a0 : Int) (r0 : Bool) : Prop := ((a0 = 160 ∧ r0 = true) ∨ (¬ (a0 = 160) ∧ r0 = (a0 == 176)))
theorem seal_size.calls (H : seal_size.rel iA bA) :
  Calls prog 61 #[.int .i64 iA] w fun e w' => e = .returned (.bool bA) ∧ St w w' [] := by
 refine CW.en func61 rfl 9 [_] (CW.sub [(0, _)] ⟨rfl, trivial⟩ ?_)
 have st0 := St.refl w
 refine cr (WL.as rfl (WL.nx (WL.mv rfl (WL.v (Runs.eql rfl rfl rfl) (WL.mv rfl ?_)))))
 rcases H with ⟨a2, H⟩ | ⟨a2, H⟩
 ·have a1 := (beq_iff_eq.mpr a2)
  iterate 2 (refine WL.off ?_ ?_; exact Wg 5 a1)
  refine WL.v (Runs.pick_t (evb rfl a1) rfl) (WL.as rfl (wn (CW.ret ?_)))
  obtain rfl := H
  exact QW.ret1 rfl rfl ⟨rfl, st0.pick [] (by decide)⟩
 have a1 := (beq_eq_false_iff_ne.mpr a2)
 refine WL.on ?_ ?_; exact Wg 5 a1
 refine WL.mv rfl ?_
 refine WL.on ?_ ?_; exact Wg 5 a1
 refine WL.v (Runs.eql rfl rfl rfl) (WL.v (Runs.pick_f (evb rfl a1) rfl) (WL.as rfl (wn (CW.ret ?_))))
 obtain rfl := H
 exact QW.ret1 rfl rfl ⟨rfl, st0.pick [] (by decide)⟩
def cipher_Nonce.rel (a0 a1 : Int) (r0 : List Int) : Prop := (∃ a3, word_Put.rel (u64.wrap a0) 4 a3 ∧ (∃ a4, word_Put.rel a1 8 a4 ∧ (∃ a2, slices_Concat_s_byte_byte.rel ([a3, a4] : List R25) a2 ∧ (12 ≤ a2.length ∧ r0 = List.take 12 a2))))
theorem cipher_Nonce.calls (H : cipher_Nonce.rel iA iB lA) :
  Calls prog 63 #[.int .u32 iA, .int .u64 iB] w fun e w' => lA.length = 12 ∧ e = .returned (.agg (iv .u8 lA).toArray) ∧ St w w' [] := by
 refine CW.en func63 rfl 14 [_, _] (CW.sub [(0, _), (1, _)] ⟨rfl, rfl, trivial⟩ ?_)
 obtain ⟨T, R, hT, hR, st0⟩ := St.start w
 refine cr (WL.alloc st0 arr140.zero ?_)
 intro a2 d1 d2
 refine WL.nx (WL.mv rfl (WL.v (Runs.conv underlying37 ⟨_, underlying24⟩ rfl rfl) ?_))
 obtain ⟨a4, d3, H⟩ := H
 refine wC ent32 rfl (word_Put.calls d3) ?_
 rintro _ c4 ⟨a5, a6, a7, d4, rfl, d5⟩
 have d6 := d2.call d5
 refine ⟨_, rfl, WL.mv rfl ?_⟩
 obtain ⟨a8, d7, H⟩ := H
 refine wC ent32 rfl (word_Put.calls d7) ?_
 rintro _ c0 ⟨b0, b1, b2, d8, rfl, d9⟩
 have c5 := d6.call d9
 refine ⟨_, rfl, ?_⟩
 have hb_29c := c5.cap (i := 1) rfl
 obtain ⟨c1, f2, e0, b6⟩ := St.freeze (A := [_]) (B := [_]) (T := T) (R := R) c5
 have e1 : HB w c1 a5 a7 a6 (iv .u8 a4) a4.length := ⟨d4, hb_29c, Hd.of_sl e0⟩
 try dsimp only [List.set, ec, en] at b6
 have hb_34c := b6.cap (i := 0) rfl
 obtain ⟨a3, e2, e3, c2⟩ := St.freeze (A := []) (B := [_]) (T := c1) (R := R) b6
 have e4 : HB w a3 b0 b2 b1 (iv .u8 a8) a8.length := ⟨d8, hb_34c, Hd.of_sl e3⟩
 try dsimp only [List.set, ec, en] at c2
 refine WL.buildSl [.slice a5 a7 a6, .slice b0 b2 b1] c2 underlying76 elem25 rfl rfl (by decide) (by decide) (by simp [Value.cells]) ?_
 intro a9 b7 b3
 try dsimp only [List.set, ec, en] at b3
 obtain ⟨b4, c6⟩ : ∃ x_ : Cs, x_ = [.slice a5 a7 a6, .slice b0 b2 b1] := ⟨_, rfl⟩
 have e5 : HRs a3 (f25 w) b4 ([a4, a8] : List R25) := by rw [c6]; exact (HRs.cons (ms := (cl a5 a7 a6)) (.cons ⟨_, _, _, rfl, (e1.mono e2.1)⟩ .nil) (HRs.one (.cons ⟨_, _, _, rfl, e4⟩ .nil)))
 (try dsimp only [List.set, ec, en] at b3); rw [← c6] at b3
 have e6 := St.hide (A := []) (B := [_, _]) b3
 obtain ⟨b8, e7, H⟩ := H
 refine wC ent55 rfl (slices_Concat_s_byte_byte.calls a3 e6 (HS.mk rfl (b3.cap (i := 0) rfl) (fun W_ L_ st hT => st.src_mem (hT _ (List.mem_append_right _ (List.mem_of_getElem? (i := 0) rfl)))) e5) e7) ?_
 rintro _ e8 ⟨c3, c7, c8, c9, f3, e9, rfl, f0⟩
 have d0 := St.unhide (A := [_]) (B := [_, _]) f0; dsimp only [ec, en] at d0
 refine ⟨_, rfl, ?_⟩
 obtain ⟨b5, H⟩ := H
 refine WL.v (Runs.toArray underlying140 rfl (by rw [e9]; exact b5)) ?_
 refine WL.v (Runs.load_src arr140 (by decide) rfl (d0.src_sl (k := 0) rfl) b5) ?_
 refine WL.store_arr (i := 2) d0 rfl arr140 rfl (by rw [iv_length]; exact (List.length_replicate ..)) (List.length_take_of_le b5) rfl ?_
 intro f1 b9
 try dsimp only [List.set] at b9
 refine wn (CW.ret ?_)
 obtain rfl := H
 exact QW.retc rfl arr140 rfl (b9.blk (i := 2) rfl) (List.length_take_of_le b5) ⟨(List.length_take_of_le b5), rfl, (St.front (A := []) (St.pk (L := [_, _, _]) b9 []))⟩
def chv (A : Option Addr) (c M j : Nat) : Value := .slice (A.map (·.add (c * j))) (min c (M - c * j)) (min c (M - c * j))
def KpB (B1 B2 : Nat) (W W' : World) : Prop := W'.cell? ⟨B1, 0, none⟩ = W.cell? ⟨B1, 0, none⟩ ∧ W'.cell? ⟨B2, 0, none⟩ = W.cell? ⟨B2, 0, none⟩
theorem KpB.trans {B1 B2 : Nat} {W W' W2 : World} (h : KpB B1 B2 W W') (k : KpB B1 B2 W' W2) : KpB B1 B2 W W2 := ⟨k.1.trans h.1, k.2.trans h.2⟩
theorem KpB.put {B1 B2 : Nat} {w : World} (h1 : B1 < w.heap.size) (h2 : B2 < w.heap.size) (W : World) (j : Nat) (o o' : Obj) (hj : w.heap.size ≤ j) (_ : W.heap[j]? = some o) (_ : o.isCells = false) : KpB B1 B2 W (W.putObj j o') := by
 have hb : ∀ b, b < w.heap.size → (W.putObj j o').cell? ⟨b, 0, none⟩ = W.cell? ⟨b, 0, none⟩ := fun b hb => by
  unfold World.cell?
  rw [World.putObj_heap_other (show (⟨b, 0, none⟩ : Addr).block ≠ j by show b ≠ j; omega)]
 exact ⟨hb _ h1, hb _ h2⟩
theorem chw {x : Int} (h0 : -9223372036854775808 ≤ x) (h1 : x ≤ 9223372036854775807) : i64.wrap x = x := by rw [IntKind.wrap_i64]; omega
theorem chunk_seq {w : World} {B1 B2 M C c q : Nat} {A : Option Addr} (hb1 : w.cell? ⟨B1, 0, none⟩ = some (.slice A M C)) (hb2 : w.cell? ⟨B2, 0, none⟩ = some (.int .i64 (c : Int))) (hMC : M ≤ C) (hc : 1 ≤ c) (hcs : c ≤ 1099511627776) (hMs : M ≤ 1099511627776)
  (hq1 : M ≤ c * q) (hq2 : ∀ j, j < q → c * j < M) :
  SeqStopsK Fence.wide 2 prog 81 #[.pointer (sp B1), .pointer (sp B2)] (fun j : Fin q => #[chv A c M j.val]) (KpB B1 B2) (fun xs => xs = List.finRange q) (fun _ => True) q w := by
 intro y J Jx W hW hJ hJx hY h0
 have c1 : W.cell? ⟨B1, 0, none⟩ = some (.slice A M C) := (hW.cell (p := ⟨B1, 0, none⟩) (block_lt_of_cell hb1)).trans hb1
 have c2 : W.cell? ⟨B2, 0, none⟩ = some (.int .i64 (c : Int)) := (hW.cell (p := ⟨B2, 0, none⟩) (block_lt_of_cell hb2)).trans hb2
 refine callsIn_wide.2 ?_
 refine CW.en func81 rfl 31 [_, _, _] (CW.sub [(0, _), (1, _), (2, _)] ⟨rfl, rfl, rfl, trivial⟩ (cr (WL.as rfl (wn (CW.block (CW.sub [(0, _), (1, _), (2, _), (4, _)] ⟨rfl, rfl, rfl, rfl, trivial⟩ ?_))))))
 refine CW.loop (fun k l_ w_ => ∃ j : Nat, k + j = q + 1 ∧ j ≤ q ∧ l_ = [(0, .func (.yield y) #[] #[]), (1, .pointer (sp B1)), (2, .pointer (sp B2)), (4, .int .i64 ((c * j : Nat) : Int))] ∧ J ((List.finRange q).take j) w_ ∧ w_.cell? ⟨B1, 0, none⟩ = some (.slice A M C) ∧ w_.cell? ⟨B2, 0, none⟩ = some (.int .i64 (c : Int)))
  (k := q + 1) ⟨0, by omega, by omega, rfl, h0, c1, c2⟩ (fun _ _ h => by obtain ⟨j, h1, h2, _⟩ := h; omega) ?_
 rintro k l1 w1 ⟨j, hkj, hjq, rfl, hJ1, d1, d2⟩
 refine CW.seq (cr (WL.mv rfl (WL.v (Runs.load nagg25 rfl d1) (WL.v (Runs.len_sl underlying25 rfl rfl) (WL.v (Runs.lss rfl rfl rfl) (wn ?_))))))
 by_cases hlt : j < q
 ·have hjM := hq2 j hlt
  have hfin : (List.finRange q).take (j + 1) = (List.finRange q).take j ++ [⟨j, hlt⟩] := by
   rw [List.take_add_one]; simp [hlt]
  refine CW.ct rfl (decide_eq_true (by omega)) ?_
  refine CW.skip (QW.then_n (CW.sub [(0, _), (1, _), (2, _), (4, _)] ⟨rfl, rfl, rfl, rfl, trivial⟩ (CW.seq (CW.block (CW.seq ?_)))))
  refine CW.region_qC (C := fun W' => J ((List.finRange q).take j) W' ∧ W'.cell? ⟨B1, 0, none⟩ = some (.slice A M C) ∧ W'.cell? ⟨B2, 0, none⟩ = some (.int .i64 (c : Int))) wide (by kernel_rfl) ⟨hJ _ _ _ none hJ1 ⟨rfl, rfl, rfl, Nat.le_refl _, fun _ _ _ => rfl⟩ (fun r e => by cases e), d1, d2⟩ ?_
  refine HL.val Wanted.none (fun W' h' => Runs.load nagg3 rfl h'.2.2) ?_
  refine HL.val Wanted.none (fun W' h' => Runs.load nagg25 rfl h'.2.1) ?_
  refine HL.val Wanted.none (fun W' h' => Runs.move rfl) ?_
  refine HL.val Wanted.none (fun W' h' => Runs.slice_l underlying25 cells5 rfl rfl (by omega) (by omega) (B := subA A (c * j) C) rfl (N := M - c * j) rfl (M := C - c * j) rfl) ?_
  refine HL.val Wanted.none (fun W' h' => Runs.len_sl underlying25 rfl rfl) ?_
  refine HL.val Wanted.none (fun W' h' => Runs.min2 rfl rfl (z := ((min c (M - c * j) : Nat) : Int)) (by unfold minI; split <;> omega)) ?_
  refine HL.val Wanted.none (fun W' h' => Runs.assign rfl) ?_
  refine HL.nil (fun w2 h2 => ?_)
  obtain ⟨hJ2, f1, f2⟩ := h2
  refine wn ?_
  refine CW.su [(0, _), (1, _), (2, _), (4, _), (5, _)] ?_
  refine CW.seq (CW.region_y 2 ?_)
  refine WY.val (Runs.move rfl) rfl ?_
  refine WY.val (Runs.load nagg25 rfl f1) rfl ?_
  refine WY.val (Runs.move rfl) rfl ?_
  refine WY.val (Runs.move rfl) rfl ?_
  refine WY.val (Runs.move rfl) rfl ?_
  refine WY.val (Runs.add rfl rfl (z := ((c * j + min c (M - c * j) : Nat) : Int)) (by rw [chw (by omega) (by omega)]; omega)) rfl ?_
  refine WY.val (Runs.move rfl) rfl ?_
  refine WY.val (Runs.move rfl) rfl ?_
  refine WY.val (Runs.add rfl rfl (z := ((c * j + min c (M - c * j) : Nat) : Int)) (by rw [chw (by omega) (by omega)]; omega)) rfl ?_
  refine WY.val (Runs.slice_3 underlying25 cells5 rfl rfl rfl rfl (by omega) (by omega) (by omega) (by omega) (B := A.map (·.add (c * j))) (by rw [if_neg (by omega)]; rfl) (N := min c (M - c * j)) (by omega) (M := min c (M - c * j)) (by omega)) rfl ?_
  refine WY.yield rfl rfl (hY ((List.finRange q).take j) ⟨j, hlt⟩ w2 hJ2 (by simp; omega)) ?_
  rintro e w3 (⟨rfl, hJ3, hk3⟩ | ⟨rfl, hJx3⟩)
  ·refine ⟨_, rfl, ?_⟩
   refine WY.val (Runs.not rfl rfl) rfl ?_
   refine WY.nil ?_
   refine QW.then_n (CW.cf rfl rfl (CW.skip (QW.blk_n (QW.then_n (CW.sub [(0, _), (1, _), (2, _), (4, _)] ⟨rfl, rfl, rfl, rfl, trivial⟩ (CW.region (WL.mv rfl (WL.v (Runs.load nagg3 rfl (hk3.2.trans f2)) ?_))))))))
   refine WL.v (Runs.add rfl rfl (z := ((c * (j + 1) : Nat) : Int)) (by rw [Nat.mul_succ, chw (by omega) (by omega)]; omega)) ?_
   refine WL.as rfl (WL.nil ?_)
   exact QW.a ⟨j + 1, by omega, by omega, rfl, by rw [hfin]; exact hJ3, hk3.1.trans f1, hk3.2.trans f2⟩
  refine ⟨_, rfl, ?_⟩
  refine WY.val (Runs.not rfl rfl) rfl ?_
  refine WY.nil ?_
  refine QW.then_n (CW.ct rfl rfl (CW.ret (QW.blk_r (QW.then_r (QW.then_r (QW.blk_r ?_))))))
  exact QW.ret0 rfl ⟨⟨_, rfl⟩, .inr ⟨_, trivial, hJx3⟩⟩
 obtain rfl : j = q := by omega
 refine CW.cf rfl (decide_eq_false (by omega)) ?_
 refine CW.exit (QW.then_x (QW.then_x (QW.blk_x ?_)))
 exact QW.end0 rfl ⟨⟨_, rfl⟩, .inl ⟨_, rfl, by rw [List.take_of_length_le (by simp)] at hJ1; exact hJ1⟩⟩
theorem slices_Chunk.calls (hc : 1 ≤ nC) :
  Calls prog 72 #[.slice pA nA nB, .int .i64 (nC : Int)] w fun e w' => ∃ B1 B2, e = .returned (.func (.func 81) #[] #[.pointer (sp B1), .pointer (sp B2)]) ∧ St w w' [.cells B2 [.int .i64 (nC : Int)] 3, .cells B1 [.slice pA nA nB] 25] := by
 refine CW.en func72 rfl 9 [_, _] (CW.sub [(0, _), (1, _)] ⟨rfl, rfl, trivial⟩ ?_)
 have st0 := St.refl w
 refine cr (WL.box st0 rfl rfl ?_)
 intro B1 w1 st1
 refine WL.box st1 rfl rfl ?_
 intro B2 w2 st2
 refine WL.as rfl (wn (CW.seq (cr (WL.ld 0 nagg3 st2 rfl rfl rfl (WL.v (Runs.lss rfl rfl rfl) (wn ?_))))))
 refine CW.cf rfl (decide_eq_false (by omega)) ?_
 refine CW.skip (QW.then_n (cr (WL.v (Runs.makeFunc (vs := [.pointer (sp B1), .pointer (sp B2)]) rfl) (WL.as rfl (wn (CW.ret ?_))))))
 exact QW.ret1 rfl rfl ⟨B1, B2, rfl, st2⟩
def word_inside.rel (l0 : List Int) (a1 a2 r0 : Int) : Prop := (∃ a0, word_size.rel a2 a0 ∧ ((¬ (a0 = true) ∧ r0 = 1) ∨ (¬ (¬ (a0 = true)) ∧ ((a1 < 0 ∧ r0 = 12) ∨ (¬ (a1 < 0) ∧ ((a1 > (l0.length : Int) ∧ r0 = 12) ∨ (¬ (a1 > (l0.length : Int)) ∧ (((i64.wrap ((l0.length : Int) - a1)) < a2 ∧ r0 = 12) ∨ (¬ ((i64.wrap ((l0.length : Int) - a1)) < a2) ∧ r0 = 0)))))))))
theorem word_inside.calls (hs0 : Src w pA (iv .u8 lA)) (hn0 : nA = lA.length) (hc0 : nA ≤ nB) (H : word_inside.rel lA iA iB iC) :
  Calls prog 93 #[.slice pA nA nB, .int .i64 iA, .int .i64 iB] w fun e w' => e = .returned (.int .i64 iC) ∧ St w w' [] := by
 refine CW.en func93 rfl 28 [_, _, _] (CW.sub [(0, _), (1, _), (2, _)] ⟨rfl, rfl, rfl, trivial⟩ ?_)
 have st0 := St.refl w
 refine cr (WL.as rfl (wn (CW.seq (CW.block (cr (WL.mv rfl ?_))))))
 obtain ⟨a5, b2, H⟩ := H
 refine wC ent56 rfl (word_size.calls b2) ?_
 rintro _ b3 ⟨rfl, b4⟩
 have a4 := st0.call b4
 refine ⟨_, rfl, WL.v (Runs.not rfl rfl) (WL.as rfl (wn ?_))⟩
 rcases H with ⟨a6, H⟩ | ⟨a6, H⟩
 ·have a7 : (!a5) = true := (not_t (Bool.eq_false_iff.mpr a6))
  refine CW.ct rfl a7 (cr (WL.as rfl (wn (CW.ret (QW.blk_r (QW.then_r ?_))))))
  obtain rfl := H
  exact QW.ret1 rfl rfl ⟨rfl, a4.pick [] (by decide)⟩
 have a7 : (!a5) = false := (not_f (Decidable.not_not.mp a6))
 refine CW.cf rfl a7 (cr (WL.mv rfl (WL.v (Runs.lss rfl rfl rfl) (WL.mv rfl ?_))))
 rcases H with ⟨a8, H⟩ | ⟨a8, H⟩
 ·have a3 := (decide_eq_true a8)
  iterate 4 (refine WL.off ?_ ?_; exact Wg 14 a3)
  refine WL.v (Runs.pick_t (evb rfl a3) rfl) (WL.mv rfl ?_)
  iterate 6 (refine WL.off ?_ ?_; exact Wg 20 rfl)
  refine WL.v (Runs.pick_t rfl rfl) (WL.as rfl (wn (CW.sub [(6, _), (11, _)] ⟨rfl, rfl, trivial⟩ (CW.ct rfl rfl (cr (WL.as rfl (wn (CW.ret (QW.blk_r (QW.then_r ?_))))))))))
  obtain rfl := H
  exact QW.ret1 rfl rfl ⟨rfl, a4.pick [] (by decide)⟩
 have a3 := (decide_eq_false a8)
 refine WL.on ?_ ?_; exact Wg 14 a3
 refine WL.mv rfl ?_
 refine WL.on ?_ ?_; exact Wg 14 a3
 refine WL.mv rfl ?_
 refine WL.on ?_ ?_; exact Wg 14 a3
 refine WL.v (Runs.len_sl underlying25 rfl (by rw [hn0])) ?_
 refine WL.on ?_ ?_; exact Wg 14 a3
 refine WL.v (Runs.gtr rfl rfl rfl) (WL.v (Runs.pick_f (evb rfl a3) rfl) (WL.mv rfl ?_))
 rcases H with ⟨a9, H⟩ | ⟨a9, H⟩
 ·have a0 := (decide_eq_true a9)
  iterate 6 (refine WL.off ?_ ?_; exact Wg 20 a0)
  refine WL.v (Runs.pick_t (evb rfl a0) rfl) (WL.as rfl (wn (CW.sub [(6, _), (11, _)] ⟨rfl, rfl, trivial⟩ (CW.ct rfl rfl (cr (WL.as rfl (wn (CW.ret (QW.blk_r (QW.then_r ?_))))))))))
  obtain rfl := H
  exact QW.ret1 rfl rfl ⟨rfl, a4.pick [] (by decide)⟩
 have a0 := (decide_eq_false a9)
 refine WL.on ?_ ?_; exact Wg 20 a0
 refine WL.mv rfl ?_
 refine WL.on ?_ ?_; exact Wg 20 a0
 refine WL.v (Runs.len_sl underlying25 rfl (by rw [hn0])) ?_
 refine WL.on ?_ ?_; exact Wg 20 a0
 refine WL.mv rfl ?_
 refine WL.on ?_ ?_; exact Wg 20 a0
 refine WL.v (Runs.sub rfl rfl rfl) ?_
 refine WL.on ?_ ?_; exact Wg 20 a0
 refine WL.mv rfl ?_
 refine WL.on ?_ ?_; exact Wg 20 a0
 refine WL.v (Runs.lss rfl rfl rfl) (WL.v (Runs.pick_f (evb rfl a0) rfl) (WL.as rfl (wn (CW.sub [(6, _), (11, _)] ⟨rfl, rfl, trivial⟩ ?_))))
 rcases H with ⟨b0, H⟩ | ⟨b0, H⟩
 ·have b1 := (decide_eq_true b0)
  refine CW.ct rfl b1 (cr (WL.as rfl (wn (CW.ret (QW.blk_r (QW.then_r ?_))))))
  obtain rfl := H
  exact QW.ret1 rfl rfl ⟨rfl, a4.pick [] (by decide)⟩
 have b1 := (decide_eq_false b0)
 refine CW.cf rfl b1 (CW.skip (QW.blk_n (QW.then_n (cr (WL.as rfl (wn (CW.ret ?_)))))))
 obtain rfl := H
 exact QW.ret1 rfl rfl ⟨rfl, a4.pick [] (by decide)⟩
def word_Get.L1 (l0 : List Int) (a1 a2 r0 r1 : Int) : Nat → Int → Int → Prop
 | 0, _, _ => False
 | kL1 + 1, a3, a0 => ((a0 < ((prt l0 a1 (i64.wrap (a1 + a2))).length : Int) ∧ ((0 ≤ a0 ∧ a0 < ((prt l0 a1 (i64.wrap (a1 + a2))).length : Int)) ∧ (∃ a4 : Int, a4 = u64.wrap (gn (prt l0 a1 (i64.wrap (a1 + a2))) (a0.toNat)) ∧ (0 ≤ (u64.wrap (i64.wrap (8 * a0))) ∧ (∃ a5 : Int, a5 = shlI .u64 a4 (u64.wrap (i64.wrap (8 * a0))) ∧ word_Get.L1 l0 a1 a2 r0 r1 kL1 (bits .or .u64 a3 a5) (i64.wrap (a0 + 1))))))) ∨ (¬ (a0 < ((prt l0 a1 (i64.wrap (a1 + a2))).length : Int)) ∧ r0 = a3 ∧ r1 = 0))
def word_Get.rel (l0 : List Int) (a1 a2 r0 r1 : Int) : Prop := (∃ a0, word_inside.rel l0 a1 a2 a0 ∧ ((a0 ≠ 0 ∧ r0 = 0 ∧ r1 = a0) ∨ (¬ (a0 ≠ 0) ∧ ((0 ≤ a1 ∧ a1 ≤ (i64.wrap (a1 + a2)) ∧ (i64.wrap (a1 + a2)) ≤ (l0.length : Int)) ∧ (∃ k_ : Nat, word_Get.L1 l0 a1 a2 r0 r1 k_ 0 0)))))
theorem word_Get.calls (hs0 : Src w pA (iv .u8 lA)) (hn0 : nA = lA.length) (hc0 : nA ≤ nB) (H : word_Get.rel lA iA iB iC iD) :
  Calls prog 92 #[.slice pA nA nB, .int .i64 iA, .int .i64 iB] w fun e w' => e = .returned (.tuple #[.int .u64 iC, .int .i64 iD]) ∧ St w w' [] := by
 refine CW.en func92 rfl 41 [_, _, _] (CW.sub [(0, _), (1, _), (2, _)] ⟨rfl, rfl, rfl, trivial⟩ ?_)
 have st0 := St.refl w
 refine cr (WL.as rfl (WL.as rfl (wn (CW.seq (cr (WL.mv rfl (WL.mv rfl (WL.mv rfl ?_))))))))
 obtain ⟨a7, c3, H⟩ := H
 refine wC ent93 rfl (word_inside.calls (hs0.ext st0) (hn0) (hc0) c3) ?_
 rintro _ c4 ⟨rfl, c5⟩
 have b8 := st0.call c5
 refine ⟨_, rfl, WL.as rfl (WL.nx (WL.mv rfl (WL.v (Runs.neq rfl rfl rfl) (wn ?_))))⟩
 rcases H with ⟨b1, H⟩ | ⟨b1, H⟩
 ·have b2 := (bne_iff_ne.mpr b1)
  refine CW.ct rfl b2 (cr (WL.mv rfl (WL.as rfl (WL.as rfl (wn (CW.ret (QW.then_r ?_)))))))
  obtain ⟨rfl, rfl⟩ := H
  exact QW.ret2 rfl rfl rfl ⟨rfl, b8.pick [] (by decide)⟩
 have b2 : (a7 != 0) = false := (bne_eq_false_iff_eq.mpr (Decidable.not_not.mp b1))
 refine CW.cf rfl b2 (CW.skip (QW.then_n ?_))
 refine CW.su [(0, _), (1, _), (2, _), (6, _), (7, _)] ?_
 refine cr (WL.as rfl (wn (CW.seq (cr (WL.mv rfl (WL.mv rfl (WL.mv rfl (WL.mv rfl (WL.v (Runs.add rfl rfl rfl) ?_)))))))))
 obtain ⟨⟨a3, a4, b9⟩, H⟩ := H
 have d3 : nA ≤ nB := hc0
 have b3 : (i64.wrap (iA + iB)) ≤ (nB : Int) := by have := hn0; omega
 obtain ⟨b4, b5⟩ : ∃ B_, B_ = subA pA (iA).toNat nB := ⟨_, rfl⟩
 obtain ⟨a5, a8⟩ : ∃ n_ : Nat, n_ = (prt lA iA (i64.wrap (iA + iB))).length := ⟨_, rfl⟩
 obtain ⟨a9, c1⟩ : ∃ c_ : Nat, c_ = nB - (iA).toNat := ⟨_, rfl⟩
 have d4 : a5 ≤ a9 := by rw [a8, prt_length a3 a4 b9]; rw [c1]; omega
 refine WL.v (Runs.slice_lh underlying25 cells5 rfl rfl rfl a3 a4 b3 b5 (N := a5) (by rw [a8, prt_length a3 a4 b9]) c1) ?_
 refine WL.v (Runs.len_sl underlying25 rfl (by rw [a8])) ?_
 refine WL.mv rfl (wn ?_)
 refine CW.su [(6, _), (7, _), (9, _), (24, _), (25, _), (26, _)] ?_
 refine CW.block ?_
 obtain ⟨c6, H⟩ := H
 refine CW.su [(6, _), (7, _), (9, _), (24, _), (25, _), (26, _)] ?_
 refine CW.lp (fun kL1 l_ w_ => ∃ a6 a0, l_ = [(6, .int .u64 0), (7, .int .i64 0), (9, .int .u64 a6), (24, .slice b4 a5 a9), (25, .int .i64 ((prt lA iA (i64.wrap (iA + iB))).length : Int)), (26, .int .i64 a0)] ∧ word_Get.L1 lA iA iB iC iD kL1 a6 a0 ∧ St w w_ []) (k := c6) ⟨0, 0, rfl, H, b8⟩ ?_
 rintro kL1 d5 d6 ⟨a6, a0, rfl, H, b0⟩
 refine cr (WL.v (Runs.lss rfl rfl rfl) (wn (CW.seq ?_)))
 rcases H with ⟨b6, H⟩ | ⟨b6, H⟩
 ·have b7 := (decide_eq_true b6)
  refine CW.ct rfl b7 (CW.skip (QW.then_n (CW.seq (CW.block (cr (WL.mv rfl ?_))))))
  obtain ⟨⟨c7, c8⟩, H⟩ := H
  obtain ⟨d7, c2⟩ := ((hs0.ext b0).sub_iv a3 a4 b3 b5).addr_iv (a0.toNat) (by omega)
  refine WL.v (Runs.indexAddr underlying25 cells5 (by decide) rfl c2 rfl c7 (by rw [a8]; exact c8) (o := (a0).toNat) (by first | rfl | omega)) ?_
  refine WL.v (Runs.load nagg5 rfl (((hs0.ext b0).sub_iv a3 a4 b3 b5).cell_iv c2 (by omega))) ?_
  refine WL.as rfl (WL.as rfl (wn (CW.region (WL.mv rfl (WL.mv rfl ?_)))))
  obtain ⟨d8, c9, H⟩ := H
  refine WL.v (Runs.conv underlying37 ⟨_, underlying5⟩ rfl c9) (WL.mv rfl (WL.v (Runs.mul rfl rfl rfl) (WL.v (Runs.conv underlying133 ⟨_, underlying3⟩ rfl rfl) ?_)))
  obtain ⟨d0, H⟩ := H
  obtain ⟨d1, d2, H⟩ := H
  refine WL.v (Runs.shl rfl rfl d0 d2) (WL.v (Runs.bor rfl rfl rfl) (WL.as rfl (WL.nil (QW.blk_n (QW.then_n (CW.region (WL.v (Runs.add rfl rfl rfl) (WL.mv rfl (WL.nil ?_)))))))))
  exact QW.a ⟨bits .or .u64 a6 d1, i64.wrap (a0 + 1), rfl, H, b0⟩
 have b7 := (decide_eq_false b6)
 refine CW.cf rfl b7 (CW.exit (QW.then_x (QW.then_x (QW.blk_x (QW.then_n (cr (WL.mv rfl (WL.as rfl (WL.as rfl (wn (CW.ret ?_)))))))))))
 obtain ⟨rfl, rfl⟩ := H
 exact QW.ret2 rfl rfl rfl ⟨rfl, b0.pick [] (by decide)⟩
def cipher_at.rel (l0 : List Int) (a1 r0 : Int) : Prop := (∃ a0 a2, word_Get.rel l0 (i64.wrap (4 * a1)) 4 a0 a2 ∧ r0 = u32.wrap a0)
theorem cipher_at.calls (hs0 : Src w pA (iv .u8 lA)) (hn0 : nA = lA.length) (hc0 : nA ≤ nB) (H : cipher_at.rel lA iA iB) :
  Calls prog 89 #[.slice pA nA nB, .int .i64 iA] w fun e w' => e = .returned (.int .u32 iB) ∧ St w w' [] := by
 refine CW.en func89 rfl 16 [_, _] (CW.sub [(0, _), (1, _)] ⟨rfl, rfl, trivial⟩ ?_)
 have st0 := St.refl w
 refine cr (WL.as rfl (WL.nx (WL.mv rfl (WL.mv rfl (WL.v (Runs.mul rfl rfl rfl) ?_)))))
 obtain ⟨a0, a2, a3, H⟩ := H
 refine wC ent92 rfl (word_Get.calls (hs0.ext st0) (hn0) (hc0) a3) ?_
 rintro _ a4 ⟨rfl, a5⟩
 have a6 := st0.call a5
 refine ⟨_, rfl, WL.mv rfl (WL.v (Runs.extract rfl rfl) (WL.v (Runs.extract rfl rfl) (WL.as rfl (WL.as rfl (wn (CW.sub [(4, _), (5, _)] ⟨rfl, rfl, trivial⟩ (cr (WL.mv rfl (WL.v (Runs.conv underlying24 ⟨_, underlying37⟩ rfl rfl) (WL.as rfl (wn (CW.ret ?_))))))))))))⟩
 obtain rfl := H
 exact QW.ret1 rfl rfl ⟨rfl, a6.pick [] (by decide)⟩
def cipher_words.L2 (l2 r0 : List Int) : Nat → (List Int) → Int → Prop
 | 0, _, _ => False
 | kL2 + 1, a1, a0 => ((a0 < 3 ∧ (∃ a2, cipher_at.rel l2 a0 a2 ∧ ((0 ≤ (i64.wrap (13 + a0)) ∧ (i64.wrap (13 + a0)) < (16 : Int)) ∧ (∃ a3 : List Int, a3 = List.set a1 ((i64.wrap (13 + a0)).toNat) a2 ∧ cipher_words.L2 l2 r0 kL2 a3 (i64.wrap (a0 + 1)))))) ∨ (¬ (a0 < 3) ∧ r0 = a1))
def cipher_words.L1 (l0 : List Int) (a1 : Int) (l2 r0 : List Int) : Nat → (List Int) → Int → Prop
 | 0, _, _ => False
 | kL1 + 1, a2, a0 => ((a0 < 8 ∧ (∃ a3, cipher_at.rel l0 a0 a3 ∧ ((0 ≤ (i64.wrap (4 + a0)) ∧ (i64.wrap (4 + a0)) < (16 : Int)) ∧ (∃ a4 : List Int, a4 = List.set a2 ((i64.wrap (4 + a0)).toNat) a3 ∧ cipher_words.L1 l0 a1 l2 r0 kL1 a4 (i64.wrap (a0 + 1)))))) ∨ (¬ (a0 < 8) ∧ (∃ a5 : List Int, a5 = List.set a2 12 a1 ∧ (∃ k_ : Nat, cipher_words.L2 l2 r0 k_ a5 0))))
def cipher_words.rel (l0 : List Int) (a1 : Int) (l2 r0 : List Int) : Prop := (∃ a0 : List Int, a0 = [1634760805, 857760878, 2036477234, 1797285236, 0, 0, 0, 0, 0, 0, 0, 0, 0, 0, 0, 0] ∧ (∃ k_ : Nat, cipher_words.L1 l0 a1 l2 r0 k_ a0 0))
theorem cipher_words.calls (hl0 : lA.length = 32) (hl2 : lB.length = 12) (H : cipher_words.rel lA iA lB lC) :
  Calls prog 84 #[.agg (iv .u8 lA).toArray, .int .u32 iA, .agg (iv .u8 lB).toArray] w fun e w' => lC.length = 16 ∧ e = .returned (.agg (iv .u32 lC).toArray) ∧ St w w' [] := by
 refine CW.en func84 rfl 34 [_, _, _] (CW.sub [(0, _), (1, _), (2, _)] ⟨rfl, rfl, rfl, trivial⟩ ?_)
 have st0 := St.refl w
 refine cr (WL.box st0 rfl rfl ?_)
 intro a4 g0 d2
 refine WL.box d2 rfl rfl ?_
 intro a0 g1 d3
 refine WL.alloc d3 arr166.zero ?_
 intro a2 g2 d4
 refine WL.nx ?_
 obtain ⟨b3, b4, H⟩ := H
 refine WL.v (Runs.build_arr (xs := b3) arr166 rfl rfl (by rw [b4]; rfl)) ?_
 refine WL.alloc d4 arr166.zero ?_
 intro a3 g3 d5
 refine WL.store_arr (i := 0) d5 rfl arr166 rfl (by rw [iv_length]; exact (List.length_replicate ..)) (by rw [b4]; rfl) rfl ?_
 intro d6 b5
 try dsimp only [List.set] at b5
 refine wn (CW.seq (cr (WL.mv rfl (wn (CW.block ?_)))))
 obtain ⟨d7, H⟩ := H
 refine CW.su [(1, _), (3, _), (5, _), (6, _), (7, _), (11, _)] ?_
 refine CW.lp (fun kL1 l_ w_ => ∃ a8 a5, l_ = [(1, .int .u32 iA), (3, .pointer (sp a4)), (5, .pointer (sp a0)), (6, .pointer (sp a2)), (7, .pointer (sp a3)), (11, .int .i64 a5)] ∧ cipher_words.L1 lA iA lB lC kL1 a8 a5 ∧ (a8.length = 16) ∧ St w w_ [.cells a3 (iv .u32 a8) 166, .cells a2 (iv .u32 (List.replicate 16 (0 : Int))) 166, .cells a0 (iv .u8 lB) 140, .cells a4 (iv .u8 lA) 23]) (k := d7) ⟨b3, 0, rfl, H, (by rw [b4]; rfl), b5⟩ ?_
 rintro kL1 g4 d8 ⟨a8, a5, rfl, H, b0, b6⟩
 refine cr (WL.v (Runs.lss rfl rfl rfl) (wn (CW.seq ?_)))
 rcases H with ⟨b7, H⟩ | ⟨b7, H⟩
 ·have b8 := (decide_eq_true b7)
  refine CW.ct rfl b8 (CW.skip (QW.then_n (CW.seq (CW.block (cr (WL.mv rfl (WL.as rfl (wn (CW.region (WL.mv rfl (WL.v (Runs.add rfl rfl rfl) ?_)))))))))))
  refine WL.v (Runs.slice_arr arr23 rfl (by decide)) ?_
  refine WL.mv rfl ?_
  obtain ⟨c7, d9, H⟩ := H
  refine wC ent89 rfl (cipher_at.calls (b6.src_blk (i := 3) rfl) ((hl0).symm) (Nat.le_refl _) d9) ?_
  rintro _ e0 ⟨rfl, e1⟩
  have e2 := b6.call e1
  refine ⟨_, rfl, ?_⟩
  obtain ⟨⟨e3, e4⟩, H⟩ := H
  refine WL.v (Runs.indexAddr_blk arr166 rfl rfl e3 e4 (o := (i64.wrap (4 + a5)).toNat) (by first | rfl | omega)) ?_
  obtain ⟨b9, c8, H⟩ := H
  have e5 : b9.length = 16 := by rw [c8, List.length_set]; exact b0
  refine WL.store_cells (i := 0) e2 rfl cells24 rfl (by rw [iv_length]; have := b0; omega) rfl rfl ?_
  intro e6 c0
  have c0' := c0; (try dsimp only [List.set, ec, en] at c0'); rw [iv_set .u32 a8 ((i64.wrap (4 + a5)).toNat) c7, ← c8] at c0'
  refine WL.nil (QW.blk_n (QW.then_n (CW.region (WL.v (Runs.add rfl rfl rfl) (WL.mv rfl (WL.nil ?_))))))
  exact QW.a ⟨b9, i64.wrap (a5 + 1), rfl, H, e5, c0'⟩
 have b8 := (decide_eq_false b7)
 refine CW.cf rfl b8 (CW.exit (QW.then_x (QW.then_x (QW.blk_x (QW.then_n (cr (WL.mv rfl ?_)))))))
 refine WL.v (Runs.indexAddr_blk arr166 rfl rfl (by decide) (by decide) (o := 12) (by first | rfl | omega)) ?_
 obtain ⟨c1, c9, H⟩ := H
 have e7 : c1.length = 16 := by rw [c9, List.length_set]; exact b0
 refine WL.store_cells (i := 0) b6 rfl cells24 rfl (by rw [iv_length]; have := b0; omega) rfl rfl ?_
 intro e8 c2
 have c2' := c2; (try dsimp only [List.set, ec, en] at c2'); rw [iv_set .u32 a8 12 iA, ← c9] at c2'
 refine wn (CW.sub [(5, _), (6, _), (7, _)] ⟨rfl, rfl, rfl, trivial⟩ (CW.seq (cr (WL.mv rfl (wn (CW.block ?_))))))
 obtain ⟨e9, H⟩ := H
 refine CW.sub [(5, _), (6, _), (7, _), (23, _)] ⟨rfl, rfl, rfl, rfl, trivial⟩ ?_
 refine CW.lp (fun kL2 l_ w_ => ∃ a7 a6, l_ = [(5, .pointer (sp a0)), (6, .pointer (sp a2)), (7, .pointer (sp a3)), (23, .int .i64 a6)] ∧ cipher_words.L2 lB lC kL2 a7 a6 ∧ (a7.length = 16) ∧ St w w_ [.cells a3 (iv .u32 a7) 166, .cells a2 (iv .u32 (List.replicate 16 (0 : Int))) 166, .cells a0 (iv .u8 lB) 140, .cells a4 (iv .u8 lA) 23]) (k := e9) ⟨c1, 0, rfl, H, e7, c2'⟩ ?_
 rintro kL2 g5 f0 ⟨a7, a6, rfl, H, a9, b1⟩
 refine cr (WL.v (Runs.lss rfl rfl rfl) (wn (CW.seq ?_)))
 rcases H with ⟨c3, H⟩ | ⟨c3, H⟩
 ·have c4 := (decide_eq_true c3)
  refine CW.ct rfl c4 (CW.skip (QW.then_n (CW.seq (CW.block (cr (WL.mv rfl (WL.as rfl (wn (CW.region (WL.mv rfl (WL.v (Runs.add rfl rfl rfl) ?_)))))))))))
  refine WL.v (Runs.slice_arr arr140 rfl (by decide)) ?_
  refine WL.mv rfl ?_
  obtain ⟨d0, f1, H⟩ := H
  refine wC ent89 rfl (cipher_at.calls (b1.src_blk (i := 2) rfl) ((hl2).symm) (Nat.le_refl _) f1) ?_
  rintro _ f2 ⟨rfl, f3⟩
  have f4 := b1.call f3
  refine ⟨_, rfl, ?_⟩
  obtain ⟨⟨f5, f6⟩, H⟩ := H
  refine WL.v (Runs.indexAddr_blk arr166 rfl rfl f5 f6 (o := (i64.wrap (13 + a6)).toNat) (by first | rfl | omega)) ?_
  obtain ⟨c5, d1, H⟩ := H
  have f7 : c5.length = 16 := by rw [d1, List.length_set]; exact a9
  refine WL.store_cells (i := 0) f4 rfl cells24 rfl (by rw [iv_length]; have := a9; omega) rfl rfl ?_
  intro f8 c6
  have c6' := c6; (try dsimp only [List.set, ec, en] at c6'); rw [iv_set .u32 a7 ((i64.wrap (13 + a6)).toNat) d0, ← d1] at c6'
  refine WL.nil (QW.blk_n (QW.then_n (CW.region (WL.v (Runs.add rfl rfl rfl) (WL.mv rfl (WL.nil ?_))))))
  exact QW.a ⟨c5, i64.wrap (a6 + 1), rfl, H, f7, c6'⟩
 have c4 := (decide_eq_false c3)
 refine CW.cf rfl c4 (CW.exit (QW.then_x (QW.then_x (QW.blk_x (QW.then_n (cr (WL.v (Runs.load_arr arr166 rfl (b1.blk (i := 0) rfl) a9) ?_)))))))
 refine WL.store_arr (i := 1) b1 rfl arr166 rfl (by rw [iv_length]; exact (List.length_replicate ..)) a9 rfl ?_
 intro f9 b2
 try dsimp only [List.set] at b2
 refine wn (CW.ret ?_)
 obtain rfl := H
 exact QW.retc rfl arr166 rfl (b2.blk (i := 1) rfl) a9 ⟨a9, rfl, b2.pick [] (by decide)⟩
def bits_RotateLeft32.rel (a0 a1 r0 : Int) : Prop := (0 ≤ (bits .and .u64 (u64.wrap a1) 31) ∧ (∃ a2 : Int, a2 = u64.wrap (32 - (bits .and .u64 (u64.wrap a1) 31)) ∧ (0 ≤ a2 ∧ (∃ a3 : Int, a3 = bits .or .u32 (shlI .u32 a0 (bits .and .u64 (u64.wrap a1) 31)) (shrI .u32 a0 a2) ∧ r0 = a3))))
theorem bits_RotateLeft32.calls (H : bits_RotateLeft32.rel iA iB iC) :
  Calls prog 86 #[.int .u32 iA, .int .i64 iB] w fun e w' => e = .returned (.int .u32 iC) ∧ St w w' [] := by
 refine CW.en func86 rfl 17 [_, _] (CW.sub [(0, _), (1, _)] ⟨rfl, rfl, trivial⟩ ?_)
 have st0 := St.refl w
 refine cr (WL.as rfl (WL.nx (WL.mv rfl (WL.v (Runs.conv underlying133 ⟨_, underlying3⟩ rfl rfl) (WL.v (Runs.band rfl rfl rfl) (WL.as rfl (WL.nx (WL.mv rfl (WL.mv rfl ?_)))))))))
 obtain ⟨a2, H⟩ := H
 refine WL.v (Runs.shl rfl rfl a2 rfl) (WL.mv rfl (WL.mv rfl ?_))
 obtain ⟨a7, a3, H⟩ := H
 refine WL.v (Runs.sub rfl rfl a3) ?_
 obtain ⟨a4, H⟩ := H
 refine WL.v (Runs.shr rfl rfl a4 rfl) ?_
 obtain ⟨a5, a6, H⟩ := H
 refine WL.v (Runs.bor rfl rfl a6) (WL.as rfl (wn (CW.ret ?_)))
 obtain rfl := H
 exact QW.ret1 rfl rfl ⟨rfl, st0.pick [] (by decide)⟩
def cipher_Block_1.rel (a0 a1 a2 a3 : Int) (x0 s0 : List Int) : Prop := ((0 ≤ a0 ∧ a0 < (16 : Int)) ∧ ((0 ≤ a1 ∧ a1 < (16 : Int)) ∧ (∃ a5 : Int, a5 = u32.wrap ((gn x0 (a0.toNat)) + (gn x0 (a1.toNat))) ∧ ((0 ≤ a0 ∧ a0 < (16 : Int)) ∧ (∃ a4 : List Int, a4 = List.set x0 (a0.toNat) a5 ∧ ((0 ≤ a2 ∧ a2 < (16 : Int)) ∧ ((0 ≤ a0 ∧ a0 < (16 : Int)) ∧ (∃ a6, bits_RotateLeft32.rel (bits .xor .u32 (gn a4 (a2.toNat)) (gn a4 (a0.toNat))) a3 a6 ∧ ((0 ≤ a2 ∧ a2 < (16 : Int)) ∧ (∃ a7 : List Int, a7 = List.set a4 (a2.toNat) a6 ∧ s0 = a7))))))))))
theorem cipher_Block_1.calls (T : List En) (st0 : St w w1 (.cells nA (iv .u32 lA) 166 :: T)) (hx0 : lA.length = 16) (H : cipher_Block_1.rel iA iB iC iD lA lB) :
  Calls prog 85 #[.int .i64 iA, .int .i64 iB, .int .i64 iC, .int .i64 iD, .pointer (sp nA)] w1 fun e w' => lB.length = 16 ∧ e = .returned (.tuple #[]) ∧ St w w' (.cells nA (iv .u32 lB) 166 :: T) := by
 refine CW.en func85 rfl 28 [_, _, _, _, _] ?_
 refine CW.su [(0, _), (1, _), (2, _), (3, _), (4, _)] ?_
 refine CW.seq ?_
 refine CW.region_qt 8 wide (by kernel_rfl) st0 ?_
 refine HL.mv rfl ?_
 obtain ⟨⟨b3, b4⟩, H⟩ := H
 refine HL.p (Runs.indexAddr_blk arr166 rfl rfl b3 b4 (o := (iA).toNat) (by first | rfl | omega)) ?_
 refine HL.v (fun wq sq => (Runs.load nagg24 rfl (sq.cell_iv (i := 0) rfl (by have := hx0; omega)))) ?_
 refine HL.mv rfl ?_
 obtain ⟨⟨b5, b6⟩, H⟩ := H
 refine HL.p (Runs.indexAddr_blk arr166 rfl rfl b5 b6 (o := (iB).toNat) (by first | rfl | omega)) ?_
 refine HL.v (fun wq sq => (Runs.load nagg24 rfl (sq.cell_iv (i := 0) rfl (by have := hx0; omega)))) ?_
 obtain ⟨b7, b8, H⟩ := H
 refine HL.p (Runs.add rfl rfl b8) ?_
 obtain ⟨⟨b9, c0⟩, H⟩ := H
 refine HL.p (Runs.indexAddr_blk arr166 rfl rfl b9 c0 (o := (iA).toNat) (by first | rfl | omega)) ?_
 refine HL.nil (fun d3 c1 => ?_)
 obtain ⟨a4, a8, H⟩ := H
 have a5 : a4.length = 16 := by rw [a8, List.length_set]; exact hx0
 refine WL.store_cells (i := 0) c1 rfl cells24 rfl (by rw [iv_length]; have := hx0; omega) rfl rfl ?_
 intro c2 a6
 have a6' := a6; (try dsimp only [List.set, ec, en] at a6'); rw [iv_set .u32 lA (iA.toNat) b7, ← a8] at a6'
 refine wn (CW.sub [(0, _), (2, _), (3, _), (4, _)] ⟨rfl, rfl, rfl, rfl, trivial⟩ ?_)
 refine CW.region_qt 11 wide (by kernel_rfl) a6' ?_
 refine HL.mv rfl (HL.mv rfl ?_)
 obtain ⟨⟨c3, c4⟩, H⟩ := H
 refine HL.p (Runs.indexAddr_blk arr166 rfl rfl c3 c4 (o := (iC).toNat) (by first | rfl | omega)) ?_
 refine HL.v (fun wq sq => (Runs.load nagg24 rfl (sq.cell_iv (i := 0) rfl (by have := a5; omega)))) ?_
 refine HL.mv rfl ?_
 obtain ⟨⟨c5, c6⟩, H⟩ := H
 refine HL.p (Runs.indexAddr_blk arr166 rfl rfl c5 c6 (o := (iA).toNat) (by first | rfl | omega)) ?_
 refine HL.v (fun wq sq => (Runs.load nagg24 rfl (sq.cell_iv (i := 0) rfl (by have := a5; omega)))) ?_
 refine HL.p (Runs.bxor rfl rfl rfl) (HL.mv rfl ?_)
 obtain ⟨a9, c7, H⟩ := H
 refine HL.call Wanted.none ent86 rfl (fun wq sq => (bits_RotateLeft32.calls c7).mono (by rintro _ _ ⟨rfl, sc⟩; exact ⟨rfl, sq.call sc⟩)) ?_
 obtain ⟨⟨c8, c9⟩, H⟩ := H
 refine HL.p (Runs.indexAddr_blk arr166 rfl rfl c8 c9 (o := (iC).toNat) (by first | rfl | omega)) ?_
 refine HL.nil (fun d4 d0 => ?_)
 obtain ⟨b1, b2, H⟩ := H
 have d1 : b1.length = 16 := by rw [b2, List.length_set]; exact a5
 refine WL.store_cells (i := 0) d0 rfl cells24 rfl (by rw [iv_length]; have := a5; omega) rfl rfl ?_
 intro d2 a7
 have a7' := a7; (try dsimp only [List.set, ec, en] at a7'); rw [iv_set .u32 a4 (iC.toNat) a9, ← b2] at a7'
 refine WL.nil ?_
 obtain rfl := H
 exact QW.end0 rfl ⟨d1, rfl, (St.pickT (L := [_]) a7' [0] (by decide))⟩
def cipher_Block.L2 (a2 : Int) (K_L1 : (List Int) → Int → Prop) : Nat → (List Int) → Int → Prop
 | 0, _, _ => False
 | kL2 + 1, a3, a1 => ((a1 < 8 ∧ ((0 ≤ a1 ∧ a1 < (8 : Int)) ∧ (∃ a0 : List Int, a0 = List.take 4 (List.drop ((a1).toNat * 4) tab1) ∧ (∃ a4, cipher_Block_1.rel (gn a0 0) (gn a0 1) (gn a0 3) 16 a3 a4 ∧ (∃ a5, cipher_Block_1.rel (gn a0 2) (gn a0 3) (gn a0 1) 12 a4 a5 ∧ (∃ a6, cipher_Block_1.rel (gn a0 0) (gn a0 1) (gn a0 3) 8 a5 a6 ∧ (∃ a7, cipher_Block_1.rel (gn a0 2) (gn a0 3) (gn a0 1) 7 a6 a7 ∧ cipher_Block.L2 a2 K_L1 kL2 a7 (i64.wrap (a1 + 1))))))))) ∨ (¬ (a1 < 8) ∧ K_L1 a3 (i64.wrap (a2 + 1))))
def cipher_Block.L3 (r0 a2 a3 : List Int) : Nat → (List Int) → Int → Prop
 | 0, _, _ => False
 | kL3 + 1, a1, a0 => ((a0 < 16 ∧ ((0 ≤ a0 ∧ a0 < (16 : Int)) ∧ ((0 ≤ (i64.wrap (4 * a0)) ∧ (i64.wrap (4 * a0)) ≤ (64 : Int) ∧ (64 : Int) ≤ (64 : Int)) ∧ ((0 ≤ a0 ∧ a0 < (16 : Int)) ∧ (∃ a4 : Int, a4 = u32.wrap ((gn a3 (a0.toNat)) + (gn a2 (a0.toNat))) ∧ (∃ a5, word_Put.rel (u64.wrap a4) 4 a5 ∧ (∃ a6 : List Int, a6 = cpy a1 (0 + (i64.wrap (4 * a0)).toNat) ((prt a1 (i64.wrap (4 * a0)) (64 : Int)).length) a5 ∧ cipher_Block.L3 r0 a2 a3 kL3 a6 (i64.wrap (a0 + 1))))))))) ∨ (¬ (a0 < 16) ∧ r0 = a1))
def cipher_Block.L1 (r0 a1 : List Int) : Nat → (List Int) → Int → Prop
 | 0, _, _ => False
 | kL1 + 1, a2, a0 => ((a0 < 10 ∧ (∃ k_ : Nat, cipher_Block.L2 a0 (cipher_Block.L1 r0 a1 kL1) k_ a2 0)) ∨ (¬ (a0 < 10) ∧ (∃ k_ : Nat, cipher_Block.L3 r0 a1 a2 k_ (List.replicate 64 (0 : Int)) 0)))
def cipher_Block.rel (l0 : List Int) (a1 : Int) (l2 r0 : List Int) : Prop := (∃ a0, cipher_words.rel l0 a1 l2 a0 ∧ (∃ k_ : Nat, cipher_Block.L1 r0 a0 k_ a0 0))
theorem cipher_Block.calls (hG1 : Src w (sp 1) (iv .i64 tab1)) (hl0 : lA.length = 32) (hl2 : lB.length = 12) (H : cipher_Block.rel lA iA lB lC) :
  Calls prog 78 #[.agg (iv .u8 lA).toArray, .int .u32 iA, .agg (iv .u8 lB).toArray] w fun e w' => lC.length = 64 ∧ e = .returned (.agg (iv .u8 lC).toArray) ∧ St w w' [] := by
 refine CW.en func78 rfl 79 [_, _, _] (CW.sub [(0, _), (1, _), (2, _)] ⟨rfl, rfl, rfl, trivial⟩ ?_)
 have st0 := St.refl w
 refine cr (WL.box st0 rfl rfl ?_)
 intro a6 l5 g6
 refine WL.box g6 rfl rfl ?_
 intro a7 l6 g7
 refine WL.alloc g7 arr158.zero ?_
 intro a0 g8 d3
 refine WL.nx (WL.v (Runs.load_arr arr23 rfl (d3.blk (i := 2) rfl) hl0) (WL.mv rfl (WL.v (Runs.load_arr arr140 rfl (d3.blk (i := 1) rfl) hl2) ?_)))
 obtain ⟨a4, g9, H⟩ := H
 refine wC ent84 rfl (cipher_words.calls hl0 hl2 g9) ?_
 rintro _ h0 ⟨c1, rfl, h1⟩
 have h2 := d3.call h1
 refine ⟨_, rfl, WL.alloc h2 arr166.zero ?_⟩
 intro a2 l7 h3
 refine WL.store_arr (i := 0) h3 rfl arr166 rfl (by rw [iv_length]; exact (List.length_replicate ..)) c1 rfl ?_
 intro h4 c5
 try dsimp only [List.set] at c5
 refine wn (CW.sub [(6, _), (7, _)] ⟨rfl, rfl, trivial⟩ (cr (WL.v (Runs.load_arr arr166 rfl (c5.blk (i := 0) rfl) c1) (WL.alloc c5 arr166.zero ?_))))
 intro a3 l8 h5
 refine WL.store_arr (i := 0) h5 rfl arr166 rfl (by rw [iv_length]; exact (List.length_replicate ..)) c1 rfl ?_
 intro h6 d4
 try dsimp only [List.set] at d4
 refine WL.nx (WL.v (Runs.makeFunc rfl) (WL.as rfl (wn (CW.seq (cr (WL.mv rfl (wn (CW.block ?_))))))))
 obtain ⟨h7, H⟩ := H
 refine CW.su [(6, _), (7, _), (8, _), (9, _), (21, _)] ?_
 refine CW.lp (fun kL1 l_ w_ => ∃ b0 b2, l_ = [(6, .pointer (sp a0)), (7, .pointer (sp a2)), (8, .pointer (sp a3)), (9, .func (.func 85) #[] #[.pointer (sp a3)]), (21, .int .i64 b2)] ∧ cipher_Block.L1 lC a4 kL1 b0 b2 ∧ (b0.length = 16) ∧ St w w_ [.cells a3 (iv .u32 b0) 166, .cells a2 (iv .u32 a4) 166, .cells a0 (iv .u8 (List.replicate 64 (0 : Int))) 158, .cells a7 (iv .u8 lB) 140, .cells a6 (iv .u8 lA) 23]) (k := h7) ⟨a4, 0, rfl, H, c1, d4⟩ ?_
 rintro kL1 l9 m0 ⟨b0, b2, rfl, H, d5, d6⟩
 refine cr (WL.v (Runs.lss rfl rfl rfl) (wn (CW.seq ?_)))
 rcases H with ⟨d7, H⟩ | ⟨d7, H⟩
 ·have d8 := (decide_eq_true d7)
  refine CW.ct rfl d8 (CW.skip (QW.then_n (CW.seq (CW.block (cr ?_)))))
  refine WL.v (Runs.load_srcR row170 rfl (hG1.ext d6) (by rw [iv_length]; exact tab1_len)) ?_
  refine WL.mv rfl (wn (CW.block ?_))
  obtain ⟨h8, H⟩ := H
  refine CW.su [(6, _), (7, _), (8, _), (9, _), (21, _), (22, _), (23, _), (24, _)] ?_
  refine CW.lp (fun kL2 l_ w_ => ∃ b6 b8, l_ = [(6, .pointer (sp a0)), (7, .pointer (sp a2)), (8, .pointer (sp a3)), (9, .func (.func 85) #[] #[.pointer (sp a3)]), (21, .int .i64 b2), (22, .bool (decide (b2 < 10))), (23, .agg (iv .i64 tab1).toArray), (24, .int .i64 b8)] ∧ cipher_Block.L2 b2 (cipher_Block.L1 lC a4 kL1) kL2 b6 b8 ∧ (b6.length = 16) ∧ St w w_ [.cells a3 (iv .u32 b6) 166, .cells a2 (iv .u32 a4) 166, .cells a0 (iv .u8 (List.replicate 64 (0 : Int))) 158, .cells a7 (iv .u8 lB) 140, .cells a6 (iv .u8 lA) 23]) (k := h8) ⟨b0, 0, rfl, H, d5, d6⟩ ?_
  rintro kL2 m1 m2 ⟨b6, b8, rfl, H, f4, f5⟩
  refine cr (WL.v (Runs.lss rfl rfl rfl) (wn (CW.seq ?_)))
  rcases H with ⟨d9, H⟩ | ⟨d9, H⟩
  ·have e0 := (decide_eq_true d9)
   refine CW.ct rfl e0 (CW.skip (QW.then_n (CW.seq (CW.block (cr ?_)))))
   obtain ⟨⟨h9, i0⟩, H⟩ := H
   obtain ⟨a5, f6, H⟩ := H
   have b1 : a5.length = 4 := by rw [f6, List.length_take, List.length_drop, tab1_len]; omega
   refine WL.v (Runs.index_row underlying170 row169 rfl rfl h9 i0 rfl (by rw [iv_part, ← f6])) ?_
   refine WL.alloc f5 arr169.zero ?_
   intro b4 m3 i1
   refine WL.store_arr (i := 0) i1 rfl arr169 rfl (by rw [iv_length]; exact (List.length_replicate ..)) b1 rfl ?_
   intro e1 b9
   try dsimp only [List.set] at b9
   refine WL.nx (WL.mv rfl ?_)
   refine WL.v (Runs.indexAddr_blk arr169 rfl rfl (by decide) (by decide) (o := 0) (by first | rfl | omega)) ?_
   refine WL.v (Runs.load nagg3 rfl (b9.cell_iv (i := 0) rfl (by have := b1; omega))) ?_
   refine WL.v (Runs.indexAddr_blk arr169 rfl rfl (by decide) (by decide) (o := 1) (by first | rfl | omega)) ?_
   refine WL.v (Runs.load nagg3 rfl (b9.cell_iv (i := 0) rfl (by have := b1; omega))) ?_
   refine WL.v (Runs.indexAddr_blk arr169 rfl rfl (by decide) (by decide) (o := 3) (by first | rfl | omega)) ?_
   refine WL.v (Runs.load nagg3 rfl (b9.cell_iv (i := 0) rfl (by have := b1; omega))) ?_
   have e2 := b9.pick [1, 0, 2, 3, 4, 5] (by decide)
   try dsimp only [List.set, ec, en] at e2
   obtain ⟨e3, i2, H⟩ := H
   refine WL.callv Wanted.none ent85 rfl rfl (cipher_Block_1.calls [.cells b4 (iv .i64 a5) 169, .cells a2 (iv .u32 a4) 166, .cells a0 (iv .u8 (List.replicate 64 (0 : Int))) 158, .cells a7 (iv .u8 lB) 140, .cells a6 (iv .u8 lA) 23] e2 f4 i2) ?_
   rintro _ f7 ⟨i3, rfl, i4⟩
   have c6 : St w f7 [.cells a3 (iv .u32 e3) 166, .cells b4 (iv .i64 a5) 169, .cells a2 (iv .u32 a4) 166, .cells a0 (iv .u8 (List.replicate 64 (0 : Int))) 158, .cells a7 (iv .u8 lB) 140, .cells a6 (iv .u8 lA) 23] := i4
   refine ⟨_, rfl, WL.nx (WL.mv rfl ?_)⟩
   refine WL.v (Runs.indexAddr_blk arr169 rfl rfl (by decide) (by decide) (o := 2) (by first | rfl | omega)) ?_
   refine WL.v (Runs.load nagg3 rfl (c6.cell_iv (i := 1) rfl (by have := b1; omega))) ?_
   refine WL.v (Runs.indexAddr_blk arr169 rfl rfl (by decide) (by decide) (o := 3) (by first | rfl | omega)) ?_
   refine WL.v (Runs.load nagg3 rfl (c6.cell_iv (i := 1) rfl (by have := b1; omega))) ?_
   refine WL.v (Runs.indexAddr_blk arr169 rfl rfl (by decide) (by decide) (o := 1) (by first | rfl | omega)) ?_
   refine WL.v (Runs.load nagg3 rfl (c6.cell_iv (i := 1) rfl (by have := b1; omega))) ?_
   obtain ⟨e4, i5, H⟩ := H
   refine WL.callv Wanted.none ent85 rfl rfl (cipher_Block_1.calls [.cells b4 (iv .i64 a5) 169, .cells a2 (iv .u32 a4) 166, .cells a0 (iv .u8 (List.replicate 64 (0 : Int))) 158, .cells a7 (iv .u8 lB) 140, .cells a6 (iv .u8 lA) 23] c6 i3 i5) ?_
   rintro _ f8 ⟨i6, rfl, i7⟩
   have c7 : St w f8 [.cells a3 (iv .u32 e4) 166, .cells b4 (iv .i64 a5) 169, .cells a2 (iv .u32 a4) 166, .cells a0 (iv .u8 (List.replicate 64 (0 : Int))) 158, .cells a7 (iv .u8 lB) 140, .cells a6 (iv .u8 lA) 23] := i7
   refine ⟨_, rfl, WL.nx (WL.mv rfl ?_)⟩
   refine WL.v (Runs.indexAddr_blk arr169 rfl rfl (by decide) (by decide) (o := 0) (by first | rfl | omega)) ?_
   refine WL.v (Runs.load nagg3 rfl (c7.cell_iv (i := 1) rfl (by have := b1; omega))) ?_
   refine WL.v (Runs.indexAddr_blk arr169 rfl rfl (by decide) (by decide) (o := 1) (by first | rfl | omega)) ?_
   refine WL.v (Runs.load nagg3 rfl (c7.cell_iv (i := 1) rfl (by have := b1; omega))) ?_
   refine WL.v (Runs.indexAddr_blk arr169 rfl rfl (by decide) (by decide) (o := 3) (by first | rfl | omega)) ?_
   refine WL.v (Runs.load nagg3 rfl (c7.cell_iv (i := 1) rfl (by have := b1; omega))) ?_
   obtain ⟨e5, i8, H⟩ := H
   refine WL.callv Wanted.none ent85 rfl rfl (cipher_Block_1.calls [.cells b4 (iv .i64 a5) 169, .cells a2 (iv .u32 a4) 166, .cells a0 (iv .u8 (List.replicate 64 (0 : Int))) 158, .cells a7 (iv .u8 lB) 140, .cells a6 (iv .u8 lA) 23] c7 i6 i8) ?_
   rintro _ f9 ⟨i9, rfl, j0⟩
   have c8 : St w f9 [.cells a3 (iv .u32 e5) 166, .cells b4 (iv .i64 a5) 169, .cells a2 (iv .u32 a4) 166, .cells a0 (iv .u8 (List.replicate 64 (0 : Int))) 158, .cells a7 (iv .u8 lB) 140, .cells a6 (iv .u8 lA) 23] := j0
   refine ⟨_, rfl, wn (CW.region (WL.mv rfl ?_))⟩
   refine WL.v (Runs.indexAddr_blk arr169 rfl rfl (by decide) (by decide) (o := 2) (by first | rfl | omega)) ?_
   refine WL.v (Runs.load nagg3 rfl (c8.cell_iv (i := 1) rfl (by have := b1; omega))) ?_
   refine WL.v (Runs.indexAddr_blk arr169 rfl rfl (by decide) (by decide) (o := 3) (by first | rfl | omega)) ?_
   refine WL.v (Runs.load nagg3 rfl (c8.cell_iv (i := 1) rfl (by have := b1; omega))) ?_
   refine WL.v (Runs.indexAddr_blk arr169 rfl rfl (by decide) (by decide) (o := 1) (by first | rfl | omega)) ?_
   refine WL.v (Runs.load nagg3 rfl (c8.cell_iv (i := 1) rfl (by have := b1; omega))) ?_
   obtain ⟨e6, j1, H⟩ := H
   refine WL.callv Wanted.none ent85 rfl rfl (cipher_Block_1.calls [.cells b4 (iv .i64 a5) 169, .cells a2 (iv .u32 a4) 166, .cells a0 (iv .u8 (List.replicate 64 (0 : Int))) 158, .cells a7 (iv .u8 lB) 140, .cells a6 (iv .u8 lA) 23] c8 i9 j1) ?_
   rintro _ j2 ⟨j3, rfl, j4⟩
   have e7 : St w j2 [.cells a3 (iv .u32 e6) 166, .cells b4 (iv .i64 a5) 169, .cells a2 (iv .u32 a4) 166, .cells a0 (iv .u8 (List.replicate 64 (0 : Int))) 158, .cells a7 (iv .u8 lB) 140, .cells a6 (iv .u8 lA) 23] := j4
   refine ⟨_, rfl, WL.nil (QW.blk_n (QW.then_n (CW.region (WL.v (Runs.add rfl rfl rfl) (WL.mv rfl (WL.nil ?_))))))⟩
   have e7' := e7.pick [0, 2, 3, 4, 5] (by decide)
   exact QW.a ⟨e6, i64.wrap (b8 + 1), rfl, H, j3, e7'⟩
  have e0 := (decide_eq_false d9)
  refine CW.cf rfl e0 (CW.exit (QW.then_x (QW.then_x (QW.blk_x (QW.blk_n (QW.then_n (CW.region (WL.v (Runs.add rfl rfl rfl) (WL.mv rfl (WL.nil ?_))))))))))
  exact QW.a ⟨b6, i64.wrap (b2 + 1), rfl, H, f4, f5⟩
 have d8 := (decide_eq_false d7)
 refine CW.cf rfl d8 (CW.exit (QW.then_x (QW.then_x (QW.blk_x (QW.then_n (cr (WL.alloc d6 arr158.zero ?_)))))))
 intro b7 m4 g0
 refine wn (CW.seq (cr (WL.v (Runs.load_arr arr166 rfl (g0.blk (i := 1) rfl) d5) (WL.mv rfl (wn (CW.block ?_))))))
 obtain ⟨j5, H⟩ := H
 refine CW.su [(6, _), (7, _), (12, _), (61, _), (62, _)] ?_
 refine CW.lp (fun kL3 l_ w_ => ∃ a9 a8, l_ = [(6, .pointer (sp a0)), (7, .pointer (sp a2)), (12, .pointer (sp b7)), (61, .agg (iv .u32 b0).toArray), (62, .int .i64 a8)] ∧ cipher_Block.L3 lC a4 b0 kL3 a9 a8 ∧ (a9.length = 64) ∧ St w w_ [.cells b7 (iv .u8 a9) 158, .cells a3 (iv .u32 b0) 166, .cells a2 (iv .u32 a4) 166, .cells a0 (iv .u8 (List.replicate 64 (0 : Int))) 158, .cells a7 (iv .u8 lB) 140, .cells a6 (iv .u8 lA) 23]) (k := j5) ⟨List.replicate 64 (0 : Int), 0, rfl, H, (List.length_replicate ..), g0⟩ ?_
 rintro kL3 m5 m6 ⟨a9, a8, rfl, H, b5, e8⟩
 refine cr (WL.v (Runs.lss rfl rfl rfl) (wn (CW.seq ?_)))
 rcases H with ⟨e9, H⟩ | ⟨e9, H⟩
 ·have f0 := (decide_eq_true e9)
  refine CW.ct rfl f0 (CW.skip (QW.then_n (CW.seq (CW.block (cr (WL.mv rfl ?_))))))
  obtain ⟨⟨j6, j7⟩, H⟩ := H
  refine WL.v (Runs.index_arr arr166 rfl d5 rfl j6 j7 (j := (a8).toNat) (by first | rfl | omega)) ?_
  refine WL.as rfl (WL.as rfl (wn ?_))
  refine CW.region_awh (C := fun w_ => St w w_ [.cells b7 (iv .u8 a9) 158, .cells a3 (iv .u32 b0) 166, .cells a2 (iv .u32 a4) 166, .cells a0 (iv .u8 (List.replicate 64 (0 : Int))) 158, .cells a7 (iv .u8 lB) 140, .cells a6 (iv .u8 lA) 23]) 10 wide (by kernel_rfl) e8 (fun j8 b3 => ?_)
  refine AWH.tk 0 rfl b3 (fun wq sq => (Runs.move rfl)) ?_
  refine AWH.tk 1 rfl b3 (fun wq sq => (Runs.mul rfl rfl rfl)) ?_
  obtain ⟨⟨c2, c9, j9⟩, H⟩ := H
  have d0 : (64 : Int) ≤ (a9.length : Int) := by rw [b5]; exact j9
  obtain ⟨m7, g1⟩ : ∃ B_, B_ = subA (sp b7) (i64.wrap (4 * a8)).toNat 64 := ⟨_, rfl⟩
  obtain ⟨c3, c0⟩ : ∃ n_ : Nat, n_ = (prt a9 (i64.wrap (4 * a8)) (64 : Int)).length := ⟨_, rfl⟩
  obtain ⟨k0, f1⟩ : ∃ c_ : Nat, c_ = 64 - (i64.wrap (4 * a8)).toNat := ⟨_, rfl⟩
  have k1 : c3 ≤ k0 := by rw [c0, prt_length c2 c9 d0]; rw [f1]; omega
  refine AWH.tk 2 rfl b3 (fun wq sq => (Runs.slice_arr_l arr158 rfl rfl c2 (by omega) g1 (N := c3) (by rw [c0, prt_length c2 c9 d0]; omega) f1)) ?_
  refine AWH.tk 3 rfl b3 (fun wq sq => (Runs.move rfl)) ?_
  refine AWH.tk 4 rfl b3 (fun wq sq => (Runs.move rfl)) ?_
  obtain ⟨⟨k2, k3⟩, H⟩ := H
  refine AWH.tk 5 rfl b3 (fun wq sq => (Runs.indexAddr_blk arr166 rfl rfl k2 k3 (o := (a8).toNat) (by first | rfl | omega))) ?_
  refine AWH.tk 6 rfl b3 (fun wq sq => (Runs.load nagg24 rfl (sq.cell_iv (i := 2) rfl (by have := c1; omega)))) ?_
  obtain ⟨k4, k5, H⟩ := H
  refine AWH.tk 7 rfl b3 (fun wq sq => (Runs.add rfl rfl k5)) ?_
  refine AWH.tk 8 rfl b3 (fun wq sq => (Runs.conv underlying37 ⟨_, underlying24⟩ rfl rfl)) ?_
  refine AWH.step 9 rfl (by decide) (by kernel_rfl) (fun inv_ hs_ hk_ hc_ hn_ => ?_)
  obtain ⟨d1, k6, H⟩ := H
  refine wC ent32 rfl (word_Put.calls k6) ?_
  rintro _ k7 ⟨g2, g3, g4, k8, rfl, k9⟩
  have f2 := b3.call k9
  refine ⟨_, rfl, WL.nil ?_⟩
  refine AWH.back (St.subset b3 f2 (mcD 1 2 3 4 (mcB 5 6 (fun x_ h_ => by cases h_)))) inv_ hs_ hk_ hc_ hn_ ?_
  refine AWH.tail (by kernel_rfl) ?_
  refine AW.step 10 rfl (by kernel_rfl) ?_
  obtain ⟨f3, g5, H⟩ := H
  have hfit_ : 0 + (i64.wrap (4 * a8)).toNat + c3 ≤ a9.length := by have := b5; have := (b5).symm; have := prt_length c2 c9 d0; have := c0; omega
  refine WL.copy_cells (i := 1) (o := 0 + (i64.wrap (4 * a8)).toNat) f2 rfl underlying25 cells5 rfl rfl (subA_map (N' := 1) (fun _ => map_add_zero) g1 (fun _ => by have := (b5).symm; have := prt_length c2 c9 d0; have := c0; have := k1; have := f1; omega)) (by rw [iv_length]; exact hfit_) (f2.src_sl (k := 0) rfl) (k8.trans (iv_length .u8 _).symm) (one_iv .u8 _) ?_
  intro l1 c4
  have l3 : f3.length = a9.length := by rw [g5]; exact cpy_length (by have := (show c3 = (prt a9 (i64.wrap (4 * a8)) (64 : Int)).length from c0); omega)
  have c4' : St w l1 [.sl g2 g3 g4 (iv .u8 d1) 5 1, .cells b7 (iv .u8 f3) 158, .cells a3 (iv .u32 b0) 166, .cells a2 (iv .u32 a4) 166, .cells a0 (iv .u8 (List.replicate 64 (0 : Int))) 158, .cells a7 (iv .u8 lB) 140, .cells a6 (iv .u8 lA) 23] := by rw [g5, ← (show c3 = (prt a9 (i64.wrap (4 * a8)) (64 : Int)).length from c0), ← cpy_iv .u8]; exact c4
  have m8 := iv_length .u8 d1
  refine WL.nil ?_
  refine AW.back  ?_
  refine AW.done (by kernel_rfl) ?_
  refine QW.blk_n (QW.then_n (CW.region (WL.v (Runs.add rfl rfl rfl) (WL.mv rfl (WL.nil ?_)))))
  have c4'' := c4'.pick [1, 2, 3, 4, 5, 6] (by decide)
  exact QW.a ⟨f3, i64.wrap (a8 + 1), rfl, H, (l3.trans b5), c4''⟩
 have f0 := (decide_eq_false e9)
 refine CW.cf rfl f0 (CW.exit (QW.then_x (QW.then_x (QW.blk_x (QW.then_n (cr (WL.v (Runs.load_arr arr158 rfl (e8.blk (i := 0) rfl) b5) ?_)))))))
 refine WL.store_arr (i := 3) e8 rfl arr158 rfl (by rw [iv_length]; exact (List.length_replicate ..)) b5 rfl ?_
 intro l4 d2
 try dsimp only [List.set] at d2
 refine wn (CW.ret ?_)
 obtain rfl := H
 exact QW.retc rfl arr158 rfl (d2.blk (i := 3) rfl) b5 ⟨b5, rfl, d2.pick [] (by decide)⟩
def cipher_Crypt.L1 (a3 : List Int) (a4 : Int) (a1 : Nat) (a5 : (List Int) → Int → Prop) (a6 : Nat → ((List Int) × Int) → (List Int) × Int) (a7 : List Int) : Nat → (List Int) → Int → Prop
 | 0, _, _ => False
 | kL1 + 1, a2, a0 => ((a0 < ((chl a3 64 a1).length : Int) ∧ ((0 ≤ a0 ∧ a0 < ((chl a2 64 a1).length : Int)) ∧ ((0 ≤ a0 ∧ a0 < (64 : Int)) ∧ (∃ a8 : Int, a8 = bits .xor .u8 (gn (chl a2 64 a1) (a0.toNat)) (gn a7 (a0.toNat)) ∧ ((0 ≤ a0 ∧ a0 < ((chl a2 64 a1).length : Int)) ∧ (∃ a9 : List Int, a9 = List.set a2 (64 * a1 + (a0.toNat)) a8 ∧ cipher_Crypt.L1 a3 a4 a1 a5 a6 a7 kL1 a9 (i64.wrap (a0 + 1)))))))) ∨ (¬ (a0 < ((chl a3 64 a1).length : Int)) ∧ (a5 a2 (u32.wrap (a4 + 1)) ∧ (a2, u32.wrap (a4 + 1)) = a6 a1 (a3, a4))))
def cipher_Crypt.rel (l0 : List Int) (a1 : Int) (l2 l3 r0 : List Int) (r1 : Int) : Prop := (∃ a7 : Int, a7 = u64.wrap ((u64.wrap ((u64.wrap (l3.length : Int)) + 64)) - 1) ∧ (∃ a4 : Int, a4 = u64.wrap ((u64.wrap a1) + (u64.wrap (Int.tdiv a7 64))) ∧ ((a4 > 4294967296 ∧ r0 = [] ∧ r1 = 1) ∨ (¬ (a4 > 4294967296) ∧ (∃ a0, slices_Clone_s_byte_byte.rel l3 a0 ∧ (∃ a2, (a0.length ≤ 64 * a2 ∧ (∀ j : Nat, j < a2 → 64 * j < a0.length) ∧ a0.length ≤ 1099511627776) ∧ ∃ a5 : (List Int) → Int → Prop, ∃ a8 : Nat → ((List Int) × Int) → ((List Int) × Int), a5 a0 a1 ∧ (∀ (a9 : Nat) (a3 : List Int) (a6 : Int), a9 < a2 → a5 a3 a6 → a3.length = a0.length → (∃ b0, cipher_Block.rel l0 a6 l2 b0 ∧ (∃ k_ : Nat, cipher_Crypt.L1 a3 a6 a9 a5 a8 b0 k_ a3 0))) ∧ ∃ b1 b2, (b1, b2) = (List.range a2).foldl (fun s_ x_ => a8 x_ s_) (a0, a1) ∧ r0 = b1 ∧ r1 = 0))))))
theorem cipher_Crypt.calls (hG1 : Src w (sp 1) (iv .i64 tab1)) (hl0 : lA.length = 32) (hl2 : lB.length = 12) (hs3 : Src w pA (iv .u8 lC)) (hn3 : nA = lC.length) (hc3 : nA ≤ nB) (H : cipher_Crypt.rel lA iA lB lC lD iB) :
  Calls prog 62 #[.agg (iv .u8 lA).toArray, .int .u32 iA, .agg (iv .u8 lB).toArray, .slice pA nA nB] w fun e w' => ∃ B0 q0 z0, z0 = lD.length ∧ e = .returned (.tuple #[.slice B0 z0 q0, .int .i64 iB]) ∧ St w w' [.sl B0 q0 z0 (iv .u8 lD) 5 1] := by
 refine CW.enterM func62 rfl (n := 53) rfl [.agg (iv .u8 lA).toArray, .int .u32 iA, .agg (iv .u8 lB).toArray, .slice pA nA nB] (Nat.le_of_ble_eq_true rfl) (CW.sub [(0, _), (1, _), (2, _), (3, _)] ⟨rfl, rfl, rfl, rfl, trivial⟩ ?_)
 have st0 := St.refl w
 refine cr (WL.box st0 rfl rfl ?_)
 intro a5 j5 e9
 refine WL.box e9 rfl rfl ?_
 intro a6 j6 f0
 refine WL.box f0 rfl rfl ?_
 intro a7 d8 c4
 refine WL.as rfl (WL.as rfl (WL.nx (WL.mv rfl ?_)))
 refine WL.v (Runs.len_sl underlying25 rfl (by rw [hn3])) ?_
 refine WL.v (Runs.conv underlying37 ⟨_, underlying3⟩ rfl rfl) (WL.v (Runs.add rfl rfl rfl) ?_)
 obtain ⟨f1, f2, H⟩ := H
 refine WL.v (Runs.sub rfl rfl f2) ?_
 refine WL.v (Runs.quo rfl rfl (by decide) rfl) ?_
 refine WL.as rfl (wn ?_)
 refine CW.su [(3, _), (4, _), (5, _), (6, _), (8, _), (9, _), (10, _)] ?_
 refine CW.seq (cr (WL.ld 1 nagg24 c4 rfl rfl rfl (WL.v (Runs.conv underlying37 ⟨_, underlying24⟩ rfl rfl) (WL.mv rfl ?_))))
 obtain ⟨d9, f3, H⟩ := H
 refine WL.v (Runs.add rfl rfl f3) (WL.v (Runs.gtr rfl rfl rfl) (wn ?_))
 rcases H with ⟨c6, H⟩ | ⟨c6, H⟩
 ·have c7 := (decide_eq_true c6)
  refine CW.ct rfl c7 (cr (WL.as rfl (WL.as rfl (wn (CW.ret (QW.then_r ?_))))))
  have c8 := c4.nil_sl 5 1
  have c8 : St w d8 [.sl none 0 0 (iv .u8 ([] : List Int)) 5 1, .cells a7 (iv .u8 lB) 140, .cells a6 [.int .u32 iA] 24, .cells a5 (iv .u8 lA) 23] := c8
  obtain ⟨rfl, rfl⟩ := H
  exact QW.ret2m rfl rfl rfl ⟨none, 0, 0, rfl, rfl, c8.pick [0] (by decide)⟩
 have c7 := (decide_eq_false c6)
 refine CW.cf rfl c7 (CW.skip (QW.then_n ?_))
 refine CW.su [(3, _), (4, _), (5, _), (6, _), (8, _), (9, _)] ?_
 refine cr (WL.mv rfl ?_)
 obtain ⟨c0, f4, H⟩ := H
 refine wC ent48 rfl (slices_Clone_s_byte_byte.calls (hs3.ext c4) (hn3) (hc3) f4) ?_
 rintro _ e0 ⟨a3, a4, a0, b6, rfl, f5⟩
 have f6 := c4.call f5
 refine ⟨_, rfl, WL.as rfl (wn (CW.seq (cr (WL.mv rfl ?_))))⟩
 refine wC ent72 rfl (slices_Chunk.calls (by decide)) ?_
 rintro _ f7 ⟨a9, b0, rfl, f8⟩
 have c5 := f6.call f8
 refine ⟨_, rfl, wn (CW.block ?_)⟩
 obtain ⟨f9, ⟨g0, e1, g1⟩, e2, e3, g2, g3, g4, g5, g6, H⟩ := H
 refine CW.su [(4, _), (5, _), (6, _), (8, _), (9, _), (11, _), (29, _)] ?_
 have hc1 := c5.cell (k := 1) (i := 0) rfl rfl
 have hc2 := c5.cell (k := 0) (i := 0) rfl rfl
 refine CW.range2 (α := Fin f9) (σ := (List Int) × Int) c5 rfl ent81 (chunk_seq (c := 64) hc1 hc2 (c5.cap (i := 2) rfl) (by decide) (by decide) (by rw [b6]; exact g1) (by rw [b6]; exact g0) (fun j hj => by rw [b6]; exact e1 j hj)) (fun h k => h.trans k) (fun W j o o2 h1 h2 h3 => KpB.put (block_lt_of_cell hc1) (block_lt_of_cell hc2) W j o o2 h1 h2 h3) (fun pre_ (s_ : (List Int) × Int) => s_ = pre_.foldl (fun s_ x_ => e3 x_.val s_) (c0, iA) ∧ e2 (s_.1) (s_.2) ∧ a0 = (s_.1).length) (fun (s_ : (List Int) × Int) => [.cells b0 [.int .i64 ((64 : Nat) : Int)] 3, .cells a9 [.slice a3 a0 a4] 25, .sl a3 a4 a0 (iv .u8 (s_.1)) 5 1, .cells a7 (iv .u8 lB) 140, .cells a6 [.int .u32 (s_.2)] 24, .cells a5 (iv .u8 lA) 23]) (fun _ => rfl) (fun s_ t_ _ h_ => blk_of_map (L1 := (fun (s_ : (List Int) × Int) => [.cells b0 [.int .i64 ((64 : Nat) : Int)] 3, .cells a9 [.slice a3 a0 a4] 25, .sl a3 a4 a0 (iv .u8 (s_.1)) 5 1, .cells a7 (iv .u8 lB) 140, .cells a6 [.int .u32 (s_.2)] 24, .cells a5 (iv .u8 lA) 23]) s_) (L2 := (fun (s_ : (List Int) × Int) => [.cells b0 [.int .i64 ((64 : Nat) : Int)] 3, .cells a9 [.slice a3 a0 a4] 25, .sl a3 a4 a0 (iv .u8 (s_.1)) 5 1, .cells a7 (iv .u8 lB) 140, .cells a6 [.int .u32 (s_.2)] 24, .cells a5 (iv .u8 lA) 23]) t_) rfl h_) (fun _ _ _ _ sa sb => ⟨(sb.cell (k := 1) rfl rfl).trans (sa.cell (k := 1) rfl rfl).symm, (sb.cell (k := 0) rfl rfl).trans (sa.cell (k := 0) rfl rfl).symm⟩) (c0, iA) ⟨rfl, g2, b6⟩ rfl ?_ rfl ?_
 ·rintro j_ pre_ a2 ⟨b1, b2⟩ e4 b7 ⟨g7, g8, c9⟩ b5
  try dsimp only [List.set, ec, en] at b5
  have g9 : 64 * a2.val < a0 := by have := e1 a2.val a2.isLt; have := b6; omega
  have H := g3 a2.val b1 b2 a2.isLt g8 (c9.symm.trans b6)
  refine CF.block ?_
  refine CF.seq ?_
  refine CF.region (.inr ⟨j_, rfl⟩) (fun ⟨a, w, h⟩ => h) rfl ?_
  refine WL.v (Runs.load_arr arr23 rfl (b5.blk (i := 5) rfl) hl0) (WL.ld 4 nagg24 b5 rfl rfl rfl (WL.v (Runs.load_arr arr140 rfl (b5.blk (i := 3) rfl) hl2) ?_))
  obtain ⟨b4, h0, H⟩ := H
  refine wC ent78 rfl (cipher_Block.calls (hG1.ext b5) hl0 hl2 h0) ?_
  rintro _ h4 ⟨e5, rfl, h5⟩
  have h6 := b5.call h5
  refine ⟨_, rfl, WL.alloc h6 arr158.zero ?_⟩
  intro b8 j7 h7
  refine WL.store_arr (i := 0) h7 rfl arr158 rfl (by rw [iv_length]; exact (List.length_replicate ..)) e5 rfl ?_
  intro h8 d0
  try dsimp only [List.set] at d0
  refine WL.nil (QW.fthen_n ?_)
  refine CF.seq ?_
  refine CF.seq ?_
  refine CF.region (.inr ⟨j_, rfl⟩) (fun ⟨a, w, h⟩ => h) rfl ?_
  refine WL.mv rfl ?_
  refine WL.v (Runs.len_sl underlying25 rfl (by rw [show (min 64 (a0 - 64 * a2.val)) = (chl b1 64 a2.val).length from (show (min 64 (a0 - 64 * a2.val)) = (chl b1 64 a2.val).length from (by rw [c9]; exact chl_length _ _ _))])) ?_
  refine WL.mv rfl (WL.nil (QW.fthen_n ?_))
  refine CF.block ?_
  obtain ⟨h9, H⟩ := H
  refine CF.sub [(4, .pointer (sp a5)), (5, .pointer (sp a6)), (6, .pointer (sp a7)), (8, .slice none 0 0), (9, .int .i64 0), (11, .slice a3 a0 a4), (12, .slice (a3.map (·.add (64 * a2.val))) (min 64 (a0 - 64 * a2.val)) (min 64 (a0 - 64 * a2.val))), (31, .agg (iv .u8 lA).toArray), (32, .int .u32 b2), (33, .agg (iv .u8 lB).toArray), (34, .agg (iv .u8 b4).toArray), (13, .pointer (sp b8)), (35, .slice (a3.map (·.add (64 * a2.val))) (min 64 (a0 - 64 * a2.val)) (min 64 (a0 - 64 * a2.val))), (36, .int .i64 ((chl b1 64 a2.val).length : Int)), (37, .int .i64 0)] (by repeat' constructor) ?_
  refine CF.loop (fun kL1 l_ w_ => ∃ b3 a8, l_ = [(4, .pointer (sp a5)), (5, .pointer (sp a6)), (6, .pointer (sp a7)), (8, .slice none 0 0), (9, .int .i64 0), (11, .slice a3 a0 a4), (12, .slice (a3.map (·.add (64 * a2.val))) (min 64 (a0 - 64 * a2.val)) (min 64 (a0 - 64 * a2.val))), (31, .agg (iv .u8 lA).toArray), (32, .int .u32 b2), (33, .agg (iv .u8 lB).toArray), (34, .agg (iv .u8 b4).toArray), (13, .pointer (sp b8)), (35, .slice (a3.map (·.add (64 * a2.val))) (min 64 (a0 - 64 * a2.val)) (min 64 (a0 - 64 * a2.val))), (36, .int .i64 ((chl b1 64 a2.val).length : Int)), (37, .int .i64 a8)] ∧ cipher_Crypt.L1 b1 b2 a2 e2 e3 b4 kL1 b3 a8 ∧ (a0 = b3.length) ∧ St w w_ (.cells b8 (iv .u8 b4) 158 :: .cells b0 [.int .i64 ((64 : Nat) : Int)] 3 :: .cells a9 [.slice a3 a0 a4] 25 :: .sl a3 a4 a0 (iv .u8 b3) 5 1 :: .cells a7 (iv .u8 lB) 140 :: .cells a6 [.int .u32 b2] 24 :: .cells a5 (iv .u8 lA) 23 :: b7)) (k := h9) ⟨b1, 0, rfl, H, c9, d0⟩ (fun _ _ h => by obtain ⟨_, _, _, h, _⟩ := h; exact h.elim) ?_
  rintro kL1 j8 j9 ⟨b3, a8, rfl, H, b9, c1⟩
  refine CF.seq ?_
  refine CF.region (.inr ⟨j_, rfl⟩) (fun ⟨a, w, h⟩ => h) rfl ?_
  refine WL.v (Runs.lss rfl rfl rfl) (WL.nil (QW.fthen_n ?_))
  refine CF.seq ?_
  rcases H with ⟨d1, H⟩ | ⟨d1, H⟩
  ·have d2 := (decide_eq_true d1)
   refine CF.ct rfl d2 ?_
   refine CF.skip ?_
   refine QW.fthen_n ?_
   refine CF.seq ?_
   refine CF.block ?_
   refine CF.seq ?_
   refine CF.region (.inr ⟨j_, rfl⟩) (fun ⟨a, w, h⟩ => h) rfl ?_
   refine WL.mv rfl (WL.as rfl (WL.nil (QW.fthen_n ?_)))
   refine CF.region_qt 9 (.inr ⟨j_, rfl⟩) (fun ⟨a, w, h⟩ => h) rfl wide (by kernel_rfl) c1 ?_
   refine HL.mv rfl (HL.mv rfl ?_)
   obtain ⟨⟨i0, i1⟩, H⟩ := H
   obtain ⟨k0, e6⟩ := ((c1.src_sl (k := 3) rfl).chunk 64 a2.val).addr_iv (a8.toNat) (by omega)
   refine HL.p (Runs.indexAddr underlying25 cells5 (by decide) rfl e6 rfl i0 (by rw [(show (min 64 (a0 - 64 * a2.val)) = (chl b3 64 a2.val).length from (by rw [b9]; exact chl_length _ _ _))]; exact i1) (o := (a8).toNat) (by first | rfl | omega)) ?_
   refine HL.v (fun wq sq => (Runs.load nagg5 rfl (((sq.src_sl (k := 3) rfl).chunk 64 a2.val).cell_iv e6 (by omega)))) ?_
   refine HL.mv rfl ?_
   obtain ⟨⟨i2, i3⟩, H⟩ := H
   refine HL.p (Runs.indexAddr_blk arr158 rfl rfl i2 i3 (o := (a8).toNat) (by first | rfl | omega)) ?_
   refine HL.v (fun wq sq => (Runs.load nagg5 rfl (sq.cell_iv (i := 0) rfl (by have := e5; omega)))) ?_
   obtain ⟨i4, i5, H⟩ := H
   refine HL.p (Runs.bxor rfl rfl i5) ?_
   obtain ⟨⟨i6, i7⟩, H⟩ := H
   obtain ⟨k1, e7⟩ := ((c1.src_sl (k := 3) rfl).chunk 64 a2.val).addr_iv (a8.toNat) (by omega)
   refine HL.p (Runs.indexAddr underlying25 cells5 (by decide) rfl e7 rfl i6 (by rw [(show (min 64 (a0 - 64 * a2.val)) = (chl b3 64 a2.val).length from (by rw [b9]; exact chl_length _ _ _))]; exact i7) (o := (a8).toNat) (by first | rfl | omega)) ?_
   refine HL.nil (fun k2 i8 => ?_)
   obtain ⟨d3, e8, H⟩ := H
   have hj_ : (a8).toNat < (min 64 (a0 - 64 * a2.val)) := by have := (show (min 64 (a0 - 64 * a2.val)) = (chl b3 64 a2.val).length from (by rw [b9]; exact chl_length _ _ _)); omega
   refine WL.store_sub (i := 3) (o := 64 * a2.val) (N := (min 64 (a0 - 64 * a2.val))) i8 rfl cells5 rfl e7 (fun _ => rfl) hj_ (by rw [iv_length]; have := b9; have := g9; omega) rfl rfl ?_
   intro i9 d4
   have j0 : a0 = d3.length := by rw [e8, List.length_set]; exact b9
   have d4' := d4; (try dsimp only [List.set, ec, en] at d4'); rw [iv_set .u8 b3 (64 * a2.val + (a8.toNat)) i4, ← e8] at d4'
   refine WL.nil (QW.blk_n (QW.fthen_n ?_))
   refine CF.region (.inr ⟨j_, rfl⟩) (fun ⟨a, w, h⟩ => h) rfl ?_
   refine WL.v (Runs.add rfl rfl rfl) (WL.mv rfl (WL.nil ?_))
   exact QW.a ⟨d3, i64.wrap (a8 + 1), rfl, H, j0, d4'⟩
  have d2 := (decide_eq_false d1)
  refine CF.cf rfl d2 ?_
  refine CF.exit ?_
  refine QW.then_x (QW.then_x (QW.blk_x (QW.fthen_n ?_)))
  refine CF.region (.inr ⟨j_, rfl⟩) (fun ⟨a, w, h⟩ => h) rfl ?_
  refine WL.ld 5 nagg24 c1 rfl rfl rfl (WL.v (Runs.add rfl rfl rfl) (WL.store_cells (i := 5) (j := 0) c1 rfl cells24 rfl (Nat.zero_lt_succ _) rfl rfl ?_))
  intro j1 c2
  try dsimp only [List.set] at c2
  refine WL.nil (QW.blk_n ?_)
  obtain ⟨hI1, hg1⟩ := H
  have c2' := (St.pk (L := [_, _, _, _, _, _, _]) c2 [1, 2, 3, 4, 5, 6])
  exact fun b hb hd => ⟨(b3, u32.wrap (b2 + 1)), ⟨by rw [List.foldl_append, ← g7]; exact hg1, hI1, b9⟩, c2'⟩
 rintro j2 ⟨k3, k4⟩ j3 ⟨rfl_, _, j4⟩ d5
 rw [foldl_fin, ← g6] at rfl_
 simp only [Prod.mk.injEq] at rfl_
 obtain ⟨d6, d7⟩ := rfl_
 replace d6 := d6.symm
 subst d6
 replace d7 := d7.symm
 subst d7
 have d5 : St w j3 [.obj j2 (.deferred (some [])), .cells b0 [.int .i64 ((64 : Nat) : Int)] 3, .cells a9 [.slice a3 a0 a4] 25, .sl a3 a4 a0 (iv .u8 g4) 5 1, .cells a7 (iv .u8 lB) 140, .cells a6 [.int .u32 g5] 24, .cells a5 (iv .u8 lA) 23] := d5
 refine QW.blk_n (QW.then_n (cr (WL.mv rfl (WL.as rfl (WL.as rfl (wn (CW.ret ?_)))))))
 obtain ⟨rfl, rfl⟩ := H
 refine QW.retM2 d5 (i := 0) rfl rfl rfl rfl (fun wz stz => ?_)
 exact ⟨a3, a4, a0, j4, rfl, stz.pick [3] (by decide)⟩
def seal_Seal.rel (l0 : List Int) (a1 a2 : Int) (l3 r0 : List Int) (r1 : Int) : Prop := (∃ a3, seal_size.rel (l3.length : Int) a3 ∧ ((¬ (a3 = true) ∧ r0 = [] ∧ r1 = 1) ∨ (¬ (¬ (a3 = true)) ∧ ((a2 = 0 ∧ r0 = [] ∧ r1 = 1) ∨ (¬ (a2 = 0) ∧ ((a2 = 18446744073709551615 ∧ r0 = [] ∧ r1 = 15) ∨ (¬ (a2 = 18446744073709551615) ∧ (∃ a4, cipher_Nonce.rel a1 a2 a4 ∧ (∃ a5 a0, cipher_Crypt.rel l0 0 a4 l3 a5 a0 ∧ ((a0 ≠ 0 ∧ r0 = [] ∧ r1 = a0) ∨ (¬ (a0 ≠ 0) ∧ (∃ a6, word_Put.rel a2 8 a6 ∧ (∃ a7, slices_Concat_s_byte_byte.rel ([a6, a5] : List R25) a7 ∧ (∃ a8, word_Pad.rel a7 192 a8 ∧ r0 = a8 ∧ r1 = 0))))))))))))))
theorem seal_Seal.calls (hG1 : Src w (sp 1) (iv .i64 tab1)) (hl0 : lA.length = 32) (hs3 : Src w pA (iv .u8 lB)) (hn3 : nA = lB.length) (hc3 : nA ≤ nB) (H : seal_Seal.rel lA iA iB lB lC iC) :
  Calls prog 41 #[.agg (iv .u8 lA).toArray, .int .u32 iA, .int .u64 iB, .slice pA nA nB] w fun e w' => ∃ B0 q0 z0, z0 = lC.length ∧ e = .returned (.tuple #[.slice B0 z0 q0, .int .i64 iC]) ∧ St w w' [.sl B0 q0 z0 (iv .u8 lC) 5 1] := by
 refine CW.en func41 rfl 42 [_, _, _, _] (CW.sub [(0, _), (1, _), (2, _), (3, _)] ⟨rfl, rfl, rfl, rfl, trivial⟩ ?_)
 obtain ⟨T, R, hT, hR, st0⟩ := St.start w
 refine cr (WL.box st0 rfl rfl ?_)
 intro a0 f6 f7
 refine WL.as rfl (WL.as rfl (wn (CW.seq (CW.block (cr (WL.mv rfl ?_))))))
 refine WL.v (Runs.len_sl underlying25 rfl (by rw [hn3])) ?_
 obtain ⟨c6, f8, H⟩ := H
 refine wC ent61 rfl (seal_size.calls f8) ?_
 rintro _ b8 ⟨rfl, f9⟩
 have b9 := f7.call f9
 refine ⟨_, rfl, WL.v (Runs.not rfl rfl) (WL.mv rfl ?_)⟩
 rcases H with ⟨c7, H⟩ | ⟨c7, H⟩
 ·have a9 : (!c6) = true := (not_t (Bool.eq_false_iff.mpr c7))
  iterate 2 (refine WL.off ?_ ?_; exact Wg 17 a9)
  refine WL.v (Runs.pick_t (evb rfl a9) rfl) (WL.as rfl (wn ?_))
  refine CW.su [(1, _), (2, _), (3, _), (4, _), (8, _), (9, _), (12, _)] ?_
  refine CW.ct rfl rfl (cr (WL.as rfl (WL.as rfl (wn (CW.ret (QW.blk_r (QW.then_r ?_)))))))
  have c8 := b9.nil_sl 5 1
  have c8 : St w b8 (.sl none 0 0 (iv .u8 ([] : List Int)) 5 1 :: .cells a0 (iv .u8 lA) 23 :: (T ++ R)) := c8
  obtain ⟨rfl, rfl⟩ := H
  exact QW.ret2 rfl rfl rfl ⟨none, 0, 0, rfl, rfl, (St.front (A := [_]) (St.pk (L := [_, _]) c8 [0]))⟩
 have a9 : (!c6) = false := (not_f (Decidable.not_not.mp c7))
 refine WL.on ?_ ?_; exact Wg 17 a9
 refine WL.mv rfl ?_
 refine WL.on ?_ ?_; exact Wg 17 a9
 refine WL.v (Runs.eql rfl rfl rfl) (WL.v (Runs.pick_f (evb rfl a9) rfl) (WL.as rfl (wn ?_)))
 refine CW.su [(1, _), (2, _), (3, _), (4, _), (8, _), (9, _), (12, _)] ?_
 rcases H with ⟨c9, H⟩ | ⟨c9, H⟩
 ·have d0 := (beq_iff_eq.mpr c9)
  refine CW.ct rfl d0 (cr (WL.as rfl (WL.as rfl (wn (CW.ret (QW.blk_r (QW.then_r ?_)))))))
  have d1 := b9.nil_sl 5 1
  have d1 : St w b8 (.sl none 0 0 (iv .u8 ([] : List Int)) 5 1 :: .cells a0 (iv .u8 lA) 23 :: (T ++ R)) := d1
  obtain ⟨rfl, rfl⟩ := H
  exact QW.ret2 rfl rfl rfl ⟨none, 0, 0, rfl, rfl, (St.front (A := [_]) (St.pk (L := [_, _]) d1 [0]))⟩
 have d0 := (beq_eq_false_iff_ne.mpr c9)
 refine CW.cf rfl d0 (cr (WL.mv rfl (WL.v (Runs.eql rfl rfl rfl) (WL.as rfl (wn ?_)))))
 rcases H with ⟨d2, H⟩ | ⟨d2, H⟩
 ·have d3 := (beq_iff_eq.mpr d2)
  refine CW.ct rfl d3 (cr (WL.as rfl (WL.as rfl (wn (CW.ret (QW.blk_r (QW.then_r ?_)))))))
  have d4 := b9.nil_sl 5 1
  have d4 : St w b8 (.sl none 0 0 (iv .u8 ([] : List Int)) 5 1 :: .cells a0 (iv .u8 lA) 23 :: (T ++ R)) := d4
  obtain ⟨rfl, rfl⟩ := H
  exact QW.ret2 rfl rfl rfl ⟨none, 0, 0, rfl, rfl, (St.front (A := [_]) (St.pk (L := [_, _]) d4 [0]))⟩
 have d3 := (beq_eq_false_iff_ne.mpr d2)
 refine CW.cf rfl d3 (CW.skip (QW.blk_n (QW.then_n (CW.seq ?_))))
 refine CW.region_awh (C := fun w_ => St w w_ (.cells a0 (iv .u8 lA) 23 :: (T ++ R))) 10 wide (by kernel_rfl) b9 (fun g0 a3 => ?_)
 refine AWH.tk 0 rfl a3 (fun wq sq => (Runs.load_arr arr23 rfl (sq.blk (i := 0) rfl) hl0)) ?_
 refine AWH.tk 1 rfl a3 (fun wq sq => (Runs.move rfl)) ?_
 refine AWH.tk 2 rfl a3 (fun wq sq => (Runs.move rfl)) ?_
 refine AWH.tk 4 rfl a3 (fun wq sq => (Runs.move rfl)) ?_
 refine AWH.step 3 rfl (by decide) (by kernel_rfl) (fun inv_ hs_ hk_ hc_ hn_ => ?_)
 obtain ⟨f0, g1, H⟩ := H
 refine wC ent63 rfl (cipher_Nonce.calls g1) ?_
 rintro _ f1 ⟨g2, rfl, g3⟩
 have c0 := a3.call g3
 refine ⟨_, rfl, WL.nil ?_⟩
 refine AWH.back c0 inv_ hs_ hk_ hc_ hn_ ?_
 refine AWH.step 5 rfl (by decide) (by kernel_rfl) (fun inv_ hs_ hk_ hc_ hn_ => ?_)
 obtain ⟨a4, c1, g4, H⟩ := H
 refine wC ent62 rfl (cipher_Crypt.calls (hG1.ext c0) hl0 g2 (hs3.ext c0) (hn3) (hc3) g4) ?_
 rintro _ d5 ⟨a5, a6, a7, g5, rfl, g6⟩
 have b0 := c0.call g6
 refine ⟨_, rfl, WL.nil ?_⟩
 have zD1 := St.subset a3 b0 (mc 1 rfl (mem_TR (A := [_, _]) ii))
 refine AWH.back zD1 inv_ hs_ hk_ hc_ hn_ ?_
 refine AWH.tk 6 rfl zD1 (fun wq sq => (Runs.move rfl)) ?_
 refine AWH.tk 7 rfl zD1 (fun wq sq => (Runs.extract rfl rfl)) ?_
 refine AWH.tk 8 rfl zD1 (fun wq sq => (Runs.extract rfl rfl)) ?_
 refine AWH.tk 9 rfl zD1 (fun wq sq => (Runs.assign rfl)) ?_
 refine AWH.tail (by kernel_rfl) ?_
 refine AW.tk 10 rfl (fun _ => (Runs.assign rfl)) ?_
 refine AW.done (by kernel_rfl) ?_
 refine QW.then_n ?_
 refine CW.su [(2, _), (8, _), (9, _), (10, _), (11, _)] ?_
 refine CW.seq (cr (WL.mv rfl (WL.v (Runs.neq rfl rfl rfl) (wn ?_))))
 rcases H with ⟨d6, H⟩ | ⟨d6, H⟩
 ·have d7 := (bne_iff_ne.mpr d6)
  refine CW.ct rfl d7 (cr (WL.mv rfl (WL.as rfl (WL.as rfl (wn (CW.ret (QW.then_r ?_)))))))
  have d8 := b0.nil_sl 5 1
  have d8 : St w d5 (.sl none 0 0 (iv .u8 ([] : List Int)) 5 1 :: .sl a5 a6 a7 (iv .u8 a4) 5 1 :: .cells a0 (iv .u8 lA) 23 :: (T ++ R)) := d8
  obtain ⟨rfl, rfl⟩ := H
  exact QW.ret2 rfl rfl rfl ⟨none, 0, 0, rfl, rfl, (St.front (A := [_]) (St.pk (L := [_, _, _]) d8 [0]))⟩
 have d7 : (c1 != 0) = false := (bne_eq_false_iff_eq.mpr (Decidable.not_not.mp d6))
 refine CW.cf rfl d7 (CW.skip (QW.then_n (cr (WL.mv rfl ?_))))
 obtain ⟨b2, g7, H⟩ := H
 refine wC ent32 rfl (word_Put.calls g7) ?_
 rintro _ d9 ⟨b3, b4, b5, g8, rfl, g9⟩
 have f2 := b0.call g9
 refine ⟨_, rfl, WL.mv rfl ?_⟩
 have hb_59c := f2.cap (i := 0) rfl
 obtain ⟨e0, i5, h0, c2⟩ := St.freeze (A := []) (B := [_, _]) (T := T) (R := R) f2
 have h1 : HB w e0 b3 b5 b4 (iv .u8 b2) b2.length := ⟨g8, hb_59c, Hd.of_sl h0⟩
 try dsimp only [List.set, ec, en] at c2
 have hb_64c := c2.cap (i := 0) rfl
 obtain ⟨a8, h2, h3, e1⟩ := St.freeze (A := []) (B := [_]) (T := e0) (R := R) c2
 have h4 : HB w a8 a5 a7 a6 (iv .u8 a4) a4.length := ⟨g5, hb_64c, Hd.of_sl h3⟩
 try dsimp only [List.set, ec, en] at e1
 refine WL.buildSl [.slice b3 b5 b4, .slice a5 a7 a6] e1 underlying76 elem25 rfl rfl (by decide) (by decide) (by simp [Value.cells]) ?_
 intro b1 c4 b6
 try dsimp only [List.set, ec, en] at b6
 obtain ⟨b7, f3⟩ : ∃ x_ : Cs, x_ = [.slice b3 b5 b4, .slice a5 a7 a6] := ⟨_, rfl⟩
 have h5 : HRs a8 (f25 w) b7 ([b2, a4] : List R25) := by rw [f3]; exact (HRs.cons (ms := (cl b3 b5 b4)) (.cons ⟨_, _, _, rfl, (h1.mono h2.1)⟩ .nil) (HRs.one (.cons ⟨_, _, _, rfl, h4⟩ .nil)))
 (try dsimp only [List.set, ec, en] at b6); rw [← f3] at b6
 have h6 := St.hide (A := []) (B := [_, _]) b6
 obtain ⟨c5, h7, H⟩ := H
 refine wC ent55 rfl (slices_Concat_s_byte_byte.calls a8 h6 (HS.mk rfl (b6.cap (i := 0) rfl) (fun W_ L_ st hT => st.src_mem (hT _ (List.mem_append_right _ (List.mem_of_getElem? (i := 0) rfl)))) h5) h7) ?_
 rintro _ f4 ⟨e2, e3, e4, e5, i6, h8, rfl, h9⟩
 have e6 := St.unhide (A := [_]) (B := [_, _]) h9; dsimp only [ec, en] at e6
 refine ⟨_, rfl, ?_⟩
 obtain ⟨f5, i0, H⟩ := H
 refine wC ent60 rfl (word_Pad.calls (e6.src_sl (k := 0) rfl) (h8) (e6.cap (i := 0) rfl) i0) ?_
 rintro _ i1 ⟨e7, e8, e9, i2, rfl, i3⟩
 have i4 := e6.call i3
 refine ⟨_, rfl, WL.as rfl (WL.as rfl (wn (CW.ret ?_)))⟩
 obtain ⟨rfl, rfl⟩ := H
 exact QW.ret2 rfl rfl rfl ⟨e7, e8, e9, i2, rfl, (St.front (A := [_]) (St.pk (L := [_, _, _, _]) i4 [0]))⟩
def digest_first.rel (r0 : List Int) : Prop := (∃ a0 : List Int, a0 = [1779033703, 3144134277, 1013904242, 2773480762, 1359893119, 2600822924, 528734635, 1541459225] ∧ r0 = a0)
theorem digest_first.calls (H : digest_first.rel  lA) :
  Calls prog 71 #[] w fun e w' => lA.length = 8 ∧ e = .returned (.agg (iv .u32 lA).toArray) ∧ St w w' [] := by
 refine CW.en func71 rfl 2 [] (CW.sub [] trivial ?_)
 have st0 := St.refl w
 refine cr (WL.alloc st0 arr148.zero ?_)
 intro a3 a6 a4
 refine WL.nx ?_
 obtain ⟨a2, a0, H⟩ := H
 refine WL.v (Runs.build_arr (xs := a2) arr148 rfl rfl (by rw [a0]; rfl)) ?_
 refine WL.store_arr (i := 0) a4 rfl arr148 rfl (by rw [iv_length]; exact (List.length_replicate ..)) (by rw [a0]; rfl) rfl ?_
 intro a5 a1
 try dsimp only [List.set] at a1
 refine wn (CW.ret ?_)
 obtain rfl := H
 exact QW.retc rfl arr148 rfl (a1.blk (i := 0) rfl) (by rw [a0]; rfl) ⟨(by rw [a0]; rfl), rfl, a1.pick [] (by decide)⟩
def digest_right.rel (a0 a1 r0 : Int) : Prop := (∃ a2, bits_RotateLeft32.rel a0 (i64.wrap (0 - a1)) a2 ∧ r0 = a2)
theorem digest_right.calls (H : digest_right.rel iA iB iC) :
  Calls prog 83 #[.int .u32 iA, .int .i64 iB] w fun e w' => e = .returned (.int .u32 iC) ∧ St w w' [] := by
 refine CW.en func83 rfl 9 [_, _] (CW.sub [(0, _), (1, _)] ⟨rfl, rfl, trivial⟩ ?_)
 have st0 := St.refl w
 refine cr (WL.as rfl (WL.nx (WL.mv rfl (WL.mv rfl (WL.v (Runs.neg rfl rfl) ?_)))))
 obtain ⟨a2, a3, H⟩ := H
 refine wC ent86 rfl (bits_RotateLeft32.calls a3) ?_
 rintro _ a4 ⟨rfl, a5⟩
 have a6 := st0.call a5
 refine ⟨_, rfl, WL.as rfl (wn (CW.ret ?_))⟩
 obtain rfl := H
 exact QW.ret1 rfl rfl ⟨rfl, a6.pick [] (by decide)⟩
def digest_words.L2 (l0 : List Int) (a0 : Int) (K_L1 : (List Int) → Int → Prop) : Nat → (List Int) → Int → Prop
 | 0, _, _ => False
 | kL2 + 1, a2, a1 => ((a1 < ((prt l0 (i64.wrap (4 * a0)) (i64.wrap ((i64.wrap (4 * a0)) + 4))).length : Int) ∧ ((0 ≤ a1 ∧ a1 < ((prt l0 (i64.wrap (4 * a0)) (i64.wrap ((i64.wrap (4 * a0)) + 4))).length : Int)) ∧ ((0 ≤ a0 ∧ a0 < (64 : Int)) ∧ (∃ a3 : Int, a3 = u32.wrap (gn (prt l0 (i64.wrap (4 * a0)) (i64.wrap ((i64.wrap (4 * a0)) + 4))) (a1.toNat)) ∧ ((0 ≤ a0 ∧ a0 < (64 : Int)) ∧ (∃ a4 : List Int, a4 = List.set a2 (a0.toNat) (bits .or .u32 (shlI .u32 (gn a2 (a0.toNat)) 8) a3) ∧ digest_words.L2 l0 a0 K_L1 kL2 a4 (i64.wrap (a1 + 1)))))))) ∨ (¬ (a1 < ((prt l0 (i64.wrap (4 * a0)) (i64.wrap ((i64.wrap (4 * a0)) + 4))).length : Int)) ∧ K_L1 a2 (i64.wrap (a0 + 1))))
def digest_words.L3 (r0 : List Int) : Nat → (List Int) → Int → Prop
 | 0, _, _ => False
 | kL3 + 1, a1, a0 => ((a0 < 64 ∧ ((0 ≤ (i64.wrap (a0 - 15)) ∧ (i64.wrap (a0 - 15)) < (64 : Int)) ∧ ((0 ≤ (i64.wrap (a0 - 2)) ∧ (i64.wrap (a0 - 2)) < (64 : Int)) ∧ ((0 ≤ (i64.wrap (a0 - 16)) ∧ (i64.wrap (a0 - 16)) < (64 : Int)) ∧ (∃ a2, digest_right.rel (gn a1 ((i64.wrap (a0 - 15)).toNat)) 7 a2 ∧ (∃ a3, digest_right.rel (gn a1 ((i64.wrap (a0 - 15)).toNat)) 18 a3 ∧ (∃ a4 : Int, a4 = bits .xor .u32 (bits .xor .u32 a2 a3) (shrI .u32 (gn a1 ((i64.wrap (a0 - 15)).toNat)) 3) ∧ (∃ a5 : Int, a5 = u32.wrap ((gn a1 ((i64.wrap (a0 - 16)).toNat)) + a4) ∧ ((0 ≤ (i64.wrap (a0 - 7)) ∧ (i64.wrap (a0 - 7)) < (64 : Int)) ∧ (∃ a6 : Int, a6 = u32.wrap (a5 + (gn a1 ((i64.wrap (a0 - 7)).toNat))) ∧ (∃ a7, digest_right.rel (gn a1 ((i64.wrap (a0 - 2)).toNat)) 17 a7 ∧ (∃ a8, digest_right.rel (gn a1 ((i64.wrap (a0 - 2)).toNat)) 19 a8 ∧ (∃ a9 : Int, a9 = bits .xor .u32 (bits .xor .u32 a7 a8) (shrI .u32 (gn a1 ((i64.wrap (a0 - 2)).toNat)) 10) ∧ ((0 ≤ a0 ∧ a0 < (64 : Int)) ∧ (∃ b0 : List Int, b0 = List.set a1 (a0.toNat) (u32.wrap (a6 + a9)) ∧ digest_words.L3 r0 kL3 b0 (i64.wrap (a0 + 1))))))))))))))))) ∨ (¬ (a0 < 64) ∧ r0 = a1))
def digest_words.L1 (l0 r0 : List Int) : Nat → (List Int) → Int → Prop
 | 0, _, _ => False
 | kL1 + 1, a1, a0 => ((a0 < 16 ∧ ((0 ≤ (i64.wrap (4 * a0)) ∧ (i64.wrap (4 * a0)) ≤ (i64.wrap ((i64.wrap (4 * a0)) + 4)) ∧ (i64.wrap ((i64.wrap (4 * a0)) + 4)) ≤ (l0.length : Int)) ∧ (∃ k_ : Nat, digest_words.L2 l0 a0 (digest_words.L1 l0 r0 kL1) k_ a1 0))) ∨ (¬ (a0 < 16) ∧ (∃ k_ : Nat, digest_words.L3 r0 k_ a1 16)))
def digest_words.rel (l0 r0 : List Int) : Prop := (∃ k_ : Nat, digest_words.L1 l0 r0 k_ (List.replicate 64 (0 : Int)) 0)
theorem digest_words.calls (hs0 : Src w pA (iv .u8 lA)) (hn0 : nA = lA.length) (hc0 : nA ≤ nB) (H : digest_words.rel lA lB) :
  Calls prog 82 #[.slice pA nA nB] w fun e w' => lB.length = 64 ∧ e = .returned (.agg (iv .u32 lB).toArray) ∧ St w w' [] := by
 refine CW.en func82 rfl 78 [_] (CW.sub [(0, _)] ⟨rfl, trivial⟩ ?_)
 have st0 := St.refl w
 refine cr (WL.alloc st0 arr154.zero ?_)
 intro a2 i3 d9
 refine WL.nx (WL.alloc d9 arr154.zero ?_)
 intro a3 i4 e0
 refine wn (CW.seq (cr (WL.mv rfl (wn (CW.block ?_)))))
 obtain ⟨e1, H⟩ := H
 refine CW.sub [(0, _), (2, _), (3, _), (10, _)] ⟨rfl, rfl, rfl, rfl, trivial⟩ ?_
 refine CW.lp (fun kL1 l_ w_ => ∃ a8 a0, l_ = [(0, .slice pA nA nB), (2, .pointer (sp a2)), (3, .pointer (sp a3)), (10, .int .i64 a0)] ∧ digest_words.L1 lA lB kL1 a8 a0 ∧ (a8.length = 64) ∧ St w w_ [.cells a3 (iv .u32 a8) 154, .cells a2 (iv .u32 (List.replicate 64 (0 : Int))) 154]) (k := e1) ⟨List.replicate 64 (0 : Int), 0, rfl, H, (List.length_replicate ..), e0⟩ ?_
 rintro kL1 i5 i6 ⟨a8, a0, rfl, H, d1, d2⟩
 refine cr (WL.v (Runs.lss rfl rfl rfl) (wn (CW.seq ?_)))
 rcases H with ⟨b6, H⟩ | ⟨b6, H⟩
 ·have b7 := (decide_eq_true b6)
  refine CW.ct rfl b7 (CW.skip (QW.then_n (CW.seq (CW.block (cr (WL.mv rfl (WL.as rfl (WL.nx (WL.mv rfl (WL.mv rfl (WL.v (Runs.mul rfl rfl rfl) (WL.mv rfl (WL.v (Runs.mul rfl rfl rfl) (WL.v (Runs.add rfl rfl rfl) ?_))))))))))))))
  obtain ⟨⟨a9, b0, d3⟩, H⟩ := H
  have i7 : nA ≤ nB := hc0
  have b8 : (i64.wrap ((i64.wrap (4 * a0)) + 4)) ≤ (nB : Int) := by have := hn0; omega
  obtain ⟨d4, b9⟩ : ∃ B_, B_ = subA pA (i64.wrap (4 * a0)).toNat nB := ⟨_, rfl⟩
  obtain ⟨b2, b3⟩ : ∃ n_ : Nat, n_ = (prt lA (i64.wrap (4 * a0)) (i64.wrap ((i64.wrap (4 * a0)) + 4))).length := ⟨_, rfl⟩
  obtain ⟨c1, d5⟩ : ∃ c_ : Nat, c_ = nB - (i64.wrap (4 * a0)).toNat := ⟨_, rfl⟩
  have i8 : b2 ≤ c1 := by rw [b3, prt_length a9 b0 d3]; rw [d5]; omega
  refine WL.v (Runs.slice_lh underlying25 cells5 rfl rfl rfl a9 b0 b8 b9 (N := b2) (by rw [b3, prt_length a9 b0 d3]) d5) ?_
  refine WL.v (Runs.len_sl underlying25 rfl (by rw [b3])) ?_
  refine WL.mv rfl (wn (CW.block ?_))
  obtain ⟨e2, H⟩ := H
  refine CW.su [(0, _), (2, _), (3, _), (10, _), (11, _), (12, _), (4, _), (13, _), (14, _), (15, _), (16, _), (17, _), (18, _), (19, _), (20, _), (21, _)] ?_
  refine CW.lp (fun kL2 l_ w_ => ∃ a7 a6, l_ = [(0, .slice pA nA nB), (2, .pointer (sp a2)), (3, .pointer (sp a3)), (10, .int .i64 a0), (11, .bool (decide (a0 < 16))), (12, .int .i64 a0), (4, .int .i64 a0), (13, .slice pA nA nB), (14, .int .i64 a0), (15, .int .i64 (i64.wrap (4 * a0))), (16, .int .i64 a0), (17, .int .i64 (i64.wrap (4 * a0))), (18, .int .i64 (i64.wrap ((i64.wrap (4 * a0)) + 4))), (19, .slice d4 b2 c1), (20, .int .i64 ((prt lA (i64.wrap (4 * a0)) (i64.wrap ((i64.wrap (4 * a0)) + 4))).length : Int)), (21, .int .i64 a6)] ∧ digest_words.L2 lA a0 (digest_words.L1 lA lB kL1) kL2 a7 a6 ∧ (a7.length = 64) ∧ St w w_ [.cells a3 (iv .u32 a7) 154, .cells a2 (iv .u32 (List.replicate 64 (0 : Int))) 154]) (k := e2) ⟨a8, 0, rfl, H, d1, d2⟩ ?_
  rintro kL2 i9 j0 ⟨a7, a6, rfl, H, b4, b1⟩
  refine cr (WL.v (Runs.lss rfl rfl rfl) (wn (CW.seq ?_)))
  rcases H with ⟨c2, H⟩ | ⟨c2, H⟩
  ·have c3 := (decide_eq_true c2)
   refine CW.ct rfl c3 (CW.skip (QW.then_n (CW.seq (CW.block (cr ?_)))))
   obtain ⟨⟨e3, e4⟩, H⟩ := H
   obtain ⟨j1, d6⟩ := ((hs0.ext b1).sub_iv a9 b0 b8 b9).addr_iv (a6.toNat) (by omega)
   refine WL.v (Runs.indexAddr underlying25 cells5 (by decide) rfl d6 rfl e3 (by rw [b3]; exact e4) (o := (a6).toNat) (by first | rfl | omega)) ?_
   refine WL.v (Runs.load nagg5 rfl (((hs0.ext b1).sub_iv a9 b0 b8 b9).cell_iv d6 (by omega))) ?_
   refine WL.as rfl (wn (CW.region (WL.mv rfl (WL.mv rfl ?_))))
   obtain ⟨⟨e5, e6⟩, H⟩ := H
   refine WL.v (Runs.indexAddr_blk arr154 rfl rfl e5 e6 (o := (a0).toNat) (by first | rfl | omega)) ?_
   refine WL.v (Runs.load nagg24 rfl (b1.cell_iv (i := 0) rfl (by have := b4; omega))) ?_
   refine WL.v (Runs.shl rfl rfl (by decide) rfl) ?_
   refine WL.mv rfl ?_
   obtain ⟨e7, e8, H⟩ := H
   refine WL.v (Runs.conv underlying24 ⟨_, underlying5⟩ rfl e8) (WL.v (Runs.bor rfl rfl rfl) ?_)
   obtain ⟨⟨e9, f0⟩, H⟩ := H
   refine WL.v (Runs.indexAddr_blk arr154 rfl rfl e9 f0 (o := (a0).toNat) (by first | rfl | omega)) ?_
   obtain ⟨c4, d7, H⟩ := H
   have f1 : c4.length = 64 := by rw [d7, List.length_set]; exact b4
   refine WL.store_cells (i := 0) b1 rfl cells24 rfl (by rw [iv_length]; have := b4; omega) rfl rfl ?_
   intro f2 c5
   have c5' := c5; (try dsimp only [List.set, ec, en] at c5'); rw [iv_set .u32 a7 (a0.toNat) (bits .or .u32 (shlI .u32 (gn a7 (a0.toNat)) 8) e7), ← d7] at c5'
   refine WL.nil (QW.blk_n (QW.then_n (CW.region (WL.v (Runs.add rfl rfl rfl) (WL.mv rfl (WL.nil ?_))))))
   exact QW.a ⟨c4, i64.wrap (a6 + 1), rfl, H, f1, c5'⟩
  have c3 := (decide_eq_false c2)
  refine CW.cf rfl c3 (CW.exit (QW.then_x (QW.then_x (QW.blk_x (QW.blk_n (QW.then_n (CW.region (WL.v (Runs.add rfl rfl rfl) (WL.mv rfl (WL.nil ?_))))))))))
  exact QW.a ⟨a7, i64.wrap (a0 + 1), rfl, H, b4, b1⟩
 have b7 := (decide_eq_false b6)
 refine CW.cf rfl b7 (CW.exit (QW.then_x (QW.then_x (QW.blk_x (QW.then_n (CW.seq (cr (WL.as rfl (wn (CW.block ?_))))))))))
 obtain ⟨f3, H⟩ := H
 refine CW.sub [(2, _), (3, _), (7, _)] ⟨rfl, rfl, rfl, trivial⟩ ?_
 refine CW.lp (fun kL3 l_ w_ => ∃ a4 a1, l_ = [(2, .pointer (sp a2)), (3, .pointer (sp a3)), (7, .int .i64 a1)] ∧ digest_words.L3 lB kL3 a4 a1 ∧ (a4.length = 64) ∧ St w w_ [.cells a3 (iv .u32 a4) 154, .cells a2 (iv .u32 (List.replicate 64 (0 : Int))) 154]) (k := f3) ⟨a8, 16, rfl, H, d1, d2⟩ ?_
 rintro kL3 j2 j3 ⟨a4, a1, rfl, H, a5, c6⟩
 refine CW.seq (cr (WL.mv rfl (WL.v (Runs.lss rfl rfl rfl) (wn ?_))))
 rcases H with ⟨c7, H⟩ | ⟨c7, H⟩
 ·have c8 := (decide_eq_true c7)
  refine CW.ct rfl c8 (CW.skip (QW.then_n (CW.seq (CW.block (CW.seq ?_)))))
  refine CW.region_qa wide (by kernel_rfl) c6 ?_
  refine HL.mv rfl (HL.p (Runs.sub rfl rfl rfl) ?_)
  obtain ⟨⟨f4, f5⟩, H⟩ := H
  refine HL.p (Runs.indexAddr_blk arr154 rfl rfl f4 f5 (o := (i64.wrap (a1 - 15)).toNat) (by first | rfl | omega)) ?_
  refine HL.v (fun wq sq => (Runs.load nagg24 rfl (sq.cell_iv (i := 0) rfl (by have := a5; omega)))) ?_
  refine HL.mv rfl (HL.p (Runs.sub rfl rfl rfl) ?_)
  obtain ⟨⟨f6, f7⟩, H⟩ := H
  refine HL.p (Runs.indexAddr_blk arr154 rfl rfl f6 f7 (o := (i64.wrap (a1 - 2)).toNat) (by first | rfl | omega)) ?_
  refine HL.v (fun wq sq => (Runs.load nagg24 rfl (sq.cell_iv (i := 0) rfl (by have := a5; omega)))) ?_
  refine HL.as rfl (HL.as rfl ?_)
  refine HL.nil (fun j4 f8 => ?_)
  refine wn ?_
  refine CW.region_qt 29 wide (by kernel_rfl) f8 ?_
  refine HL.mv rfl (HL.mv rfl (HL.p (Runs.sub rfl rfl rfl) ?_))
  obtain ⟨⟨f9, g0⟩, H⟩ := H
  refine HL.p (Runs.indexAddr_blk arr154 rfl rfl f9 g0 (o := (i64.wrap (a1 - 16)).toNat) (by first | rfl | omega)) ?_
  refine HL.v (fun wq sq => (Runs.load nagg24 rfl (sq.cell_iv (i := 0) rfl (by have := a5; omega)))) ?_
  refine HL.mv rfl ?_
  obtain ⟨g1, g2, H⟩ := H
  refine HL.call Wanted.none ent83 rfl (fun wq sq => (digest_right.calls g2).mono (by rintro _ _ ⟨rfl, sc⟩; exact ⟨rfl, sq.call sc⟩)) ?_
  refine HL.mv rfl ?_
  obtain ⟨g3, g4, H⟩ := H
  refine HL.call Wanted.none ent83 rfl (fun wq sq => (digest_right.calls g4).mono (by rintro _ _ ⟨rfl, sc⟩; exact ⟨rfl, sq.call sc⟩)) ?_
  refine HL.p (Runs.bxor rfl rfl rfl) (HL.mv rfl ?_)
  refine HL.p (Runs.shr rfl rfl (by decide) rfl) ?_
  obtain ⟨j5, g5, H⟩ := H
  refine HL.p (Runs.bxor rfl rfl g5) ?_
  obtain ⟨j6, g6, H⟩ := H
  refine HL.p (Runs.add rfl rfl g6) (HL.mv rfl (HL.p (Runs.sub rfl rfl rfl) ?_))
  obtain ⟨⟨g7, g8⟩, H⟩ := H
  refine HL.p (Runs.indexAddr_blk arr154 rfl rfl g7 g8 (o := (i64.wrap (a1 - 7)).toNat) (by first | rfl | omega)) ?_
  refine HL.v (fun wq sq => (Runs.load nagg24 rfl (sq.cell_iv (i := 0) rfl (by have := a5; omega)))) ?_
  obtain ⟨g9, h0, H⟩ := H
  refine HL.p (Runs.add rfl rfl h0) (HL.mv rfl ?_)
  obtain ⟨h1, h2, H⟩ := H
  refine HL.call Wanted.none ent83 rfl (fun wq sq => (digest_right.calls h2).mono (by rintro _ _ ⟨rfl, sc⟩; exact ⟨rfl, sq.call sc⟩)) ?_
  refine HL.mv rfl ?_
  obtain ⟨h3, h4, H⟩ := H
  refine HL.call Wanted.none ent83 rfl (fun wq sq => (digest_right.calls h4).mono (by rintro _ _ ⟨rfl, sc⟩; exact ⟨rfl, sq.call sc⟩)) ?_
  refine HL.p (Runs.bxor rfl rfl rfl) (HL.mv rfl ?_)
  refine HL.p (Runs.shr rfl rfl (by decide) rfl) ?_
  obtain ⟨h5, h6, H⟩ := H
  refine HL.p (Runs.bxor rfl rfl h6) (HL.p (Runs.add rfl rfl rfl) ?_)
  obtain ⟨⟨h7, h8⟩, H⟩ := H
  refine HL.p (Runs.indexAddr_blk arr154 rfl rfl h7 h8 (o := (a1).toNat) (by first | rfl | omega)) ?_
  refine HL.nil ?_
  generalize e_ : List.drop 29 _ = z_
  intro j7 h9
  subst e_
  obtain ⟨c9, d8, H⟩ := H
  have i0 : c9.length = 64 := by rw [d8, List.length_set]; exact a5
  refine WL.store_cells (i := 0) h9 rfl cells24 rfl (by rw [iv_length]; have := a5; omega) rfl rfl ?_
  intro i1 d0
  have d0' := d0; (try dsimp only [List.set, ec, en] at d0'); rw [iv_set .u32 a4 (a1.toNat) (u32.wrap (g9 + h5)), ← d8] at d0'
  refine WL.nil (QW.blk_n (QW.then_n (CW.region (WL.mv rfl (WL.v (Runs.add rfl rfl rfl) (WL.as rfl (WL.nil ?_)))))))
  exact QW.a ⟨c9, i64.wrap (a1 + 1), rfl, H, i0, d0'⟩
 have c8 := (decide_eq_false c7)
 refine CW.cf rfl c8 (CW.exit (QW.then_x (QW.then_x (QW.blk_x (QW.then_n (cr (WL.v (Runs.load_arr arr154 rfl (c6.blk (i := 0) rfl) a5) ?_)))))))
 refine WL.store_arr (i := 1) c6 rfl arr154 rfl (by rw [iv_length]; exact (List.length_replicate ..)) a5 rfl ?_
 intro i2 b5
 try dsimp only [List.set] at b5
 refine wn (CW.ret ?_)
 obtain rfl := H
 exact QW.retc rfl arr154 rfl (b5.blk (i := 1) rfl) a5 ⟨a5, rfl, b5.pick [] (by decide)⟩
def digest_state_mixed.L2 (r0 a2 : List Int) : Nat → (List Int) → Int → Prop
 | 0, _, _ => False
 | kL2 + 1, a1, a0 => ((a0 < 8 ∧ ((0 ≤ a0 ∧ a0 < (8 : Int)) ∧ ((0 ≤ a0 ∧ a0 < (8 : Int)) ∧ (∃ a3 : Int, a3 = u32.wrap ((gn a1 (a0.toNat)) + (gn a2 (a0.toNat))) ∧ ((0 ≤ a0 ∧ a0 < (8 : Int)) ∧ (∃ a4 : List Int, a4 = List.set a1 (a0.toNat) a3 ∧ digest_state_mixed.L2 r0 a2 kL2 a4 (i64.wrap (a0 + 1)))))))) ∨ (¬ (a0 < 8) ∧ r0 = a1))
def digest_state_mixed.L1 (l0 r0 a5 : List Int) : Nat → Int → Int → Int → Int → Int → Int → Int → Int → Int → Prop
 | 0, _, _, _, _, _, _, _, _, _ => False
 | kL1 + 1, a1, a3, a4, a9, a2, a6, a7, b0, a0 => ((a0 < 64 ∧ ((0 ≤ a0 ∧ a0 < (64 : Int)) ∧ (∃ b1, digest_right.rel a2 6 b1 ∧ (∃ b2, digest_right.rel a2 11 b2 ∧ (∃ b3, digest_right.rel a2 25 b3 ∧ (∃ b4 : Int, b4 = u32.wrap (b0 + (bits .xor .u32 (bits .xor .u32 b1 b2) b3)) ∧ (∃ b5 : Int, b5 = bits .xor .u32 (bits .and .u32 a2 a6) (bits .and .u32 (notI .u32 a2) a7) ∧ ((0 ≤ a0 ∧ a0 < (64 : Int)) ∧ (∃ a8 : Int, a8 = u32.wrap ((u32.wrap (b4 + b5)) + (gn tab0 (a0.toNat))) ∧ (∃ b6, digest_right.rel a1 2 b6 ∧ (∃ b7, digest_right.rel a1 13 b7 ∧ (∃ b8, digest_right.rel a1 22 b8 ∧ (∃ b9 : Int, b9 = bits .xor .u32 (bits .and .u32 a1 a3) (bits .and .u32 a1 a4) ∧ (∃ c0 : Int, c0 = u32.wrap ((bits .xor .u32 (bits .xor .u32 b6 b7) b8) + (bits .xor .u32 b9 (bits .and .u32 a3 a4))) ∧ (∃ c1 : Int, c1 = u32.wrap (a9 + (u32.wrap (a8 + (gn a5 (a0.toNat))))) ∧ (∃ c2 : Int, c2 = u32.wrap ((u32.wrap (a8 + (gn a5 (a0.toNat)))) + c0) ∧ digest_state_mixed.L1 l0 r0 a5 kL1 c2 a1 a3 a4 c1 a2 a6 a7 (i64.wrap (a0 + 1)))))))))))))))))) ∨ (¬ (a0 < 64) ∧ (∃ c3 : List Int, c3 = [a1, a3, a4, a9, a2, a6, a7, b0] ∧ (∃ k_ : Nat, digest_state_mixed.L2 r0 c3 k_ l0 0))))
def digest_state_mixed.rel (l0 l1 r0 : List Int) : Prop := (∃ a0, digest_words.rel l1 a0 ∧ (∃ k_ : Nat, digest_state_mixed.L1 l0 r0 a0 k_ (gn l0 0) (gn l0 1) (gn l0 2) (gn l0 3) (gn l0 4) (gn l0 5) (gn l0 6) (gn l0 7) 0))
theorem digest_state_mixed.calls (hG0 : Src w (sp 0) (iv .u32 tab0)) (hl0 : lA.length = 8) (hs1 : Src w pA (iv .u8 lB)) (hn1 : nA = lB.length) (hc1 : nA ≤ nB) (H : digest_state_mixed.rel lA lB lC) :
  Calls prog 73 #[.agg (iv .u32 lA).toArray, .slice pA nA nB] w fun e w' => lC.length = 8 ∧ e = .returned (.agg (iv .u32 lC).toArray) ∧ St w w' [] := by
 refine CW.en func73 rfl 120 [_, _] (CW.sub [(0, _), (1, _)] ⟨rfl, rfl, trivial⟩ ?_)
 have st0 := St.refl w
 refine cr (WL.box st0 rfl rfl ?_)
 intro a0 i6 d1
 refine WL.alloc d1 arr148.zero ?_
 intro a1 i7 d2
 refine wn (CW.seq ?_)
 refine CW.region_qa wide (by kernel_rfl) d2 ?_
 refine HL.p (Runs.indexAddr_blk arr148 rfl rfl (by decide) (by decide) (o := 0) (by first | rfl | omega)) ?_
 refine HL.v (fun wq sq => (Runs.load nagg24 rfl (sq.cell_iv (i := 1) rfl (by have := hl0; omega)))) ?_
 refine HL.p (Runs.indexAddr_blk arr148 rfl rfl (by decide) (by decide) (o := 1) (by first | rfl | omega)) ?_
 refine HL.v (fun wq sq => (Runs.load nagg24 rfl (sq.cell_iv (i := 1) rfl (by have := hl0; omega)))) ?_
 refine HL.p (Runs.indexAddr_blk arr148 rfl rfl (by decide) (by decide) (o := 2) (by first | rfl | omega)) ?_
 refine HL.v (fun wq sq => (Runs.load nagg24 rfl (sq.cell_iv (i := 1) rfl (by have := hl0; omega)))) ?_
 refine HL.p (Runs.indexAddr_blk arr148 rfl rfl (by decide) (by decide) (o := 3) (by first | rfl | omega)) ?_
 refine HL.v (fun wq sq => (Runs.load nagg24 rfl (sq.cell_iv (i := 1) rfl (by have := hl0; omega)))) ?_
 refine HL.p (Runs.indexAddr_blk arr148 rfl rfl (by decide) (by decide) (o := 4) (by first | rfl | omega)) ?_
 refine HL.v (fun wq sq => (Runs.load nagg24 rfl (sq.cell_iv (i := 1) rfl (by have := hl0; omega)))) ?_
 refine HL.p (Runs.indexAddr_blk arr148 rfl rfl (by decide) (by decide) (o := 5) (by first | rfl | omega)) ?_
 refine HL.v (fun wq sq => (Runs.load nagg24 rfl (sq.cell_iv (i := 1) rfl (by have := hl0; omega)))) ?_
 refine HL.p (Runs.indexAddr_blk arr148 rfl rfl (by decide) (by decide) (o := 6) (by first | rfl | omega)) ?_
 refine HL.v (fun wq sq => (Runs.load nagg24 rfl (sq.cell_iv (i := 1) rfl (by have := hl0; omega)))) ?_
 refine HL.p (Runs.indexAddr_blk arr148 rfl rfl (by decide) (by decide) (o := 7) (by first | rfl | omega)) ?_
 refine HL.v (fun wq sq => (Runs.load nagg24 rfl (sq.cell_iv (i := 1) rfl (by have := hl0; omega)))) ?_
 refine HL.as rfl (HL.as rfl (HL.as rfl (HL.as rfl (HL.as rfl (HL.as rfl (HL.as rfl (HL.as rfl (HL.nil ?_))))))))
 generalize e_ : List.drop 24 _ = z_
 intro d3 c5
 subst e_
 refine wn ?_
 refine CW.su [(1, _), (2, _), (4, _), (5, _), (6, _), (7, _), (8, _), (9, _), (10, _), (11, _), (12, _)] ?_
 refine CW.seq (cr (WL.mv rfl ?_))
 obtain ⟨a9, d4, H⟩ := H
 refine wC ent82 rfl (digest_words.calls (hs1.ext c5) (hn1) (hc1) d4) ?_
 rintro _ d5 ⟨d6, rfl, d7⟩
 have d8 := c5.call d7
 refine ⟨_, rfl, WL.mv rfl (wn (CW.block ?_))⟩
 obtain ⟨d9, H⟩ := H
 refine CW.su [(2, _), (4, _), (5, _), (6, _), (7, _), (8, _), (9, _), (10, _), (11, _), (12, _), (36, _), (37, _)] ?_
 refine CW.lp (fun kL1 l_ w_ => ∃ a4 b0 b1 b6 a5 b2 b3 b7 a3, l_ = [(2, .pointer (sp a0)), (4, .pointer (sp a1)), (5, .int .u32 a4), (6, .int .u32 b0), (7, .int .u32 b1), (8, .int .u32 b6), (9, .int .u32 a5), (10, .int .u32 b2), (11, .int .u32 b3), (12, .int .u32 b7), (36, .agg (iv .u32 a9).toArray), (37, .int .i64 a3)] ∧ digest_state_mixed.L1 lA lC a9 kL1 a4 b0 b1 b6 a5 b2 b3 b7 a3 ∧ St w w_ [.cells a1 (iv .u32 (List.replicate 8 (0 : Int))) 148, .cells a0 (iv .u32 lA) 148]) (k := d9) ⟨gn lA 0, gn lA 1, gn lA 2, gn lA 3, gn lA 4, gn lA 5, gn lA 6, gn lA 7, 0, rfl, H, d8⟩ ?_
 rintro kL1 i8 i9 ⟨a4, b0, b1, b6, a5, b2, b3, b7, a3, rfl, H, c6⟩
 refine cr (WL.v (Runs.lss rfl rfl rfl) (wn (CW.seq ?_)))
 rcases H with ⟨b8, H⟩ | ⟨b8, H⟩
 ·have b9 := (decide_eq_true b8)
  refine CW.ct rfl b9 (CW.skip (QW.then_n (CW.seq (CW.block (cr (WL.mv rfl ?_))))))
  obtain ⟨⟨e0, e1⟩, H⟩ := H
  refine WL.v (Runs.index_arr arr154 rfl d6 rfl e0 e1 (j := (a3).toNat) (by first | rfl | omega)) ?_
  refine WL.as rfl (WL.as rfl (wn (CW.seq ?_)))
  refine CW.region_qa wide (by kernel_rfl) c6 ?_
  refine HL.mv rfl (HL.mv rfl ?_)
  obtain ⟨e2, e3, H⟩ := H
  refine HL.call Wanted.none ent83 rfl (fun wq sq => (digest_right.calls e3).mono (by rintro _ _ ⟨rfl, sc⟩; exact ⟨rfl, sq.call sc⟩)) ?_
  refine HL.mv rfl ?_
  obtain ⟨e4, e5, H⟩ := H
  refine HL.call Wanted.none ent83 rfl (fun wq sq => (digest_right.calls e5).mono (by rintro _ _ ⟨rfl, sc⟩; exact ⟨rfl, sq.call sc⟩)) ?_
  refine HL.p (Runs.bxor rfl rfl rfl) (HL.mv rfl ?_)
  obtain ⟨e6, e7, H⟩ := H
  refine HL.call Wanted.none ent83 rfl (fun wq sq => (digest_right.calls e7).mono (by rintro _ _ ⟨rfl, sc⟩; exact ⟨rfl, sq.call sc⟩)) ?_
  refine HL.p (Runs.bxor rfl rfl rfl) ?_
  obtain ⟨j0, e8, H⟩ := H
  refine HL.p (Runs.add rfl rfl e8) (HL.mv rfl (HL.mv rfl (HL.p (Runs.band rfl rfl rfl) (HL.mv rfl (HL.p (Runs.compl rfl rfl) (HL.mv rfl (HL.p (Runs.band rfl rfl rfl) ?_)))))))
  obtain ⟨j1, e9, H⟩ := H
  refine HL.p (Runs.bxor rfl rfl e9) (HL.p (Runs.add rfl rfl rfl) (HL.mv rfl ?_))
  obtain ⟨⟨f0, f1⟩, H⟩ := H
  refine HL.p (Runs.indexAddr_glob arr154 rfl f0 f1 (o := (a3).toNat) (by first | rfl | omega)) ?_
  refine HL.v (fun wq sq => (Runs.load nagg24 rfl ((hG0.ext sq).cell_iv rfl (by rw [tab0_len]; omega)))) ?_
  obtain ⟨j2, f2, H⟩ := H
  refine HL.p (Runs.add rfl rfl f2) (HL.mv rfl (HL.p (Runs.add rfl rfl rfl) (HL.as rfl (HL.nil ?_))))
  generalize e_ : List.drop 26 _ = z_
  intro f3 f4
  subst e_
  refine WL.nx (WL.mv rfl ?_)
  obtain ⟨f5, f6, H⟩ := H
  refine wC ent83 rfl (digest_right.calls f6) ?_
  rintro _ c7 ⟨rfl, f7⟩
  have f8 := f4.call f7
  refine ⟨_, rfl, WL.mv rfl ?_⟩
  obtain ⟨f9, g0, H⟩ := H
  refine wC ent83 rfl (digest_right.calls g0) ?_
  rintro _ c8 ⟨rfl, g1⟩
  have g2 := f8.call g1
  refine ⟨_, rfl, WL.v (Runs.bxor rfl rfl rfl) (WL.mv rfl ?_)⟩
  obtain ⟨g3, g4, H⟩ := H
  refine wC ent83 rfl (digest_right.calls g4) ?_
  rintro _ g5 ⟨rfl, g6⟩
  have g7 := g2.call g6
  refine ⟨_, rfl, WL.v (Runs.bxor rfl rfl rfl) (WL.mv rfl (WL.mv rfl (WL.v (Runs.band rfl rfl rfl) (WL.mv rfl (WL.mv rfl (WL.v (Runs.band rfl rfl rfl) ?_))))))⟩
  obtain ⟨j3, g8, H⟩ := H
  refine WL.v (Runs.bxor rfl rfl g8) (WL.mv rfl (WL.mv rfl (WL.v (Runs.band rfl rfl rfl) (WL.v (Runs.bxor rfl rfl rfl) ?_))))
  obtain ⟨j4, g9, H⟩ := H
  refine WL.v (Runs.add rfl rfl g9) (WL.as rfl (wn (CW.region (WL.mv rfl (WL.mv rfl (WL.mv rfl (WL.mv rfl (WL.mv rfl ?_))))))))
  obtain ⟨h0, h1, H⟩ := H
  refine WL.v (Runs.add rfl rfl h1) (WL.mv rfl (WL.mv rfl (WL.mv rfl (WL.mv rfl (WL.mv rfl ?_)))))
  obtain ⟨h2, h3, H⟩ := H
  refine WL.v (Runs.add rfl rfl h3) (WL.as rfl (WL.as rfl (WL.as rfl (WL.as rfl (WL.as rfl (WL.as rfl (WL.as rfl (WL.as rfl (WL.nil (QW.blk_n (QW.then_n (CW.region (WL.v (Runs.add rfl rfl rfl) (WL.mv rfl (WL.nil ?_)))))))))))))))
  exact QW.a ⟨h2, a4, b0, b1, h0, a5, b2, b3, i64.wrap (a3 + 1), rfl, H, g7⟩
 have b9 := (decide_eq_false b8)
 refine CW.cf rfl b9 (CW.exit (QW.then_x (QW.then_x (QW.blk_x (QW.then_n (CW.seq (cr (WL.mv rfl (WL.mv rfl (WL.mv rfl (WL.mv rfl (WL.mv rfl (WL.mv rfl (WL.mv rfl (WL.mv rfl ?_)))))))))))))))
 obtain ⟨a8, c9, H⟩ := H
 refine WL.v (Runs.build_arr (xs := a8) arr134 rfl rfl (by rw [c9]; rfl)) ?_
 refine WL.mv rfl (wn (CW.sub [(2, _), (4, _), (107, _), (108, _)] ⟨rfl, rfl, rfl, rfl, trivial⟩ (CW.block ?_)))
 obtain ⟨h4, H⟩ := H
 refine CW.sub [(2, _), (4, _), (107, _), (108, _)] ⟨rfl, rfl, rfl, rfl, trivial⟩ ?_
 refine CW.lp (fun kL2 l_ w_ => ∃ a6 a2, l_ = [(2, .pointer (sp a0)), (4, .pointer (sp a1)), (107, .agg (iv .u32 a8).toArray), (108, .int .i64 a2)] ∧ digest_state_mixed.L2 lC a8 kL2 a6 a2 ∧ (a6.length = 8) ∧ St w w_ [.cells a1 (iv .u32 (List.replicate 8 (0 : Int))) 148, .cells a0 (iv .u32 a6) 148]) (k := h4) ⟨lA, 0, rfl, H, hl0, c6⟩ ?_
 rintro kL2 j5 j6 ⟨a6, a2, rfl, H, a7, b4⟩
 refine cr (WL.v (Runs.lss rfl rfl rfl) (wn (CW.seq ?_)))
 rcases H with ⟨c0, H⟩ | ⟨c0, H⟩
 ·have c2 := (decide_eq_true c0)
  refine CW.ct rfl c2 (CW.skip (QW.then_n (CW.seq (CW.block (cr (WL.mv rfl ?_))))))
  obtain ⟨⟨h5, h6⟩, H⟩ := H
  refine WL.v (Runs.index_arr arr134 rfl (by rw [c9]; rfl) rfl h5 h6 (j := (a2).toNat) (by first | rfl | omega)) ?_
  refine WL.as rfl (WL.as rfl (wn (CW.region (WL.mv rfl ?_))))
  obtain ⟨⟨h7, h8⟩, H⟩ := H
  refine WL.v (Runs.indexAddr_blk arr148 rfl rfl h7 h8 (o := (a2).toNat) (by first | rfl | omega)) ?_
  refine WL.v (Runs.load nagg24 rfl (b4.cell_iv (i := 1) rfl (by have := a7; omega))) ?_
  refine WL.mv rfl ?_
  obtain ⟨h9, i0, H⟩ := H
  refine WL.v (Runs.add rfl rfl i0) ?_
  obtain ⟨⟨i1, i2⟩, H⟩ := H
  refine WL.v (Runs.indexAddr_blk arr148 rfl rfl i1 i2 (o := (a2).toNat) (by first | rfl | omega)) ?_
  obtain ⟨c3, d0, H⟩ := H
  have i3 : c3.length = 8 := by rw [d0, List.length_set]; exact a7
  refine WL.store_cells (i := 1) b4 rfl cells24 rfl (by rw [iv_length]; have := a7; omega) rfl rfl ?_
  intro i4 c4
  have c4' := c4; (try dsimp only [List.set, ec, en] at c4'); rw [iv_set .u32 a6 (a2.toNat) h9, ← d0] at c4'
  refine WL.nil (QW.blk_n (QW.then_n (CW.region (WL.v (Runs.add rfl rfl rfl) (WL.mv rfl (WL.nil ?_))))))
  exact QW.a ⟨c3, i64.wrap (a2 + 1), rfl, H, i3, c4'⟩
 have c2 := (decide_eq_false c0)
 refine CW.cf rfl c2 (CW.exit (QW.then_x (QW.then_x (QW.blk_x (QW.then_n (cr (WL.v (Runs.load_arr arr148 rfl (b4.blk (i := 1) rfl) a7) ?_)))))))
 refine WL.store_arr (i := 0) b4 rfl arr148 rfl (by rw [iv_length]; exact (List.length_replicate ..)) a7 rfl ?_
 intro i5 b5
 try dsimp only [List.set] at b5
 refine wn (CW.ret ?_)
 obtain rfl := H
 exact QW.retc rfl arr148 rfl (b5.blk (i := 0) rfl) a7 ⟨a7, rfl, b5.pick [] (by decide)⟩
def digest_Of.L3 (r0 a2 : List Int) : Nat → (List Int) → Int → Prop
 | 0, _, _ => False
 | kL3 + 1, a3, a0 => ((a0 < 32 ∧ ((0 ≤ (i64.wrap (Int.tdiv a0 4)) ∧ (i64.wrap (Int.tdiv a0 4)) < (8 : Int)) ∧ (∃ a1 : Int, a1 = i64.wrap (24 - (i64.wrap ((Int.tmod a0 4) * 8))) ∧ (0 ≤ a1 ∧ (∃ a4 : Int, a4 = shrI .u32 (gn a2 ((i64.wrap (Int.tdiv a0 4)).toNat)) a1 ∧ ((0 ≤ a0 ∧ a0 < (32 : Int)) ∧ (∃ a5 : List Int, a5 = List.set a3 (a0.toNat) (IntKind.u8.wrap a4) ∧ digest_Of.L3 r0 a2 kL3 a5 (i64.wrap (a0 + 1))))))))) ∨ (¬ (a0 < 32) ∧ r0 = a3))
def digest_Of.L2 (l0 r0 : List Int) : Nat → (List Int) → Int → Prop
 | 0, _, _ => False
 | kL2 + 1, a0, a1 => ((a1 ≥ 0 ∧ (0 ≤ a1 ∧ (∃ a9 : Int, a9 = shrI .u64 (u64.wrap (8 * (u64.wrap (l0.length : Int)))) a1 ∧ (∃ a4 : List Int, a4 = a0 ++ [IntKind.u8.wrap a9] ∧ (a4.length ≤ 1099511627776 ∧ digest_Of.L2 l0 r0 kL2 a4 (i64.wrap (a1 - 8))))))) ∨ (¬ (a1 ≥ 0) ∧ (∃ a5, digest_first.rel  a5 ∧ (∃ a2, (a0.length ≤ 64 * a2 ∧ (∀ j : Nat, j < a2 → 64 * j < a0.length) ∧ a0.length ≤ 1099511627776) ∧ ∃ a6 : List Int → Prop, ∃ b0 : Nat → List Int → List Int, a6 a5 ∧ (∀ (a7 : Nat) (a3 : List Int), a7 < a2 → a6 a3 → a3.length = 8 → (∃ a8, digest_state_mixed.rel a3 (chl a0 64 a7) a8 ∧ (a6 a8 ∧ a8 = b0 a7 a3))) ∧ ∃ b1 : List Int, b1 = (List.range a2).foldl (fun s_ x_ => b0 x_ s_) a5 ∧ (∃ k_ : Nat, digest_Of.L3 r0 b1 k_ (z32) 0)))))
def digest_Of.L1 (l0 r0 : List Int) : Nat → (List Int) → Prop
 | 0, _ => False
 | kL1 + 1, a0 => (((Int.tmod (a0.length : Int) 64) ≠ 56 ∧ (∃ a1 : List Int, a1 = a0 ++ [0] ∧ (a1.length ≤ 1099511627776 ∧ digest_Of.L1 l0 r0 kL1 a1))) ∨ (¬ ((Int.tmod (a0.length : Int) 64) ≠ 56) ∧ (∃ k_ : Nat, digest_Of.L2 l0 r0 k_ a0 56)))
def digest_Of.rel (l0 r0 : List Int) : Prop := (∃ a1, slices_Clone_s_byte_byte.rel l0 a1 ∧ (∃ a0 : List Int, a0 = a1 ++ [128] ∧ (a0.length ≤ 1099511627776 ∧ (∃ k_ : Nat, digest_Of.L1 l0 r0 k_ a0))))
theorem digest_Of.calls (hG0 : Src w (sp 0) (iv .u32 tab0)) (hs0 : Src w pA (iv .u8 lA)) (hn0 : nA = lA.length) (hc0 : nA ≤ nB) (H : digest_Of.rel lA lB) :
  Calls prog 54 #[.slice pA nA nB] w fun e w' => lB.length = 32 ∧ e = .returned (.agg (iv .u8 lB).toArray) ∧ St w w' [] := by
 refine CW.enterM func54 rfl (n := 58) rfl [.slice pA nA nB] (Nat.le_of_ble_eq_true rfl) (CW.sub [(0, _)] ⟨rfl, trivial⟩ ?_)
 have st0 := St.refl w
 refine cr (WL.alloc st0 arr23.zero ?_)
 intro a0 i6 g2
 refine WL.nx (WL.mv rfl ?_)
 obtain ⟨c8, i7, H⟩ := H
 refine wC ent48 rfl (slices_Clone_s_byte_byte.calls (hs0.ext g2) (hn0) (hc0) i7) ?_
 rintro _ i8 ⟨g3, g4, g5, i9, rfl, j0⟩
 have j1 := g2.call j0
 refine ⟨_, rfl, ?_⟩
 refine WL.buildSl [.int .u8 128] j1 underlying25 elem5 rfl rfl (by decide) (by decide) (by simp [Value.cells]) ?_
 intro a4 j2 c9
 replace c9 : St w j2 [.sl (sp a4) 1 1 (iv .u8 [128]) 5 1, .sl g3 g4 g5 (iv .u8 c8) 5 1, .cells a0 (iv .u8 (z32)) 23] := c9
 obtain ⟨d9, g6, H⟩ := H
 obtain ⟨j3, H⟩ := H
 obtain ⟨d0, e0⟩ : ∃ n_ : Nat, n_ = d9.length := ⟨_, rfl⟩
 refine WL.append (i := 1) Wanted.none c9 rfl underlying25 elem5 rfl rfl (c9.src_sl (k := 0) rfl) (by rw [iv_length]; exact (Eq.refl _).symm) (one_iv .u8 _) (by decide) (N := d0) (by rw [e0, g6, List.length_append]; exact congr (congrArg HAdd.hAdd (i9)) (rfl)) (by rw [e0]; exact j3) ?_
 intro e1 e2 j4 e3
 have e3' : St w j4 [.sl (sp a4) 1 1 (iv .u8 [128]) 5 1, .sl e1 e2 d0 (iv .u8 d9) 5 1, .cells a0 (iv .u8 (z32)) 23] := by rw [g6, ← iv_append .u8 c8 [128]]; exact e3
 refine WL.as rfl (wn (CW.seq (CW.block ?_)))
 obtain ⟨j5, H⟩ := H
 refine CW.sub [(0, _), (2, _), (3, _)] ⟨rfl, rfl, rfl, trivial⟩ ?_
 refine CW.lp (fun kL1 l_ w_ => ∃ b4 b5 b1 a9, l_ = [(0, .slice pA nA nB), (2, .pointer (sp a0)), (3, .slice b4 b1 b5)] ∧ digest_Of.L1 lA lB kL1 a9 ∧ (b1 = a9.length) ∧ St w w_ [.sl (sp a4) 1 1 (iv .u8 [128]) 5 1, .sl b4 b5 b1 (iv .u8 a9) 5 1, .cells a0 (iv .u8 (z32)) 23]) (k := j5) ⟨e1, e2, d0, d9, rfl, H, e0, e3'⟩ ?_
 rintro kL1 o8 o9 ⟨b4, b5, b1, a9, rfl, H, e4, g7⟩
 refine CW.seq (cr (WL.mv rfl ?_))
 refine WL.v (Runs.len_sl underlying25 rfl (by rw [e4])) ?_
 refine WL.v (Runs.rem rfl rfl (by decide) rfl) ?_
 refine WL.v (Runs.neq rfl rfl rfl) (wn ?_)
 rcases H with ⟨e5, H⟩ | ⟨e5, H⟩
 ·have e6 : ((Int.tmod (a9.length : Int) 64) != 56) = true := (bne_iff_ne.mpr e5)
  refine CW.ct rfl e6 (CW.skip (QW.then_n (CW.block (CW.region (WL.mv rfl ?_)))))
  refine WL.buildSl [.int .u8 0] g7 underlying25 elem5 rfl rfl (by decide) (by decide) (by simp [Value.cells]) ?_
  intro g8 j6 d1
  replace d1 : St w j6 [.sl (sp g8) 1 1 (iv .u8 [0]) 5 1, .sl (sp a4) 1 1 (iv .u8 [128]) 5 1, .sl b4 b5 b1 (iv .u8 a9) 5 1, .cells a0 (iv .u8 (z32)) 23] := d1
  obtain ⟨e7, g9, H⟩ := H
  obtain ⟨j7, H⟩ := H
  obtain ⟨e8, e9⟩ : ∃ n_ : Nat, n_ = e7.length := ⟨_, rfl⟩
  refine WL.append (i := 2) Wanted.none d1 rfl underlying25 elem5 rfl rfl (d1.src_sl (k := 0) rfl) (by rw [iv_length]; exact (Eq.refl _).symm) (one_iv .u8 _) (by decide) (N := e8) (by rw [e9, g9, List.length_append]; exact congr (congrArg HAdd.hAdd (e4)) (rfl)) (by rw [e9]; exact j7) ?_
  intro h0 h4 j8 b9
  have b9' : St w j8 [.sl (sp g8) 1 1 (iv .u8 [0]) 5 1, .sl (sp a4) 1 1 (iv .u8 [128]) 5 1, .sl h0 h4 e8 (iv .u8 e7) 5 1, .cells a0 (iv .u8 (z32)) 23] := by rw [g9, ← iv_append .u8 a9 [0]]; exact b9
  refine WL.as rfl (WL.nil (QW.blk_n ?_))
  have b9'' := b9'.pick [1, 2, 3] (by decide)
  exact QW.a ⟨h0, h4, e8, e7, rfl, H, e9, b9''⟩
 have e6 : ((Int.tmod (a9.length : Int) 64) != 56) = false := (bne_eq_false_iff_eq.mpr (Decidable.not_not.mp e5))
 refine CW.cf rfl e6 (CW.exit (QW.then_x (QW.then_x (QW.blk_x (QW.then_n (CW.seq (cr (WL.as rfl (wn (CW.block ?_))))))))))
 obtain ⟨j9, H⟩ := H
 refine CW.sub [(0, _), (2, _), (3, _), (4, _)] ⟨rfl, rfl, rfl, rfl, trivial⟩ ?_
 refine CW.lp (fun kL2 l_ w_ => ∃ a2 a3 a1 a5 b6, l_ = [(0, .slice pA nA nB), (2, .pointer (sp a0)), (3, .slice a2 a1 a3), (4, .int .i64 b6)] ∧ digest_Of.L2 lA lB kL2 a5 b6 ∧ (a1 = a5.length) ∧ St w w_ [.sl (sp a4) 1 1 (iv .u8 [128]) 5 1, .sl a2 a3 a1 (iv .u8 a5) 5 1, .cells a0 (iv .u8 (z32)) 23]) (k := j9) ⟨b4, b5, b1, a9, 56, rfl, H, e4, g7⟩ ?_
 rintro kL2 p0 k0 ⟨a2, a3, a1, a5, b6, rfl, H, c1, h5⟩
 refine CW.seq (cr (WL.mv rfl (WL.v (Runs.geq rfl rfl rfl) (wn ?_))))
 rcases H with ⟨f0, H⟩ | ⟨f0, H⟩
 ·have f1 := (decide_eq_true f0)
  refine CW.ct rfl f1 (CW.skip (QW.then_n (CW.seq (CW.block (CW.region (WL.mv rfl (WL.mv rfl ?_)))))))
  refine WL.v (Runs.len_sl underlying25 rfl (by rw [hn0])) ?_
  refine WL.v (Runs.conv underlying37 ⟨_, underlying3⟩ rfl rfl) (WL.v (Runs.mul rfl rfl rfl) (WL.mv rfl ?_))
  obtain ⟨k1, H⟩ := H
  obtain ⟨d2, k2, H⟩ := H
  refine WL.v (Runs.shr rfl rfl k1 k2) (WL.v (Runs.conv underlying5 ⟨_, underlying37⟩ rfl rfl) ?_)
  refine WL.buildSl [.int .u8 (IntKind.u8.wrap d2)] h5 underlying25 elem5 rfl rfl (by decide) (by decide) (by simp [Value.cells]) ?_
  intro h6 k3 d3
  replace d3 : St w k3 [.sl (sp h6) 1 1 (iv .u8 [IntKind.u8.wrap d2]) 5 1, .sl (sp a4) 1 1 (iv .u8 [128]) 5 1, .sl a2 a3 a1 (iv .u8 a5) 5 1, .cells a0 (iv .u8 (z32)) 23] := d3
  obtain ⟨f2, h7, H⟩ := H
  obtain ⟨k4, H⟩ := H
  obtain ⟨f3, f4⟩ : ∃ n_ : Nat, n_ = f2.length := ⟨_, rfl⟩
  refine WL.append (i := 2) Wanted.none d3 rfl underlying25 elem5 rfl rfl (d3.src_sl (k := 0) rfl) (by rw [iv_length]; exact (Eq.refl _).symm) (one_iv .u8 _) (by decide) (N := f3) (by rw [f4, h7, List.length_append]; exact congr (congrArg HAdd.hAdd (c1)) (rfl)) (by rw [f4]; exact k4) ?_
  intro h8 h9 k5 c2
  have c2' : St w k5 [.sl (sp h6) 1 1 (iv .u8 [IntKind.u8.wrap d2]) 5 1, .sl (sp a4) 1 1 (iv .u8 [128]) 5 1, .sl h8 h9 f3 (iv .u8 f2) 5 1, .cells a0 (iv .u8 (z32)) 23] := by rw [h7, ← iv_append .u8 a5 [IntKind.u8.wrap d2]]; exact c2
  refine WL.as rfl (WL.nil (QW.blk_n (QW.then_n (CW.region (WL.mv rfl (WL.v (Runs.sub rfl rfl rfl) (WL.as rfl (WL.nil ?_))))))))
  have c2'' := c2'.pick [1, 2, 3] (by decide)
  exact QW.a ⟨h8, h9, f3, f2, i64.wrap (b6 - 8), rfl, H, f4, c2''⟩
 have f1 := (decide_eq_false f0)
 refine CW.cf rfl f1 (CW.exit (QW.then_x (QW.then_x (QW.blk_x (QW.then_n (cr ?_))))))
 obtain ⟨c3, k6, H⟩ := H
 refine wC ent71 rfl (digest_first.calls k6) ?_
 rintro _ k7 ⟨i0, rfl, k8⟩
 have k9 := h5.call k8
 refine ⟨_, rfl, WL.alloc k9 arr148.zero ?_⟩
 intro a6 p1 l1
 refine WL.store_arr (i := 0) l1 rfl arr148 rfl (by rw [iv_length]; exact (List.length_replicate ..)) i0 rfl ?_
 intro i1 f5
 try dsimp only [List.set] at f5
 refine wn (CW.seq (cr (WL.mv rfl ?_)))
 refine wC ent72 rfl (slices_Chunk.calls (by decide)) ?_
 rintro _ l2 ⟨a7, a8, rfl, l3⟩
 have d4 := f5.call l3
 refine ⟨_, rfl, wn (CW.sub [(2, _), (5, _), (36, _)] ⟨rfl, rfl, rfl, trivial⟩ (CW.block ?_))⟩
 obtain ⟨l4, ⟨l5, l6, l7⟩, l8, l9, m0, m1, c4, m2, H⟩ := H
 refine CW.sub [(2, _), (5, _), (36, _)] ⟨rfl, rfl, rfl, trivial⟩ ?_
 have hc1 := d4.cell (k := 1) (i := 0) rfl rfl
 have hc2 := d4.cell (k := 0) (i := 0) rfl rfl
 refine CW.range (α := Fin l4) (σ := List Int) d4 rfl ent81 (chunk_seq (c := 64) hc1 hc2 (d4.cap (i := 4) rfl) (by decide) (by decide) (by rw [c1]; exact l7) (by rw [c1]; exact l5) (fun j hj => by rw [c1]; exact l6 j hj)) (fun h k => h.trans k) (fun W j o o2 h1 h2 h3 => KpB.put (block_lt_of_cell hc1) (block_lt_of_cell hc2) W j o o2 h1 h2 h3) (fun pre s_ => s_ = pre.foldl (fun s_ x_ => l9 x_.val s_) c3 ∧ l8 s_ ∧ s_.length = 8) (fun c5 => [.cells a8 [.int .i64 ((64 : Nat) : Int)] 3, .cells a7 [.slice a2 a1 a3] 25, .cells a6 (iv .u32 c5) 148, .sl (sp a4) 1 1 (iv .u8 [128]) 5 1, .sl a2 a3 a1 (iv .u8 a5) 5 1, .cells a0 (iv .u8 (z32)) 23]) (fun _ => rfl) c3 ⟨rfl, m0, i0⟩ rfl ?_ rfl ?_
 ·rintro j_ pre_ b2 c5 m3 ⟨m4, m5, d5⟩ b7 _ b hb hd
  refine wpIn_block ?_
  refine WL.round (n := 58) (.inr ⟨j_, rfl⟩) (fun ⟨a, w, h⟩ => h) rfl ?_ hb hd
  have H := m1 b2.val c5 b2.isLt m5 d5
  refine WL.v (Runs.load_arr arr148 rfl (b7.blk (i := 2) rfl) d5) (WL.mv rfl ?_)
  obtain ⟨f6, m6, H⟩ := H
  refine wC ent73 rfl (digest_state_mixed.calls (hG0.ext b7) d5 ((b7.src_sl (k := 4) rfl).chunk 64 b2.val) ((by rw [c1]; exact chl_length _ _ _)) (Nat.le_refl _) m6) ?_
  rintro _ m7 ⟨i2, rfl, i3⟩
  have m8 := keeps_of_below i3.ext
  have m9 := b7.call i3
  refine ⟨_, rfl, ?_⟩
  refine WL.store_arrK (i := 2) m9 rfl arr148 rfl (by rw [iv_length]; exact d5) i2 rfl ?_
  intro n1 c6 n2
  try dsimp only [List.set, ec, en] at c6
  refine WL.nil (QW.blk_n ?_)
  obtain ⟨hI1, hg1⟩ := H
  exact fun b hb hd => ⟨(m8).trans n2, ⟨(c6.cell (k := 1) rfl rfl).trans (b7.cell (k := 1) rfl rfl).symm, (c6.cell (k := 0) rfl rfl).trans (b7.cell (k := 0) rfl rfl).symm⟩, f6, ⟨by rw [List.foldl_append, ← m4]; exact hg1, hI1, i2⟩, c6⟩
 rintro d6 s_z n3 ⟨rfl_, _, i4⟩ d7
 rw [foldl_fin, ← m2] at rfl_
 rw [rfl_] at d7 i4
 have d7 : St w n3 [.obj d6 (.deferred (some [])), .cells a8 [.int .i64 ((64 : Nat) : Int)] 3, .cells a7 [.slice a2 a1 a3] 25, .cells a6 (iv .u32 c4) 148, .sl (sp a4) 1 1 (iv .u8 [128]) 5 1, .sl a2 a3 a1 (iv .u8 a5) 5 1, .cells a0 (iv .u8 (z32)) 23] := d7
 refine QW.blk_n (QW.then_n (cr (WL.alloc d7 arr23.zero ?_)))
 intro c7 p2 n4
 refine wn (CW.seq (cr (WL.mv rfl (wn (CW.block ?_)))))
 obtain ⟨n5, H⟩ := H
 refine CW.sub [(2, _), (5, _), (7, _), (41, _)] ⟨rfl, rfl, rfl, rfl, trivial⟩ ?_
 refine CW.lp (fun kL3 l_ w_ => ∃ b3 b0, l_ = [(2, .pointer (sp a0)), (5, .pointer (sp a6)), (7, .pointer (sp c7)), (41, .int .i64 b0)] ∧ digest_Of.L3 lB c4 kL3 b3 b0 ∧ (b3.length = 32) ∧ St w w_ [.cells c7 (iv .u8 b3) 23, .obj d6 (.deferred (some [])), .cells a8 [.int .i64 ((64 : Nat) : Int)] 3, .cells a7 [.slice a2 a1 a3] 25, .cells a6 (iv .u32 c4) 148, .sl (sp a4) 1 1 (iv .u8 [128]) 5 1, .sl a2 a3 a1 (iv .u8 a5) 5 1, .cells a0 (iv .u8 (z32)) 23]) (k := n5) ⟨z32, 0, rfl, H, (List.length_replicate ..), n4⟩ ?_
 rintro kL3 p3 p4 ⟨b3, b0, rfl, H, b8, d8⟩
 refine cr (WL.v (Runs.lss rfl rfl rfl) (wn (CW.seq ?_)))
 rcases H with ⟨f7, H⟩ | ⟨f7, H⟩
 ·have f8 := (decide_eq_true f7)
  refine CW.ct rfl f8 (CW.skip (QW.then_n (CW.seq (CW.block (cr (WL.mv rfl (WL.as rfl (wn (CW.region (WL.mv rfl (WL.mv rfl ?_)))))))))))
  refine WL.v (Runs.quo rfl rfl (by decide) rfl) ?_
  obtain ⟨⟨n6, n7⟩, H⟩ := H
  refine WL.v (Runs.indexAddr_blk arr148 rfl rfl n6 n7 (o := (i64.wrap (Int.tdiv b0 4)).toNat) (by first | rfl | omega)) ?_
  refine WL.v (Runs.load nagg24 rfl (d8.cell_iv (i := 4) rfl (by have := i4; omega))) ?_
  refine WL.mv rfl ?_
  refine WL.v (Runs.rem rfl rfl (by decide) rfl) ?_
  refine WL.v (Runs.mul rfl rfl rfl) ?_
  obtain ⟨p5, n8, H⟩ := H
  refine WL.v (Runs.sub rfl rfl n8) ?_
  obtain ⟨n9, H⟩ := H
  obtain ⟨o0, o1, H⟩ := H
  refine WL.v (Runs.shr rfl rfl n9 o1) (WL.v (Runs.conv underlying5 ⟨_, underlying24⟩ rfl rfl) ?_)
  obtain ⟨⟨o3, o4⟩, H⟩ := H
  refine WL.v (Runs.indexAddr_blk arr23 rfl rfl o3 o4 (o := (b0).toNat) (by first | rfl | omega)) ?_
  obtain ⟨f9, i5, H⟩ := H
  have o5 : f9.length = 32 := by rw [i5, List.length_set]; exact b8
  refine WL.store_cells (i := 0) d8 rfl cells5 rfl (by rw [iv_length]; have := b8; omega) rfl rfl ?_
  intro o6 g0
  have g0' := g0; (try dsimp only [List.set, ec, en] at g0'); rw [iv_set .u8 b3 (b0.toNat) (IntKind.u8.wrap o0), ← i5] at g0'
  refine WL.nil (QW.blk_n (QW.then_n (CW.region (WL.v (Runs.add rfl rfl rfl) (WL.mv rfl (WL.nil ?_))))))
  exact QW.a ⟨f9, i64.wrap (b0 + 1), rfl, H, o5, g0'⟩
 have f8 := (decide_eq_false f7)
 refine CW.cf rfl f8 (CW.exit (QW.then_x (QW.then_x (QW.blk_x (QW.then_n (cr (WL.v (Runs.load_arr arr23 rfl (d8.blk (i := 0) rfl) b8) ?_)))))))
 refine WL.store_arr (i := 7) d8 rfl arr23 rfl (by rw [iv_length]; exact (List.length_replicate ..)) b8 rfl ?_
 intro o7 g1
 try dsimp only [List.set] at g1
 refine wn (CW.ret ?_)
 obtain rfl := H
 refine QW.retMc g1 (i := 1) rfl rfl arr23 rfl (j := 7) (by decide) rfl b8 (fun wz stz => ?_)
 exact ⟨b8, rfl, stz.pick [] (by decide)⟩
def digest_Pieces.rel (l0 : List R25) (lr0 : List Int) : Prop := (∃ a0, slices_Concat_s_byte_byte.rel l0 a0 ∧ (∃ a1, digest_Of.rel a0 a1 ∧ lr0 = a1))
theorem digest_Pieces.calls (T : Pool) (st0 : St w w1 ((T ++ R))) (hG0 : Src w (sp 0) (iv .u32 tab0)) (hb0 : HS w (T ++ R) T pA nA nB (f25 w) qA) (H : digest_Pieces.rel qA lA) :
  Calls prog 31 #[.slice pA nA nB] w1 fun e w' => ∃ T' , Pl T T' ∧ lA.length = 32 ∧ e = .returned (.agg (iv .u8 lA).toArray) ∧ St w w' ((T' ++ R)) := by
 refine CW.en func31 rfl 6 [_] (CW.sub [(0, _)] ⟨rfl, trivial⟩ (cr (WL.alloc st0 arr23.zero ?_)))
 intro a0 a9 b2
 refine WL.nx (WL.mv rfl ?_)
 have b3 := St.hide (A := []) (B := [_]) b2
 obtain ⟨a1, b4, H⟩ := H
 refine wC ent55 rfl (slices_Concat_s_byte_byte.calls T b3 (hb0.mono (memo_TR (B := [_]) ii) ii) b4) ?_
 rintro _ b0 ⟨a2, a3, a4, a5, b5, b6, rfl, b7⟩
 have a6 := St.unhide (A := [_]) (B := [_]) b7; dsimp only [ec, en] at a6
 refine ⟨_, rfl, ?_⟩
 obtain ⟨b1, b8, H⟩ := H
 refine wC ent54 rfl (digest_Of.calls (hG0.ext a6) (a6.src_sl (k := 0) rfl) (b6) (a6.cap (i := 0) rfl) b8) ?_
 rintro _ b9 ⟨a8, rfl, c1⟩
 have c2 := a6.call c1
 refine ⟨_, rfl, ?_⟩
 refine WL.store_arr (i := 1) c2 rfl arr23 rfl (by rw [iv_length]; exact (List.length_replicate ..)) a8 rfl ?_
 intro c3 a7
 try dsimp only [List.set] at a7
 refine wn (CW.ret ?_)
 obtain rfl := H
 exact QW.retN1 rfl (Res.row rfl row23 a7 (i := 1) rfl (by rw [iv_length]; exact a8)) ⟨a2, b5, a8, rfl, (St.pk (L := [_, _]) a7 [])⟩
def journal_Link.rel (l0 : List Int) (a1 : Int) (l2 r0 : List Int) : Prop := (∃ a0, word_Put.rel (u64.wrap a1) 4 a0 ∧ (∃ a2, digest_Pieces.rel ([[255], l0, a0, l2] : List R25) a2 ∧ r0 = a2))
theorem journal_Link.calls (hG0 : Src w (sp 0) (iv .u32 tab0)) (hl0 : lA.length = 32) (hs2 : Src w pA (iv .u8 lB)) (hn2 : nA = lB.length) (hc2 : nA ≤ nB) (H : journal_Link.rel lA iA lB lC) :
  Calls prog 9 #[.agg (iv .u8 lA).toArray, .int .u32 iA, .slice pA nA nB] w fun e w' => lC.length = 32 ∧ e = .returned (.agg (iv .u8 lC).toArray) ∧ St w w' [] := by
 refine CW.en func9 rfl 15 [_, _, _] (CW.sub [(0, _), (1, _), (2, _)] ⟨rfl, rfl, rfl, trivial⟩ ?_)
 obtain ⟨T, R, hT, hR, st0⟩ := St.start w
 refine cr (WL.box st0 rfl rfl ?_)
 intro a2 j4 f3
 refine WL.alloc f3 arr23.zero ?_
 intro a0 j5 f4
 refine wn (CW.seq ?_)
 refine CW.region_aw wide f4 (fun f5 e4 => ?_)
 refine AW.tk 1 rfl (fun _ => (Runs.slice_arr arr23 rfl (by decide))) ?_
 refine AW.tk 2 rfl (fun _ => (Runs.move rfl)) ?_
 refine AW.tk 3 rfl (fun _ => (Runs.conv underlying37 ⟨_, underlying24⟩ rfl rfl)) ?_
 refine AW.tk 5 rfl (fun _ => (Runs.move rfl)) ?_
 refine AW.step2 0 4 rfl rfl (by kernel_rfl) ?_ ?_
 ·refine WL.buildSl [.int .u8 255] e4 underlying25 elem5 rfl rfl (by decide) (by decide) (by simp [Value.cells]) ?_
  intro b3 e5 d1
  replace d1 : St w e5 (.sl (sp b3) 1 1 (iv .u8 [255]) 5 1 :: .cells a0 (iv .u8 (z32)) 23 :: .cells a2 (iv .u8 lA) 23 :: (T ++ R)) := d1
  refine WL.nil ?_
  refine AW.back ?_
  refine AW.step 4 rfl (by kernel_rfl) ?_
  obtain ⟨a9, f6, H⟩ := H
  refine wC ent32 rfl (word_Put.calls f6) ?_
  rintro _ c1 ⟨b0, b1, b2, f7, rfl, f8⟩
  have e6 := d1.call f8
  refine ⟨_, rfl, WL.nil ?_⟩
  refine AW.back  ?_
  refine AW.step 6 rfl (by kernel_rfl) ?_
  have hb_29c := e6.cap (i := 1) rfl
  obtain ⟨d2, j6, f9, d3⟩ := St.freeze (A := [_]) (B := [_, _]) (T := T) (R := R) e6
  have g0 : HB w d2 (sp b3) 1 1 (iv .u8 [255]) [255].length := ⟨rfl, hb_29c, Hd.of_sl f9⟩
  try dsimp only [List.set, ec, en] at d3
  obtain ⟨d4, g1, g2, c3⟩ := St.freezeC (A := [_, _]) (B := []) (T := d2) (R := R) d3
  have g3 : HB w d4 (sp a2) 32 32 (iv .u8 lA) lA.length := ⟨(hl0).symm, Nat.le_refl _, Hd.of_cells g2⟩
  try dsimp only [List.set, ec, en] at c3
  have hb_39c := c3.cap (i := 0) rfl
  obtain ⟨a3, e7, g4, d5⟩ := St.freeze (A := []) (B := [_]) (T := d4) (R := R) c3
  have g5 : HB w a3 b0 b2 b1 (iv .u8 a9) a9.length := ⟨f7, hb_39c, Hd.of_sl g4⟩
  try dsimp only [List.set, ec, en] at d5
  have g6 : HB w a3 pA nA nB (iv .u8 lB) lB.length := ⟨hn2, hc2, Hd.old hs2⟩
  refine WL.buildSl [.slice (sp b3) 1 1, .slice (sp a2) 32 32, .slice b0 b2 b1, .slice pA nA nB] d5 underlying76 elem25 rfl rfl (by decide) (by decide) (by simp [Value.cells]) ?_
  intro b4 c4 b6
  try dsimp only [List.set, ec, en] at b6
  obtain ⟨b7, e8⟩ : ∃ x_ : Cs, x_ = [.slice (sp b3) 1 1, .slice (sp a2) 32 32, .slice b0 b2 b1, .slice pA nA nB] := ⟨_, rfl⟩
  have g7 : HRs a3 (f25 w) b7 ([[255], lA, a9, lB] : List R25) := by rw [e8]; exact (HRs.cons (ms := (cl (sp b3) 1 1)) (.cons ⟨_, _, _, rfl, (g0.mono (g1.trans e7).1)⟩ .nil) (HRs.cons (ms := (cl (sp a2) 32 32)) (.cons ⟨_, _, _, rfl, (g3.mono e7.1)⟩ .nil) (HRs.cons (ms := (cl b0 b2 b1)) (.cons ⟨_, _, _, rfl, g5⟩ .nil) (HRs.one (.cons ⟨_, _, _, rfl, g6⟩ .nil)))))
  (try dsimp only [List.set, ec, en] at b6); rw [← e8] at b6
  refine WL.nil ?_
  refine AW.back  ?_
  refine AW.step 7 rfl (by kernel_rfl) ?_
  have g8 := St.hide (A := []) (B := [_, _]) b6
  obtain ⟨e9, g9, H⟩ := H
  refine wC ent31 rfl (digest_Pieces.calls a3 g8 hG0 (HS.mk rfl (b6.cap (i := 0) rfl) (fun W_ L_ st hT => st.src_mem (hT _ (List.mem_append_right _ (List.mem_of_getElem? (i := 0) rfl)))) g7) g9) ?_
  rintro _ h0 ⟨d6, j7, d7, rfl, h1⟩
  have h2 := St.unhide (A := []) (B := [_, _]) h1; dsimp only [ec, en] at h2
  refine ⟨_, rfl, WL.nil ?_⟩
  refine AW.back  ?_
  refine AW.step 8 rfl (by kernel_rfl) ?_
  refine WL.store_arr (i := 1) h2 rfl arr23 rfl (by rw [iv_length]; exact (List.length_replicate ..)) d7 rfl ?_
  intro h3 c5
  try dsimp only [List.set] at c5
  refine WL.nil ?_
  refine AW.back  ?_
  refine AW.done (by kernel_rfl) ?_
  refine QW.then_n (CW.ret ?_)
  obtain rfl := H
  exact QW.retc rfl arr23 rfl (c5.blk (i := 1) rfl) d7 ⟨d7, rfl, (St.front (A := []) (St.pk (L := [_, _]) c5 []))⟩
 obtain ⟨a4, h4, H⟩ := H
 refine wC ent32 rfl (word_Put.calls h4) ?_
 rintro _ h5 ⟨a5, a6, a7, h6, rfl, h7⟩
 have h8 := e4.call h7
 refine ⟨_, rfl, WL.nil ?_⟩
 refine AW.back ?_
 refine AW.step 0 rfl (by kernel_rfl) ?_
 refine WL.buildSl [.int .u8 255] h8 underlying25 elem5 rfl rfl (by decide) (by decide) (by simp [Value.cells]) ?_
 intro b8 c6 c7
 replace c7 : St w c6 (.sl (sp b8) 1 1 (iv .u8 [255]) 5 1 :: .sl a5 a6 a7 (iv .u8 a4) 5 1 :: .cells a0 (iv .u8 (z32)) 23 :: .cells a2 (iv .u8 lA) 23 :: (T ++ R)) := c7
 refine WL.nil ?_
 refine AW.back  ?_
 refine AW.step 6 rfl (by kernel_rfl) ?_
 have hb_79c := c7.cap (i := 0) rfl
 obtain ⟨d8, j8, h9, d9⟩ := St.freeze (A := []) (B := [_, _, _]) (T := T) (R := R) c7
 have i0 : HB w d8 (sp b8) 1 1 (iv .u8 [255]) [255].length := ⟨rfl, hb_79c, Hd.of_sl h9⟩
 try dsimp only [List.set, ec, en] at d9
 obtain ⟨e0, i1, i2, c8⟩ := St.freezeC (A := [_, _]) (B := []) (T := d8) (R := R) d9
 have i3 : HB w e0 (sp a2) 32 32 (iv .u8 lA) lA.length := ⟨(hl0).symm, Nat.le_refl _, Hd.of_cells i2⟩
 try dsimp only [List.set, ec, en] at c8
 have hb_89c := c8.cap (i := 0) rfl
 obtain ⟨a8, f0, i4, e1⟩ := St.freeze (A := []) (B := [_]) (T := e0) (R := R) c8
 have i5 : HB w a8 a5 a7 a6 (iv .u8 a4) a4.length := ⟨h6, hb_89c, Hd.of_sl i4⟩
 try dsimp only [List.set, ec, en] at e1
 have i6 : HB w a8 pA nA nB (iv .u8 lB) lB.length := ⟨hn2, hc2, Hd.old hs2⟩
 refine WL.buildSl [.slice (sp b8) 1 1, .slice (sp a2) 32 32, .slice a5 a7 a6, .slice pA nA nB] e1 underlying76 elem25 rfl rfl (by decide) (by decide) (by simp [Value.cells]) ?_
 intro b5 c9 b9
 try dsimp only [List.set, ec, en] at b9
 obtain ⟨c0, f1⟩ : ∃ x_ : Cs, x_ = [.slice (sp b8) 1 1, .slice (sp a2) 32 32, .slice a5 a7 a6, .slice pA nA nB] := ⟨_, rfl⟩
 have i7 : HRs a8 (f25 w) c0 ([[255], lA, a4, lB] : List R25) := by rw [f1]; exact (HRs.cons (ms := (cl (sp b8) 1 1)) (.cons ⟨_, _, _, rfl, (i0.mono (i1.trans f0).1)⟩ .nil) (HRs.cons (ms := (cl (sp a2) 32 32)) (.cons ⟨_, _, _, rfl, (i3.mono f0.1)⟩ .nil) (HRs.cons (ms := (cl a5 a7 a6)) (.cons ⟨_, _, _, rfl, i5⟩ .nil) (HRs.one (.cons ⟨_, _, _, rfl, i6⟩ .nil)))))
 (try dsimp only [List.set, ec, en] at b9); rw [← f1] at b9
 refine WL.nil ?_
 refine AW.back  ?_
 refine AW.step 7 rfl (by kernel_rfl) ?_
 have i8 := St.hide (A := []) (B := [_, _]) b9
 obtain ⟨f2, i9, H⟩ := H
 refine wC ent31 rfl (digest_Pieces.calls a8 i8 hG0 (HS.mk rfl (b9.cap (i := 0) rfl) (fun W_ L_ st hT => st.src_mem (hT _ (List.mem_append_right _ (List.mem_of_getElem? (i := 0) rfl)))) i7) i9) ?_
 rintro _ j0 ⟨e2, j9, e3, rfl, j1⟩
 have j2 := St.unhide (A := []) (B := [_, _]) j1; dsimp only [ec, en] at j2
 refine ⟨_, rfl, WL.nil ?_⟩
 refine AW.back  ?_
 refine AW.step 8 rfl (by kernel_rfl) ?_
 refine WL.store_arr (i := 1) j2 rfl arr23 rfl (by rw [iv_length]; exact (List.length_replicate ..)) e3 rfl ?_
 intro j3 d0
 try dsimp only [List.set] at d0
 refine WL.nil ?_
 refine AW.back  ?_
 refine AW.done (by kernel_rfl) ?_
 refine QW.then_n (CW.ret ?_)
 obtain rfl := H
 exact QW.retc rfl arr23 rfl (d0.blk (i := 1) rfl) e3 ⟨e3, rfl, (St.front (A := []) (St.pk (L := [_, _]) d0 []))⟩
def disk_Disk_fits.rel (a0 : List R25) (a2 : List R124) (a3 : Int) (a4 : Bool) (a5 : List R48) (a1 : Int) (l2 : List Int) (a6 : List R25) (a7 : List R124) (a8 : Int) (a9 : Bool) (b0 : List R48) (ar0 : Int) : Prop := ((a1 < 0 ∧ a6 = a0 ∧ a7 = a2 ∧ a8 = a3 ∧ a9 = a4 ∧ b0 = a5 ∧ ar0 = 12) ∨ (¬ (a1 < 0) ∧ ((a1 ≥ (a0.length : Int) ∧ a6 = a0 ∧ a7 = a2 ∧ a8 = a3 ∧ a9 = a4 ∧ b0 = a5 ∧ ar0 = 12) ∨ (¬ (a1 ≥ (a0.length : Int)) ∧ (((l2.length : Int) ≠ 192 ∧ a6 = a0 ∧ a7 = a2 ∧ a8 = a3 ∧ a9 = a4 ∧ b0 = a5 ∧ ar0 = 1) ∨ (¬ ((l2.length : Int) ≠ 192) ∧ a6 = a0 ∧ a7 = a2 ∧ a8 = a3 ∧ a9 = a4 ∧ b0 = a5 ∧ ar0 = 0))))))
theorem disk_Disk_fits.calls (T : Pool) (st0 : St w w1 (oD nA pA nB nC pB nD nE iA bA pC nF nG 95 :: .sl pA nC nB xA 25 1 :: .sl pB nE nD xB 124 2 :: .sl pC nG nF xC 48 2 :: (T ++ R))) (a1 : nB = qA.length) (a7 : HRs T (f25 w) xA qA) (a8 : nD = rA.length) (a9 : HRs T (f124 w) xB rA) (b0 : nF = sA.length) (b1 : HRs T (f48 w) xC sA) (hb2 : HB w (T ++ R) pD nH nI (iv .u8 lA) lA.length) (H : disk_Disk_fits.rel qA rA iA bA sA iB lA qB rB iC bB sB iD) :
  Calls prog 64 #[.pointer (sp nA), .int .i64 iB, .slice pD nH nI] w1 fun e w' => ∃ T' b5 b2 b6 b7 b8 b3 b9 c0 c1 b4 c2 c3, Pl T T' ∧ b2 = qB.length ∧ HRs T' (f25 w) b7 qB ∧ b3 = rB.length ∧ HRs T' (f124 w) c0 rB ∧ b4 = sB.length ∧ HRs T' (f48 w) c3 sB ∧ e = .returned (.int .i64 iD) ∧ St w w' (oD nA b5 b2 b6 b8 b3 b9 iC bB c1 b4 c2 95 :: .sl b5 b6 b2 b7 25 1 :: .sl b8 b9 b3 c0 124 2 :: .sl c1 c2 b4 c3 48 2 :: (T' ++ R)) := by
 refine CW.en func64 rfl 23 [_, _, _] (CW.sub [(0, _), (1, _), (2, _)] ⟨rfl, rfl, rfl, trivial⟩ (cr (WL.as rfl (wn (CW.seq (CW.block (cr (WL.mv rfl (WL.v (Runs.lss rfl rfl rfl) (WL.mv rfl ?_))))))))))
 rcases H with ⟨a2, H⟩ | ⟨a2, H⟩
 ·have a0 := (decide_eq_true a2)
  iterate 7 (refine WL.off ?_ ?_; exact Wg 10 a0)
  refine WL.v (Runs.pick_t (evb rfl a0) rfl) (WL.as rfl (wn (CW.sub [(2, _), (6, _), (7, _)] ⟨rfl, rfl, rfl, trivial⟩ (CW.ct rfl rfl (cr (WL.as rfl (wn (CW.ret (QW.blk_r (QW.then_r ?_))))))))))
  obtain ⟨rfl, rfl, rfl, rfl, rfl, rfl⟩ := H
  exact QW.ret1 rfl rfl ⟨T, pA, nB, nC, xA, pB, nD, nE, xB, pC, nF, nG, xC, Pl.refl, a1, a7, a8, a9, b0, b1, rfl, (St.pk (L := [_, _, _, _]) st0 [0, 1, 2, 3])⟩
 have a0 := (decide_eq_false a2)
 refine WL.on ?_ ?_; exact Wg 10 a0
 refine WL.mv rfl ?_
 refine WL.on ?_ ?_; exact Wg 10 a0
 refine WL.mv rfl ?_
 refine WL.on ?_ ?_; exact Wg 10 a0
 refine WL.v (Runs.nilCheck rfl) ?_
 refine WL.on ?_ ?_; exact Wg 10 a0
 refine WL.v (Runs.fieldAddr (off := 0) (p := 0) fld95_0 rfl rfl rfl) ?_
 refine WL.on ?_ ?_; exact Wg 10 a0
 refine WL.ld 0 nagg76 st0 rfl rfl (pa (.slice pA nB nC) [] ((cl pB nD nE) ++ ((ci iA) ++ ((cb bA) ++ (cl pC nF nG))))) ?_
 refine WL.on ?_ ?_; exact Wg 10 a0
 refine WL.v (Runs.len_sl underlying76 rfl (by rw [a1])) ?_
 refine WL.on ?_ ?_; exact Wg 10 a0
 refine WL.v (Runs.geq rfl rfl rfl) (WL.v (Runs.pick_f (evb rfl a0) rfl) (WL.as rfl (wn (CW.sub [(2, _), (6, _), (7, _)] ⟨rfl, rfl, rfl, trivial⟩ ?_))))
 rcases H with ⟨a3, H⟩ | ⟨a3, H⟩
 ·have a4 := (decide_eq_true a3)
  refine CW.ct rfl a4 (cr (WL.as rfl (wn (CW.ret (QW.blk_r (QW.then_r ?_))))))
  obtain ⟨rfl, rfl, rfl, rfl, rfl, rfl⟩ := H
  exact QW.ret1 rfl rfl ⟨T, pA, nB, nC, xA, pB, nD, nE, xB, pC, nF, nG, xC, Pl.refl, a1, a7, a8, a9, b0, b1, rfl, (St.pk (L := [_, _, _, _]) st0 [0, 1, 2, 3])⟩
 have a4 := (decide_eq_false a3)
 refine CW.cf rfl a4 (cr (WL.mv rfl ?_))
 refine WL.v (Runs.len_sl underlying25 rfl (by rw [hb2.1])) ?_
 refine WL.v (Runs.neq rfl rfl rfl) (WL.as rfl (wn ?_))
 rcases H with ⟨a5, H⟩ | ⟨a5, H⟩
 ·have a6 : ((lA.length : Int) != 192) = true := (bne_iff_ne.mpr a5)
  refine CW.ct rfl a6 (cr (WL.as rfl (wn (CW.ret (QW.blk_r (QW.then_r ?_))))))
  obtain ⟨rfl, rfl, rfl, rfl, rfl, rfl⟩ := H
  exact QW.ret1 rfl rfl ⟨T, pA, nB, nC, xA, pB, nD, nE, xB, pC, nF, nG, xC, Pl.refl, a1, a7, a8, a9, b0, b1, rfl, (St.pk (L := [_, _, _, _]) st0 [0, 1, 2, 3])⟩
 have a6 : ((lA.length : Int) != 192) = false := (bne_eq_false_iff_eq.mpr (Decidable.not_not.mp a5))
 refine CW.cf rfl a6 (CW.skip (QW.blk_n (QW.then_n (CW.sub [(6, _)] ⟨rfl, trivial⟩ (cr (WL.as rfl (wn (CW.ret ?_))))))))
 obtain ⟨rfl, rfl, rfl, rfl, rfl, rfl⟩ := H
 exact QW.ret1 rfl rfl ⟨T, pA, nB, nC, xA, pB, nD, nE, xB, pC, nF, nG, xC, Pl.refl, a1, a7, a8, a9, b0, b1, rfl, (St.pk (L := [_, _, _, _]) st0 [0, 1, 2, 3])⟩
def disk_Disk_Write.rel (b9 : List R25) (c0 : List R124) (c1 : Int) (b8 : Bool) (c2 : List R48) (a1 : Int) (l2 : List Int) (b3 : List R25) (b4 : List R124) (b5 : Int) (b6 : Bool) (b7 : List R48) (ar0 : Int) : Prop := ((b8 = true ∧ b3 = b9 ∧ b4 = c0 ∧ b5 = c1 ∧ b6 = b8 ∧ b7 = c2 ∧ ar0 = 13) ∨ (¬ (b8 = true) ∧ (∃ a2 a3 a0 a5 a4 a6, disk_Disk_fits.rel b9 c0 c1 b8 c2 a1 l2 a2 a3 a0 a5 a4 a6 ∧ ((a6 ≠ 0 ∧ b3 = a2 ∧ b4 = a3 ∧ b5 = a0 ∧ b6 = a5 ∧ b7 = a4 ∧ ar0 = a6) ∨ (¬ (a6 ≠ 0) ∧ ((a0 = 0 ∧ b3 = a2 ∧ b4 = a3 ∧ b5 = a0 ∧ b6 = true ∧ b7 = a4 ∧ ar0 = 13) ∨ (¬ (a0 = 0) ∧ ((a0 > 0 ∧ (∃ b1, slices_Clone_s_byte_byte.rel l2 b1 ∧ (∃ a7 : List R124, a7 = a3 ++ ([(a1, b1)] : List R124) ∧ (a7.length ≤ 1099511627776 ∧ (∃ a8 : List R48, a8 = a4 ++ ([(2, a1)] : List R48) ∧ (a8.length ≤ 1099511627776 ∧ b3 = a2 ∧ b4 = a7 ∧ b5 = i64.wrap (a0 - 1) ∧ b6 = a5 ∧ b7 = a8 ∧ ar0 = 0)))))) ∨ (¬ (a0 > 0) ∧ (∃ b2, slices_Clone_s_byte_byte.rel l2 b2 ∧ (∃ a9 : List R124, a9 = a3 ++ ([(a1, b2)] : List R124) ∧ (a9.length ≤ 1099511627776 ∧ (∃ b0 : List R48, b0 = a4 ++ ([(2, a1)] : List R48) ∧ (b0.length ≤ 1099511627776 ∧ b3 = a2 ∧ b4 = a9 ∧ b5 = a0 ∧ b6 = a5 ∧ b7 = b0 ∧ ar0 = 0))))))))))))))
theorem disk_Disk_Write.calls (T : Pool) (st0 : St w w1 (oD nA pA nB nC pB nD nE iA bA pC nF nG 95 :: .sl pA nC nB xA 25 1 :: .sl pB nE nD xB 124 2 :: .sl pC nG nF xC 48 2 :: (T ++ R))) (l2 : nB = qA.length) (n2 : HRs T (f25 w) xA qA) (t0 : nD = rA.length) (t1 : HRs T (f124 w) xB rA) (t2 : nF = sA.length) (t3 : HRs T (f48 w) xC sA) (hb2 : HB w (T ++ R) pD nH nI (iv .u8 lA) lA.length) (H : disk_Disk_Write.rel qA rA iA bA sA iB lA qB rB iC bB sB iD) :
  Calls prog 42 #[.pointer (sp nA), .int .i64 iB, .slice pD nH nI] w1 fun e w' => ∃ T' t4 a1 t5 t6 t7 b0 t8 t9 u1 c2 u2 u3, Pl T T' ∧ a1 = qB.length ∧ HRs T' (f25 w) t6 qB ∧ b0 = rB.length ∧ HRs T' (f124 w) t9 rB ∧ c2 = sB.length ∧ HRs T' (f48 w) u3 sB ∧ e = .returned (.int .i64 iD) ∧ St w w' (oD nA t4 a1 t5 t7 b0 t8 iC bB u1 c2 u2 95 :: .sl t4 t5 a1 t6 25 1 :: .sl t7 t8 b0 t9 124 2 :: .sl u1 u2 c2 u3 48 2 :: (T' ++ R)) := by
 refine CW.en func42 rfl 67 [_, _, _] (CW.sub [(0, _), (1, _), (2, _)] ⟨rfl, rfl, rfl, trivial⟩ (cr (WL.as rfl (wn (CW.seq (CW.block (cr (WL.mv rfl (WL.v (Runs.eql_ptr underlying30 rfl rfl rfl) (WL.as rfl (wn (CW.cf rfl rfl (cr (WL.mv rfl (WL.v (Runs.nilCheck rfl) ?_)))))))))))))))
 refine WL.v (Runs.fieldAddr (off := 3) (p := 3) fld95_3 rfl rfl rfl) (WL.ld 0 nagg4 st0 rfl rfl (pa (.bool bA) ((cl pA nB nC) ++ ((cl pB nD nE) ++ (ci iA))) (cl pC nF nG)) (WL.as rfl (wn ?_)))
 refine CW.su [(0, _), (1, _), (2, _), (6, _), (11, _)] ?_
 rcases H with ⟨h7, H⟩ | ⟨h7, H⟩
 ·have h8 : bA = true := h7
  refine CW.ct rfl h8 (cr (WL.as rfl (wn (CW.ret (QW.blk_r (QW.then_r ?_))))))
  obtain ⟨rfl, rfl, rfl, rfl, rfl, rfl⟩ := H
  exact QW.ret1 rfl rfl ⟨T, pA, nB, nC, xA, pB, nD, nE, xB, pC, nF, nG, xC, Pl.refl, l2, n2, t0, t1, t2, t3, rfl, (St.pk (L := [_, _, _, _]) st0 [0, 1, 2, 3])⟩
 have h8 : bA = false := (Bool.eq_false_iff.mpr h7)
 refine CW.cf rfl h8 (CW.skip (QW.blk_n (QW.then_n (CW.seq (cr (WL.mv rfl (WL.mv rfl (WL.mv rfl ?_))))))))
 have n3 := St.hide (A := [_, _, _, _]) (B := []) st0
 obtain ⟨n4, h9, a7, a8, i0, f2, n5, H⟩ := H
 refine wC ent64 rfl (disk_Disk_fits.calls T n3 (l2) n2 (t0) t1 (t2) t3 (hb2.mono (memo_TR (B := []) ii)) n5) ?_
 rintro _ n6 ⟨c5, a0, a2, a3, b3, b1, a9, b2, c1, a5, a4, a6, b4, d9, f9, g0, g1, g2, g3, g4, rfl, n7⟩
 have d6 := St.unhide (A := [_, _, _, _]) (B := []) n7; dsimp only [ec, en] at d6
 refine ⟨_, rfl, WL.as rfl (WL.nx (WL.mv rfl (WL.v (Runs.neq rfl rfl rfl) (wn ?_))))⟩
 refine CW.su [(0, _), (1, _), (2, _), (6, _), (7, _), (21, _)] ?_
 rcases H with ⟨i1, H⟩ | ⟨i1, H⟩
 ·have i2 := (bne_iff_ne.mpr i1)
  refine CW.ct rfl i2 (cr (WL.mv rfl (WL.as rfl (wn (CW.ret (QW.then_r ?_))))))
  obtain ⟨rfl, rfl, rfl, rfl, rfl, rfl⟩ := H
  exact QW.ret1 rfl rfl ⟨c5, a0, a2, a3, b3, b1, a9, b2, c1, a5, a4, a6, b4, d9, f9, g0, g1, g2, g3, g4, rfl, (St.pk (L := [_, _, _, _]) d6 [0, 1, 2, 3])⟩
 have i2 : (f2 != 0) = false := (bne_eq_false_iff_eq.mpr (Decidable.not_not.mp i1))
 refine CW.cf rfl i2 (CW.skip (QW.then_n (CW.seq (cr (WL.mv rfl (WL.v (Runs.nilCheck rfl) (WL.v (Runs.fieldAddr (off := 2) (p := 2) fld95_2 rfl rfl rfl) (WL.ld 0 nagg3 d6 rfl rfl (pa (.int .i64 a7) ((cl a0 a2 a3) ++ (cl b1 a9 b2)) ((cb a8) ++ (cl a5 a4 a6))) (WL.v (Runs.eql rfl rfl rfl) (wn ?_))))))))))
 refine CW.su [(0, _), (1, _), (2, _), (6, _), (27, _)] ?_
 rcases H with ⟨i3, H⟩ | ⟨i3, H⟩
 ·have i4 := (beq_iff_eq.mpr i3)
  refine CW.ct rfl i4 (cr (WL.mv rfl (WL.v (Runs.nilCheck rfl) (WL.v (Runs.fieldAddr (off := 3) (p := 3) fld95_3 rfl rfl rfl) ?_))))
  refine WL.so (new := ((cl a0 a2 a3) ++ ((cl b1 a9 b2) ++ ((ci a7) ++ ((cb true) ++ (cl a5 a4 a6)))))) (i := 0) (u0 := .bool a8) (pre := ((cl a0 a2 a3) ++ ((cl b1 a9 b2) ++ (ci a7)))) (post := ((cl a5 a4 a6))) d6 rfl cells4 (by first | rfl | simp only [aa, an, na, ca]) rfl rfl rfl rfl rfl ?_
  intro n8 i5
  try dsimp only [List.set] at i5
  refine WL.nx (WL.as rfl (wn (CW.ret (QW.then_r ?_))))
  obtain ⟨rfl, rfl, rfl, rfl, rfl, rfl⟩ := H
  exact QW.ret1 rfl rfl ⟨c5, a0, a2, a3, b3, b1, a9, b2, c1, a5, a4, a6, b4, d9, f9, g0, g1, g2, g3, g4, rfl, (St.pk (L := [_, _, _, _]) i5 [0, 1, 2, 3])⟩
 have i4 := (beq_eq_false_iff_ne.mpr i3)
 refine CW.cf rfl i4 (CW.skip (QW.then_n (CW.seq (cr (WL.mv rfl (WL.v (Runs.nilCheck rfl) (WL.v (Runs.fieldAddr (off := 2) (p := 2) fld95_2 rfl rfl rfl) (WL.ld 0 nagg3 d6 rfl rfl (pa (.int .i64 a7) ((cl a0 a2 a3) ++ (cl b1 a9 b2)) ((cb a8) ++ (cl a5 a4 a6))) (WL.v (Runs.gtr rfl rfl rfl) (wn ?_))))))))))
 rcases H with ⟨i6, H⟩ | ⟨i6, H⟩
 ·have i7 := (decide_eq_true i6)
  refine CW.ct rfl i7 (CW.region (WL.mv rfl (WL.v (Runs.nilCheck rfl) (WL.v (Runs.fieldAddr (off := 2) (p := 2) fld95_2 rfl rfl rfl) (WL.ld 0 nagg3 d6 rfl rfl (pa (.int .i64 a7) ((cl a0 a2 a3) ++ (cl b1 a9 b2)) ((cb a8) ++ (cl a5 a4 a6))) (WL.v (Runs.sub rfl rfl rfl) (WL.v (Runs.nilCheck rfl) (WL.v (Runs.fieldAddr (off := 2) (p := 2) fld95_2 rfl rfl rfl) ?_))))))))
  refine WL.so (new := ((cl a0 a2 a3) ++ ((cl b1 a9 b2) ++ ((ci (i64.wrap (a7 - 1))) ++ ((cb a8) ++ (cl a5 a4 a6)))))) (i := 0) (u0 := .int .i64 a7) (pre := ((cl a0 a2 a3) ++ (cl b1 a9 b2))) (post := ((cb a8) ++ (cl a5 a4 a6))) d6 rfl cells3 (by first | rfl | simp only [aa, an, na, ca]) rfl rfl rfl rfl rfl ?_
  intro n9 i8
  try dsimp only [List.set] at i8
  refine wn (CW.sub [(0, _), (1, _), (2, _), (6, _)] ⟨rfl, rfl, rfl, rfl, trivial⟩ (CW.seq ?_))
  refine CW.region_awh (C := fun w_ => St w w_ (oD nA a0 a2 a3 b1 a9 b2 (i64.wrap (a7 - 1)) a8 a5 a4 a6 95 :: .sl a0 a3 a2 b3 25 1 :: .sl a5 a6 a4 b4 48 2 :: (c5 ++ R))) 11 wide (by kernel_rfl) i8 (fun k7 c8 => ?_)
  have c6 : St w k7 (oD nA a0 a2 a3 b1 a9 b2 (i64.wrap (a7 - 1)) a8 a5 a4 a6 95 :: .sl a0 a3 a2 b3 25 1 :: .sl a5 a6 a4 b4 48 2 :: (c5 ++ R)) := (St.pk (L := [_, _, _, _]) c8 [0, 1, 3])
  refine AWH.kn (St.subset c6 c8 (mcB 0 1 (mc 3 rfl (mem_TR (A := [_, _, _, _]) ii)))) fun zC3 => ?_
  refine AWH.tk 0 rfl zC3 (fun wq sq => (Runs.move rfl)) ?_
  refine AWH.tk 1 rfl zC3 (fun wq sq => (Runs.move rfl)) ?_
  refine AWH.tk 2 rfl zC3 (fun wq sq => (Runs.nilCheck rfl)) ?_
  refine AWH.tk 3 rfl zC3 (fun wq sq => (Runs.fieldAddr (off := 1) (p := 1) fld95_1 rfl rfl rfl)) ?_
  refine AWH.tk 4 rfl zC3 (fun wq sq => (Runs.load nagg93 rfl (sq.cell (k := 0) rfl (pa (.slice b1 a9 b2) (cl a0 a2 a3) ((ci (i64.wrap (a7 - 1))) ++ ((cb a8) ++ (cl a5 a4 a6))))))) ?_
  refine AWH.tk 5 rfl zC3 (fun wq sq => (Runs.move rfl)) ?_
  refine AWH.tk 6 rfl zC3 (fun wq sq => (Runs.move rfl)) ?_
  refine AWH.step 7 rfl (by decide) (by kernel_rfl) (fun inv_ hs_ hk_ hc_ hn_ => ?_)
  obtain ⟨d7, o0, H⟩ := H
  refine wC ent48 rfl (slices_Clone_s_byte_byte.calls ((hb2.2.2.at c8 (mem_TR (A := [_, _, _, _]) d9.1))) (hb2.1) (hb2.2.1) o0) ?_
  rintro _ k8 ⟨e0, e1, e2, o1, rfl, o2⟩
  have g5 := c8.call o2
  refine ⟨_, rfl, WL.nil ?_⟩
  have zD1 := St.subset c6 g5 (mcB 1 2 (mc 4 rfl (mem_TR (A := [_, _, _, _, _]) ii)))
  refine AWH.back zD1 inv_ hs_ hk_ hc_ hn_ ?_
  refine AWH.tk 8 rfl zD1 (fun wq sq => (Runs.build_seg (ps := [(0, 1), (1, 1)]) (cs := ((ci iB) ++ (cl e0 e2 e1))) plc124 zero124 rfl (.cons (ms := ((ci iB))) rfl rfl rfl (.one rfl rfl)) rfl rfl)) ?_
  refine AWH.step 9 rfl (by decide) (by kernel_rfl) (fun inv_ hs_ hk_ hc_ hn_ => ?_)
  have hb_47c := g5.cap (i := 0) rfl
  obtain ⟨c3, e3, o3, i9⟩ := St.freeze (A := []) (B := [_, _, _, _]) (T := c5) (R := R) g5
  have o4 : HB w c3 e0 e2 e1 (iv .u8 d7) d7.length := ⟨o1, hb_47c, Hd.of_sl o3⟩
  try dsimp only [List.set, ec, en] at i9
  obtain ⟨s2, s3, o5, o6, o7, o8⟩ := slr124_1
  refine WL.buildSlSg (sz := 2) (cs := ((ci iB) ++ (cl e0 e2 e1))) i9 underlying93 o5 o6 o7 (by decide) (by decide) o8 rfl (.one rfl rfl) rfl rfl ?_
  intro d2 k9 j0
  try dsimp only [List.set, ec, en] at j0
  have f3 := St.rows_sl (i := 0) (m := 1) (size := 2) j0 rfl rfl (by decide)
  obtain ⟨c9, l0⟩ : ∃ x_ : Cs, x_ = (ci iB) ++ (cl e0 e2 e1) := ⟨_, rfl⟩
  have j1 : HRs c3 (f124 w) c9 ([(iB, d7)] : List R124) := by rw [l0]; exact (HRs.one (.cons rfl (.cons ⟨_, _, _, rfl, o4⟩ .nil)))
  (try dsimp only [List.set, ec, en] at f3); rw [← l0] at f3
  refine WL.nil ?_
  refine AWH.back (St.subset c6 f3 (mcB 1 2 (mc 4 rfl (mem_TR (A := [_, _, _, _, _]) e3.1)))) inv_ hs_ hk_ hc_ hn_ ?_
  refine AWH.step 10 rfl (by decide) (by kernel_rfl) (fun inv_ hs_ hk_ hc_ hn_ => ?_)
  obtain ⟨l1, l3, H⟩ := H
  obtain ⟨o9, H⟩ := H
  obtain ⟨b5, j2⟩ : ∃ n_ : Nat, n_ = l1.length := ⟨_, rfl⟩
  refine WL.appendR (i := 3) (N := b5) (news := c9) Wanted.none f3 rfl underlying93 elemS124 rfl rfl (f3.src_sl (k := 0) rfl) (by have h1_ := (j1).length (fz124 w); have h2_ : 1 = ([(iB, d7)] : List R124).length := rfl; rw [h1_, h2_]) (HLs.one j1) (by decide) (by have h1_ : a9 = h9.length := g1; have h2_ : 1 = ([(iB, d7)] : List R124).length := rfl; rw [j2, l3, List.length_append]; omega) (by rw [j2]; exact o9) ?_
  intro b7 b8 p0 g6
  obtain ⟨d3, l4⟩ : ∃ x_ : Cs, x_ = c1 ++ c9 := ⟨_, rfl⟩
  have p1 : HRs c3 (f124 w) d3 l1 := by rw [l4, l3]; exact HRs.append (g2.mono e3.1) j1
  (try dsimp only [List.set, ec, en] at g6); rw [← l4] at g6
  refine WL.nil ?_
  refine AWH.back (St.subset c6 g6 (mcB 1 2 (mc 4 rfl (mem_TR (A := [_, _, _, _, _]) e3.1)))) inv_ hs_ hk_ hc_ hn_ ?_
  refine AWH.tail (by kernel_rfl) ?_
  refine AW.tk 11 rfl (fun _ => (Runs.nilCheck rfl)) ?_
  refine AW.tk 12 rfl (fun _ => (Runs.fieldAddr (off := 1) (p := 1) fld95_1 rfl rfl rfl)) ?_
  refine AW.step 13 rfl (by kernel_rfl) ?_
  refine WL.so (new := ((cl a0 a2 a3) ++ ((cl b7 b5 b8) ++ ((ci (i64.wrap (a7 - 1))) ++ ((cb a8) ++ (cl a5 a4 a6)))))) (i := 1) (u0 := .slice b1 a9 b2) (pre := ((cl a0 a2 a3))) (post := ((ci (i64.wrap (a7 - 1))) ++ ((cb a8) ++ (cl a5 a4 a6)))) g6 rfl cells93 (by first | rfl | simp only [aa, an, na, ca]) rfl rfl rfl rfl rfl ?_
  intro p2 g7
  try dsimp only [List.set] at g7
  refine WL.nil ?_
  refine AW.back  ?_
  refine AW.done (by kernel_rfl) ?_
  refine QW.then_n (CW.sub [(0, _), (1, _), (6, _)] ⟨rfl, rfl, rfl, trivial⟩ (cr (WL.mv rfl (WL.mv rfl (WL.v (Runs.nilCheck rfl) (WL.v (Runs.fieldAddr (off := 4) (p := 4) fld95_4 rfl rfl rfl) (WL.ld 1 nagg43 g7 rfl rfl (pa (.slice a5 a4 a6) ((cl a0 a2 a3) ++ ((cl b7 b5 b8) ++ ((ci (i64.wrap (a7 - 1))) ++ (cb a8)))) []) (WL.mv rfl (WL.v (Runs.build_seg (ps := [(0, 1), (1, 1)]) (cs := ((ci 2) ++ (ci iB))) plc48 zero48 rfl (.cons (ms := ((ci 2))) rfl rfl rfl (.one rfl rfl)) rfl rfl) ?_)))))))))
  obtain ⟨s4, s5, p3, p4, p5, p6⟩ := slr48_1
  refine WL.buildSlSg (sz := 2) (cs := ((ci 2) ++ (ci iB))) g7 underlying43 p3 p4 p5 (by decide) (by decide) p6 rfl (.one rfl rfl) rfl rfl ?_
  intro g8 l5 j3
  try dsimp only [List.set, ec, en] at j3
  have g9 := St.rows_sl (i := 0) (m := 1) (size := 2) j3 rfl rfl (by decide)
  obtain ⟨e4, l6⟩ : ∃ x_ : Cs, x_ = (ci 2) ++ (ci iB) := ⟨_, rfl⟩
  have j4 : HRs c3 (f48 w) e4 ([(2, iB)] : List R48) := by rw [l6]; exact (HRs.one (.cons rfl (.cons rfl .nil)))
  (try dsimp only [List.set, ec, en] at g9); rw [← l6] at g9
  obtain ⟨l7, l8, H⟩ := H
  obtain ⟨p7, H⟩ := H
  obtain ⟨e5, j5⟩ : ∃ n_ : Nat, n_ = l7.length := ⟨_, rfl⟩
  refine WL.appendR (i := 5) (N := e5) (news := e4) Wanted.none g9 rfl underlying43 elemS48 rfl rfl (g9.src_sl (k := 0) rfl) (by have h1_ := (j4).length (fz48 w); have h2_ : 1 = ([(2, iB)] : List R48).length := rfl; rw [h1_, h2_]) (HLs.one j4) (by decide) (by have h1_ : a4 = i0.length := g3; have h2_ : 1 = ([(2, iB)] : List R48).length := rfl; rw [j5, l8, List.length_append]; omega) (by rw [j5]; exact p7) ?_
  intro f4 f5 p8 j6
  obtain ⟨h0, l9⟩ : ∃ x_ : Cs, x_ = b4 ++ e4 := ⟨_, rfl⟩
  have p9 : HRs c3 (f48 w) h0 l7 := by rw [l9, l8]; exact HRs.append (g4.mono e3.1) j4
  (try dsimp only [List.set, ec, en] at j6); rw [← l9] at j6
  refine WL.v (Runs.nilCheck rfl) (WL.v (Runs.fieldAddr (off := 4) (p := 4) fld95_4 rfl rfl rfl) ?_)
  refine WL.so (new := ((cl a0 a2 a3) ++ ((cl b7 b5 b8) ++ ((ci (i64.wrap (a7 - 1))) ++ ((cb a8) ++ (cl f4 e5 f5)))))) (i := 2) (u0 := .slice a5 a4 a6) (pre := ((cl a0 a2 a3) ++ ((cl b7 b5 b8) ++ ((ci (i64.wrap (a7 - 1))) ++ (cb a8))))) (post := (([] : Cs))) j6 rfl cells43 (by first | rfl | simp only [aa, an, na, ca]) rfl rfl rfl rfl rfl ?_
  intro q0 j7
  try dsimp only [List.set] at j7
  refine wn (CW.sub [(6, _)] ⟨rfl, trivial⟩ (cr (WL.as rfl (wn (CW.ret ?_)))))
  obtain ⟨rfl, rfl, rfl, rfl, rfl, rfl⟩ := H
  exact QW.ret1 rfl rfl ⟨c3, a0, a2, a3, b3, b7, b5, b8, d3, f4, e5, f5, h0, (d9.trans e3), f9, (g0.mono e3.1), j2, p1, j5, p9, rfl, (St.pk (L := [_, _, _, _, _, _]) j7 [2, 3, 4, 5])⟩
 have i7 := (decide_eq_false i6)
 refine CW.cf rfl i7 (CW.skip (QW.then_n (CW.sub [(0, _), (1, _), (2, _), (6, _)] ⟨rfl, rfl, rfl, rfl, trivial⟩ (CW.seq ?_))))
 refine CW.region_awh (C := fun w_ => St w w_ (oD nA a0 a2 a3 b1 a9 b2 a7 a8 a5 a4 a6 95 :: .sl a0 a3 a2 b3 25 1 :: .sl a5 a6 a4 b4 48 2 :: (c5 ++ R))) 11 wide (by kernel_rfl) d6 (fun m0 d0 => ?_)
 have c7 : St w m0 (oD nA a0 a2 a3 b1 a9 b2 a7 a8 a5 a4 a6 95 :: .sl a0 a3 a2 b3 25 1 :: .sl a5 a6 a4 b4 48 2 :: (c5 ++ R)) := (St.pk (L := [_, _, _, _]) d0 [0, 1, 3])
 refine AWH.kn (St.subset c7 d0 (mcB 0 1 (mc 3 rfl (mem_TR (A := [_, _, _, _]) ii)))) fun zC4 => ?_
 refine AWH.tk 0 rfl zC4 (fun wq sq => (Runs.move rfl)) ?_
 refine AWH.tk 1 rfl zC4 (fun wq sq => (Runs.move rfl)) ?_
 refine AWH.tk 2 rfl zC4 (fun wq sq => (Runs.nilCheck rfl)) ?_
 refine AWH.tk 3 rfl zC4 (fun wq sq => (Runs.fieldAddr (off := 1) (p := 1) fld95_1 rfl rfl rfl)) ?_
 refine AWH.tk 4 rfl zC4 (fun wq sq => (Runs.load nagg93 rfl (sq.cell (k := 0) rfl (pa (.slice b1 a9 b2) (cl a0 a2 a3) ((ci a7) ++ ((cb a8) ++ (cl a5 a4 a6))))))) ?_
 refine AWH.tk 5 rfl zC4 (fun wq sq => (Runs.move rfl)) ?_
 refine AWH.tk 6 rfl zC4 (fun wq sq => (Runs.move rfl)) ?_
 refine AWH.step 7 rfl (by decide) (by kernel_rfl) (fun inv_ hs_ hk_ hc_ hn_ => ?_)
 obtain ⟨d8, q1, H⟩ := H
 refine wC ent48 rfl (slices_Clone_s_byte_byte.calls ((hb2.2.2.at d0 (mem_TR (A := [_, _, _, _]) d9.1))) (hb2.1) (hb2.2.1) q1) ?_
 rintro _ m1 ⟨e6, e7, e8, q2, rfl, q3⟩
 have h1 := d0.call q3
 refine ⟨_, rfl, WL.nil ?_⟩
 have zD2 := St.subset c7 h1 (mcB 1 2 (mc 4 rfl (mem_TR (A := [_, _, _, _, _]) ii)))
 refine AWH.back zD2 inv_ hs_ hk_ hc_ hn_ ?_
 refine AWH.tk 8 rfl zD2 (fun wq sq => (Runs.build_seg (ps := [(0, 1), (1, 1)]) (cs := ((ci iB) ++ (cl e6 e8 e7))) plc124 zero124 rfl (.cons (ms := ((ci iB))) rfl rfl rfl (.one rfl rfl)) rfl rfl)) ?_
 refine AWH.step 9 rfl (by decide) (by kernel_rfl) (fun inv_ hs_ hk_ hc_ hn_ => ?_)
 have hb_121c := h1.cap (i := 0) rfl
 obtain ⟨c4, e9, q4, j8⟩ := St.freeze (A := []) (B := [_, _, _, _]) (T := c5) (R := R) h1
 have q5 : HB w c4 e6 e8 e7 (iv .u8 d8) d8.length := ⟨q2, hb_121c, Hd.of_sl q4⟩
 try dsimp only [List.set, ec, en] at j8
 obtain ⟨s6, s7, q6, q7, q8, q9⟩ := slr124_1
 refine WL.buildSlSg (sz := 2) (cs := ((ci iB) ++ (cl e6 e8 e7))) j8 underlying93 q6 q7 q8 (by decide) (by decide) q9 rfl (.one rfl rfl) rfl rfl ?_
 intro d4 m2 j9
 try dsimp only [List.set, ec, en] at j9
 have f6 := St.rows_sl (i := 0) (m := 1) (size := 2) j9 rfl rfl (by decide)
 obtain ⟨d1, m3⟩ : ∃ x_ : Cs, x_ = (ci iB) ++ (cl e6 e8 e7) := ⟨_, rfl⟩
 have k0 : HRs c4 (f124 w) d1 ([(iB, d8)] : List R124) := by rw [m3]; exact (HRs.one (.cons rfl (.cons ⟨_, _, _, rfl, q5⟩ .nil)))
 (try dsimp only [List.set, ec, en] at f6); rw [← m3] at f6
 refine WL.nil ?_
 refine AWH.back (St.subset c7 f6 (mcB 1 2 (mc 4 rfl (mem_TR (A := [_, _, _, _, _]) e9.1)))) inv_ hs_ hk_ hc_ hn_ ?_
 refine AWH.step 10 rfl (by decide) (by kernel_rfl) (fun inv_ hs_ hk_ hc_ hn_ => ?_)
 obtain ⟨m4, m5, H⟩ := H
 obtain ⟨r0, H⟩ := H
 obtain ⟨b6, k1⟩ : ∃ n_ : Nat, n_ = m4.length := ⟨_, rfl⟩
 refine WL.appendR (i := 3) (N := b6) (news := d1) Wanted.none f6 rfl underlying93 elemS124 rfl rfl (f6.src_sl (k := 0) rfl) (by have h1_ := (k0).length (fz124 w); have h2_ : 1 = ([(iB, d8)] : List R124).length := rfl; rw [h1_, h2_]) (HLs.one k0) (by decide) (by have h1_ : a9 = h9.length := g1; have h2_ : 1 = ([(iB, d8)] : List R124).length := rfl; rw [k1, m5, List.length_append]; omega) (by rw [k1]; exact r0) ?_
 intro b9 c0 r1 h2
 obtain ⟨d5, m6⟩ : ∃ x_ : Cs, x_ = c1 ++ d1 := ⟨_, rfl⟩
 have r2 : HRs c4 (f124 w) d5 m4 := by rw [m6, m5]; exact HRs.append (g2.mono e9.1) k0
 (try dsimp only [List.set, ec, en] at h2); rw [← m6] at h2
 refine WL.nil ?_
 refine AWH.back (St.subset c7 h2 (mcB 1 2 (mc 4 rfl (mem_TR (A := [_, _, _, _, _]) e9.1)))) inv_ hs_ hk_ hc_ hn_ ?_
 refine AWH.tail (by kernel_rfl) ?_
 refine AW.tk 11 rfl (fun _ => (Runs.nilCheck rfl)) ?_
 refine AW.tk 12 rfl (fun _ => (Runs.fieldAddr (off := 1) (p := 1) fld95_1 rfl rfl rfl)) ?_
 refine AW.step 13 rfl (by kernel_rfl) ?_
 refine WL.so (new := ((cl a0 a2 a3) ++ ((cl b9 b6 c0) ++ ((ci a7) ++ ((cb a8) ++ (cl a5 a4 a6)))))) (i := 1) (u0 := .slice b1 a9 b2) (pre := ((cl a0 a2 a3))) (post := ((ci a7) ++ ((cb a8) ++ (cl a5 a4 a6)))) h2 rfl cells93 (by first | rfl | simp only [aa, an, na, ca]) rfl rfl rfl rfl rfl ?_
 intro r3 h3
 try dsimp only [List.set] at h3
 refine WL.nil ?_
 refine AW.back  ?_
 refine AW.done (by kernel_rfl) ?_
 refine QW.then_n (CW.sub [(0, _), (1, _), (6, _)] ⟨rfl, rfl, rfl, trivial⟩ (cr (WL.mv rfl (WL.mv rfl (WL.v (Runs.nilCheck rfl) (WL.v (Runs.fieldAddr (off := 4) (p := 4) fld95_4 rfl rfl rfl) (WL.ld 1 nagg43 h3 rfl rfl (pa (.slice a5 a4 a6) ((cl a0 a2 a3) ++ ((cl b9 b6 c0) ++ ((ci a7) ++ (cb a8)))) []) (WL.mv rfl (WL.v (Runs.build_seg (ps := [(0, 1), (1, 1)]) (cs := ((ci 2) ++ (ci iB))) plc48 zero48 rfl (.cons (ms := ((ci 2))) rfl rfl rfl (.one rfl rfl)) rfl rfl) ?_)))))))))
 obtain ⟨s8, s9, r4, r5, r6, r7⟩ := slr48_1
 refine WL.buildSlSg (sz := 2) (cs := ((ci 2) ++ (ci iB))) h3 underlying43 r4 r5 r6 (by decide) (by decide) r7 rfl (.one rfl rfl) rfl rfl ?_
 intro h4 m7 k2
 try dsimp only [List.set, ec, en] at k2
 have h5 := St.rows_sl (i := 0) (m := 1) (size := 2) k2 rfl rfl (by decide)
 obtain ⟨f0, m8⟩ : ∃ x_ : Cs, x_ = (ci 2) ++ (ci iB) := ⟨_, rfl⟩
 have k3 : HRs c4 (f48 w) f0 ([(2, iB)] : List R48) := by rw [m8]; exact (HRs.one (.cons rfl (.cons rfl .nil)))
 (try dsimp only [List.set, ec, en] at h5); rw [← m8] at h5
 obtain ⟨m9, n0, H⟩ := H
 obtain ⟨r8, H⟩ := H
 obtain ⟨f1, k4⟩ : ∃ n_ : Nat, n_ = m9.length := ⟨_, rfl⟩
 refine WL.appendR (i := 5) (N := f1) (news := f0) Wanted.none h5 rfl underlying43 elemS48 rfl rfl (h5.src_sl (k := 0) rfl) (by have h1_ := (k3).length (fz48 w); have h2_ : 1 = ([(2, iB)] : List R48).length := rfl; rw [h1_, h2_]) (HLs.one k3) (by decide) (by have h1_ : a4 = i0.length := g3; have h2_ : 1 = ([(2, iB)] : List R48).length := rfl; rw [k4, n0, List.length_append]; omega) (by rw [k4]; exact r8) ?_
 intro f7 f8 r9 k5
 obtain ⟨h6, n1⟩ : ∃ x_ : Cs, x_ = b4 ++ f0 := ⟨_, rfl⟩
 have s0 : HRs c4 (f48 w) h6 m9 := by rw [n1, n0]; exact HRs.append (g4.mono e9.1) k3
 (try dsimp only [List.set, ec, en] at k5); rw [← n1] at k5
 refine WL.v (Runs.nilCheck rfl) (WL.v (Runs.fieldAddr (off := 4) (p := 4) fld95_4 rfl rfl rfl) ?_)
 refine WL.so (new := ((cl a0 a2 a3) ++ ((cl b9 b6 c0) ++ ((ci a7) ++ ((cb a8) ++ (cl f7 f1 f8)))))) (i := 2) (u0 := .slice a5 a4 a6) (pre := ((cl a0 a2 a3) ++ ((cl b9 b6 c0) ++ ((ci a7) ++ (cb a8))))) (post := (([] : Cs))) k5 rfl cells43 (by first | rfl | simp only [aa, an, na, ca]) rfl rfl rfl rfl rfl ?_
 intro s1 k6
 try dsimp only [List.set] at k6
 refine wn (CW.sub [(6, _)] ⟨rfl, trivial⟩ (cr (WL.as rfl (wn (CW.ret ?_)))))
 obtain ⟨rfl, rfl, rfl, rfl, rfl, rfl⟩ := H
 exact QW.ret1 rfl rfl ⟨c4, a0, a2, a3, b3, b9, b6, c0, d5, f7, f1, f8, h6, (d9.trans e9), f9, (g0.mono e9.1), k1, r2, k4, s0, rfl, (St.pk (L := [_, _, _, _, _, _]) k6 [2, 3, 4, 5])⟩
def journal_Journal_Append_1.rel (e4 : Int) (e5 : List Int) (e6 : Bool) (b8 : List R25) (b9 : List R124) (c0 : Int) (c1 : Bool) (c2 : List R48) (b4 : List Int) (b2 b3 c3 c4 : Int) (c5 : List Int) (b5 c6 b6 b7 : Int) (c7 : List Int) (c8 : List R25) (c9 : List R124) (d0 : Int) (d1 : Bool) (d2 : List R48) (d3 : List Int) (d4 d5 d6 d7 : Int) (d8 : List Int) (d9 e0 e1 e2 : Int) (e3 : List Int) (ar0 : Int) : Prop := (b3 ≠ 0 ∧ (∃ a0 : Int, a0 = i64.wrap (Int.tmod (u64.wrap (b6 + b7)) b3) ∧ (∃ a4 a1, record_Put.rel e4 e5 e6 a4 a1 ∧ ((a1 ≠ 0 ∧ c8 = b8 ∧ c9 = b9 ∧ d0 = c0 ∧ d1 = c1 ∧ d2 = c2 ∧ d3 = b4 ∧ d4 = b2 ∧ d5 = b3 ∧ d6 = c3 ∧ d7 = c4 ∧ d8 = c5 ∧ d9 = b5 ∧ e0 = c6 ∧ e1 = b6 ∧ e2 = b7 ∧ e3 = c7 ∧ ar0 = a1) ∨ (¬ (a1 ≠ 0) ∧ (∃ a3 a2, seal_Seal.rel b4 (u32.wrap (i64.wrap (b2 + a0))) b5 a4 a3 a2 ∧ ((a2 ≠ 0 ∧ c8 = b8 ∧ c9 = b9 ∧ d0 = c0 ∧ d1 = c1 ∧ d2 = c2 ∧ d3 = b4 ∧ d4 = b2 ∧ d5 = b3 ∧ d6 = c3 ∧ d7 = c4 ∧ d8 = c5 ∧ d9 = b5 ∧ e0 = c6 ∧ e1 = b6 ∧ e2 = b7 ∧ e3 = c7 ∧ ar0 = a2) ∨ (¬ (a2 ≠ 0) ∧ (∃ a5, journal_Link.rel c7 (u32.wrap (i64.wrap (b2 + a0))) a3 a5 ∧ (∃ a6 a7 a8 a9 b0 b1, disk_Disk_Write.rel b8 b9 c0 c1 c2 (i64.wrap (b2 + a0)) a3 a6 a7 a8 a9 b0 b1 ∧ c8 = a6 ∧ c9 = a7 ∧ d0 = a8 ∧ d1 = a9 ∧ d2 = b0 ∧ d3 = b4 ∧ d4 = b2 ∧ d5 = b3 ∧ d6 = c3 ∧ d7 = c4 ∧ d8 = c5 ∧ d9 = u64.wrap (b5 + 1) ∧ e0 = c6 ∧ e1 = b6 ∧ e2 = u64.wrap (b7 + 1) ∧ e3 = a5 ∧ ar0 = b1))))))))))
theorem journal_Journal_Append_1.calls (T : Pool) (st0 : St w w1 (oJ nD nE lB iC iD iE iF lC iG iH 98 :: oD nE pB nF nG pC nH nI iB bB pD nJ nK 95 :: .sl pB nG nF xA 25 1 :: .sl pC nI nH xB 124 2 :: .sl pD nK nJ xC 48 2 :: oS nL iI iJ lD 39 :: (T ++ R))) (hG0 : Src w (sp 0) (iv .u32 tab0)) (hG1 : Src w (sp 1) (iv .i64 tab1)) (k2 : HB w T pA nA nB (iv .u8 lA) lA.length) (i4 : nF = qA.length) (i5 : HRs T (f25 w) xA qA) (i6 : nH = rA.length) (i7 : HRs T (f124 w) xB rA) (i8 : nJ = sA.length) (i9 : HRs T (f48 w) xC sA) (b1 : lB.length = 32) (b2 : lC.length = 32) (hcell1 : Hd w (T ++ R) fun W_ => W_.cell? ⟨nC, 0, none⟩ = some (.pointer (sp nD))) (i3 : lD.length = 32) (H : journal_Journal_Append_1.rel iA lA bA qA rA iB bB sA lB iC iD iE iF lC iG iH iI iJ lD qB rB iK bC sB lE iL iM iN iO lF iP iQ iR iS lG iT) :
  Calls prog 39 #[.agg ((cu iA) ++ ((cl pA nA nB) ++ (cb bA))).toArray, .pointer (sp nC), .pointer (sp nL)] w1 fun e w' => ∃ T' j3 j0 j4 j5 j6 j1 j7 j8 j9 j2 k0 k1, Pl T T' ∧ j0 = qB.length ∧ HRs T' (f25 w) j5 qB ∧ j1 = rB.length ∧ HRs T' (f124 w) j8 rB ∧ j2 = sB.length ∧ HRs T' (f48 w) k1 sB ∧ lE.length = 32 ∧ lF.length = 32 ∧ lG.length = 32 ∧ e = .returned (.int .i64 iT) ∧ St w w' (oJ nD nE lE iL iM iN iO lF iP iQ 98 :: oD nE j3 j0 j4 j6 j1 j7 iK bC j9 j2 k0 95 :: .sl j3 j4 j0 j5 25 1 :: .sl j6 j7 j1 j8 124 2 :: .sl j9 k0 j2 k1 48 2 :: oS nL iR iS lG 39 :: (T' ++ R)) := by
 refine CW.en func39 rfl 76 [_, _, _] (CW.sub [(0, _), (1, _), (2, _)] ⟨rfl, rfl, rfl, trivial⟩ (cr (WL.box st0 rfl rfl ?_)))
 intro a2 i2 f0
 refine WL.as rfl (wn (CW.seq ?_))
 refine CW.region_qa wide (by kernel_rfl) f0 ?_
 refine HL.v (fun wq sq => (Runs.load nagg34 rfl (hcell1.at sq (mem_TR (A := [_, _, _, _, _, _, _]) ii)))) ?_
 refine HL.p (Runs.nilCheck rfl) (HL.p (Runs.fieldAddr (off := 33) (p := 33) fld98_2 rfl rfl rfl) ?_)
 refine HL.ld 1 nagg3 rfl rfl (pa (.int .i64 iC) ((cp nE) ++ iv .u8 lB) ((cu iD) ++ ((cu iE) ++ ((cu iF) ++ (iv .u8 lC ++ ((cu iG) ++ (cu iH)))))) (ho := by simp [lv, b1])) ?_
 refine HL.p (Runs.fieldAddr (off := 0) (p := 0) fld39_0 rfl rfl rfl) (HL.ld 6 nagg37 rfl rfl (pa (.int .u64 iI) [] ((cu iJ) ++ iv .u8 lD)) (HL.p (Runs.fieldAddr (off := 1) (p := 1) fld39_1 rfl rfl rfl) (HL.ld 6 nagg37 rfl rfl (pa (.int .u64 iJ) (cu iI) (iv .u8 lD)) (HL.p (Runs.add rfl rfl rfl) ?_))))
 refine HL.v (fun wq sq => (Runs.load nagg34 rfl (hcell1.at sq (mem_TR (A := [_, _, _, _, _, _, _]) ii)))) ?_
 refine HL.p (Runs.nilCheck rfl) (HL.p (Runs.fieldAddr (off := 34) (p := 34) fld98_3 rfl rfl rfl) ?_)
 refine HL.ld 1 nagg37 rfl rfl (pa (.int .u64 iD) ((cp nE) ++ (iv .u8 lB ++ (ci iC))) ((cu iE) ++ ((cu iF) ++ (iv .u8 lC ++ ((cu iG) ++ (cu iH))))) (ho := by simp [lv, b1])) ?_
 obtain ⟨f1, H⟩ := H
 refine HL.p (Runs.rem rfl rfl f1 rfl) ?_
 obtain ⟨b5, f2, H⟩ := H
 refine HL.p (Runs.conv underlying3 ⟨_, underlying37⟩ rfl f2) (HL.p (Runs.add rfl rfl rfl) (HL.as rfl ?_))
 refine HL.nil (fun d8 d9 => ?_)
 refine wn ?_
 refine CW.su [(1, _), (2, _), (3, _), (4, _), (5, _)] ?_
 refine cr (WL.v (Runs.load_mid row104 rfl d9 (i := 0) rfl (pm [] ((cu iA) ++ ((cl pA nA nB) ++ (cb bA))) []) rfl) ?_)
 have f3 := St.hide (A := []) (B := [_, _, _, _, _, _, _]) d9
 obtain ⟨a7, b9, f4, H⟩ := H
 refine wC ent40 rfl (record_Put.calls T f3 k2 f4) ?_
 rintro _ f5 ⟨a3, a8, a9, b0, a1, f6, rfl, f7⟩
 have e0 := St.unhide (A := [_]) (B := [_, _, _, _, _, _, _]) f7; dsimp only [ec, en] at e0
 refine ⟨_, rfl, WL.mv rfl (WL.v (Runs.extract rfl rfl) (WL.v (Runs.extract rfl rfl) (WL.as rfl (WL.as rfl (wn ?_)))))⟩
 refine CW.su [(1, _), (2, _), (4, _), (5, _), (6, _), (7, _)] ?_
 refine CW.seq (cr (WL.mv rfl (WL.v (Runs.neq rfl rfl rfl) (wn ?_))))
 rcases H with ⟨c4, H⟩ | ⟨c4, H⟩
 ·have c5 := (bne_iff_ne.mpr c4)
  refine CW.ct rfl c5 (cr (WL.mv rfl (WL.as rfl (wn (CW.ret (QW.then_r ?_))))))
  obtain ⟨rfl, rfl, rfl, rfl, rfl, rfl, rfl, rfl, rfl, rfl, rfl, rfl, rfl, rfl, rfl, rfl, rfl⟩ := H
  exact QW.ret1 rfl rfl ⟨a3, pB, nF, nG, xA, pC, nH, nI, xB, pD, nJ, nK, xC, a1, i4, (i5.mono a1.1), i6, (i7.mono a1.1), i8, (i9.mono a1.1), b1, b2, i3, rfl, (St.pk (L := [_, _, _, _, _, _, _, _]) e0 [2, 3, 4, 5, 6, 7])⟩
 have c5 : (b9 != 0) = false := (bne_eq_false_iff_eq.mpr (Decidable.not_not.mp c4))
 refine CW.cf rfl c5 (CW.skip (QW.then_n (CW.seq ?_)))
 refine CW.region_awh (C := fun w_ => St w w_ (.sl a8 b0 a9 (iv .u8 a7) 5 1 :: .cells a2 ((cu iA) ++ ((cl pA nA nB) ++ (cb bA))) 104 :: oJ nD nE lB iC iD iE iF lC iG iH 98 :: oD nE pB nF nG pC nH nI iB bB pD nJ nK 95 :: .sl pB nG nF xA 25 1 :: .sl pC nI nH xB 124 2 :: .sl pD nK nJ xC 48 2 :: oS nL iI iJ lD 39 :: (a3 ++ R))) 16 wide (by kernel_rfl) e0 (fun f8 a0 => ?_)
 refine AWH.tk 0 rfl a0 (fun wq sq => (Runs.load nagg34 rfl (hcell1.at sq (mem_TR (A := [_, _, _, _, _, _, _, _]) a1.1)))) ?_
 refine AWH.tk 1 rfl a0 (fun wq sq => (Runs.nilCheck rfl)) ?_
 refine AWH.tk 2 rfl a0 (fun wq sq => (Runs.fieldAddr (off := 1) (p := 1) fld98_1 rfl rfl rfl)) ?_
 refine AWH.tk 3 rfl a0 (fun wq sq => (Runs.load_mid row23 rfl sq (i := 2) rfl (pm (cp nE) (iv .u8 lB) ((ci iC) ++ ((cu iD) ++ ((cu iE) ++ ((cu iF) ++ (iv .u8 lC ++ ((cu iG) ++ (cu iH))))))) (hm := by simp [lv, b1])) (by simp [lv, b1]))) ?_
 refine AWH.tk 4 rfl a0 (fun wq sq => (Runs.move rfl)) ?_
 refine AWH.tk 5 rfl a0 (fun wq sq => (Runs.conv underlying24 ⟨_, underlying3⟩ rfl rfl)) ?_
 refine AWH.tk 6 rfl a0 (fun wq sq => (Runs.load nagg34 rfl (hcell1.at sq (mem_TR (A := [_, _, _, _, _, _, _, _]) a1.1)))) ?_
 refine AWH.tk 7 rfl a0 (fun wq sq => (Runs.nilCheck rfl)) ?_
 refine AWH.tk 8 rfl a0 (fun wq sq => (Runs.fieldAddr (off := 69) (p := 69) fld98_5 rfl rfl rfl)) ?_
 refine AWH.tk 9 rfl a0 (fun wq sq => (Runs.load nagg37 rfl (sq.cell (k := 2) rfl (pa (.int .u64 iG) ((cp nE) ++ (iv .u8 lB ++ ((ci iC) ++ ((cu iD) ++ ((cu iE) ++ ((cu iF) ++ iv .u8 lC)))))) (cu iH) (ho := by simp [lv, b1, b2]))))) ?_
 refine AWH.tk 10 rfl a0 (fun wq sq => (Runs.move rfl)) ?_
 refine AWH.step 11 rfl (by decide) (by kernel_rfl) (fun inv_ hs_ hk_ hc_ hn_ => ?_)
 obtain ⟨b3, c0, f9, H⟩ := H
 refine wC ent41 rfl (seal_Seal.calls (hG1.ext a0) b1 (a0.src_sl (k := 0) rfl) (f6) (a0.cap (i := 0) rfl) f9) ?_
 rintro _ g0 ⟨a4, a5, a6, e1, rfl, g1⟩
 have b4 := a0.call g1
 refine ⟨_, rfl, WL.nil ?_⟩
 have zD1 := St.subset a0 b4 (mcD 1 2 3 4 (mcD 5 6 7 8 (mem_TR (A := [_, _, _, _, _, _, _, _, _]) ii)))
 refine AWH.back zD1 inv_ hs_ hk_ hc_ hn_ ?_
 refine AWH.tk 12 rfl zD1 (fun wq sq => (Runs.move rfl)) ?_
 refine AWH.tk 13 rfl zD1 (fun wq sq => (Runs.extract rfl rfl)) ?_
 refine AWH.tk 14 rfl zD1 (fun wq sq => (Runs.extract rfl rfl)) ?_
 refine AWH.tk 15 rfl zD1 (fun wq sq => (Runs.assign rfl)) ?_
 refine AWH.tail (by kernel_rfl) ?_
 refine AW.tk 16 rfl (fun _ => (Runs.assign rfl)) ?_
 refine AW.done (by kernel_rfl) ?_
 refine QW.then_n ?_
 refine CW.su [(1, _), (2, _), (4, _), (5, _), (7, _), (8, _)] ?_
 refine CW.seq (cr (WL.mv rfl (WL.v (Runs.neq rfl rfl rfl) (wn ?_))))
 rcases H with ⟨c6, H⟩ | ⟨c6, H⟩
 ·have c7 := (bne_iff_ne.mpr c6)
  refine CW.ct rfl c7 (cr (WL.mv rfl (WL.as rfl (wn (CW.ret (QW.then_r ?_))))))
  obtain ⟨rfl, rfl, rfl, rfl, rfl, rfl, rfl, rfl, rfl, rfl, rfl, rfl, rfl, rfl, rfl, rfl, rfl⟩ := H
  exact QW.ret1 rfl rfl ⟨a3, pB, nF, nG, xA, pC, nH, nI, xB, pD, nJ, nK, xC, a1, i4, (i5.mono a1.1), i6, (i7.mono a1.1), i8, (i9.mono a1.1), b1, b2, i3, rfl, (St.pk (L := [_, _, _, _, _, _, _, _, _]) b4 [3, 4, 5, 6, 7, 8])⟩
 have c7 : (c0 != 0) = false := (bne_eq_false_iff_eq.mpr (Decidable.not_not.mp c6))
 refine CW.cf rfl c7 (CW.skip (QW.then_n (cr ?_)))
 refine WL.v (Runs.load nagg34 rfl (hcell1.at b4 (mem_TR (A := [_, _, _, _, _, _, _, _, _]) a1.1))) ?_
 refine WL.v (Runs.nilCheck rfl) (WL.v (Runs.fieldAddr (off := 69) (p := 69) fld98_5 rfl rfl rfl) ?_)
 refine WL.ld 3 nagg37 b4 rfl rfl (pa (.int .u64 iG) ((cp nE) ++ (iv .u8 lB ++ ((ci iC) ++ ((cu iD) ++ ((cu iE) ++ ((cu iF) ++ iv .u8 lC)))))) (cu iH) (ho := by simp [lv, b1, b2])) ?_
 refine WL.v (Runs.add rfl rfl rfl) (WL.v (Runs.nilCheck rfl) (WL.v (Runs.fieldAddr (off := 69) (p := 69) fld98_5 rfl rfl rfl) ?_))
 refine WL.so (new := ((cp nE) ++ (iv .u8 lB ++ ((ci iC) ++ ((cu iD) ++ ((cu iE) ++ ((cu iF) ++ (iv .u8 lC ++ ((cu (u64.wrap (iG + 1))) ++ (cu iH)))))))))) (i := 3) (u0 := .int .u64 iG) (pre := ((cp nE) ++ (iv .u8 lB ++ ((ci iC) ++ ((cu iD) ++ ((cu iE) ++ ((cu iF) ++ iv .u8 lC))))))) (post := ((cu iH))) b4 rfl cells37 (by first | rfl | simp only [aa, an, na, ca]) (by simp [lv, b1, b2]) rfl rfl rfl (by first | rfl | simp only [aa, an, na, ca]) ?_
 intro g2 c1
 try dsimp only [List.set] at c1
 refine wn ?_
 refine CW.su [(1, _), (2, _), (4, _), (5, _), (8, _)] ?_
 refine cr (WL.v (Runs.fieldAddr (off := 1) (p := 1) fld39_1 rfl rfl rfl) (WL.ld 8 nagg37 c1 rfl rfl (pa (.int .u64 iJ) (cu iI) (iv .u8 lD)) (WL.v (Runs.add rfl rfl rfl) (WL.v (Runs.fieldAddr (off := 1) (p := 1) fld39_1 rfl rfl rfl) ?_))))
 refine WL.so (new := ((cu iI) ++ ((cu (u64.wrap (iJ + 1))) ++ iv .u8 lD))) (i := 8) (u0 := .int .u64 iJ) (pre := ((cu iI))) (post := (iv .u8 lD)) c1 rfl cells37 (by first | rfl | simp only [aa, an, na, ca]) rfl rfl rfl rfl rfl ?_
 intro e2 b7
 try dsimp only [List.set] at b7
 refine WL.nx (WL.v (Runs.fieldAddr (off := 2) (p := 2) fld39_2 rfl rfl rfl) ?_)
 refine WL.v (Runs.load_mid row23 rfl b7 (i := 8) rfl (pm ((cu iI) ++ (cu (u64.wrap (iJ + 1)))) (iv .u8 lD) [] (hm := by simp [lv, i3])) (by simp [lv, i3])) ?_
 refine WL.mv rfl (WL.v (Runs.conv underlying24 ⟨_, underlying3⟩ rfl rfl) (WL.mv rfl ?_))
 obtain ⟨b6, g3, H⟩ := H
 refine wC ent9 rfl (journal_Link.calls (hG0.ext b7) i3 (b7.src_sl (k := 0) rfl) (e1) (b7.cap (i := 0) rfl) g3) ?_
 rintro _ g4 ⟨e3, rfl, g5⟩
 have g6 := b7.call g5
 refine ⟨_, rfl, WL.v (Runs.fieldAddr (off := 2) (p := 2) fld39_2 rfl rfl rfl) ?_⟩
 refine WL.sm (new := ((cu iI) ++ ((cu (u64.wrap (iJ + 1))) ++ iv .u8 b6))) (i := 8) (pre := ((cu iI) ++ (cu (u64.wrap (iJ + 1))))) (mid := (iv .u8 lD)) (post := (([] : Cs))) (ms := (iv .u8 b6)) g6 rfl row23 (by first | rfl | simp only [aa, an, na, ca]) rfl rfl rfl (by simp [lv, e3]) (by simp [lv, i3]) (one_iv _ _) (by first | rfl | simp only [aa, an, na, ca]) ?_
 intro c2 b8
 try dsimp only [List.set] at b8
 refine wn (CW.sub [(1, _), (4, _), (5, _), (8, _)] ⟨rfl, rfl, rfl, rfl, trivial⟩ (cr ?_))
 refine WL.v (Runs.load nagg34 rfl (hcell1.at b8 (mem_TR (A := [_, _, _, _, _, _, _, _, _]) a1.1))) ?_
 refine WL.v (Runs.nilCheck rfl) (WL.v (Runs.fieldAddr (off := 0) (p := 0) fld98_0 rfl rfl rfl) (WL.ld 3 nagg30 b8 rfl rfl (pa (.pointer (sp nE)) [] (iv .u8 lB ++ ((ci iC) ++ ((cu iD) ++ ((cu iE) ++ ((cu iF) ++ (iv .u8 lC ++ ((cu (u64.wrap (iG + 1))) ++ (cu iH))))))))) (WL.mv rfl (WL.mv rfl ?_))))
 have c3 := (St.pk (L := [_, _, _, _, _, _, _, _, _]) b8 [4, 5, 6, 7, 0, 1, 2, 3, 8])
 have g7 := St.hide (A := [_, _, _, _]) (B := [_, _, _, _, _]) c3
 obtain ⟨g8, g9, e4, e5, h0, e6, h1, H⟩ := H
 refine wC ent42 rfl (disk_Disk_Write.calls a3 g7 (i4) (i5.mono a1.1) (i6) (i7.mono a1.1) (i8) (i9.mono a1.1) ⟨e1, c3.cap (i := 4) rfl, fun W_ L_ st hT => st.src_mem (hT _ (List.mem_append_right _ (List.mem_of_getElem? (i := 0) rfl)))⟩ h1) ?_
 rintro _ h2 ⟨c8, c9, d0, d1, e7, d2, d3, d4, e8, d5, d6, d7, e9, h3, h4, h5, h6, h7, h8, h9, rfl, i0⟩
 have i1 := St.unhide (A := [_, _, _, _]) (B := [_, _, _, _, _]) i0; dsimp only [ec, en] at i1
 refine ⟨_, rfl, WL.as rfl (wn (CW.ret ?_))⟩
 obtain ⟨rfl, rfl, rfl, rfl, rfl, rfl, rfl, rfl, rfl, rfl, rfl, rfl, rfl, rfl, rfl, rfl, rfl⟩ := H
 exact QW.ret1 rfl rfl ⟨c8, c9, d0, d1, e7, d2, d3, d4, e8, d5, d6, d7, e9, (a1.trans h3), h4, h5, h6, h7, h8, h9, b1, b2, e3, rfl, (St.pk (L := [_, _, _, _, _, _, _, _, _]) i1 [7, 0, 1, 2, 3, 8])⟩
end Go.Proofs.YtmhcjafkdmcgoaaDoor
