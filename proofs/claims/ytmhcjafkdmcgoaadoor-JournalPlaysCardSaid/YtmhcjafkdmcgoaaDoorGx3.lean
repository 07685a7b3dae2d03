/- Walks: each function computes what its relation says, and a call of it ends so. Printed by a program of this session (wip/gen). -/
import Derived.Test.YtmhcjafkdmcgoaaDoorGx2
namespace Go.Proofs.YtmhcjafkdmcgoaaDoor
open Go Go.Kr Go.RowKit Go.IntKind Tryd
set_option maxHeartbeats 1000000
variable {w w1 : World} {R : Pool} {iA iB iC iD iE iF iG iH iI iJ iK iL iM iN iO iP iQ iR iS iT iU iV iW iX iY iZ iAa iBa iCa iDa iEa iFa iGa iHa iIa iJa iKa iLa iMa iNa iOa iPa iQa : Int} {qA qB qC : List R25} {rA rB : List R124} {bA bB bC bD bE bF : Bool} {sA sB sC : List R48} {lA lB lC lD lE lF lG lH lI lJ lK lL lM : List Int} {nA nB nC nD nE nF nG nH nI nJ nK nL nM nN nO nP nQ nR : Nat} {pA pB pC pD pE pF pG pH : Option Addr} {xA xB xC : Cs} {tA tB : List R42} {uA : List R104} {vA vB vC vD : List R145} {dA dB : List R160} {eA : List R116} {fA : List R118} {yA yB : ByteArray} {gA : List Bool} {hA : List R9}
set_option linter.unusedVariables false
set_option linter.unusedSimpArgs false
set_option maxRecDepth 100000
def reliquaryref08_Seal.L1 (r0 : ByteArray) (r1 : Int) : Nat → (List Int) → Prop
 | 0, _ => False
 | kL1 + 1, a0 => (((a0.length : Int) < 192 ∧ (∃ a1 : List Int, a1 = a0 ++ [0] ∧ (a1.length ≤ 1099511627776 ∧ reliquaryref08_Seal.L1 r0 r1 kL1 a1))) ∨ (¬ ((a0.length : Int) < 192) ∧ r0 = strOfNums a0 ∧ r1 = 0))
def reliquaryref08_Seal.L2 (r0 : ByteArray) (r1 : Int) : Nat → (List Int) → Prop
 | 0, _ => False
 | kL2 + 1, a0 => (((a0.length : Int) < 192 ∧ (∃ a1 : List Int, a1 = a0 ++ [0] ∧ (a1.length ≤ 1099511627776 ∧ reliquaryref08_Seal.L2 r0 r1 kL2 a1))) ∨ (¬ ((a0.length : Int) < 192) ∧ r0 = strOfNums a0 ∧ r1 = 0))
def reliquaryref08_Seal.rel (l0 : List Int) (a1 a2 : Int) (a3 r0 : ByteArray) (r1 : Int) : Prop := (((a3.size : Int) ≠ 160 ∧ (((a3.size : Int) ≠ 176 ∧ r0 = (⟨#[]⟩ : ByteArray) ∧ r1 = 1) ∨ (¬ ((a3.size : Int) ≠ 176) ∧ ((a2 = 0 ∧ r0 = (⟨#[]⟩ : ByteArray) ∧ r1 = 1) ∨ (¬ (a2 = 0) ∧ ((a2 = 18446744073709551615 ∧ r0 = (⟨#[]⟩ : ByteArray) ∧ r1 = 15) ∨ (¬ (a2 = 18446744073709551615) ∧ (∃ a5, reliquaryref01_Put.rel a2 8 a5 ∧ (∃ a6, reliquaryref04_Nonce.rel a1 a2 a6 ∧ (∃ a7 b1, reliquaryref04_Crypt.rel l0 0 a6 (bl a3) a7 b1 ∧ (∃ a0 : List Int, a0 = a5 ++ a7 ∧ (a0.length ≤ 1099511627776 ∧ (∃ k_ : Nat, reliquaryref08_Seal.L1 r0 r1 k_ a0))))))))))))) ∨ (¬ ((a3.size : Int) ≠ 160) ∧ ((a2 = 0 ∧ r0 = (⟨#[]⟩ : ByteArray) ∧ r1 = 1) ∨ (¬ (a2 = 0) ∧ ((a2 = 18446744073709551615 ∧ r0 = (⟨#[]⟩ : ByteArray) ∧ r1 = 15) ∨ (¬ (a2 = 18446744073709551615) ∧ (∃ a8, reliquaryref01_Put.rel a2 8 a8 ∧ (∃ a9, reliquaryref04_Nonce.rel a1 a2 a9 ∧ (∃ b0 b2, reliquaryref04_Crypt.rel l0 0 a9 (bl a3) b0 b2 ∧ (∃ a4 : List Int, a4 = a8 ++ b0 ∧ (a4.length ≤ 1099511627776 ∧ (∃ k_ : Nat, reliquaryref08_Seal.L2 r0 r1 k_ a4))))))))))))
theorem reliquaryref08_Seal.calls (hl0 : lA.length = 32) (H : reliquaryref08_Seal.rel lA iA iB yA yB iC) :
  Calls prog 45 #[.agg (iv .u8 lA).toArray, .int .u32 iA, .int .u64 iB, .string yA] w fun e w' => e = .returned (.tuple #[.string yB, .int .i64 iC]) ∧ St w w' [] := by
 refine CW.en func45 rfl 50 [_, _, _, _] (CW.sub [(0, _), (1, _), (2, _), (3, _)] ⟨rfl, rfl, rfl, rfl, trivial⟩ ?_)
 have st0 := St.refl w
 refine cr (WL.box st0 rfl rfl ?_)
 intro a0 J7 e1
 refine WL.as rfl (WL.as rfl (wn (CW.seq (cr (WL.mv rfl (WL.v (Runs.len_str underlying9 rfl) (WL.v (Runs.neq rfl rfl rfl) (WL.mv rfl ?_))))))))
 rcases H with ⟨t2, H⟩ | ⟨t2, H⟩
 ·have c6 : ((yA.size : Int) != 160) = true := (bne_iff_ne.mpr t2)
  refine WL.on ?_ ?_; exact Wg 16 c6
  refine WL.mv rfl ?_
  refine WL.on ?_ ?_; exact Wg 16 c6
  refine WL.v (Runs.len_str underlying9 rfl) ?_
  refine WL.on ?_ ?_; exact Wg 16 c6
  refine WL.v (Runs.neq rfl rfl rfl) (WL.v (Runs.pick_t (evb rfl c6) rfl) (WL.mv rfl ?_))
  rcases H with ⟨t3, H⟩ | ⟨t3, H⟩
  ·have e2 : ((yA.size : Int) != 176) = true := (bne_iff_ne.mpr t3)
   iterate 2 (refine WL.off ?_ ?_; exact Wg 21 e2)
   refine WL.v (Runs.pick_t (evb rfl e2) rfl) (wn ?_)
   refine CW.su [(1, _), (2, _), (3, _), (4, _), (8, _), (9, _), (24, _)] ?_
   refine CW.ct rfl rfl (cr (WL.as rfl (WL.as rfl (wn (CW.ret (QW.then_r ?_))))))
   obtain ⟨rfl, rfl⟩ := H
   exact QW.ret2 rfl rfl rfl ⟨rfl, e1.pick [] (by decide)⟩
  have e2 : ((yA.size : Int) != 176) = false := (bne_eq_false_iff_eq.mpr (Decidable.not_not.mp t3))
  refine WL.on ?_ ?_; exact Wg 21 e2
  refine WL.mv rfl ?_
  refine WL.on ?_ ?_; exact Wg 21 e2
  refine WL.v (Runs.eql rfl rfl rfl) (WL.v (Runs.pick_f (evb rfl e2) rfl) (wn ?_))
  refine CW.su [(1, _), (2, _), (3, _), (4, _), (8, _), (9, _), (24, _)] ?_
  rcases H with ⟨t4, H⟩ | ⟨t4, H⟩
  ·have t5 := (beq_iff_eq.mpr t4)
   refine CW.ct rfl t5 (cr (WL.as rfl (WL.as rfl (wn (CW.ret (QW.then_r ?_))))))
   obtain ⟨rfl, rfl⟩ := H
   exact QW.ret2 rfl rfl rfl ⟨rfl, e1.pick [] (by decide)⟩
  have t5 := (beq_eq_false_iff_ne.mpr t4)
  refine CW.cf rfl t5 (CW.skip (QW.then_n (CW.seq (cr (WL.mv rfl (WL.v (Runs.eql rfl rfl rfl) (wn ?_)))))))
  rcases H with ⟨t6, H⟩ | ⟨t6, H⟩
  ·have t7 := (beq_iff_eq.mpr t6)
   refine CW.ct rfl t7 (cr (WL.as rfl (WL.as rfl (wn (CW.ret (QW.then_r ?_))))))
   obtain ⟨rfl, rfl⟩ := H
   exact QW.ret2 rfl rfl rfl ⟨rfl, e1.pick [] (by decide)⟩
  have t7 := (beq_eq_false_iff_ne.mpr t6)
  refine CW.cf rfl t7 (CW.skip (QW.then_n (cr (WL.mv rfl ?_))))
  obtain ⟨a6, V8, H⟩ := H
  refine wC ent33 rfl (reliquaryref01_Put.calls V8) ?_
  rintro _ V9 ⟨a8, a9, b0, g3, rfl, W0⟩
  have W1 := e1.call W0
  refine ⟨_, rfl, WL.as rfl (wn (CW.seq ?_))⟩
  refine CW.region_aw wide W1 (fun J8 k7 => ?_)
  refine AW.tk 1 rfl (fun _ => (Runs.move rfl)) ?_
  refine AW.tk 2 rfl (fun _ => (Runs.move rfl)) ?_
  refine AW.tk 4 rfl (fun _ => (Runs.move rfl)) ?_
  refine AW.step3 0 3 5 rfl rfl rfl (by kernel_rfl) ?_ ?_ ?_
  ·refine WL.v (Runs.load_arr arr23 rfl (k7.blk (i := 1) rfl) hl0) (WL.nil ?_)
   refine AW.back ?_
   refine AW.step2 3 5 rfl rfl (by kernel_rfl) ?_ ?_
   ·obtain ⟨J9, W2, H⟩ := H
    refine wC ent66 rfl (reliquaryref04_Nonce.calls W2) ?_
    rintro _ W3 ⟨W4, rfl, W5⟩
    have W6 := k7.call W5
    refine ⟨_, rfl, WL.nil ?_⟩
    refine AW.back ?_
    refine AW.step 5 rfl (by kernel_rfl) ?_
    refine WL.bytes W6 underlying9 underlying25 underlying5 rfl ?_
    intro e3 b8 g4 K0 W7 an6 W8 n8
    try dsimp only [List.set, ec, en] at n8
    refine WL.nil ?_
    refine AW.back  ?_
    refine AW.step 6 rfl (by kernel_rfl) ?_
    obtain ⟨e4, W9, X0, H⟩ := H
    refine wC ent65 rfl (reliquaryref04_Crypt.calls hl0 W4 (n8.src_obj (i := 0) rfl W8) ((bl_length _)) (W7) X0) ?_
    rintro _ X1 ⟨g5, g6, g7, K1, rfl, X2⟩
    have K2 := n8.call X2
    refine ⟨_, rfl, WL.nil ?_⟩
    refine AW.back  ?_
    refine AW.tk 7 rfl (fun _ => (Runs.move rfl)) ?_
    refine AW.tk 8 rfl (fun _ => (Runs.extract rfl rfl)) ?_
    refine AW.tk 9 rfl (fun _ => (Runs.extract rfl rfl)) ?_
    refine AW.tk 10 rfl (fun _ => (Runs.assign rfl)) ?_
    refine AW.tk 11 rfl (fun _ => (Runs.assign rfl)) ?_
    refine AW.done (by kernel_rfl) ?_
    refine QW.then_n (CW.sub [(8, _), (9, _), (10, _), (11, _)] ⟨rfl, rfl, rfl, rfl, trivial⟩ (cr (WL.mv rfl (WL.mv rfl ?_))))
    obtain ⟨t8, K3, H⟩ := H
    obtain ⟨X3, H⟩ := H
    obtain ⟨n9, t9⟩ : ∃ n_ : Nat, n_ = t8.length := ⟨_, rfl⟩
    refine WL.append (i := 2) Wanted.none K2 rfl underlying25 elem5 rfl rfl (K2.src_sl (k := 0) rfl) (by rw [iv_length]; exact (K1).symm) (one_iv .u8 _) (by decide) (N := n9) (by rw [t9, K3, List.length_append]; exact congr (congrArg HAdd.hAdd (g3)) (K1)) (by rw [t9]; exact X3) ?_
    intro u0 u1 X4 u2
    have u2' := u2; (try dsimp only [List.set, ec, en] at u2'); rw [iv_append .u8 a6 e4, ← K3] at u2'
    refine WL.as rfl (wn (CW.seq (CW.block ?_)))
    obtain ⟨X5, H⟩ := H
    refine CW.sub [(8, _), (9, _), (10, _)] ⟨rfl, rfl, rfl, trivial⟩ ?_
    refine CW.lp (fun kL1 l_ w_ => ∃ o0 o1 k8 c7, l_ = [(8, .string (⟨#[]⟩ : ByteArray)), (9, .int .i64 0), (10, .slice o0 k8 o1)] ∧ reliquaryref08_Seal.L1 yB iC kL1 c7 ∧ (k8 = c7.length) ∧ St w w_ [.sl g5 g6 g7 (iv .u8 e4) 5 1, .obj e3 (.cells g4.toArray 5 (b8, b8 + 1)), .sl o0 o1 k8 (iv .u8 c7) 5 1, .cells a0 (iv .u8 lA) 23]) (k := X5) ⟨u0, u1, n9, t8, rfl, H, t9, u2'⟩ ?_
    rintro kL1 an7 an8 ⟨o0, o1, k8, c7, rfl, H, u3, u4⟩
    refine CW.seq (cr (WL.mv rfl ?_))
    refine WL.v (Runs.len_sl underlying25 rfl (by rw [u3])) ?_
    refine WL.v (Runs.lss rfl rfl rfl) (wn ?_)
    rcases H with ⟨u5, H⟩ | ⟨u5, H⟩
    ·have u6 := (decide_eq_true u5)
     refine CW.ct rfl u6 (CW.skip (QW.then_n (CW.block (CW.region (WL.mv rfl ?_)))))
     refine WL.buildSl [.int .u8 0] u4 underlying25 elem5 rfl rfl (by decide) (by decide) (by simp [Value.cells]) ?_
     intro K4 X6 o2
     replace o2 : St w X6 [.sl (sp K4) 1 1 (iv .u8 [0]) 5 1, .sl g5 g6 g7 (iv .u8 e4) 5 1, .obj e3 (.cells g4.toArray 5 (b8, b8 + 1)), .sl o0 o1 k8 (iv .u8 c7) 5 1, .cells a0 (iv .u8 lA) 23] := o2
     obtain ⟨u7, K5, H⟩ := H
     obtain ⟨X7, H⟩ := H
     obtain ⟨u9, v0⟩ : ∃ n_ : Nat, n_ = u7.length := ⟨_, rfl⟩
     refine WL.append (i := 3) Wanted.none o2 rfl underlying25 elem5 rfl rfl (o2.src_sl (k := 0) rfl) (by rw [iv_length]; exact (Eq.refl _).symm) (one_iv .u8 _) (by decide) (N := u9) (by rw [v0, K5, List.length_append]; exact congr (congrArg HAdd.hAdd (u3)) (rfl)) (by rw [v0]; exact X7) ?_
     intro K6 K7 X8 k9
     have k9' : St w X8 [.sl (sp K4) 1 1 (iv .u8 [0]) 5 1, .sl g5 g6 g7 (iv .u8 e4) 5 1, .obj e3 (.cells g4.toArray 5 (b8, b8 + 1)), .sl K6 K7 u9 (iv .u8 u7) 5 1, .cells a0 (iv .u8 lA) 23] := by rw [K5, ← iv_append .u8 c7 [0]]; exact k9
     refine WL.as rfl (WL.nil (QW.blk_n ?_))
     have k9'' := k9'.pick [1, 2, 3, 4] (by decide)
     exact QW.a ⟨K6, K7, u9, u7, rfl, H, v0, k9''⟩
    have u6 := (decide_eq_false u5)
    refine CW.cf rfl u6 (CW.exit (QW.then_x (QW.then_x (QW.blk_x (QW.then_n (cr (WL.mv rfl (WL.v (Runs.bytes_str underlying25 underlying5 underlying9 rfl (u4.src_sl (k := 2) rfl) u3) (WL.as rfl (WL.as rfl (wn (CW.ret ?_))))))))))))
    obtain ⟨rfl, rfl⟩ := H
    exact QW.ret2 rfl rfl rfl ⟨rfl, u4.pick [] (by decide)⟩
   refine WL.bytes k7 underlying9 underlying25 underlying5 rfl ?_
   intro d9 b4 e5 K8 X9 an9 Y0 v1
   try dsimp only [List.set, ec, en] at v1
   refine WL.nil ?_
   refine AW.back ?_
   refine AW.step 3 rfl (by kernel_rfl) ?_
   obtain ⟨K9, Y1, H⟩ := H
   refine wC ent66 rfl (reliquaryref04_Nonce.calls Y1) ?_
   rintro _ L0 ⟨Y2, rfl, Y3⟩
   have L3 := v1.call Y3
   refine ⟨_, rfl, WL.nil ?_⟩
   refine AW.back  ?_
   refine AW.step 6 rfl (by kernel_rfl) ?_
   obtain ⟨e6, Y4, Y5, H⟩ := H
   refine wC ent65 rfl (reliquaryref04_Crypt.calls hl0 Y2 (L3.src_obj (i := 0) rfl Y0) ((bl_length _)) (X9) Y5) ?_
   rintro _ Y6 ⟨g8, g9, h0, L4, rfl, Y7⟩
   have L5 := L3.call Y7
   refine ⟨_, rfl, WL.nil ?_⟩
   refine AW.back  ?_
   refine AW.tk 7 rfl (fun _ => (Runs.move rfl)) ?_
   refine AW.tk 8 rfl (fun _ => (Runs.extract rfl rfl)) ?_
   refine AW.tk 9 rfl (fun _ => (Runs.extract rfl rfl)) ?_
   refine AW.tk 10 rfl (fun _ => (Runs.assign rfl)) ?_
   refine AW.tk 11 rfl (fun _ => (Runs.assign rfl)) ?_
   refine AW.done (by kernel_rfl) ?_
   refine QW.then_n (CW.sub [(8, _), (9, _), (10, _), (11, _)] ⟨rfl, rfl, rfl, rfl, trivial⟩ (cr (WL.mv rfl (WL.mv rfl ?_))))
   obtain ⟨v2, L6, H⟩ := H
   obtain ⟨Y8, H⟩ := H
   obtain ⟨o3, v3⟩ : ∃ n_ : Nat, n_ = v2.length := ⟨_, rfl⟩
   refine WL.append (i := 2) Wanted.none L5 rfl underlying25 elem5 rfl rfl (L5.src_sl (k := 0) rfl) (by rw [iv_length]; exact (L4).symm) (one_iv .u8 _) (by decide) (N := o3) (by rw [v3, L6, List.length_append]; exact congr (congrArg HAdd.hAdd (g3)) (L4)) (by rw [v3]; exact Y8) ?_
   intro v4 v5 Y9 v6
   have v6' := v6; (try dsimp only [List.set, ec, en] at v6'); rw [iv_append .u8 a6 e6, ← L6] at v6'
   refine WL.as rfl (wn (CW.seq (CW.block ?_)))
   obtain ⟨Z0, H⟩ := H
   refine CW.sub [(8, _), (9, _), (10, _)] ⟨rfl, rfl, rfl, trivial⟩ ?_
   refine CW.lp (fun kL1 l_ w_ => ∃ o4 o5 l1 c8, l_ = [(8, .string (⟨#[]⟩ : ByteArray)), (9, .int .i64 0), (10, .slice o4 l1 o5)] ∧ reliquaryref08_Seal.L1 yB iC kL1 c8 ∧ (l1 = c8.length) ∧ St w w_ [.sl g8 g9 h0 (iv .u8 e6) 5 1, .obj d9 (.cells e5.toArray 5 (b4, b4 + 1)), .sl o4 o5 l1 (iv .u8 c8) 5 1, .cells a0 (iv .u8 lA) 23]) (k := Z0) ⟨v4, v5, o3, v2, rfl, H, v3, v6'⟩ ?_
   rintro kL1 ao0 ao1 ⟨o4, o5, l1, c8, rfl, H, v7, v8⟩
   refine CW.seq (cr (WL.mv rfl ?_))
   refine WL.v (Runs.len_sl underlying25 rfl (by rw [v7])) ?_
   refine WL.v (Runs.lss rfl rfl rfl) (wn ?_)
   rcases H with ⟨v9, H⟩ | ⟨v9, H⟩
   ·have w0 := (decide_eq_true v9)
    refine CW.ct rfl w0 (CW.skip (QW.then_n (CW.block (CW.region (WL.mv rfl ?_)))))
    refine WL.buildSl [.int .u8 0] v8 underlying25 elem5 rfl rfl (by decide) (by decide) (by simp [Value.cells]) ?_
    intro L7 Z1 o6
    replace o6 : St w Z1 [.sl (sp L7) 1 1 (iv .u8 [0]) 5 1, .sl g8 g9 h0 (iv .u8 e6) 5 1, .obj d9 (.cells e5.toArray 5 (b4, b4 + 1)), .sl o4 o5 l1 (iv .u8 c8) 5 1, .cells a0 (iv .u8 lA) 23] := o6
    obtain ⟨w1, L8, H⟩ := H
    obtain ⟨Z2, H⟩ := H
    obtain ⟨w2, w3⟩ : ∃ n_ : Nat, n_ = w1.length := ⟨_, rfl⟩
    refine WL.append (i := 3) Wanted.none o6 rfl underlying25 elem5 rfl rfl (o6.src_sl (k := 0) rfl) (by rw [iv_length]; exact (Eq.refl _).symm) (one_iv .u8 _) (by decide) (N := w2) (by rw [w3, L8, List.length_append]; exact congr (congrArg HAdd.hAdd (v7)) (rfl)) (by rw [w3]; exact Z2) ?_
    intro L9 M0 Z3 l2
    have l2' : St w Z3 [.sl (sp L7) 1 1 (iv .u8 [0]) 5 1, .sl g8 g9 h0 (iv .u8 e6) 5 1, .obj d9 (.cells e5.toArray 5 (b4, b4 + 1)), .sl L9 M0 w2 (iv .u8 w1) 5 1, .cells a0 (iv .u8 lA) 23] := by rw [L8, ← iv_append .u8 c8 [0]]; exact l2
    refine WL.as rfl (WL.nil (QW.blk_n ?_))
    have l2'' := l2'.pick [1, 2, 3, 4] (by decide)
    exact QW.a ⟨L9, M0, w2, w1, rfl, H, w3, l2''⟩
   have w0 := (decide_eq_false v9)
   refine CW.cf rfl w0 (CW.exit (QW.then_x (QW.then_x (QW.blk_x (QW.then_n (cr (WL.mv rfl (WL.v (Runs.bytes_str underlying25 underlying5 underlying9 rfl (v8.src_sl (k := 2) rfl) v7) (WL.as rfl (WL.as rfl (wn (CW.ret ?_))))))))))))
   obtain ⟨rfl, rfl⟩ := H
   exact QW.ret2 rfl rfl rfl ⟨rfl, v8.pick [] (by decide)⟩
  ·obtain ⟨w4, Z4, H⟩ := H
   refine wC ent66 rfl (reliquaryref04_Nonce.calls Z4) ?_
   rintro _ Z5 ⟨M1, rfl, Z6⟩
   have w5 := k7.call Z6
   refine ⟨_, rfl, WL.nil ?_⟩
   refine AW.back ?_
   refine AW.step2 0 5 rfl rfl (by kernel_rfl) ?_ ?_
   ·refine WL.v (Runs.load_arr arr23 rfl (w5.blk (i := 1) rfl) hl0) (WL.nil ?_)
    refine AW.back ?_
    refine AW.step 5 rfl (by kernel_rfl) ?_
    refine WL.bytes w5 underlying9 underlying25 underlying5 rfl ?_
    intro e7 b9 h1 M2 Z7 ao2 Z8 o7
    try dsimp only [List.set, ec, en] at o7
    refine WL.nil ?_
    refine AW.back  ?_
    refine AW.step 6 rfl (by kernel_rfl) ?_
    obtain ⟨e8, Z9, aa0, H⟩ := H
    refine wC ent65 rfl (reliquaryref04_Crypt.calls hl0 M1 (o7.src_obj (i := 0) rfl Z8) ((bl_length _)) (Z7) aa0) ?_
    rintro _ aa1 ⟨h2, h3, h4, M3, rfl, aa2⟩
    have M4 := o7.call aa2
    refine ⟨_, rfl, WL.nil ?_⟩
    refine AW.back  ?_
    refine AW.tk 7 rfl (fun _ => (Runs.move rfl)) ?_
    refine AW.tk 8 rfl (fun _ => (Runs.extract rfl rfl)) ?_
    refine AW.tk 9 rfl (fun _ => (Runs.extract rfl rfl)) ?_
    refine AW.tk 10 rfl (fun _ => (Runs.assign rfl)) ?_
    refine AW.tk 11 rfl (fun _ => (Runs.assign rfl)) ?_
    refine AW.done (by kernel_rfl) ?_
    refine QW.then_n (CW.sub [(8, _), (9, _), (10, _), (11, _)] ⟨rfl, rfl, rfl, rfl, trivial⟩ (cr (WL.mv rfl (WL.mv rfl ?_))))
    obtain ⟨w6, M5, H⟩ := H
    obtain ⟨aa3, H⟩ := H
    obtain ⟨o8, w7⟩ : ∃ n_ : Nat, n_ = w6.length := ⟨_, rfl⟩
    refine WL.append (i := 2) Wanted.none M4 rfl underlying25 elem5 rfl rfl (M4.src_sl (k := 0) rfl) (by rw [iv_length]; exact (M3).symm) (one_iv .u8 _) (by decide) (N := o8) (by rw [w7, M5, List.length_append]; exact congr (congrArg HAdd.hAdd (g3)) (M3)) (by rw [w7]; exact aa3) ?_
    intro w8 w9 aa4 x0
    have x0' := x0; (try dsimp only [List.set, ec, en] at x0'); rw [iv_append .u8 a6 e8, ← M5] at x0'
    refine WL.as rfl (wn (CW.seq (CW.block ?_)))
    obtain ⟨aa5, H⟩ := H
    refine CW.sub [(8, _), (9, _), (10, _)] ⟨rfl, rfl, rfl, trivial⟩ ?_
    refine CW.lp (fun kL1 l_ w_ => ∃ o9 p0 l3 c9, l_ = [(8, .string (⟨#[]⟩ : ByteArray)), (9, .int .i64 0), (10, .slice o9 l3 p0)] ∧ reliquaryref08_Seal.L1 yB iC kL1 c9 ∧ (l3 = c9.length) ∧ St w w_ [.sl h2 h3 h4 (iv .u8 e8) 5 1, .obj e7 (.cells h1.toArray 5 (b9, b9 + 1)), .sl o9 p0 l3 (iv .u8 c9) 5 1, .cells a0 (iv .u8 lA) 23]) (k := aa5) ⟨w8, w9, o8, w6, rfl, H, w7, x0'⟩ ?_
    rintro kL1 ao3 ao4 ⟨o9, p0, l3, c9, rfl, H, x1, x2⟩
    refine CW.seq (cr (WL.mv rfl ?_))
    refine WL.v (Runs.len_sl underlying25 rfl (by rw [x1])) ?_
    refine WL.v (Runs.lss rfl rfl rfl) (wn ?_)
    rcases H with ⟨x3, H⟩ | ⟨x3, H⟩
    ·have x4 := (decide_eq_true x3)
     refine CW.ct rfl x4 (CW.skip (QW.then_n (CW.block (CW.region (WL.mv rfl ?_)))))
     refine WL.buildSl [.int .u8 0] x2 underlying25 elem5 rfl rfl (by decide) (by decide) (by simp [Value.cells]) ?_
     intro M6 aa6 p1
     replace p1 : St w aa6 [.sl (sp M6) 1 1 (iv .u8 [0]) 5 1, .sl h2 h3 h4 (iv .u8 e8) 5 1, .obj e7 (.cells h1.toArray 5 (b9, b9 + 1)), .sl o9 p0 l3 (iv .u8 c9) 5 1, .cells a0 (iv .u8 lA) 23] := p1
     obtain ⟨x5, M7, H⟩ := H
     obtain ⟨aa7, H⟩ := H
     obtain ⟨x6, x7⟩ : ∃ n_ : Nat, n_ = x5.length := ⟨_, rfl⟩
     refine WL.append (i := 3) Wanted.none p1 rfl underlying25 elem5 rfl rfl (p1.src_sl (k := 0) rfl) (by rw [iv_length]; exact (Eq.refl _).symm) (one_iv .u8 _) (by decide) (N := x6) (by rw [x7, M7, List.length_append]; exact congr (congrArg HAdd.hAdd (x1)) (rfl)) (by rw [x7]; exact aa7) ?_
     intro M8 M9 aa8 l4
     have l4' : St w aa8 [.sl (sp M6) 1 1 (iv .u8 [0]) 5 1, .sl h2 h3 h4 (iv .u8 e8) 5 1, .obj e7 (.cells h1.toArray 5 (b9, b9 + 1)), .sl M8 M9 x6 (iv .u8 x5) 5 1, .cells a0 (iv .u8 lA) 23] := by rw [M7, ← iv_append .u8 c9 [0]]; exact l4
     refine WL.as rfl (WL.nil (QW.blk_n ?_))
     have l4'' := l4'.pick [1, 2, 3, 4] (by decide)
     exact QW.a ⟨M8, M9, x6, x5, rfl, H, x7, l4''⟩
    have x4 := (decide_eq_false x3)
    refine CW.cf rfl x4 (CW.exit (QW.then_x (QW.then_x (QW.blk_x (QW.then_n (cr (WL.mv rfl (WL.v (Runs.bytes_str underlying25 underlying5 underlying9 rfl (x2.src_sl (k := 2) rfl) x1) (WL.as rfl (WL.as rfl (wn (CW.ret ?_))))))))))))
    obtain ⟨rfl, rfl⟩ := H
    exact QW.ret2 rfl rfl rfl ⟨rfl, x2.pick [] (by decide)⟩
   refine WL.bytes w5 underlying9 underlying25 underlying5 rfl ?_
   intro e9 c0 h5 N0 aa9 ao5 ab0 l5
   try dsimp only [List.set, ec, en] at l5
   refine WL.nil ?_
   refine AW.back ?_
   refine AW.step 0 rfl (by kernel_rfl) ?_
   refine WL.v (Runs.load_arr arr23 rfl (l5.blk (i := 2) rfl) hl0) (WL.nil ?_)
   refine AW.back  ?_
   refine AW.step 6 rfl (by kernel_rfl) ?_
   obtain ⟨f0, ab1, ab2, H⟩ := H
   refine wC ent65 rfl (reliquaryref04_Crypt.calls hl0 M1 (l5.src_obj (i := 0) rfl ab0) ((bl_length _)) (aa9) ab2) ?_
   rintro _ ab3 ⟨h6, h7, h8, N1, rfl, ab4⟩
   have N2 := l5.call ab4
   refine ⟨_, rfl, WL.nil ?_⟩
   refine AW.back  ?_
   refine AW.tk 7 rfl (fun _ => (Runs.move rfl)) ?_
   refine AW.tk 8 rfl (fun _ => (Runs.extract rfl rfl)) ?_
   refine AW.tk 9 rfl (fun _ => (Runs.extract rfl rfl)) ?_
   refine AW.tk 10 rfl (fun _ => (Runs.assign rfl)) ?_
   refine AW.tk 11 rfl (fun _ => (Runs.assign rfl)) ?_
   refine AW.done (by kernel_rfl) ?_
   refine QW.then_n (CW.sub [(8, _), (9, _), (10, _), (11, _)] ⟨rfl, rfl, rfl, rfl, trivial⟩ (cr (WL.mv rfl (WL.mv rfl ?_))))
   obtain ⟨x8, N3, H⟩ := H
   obtain ⟨ab5, H⟩ := H
   obtain ⟨p2, x9⟩ : ∃ n_ : Nat, n_ = x8.length := ⟨_, rfl⟩
   refine WL.append (i := 2) Wanted.none N2 rfl underlying25 elem5 rfl rfl (N2.src_sl (k := 0) rfl) (by rw [iv_length]; exact (N1).symm) (one_iv .u8 _) (by decide) (N := p2) (by rw [x9, N3, List.length_append]; exact congr (congrArg HAdd.hAdd (g3)) (N1)) (by rw [x9]; exact ab5) ?_
   intro y0 y1 ab6 y2
   have y2' := y2; (try dsimp only [List.set, ec, en] at y2'); rw [iv_append .u8 a6 f0, ← N3] at y2'
   refine WL.as rfl (wn (CW.seq (CW.block ?_)))
   obtain ⟨ab7, H⟩ := H
   refine CW.sub [(8, _), (9, _), (10, _)] ⟨rfl, rfl, rfl, trivial⟩ ?_
   refine CW.lp (fun kL1 l_ w_ => ∃ p3 p4 l6 d0, l_ = [(8, .string (⟨#[]⟩ : ByteArray)), (9, .int .i64 0), (10, .slice p3 l6 p4)] ∧ reliquaryref08_Seal.L1 yB iC kL1 d0 ∧ (l6 = d0.length) ∧ St w w_ [.sl h6 h7 h8 (iv .u8 f0) 5 1, .obj e9 (.cells h5.toArray 5 (c0, c0 + 1)), .sl p3 p4 l6 (iv .u8 d0) 5 1, .cells a0 (iv .u8 lA) 23]) (k := ab7) ⟨y0, y1, p2, x8, rfl, H, x9, y2'⟩ ?_
   rintro kL1 ao6 ao7 ⟨p3, p4, l6, d0, rfl, H, y3, y4⟩
   refine CW.seq (cr (WL.mv rfl ?_))
   refine WL.v (Runs.len_sl underlying25 rfl (by rw [y3])) ?_
   refine WL.v (Runs.lss rfl rfl rfl) (wn ?_)
   rcases H with ⟨y5, H⟩ | ⟨y5, H⟩
   ·have y6 := (decide_eq_true y5)
    refine CW.ct rfl y6 (CW.skip (QW.then_n (CW.block (CW.region (WL.mv rfl ?_)))))
    refine WL.buildSl [.int .u8 0] y4 underlying25 elem5 rfl rfl (by decide) (by decide) (by simp [Value.cells]) ?_
    intro N4 ab8 p5
    replace p5 : St w ab8 [.sl (sp N4) 1 1 (iv .u8 [0]) 5 1, .sl h6 h7 h8 (iv .u8 f0) 5 1, .obj e9 (.cells h5.toArray 5 (c0, c0 + 1)), .sl p3 p4 l6 (iv .u8 d0) 5 1, .cells a0 (iv .u8 lA) 23] := p5
    obtain ⟨y7, N5, H⟩ := H
    obtain ⟨ab9, H⟩ := H
    obtain ⟨y8, y9⟩ : ∃ n_ : Nat, n_ = y7.length := ⟨_, rfl⟩
    refine WL.append (i := 3) Wanted.none p5 rfl underlying25 elem5 rfl rfl (p5.src_sl (k := 0) rfl) (by rw [iv_length]; exact (Eq.refl _).symm) (one_iv .u8 _) (by decide) (N := y8) (by rw [y9, N5, List.length_append]; exact congr (congrArg HAdd.hAdd (y3)) (rfl)) (by rw [y9]; exact ab9) ?_
    intro N6 N7 ac0 l7
    have l7' : St w ac0 [.sl (sp N4) 1 1 (iv .u8 [0]) 5 1, .sl h6 h7 h8 (iv .u8 f0) 5 1, .obj e9 (.cells h5.toArray 5 (c0, c0 + 1)), .sl N6 N7 y8 (iv .u8 y7) 5 1, .cells a0 (iv .u8 lA) 23] := by rw [N5, ← iv_append .u8 d0 [0]]; exact l7
    refine WL.as rfl (WL.nil (QW.blk_n ?_))
    have l7'' := l7'.pick [1, 2, 3, 4] (by decide)
    exact QW.a ⟨N6, N7, y8, y7, rfl, H, y9, l7''⟩
   have y6 := (decide_eq_false y5)
   refine CW.cf rfl y6 (CW.exit (QW.then_x (QW.then_x (QW.blk_x (QW.then_n (cr (WL.mv rfl (WL.v (Runs.bytes_str underlying25 underlying5 underlying9 rfl (y4.src_sl (k := 2) rfl) y3) (WL.as rfl (WL.as rfl (wn (CW.ret ?_))))))))))))
   obtain ⟨rfl, rfl⟩ := H
   exact QW.ret2 rfl rfl rfl ⟨rfl, y4.pick [] (by decide)⟩
  refine WL.bytes k7 underlying9 underlying25 underlying5 rfl ?_
  intro b5 a4 c1 z0 N8 ao8 N9 l8
  try dsimp only [List.set, ec, en] at l8
  refine WL.nil ?_
  refine AW.back ?_
  refine AW.step2 0 3 rfl rfl (by kernel_rfl) ?_ ?_
  ·refine WL.v (Runs.load_arr arr23 rfl (l8.blk (i := 2) rfl) hl0) (WL.nil ?_)
   refine AW.back ?_
   refine AW.step 3 rfl (by kernel_rfl) ?_
   obtain ⟨O0, ac1, H⟩ := H
   refine wC ent66 rfl (reliquaryref04_Nonce.calls ac1) ?_
   rintro _ O1 ⟨ac2, rfl, ac3⟩
   have O2 := l8.call ac3
   refine ⟨_, rfl, WL.nil ?_⟩
   refine AW.back  ?_
   refine AW.step 6 rfl (by kernel_rfl) ?_
   obtain ⟨f1, ac4, ac5, H⟩ := H
   refine wC ent65 rfl (reliquaryref04_Crypt.calls hl0 ac2 (O2.src_obj (i := 0) rfl N9) ((bl_length _)) (N8) ac5) ?_
   rintro _ ac6 ⟨h9, i0, i1, O3, rfl, ac7⟩
   have O4 := O2.call ac7
   refine ⟨_, rfl, WL.nil ?_⟩
   refine AW.back  ?_
   refine AW.tk 7 rfl (fun _ => (Runs.move rfl)) ?_
   refine AW.tk 8 rfl (fun _ => (Runs.extract rfl rfl)) ?_
   refine AW.tk 9 rfl (fun _ => (Runs.extract rfl rfl)) ?_
   refine AW.tk 10 rfl (fun _ => (Runs.assign rfl)) ?_
   refine AW.tk 11 rfl (fun _ => (Runs.assign rfl)) ?_
   refine AW.done (by kernel_rfl) ?_
   refine QW.then_n (CW.sub [(8, _), (9, _), (10, _), (11, _)] ⟨rfl, rfl, rfl, rfl, trivial⟩ (cr (WL.mv rfl (WL.mv rfl ?_))))
   obtain ⟨z1, O5, H⟩ := H
   obtain ⟨ac8, H⟩ := H
   obtain ⟨p6, z2⟩ : ∃ n_ : Nat, n_ = z1.length := ⟨_, rfl⟩
   refine WL.append (i := 2) Wanted.none O4 rfl underlying25 elem5 rfl rfl (O4.src_sl (k := 0) rfl) (by rw [iv_length]; exact (O3).symm) (one_iv .u8 _) (by decide) (N := p6) (by rw [z2, O5, List.length_append]; exact congr (congrArg HAdd.hAdd (g3)) (O3)) (by rw [z2]; exact ac8) ?_
   intro z3 z4 ac9 z5
   have z5' := z5; (try dsimp only [List.set, ec, en] at z5'); rw [iv_append .u8 a6 f1, ← O5] at z5'
   refine WL.as rfl (wn (CW.seq (CW.block ?_)))
   obtain ⟨ad0, H⟩ := H
   refine CW.sub [(8, _), (9, _), (10, _)] ⟨rfl, rfl, rfl, trivial⟩ ?_
   refine CW.lp (fun kL1 l_ w_ => ∃ p7 p8 l9 d1, l_ = [(8, .string (⟨#[]⟩ : ByteArray)), (9, .int .i64 0), (10, .slice p7 l9 p8)] ∧ reliquaryref08_Seal.L1 yB iC kL1 d1 ∧ (l9 = d1.length) ∧ St w w_ [.sl h9 i0 i1 (iv .u8 f1) 5 1, .obj b5 (.cells c1.toArray 5 (a4, a4 + 1)), .sl p7 p8 l9 (iv .u8 d1) 5 1, .cells a0 (iv .u8 lA) 23]) (k := ad0) ⟨z3, z4, p6, z1, rfl, H, z2, z5'⟩ ?_
   rintro kL1 ao9 ap0 ⟨p7, p8, l9, d1, rfl, H, z6, z7⟩
   refine CW.seq (cr (WL.mv rfl ?_))
   refine WL.v (Runs.len_sl underlying25 rfl (by rw [z6])) ?_
   refine WL.v (Runs.lss rfl rfl rfl) (wn ?_)
   rcases H with ⟨z8, H⟩ | ⟨z8, H⟩
   ·have z9 := (decide_eq_true z8)
    refine CW.ct rfl z9 (CW.skip (QW.then_n (CW.block (CW.region (WL.mv rfl ?_)))))
    refine WL.buildSl [.int .u8 0] z7 underlying25 elem5 rfl rfl (by decide) (by decide) (by simp [Value.cells]) ?_
    intro O6 ad1 p9
    replace p9 : St w ad1 [.sl (sp O6) 1 1 (iv .u8 [0]) 5 1, .sl h9 i0 i1 (iv .u8 f1) 5 1, .obj b5 (.cells c1.toArray 5 (a4, a4 + 1)), .sl p7 p8 l9 (iv .u8 d1) 5 1, .cells a0 (iv .u8 lA) 23] := p9
    obtain ⟨A0, O7, H⟩ := H
    obtain ⟨ad2, H⟩ := H
    obtain ⟨A1, A2⟩ : ∃ n_ : Nat, n_ = A0.length := ⟨_, rfl⟩
    refine WL.append (i := 3) Wanted.none p9 rfl underlying25 elem5 rfl rfl (p9.src_sl (k := 0) rfl) (by rw [iv_length]; exact (Eq.refl _).symm) (one_iv .u8 _) (by decide) (N := A1) (by rw [A2, O7, List.length_append]; exact congr (congrArg HAdd.hAdd (z6)) (rfl)) (by rw [A2]; exact ad2) ?_
    intro O8 O9 ad3 m0
    have m0' : St w ad3 [.sl (sp O6) 1 1 (iv .u8 [0]) 5 1, .sl h9 i0 i1 (iv .u8 f1) 5 1, .obj b5 (.cells c1.toArray 5 (a4, a4 + 1)), .sl O8 O9 A1 (iv .u8 A0) 5 1, .cells a0 (iv .u8 lA) 23] := by rw [O7, ← iv_append .u8 d1 [0]]; exact m0
    refine WL.as rfl (WL.nil (QW.blk_n ?_))
    have m0'' := m0'.pick [1, 2, 3, 4] (by decide)
    exact QW.a ⟨O8, O9, A1, A0, rfl, H, A2, m0''⟩
   have z9 := (decide_eq_false z8)
   refine CW.cf rfl z9 (CW.exit (QW.then_x (QW.then_x (QW.blk_x (QW.then_n (cr (WL.mv rfl (WL.v (Runs.bytes_str underlying25 underlying5 underlying9 rfl (z7.src_sl (k := 2) rfl) z6) (WL.as rfl (WL.as rfl (wn (CW.ret ?_))))))))))))
   obtain ⟨rfl, rfl⟩ := H
   exact QW.ret2 rfl rfl rfl ⟨rfl, z7.pick [] (by decide)⟩
  obtain ⟨P0, ad4, H⟩ := H
  refine wC ent66 rfl (reliquaryref04_Nonce.calls ad4) ?_
  rintro _ P1 ⟨ad5, rfl, ad6⟩
  have A3 := l8.call ad6
  refine ⟨_, rfl, WL.nil ?_⟩
  refine AW.back ?_
  refine AW.step 0 rfl (by kernel_rfl) ?_
  refine WL.v (Runs.load_arr arr23 rfl (A3.blk (i := 2) rfl) hl0) (WL.nil ?_)
  refine AW.back  ?_
  refine AW.step 6 rfl (by kernel_rfl) ?_
  obtain ⟨f2, ad7, ad8, H⟩ := H
  refine wC ent65 rfl (reliquaryref04_Crypt.calls hl0 ad5 (A3.src_obj (i := 0) rfl N9) ((bl_length _)) (N8) ad8) ?_
  rintro _ ad9 ⟨i2, i3, i4, P2, rfl, ae0⟩
  have P3 := A3.call ae0
  refine ⟨_, rfl, WL.nil ?_⟩
  refine AW.back  ?_
  refine AW.tk 7 rfl (fun _ => (Runs.move rfl)) ?_
  refine AW.tk 8 rfl (fun _ => (Runs.extract rfl rfl)) ?_
  refine AW.tk 9 rfl (fun _ => (Runs.extract rfl rfl)) ?_
  refine AW.tk 10 rfl (fun _ => (Runs.assign rfl)) ?_
  refine AW.tk 11 rfl (fun _ => (Runs.assign rfl)) ?_
  refine AW.done (by kernel_rfl) ?_
  refine QW.then_n (CW.sub [(8, _), (9, _), (10, _), (11, _)] ⟨rfl, rfl, rfl, rfl, trivial⟩ (cr (WL.mv rfl (WL.mv rfl ?_))))
  obtain ⟨A4, P4, H⟩ := H
  obtain ⟨ae1, H⟩ := H
  obtain ⟨q0, A5⟩ : ∃ n_ : Nat, n_ = A4.length := ⟨_, rfl⟩
  refine WL.append (i := 2) Wanted.none P3 rfl underlying25 elem5 rfl rfl (P3.src_sl (k := 0) rfl) (by rw [iv_length]; exact (P2).symm) (one_iv .u8 _) (by decide) (N := q0) (by rw [A5, P4, List.length_append]; exact congr (congrArg HAdd.hAdd (g3)) (P2)) (by rw [A5]; exact ae1) ?_
  intro A6 A7 ae2 A8
  have A8' := A8; (try dsimp only [List.set, ec, en] at A8'); rw [iv_append .u8 a6 f2, ← P4] at A8'
  refine WL.as rfl (wn (CW.seq (CW.block ?_)))
  obtain ⟨ae3, H⟩ := H
  refine CW.sub [(8, _), (9, _), (10, _)] ⟨rfl, rfl, rfl, trivial⟩ ?_
  refine CW.lp (fun kL1 l_ w_ => ∃ q1 q2 m1 d2, l_ = [(8, .string (⟨#[]⟩ : ByteArray)), (9, .int .i64 0), (10, .slice q1 m1 q2)] ∧ reliquaryref08_Seal.L1 yB iC kL1 d2 ∧ (m1 = d2.length) ∧ St w w_ [.sl i2 i3 i4 (iv .u8 f2) 5 1, .obj b5 (.cells c1.toArray 5 (a4, a4 + 1)), .sl q1 q2 m1 (iv .u8 d2) 5 1, .cells a0 (iv .u8 lA) 23]) (k := ae3) ⟨A6, A7, q0, A4, rfl, H, A5, A8'⟩ ?_
  rintro kL1 ap1 ap2 ⟨q1, q2, m1, d2, rfl, H, A9, B0⟩
  refine CW.seq (cr (WL.mv rfl ?_))
  refine WL.v (Runs.len_sl underlying25 rfl (by rw [A9])) ?_
  refine WL.v (Runs.lss rfl rfl rfl) (wn ?_)
  rcases H with ⟨B1, H⟩ | ⟨B1, H⟩
  ·have B2 := (decide_eq_true B1)
   refine CW.ct rfl B2 (CW.skip (QW.then_n (CW.block (CW.region (WL.mv rfl ?_)))))
   refine WL.buildSl [.int .u8 0] B0 underlying25 elem5 rfl rfl (by decide) (by decide) (by simp [Value.cells]) ?_
   intro P5 ae4 q3
   replace q3 : St w ae4 [.sl (sp P5) 1 1 (iv .u8 [0]) 5 1, .sl i2 i3 i4 (iv .u8 f2) 5 1, .obj b5 (.cells c1.toArray 5 (a4, a4 + 1)), .sl q1 q2 m1 (iv .u8 d2) 5 1, .cells a0 (iv .u8 lA) 23] := q3
   obtain ⟨B3, P6, H⟩ := H
   obtain ⟨ae5, H⟩ := H
   obtain ⟨B4, B5⟩ : ∃ n_ : Nat, n_ = B3.length := ⟨_, rfl⟩
   refine WL.append (i := 3) Wanted.none q3 rfl underlying25 elem5 rfl rfl (q3.src_sl (k := 0) rfl) (by rw [iv_length]; exact (Eq.refl _).symm) (one_iv .u8 _) (by decide) (N := B4) (by rw [B5, P6, List.length_append]; exact congr (congrArg HAdd.hAdd (A9)) (rfl)) (by rw [B5]; exact ae5) ?_
   intro P7 P8 ae6 m2
   have m2' : St w ae6 [.sl (sp P5) 1 1 (iv .u8 [0]) 5 1, .sl i2 i3 i4 (iv .u8 f2) 5 1, .obj b5 (.cells c1.toArray 5 (a4, a4 + 1)), .sl P7 P8 B4 (iv .u8 B3) 5 1, .cells a0 (iv .u8 lA) 23] := by rw [P6, ← iv_append .u8 d2 [0]]; exact m2
   refine WL.as rfl (WL.nil (QW.blk_n ?_))
   have m2'' := m2'.pick [1, 2, 3, 4] (by decide)
   exact QW.a ⟨P7, P8, B4, B3, rfl, H, B5, m2''⟩
  have B2 := (decide_eq_false B1)
  refine CW.cf rfl B2 (CW.exit (QW.then_x (QW.then_x (QW.blk_x (QW.then_n (cr (WL.mv rfl (WL.v (Runs.bytes_str underlying25 underlying5 underlying9 rfl (B0.src_sl (k := 2) rfl) A9) (WL.as rfl (WL.as rfl (wn (CW.ret ?_))))))))))))
  obtain ⟨rfl, rfl⟩ := H
  exact QW.ret2 rfl rfl rfl ⟨rfl, B0.pick [] (by decide)⟩
 have c6 : ((yA.size : Int) != 160) = false := (bne_eq_false_iff_eq.mpr (Decidable.not_not.mp t2))
 iterate 3 (refine WL.off ?_ ?_; exact Wg 16 c6)
 refine WL.v (Runs.pick_f (evb rfl c6) rfl) (WL.mv rfl ?_)
 refine WL.on ?_ ?_; exact Wg 21 rfl
 refine WL.mv rfl ?_
 refine WL.on ?_ ?_; exact Wg 21 rfl
 refine WL.v (Runs.eql rfl rfl rfl) (WL.v (Runs.pick_f rfl rfl) (wn ?_))
 refine CW.su [(1, _), (2, _), (3, _), (4, _), (8, _), (9, _), (24, _)] ?_
 rcases H with ⟨B6, H⟩ | ⟨B6, H⟩
 ·have B7 := (beq_iff_eq.mpr B6)
  refine CW.ct rfl B7 (cr (WL.as rfl (WL.as rfl (wn (CW.ret (QW.then_r ?_))))))
  obtain ⟨rfl, rfl⟩ := H
  exact QW.ret2 rfl rfl rfl ⟨rfl, e1.pick [] (by decide)⟩
 have B7 := (beq_eq_false_iff_ne.mpr B6)
 refine CW.cf rfl B7 (CW.skip (QW.then_n (CW.seq (cr (WL.mv rfl (WL.v (Runs.eql rfl rfl rfl) (wn ?_)))))))
 rcases H with ⟨B8, H⟩ | ⟨B8, H⟩
 ·have B9 := (beq_iff_eq.mpr B8)
  refine CW.ct rfl B9 (cr (WL.as rfl (WL.as rfl (wn (CW.ret (QW.then_r ?_))))))
  obtain ⟨rfl, rfl⟩ := H
  exact QW.ret2 rfl rfl rfl ⟨rfl, e1.pick [] (by decide)⟩
 have B9 := (beq_eq_false_iff_ne.mpr B8)
 refine CW.cf rfl B9 (CW.skip (QW.then_n (cr (WL.mv rfl ?_))))
 obtain ⟨a7, ae7, H⟩ := H
 refine wC ent33 rfl (reliquaryref01_Put.calls ae7) ?_
 rintro _ ae8 ⟨b1, b2, b3, i5, rfl, ae9⟩
 have af0 := e1.call ae9
 refine ⟨_, rfl, WL.as rfl (wn (CW.seq ?_))⟩
 refine CW.region_aw wide af0 (fun P9 m3 => ?_)
 refine AW.tk 1 rfl (fun _ => (Runs.move rfl)) ?_
 refine AW.tk 2 rfl (fun _ => (Runs.move rfl)) ?_
 refine AW.tk 4 rfl (fun _ => (Runs.move rfl)) ?_
 refine AW.step3 0 3 5 rfl rfl rfl (by kernel_rfl) ?_ ?_ ?_
 ·refine WL.v (Runs.load_arr arr23 rfl (m3.blk (i := 1) rfl) hl0) (WL.nil ?_)
  refine AW.back ?_
  refine AW.step2 3 5 rfl rfl (by kernel_rfl) ?_ ?_
  ·obtain ⟨Q0, af1, H⟩ := H
   refine wC ent66 rfl (reliquaryref04_Nonce.calls af1) ?_
   rintro _ af2 ⟨af3, rfl, af4⟩
   have af5 := m3.call af4
   refine ⟨_, rfl, WL.nil ?_⟩
   refine AW.back ?_
   refine AW.step 5 rfl (by kernel_rfl) ?_
   refine WL.bytes af5 underlying9 underlying25 underlying5 rfl ?_
   intro f3 c2 i6 Q1 af6 ap3 af7 q4
   try dsimp only [List.set, ec, en] at q4
   refine WL.nil ?_
   refine AW.back  ?_
   refine AW.step 6 rfl (by kernel_rfl) ?_
   obtain ⟨f4, af8, af9, H⟩ := H
   refine wC ent65 rfl (reliquaryref04_Crypt.calls hl0 af3 (q4.src_obj (i := 0) rfl af7) ((bl_length _)) (af6) af9) ?_
   rintro _ ag0 ⟨i7, i8, i9, Q2, rfl, ag1⟩
   have Q3 := q4.call ag1
   refine ⟨_, rfl, WL.nil ?_⟩
   refine AW.back  ?_
   refine AW.tk 7 rfl (fun _ => (Runs.move rfl)) ?_
   refine AW.tk 8 rfl (fun _ => (Runs.extract rfl rfl)) ?_
   refine AW.tk 9 rfl (fun _ => (Runs.extract rfl rfl)) ?_
   refine AW.tk 10 rfl (fun _ => (Runs.assign rfl)) ?_
   refine AW.tk 11 rfl (fun _ => (Runs.assign rfl)) ?_
   refine AW.done (by kernel_rfl) ?_
   refine QW.then_n (CW.sub [(8, _), (9, _), (10, _), (11, _)] ⟨rfl, rfl, rfl, rfl, trivial⟩ (cr (WL.mv rfl (WL.mv rfl ?_))))
   obtain ⟨C0, Q4, H⟩ := H
   obtain ⟨ag2, H⟩ := H
   obtain ⟨q5, C1⟩ : ∃ n_ : Nat, n_ = C0.length := ⟨_, rfl⟩
   refine WL.append (i := 2) Wanted.none Q3 rfl underlying25 elem5 rfl rfl (Q3.src_sl (k := 0) rfl) (by rw [iv_length]; exact (Q2).symm) (one_iv .u8 _) (by decide) (N := q5) (by rw [C1, Q4, List.length_append]; exact congr (congrArg HAdd.hAdd (i5)) (Q2)) (by rw [C1]; exact ag2) ?_
   intro C2 C3 ag3 C4
   have C4' := C4; (try dsimp only [List.set, ec, en] at C4'); rw [iv_append .u8 a7 f4, ← Q4] at C4'
   refine WL.as rfl (wn (CW.seq (CW.block ?_)))
   obtain ⟨ag4, H⟩ := H
   refine CW.sub [(8, _), (9, _), (10, _)] ⟨rfl, rfl, rfl, trivial⟩ ?_
   refine CW.lp (fun kL2 l_ w_ => ∃ q6 q7 m4 d3, l_ = [(8, .string (⟨#[]⟩ : ByteArray)), (9, .int .i64 0), (10, .slice q6 m4 q7)] ∧ reliquaryref08_Seal.L2 yB iC kL2 d3 ∧ (m4 = d3.length) ∧ St w w_ [.sl i7 i8 i9 (iv .u8 f4) 5 1, .obj f3 (.cells i6.toArray 5 (c2, c2 + 1)), .sl q6 q7 m4 (iv .u8 d3) 5 1, .cells a0 (iv .u8 lA) 23]) (k := ag4) ⟨C2, C3, q5, C0, rfl, H, C1, C4'⟩ ?_
   rintro kL2 ap4 ap5 ⟨q6, q7, m4, d3, rfl, H, C5, C6⟩
   refine CW.seq (cr (WL.mv rfl ?_))
   refine WL.v (Runs.len_sl underlying25 rfl (by rw [C5])) ?_
   refine WL.v (Runs.lss rfl rfl rfl) (wn ?_)
   rcases H with ⟨C7, H⟩ | ⟨C7, H⟩
   ·have C8 := (decide_eq_true C7)
    refine CW.ct rfl C8 (CW.skip (QW.then_n (CW.block (CW.region (WL.mv rfl ?_)))))
    refine WL.buildSl [.int .u8 0] C6 underlying25 elem5 rfl rfl (by decide) (by decide) (by simp [Value.cells]) ?_
    intro Q5 ag5 q8
    replace q8 : St w ag5 [.sl (sp Q5) 1 1 (iv .u8 [0]) 5 1, .sl i7 i8 i9 (iv .u8 f4) 5 1, .obj f3 (.cells i6.toArray 5 (c2, c2 + 1)), .sl q6 q7 m4 (iv .u8 d3) 5 1, .cells a0 (iv .u8 lA) 23] := q8
    obtain ⟨C9, Q6, H⟩ := H
    obtain ⟨ag6, H⟩ := H
    obtain ⟨D0, D1⟩ : ∃ n_ : Nat, n_ = C9.length := ⟨_, rfl⟩
    refine WL.append (i := 3) Wanted.none q8 rfl underlying25 elem5 rfl rfl (q8.src_sl (k := 0) rfl) (by rw [iv_length]; exact (Eq.refl _).symm) (one_iv .u8 _) (by decide) (N := D0) (by rw [D1, Q6, List.length_append]; exact congr (congrArg HAdd.hAdd (C5)) (rfl)) (by rw [D1]; exact ag6) ?_
    intro Q7 Q8 ag7 m5
    have m5' : St w ag7 [.sl (sp Q5) 1 1 (iv .u8 [0]) 5 1, .sl i7 i8 i9 (iv .u8 f4) 5 1, .obj f3 (.cells i6.toArray 5 (c2, c2 + 1)), .sl Q7 Q8 D0 (iv .u8 C9) 5 1, .cells a0 (iv .u8 lA) 23] := by rw [Q6, ← iv_append .u8 d3 [0]]; exact m5
    refine WL.as rfl (WL.nil (QW.blk_n ?_))
    have m5'' := m5'.pick [1, 2, 3, 4] (by decide)
    exact QW.a ⟨Q7, Q8, D0, C9, rfl, H, D1, m5''⟩
   have C8 := (decide_eq_false C7)
   refine CW.cf rfl C8 (CW.exit (QW.then_x (QW.then_x (QW.blk_x (QW.then_n (cr (WL.mv rfl (WL.v (Runs.bytes_str underlying25 underlying5 underlying9 rfl (C6.src_sl (k := 2) rfl) C5) (WL.as rfl (WL.as rfl (wn (CW.ret ?_))))))))))))
   obtain ⟨rfl, rfl⟩ := H
   exact QW.ret2 rfl rfl rfl ⟨rfl, C6.pick [] (by decide)⟩
  refine WL.bytes m3 underlying9 underlying25 underlying5 rfl ?_
  intro e0 b6 f5 Q9 ag8 ap6 ag9 D2
  try dsimp only [List.set, ec, en] at D2
  refine WL.nil ?_
  refine AW.back ?_
  refine AW.step 3 rfl (by kernel_rfl) ?_
  obtain ⟨R0, ah0, H⟩ := H
  refine wC ent66 rfl (reliquaryref04_Nonce.calls ah0) ?_
  rintro _ R1 ⟨ah1, rfl, ah2⟩
  have R2 := D2.call ah2
  refine ⟨_, rfl, WL.nil ?_⟩
  refine AW.back  ?_
  refine AW.step 6 rfl (by kernel_rfl) ?_
  obtain ⟨f6, ah3, ah4, H⟩ := H
  refine wC ent65 rfl (reliquaryref04_Crypt.calls hl0 ah1 (R2.src_obj (i := 0) rfl ag9) ((bl_length _)) (ag8) ah4) ?_
  rintro _ ah5 ⟨j0, j1, j2, R3, rfl, ah6⟩
  have R4 := R2.call ah6
  refine ⟨_, rfl, WL.nil ?_⟩
  refine AW.back  ?_
  refine AW.tk 7 rfl (fun _ => (Runs.move rfl)) ?_
  refine AW.tk 8 rfl (fun _ => (Runs.extract rfl rfl)) ?_
  refine AW.tk 9 rfl (fun _ => (Runs.extract rfl rfl)) ?_
  refine AW.tk 10 rfl (fun _ => (Runs.assign rfl)) ?_
  refine AW.tk 11 rfl (fun _ => (Runs.assign rfl)) ?_
  refine AW.done (by kernel_rfl) ?_
  refine QW.then_n (CW.sub [(8, _), (9, _), (10, _), (11, _)] ⟨rfl, rfl, rfl, rfl, trivial⟩ (cr (WL.mv rfl (WL.mv rfl ?_))))
  obtain ⟨D3, R5, H⟩ := H
  obtain ⟨ah7, H⟩ := H
  obtain ⟨q9, D4⟩ : ∃ n_ : Nat, n_ = D3.length := ⟨_, rfl⟩
  refine WL.append (i := 2) Wanted.none R4 rfl underlying25 elem5 rfl rfl (R4.src_sl (k := 0) rfl) (by rw [iv_length]; exact (R3).symm) (one_iv .u8 _) (by decide) (N := q9) (by rw [D4, R5, List.length_append]; exact congr (congrArg HAdd.hAdd (i5)) (R3)) (by rw [D4]; exact ah7) ?_
  intro D5 D6 ah8 D7
  have D7' := D7; (try dsimp only [List.set, ec, en] at D7'); rw [iv_append .u8 a7 f6, ← R5] at D7'
  refine WL.as rfl (wn (CW.seq (CW.block ?_)))
  obtain ⟨ah9, H⟩ := H
  refine CW.sub [(8, _), (9, _), (10, _)] ⟨rfl, rfl, rfl, trivial⟩ ?_
  refine CW.lp (fun kL2 l_ w_ => ∃ r2 r3 m6 d4, l_ = [(8, .string (⟨#[]⟩ : ByteArray)), (9, .int .i64 0), (10, .slice r2 m6 r3)] ∧ reliquaryref08_Seal.L2 yB iC kL2 d4 ∧ (m6 = d4.length) ∧ St w w_ [.sl j0 j1 j2 (iv .u8 f6) 5 1, .obj e0 (.cells f5.toArray 5 (b6, b6 + 1)), .sl r2 r3 m6 (iv .u8 d4) 5 1, .cells a0 (iv .u8 lA) 23]) (k := ah9) ⟨D5, D6, q9, D3, rfl, H, D4, D7'⟩ ?_
  rintro kL2 ap7 ap8 ⟨r2, r3, m6, d4, rfl, H, D8, D9⟩
  refine CW.seq (cr (WL.mv rfl ?_))
  refine WL.v (Runs.len_sl underlying25 rfl (by rw [D8])) ?_
  refine WL.v (Runs.lss rfl rfl rfl) (wn ?_)
  rcases H with ⟨E0, H⟩ | ⟨E0, H⟩
  ·have E1 := (decide_eq_true E0)
   refine CW.ct rfl E1 (CW.skip (QW.then_n (CW.block (CW.region (WL.mv rfl ?_)))))
   refine WL.buildSl [.int .u8 0] D9 underlying25 elem5 rfl rfl (by decide) (by decide) (by simp [Value.cells]) ?_
   intro R6 ai0 r4
   replace r4 : St w ai0 [.sl (sp R6) 1 1 (iv .u8 [0]) 5 1, .sl j0 j1 j2 (iv .u8 f6) 5 1, .obj e0 (.cells f5.toArray 5 (b6, b6 + 1)), .sl r2 r3 m6 (iv .u8 d4) 5 1, .cells a0 (iv .u8 lA) 23] := r4
   obtain ⟨E2, R7, H⟩ := H
   obtain ⟨ai1, H⟩ := H
   obtain ⟨E3, E4⟩ : ∃ n_ : Nat, n_ = E2.length := ⟨_, rfl⟩
   refine WL.append (i := 3) Wanted.none r4 rfl underlying25 elem5 rfl rfl (r4.src_sl (k := 0) rfl) (by rw [iv_length]; exact (Eq.refl _).symm) (one_iv .u8 _) (by decide) (N := E3) (by rw [E4, R7, List.length_append]; exact congr (congrArg HAdd.hAdd (D8)) (rfl)) (by rw [E4]; exact ai1) ?_
   intro R8 R9 ai2 m7
   have m7' : St w ai2 [.sl (sp R6) 1 1 (iv .u8 [0]) 5 1, .sl j0 j1 j2 (iv .u8 f6) 5 1, .obj e0 (.cells f5.toArray 5 (b6, b6 + 1)), .sl R8 R9 E3 (iv .u8 E2) 5 1, .cells a0 (iv .u8 lA) 23] := by rw [R7, ← iv_append .u8 d4 [0]]; exact m7
   refine WL.as rfl (WL.nil (QW.blk_n ?_))
   have m7'' := m7'.pick [1, 2, 3, 4] (by decide)
   exact QW.a ⟨R8, R9, E3, E2, rfl, H, E4, m7''⟩
  have E1 := (decide_eq_false E0)
  refine CW.cf rfl E1 (CW.exit (QW.then_x (QW.then_x (QW.blk_x (QW.then_n (cr (WL.mv rfl (WL.v (Runs.bytes_str underlying25 underlying5 underlying9 rfl (D9.src_sl (k := 2) rfl) D8) (WL.as rfl (WL.as rfl (wn (CW.ret ?_))))))))))))
  obtain ⟨rfl, rfl⟩ := H
  exact QW.ret2 rfl rfl rfl ⟨rfl, D9.pick [] (by decide)⟩
 ·obtain ⟨E5, ai3, H⟩ := H
  refine wC ent66 rfl (reliquaryref04_Nonce.calls ai3) ?_
  rintro _ ai4 ⟨S0, rfl, ai5⟩
  have E6 := m3.call ai5
  refine ⟨_, rfl, WL.nil ?_⟩
  refine AW.back ?_
  refine AW.step2 0 5 rfl rfl (by kernel_rfl) ?_ ?_
  ·refine WL.v (Runs.load_arr arr23 rfl (E6.blk (i := 1) rfl) hl0) (WL.nil ?_)
   refine AW.back ?_
   refine AW.step 5 rfl (by kernel_rfl) ?_
   refine WL.bytes E6 underlying9 underlying25 underlying5 rfl ?_
   intro f7 c3 j3 S1 ai6 ap9 ai7 r5
   try dsimp only [List.set, ec, en] at r5
   refine WL.nil ?_
   refine AW.back  ?_
   refine AW.step 6 rfl (by kernel_rfl) ?_
   obtain ⟨f8, ai8, ai9, H⟩ := H
   refine wC ent65 rfl (reliquaryref04_Crypt.calls hl0 S0 (r5.src_obj (i := 0) rfl ai7) ((bl_length _)) (ai6) ai9) ?_
   rintro _ aj0 ⟨j4, j5, j6, S2, rfl, aj1⟩
   have S3 := r5.call aj1
   refine ⟨_, rfl, WL.nil ?_⟩
   refine AW.back  ?_
   refine AW.tk 7 rfl (fun _ => (Runs.move rfl)) ?_
   refine AW.tk 8 rfl (fun _ => (Runs.extract rfl rfl)) ?_
   refine AW.tk 9 rfl (fun _ => (Runs.extract rfl rfl)) ?_
   refine AW.tk 10 rfl (fun _ => (Runs.assign rfl)) ?_
   refine AW.tk 11 rfl (fun _ => (Runs.assign rfl)) ?_
   refine AW.done (by kernel_rfl) ?_
   refine QW.then_n (CW.sub [(8, _), (9, _), (10, _), (11, _)] ⟨rfl, rfl, rfl, rfl, trivial⟩ (cr (WL.mv rfl (WL.mv rfl ?_))))
   obtain ⟨E7, S4, H⟩ := H
   obtain ⟨aj2, H⟩ := H
   obtain ⟨r6, E8⟩ : ∃ n_ : Nat, n_ = E7.length := ⟨_, rfl⟩
   refine WL.append (i := 2) Wanted.none S3 rfl underlying25 elem5 rfl rfl (S3.src_sl (k := 0) rfl) (by rw [iv_length]; exact (S2).symm) (one_iv .u8 _) (by decide) (N := r6) (by rw [E8, S4, List.length_append]; exact congr (congrArg HAdd.hAdd (i5)) (S2)) (by rw [E8]; exact aj2) ?_
   intro E9 F0 aj3 F1
   have F1' := F1; (try dsimp only [List.set, ec, en] at F1'); rw [iv_append .u8 a7 f8, ← S4] at F1'
   refine WL.as rfl (wn (CW.seq (CW.block ?_)))
   obtain ⟨aj4, H⟩ := H
   refine CW.sub [(8, _), (9, _), (10, _)] ⟨rfl, rfl, rfl, trivial⟩ ?_
   refine CW.lp (fun kL2 l_ w_ => ∃ r7 r8 m8 d5, l_ = [(8, .string (⟨#[]⟩ : ByteArray)), (9, .int .i64 0), (10, .slice r7 m8 r8)] ∧ reliquaryref08_Seal.L2 yB iC kL2 d5 ∧ (m8 = d5.length) ∧ St w w_ [.sl j4 j5 j6 (iv .u8 f8) 5 1, .obj f7 (.cells j3.toArray 5 (c3, c3 + 1)), .sl r7 r8 m8 (iv .u8 d5) 5 1, .cells a0 (iv .u8 lA) 23]) (k := aj4) ⟨E9, F0, r6, E7, rfl, H, E8, F1'⟩ ?_
   rintro kL2 aq0 aq1 ⟨r7, r8, m8, d5, rfl, H, F2, F3⟩
   refine CW.seq (cr (WL.mv rfl ?_))
   refine WL.v (Runs.len_sl underlying25 rfl (by rw [F2])) ?_
   refine WL.v (Runs.lss rfl rfl rfl) (wn ?_)
   rcases H with ⟨F4, H⟩ | ⟨F4, H⟩
   ·have F5 := (decide_eq_true F4)
    refine CW.ct rfl F5 (CW.skip (QW.then_n (CW.block (CW.region (WL.mv rfl ?_)))))
    refine WL.buildSl [.int .u8 0] F3 underlying25 elem5 rfl rfl (by decide) (by decide) (by simp [Value.cells]) ?_
    intro S5 aj5 r9
    replace r9 : St w aj5 [.sl (sp S5) 1 1 (iv .u8 [0]) 5 1, .sl j4 j5 j6 (iv .u8 f8) 5 1, .obj f7 (.cells j3.toArray 5 (c3, c3 + 1)), .sl r7 r8 m8 (iv .u8 d5) 5 1, .cells a0 (iv .u8 lA) 23] := r9
    obtain ⟨F6, S6, H⟩ := H
    obtain ⟨aj6, H⟩ := H
    obtain ⟨F7, F8⟩ : ∃ n_ : Nat, n_ = F6.length := ⟨_, rfl⟩
    refine WL.append (i := 3) Wanted.none r9 rfl underlying25 elem5 rfl rfl (r9.src_sl (k := 0) rfl) (by rw [iv_length]; exact (Eq.refl _).symm) (one_iv .u8 _) (by decide) (N := F7) (by rw [F8, S6, List.length_append]; exact congr (congrArg HAdd.hAdd (F2)) (rfl)) (by rw [F8]; exact aj6) ?_
    intro S7 S8 aj7 m9
    have m9' : St w aj7 [.sl (sp S5) 1 1 (iv .u8 [0]) 5 1, .sl j4 j5 j6 (iv .u8 f8) 5 1, .obj f7 (.cells j3.toArray 5 (c3, c3 + 1)), .sl S7 S8 F7 (iv .u8 F6) 5 1, .cells a0 (iv .u8 lA) 23] := by rw [S6, ← iv_append .u8 d5 [0]]; exact m9
    refine WL.as rfl (WL.nil (QW.blk_n ?_))
    have m9'' := m9'.pick [1, 2, 3, 4] (by decide)
    exact QW.a ⟨S7, S8, F7, F6, rfl, H, F8, m9''⟩
   have F5 := (decide_eq_false F4)
   refine CW.cf rfl F5 (CW.exit (QW.then_x (QW.then_x (QW.blk_x (QW.then_n (cr (WL.mv rfl (WL.v (Runs.bytes_str underlying25 underlying5 underlying9 rfl (F3.src_sl (k := 2) rfl) F2) (WL.as rfl (WL.as rfl (wn (CW.ret ?_))))))))))))
   obtain ⟨rfl, rfl⟩ := H
   exact QW.ret2 rfl rfl rfl ⟨rfl, F3.pick [] (by decide)⟩
  refine WL.bytes E6 underlying9 underlying25 underlying5 rfl ?_
  intro f9 c4 j7 S9 aj8 aq2 aj9 n0
  try dsimp only [List.set, ec, en] at n0
  refine WL.nil ?_
  refine AW.back ?_
  refine AW.step 0 rfl (by kernel_rfl) ?_
  refine WL.v (Runs.load_arr arr23 rfl (n0.blk (i := 2) rfl) hl0) (WL.nil ?_)
  refine AW.back  ?_
  refine AW.step 6 rfl (by kernel_rfl) ?_
  obtain ⟨g0, ak0, ak1, H⟩ := H
  refine wC ent65 rfl (reliquaryref04_Crypt.calls hl0 S0 (n0.src_obj (i := 0) rfl aj9) ((bl_length _)) (aj8) ak1) ?_
  rintro _ ak2 ⟨j8, j9, k0, T0, rfl, ak3⟩
  have T1 := n0.call ak3
  refine ⟨_, rfl, WL.nil ?_⟩
  refine AW.back  ?_
  refine AW.tk 7 rfl (fun _ => (Runs.move rfl)) ?_
  refine AW.tk 8 rfl (fun _ => (Runs.extract rfl rfl)) ?_
  refine AW.tk 9 rfl (fun _ => (Runs.extract rfl rfl)) ?_
  refine AW.tk 10 rfl (fun _ => (Runs.assign rfl)) ?_
  refine AW.tk 11 rfl (fun _ => (Runs.assign rfl)) ?_
  refine AW.done (by kernel_rfl) ?_
  refine QW.then_n (CW.sub [(8, _), (9, _), (10, _), (11, _)] ⟨rfl, rfl, rfl, rfl, trivial⟩ (cr (WL.mv rfl (WL.mv rfl ?_))))
  obtain ⟨F9, T2, H⟩ := H
  obtain ⟨ak4, H⟩ := H
  obtain ⟨s0, G0⟩ : ∃ n_ : Nat, n_ = F9.length := ⟨_, rfl⟩
  refine WL.append (i := 2) Wanted.none T1 rfl underlying25 elem5 rfl rfl (T1.src_sl (k := 0) rfl) (by rw [iv_length]; exact (T0).symm) (one_iv .u8 _) (by decide) (N := s0) (by rw [G0, T2, List.length_append]; exact congr (congrArg HAdd.hAdd (i5)) (T0)) (by rw [G0]; exact ak4) ?_
  intro G1 G2 ak5 G3
  have G3' := G3; (try dsimp only [List.set, ec, en] at G3'); rw [iv_append .u8 a7 g0, ← T2] at G3'
  refine WL.as rfl (wn (CW.seq (CW.block ?_)))
  obtain ⟨ak6, H⟩ := H
  refine CW.sub [(8, _), (9, _), (10, _)] ⟨rfl, rfl, rfl, trivial⟩ ?_
  refine CW.lp (fun kL2 l_ w_ => ∃ s1 s2 n1 d6, l_ = [(8, .string (⟨#[]⟩ : ByteArray)), (9, .int .i64 0), (10, .slice s1 n1 s2)] ∧ reliquaryref08_Seal.L2 yB iC kL2 d6 ∧ (n1 = d6.length) ∧ St w w_ [.sl j8 j9 k0 (iv .u8 g0) 5 1, .obj f9 (.cells j7.toArray 5 (c4, c4 + 1)), .sl s1 s2 n1 (iv .u8 d6) 5 1, .cells a0 (iv .u8 lA) 23]) (k := ak6) ⟨G1, G2, s0, F9, rfl, H, G0, G3'⟩ ?_
  rintro kL2 aq3 aq4 ⟨s1, s2, n1, d6, rfl, H, G4, G5⟩
  refine CW.seq (cr (WL.mv rfl ?_))
  refine WL.v (Runs.len_sl underlying25 rfl (by rw [G4])) ?_
  refine WL.v (Runs.lss rfl rfl rfl) (wn ?_)
  rcases H with ⟨G6, H⟩ | ⟨G6, H⟩
  ·have G7 := (decide_eq_true G6)
   refine CW.ct rfl G7 (CW.skip (QW.then_n (CW.block (CW.region (WL.mv rfl ?_)))))
   refine WL.buildSl [.int .u8 0] G5 underlying25 elem5 rfl rfl (by decide) (by decide) (by simp [Value.cells]) ?_
   intro T3 ak7 s3
   replace s3 : St w ak7 [.sl (sp T3) 1 1 (iv .u8 [0]) 5 1, .sl j8 j9 k0 (iv .u8 g0) 5 1, .obj f9 (.cells j7.toArray 5 (c4, c4 + 1)), .sl s1 s2 n1 (iv .u8 d6) 5 1, .cells a0 (iv .u8 lA) 23] := s3
   obtain ⟨G8, T4, H⟩ := H
   obtain ⟨ak8, H⟩ := H
   obtain ⟨G9, H0⟩ : ∃ n_ : Nat, n_ = G8.length := ⟨_, rfl⟩
   refine WL.append (i := 3) Wanted.none s3 rfl underlying25 elem5 rfl rfl (s3.src_sl (k := 0) rfl) (by rw [iv_length]; exact (Eq.refl _).symm) (one_iv .u8 _) (by decide) (N := G9) (by rw [H0, T4, List.length_append]; exact congr (congrArg HAdd.hAdd (G4)) (rfl)) (by rw [H0]; exact ak8) ?_
   intro T5 T6 ak9 n2
   have n2' : St w ak9 [.sl (sp T3) 1 1 (iv .u8 [0]) 5 1, .sl j8 j9 k0 (iv .u8 g0) 5 1, .obj f9 (.cells j7.toArray 5 (c4, c4 + 1)), .sl T5 T6 G9 (iv .u8 G8) 5 1, .cells a0 (iv .u8 lA) 23] := by rw [T4, ← iv_append .u8 d6 [0]]; exact n2
   refine WL.as rfl (WL.nil (QW.blk_n ?_))
   have n2'' := n2'.pick [1, 2, 3, 4] (by decide)
   exact QW.a ⟨T5, T6, G9, G8, rfl, H, H0, n2''⟩
  have G7 := (decide_eq_false G6)
  refine CW.cf rfl G7 (CW.exit (QW.then_x (QW.then_x (QW.blk_x (QW.then_n (cr (WL.mv rfl (WL.v (Runs.bytes_str underlying25 underlying5 underlying9 rfl (G5.src_sl (k := 2) rfl) G4) (WL.as rfl (WL.as rfl (wn (CW.ret ?_))))))))))))
  obtain ⟨rfl, rfl⟩ := H
  exact QW.ret2 rfl rfl rfl ⟨rfl, G5.pick [] (by decide)⟩
 refine WL.bytes m3 underlying9 underlying25 underlying5 rfl ?_
 intro b7 a5 c5 H1 T7 aq5 T8 n3
 try dsimp only [List.set, ec, en] at n3
 refine WL.nil ?_
 refine AW.back ?_
 refine AW.step2 0 3 rfl rfl (by kernel_rfl) ?_ ?_
 ·refine WL.v (Runs.load_arr arr23 rfl (n3.blk (i := 2) rfl) hl0) (WL.nil ?_)
  refine AW.back ?_
  refine AW.step 3 rfl (by kernel_rfl) ?_
  obtain ⟨T9, al0, H⟩ := H
  refine wC ent66 rfl (reliquaryref04_Nonce.calls al0) ?_
  rintro _ U0 ⟨al1, rfl, al2⟩
  have U1 := n3.call al2
  refine ⟨_, rfl, WL.nil ?_⟩
  refine AW.back  ?_
  refine AW.step 6 rfl (by kernel_rfl) ?_
  obtain ⟨g1, al3, al4, H⟩ := H
  refine wC ent65 rfl (reliquaryref04_Crypt.calls hl0 al1 (U1.src_obj (i := 0) rfl T8) ((bl_length _)) (T7) al4) ?_
  rintro _ al5 ⟨k1, k2, k3, U2, rfl, al6⟩
  have U3 := U1.call al6
  refine ⟨_, rfl, WL.nil ?_⟩
  refine AW.back  ?_
  refine AW.tk 7 rfl (fun _ => (Runs.move rfl)) ?_
  refine AW.tk 8 rfl (fun _ => (Runs.extract rfl rfl)) ?_
  refine AW.tk 9 rfl (fun _ => (Runs.extract rfl rfl)) ?_
  refine AW.tk 10 rfl (fun _ => (Runs.assign rfl)) ?_
  refine AW.tk 11 rfl (fun _ => (Runs.assign rfl)) ?_
  refine AW.done (by kernel_rfl) ?_
  refine QW.then_n (CW.sub [(8, _), (9, _), (10, _), (11, _)] ⟨rfl, rfl, rfl, rfl, trivial⟩ (cr (WL.mv rfl (WL.mv rfl ?_))))
  obtain ⟨H2, U4, H⟩ := H
  obtain ⟨al7, H⟩ := H
  obtain ⟨s4, H3⟩ : ∃ n_ : Nat, n_ = H2.length := ⟨_, rfl⟩
  refine WL.append (i := 2) Wanted.none U3 rfl underlying25 elem5 rfl rfl (U3.src_sl (k := 0) rfl) (by rw [iv_length]; exact (U2).symm) (one_iv .u8 _) (by decide) (N := s4) (by rw [H3, U4, List.length_append]; exact congr (congrArg HAdd.hAdd (i5)) (U2)) (by rw [H3]; exact al7) ?_
  intro H4 H5 al8 H6
  have H6' := H6; (try dsimp only [List.set, ec, en] at H6'); rw [iv_append .u8 a7 g1, ← U4] at H6'
  refine WL.as rfl (wn (CW.seq (CW.block ?_)))
  obtain ⟨al9, H⟩ := H
  refine CW.sub [(8, _), (9, _), (10, _)] ⟨rfl, rfl, rfl, trivial⟩ ?_
  refine CW.lp (fun kL2 l_ w_ => ∃ s5 s6 n4 d7, l_ = [(8, .string (⟨#[]⟩ : ByteArray)), (9, .int .i64 0), (10, .slice s5 n4 s6)] ∧ reliquaryref08_Seal.L2 yB iC kL2 d7 ∧ (n4 = d7.length) ∧ St w w_ [.sl k1 k2 k3 (iv .u8 g1) 5 1, .obj b7 (.cells c5.toArray 5 (a5, a5 + 1)), .sl s5 s6 n4 (iv .u8 d7) 5 1, .cells a0 (iv .u8 lA) 23]) (k := al9) ⟨H4, H5, s4, H2, rfl, H, H3, H6'⟩ ?_
  rintro kL2 aq6 aq7 ⟨s5, s6, n4, d7, rfl, H, H7, H8⟩
  refine CW.seq (cr (WL.mv rfl ?_))
  refine WL.v (Runs.len_sl underlying25 rfl (by rw [H7])) ?_
  refine WL.v (Runs.lss rfl rfl rfl) (wn ?_)
  rcases H with ⟨H9, H⟩ | ⟨H9, H⟩
  ·have I0 := (decide_eq_true H9)
   refine CW.ct rfl I0 (CW.skip (QW.then_n (CW.block (CW.region (WL.mv rfl ?_)))))
   refine WL.buildSl [.int .u8 0] H8 underlying25 elem5 rfl rfl (by decide) (by decide) (by simp [Value.cells]) ?_
   intro U5 am0 s7
   replace s7 : St w am0 [.sl (sp U5) 1 1 (iv .u8 [0]) 5 1, .sl k1 k2 k3 (iv .u8 g1) 5 1, .obj b7 (.cells c5.toArray 5 (a5, a5 + 1)), .sl s5 s6 n4 (iv .u8 d7) 5 1, .cells a0 (iv .u8 lA) 23] := s7
   obtain ⟨I1, U6, H⟩ := H
   obtain ⟨am1, H⟩ := H
   obtain ⟨I2, I3⟩ : ∃ n_ : Nat, n_ = I1.length := ⟨_, rfl⟩
   refine WL.append (i := 3) Wanted.none s7 rfl underlying25 elem5 rfl rfl (s7.src_sl (k := 0) rfl) (by rw [iv_length]; exact (Eq.refl _).symm) (one_iv .u8 _) (by decide) (N := I2) (by rw [I3, U6, List.length_append]; exact congr (congrArg HAdd.hAdd (H7)) (rfl)) (by rw [I3]; exact am1) ?_
   intro U7 U8 am2 n5
   have n5' : St w am2 [.sl (sp U5) 1 1 (iv .u8 [0]) 5 1, .sl k1 k2 k3 (iv .u8 g1) 5 1, .obj b7 (.cells c5.toArray 5 (a5, a5 + 1)), .sl U7 U8 I2 (iv .u8 I1) 5 1, .cells a0 (iv .u8 lA) 23] := by rw [U6, ← iv_append .u8 d7 [0]]; exact n5
   refine WL.as rfl (WL.nil (QW.blk_n ?_))
   have n5'' := n5'.pick [1, 2, 3, 4] (by decide)
   exact QW.a ⟨U7, U8, I2, I1, rfl, H, I3, n5''⟩
  have I0 := (decide_eq_false H9)
  refine CW.cf rfl I0 (CW.exit (QW.then_x (QW.then_x (QW.blk_x (QW.then_n (cr (WL.mv rfl (WL.v (Runs.bytes_str underlying25 underlying5 underlying9 rfl (H8.src_sl (k := 2) rfl) H7) (WL.as rfl (WL.as rfl (wn (CW.ret ?_))))))))))))
  obtain ⟨rfl, rfl⟩ := H
  exact QW.ret2 rfl rfl rfl ⟨rfl, H8.pick [] (by decide)⟩
 obtain ⟨U9, am3, H⟩ := H
 refine wC ent66 rfl (reliquaryref04_Nonce.calls am3) ?_
 rintro _ V0 ⟨am4, rfl, am5⟩
 have I4 := n3.call am5
 refine ⟨_, rfl, WL.nil ?_⟩
 refine AW.back ?_
 refine AW.step 0 rfl (by kernel_rfl) ?_
 refine WL.v (Runs.load_arr arr23 rfl (I4.blk (i := 2) rfl) hl0) (WL.nil ?_)
 refine AW.back  ?_
 refine AW.step 6 rfl (by kernel_rfl) ?_
 obtain ⟨g2, am6, am7, H⟩ := H
 refine wC ent65 rfl (reliquaryref04_Crypt.calls hl0 am4 (I4.src_obj (i := 0) rfl T8) ((bl_length _)) (T7) am7) ?_
 rintro _ am8 ⟨k4, k5, k6, V1, rfl, am9⟩
 have V2 := I4.call am9
 refine ⟨_, rfl, WL.nil ?_⟩
 refine AW.back  ?_
 refine AW.tk 7 rfl (fun _ => (Runs.move rfl)) ?_
 refine AW.tk 8 rfl (fun _ => (Runs.extract rfl rfl)) ?_
 refine AW.tk 9 rfl (fun _ => (Runs.extract rfl rfl)) ?_
 refine AW.tk 10 rfl (fun _ => (Runs.assign rfl)) ?_
 refine AW.tk 11 rfl (fun _ => (Runs.assign rfl)) ?_
 refine AW.done (by kernel_rfl) ?_
 refine QW.then_n (CW.sub [(8, _), (9, _), (10, _), (11, _)] ⟨rfl, rfl, rfl, rfl, trivial⟩ (cr (WL.mv rfl (WL.mv rfl ?_))))
 obtain ⟨I5, V3, H⟩ := H
 obtain ⟨an0, H⟩ := H
 obtain ⟨s8, I6⟩ : ∃ n_ : Nat, n_ = I5.length := ⟨_, rfl⟩
 refine WL.append (i := 2) Wanted.none V2 rfl underlying25 elem5 rfl rfl (V2.src_sl (k := 0) rfl) (by rw [iv_length]; exact (V1).symm) (one_iv .u8 _) (by decide) (N := s8) (by rw [I6, V3, List.length_append]; exact congr (congrArg HAdd.hAdd (i5)) (V1)) (by rw [I6]; exact an0) ?_
 intro I7 I8 an1 I9
 have I9' := I9; (try dsimp only [List.set, ec, en] at I9'); rw [iv_append .u8 a7 g2, ← V3] at I9'
 refine WL.as rfl (wn (CW.seq (CW.block ?_)))
 obtain ⟨an2, H⟩ := H
 refine CW.sub [(8, _), (9, _), (10, _)] ⟨rfl, rfl, rfl, trivial⟩ ?_
 refine CW.lp (fun kL2 l_ w_ => ∃ s9 t0 n6 d8, l_ = [(8, .string (⟨#[]⟩ : ByteArray)), (9, .int .i64 0), (10, .slice s9 n6 t0)] ∧ reliquaryref08_Seal.L2 yB iC kL2 d8 ∧ (n6 = d8.length) ∧ St w w_ [.sl k4 k5 k6 (iv .u8 g2) 5 1, .obj b7 (.cells c5.toArray 5 (a5, a5 + 1)), .sl s9 t0 n6 (iv .u8 d8) 5 1, .cells a0 (iv .u8 lA) 23]) (k := an2) ⟨I7, I8, s8, I5, rfl, H, I6, I9'⟩ ?_
 rintro kL2 aq8 aq9 ⟨s9, t0, n6, d8, rfl, H, J0, J1⟩
 refine CW.seq (cr (WL.mv rfl ?_))
 refine WL.v (Runs.len_sl underlying25 rfl (by rw [J0])) ?_
 refine WL.v (Runs.lss rfl rfl rfl) (wn ?_)
 rcases H with ⟨J2, H⟩ | ⟨J2, H⟩
 ·have J3 := (decide_eq_true J2)
  refine CW.ct rfl J3 (CW.skip (QW.then_n (CW.block (CW.region (WL.mv rfl ?_)))))
  refine WL.buildSl [.int .u8 0] J1 underlying25 elem5 rfl rfl (by decide) (by decide) (by simp [Value.cells]) ?_
  intro V4 an3 t1
  replace t1 : St w an3 [.sl (sp V4) 1 1 (iv .u8 [0]) 5 1, .sl k4 k5 k6 (iv .u8 g2) 5 1, .obj b7 (.cells c5.toArray 5 (a5, a5 + 1)), .sl s9 t0 n6 (iv .u8 d8) 5 1, .cells a0 (iv .u8 lA) 23] := t1
  obtain ⟨J4, V5, H⟩ := H
  obtain ⟨an4, H⟩ := H
  obtain ⟨J5, J6⟩ : ∃ n_ : Nat, n_ = J4.length := ⟨_, rfl⟩
  refine WL.append (i := 3) Wanted.none t1 rfl underlying25 elem5 rfl rfl (t1.src_sl (k := 0) rfl) (by rw [iv_length]; exact (Eq.refl _).symm) (one_iv .u8 _) (by decide) (N := J5) (by rw [J6, V5, List.length_append]; exact congr (congrArg HAdd.hAdd (J0)) (rfl)) (by rw [J6]; exact an4) ?_
  intro V6 V7 an5 n7
  have n7' : St w an5 [.sl (sp V4) 1 1 (iv .u8 [0]) 5 1, .sl k4 k5 k6 (iv .u8 g2) 5 1, .obj b7 (.cells c5.toArray 5 (a5, a5 + 1)), .sl V6 V7 J5 (iv .u8 J4) 5 1, .cells a0 (iv .u8 lA) 23] := by rw [V5, ← iv_append .u8 d8 [0]]; exact n7
  refine WL.as rfl (WL.nil (QW.blk_n ?_))
  have n7'' := n7'.pick [1, 2, 3, 4] (by decide)
  exact QW.a ⟨V6, V7, J5, J4, rfl, H, J6, n7''⟩
 have J3 := (decide_eq_false J2)
 refine CW.cf rfl J3 (CW.exit (QW.then_x (QW.then_x (QW.blk_x (QW.then_n (cr (WL.mv rfl (WL.v (Runs.bytes_str underlying25 underlying5 underlying9 rfl (J1.src_sl (k := 2) rfl) J0) (WL.as rfl (WL.as rfl (wn (CW.ret ?_))))))))))))
 obtain ⟨rfl, rfl⟩ := H
 exact QW.ret2 rfl rfl rfl ⟨rfl, J1.pick [] (by decide)⟩
def reliquaryref06_fits.rel (a0 : Int) (a3 a4 : List R145) (a5 : Int) (a6 : Bool) (a7 : List R160) (a1 : Int) (a2 : ByteArray) (ar0 : Int) : Prop := ((a1 < 0 ∧ ar0 = 12) ∨ (¬ (a1 < 0) ∧ ((a1 ≥ a0 ∧ ar0 = 12) ∨ (¬ (a1 ≥ a0) ∧ (((a2.size : Int) ≠ 192 ∧ ar0 = 1) ∨ (¬ ((a2.size : Int) ≠ 192) ∧ ar0 = 0))))))
theorem reliquaryref06_fits.calls (T : Pool) (st0 : St w w1 ((T ++ R))) (a1 : HS w T T pA nA nB (f145 w) vA) (a2 : HS w T T pB nC nD (f145 w) vB) (b1 : HS w T T pC nE nF (f160 w) dA) (H : reliquaryref06_fits.rel iA vA vB iB bA dA iC yA iD) :
  Calls prog 67 #[.agg ((ci iA) ++ ((cl pA nA nB) ++ ((cl pB nC nD) ++ ((ci iB) ++ ((cb bA) ++ (cl pC nE nF)))))).toArray, .int .i64 iC, .string yA] w1 fun e w' => ∃ T' , Pl T T' ∧ e = .returned (.int .i64 iD) ∧ St w w' ((T' ++ R)) := by
 refine CW.en func67 rfl 18 [_, _, _] (CW.sub [(0, _), (1, _), (2, _)] ⟨rfl, rfl, rfl, trivial⟩ (cr (WL.box st0 rfl rfl ?_)))
 intro a9 b0 a3
 refine WL.as rfl (wn (CW.seq (cr (WL.mv rfl (WL.v (Runs.lss rfl rfl rfl) (WL.mv rfl ?_))))))
 rcases H with ⟨a4, H⟩ | ⟨a4, H⟩
 ·have a0 := (decide_eq_true a4)
  iterate 4 (refine WL.off ?_ ?_; exact Wg 9 a0)
  refine WL.v (Runs.pick_t (evb rfl a0) rfl) (wn (CW.sub [(2, _), (6, _), (14, _)] ⟨rfl, rfl, rfl, trivial⟩ (CW.ct rfl rfl (cr (WL.as rfl (wn (CW.ret (QW.then_r ?_))))))))
  obtain rfl := H
  exact QW.ret1 rfl rfl ⟨T, Pl.refl, rfl, (St.pk (L := [_]) a3 [])⟩
 have a0 := (decide_eq_false a4)
 refine WL.on ?_ ?_; exact Wg 9 a0
 refine WL.mv rfl ?_
 refine WL.on ?_ ?_; exact Wg 9 a0
 refine WL.v (Runs.fieldAddr (off := 0) (p := 0) fld57_0 rfl rfl rfl) ?_
 refine WL.on ?_ ?_; exact Wg 9 a0
 refine WL.ld 0 nagg3 a3 rfl rfl (pa (.int .i64 iA) [] ((cl pA nA nB) ++ ((cl pB nC nD) ++ ((ci iB) ++ ((cb bA) ++ (cl pC nE nF)))))) ?_
 refine WL.on ?_ ?_; exact Wg 9 a0
 refine WL.v (Runs.geq rfl rfl rfl) (WL.v (Runs.pick_f (evb rfl a0) rfl) (wn (CW.sub [(2, _), (6, _), (14, _)] ⟨rfl, rfl, rfl, trivial⟩ ?_)))
 rcases H with ⟨a5, H⟩ | ⟨a5, H⟩
 ·have a6 := (decide_eq_true a5)
  refine CW.ct rfl a6 (cr (WL.as rfl (wn (CW.ret (QW.then_r ?_)))))
  obtain rfl := H
  exact QW.ret1 rfl rfl ⟨T, Pl.refl, rfl, (St.pk (L := [_]) a3 [])⟩
 have a6 := (decide_eq_false a5)
 refine CW.cf rfl a6 (CW.skip (QW.then_n (CW.seq (cr (WL.mv rfl (WL.v (Runs.len_str underlying9 rfl) (WL.v (Runs.neq rfl rfl rfl) (wn ?_))))))))
 rcases H with ⟨a7, H⟩ | ⟨a7, H⟩
 ·have a8 : ((yA.size : Int) != 192) = true := (bne_iff_ne.mpr a7)
  refine CW.ct rfl a8 (cr (WL.as rfl (wn (CW.ret (QW.then_r ?_)))))
  obtain rfl := H
  exact QW.ret1 rfl rfl ⟨T, Pl.refl, rfl, (St.pk (L := [_]) a3 [])⟩
 have a8 : ((yA.size : Int) != 192) = false := (bne_eq_false_iff_eq.mpr (Decidable.not_not.mp a7))
 refine CW.cf rfl a8 (CW.skip (QW.then_n (cr (WL.as rfl (wn (CW.ret ?_))))))
 obtain rfl := H
 exact QW.ret1 rfl rfl ⟨T, Pl.refl, rfl, (St.pk (L := [_]) a3 [])⟩
def reliquaryref06_more.rel (l0 : List R145) (a2 : Int) (a3 : ByteArray) (lr0 : List R145) : Prop := (∃ a0 : List R145, a0 = ([] : List R145) ++ l0 ∧ (a0.length ≤ 1099511627776 ∧ (∃ a1 : List R145, a1 = a0 ++ ([(a2, a3)] : List R145) ∧ (a1.length ≤ 1099511627776 ∧ lr0 = a1))))
theorem reliquaryref06_more.calls (T : Pool) (st0 : St w w1 ((T ++ R))) (hb0 : HS w (T ++ R) T pA nA nB (f145 w) vA) (H : reliquaryref06_more.rel vA iA yA vB) :
  Calls prog 68 #[.slice pA nA nB, .agg ((ci iA) ++ (ct yA)).toArray] w1 fun e w' => ∃ T' Ar0 nr0 cr0 xr0, Pl T T' ∧ nr0 = vB.length ∧ HRs T' (f145 w) xr0 vB ∧ e = .returned (.slice Ar0 nr0 cr0) ∧ St w w' (.sl Ar0 cr0 nr0 xr0 145 2 :: (T' ++ R)) := by
 refine CW.en func68 rfl 13 [_, _] (CW.sub [(0, _), (1, _)] ⟨rfl, rfl, trivial⟩ (cr (WL.box st0 rfl rfl ?_)))
 intro a0 d0 d1
 refine WL.as rfl (WL.nx (WL.as rfl (WL.nx (WL.mv rfl (WL.mv rfl ?_)))))
 have a4 := d1.nil_sl 145 2
 have a4 : St w d0 (.sl none 0 0 ([] : Cs) 145 2 :: .cells a0 ((ci iA) ++ (ct yA)) 145 :: (T ++ R)) := a4
 obtain ⟨c2, d2, a8⟩ := hb0.2.2
 obtain ⟨a9, c3, H⟩ := H
 obtain ⟨d3, H⟩ := H
 obtain ⟨a1, b0⟩ : ∃ n_ : Nat, n_ = a9.length := ⟨_, rfl⟩
 refine WL.appendR (i := 0) (N := a1) (news := c2) Wanted.none a4 rfl underlying54 elemS145 rfl rfl ((d2.at a4 (mem_TR (A := [_, _]) ii))) (by have h1_ := (a8).length (fz145 w); have h2_ : nA = vA.length := hb0.1; rw [h1_, h2_]) (HLs.one a8) (by decide) (by have h1_ : 0 = ([] : List R145).length := rfl; have h2_ : nA = vA.length := hb0.1; rw [b0, c3, List.length_append]; omega) (by rw [b0]; exact d3) ?_
 intro b1 b2 d4 a5
 obtain ⟨a2, c4⟩ : ∃ x_ : Cs, x_ = ([] : Cs) ++ c2 := ⟨_, rfl⟩
 have d5 : HRs T (f145 w) a2 a9 := by rw [c4, c3]; exact HRs.append (HRs.nil : HRs T (f145 w) [] []) a8
 (try dsimp only [List.set, ec, en] at a5); rw [← c4] at a5
 refine WL.as rfl (WL.nx (WL.mv rfl (WL.v (Runs.load_mid row145 rfl a5 (i := 1) rfl (pm [] ((ci iA) ++ (ct yA)) []) rfl) ?_)))
 obtain ⟨e3, e4, d6, d7, d8, d9⟩ := slr145_1
 refine WL.buildSlSg (sz := 2) (cs := ((ci iA) ++ (ct yA))) a5 underlying54 d6 d7 d8 (by decide) (by decide) d9 rfl (.one rfl rfl) rfl rfl ?_
 intro b3 c5 b4
 try dsimp only [List.set, ec, en] at b4
 have a6 := St.rows_sl (i := 0) (m := 1) (size := 2) b4 rfl rfl (by decide)
 obtain ⟨a3, c6⟩ : ∃ x_ : Cs, x_ = (ci iA) ++ (ct yA) := ⟨_, rfl⟩
 have b5 : HRs T (f145 w) a3 ([(iA, yA)] : List R145) := by rw [c6]; exact (HRs.one (.cons rfl (.cons rfl .nil)))
 (try dsimp only [List.set, ec, en] at a6); rw [← c6] at a6
 obtain ⟨c7, c8, H⟩ := H
 obtain ⟨e0, H⟩ := H
 obtain ⟨a7, b6⟩ : ∃ n_ : Nat, n_ = c7.length := ⟨_, rfl⟩
 refine WL.appendR (i := 1) (N := a7) (news := a3) Wanted.none a6 rfl underlying54 elemS145 rfl rfl (a6.src_sl (k := 0) rfl) (by have h1_ := (b5).length (fz145 w); have h2_ : 1 = ([(iA, yA)] : List R145).length := rfl; rw [h1_, h2_]) (HLs.one b5) (by decide) (by have h1_ : a1 = a9.length := b0; have h2_ : 1 = ([(iA, yA)] : List R145).length := rfl; rw [b6, c8, List.length_append]; omega) (by rw [b6]; exact e0) ?_
 intro b7 b8 e1 b9
 obtain ⟨c1, c9⟩ : ∃ x_ : Cs, x_ = a2 ++ a3 := ⟨_, rfl⟩
 have e2 : HRs T (f145 w) c1 c7 := by rw [c9, c8]; exact HRs.append d5 b5
 (try dsimp only [List.set, ec, en] at b9); rw [← c9] at b9
 refine WL.as rfl (wn (CW.ret ?_))
 obtain rfl := H
 exact QW.ret1 rfl rfl ⟨T, b7, a7, b8, c1, Pl.refl, b6, e2, rfl, (St.pk (L := [_, _, _]) b9 [1])⟩
def reliquaryref06_noted.rel (a4 : Int) (a5 a6 : List R145) (a7 : Int) (a8 : Bool) (a9 : List R160) (a1 a2 b0 : Int) (b1 b2 : List R145) (b3 : Int) (b4 : Bool) (b5 : List R160) : Prop := (∃ a0 : List R160, a0 = ([] : List R160) ++ a9 ∧ (a0.length ≤ 1099511627776 ∧ (∃ a3 : List R160, a3 = a0 ++ ([(a1, a2)] : List R160) ∧ (a3.length ≤ 1099511627776 ∧ b0 = a4 ∧ b1 = a5 ∧ b2 = a6 ∧ b3 = a7 ∧ b4 = a8 ∧ b5 = a3))))
theorem reliquaryref06_noted.calls (T : Pool) (st0 : St w w1 ((T ++ R))) (g6 : HS w T T pA nA nB (f145 w) vA) (g7 : HS w T T pB nC nD (f145 w) vB) (a1 : HS w T T pC nE nF (f160 w) dA) (H : reliquaryref06_noted.rel iA vA vB iB bA dA iC iD iE vC vD iF bB dB) :
  Calls prog 69 #[.agg ((ci iA) ++ ((cl pA nA nB) ++ ((cl pB nC nD) ++ ((ci iB) ++ ((cb bA) ++ (cl pC nE nF)))))).toArray, .int .i64 iC, .int .i64 iD] w1 fun e w' => ∃ T' a2 f8 f9 g0 g1 g2 g3 g4 g5, Pl T T' ∧ HS w T' T' a2 f8 f9 (f145 w) vC ∧ HS w T' T' g0 g1 g2 (f145 w) vD ∧ HS w T' T' g3 g4 g5 (f160 w) dB ∧ e = .returned (.agg ((ci iE) ++ ((cl a2 f8 f9) ++ ((cl g0 g1 g2) ++ ((ci iF) ++ ((cb bB) ++ (cl g3 g4 g5)))))).toArray) ∧ St w w' ((T' ++ R)) := by
 refine CW.en func69 rfl 20 [_, _, _] (CW.sub [(0, _), (1, _), (2, _)] ⟨rfl, rfl, rfl, trivial⟩ (cr (WL.box st0 rfl rfl ?_)))
 intro a5 f5 d9
 refine WL.alloc d9 zero57 ?_
 intro a6 e0 d0
 refine WL.nx (WL.as rfl (WL.nx (WL.mv rfl (WL.v (Runs.fieldAddr (off := 5) (p := 5) fld57_5 rfl rfl rfl) (WL.ld 1 nagg55 d0 rfl rfl (pa (.slice pC nE nF) ((ci iA) ++ ((cl pA nA nB) ++ ((cl pB nC nD) ++ ((ci iB) ++ (cb bA))))) []) ?_)))))
 have b2 := d0.nil_sl 160 2
 have b2 : St w e0 (.sl none 0 0 ([] : Cs) 160 2 :: oM a6 0 none 0 0 none 0 0 0 false none 0 0 57 :: oM a5 iA pA nA nB pB nC nD iB bA pC nE nF 57 :: (T ++ R)) := b2
 obtain ⟨d1, e1, b9⟩ := a1.2.2
 obtain ⟨c0, d2, H⟩ := H
 obtain ⟨e2, H⟩ := H
 obtain ⟨b0, c1⟩ : ∃ n_ : Nat, n_ = c0.length := ⟨_, rfl⟩
 refine WL.appendR (i := 0) (N := b0) (news := d1) Wanted.none b2 rfl underlying55 elemS160 rfl rfl ((e1.at b2 (mem_T (A := [_, _, _]) ii))) (by have h1_ := (b9).length (fz160 w); have h2_ : nE = dA.length := a1.1; rw [h1_, h2_]) (HLs.one b9) (by decide) (by have h1_ : 0 = ([] : List R160).length := rfl; have h2_ : nE = dA.length := a1.1; rw [c1, d2, List.length_append]; omega) (by rw [c1]; exact e2) ?_
 intro c2 c3 e3 c4
 obtain ⟨b1, d3⟩ : ∃ x_ : Cs, x_ = ([] : Cs) ++ d1 := ⟨_, rfl⟩
 have e4 : HRs T (f160 w) b1 c0 := by rw [d3, d2]; exact HRs.append (HRs.nil : HRs T (f160 w) [] []) b9
 (try dsimp only [List.set, ec, en] at c4); rw [← d3] at c4
 refine WL.as rfl (WL.nx (WL.mv rfl (WL.mv rfl (WL.mv rfl (WL.v (Runs.build_seg (ps := [(0, 1), (1, 1)]) (cs := ((ci iC) ++ (ci iD))) plc160 zero160 rfl (.cons (ms := ((ci iC))) rfl rfl rfl (.one rfl rfl)) rfl rfl) ?_)))))
 obtain ⟨f6, f7, e5, e6, e7, e8⟩ := slr160_1
 refine WL.buildSlSg (sz := 2) (cs := ((ci iC) ++ (ci iD))) c4 underlying55 e5 e6 e7 (by decide) (by decide) e8 rfl (.one rfl rfl) rfl rfl ?_
 intro a8 d4 c5
 try dsimp only [List.set, ec, en] at c5
 have b3 := St.rows_sl (i := 0) (m := 1) (size := 2) c5 rfl rfl (by decide)
 obtain ⟨a7, d5⟩ : ∃ x_ : Cs, x_ = (ci iC) ++ (ci iD) := ⟨_, rfl⟩
 have c6 : HRs T (f160 w) a7 ([(iC, iD)] : List R160) := by rw [d5]; exact (HRs.one (.cons rfl (.cons rfl .nil)))
 (try dsimp only [List.set, ec, en] at b3); rw [← d5] at b3
 obtain ⟨c7, d6, H⟩ := H
 obtain ⟨e9, H⟩ := H
 obtain ⟨a0, c8⟩ : ∃ n_ : Nat, n_ = c7.length := ⟨_, rfl⟩
 refine WL.appendR (i := 1) (N := a0) (news := a7) Wanted.none b3 rfl underlying55 elemS160 rfl rfl (b3.src_sl (k := 0) rfl) (by have h1_ := (c6).length (fz160 w); have h2_ : 1 = ([(iC, iD)] : List R160).length := rfl; rw [h1_, h2_]) (HLs.one c6) (by decide) (by have h1_ : b0 = c0.length := c1; have h2_ : 1 = ([(iC, iD)] : List R160).length := rfl; rw [c8, d6, List.length_append]; omega) (by rw [c8]; exact e9) ?_
 intro a3 a4 f0 c9
 obtain ⟨b4, d7⟩ : ∃ x_ : Cs, x_ = b1 ++ a7 := ⟨_, rfl⟩
 have f1 : HRs T (f160 w) b4 c7 := by rw [d7, d6]; exact HRs.append e4 c6
 (try dsimp only [List.set, ec, en] at c9); rw [← d7] at c9
 refine WL.v (Runs.fieldAddr (off := 5) (p := 5) fld57_5 rfl rfl rfl) ?_
 refine WL.so (new := ((ci iA) ++ ((cl pA nA nB) ++ ((cl pB nC nD) ++ ((ci iB) ++ ((cb bA) ++ (cl a3 a0 a4))))))) (i := 3) (u0 := .slice pC nE nF) (pre := ((ci iA) ++ ((cl pA nA nB) ++ ((cl pB nC nD) ++ ((ci iB) ++ (cb bA)))))) (post := (([] : Cs))) c9 rfl cells55 (by first | rfl | simp only [aa, an, na, ca]) rfl rfl rfl rfl rfl ?_
 intro f2 b5
 try dsimp only [List.set] at b5
 refine wn (CW.sub [(3, _), (6, _)] ⟨rfl, rfl, trivial⟩ (cr (WL.v (Runs.load_mid row57 rfl b5 (i := 3) rfl (pm [] ((ci iA) ++ ((cl pA nA nB) ++ ((cl pB nC nD) ++ ((ci iB) ++ ((cb bA) ++ (cl a3 a0 a4)))))) []) rfl) (WL.sw 2 b5 row57 rfl rfl rfl ?_))))
 intro d8 b6
 try dsimp only [List.set] at b6
 refine wn (CW.ret ?_)
 have hb_60c := b6.cap (i := 1) rfl
 obtain ⟨b7, a9, f3, b8⟩ := St.freeze (A := [_]) (B := [_, _]) (T := T) (R := R) b6
 have f4 : HS w b7 b7 a3 a0 a4 (f160 w) c7 := HS.mk c8 hb_60c (Hd.of_sl f3) (f1.mono a9.1)
 try dsimp only [List.set, ec, en] at b8
 obtain ⟨rfl, rfl, rfl, rfl, rfl, rfl⟩ := H
 exact QW.retN1 rfl (Res.row rfl row57 b8 (i := 1) rfl rfl) ⟨b7, pA, nA, nB, pB, nC, nD, a3, a0, a4, a9, (g6.mono a9.1 a9.1), (g7.mono a9.1 a9.1), f4, rfl, (St.pk (L := [_, _, _]) b8 [])⟩
def reliquaryref06_Write.rel (b9 : Int) (c0 c1 : List R145) (b7 : Int) (b8 : Bool) (c2 : List R160) (a1 : Int) (a2 : ByteArray) (c3 : Int) (c4 c5 : List R145) (c6 : Int) (c7 : Bool) (c8 : List R160) (ar1 : Int) : Prop := ((b8 = true ∧ c3 = b9 ∧ c4 = c0 ∧ c5 = c1 ∧ c6 = b7 ∧ c7 = b8 ∧ c8 = c2 ∧ ar1 = 13) ∨ (¬ (b8 = true) ∧ (∃ a0, reliquaryref06_fits.rel b9 c0 c1 b7 b8 c2 a1 a2 a0 ∧ ((a0 ≠ 0 ∧ c3 = b9 ∧ c4 = c0 ∧ c5 = c1 ∧ c6 = b7 ∧ c7 = b8 ∧ c8 = c2 ∧ ar1 = a0) ∨ (¬ (a0 ≠ 0) ∧ ((b7 = 0 ∧ c3 = b9 ∧ c4 = c0 ∧ c5 = c1 ∧ c6 = b7 ∧ c7 = true ∧ c8 = c2 ∧ ar1 = 13) ∨ (¬ (b7 = 0) ∧ ((b7 > 0 ∧ (∃ a3, reliquaryref06_more.rel c1 a1 a2 a3 ∧ (∃ a4 a5 a6 a7 a8 a9, reliquaryref06_noted.rel b9 c0 a3 (i64.wrap (b7 - 1)) b8 c2 2 a1 a4 a5 a6 a7 a8 a9 ∧ c3 = a4 ∧ c4 = a5 ∧ c5 = a6 ∧ c6 = a7 ∧ c7 = a8 ∧ c8 = a9 ∧ ar1 = 0))) ∨ (¬ (b7 > 0) ∧ (∃ b0, reliquaryref06_more.rel c1 a1 a2 b0 ∧ (∃ b1 b2 b3 b4 b5 b6, reliquaryref06_noted.rel b9 c0 b0 b7 b8 c2 2 a1 b1 b2 b3 b4 b5 b6 ∧ c3 = b1 ∧ c4 = b2 ∧ c5 = b3 ∧ c6 = b4 ∧ c7 = b5 ∧ c8 = b6 ∧ ar1 = 0)))))))))))
theorem reliquaryref06_Write.calls (T : Pool) (st0 : St w w1 ((T ++ R))) (a1 : HS w T T pA nA nB (f145 w) vA) (a2 : HS w T T pB nC nD (f145 w) vB) (n0 : HS w T T pC nE nF (f160 w) dA) (H : reliquaryref06_Write.rel iA vA vB iB bA dA iC yA iD vC vD iE bB dB iF) :
  Calls prog 46 #[.agg ((ci iA) ++ ((cl pA nA nB) ++ ((cl pB nC nD) ++ ((ci iB) ++ ((cb bA) ++ (cl pC nE nF)))))).toArray, .int .i64 iC, .string yA] w1 fun e w' => ∃ T' n1 n2 n3 n4 n5 n6 n7 n8 n9, Pl T T' ∧ HS w T' T' n1 n2 n3 (f145 w) vC ∧ HS w T' T' n4 n5 n6 (f145 w) vD ∧ HS w T' T' n7 n8 n9 (f160 w) dB ∧ e = .returned (.tuple #[.agg ((ci iD) ++ ((cl n1 n2 n3) ++ ((cl n4 n5 n6) ++ ((ci iE) ++ ((cb bB) ++ (cl n7 n8 n9)))))).toArray, .int .i64 iF]) ∧ St w w' ((T' ++ R)) := by
 refine CW.en func46 rfl 42 [_, _, _] (CW.sub [(0, _), (1, _), (2, _)] ⟨rfl, rfl, rfl, trivial⟩ (cr (WL.box st0 rfl rfl ?_)))
 intro a0 m9 h7
 refine WL.alloc h7 zero57 ?_
 intro a3 h4 b7
 refine WL.as rfl (wn (CW.seq (cr (WL.v (Runs.fieldAddr (off := 4) (p := 4) fld57_4 rfl rfl rfl) (WL.ld 1 nagg4 b7 rfl rfl (pa (.bool bA) ((ci iA) ++ ((cl pA nA nB) ++ ((cl pB nC nD) ++ (ci iB)))) (cl pC nE nF)) (wn ?_))))))
 rcases H with ⟨g0, H⟩ | ⟨g0, H⟩
 ·have g1 : bA = true := g0
  refine CW.ct rfl g1 (cr (WL.v (Runs.load_mid row57 rfl b7 (i := 1) rfl (pm [] ((ci iA) ++ ((cl pA nA nB) ++ ((cl pB nC nD) ++ ((ci iB) ++ ((cb bA) ++ (cl pC nE nF)))))) []) rfl) (WL.sw 0 b7 row57 rfl rfl rfl ?_)))
  intro h8 c2
  try dsimp only [List.set] at c2
  refine WL.as rfl (wn (CW.ret (QW.then_r ?_)))
  obtain ⟨rfl, rfl, rfl, rfl, rfl, rfl, rfl⟩ := H
  exact QW.retN2 rfl (Res.row rfl row57 c2 (i := 0) rfl rfl) (Res.tmp rfl) ⟨T, pA, nA, nB, pB, nC, nD, pC, nE, nF, Pl.refl, a1, a2, n0, rfl, (St.pk (L := [_, _]) c2 [])⟩
 have g1 : bA = false := (Bool.eq_false_iff.mpr g0)
 refine CW.cf rfl g1 (CW.skip (QW.then_n (cr (WL.v (Runs.load_mid row57 rfl b7 (i := 1) rfl (pm [] ((ci iA) ++ ((cl pA nA nB) ++ ((cl pB nC nD) ++ ((ci iB) ++ ((cb bA) ++ (cl pC nE nF)))))) []) rfl) (WL.mv rfl (WL.mv rfl ?_))))))
 have h9 := St.hide (A := []) (B := [_, _]) b7
 obtain ⟨c3, i0, H⟩ := H
 refine wC ent67 rfl (reliquaryref06_fits.calls T h9 a1 a2 n0 i0) ?_
 rintro _ g2 ⟨a5, a4, rfl, i1⟩
 have b2 := St.unhide (A := []) (B := [_, _]) i1; dsimp only [ec, en] at b2
 refine ⟨_, rfl, WL.as rfl (wn ?_)⟩
 refine CW.su [(1, _), (2, _), (3, _), (6, _), (7, _), (8, _)] ?_
 refine CW.seq (cr (WL.mv rfl (WL.v (Runs.neq rfl rfl rfl) (wn ?_))))
 rcases H with ⟨g3, H⟩ | ⟨g3, H⟩
 ·have g4 := (bne_iff_ne.mpr g3)
  refine CW.ct rfl g4 (cr (WL.v (Runs.load_mid row57 rfl b2 (i := 1) rfl (pm [] ((ci iA) ++ ((cl pA nA nB) ++ ((cl pB nC nD) ++ ((ci iB) ++ ((cb bA) ++ (cl pC nE nF)))))) []) rfl) (WL.mv rfl (WL.sw 0 b2 row57 rfl rfl rfl ?_))))
  intro i2 c4
  try dsimp only [List.set] at c4
  refine WL.as rfl (wn (CW.ret (QW.then_r ?_)))
  obtain ⟨rfl, rfl, rfl, rfl, rfl, rfl, rfl⟩ := H
  exact QW.retN2 rfl (Res.row rfl row57 c4 (i := 0) rfl rfl) (Res.tmp rfl) ⟨a5, pA, nA, nB, pB, nC, nD, pC, nE, nF, a4, (a1.mono a4.1 a4.1), (a2.mono a4.1 a4.1), (n0.mono a4.1 a4.1), rfl, (St.pk (L := [_, _]) c4 [])⟩
 have g4 : (c3 != 0) = false := (bne_eq_false_iff_eq.mpr (Decidable.not_not.mp g3))
 refine CW.cf rfl g4 (CW.skip (QW.then_n (CW.seq (cr (WL.v (Runs.fieldAddr (off := 3) (p := 3) fld57_3 rfl rfl rfl) (WL.ld 1 nagg3 b2 rfl rfl (pa (.int .i64 iB) ((ci iA) ++ ((cl pA nA nB) ++ (cl pB nC nD))) ((cb bA) ++ (cl pC nE nF))) (WL.v (Runs.eql rfl rfl rfl) (wn ?_))))))))
 rcases H with ⟨g5, H⟩ | ⟨g5, H⟩
 ·have g6 := (beq_iff_eq.mpr g5)
  refine CW.ct rfl g6 (cr (WL.v (Runs.fieldAddr (off := 4) (p := 4) fld57_4 rfl rfl rfl) ?_))
  refine WL.so (new := ((ci iA) ++ ((cl pA nA nB) ++ ((cl pB nC nD) ++ ((ci iB) ++ ((cb true) ++ (cl pC nE nF))))))) (i := 1) (u0 := .bool bA) (pre := ((ci iA) ++ ((cl pA nA nB) ++ ((cl pB nC nD) ++ (ci iB))))) (post := ((cl pC nE nF))) b2 rfl cells4 (by first | rfl | simp only [aa, an, na, ca]) rfl rfl rfl rfl rfl ?_
  intro i3 c5
  try dsimp only [List.set] at c5
  refine wn ?_
  refine CW.su [(1, _), (2, _), (3, _), (6, _), (7, _)] ?_
  refine cr (WL.v (Runs.load_mid row57 rfl c5 (i := 1) rfl (pm [] ((ci iA) ++ ((cl pA nA nB) ++ ((cl pB nC nD) ++ ((ci iB) ++ ((cb true) ++ (cl pC nE nF)))))) []) rfl) (WL.sw 0 c5 row57 rfl rfl rfl ?_))
  intro i4 c6
  try dsimp only [List.set] at c6
  refine WL.as rfl (wn (CW.ret (QW.then_r ?_)))
  obtain ⟨rfl, rfl, rfl, rfl, rfl, rfl, rfl⟩ := H
  exact QW.retN2 rfl (Res.row rfl row57 c6 (i := 0) rfl rfl) (Res.tmp rfl) ⟨a5, pA, nA, nB, pB, nC, nD, pC, nE, nF, a4, (a1.mono a4.1 a4.1), (a2.mono a4.1 a4.1), (n0.mono a4.1 a4.1), rfl, (St.pk (L := [_, _]) c6 [])⟩
 have g6 := (beq_eq_false_iff_ne.mpr g5)
 refine CW.cf rfl g6 (CW.skip (QW.then_n ?_))
 refine CW.su [(1, _), (2, _), (3, _), (6, _), (7, _)] ?_
 refine CW.seq (cr (WL.v (Runs.fieldAddr (off := 3) (p := 3) fld57_3 rfl rfl rfl) (WL.ld 1 nagg3 b2 rfl rfl (pa (.int .i64 iB) ((ci iA) ++ ((cl pA nA nB) ++ (cl pB nC nD))) ((cb bA) ++ (cl pC nE nF))) (WL.v (Runs.gtr rfl rfl rfl) (wn ?_)))))
 rcases H with ⟨g7, H⟩ | ⟨g7, H⟩
 ·have g8 := (decide_eq_true g7)
  refine CW.ct rfl g8 (CW.region (WL.v (Runs.fieldAddr (off := 3) (p := 3) fld57_3 rfl rfl rfl) (WL.ld 1 nagg3 b2 rfl rfl (pa (.int .i64 iB) ((ci iA) ++ ((cl pA nA nB) ++ (cl pB nC nD))) ((cb bA) ++ (cl pC nE nF))) (WL.v (Runs.sub rfl rfl rfl) (WL.v (Runs.fieldAddr (off := 3) (p := 3) fld57_3 rfl rfl rfl) ?_)))))
  refine WL.so (new := ((ci iA) ++ ((cl pA nA nB) ++ ((cl pB nC nD) ++ ((ci (i64.wrap (iB - 1))) ++ ((cb bA) ++ (cl pC nE nF))))))) (i := 1) (u0 := .int .i64 iB) (pre := ((ci iA) ++ ((cl pA nA nB) ++ (cl pB nC nD)))) (post := ((cb bA) ++ (cl pC nE nF))) b2 rfl cells3 (by first | rfl | simp only [aa, an, na, ca]) rfl rfl rfl rfl rfl ?_
  intro g9 c7
  try dsimp only [List.set] at c7
  refine wn ?_
  refine CW.su [(1, _), (2, _), (3, _), (6, _), (7, _)] ?_
  refine cr (WL.v (Runs.fieldAddr (off := 2) (p := 2) fld57_2 rfl rfl rfl) (WL.ld 1 nagg54 c7 rfl rfl (pa (.slice pB nC nD) ((ci iA) ++ (cl pA nA nB)) ((ci (i64.wrap (iB - 1))) ++ ((cb bA) ++ (cl pC nE nF)))) (WL.mv rfl (WL.mv rfl (WL.v (Runs.build_seg (ps := [(0, 1), (1, 1)]) (cs := ((ci iC) ++ (ct yA))) plc145 zero145 rfl (.cons (ms := ((ci iC))) rfl rfl rfl (.one rfl rfl)) rfl rfl) ?_)))))
  have i5 := St.hide (A := []) (B := [_, _]) c7
  obtain ⟨h0, i6, H⟩ := H
  refine wC ent68 rfl (reliquaryref06_more.calls a5 i5 (a2.mono (memo_T (B := [_, _]) a4.1) a4.1) i6) ?_
  rintro _ i7 ⟨c8, a6, a7, a8, h5, b8, i8, i9, rfl, j0⟩
  have j1 := St.unhide (A := [_]) (B := [_, _]) j0; dsimp only [ec, en] at j1
  refine ⟨_, rfl, WL.v (Runs.fieldAddr (off := 2) (p := 2) fld57_2 rfl rfl rfl) ?_⟩
  refine WL.so (new := ((ci iA) ++ ((cl pA nA nB) ++ ((cl a6 a7 a8) ++ ((ci (i64.wrap (iB - 1))) ++ ((cb bA) ++ (cl pC nE nF))))))) (i := 2) (u0 := .slice pB nC nD) (pre := ((ci iA) ++ (cl pA nA nB))) (post := ((ci (i64.wrap (iB - 1))) ++ ((cb bA) ++ (cl pC nE nF)))) j1 rfl cells54 (by first | rfl | simp only [aa, an, na, ca]) rfl rfl rfl rfl rfl ?_
  intro c9 b9
  try dsimp only [List.set] at b9
  refine wn (CW.sub [(1, _), (3, _), (6, _), (7, _)] ⟨rfl, rfl, rfl, rfl, trivial⟩ (cr (WL.v (Runs.load_mid row57 rfl b9 (i := 2) rfl (pm [] ((ci iA) ++ ((cl pA nA nB) ++ ((cl a6 a7 a8) ++ ((ci (i64.wrap (iB - 1))) ++ ((cb bA) ++ (cl pC nE nF)))))) []) rfl) (WL.mv rfl ?_))))
  have hb_57c := b9.cap (i := 0) rfl
  obtain ⟨b3, b4, j2, h1⟩ := St.freeze (A := []) (B := [_, _]) (T := c8) (R := R) b9
  have j3 : HS w b3 b3 a6 a7 a8 (f145 w) h0 := HS.mk i8 hb_57c (Hd.of_sl j2) (i9.mono b4.1)
  try dsimp only [List.set, ec, en] at h1
  have j4 := St.hide (A := []) (B := [_, _]) h1
  obtain ⟨d0, j5, j6, d1, d2, j7, j8, H⟩ := H
  refine wC ent69 rfl (reliquaryref06_noted.calls b3 j4 (a1.mono ((a4.trans b8).trans b4).1 ((a4.trans b8).trans b4).1) j3 (n0.mono ((a4.trans b8).trans b4).1 ((a4.trans b8).trans b4).1) j8) ?_
  rintro _ j9 ⟨d3, d4, d5, d6, d7, d8, d9, e0, e1, e2, k0, k1, k2, k3, rfl, k4⟩
  have k5 := St.unhide (A := []) (B := [_, _]) k4; dsimp only [ec, en] at k5
  refine ⟨_, rfl, WL.sw 0 k5 row57 rfl rfl rfl ?_⟩
  intro k6 e3
  try dsimp only [List.set] at e3
  refine WL.as rfl (wn (CW.ret ?_))
  obtain ⟨rfl, rfl, rfl, rfl, rfl, rfl, rfl⟩ := H
  exact QW.retN2 rfl (Res.row rfl row57 e3 (i := 0) rfl rfl) (Res.tmp rfl) ⟨d3, d4, d5, d6, d7, d8, d9, e0, e1, e2, (((a4.trans b8).trans b4).trans k0), k1, k2, k3, rfl, (St.pk (L := [_, _]) e3 [])⟩
 have g8 := (decide_eq_false g7)
 refine CW.cf rfl g8 (CW.skip (QW.then_n (cr (WL.v (Runs.fieldAddr (off := 2) (p := 2) fld57_2 rfl rfl rfl) (WL.ld 1 nagg54 b2 rfl rfl (pa (.slice pB nC nD) ((ci iA) ++ (cl pA nA nB)) ((ci iB) ++ ((cb bA) ++ (cl pC nE nF)))) (WL.mv rfl (WL.mv rfl (WL.v (Runs.build_seg (ps := [(0, 1), (1, 1)]) (cs := ((ci iC) ++ (ct yA))) plc145 zero145 rfl (.cons (ms := ((ci iC))) rfl rfl rfl (.one rfl rfl)) rfl rfl) ?_))))))))
 have k7 := St.hide (A := []) (B := [_, _]) b2
 obtain ⟨h2, k8, H⟩ := H
 refine wC ent68 rfl (reliquaryref06_more.calls a5 k7 (a2.mono (memo_T (B := [_, _]) a4.1) a4.1) k8) ?_
 rintro _ k9 ⟨e4, a9, b0, b1, h6, c0, l0, l1, rfl, l2⟩
 have l3 := St.unhide (A := [_]) (B := [_, _]) l2; dsimp only [ec, en] at l3
 refine ⟨_, rfl, WL.v (Runs.fieldAddr (off := 2) (p := 2) fld57_2 rfl rfl rfl) ?_⟩
 refine WL.so (new := ((ci iA) ++ ((cl pA nA nB) ++ ((cl a9 b0 b1) ++ ((ci iB) ++ ((cb bA) ++ (cl pC nE nF))))))) (i := 2) (u0 := .slice pB nC nD) (pre := ((ci iA) ++ (cl pA nA nB))) (post := ((ci iB) ++ ((cb bA) ++ (cl pC nE nF)))) l3 rfl cells54 (by first | rfl | simp only [aa, an, na, ca]) rfl rfl rfl rfl rfl ?_
 intro e5 c1
 try dsimp only [List.set] at c1
 refine wn (CW.sub [(1, _), (3, _), (6, _), (7, _)] ⟨rfl, rfl, rfl, rfl, trivial⟩ (cr (WL.v (Runs.load_mid row57 rfl c1 (i := 2) rfl (pm [] ((ci iA) ++ ((cl pA nA nB) ++ ((cl a9 b0 b1) ++ ((ci iB) ++ ((cb bA) ++ (cl pC nE nF)))))) []) rfl) (WL.mv rfl ?_))))
 have hb_96c := c1.cap (i := 0) rfl
 obtain ⟨b5, b6, l4, h3⟩ := St.freeze (A := []) (B := [_, _]) (T := e4) (R := R) c1
 have l5 : HS w b5 b5 a9 b0 b1 (f145 w) h2 := HS.mk l0 hb_96c (Hd.of_sl l4) (l1.mono b6.1)
 try dsimp only [List.set, ec, en] at h3
 have l6 := St.hide (A := []) (B := [_, _]) h3
 obtain ⟨e6, l7, l8, e7, e8, l9, m0, H⟩ := H
 refine wC ent69 rfl (reliquaryref06_noted.calls b5 l6 (a1.mono ((a4.trans c0).trans b6).1 ((a4.trans c0).trans b6).1) l5 (n0.mono ((a4.trans c0).trans b6).1 ((a4.trans c0).trans b6).1) m0) ?_
 rintro _ m1 ⟨e9, f0, f1, f2, f3, f4, f5, f6, f7, f8, m2, m3, m4, m5, rfl, m6⟩
 have m7 := St.unhide (A := []) (B := [_, _]) m6; dsimp only [ec, en] at m7
 refine ⟨_, rfl, WL.sw 0 m7 row57 rfl rfl rfl ?_⟩
 intro m8 f9
 try dsimp only [List.set] at f9
 refine WL.as rfl (wn (CW.ret ?_))
 obtain ⟨rfl, rfl, rfl, rfl, rfl, rfl, rfl⟩ := H
 exact QW.retN2 rfl (Res.row rfl row57 f9 (i := 0) rfl rfl) (Res.tmp rfl) ⟨e9, f0, f1, f2, f3, f4, f5, f6, f7, f8, (((a4.trans c0).trans b6).trans m2), m3, m4, m5, rfl, (St.pk (L := [_, _]) f9 [])⟩
def reliquaryref02_right.rel (a0 a1 r0 : Int) : Prop := (0 ≤ a1 ∧ (0 ≤ (u64.wrap (32 - a1)) ∧ (∃ a2 : Int, a2 = bits .or .u32 (shrI .u32 a0 a1) (shlI .u32 a0 (u64.wrap (32 - a1))) ∧ r0 = a2)))
theorem reliquaryref02_right.calls (H : reliquaryref02_right.rel iA iB iC) :
  Calls prog 75 #[.int .u32 iA, .int .u64 iB] w fun e w' => e = .returned (.int .u32 iC) ∧ St w w' [] := by
 refine CW.en func75 rfl 13 [_, _] (CW.sub [(0, _), (1, _)] ⟨rfl, rfl, trivial⟩ ?_)
 have st0 := St.refl w
 refine cr (WL.as rfl (WL.nx (WL.mv rfl (WL.mv rfl ?_))))
 obtain ⟨a2, H⟩ := H
 refine WL.v (Runs.shr rfl rfl a2 rfl) (WL.mv rfl (WL.mv rfl (WL.v (Runs.sub rfl rfl rfl) ?_)))
 obtain ⟨a3, H⟩ := H
 refine WL.v (Runs.shl rfl rfl a3 rfl) ?_
 obtain ⟨a4, a5, H⟩ := H
 refine WL.v (Runs.bor rfl rfl a5) (WL.as rfl (wn (CW.ret ?_)))
 obtain rfl := H
 exact QW.ret1 rfl rfl ⟨rfl, st0.pick [] (by decide)⟩
def reliquaryref02_Rounds.rel (r0 : List Int) : Prop := (∃ a0 : List Int, a0 = [1116352408, 1899447441, 3049323471, 3921009573, 961987163, 1508970993, 2453635748, 2870763221, 3624381080, 310598401, 607225278, 1426881987, 1925078388, 2162078206, 2614888103, 3248222580, 3835390401, 4022224774, 264347078, 604807628, 770255983, 1249150122, 1555081692, 1996064986, 2554220882, 2821834349, 2952996808, 3210313671, 3336571891, 3584528711, 113926993, 338241895, 666307205, 773529912, 1294757372, 1396182291, 1695183700, 1986661051, 2177026350, 2456956037, 2730485921, 2820302411, 3259730800, 3345764771, 3516065817, 3600352804, 4094571909, 275423344, 430227734, 506948616, 659060556, 883997877, 958139571, 1322822218, 1537002063, 1747873779, 1955562222, 2024104815, 2227730452, 2361852424, 2428436474, 2756734187, 3204031479, 3329325298] ∧ r0 = a0)
theorem reliquaryref02_Rounds.calls (H : reliquaryref02_Rounds.rel  lA) :
  Calls prog 76 #[] w fun e w' => lA.length = 64 ∧ e = .returned (.agg (iv .u32 lA).toArray) ∧ St w w' [] := by
 refine CW.en func76 rfl 2 [] (CW.sub [] trivial ?_)
 have st0 := St.refl w
 refine cr (WL.alloc st0 arr154.zero ?_)
 intro a3 a6 a4
 refine WL.nx ?_
 obtain ⟨a2, a0, H⟩ := H
 refine WL.v (Runs.build_arr (xs := a2) arr154 rfl rfl (by rw [a0]; rfl)) ?_
 refine WL.store_arr (i := 0) a4 rfl arr154 rfl (by rw [iv_length]; exact (List.length_replicate ..)) (by rw [a0]; rfl) rfl ?_
 intro a5 a1
 try dsimp only [List.set] at a1
 refine wn (CW.ret ?_)
 obtain rfl := H
 exact QW.retc rfl arr154 rfl (a1.blk (i := 0) rfl) (by rw [a0]; rfl) ⟨(by rw [a0]; rfl), rfl, a1.pick [] (by decide)⟩
def reliquaryref02_block.L4 (a3 : List Int) (a1 a4 a5 a6 a7 a8 : Int) (K_L3 : (List Int) → Int → Prop) : Nat → (List Int) → Int → Prop
 | 0, _, _ => False
 | kL4 + 1, a2, a0 => ((a0 > 0 ∧ ((0 ≤ (i64.wrap (a0 - 1)) ∧ (i64.wrap (a0 - 1)) < (8 : Int)) ∧ ((0 ≤ a0 ∧ a0 < (8 : Int)) ∧ (∃ a9 : List Int, a9 = List.set a2 (a0.toNat) (gn a2 ((i64.wrap (a0 - 1)).toNat)) ∧ reliquaryref02_block.L4 a3 a1 a4 a5 a6 a7 a8 K_L3 kL4 a9 (i64.wrap (a0 - 1)))))) ∨ (¬ (a0 > 0) ∧ (∃ b0 : Int, b0 = u32.wrap ((gn a2 4) + (u32.wrap (a4 + (gn a3 (a1.toNat))))) ∧ (∃ b1 : List Int, b1 = List.set a2 4 b0 ∧ (∃ b2 : Int, b2 = u32.wrap ((u32.wrap (a4 + (gn a3 (a1.toNat)))) + (bits .xor .u32 (bits .xor .u32 a5 a6) a7)) ∧ (∃ b3 : List Int, b3 = List.set b1 0 (u32.wrap (b2 + a8)) ∧ K_L3 b3 (i64.wrap (a1 + 1))))))))
def reliquaryref02_block.L5 (l0 r0 : List Int) : Nat → (List Int) → Int → Prop
 | 0, _, _ => False
 | kL5 + 1, a1, a0 => ((a0 < 8 ∧ ((0 ≤ a0 ∧ a0 < (8 : Int)) ∧ ((0 ≤ a0 ∧ a0 < (8 : Int)) ∧ (∃ a2 : Int, a2 = u32.wrap ((gn a1 (a0.toNat)) + (gn l0 (a0.toNat))) ∧ ((0 ≤ a0 ∧ a0 < (8 : Int)) ∧ (∃ a3 : List Int, a3 = List.set a1 (a0.toNat) a2 ∧ reliquaryref02_block.L5 l0 r0 kL5 a3 (i64.wrap (a0 + 1)))))))) ∨ (¬ (a0 < 8) ∧ r0 = a1))
def reliquaryref02_block.L3 (l0 r0 a2 a3 : List Int) : Nat → (List Int) → Int → Prop
 | 0, _, _ => False
 | kL3 + 1, a0, a1 => ((a1 < 64 ∧ (∃ a4, reliquaryref02_right.rel (gn a0 4) 6 a4 ∧ (∃ a5, reliquaryref02_right.rel (gn a0 4) 11 a5 ∧ (∃ a6, reliquaryref02_right.rel (gn a0 4) 25 a6 ∧ (∃ a7 : Int, a7 = bits .xor .u32 (bits .and .u32 (gn a0 4) (gn a0 5)) (bits .and .u32 (notI .u32 (gn a0 4)) (gn a0 6)) ∧ (∃ a8 : Int, a8 = u32.wrap ((gn a0 7) + (bits .xor .u32 (bits .xor .u32 a4 a5) a6)) ∧ ((0 ≤ a1 ∧ a1 < (64 : Int)) ∧ (∃ a9 : Int, a9 = u32.wrap ((u32.wrap (a8 + a7)) + (gn a3 (a1.toNat))) ∧ ((0 ≤ a1 ∧ a1 < (64 : Int)) ∧ (∃ b0, reliquaryref02_right.rel (gn a0 0) 2 b0 ∧ (∃ b1, reliquaryref02_right.rel (gn a0 0) 13 b1 ∧ (∃ b2, reliquaryref02_right.rel (gn a0 0) 22 b2 ∧ (∃ b3 : Int, b3 = bits .xor .u32 (bits .and .u32 (gn a0 0) (gn a0 1)) (bits .and .u32 (gn a0 0) (gn a0 2)) ∧ (∃ b4 : Int, b4 = bits .xor .u32 b3 (bits .and .u32 (gn a0 1) (gn a0 2)) ∧ (∃ k_ : Nat, reliquaryref02_block.L4 a2 a1 a9 b0 b1 b2 b4 (reliquaryref02_block.L3 l0 r0 a2 a3 kL3) k_ a0 7))))))))))))))) ∨ (¬ (a1 < 64) ∧ (∃ k_ : Nat, reliquaryref02_block.L5 l0 r0 k_ a0 0)))
def reliquaryref02_block.L2 (l0 r0 : List Int) : Nat → (List Int) → Int → Prop
 | 0, _, _ => False
 | kL2 + 1, a1, a0 => ((a0 < 64 ∧ ((0 ≤ (i64.wrap (a0 - 15)) ∧ (i64.wrap (a0 - 15)) < (64 : Int)) ∧ (∃ a2, reliquaryref02_right.rel (gn a1 ((i64.wrap (a0 - 15)).toNat)) 7 a2 ∧ ((0 ≤ (i64.wrap (a0 - 15)) ∧ (i64.wrap (a0 - 15)) < (64 : Int)) ∧ (∃ a3, reliquaryref02_right.rel (gn a1 ((i64.wrap (a0 - 15)).toNat)) 18 a3 ∧ ((0 ≤ (i64.wrap (a0 - 15)) ∧ (i64.wrap (a0 - 15)) < (64 : Int)) ∧ (∃ a4 : Int, a4 = bits .xor .u32 (bits .xor .u32 a2 a3) (shrI .u32 (gn a1 ((i64.wrap (a0 - 15)).toNat)) 3) ∧ ((0 ≤ (i64.wrap (a0 - 2)) ∧ (i64.wrap (a0 - 2)) < (64 : Int)) ∧ (∃ a5, reliquaryref02_right.rel (gn a1 ((i64.wrap (a0 - 2)).toNat)) 17 a5 ∧ ((0 ≤ (i64.wrap (a0 - 2)) ∧ (i64.wrap (a0 - 2)) < (64 : Int)) ∧ (∃ a6, reliquaryref02_right.rel (gn a1 ((i64.wrap (a0 - 2)).toNat)) 19 a6 ∧ ((0 ≤ (i64.wrap (a0 - 2)) ∧ (i64.wrap (a0 - 2)) < (64 : Int)) ∧ (∃ a7 : Int, a7 = bits .xor .u32 (bits .xor .u32 a5 a6) (shrI .u32 (gn a1 ((i64.wrap (a0 - 2)).toNat)) 10) ∧ ((0 ≤ (i64.wrap (a0 - 16)) ∧ (i64.wrap (a0 - 16)) < (64 : Int)) ∧ (∃ a8 : Int, a8 = u32.wrap ((gn a1 ((i64.wrap (a0 - 16)).toNat)) + a4) ∧ ((0 ≤ (i64.wrap (a0 - 7)) ∧ (i64.wrap (a0 - 7)) < (64 : Int)) ∧ (∃ a9 : Int, a9 = u32.wrap (a8 + (gn a1 ((i64.wrap (a0 - 7)).toNat))) ∧ ((0 ≤ a0 ∧ a0 < (64 : Int)) ∧ (∃ b0 : List Int, b0 = List.set a1 (a0.toNat) (u32.wrap (a9 + a7)) ∧ reliquaryref02_block.L2 l0 r0 kL2 b0 (i64.wrap (a0 + 1))))))))))))))))))))) ∨ (¬ (a0 < 64) ∧ (∃ b1, reliquaryref02_Rounds.rel  b1 ∧ (∃ k_ : Nat, reliquaryref02_block.L3 l0 r0 a1 b1 k_ l0 0))))
def reliquaryref02_block.L1 (l0 l1 : List Int) (a2 : Int) (r0 : List Int) : Nat → (List Int) → Int → Prop
 | 0, _, _ => False
 | kL1 + 1, a5, a0 => ((a0 < 16 ∧ ((0 ≤ (i64.wrap (a2 + (i64.wrap (4 * a0)))) ∧ (i64.wrap (a2 + (i64.wrap (4 * a0)))) < (l1.length : Int)) ∧ (∃ a6 : Int, a6 = u32.wrap (gn l1 ((i64.wrap (a2 + (i64.wrap (4 * a0)))).toNat)) ∧ (∃ a1 : Int, a1 = i64.wrap ((i64.wrap (a2 + (i64.wrap (4 * a0)))) + 1) ∧ ((0 ≤ a1 ∧ a1 < (l1.length : Int)) ∧ (∃ a7 : Int, a7 = u32.wrap ((shlI .u32 a6 24) + (shlI .u32 (u32.wrap (gn l1 (a1.toNat))) 16)) ∧ (∃ a3 : Int, a3 = i64.wrap ((i64.wrap (a2 + (i64.wrap (4 * a0)))) + 2) ∧ ((0 ≤ a3 ∧ a3 < (l1.length : Int)) ∧ (∃ a8 : Int, a8 = u32.wrap (a7 + (shlI .u32 (u32.wrap (gn l1 (a3.toNat))) 8)) ∧ (∃ a4 : Int, a4 = i64.wrap ((i64.wrap (a2 + (i64.wrap (4 * a0)))) + 3) ∧ ((0 ≤ a4 ∧ a4 < (l1.length : Int)) ∧ (∃ a9 : Int, a9 = u32.wrap (a8 + (u32.wrap (gn l1 (a4.toNat)))) ∧ ((0 ≤ a0 ∧ a0 < (64 : Int)) ∧ (∃ b0 : List Int, b0 = List.set a5 (a0.toNat) a9 ∧ reliquaryref02_block.L1 l0 l1 a2 r0 kL1 b0 (i64.wrap (a0 + 1)))))))))))))))) ∨ (¬ (a0 < 16) ∧ (∃ k_ : Nat, reliquaryref02_block.L2 l0 r0 k_ a5 16)))
def reliquaryref02_block.rel (l0 l1 : List Int) (a2 : Int) (r0 : List Int) : Prop := (∃ k_ : Nat, reliquaryref02_block.L1 l0 l1 a2 r0 k_ (List.replicate 64 (0 : Int)) 0)
theorem reliquaryref02_block.calls (hl0 : lA.length = 8) (hs1 : Src w pA (iv .u8 lB)) (hn1 : nA = lB.length) (hc1 : nA ≤ nB) (H : reliquaryref02_block.rel lA lB iA lC) :
  Calls prog 57 #[.agg (iv .u32 lA).toArray, .slice pA nA nB, .int .i64 iA] w fun e w' => lC.length = 8 ∧ e = .returned (.agg (iv .u32 lC).toArray) ∧ St w w' [] := by
 refine CW.en func57 rfl 223 [_, _, _] (CW.sub [(0, _), (1, _), (2, _)] ⟨rfl, rfl, rfl, trivial⟩ ?_)
 have st0 := St.refl w
 refine cr (WL.box st0 rfl rfl ?_)
 intro a5 w0 i5
 refine WL.alloc i5 arr134.zero ?_
 intro a4 w1 i6
 refine WL.nx (WL.alloc i6 arr154.zero ?_)
 intro a6 w2 i7
 refine wn (CW.seq (cr (WL.as rfl (wn (CW.block ?_)))))
 obtain ⟨i8, H⟩ := H
 refine CW.su [(1, _), (2, _), (3, _), (6, _), (7, _), (8, _)] ?_
 refine CW.lp (fun kL1 l_ w_ => ∃ c8 b5, l_ = [(1, .slice pA nA nB), (2, .int .i64 iA), (3, .pointer (sp a5)), (6, .pointer (sp a4)), (7, .pointer (sp a6)), (8, .int .i64 b5)] ∧ reliquaryref02_block.L1 lA lB iA lC kL1 c8 b5 ∧ (c8.length = 64) ∧ St w w_ [.cells a6 (iv .u32 c8) 154, .cells a4 (iv .u32 (List.replicate 8 (0 : Int))) 134, .cells a5 (iv .u32 lA) 134]) (k := i8) ⟨List.replicate 64 (0 : Int), 0, rfl, H, (List.length_replicate ..), i7⟩ ?_
 rintro kL1 w3 w4 ⟨c8, b5, rfl, H, d8, c9⟩
 refine CW.seq (cr (WL.mv rfl (WL.v (Runs.lss rfl rfl rfl) (wn ?_))))
 rcases H with ⟨d9, H⟩ | ⟨d9, H⟩
 ·have e0 := (decide_eq_true d9)
  refine CW.ct rfl e0 (CW.skip (QW.then_n (CW.seq (CW.block ?_))))
  refine CW.region_qt 43 wide (by kernel_rfl) c9 ?_
  refine HL.mv rfl (HL.mv rfl (HL.mv rfl (HL.mv rfl (HL.p (Runs.mul rfl rfl rfl) (HL.p (Runs.add rfl rfl rfl) ?_)))))
  obtain ⟨⟨i9, j0⟩, H⟩ := H
  obtain ⟨w5, g4⟩ := (hs1.ext c9).addr_iv ((i64.wrap (iA + (i64.wrap (4 * b5)))).toNat) (by omega)
  refine HL.p (Runs.indexAddr underlying25 cells5 (by decide) rfl g4 rfl i9 (by rw [hn1]; exact j0) (o := (i64.wrap (iA + (i64.wrap (4 * b5)))).toNat) (by first | rfl | omega)) ?_
  refine HL.v (fun wq sq => (Runs.load nagg5 rfl ((hs1.ext sq).cell_iv g4 (by omega)))) ?_
  obtain ⟨w6, j1, H⟩ := H
  refine HL.p (Runs.conv underlying24 ⟨_, underlying5⟩ rfl j1) ?_
  refine HL.p (Runs.shl rfl rfl (by decide) rfl) ?_
  refine HL.mv rfl (HL.mv rfl (HL.mv rfl (HL.p (Runs.mul rfl rfl rfl) (HL.p (Runs.add rfl rfl rfl) ?_))))
  obtain ⟨g5, j2, H⟩ := H
  refine HL.p (Runs.add rfl rfl j2) ?_
  obtain ⟨⟨j3, j4⟩, H⟩ := H
  obtain ⟨w7, g6⟩ := (hs1.ext c9).addr_iv (g5.toNat) (by omega)
  refine HL.p (Runs.indexAddr underlying25 cells5 (by decide) rfl g6 rfl j3 (by rw [hn1]; exact j4) (o := (g5).toNat) (by first | rfl | omega)) ?_
  refine HL.v (fun wq sq => (Runs.load nagg5 rfl ((hs1.ext sq).cell_iv g6 (by omega)))) ?_
  refine HL.p (Runs.conv underlying24 ⟨_, underlying5⟩ rfl rfl) ?_
  refine HL.p (Runs.shl rfl rfl (by decide) rfl) ?_
  obtain ⟨w8, j5, H⟩ := H
  refine HL.p (Runs.add rfl rfl j5) (HL.mv rfl (HL.mv rfl (HL.mv rfl (HL.p (Runs.mul rfl rfl rfl) (HL.p (Runs.add rfl rfl rfl) ?_)))))
  obtain ⟨g7, j6, H⟩ := H
  refine HL.p (Runs.add rfl rfl j6) ?_
  obtain ⟨⟨j7, j8⟩, H⟩ := H
  obtain ⟨w9, g8⟩ := (hs1.ext c9).addr_iv (g7.toNat) (by omega)
  refine HL.p (Runs.indexAddr underlying25 cells5 (by decide) rfl g8 rfl j7 (by rw [hn1]; exact j8) (o := (g7).toNat) (by first | rfl | omega)) ?_
  refine HL.v (fun wq sq => (Runs.load nagg5 rfl ((hs1.ext sq).cell_iv g8 (by omega)))) ?_
  refine HL.p (Runs.conv underlying24 ⟨_, underlying5⟩ rfl rfl) ?_
  refine HL.p (Runs.shl rfl rfl (by decide) rfl) ?_
  obtain ⟨x0, j9, H⟩ := H
  refine HL.p (Runs.add rfl rfl j9) (HL.mv rfl (HL.mv rfl (HL.mv rfl (HL.p (Runs.mul rfl rfl rfl) (HL.p (Runs.add rfl rfl rfl) ?_)))))
  obtain ⟨g9, k0, H⟩ := H
  refine HL.p (Runs.add rfl rfl k0) ?_
  obtain ⟨⟨k1, k2⟩, H⟩ := H
  obtain ⟨x1, h0⟩ := (hs1.ext c9).addr_iv (g9.toNat) (by omega)
  refine HL.p (Runs.indexAddr underlying25 cells5 (by decide) rfl h0 rfl k1 (by rw [hn1]; exact k2) (o := (g9).toNat) (by first | rfl | omega)) ?_
  refine HL.v (fun wq sq => (Runs.load nagg5 rfl ((hs1.ext sq).cell_iv h0 (by omega)))) ?_
  refine HL.p (Runs.conv underlying24 ⟨_, underlying5⟩ rfl rfl) ?_
  obtain ⟨k3, k4, H⟩ := H
  refine HL.p (Runs.add rfl rfl k4) ?_
  obtain ⟨⟨k5, k6⟩, H⟩ := H
  refine HL.p (Runs.indexAddr_blk arr154 rfl rfl k5 k6 (o := (b5).toNat) (by first | rfl | omega)) ?_
  refine HL.nil ?_
  generalize e_ : List.drop 43 _ = z_
  intro x2 k7
  subst e_
  obtain ⟨e1, h1, H⟩ := H
  have k8 : e1.length = 64 := by rw [h1, List.length_set]; exact d8
  refine WL.store_cells (i := 0) k7 rfl cells24 rfl (by rw [iv_length]; have := d8; omega) rfl rfl ?_
  intro k9 e2
  have e2' := e2; (try dsimp only [List.set, ec, en] at e2'); rw [iv_set .u32 c8 (b5.toNat) k3, ← h1] at e2'
  refine WL.nil (QW.blk_n (QW.then_n (CW.region (WL.mv rfl (WL.v (Runs.add rfl rfl rfl) (WL.as rfl (WL.nil ?_)))))))
  exact QW.a ⟨e1, i64.wrap (b5 + 1), rfl, H, k8, e2'⟩
 have e0 := (decide_eq_false d9)
 refine CW.cf rfl e0 (CW.exit (QW.then_x (QW.then_x (QW.blk_x (QW.then_n (CW.seq (cr (WL.as rfl (wn (CW.block ?_))))))))))
 obtain ⟨l2, H⟩ := H
 refine CW.sub [(3, _), (6, _), (7, _), (9, _)] ⟨rfl, rfl, rfl, rfl, trivial⟩ ?_
 refine CW.lp (fun kL2 l_ w_ => ∃ a3 b0, l_ = [(3, .pointer (sp a5)), (6, .pointer (sp a4)), (7, .pointer (sp a6)), (9, .int .i64 b0)] ∧ reliquaryref02_block.L2 lA lC kL2 a3 b0 ∧ (a3.length = 64) ∧ St w w_ [.cells a6 (iv .u32 a3) 154, .cells a4 (iv .u32 (List.replicate 8 (0 : Int))) 134, .cells a5 (iv .u32 lA) 134]) (k := l2) ⟨c8, 16, rfl, H, d8, c9⟩ ?_
 rintro kL2 x3 l3 ⟨a3, b0, rfl, H, b1, h2⟩
 refine CW.seq (cr (WL.mv rfl (WL.v (Runs.lss rfl rfl rfl) (wn ?_))))
 rcases H with ⟨e3, H⟩ | ⟨e3, H⟩
 ·have e4 := (decide_eq_true e3)
  refine CW.ct rfl e4 (CW.skip (QW.then_n (CW.seq (CW.block (CW.seq ?_)))))
  refine CW.region_qa wide (by kernel_rfl) h2 ?_
  refine HL.mv rfl (HL.p (Runs.sub rfl rfl rfl) ?_)
  obtain ⟨⟨l4, l5⟩, H⟩ := H
  refine HL.p (Runs.indexAddr_blk arr154 rfl rfl l4 l5 (o := (i64.wrap (b0 - 15)).toNat) (by first | rfl | omega)) ?_
  refine HL.v (fun wq sq => (Runs.load nagg24 rfl (sq.cell_iv (i := 0) rfl (by have := b1; omega)))) ?_
  obtain ⟨l6, l7, H⟩ := H
  refine HL.call Wanted.none ent75 rfl (fun wq sq => (reliquaryref02_right.calls l7).mono (by rintro _ _ ⟨rfl, sc⟩; exact ⟨rfl, sq.call sc⟩)) ?_
  refine HL.mv rfl (HL.p (Runs.sub rfl rfl rfl) ?_)
  obtain ⟨⟨l8, l9⟩, H⟩ := H
  refine HL.p (Runs.indexAddr_blk arr154 rfl rfl l8 l9 (o := (i64.wrap (b0 - 15)).toNat) (by first | rfl | omega)) ?_
  refine HL.v (fun wq sq => (Runs.load nagg24 rfl (sq.cell_iv (i := 0) rfl (by have := b1; omega)))) ?_
  obtain ⟨m0, m1, H⟩ := H
  refine HL.call Wanted.none ent75 rfl (fun wq sq => (reliquaryref02_right.calls m1).mono (by rintro _ _ ⟨rfl, sc⟩; exact ⟨rfl, sq.call sc⟩)) ?_
  refine HL.p (Runs.bxor rfl rfl rfl) (HL.mv rfl (HL.p (Runs.sub rfl rfl rfl) ?_))
  obtain ⟨⟨m2, m3⟩, H⟩ := H
  refine HL.p (Runs.indexAddr_blk arr154 rfl rfl m2 m3 (o := (i64.wrap (b0 - 15)).toNat) (by first | rfl | omega)) ?_
  refine HL.v (fun wq sq => (Runs.load nagg24 rfl (sq.cell_iv (i := 0) rfl (by have := b1; omega)))) ?_
  refine HL.p (Runs.shr rfl rfl (by decide) rfl) ?_
  obtain ⟨x4, m4, H⟩ := H
  refine HL.p (Runs.bxor rfl rfl m4) (HL.as rfl ?_)
  refine HL.nil (fun x5 m5 => ?_)
  refine wn (CW.seq ?_)
  refine CW.region_qa wide (by kernel_rfl) m5 ?_
  refine HL.mv rfl (HL.p (Runs.sub rfl rfl rfl) ?_)
  obtain ⟨⟨m6, m7⟩, H⟩ := H
  refine HL.p (Runs.indexAddr_blk arr154 rfl rfl m6 m7 (o := (i64.wrap (b0 - 2)).toNat) (by first | rfl | omega)) ?_
  refine HL.v (fun wq sq => (Runs.load nagg24 rfl (sq.cell_iv (i := 0) rfl (by have := b1; omega)))) ?_
  obtain ⟨m8, m9, H⟩ := H
  refine HL.call Wanted.none ent75 rfl (fun wq sq => (reliquaryref02_right.calls m9).mono (by rintro _ _ ⟨rfl, sc⟩; exact ⟨rfl, sq.call sc⟩)) ?_
  refine HL.mv rfl (HL.p (Runs.sub rfl rfl rfl) ?_)
  obtain ⟨⟨n0, n2⟩, H⟩ := H
  refine HL.p (Runs.indexAddr_blk arr154 rfl rfl n0 n2 (o := (i64.wrap (b0 - 2)).toNat) (by first | rfl | omega)) ?_
  refine HL.v (fun wq sq => (Runs.load nagg24 rfl (sq.cell_iv (i := 0) rfl (by have := b1; omega)))) ?_
  obtain ⟨n3, n4, H⟩ := H
  refine HL.call Wanted.none ent75 rfl (fun wq sq => (reliquaryref02_right.calls n4).mono (by rintro _ _ ⟨rfl, sc⟩; exact ⟨rfl, sq.call sc⟩)) ?_
  refine HL.p (Runs.bxor rfl rfl rfl) (HL.mv rfl (HL.p (Runs.sub rfl rfl rfl) ?_))
  obtain ⟨⟨n5, n6⟩, H⟩ := H
  refine HL.p (Runs.indexAddr_blk arr154 rfl rfl n5 n6 (o := (i64.wrap (b0 - 2)).toNat) (by first | rfl | omega)) ?_
  refine HL.v (fun wq sq => (Runs.load nagg24 rfl (sq.cell_iv (i := 0) rfl (by have := b1; omega)))) ?_
  refine HL.p (Runs.shr rfl rfl (by decide) rfl) ?_
  obtain ⟨n7, n8, H⟩ := H
  refine HL.p (Runs.bxor rfl rfl n8) (HL.as rfl ?_)
  refine HL.nil (fun x6 n9 => ?_)
  refine wn ?_
  refine CW.region_qt 15 wide (by kernel_rfl) n9 ?_
  refine HL.mv rfl (HL.mv rfl (HL.p (Runs.sub rfl rfl rfl) ?_))
  obtain ⟨⟨o0, o1⟩, H⟩ := H
  refine HL.p (Runs.indexAddr_blk arr154 rfl rfl o0 o1 (o := (i64.wrap (b0 - 16)).toNat) (by first | rfl | omega)) ?_
  refine HL.v (fun wq sq => (Runs.load nagg24 rfl (sq.cell_iv (i := 0) rfl (by have := b1; omega)))) ?_
  refine HL.mv rfl ?_
  obtain ⟨x7, o2, H⟩ := H
  refine HL.p (Runs.add rfl rfl o2) (HL.mv rfl (HL.p (Runs.sub rfl rfl rfl) ?_))
  obtain ⟨⟨o3, o4⟩, H⟩ := H
  refine HL.p (Runs.indexAddr_blk arr154 rfl rfl o3 o4 (o := (i64.wrap (b0 - 7)).toNat) (by first | rfl | omega)) ?_
  refine HL.v (fun wq sq => (Runs.load nagg24 rfl (sq.cell_iv (i := 0) rfl (by have := b1; omega)))) ?_
  obtain ⟨o5, o6, H⟩ := H
  refine HL.p (Runs.add rfl rfl o6) (HL.mv rfl (HL.p (Runs.add rfl rfl rfl) ?_))
  obtain ⟨⟨o7, o8⟩, H⟩ := H
  refine HL.p (Runs.indexAddr_blk arr154 rfl rfl o7 o8 (o := (b0).toNat) (by first | rfl | omega)) ?_
  refine HL.nil (fun x8 o9 => ?_)
  obtain ⟨e5, h3, H⟩ := H
  have p0 : e5.length = 64 := by rw [h3, List.length_set]; exact b1
  refine WL.store_cells (i := 0) o9 rfl cells24 rfl (by rw [iv_length]; have := b1; omega) rfl rfl ?_
  intro p1 e6
  have e6' := e6; (try dsimp only [List.set, ec, en] at e6'); rw [iv_set .u32 a3 (b0.toNat) (u32.wrap (o5 + n7)), ← h3] at e6'
  refine WL.nil (QW.blk_n (QW.then_n (CW.region (WL.mv rfl (WL.v (Runs.add rfl rfl rfl) (WL.as rfl (WL.nil ?_)))))))
  exact QW.a ⟨e5, i64.wrap (b0 + 1), rfl, H, p0, e6'⟩
 have e4 := (decide_eq_false e3)
 refine CW.cf rfl e4 (CW.exit (QW.then_x (QW.then_x (QW.blk_x (QW.then_n (cr ?_))))))
 obtain ⟨a9, p2, H⟩ := H
 refine wC ent76 rfl (reliquaryref02_Rounds.calls p2) ?_
 rintro _ p3 ⟨h4, rfl, p4⟩
 have p5 := h2.call p4
 refine ⟨_, rfl, WL.alloc p5 arr154.zero ?_⟩
 intro a8 x9 p6
 refine WL.store_arr (i := 0) p6 rfl arr154 rfl (by rw [iv_length]; exact (List.length_replicate ..)) h4 rfl ?_
 intro p7 d3
 try dsimp only [List.set] at d3
 refine WL.nx (WL.v (Runs.load_arr arr134 rfl (d3.blk (i := 3) rfl) hl0) (WL.alloc d3 arr134.zero ?_))
 intro a1 y0 p8
 refine WL.store_arr (i := 0) p8 rfl arr134 rfl (by rw [iv_length]; exact (List.length_replicate ..)) hl0 rfl ?_
 intro p9 e7
 try dsimp only [List.set] at e7
 refine wn (CW.seq (cr (WL.as rfl (wn (CW.block ?_)))))
 obtain ⟨q0, H⟩ := H
 refine CW.su [(3, _), (6, _), (7, _), (12, _), (13, _), (14, _)] ?_
 refine CW.lp (fun kL3 l_ w_ => ∃ a0 a7, l_ = [(3, .pointer (sp a5)), (6, .pointer (sp a4)), (7, .pointer (sp a6)), (12, .pointer (sp a8)), (13, .pointer (sp a1)), (14, .int .i64 a7)] ∧ reliquaryref02_block.L3 lA lC a3 a9 kL3 a0 a7 ∧ (a0.length = 8) ∧ St w w_ [.cells a1 (iv .u32 a0) 134, .cells a8 (iv .u32 a9) 154, .cells a6 (iv .u32 a3) 154, .cells a4 (iv .u32 (List.replicate 8 (0 : Int))) 134, .cells a5 (iv .u32 lA) 134]) (k := q0) ⟨lA, 0, rfl, H, hl0, e7⟩ ?_
 rintro kL3 y1 q1 ⟨a0, a7, rfl, H, b2, d4⟩
 refine CW.seq (cr (WL.mv rfl (WL.v (Runs.lss rfl rfl rfl) (wn ?_))))
 rcases H with ⟨e8, H⟩ | ⟨e8, H⟩
 ·have e9 := (decide_eq_true e8)
  refine CW.ct rfl e9 (CW.skip (QW.then_n (CW.seq (CW.block (cr ?_)))))
  refine WL.v (Runs.indexAddr_blk arr134 rfl rfl (by decide) (by decide) (o := 4) (by first | rfl | omega)) ?_
  refine WL.v (Runs.load nagg24 rfl (d4.cell_iv (i := 0) rfl (by have := b2; omega))) ?_
  refine WL.as rfl (WL.nx ?_)
  refine WL.v (Runs.indexAddr_blk arr134 rfl rfl (by decide) (by decide) (o := 0) (by first | rfl | omega)) ?_
  refine WL.v (Runs.load nagg24 rfl (d4.cell_iv (i := 0) rfl (by have := b2; omega))) ?_
  refine WL.as rfl (WL.nx (WL.mv rfl ?_))
  obtain ⟨b3, q2, H⟩ := H
  refine wC ent75 rfl (reliquaryref02_right.calls q2) ?_
  rintro _ h5 ⟨rfl, q3⟩
  have q4 := d4.call q3
  refine ⟨_, rfl, WL.mv rfl ?_⟩
  obtain ⟨b4, q5, H⟩ := H
  refine wC ent75 rfl (reliquaryref02_right.calls q5) ?_
  rintro _ h6 ⟨rfl, q6⟩
  have q7 := q4.call q6
  refine ⟨_, rfl, WL.v (Runs.bxor rfl rfl rfl) (WL.mv rfl ?_)⟩
  obtain ⟨c0, q8, H⟩ := H
  refine wC ent75 rfl (reliquaryref02_right.calls q8) ?_
  rintro _ q9 ⟨rfl, r1⟩
  have f0 := q7.call r1
  refine ⟨_, rfl, WL.v (Runs.bxor rfl rfl rfl) (WL.as rfl (WL.nx (WL.mv rfl ?_)))⟩
  refine WL.v (Runs.indexAddr_blk arr134 rfl rfl (by decide) (by decide) (o := 5) (by first | rfl | omega)) ?_
  refine WL.v (Runs.load nagg24 rfl (f0.cell_iv (i := 0) rfl (by have := b2; omega))) ?_
  refine WL.v (Runs.band rfl rfl rfl) (WL.mv rfl (WL.v (Runs.compl rfl rfl) ?_))
  refine WL.v (Runs.indexAddr_blk arr134 rfl rfl (by decide) (by decide) (o := 6) (by first | rfl | omega)) ?_
  refine WL.v (Runs.load nagg24 rfl (f0.cell_iv (i := 0) rfl (by have := b2; omega))) ?_
  refine WL.v (Runs.band rfl rfl rfl) ?_
  obtain ⟨c2, r2, H⟩ := H
  refine WL.v (Runs.bxor rfl rfl r2) (WL.as rfl (wn (CW.seq ?_)))
  refine CW.region_qa wide (by kernel_rfl) f0 ?_
  refine HL.p (Runs.indexAddr_blk arr134 rfl rfl (by decide) (by decide) (o := 7) (by first | rfl | omega)) ?_
  refine HL.v (fun wq sq => (Runs.load nagg24 rfl (sq.cell_iv (i := 0) rfl (by have := b2; omega)))) ?_
  refine HL.mv rfl ?_
  obtain ⟨d5, r3, H⟩ := H
  refine HL.p (Runs.add rfl rfl r3) (HL.mv rfl (HL.p (Runs.add rfl rfl rfl) (HL.mv rfl ?_)))
  obtain ⟨⟨r4, r5⟩, H⟩ := H
  refine HL.p (Runs.indexAddr_blk arr154 rfl rfl r4 r5 (o := (a7).toNat) (by first | rfl | omega)) ?_
  refine HL.v (fun wq sq => (Runs.load nagg24 rfl (sq.cell_iv (i := 1) rfl (by have := h4; omega)))) ?_
  obtain ⟨c4, r6, H⟩ := H
  refine HL.p (Runs.add rfl rfl r6) (HL.mv rfl ?_)
  obtain ⟨⟨r7, r8⟩, H⟩ := H
  refine HL.p (Runs.indexAddr_blk arr154 rfl rfl r7 r8 (o := (a7).toNat) (by first | rfl | omega)) ?_
  refine HL.v (fun wq sq => (Runs.load nagg24 rfl (sq.cell_iv (i := 2) rfl (by have := b1; omega)))) ?_
  refine HL.p (Runs.add rfl rfl rfl) (HL.as rfl ?_)
  refine HL.nil (fun r9 s0 => ?_)
  refine WL.nx (WL.mv rfl ?_)
  obtain ⟨b6, s1, H⟩ := H
  refine wC ent75 rfl (reliquaryref02_right.calls s1) ?_
  rintro _ h7 ⟨rfl, s2⟩
  have s3 := s0.call s2
  refine ⟨_, rfl, WL.mv rfl ?_⟩
  obtain ⟨b7, s4, H⟩ := H
  refine wC ent75 rfl (reliquaryref02_right.calls s4) ?_
  rintro _ h8 ⟨rfl, s5⟩
  have s6 := s3.call s5
  refine ⟨_, rfl, WL.v (Runs.bxor rfl rfl rfl) (WL.mv rfl ?_)⟩
  obtain ⟨c3, s7, H⟩ := H
  refine wC ent75 rfl (reliquaryref02_right.calls s7) ?_
  rintro _ s8 ⟨rfl, s9⟩
  have d2 := s6.call s9
  refine ⟨_, rfl, WL.v (Runs.bxor rfl rfl rfl) (WL.as rfl (WL.nx (WL.mv rfl ?_)))⟩
  refine WL.v (Runs.indexAddr_blk arr134 rfl rfl (by decide) (by decide) (o := 1) (by first | rfl | omega)) ?_
  refine WL.v (Runs.load nagg24 rfl (d2.cell_iv (i := 0) rfl (by have := b2; omega))) ?_
  refine WL.v (Runs.band rfl rfl rfl) (WL.mv rfl ?_)
  refine WL.v (Runs.indexAddr_blk arr134 rfl rfl (by decide) (by decide) (o := 2) (by first | rfl | omega)) ?_
  refine WL.v (Runs.load nagg24 rfl (d2.cell_iv (i := 0) rfl (by have := b2; omega))) ?_
  refine WL.v (Runs.band rfl rfl rfl) ?_
  obtain ⟨h9, t0, H⟩ := H
  refine WL.v (Runs.bxor rfl rfl t0) ?_
  refine WL.v (Runs.indexAddr_blk arr134 rfl rfl (by decide) (by decide) (o := 1) (by first | rfl | omega)) ?_
  refine WL.v (Runs.load nagg24 rfl (d2.cell_iv (i := 0) rfl (by have := b2; omega))) ?_
  refine WL.v (Runs.indexAddr_blk arr134 rfl rfl (by decide) (by decide) (o := 2) (by first | rfl | omega)) ?_
  refine WL.v (Runs.load nagg24 rfl (d2.cell_iv (i := 0) rfl (by have := b2; omega))) ?_
  refine WL.v (Runs.band rfl rfl rfl) ?_
  obtain ⟨d0, t1, H⟩ := H
  refine WL.v (Runs.bxor rfl rfl t1) (WL.as rfl (wn (CW.seq (cr (WL.as rfl (wn (CW.block ?_)))))))
  obtain ⟨t2, H⟩ := H
  refine CW.su [(3, _), (6, _), (7, _), (12, _), (13, _), (14, _), (126, _), (127, _), (130, _), (131, _), (15, _), (132, _), (133, _), (16, _), (134, _), (135, _), (136, _), (137, _), (138, _), (139, _), (140, _), (141, _), (17, _), (142, _), (143, _), (144, _), (145, _), (146, _), (147, _), (148, _), (149, _), (150, _), (151, _), (18, _), (152, _), (153, _), (154, _), (155, _), (156, _), (157, _), (158, _), (159, _), (160, _), (161, _), (162, _), (163, _), (164, _), (165, _), (19, _), (166, _), (167, _), (168, _), (169, _), (170, _), (171, _), (172, _), (173, _), (20, _), (174, _), (175, _), (176, _), (177, _), (178, _), (179, _), (180, _), (181, _), (182, _), (183, _), (184, _), (185, _), (186, _), (187, _), (188, _), (21, _), (22, _)] ?_
  refine CW.lp (fun kL4 l_ w_ => ∃ c5 b8, l_ = [(3, .pointer (sp a5)), (6, .pointer (sp a4)), (7, .pointer (sp a6)), (12, .pointer (sp a8)), (13, .pointer (sp a1)), (14, .int .i64 a7), (126, .int .i64 a7), (127, .bool (decide (a7 < 64))), (130, .pointer (some ⟨a1, 4, none⟩)), (131, .int .u32 (gn a0 4)), (15, .int .u32 (gn a0 4)), (132, .pointer (sp a1)), (133, .int .u32 (gn a0 0)), (16, .int .u32 (gn a0 0)), (134, .int .u32 (gn a0 4)), (135, .int .u32 b3), (136, .int .u32 (gn a0 4)), (137, .int .u32 b4), (138, .int .u32 (bits .xor .u32 b3 b4)), (139, .int .u32 (gn a0 4)), (140, .int .u32 c0), (141, .int .u32 (bits .xor .u32 (bits .xor .u32 b3 b4) c0)), (17, .int .u32 (bits .xor .u32 (bits .xor .u32 b3 b4) c0)), (142, .int .u32 (gn a0 4)), (143, .pointer (some ⟨a1, 5, none⟩)), (144, .int .u32 (gn a0 5)), (145, .int .u32 (bits .and .u32 (gn a0 4) (gn a0 5))), (146, .int .u32 (gn a0 4)), (147, .int .u32 (notI .u32 (gn a0 4))), (148, .pointer (some ⟨a1, 6, none⟩)), (149, .int .u32 (gn a0 6)), (150, .int .u32 (bits .and .u32 (notI .u32 (gn a0 4)) (gn a0 6))), (151, .int .u32 c2), (18, .int .u32 c2), (152, .pointer (some ⟨a1, 7, none⟩)), (153, .int .u32 (gn a0 7)), (154, .int .u32 (bits .xor .u32 (bits .xor .u32 b3 b4) c0)), (155, .int .u32 d5), (156, .int .u32 c2), (157, .int .u32 (u32.wrap (d5 + c2))), (158, .int .i64 a7), (159, .pointer (some ⟨a8, (a7).toNat, none⟩)), (160, .int .u32 (gn a9 (a7.toNat))), (161, .int .u32 c4), (162, .int .i64 a7), (163, .pointer (some ⟨a6, (a7).toNat, none⟩)), (164, .int .u32 (gn a3 (a7.toNat))), (165, .int .u32 (u32.wrap (c4 + (gn a3 (a7.toNat))))), (19, .int .u32 (u32.wrap (c4 + (gn a3 (a7.toNat))))), (166, .int .u32 (gn a0 0)), (167, .int .u32 b6), (168, .int .u32 (gn a0 0)), (169, .int .u32 b7), (170, .int .u32 (bits .xor .u32 b6 b7)), (171, .int .u32 (gn a0 0)), (172, .int .u32 c3), (173, .int .u32 (bits .xor .u32 (bits .xor .u32 b6 b7) c3)), (20, .int .u32 (bits .xor .u32 (bits .xor .u32 b6 b7) c3)), (174, .int .u32 (gn a0 0)), (175, .pointer (some ⟨a1, 1, none⟩)), (176, .int .u32 (gn a0 1)), (177, .int .u32 (bits .and .u32 (gn a0 0) (gn a0 1))), (178, .int .u32 (gn a0 0)), (179, .pointer (some ⟨a1, 2, none⟩)), (180, .int .u32 (gn a0 2)), (181, .int .u32 (bits .and .u32 (gn a0 0) (gn a0 2))), (182, .int .u32 h9), (183, .pointer (some ⟨a1, 1, none⟩)), (184, .int .u32 (gn a0 1)), (185, .pointer (some ⟨a1, 2, none⟩)), (186, .int .u32 (gn a0 2)), (187, .int .u32 (bits .and .u32 (gn a0 1) (gn a0 2))), (188, .int .u32 d0), (21, .int .u32 d0), (22, .int .i64 b8)] ∧ reliquaryref02_block.L4 a3 a7 c4 b6 b7 c3 d0 (reliquaryref02_block.L3 lA lC a3 a9 kL3) kL4 c5 b8 ∧ (c5.length = 8) ∧ St w w_ [.cells a1 (iv .u32 c5) 134, .cells a8 (iv .u32 a9) 154, .cells a6 (iv .u32 a3) 154, .cells a4 (iv .u32 (List.replicate 8 (0 : Int))) 134, .cells a5 (iv .u32 lA) 134]) (k := t2) ⟨a0, 7, rfl, H, b2, d2⟩ ?_
  rintro kL4 y2 y3 ⟨c5, b8, rfl, H, d1, d6⟩
  refine CW.seq (cr (WL.mv rfl (WL.v (Runs.gtr rfl rfl rfl) (wn ?_))))
  rcases H with ⟨f1, H⟩ | ⟨f1, H⟩
  ·have f2 := (decide_eq_true f1)
   refine CW.ct rfl f2 (CW.skip (QW.then_n (CW.seq (CW.block (CW.region (WL.mv rfl (WL.mv rfl (WL.v (Runs.sub rfl rfl rfl) ?_))))))))
   obtain ⟨⟨t3, t4⟩, H⟩ := H
   refine WL.v (Runs.indexAddr_blk arr134 rfl rfl t3 t4 (o := (i64.wrap (b8 - 1)).toNat) (by first | rfl | omega)) ?_
   refine WL.v (Runs.load nagg24 rfl (d6.cell_iv (i := 0) rfl (by have := d1; omega))) ?_
   obtain ⟨⟨t5, t6⟩, H⟩ := H
   refine WL.v (Runs.indexAddr_blk arr134 rfl rfl t5 t6 (o := (b8).toNat) (by first | rfl | omega)) ?_
   obtain ⟨f3, i0, H⟩ := H
   have t7 : f3.length = 8 := by rw [i0, List.length_set]; exact d1
   refine WL.store_cells (i := 0) d6 rfl cells24 rfl (by rw [iv_length]; have := d1; omega) rfl rfl ?_
   intro t8 f4
   have f4' := f4; (try dsimp only [List.set, ec, en] at f4'); rw [iv_set .u32 c5 (b8.toNat) (gn c5 ((i64.wrap (b8 - 1)).toNat)), ← i0] at f4'
   refine WL.nil (QW.blk_n (QW.then_n (CW.region (WL.mv rfl (WL.v (Runs.sub rfl rfl rfl) (WL.as rfl (WL.nil ?_)))))))
   exact QW.a ⟨f3, i64.wrap (b8 - 1), rfl, H, t7, f4'⟩
  have f2 := (decide_eq_false f1)
  refine CW.cf rfl f2 (CW.exit (QW.then_x (QW.then_x (QW.blk_x (QW.then_n (cr ?_))))))
  refine WL.v (Runs.indexAddr_blk arr134 rfl rfl (by decide) (by decide) (o := 4) (by first | rfl | omega)) ?_
  refine WL.v (Runs.load nagg24 rfl (d6.cell_iv (i := 0) rfl (by have := d1; omega))) ?_
  refine WL.mv rfl ?_
  obtain ⟨t9, u0, H⟩ := H
  refine WL.v (Runs.add rfl rfl u0) ?_
  refine WL.v (Runs.indexAddr_blk arr134 rfl rfl (by decide) (by decide) (o := 4) (by first | rfl | omega)) ?_
  obtain ⟨f5, i1, H⟩ := H
  have i2 : f5.length = 8 := by rw [i1, List.length_set]; exact d1
  refine WL.store_cells (i := 0) d6 rfl cells24 rfl (by rw [iv_length]; have := d1; omega) rfl rfl ?_
  intro u1 f6
  have f6' := f6; (try dsimp only [List.set, ec, en] at f6'); rw [iv_set .u32 c5 4 t9, ← i1] at f6'
  refine wn (CW.region (WL.mv rfl (WL.mv rfl ?_)))
  obtain ⟨u2, u3, H⟩ := H
  refine WL.v (Runs.add rfl rfl u3) (WL.mv rfl (WL.v (Runs.add rfl rfl rfl) ?_))
  refine WL.v (Runs.indexAddr_blk arr134 rfl rfl (by decide) (by decide) (o := 0) (by first | rfl | omega)) ?_
  obtain ⟨f7, i3, H⟩ := H
  have u4 : f7.length = 8 := by rw [i3, List.length_set]; exact i2
  refine WL.store_cells (i := 0) f6' rfl cells24 rfl (by rw [iv_length]; have := i2; omega) rfl rfl ?_
  intro u5 f8
  have f8' := f8; (try dsimp only [List.set, ec, en] at f8'); rw [iv_set .u32 f5 0 (u32.wrap (u2 + d0)), ← i3] at f8'
  refine WL.nil (QW.blk_n (QW.then_n (CW.region (WL.mv rfl (WL.v (Runs.add rfl rfl rfl) (WL.as rfl (WL.nil ?_)))))))
  exact QW.a ⟨f7, i64.wrap (a7 + 1), rfl, H, u4, f8'⟩
 have e9 := (decide_eq_false e8)
 refine CW.cf rfl e9 (CW.exit (QW.then_x (QW.then_x (QW.blk_x (QW.then_n (CW.seq (cr (WL.as rfl (wn (CW.block ?_))))))))))
 obtain ⟨u6, H⟩ := H
 refine CW.sub [(3, _), (6, _), (13, _), (23, _)] ⟨rfl, rfl, rfl, rfl, trivial⟩ ?_
 refine CW.lp (fun kL5 l_ w_ => ∃ c6 b9, l_ = [(3, .pointer (sp a5)), (6, .pointer (sp a4)), (13, .pointer (sp a1)), (23, .int .i64 b9)] ∧ reliquaryref02_block.L5 lA lC kL5 c6 b9 ∧ (c6.length = 8) ∧ St w w_ [.cells a1 (iv .u32 c6) 134, .cells a8 (iv .u32 a9) 154, .cells a6 (iv .u32 a3) 154, .cells a4 (iv .u32 (List.replicate 8 (0 : Int))) 134, .cells a5 (iv .u32 lA) 134]) (k := u6) ⟨a0, 0, rfl, H, b2, d4⟩ ?_
 rintro kL5 y4 y5 ⟨c6, b9, rfl, H, c7, f9⟩
 refine CW.seq (cr (WL.mv rfl (WL.v (Runs.lss rfl rfl rfl) (wn ?_))))
 rcases H with ⟨g0, H⟩ | ⟨g0, H⟩
 ·have g1 := (decide_eq_true g0)
  refine CW.ct rfl g1 (CW.skip (QW.then_n (CW.seq (CW.block ?_))))
  refine CW.region_qt 8 wide (by kernel_rfl) f9 ?_
  refine HL.mv rfl ?_
  obtain ⟨⟨u7, u9⟩, H⟩ := H
  refine HL.p (Runs.indexAddr_blk arr134 rfl rfl u7 u9 (o := (b9).toNat) (by first | rfl | omega)) ?_
  refine HL.v (fun wq sq => (Runs.load nagg24 rfl (sq.cell_iv (i := 0) rfl (by have := c7; omega)))) ?_
  refine HL.mv rfl ?_
  obtain ⟨⟨v0, v1⟩, H⟩ := H
  refine HL.p (Runs.indexAddr_blk arr134 rfl rfl v0 v1 (o := (b9).toNat) (by first | rfl | omega)) ?_
  refine HL.v (fun wq sq => (Runs.load nagg24 rfl (sq.cell_iv (i := 4) rfl (by have := hl0; omega)))) ?_
  obtain ⟨v2, v3, H⟩ := H
  refine HL.p (Runs.add rfl rfl v3) ?_
  obtain ⟨⟨v4, v5⟩, H⟩ := H
  refine HL.p (Runs.indexAddr_blk arr134 rfl rfl v4 v5 (o := (b9).toNat) (by first | rfl | omega)) ?_
  refine HL.nil (fun y6 v6 => ?_)
  obtain ⟨g2, i4, H⟩ := H
  have v7 : g2.length = 8 := by rw [i4, List.length_set]; exact c7
  refine WL.store_cells (i := 0) v6 rfl cells24 rfl (by rw [iv_length]; have := c7; omega) rfl rfl ?_
  intro v8 g3
  have g3' := g3; (try dsimp only [List.set, ec, en] at g3'); rw [iv_set .u32 c6 (b9.toNat) v2, ← i4] at g3'
  refine WL.nil (QW.blk_n (QW.then_n (CW.region (WL.mv rfl (WL.v (Runs.add rfl rfl rfl) (WL.as rfl (WL.nil ?_)))))))
  exact QW.a ⟨g2, i64.wrap (b9 + 1), rfl, H, v7, g3'⟩
 have g1 := (decide_eq_false g0)
 refine CW.cf rfl g1 (CW.exit (QW.then_x (QW.then_x (QW.blk_x (QW.then_n (cr (WL.v (Runs.load_arr arr134 rfl (f9.blk (i := 0) rfl) c7) ?_)))))))
 refine WL.store_arr (i := 3) f9 rfl arr134 rfl (by rw [iv_length]; exact (List.length_replicate ..)) c7 rfl ?_
 intro v9 d7
 try dsimp only [List.set] at d7
 refine wn (CW.ret ?_)
 obtain rfl := H
 exact QW.retc rfl arr134 rfl (d7.blk (i := 3) rfl) c7 ⟨c7, rfl, d7.pick [] (by decide)⟩
def reliquaryref02_Of.L4 (r0 a2 : List Int) : Nat → (List Int) → Int → Prop
 | 0, _, _ => False
 | kL4 + 1, a3, a0 => ((a0 < 32 ∧ ((0 ≤ (i64.wrap (Int.tdiv a0 4)) ∧ (i64.wrap (Int.tdiv a0 4)) < (8 : Int)) ∧ (∃ a1 : Int, a1 = i64.wrap (24 - (i64.wrap (8 * (Int.tmod a0 4)))) ∧ (0 ≤ (u64.wrap a1) ∧ (∃ a4 : Int, a4 = shrI .u32 (gn a2 ((i64.wrap (Int.tdiv a0 4)).toNat)) (u64.wrap a1) ∧ ((0 ≤ a0 ∧ a0 < (32 : Int)) ∧ (∃ a5 : List Int, a5 = List.set a3 (a0.toNat) (IntKind.u8.wrap a4) ∧ reliquaryref02_Of.L4 r0 a2 kL4 a5 (i64.wrap (a0 + 1))))))))) ∨ (¬ (a0 < 32) ∧ r0 = a3))
def reliquaryref02_Of.L3 (r0 a0 : List Int) : Nat → (List Int) → Int → Prop
 | 0, _, _ => False
 | kL3 + 1, a2, a1 => ((a1 < (a0.length : Int) ∧ (∃ a3, reliquaryref02_block.rel a2 a0 a1 a3 ∧ reliquaryref02_Of.L3 r0 a0 kL3 a3 (i64.wrap (a1 + 64)))) ∨ (¬ (a1 < (a0.length : Int)) ∧ (∃ k_ : Nat, reliquaryref02_Of.L4 r0 a2 k_ (z32) 0)))
def reliquaryref02_Of.L2 (l0 r0 : List Int) : Nat → (List Int) → Int → Prop
 | 0, _, _ => False
 | kL2 + 1, a3, a0 => ((a0 < 8 ∧ (∃ a1 : Int, a1 = u64.wrap (i64.wrap (56 - (i64.wrap (8 * a0)))) ∧ (0 ≤ a1 ∧ (∃ a4 : Int, a4 = shrI .u64 (u64.wrap ((u64.wrap (l0.length : Int)) * 8)) a1 ∧ (∃ a2 : List Int, a2 = a3 ++ [IntKind.u8.wrap a4] ∧ (a2.length ≤ 1099511627776 ∧ reliquaryref02_Of.L2 l0 r0 kL2 a2 (i64.wrap (a0 + 1)))))))) ∨ (¬ (a0 < 8) ∧ (∃ a5 : List Int, a5 = [1779033703, 3144134277, 1013904242, 2773480762, 1359893119, 2600822924, 528734635, 1541459225] ∧ (∃ k_ : Nat, reliquaryref02_Of.L3 r0 a3 k_ a5 0))))
def reliquaryref02_Of.L1 (l0 r0 : List Int) : Nat → (List Int) → Prop
 | 0, _ => False
 | kL1 + 1, a0 => (((Int.tmod (a0.length : Int) 64) ≠ 56 ∧ (∃ a1 : List Int, a1 = a0 ++ [0] ∧ (a1.length ≤ 1099511627776 ∧ reliquaryref02_Of.L1 l0 r0 kL1 a1))) ∨ (¬ ((Int.tmod (a0.length : Int) 64) ≠ 56) ∧ (∃ k_ : Nat, reliquaryref02_Of.L2 l0 r0 k_ a0 0)))
def reliquaryref02_Of.rel (l0 r0 : List Int) : Prop := (∃ a0 : List Int, a0 = ([] : List Int) ++ l0 ∧ (a0.length ≤ 1099511627776 ∧ (∃ a1 : List Int, a1 = a0 ++ [128] ∧ (a1.length ≤ 1099511627776 ∧ (∃ k_ : Nat, reliquaryref02_Of.L1 l0 r0 k_ a1)))))
theorem reliquaryref02_Of.calls (hs0 : Src w pA (iv .u8 lA)) (hn0 : nA = lA.length) (hc0 : nA ≤ nB) (H : reliquaryref02_Of.rel lA lB) :
  Calls prog 34 #[.slice pA nA nB] w fun e w' => lB.length = 32 ∧ e = .returned (.agg (iv .u8 lB).toArray) ∧ St w w' [] := by
 refine CW.en func34 rfl 70 [_] (CW.sub [(0, _)] ⟨rfl, trivial⟩ ?_)
 have st0 := St.refl w
 refine cr (WL.alloc st0 arr23.zero ?_)
 intro a0 h9 i0
 refine WL.nx (WL.as rfl (WL.nx (WL.mv rfl (WL.mv rfl ?_))))
 have c3 := i0.nil_sl 5 1
 have c3 : St w h9 [.sl none 0 0 (iv .u8 ([] : List Int)) 5 1, .cells a0 (iv .u8 (z32)) 23] := c3
 obtain ⟨c4, g3, H⟩ := H
 obtain ⟨i1, H⟩ := H
 obtain ⟨d4, d5⟩ : ∃ n_ : Nat, n_ = c4.length := ⟨_, rfl⟩
 refine WL.append (i := 0) Wanted.none c3 rfl underlying25 elem5 rfl rfl (hs0.ext c3) (by rw [iv_length]; exact (hn0).symm) (one_iv .u8 _) (by decide) (N := d4) (by rw [d5, g3, List.length_append]; exact congr (congrArg HAdd.hAdd (rfl)) (hn0)) (by rw [d5]; exact i1) ?_
 intro g4 g5 i2 d6
 have d6' : St w i2 [.sl g4 g5 d4 (iv .u8 c4) 5 1, .cells a0 (iv .u8 (z32)) 23] := by rw [g3, ← iv_append .u8 ([] : List Int) lA]; exact d6
 refine WL.as rfl (WL.nx (WL.mv rfl ?_))
 refine WL.buildSl [.int .u8 128] d6' underlying25 elem5 rfl rfl (by decide) (by decide) (by simp [Value.cells]) ?_
 intro a2 i3 c5
 replace c5 : St w i3 [.sl (sp a2) 1 1 (iv .u8 [128]) 5 1, .sl g4 g5 d4 (iv .u8 c4) 5 1, .cells a0 (iv .u8 (z32)) 23] := c5
 obtain ⟨d7, g6, H⟩ := H
 obtain ⟨i4, H⟩ := H
 obtain ⟨b7, d8⟩ : ∃ n_ : Nat, n_ = d7.length := ⟨_, rfl⟩
 refine WL.append (i := 1) Wanted.none c5 rfl underlying25 elem5 rfl rfl (c5.src_sl (k := 0) rfl) (by rw [iv_length]; exact (Eq.refl _).symm) (one_iv .u8 _) (by decide) (N := b7) (by rw [d8, g6, List.length_append]; exact congr (congrArg HAdd.hAdd (d5)) (rfl)) (by rw [d8]; exact i4) ?_
 intro c6 c7 i5 d9
 have d9' : St w i5 [.sl (sp a2) 1 1 (iv .u8 [128]) 5 1, .sl c6 c7 b7 (iv .u8 d7) 5 1, .cells a0 (iv .u8 (z32)) 23] := by rw [g6, ← iv_append .u8 c4 [128]]; exact d9
 refine WL.as rfl (wn (CW.sub [(0, _), (2, _), (3, _)] ⟨rfl, rfl, rfl, trivial⟩ (CW.seq (CW.block ?_))))
 obtain ⟨i6, H⟩ := H
 refine CW.sub [(0, _), (2, _), (3, _)] ⟨rfl, rfl, rfl, trivial⟩ ?_
 refine CW.lp (fun kL1 l_ w_ => ∃ b1 b2 b0 a8, l_ = [(0, .slice pA nA nB), (2, .pointer (sp a0)), (3, .slice b1 b0 b2)] ∧ reliquaryref02_Of.L1 lA lB kL1 a8 ∧ (b0 = a8.length) ∧ St w w_ [.sl (sp a2) 1 1 (iv .u8 [128]) 5 1, .sl b1 b2 b0 (iv .u8 a8) 5 1, .cells a0 (iv .u8 (z32)) 23]) (k := i6) ⟨c6, c7, b7, d7, rfl, H, d8, d9'⟩ ?_
 rintro kL1 m0 m1 ⟨b1, b2, b0, a8, rfl, H, e0, g7⟩
 refine CW.seq (cr (WL.mv rfl ?_))
 refine WL.v (Runs.len_sl underlying25 rfl (by rw [e0])) ?_
 refine WL.v (Runs.rem rfl rfl (by decide) rfl) ?_
 refine WL.v (Runs.neq rfl rfl rfl) (wn ?_)
 rcases H with ⟨e1, H⟩ | ⟨e1, H⟩
 ·have e2 : ((Int.tmod (a8.length : Int) 64) != 56) = true := (bne_iff_ne.mpr e1)
  refine CW.ct rfl e2 (CW.skip (QW.then_n (CW.block (CW.region (WL.mv rfl ?_)))))
  refine WL.buildSl [.int .u8 0] g7 underlying25 elem5 rfl rfl (by decide) (by decide) (by simp [Value.cells]) ?_
  intro g8 i7 c8
  replace c8 : St w i7 [.sl (sp g8) 1 1 (iv .u8 [0]) 5 1, .sl (sp a2) 1 1 (iv .u8 [128]) 5 1, .sl b1 b2 b0 (iv .u8 a8) 5 1, .cells a0 (iv .u8 (z32)) 23] := c8
  obtain ⟨e3, g9, H⟩ := H
  obtain ⟨i8, H⟩ := H
  obtain ⟨e4, e5⟩ : ∃ n_ : Nat, n_ = e3.length := ⟨_, rfl⟩
  refine WL.append (i := 2) Wanted.none c8 rfl underlying25 elem5 rfl rfl (c8.src_sl (k := 0) rfl) (by rw [iv_length]; exact (Eq.refl _).symm) (one_iv .u8 _) (by decide) (N := e4) (by rw [e5, g9, List.length_append]; exact congr (congrArg HAdd.hAdd (e0)) (rfl)) (by rw [e5]; exact i8) ?_
  intro h0 h1 i9 b8
  have b8' : St w i9 [.sl (sp g8) 1 1 (iv .u8 [0]) 5 1, .sl (sp a2) 1 1 (iv .u8 [128]) 5 1, .sl h0 h1 e4 (iv .u8 e3) 5 1, .cells a0 (iv .u8 (z32)) 23] := by rw [g9, ← iv_append .u8 a8 [0]]; exact b8
  refine WL.as rfl (WL.nil (QW.blk_n ?_))
  have b8'' := b8'.pick [1, 2, 3] (by decide)
  exact QW.a ⟨h0, h1, e4, e3, rfl, H, e5, b8''⟩
 have e2 : ((Int.tmod (a8.length : Int) 64) != 56) = false := (bne_eq_false_iff_eq.mpr (Decidable.not_not.mp e1))
 refine CW.cf rfl e2 (CW.exit (QW.then_x (QW.then_x (QW.blk_x (QW.then_n (cr (WL.mv rfl ?_)))))))
 refine WL.v (Runs.len_sl underlying25 rfl (by rw [hn0])) ?_
 refine WL.v (Runs.conv underlying37 ⟨_, underlying3⟩ rfl rfl) (WL.v (Runs.mul rfl rfl rfl) (WL.as rfl (wn (CW.sub [(2, _), (3, _), (4, _)] ⟨rfl, rfl, rfl, trivial⟩ (CW.seq (cr (WL.as rfl (wn (CW.block ?_)))))))))
 obtain ⟨j0, H⟩ := H
 refine CW.sub [(2, _), (3, _), (4, _), (5, _)] ⟨rfl, rfl, rfl, rfl, trivial⟩ ?_
 refine CW.lp (fun kL2 l_ w_ => ∃ a4 a5 a3 a1 b5, l_ = [(2, .pointer (sp a0)), (3, .slice a4 a3 a5), (4, .int .u64 (u64.wrap ((u64.wrap (lA.length : Int)) * 8))), (5, .int .i64 b5)] ∧ reliquaryref02_Of.L2 lA lB kL2 a1 b5 ∧ (a3 = a1.length) ∧ St w w_ [.sl (sp a2) 1 1 (iv .u8 [128]) 5 1, .sl a4 a5 a3 (iv .u8 a1) 5 1, .cells a0 (iv .u8 (z32)) 23]) (k := j0) ⟨b1, b2, b0, a8, 0, rfl, H, e0, g7⟩ ?_
 rintro kL2 m2 m3 ⟨a4, a5, a3, a1, b5, rfl, H, e6, h2⟩
 refine CW.seq (cr (WL.mv rfl (WL.v (Runs.lss rfl rfl rfl) (wn ?_))))
 rcases H with ⟨e7, H⟩ | ⟨e7, H⟩
 ·have e8 := (decide_eq_true e7)
  refine CW.ct rfl e8 (CW.skip (QW.then_n (CW.seq (CW.block (CW.region (WL.mv rfl (WL.mv rfl (WL.mv rfl (WL.v (Runs.mul rfl rfl rfl) (WL.v (Runs.sub rfl rfl rfl) ?_))))))))))
  obtain ⟨m4, j1, H⟩ := H
  refine WL.v (Runs.conv underlying133 ⟨_, underlying3⟩ rfl j1) ?_
  obtain ⟨j2, H⟩ := H
  obtain ⟨c9, j3, H⟩ := H
  refine WL.v (Runs.shr rfl rfl j2 j3) (WL.v (Runs.conv underlying5 ⟨_, underlying37⟩ rfl rfl) ?_)
  refine WL.buildSl [.int .u8 (IntKind.u8.wrap c9)] h2 underlying25 elem5 rfl rfl (by decide) (by decide) (by simp [Value.cells]) ?_
  intro h3 j4 d0
  replace d0 : St w j4 [.sl (sp h3) 1 1 (iv .u8 [IntKind.u8.wrap c9]) 5 1, .sl (sp a2) 1 1 (iv .u8 [128]) 5 1, .sl a4 a5 a3 (iv .u8 a1) 5 1, .cells a0 (iv .u8 (z32)) 23] := d0
  obtain ⟨e9, h4, H⟩ := H
  obtain ⟨j5, H⟩ := H
  obtain ⟨f0, f1⟩ : ∃ n_ : Nat, n_ = e9.length := ⟨_, rfl⟩
  refine WL.append (i := 2) Wanted.none d0 rfl underlying25 elem5 rfl rfl (d0.src_sl (k := 0) rfl) (by rw [iv_length]; exact (Eq.refl _).symm) (one_iv .u8 _) (by decide) (N := f0) (by rw [f1, h4, List.length_append]; exact congr (congrArg HAdd.hAdd (e6)) (rfl)) (by rw [f1]; exact j5) ?_
  intro h5 h6 j6 b9
  have b9' : St w j6 [.sl (sp h3) 1 1 (iv .u8 [IntKind.u8.wrap c9]) 5 1, .sl (sp a2) 1 1 (iv .u8 [128]) 5 1, .sl h5 h6 f0 (iv .u8 e9) 5 1, .cells a0 (iv .u8 (z32)) 23] := by rw [h4, ← iv_append .u8 a1 [IntKind.u8.wrap c9]]; exact b9
  refine WL.as rfl (WL.nil (QW.blk_n (QW.then_n (CW.region (WL.mv rfl (WL.v (Runs.add rfl rfl rfl) (WL.as rfl (WL.nil ?_))))))))
  have b9'' := b9'.pick [1, 2, 3] (by decide)
  exact QW.a ⟨h5, h6, f0, e9, i64.wrap (b5 + 1), rfl, H, f1, b9''⟩
 have e8 := (decide_eq_false e7)
 refine CW.cf rfl e8 (CW.exit (QW.then_x (QW.then_x (QW.blk_x (QW.then_n (cr ?_))))))
 obtain ⟨f2, f3, H⟩ := H
 refine WL.v (Runs.build_arr (xs := f2) arr134 rfl rfl (by rw [f3]; rfl)) ?_
 refine WL.alloc h2 arr134.zero ?_
 intro a6 m5 j7
 refine WL.store_arr (i := 0) j7 rfl arr134 rfl (by rw [iv_length]; exact (List.length_replicate ..)) (by rw [f3]; rfl) rfl ?_
 intro j8 f4
 try dsimp only [List.set] at f4
 refine wn (CW.seq (cr (WL.as rfl (wn (CW.block ?_)))))
 obtain ⟨j9, H⟩ := H
 refine CW.sub [(2, _), (3, _), (6, _), (7, _)] ⟨rfl, rfl, rfl, rfl, trivial⟩ ?_
 refine CW.lp (fun kL3 l_ w_ => ∃ a7 b3, l_ = [(2, .pointer (sp a0)), (3, .slice a4 a3 a5), (6, .pointer (sp a6)), (7, .int .i64 b3)] ∧ reliquaryref02_Of.L3 lB a1 kL3 a7 b3 ∧ (a7.length = 8) ∧ St w w_ [.cells a6 (iv .u32 a7) 134, .sl (sp a2) 1 1 (iv .u8 [128]) 5 1, .sl a4 a5 a3 (iv .u8 a1) 5 1, .cells a0 (iv .u8 (z32)) 23]) (k := j9) ⟨f2, 0, rfl, H, (by rw [f3]; rfl), f4⟩ ?_
 rintro kL3 m6 k0 ⟨a7, b3, rfl, H, d1, c1⟩
 refine CW.seq (cr (WL.mv rfl (WL.mv rfl ?_)))
 refine WL.v (Runs.len_sl underlying25 rfl (by rw [e6])) ?_
 refine WL.v (Runs.lss rfl rfl rfl) (wn ?_)
 rcases H with ⟨f5, H⟩ | ⟨f5, H⟩
 ·have f6 := (decide_eq_true f5)
  refine CW.ct rfl f6 (CW.skip (QW.then_n (CW.seq (CW.block (CW.region (WL.v (Runs.load_arr arr134 rfl (c1.blk (i := 0) rfl) d1) (WL.mv rfl (WL.mv rfl ?_))))))))
  obtain ⟨f7, k1, H⟩ := H
  refine wC ent57 rfl (reliquaryref02_block.calls d1 (c1.src_sl (k := 2) rfl) (e6) (c1.cap (i := 2) rfl) k1) ?_
  rintro _ k2 ⟨h7, rfl, k3⟩
  have k4 := c1.call k3
  refine ⟨_, rfl, ?_⟩
  refine WL.store_arr (i := 0) k4 rfl arr134 rfl (by rw [iv_length]; exact d1) h7 rfl ?_
  intro k5 f8
  try dsimp only [List.set] at f8
  refine WL.nil (QW.blk_n (QW.then_n (CW.region (WL.mv rfl (WL.v (Runs.add rfl rfl rfl) (WL.as rfl (WL.nil ?_)))))))
  exact QW.a ⟨f7, i64.wrap (b3 + 64), rfl, H, h7, f8⟩
 have f6 := (decide_eq_false f5)
 refine CW.cf rfl f6 (CW.exit (QW.then_x (QW.then_x (QW.blk_x (QW.then_n (CW.sub [(2, _), (6, _)] ⟨rfl, rfl, trivial⟩ (cr (WL.alloc c1 arr23.zero ?_))))))))
 intro c2 m7 k6
 refine wn (CW.seq (cr (WL.as rfl (wn (CW.block ?_)))))
 obtain ⟨k7, H⟩ := H
 refine CW.sub [(2, _), (6, _), (8, _), (9, _)] ⟨rfl, rfl, rfl, rfl, trivial⟩ ?_
 refine CW.lp (fun kL4 l_ w_ => ∃ b4 a9, l_ = [(2, .pointer (sp a0)), (6, .pointer (sp a6)), (8, .pointer (sp c2)), (9, .int .i64 a9)] ∧ reliquaryref02_Of.L4 lB a7 kL4 b4 a9 ∧ (b4.length = 32) ∧ St w w_ [.cells c2 (iv .u8 b4) 23, .cells a6 (iv .u32 a7) 134, .sl (sp a2) 1 1 (iv .u8 [128]) 5 1, .sl a4 a5 a3 (iv .u8 a1) 5 1, .cells a0 (iv .u8 (z32)) 23]) (k := k7) ⟨z32, 0, rfl, H, (List.length_replicate ..), k6⟩ ?_
 rintro kL4 m8 m9 ⟨b4, a9, rfl, H, b6, d2⟩
 refine CW.seq (cr (WL.mv rfl (WL.v (Runs.lss rfl rfl rfl) (wn ?_))))
 rcases H with ⟨f9, H⟩ | ⟨f9, H⟩
 ·have g0 := (decide_eq_true f9)
  refine CW.ct rfl g0 (CW.skip (QW.then_n (CW.seq (CW.block (CW.region (WL.mv rfl (WL.mv rfl ?_)))))))
  refine WL.v (Runs.quo rfl rfl (by decide) rfl) ?_
  obtain ⟨⟨k8, k9⟩, H⟩ := H
  refine WL.v (Runs.indexAddr_blk arr134 rfl rfl k8 k9 (o := (i64.wrap (Int.tdiv a9 4)).toNat) (by first | rfl | omega)) ?_
  refine WL.v (Runs.load nagg24 rfl (d2.cell_iv (i := 1) rfl (by have := d1; omega))) ?_
  refine WL.mv rfl ?_
  refine WL.v (Runs.rem rfl rfl (by decide) rfl) ?_
  refine WL.v (Runs.mul rfl rfl rfl) ?_
  obtain ⟨n1, l1, H⟩ := H
  refine WL.v (Runs.sub rfl rfl l1) (WL.v (Runs.conv underlying133 ⟨_, underlying3⟩ rfl rfl) ?_)
  obtain ⟨l2, H⟩ := H
  obtain ⟨l3, l4, H⟩ := H
  refine WL.v (Runs.shr rfl rfl l2 l4) (WL.v (Runs.conv underlying5 ⟨_, underlying24⟩ rfl rfl) ?_)
  obtain ⟨⟨l5, l6⟩, H⟩ := H
  refine WL.v (Runs.indexAddr_blk arr23 rfl rfl l5 l6 (o := (a9).toNat) (by first | rfl | omega)) ?_
  obtain ⟨g1, h8, H⟩ := H
  have l7 : g1.length = 32 := by rw [h8, List.length_set]; exact b6
  refine WL.store_cells (i := 0) d2 rfl cells5 rfl (by rw [iv_length]; have := b6; omega) rfl rfl ?_
  intro l8 g2
  have g2' := g2; (try dsimp only [List.set, ec, en] at g2'); rw [iv_set .u8 b4 (a9.toNat) (IntKind.u8.wrap l3), ← h8] at g2'
  refine WL.nil (QW.blk_n (QW.then_n (CW.region (WL.mv rfl (WL.v (Runs.add rfl rfl rfl) (WL.as rfl (WL.nil ?_)))))))
  exact QW.a ⟨g1, i64.wrap (a9 + 1), rfl, H, l7, g2'⟩
 have g0 := (decide_eq_false f9)
 refine CW.cf rfl g0 (CW.exit (QW.then_x (QW.then_x (QW.blk_x (QW.then_n (cr (WL.v (Runs.load_arr arr23 rfl (d2.blk (i := 0) rfl) b6) ?_)))))))
 refine WL.store_arr (i := 4) d2 rfl arr23 rfl (by rw [iv_length]; exact (List.length_replicate ..)) b6 rfl ?_
 intro l9 d3
 try dsimp only [List.set] at d3
 refine wn (CW.ret ?_)
 obtain rfl := H
 exact QW.retc rfl arr23 rfl (d3.blk (i := 4) rfl) b6 ⟨b6, rfl, d3.pick [] (by decide)⟩
def reliquaryref13_Link.rel (l0 : List Int) (a1 : Int) (a2 : ByteArray) (r0 : List Int) : Prop := (∃ a0 : List Int, a0 = [255] ++ l0 ∧ (a0.length ≤ 1099511627776 ∧ (∃ a5, reliquaryref01_Put.rel (u64.wrap a1) 4 a5 ∧ (∃ a3 : List Int, a3 = a0 ++ a5 ∧ (a3.length ≤ 1099511627776 ∧ (∃ a4 : List Int, a4 = a3 ++ bl a2 ∧ (a4.length ≤ 1099511627776 ∧ (∃ a6, reliquaryref02_Of.rel a4 a6 ∧ r0 = a6))))))))
theorem reliquaryref13_Link.calls (hl0 : lA.length = 32) (H : reliquaryref13_Link.rel lA iA yA lB) :
  Calls prog 10 #[.agg (iv .u8 lA).toArray, .int .u32 iA, .string yA] w fun e w' => lB.length = 32 ∧ e = .returned (.agg (iv .u8 lB).toArray) ∧ St w w' [] := by
 refine CW.en func10 rfl 22 [_, _, _] (CW.sub [(0, _), (1, _), (2, _)] ⟨rfl, rfl, rfl, trivial⟩ ?_)
 have st0 := St.refl w
 refine cr (WL.box st0 rfl rfl ?_)
 intro a3 f3 d7
 refine WL.alloc d7 arr23.zero ?_
 intro a0 f4 d8
 refine WL.nx ?_
 refine WL.buildSl [.int .u8 255] d8 underlying25 elem5 rfl rfl (by decide) (by decide) (by simp [Value.cells]) ?_
 intro d9 e0 b1
 replace b1 : St w e0 [.sl (sp d9) 1 1 (iv .u8 [255]) 5 1, .cells a0 (iv .u8 (z32)) 23, .cells a3 (iv .u8 lA) 23] := b1
 refine WL.as rfl (WL.nx (WL.mv rfl ?_))
 refine WL.v (Runs.slice_arr arr23 rfl (by decide)) ?_
 obtain ⟨b2, c7, H⟩ := H
 obtain ⟨e1, H⟩ := H
 obtain ⟨b3, b7⟩ : ∃ n_ : Nat, n_ = b2.length := ⟨_, rfl⟩
 refine WL.append (i := 0) Wanted.none b1 rfl underlying25 elem5 rfl rfl (b1.src_blk (i := 2) rfl) (by rw [iv_length]; exact ((hl0).symm).symm) (one_iv .u8 _) (by decide) (N := b3) (by rw [b7, c7, List.length_append]; exact congr (congrArg HAdd.hAdd (rfl)) ((hl0).symm)) (by rw [b7]; exact e1) ?_
 intro b8 b9 c8 c0
 have c0' : St w c8 [.sl b8 b9 b3 (iv .u8 b2) 5 1, .cells a0 (iv .u8 (z32)) 23, .cells a3 (iv .u8 lA) 23] := by rw [c7, ← iv_append .u8 [255] lA]; exact c0
 refine WL.as rfl (wn (CW.sub [(1, _), (2, _), (6, _), (7, _)] ⟨rfl, rfl, rfl, rfl, trivial⟩ (cr (WL.mv rfl (WL.mv rfl (WL.v (Runs.conv underlying37 ⟨_, underlying24⟩ rfl rfl) ?_))))))
 obtain ⟨a4, e2, H⟩ := H
 refine wC ent33 rfl (reliquaryref01_Put.calls e2) ?_
 rintro _ e3 ⟨a5, a6, a7, c9, rfl, e4⟩
 have d0 : St w e3 [.sl a5 a6 a7 (iv .u8 a4) 5 1, .sl b8 b9 b3 (iv .u8 b2) 5 1, .cells a0 (iv .u8 (z32)) 23, .cells a3 (iv .u8 lA) 23] := c0'.call e4
 refine ⟨_, rfl, ?_⟩
 obtain ⟨c1, d1, H⟩ := H
 obtain ⟨e5, H⟩ := H
 obtain ⟨c2, c3⟩ : ∃ n_ : Nat, n_ = c1.length := ⟨_, rfl⟩
 refine WL.append (i := 1) Wanted.none d0 rfl underlying25 elem5 rfl rfl (d0.src_sl (k := 0) rfl) (by rw [iv_length]; exact (c9).symm) (one_iv .u8 _) (by decide) (N := c2) (by rw [c3, d1, List.length_append]; exact congr (congrArg HAdd.hAdd (b7)) (c9)) (by rw [c3]; exact e5) ?_
 intro d2 d3 e6 c4
 have c4' := c4; (try dsimp only [List.set, ec, en] at c4'); rw [iv_append .u8 b2 a4, ← d1] at c4'
 refine WL.as rfl (wn (CW.sub [(2, _), (6, _), (7, _)] ⟨rfl, rfl, rfl, trivial⟩ (cr (WL.mv rfl (WL.mv rfl ?_)))))
 obtain ⟨a8, d4, H⟩ := H
 obtain ⟨e7, H⟩ := H
 obtain ⟨a9, c5⟩ : ∃ n_ : Nat, n_ = a8.length := ⟨_, rfl⟩
 refine WL.append_str (i := 1) Wanted.none c4' rfl underlying25 underlying9 elem5 rfl rfl (N := a9) (by rw [c5, d4, List.length_append]; exact congr (congrArg HAdd.hAdd (c3)) (bl_length _)) (by rw [c5]; exact e7) ?_
 intro b4 b5 d5 b0
 have b0' := b0; (try dsimp only [List.set, ec, en] at b0'); rw [iv_append .u8 c1 (bl yA), ← d4] at b0'
 refine WL.as rfl (WL.nx (WL.mv rfl ?_))
 obtain ⟨d6, e8, H⟩ := H
 refine wC ent34 rfl (reliquaryref02_Of.calls (b0'.src_sl (k := 1) rfl) (c5) (b0'.cap (i := 1) rfl) e8) ?_
 rintro _ e9 ⟨c6, rfl, f0⟩
 have f1 : St w e9 [.sl a5 a6 a7 (iv .u8 a4) 5 1, .sl b4 b5 a9 (iv .u8 a8) 5 1, .cells a0 (iv .u8 (z32)) 23, .cells a3 (iv .u8 lA) 23] := b0'.call f0
 refine ⟨_, rfl, ?_⟩
 refine WL.store_arr (i := 2) f1 rfl arr23 rfl (by rw [iv_length]; exact (List.length_replicate ..)) c6 rfl ?_
 intro f2 b6
 try dsimp only [List.set] at b6
 refine wn (CW.ret ?_)
 obtain rfl := H
 exact QW.retc rfl arr23 rfl (b6.blk (i := 2) rfl) c6 ⟨c6, rfl, b6.pick [] (by decide)⟩
def reliquaryref13_Append.L1 (c9 : List Int) (c6 c7 c8 d0 : Int) (d1 : List Int) (d2 d3 : Int) (d4 d5 : List R145) (d6 : Int) (d7 : Bool) (d8 : List R160) (d9 : List Int) (e0 e1 e2 e3 : Int) (e4 : List Int) (e5 e6 e7 e8 : Int) (e9 : List Int) (ar3 : Int) (a1 : List R118) : Nat → Int → (List Int) → Int → Int → (List R145) → (List R145) → Int → Bool → (List R160) → Int → Int → Int → Prop
 | 0, _, _, _, _, _, _, _, _, _, _, _, _ => False
 | kL1 + 1, a5, b3, a3, b4, b5, b6, b7, b8, b9, c2, c5, a0 => ((a0 < (a1.length : Int) ∧ (c7 ≠ 0 ∧ (∃ a4 : Int, a4 = i64.wrap (Int.tmod (u64.wrap (c8 + a5)) c7) ∧ ((0 ≤ a0 ∧ a0 < (a1.length : Int)) ∧ (∃ c0 c3, reliquaryref12_Put.rel ((gx a1 (a0.toNat)).1) ((gx a1 (a0.toNat)).2.1) ((gx a1 (a0.toNat)).2.2) c0 c3 ∧ (∃ a6 c4, reliquaryref08_Seal.rel c9 (u32.wrap (i64.wrap (c6 + a4))) a3 c0 a6 c4 ∧ (∃ a7 a8 a9 b0 b1 b2 a2, reliquaryref06_Write.rel b4 b5 b6 b7 b8 b9 (i64.wrap (c6 + a4)) a6 a7 a8 a9 b0 b1 b2 a2 ∧ ((a2 ≠ 0 ∧ d3 = a7 ∧ d4 = a8 ∧ d5 = a9 ∧ d6 = b0 ∧ d7 = b1 ∧ d8 = b2 ∧ d9 = c9 ∧ e0 = c6 ∧ e1 = c7 ∧ e2 = c8 ∧ e3 = d0 ∧ e4 = d1 ∧ e5 = u64.wrap (a3 + 1) ∧ e6 = d2 ∧ e7 = 0 ∧ e8 = 0 ∧ e9 = z32 ∧ ar3 = a2) ∨ (¬ (a2 ≠ 0) ∧ (∃ c1, reliquaryref13_Link.rel b3 (u32.wrap (i64.wrap (c6 + a4))) a6 c1 ∧ reliquaryref13_Append.L1 c9 c6 c7 c8 d0 d1 d2 d3 d4 d5 d6 d7 d8 d9 e0 e1 e2 e3 e4 e5 e6 e7 e8 e9 ar3 a1 kL1 (u64.wrap (a5 + 1)) c1 (u64.wrap (a3 + 1)) a7 a8 a9 b0 b1 b2 c2 a2 (i64.wrap (a0 + 1)))))))))))) ∨ (¬ (a0 < (a1.length : Int)) ∧ d3 = b4 ∧ d4 = b5 ∧ d5 = b6 ∧ d6 = b7 ∧ d7 = b8 ∧ d8 = b9 ∧ d9 = c9 ∧ e0 = c6 ∧ e1 = c7 ∧ e2 = c8 ∧ e3 = d0 ∧ e4 = d1 ∧ e5 = a3 ∧ e6 = d2 ∧ e7 = c8 ∧ e8 = a5 ∧ e9 = b3 ∧ ar3 = 0))
def reliquaryref13_Append.rel (a7 : Int) (a8 a9 : List R145) (b0 : Int) (b1 : Bool) (b2 : List R160) (b3 : List Int) (b4 a5 b5 a4 : Int) (a6 : List Int) (a2 a3 : Int) (l2 : List R116) (b6 : Int) (b7 b8 : List R145) (b9 : Int) (c0 : Bool) (c1 : List R160) (c2 : List Int) (c3 c4 c5 c6 : Int) (c7 : List Int) (c8 c9 d0 d1 : Int) (d2 : List Int) (ar3 : Int) : Prop := (∃ a0 a1, reliquaryref12_Of.rel l2 a0 a1 ∧ ((a1 ≠ 0 ∧ b6 = a7 ∧ b7 = a8 ∧ b8 = a9 ∧ b9 = b0 ∧ c0 = b1 ∧ c1 = b2 ∧ c2 = b3 ∧ c3 = b4 ∧ c4 = a5 ∧ c5 = b5 ∧ c6 = a4 ∧ c7 = a6 ∧ c8 = a2 ∧ c9 = a3 ∧ d0 = 0 ∧ d1 = 0 ∧ d2 = z32 ∧ ar3 = a1) ∨ (¬ (a1 ≠ 0) ∧ (((u64.wrap (a0.length : Int)) > (u64.wrap (a5 - a4)) ∧ b6 = a7 ∧ b7 = a8 ∧ b8 = a9 ∧ b9 = b0 ∧ c0 = b1 ∧ c1 = b2 ∧ c2 = b3 ∧ c3 = b4 ∧ c4 = a5 ∧ c5 = b5 ∧ c6 = a4 ∧ c7 = a6 ∧ c8 = a2 ∧ c9 = a3 ∧ d0 = 0 ∧ d1 = 0 ∧ d2 = z32 ∧ ar3 = 17) ∨ (¬ ((u64.wrap (a0.length : Int)) > (u64.wrap (a5 - a4))) ∧ ((a2 > a3 ∧ b6 = a7 ∧ b7 = a8 ∧ b8 = a9 ∧ b9 = b0 ∧ c0 = b1 ∧ c1 = b2 ∧ c2 = b3 ∧ c3 = b4 ∧ c4 = a5 ∧ c5 = b5 ∧ c6 = a4 ∧ c7 = a6 ∧ c8 = a2 ∧ c9 = a3 ∧ d0 = 0 ∧ d1 = 0 ∧ d2 = z32 ∧ ar3 = 15) ∨ (¬ (a2 > a3) ∧ (((u64.wrap (a0.length : Int)) > (u64.wrap (a3 - a2)) ∧ b6 = a7 ∧ b7 = a8 ∧ b8 = a9 ∧ b9 = b0 ∧ c0 = b1 ∧ c1 = b2 ∧ c2 = b3 ∧ c3 = b4 ∧ c4 = a5 ∧ c5 = b5 ∧ c6 = a4 ∧ c7 = a6 ∧ c8 = a2 ∧ c9 = a3 ∧ d0 = 0 ∧ d1 = 0 ∧ d2 = z32 ∧ ar3 = 15) ∨ (¬ ((u64.wrap (a0.length : Int)) > (u64.wrap (a3 - a2))) ∧ (∃ k_ : Nat, reliquaryref13_Append.L1 b3 b4 a5 b5 a4 a6 a3 b6 b7 b8 b9 c0 c1 c2 c3 c4 c5 c6 c7 c8 c9 d0 d1 d2 ar3 a0 k_ a4 a6 a2 a7 a8 a9 b0 b1 b2 0 a1 0))))))))))
theorem reliquaryref13_Append.calls (T : Pool) (st0 : St w w1 ((T ++ R))) (n2 : HS w T T pA nA nB (f145 w) vA) (u1 : HS w T T pB nC nD (f145 w) vB) (u2 : HS w T T pC nE nF (f160 w) dA) (c2 : lA.length = 32) (l2 : lB.length = 32) (hb2 : HS w (T ++ R) T pD nG nH (f116 w) eA) (H : reliquaryref13_Append.rel iA vA vB iB bA dA lA iC iD iE iF lB iG iH eA iI vC vD iJ bB dB lC iK iL iM iN lD iO iP iQ iR lE iS) :
  Calls prog 21 #[.agg ((ci iA) ++ ((cl pA nA nB) ++ ((cl pB nC nD) ++ ((ci iB) ++ ((cb bA) ++ (cl pC nE nF)))))).toArray, .agg (iv .u8 lA ++ ((ci iC) ++ ((cu iD) ++ ((cu iE) ++ ((cu iF) ++ (iv .u8 lB ++ ((cu iG) ++ (cu iH)))))))).toArray, .slice pD nG nH] w1 fun e w' => ∃ T' u3 u4 u5 u6 u7 u9 v0 v1 v2, Pl T T' ∧ HS w T' T' u3 u4 u5 (f145 w) vC ∧ HS w T' T' u6 u7 u9 (f145 w) vD ∧ HS w T' T' v0 v1 v2 (f160 w) dB ∧ lC.length = 32 ∧ lD.length = 32 ∧ lE.length = 32 ∧ e = .returned (.tuple #[.agg ((ci iI) ++ ((cl u3 u4 u5) ++ ((cl u6 u7 u9) ++ ((ci iJ) ++ ((cb bB) ++ (cl v0 v1 v2)))))).toArray, .agg (iv .u8 lC ++ ((ci iK) ++ ((cu iL) ++ ((cu iM) ++ ((cu iN) ++ (iv .u8 lD ++ ((cu iO) ++ (cu iP)))))))).toArray, .agg ((cu iQ) ++ ((cu iR) ++ iv .u8 lE)).toArray, .int .i64 iS]) ∧ St w w' ((T' ++ R)) := by
 refine CW.en func21 rfl 132 [_, _, _] (CW.sub [(0, _), (1, _), (2, _)] ⟨rfl, rfl, rfl, trivial⟩ (cr (WL.box st0 rfl rfl ?_)))
 intro a1 t2 m8
 refine WL.box m8 rfl rfl ?_
 intro a2 t3 m9
 refine WL.alloc m9 zero57 ?_
 intro a7 t4 n0
 refine WL.alloc n0 zero62 ?_
 intro a8 t5 n1
 refine WL.alloc n1 zero60 ?_
 intro a0 k9 n3
 refine WL.as rfl (WL.nx (WL.mv rfl ?_))
 have n4 := St.hide (A := []) (B := [_, _, _, _, _]) n3
 obtain ⟨e1, e6, n5, H⟩ := H
 refine wC ent43 rfl (reliquaryref12_Of.calls T n4 (hb2.mono (memo_TR (B := [_, _, _, _, _]) ii) ii) n5) ?_
 rintro _ n6 ⟨b3, a4, a3, a5, a6, b0, i8, n7, rfl, n8⟩
 have e5 := St.unhide (A := [_]) (B := [_, _, _, _, _]) n8; dsimp only [ec, en] at e5
 refine ⟨_, rfl, WL.mv rfl (WL.v (Runs.extract rfl rfl) (WL.v (Runs.extract rfl rfl) (WL.as rfl (WL.as rfl (wn ?_)))))⟩
 refine CW.su [(3, _), (4, _), (6, _), (7, _), (8, _), (9, _), (10, _), (11, _)] ?_
 refine CW.seq (cr (WL.mv rfl (WL.v (Runs.neq rfl rfl rfl) (wn ?_))))
 rcases H with ⟨i9, H⟩ | ⟨i9, H⟩
 ·have j0 := (bne_iff_ne.mpr i9)
  refine CW.ct rfl j0 (CW.seq ?_)
  refine CW.region_awh (C := fun w_ => St w w_ (.sl a4 a5 a3 a6 118 3 :: oS a0 0 0 (z32) 60 :: oK a2 lA iC iD iE iF lB iG iH 62 :: oM a1 iA pA nA nB pB nC nD iB bA pC nE nF 57 :: (b3 ++ R))) 7 wide (by kernel_rfl) e5 (fun n9 f2 => ?_)
  have e8 : St w n9 (.sl a4 a5 a3 a6 118 3 :: oS a0 0 0 (z32) 60 :: oK a2 lA iC iD iE iF lB iG iH 62 :: oM a1 iA pA nA nB pB nC nD iB bA pC nE nF 57 :: (b3 ++ R)) := (St.pk (L := [_, _, _, _, _, _]) f2 [0, 1, 4, 5])
  refine AWH.kn (St.subset e8 f2 (mcD 0 1 4 5 (mem_TR (A := [_, _, _, _, _, _]) ii))) fun zC1 => ?_
  refine AWH.tk 0 rfl zC1 (fun wq sq => (Runs.load_mid row57 rfl sq (i := 3) rfl (pm [] ((ci iA) ++ ((cl pA nA nB) ++ ((cl pB nC nD) ++ ((ci iB) ++ ((cb bA) ++ (cl pC nE nF)))))) []) rfl)) ?_
  refine AWH.tk 1 rfl zC1 (fun wq sq => (Runs.load_mid row62 rfl sq (i := 2) rfl (pm [] (iv .u8 lA ++ ((ci iC) ++ ((cu iD) ++ ((cu iE) ++ ((cu iF) ++ (iv .u8 lB ++ ((cu iG) ++ (cu iH)))))))) [] (hm := by simp [lv, c2, l2])) (by simp [lv, c2, l2]))) ?_
  refine AWH.tk 2 rfl zC1 (fun wq sq => (Runs.build_struct (ps := [(0, 1), (1, 1), (2, 32)]) (cs := ((cu 0) ++ ((cu 0) ++ iv .u8 (z32)))) plc60 zero60 rfl Fills.nil)) ?_
  refine AWH.tk 3 rfl zC1 (fun wq sq => (Runs.move rfl)) ?_
  refine AWH.step 4 rfl (by decide) (by kernel_rfl) (fun inv_ hs_ hk_ hc_ hn_ => ?_)
  refine WL.sw 3 f2 row57 rfl rfl rfl ?_
  intro o0 g9
  try dsimp only [List.set] at g9
  refine WL.nil ?_
  refine AWH.back (St.subset e8 g9 (mcD 0 1 4 5 (mem_TR (A := [_, _, _, _, _, _]) ii))) inv_ hs_ hk_ hc_ hn_ ?_
  refine AWH.step 5 rfl (by decide) (by kernel_rfl) (fun inv_ hs_ hk_ hc_ hn_ => ?_)
  refine WL.sw 2 g9 row62 rfl rfl rfl (hm := by simp [lv, c2, l2]) ?_
  intro o1 h0
  try dsimp only [List.set] at h0
  refine WL.nil ?_
  refine AWH.back (St.subset e8 h0 (mcD 0 1 4 5 (mem_TR (A := [_, _, _, _, _, _]) ii))) inv_ hs_ hk_ hc_ hn_ ?_
  refine AWH.step 6 rfl (by decide) (by kernel_rfl) (fun inv_ hs_ hk_ hc_ hn_ => ?_)
  refine WL.sw 1 h0 row60 rfl rfl rfl ?_
  intro o2 e9
  try dsimp only [List.set] at e9
  refine WL.nil ?_
  refine AWH.back (St.subset e8 e9 (mcD 0 1 4 5 (mem_TR (A := [_, _, _, _, _, _]) ii))) inv_ hs_ hk_ hc_ hn_ ?_
  refine AWH.tail (by kernel_rfl) ?_
  refine AW.tk 7 rfl (fun _ => (Runs.assign rfl)) ?_
  refine AW.done (by kernel_rfl) ?_
  refine QW.then_n (CW.ret (QW.then_r ?_))
  obtain ⟨rfl, rfl, rfl, rfl, rfl, rfl, rfl, rfl, rfl, rfl, rfl, rfl, rfl, rfl, rfl, rfl, rfl, rfl⟩ := H
  exact QW.retN4 rfl (Res.row rfl row57 e9 (i := 3) rfl rfl) (Res.row rfl row62 e9 (i := 2) rfl (by simp [lv, c2, l2])) (Res.row rfl row60 e9 (i := 1) rfl (by simp [lv])) (Res.tmp rfl) ⟨b3, pA, nA, nB, pB, nC, nD, pC, nE, nF, b0, (n2.mono b0.1 b0.1), (u1.mono b0.1 b0.1), (u2.mono b0.1 b0.1), c2, l2, (List.length_replicate ..), rfl, (St.pk (L := [_, _, _, _, _, _]) e9 [])⟩
 have j0 : (e6 != 0) = false := (bne_eq_false_iff_eq.mpr (Decidable.not_not.mp i9))
 refine CW.cf rfl j0 (CW.skip (QW.then_n (cr (WL.mv rfl ?_))))
 refine WL.v (Runs.len_sl underlying110 rfl (by rw [i8])) ?_
 refine WL.v (Runs.conv underlying37 ⟨_, underlying3⟩ rfl rfl) (WL.as rfl (wn (CW.seq (cr (WL.mv rfl (WL.v (Runs.fieldAddr (off := 33) (p := 33) fld62_2 rfl rfl rfl) ?_))))))
 refine WL.ld 4 nagg37 e5 rfl rfl (pa (.int .u64 iD) (iv .u8 lA ++ (ci iC)) ((cu iE) ++ ((cu iF) ++ (iv .u8 lB ++ ((cu iG) ++ (cu iH))))) (ho := by simp [lv, c2])) ?_
 refine WL.v (Runs.fieldAddr (off := 34) (p := 34) fld62_3 rfl rfl rfl) (WL.v (Runs.fieldAddr (off := 1) (p := 35) fld60_1 rfl rfl rfl) ?_)
 refine WL.ld 4 nagg37 e5 rfl rfl (pa (.int .u64 iF) (iv .u8 lA ++ ((ci iC) ++ ((cu iD) ++ (cu iE)))) (iv .u8 lB ++ ((cu iG) ++ (cu iH))) (ho := by simp [lv, c2])) ?_
 refine WL.v (Runs.sub rfl rfl rfl) (WL.v (Runs.gtr rfl rfl rfl) (wn ?_))
 refine CW.su [(3, _), (4, _), (6, _), (7, _), (8, _), (9, _), (10, _), (11, _), (12, _), (41, _)] ?_
 rcases H with ⟨j1, H⟩ | ⟨j1, H⟩
 ·have j2 := (decide_eq_true j1)
  refine CW.ct rfl j2 (CW.seq ?_)
  refine CW.region_awh (C := fun w_ => St w w_ (.sl a4 a5 a3 a6 118 3 :: oS a0 0 0 (z32) 60 :: oK a2 lA iC iD iE iF lB iG iH 62 :: oM a1 iA pA nA nB pB nC nD iB bA pC nE nF 57 :: (b3 ++ R))) 5 wide (by kernel_rfl) e5 (fun o3 f8 => ?_)
  have f9 : St w o3 (.sl a4 a5 a3 a6 118 3 :: oS a0 0 0 (z32) 60 :: oK a2 lA iC iD iE iF lB iG iH 62 :: oM a1 iA pA nA nB pB nC nD iB bA pC nE nF 57 :: (b3 ++ R)) := (St.pk (L := [_, _, _, _, _, _]) f8 [0, 1, 4, 5])
  refine AWH.kn (St.subset f9 f8 (mcD 0 1 4 5 (mem_TR (A := [_, _, _, _, _, _]) ii))) fun zC2 => ?_
  refine AWH.tk 0 rfl zC2 (fun wq sq => (Runs.load_mid row57 rfl sq (i := 3) rfl (pm [] ((ci iA) ++ ((cl pA nA nB) ++ ((cl pB nC nD) ++ ((ci iB) ++ ((cb bA) ++ (cl pC nE nF)))))) []) rfl)) ?_
  refine AWH.tk 1 rfl zC2 (fun wq sq => (Runs.load_mid row62 rfl sq (i := 2) rfl (pm [] (iv .u8 lA ++ ((ci iC) ++ ((cu iD) ++ ((cu iE) ++ ((cu iF) ++ (iv .u8 lB ++ ((cu iG) ++ (cu iH)))))))) [] (hm := by simp [lv, c2, l2])) (by simp [lv, c2, l2]))) ?_
  refine AWH.tk 2 rfl zC2 (fun wq sq => (Runs.build_struct (ps := [(0, 1), (1, 1), (2, 32)]) (cs := ((cu 0) ++ ((cu 0) ++ iv .u8 (z32)))) plc60 zero60 rfl Fills.nil)) ?_
  refine AWH.step 3 rfl (by decide) (by kernel_rfl) (fun inv_ hs_ hk_ hc_ hn_ => ?_)
  refine WL.sw 3 f8 row57 rfl rfl rfl ?_
  intro o4 h1
  try dsimp only [List.set] at h1
  refine WL.nil ?_
  refine AWH.back (St.subset f9 h1 (mcD 0 1 4 5 (mem_TR (A := [_, _, _, _, _, _]) ii))) inv_ hs_ hk_ hc_ hn_ ?_
  refine AWH.step 4 rfl (by decide) (by kernel_rfl) (fun inv_ hs_ hk_ hc_ hn_ => ?_)
  refine WL.sw 2 h1 row62 rfl rfl rfl (hm := by simp [lv, c2, l2]) ?_
  intro o5 h2
  try dsimp only [List.set] at h2
  refine WL.nil ?_
  refine AWH.back (St.subset f9 h2 (mcD 0 1 4 5 (mem_TR (A := [_, _, _, _, _, _]) ii))) inv_ hs_ hk_ hc_ hn_ ?_
  refine AWH.tail (by kernel_rfl) ?_
  refine AW.step 5 rfl (by kernel_rfl) ?_
  refine WL.sw 1 h2 row60 rfl rfl rfl ?_
  intro o6 f3
  try dsimp only [List.set] at f3
  refine WL.nil ?_
  refine AW.back  ?_
  refine AW.tk 6 rfl (fun _ => (Runs.assign rfl)) ?_
  refine AW.done (by kernel_rfl) ?_
  refine QW.then_n (CW.ret (QW.then_r ?_))
  obtain ⟨rfl, rfl, rfl, rfl, rfl, rfl, rfl, rfl, rfl, rfl, rfl, rfl, rfl, rfl, rfl, rfl, rfl, rfl⟩ := H
  exact QW.retN4 rfl (Res.row rfl row57 f3 (i := 3) rfl rfl) (Res.row rfl row62 f3 (i := 2) rfl (by simp [lv, c2, l2])) (Res.row rfl row60 f3 (i := 1) rfl (by simp [lv])) (Res.tmp rfl) ⟨b3, pA, nA, nB, pB, nC, nD, pC, nE, nF, b0, (n2.mono b0.1 b0.1), (u1.mono b0.1 b0.1), (u2.mono b0.1 b0.1), c2, l2, (List.length_replicate ..), rfl, (St.pk (L := [_, _, _, _, _, _]) f3 [])⟩
 have j2 := (decide_eq_false j1)
 refine CW.cf rfl j2 (CW.skip (QW.then_n (CW.seq (cr (WL.v (Runs.fieldAddr (off := 68) (p := 68) fld62_4 rfl rfl rfl) ?_)))))
 refine WL.ld 4 nagg37 e5 rfl rfl (pa (.int .u64 iG) (iv .u8 lA ++ ((ci iC) ++ ((cu iD) ++ ((cu iE) ++ ((cu iF) ++ iv .u8 lB))))) (cu iH) (ho := by simp [lv, c2, l2])) ?_
 refine WL.v (Runs.fieldAddr (off := 69) (p := 69) fld62_5 rfl rfl rfl) ?_
 refine WL.ld 4 nagg37 e5 rfl rfl (pa (.int .u64 iH) (iv .u8 lA ++ ((ci iC) ++ ((cu iD) ++ ((cu iE) ++ ((cu iF) ++ (iv .u8 lB ++ (cu iG))))))) [] (ho := by simp [lv, c2, l2])) ?_
 refine WL.v (Runs.gtr rfl rfl rfl) (WL.mv rfl ?_)
 rcases H with ⟨j3, H⟩ | ⟨j3, H⟩
 ·have e2 := (decide_eq_true j3)
  iterate 7 (refine WL.off ?_ ?_; exact Wg 50 e2)
  refine WL.v (Runs.pick_t (evb rfl e2) rfl) (wn ?_)
  refine CW.su [(3, _), (4, _), (6, _), (7, _), (8, _), (9, _), (10, _), (11, _), (58, _)] ?_
  refine CW.ct rfl rfl (CW.seq ?_)
  refine CW.region_awh (C := fun w_ => St w w_ (.sl a4 a5 a3 a6 118 3 :: oS a0 0 0 (z32) 60 :: oK a2 lA iC iD iE iF lB iG iH 62 :: oM a1 iA pA nA nB pB nC nD iB bA pC nE nF 57 :: (b3 ++ R))) 5 wide (by kernel_rfl) e5 (fun o7 g0 => ?_)
  have g1 : St w o7 (.sl a4 a5 a3 a6 118 3 :: oS a0 0 0 (z32) 60 :: oK a2 lA iC iD iE iF lB iG iH 62 :: oM a1 iA pA nA nB pB nC nD iB bA pC nE nF 57 :: (b3 ++ R)) := (St.pk (L := [_, _, _, _, _, _]) g0 [0, 1, 4, 5])
  refine AWH.kn (St.subset g1 g0 (mcD 0 1 4 5 (mem_TR (A := [_, _, _, _, _, _]) ii))) fun zC3 => ?_
  refine AWH.tk 0 rfl zC3 (fun wq sq => (Runs.load_mid row57 rfl sq (i := 3) rfl (pm [] ((ci iA) ++ ((cl pA nA nB) ++ ((cl pB nC nD) ++ ((ci iB) ++ ((cb bA) ++ (cl pC nE nF)))))) []) rfl)) ?_
  refine AWH.tk 1 rfl zC3 (fun wq sq => (Runs.load_mid row62 rfl sq (i := 2) rfl (pm [] (iv .u8 lA ++ ((ci iC) ++ ((cu iD) ++ ((cu iE) ++ ((cu iF) ++ (iv .u8 lB ++ ((cu iG) ++ (cu iH)))))))) [] (hm := by simp [lv, c2, l2])) (by simp [lv, c2, l2]))) ?_
  refine AWH.tk 2 rfl zC3 (fun wq sq => (Runs.build_struct (ps := [(0, 1), (1, 1), (2, 32)]) (cs := ((cu 0) ++ ((cu 0) ++ iv .u8 (z32)))) plc60 zero60 rfl Fills.nil)) ?_
  refine AWH.step 3 rfl (by decide) (by kernel_rfl) (fun inv_ hs_ hk_ hc_ hn_ => ?_)
  refine WL.sw 3 g0 row57 rfl rfl rfl ?_
  intro o8 h3
  try dsimp only [List.set] at h3
  refine WL.nil ?_
  refine AWH.back (St.subset g1 h3 (mcD 0 1 4 5 (mem_TR (A := [_, _, _, _, _, _]) ii))) inv_ hs_ hk_ hc_ hn_ ?_
  refine AWH.step 4 rfl (by decide) (by kernel_rfl) (fun inv_ hs_ hk_ hc_ hn_ => ?_)
  refine WL.sw 2 h3 row62 rfl rfl rfl (hm := by simp [lv, c2, l2]) ?_
  intro o9 h4
  try dsimp only [List.set] at h4
  refine WL.nil ?_
  refine AWH.back (St.subset g1 h4 (mcD 0 1 4 5 (mem_TR (A := [_, _, _, _, _, _]) ii))) inv_ hs_ hk_ hc_ hn_ ?_
  refine AWH.tail (by kernel_rfl) ?_
  refine AW.step 5 rfl (by kernel_rfl) ?_
  refine WL.sw 1 h4 row60 rfl rfl rfl ?_
  intro p0 f4
  try dsimp only [List.set] at f4
  refine WL.nil ?_
  refine AW.back  ?_
  refine AW.tk 6 rfl (fun _ => (Runs.assign rfl)) ?_
  refine AW.done (by kernel_rfl) ?_
  refine QW.then_n (CW.ret (QW.then_r ?_))
  obtain ⟨rfl, rfl, rfl, rfl, rfl, rfl, rfl, rfl, rfl, rfl, rfl, rfl, rfl, rfl, rfl, rfl, rfl, rfl⟩ := H
  exact QW.retN4 rfl (Res.row rfl row57 f4 (i := 3) rfl rfl) (Res.row rfl row62 f4 (i := 2) rfl (by simp [lv, c2, l2])) (Res.row rfl row60 f4 (i := 1) rfl (by simp [lv])) (Res.tmp rfl) ⟨b3, pA, nA, nB, pB, nC, nD, pC, nE, nF, b0, (n2.mono b0.1 b0.1), (u1.mono b0.1 b0.1), (u2.mono b0.1 b0.1), c2, l2, (List.length_replicate ..), rfl, (St.pk (L := [_, _, _, _, _, _]) f4 [])⟩
 have e2 := (decide_eq_false j3)
 refine WL.on ?_ ?_; exact Wg 50 e2
 refine WL.mv rfl ?_
 refine WL.on ?_ ?_; exact Wg 50 e2
 refine WL.v (Runs.fieldAddr (off := 69) (p := 69) fld62_5 rfl rfl rfl) ?_
 refine WL.on ?_ ?_; exact Wg 50 e2
 refine WL.ld 4 nagg37 e5 rfl rfl (pa (.int .u64 iH) (iv .u8 lA ++ ((ci iC) ++ ((cu iD) ++ ((cu iE) ++ ((cu iF) ++ (iv .u8 lB ++ (cu iG))))))) [] (ho := by simp [lv, c2, l2])) ?_
 refine WL.on ?_ ?_; exact Wg 50 e2
 refine WL.v (Runs.fieldAddr (off := 68) (p := 68) fld62_4 rfl rfl rfl) ?_
 refine WL.on ?_ ?_; exact Wg 50 e2
 refine WL.ld 4 nagg37 e5 rfl rfl (pa (.int .u64 iG) (iv .u8 lA ++ ((ci iC) ++ ((cu iD) ++ ((cu iE) ++ ((cu iF) ++ iv .u8 lB))))) (cu iH) (ho := by simp [lv, c2, l2])) ?_
 refine WL.on ?_ ?_; exact Wg 50 e2
 refine WL.v (Runs.sub rfl rfl rfl) ?_
 refine WL.on ?_ ?_; exact Wg 50 e2
 refine WL.v (Runs.gtr rfl rfl rfl) (WL.v (Runs.pick_f (evb rfl e2) rfl) (wn ?_))
 refine CW.su [(3, _), (4, _), (6, _), (7, _), (8, _), (9, _), (10, _), (11, _), (58, _)] ?_
 rcases H with ⟨j4, H⟩ | ⟨j4, H⟩
 ·have j5 := (decide_eq_true j4)
  refine CW.ct rfl j5 (CW.seq ?_)
  refine CW.region_awh (C := fun w_ => St w w_ (.sl a4 a5 a3 a6 118 3 :: oS a0 0 0 (z32) 60 :: oK a2 lA iC iD iE iF lB iG iH 62 :: oM a1 iA pA nA nB pB nC nD iB bA pC nE nF 57 :: (b3 ++ R))) 5 wide (by kernel_rfl) e5 (fun p1 g2 => ?_)
  have g3 : St w p1 (.sl a4 a5 a3 a6 118 3 :: oS a0 0 0 (z32) 60 :: oK a2 lA iC iD iE iF lB iG iH 62 :: oM a1 iA pA nA nB pB nC nD iB bA pC nE nF 57 :: (b3 ++ R)) := (St.pk (L := [_, _, _, _, _, _]) g2 [0, 1, 4, 5])
  refine AWH.kn (St.subset g3 g2 (mcD 0 1 4 5 (mem_TR (A := [_, _, _, _, _, _]) ii))) fun zC4 => ?_
  refine AWH.tk 0 rfl zC4 (fun wq sq => (Runs.load_mid row57 rfl sq (i := 3) rfl (pm [] ((ci iA) ++ ((cl pA nA nB) ++ ((cl pB nC nD) ++ ((ci iB) ++ ((cb bA) ++ (cl pC nE nF)))))) []) rfl)) ?_
  refine AWH.tk 1 rfl zC4 (fun wq sq => (Runs.load_mid row62 rfl sq (i := 2) rfl (pm [] (iv .u8 lA ++ ((ci iC) ++ ((cu iD) ++ ((cu iE) ++ ((cu iF) ++ (iv .u8 lB ++ ((cu iG) ++ (cu iH)))))))) [] (hm := by simp [lv, c2, l2])) (by simp [lv, c2, l2]))) ?_
  refine AWH.tk 2 rfl zC4 (fun wq sq => (Runs.build_struct (ps := [(0, 1), (1, 1), (2, 32)]) (cs := ((cu 0) ++ ((cu 0) ++ iv .u8 (z32)))) plc60 zero60 rfl Fills.nil)) ?_
  refine AWH.step 3 rfl (by decide) (by kernel_rfl) (fun inv_ hs_ hk_ hc_ hn_ => ?_)
  refine WL.sw 3 g2 row57 rfl rfl rfl ?_
  intro p2 h5
  try dsimp only [List.set] at h5
  refine WL.nil ?_
  refine AWH.back (St.subset g3 h5 (mcD 0 1 4 5 (mem_TR (A := [_, _, _, _, _, _]) ii))) inv_ hs_ hk_ hc_ hn_ ?_
  refine AWH.step 4 rfl (by decide) (by kernel_rfl) (fun inv_ hs_ hk_ hc_ hn_ => ?_)
  refine WL.sw 2 h5 row62 rfl rfl rfl (hm := by simp [lv, c2, l2]) ?_
  intro p3 h6
  try dsimp only [List.set] at h6
  refine WL.nil ?_
  refine AWH.back (St.subset g3 h6 (mcD 0 1 4 5 (mem_TR (A := [_, _, _, _, _, _]) ii))) inv_ hs_ hk_ hc_ hn_ ?_
  refine AWH.tail (by kernel_rfl) ?_
  refine AW.step 5 rfl (by kernel_rfl) ?_
  refine WL.sw 1 h6 row60 rfl rfl rfl ?_
  intro p4 f5
  try dsimp only [List.set] at f5
  refine WL.nil ?_
  refine AW.back  ?_
  refine AW.tk 6 rfl (fun _ => (Runs.assign rfl)) ?_
  refine AW.done (by kernel_rfl) ?_
  refine QW.then_n (CW.ret (QW.then_r ?_))
  obtain ⟨rfl, rfl, rfl, rfl, rfl, rfl, rfl, rfl, rfl, rfl, rfl, rfl, rfl, rfl, rfl, rfl, rfl, rfl⟩ := H
  exact QW.retN4 rfl (Res.row rfl row57 f5 (i := 3) rfl rfl) (Res.row rfl row62 f5 (i := 2) rfl (by simp [lv, c2, l2])) (Res.row rfl row60 f5 (i := 1) rfl (by simp [lv])) (Res.tmp rfl) ⟨b3, pA, nA, nB, pB, nC, nD, pC, nE, nF, b0, (n2.mono b0.1 b0.1), (u1.mono b0.1 b0.1), (u2.mono b0.1 b0.1), c2, l2, (List.length_replicate ..), rfl, (St.pk (L := [_, _, _, _, _, _]) f5 [])⟩
 have j5 := (decide_eq_false j4)
 refine CW.cf rfl j5 (CW.skip (QW.then_n (cr (WL.v (Runs.fieldAddr (off := 34) (p := 34) fld62_3 rfl rfl rfl) ?_))))
 refine WL.v (Runs.load_mid row60 rfl e5 (i := 4) rfl (pm (iv .u8 lA ++ ((ci iC) ++ (cu iD))) ((cu iE) ++ ((cu iF) ++ iv .u8 lB)) ((cu iG) ++ (cu iH)) (ho := by simp [lv, c2]) (hm := by simp [lv, l2])) (by simp [lv, l2])) ?_
 refine WL.alloc e5 zero60 ?_
 intro b4 t6 p5
 refine WL.sw 0 p5 row60 rfl rfl rfl (hm := by simp [lv, l2]) ?_
 intro p6 j6
 try dsimp only [List.set] at j6
 refine wn (CW.seq (cr (WL.as rfl (wn (CW.block ?_)))))
 obtain ⟨p7, H⟩ := H
 refine CW.su [(3, _), (4, _), (6, _), (7, _), (8, _), (9, _), (10, _), (11, _), (13, _), (14, _)] ?_
 refine CW.lp (fun kL1 l_ w_ => ∃ c8 b1 b2 a9 c5 b5 b6 b7 h7 b8 b9 c0 h8 c6 c7 c1 c3 c4 h9 g4 j7 e3, l_ = [(3, .pointer (sp a1)), (4, .pointer (sp a2)), (6, .pointer (sp a7)), (7, .pointer (sp a8)), (8, .pointer (sp a0)), (9, .int .i64 g4), (10, .slice a4 a3 a5), (11, .int .i64 j7), (13, .pointer (sp b4)), (14, .int .i64 e3)] ∧ reliquaryref13_Append.L1 lA iC iD iE iF lB iH iI vC vD iJ bB dB lC iK iL iM iN lD iO iP iQ iR lE iS e1 kL1 b1 b2 a9 c5 h7 h8 c6 c7 h9 g4 j7 e3 ∧ (Pl b3 c8) ∧ (b2.length = 32) ∧ (HS w c8 c8 b5 b6 b7 (f145 w) h7) ∧ (HS w c8 c8 b8 b9 c0 (f145 w) h8) ∧ (HS w c8 c8 c1 c3 c4 (f160 w) h9) ∧ St w w_ (oS b4 iE b1 b2 60 :: .sl a4 a5 a3 a6 118 3 :: oS a0 0 0 (z32) 60 :: oK a8 (z32) 0 0 0 0 (z32) 0 0 62 :: oM a7 0 none 0 0 none 0 0 0 false none 0 0 57 :: oK a2 lA iC iD iE iF lB a9 iH 62 :: oM a1 c5 b5 b6 b7 b8 b9 c0 c6 c7 c1 c3 c4 57 :: (c8 ++ R))) (k := p7) ⟨b3, iF, lB, iG, iA, pA, nA, nB, vA, pB, nC, nD, vB, iB, bA, pC, nE, nF, dA, 0, e6, 0, rfl, H, Pl.refl, l2, (n2.mono b0.1 b0.1), (u1.mono b0.1 b0.1), (u2.mono b0.1 b0.1), j6⟩ ?_
 rintro kL1 t7 t8 ⟨c8, b1, b2, a9, c5, b5, b6, b7, h7, b8, b9, c0, h8, c6, c7, c1, c3, c4, h9, g4, j7, e3, rfl, H, i0, e7, l0, l1, l3, l4⟩
 refine CW.seq (cr (WL.mv rfl (WL.mv rfl ?_)))
 refine WL.v (Runs.len_sl underlying110 rfl (by rw [i8])) ?_
 refine WL.v (Runs.lss rfl rfl rfl) (wn ?_)
 rcases H with ⟨j8, H⟩ | ⟨j8, H⟩
 ·have j9 := (decide_eq_true j8)
  refine CW.ct rfl j9 (CW.skip (QW.then_n (CW.seq (CW.block (CW.seq ?_)))))
  refine CW.region_qa wide (by kernel_rfl) l4 ?_
  refine HL.p (Runs.fieldAddr (off := 32) (p := 32) fld62_1 rfl rfl rfl) ?_
  refine HL.ld 5 nagg3 rfl rfl (pa (.int .i64 iC) (iv .u8 lA) ((cu iD) ++ ((cu iE) ++ ((cu iF) ++ (iv .u8 lB ++ ((cu a9) ++ (cu iH)))))) (ho := by simp [lv, c2])) ?_
  refine HL.p (Runs.fieldAddr (off := 0) (p := 0) fld60_0 rfl rfl rfl) (HL.ld 0 nagg37 rfl rfl (pa (.int .u64 iE) [] ((cu b1) ++ iv .u8 b2)) (HL.p (Runs.fieldAddr (off := 1) (p := 1) fld60_1 rfl rfl rfl) (HL.ld 0 nagg37 rfl rfl (pa (.int .u64 b1) (cu iE) (iv .u8 b2)) (HL.p (Runs.add rfl rfl rfl) (HL.p (Runs.fieldAddr (off := 33) (p := 33) fld62_2 rfl rfl rfl) ?_)))))
  refine HL.ld 5 nagg37 rfl rfl (pa (.int .u64 iD) (iv .u8 lA ++ (ci iC)) ((cu iE) ++ ((cu iF) ++ (iv .u8 lB ++ ((cu a9) ++ (cu iH))))) (ho := by simp [lv, c2])) ?_
  obtain ⟨p8, H⟩ := H
  refine HL.p (Runs.rem rfl rfl p8 rfl) ?_
  obtain ⟨k0, p9, H⟩ := H
  refine HL.p (Runs.conv underlying3 ⟨_, underlying37⟩ rfl p9) (HL.p (Runs.add rfl rfl rfl) (HL.as rfl ?_))
  refine HL.nil (fun q0 k1 => ?_)
  refine WL.nx (WL.mv rfl (WL.mv rfl ?_))
  obtain ⟨⟨q1, q2⟩, H⟩ := H
  obtain ⟨t9, l5, q3, q4, q5⟩ := el_get (i := (e3).toNat) (k1.src_sl (k := 1) rfl) (n7.mono i0.1) (fz118 w) (by decide) (by omega)
  obtain k2 := inv118 q5
  replace k2 : q3 = (cu ((gx e1 (e3.toNat)).1)) ++ ((ct ((gx e1 (e3.toNat)).2.1)) ++ (cb ((gx e1 (e3.toNat)).2.2))) := k2
  subst k2
  refine WL.v (Runs.indexAddr underlying110 cells118 (by decide) rfl l5 rfl q1 (by rw [show a3 = e1.length from i8]; exact q2) (o := (e3.toNat) * 3) (by first | rfl | omega)) ?_
  refine WL.v (Runs.load_srcR row118 rfl (Src.cut (k1.src_sl (k := 1) rfl) l5 q4) rfl) ?_
  obtain ⟨l6, q6, q7, H⟩ := H
  refine wC ent44 rfl (reliquaryref12_Put.calls q7) ?_
  rintro _ l7 ⟨rfl, q8⟩
  have k3 := k1.call q8
  refine ⟨_, rfl, WL.mv rfl (WL.v (Runs.extract rfl rfl) (WL.v (Runs.extract rfl rfl) (WL.as rfl (WL.as rfl (WL.nx (WL.v (Runs.fieldAddr (off := 0) (p := 0) fld62_0 rfl rfl rfl) ?_))))))⟩
  refine WL.v (Runs.load_mid row23 rfl k3 (i := 5) rfl (pm [] (iv .u8 lA) ((ci iC) ++ ((cu iD) ++ ((cu iE) ++ ((cu iF) ++ (iv .u8 lB ++ ((cu a9) ++ (cu iH))))))) (hm := by simp [lv, c2])) (by simp [lv, c2])) ?_
  refine WL.mv rfl (WL.v (Runs.conv underlying24 ⟨_, underlying3⟩ rfl rfl) (WL.v (Runs.fieldAddr (off := 68) (p := 68) fld62_4 rfl rfl rfl) ?_))
  refine WL.ld 5 nagg37 k3 rfl rfl (pa (.int .u64 a9) (iv .u8 lA ++ ((ci iC) ++ ((cu iD) ++ ((cu iE) ++ ((cu iF) ++ iv .u8 lB))))) (cu iH) (ho := by simp [lv, c2, l2])) ?_
  refine WL.mv rfl ?_
  obtain ⟨k4, q9, r0, H⟩ := H
  refine wC ent45 rfl (reliquaryref08_Seal.calls c2 r0) ?_
  rintro _ r1 ⟨rfl, r2⟩
  have l8 := k3.call r2
  refine ⟨_, rfl, WL.mv rfl (WL.v (Runs.extract rfl rfl) (WL.v (Runs.extract rfl rfl) (WL.as rfl (WL.as rfl (WL.nx (WL.v (Runs.fieldAddr (off := 68) (p := 68) fld62_4 rfl rfl rfl) ?_))))))⟩
  refine WL.ld 5 nagg37 l8 rfl rfl (pa (.int .u64 a9) (iv .u8 lA ++ ((ci iC) ++ ((cu iD) ++ ((cu iE) ++ ((cu iF) ++ iv .u8 lB))))) (cu iH) (ho := by simp [lv, c2, l2])) ?_
  refine WL.v (Runs.add rfl rfl rfl) (WL.v (Runs.fieldAddr (off := 68) (p := 68) fld62_4 rfl rfl rfl) ?_)
  refine WL.so (new := (iv .u8 lA ++ ((ci iC) ++ ((cu iD) ++ ((cu iE) ++ ((cu iF) ++ (iv .u8 lB ++ ((cu (u64.wrap (a9 + 1))) ++ (cu iH))))))))) (i := 5) (u0 := .int .u64 a9) (pre := (iv .u8 lA ++ ((ci iC) ++ ((cu iD) ++ ((cu iE) ++ ((cu iF) ++ iv .u8 lB)))))) (post := ((cu iH))) l8 rfl cells37 (by first | rfl | simp only [aa, an, na, ca]) (by simp [lv, c2, l2]) rfl rfl rfl (by first | rfl | simp only [aa, an, na, ca]) ?_
  intro k5 i1
  try dsimp only [List.set] at i1
  refine WL.nx (WL.v (Runs.load_mid row57 rfl i1 (i := 6) rfl (pm [] ((ci c5) ++ ((cl b5 b6 b7) ++ ((cl b8 b9 c0) ++ ((ci c6) ++ ((cb c7) ++ (cl c1 c3 c4)))))) []) rfl) (WL.mv rfl (WL.mv rfl ?_)))
  have r3 := St.hide (A := []) (B := [_, _, _, _, _, _, _]) i1
  obtain ⟨c9, l9, m0, d0, d1, m1, i2, r4, H⟩ := H
  refine wC ent46 rfl (reliquaryref06_Write.calls c8 r3 l0 l1 l3 r4) ?_
  rintro _ r5 ⟨e4, d2, d3, d4, d5, d6, d7, d8, d9, e0, m2, m3, m4, m5, rfl, r6⟩
  have r7 := St.unhide (A := []) (B := [_, _, _, _, _, _, _]) r6; dsimp only [ec, en] at r7
  refine ⟨_, rfl, WL.mv rfl (WL.v (Runs.extract rfl rfl) (WL.v (Runs.extract rfl rfl) (WL.sw 6 r7 row57 rfl rfl rfl ?_)))⟩
  intro r8 g5
  try dsimp only [List.set] at g5
  refine WL.as rfl (wn (CW.seq (cr (WL.mv rfl (WL.v (Runs.neq rfl rfl rfl) (wn ?_))))))
  rcases H with ⟨k6, H⟩ | ⟨k6, H⟩
  ·have k7 := (bne_iff_ne.mpr k6)
   refine CW.ct rfl k7 (CW.seq ?_)
   refine CW.region_awh (C := fun w_ => St w w_ (oS b4 iE b1 b2 60 :: .sl a4 a5 a3 a6 118 3 :: oS a0 0 0 (z32) 60 :: oK a2 lA iC iD iE iF lB (u64.wrap (a9 + 1)) iH 62 :: oM a1 c9 d2 d3 d4 d5 d6 d7 d0 d1 d8 d9 e0 57 :: (e4 ++ R))) 7 wide (by kernel_rfl) g5 (fun r9 f6 => ?_)
   have f0 : St w r9 (oS b4 iE b1 b2 60 :: .sl a4 a5 a3 a6 118 3 :: oS a0 0 0 (z32) 60 :: oK a2 lA iC iD iE iF lB (u64.wrap (a9 + 1)) iH 62 :: oM a1 c9 d2 d3 d4 d5 d6 d7 d0 d1 d8 d9 e0 57 :: (e4 ++ R)) := (St.pk (L := [_, _, _, _, _, _, _]) f6 [0, 1, 2, 5, 6])
   refine AWH.kn (St.subset f0 f6 (mcD 0 1 2 5 (mc 6 rfl (mem_TR (A := [_, _, _, _, _, _, _]) ii)))) fun zC5 => ?_
   refine AWH.tk 0 rfl zC5 (fun wq sq => (Runs.load_mid row57 rfl sq (i := 4) rfl (pm [] ((ci c9) ++ ((cl d2 d3 d4) ++ ((cl d5 d6 d7) ++ ((ci d0) ++ ((cb d1) ++ (cl d8 d9 e0)))))) []) rfl)) ?_
   refine AWH.tk 1 rfl zC5 (fun wq sq => (Runs.load_mid row62 rfl sq (i := 3) rfl (pm [] (iv .u8 lA ++ ((ci iC) ++ ((cu iD) ++ ((cu iE) ++ ((cu iF) ++ (iv .u8 lB ++ ((cu (u64.wrap (a9 + 1))) ++ (cu iH)))))))) [] (hm := by simp [lv, c2, l2])) (by simp [lv, c2, l2]))) ?_
   refine AWH.tk 2 rfl zC5 (fun wq sq => (Runs.build_struct (ps := [(0, 1), (1, 1), (2, 32)]) (cs := ((cu 0) ++ ((cu 0) ++ iv .u8 (z32)))) plc60 zero60 rfl Fills.nil)) ?_
   refine AWH.tk 3 rfl zC5 (fun wq sq => (Runs.move rfl)) ?_
   refine AWH.step 4 rfl (by decide) (by kernel_rfl) (fun inv_ hs_ hk_ hc_ hn_ => ?_)
   refine WL.sw 4 f6 row57 rfl rfl rfl ?_
   intro s0 i3
   try dsimp only [List.set] at i3
   refine WL.nil ?_
   refine AWH.back (St.subset f0 i3 (mcD 0 1 2 5 (mc 6 rfl (mem_TR (A := [_, _, _, _, _, _, _]) ii)))) inv_ hs_ hk_ hc_ hn_ ?_
   refine AWH.step 5 rfl (by decide) (by kernel_rfl) (fun inv_ hs_ hk_ hc_ hn_ => ?_)
   refine WL.sw 3 i3 row62 rfl rfl rfl (hm := by simp [lv, c2, l2]) ?_
   intro s1 i4
   try dsimp only [List.set] at i4
   refine WL.nil ?_
   refine AWH.back (St.subset f0 i4 (mcD 0 1 2 5 (mc 6 rfl (mem_TR (A := [_, _, _, _, _, _, _]) ii)))) inv_ hs_ hk_ hc_ hn_ ?_
   refine AWH.step 6 rfl (by decide) (by kernel_rfl) (fun inv_ hs_ hk_ hc_ hn_ => ?_)
   refine WL.sw 2 i4 row60 rfl rfl rfl ?_
   intro s2 f1
   try dsimp only [List.set] at f1
   refine WL.nil ?_
   refine AWH.back (St.subset f0 f1 (mcD 0 1 2 5 (mc 6 rfl (mem_TR (A := [_, _, _, _, _, _, _]) ii)))) inv_ hs_ hk_ hc_ hn_ ?_
   refine AWH.tail (by kernel_rfl) ?_
   refine AW.tk 7 rfl (fun _ => (Runs.assign rfl)) ?_
   refine AW.done (by kernel_rfl) ?_
   refine QW.then_n (CW.ret (QW.then_r (QW.blk_r (QW.then_r (QW.then_r (QW.blk_r (QW.then_r ?_)))))))
   obtain ⟨rfl, rfl, rfl, rfl, rfl, rfl, rfl, rfl, rfl, rfl, rfl, rfl, rfl, rfl, rfl, rfl, rfl, rfl⟩ := H
   exact QW.retN4 rfl (Res.row rfl row57 f1 (i := 4) rfl rfl) (Res.row rfl row62 f1 (i := 3) rfl (by simp [lv, c2, l2])) (Res.row rfl row60 f1 (i := 2) rfl (by simp [lv])) (Res.tmp rfl) ⟨e4, d2, d3, d4, d5, d6, d7, d8, d9, e0, ((b0.trans i0).trans m2), m3, m4, m5, c2, l2, (List.length_replicate ..), rfl, (St.pk (L := [_, _, _, _, _, _, _]) f1 [])⟩
  have k7 : (i2 != 0) = false := (bne_eq_false_iff_eq.mpr (Decidable.not_not.mp k6))
  refine CW.cf rfl k7 (CW.skip (QW.then_n (cr (WL.v (Runs.fieldAddr (off := 1) (p := 1) fld60_1 rfl rfl rfl) (WL.ld 0 nagg37 g5 rfl rfl (pa (.int .u64 b1) (cu iE) (iv .u8 b2)) (WL.v (Runs.add rfl rfl rfl) (WL.v (Runs.fieldAddr (off := 1) (p := 1) fld60_1 rfl rfl rfl) ?_)))))))
  refine WL.so (new := ((cu iE) ++ ((cu (u64.wrap (b1 + 1))) ++ iv .u8 b2))) (i := 0) (u0 := .int .u64 b1) (pre := ((cu iE))) (post := (iv .u8 b2)) g5 rfl cells37 (by first | rfl | simp only [aa, an, na, ca]) rfl rfl rfl rfl rfl ?_
  intro m6 i5
  try dsimp only [List.set] at i5
  refine wn (CW.region (WL.v (Runs.fieldAddr (off := 2) (p := 2) fld60_2 rfl rfl rfl) ?_))
  refine WL.v (Runs.load_mid row23 rfl i5 (i := 0) rfl (pm ((cu iE) ++ (cu (u64.wrap (b1 + 1)))) (iv .u8 b2) [] (hm := by simp [lv, e7])) (by simp [lv, e7])) ?_
  refine WL.mv rfl (WL.v (Runs.conv underlying24 ⟨_, underlying3⟩ rfl rfl) (WL.mv rfl ?_))
  obtain ⟨g6, s3, H⟩ := H
  refine wC ent10 rfl (reliquaryref13_Link.calls e7 s3) ?_
  rintro _ s4 ⟨m7, rfl, s5⟩
  have s6 := i5.call s5
  refine ⟨_, rfl, WL.v (Runs.fieldAddr (off := 2) (p := 2) fld60_2 rfl rfl rfl) ?_⟩
  refine WL.sm (new := ((cu iE) ++ ((cu (u64.wrap (b1 + 1))) ++ iv .u8 g6))) (i := 0) (pre := ((cu iE) ++ (cu (u64.wrap (b1 + 1))))) (mid := (iv .u8 b2)) (post := (([] : Cs))) (ms := (iv .u8 g6)) s6 rfl row23 (by first | rfl | simp only [aa, an, na, ca]) rfl rfl rfl (by simp [lv, m7]) (by simp [lv, e7]) (one_iv _ _) (by first | rfl | simp only [aa, an, na, ca]) ?_
  intro s7 k8
  try dsimp only [List.set] at k8
  refine WL.nil (QW.blk_n (QW.then_n (CW.region (WL.mv rfl (WL.v (Runs.add rfl rfl rfl) (WL.as rfl (WL.nil ?_)))))))
  exact QW.a ⟨e4, u64.wrap (b1 + 1), g6, u64.wrap (a9 + 1), c9, d2, d3, d4, l9, d5, d6, d7, m0, d0, d1, d8, d9, e0, m1, g4, i2, i64.wrap (e3 + 1), rfl, H, (i0.trans m2), m7, m3, m4, m5, k8⟩
 have j9 := (decide_eq_false j8)
 refine CW.cf rfl j9 (CW.exit (QW.then_x (QW.then_x (QW.blk_x (QW.then_n ?_)))))
 refine CW.su [(3, _), (4, _), (6, _), (7, _), (8, _), (9, _), (13, _)] ?_
 refine CW.seq ?_
 refine CW.region_awh (C := fun w_ => St w w_ (oS b4 iE b1 b2 60 :: .sl a4 a5 a3 a6 118 3 :: oS a0 0 0 (z32) 60 :: oK a2 lA iC iD iE iF lB a9 iH 62 :: oM a1 c5 b5 b6 b7 b8 b9 c0 c6 c7 c1 c3 c4 57 :: (c8 ++ R))) 5 wide (by kernel_rfl) l4 (fun s8 g7 => ?_)
 have g8 : St w s8 (oS b4 iE b1 b2 60 :: .sl a4 a5 a3 a6 118 3 :: oS a0 0 0 (z32) 60 :: oK a2 lA iC iD iE iF lB a9 iH 62 :: oM a1 c5 b5 b6 b7 b8 b9 c0 c6 c7 c1 c3 c4 57 :: (c8 ++ R)) := (St.pk (L := [_, _, _, _, _, _, _]) g7 [0, 1, 2, 5, 6])
 refine AWH.kn (St.subset g8 g7 (mcD 0 1 2 5 (mc 6 rfl (mem_TR (A := [_, _, _, _, _, _, _]) ii)))) fun zC6 => ?_
 refine AWH.tk 0 rfl zC6 (fun wq sq => (Runs.load_mid row57 rfl sq (i := 4) rfl (pm [] ((ci c5) ++ ((cl b5 b6 b7) ++ ((cl b8 b9 c0) ++ ((ci c6) ++ ((cb c7) ++ (cl c1 c3 c4)))))) []) rfl)) ?_
 refine AWH.tk 1 rfl zC6 (fun wq sq => (Runs.load_mid row62 rfl sq (i := 3) rfl (pm [] (iv .u8 lA ++ ((ci iC) ++ ((cu iD) ++ ((cu iE) ++ ((cu iF) ++ (iv .u8 lB ++ ((cu a9) ++ (cu iH)))))))) [] (hm := by simp [lv, c2, l2])) (by simp [lv, c2, l2]))) ?_
 refine AWH.tk 2 rfl zC6 (fun wq sq => (Runs.load_mid row60 rfl sq (i := 0) rfl (pm [] ((cu iE) ++ ((cu b1) ++ iv .u8 b2)) [] (hm := by simp [lv, e7])) (by simp [lv, e7]))) ?_
 refine AWH.step 3 rfl (by decide) (by kernel_rfl) (fun inv_ hs_ hk_ hc_ hn_ => ?_)
 refine WL.sw 4 g7 row57 rfl rfl rfl ?_
 intro s9 i6
 try dsimp only [List.set] at i6
 refine WL.nil ?_
 refine AWH.back (St.subset g8 i6 (mcD 0 1 2 5 (mc 6 rfl (mem_TR (A := [_, _, _, _, _, _, _]) ii)))) inv_ hs_ hk_ hc_ hn_ ?_
 refine AWH.step 4 rfl (by decide) (by kernel_rfl) (fun inv_ hs_ hk_ hc_ hn_ => ?_)
 refine WL.sw 3 i6 row62 rfl rfl rfl (hm := by simp [lv, c2, l2]) ?_
 intro t0 i7
 try dsimp only [List.set] at i7
 refine WL.nil ?_
 refine AWH.back (St.subset g8 i7 (mcD 0 1 2 5 (mc 6 rfl (mem_TR (A := [_, _, _, _, _, _, _]) ii)))) inv_ hs_ hk_ hc_ hn_ ?_
 refine AWH.tail (by kernel_rfl) ?_
 refine AW.step 5 rfl (by kernel_rfl) ?_
 refine WL.sw 2 i7 row60 rfl rfl rfl (hm := by simp [lv, e7]) ?_
 intro t1 f7
 try dsimp only [List.set] at f7
 refine WL.nil ?_
 refine AW.back  ?_
 refine AW.tk 6 rfl (fun _ => (Runs.assign rfl)) ?_
 refine AW.done (by kernel_rfl) ?_
 refine QW.then_n (CW.ret ?_)
 obtain ⟨rfl, rfl, rfl, rfl, rfl, rfl, rfl, rfl, rfl, rfl, rfl, rfl, rfl, rfl, rfl, rfl, rfl, rfl⟩ := H
 exact QW.retN4 rfl (Res.row rfl row57 f7 (i := 4) rfl rfl) (Res.row rfl row62 f7 (i := 3) rfl (by simp [lv, c2, l2])) (Res.row rfl row60 f7 (i := 2) rfl (by simp [lv, e7])) (Res.tmp rfl) ⟨c8, b5, b6, b7, b8, b9, c0, c1, c3, c4, (b0.trans i0), l0, l1, l3, c2, l2, e7, rfl, (St.pk (L := [_, _, _, _, _, _, _]) f7 [])⟩
def reliquaryref13_Adopt.rel (a1 : List Int) (a3 a0 b5 b6 : Int) (b7 : List Int) (a4 b8 a5 a6 : Int) (b9 : List Int) (a2 : Int) (a7 : List Int) (a8 a9 b0 b1 : Int) (b2 : List Int) (b3 b4 : Int) : Prop := ((a5 ≥ a0 ∧ a7 = a1 ∧ a8 = a3 ∧ a9 = a0 ∧ b0 = b5 ∧ b1 = b6 ∧ b2 = b7 ∧ b3 = a4 ∧ b4 = b8) ∨ (¬ (a5 ≥ a0) ∧ ((a6 > a0 ∧ a7 = a1 ∧ a8 = a3 ∧ a9 = a0 ∧ b0 = b5 ∧ b1 = b6 ∧ b2 = b7 ∧ b3 = a4 ∧ b4 = b8) ∨ (¬ (a6 > a0) ∧ ((a2 > 9223372036854775807 ∧ a7 = a1 ∧ a8 = a3 ∧ a9 = a0 ∧ b0 = a5 ∧ b1 = a6 ∧ b2 = b9 ∧ b3 = a4 ∧ b4 = 9223372036854775807) ∨ (¬ (a2 > 9223372036854775807) ∧ a7 = a1 ∧ a8 = a3 ∧ a9 = a0 ∧ b0 = a5 ∧ b1 = a6 ∧ b2 = b9 ∧ b3 = a4 ∧ b4 = a2))))))
theorem reliquaryref13_Adopt.calls (a2 : lA.length = 32) (d1 : lB.length = 32) (d0 : lC.length = 32) (H : reliquaryref13_Adopt.rel lA iA iB iC iD lB iE iF iG iH lC iI lD iJ iK iL iM lE iN iO) :
  Calls prog 49 #[.agg (iv .u8 lA ++ ((ci iA) ++ ((cu iB) ++ ((cu iC) ++ ((cu iD) ++ (iv .u8 lB ++ ((cu iE) ++ (cu iF)))))))).toArray, .agg ((cu iG) ++ ((cu iH) ++ iv .u8 lC)).toArray, .int .u64 iI] w fun e w' => lD.length = 32 ∧ lE.length = 32 ∧ e = .returned (.agg (iv .u8 lD ++ ((ci iJ) ++ ((cu iK) ++ ((cu iL) ++ ((cu iM) ++ (iv .u8 lE ++ ((cu iN) ++ (cu iO)))))))).toArray) ∧ St w w' [] := by
 refine CW.en func49 rfl 28 [_, _, _] (CW.sub [(0, _), (1, _), (2, _)] ⟨rfl, rfl, rfl, trivial⟩ ?_)
 have st0 := St.refl w
 refine cr (WL.box st0 rfl rfl ?_)
 intro a3 c7 b8
 refine WL.box b8 rfl rfl ?_
 intro a5 c8 b9
 refine WL.alloc b9 zero62 ?_
 intro a1 c9 a4
 refine wn (CW.seq (cr (WL.v (Runs.fieldAddr (off := 0) (p := 0) fld60_0 rfl rfl rfl) (WL.ld 1 nagg37 a4 rfl rfl (pa (.int .u64 iG) [] ((cu iH) ++ iv .u8 lC)) (WL.v (Runs.fieldAddr (off := 33) (p := 33) fld62_2 rfl rfl rfl) ?_)))))
 refine WL.ld 2 nagg37 a4 rfl rfl (pa (.int .u64 iB) (iv .u8 lA ++ (ci iA)) ((cu iC) ++ ((cu iD) ++ (iv .u8 lB ++ ((cu iE) ++ (cu iF))))) (ho := by simp [lv, a2])) ?_
 refine WL.v (Runs.geq rfl rfl rfl) (WL.mv rfl ?_)
 rcases H with ⟨b2, H⟩ | ⟨b2, H⟩
 ·have a0 := (decide_eq_true b2)
  iterate 5 (refine WL.off ?_ ?_; exact Wg 12 a0)
  refine WL.v (Runs.pick_t (evb rfl a0) rfl) (wn ?_)
  refine CW.su [(2, _), (3, _), (4, _), (6, _), (18, _)] ?_
  refine CW.ct rfl rfl (cr ?_)
  refine WL.v (Runs.load_mid row62 rfl a4 (i := 2) rfl (pm [] (iv .u8 lA ++ ((ci iA) ++ ((cu iB) ++ ((cu iC) ++ ((cu iD) ++ (iv .u8 lB ++ ((cu iE) ++ (cu iF)))))))) [] (hm := by simp [lv, a2, d1])) (by simp [lv, a2, d1])) ?_
  refine WL.sw 0 a4 row62 rfl rfl rfl (hm := by simp [lv, a2, d1]) ?_
  intro c0 a7
  try dsimp only [List.set] at a7
  refine wn (CW.ret (QW.then_r ?_))
  obtain ⟨rfl, rfl, rfl, rfl, rfl, rfl, rfl, rfl⟩ := H
  exact QW.retr rfl row62 rfl a7 (i := 0) rfl (by simp [lv, a2, d1]) ⟨a2, d1, rfl, a7.pick [] (by decide)⟩
 have a0 := (decide_eq_false b2)
 refine WL.on ?_ ?_; exact Wg 12 a0
 refine WL.v (Runs.fieldAddr (off := 1) (p := 1) fld60_1 rfl rfl rfl) ?_
 refine WL.on ?_ ?_; exact Wg 12 a0
 refine WL.ld 1 nagg37 a4 rfl rfl (pa (.int .u64 iH) (cu iG) (iv .u8 lC)) ?_
 refine WL.on ?_ ?_; exact Wg 12 a0
 refine WL.v (Runs.fieldAddr (off := 33) (p := 33) fld62_2 rfl rfl rfl) ?_
 refine WL.on ?_ ?_; exact Wg 12 a0
 refine WL.ld 2 nagg37 a4 rfl rfl (pa (.int .u64 iB) (iv .u8 lA ++ (ci iA)) ((cu iC) ++ ((cu iD) ++ (iv .u8 lB ++ ((cu iE) ++ (cu iF))))) (ho := by simp [lv, a2])) ?_
 refine WL.on ?_ ?_; exact Wg 12 a0
 refine WL.v (Runs.gtr rfl rfl rfl) (WL.v (Runs.pick_f (evb rfl a0) rfl) (wn ?_))
 refine CW.su [(2, _), (3, _), (4, _), (6, _), (18, _)] ?_
 rcases H with ⟨b3, H⟩ | ⟨b3, H⟩
 ·have b4 := (decide_eq_true b3)
  refine CW.ct rfl b4 (cr ?_)
  refine WL.v (Runs.load_mid row62 rfl a4 (i := 2) rfl (pm [] (iv .u8 lA ++ ((ci iA) ++ ((cu iB) ++ ((cu iC) ++ ((cu iD) ++ (iv .u8 lB ++ ((cu iE) ++ (cu iF)))))))) [] (hm := by simp [lv, a2, d1])) (by simp [lv, a2, d1])) ?_
  refine WL.sw 0 a4 row62 rfl rfl rfl (hm := by simp [lv, a2, d1]) ?_
  intro c1 a8
  try dsimp only [List.set] at a8
  refine wn (CW.ret (QW.then_r ?_))
  obtain ⟨rfl, rfl, rfl, rfl, rfl, rfl, rfl, rfl⟩ := H
  exact QW.retr rfl row62 rfl a8 (i := 0) rfl (by simp [lv, a2, d1]) ⟨a2, d1, rfl, a8.pick [] (by decide)⟩
 have b4 := (decide_eq_false b3)
 refine CW.cf rfl b4 (CW.skip (QW.then_n (cr ?_)))
 refine WL.v (Runs.load_mid row60 rfl a4 (i := 1) rfl (pm [] ((cu iG) ++ ((cu iH) ++ iv .u8 lC)) [] (hm := by simp [lv, d0])) (by simp [lv, d0])) ?_
 refine WL.v (Runs.fieldAddr (off := 34) (p := 34) fld62_3 rfl rfl rfl) ?_
 refine WL.sm (new := (iv .u8 lA ++ ((ci iA) ++ ((cu iB) ++ ((cu iG) ++ ((cu iH) ++ (iv .u8 lC ++ ((cu iE) ++ (cu iF))))))))) (i := 2) (pre := (iv .u8 lA ++ ((ci iA) ++ (cu iB)))) (mid := ((cu iC) ++ ((cu iD) ++ iv .u8 lB))) (post := ((cu iE) ++ (cu iF))) (ms := ((cu iG) ++ ((cu iH) ++ iv .u8 lC))) a4 rfl row60 (by first | rfl | simp only [aa, an, na, ca]) (by simp [lv, a2]) rfl rfl (by simp [lv, d0]) (by simp [lv, d1]) (one_cat oneU (one_cat oneU (one_iv _ _))) (by first | rfl | simp only [aa, an, na, ca]) ?_
 intro c2 b5
 try dsimp only [List.set] at b5
 refine WL.nx (WL.mv rfl (WL.v (Runs.fieldAddr (off := 69) (p := 69) fld62_5 rfl rfl rfl) ?_))
 refine WL.so (new := (iv .u8 lA ++ ((ci iA) ++ ((cu iB) ++ ((cu iG) ++ ((cu iH) ++ (iv .u8 lC ++ ((cu iE) ++ (cu iI))))))))) (i := 2) (u0 := .int .u64 iF) (pre := (iv .u8 lA ++ ((ci iA) ++ ((cu iB) ++ ((cu iG) ++ ((cu iH) ++ (iv .u8 lC ++ (cu iE)))))))) (post := (([] : Cs))) b5 rfl cells37 (by first | rfl | simp only [aa, an, na, ca]) (by simp [lv, a2, d0]) rfl rfl rfl (by first | rfl | simp only [aa, an, na, ca]) ?_
 intro c3 a6
 try dsimp only [List.set] at a6
 refine wn (CW.sub [(2, _), (3, _), (6, _)] ⟨rfl, rfl, rfl, trivial⟩ (CW.seq (cr (WL.mv rfl (WL.v (Runs.gtr rfl rfl rfl) (wn ?_))))))
 rcases H with ⟨b6, H⟩ | ⟨b6, H⟩
 ·have b7 := (decide_eq_true b6)
  refine CW.ct rfl b7 (CW.region (WL.v (Runs.fieldAddr (off := 69) (p := 69) fld62_5 rfl rfl rfl) ?_))
  refine WL.so (new := (iv .u8 lA ++ ((ci iA) ++ ((cu iB) ++ ((cu iG) ++ ((cu iH) ++ (iv .u8 lC ++ ((cu iE) ++ (cu 9223372036854775807))))))))) (i := 2) (u0 := .int .u64 iI) (pre := (iv .u8 lA ++ ((ci iA) ++ ((cu iB) ++ ((cu iG) ++ ((cu iH) ++ (iv .u8 lC ++ (cu iE)))))))) (post := (([] : Cs))) a6 rfl cells37 (by first | rfl | simp only [aa, an, na, ca]) (by simp [lv, a2, d0]) rfl rfl rfl (by first | rfl | simp only [aa, an, na, ca]) ?_
  intro c4 a9
  try dsimp only [List.set] at a9
  refine WL.nx ?_
  refine WL.v (Runs.load_mid row62 rfl a9 (i := 2) rfl (pm [] (iv .u8 lA ++ ((ci iA) ++ ((cu iB) ++ ((cu iG) ++ ((cu iH) ++ (iv .u8 lC ++ ((cu iE) ++ (cu 9223372036854775807)))))))) [] (hm := by simp [lv, a2, d0])) (by simp [lv, a2, d0])) ?_
  refine WL.sw 0 a9 row62 rfl rfl rfl (hm := by simp [lv, a2, d0]) ?_
  intro c5 b0
  try dsimp only [List.set] at b0
  refine wn (CW.ret ?_)
  obtain ⟨rfl, rfl, rfl, rfl, rfl, rfl, rfl, rfl⟩ := H
  exact QW.retr rfl row62 rfl b0 (i := 0) rfl (by simp [lv, a2, d0]) ⟨a2, d0, rfl, b0.pick [] (by decide)⟩
 have b7 := (decide_eq_false b6)
 refine CW.cf rfl b7 (CW.skip (QW.then_n (cr ?_)))
 refine WL.v (Runs.load_mid row62 rfl a6 (i := 2) rfl (pm [] (iv .u8 lA ++ ((ci iA) ++ ((cu iB) ++ ((cu iG) ++ ((cu iH) ++ (iv .u8 lC ++ ((cu iE) ++ (cu iI)))))))) [] (hm := by simp [lv, a2, d0])) (by simp [lv, a2, d0])) ?_
 refine WL.sw 0 a6 row62 rfl rfl rfl (hm := by simp [lv, a2, d0]) ?_
 intro c6 b1
 try dsimp only [List.set] at b1
 refine wn (CW.ret ?_)
 obtain ⟨rfl, rfl, rfl, rfl, rfl, rfl, rfl, rfl⟩ := H
 exact QW.retr rfl row62 rfl b1 (i := 0) rfl (by simp [lv, a2, d0]) ⟨a2, d0, rfl, b1.pick [] (by decide)⟩
def disk_Disk_Stop.rel (a0 : List R25) (a2 : List R124) (b0 : Int) (a3 : Bool) (a4 : List R48) (a1 : Int) (a5 : List R25) (a6 : List R124) (a7 : Int) (a8 : Bool) (a9 : List R48) : Prop := a5 = a0 ∧ a6 = a2 ∧ a7 = maxI a1 (-1) ∧ a8 = a3 ∧ a9 = a4
theorem disk_Disk_Stop.calls (T : Pool) (st0 : St w w1 (oD nA pA nB nC pB nD nE iA bA pC nF nG 95 :: .sl pA nC nB xA 25 1 :: .sl pB nE nD xB 124 2 :: .sl pC nG nF xC 48 2 :: (T ++ R))) (b4 : nB = qA.length) (b5 : HRs T (f25 w) xA qA) (b6 : nD = rA.length) (b7 : HRs T (f124 w) xB rA) (b8 : nF = sA.length) (b9 : HRs T (f48 w) xC sA) (H : disk_Disk_Stop.rel qA rA iA bA sA iB qB rB iC bB sB) :
  Calls prog 50 #[.pointer (sp nA), .int .i64 iB] w1 fun e w' => ∃ T' a5 a1 a6 a7 a8 a3 a9 b0 b1 a4 b2 b3, Pl T T' ∧ a1 = qB.length ∧ HRs T' (f25 w) a7 qB ∧ a3 = rB.length ∧ HRs T' (f124 w) b0 rB ∧ a4 = sB.length ∧ HRs T' (f48 w) b3 sB ∧ e = .returned (.tuple #[]) ∧ St w w' (oD nA a5 a1 a6 a8 a3 a9 iC bB b1 a4 b2 95 :: .sl a5 a6 a1 a7 25 1 :: .sl a8 a9 a3 b0 124 2 :: .sl b1 b2 a4 b3 48 2 :: (T' ++ R)) := by
 refine CW.en func50 rfl 11 [_, _] (CW.sub [(0, _), (1, _)] ⟨rfl, rfl, trivial⟩ (cr (WL.mv rfl (WL.v (Runs.neq_ptr underlying30 rfl rfl rfl) (wn (CW.ct rfl rfl (CW.region (WL.mv rfl (WL.mv rfl (WL.v (Runs.max2 rfl rfl rfl) ?_))))))))))
 refine WL.v (Runs.nilCheck rfl) (WL.v (Runs.fieldAddr (off := 2) (p := 2) fld95_2 rfl rfl rfl) ?_)
 refine WL.so (new := ((cl pA nB nC) ++ ((cl pB nD nE) ++ ((ci (maxI iB (-1))) ++ ((cb bA) ++ (cl pC nF nG)))))) (i := 0) (u0 := .int .i64 iA) (pre := ((cl pA nB nC) ++ (cl pB nD nE))) (post := ((cb bA) ++ (cl pC nF nG))) st0 rfl cells3 (by first | rfl | simp only [aa, an, na, ca]) rfl rfl rfl rfl rfl ?_
 intro a2 a0
 try dsimp only [List.set] at a0
 refine WL.nil ?_
 obtain ⟨rfl, rfl, rfl, rfl, rfl⟩ := H
 exact QW.end0 rfl ⟨T, pA, nB, nC, xA, pB, nD, nE, xB, pC, nF, nG, xC, Pl.refl, b4, b5, b6, b7, b8, b9, rfl, (St.pk (L := [_, _, _, _]) a0 [0, 1, 2, 3])⟩
def reliquaryref06_Stop.rel (a0 : Int) (a2 a3 : List R145) (b2 : Int) (a4 : Bool) (a5 : List R160) (a1 a6 : Int) (a7 a8 : List R145) (a9 : Int) (b0 : Bool) (b1 : List R160) : Prop := ((a1 < 0 ∧ a6 = a0 ∧ a7 = a2 ∧ a8 = a3 ∧ a9 = -1 ∧ b0 = a4 ∧ b1 = a5) ∨ (¬ (a1 < 0) ∧ a6 = a0 ∧ a7 = a2 ∧ a8 = a3 ∧ a9 = a1 ∧ b0 = a4 ∧ b1 = a5))
theorem reliquaryref06_Stop.calls (T : Pool) (st0 : St w w1 ((T ++ R))) (a1 : HS w T T pA nA nB (f145 w) vA) (b7 : HS w T T pB nC nD (f145 w) vB) (b8 : HS w T T pC nE nF (f160 w) dA) (H : reliquaryref06_Stop.rel iA vA vB iB bA dA iC iD vC vD iE bB dB) :
  Calls prog 51 #[.agg ((ci iA) ++ ((cl pA nA nB) ++ ((cl pB nC nD) ++ ((ci iB) ++ ((cb bA) ++ (cl pC nE nF)))))).toArray, .int .i64 iC] w1 fun e w' => ∃ T' b9 c0 c1 c2 c3 c4 c5 c6 c7, Pl T T' ∧ HS w T' T' b9 c0 c1 (f145 w) vC ∧ HS w T' T' c2 c3 c4 (f145 w) vD ∧ HS w T' T' c5 c6 c7 (f160 w) dB ∧ e = .returned (.agg ((ci iD) ++ ((cl b9 c0 c1) ++ ((cl c2 c3 c4) ++ ((ci iE) ++ ((cb bB) ++ (cl c5 c6 c7)))))).toArray) ∧ St w w' ((T' ++ R)) := by
 refine CW.en func51 rfl 11 [_, _] (CW.sub [(0, _), (1, _)] ⟨rfl, rfl, trivial⟩ (cr (WL.box st0 rfl rfl ?_)))
 intro a0 b5 a9
 refine WL.alloc a9 zero57 ?_
 intro a2 b6 b0
 refine WL.nx (WL.mv rfl (WL.v (Runs.fieldAddr (off := 3) (p := 3) fld57_3 rfl rfl rfl) ?_))
 refine WL.so (new := ((ci iA) ++ ((cl pA nA nB) ++ ((cl pB nC nD) ++ ((ci iC) ++ ((cb bA) ++ (cl pC nE nF))))))) (i := 1) (u0 := .int .i64 iB) (pre := ((ci iA) ++ ((cl pA nA nB) ++ (cl pB nC nD)))) (post := ((cb bA) ++ (cl pC nE nF))) b0 rfl cells3 (by first | rfl | simp only [aa, an, na, ca]) rfl rfl rfl rfl rfl ?_
 intro b1 a3
 try dsimp only [List.set] at a3
 refine wn (CW.seq (cr (WL.mv rfl (WL.v (Runs.lss rfl rfl rfl) (wn ?_)))))
 rcases H with ⟨a7, H⟩ | ⟨a7, H⟩
 ·have a8 := (decide_eq_true a7)
  refine CW.ct rfl a8 (CW.region (WL.v (Runs.fieldAddr (off := 3) (p := 3) fld57_3 rfl rfl rfl) ?_))
  refine WL.so (new := ((ci iA) ++ ((cl pA nA nB) ++ ((cl pB nC nD) ++ ((ci (-1)) ++ ((cb bA) ++ (cl pC nE nF))))))) (i := 1) (u0 := .int .i64 iC) (pre := ((ci iA) ++ ((cl pA nA nB) ++ (cl pB nC nD)))) (post := ((cb bA) ++ (cl pC nE nF))) a3 rfl cells3 (by first | rfl | simp only [aa, an, na, ca]) rfl rfl rfl rfl rfl ?_
  intro b2 a4
  try dsimp only [List.set] at a4
  refine wn (CW.sub [(2, _), (4, _)] ⟨rfl, rfl, trivial⟩ (cr (WL.v (Runs.load_mid row57 rfl a4 (i := 1) rfl (pm [] ((ci iA) ++ ((cl pA nA nB) ++ ((cl pB nC nD) ++ ((ci (-1)) ++ ((cb bA) ++ (cl pC nE nF)))))) []) rfl) (WL.sw 0 a4 row57 rfl rfl rfl ?_))))
  intro b3 a5
  try dsimp only [List.set] at a5
  refine wn (CW.ret ?_)
  obtain ⟨rfl, rfl, rfl, rfl, rfl, rfl⟩ := H
  exact QW.retN1 rfl (Res.row rfl row57 a5 (i := 0) rfl rfl) ⟨T, pA, nA, nB, pB, nC, nD, pC, nE, nF, Pl.refl, a1, b7, b8, rfl, (St.pk (L := [_, _]) a5 [])⟩
 have a8 := (decide_eq_false a7)
 refine CW.cf rfl a8 (CW.skip (QW.then_n (CW.sub [(2, _), (4, _)] ⟨rfl, rfl, trivial⟩ (cr (WL.v (Runs.load_mid row57 rfl a3 (i := 1) rfl (pm [] ((ci iA) ++ ((cl pA nA nB) ++ ((cl pB nC nD) ++ ((ci iC) ++ ((cb bA) ++ (cl pC nE nF)))))) []) rfl) (WL.sw 0 a3 row57 rfl rfl rfl ?_))))))
 intro b4 a6
 try dsimp only [List.set] at a6
 refine wn (CW.ret ?_)
 obtain ⟨rfl, rfl, rfl, rfl, rfl, rfl⟩ := H
 exact QW.retN1 rfl (Res.row rfl row57 a6 (i := 0) rfl rfl) ⟨T, pA, nA, nB, pB, nC, nD, pC, nE, nF, Pl.refl, a1, b7, b8, rfl, (St.pk (L := [_, _]) a6 [])⟩
def disk_Disk_Crash.L1 (a3 : List R124) (a4 : List R48) (l1 : List Bool) (a5 : List R25) (a6 : List R124) (a7 : Int) (a8 : Bool) (a9 : List R48) : Nat → (List R25) → Int → Prop
 | 0, _, _ => False
 | kL1 + 1, a1, a0 => ((a0 < (a3.length : Int) ∧ ((0 ≤ a0 ∧ a0 < (a3.length : Int)) ∧ ((a0 < (l1.length : Int) ∧ ((0 ≤ a0 ∧ a0 < (l1.length : Int)) ∧ ((gb l1 (a0.toNat) = true ∧ ((0 ≤ ((gx a3 (a0.toNat)).1) ∧ ((gx a3 (a0.toNat)).1) < (a1.length : Int)) ∧ (∃ a2 : List R25, a2 = List.set a1 (((gx a3 (a0.toNat)).1).toNat) (gx a3 (a0.toNat)).2 ∧ disk_Disk_Crash.L1 a3 a4 l1 a5 a6 a7 a8 a9 kL1 a2 (i64.wrap (a0 + 1))))) ∨ (¬ (gb l1 (a0.toNat) = true) ∧ disk_Disk_Crash.L1 a3 a4 l1 a5 a6 a7 a8 a9 kL1 a1 (i64.wrap (a0 + 1)))))) ∨ (¬ (a0 < (l1.length : Int)) ∧ disk_Disk_Crash.L1 a3 a4 l1 a5 a6 a7 a8 a9 kL1 a1 (i64.wrap (a0 + 1)))))) ∨ (¬ (a0 < (a3.length : Int)) ∧ a5 = a1 ∧ a6 = ([] : List R124) ∧ a7 = -1 ∧ a8 = false ∧ a9 = a4))
def disk_Disk_Crash.rel (a0 : List R25) (a1 : List R124) (a8 : Int) (a9 : Bool) (a2 : List R48) (l1 : List Bool) (a3 : List R25) (a4 : List R124) (a5 : Int) (a6 : Bool) (a7 : List R48) : Prop := (∃ k_ : Nat, disk_Disk_Crash.L1 a1 a2 l1 a3 a4 a5 a6 a7 k_ a0 0)
theorem disk_Disk_Crash.calls (T : Pool) (st0 : St w w1 (oD nA pA nB nC pB nD nE iA bA pC nF nG 95 :: .sl pA nC nB xA 25 1 :: .sl pB nE nD xB 124 2 :: .sl pC nG nF xC 48 2 :: (T ++ R))) (i1 : nB = qA.length) (i2 : HRs T (f25 w) xA qA) (h1 : nD = rA.length) (i3 : HRs T (f124 w) xB rA) (i4 : nF = sA.length) (i5 : HRs T (f48 w) xC sA) (hb1 : HB w (T ++ R) pD nH nI (bv gA) gA.length) (H : disk_Disk_Crash.rel qA rA iA bA sA gA qB rB iB bB sB) :
  Calls prog 52 #[.pointer (sp nA), .slice pD nH nI] w1 fun e w' => ∃ T' h2 b0 h3 h4 h5 c1 h6 h7 h8 h0 h9 i0, Pl T T' ∧ b0 = qB.length ∧ HRs T' (f25 w) h4 qB ∧ c1 = rB.length ∧ HRs T' (f124 w) h7 rB ∧ h0 = sB.length ∧ HRs T' (f48 w) i0 sB ∧ e = .returned (.tuple #[]) ∧ St w w' (oD nA h2 b0 h3 h5 c1 h6 iB bB h8 h0 h9 95 :: .sl h2 h3 b0 h4 25 1 :: .sl h5 h6 c1 h7 124 2 :: .sl h8 h9 h0 i0 48 2 :: (T' ++ R)) := by
 refine CW.en func52 rfl 47 [_, _] (CW.sub [(0, _), (1, _)] ⟨rfl, rfl, trivial⟩ (CW.seq (cr (WL.mv rfl (WL.v (Runs.eql_ptr underlying30 rfl rfl rfl) (wn (CW.cf rfl rfl (CW.skip (QW.then_n (CW.seq (cr (WL.mv rfl (WL.v (Runs.nilCheck rfl) ?_)))))))))))))
 refine WL.v (Runs.fieldAddr (off := 1) (p := 1) fld95_1 rfl rfl rfl) (WL.ld 0 nagg93 st0 rfl rfl (pa (.slice pB nD nE) (cl pA nB nC) ((ci iA) ++ ((cb bA) ++ (cl pC nF nG)))) ?_)
 refine WL.v (Runs.len_sl underlying93 rfl (by rw [h1])) ?_
 refine WL.mv rfl (wn (CW.block ?_))
 obtain ⟨d6, H⟩ := H
 refine CW.su [(0, _), (1, _), (11, _), (12, _), (13, _)] ?_
 refine CW.lp (fun kL1 l_ w_ => ∃ a1 a2 a9 a0, l_ = [(0, .pointer (sp nA)), (1, .slice pD nH nI), (11, .slice pB nD nE), (12, .int .i64 (rA.length : Int)), (13, .int .i64 a0)] ∧ disk_Disk_Crash.L1 rA sA gA qB rB iB bB sB kL1 a9 a0 ∧ (Pl T a1) ∧ (nB = a9.length) ∧ (HRs a1 (f25 w) a2 a9) ∧ St w w_ (oD nA pA nB nC pB nD nE iA bA pC nF nG 95 :: .sl pA nC nB a2 25 1 :: .sl pB nE nD xB 124 2 :: .sl pC nG nF xC 48 2 :: (a1 ++ R))) (k := d6) ⟨T, xA, qA, 0, rfl, H, Pl.refl, i1, i2, st0⟩ ?_
 rintro kL1 g1 g2 ⟨a1, a2, a9, a0, rfl, H, a8, b2, b1, b4⟩
 refine cr (WL.v (Runs.lss rfl rfl rfl) (wn (CW.seq ?_)))
 rcases H with ⟨b5, H⟩ | ⟨b5, H⟩
 ·have b6 := (decide_eq_true b5)
  refine CW.ct rfl b6 (CW.skip (QW.then_n (CW.seq (CW.block (cr (WL.mv rfl ?_))))))
  obtain ⟨⟨d7, d8⟩, H⟩ := H
  obtain ⟨g3, c9, d9, e0, e1⟩ := el_get (i := (a0).toNat) (b4.src_sl (k := 2) rfl) (i3.mono a8.1) (fz124 w) (by decide) (by omega)
  obtain ⟨a5, a6, a7, b7, e2⟩ := inv124 e1
  replace b7 : d9 = (ci ((gx rA (a0.toNat)).1)) ++ (cl a5 a6 a7) := b7
  subst b7
  refine WL.v (Runs.indexAddr underlying93 cells124 (by decide) rfl c9 rfl d7 (by rw [show nD = rA.length from h1]; exact d8) (o := (a0.toNat) * 2) (by first | rfl | omega)) ?_
  refine WL.v (Runs.load_srcR row124 rfl (Src.cut (b4.src_sl (k := 2) rfl) c9 e0) rfl) (WL.alloc b4 zero124 ?_)
  intro d0 g4 e3
  refine WL.as rfl (WL.sw 0 e3 row124 rfl rfl rfl ?_)
  intro e4 a3
  try dsimp only [List.set] at a3
  refine WL.nx (WL.mv rfl (WL.mv rfl ?_))
  refine WL.v (Runs.len_sl underlying82 rfl (by rw [hb1.1])) ?_
  refine WL.v (Runs.lss rfl rfl rfl) (WL.mv rfl ?_)
  rcases H with ⟨b8, H⟩ | ⟨b8, H⟩
  ·have a4 := (decide_eq_true b8)
   refine WL.on ?_ ?_; exact Wg 22 a4
   refine WL.mv rfl ?_
   refine WL.on ?_ ?_; exact Wg 22 a4
   refine WL.mv rfl ?_
   refine WL.on ?_ ?_; exact Wg 22 a4
   obtain ⟨⟨e5, e6⟩, H⟩ := H
   obtain ⟨g5, d1⟩ := ((hb1.2.2.at a3 (mem_TR (A := [_, _, _, _, _]) a8.1))).addr_bv (a0.toNat) (by omega)
   refine WL.v (Runs.indexAddr underlying82 cells4 (by decide) rfl d1 rfl e5 (by rw [hb1.1]; exact e6) (o := (a0).toNat) (by first | rfl | omega)) ?_
   refine WL.on ?_ ?_; exact Wg 22 a4
   refine WL.v (Runs.load nagg4 rfl (((hb1.2.2.at a3 (mem_TR (A := [_, _, _, _, _]) a8.1))).cell_bv d1 (by omega))) ?_
   refine WL.v (Runs.pick_t (evb rfl a4) rfl) (wn ?_)
   rcases H with ⟨b9, H⟩ | ⟨b9, H⟩
   ·have c0 : (gb gA (a0.toNat)) = true := b9
    refine CW.ct rfl c0 ?_
    refine CW.region_qt 9 wide (by kernel_rfl) a3 ?_
    refine HL.mv rfl (HL.p (Runs.nilCheck rfl) (HL.p (Runs.fieldAddr (off := 0) (p := 0) fld95_0 rfl rfl rfl) (HL.ld 1 nagg76 rfl rfl (pa (.slice pA nB nC) [] ((cl pB nD nE) ++ ((ci iA) ++ ((cb bA) ++ (cl pC nF nG))))) (HL.p (Runs.fieldAddr (off := 0) (p := 0) fld124_0 rfl rfl rfl) (HL.ld 0 nagg3 rfl rfl (pa (.int .i64 ((gx rA (a0.toNat)).1)) [] (cl a5 a6 a7)) (HL.p (Runs.fieldAddr (off := 1) (p := 1) fld124_1 rfl rfl rfl) (HL.ld 0 nagg25 rfl rfl (pa (.slice a5 a6 a7) (ci ((gx rA (a0.toNat)).1)) []) ?_)))))))
    obtain ⟨⟨e7, e8⟩, H⟩ := H
    obtain ⟨g6, d2, e9, f0, f1⟩ := el_get (i := ((gx rA (a0.toNat)).1).toNat) (a3.src_sl (k := 2) rfl) b1 (fz25 w) (by decide) (by omega)
    obtain ⟨f2, f3, f4, c2, g7⟩ := inv25 f1
    replace c2 : e9 = (cl f2 f3 f4) := c2
    subst c2
    refine HL.p (Runs.indexAddr underlying76 cells25 (by decide) rfl d2 rfl e7 (by rw [show nB = a9.length from b2]; exact e8) (o := (((gx rA (a0.toNat)).1).toNat) * 1) (by first | rfl | omega)) ?_
    refine HL.nil (fun g8 f5 => ?_)
    obtain ⟨c3, d3, H⟩ := H
    have g9 := (b1).length (fz25 w)
    refine WL.storeF (i := 2) (o := (((gx rA (a0.toNat)).1).toNat) * 1) (f := 0) f5 rfl d2 cells25 rfl rfl (by omega) rfl ?_
    intro f6 b3
    obtain ⟨c4, d4⟩ : ∃ x_ : Cs, x_ = List.set a2 ((((gx rA (a0.toNat)).1).toNat) * 1 + 0) (.slice a5 a6 a7) := ⟨_, rfl⟩
    have f7 : HRs a1 (f25 w) c4 c3 := by rw [d4, d3]; exact HRs.setF (j := 0) (u := .slice a5 a6 a7) b1 (fz25 w) (by omega) (by decide) f0 (.cons ⟨_, _, _, rfl, e2⟩ .nil)
    have f8 : nB = c3.length := by rw [d3, List.length_set]; exact b2
    (try dsimp only [List.set, ec, en] at b3); rw [← d4] at b3
    refine WL.nil (QW.blk_n (QW.then_n (CW.region (WL.v (Runs.add rfl rfl rfl) (WL.mv rfl (WL.nil ?_))))))
    have b3' := (St.pk (L := [_, _, _, _, _]) b3 [1, 2, 3, 4])
    exact QW.a ⟨a1, c4, c3, i64.wrap (a0 + 1), rfl, H, a8, f8, f7, b3'⟩
   have c0 : (gb gA (a0.toNat)) = false := (Bool.eq_false_iff.mpr b9)
   refine CW.cf rfl c0 (CW.skip (QW.blk_n (QW.then_n (CW.region (WL.v (Runs.add rfl rfl rfl) (WL.mv rfl (WL.nil ?_)))))))
   have a3' := (St.pk (L := [_, _, _, _, _]) a3 [1, 2, 3, 4])
   exact QW.a ⟨a1, a2, a9, i64.wrap (a0 + 1), rfl, H, a8, b2, b1, a3'⟩
  have a4 := (decide_eq_false b8)
  iterate 4 (refine WL.off ?_ ?_; exact Wg 22 a4)
  refine WL.v (Runs.pick_f (evb rfl a4) rfl) (wn (CW.cf rfl rfl (CW.skip (QW.blk_n (QW.then_n (CW.region (WL.v (Runs.add rfl rfl rfl) (WL.mv rfl (WL.nil ?_)))))))))
  have a3' := (St.pk (L := [_, _, _, _, _]) a3 [1, 2, 3, 4])
  exact QW.a ⟨a1, a2, a9, i64.wrap (a0 + 1), rfl, H, a8, b2, b1, a3'⟩
 have b6 := (decide_eq_false b5)
 refine CW.cf rfl b6 (CW.exit (QW.then_x (QW.then_x (QW.blk_x (QW.then_n (CW.region (WL.mv rfl (WL.mv rfl (WL.mv rfl (WL.v (Runs.nilCheck rfl) (WL.v (Runs.fieldAddr (off := 1) (p := 1) fld95_1 rfl rfl rfl) ?_)))))))))))
 refine WL.so (new := ((cl pA nB nC) ++ ((cl none 0 0) ++ ((ci iA) ++ ((cb bA) ++ (cl pC nF nG)))))) (i := 0) (u0 := .slice pB nD nE) (pre := ((cl pA nB nC))) (post := ((ci iA) ++ ((cb bA) ++ (cl pC nF nG)))) b4 rfl cells93 (by first | rfl | simp only [aa, an, na, ca]) rfl rfl rfl rfl rfl ?_
 intro f9 c5
 try dsimp only [List.set] at c5
 refine WL.v (Runs.nilCheck rfl) (WL.v (Runs.fieldAddr (off := 3) (p := 3) fld95_3 rfl rfl rfl) ?_)
 refine WL.so (new := ((cl pA nB nC) ++ ((cl none 0 0) ++ ((ci iA) ++ ((cb false) ++ (cl pC nF nG)))))) (i := 0) (u0 := .bool bA) (pre := ((cl pA nB nC) ++ ((cl none 0 0) ++ (ci iA)))) (post := ((cl pC nF nG))) c5 rfl cells4 (by first | rfl | simp only [aa, an, na, ca]) rfl rfl rfl rfl rfl ?_
 intro g0 c6
 try dsimp only [List.set] at c6
 refine WL.v (Runs.nilCheck rfl) (WL.v (Runs.fieldAddr (off := 2) (p := 2) fld95_2 rfl rfl rfl) ?_)
 refine WL.so (new := ((cl pA nB nC) ++ ((cl none 0 0) ++ ((ci (-1)) ++ ((cb false) ++ (cl pC nF nG)))))) (i := 0) (u0 := .int .i64 iA) (pre := ((cl pA nB nC) ++ (cl none 0 0))) (post := ((cb false) ++ (cl pC nF nG))) c6 rfl cells3 (by first | rfl | simp only [aa, an, na, ca]) rfl rfl rfl rfl rfl ?_
 intro d5 c7
 try dsimp only [List.set] at c7
 refine WL.nil ?_
 have c8 := c7.nil_sl 124 2
 have c8 : St w d5 (.sl none 0 0 ([] : Cs) 124 2 :: oD nA pA nB nC none 0 0 (-1) false pC nF nG 95 :: .sl pA nC nB a2 25 1 :: .sl pB nE nD xB 124 2 :: .sl pC nG nF xC 48 2 :: (a1 ++ R)) := c8
 obtain ⟨rfl, rfl, rfl, rfl, rfl⟩ := H
 exact QW.end0 rfl ⟨a1, pA, nB, nC, a2, none, 0, 0, ([] : Cs), pC, nF, nG, xC, a8, b2, b1, rfl, (HRs.nil : HRs a1 (f124 w) [] []), i4, (i5.mono a8.1), rfl, (St.pk (L := [_, _, _, _, _]) c8 [1, 2, 0, 4])⟩
def reliquaryref06_Crash.L1 (a4 : Int) (a3 : List R145) (a5 : List R160) (l1 : List Bool) (a6 : Int) (a7 a8 : List R145) (a9 : Int) (b0 : Bool) (b1 : List R160) : Nat → (List R145) → Int → Prop
 | 0, _, _ => False
 | kL1 + 1, a1, a0 => ((a0 < (a3.length : Int) ∧ ((a0 < (l1.length : Int) ∧ ((0 ≤ a0 ∧ a0 < (l1.length : Int)) ∧ ((gb l1 (a0.toNat) = true ∧ ((0 ≤ a0 ∧ a0 < (a3.length : Int)) ∧ (∃ a2, reliquaryref06_more.rel a1 ((gx a3 (a0.toNat)).1) ((gx a3 (a0.toNat)).2) a2 ∧ reliquaryref06_Crash.L1 a4 a3 a5 l1 a6 a7 a8 a9 b0 b1 kL1 a2 (i64.wrap (a0 + 1))))) ∨ (¬ (gb l1 (a0.toNat) = true) ∧ reliquaryref06_Crash.L1 a4 a3 a5 l1 a6 a7 a8 a9 b0 b1 kL1 a1 (i64.wrap (a0 + 1)))))) ∨ (¬ (a0 < (l1.length : Int)) ∧ a6 = a4 ∧ a7 = a1 ∧ a8 = [] ∧ a9 = -1 ∧ b0 = false ∧ b1 = a5))) ∨ (¬ (a0 < (a3.length : Int)) ∧ a6 = a4 ∧ a7 = a1 ∧ a8 = [] ∧ a9 = -1 ∧ b0 = false ∧ b1 = a5))
def reliquaryref06_Crash.rel (a0 : Int) (a1 a2 : List R145) (b0 : Int) (b1 : Bool) (a3 : List R160) (l1 : List Bool) (a4 : Int) (a5 a6 : List R145) (a7 : Int) (a8 : Bool) (a9 : List R160) : Prop := (∃ k_ : Nat, reliquaryref06_Crash.L1 a0 a2 a3 l1 a4 a5 a6 a7 a8 a9 k_ a1 0)
theorem reliquaryref06_Crash.calls (T : Pool) (st0 : St w w1 ((T ++ R))) (i9 : HS w T T pA nA nB (f145 w) vA) (c1 : HS w T T pB nC nD (f145 w) vB) (h9 : HS w T T pC nE nF (f160 w) dA) (hb1 : HB w (T ++ R) pD nG nH (bv gA) gA.length) (H : reliquaryref06_Crash.rel iA vA vB iB bA dA gA iC vC vD iD bB dB) :
  Calls prog 53 #[.agg ((ci iA) ++ ((cl pA nA nB) ++ ((cl pB nC nD) ++ ((ci iB) ++ ((cb bA) ++ (cl pC nE nF)))))).toArray, .slice pD nG nH] w1 fun e w' => ∃ T' i0 i1 i2 i3 i4 i5 i6 i7 i8, Pl T T' ∧ HS w T' T' i0 i1 i2 (f145 w) vC ∧ HS w T' T' i3 i4 i5 (f145 w) vD ∧ HS w T' T' i6 i7 i8 (f160 w) dB ∧ e = .returned (.agg ((ci iC) ++ ((cl i0 i1 i2) ++ ((cl i3 i4 i5) ++ ((ci iD) ++ ((cb bB) ++ (cl i6 i7 i8)))))).toArray) ∧ St w w' ((T' ++ R)) := by
 refine CW.en func53 rfl 36 [_, _] (CW.sub [(0, _), (1, _)] ⟨rfl, rfl, trivial⟩ (cr (WL.box st0 rfl rfl ?_)))
 intro a5 h2 e2
 refine WL.alloc e2 zero57 ?_
 intro a6 h3 e3
 refine wn (CW.seq (cr (WL.as rfl (wn (CW.block ?_)))))
 obtain ⟨e4, H⟩ := H
 refine CW.sub [(1, _), (2, _), (4, _), (5, _)] ⟨rfl, rfl, rfl, rfl, trivial⟩ ?_
 refine CW.lp (fun kL1 l_ w_ => ∃ a3 a0 a1 a2 b3 a4, l_ = [(1, .slice pD nG nH), (2, .pointer (sp a5)), (4, .pointer (sp a6)), (5, .int .i64 a4)] ∧ reliquaryref06_Crash.L1 iA vB dA gA iC vC vD iD bB dB kL1 b3 a4 ∧ (Pl T a3) ∧ (HS w a3 a3 a0 a1 a2 (f145 w) b3) ∧ St w w_ (oM a6 0 none 0 0 none 0 0 0 false none 0 0 57 :: oM a5 iA a0 a1 a2 pB nC nD iB bA pC nE nF 57 :: (a3 ++ R))) (k := e4) ⟨T, pA, nA, nB, vA, 0, rfl, H, Pl.refl, i9, e3⟩ ?_
 rintro kL1 h4 h5 ⟨a3, a0, a1, a2, b3, a4, rfl, H, a7, b4, a9⟩
 refine CW.seq (cr (WL.mv rfl (WL.v (Runs.fieldAddr (off := 2) (p := 2) fld57_2 rfl rfl rfl) (WL.ld 1 nagg54 a9 rfl rfl (pa (.slice pB nC nD) ((ci iA) ++ (cl a0 a1 a2)) ((ci iB) ++ ((cb bA) ++ (cl pC nE nF)))) ?_))))
 refine WL.v (Runs.len_sl underlying54 rfl (by rw [c1.1])) ?_
 refine WL.v (Runs.lss rfl rfl rfl) (WL.mv rfl ?_)
 rcases H with ⟨c3, H⟩ | ⟨c3, H⟩
 ·have a8 := (decide_eq_true c3)
  refine WL.on ?_ ?_; exact Wg 11 a8
  refine WL.mv rfl ?_
  refine WL.on ?_ ?_; exact Wg 11 a8
  refine WL.mv rfl ?_
  refine WL.on ?_ ?_; exact Wg 11 a8
  refine WL.v (Runs.len_sl underlying82 rfl (by rw [hb1.1])) ?_
  refine WL.on ?_ ?_; exact Wg 11 a8
  refine WL.v (Runs.lss rfl rfl rfl) (WL.v (Runs.pick_t (evb rfl a8) rfl) (wn ?_))
  rcases H with ⟨c4, H⟩ | ⟨c4, H⟩
  ·have c5 := (decide_eq_true c4)
   refine CW.ct rfl c5 (CW.skip (QW.then_n (CW.seq (CW.block (cr (WL.mv rfl (WL.mv rfl ?_)))))))
   obtain ⟨⟨e5, e6⟩, H⟩ := H
   obtain ⟨h6, d5⟩ := ((hb1.2.2.at a9 (mem_TR (A := [_, _]) a7.1))).addr_bv (a4.toNat) (by omega)
   refine WL.v (Runs.indexAddr underlying82 cells4 (by decide) rfl d5 rfl e5 (by rw [hb1.1]; exact e6) (o := (a4).toNat) (by first | rfl | omega)) ?_
   refine WL.v (Runs.load nagg4 rfl (((hb1.2.2.at a9 (mem_TR (A := [_, _]) a7.1))).cell_bv d5 (by omega))) ?_
   refine wn ?_
   rcases H with ⟨c6, H⟩ | ⟨c6, H⟩
   ·have c7 : (gb gA (a4.toNat)) = true := c6
    refine CW.ct rfl c7 ?_
    refine CW.region_qt 7 wide (by kernel_rfl) a9 ?_
    refine HL.p (Runs.fieldAddr (off := 1) (p := 1) fld57_1 rfl rfl rfl) (HL.ld 1 nagg54 rfl rfl (pa (.slice a0 a1 a2) (ci iA) ((cl pB nC nD) ++ ((ci iB) ++ ((cb bA) ++ (cl pC nE nF))))) (HL.p (Runs.fieldAddr (off := 2) (p := 2) fld57_2 rfl rfl rfl) (HL.ld 1 nagg54 rfl rfl (pa (.slice pB nC nD) ((ci iA) ++ (cl a0 a1 a2)) ((ci iB) ++ ((cb bA) ++ (cl pC nE nF)))) (HL.mv rfl ?_))))
    obtain ⟨⟨e7, e8⟩, H⟩ := H
    obtain ⟨h7, d6, e9⟩ := c1.2.2
    obtain ⟨h8, d7, f0, f1, f2⟩ := el_get (i := (a4).toNat) ((d6.at a9 (mem_T (A := [_, _]) a7.1))) (e9.mono a7.1) (fz145 w) (by decide) (by omega)
    obtain c8 := inv145 f2
    replace c8 : f0 = (ci ((gx vB (a4.toNat)).1)) ++ (ct ((gx vB (a4.toNat)).2)) := c8
    subst c8
    refine HL.p (Runs.indexAddr underlying54 cells145 (by decide) rfl d7 rfl e7 (by rw [show nC = vB.length from c1.1]; exact e8) (o := (a4.toNat) * 2) (by first | rfl | omega)) ?_
    refine HL.v (fun wq sq => (Runs.load_srcR row145 rfl (Src.cut ((d6.at sq (mem_T (A := [_, _]) a7.1))) d7 f1) rfl)) ?_
    refine HL.nil (fun d8 f3 => ?_)
    have f4 := St.hide (A := []) (B := [_, _]) f3
    obtain ⟨c9, f5, H⟩ := H
    refine wC ent68 rfl (reliquaryref06_more.calls a3 f4 (b4.mono (memo_T (B := [_, _]) ii) ii) f5) ?_
    rintro _ f6 ⟨b5, b0, b1, b2, d9, f7, f8, f9, rfl, g0⟩
    have g1 := St.unhide (A := [_]) (B := [_, _]) g0; dsimp only [ec, en] at g1
    refine ⟨_, rfl, WL.v (Runs.fieldAddr (off := 1) (p := 1) fld57_1 rfl rfl rfl) ?_⟩
    refine WL.so (new := ((ci iA) ++ ((cl b0 b1 b2) ++ ((cl pB nC nD) ++ ((ci iB) ++ ((cb bA) ++ (cl pC nE nF))))))) (i := 2) (u0 := .slice a0 a1 a2) (pre := ((ci iA))) (post := ((cl pB nC nD) ++ ((ci iB) ++ ((cb bA) ++ (cl pC nE nF))))) g1 rfl cells54 (by first | rfl | simp only [aa, an, na, ca]) rfl rfl rfl rfl rfl ?_
    intro e0 b6
    try dsimp only [List.set] at b6
    refine WL.nil (QW.blk_n (QW.then_n (CW.region (WL.mv rfl (WL.v (Runs.add rfl rfl rfl) (WL.as rfl (WL.nil ?_)))))))
    have hb_73c := b6.cap (i := 0) rfl
    obtain ⟨b7, e1, g2, d0⟩ := St.freeze (A := []) (B := [_, _]) (T := b5) (R := R) b6
    have g3 : HS w b7 b7 b0 b1 b2 (f145 w) c9 := HS.mk f8 hb_73c (Hd.of_sl g2) (f9.mono e1.1)
    try dsimp only [List.set, ec, en] at d0
    exact QW.a ⟨b7, b0, b1, b2, c9, i64.wrap (a4 + 1), rfl, H, ((a7.trans f7).trans e1), g3, d0⟩
   have c7 : (gb gA (a4.toNat)) = false := (Bool.eq_false_iff.mpr c6)
   refine CW.cf rfl c7 (CW.skip (QW.blk_n (QW.then_n (CW.region (WL.mv rfl (WL.v (Runs.add rfl rfl rfl) (WL.as rfl (WL.nil ?_))))))))
   exact QW.a ⟨a3, a0, a1, a2, b3, i64.wrap (a4 + 1), rfl, H, a7, b4, a9⟩
  have c5 := (decide_eq_false c4)
  refine CW.cf rfl c5 (CW.exit (QW.then_x (QW.then_x (QW.blk_x (QW.then_n (CW.sub [(2, _), (4, _)] ⟨rfl, rfl, trivial⟩ (cr (WL.v (Runs.fieldAddr (off := 2) (p := 2) fld57_2 rfl rfl rfl) ?_))))))))
  refine WL.so (new := ((ci iA) ++ ((cl a0 a1 a2) ++ ((cl none 0 0) ++ ((ci iB) ++ ((cb bA) ++ (cl pC nE nF))))))) (i := 1) (u0 := .slice pB nC nD) (pre := ((ci iA) ++ (cl a0 a1 a2))) (post := ((ci iB) ++ ((cb bA) ++ (cl pC nE nF)))) a9 rfl cells54 (by first | rfl | simp only [aa, an, na, ca]) rfl rfl rfl rfl rfl ?_
  intro g4 d1
  try dsimp only [List.set] at d1
  refine WL.nx (WL.v (Runs.fieldAddr (off := 4) (p := 4) fld57_4 rfl rfl rfl) ?_)
  refine WL.so (new := ((ci iA) ++ ((cl a0 a1 a2) ++ ((cl none 0 0) ++ ((ci iB) ++ ((cb false) ++ (cl pC nE nF))))))) (i := 1) (u0 := .bool bA) (pre := ((ci iA) ++ ((cl a0 a1 a2) ++ ((cl none 0 0) ++ (ci iB))))) (post := ((cl pC nE nF))) d1 rfl cells4 (by first | rfl | simp only [aa, an, na, ca]) rfl rfl rfl rfl rfl ?_
  intro g5 d2
  try dsimp only [List.set] at d2
  refine WL.nx (WL.v (Runs.fieldAddr (off := 3) (p := 3) fld57_3 rfl rfl rfl) ?_)
  refine WL.so (new := ((ci iA) ++ ((cl a0 a1 a2) ++ ((cl none 0 0) ++ ((ci (-1)) ++ ((cb false) ++ (cl pC nE nF))))))) (i := 1) (u0 := .int .i64 iB) (pre := ((ci iA) ++ ((cl a0 a1 a2) ++ (cl none 0 0)))) (post := ((cb false) ++ (cl pC nE nF))) d2 rfl cells3 (by first | rfl | simp only [aa, an, na, ca]) rfl rfl rfl rfl rfl ?_
  intro g6 b8
  try dsimp only [List.set] at b8
  refine WL.nx (WL.v (Runs.load_mid row57 rfl b8 (i := 1) rfl (pm [] ((ci iA) ++ ((cl a0 a1 a2) ++ ((cl none 0 0) ++ ((ci (-1)) ++ ((cb false) ++ (cl pC nE nF)))))) []) rfl) (WL.sw 0 b8 row57 rfl rfl rfl ?_))
  intro g7 b9
  try dsimp only [List.set] at b9
  refine wn (CW.ret ?_)
  obtain ⟨rfl, rfl, rfl, rfl, rfl, rfl⟩ := H
  exact QW.retN1 rfl (Res.row rfl row57 b9 (i := 0) rfl rfl) ⟨a3, a0, a1, a2, none, 0, 0, pC, nE, nF, a7, b4, HS.nil, (h9.mono a7.1 a7.1), rfl, (St.pk (L := [_, _]) b9 [])⟩
 have a8 := (decide_eq_false c3)
 iterate 4 (refine WL.off ?_ ?_; exact Wg 11 a8)
 refine WL.v (Runs.pick_f (evb rfl a8) rfl) (wn (CW.cf rfl rfl (CW.exit (QW.then_x (QW.then_x (QW.blk_x (QW.then_n (CW.sub [(2, _), (4, _)] ⟨rfl, rfl, trivial⟩ (cr (WL.v (Runs.fieldAddr (off := 2) (p := 2) fld57_2 rfl rfl rfl) ?_))))))))))
 refine WL.so (new := ((ci iA) ++ ((cl a0 a1 a2) ++ ((cl none 0 0) ++ ((ci iB) ++ ((cb bA) ++ (cl pC nE nF))))))) (i := 1) (u0 := .slice pB nC nD) (pre := ((ci iA) ++ (cl a0 a1 a2))) (post := ((ci iB) ++ ((cb bA) ++ (cl pC nE nF)))) a9 rfl cells54 (by first | rfl | simp only [aa, an, na, ca]) rfl rfl rfl rfl rfl ?_
 intro g8 d3
 try dsimp only [List.set] at d3
 refine WL.nx (WL.v (Runs.fieldAddr (off := 4) (p := 4) fld57_4 rfl rfl rfl) ?_)
 refine WL.so (new := ((ci iA) ++ ((cl a0 a1 a2) ++ ((cl none 0 0) ++ ((ci iB) ++ ((cb false) ++ (cl pC nE nF))))))) (i := 1) (u0 := .bool bA) (pre := ((ci iA) ++ ((cl a0 a1 a2) ++ ((cl none 0 0) ++ (ci iB))))) (post := ((cl pC nE nF))) d3 rfl cells4 (by first | rfl | simp only [aa, an, na, ca]) rfl rfl rfl rfl rfl ?_
 intro g9 d4
 try dsimp only [List.set] at d4
 refine WL.nx (WL.v (Runs.fieldAddr (off := 3) (p := 3) fld57_3 rfl rfl rfl) ?_)
 refine WL.so (new := ((ci iA) ++ ((cl a0 a1 a2) ++ ((cl none 0 0) ++ ((ci (-1)) ++ ((cb false) ++ (cl pC nE nF))))))) (i := 1) (u0 := .int .i64 iB) (pre := ((ci iA) ++ ((cl a0 a1 a2) ++ (cl none 0 0)))) (post := ((cb false) ++ (cl pC nE nF))) d4 rfl cells3 (by first | rfl | simp only [aa, an, na, ca]) rfl rfl rfl rfl rfl ?_
 intro h0 c0
 try dsimp only [List.set] at c0
 refine WL.nx (WL.v (Runs.load_mid row57 rfl c0 (i := 1) rfl (pm [] ((ci iA) ++ ((cl a0 a1 a2) ++ ((cl none 0 0) ++ ((ci (-1)) ++ ((cb false) ++ (cl pC nE nF)))))) []) rfl) (WL.sw 0 c0 row57 rfl rfl rfl ?_))
 intro h1 c2
 try dsimp only [List.set] at c2
 refine wn (CW.ret ?_)
 obtain ⟨rfl, rfl, rfl, rfl, rfl, rfl⟩ := H
 exact QW.retN1 rfl (Res.row rfl row57 c2 (i := 0) rfl rfl) ⟨a3, a0, a1, a2, none, 0, 0, pC, nE, nF, a7, b4, HS.nil, (h9.mono a7.1 a7.1), rfl, (St.pk (L := [_, _]) c2 [])⟩
end Go.Proofs.YtmhcjafkdmcgoaaDoor
