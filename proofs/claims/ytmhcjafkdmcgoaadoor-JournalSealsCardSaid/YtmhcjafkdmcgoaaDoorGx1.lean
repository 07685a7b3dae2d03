/- Walks: each function computes what its relation says, and a call of it ends so. Printed by a program of this session (wip/gen). -/
import Derived.Test.YtmhcjafkdmcgoaaDoorGx0
namespace Go.Proofs.YtmhcjafkdmcgoaaDoor
open Go Go.Kr Go.RowKit
set_option linter.unusedVariables false
set_option linter.unusedSimpArgs false
set_option maxRecDepth 100000
/-! ### disk_New: function 11 -/
def disk_New.L1 (a0 : Int) (or0 : Option ((List R25) × (List R124) × Int × Bool × (List R48))) (ar1 : Int) : Nat → (List R25) → Int → Prop
 | 0, _, _ => False
 | kL1 + 1, a3, a1 => ((a1 < a0 ∧ (∃ a2 : List R25, a2 = a3 ++ ([List.replicate 192 (0 : Int)] : List R25) ∧ (a2.length ≤ 1099511627776 ∧ disk_New.L1 a0 or0 ar1 kL1 a2 (IntKind.i64.wrap (a1 + 1))))) ∨ (¬ (a1 < a0) ∧ or0 = some (a3, ([] : List R124), -1, false, ([] : List R48)) ∧ ar1 = 0))
def disk_New.rel (a0 : Int) (or0 : Option ((List R25) × (List R124) × Int × Bool × (List R48))) (ar1 : Int) : Prop := ((a0 < 1 ∧ or0 = none ∧ ar1 = 1) ∨ (¬ (a0 < 1) ∧ ((a0 > 4096 ∧ or0 = none ∧ ar1 = 1) ∨ (¬ (a0 > 4096) ∧ (∃ k_ : Nat, disk_New.L1 a0 or0 ar1 k_ ([] : List R25) 0)))))
set_option maxHeartbeats 1000000 in
theorem disk_New.calls_obj (w w1 : World) (T R : Pool) (a0 : Int)  (st0 : St w w1 ((T ++ R)))  (lr0_0 : List R25) (lr0_1 : List R124) (ar0_2 : Int) (ar0_3 : Bool) (lr0_4 : List R48) (ar1 : Int) (or0 : Option ((List R25) × (List R124) × Int × Bool × (List R48))) (ho_ : or0 = some (lr0_0, lr0_1, ar0_2, ar0_3, lr0_4)) (H : disk_New.rel a0 or0 ar1) :
  Calls Tryd.prog 11 #[.int .i64 a0] w1 fun e w' => ∃ T' br0 Ar0_0 nr0_0 cr0_0 xr0_0 Ar0_1 nr0_1 cr0_1 xr0_1 Ar0_4 nr0_4 cr0_4 xr0_4, Pl T T' ∧ nr0_0 = lr0_0.length ∧ HRs T' (f25 w) xr0_0 lr0_0 ∧ nr0_1 = lr0_1.length ∧ HRs T' (f124 w) xr0_1 lr0_1 ∧ nr0_4 = lr0_4.length ∧ HRs T' (f48 w) xr0_4 lr0_4 ∧ e = .returned (.tuple #[.pointer (sp br0), .int .i64 0]) ∧ St w w' (oD br0 Ar0_0 nr0_0 cr0_0 Ar0_1 nr0_1 cr0_1 ar0_2 ar0_3 Ar0_4 nr0_4 cr0_4 95 :: .sl Ar0_0 cr0_0 nr0_0 xr0_0 25 1 :: .sl Ar0_1 cr0_1 nr0_1 xr0_1 124 2 :: .sl Ar0_4 cr0_4 nr0_4 xr0_4 48 2 :: (T' ++ R)) := by
 refine CW.enter Tryd.func11 rfl (n := 28) rfl [.int .i64 a0] (Nat.le_of_ble_eq_true rfl) ?_
 refine CW.sub [(0, .int .i64 a0)] ⟨rfl, trivial⟩ ?_
 refine cr (WL.as rfl (WL.as rfl (wn (CW.seq (cr (WL.mv rfl ?_))))))
 refine WL.v (Runs.lss rfl rfl rfl) ?_
 refine WL.mv rfl ?_
 rcases H with ⟨c6, H⟩ | ⟨c6, H⟩
 ·have a9 : (decide (a0 < 1)) = true := (decide_eq_true c6)
  refine WL.off ?_ ?_; exact Wg 7 a9
  refine WL.off ?_ ?_; exact Wg 7 a9
  refine WL.v (Runs.pick_t (evb rfl a9) rfl) ?_
  refine wn ?_
  refine CW.ct rfl rfl ?_
  refine cr (WL.as rfl (WL.as rfl (wn (CW.ret (QW.then_r ?_)))))
  exact nomatch (ho_.symm.trans H.1)
 have a9 : (decide (a0 < 1)) = false := (decide_eq_false c6)
 refine WL.on ?_ ?_; exact Wg 7 a9
 refine WL.mv rfl ?_
 refine WL.on ?_ ?_; exact Wg 7 a9
 refine WL.v (Runs.gtr rfl rfl rfl) ?_
 refine WL.v (Runs.pick_f (evb rfl a9) rfl) ?_
 refine wn ?_
 rcases H with ⟨c7, H⟩ | ⟨c7, H⟩
 ·have c8 : (decide (a0 > 4096)) = true := (decide_eq_true c7)
  refine CW.ct rfl c8 ?_
  refine cr (WL.as rfl (WL.as rfl (wn (CW.ret (QW.then_r ?_)))))
  exact nomatch (ho_.symm.trans H.1)
 have c8 : (decide (a0 > 4096)) = false := (decide_eq_false c7)
 refine CW.cf rfl c8 ?_
 refine CW.skip (QW.then_n ?_)
 refine CW.sub [(0, .int .i64 a0), (2, .pointer none), (3, .int .i64 0)] ⟨rfl, rfl, rfl, trivial⟩ ?_
 refine cr ?_
 refine WL.v (Runs.build_struct (ps := [(0, 1), (1, 1), (2, 1), (3, 1), (4, 1)]) (cs := ((cl none 0 0) ++ ((cl none 0 0) ++ ((ci (-1)) ++ ((cb false) ++ (cl none 0 0)))))) plc95 zero95 rfl (by refine Fills.cons (o := 2) (ms := ((ci (-1)))) (show _ = some (2, ((ci (-1))).length) by rw [show ((ci (-1))).length = 1 from rfl] <;> rfl) rfl (Nat.le_of_ble_eq_true rfl) ?_; rw [show layV ((cl none 0 0) ++ ((cl none 0 0) ++ ((ci 0) ++ ((cb false) ++ (cl none 0 0))))) 2 ((ci (-1))) = ((cl none 0 0) ++ ((cl none 0 0) ++ ((ci (-1)) ++ ((cb false) ++ (cl none 0 0))))) from (layV_mid (pre := ((cl none 0 0) ++ (cl none 0 0))) (mid := ((ci 0))) (post := ((cb false) ++ (cl none 0 0))) (by first | rfl | simp only [aa, an, na, ca]) rfl (Eq.trans (b := 1) rfl (Eq.symm rfl))).trans (by first | rfl | simp only [aa, an, na, ca])]; exact Fills.nil)) ?_
 refine WL.box st0 rfl rfl ?_
 intro a4 c9 e7
 have d0 := e7.nil_sl 25 1
 have d0 : St w c9 (.sl none 0 0 ([] : Cs) 25 1 :: oD a4 none 0 0 none 0 0 (-1) false none 0 0 95 :: (T ++ R)) := d0
 have d1 := d0.nil_sl 124 2
 have d1 : St w c9 (.sl none 0 0 ([] : Cs) 124 2 :: .sl none 0 0 ([] : Cs) 25 1 :: oD a4 none 0 0 none 0 0 (-1) false none 0 0 95 :: (T ++ R)) := d1
 have d2 := d1.nil_sl 48 2
 have d2 : St w c9 (.sl none 0 0 ([] : Cs) 48 2 :: .sl none 0 0 ([] : Cs) 124 2 :: .sl none 0 0 ([] : Cs) 25 1 :: oD a4 none 0 0 none 0 0 (-1) false none 0 0 95 :: (T ++ R)) := d2
 refine WL.as rfl (wn (CW.seq (cr (WL.mv rfl (WL.mv rfl (wn (CW.block ?_)))))))
 obtain ⟨e8, H⟩ := H
 refine CW.sub [(2, .pointer none), (3, .int .i64 0), (4, .pointer (sp a4)), (13, .int .i64 a0), (14, .int .i64 0)] ⟨rfl, rfl, rfl, rfl, rfl, trivial⟩ ?_
 refine CW.loop (fun kL1 l_ w_ => ∃ (a5 : Pool) (a2 : Option Addr) (a3 : Nat) (a1 : Nat) (a6 : Cs) (b6 : List R25) (b2 : Int), l_ = [(2, .pointer none), (3, .int .i64 0), (4, .pointer (sp a4)), (13, .int .i64 a0), (14, .int .i64 b2)] ∧ disk_New.L1 a0 or0 ar1 kL1 b6 b2 ∧ (Pl T a5) ∧ (a1 = b6.length) ∧ (HRs a5 (f25 w) a6 b6) ∧ St w w_ (.sl none 0 0 ([] : Cs) 48 2 :: .sl none 0 0 ([] : Cs) 124 2 :: .sl a2 a3 a1 a6 25 1 :: oD a4 a2 a1 a3 none 0 0 (-1) false none 0 0 95 :: (a5 ++ R))) (k := e8) ⟨T, none, 0, 0, ([] : Cs), ([] : List R25), 0, rfl, H, Pl.refl, rfl, (HRs.nil : HRs T (f25 w) [] []), d2⟩ (fun _ _ h => by obtain ⟨_, _, _, _, _, _, _, _, h, _⟩ := h; exact h.elim) ?_
 rintro kL1 f7 f8 ⟨a5, a2, a3, a1, a6, b6, b2, rfl, H, c1, d9, e0, e1⟩
 refine cr ?_
 refine WL.v (Runs.lss rfl rfl rfl) ?_
 refine wn (CW.seq ?_)
 rcases H with ⟨d3, H⟩ | ⟨d3, H⟩
 ·have d4 : (decide (b2 < a0)) = true := (decide_eq_true d3)
  refine CW.ct rfl d4 ?_
  refine CW.skip (QW.then_n (CW.seq (CW.block ?_)))
  refine CW.region_awh (C := fun w_ => St w w_ (.sl none 0 0 ([] : Cs) 48 2 :: .sl none 0 0 ([] : Cs) 124 2 :: oD a4 a2 a1 a3 none 0 0 (-1) false none 0 0 95 :: (a5 ++ R))) 8 wide (by kernel_rfl) e1 (fun e9 b0 => ?_)
  have a8 : St w e9 (.sl none 0 0 ([] : Cs) 48 2 :: .sl none 0 0 ([] : Cs) 124 2 :: oD a4 a2 a1 a3 none 0 0 (-1) false none 0 0 95 :: (a5 ++ R)) := (St.pickT (L := [_, _, _, _]) b0 [0, 1, 3] (by decide))
  refine AWH.kn (St.subset a8 b0 (mc 0 rfl (mc 1 rfl (mc 3 rfl (mem_TR (A := [_, _, _, _]) (fun _ h_ => h_)))))) fun zC1 => ?_
  refine AWH.tk 0 rfl zC1 (fun wq sq => (Runs.move rfl)) ?_
  refine AWH.tk 1 rfl zC1 (fun wq sq => (Runs.move rfl)) ?_
  refine AWH.tk 2 rfl zC1 (fun wq sq => (Runs.nilCheck rfl)) ?_
  refine AWH.tk 3 rfl zC1 (fun wq sq => (Runs.fieldAddr (off := 0) (p := 0) fld95_0 rfl rfl rfl)) ?_
  refine AWH.tk 4 rfl zC1 (fun wq sq => (Runs.load nagg76 rfl (sq.cell (k := 2) rfl (pa (.slice a2 a1 a3) [] ((cl none 0 0) ++ ((ci (-1)) ++ ((cb false) ++ (cl none 0 0)))))))) ?_
  refine AWH.step 5 rfl (by decide) (by kernel_rfl) (fun inv_ hs_ hk_ hc_ hn_ => ?_)
  refine WL.make b0 Tryd.underlying25 elem5 rfl rfl (by decide) (by decide) (by decide) (N := 192) rfl ?_
  intro b7 e2 b3
  replace b3 : St w e2 (.sl (sp b7) 192 192 (iv .u8 (List.replicate 192 (0 : Int))) 5 1 :: .sl none 0 0 ([] : Cs) 48 2 :: .sl none 0 0 ([] : Cs) 124 2 :: .sl a2 a3 a1 a6 25 1 :: oD a4 a2 a1 a3 none 0 0 (-1) false none 0 0 95 :: (a5 ++ R)) := by rw [iv_replicate] at b3; exact b3
  have f0 : 192 = (List.replicate 192 (0 : Int)).length := by simp
  refine WL.nil ?_
  refine AWH.back (St.subset a8 b3 (mc 1 rfl (mc 2 rfl (mc 4 rfl (mem_TR (A := [_, _, _, _, _]) (fun _ h_ => h_)))))) inv_ hs_ hk_ hc_ hn_ ?_
  refine AWH.step 6 rfl (by decide) (by kernel_rfl) (fun inv_ hs_ hk_ hc_ hn_ => ?_)
  have hb_43c := b3.cap (i := 0) rfl
  obtain ⟨a7, c2, f1, d5⟩ := St.freeze (A := []) (B := [_, _, _, _]) (T := a5) (R := R) b3
  have f2 : HB w a7 (sp b7) 192 192 (iv .u8 (List.replicate 192 (0 : Int))) (List.replicate 192 (0 : Int)).length := ⟨f0, hb_43c, Hd.of_sl f1⟩
  replace d5 : St w e2 (.sl none 0 0 ([] : Cs) 48 2 :: .sl none 0 0 ([] : Cs) 124 2 :: .sl a2 a3 a1 a6 25 1 :: oD a4 a2 a1 a3 none 0 0 (-1) false none 0 0 95 :: (a7 ++ R)) := d5
  refine WL.buildSl [.slice (sp b7) 192 192] d5 Tryd.underlying76 elem25 rfl rfl (by decide) (by decide) (by simp [Value.cells]) ?_
  intro c3 e3 b1
  replace b1 : St w e3 (.sl (sp c3) 1 1 [.slice (sp b7) 192 192] 25 1 :: .sl none 0 0 ([] : Cs) 48 2 :: .sl none 0 0 ([] : Cs) 124 2 :: .sl a2 a3 a1 a6 25 1 :: oD a4 a2 a1 a3 none 0 0 (-1) false none 0 0 95 :: (a7 ++ R)) := b1
  obtain ⟨b4, e4⟩ : ∃ x_ : Cs, x_ = [.slice (sp b7) 192 192] := ⟨_, rfl⟩
  have d6 : HRs a7 (f25 w) b4 ([List.replicate 192 (0 : Int)] : List R25) := by rw [e4]; exact (HRs.one (.cons ⟨_, _, _, rfl, f2⟩ .nil))
  replace b1 : St w e3 (.sl (sp c3) 1 1 b4 25 1 :: .sl none 0 0 ([] : Cs) 48 2 :: .sl none 0 0 ([] : Cs) 124 2 :: .sl a2 a3 a1 a6 25 1 :: oD a4 a2 a1 a3 none 0 0 (-1) false none 0 0 95 :: (a7 ++ R)) := by rw [e4]; exact b1
  refine WL.nil ?_
  refine AWH.back (St.subset a8 b1 (mc 1 rfl (mc 2 rfl (mc 4 rfl (mem_TR (A := [_, _, _, _, _]) (fun _ h_ => c2.1 _ h_)))))) inv_ hs_ hk_ hc_ hn_ ?_
  refine AWH.step 7 rfl (by decide) (by kernel_rfl) (fun inv_ hs_ hk_ hc_ hn_ => ?_)
  obtain ⟨d7, e5, H⟩ := H
  obtain ⟨f3, H⟩ := H
  obtain ⟨b5, d8⟩ : ∃ n_ : Nat, n_ = d7.length := ⟨_, rfl⟩
  refine WL.appendR (i := 3) (N := b5) (news := b4) Wanted.none b1 rfl Tryd.underlying76 elemS25 rfl rfl (b1.src_sl (k := 0) rfl) (by have h1_ := (d6).length (fz25 w); have h2_ : 1 = ([List.replicate 192 (0 : Int)] : List R25).length := rfl; rw [h1_, h2_]) (HLs.one d6) (by decide) (by have h1_ : a1 = b6.length := d9; have h2_ : 1 = ([List.replicate 192 (0 : Int)] : List R25).length := rfl; rw [d8, e5, List.length_append]; omega) (by rw [d8]; exact f3) ?_
  intro b8 b9 f4 c4
  obtain ⟨c5, e6⟩ : ∃ x_ : Cs, x_ = a6 ++ b4 := ⟨_, rfl⟩
  have f5 : HRs a7 (f25 w) c5 d7 := by rw [e6, e5]; exact HRs.append (e0.mono (fun _ h_ => c2.1 _ h_)) d6
  replace c4 : St w f4 (.sl (sp c3) 1 1 b4 25 1 :: .sl none 0 0 ([] : Cs) 48 2 :: .sl none 0 0 ([] : Cs) 124 2 :: .sl b8 b9 b5 c5 25 1 :: oD a4 a2 a1 a3 none 0 0 (-1) false none 0 0 95 :: (a7 ++ R)) := by rw [e6]; exact c4
  refine WL.nil ?_
  refine AWH.back (St.subset a8 c4 (mc 1 rfl (mc 2 rfl (mc 4 rfl (mem_TR (A := [_, _, _, _, _]) (fun _ h_ => c2.1 _ h_)))))) inv_ hs_ hk_ hc_ hn_ ?_
  refine AWH.tail (by kernel_rfl) ?_
  refine AW.tk 8 rfl (fun _ => (Runs.nilCheck rfl)) ?_
  refine AW.tk 9 rfl (fun _ => (Runs.fieldAddr (off := 0) (p := 0) fld95_0 rfl rfl rfl)) ?_
  refine AW.step 10 rfl (by kernel_rfl) ?_
  refine WL.so (new := ((cl b8 b5 b9) ++ ((cl none 0 0) ++ ((ci (-1)) ++ ((cb false) ++ (cl none 0 0)))))) (i := 4) (u0 := .slice a2 a1 a3) (pre := (([] : Cs))) (post := ((cl none 0 0) ++ ((ci (-1)) ++ ((cb false) ++ (cl none 0 0))))) c4 rfl cells76 (by first | rfl | simp only [aa, an, na, ca]) rfl rfl rfl rfl rfl ?_
  intro f6 c0
  try dsimp only [List.set] at c0
  refine WL.nil ?_
  refine AW.back  ?_
  refine AW.done (by kernel_rfl) ?_
  refine QW.blk_n (QW.then_n (CW.region ?_))
  refine WL.v (Runs.add rfl rfl rfl) ?_
  refine WL.mv rfl (WL.nil ?_)
  have c0' := (St.pickT (L := [_, _, _, _, _]) c0 [1, 2, 3, 4] (by decide))
  exact QW.at _ (by repeat' constructor) ⟨a7, b8, b9, b5, c5, d7, IntKind.i64.wrap (b2 + 1), rfl, H, (c1.trans c2), d8, f5, c0'⟩
 have d4 : (decide (b2 < a0)) = false := (decide_eq_false d3)
 refine CW.cf rfl d4 ?_
 refine CW.exit (QW.then_x (QW.then_x (QW.blk_x (QW.then_n (cr (WL.mv rfl (WL.as rfl (WL.as rfl (wn (CW.ret ?_))))))))))
 obtain ⟨h_, rfl⟩ := H
 replace h_ := ho_.symm.trans h_
 cases h_
 exact QW.ret2 rfl rfl rfl ⟨a5, a4, a2, a1, a3, a6, none, 0, 0, ([] : Cs), none, 0, 0, ([] : Cs), c1, d9, e0, rfl, ((HRs.nil : HRs T (f124 w) [] []).mono (fun _ h_ => c1.1 _ h_)), rfl, ((HRs.nil : HRs T (f48 w) [] []).mono (fun _ h_ => c1.1 _ h_)), rfl, (St.pickT (L := [_, _, _, _]) e1 [3, 2, 1, 0] (by decide))⟩
/-! ### journal_may: function 36 -/
def journal_may.rel (a0_0 : Int) (a0_1 : Int) (l0_2 : List Int) (a1 : Int) (r0 : Bool) : Prop := ((a0_0 < a1 ∧ r0 = (decide (a0_1 ≤ a1))) ∨ (¬ (a0_0 < a1) ∧ r0 = false))
set_option maxHeartbeats 4000000 in
theorem journal_may.calls (w : World) (a0_0 : Int) (a0_1 : Int) (l0_2 : List Int) (a1 : Int)   (hl0_2 : l0_2.length = 32) (r0 : Bool) (H : journal_may.rel a0_0 a0_1 l0_2 a1 r0) :
  Calls Tryd.prog 36 #[.agg ((cu a0_0) ++ ((cu a0_1) ++ iv .u8 l0_2)).toArray, .int .u64 a1] w fun e w' => e = .returned (.bool r0) ∧ St w w' [] := by
 refine CW.enter Tryd.func36 rfl (n := 15) rfl [.agg ((cu a0_0) ++ ((cu a0_1) ++ iv .u8 l0_2)).toArray, .int .u64 a1] (Nat.le_of_ble_eq_true rfl) ?_
 refine CW.sub [(0, .agg ((cu a0_0) ++ ((cu a0_1) ++ iv .u8 l0_2)).toArray), (1, .int .u64 a1)] ⟨rfl, rfl, trivial⟩ ?_
 have st0 : St w w [] := St.refl w
 refine cr ?_
 refine WL.box st0 rfl rfl ?_
 intro a4 a5 a2
 refine WL.as rfl (WL.nx ?_)
 refine WL.v (Runs.fieldAddr (off := 0) (p := 0) fld39_0 rfl rfl rfl) ?_
 refine WL.v (Runs.load nagg37 rfl (a2.cell (k := 0) rfl (pa (.int .u64 a0_0) [] ((cu a0_1) ++ iv .u8 l0_2)))) ?_
 refine WL.mv rfl ?_
 refine WL.v (Runs.lss rfl rfl rfl) ?_
 refine WL.mv rfl ?_
 rcases H with ⟨a3, H⟩ | ⟨a3, H⟩
 ·have a0 : (decide (a0_0 < a1)) = true := (decide_eq_true a3)
  refine WL.on ?_ ?_; exact Wg 9 a0
  refine WL.v (Runs.fieldAddr (off := 1) (p := 1) fld39_1 rfl rfl rfl) ?_
  refine WL.on ?_ ?_; exact Wg 9 a0
  refine WL.v (Runs.load nagg37 rfl (a2.cell (k := 0) rfl (pa (.int .u64 a0_1) (cu a0_0) (iv .u8 l0_2)))) ?_
  refine WL.on ?_ ?_; exact Wg 9 a0
  refine WL.mv rfl ?_
  refine WL.on ?_ ?_; exact Wg 9 a0
  refine WL.v (Runs.leq rfl rfl rfl) ?_
  refine WL.v (Runs.pick_t (evb rfl a0) rfl) ?_
  refine WL.as rfl (wn (CW.ret ?_))
  obtain rfl := H
  exact QW.ret1 rfl rfl ⟨rfl, a2.pick [] (by decide)⟩
 have a0 : (decide (a0_0 < a1)) = false := (decide_eq_false a3)
 refine WL.off ?_ ?_; exact Wg 9 a0
 refine WL.off ?_ ?_; exact Wg 9 a0
 refine WL.off ?_ ?_; exact Wg 9 a0
 refine WL.off ?_ ?_; exact Wg 9 a0
 refine WL.v (Runs.pick_f (evb rfl a0) rfl) ?_
 refine WL.as rfl (wn (CW.ret ?_))
 obtain rfl := H
 exact QW.ret1 rfl rfl ⟨rfl, a2.pick [] (by decide)⟩
/-! ### disk_Disk_Size: function 35 -/
def disk_Disk_Size.rel (l0_0 : List R25) (l0_1 : List R124) (a0_2 : Int) (a0_3 : Bool) (l0_4 : List R48) (ls0_0 : List R25) (ls0_1 : List R124) (as0_2 : Int) (as0_3 : Bool) (ls0_4 : List R48) (ar0 : Int) : Prop := ls0_0 = l0_0 ∧ ls0_1 = l0_1 ∧ as0_2 = a0_2 ∧ as0_3 = a0_3 ∧ ls0_4 = l0_4 ∧ ar0 = (l0_0.length : Int)
set_option maxHeartbeats 1000000 in
theorem disk_Disk_Size.calls (w w1 : World) (T R : Pool) (l0_0 : List R25) (l0_1 : List R124) (a0_2 : Int) (a0_3 : Bool) (l0_4 : List R48) (b0 : Nat) (A0_0 : Option Addr) (n0_0 : Nat) (c0_0 : Nat) (x0_0 : Cs) (A0_1 : Option Addr) (n0_1 : Nat) (c0_1 : Nat) (x0_1 : Cs) (A0_4 : Option Addr) (n0_4 : Nat) (c0_4 : Nat) (x0_4 : Cs) (st0 : St w w1 (oD b0 A0_0 n0_0 c0_0 A0_1 n0_1 c0_1 a0_2 a0_3 A0_4 n0_4 c0_4 95 :: .sl A0_0 c0_0 n0_0 x0_0 25 1 :: .sl A0_1 c0_1 n0_1 x0_1 124 2 :: .sl A0_4 c0_4 n0_4 x0_4 48 2 :: (T ++ R))) (hn0_0 : n0_0 = l0_0.length) (hx0_0 : HRs T (f25 w) x0_0 l0_0) (hn0_1 : n0_1 = l0_1.length) (hx0_1 : HRs T (f124 w) x0_1 l0_1) (hn0_4 : n0_4 = l0_4.length) (hx0_4 : HRs T (f48 w) x0_4 l0_4) (ls0_0 : List R25) (ls0_1 : List R124) (as0_2 : Int) (as0_3 : Bool) (ls0_4 : List R48) (ar0 : Int) (H : disk_Disk_Size.rel l0_0 l0_1 a0_2 a0_3 l0_4 ls0_0 ls0_1 as0_2 as0_3 ls0_4 ar0) :
  Calls Tryd.prog 35 #[.pointer (sp b0)] w1 fun e w' => ∃ T' As0_0 ns0_0 cs0_0 xs0_0 As0_1 ns0_1 cs0_1 xs0_1 As0_4 ns0_4 cs0_4 xs0_4, Pl T T' ∧ ns0_0 = ls0_0.length ∧ HRs T' (f25 w) xs0_0 ls0_0 ∧ ns0_1 = ls0_1.length ∧ HRs T' (f124 w) xs0_1 ls0_1 ∧ ns0_4 = ls0_4.length ∧ HRs T' (f48 w) xs0_4 ls0_4 ∧ e = .returned (.int .i64 ar0) ∧ St w w' (oD b0 As0_0 ns0_0 cs0_0 As0_1 ns0_1 cs0_1 as0_2 as0_3 As0_4 ns0_4 cs0_4 95 :: .sl As0_0 cs0_0 ns0_0 xs0_0 25 1 :: .sl As0_1 cs0_1 ns0_1 xs0_1 124 2 :: .sl As0_4 cs0_4 ns0_4 xs0_4 48 2 :: (T' ++ R)) := by
 refine CW.enter Tryd.func35 rfl (n := 10) rfl [.pointer (sp b0)] (Nat.le_of_ble_eq_true rfl) ?_
 refine CW.sub [(0, .pointer (sp b0))] ⟨rfl, trivial⟩ ?_
 refine cr (WL.as rfl (wn (CW.seq (cr (WL.mv rfl ?_)))))
 refine WL.v (Runs.eql_ptr Tryd.underlying30 rfl rfl rfl) ?_
 refine wn ?_
 refine CW.cf rfl rfl ?_
 refine CW.skip (QW.then_n (cr (WL.mv rfl ?_)))
 refine WL.v (Runs.nilCheck rfl) ?_
 refine WL.v (Runs.fieldAddr (off := 0) (p := 0) fld95_0 rfl rfl rfl) ?_
 refine WL.v (Runs.load nagg76 rfl (st0.cell (k := 0) rfl (pa (.slice A0_0 n0_0 c0_0) [] ((cl A0_1 n0_1 c0_1) ++ ((ci a0_2) ++ ((cb a0_3) ++ (cl A0_4 n0_4 c0_4))))))) ?_
 refine WL.v (Runs.len_sl Tryd.underlying76 rfl (by rw [hn0_0])) ?_
 refine WL.as rfl (wn (CW.ret ?_))
 obtain ⟨rfl, rfl, rfl, rfl, rfl, rfl⟩ := H
 exact QW.ret1 rfl rfl ⟨T, A0_0, n0_0, c0_0, x0_0, A0_1, n0_1, c0_1, x0_1, A0_4, n0_4, c0_4, x0_4, Pl.refl, hn0_0, hx0_0, hn0_1, hx0_1, hn0_4, hx0_4, rfl, (St.pickT (L := [_, _, _, _]) st0 [0, 1, 2, 3] (by decide))⟩
/-! ### journal_New: function 12 -/
def journal_New.rel (l0_0 : List R25) (l0_1 : List R124) (a0_2 : Int) (a0_3 : Bool) (l0_4 : List R48) (l1 : List Int) (a2 : Int) (a3 : Int) (a4_0 : Int) (a4_1 : Int) (l4_2 : List Int) (a5 : Int) (a6 : Int) (ls0_0 : List R25) (ls0_1 : List R124) (as0_2 : Int) (as0_3 : Bool) (ls0_4 : List R48) (or0 : Option ((List Int) × Int × Int × Int × Int × (List Int) × Int × Int)) (ar1 : Int) : Prop := ((a2 < 0 ∧ or0 = none ∧ ls0_0 = l0_0 ∧ ls0_1 = l0_1 ∧ as0_2 = a0_2 ∧ as0_3 = a0_3 ∧ ls0_4 = l0_4 ∧ ar1 = 1) ∨ (¬ (a2 < 0) ∧ ((a3 < 1 ∧ or0 = none ∧ ls0_0 = l0_0 ∧ ls0_1 = l0_1 ∧ as0_2 = a0_2 ∧ as0_3 = a0_3 ∧ ls0_4 = l0_4 ∧ ar1 = 1) ∨ (¬ (a3 < 1) ∧ (∃ (a9 : List R25) (b0 : List R124) (b1 : Int) (b2 : Bool) (b3 : List R48) (b4 : Int), disk_Disk_Size.rel l0_0 l0_1 a0_2 a0_3 l0_4 a9 b0 b1 b2 b3 b4 ∧ ((a2 > b4 ∧ or0 = none ∧ ls0_0 = a9 ∧ ls0_1 = b0 ∧ as0_2 = b1 ∧ as0_3 = b2 ∧ ls0_4 = b3 ∧ ar1 = 1) ∨ (¬ (a2 > b4) ∧ (∃ (a0 : List R25) (a1 : List R124) (a4 : Int) (a7 : Bool) (a8 : List R48) (b5 : Int), disk_Disk_Size.rel a9 b0 b1 b2 b3 a0 a1 a4 a7 a8 b5 ∧ (((IntKind.i64.wrap (b5 - a2)) < a3 ∧ or0 = none ∧ ls0_0 = a0 ∧ ls0_1 = a1 ∧ as0_2 = a4 ∧ as0_3 = a7 ∧ ls0_4 = a8 ∧ ar1 = 1) ∨ (¬ ((IntKind.i64.wrap (b5 - a2)) < a3) ∧ (∃ (b6 : Bool), journal_may.rel a4_0 a4_1 l4_2 (IntKind.u64.wrap a3) b6 ∧ ((¬ (b6 = true) ∧ or0 = none ∧ ls0_0 = a0 ∧ ls0_1 = a1 ∧ as0_2 = a4 ∧ as0_3 = a7 ∧ ls0_4 = a8 ∧ ar1 = 1) ∨ (¬ (¬ (b6 = true)) ∧ ((a5 < 1 ∧ or0 = none ∧ ls0_0 = a0 ∧ ls0_1 = a1 ∧ as0_2 = a4 ∧ as0_3 = a7 ∧ ls0_4 = a8 ∧ ar1 = 1) ∨ (¬ (a5 < 1) ∧ ((a6 > 9223372036854775807 ∧ or0 = none ∧ ls0_0 = a0 ∧ ls0_1 = a1 ∧ as0_2 = a4 ∧ as0_3 = a7 ∧ ls0_4 = a8 ∧ ar1 = 1) ∨ (¬ (a6 > 9223372036854775807) ∧ or0 = some (l1, a2, IntKind.u64.wrap a3, a4_0, a4_1, l4_2, a5, a6) ∧ ls0_0 = a0 ∧ ls0_1 = a1 ∧ as0_2 = a4 ∧ as0_3 = a7 ∧ ls0_4 = a8 ∧ ar1 = 0)))))))))))))))))
set_option maxHeartbeats 1000000 in
theorem journal_New.calls_obj (w w1 : World) (T R : Pool) (l0_0 : List R25) (l0_1 : List R124) (a0_2 : Int) (a0_3 : Bool) (l0_4 : List R48) (l1 : List Int) (a2 : Int) (a3 : Int) (a4_0 : Int) (a4_1 : Int) (l4_2 : List Int) (a5 : Int) (a6 : Int) (b0 : Nat) (A0_0 : Option Addr) (n0_0 : Nat) (c0_0 : Nat) (x0_0 : Cs) (A0_1 : Option Addr) (n0_1 : Nat) (c0_1 : Nat) (x0_1 : Cs) (A0_4 : Option Addr) (n0_4 : Nat) (c0_4 : Nat) (x0_4 : Cs) (st0 : St w w1 (oD b0 A0_0 n0_0 c0_0 A0_1 n0_1 c0_1 a0_2 a0_3 A0_4 n0_4 c0_4 95 :: .sl A0_0 c0_0 n0_0 x0_0 25 1 :: .sl A0_1 c0_1 n0_1 x0_1 124 2 :: .sl A0_4 c0_4 n0_4 x0_4 48 2 :: (T ++ R))) (hn0_0 : n0_0 = l0_0.length) (hx0_0 : HRs T (f25 w) x0_0 l0_0) (hn0_1 : n0_1 = l0_1.length) (hx0_1 : HRs T (f124 w) x0_1 l0_1) (hn0_4 : n0_4 = l0_4.length) (hx0_4 : HRs T (f48 w) x0_4 l0_4) (hl1 : l1.length = 32) (hl4_2 : l4_2.length = 32) (ls0_0 : List R25) (ls0_1 : List R124) (as0_2 : Int) (as0_3 : Bool) (ls0_4 : List R48) (lr0_1 : List Int) (ar0_2 : Int) (ar0_3 : Int) (ar0_4 : Int) (ar0_5 : Int) (lr0_6 : List Int) (ar0_7 : Int) (ar0_8 : Int) (ar1 : Int) (or0 : Option ((List Int) × Int × Int × Int × Int × (List Int) × Int × Int)) (ho_ : or0 = some (lr0_1, ar0_2, ar0_3, ar0_4, ar0_5, lr0_6, ar0_7, ar0_8)) (H : journal_New.rel l0_0 l0_1 a0_2 a0_3 l0_4 l1 a2 a3 a4_0 a4_1 l4_2 a5 a6 ls0_0 ls0_1 as0_2 as0_3 ls0_4 or0 ar1) :
  Calls Tryd.prog 12 #[.pointer (sp b0), .agg (iv .u8 l1).toArray, .int .i64 a2, .int .i64 a3, .agg ((cu a4_0) ++ ((cu a4_1) ++ iv .u8 l4_2)).toArray, .int .u64 a5, .int .u64 a6] w1 fun e w' => ∃ T' As0_0 ns0_0 cs0_0 xs0_0 As0_1 ns0_1 cs0_1 xs0_1 As0_4 ns0_4 cs0_4 xs0_4 br0, Pl T T' ∧ ns0_0 = ls0_0.length ∧ HRs T' (f25 w) xs0_0 ls0_0 ∧ ns0_1 = ls0_1.length ∧ HRs T' (f124 w) xs0_1 ls0_1 ∧ ns0_4 = ls0_4.length ∧ HRs T' (f48 w) xs0_4 ls0_4 ∧ lr0_1.length = 32 ∧ lr0_6.length = 32 ∧ e = .returned (.tuple #[.pointer (sp br0), .int .i64 0]) ∧ St w w' (oD b0 As0_0 ns0_0 cs0_0 As0_1 ns0_1 cs0_1 as0_2 as0_3 As0_4 ns0_4 cs0_4 95 :: .sl As0_0 cs0_0 ns0_0 xs0_0 25 1 :: .sl As0_1 cs0_1 ns0_1 xs0_1 124 2 :: .sl As0_4 cs0_4 ns0_4 xs0_4 48 2 :: oJ br0 b0 lr0_1 ar0_2 ar0_3 ar0_4 ar0_5 lr0_6 ar0_7 ar0_8 98 :: (T' ++ R)) := by
 refine CW.enter Tryd.func12 rfl (n := 61) rfl [.pointer (sp b0), .agg (iv .u8 l1).toArray, .int .i64 a2, .int .i64 a3, .agg ((cu a4_0) ++ ((cu a4_1) ++ iv .u8 l4_2)).toArray, .int .u64 a5, .int .u64 a6] (Nat.le_of_ble_eq_true rfl) ?_
 refine CW.sub [(0, .pointer (sp b0)), (1, .agg (iv .u8 l1).toArray), (2, .int .i64 a2), (3, .int .i64 a3), (4, .agg ((cu a4_0) ++ ((cu a4_1) ++ iv .u8 l4_2)).toArray), (5, .int .u64 a5), (6, .int .u64 a6)] (by repeat' constructor) ?_
 refine cr ?_
 refine WL.box st0 rfl rfl ?_
 intro a0 j4 g4
 refine WL.box g4 rfl rfl ?_
 intro a1 d5 g5
 refine WL.as rfl (WL.as rfl (wn (CW.seq (cr (WL.mv rfl ?_)))))
 refine WL.v (Runs.lss rfl rfl rfl) ?_
 refine WL.mv rfl ?_
 rcases H with ⟨d6, H⟩ | ⟨d6, H⟩
 ·have a9 : (decide (a2 < 0)) = true := (decide_eq_true d6)
  refine WL.off ?_ ?_; exact Wg 18 a9
  refine WL.off ?_ ?_; exact Wg 18 a9
  refine WL.v (Runs.pick_t (evb rfl a9) rfl) ?_
  refine WL.mv rfl ?_
  refine WL.off ?_ ?_; exact Wg 22 rfl
  refine WL.off ?_ ?_; exact Wg 22 rfl
  refine WL.off ?_ ?_; exact Wg 22 rfl
  refine WL.off ?_ ?_; exact Wg 22 rfl
  refine WL.v (Runs.pick_t rfl rfl) ?_
  refine WL.mv rfl ?_
  refine WL.off ?_ ?_; exact Wg 28 rfl
  refine WL.off ?_ ?_; exact Wg 28 rfl
  refine WL.off ?_ ?_; exact Wg 28 rfl
  refine WL.off ?_ ?_; exact Wg 28 rfl
  refine WL.off ?_ ?_; exact Wg 28 rfl
  refine WL.off ?_ ?_; exact Wg 28 rfl
  refine WL.v (Runs.pick_t rfl rfl) ?_
  refine WL.mv rfl ?_
  refine WL.off ?_ ?_; exact Wg 36 rfl
  refine WL.off ?_ ?_; exact Wg 36 rfl
  refine WL.off ?_ ?_; exact Wg 36 rfl
  refine WL.off ?_ ?_; exact Wg 36 rfl
  refine WL.off ?_ ?_; exact Wg 36 rfl
  refine WL.v (Runs.pick_t rfl rfl) ?_
  refine WL.mv rfl ?_
  refine WL.off ?_ ?_; exact Wg 43 rfl
  refine WL.off ?_ ?_; exact Wg 43 rfl
  refine WL.v (Runs.pick_t rfl rfl) ?_
  refine WL.mv rfl ?_
  refine WL.off ?_ ?_; exact Wg 47 rfl
  refine WL.off ?_ ?_; exact Wg 47 rfl
  refine WL.v (Runs.pick_t rfl rfl) ?_
  refine wn ?_
  refine CW.sub [(0, .pointer (sp b0)), (2, .int .i64 a2), (3, .int .i64 a3), (5, .int .u64 a5), (6, .int .u64 a6), (8, .pointer (sp a0)), (11, .pointer (sp a1)), (14, .pointer none), (15, .int .i64 0), (50, .bool true)] (by repeat' constructor) ?_
  refine CW.ct rfl rfl ?_
  refine cr (WL.as rfl (WL.as rfl (wn (CW.ret (QW.then_r ?_)))))
  exact nomatch (ho_.symm.trans H.1)
 have a9 : (decide (a2 < 0)) = false := (decide_eq_false d6)
 refine WL.on ?_ ?_; exact Wg 18 a9
 refine WL.mv rfl ?_
 refine WL.on ?_ ?_; exact Wg 18 a9
 refine WL.v (Runs.lss rfl rfl rfl) ?_
 refine WL.v (Runs.pick_f (evb rfl a9) rfl) ?_
 refine WL.mv rfl ?_
 rcases H with ⟨d7, H⟩ | ⟨d7, H⟩
 ·have a8 : (decide (a3 < 1)) = true := (decide_eq_true d7)
  refine WL.off ?_ ?_; exact Wg 22 a8
  refine WL.off ?_ ?_; exact Wg 22 a8
  refine WL.off ?_ ?_; exact Wg 22 a8
  refine WL.off ?_ ?_; exact Wg 22 a8
  refine WL.v (Runs.pick_t (evb rfl a8) rfl) ?_
  refine WL.mv rfl ?_
  refine WL.off ?_ ?_; exact Wg 28 rfl
  refine WL.off ?_ ?_; exact Wg 28 rfl
  refine WL.off ?_ ?_; exact Wg 28 rfl
  refine WL.off ?_ ?_; exact Wg 28 rfl
  refine WL.off ?_ ?_; exact Wg 28 rfl
  refine WL.off ?_ ?_; exact Wg 28 rfl
  refine WL.v (Runs.pick_t rfl rfl) ?_
  refine WL.mv rfl ?_
  refine WL.off ?_ ?_; exact Wg 36 rfl
  refine WL.off ?_ ?_; exact Wg 36 rfl
  refine WL.off ?_ ?_; exact Wg 36 rfl
  refine WL.off ?_ ?_; exact Wg 36 rfl
  refine WL.off ?_ ?_; exact Wg 36 rfl
  refine WL.v (Runs.pick_t rfl rfl) ?_
  refine WL.mv rfl ?_
  refine WL.off ?_ ?_; exact Wg 43 rfl
  refine WL.off ?_ ?_; exact Wg 43 rfl
  refine WL.v (Runs.pick_t rfl rfl) ?_
  refine WL.mv rfl ?_
  refine WL.off ?_ ?_; exact Wg 47 rfl
  refine WL.off ?_ ?_; exact Wg 47 rfl
  refine WL.v (Runs.pick_t rfl rfl) ?_
  refine wn ?_
  refine CW.sub [(0, .pointer (sp b0)), (2, .int .i64 a2), (3, .int .i64 a3), (5, .int .u64 a5), (6, .int .u64 a6), (8, .pointer (sp a0)), (11, .pointer (sp a1)), (14, .pointer none), (15, .int .i64 0), (50, .bool true)] (by repeat' constructor) ?_
  refine CW.ct rfl rfl ?_
  refine cr (WL.as rfl (WL.as rfl (wn (CW.ret (QW.then_r ?_)))))
  exact nomatch (ho_.symm.trans H.1)
 have a8 : (decide (a3 < 1)) = false := (decide_eq_false d7)
 refine WL.on ?_ ?_; exact Wg 22 a8
 refine WL.mv rfl ?_
 refine WL.on ?_ ?_; exact Wg 22 a8
 refine WL.mv rfl ?_
 refine WL.on ?_ ?_; exact Wg 22 a8
 have d8 := (St.pickT (L := [_, _, _, _, _, _]) g5 [2, 3, 4, 5, 0, 1] (by decide))
 have g6 := St.hide (A := [_, _, _, _]) (B := [_, _]) (T := T) (R := R) d8
 obtain ⟨f8, f9, d2, d3, g0, d9, g7, H⟩ := H
 refine WL.call Wanted.none ent35 rfl (disk_Disk_Size.calls w d5 T (oS a1 a4_0 a4_1 l4_2 39 :: .cells a0 (iv .u8 l1) 23 :: R) l0_0 l0_1 a0_2 a0_3 l0_4 b0 A0_0 n0_0 c0_0 x0_0 A0_1 n0_1 c0_1 x0_1 A0_4 n0_4 c0_4 x0_4  g6 (hn0_0) hx0_0 (hn0_1) hx0_1 (hn0_4) hx0_4 f8 f9 d2 d3 g0 d9 g7) ?_
 rintro _ e0 ⟨b3, b4, b5, b6, e1, b7, b8, b9, e2, c0, c1, c2, e3, g8, g9, h0, h1, h2, h3, h4, rfl, h5⟩
 have h6 : St w e0 (oD b0 b4 b5 b6 b7 b8 b9 d2 d3 c0 c1 c2 95 :: .sl b4 b6 b5 e1 25 1 :: .sl b7 b9 b8 e2 124 2 :: .sl c0 c2 c1 e3 48 2 :: oS a1 a4_0 a4_1 l4_2 39 :: .cells a0 (iv .u8 l1) 23 :: (b3 ++ R)) := St.unhide (A := [_, _, _, _]) (B := [_, _]) (T := b3) (R := R) h5
 refine ⟨_, rfl, ?_⟩
 refine WL.on ?_ ?_; exact Wg 22 a8
 refine WL.v (Runs.gtr rfl rfl rfl) ?_
 refine WL.v (Runs.pick_f (evb rfl a8) rfl) ?_
 refine WL.mv rfl ?_
 rcases H with ⟨e4, H⟩ | ⟨e4, H⟩
 ·have a4 : (decide (a2 > d9)) = true := (decide_eq_true e4)
  refine WL.off ?_ ?_; exact Wg 28 a4
  refine WL.off ?_ ?_; exact Wg 28 a4
  refine WL.off ?_ ?_; exact Wg 28 a4
  refine WL.off ?_ ?_; exact Wg 28 a4
  refine WL.off ?_ ?_; exact Wg 28 a4
  refine WL.off ?_ ?_; exact Wg 28 a4
  refine WL.v (Runs.pick_t (evb rfl a4) rfl) ?_
  refine WL.mv rfl ?_
  refine WL.off ?_ ?_; exact Wg 36 rfl
  refine WL.off ?_ ?_; exact Wg 36 rfl
  refine WL.off ?_ ?_; exact Wg 36 rfl
  refine WL.off ?_ ?_; exact Wg 36 rfl
  refine WL.off ?_ ?_; exact Wg 36 rfl
  refine WL.v (Runs.pick_t rfl rfl) ?_
  refine WL.mv rfl ?_
  refine WL.off ?_ ?_; exact Wg 43 rfl
  refine WL.off ?_ ?_; exact Wg 43 rfl
  refine WL.v (Runs.pick_t rfl rfl) ?_
  refine WL.mv rfl ?_
  refine WL.off ?_ ?_; exact Wg 47 rfl
  refine WL.off ?_ ?_; exact Wg 47 rfl
  refine WL.v (Runs.pick_t rfl rfl) ?_
  refine wn ?_
  refine CW.sub [(0, .pointer (sp b0)), (2, .int .i64 a2), (3, .int .i64 a3), (5, .int .u64 a5), (6, .int .u64 a6), (8, .pointer (sp a0)), (11, .pointer (sp a1)), (14, .pointer none), (15, .int .i64 0), (50, .bool true)] (by repeat' constructor) ?_
  refine CW.ct rfl rfl ?_
  refine cr (WL.as rfl (WL.as rfl (wn (CW.ret (QW.then_r ?_)))))
  exact nomatch (ho_.symm.trans H.1)
 have a4 : (decide (a2 > d9)) = false := (decide_eq_false e4)
 refine WL.on ?_ ?_; exact Wg 28 a4
 refine WL.mv rfl ?_
 refine WL.on ?_ ?_; exact Wg 28 a4
 have h7 := St.hide (A := [_, _, _, _]) (B := [_, _]) (T := b3) (R := R) h6
 obtain ⟨h8, h9, e5, e6, i0, e7, i1, H⟩ := H
 refine WL.call Wanted.none ent35 rfl (disk_Disk_Size.calls w e0 b3 (oS a1 a4_0 a4_1 l4_2 39 :: .cells a0 (iv .u8 l1) 23 :: R) f8 f9 d2 d3 g0 b0 b4 b5 b6 e1 b7 b8 b9 e2 c0 c1 c2 e3  h7 (g9) h0 (h1) h2 (h3) h4 h8 h9 e5 e6 i0 e7 i1) ?_
 rintro _ g1 ⟨d4, c3, c4, c5, e8, c6, c7, c8, e9, c9, d0, d1, f0, i2, i3, i4, i5, i6, i7, i8, rfl, i9⟩
 have g2 : St w g1 (oD b0 c3 c4 c5 c6 c7 c8 e5 e6 c9 d0 d1 95 :: .sl c3 c5 c4 e8 25 1 :: .sl c6 c8 c7 e9 124 2 :: .sl c9 d1 d0 f0 48 2 :: oS a1 a4_0 a4_1 l4_2 39 :: .cells a0 (iv .u8 l1) 23 :: (d4 ++ R)) := St.unhide (A := [_, _, _, _]) (B := [_, _]) (T := d4) (R := R) i9
 refine ⟨_, rfl, ?_⟩
 refine WL.on ?_ ?_; exact Wg 28 a4
 refine WL.mv rfl ?_
 refine WL.on ?_ ?_; exact Wg 28 a4
 refine WL.v (Runs.sub rfl rfl rfl) ?_
 refine WL.on ?_ ?_; exact Wg 28 a4
 refine WL.mv rfl ?_
 refine WL.on ?_ ?_; exact Wg 28 a4
 refine WL.v (Runs.lss rfl rfl rfl) ?_
 refine WL.v (Runs.pick_f (evb rfl a4) rfl) ?_
 refine WL.mv rfl ?_
 rcases H with ⟨f1, H⟩ | ⟨f1, H⟩
 ·have a7 : (decide ((IntKind.i64.wrap (e7 - a2)) < a3)) = true := (decide_eq_true f1)
  refine WL.off ?_ ?_; exact Wg 36 a7
  refine WL.off ?_ ?_; exact Wg 36 a7
  refine WL.off ?_ ?_; exact Wg 36 a7
  refine WL.off ?_ ?_; exact Wg 36 a7
  refine WL.off ?_ ?_; exact Wg 36 a7
  refine WL.v (Runs.pick_t (evb rfl a7) rfl) ?_
  refine WL.mv rfl ?_
  refine WL.off ?_ ?_; exact Wg 43 rfl
  refine WL.off ?_ ?_; exact Wg 43 rfl
  refine WL.v (Runs.pick_t rfl rfl) ?_
  refine WL.mv rfl ?_
  refine WL.off ?_ ?_; exact Wg 47 rfl
  refine WL.off ?_ ?_; exact Wg 47 rfl
  refine WL.v (Runs.pick_t rfl rfl) ?_
  refine wn ?_
  refine CW.sub [(0, .pointer (sp b0)), (2, .int .i64 a2), (3, .int .i64 a3), (5, .int .u64 a5), (6, .int .u64 a6), (8, .pointer (sp a0)), (11, .pointer (sp a1)), (14, .pointer none), (15, .int .i64 0), (50, .bool true)] (by repeat' constructor) ?_
  refine CW.ct rfl rfl ?_
  refine cr (WL.as rfl (WL.as rfl (wn (CW.ret (QW.then_r ?_)))))
  exact nomatch (ho_.symm.trans H.1)
 have a7 : (decide ((IntKind.i64.wrap (e7 - a2)) < a3)) = false := (decide_eq_false f1)
 refine WL.on ?_ ?_; exact Wg 36 a7
 refine WL.v (Runs.load_mid row39 rfl g2 (i := 4) rfl (pm [] ((cu a4_0) ++ ((cu a4_1) ++ iv .u8 l4_2)) [] (hm := by first | rfl | simp only [la, lc, ln, lv, hl4_2])) (by first | rfl | simp only [la, lc, ln, lv, hl4_2])) ?_
 refine WL.on ?_ ?_; exact Wg 36 a7
 refine WL.mv rfl ?_
 refine WL.on ?_ ?_; exact Wg 36 a7
 refine WL.v (Runs.conv Tryd.underlying37 ⟨_, Tryd.underlying3⟩ rfl rfl) ?_
 refine WL.on ?_ ?_; exact Wg 36 a7
 obtain ⟨f2, j0, H⟩ := H
 refine WL.call Wanted.none ent36 rfl (journal_may.calls g1 a4_0 a4_1 l4_2 (IntKind.u64.wrap a3) hl4_2 f2 j0) ?_
 rintro _ j1 ⟨rfl, j2⟩
 have f3 := g2.call j2
 refine ⟨_, rfl, ?_⟩
 refine WL.on ?_ ?_; exact Wg 36 a7
 refine WL.v (Runs.not rfl rfl) ?_
 refine WL.v (Runs.pick_f (evb rfl a7) rfl) ?_
 refine WL.mv rfl ?_
 rcases H with ⟨f4, H⟩ | ⟨f4, H⟩
 ·have b1 : (!f2) = true := (not_t (Bool.eq_false_iff.mpr f4))
  refine WL.off ?_ ?_; exact Wg 43 b1
  refine WL.off ?_ ?_; exact Wg 43 b1
  refine WL.v (Runs.pick_t (evb rfl b1) rfl) ?_
  refine WL.mv rfl ?_
  refine WL.off ?_ ?_; exact Wg 47 rfl
  refine WL.off ?_ ?_; exact Wg 47 rfl
  refine WL.v (Runs.pick_t rfl rfl) ?_
  refine wn ?_
  refine CW.sub [(0, .pointer (sp b0)), (2, .int .i64 a2), (3, .int .i64 a3), (5, .int .u64 a5), (6, .int .u64 a6), (8, .pointer (sp a0)), (11, .pointer (sp a1)), (14, .pointer none), (15, .int .i64 0), (50, .bool true)] (by repeat' constructor) ?_
  refine CW.ct rfl rfl ?_
  refine cr (WL.as rfl (WL.as rfl (wn (CW.ret (QW.then_r ?_)))))
  exact nomatch (ho_.symm.trans H.1)
 have b1 : (!f2) = false := (not_f (Decidable.not_not.mp f4))
 refine WL.on ?_ ?_; exact Wg 43 b1
 refine WL.mv rfl ?_
 refine WL.on ?_ ?_; exact Wg 43 b1
 refine WL.v (Runs.lss rfl rfl rfl) ?_
 refine WL.v (Runs.pick_f (evb rfl b1) rfl) ?_
 refine WL.mv rfl ?_
 rcases H with ⟨f5, H⟩ | ⟨f5, H⟩
 ·have b2 : (decide (a5 < 1)) = true := (decide_eq_true f5)
  refine WL.off ?_ ?_; exact Wg 47 b2
  refine WL.off ?_ ?_; exact Wg 47 b2
  refine WL.v (Runs.pick_t (evb rfl b2) rfl) ?_
  refine wn ?_
  refine CW.sub [(0, .pointer (sp b0)), (2, .int .i64 a2), (3, .int .i64 a3), (5, .int .u64 a5), (6, .int .u64 a6), (8, .pointer (sp a0)), (11, .pointer (sp a1)), (14, .pointer none), (15, .int .i64 0), (50, .bool true)] (by repeat' constructor) ?_
  refine CW.ct rfl rfl ?_
  refine cr (WL.as rfl (WL.as rfl (wn (CW.ret (QW.then_r ?_)))))
  exact nomatch (ho_.symm.trans H.1)
 have b2 : (decide (a5 < 1)) = false := (decide_eq_false f5)
 refine WL.on ?_ ?_; exact Wg 47 b2
 refine WL.mv rfl ?_
 refine WL.on ?_ ?_; exact Wg 47 b2
 refine WL.v (Runs.gtr rfl rfl rfl) ?_
 refine WL.v (Runs.pick_f (evb rfl b2) rfl) ?_
 refine wn ?_
 refine CW.sub [(0, .pointer (sp b0)), (2, .int .i64 a2), (3, .int .i64 a3), (5, .int .u64 a5), (6, .int .u64 a6), (8, .pointer (sp a0)), (11, .pointer (sp a1)), (14, .pointer none), (15, .int .i64 0), (50, .bool (decide (a6 > 9223372036854775807)))] (by repeat' constructor) ?_
 rcases H with ⟨f6, H⟩ | ⟨f6, H⟩
 ·have f7 : (decide (a6 > 9223372036854775807)) = true := (decide_eq_true f6)
  refine CW.ct rfl f7 ?_
  refine cr (WL.as rfl (WL.as rfl (wn (CW.ret (QW.then_r ?_)))))
  exact nomatch (ho_.symm.trans H.1)
 have f7 : (decide (a6 > 9223372036854775807)) = false := (decide_eq_false f6)
 refine CW.cf rfl f7 ?_
 refine CW.skip (QW.then_n (cr (WL.mv rfl ?_)))
 refine WL.v (Runs.load_arr arr23 rfl (f3.blk (i := 5) rfl) hl1) ?_
 refine WL.mv rfl (WL.mv rfl ?_)
 refine WL.v (Runs.conv Tryd.underlying37 ⟨_, Tryd.underlying3⟩ rfl rfl) ?_
 refine WL.v (Runs.load_mid row39 rfl f3 (i := 4) rfl (pm [] ((cu a4_0) ++ ((cu a4_1) ++ iv .u8 l4_2)) [] (hm := by first | rfl | simp only [la, lc, ln, lv, hl4_2])) (by first | rfl | simp only [la, lc, ln, lv, hl4_2])) ?_
 refine WL.mv rfl (WL.mv rfl ?_)
 refine WL.v (Runs.build_seg (ps := [(0, 1), (1, 32), (33, 1), (34, 1), (35, 34), (69, 1), (70, 1)]) (cs := ((cp b0) ++ (iv .u8 l1 ++ ((ci a2) ++ ((cu (IntKind.u64.wrap a3)) ++ ((cu a4_0) ++ ((cu a4_1) ++ (iv .u8 l4_2 ++ ((cu a5) ++ (cu a6)))))))))) plc98 zero98 rfl (.cons (ms := ((cp b0))) rfl rfl rfl (.cons (ms := (iv .u8 l1)) rfl (by first | rfl | simp only [la, lc, ln, lv, hl1]) rfl (.cons (ms := ((ci a2))) rfl rfl rfl (.cons (ms := ((cu (IntKind.u64.wrap a3)))) rfl rfl rfl (.cons (ms := ((cu a4_0) ++ ((cu a4_1) ++ iv .u8 l4_2))) rfl (by first | rfl | simp only [la, lc, ln, lv, hl4_2]) rfl (.cons (ms := ((cu a5))) rfl rfl rfl (.one rfl rfl))))))) (Eq.trans (b := 71) (by first | rfl | simp only [la, lc, ln, lv, List.length_replicate]) (Eq.symm (by first | rfl | simp only [List.append_assoc, la, lc, ln, lv, hl1, hl4_2]))) (by first | rfl | simp only [aa, an, na, ca])) ?_
 refine WL.box f3 rfl rfl ?_
 intro g3 j5 j3
 refine WL.as rfl (WL.as rfl (wn (CW.ret ?_)))
 obtain ⟨h_, rfl, rfl, rfl, rfl, rfl, rfl⟩ := H
 replace h_ := ho_.symm.trans h_
 cases h_
 exact QW.ret2 rfl rfl rfl ⟨d4, c3, c4, c5, e8, c6, c7, c8, e9, c9, d0, d1, f0, g3, (g8.trans i2), i3, i4, i5, i6, i7, i8, hl1, hl4_2, rfl, (St.pickT (L := [_, _, _, _, _, _, _]) j3 [1, 2, 3, 4, 0] (by decide))⟩
/-! ### record_Of_1: function 58 -/
def record_Of_1.rel (a0_0 : Int) (l0_1 : List Int) (ar0 : Bool) : Prop := ar0 = ((l0_1.length : Int) != 160)
set_option maxHeartbeats 1000000 in
theorem record_Of_1.calls (w w1 : World) (T R : Pool) (a0_0 : Int) (l0_1 : List Int) (A0_1 : Option Addr) (n0_1 : Nat) (c0_1 : Nat) (st0 : St w w1 ((T ++ R))) (hb0_1 : HB w T A0_1 n0_1 c0_1 (iv .u8 l0_1) l0_1.length) (ar0 : Bool) (H : record_Of_1.rel a0_0 l0_1 ar0) :
  Calls Tryd.prog 58 #[.agg ((cu a0_0) ++ (cl A0_1 n0_1 c0_1)).toArray] w1 fun e w' => ∃ T' , Pl T T' ∧ e = .returned (.bool ar0) ∧ St w w' ((T' ++ R)) := by
 refine CW.enter Tryd.func58 rfl (n := 7) rfl [.agg ((cu a0_0) ++ (cl A0_1 n0_1 c0_1)).toArray] (Nat.le_of_ble_eq_true rfl) ?_
 refine CW.sub [(0, .agg ((cu a0_0) ++ (cl A0_1 n0_1 c0_1)).toArray)] ⟨rfl, trivial⟩ ?_
 refine cr ?_
 refine WL.box st0 rfl rfl ?_
 intro a1 a2 a0
 refine WL.as rfl (WL.nx ?_)
 refine WL.v (Runs.fieldAddr (off := 1) (p := 1) fld42_1 rfl rfl rfl) ?_
 refine WL.v (Runs.load nagg25 rfl (a0.cell (k := 0) rfl (pa (.slice A0_1 n0_1 c0_1) (cu a0_0) []))) ?_
 refine WL.v (Runs.len_sl Tryd.underlying25 rfl (by rw [hb0_1.1])) ?_
 refine WL.v (Runs.neq rfl rfl rfl) ?_
 refine WL.as rfl (wn (CW.ret ?_))
 obtain rfl := H
 exact QW.ret1 rfl rfl ⟨T, Pl.refl, rfl, (St.pickT (L := [_]) a0 [] (by decide))⟩
/-! ### slices_IndexFunc_s_api_Image_api_Image_fn1_record_Of_1: function 77 -/
def slices_IndexFunc_s_api_Image_api_Image_fn1_record_Of_1.L1 (l0 : List R42) (ar0 : Int) : Nat → Int → Int → Prop
 | 0, _, _ => False
 | kL1 + 1, a2, a0 => ((a0 < (l0.length : Int) ∧ ((0 ≤ a0 ∧ a0 < (l0.length : Int)) ∧ (∃ (a1 : Bool), record_Of_1.rel ((gx l0 (a0.toNat)).1) ((gx l0 (a0.toNat)).2) a1 ∧ ((a1 = true ∧ ar0 = a0) ∨ (¬ (a1 = true) ∧ slices_IndexFunc_s_api_Image_api_Image_fn1_record_Of_1.L1 l0 ar0 kL1 a2 (IntKind.i64.wrap (a0 + 1))))))) ∨ (¬ (a0 < (l0.length : Int)) ∧ ar0 = -1))
def slices_IndexFunc_s_api_Image_api_Image_fn1_record_Of_1.rel (l0 : List R42) (ar0 : Int) : Prop := (∃ k_ : Nat, slices_IndexFunc_s_api_Image_api_Image_fn1_record_Of_1.L1 l0 ar0 k_ 0 0)
set_option maxHeartbeats 1000000 in
theorem slices_IndexFunc_s_api_Image_api_Image_fn1_record_Of_1.calls (w w1 : World) (T R : Pool) (l0 : List R42) (A0 : Option Addr) (n0 : Nat) (c0 : Nat) (st0 : St w w1 ((T ++ R))) (hb0 : HS w (T ++ R) T A0 n0 c0 (f42 w) l0) (ar0 : Int) (H : slices_IndexFunc_s_api_Image_api_Image_fn1_record_Of_1.rel l0 ar0) :
  Calls Tryd.prog 77 #[.slice A0 n0 c0, .func (.func 58) #[] #[]] w1 fun e w' => ∃ T' , Pl T T' ∧ e = .returned (.int .i64 ar0) ∧ St w w' ((T' ++ R)) := by
 refine CW.enter Tryd.func77 rfl (n := 19) rfl [.slice A0 n0 c0, .func (.func 58) #[] #[]] (Nat.le_of_ble_eq_true rfl) ?_
 refine CW.sub [(0, .slice A0 n0 c0), (1, .func (.func 58) #[] #[])] ⟨rfl, rfl, trivial⟩ ?_
 refine cr (WL.as rfl (wn (CW.seq (cr (WL.mv rfl ?_)))))
 refine WL.v (Runs.len_sl Tryd.underlying40 rfl (by rw [hb0.1])) ?_
 refine WL.mv rfl (wn (CW.block ?_))
 obtain ⟨c1, H⟩ := H
 refine CW.sub [(0, .slice A0 n0 c0), (1, .func (.func 58) #[] #[]), (4, .int .i64 0), (7, .int .i64 (l0.length : Int)), (8, .int .i64 0)] ⟨rfl, rfl, rfl, rfl, rfl, trivial⟩ ?_
 refine CW.loop (fun kL1 l_ w_ => ∃ (a1 : Pool) (a3 : Int) (a0 : Int), l_ = [(0, .slice A0 n0 c0), (1, .func (.func 58) #[] #[]), (4, .int .i64 a3), (7, .int .i64 (l0.length : Int)), (8, .int .i64 a0)] ∧ slices_IndexFunc_s_api_Image_api_Image_fn1_record_Of_1.L1 l0 ar0 kL1 a3 a0 ∧ (Pl T a1) ∧ St w w_ ((a1 ++ R))) (k := c1) ⟨T, 0, 0, rfl, H, Pl.refl, st0⟩ (fun _ _ h => by obtain ⟨_, _, _, _, h, _⟩ := h; exact h.elim) ?_
 rintro kL1 d3 b2 ⟨a1, a3, a0, rfl, H, a2, a4⟩
 refine cr ?_
 refine WL.v (Runs.lss rfl rfl rfl) ?_
 refine wn (CW.seq ?_)
 rcases H with ⟨a6, H⟩ | ⟨a6, H⟩
 ·have a7 : (decide (a0 < (l0.length : Int))) = true := (decide_eq_true a6)
  refine CW.ct rfl a7 ?_
  refine CW.skip (QW.then_n (CW.seq (CW.block (cr (WL.mv rfl (WL.as rfl (WL.nx (WL.mv rfl (WL.mv rfl (WL.mv rfl ?_))))))))))
  obtain ⟨⟨c2, c3⟩, H⟩ := H
  obtain ⟨d4, b3, c4⟩ := hb0.2.2
  obtain ⟨d5, b4, c5, c6, c7⟩ := el_get (i := (a0).toNat) ((b3.at a4 (mem_TR (A := []) (fun _ h_ => a2.1 _ h_)))) (c4.mono (fun _ h_ => a2.1 _ h_)) (fz42 w) (by decide) (by omega)
  obtain ⟨b5, b6, b7, a8, c8⟩ := inv42 c7
  replace a8 : c5 = (cu ((gx l0 (a0.toNat)).1)) ++ (cl b5 b6 b7) := a8
  subst a8
  refine WL.v (Runs.indexAddr Tryd.underlying40 cells42 (by decide) rfl b4 rfl c2 (by rw [show n0 = l0.length from hb0.1]; exact c3) (o := (a0.toNat) * 2) (by first | rfl | omega)) ?_
  refine WL.v (Runs.load_srcR row42 rfl (Src.cut ((b3.at a4 (mem_TR (A := []) (fun _ h_ => a2.1 _ h_)))) b4 c6) rfl) ?_
  have c9 := St.hide (A := []) (B := []) (T := a1) (R := R) a4
  obtain ⟨a9, d0, H⟩ := H
  refine WL.callv Wanted.none ent58 rfl rfl (record_Of_1.calls w b2 a1 (R) ((gx l0 (a0.toNat)).1) ((gx l0 (a0.toNat)).2) b5 b6 b7  c9 c8 a9 d0) ?_
  rintro _ d1 ⟨a5, b8, rfl, d2⟩
  have b9 : St w d1 ((a5 ++ R)) := St.unhide (A := []) (B := []) (T := a5) (R := R) d2
  refine ⟨_, rfl, ?_⟩
  refine wn ?_
  rcases H with ⟨b0, H⟩ | ⟨b0, H⟩
  ·have b1 : a9 = true := b0
   refine CW.ct rfl b1 ?_
   refine cr (WL.mv rfl (WL.as rfl (wn (CW.ret (QW.blk_r (QW.then_r (QW.then_r (QW.blk_r (QW.then_r ?_)))))))))
   obtain rfl := H
   exact QW.ret1 rfl rfl ⟨a5, (a2.trans b8), rfl, (St.pickT (L := []) b9 [] (by decide))⟩
  have b1 : a9 = false := (Bool.eq_false_iff.mpr b0)
  refine CW.cf rfl b1 ?_
  refine CW.skip (QW.blk_n (QW.then_n (CW.region ?_)))
  refine WL.v (Runs.add rfl rfl rfl) ?_
  refine WL.mv rfl (WL.nil ?_)
  exact QW.at _ (by repeat' constructor) ⟨a5, a3, IntKind.i64.wrap (a0 + 1), rfl, H, (a2.trans b8), b9⟩
 have a7 : (decide (a0 < (l0.length : Int))) = false := (decide_eq_false a6)
 refine CW.cf rfl a7 ?_
 refine CW.exit (QW.then_x (QW.then_x (QW.blk_x (QW.then_n (cr (WL.as rfl (wn (CW.ret ?_))))))))
 obtain rfl := H
 exact QW.ret1 rfl rfl ⟨a1, a2, rfl, (St.pickT (L := []) a4 [] (by decide))⟩
/-! ### slices_ContainsFunc_s_api_Image_api_Image_fn1_record_Of_1: function 59 -/
def slices_ContainsFunc_s_api_Image_api_Image_fn1_record_Of_1.rel (l0 : List R42) (ar0 : Bool) : Prop := (∃ (a0 : Int), slices_IndexFunc_s_api_Image_api_Image_fn1_record_Of_1.rel l0 a0 ∧ ar0 = (decide (a0 ≥ 0)))
set_option maxHeartbeats 1000000 in
theorem slices_ContainsFunc_s_api_Image_api_Image_fn1_record_Of_1.calls (w w1 : World) (T R : Pool) (l0 : List R42) (A0 : Option Addr) (n0 : Nat) (c0 : Nat) (st0 : St w w1 ((T ++ R))) (hb0 : HS w (T ++ R) T A0 n0 c0 (f42 w) l0) (ar0 : Bool) (H : slices_ContainsFunc_s_api_Image_api_Image_fn1_record_Of_1.rel l0 ar0) :
  Calls Tryd.prog 59 #[.slice A0 n0 c0, .func (.func 58) #[] #[]] w1 fun e w' => ∃ T' , Pl T T' ∧ e = .returned (.bool ar0) ∧ St w w' ((T' ++ R)) := by
 refine CW.enter Tryd.func59 rfl (n := 9) rfl [.slice A0 n0 c0, .func (.func 58) #[] #[]] (Nat.le_of_ble_eq_true rfl) ?_
 refine CW.sub [(0, .slice A0 n0 c0), (1, .func (.func 58) #[] #[])] ⟨rfl, rfl, trivial⟩ ?_
 refine cr (WL.as rfl (WL.nx (WL.mv rfl (WL.mv rfl ?_))))
 have a2 := St.hide (A := []) (B := []) (T := T) (R := R) st0
 obtain ⟨a1, a3, H⟩ := H
 refine WL.call Wanted.none ent77 rfl (slices_IndexFunc_s_api_Image_api_Image_fn1_record_Of_1.calls w w1 T (R) l0 A0 n0 c0  a2 (hb0.mono (memo_TR (B := []) (fun _ h_ => h_)) (fun _ h_ => h_)) a1 a3) ?_
 rintro _ a4 ⟨a0, a5, rfl, a6⟩
 have a7 : St w a4 ((a0 ++ R)) := St.unhide (A := []) (B := []) (T := a0) (R := R) a6
 refine ⟨_, rfl, ?_⟩
 refine WL.v (Runs.geq rfl rfl rfl) ?_
 refine WL.as rfl (wn (CW.ret ?_))
 obtain rfl := H
 exact QW.ret1 rfl rfl ⟨a0, a5, rfl, (St.pickT (L := []) a7 [] (by decide))⟩
/-! ### slices_Clone_s_byte_byte: function 48 -/
def slices_Clone_s_byte_byte.rel (l0 : List Int) (r0 : List Int) : Prop := (l0 = [] → r0 = []) ∧ (∃ a0 : List Int, a0 = ([] : List Int) ++ l0 ∧ (a0.length ≤ 1099511627776 ∧ r0 = a0))
set_option maxHeartbeats 4000000 in
theorem slices_Clone_s_byte_byte.calls (w : World) (l0 : List Int) (A0 : Option Addr) (n0 : Nat) (c0 : Nat)  (hs0 : Src w A0 (iv .u8 l0)) (hn0 : n0 = l0.length) (hc0 : n0 ≤ c0) (r0 : List Int) (H : slices_Clone_s_byte_byte.rel l0 r0) :
  Calls Tryd.prog 48 #[.slice A0 n0 c0] w fun e w' => ∃ B0 q0 z0, z0 = r0.length ∧ e = .returned (.slice B0 z0 q0) ∧ St w w' [.sl B0 q0 z0 (iv .u8 r0) 5 1] := by
 rcases A0 with _ | A_
 ·replace H := H.1 (nil_of_src hs0)
  refine CW.enter Tryd.func48 rfl (n := 8) rfl [.slice none n0 c0] (Nat.le_of_ble_eq_true rfl) ?_
  refine CW.sub [(0, .slice none n0 c0)] ⟨rfl, trivial⟩ ?_
  have st0 : St w w [] := St.refl w
  refine cr (WL.as rfl (wn (CW.seq (cr (WL.mv rfl ?_)))))
  refine WL.v (Runs.eql_nil Tryd.underlying25 rfl rfl rfl) ?_
  refine wn ?_
  refine CW.ct rfl rfl ?_
  refine cr (WL.as rfl (wn (CW.ret (QW.then_r ?_))))
  have a2 := st0.nil_sl 5 1
  have a2 : St w w [.sl none 0 0 (iv .u8 ([] : List Int)) 5 1] := a2
  obtain rfl := H
  exact QW.ret1 rfl rfl ⟨none, 0, 0, rfl, rfl, a2.pick [0] (by decide)⟩
 replace H := H.2
 refine CW.enter Tryd.func48 rfl (n := 8) rfl [.slice (some A_) n0 c0] (Nat.le_of_ble_eq_true rfl) ?_
 refine CW.sub [(0, .slice (some A_) n0 c0)] ⟨rfl, trivial⟩ ?_
 have st0 : St w w [] := St.refl w
 refine cr (WL.as rfl (wn (CW.seq (cr (WL.mv rfl ?_)))))
 refine WL.v (Runs.eql_nil Tryd.underlying25 rfl rfl rfl) ?_
 refine wn ?_
 refine CW.cf rfl rfl ?_
 refine CW.skip (QW.then_n (cr ?_))
 refine WL.buildSl0 st0 Tryd.underlying25 elem5 ?_
 intro a9 b0 a0
 replace a0 : St w b0 [.sl (sp a9) 0 0 (iv .u8 ([] : List Int)) 5 1] := a0
 refine WL.mv rfl ?_
 obtain ⟨a7, a8, H⟩ := H
 obtain ⟨b1, H⟩ := H
 obtain ⟨a1, a3⟩ : ∃ n_ : Nat, n_ = a7.length := ⟨_, rfl⟩
 refine WL.append (i := 0) Wanted.none a0 rfl Tryd.underlying25 elem5 rfl rfl (hs0.ext a0) (by rw [iv_length]; exact (hn0).symm) (one_iv .u8 _) (by decide) (N := a1) (by rw [a3, a8, List.length_append]; exact congr (congrArg HAdd.hAdd (rfl)) (hn0)) (by rw [a3]; exact b1) ?_
 intro a4 a5 b2 a6
 have a6' : St w b2 [.sl a4 a5 a1 (iv .u8 a7) 5 1] := by rw [a8, ← iv_append .u8 ([] : List Int) l0]; exact a6
 refine WL.as rfl (wn (CW.ret ?_))
 obtain rfl := H
 exact QW.ret1 rfl rfl ⟨a4, a5, a1, a3, rfl, a6'.pick [0] (by decide)⟩
/-! ### record_Of: function 38 -/
def record_Of.L1 (l0 : List R42) (lr0 : List R104) (ar1 : Int) : Nat → (List R104) → Int → Prop
 | 0, _, _ => False
 | kL1 + 1, a2, a0 => ((a0 < (l0.length : Int) ∧ ((0 ≤ a0 ∧ a0 < (l0.length : Int)) ∧ (∃ (a3 : List Int), slices_Clone_s_byte_byte.rel ((gx l0 (a0.toNat)).2) a3 ∧ (∃ a1 : List R104, a1 = a2 ++ ([((gx l0 (a0.toNat)).1, a3, a0 == (IntKind.i64.wrap ((l0.length : Int) - 1)))] : List R104) ∧ (a1.length ≤ 1099511627776 ∧ record_Of.L1 l0 lr0 ar1 kL1 a1 (IntKind.i64.wrap (a0 + 1))))))) ∨ (¬ (a0 < (l0.length : Int)) ∧ lr0 = a2 ∧ ar1 = 0))
def record_Of.rel (l0 : List R42) (lr0 : List R104) (ar1 : Int) : Prop := (((l0.length : Int) = 0 ∧ lr0 = ([] : List R104) ∧ ar1 = 1) ∨ (¬ ((l0.length : Int) = 0) ∧ (∃ (a0 : Bool), slices_ContainsFunc_s_api_Image_api_Image_fn1_record_Of_1.rel l0 a0 ∧ ((a0 = true ∧ lr0 = ([] : List R104) ∧ ar1 = 1) ∨ (¬ (a0 = true) ∧ (∃ k_ : Nat, record_Of.L1 l0 lr0 ar1 k_ ([] : List R104) 0))))))
set_option maxHeartbeats 1000000 in
theorem record_Of.calls (w w1 : World) (T R : Pool) (l0 : List R42) (A0 : Option Addr) (n0 : Nat) (c0 : Nat) (st0 : St w w1 ((T ++ R))) (hb0 : HS w (T ++ R) T A0 n0 c0 (f42 w) l0) (lr0 : List R104) (ar1 : Int) (H : record_Of.rel l0 lr0 ar1) :
  Calls Tryd.prog 38 #[.slice A0 n0 c0] w1 fun e w' => ∃ T' Ar0 nr0 cr0 xr0, Pl T T' ∧ nr0 = lr0.length ∧ HRs T' (f104 w) xr0 lr0 ∧ e = .returned (.tuple #[.slice Ar0 nr0 cr0, .int .i64 ar1]) ∧ St w w' (.sl Ar0 cr0 nr0 xr0 104 3 :: (T' ++ R)) := by
 refine CW.enter Tryd.func38 rfl (n := 39) rfl [.slice A0 n0 c0] (Nat.le_of_ble_eq_true rfl) ?_
 refine CW.sub [(0, .slice A0 n0 c0)] ⟨rfl, trivial⟩ ?_
 refine cr (WL.as rfl (WL.as rfl (WL.nx (WL.as rfl (wn (CW.seq (cr (WL.mv rfl ?_))))))))
 refine WL.v (Runs.len_sl Tryd.underlying40 rfl (by rw [hb0.1])) ?_
 refine WL.v (Runs.eql rfl rfl rfl) ?_
 refine WL.mv rfl ?_
 rcases H with ⟨c8, H⟩ | ⟨c8, H⟩
 ·have a8 : ((l0.length : Int) == 0) = true := (beq_iff_eq.mpr c8)
  refine WL.off ?_ ?_; exact Wg 11 a8
  refine WL.off ?_ ?_; exact Wg 11 a8
  refine WL.off ?_ ?_; exact Wg 11 a8
  refine WL.v (Runs.pick_t (evb rfl a8) rfl) ?_
  refine wn ?_
  refine CW.sub [(0, .slice A0 n0 c0), (2, .slice none 0 0), (3, .int .i64 0), (15, .bool true)] ⟨rfl, rfl, rfl, rfl, trivial⟩ ?_
  refine CW.ct rfl rfl ?_
  refine cr (WL.as rfl (WL.as rfl (wn (CW.ret (QW.then_r ?_)))))
  have c9 := st0.nil_sl 104 3
  have c9 : St w w1 (.sl none 0 0 ([] : Cs) 104 3 :: (T ++ R)) := c9
  obtain ⟨rfl, rfl⟩ := H
  exact QW.ret2 rfl rfl rfl ⟨T, none, 0, 0, ([] : Cs), Pl.refl, rfl, (HRs.nil : HRs T (f104 w) [] []), rfl, (St.pickT (L := [_]) c9 [0] (by decide))⟩
 have a8 : ((l0.length : Int) == 0) = false := (beq_eq_false_iff_ne.mpr c8)
 refine WL.on ?_ ?_; exact Wg 11 a8
 refine WL.mv rfl ?_
 refine WL.on ?_ ?_; exact Wg 11 a8
 refine WL.mv rfl ?_
 refine WL.on ?_ ?_; exact Wg 11 a8
 have g1 := St.hide (A := []) (B := []) (T := T) (R := R) st0
 obtain ⟨c5, g2, H⟩ := H
 refine WL.call Wanted.none ent59 rfl (slices_ContainsFunc_s_api_Image_api_Image_fn1_record_Of_1.calls w w1 T (R) l0 A0 n0 c0  g1 (hb0.mono (memo_TR (B := []) (fun _ h_ => h_)) (fun _ h_ => h_)) c5 g2) ?_
 rintro _ d0 ⟨a9, b7, rfl, g3⟩
 have e7 : St w d0 ((a9 ++ R)) := St.unhide (A := []) (B := []) (T := a9) (R := R) g3
 refine ⟨_, rfl, ?_⟩
 refine WL.v (Runs.pick_f (evb rfl a8) rfl) ?_
 refine wn ?_
 refine CW.sub [(0, .slice A0 n0 c0), (2, .slice none 0 0), (3, .int .i64 0), (15, .bool c5)] ⟨rfl, rfl, rfl, rfl, trivial⟩ ?_
 rcases H with ⟨d1, H⟩ | ⟨d1, H⟩
 ·have d2 : c5 = true := d1
  refine CW.ct rfl d2 ?_
  refine cr (WL.as rfl (WL.as rfl (wn (CW.ret (QW.then_r ?_)))))
  have d3 := e7.nil_sl 104 3
  have d3 : St w d0 (.sl none 0 0 ([] : Cs) 104 3 :: (a9 ++ R)) := d3
  obtain ⟨rfl, rfl⟩ := H
  exact QW.ret2 rfl rfl rfl ⟨a9, none, 0, 0, ([] : Cs), b7, rfl, (HRs.nil : HRs a9 (f104 w) [] []), rfl, (St.pickT (L := [_]) d3 [0] (by decide))⟩
 have d2 : c5 = false := (Bool.eq_false_iff.mpr d1)
 refine CW.cf rfl d2 ?_
 refine CW.skip (QW.then_n (cr (WL.as rfl (wn (CW.seq (cr (WL.mv rfl ?_)))))))
 refine WL.v (Runs.len_sl Tryd.underlying40 rfl (by rw [hb0.1])) ?_
 refine WL.mv rfl (wn (CW.block ?_))
 have d4 := e7.nil_sl 104 3
 have d4 : St w d0 (.sl none 0 0 ([] : Cs) 104 3 :: (a9 ++ R)) := d4
 obtain ⟨g4, H⟩ := H
 refine CW.sub [(0, .slice A0 n0 c0), (2, .slice none 0 0), (3, .int .i64 0), (5, .slice none 0 0), (16, .slice A0 n0 c0), (17, .int .i64 (l0.length : Int)), (18, .int .i64 0)] (by repeat' constructor) ?_
 refine CW.loop (fun kL1 l_ w_ => ∃ (b0 : Pool) (a5 : Option Addr) (a6 : Nat) (a4 : Nat) (a7 : Cs) (b8 : List R104) (a0 : Int), l_ = [(0, .slice A0 n0 c0), (2, .slice none 0 0), (3, .int .i64 0), (5, .slice a5 a4 a6), (16, .slice A0 n0 c0), (17, .int .i64 (l0.length : Int)), (18, .int .i64 a0)] ∧ record_Of.L1 l0 lr0 ar1 kL1 b8 a0 ∧ (Pl a9 b0) ∧ (a4 = b8.length) ∧ (HRs b0 (f104 w) a7 b8) ∧ St w w_ (.sl a5 a6 a4 a7 104 3 :: (b0 ++ R))) (k := g4) ⟨a9, none, 0, 0, ([] : Cs), ([] : List R104), 0, rfl, H, Pl.refl, rfl, (HRs.nil : HRs a9 (f104 w) [] []), d4⟩ (fun _ _ h => by obtain ⟨_, _, _, _, _, _, _, _, h, _⟩ := h; exact h.elim) ?_
 rintro kL1 i6 i7 ⟨b0, a5, a6, a4, a7, b8, a0, rfl, H, b9, e8, e9, c6⟩
 refine cr ?_
 refine WL.v (Runs.lss rfl rfl rfl) ?_
 refine wn (CW.seq ?_)
 rcases H with ⟨d5, H⟩ | ⟨d5, H⟩
 ·have d6 : (decide (a0 < (l0.length : Int))) = true := (decide_eq_true d5)
  refine CW.ct rfl d6 ?_
  refine CW.skip (QW.then_n (CW.seq (CW.block (cr (WL.mv rfl ?_)))))
  obtain ⟨⟨g5, g6⟩, H⟩ := H
  obtain ⟨i8, f0, g7⟩ := hb0.2.2
  obtain ⟨i9, f1, g8, g9, h0⟩ := el_get (i := (a0).toNat) ((f0.at c6 (mem_TR (A := [_]) (fun _ h_ => b9.1 _ (b7.1 _ h_))))) (g7.mono (fun _ h_ => b9.1 _ (b7.1 _ h_))) (fz42 w) (by decide) (by omega)
  obtain ⟨b1, b2, b3, d7, d8⟩ := inv42 h0
  replace d7 : g8 = (cu ((gx l0 (a0.toNat)).1)) ++ (cl b1 b2 b3) := d7
  subst d7
  refine WL.v (Runs.indexAddr Tryd.underlying40 cells42 (by decide) rfl f1 rfl g5 (by rw [show n0 = l0.length from hb0.1]; exact g6) (o := (a0.toNat) * 2) (by first | rfl | omega)) ?_
  refine WL.v (Runs.load_srcR row42 rfl (Src.cut ((f0.at c6 (mem_TR (A := [_]) (fun _ h_ => b9.1 _ (b7.1 _ h_))))) f1 g9) rfl) ?_
  refine WL.alloc c6 zero42 ?_
  intro b6 j0 h1
  refine WL.as rfl ?_
  refine WL.sm (new := ((cu ((gx l0 (a0.toNat)).1)) ++ (cl b1 b2 b3))) (i := 0) (pre := (([] : Cs))) (mid := ((cu 0) ++ (cl none 0 0))) (post := (([] : Cs))) (ms := ((cu ((gx l0 (a0.toNat)).1)) ++ (cl b1 b2 b3))) h1 rfl row42 (by first | rfl | simp only [aa, an, na, ca]) rfl rfl rfl rfl rfl (one_cat oneU oneU) rfl ?_
  intro f2 c1
  try dsimp only [List.set] at c1
  refine WL.nx ?_
  refine WL.v (Runs.fieldAddr (off := 1) (p := 1) fld42_1 rfl rfl rfl) ?_
  refine WL.v (Runs.load nagg25 rfl (c1.cell (k := 0) rfl (pa (.slice b1 b2 b3) (cu ((gx l0 (a0.toNat)).1)) []))) ?_
  obtain ⟨b4, h2, H⟩ := H
  refine WL.call Wanted.none ent48 rfl (slices_Clone_s_byte_byte.calls f2 ((gx l0 (a0.toNat)).2) b1 b2 b3 ((d8.2.2.at c1 (mem_T (A := [_, _]) (fun _ h_ => h_)))) (d8.1) (d8.2.1) b4 h2) ?_
  rintro _ h3 ⟨a1, a2, a3, h4, rfl, h5⟩
  have h6 := c1.call h5
  refine ⟨_, rfl, ?_⟩
  refine WL.v (Runs.fieldAddr (off := 1) (p := 1) fld42_1 rfl rfl rfl) ?_
  refine WL.so (new := ((cu ((gx l0 (a0.toNat)).1)) ++ (cl a1 a3 a2))) (i := 1) (u0 := .slice b1 b2 b3) (pre := ((cu ((gx l0 (a0.toNat)).1)))) (post := (([] : Cs))) h6 rfl cells25 (by first | rfl | simp only [aa, an, na, ca]) rfl rfl rfl rfl rfl ?_
  intro f3 c2
  try dsimp only [List.set] at c2
  refine wn (CW.region (WL.mv rfl ?_))
  refine WL.v (Runs.load_mid row42 rfl c2 (i := 1) rfl (pm [] ((cu ((gx l0 (a0.toNat)).1)) ++ (cl a1 a3 a2)) []) rfl) ?_
  refine WL.mv rfl (WL.mv rfl ?_)
  refine WL.v (Runs.len_sl Tryd.underlying40 rfl (by rw [hb0.1])) ?_
  refine WL.v (Runs.sub rfl rfl rfl) ?_
  refine WL.v (Runs.eql rfl rfl rfl) ?_
  refine WL.v (Runs.build_seg (ps := [(0, 2), (2, 1)]) (cs := ((cu ((gx l0 (a0.toNat)).1)) ++ ((cl a1 a3 a2) ++ (cb (a0 == (IntKind.i64.wrap ((l0.length : Int) - 1))))))) plc104 zero104 rfl (.cons (ms := ((cu ((gx l0 (a0.toNat)).1)) ++ (cl a1 a3 a2))) rfl rfl rfl (.one rfl rfl)) rfl rfl) ?_
  have hb_73c := c2.cap (i := 0) rfl
  obtain ⟨b5, f4, h7, d9⟩ := St.freeze (A := []) (B := [_, _]) (T := b0) (R := R) c2
  have h8 : HB w b5 a1 a3 a2 (iv .u8 b4) b4.length := ⟨h4, hb_73c, Hd.of_sl h7⟩
  replace d9 : St w f3 (.cells b6 ((cu ((gx l0 (a0.toNat)).1)) ++ (cl a1 a3 a2)) 42 :: .sl a5 a6 a4 a7 104 3 :: (b5 ++ R)) := d9
  obtain ⟨j1, j2, h9, i0, i1, i2⟩ := slr104_1
  refine WL.buildSlSg (sz := 3) (cs := ((cu ((gx l0 (a0.toNat)).1)) ++ ((cl a1 a3 a2) ++ (cb (a0 == (IntKind.i64.wrap ((l0.length : Int) - 1))))))) d9 Tryd.underlying100 h9 i0 i1 (by decide) (by decide) i2 rfl (.one rfl rfl) rfl rfl ?_
  intro e0 f5 e1
  replace e1 : St w f5 (.cells e0 ((cu ((gx l0 (a0.toNat)).1)) ++ ((cl a1 a3 a2) ++ (cb (a0 == (IntKind.i64.wrap ((l0.length : Int) - 1)))))) 104 :: .cells b6 ((cu ((gx l0 (a0.toNat)).1)) ++ (cl a1 a3 a2)) 42 :: .sl a5 a6 a4 a7 104 3 :: (b5 ++ R)) := e1
  have c7 := St.rows_sl (i := 0) (m := 1) (size := 3) e1 rfl rfl (by decide)
  obtain ⟨c3, f6⟩ : ∃ x_ : Cs, x_ = (cu ((gx l0 (a0.toNat)).1)) ++ ((cl a1 a3 a2) ++ (cb (a0 == (IntKind.i64.wrap ((l0.length : Int) - 1))))) := ⟨_, rfl⟩
  have e2 : HRs b5 (f104 w) c3 ([((gx l0 (a0.toNat)).1, b4, a0 == (IntKind.i64.wrap ((l0.length : Int) - 1)))] : List R104) := by rw [f6]; exact (HRs.one (.cons rfl (.cons ⟨_, _, _, rfl, h8⟩ (.cons rfl .nil))))
  replace c7 : St w f5 (.sl (sp e0) 1 1 c3 104 3 :: .cells b6 ((cu ((gx l0 (a0.toNat)).1)) ++ (cl a1 a3 a2)) 42 :: .sl a5 a6 a4 a7 104 3 :: (b5 ++ R)) := by rw [f6]; exact c7
  obtain ⟨e3, f7, H⟩ := H
  obtain ⟨i3, H⟩ := H
  obtain ⟨e4, e5⟩ : ∃ n_ : Nat, n_ = e3.length := ⟨_, rfl⟩
  refine WL.appendR (i := 2) (N := e4) (news := c3) Wanted.none c7 rfl Tryd.underlying100 elemS104 rfl rfl (c7.src_sl (k := 0) rfl) (by have h1_ := (e2).length (fz104 w); have h2_ : 1 = ([((gx l0 (a0.toNat)).1, b4, a0 == (IntKind.i64.wrap ((l0.length : Int) - 1)))] : List R104).length := rfl; rw [h1_, h2_]) (HLs.one e2) (by decide) (by have h1_ : a4 = b8.length := e8; have h2_ : 1 = ([((gx l0 (a0.toNat)).1, b4, a0 == (IntKind.i64.wrap ((l0.length : Int) - 1)))] : List R104).length := rfl; rw [e5, f7, List.length_append]; omega) (by rw [e5]; exact i3) ?_
  intro f8 f9 i4 c4
  obtain ⟨e6, g0⟩ : ∃ x_ : Cs, x_ = a7 ++ c3 := ⟨_, rfl⟩
  have i5 : HRs b5 (f104 w) e6 e3 := by rw [g0, f7]; exact HRs.append (e9.mono (fun _ h_ => f4.1 _ h_)) e2
  replace c4 : St w i4 (.sl (sp e0) 1 1 c3 104 3 :: .cells b6 ((cu ((gx l0 (a0.toNat)).1)) ++ (cl a1 a3 a2)) 42 :: .sl f8 f9 e4 e6 104 3 :: (b5 ++ R)) := by rw [g0]; exact c4
  refine WL.as rfl (WL.nil (QW.blk_n (QW.then_n (CW.region ?_))))
  refine WL.v (Runs.add rfl rfl rfl) ?_
  refine WL.mv rfl (WL.nil ?_)
  have c4' := (St.pickT (L := [_, _, _]) c4 [2] (by decide))
  exact QW.at _ (by repeat' constructor) ⟨b5, f8, f9, e4, e6, e3, IntKind.i64.wrap (a0 + 1), rfl, H, (b9.trans f4), e5, i5, c4'⟩
 have d6 : (decide (a0 < (l0.length : Int))) = false := (decide_eq_false d5)
 refine CW.cf rfl d6 ?_
 refine CW.exit (QW.then_x (QW.then_x (QW.blk_x (QW.then_n (cr (WL.mv rfl (WL.as rfl (WL.as rfl (wn (CW.ret ?_))))))))))
 obtain ⟨rfl, rfl⟩ := H
 exact QW.ret2 rfl rfl rfl ⟨b0, a5, a4, a6, a7, (b7.trans b9), e8, e9, rfl, (St.pickT (L := [_]) c6 [0] (by decide))⟩
/-! ### journal_Journal_Room: function 16 -/
def journal_Journal_Room.rel (l0_0_0 : List R25) (l0_0_1 : List R124) (a0_0_2 : Int) (a0_0_3 : Bool) (l0_0_4 : List R48) (l0_1 : List Int) (a0_2 : Int) (a0_3 : Int) (a0_4 : Int) (a0_5 : Int) (l0_6 : List Int) (a0_7 : Int) (a0_8 : Int) (ls0_0_0 : List R25) (ls0_0_1 : List R124) (as0_0_2 : Int) (as0_0_3 : Bool) (ls0_0_4 : List R48) (ls0_1 : List Int) (as0_2 : Int) (as0_3 : Int) (as0_4 : Int) (as0_5 : Int) (ls0_6 : List Int) (as0_7 : Int) (as0_8 : Int) (ar0 : Int) : Prop := ls0_0_0 = l0_0_0 ∧ ls0_0_1 = l0_0_1 ∧ as0_0_2 = a0_0_2 ∧ as0_0_3 = a0_0_3 ∧ ls0_0_4 = l0_0_4 ∧ ls0_1 = l0_1 ∧ as0_2 = a0_2 ∧ as0_3 = a0_3 ∧ as0_4 = a0_4 ∧ as0_5 = a0_5 ∧ ls0_6 = l0_6 ∧ as0_7 = a0_7 ∧ as0_8 = a0_8 ∧ ar0 = IntKind.u64.wrap (a0_3 - a0_5)
set_option maxHeartbeats 1000000 in
theorem journal_Journal_Room.calls (w w1 : World) (T R : Pool) (l0_0_0 : List R25) (l0_0_1 : List R124) (a0_0_2 : Int) (a0_0_3 : Bool) (l0_0_4 : List R48) (l0_1 : List Int) (a0_2 : Int) (a0_3 : Int) (a0_4 : Int) (a0_5 : Int) (l0_6 : List Int) (a0_7 : Int) (a0_8 : Int) (b0 : Nat) (b0_0 : Nat) (A0_0_0 : Option Addr) (n0_0_0 : Nat) (c0_0_0 : Nat) (x0_0_0 : Cs) (A0_0_1 : Option Addr) (n0_0_1 : Nat) (c0_0_1 : Nat) (x0_0_1 : Cs) (A0_0_4 : Option Addr) (n0_0_4 : Nat) (c0_0_4 : Nat) (x0_0_4 : Cs) (st0 : St w w1 (oJ b0 b0_0 l0_1 a0_2 a0_3 a0_4 a0_5 l0_6 a0_7 a0_8 98 :: oD b0_0 A0_0_0 n0_0_0 c0_0_0 A0_0_1 n0_0_1 c0_0_1 a0_0_2 a0_0_3 A0_0_4 n0_0_4 c0_0_4 95 :: .sl A0_0_0 c0_0_0 n0_0_0 x0_0_0 25 1 :: .sl A0_0_1 c0_0_1 n0_0_1 x0_0_1 124 2 :: .sl A0_0_4 c0_0_4 n0_0_4 x0_0_4 48 2 :: (T ++ R))) (hn0_0_0 : n0_0_0 = l0_0_0.length) (hx0_0_0 : HRs T (f25 w) x0_0_0 l0_0_0) (hn0_0_1 : n0_0_1 = l0_0_1.length) (hx0_0_1 : HRs T (f124 w) x0_0_1 l0_0_1) (hn0_0_4 : n0_0_4 = l0_0_4.length) (hx0_0_4 : HRs T (f48 w) x0_0_4 l0_0_4) (hl0_1 : l0_1.length = 32) (hl0_6 : l0_6.length = 32) (ls0_0_0 : List R25) (ls0_0_1 : List R124) (as0_0_2 : Int) (as0_0_3 : Bool) (ls0_0_4 : List R48) (ls0_1 : List Int) (as0_2 : Int) (as0_3 : Int) (as0_4 : Int) (as0_5 : Int) (ls0_6 : List Int) (as0_7 : Int) (as0_8 : Int) (ar0 : Int) (H : journal_Journal_Room.rel l0_0_0 l0_0_1 a0_0_2 a0_0_3 l0_0_4 l0_1 a0_2 a0_3 a0_4 a0_5 l0_6 a0_7 a0_8 ls0_0_0 ls0_0_1 as0_0_2 as0_0_3 ls0_0_4 ls0_1 as0_2 as0_3 as0_4 as0_5 ls0_6 as0_7 as0_8 ar0) :
  Calls Tryd.prog 16 #[.pointer (sp b0)] w1 fun e w' => ∃ T' As0_0_0 ns0_0_0 cs0_0_0 xs0_0_0 As0_0_1 ns0_0_1 cs0_0_1 xs0_0_1 As0_0_4 ns0_0_4 cs0_0_4 xs0_0_4, Pl T T' ∧ ns0_0_0 = ls0_0_0.length ∧ HRs T' (f25 w) xs0_0_0 ls0_0_0 ∧ ns0_0_1 = ls0_0_1.length ∧ HRs T' (f124 w) xs0_0_1 ls0_0_1 ∧ ns0_0_4 = ls0_0_4.length ∧ HRs T' (f48 w) xs0_0_4 ls0_0_4 ∧ ls0_1.length = 32 ∧ ls0_6.length = 32 ∧ e = .returned (.int .u64 ar0) ∧ St w w' (oJ b0 b0_0 ls0_1 as0_2 as0_3 as0_4 as0_5 ls0_6 as0_7 as0_8 98 :: oD b0_0 As0_0_0 ns0_0_0 cs0_0_0 As0_0_1 ns0_0_1 cs0_0_1 as0_0_2 as0_0_3 As0_0_4 ns0_0_4 cs0_0_4 95 :: .sl As0_0_0 cs0_0_0 ns0_0_0 xs0_0_0 25 1 :: .sl As0_0_1 cs0_0_1 ns0_0_1 xs0_0_1 124 2 :: .sl As0_0_4 cs0_0_4 ns0_0_4 xs0_0_4 48 2 :: (T' ++ R)) := by
 refine CW.enter Tryd.func16 rfl (n := 15) rfl [.pointer (sp b0)] (Nat.le_of_ble_eq_true rfl) ?_
 refine CW.sub [(0, .pointer (sp b0))] ⟨rfl, trivial⟩ ?_
 refine cr (WL.as rfl (wn (CW.seq (cr (WL.mv rfl ?_)))))
 refine WL.v (Runs.eql_ptr Tryd.underlying34 rfl rfl rfl) ?_
 refine wn ?_
 refine CW.cf rfl rfl ?_
 refine CW.skip (QW.then_n (CW.seq ?_))
 refine CW.region_qa wide (by kernel_rfl) st0 ?_
 refine HL.mv rfl ?_
 refine HL.v (fun wq sq => (Runs.nilCheck rfl)) ?_
 refine HL.v (fun wq sq => (Runs.fieldAddr (off := 34) (p := 34) fld98_3 rfl rfl rfl)) ?_
 refine HL.v (fun wq sq => (Runs.load nagg37 rfl (sq.cell (k := 0) rfl (pa (.int .u64 a0_3) ((cp b0_0) ++ (iv .u8 l0_1 ++ (ci a0_2))) ((cu a0_4) ++ ((cu a0_5) ++ (iv .u8 l0_6 ++ ((cu a0_7) ++ (cu a0_8))))) (ho := by first | rfl | simp only [la, lc, ln, lv, hl0_1]))))) ?_
 refine HL.mv rfl ?_
 refine HL.v (fun wq sq => (Runs.nilCheck rfl)) ?_
 refine HL.v (fun wq sq => (Runs.fieldAddr (off := 35) (p := 35) fld98_4 rfl rfl rfl)) ?_
 refine HL.v (fun wq sq => (Runs.fieldAddr (off := 1) (p := 36) fld39_1 rfl rfl rfl)) ?_
 refine HL.v (fun wq sq => (Runs.load nagg37 rfl (sq.cell (k := 0) rfl (pa (.int .u64 a0_5) ((cp b0_0) ++ (iv .u8 l0_1 ++ ((ci a0_2) ++ ((cu a0_3) ++ (cu a0_4))))) (iv .u8 l0_6 ++ ((cu a0_7) ++ (cu a0_8))) (ho := by first | rfl | simp only [la, lc, ln, lv, hl0_1]))))) ?_
 refine HL.v (fun wq sq => (Runs.sub rfl rfl rfl)) ?_
 refine HL.as rfl ?_
 refine HL.nil (fun a1 a0 => ?_)
 refine wn (CW.ret ?_)
 obtain ⟨rfl, rfl, rfl, rfl, rfl, rfl, rfl, rfl, rfl, rfl, rfl, rfl, rfl, rfl⟩ := H
 exact QW.ret1 rfl rfl ⟨T, A0_0_0, n0_0_0, c0_0_0, x0_0_0, A0_0_1, n0_0_1, c0_0_1, x0_0_1, A0_0_4, n0_0_4, c0_0_4, x0_0_4, Pl.refl, hn0_0_0, hx0_0_0, hn0_0_1, hx0_0_1, hn0_0_4, hx0_0_4, hl0_1, hl0_6, rfl, (St.pickT (L := [_, _, _, _, _]) a0 [0, 1, 2, 3, 4] (by decide))⟩
/-! ### word_Pad: function 60 -/
def word_Pad.rel (l0 : List Int) (a1 : Int) (r0 : List Int) : Prop := ((a1 < 1 ∧ r0 = []) ∨ (¬ (a1 < 1) ∧ ((0 ≤ a1 ∧ a1 ≤ 1099511627776) ∧ (∃ a0 : List Int, a0 = cpy (List.replicate (a1).toNat (0 : Int)) (0) ((List.replicate (a1).toNat (0 : Int)).length) l0 ∧ r0 = a0))))
set_option maxHeartbeats 4000000 in
theorem word_Pad.calls (w : World) (l0 : List Int) (a1 : Int) (A0 : Option Addr) (n0 : Nat) (c0 : Nat)  (hs0 : Src w A0 (iv .u8 l0)) (hn0 : n0 = l0.length) (hc0 : n0 ≤ c0) (r0 : List Int) (H : word_Pad.rel l0 a1 r0) :
  Calls Tryd.prog 60 #[.slice A0 n0 c0, .int .i64 a1] w fun e w' => ∃ B0 q0 z0, z0 = r0.length ∧ e = .returned (.slice B0 z0 q0) ∧ St w w' [.sl B0 q0 z0 (iv .u8 r0) 5 1] := by
 refine CW.enter Tryd.func60 rfl (n := 14) rfl [.slice A0 n0 c0, .int .i64 a1] (Nat.le_of_ble_eq_true rfl) ?_
 refine CW.sub [(0, .slice A0 n0 c0), (1, .int .i64 a1)] ⟨rfl, rfl, trivial⟩ ?_
 have st0 : St w w [] := St.refl w
 refine cr (WL.as rfl (wn (CW.seq (cr (WL.mv rfl ?_)))))
 refine WL.v (Runs.lss rfl rfl rfl) ?_
 refine wn ?_
 rcases H with ⟨a5, H⟩ | ⟨a5, H⟩
 ·have a6 : (decide (a1 < 1)) = true := (decide_eq_true a5)
  refine CW.ct rfl a6 ?_
  refine cr (WL.as rfl (wn (CW.ret (QW.then_r ?_))))
  have a7 := st0.nil_sl 5 1
  have a7 : St w w [.sl none 0 0 (iv .u8 ([] : List Int)) 5 1] := a7
  obtain rfl := H
  exact QW.ret1 rfl rfl ⟨none, 0, 0, rfl, rfl, a7.pick [0] (by decide)⟩
 have a6 : (decide (a1 < 1)) = false := (decide_eq_false a5)
 refine CW.cf rfl a6 ?_
 refine CW.skip (QW.then_n (cr (WL.mv rfl ?_)))
 obtain ⟨⟨b2, b3⟩, H⟩ := H
 obtain ⟨a0, a8⟩ : ∃ n_ : Nat, n_ = (a1).toNat := ⟨_, rfl⟩
 refine WL.make st0 Tryd.underlying25 elem5 rfl rfl b2 b3 (by decide) (N := a0) a8 ?_
 intro a4 b4 a2
 replace a2 : St w b4 [.sl (sp a4) a0 a0 (iv .u8 (List.replicate (a1).toNat (0 : Int))) 5 1] := by rw [← a8]; rw [iv_replicate] at a2; exact a2
 have a3 : a0 = (List.replicate (a1).toNat (0 : Int)).length := by rw [List.length_replicate]; exact a8
 refine WL.as rfl (WL.nx (WL.mv rfl (WL.mv rfl ?_)))
 obtain ⟨a9, b1, H⟩ := H
 have hfit_ : 0 + a0 ≤ a0 := by have := a3; omega
 refine WL.copy_sl (i := 0) (o := 0) a2 rfl Tryd.underlying25 cells5 rfl rfl (fun _ => map_add_zero) hfit_ (hs0.ext a2) (hn0.trans (iv_length .u8 _).symm) (one_iv .u8 _) ?_
 intro b5 b0
 have b6 : a9.length = (List.replicate (a1).toNat (0 : Int)).length := by rw [b1]; exact cpy_length (by have := (show a0 = (List.replicate (a1).toNat (0 : Int)).length from a3); have := a3; omega)
 have b7 : a0 = a9.length := by rw [b6]; exact a3
 have b0' : St w b5 [.sl (sp a4) a0 a0 (iv .u8 a9) 5 1] := by rw [b1, ← (show a0 = (List.replicate (a1).toNat (0 : Int)).length from a3), ← cpy_iv .u8]; exact b0
 have b8 := iv_length .u8 l0
 refine wn ?_
 refine CW.sub [(4, .slice none 0 0), (5, .slice (sp a4) a0 a0)] ⟨rfl, rfl, trivial⟩ ?_
 refine cr (WL.mv rfl (WL.as rfl (wn (CW.ret ?_))))
 obtain rfl := H
 exact QW.ret1 rfl rfl ⟨(sp a4), a0, a0, b7, rfl, b0'.pick [0] (by decide)⟩
/-! ### word_size: function 56 -/
def word_size.rel (a0 : Int) (r0 : Bool) : Prop := ((a0 ≥ 1 ∧ r0 = (decide (a0 ≤ 8))) ∨ (¬ (a0 ≥ 1) ∧ r0 = false))
set_option maxHeartbeats 4000000 in
theorem word_size.calls (w : World) (a0 : Int)    (r0 : Bool) (H : word_size.rel a0 r0) :
  Calls Tryd.prog 56 #[.int .i64 a0] w fun e w' => e = .returned (.bool r0) ∧ St w w' [] := by
 refine CW.enter Tryd.func56 rfl (n := 9) rfl [.int .i64 a0] (Nat.le_of_ble_eq_true rfl) ?_
 refine CW.sub [(0, .int .i64 a0)] ⟨rfl, trivial⟩ ?_
 have st0 : St w w [] := St.refl w
 refine cr (WL.as rfl (WL.nx (WL.mv rfl ?_)))
 refine WL.v (Runs.geq rfl rfl rfl) ?_
 refine WL.mv rfl ?_
 rcases H with ⟨a2, H⟩ | ⟨a2, H⟩
 ·have a1 : (decide (a0 ≥ 1)) = true := (decide_eq_true a2)
  refine WL.on ?_ ?_; exact Wg 5 a1
  refine WL.mv rfl ?_
  refine WL.on ?_ ?_; exact Wg 5 a1
  refine WL.v (Runs.leq rfl rfl rfl) ?_
  refine WL.v (Runs.pick_t (evb rfl a1) rfl) ?_
  refine WL.as rfl (wn (CW.ret ?_))
  obtain rfl := H
  exact QW.ret1 rfl rfl ⟨rfl, st0.pick [] (by decide)⟩
 have a1 : (decide (a0 ≥ 1)) = false := (decide_eq_false a2)
 refine WL.off ?_ ?_; exact Wg 5 a1
 refine WL.off ?_ ?_; exact Wg 5 a1
 refine WL.v (Runs.pick_f (evb rfl a1) rfl) ?_
 refine WL.as rfl (wn (CW.ret ?_))
 obtain rfl := H
 exact QW.ret1 rfl rfl ⟨rfl, st0.pick [] (by decide)⟩
/-! ### word_Put: function 32 -/
def word_Put.L1 (a0 : Int) (a1 : Int) (r0 : List Int) : Nat → (List Int) → Int → Prop
 | 0, _, _ => False
 | kL1 + 1, a3, a2 => ((a2 < a1 ∧ (0 ≤ (IntKind.u64.wrap (IntKind.i64.wrap (8 * a2))) ∧ (∃ a4 : Int, a4 = shrI .u64 a0 (IntKind.u64.wrap (IntKind.i64.wrap (8 * a2))) ∧ ((0 ≤ a2 ∧ a2 < (a3.length : Int)) ∧ (∃ a5 : List Int, a5 = List.set a3 (a2.toNat) (IntKind.u8.wrap a4) ∧ word_Put.L1 a0 a1 r0 kL1 a5 (IntKind.i64.wrap (a2 + 1))))))) ∨ (¬ (a2 < a1) ∧ r0 = a3))
def word_Put.rel (a0 : Int) (a1 : Int) (r0 : List Int) : Prop := (∃ (a2 : Bool), word_size.rel a1 a2 ∧ ((¬ (a2 = true) ∧ r0 = []) ∨ (¬ (¬ (a2 = true)) ∧ ((0 ≤ a1 ∧ a1 ≤ 1099511627776) ∧ (∃ k_ : Nat, word_Put.L1 a0 a1 r0 k_ (List.replicate (a1).toNat (0 : Int)) 0)))))
set_option maxHeartbeats 4000000 in
theorem word_Put.calls (w : World) (a0 : Int) (a1 : Int)    (r0 : List Int) (H : word_Put.rel a0 a1 r0) :
  Calls Tryd.prog 32 #[.int .u64 a0, .int .i64 a1] w fun e w' => ∃ B0 q0 z0, z0 = r0.length ∧ e = .returned (.slice B0 z0 q0) ∧ St w w' [.sl B0 q0 z0 (iv .u8 r0) 5 1] := by
 refine CW.enter Tryd.func32 rfl (n := 27) rfl [.int .u64 a0, .int .i64 a1] (Nat.le_of_ble_eq_true rfl) ?_
 refine CW.sub [(0, .int .u64 a0), (1, .int .i64 a1)] ⟨rfl, rfl, trivial⟩ ?_
 have st0 : St w w [] := St.refl w
 refine cr (WL.as rfl (wn (CW.seq (cr (WL.mv rfl ?_)))))
 obtain ⟨a7, c2, H⟩ := H
 refine WL.call Wanted.none ent56 rfl (word_size.calls w a1 a7 c2) ?_
 rintro _ b8 ⟨rfl, c3⟩
 have b9 := st0.call c3
 refine ⟨_, rfl, ?_⟩
 refine WL.v (Runs.not rfl rfl) ?_
 refine wn ?_
 rcases H with ⟨a8, H⟩ | ⟨a8, H⟩
 ·have a9 : (!a7) = true := (not_t (Bool.eq_false_iff.mpr a8))
  refine CW.ct rfl a9 ?_
  refine cr (WL.as rfl (wn (CW.ret (QW.then_r ?_))))
  have b0 := b9.nil_sl 5 1
  have b0 : St w b8 [.sl none 0 0 (iv .u8 ([] : List Int)) 5 1] := b0
  obtain rfl := H
  exact QW.ret1 rfl rfl ⟨none, 0, 0, rfl, rfl, b0.pick [0] (by decide)⟩
 have a9 : (!a7) = false := (not_f (Decidable.not_not.mp a8))
 refine CW.cf rfl a9 ?_
 refine CW.skip (QW.then_n (cr (WL.mv rfl ?_)))
 obtain ⟨⟨c4, c5⟩, H⟩ := H
 obtain ⟨a2, b1⟩ : ∃ n_ : Nat, n_ = (a1).toNat := ⟨_, rfl⟩
 refine WL.make b9 Tryd.underlying25 elem5 rfl rfl c4 c5 (by decide) (N := a2) b1 ?_
 intro a4 c6 a6
 replace a6 : St w c6 [.sl (sp a4) a2 a2 (iv .u8 (List.replicate (a1).toNat (0 : Int))) 5 1] := by rw [← b1]; rw [iv_replicate] at a6; exact a6
 have c7 : a2 = (List.replicate (a1).toNat (0 : Int)).length := by rw [List.length_replicate]; exact b1
 refine WL.as rfl (wn (CW.seq (cr (WL.mv rfl (WL.mv rfl (wn ?_))))))
 refine CW.sub [(0, .int .u64 a0), (4, .slice none 0 0), (5, .slice (sp a4) a2 a2), (12, .int .i64 a1), (13, .int .i64 0)] ⟨rfl, rfl, rfl, rfl, rfl, trivial⟩ ?_
 refine CW.block ?_
 obtain ⟨c8, H⟩ := H
 refine CW.sub [(0, .int .u64 a0), (4, .slice none 0 0), (5, .slice (sp a4) a2 a2), (12, .int .i64 a1), (13, .int .i64 0)] ⟨rfl, rfl, rfl, rfl, rfl, trivial⟩ ?_
 refine CW.loop (fun kL1 l_ w_ => ∃ (a5 : List Int) (a3 : Int), l_ = [(0, .int .u64 a0), (4, .slice none 0 0), (5, .slice (sp a4) a2 a2), (12, .int .i64 a1), (13, .int .i64 a3)] ∧ word_Put.L1 a0 a1 r0 kL1 a5 a3 ∧ (a2 = a5.length) ∧ St w w_ [.sl (sp a4) a2 a2 (iv .u8 a5) 5 1]) (k := c8) ⟨List.replicate (a1).toNat (0 : Int), 0, rfl, H, c7, a6⟩ (fun _ _ h => by obtain ⟨_, _, _, h, _⟩ := h; exact h.elim) ?_
 rintro kL1 d6 d7 ⟨a5, a3, rfl, H, b2, b3⟩
 refine cr ?_
 refine WL.v (Runs.lss rfl rfl rfl) ?_
 refine wn (CW.seq ?_)
 rcases H with ⟨b4, H⟩ | ⟨b4, H⟩
 ·have b5 : (decide (a3 < a1)) = true := (decide_eq_true b4)
  refine CW.ct rfl b5 ?_
  refine CW.skip (QW.then_n (CW.seq (CW.block (cr (WL.mv rfl (WL.as rfl (wn (CW.region (WL.mv rfl (WL.mv rfl (WL.mv rfl (WL.mv rfl ?_))))))))))))
  refine WL.v (Runs.mul rfl rfl rfl) ?_
  refine WL.v (Runs.conv Tryd.underlying133 ⟨_, Tryd.underlying3⟩ rfl rfl) ?_
  obtain ⟨c9, H⟩ := H
  obtain ⟨d0, d1, H⟩ := H
  refine WL.v (Runs.shr rfl rfl c9 d1) ?_
  refine WL.v (Runs.conv Tryd.underlying5 ⟨_, Tryd.underlying37⟩ rfl rfl) ?_
  obtain ⟨⟨d2, d3⟩, H⟩ := H
  obtain ⟨d8, c0⟩ := (b3.src_sl (k := 0) rfl).addr_iv (a3.toNat) (by omega)
  refine WL.v (Runs.indexAddr Tryd.underlying25 cells5 (by decide) rfl c0 rfl d2 (by rw [b2]; exact d3) (o := (a3).toNat) (by first | rfl | omega)) ?_
  obtain ⟨b6, c1, H⟩ := H
  refine WL.store_sl (i := 0) b3 rfl cells5 rfl c0 (by rw [iv_length]; omega) rfl rfl ?_
  intro d4 b7
  have d5 : a2 = b6.length := by rw [c1, List.length_set]; exact b2
  have b7' : St w d4 [.sl (sp a4) a2 a2 (iv .u8 b6) 5 1] := by rw [c1, ← iv_set .u8 a5 (a3.toNat) (IntKind.u8.wrap d0)]; exact b7
  refine WL.nil (QW.blk_n (QW.then_n (CW.region ?_)))
  refine WL.v (Runs.add rfl rfl rfl) ?_
  refine WL.mv rfl (WL.nil ?_)
  exact QW.at _ (by repeat' constructor) ⟨b6, IntKind.i64.wrap (a3 + 1), rfl, H, d5, b7'⟩
 have b5 : (decide (a3 < a1)) = false := (decide_eq_false b4)
 refine CW.cf rfl b5 ?_
 refine CW.exit (QW.then_x (QW.then_x (QW.blk_x (QW.then_n (cr (WL.mv rfl (WL.as rfl (wn (CW.ret ?_)))))))))
 obtain rfl := H
 exact QW.ret1 rfl rfl ⟨(sp a4), a2, a2, b2, rfl, b3.pick [0] (by decide)⟩
/-! ### slices_Grow_s_byte_byte_nil0: function 74 -/
def slices_Grow_s_byte_byte_nil0.rel (a1 : Int) (r0 : List Int) : Prop := (¬ (a1 < 0) ∧ (((IntKind.i64.wrap (a1 - (IntKind.i64.wrap (0 - 0)))) > 0 ∧ ((0 < (IntKind.i64.wrap (a1 - (IntKind.i64.wrap (0 - 0)))) ∧ (IntKind.i64.wrap (a1 - (IntKind.i64.wrap (0 - 0)))) ≤ 1099511627776) ∧ (0 ≤ (List.replicate (IntKind.i64.wrap (a1 - (IntKind.i64.wrap (0 - 0)))).toNat (0 : Int)).length ∧ r0 = (List.take 0 (List.replicate (IntKind.i64.wrap (a1 - (IntKind.i64.wrap (0 - 0)))).toNat (0 : Int)))))) ∨ (¬ ((IntKind.i64.wrap (a1 - (IntKind.i64.wrap (0 - 0)))) > 0) ∧ r0 = [])))
set_option maxHeartbeats 4000000 in
theorem slices_Grow_s_byte_byte_nil0.calls (w : World) (a1 : Int)    (r0 : List Int) (H : slices_Grow_s_byte_byte_nil0.rel a1 r0) :
  Calls Tryd.prog 74 #[.slice none 0 0, .int .i64 a1] w fun e w' => ∃ B0 q0 z0, z0 = r0.length ∧ e = .returned (.slice B0 z0 q0) ∧ St w w' [.sl B0 q0 z0 (iv .u8 r0) 5 1] := by
 refine CW.enter Tryd.func74 rfl (n := 27) rfl [.slice none 0 0, .int .i64 a1] (Nat.le_of_ble_eq_true rfl) ?_
 refine CW.sub [(0, .slice none 0 0), (1, .int .i64 a1)] ⟨rfl, rfl, trivial⟩ ?_
 have st0 : St w w [] := St.refl w
 refine cr (WL.as rfl (wn (CW.seq (cr (WL.mv rfl ?_)))))
 refine WL.v (Runs.lss rfl rfl rfl) ?_
 refine wn ?_
 obtain ⟨b2, H⟩ := H
 have b3 : (decide (a1 < 0)) = false := (decide_eq_false b2)
 refine CW.cf rfl b3 ?_
 refine CW.skip (QW.then_n (CW.seq (cr (WL.mv rfl (WL.mv rfl ?_)))))
 refine WL.v (Runs.cap_sl Tryd.underlying25 rfl rfl) ?_
 refine WL.mv rfl ?_
 refine WL.v (Runs.len_sl Tryd.underlying25 rfl rfl) ?_
 refine WL.v (Runs.sub rfl rfl rfl) ?_
 refine WL.v (Runs.sub rfl rfl rfl) ?_
 refine WL.as rfl (wn ?_)
 refine CW.sub [(0, .slice none 0 0), (1, .int .i64 (IntKind.i64.wrap (a1 - (IntKind.i64.wrap (0 - 0))))), (4, .slice none 0 0)] ⟨rfl, rfl, rfl, trivial⟩ ?_
 refine cr (WL.mv rfl ?_)
 refine WL.v (Runs.gtr rfl rfl rfl) ?_
 refine wn ?_
 rcases H with ⟨a5, H⟩ | ⟨a5, H⟩
 ·have a6 : (decide ((IntKind.i64.wrap (a1 - (IntKind.i64.wrap (0 - 0)))) > 0)) = true := (decide_eq_true a5)
  refine CW.ct rfl a6 ?_
  refine CW.region (WL.mv rfl (WL.mv rfl ?_))
  refine WL.v (Runs.cap_sl Tryd.underlying25 rfl rfl) ?_
  refine WL.v (Runs.slice_h (A := none) (c := 0) (m := 0) (B := none) (N := 0) Tryd.underlying25 cells5 rfl rfl (by decide) (by decide) rfl rfl) ?_
  refine WL.mv rfl ?_
  obtain ⟨⟨b4, b5⟩, H⟩ := H
  obtain ⟨a3, a7⟩ : ∃ n_ : Nat, n_ = (IntKind.i64.wrap (a1 - (IntKind.i64.wrap (0 - 0)))).toNat := ⟨_, rfl⟩
  refine WL.append_make (N := a3) st0 Tryd.underlying25 Tryd.underlying3 elem5 rfl rfl b4 b5 (by decide) a7 ?_
  intro a4 a0 b0 a2
  replace a2 : St w b0 [.sl (sp a4) a0 a3 (iv .u8 (List.replicate (IntKind.i64.wrap (a1 - (IntKind.i64.wrap (0 - 0)))).toNat (0 : Int))) 5 1] := by rw [← a7]; rw [iv_replicate] at a2; exact a2
  have b6 : a3 = (List.replicate (IntKind.i64.wrap (a1 - (IntKind.i64.wrap (0 - 0)))).toNat (0 : Int)).length := by rw [List.length_replicate]; exact a7
  refine WL.mv rfl ?_
  refine WL.v (Runs.len_sl Tryd.underlying25 rfl rfl) ?_
  obtain ⟨b1, H⟩ := H
  rw [← b6] at b1
  have h_17c : a3 ≤ a0 := a2.cap (i := 0) rfl
  have a8 := a2.trunc (i := 0) rfl 0 b1
  have b7 : 0 = (List.take 0 (List.replicate (IntKind.i64.wrap (a1 - (IntKind.i64.wrap (0 - 0)))).toNat (0 : Int))).length := by rw [List.length_take]; omega
  have a8' : St w b0 [.sl (sp a4) a0 0 (iv .u8 (List.take 0 (List.replicate (IntKind.i64.wrap (a1 - (IntKind.i64.wrap (0 - 0)))).toNat (0 : Int)))) 5 1] := by rw [← iv_take]; exact a8
  refine WL.v (Runs.slice_hp Tryd.underlying25 cells5 rfl rfl (by decide) (by omega) rfl) ?_
  refine WL.as rfl (wn ?_)
  refine CW.sub [(0, .slice (sp a4) 0 a0), (4, .slice none 0 0)] ⟨rfl, rfl, trivial⟩ ?_
  refine cr (WL.mv rfl (WL.as rfl (wn (CW.ret ?_))))
  obtain rfl := H
  exact QW.ret1 rfl rfl ⟨(sp a4), a0, 0, b7, rfl, a8'.pick [0] (by decide)⟩
 have a6 : (decide ((IntKind.i64.wrap (a1 - (IntKind.i64.wrap (0 - 0)))) > 0)) = false := (decide_eq_false a5)
 refine CW.cf rfl a6 ?_
 refine CW.skip (QW.then_n (cr (WL.mv rfl (WL.as rfl (wn (CW.ret ?_))))))
 have a9 := st0.nil_sl 5 1
 have a9 : St w w [.sl none 0 0 (iv .u8 ([] : List Int)) 5 1] := a9
 obtain rfl := H
 exact QW.ret1 rfl rfl ⟨none, 0, 0, rfl, rfl, a9.pick [0] (by decide)⟩
/-! ### slices_Concat_s_byte_byte: function 55 -/
def slices_Concat_s_byte_byte.L2 (l0 : List R25) (lr0 : List Int) : Nat → (List Int) → Int → Prop
 | 0, _, _ => False
 | kL2 + 1, a2, a0 => ((a0 < (l0.length : Int) ∧ ((0 ≤ a0 ∧ a0 < (l0.length : Int)) ∧ (∃ a1 : List Int, a1 = a2 ++ (gx l0 (a0.toNat)) ∧ (a1.length ≤ 1099511627776 ∧ slices_Concat_s_byte_byte.L2 l0 lr0 kL2 a1 (IntKind.i64.wrap (a0 + 1)))))) ∨ (¬ (a0 < (l0.length : Int)) ∧ lr0 = a2))
def slices_Concat_s_byte_byte.L1 (l0 : List R25) (lr0 : List Int) : Nat → Int → Int → Prop
 | 0, _, _ => False
 | kL1 + 1, a2, a0 => ((a0 < (l0.length : Int) ∧ ((0 ≤ a0 ∧ a0 < (l0.length : Int)) ∧ (∃ a1 : Int, a1 = IntKind.i64.wrap (a2 + ((gx l0 (a0.toNat)).length : Int)) ∧ (¬ (a1 < 0) ∧ slices_Concat_s_byte_byte.L1 l0 lr0 kL1 a1 (IntKind.i64.wrap (a0 + 1)))))) ∨ (¬ (a0 < (l0.length : Int)) ∧ (∃ (a3 : List Int), slices_Grow_s_byte_byte_nil0.rel a2 a3 ∧ (∃ k_ : Nat, slices_Concat_s_byte_byte.L2 l0 lr0 k_ a3 0))))
def slices_Concat_s_byte_byte.rel (l0 : List R25) (lr0 : List Int) : Prop := (∃ k_ : Nat, slices_Concat_s_byte_byte.L1 l0 lr0 k_ 0 0)
set_option maxHeartbeats 1000000 in
theorem slices_Concat_s_byte_byte.calls (w w1 : World) (T R : Pool) (l0 : List R25) (A0 : Option Addr) (n0 : Nat) (c0 : Nat) (st0 : St w w1 ((T ++ R))) (hb0 : HS w (T ++ R) T A0 n0 c0 (f25 w) l0) (lr0 : List Int) (H : slices_Concat_s_byte_byte.rel l0 lr0) :
  Calls Tryd.prog 55 #[.slice A0 n0 c0] w1 fun e w' => ∃ T' Ar0 nr0 cr0, Pl T T' ∧ nr0 = lr0.length ∧ e = .returned (.slice Ar0 nr0 cr0) ∧ St w w' (.sl Ar0 cr0 nr0 (iv .u8 lr0) 5 1 :: (T' ++ R)) := by
 refine CW.enter Tryd.func55 rfl (n := 36) rfl [.slice A0 n0 c0] (Nat.le_of_ble_eq_true rfl) ?_
 refine CW.sub [(0, .slice A0 n0 c0)] ⟨rfl, trivial⟩ ?_
 refine cr (WL.as rfl (WL.nx (WL.as rfl (wn (CW.seq (cr (WL.mv rfl ?_)))))))
 refine WL.v (Runs.len_sl Tryd.underlying76 rfl (by rw [hb0.1])) ?_
 refine WL.mv rfl (wn (CW.block ?_))
 obtain ⟨d8, H⟩ := H
 refine CW.sub [(0, .slice A0 n0 c0), (2, .slice none 0 0), (3, .int .i64 0), (9, .slice A0 n0 c0), (10, .int .i64 (l0.length : Int)), (11, .int .i64 0)] (by repeat' constructor) ?_
 refine CW.loop (fun kL1 l_ w_ => ∃ (a3 : Pool) (b1 : Int) (a1 : Int), l_ = [(0, .slice A0 n0 c0), (2, .slice none 0 0), (3, .int .i64 b1), (9, .slice A0 n0 c0), (10, .int .i64 (l0.length : Int)), (11, .int .i64 a1)] ∧ slices_Concat_s_byte_byte.L1 l0 lr0 kL1 b1 a1 ∧ (Pl T a3) ∧ St w w_ ((a3 ++ R))) (k := d8) ⟨T, 0, 0, rfl, H, Pl.refl, st0⟩ (fun _ _ h => by obtain ⟨_, _, _, _, h, _⟩ := h; exact h.elim) ?_
 rintro kL1 h0 d9 ⟨a3, b1, a1, rfl, H, a2, b2⟩
 refine cr ?_
 refine WL.v (Runs.lss rfl rfl rfl) ?_
 refine wn (CW.seq ?_)
 rcases H with ⟨b6, H⟩ | ⟨b6, H⟩
 ·have b7 : (decide (a1 < (l0.length : Int))) = true := (decide_eq_true b6)
  refine CW.ct rfl b7 ?_
  refine CW.skip (QW.then_n (CW.seq (CW.block (cr ?_))))
  obtain ⟨⟨e0, e1⟩, H⟩ := H
  obtain ⟨h1, c9, e2⟩ := hb0.2.2
  obtain ⟨h2, d0, e3, e4, e5⟩ := el_get (i := (a1).toNat) ((c9.at b2 (mem_TR (A := []) (fun _ h_ => a2.1 _ h_)))) (e2.mono (fun _ h_ => a2.1 _ h_)) (fz25 w) (by decide) (by omega)
  obtain ⟨e6, e7, e8, b8, e9⟩ := inv25 e5
  replace b8 : e3 = (cl e6 e7 e8) := b8
  subst b8
  refine WL.v (Runs.indexAddr Tryd.underlying76 cells25 (by decide) rfl d0 rfl e0 (by rw [show n0 = l0.length from hb0.1]; exact e1) (o := (a1.toNat) * 1) (by first | rfl | omega)) ?_
  refine WL.v (Runs.load nagg25 rfl (Src.cellAt (j := 0) (Src.cut ((c9.at b2 (mem_TR (A := []) (fun _ h_ => a2.1 _ h_)))) d0 e4) rfl)) ?_
  refine WL.as rfl (WL.nx (WL.mv rfl (WL.mv rfl ?_)))
  refine WL.v (Runs.len_sl Tryd.underlying25 rfl (by rw [e9.1])) ?_
  obtain ⟨d1, f0, H⟩ := H
  refine WL.v (Runs.add rfl rfl f0) ?_
  refine WL.as rfl (WL.nx (WL.mv rfl ?_))
  refine WL.v (Runs.lss rfl rfl rfl) ?_
  refine wn ?_
  obtain ⟨f1, H⟩ := H
  have f2 : (decide (d1 < 0)) = false := (decide_eq_false f1)
  refine CW.cf rfl f2 ?_
  refine CW.skip (QW.blk_n (QW.then_n (CW.region ?_)))
  refine WL.v (Runs.add rfl rfl rfl) ?_
  refine WL.mv rfl (WL.nil ?_)
  exact QW.at _ (by repeat' constructor) ⟨a3, d1, IntKind.i64.wrap (a1 + 1), rfl, H, a2, b2⟩
 have b7 : (decide (a1 < (l0.length : Int))) = false := (decide_eq_false b6)
 refine CW.cf rfl b7 ?_
 refine CW.exit (QW.then_x (QW.then_x (QW.blk_x (QW.then_n (cr (WL.mv rfl ?_))))))
 obtain ⟨b9, f3, H⟩ := H
 refine WL.call Wanted.none ent74 rfl (slices_Grow_s_byte_byte_nil0.calls d9 b1 b9 f3) ?_
 rintro _ f4 ⟨b3, b4, b5, f5, rfl, f6⟩
 have f7 := b2.call f6
 refine ⟨_, rfl, ?_⟩
 refine WL.as rfl (wn ?_)
 refine CW.sub [(0, .slice A0 n0 c0), (2, .slice none 0 0), (6, .slice b3 b5 b4)] ⟨rfl, rfl, rfl, trivial⟩ ?_
 refine CW.seq (cr (WL.mv rfl ?_))
 refine WL.v (Runs.len_sl Tryd.underlying76 rfl (by rw [hb0.1])) ?_
 refine WL.mv rfl (wn (CW.block ?_))
 obtain ⟨f8, H⟩ := H
 refine CW.sub [(2, .slice none 0 0), (6, .slice b3 b5 b4), (25, .slice A0 n0 c0), (26, .int .i64 (l0.length : Int)), (27, .int .i64 0)] ⟨rfl, rfl, rfl, rfl, rfl, trivial⟩ ?_
 refine CW.loop (fun kL2 l_ w_ => ∃ (a4 : Pool) (a6 : Option Addr) (a7 : Nat) (a5 : Nat) (a8 : List Int) (a0 : Int), l_ = [(2, .slice none 0 0), (6, .slice a6 a5 a7), (25, .slice A0 n0 c0), (26, .int .i64 (l0.length : Int)), (27, .int .i64 a0)] ∧ slices_Concat_s_byte_byte.L2 l0 lr0 kL2 a8 a0 ∧ (Pl a3 a4) ∧ (a5 = a8.length) ∧ St w w_ (.sl a6 a7 a5 (iv .u8 a8) 5 1 :: (a4 ++ R))) (k := f8) ⟨a3, b3, b4, b5, b9, 0, rfl, H, Pl.refl, f5, f7⟩ (fun _ _ h => by obtain ⟨_, _, _, _, _, _, _, h, _⟩ := h; exact h.elim) ?_
 rintro kL2 h3 h4 ⟨a4, a6, a7, a5, a8, a0, rfl, H, a9, d2, b0⟩
 refine cr ?_
 refine WL.v (Runs.lss rfl rfl rfl) ?_
 refine wn (CW.seq ?_)
 rcases H with ⟨c1, H⟩ | ⟨c1, H⟩
 ·have c2 : (decide (a0 < (l0.length : Int))) = true := (decide_eq_true c1)
  refine CW.ct rfl c2 ?_
  refine CW.skip (QW.then_n (CW.seq (CW.block (cr ?_))))
  obtain ⟨⟨f9, g0⟩, H⟩ := H
  obtain ⟨h5, d3, g1⟩ := hb0.2.2
  obtain ⟨h6, d4, g2, g3, g4⟩ := el_get (i := (a0).toNat) ((d3.at b0 (mem_TR (A := [_]) (fun _ h_ => a9.1 _ (a2.1 _ h_))))) (g1.mono (fun _ h_ => a9.1 _ (a2.1 _ h_))) (fz25 w) (by decide) (by omega)
  obtain ⟨g5, g6, g7, c3, c4⟩ := inv25 g4
  replace c3 : g2 = (cl g5 g6 g7) := c3
  subst c3
  refine WL.v (Runs.indexAddr Tryd.underlying76 cells25 (by decide) rfl d4 rfl f9 (by rw [show n0 = l0.length from hb0.1]; exact g0) (o := (a0.toNat) * 1) (by first | rfl | omega)) ?_
  refine WL.v (Runs.load nagg25 rfl (Src.cellAt (j := 0) (Src.cut ((d3.at b0 (mem_TR (A := [_]) (fun _ h_ => a9.1 _ (a2.1 _ h_))))) d4 g3) rfl)) ?_
  refine WL.as rfl (wn (CW.region (WL.mv rfl (WL.mv rfl ?_))))
  obtain ⟨c5, d5, H⟩ := H
  obtain ⟨g8, H⟩ := H
  obtain ⟨c6, c7⟩ : ∃ n_ : Nat, n_ = c5.length := ⟨_, rfl⟩
  refine WL.append (i := 0) Wanted.none b0 rfl Tryd.underlying25 elem5 rfl rfl ((c4.2.2.at b0 (mem_T (A := [_]) (fun _ h_ => h_)))) (by rw [iv_length]; exact (c4.1).symm) (one_iv .u8 _) (by decide) (N := c6) (by rw [c7, d5, List.length_append]; exact congr (congrArg HAdd.hAdd (d2)) (c4.1)) (by rw [c7]; exact g8) ?_
  intro d6 d7 g9 c8
  have c8' : St w g9 (.sl d6 d7 c6 (iv .u8 c5) 5 1 :: (a4 ++ R)) := by rw [d5, ← iv_append .u8 a8 (gx l0 (a0.toNat))]; exact c8
  refine WL.as rfl (WL.nil (QW.blk_n (QW.then_n (CW.region ?_))))
  refine WL.v (Runs.add rfl rfl rfl) ?_
  refine WL.mv rfl (WL.nil ?_)
  exact QW.at _ (by repeat' constructor) ⟨a4, d6, d7, c6, c5, IntKind.i64.wrap (a0 + 1), rfl, H, a9, c7, c8'⟩
 have c2 : (decide (a0 < (l0.length : Int))) = false := (decide_eq_false c1)
 refine CW.cf rfl c2 ?_
 refine CW.exit (QW.then_x (QW.then_x (QW.blk_x (QW.then_n (cr (WL.mv rfl (WL.as rfl (wn (CW.ret ?_)))))))))
 obtain rfl := H
 exact QW.ret1 rfl rfl ⟨a4, a6, a5, a7, (a2.trans a9), d2, rfl, (St.pickT (L := [_]) b0 [0] (by decide))⟩
/-! ### record_Put: function 40 -/
def record_Put.rel (a0_0 : Int) (l0_1 : List Int) (a0_2 : Bool) (lr0 : List Int) (ar1 : Int) : Prop := (((l0_1.length : Int) ≠ 160 ∧ lr0 = ([] : List Int) ∧ ar1 = 1) ∨ (¬ ((l0_1.length : Int) ≠ 160) ∧ ((a0_2 = true ∧ ((0 ≤ (1 : Int) ∧ (1 : Int) < ([1, 0].length : Int)) ∧ (∃ a0 : List Int, a0 = List.set [1, 0] 1 1 ∧ (∃ (a1 : List Int), word_Pad.rel a0 8 a1 ∧ (∃ (a2 : List Int), word_Put.rel a0_0 8 a2 ∧ (∃ (a3 : List Int), slices_Concat_s_byte_byte.rel ([a1, a2, l0_1] : List R25) a3 ∧ lr0 = a3 ∧ ar1 = 0)))))) ∨ (¬ (a0_2 = true) ∧ (∃ (a4 : List Int), word_Pad.rel [1, 0] 8 a4 ∧ (∃ (a5 : List Int), word_Put.rel a0_0 8 a5 ∧ (∃ (a6 : List Int), slices_Concat_s_byte_byte.rel ([a4, a5, l0_1] : List R25) a6 ∧ lr0 = a6 ∧ ar1 = 0)))))))
set_option maxHeartbeats 1000000 in
theorem record_Put.calls (w w1 : World) (T R : Pool) (a0_0 : Int) (l0_1 : List Int) (a0_2 : Bool) (A0_1 : Option Addr) (n0_1 : Nat) (c0_1 : Nat) (st0 : St w w1 ((T ++ R))) (hb0_1 : HB w T A0_1 n0_1 c0_1 (iv .u8 l0_1) l0_1.length) (lr0 : List Int) (ar1 : Int) (H : record_Put.rel a0_0 l0_1 a0_2 lr0 ar1) :
  Calls Tryd.prog 40 #[.agg ((cu a0_0) ++ ((cl A0_1 n0_1 c0_1) ++ (cb a0_2))).toArray] w1 fun e w' => ∃ T' Ar0 nr0 cr0, Pl T T' ∧ nr0 = lr0.length ∧ e = .returned (.tuple #[.slice Ar0 nr0 cr0, .int .i64 ar1]) ∧ St w w' (.sl Ar0 cr0 nr0 (iv .u8 lr0) 5 1 :: (T' ++ R)) := by
 refine CW.enter Tryd.func40 rfl (n := 26) rfl [.agg ((cu a0_0) ++ ((cl A0_1 n0_1 c0_1) ++ (cb a0_2))).toArray] (Nat.le_of_ble_eq_true rfl) ?_
 refine CW.sub [(0, .agg ((cu a0_0) ++ ((cl A0_1 n0_1 c0_1) ++ (cb a0_2))).toArray)] ⟨rfl, trivial⟩ ?_
 refine cr ?_
 refine WL.box st0 rfl rfl ?_
 intro a0 h1 d4
 refine WL.as rfl (WL.as rfl (wn (CW.seq (cr ?_))))
 refine WL.v (Runs.fieldAddr (off := 0) (p := 0) fld104_0 rfl rfl rfl) ?_
 refine WL.v (Runs.fieldAddr (off := 1) (p := 1) fld42_1 rfl rfl rfl) ?_
 refine WL.v (Runs.load nagg25 rfl (d4.cell (k := 0) rfl (pa (.slice A0_1 n0_1 c0_1) (cu a0_0) (cb a0_2)))) ?_
 refine WL.v (Runs.len_sl Tryd.underlying25 rfl (by rw [hb0_1.1])) ?_
 refine WL.v (Runs.neq rfl rfl rfl) ?_
 refine wn ?_
 rcases H with ⟨d5, H⟩ | ⟨d5, H⟩
 ·have d6 : ((l0_1.length : Int) != 160) = true := (bne_iff_ne.mpr d5)
  refine CW.ct rfl d6 ?_
  refine cr (WL.as rfl (WL.as rfl (wn (CW.ret (QW.then_r ?_)))))
  have d7 := d4.nil_sl 5 1
  have d7 : St w h1 (.sl none 0 0 (iv .u8 ([] : List Int)) 5 1 :: .cells a0 ((cu a0_0) ++ ((cl A0_1 n0_1 c0_1) ++ (cb a0_2))) 104 :: (T ++ R)) := d7
  obtain ⟨rfl, rfl⟩ := H
  exact QW.ret2 rfl rfl rfl ⟨T, none, 0, 0, Pl.refl, rfl, rfl, (St.pickT (L := [_, _]) d7 [0] (by decide))⟩
 have d6 : ((l0_1.length : Int) != 160) = false := (bne_eq_false_iff_eq.mpr (Decidable.not_not.mp d5))
 refine CW.cf rfl d6 ?_
 refine CW.skip (QW.then_n ?_)
 refine CW.sub [(1, .pointer (sp a0)), (2, .slice none 0 0), (3, .int .i64 0)] ⟨rfl, rfl, rfl, trivial⟩ ?_
 refine cr ?_
 refine WL.buildSl [.int .u8 1, .int .u8 0] d4 Tryd.underlying25 elem5 rfl rfl (by decide) (by decide) (by simp [Value.cells]) ?_
 intro a1 h2 c3
 replace c3 : St w h2 (.sl (sp a1) 2 2 (iv .u8 [1, 0]) 5 1 :: .cells a0 ((cu a0_0) ++ ((cl A0_1 n0_1 c0_1) ++ (cb a0_2))) 104 :: (T ++ R)) := c3
 refine WL.as rfl (wn (CW.seq (cr ?_)))
 refine WL.v (Runs.fieldAddr (off := 2) (p := 2) fld104_1 rfl rfl rfl) ?_
 refine WL.v (Runs.load nagg4 rfl (c3.cell (k := 1) rfl (pa (.bool a0_2) ((cu a0_0) ++ (cl A0_1 n0_1 c0_1)) []))) ?_
 refine wn ?_
 rcases H with ⟨d8, H⟩ | ⟨d8, H⟩
 ·have d9 : a0_2 = true := d8
  refine CW.ct rfl d9 ?_
  refine CW.region (WL.mv rfl ?_)
  obtain ⟨⟨h3, h4⟩, H⟩ := H
  obtain ⟨l5, f9⟩ := (c3.src_sl (k := 0) rfl).addr_iv 1 (by omega)
  refine WL.v (Runs.indexAddr Tryd.underlying25 cells5 (by decide) rfl f9 rfl h3 h4 (o := 1) (by first | rfl | omega)) ?_
  obtain ⟨a2, g0, H⟩ := H
  refine WL.store_sl (i := 0) c3 rfl cells5 rfl f9 (by rw [iv_length]; omega) rfl rfl ?_
  intro h5 e0
  have h6 : 2 = a2.length := by rw [g0, List.length_set] <;> rfl
  have e0' : St w h5 (.sl (sp a1) 2 2 (iv .u8 a2) 5 1 :: .cells a0 ((cu a0_0) ++ ((cl A0_1 n0_1 c0_1) ++ (cb a0_2))) 104 :: (T ++ R)) := by rw [g0, ← iv_set .u8 [1, 0] 1 1]; exact e0
  refine wn (CW.seq ?_)
  refine CW.region_awh (C := fun w_ => St w w_ (.sl (sp a1) 2 2 (iv .u8 a2) 5 1 :: .cells a0 ((cu a0_0) ++ ((cl A0_1 n0_1 c0_1) ++ (cb a0_2))) 104 :: (T ++ R))) 9 wide (by kernel_rfl) e0' (fun h7 a3 => ?_)
  refine AWH.tk 0 rfl a3 (fun wq sq => (Runs.move rfl)) ?_
  refine AWH.tk 2 rfl a3 (fun wq sq => (Runs.fieldAddr (off := 0) (p := 0) fld104_0 rfl rfl rfl)) ?_
  refine AWH.tk 3 rfl a3 (fun wq sq => (Runs.fieldAddr (off := 0) (p := 0) fld42_0 rfl rfl rfl)) ?_
  refine AWH.tk 4 rfl a3 (fun wq sq => (Runs.load nagg37 rfl (sq.cell (k := 1) rfl (pa (.int .u64 a0_0) [] ((cl A0_1 n0_1 c0_1) ++ (cb a0_2)))))) ?_
  refine AWH.tk 6 rfl a3 (fun wq sq => (Runs.fieldAddr (off := 0) (p := 0) fld104_0 rfl rfl rfl)) ?_
  refine AWH.tk 7 rfl a3 (fun wq sq => (Runs.fieldAddr (off := 1) (p := 1) fld42_1 rfl rfl rfl)) ?_
  refine AWH.tk 8 rfl a3 (fun wq sq => (Runs.load nagg25 rfl (sq.cell (k := 1) rfl (pa (.slice A0_1 n0_1 c0_1) (cu a0_0) (cb a0_2))))) ?_
  refine AWH.step 1 rfl (by decide) (by kernel_rfl) (fun inv_ hs_ hk_ hc_ hn_ => ?_)
  obtain ⟨a7, h8, H⟩ := H
  refine WL.call Wanted.none ent60 rfl (word_Pad.calls h7 a2 8 (sp a1) 2 2 (a3.src_sl (k := 0) rfl) (h6) (a3.cap (i := 0) rfl) a7 h8) ?_
  rintro _ g1 ⟨a8, a9, b0, h9, rfl, i0⟩
  have g2 := a3.call i0
  refine ⟨_, rfl, ?_⟩
  refine WL.nil ?_
  refine AWH.back (St.subset a3 g2 (mc 1 rfl (mc 2 rfl (mem_TR (A := [_, _, _]) (fun _ h_ => h_))))) inv_ hs_ hk_ hc_ hn_ ?_
  refine AWH.step 5 rfl (by decide) (by kernel_rfl) (fun inv_ hs_ hk_ hc_ hn_ => ?_)
  obtain ⟨b1, i1, H⟩ := H
  refine WL.call Wanted.none ent32 rfl (word_Put.calls g1 a0_0 8 b1 i1) ?_
  rintro _ e1 ⟨b2, b3, b4, i2, rfl, i3⟩
  have e2 := g2.call i3
  refine ⟨_, rfl, ?_⟩
  refine WL.nil ?_
  refine AWH.back (St.subset a3 e2 (mc 2 rfl (mc 3 rfl (mem_TR (A := [_, _, _, _]) (fun _ h_ => h_))))) inv_ hs_ hk_ hc_ hn_ ?_
  refine AWH.tail (by kernel_rfl) ?_
  refine AW.step 9 rfl (by kernel_rfl) ?_
  have hb_50c := e2.cap (i := 1) rfl
  obtain ⟨e3, g3, i4, d0⟩ := St.freeze (A := [_]) (B := [_, _]) (T := T) (R := R) e2
  have i5 : HB w e3 a8 b0 a9 (iv .u8 a7) a7.length := ⟨h9, hb_50c, Hd.of_sl i4⟩
  replace d0 : St w e1 (.sl b2 b3 b4 (iv .u8 b1) 5 1 :: .sl (sp a1) 2 2 (iv .u8 a2) 5 1 :: .cells a0 ((cu a0_0) ++ ((cl A0_1 n0_1 c0_1) ++ (cb a0_2))) 104 :: (e3 ++ R)) := d0
  have hb_55c := d0.cap (i := 0) rfl
  obtain ⟨a5, e4, i6, e5⟩ := St.freeze (A := []) (B := [_, _]) (T := e3) (R := R) d0
  have i7 : HB w a5 b2 b4 b3 (iv .u8 b1) b1.length := ⟨i2, hb_55c, Hd.of_sl i6⟩
  replace e5 : St w e1 (.sl (sp a1) 2 2 (iv .u8 a2) 5 1 :: .cells a0 ((cu a0_0) ++ ((cl A0_1 n0_1 c0_1) ++ (cb a0_2))) 104 :: (a5 ++ R)) := e5
  refine WL.buildSl [.slice a8 b0 a9, .slice b2 b4 b3, .slice A0_1 n0_1 c0_1] e5 Tryd.underlying76 elem25 rfl rfl (by decide) (by decide) (by simp [Value.cells]) ?_
  intro c4 d1 c5
  replace c5 : St w d1 (.sl (sp c4) 3 3 [.slice a8 b0 a9, .slice b2 b4 b3, .slice A0_1 n0_1 c0_1] 25 1 :: .sl (sp a1) 2 2 (iv .u8 a2) 5 1 :: .cells a0 ((cu a0_0) ++ ((cl A0_1 n0_1 c0_1) ++ (cb a0_2))) 104 :: (a5 ++ R)) := c5
  obtain ⟨c8, g4⟩ : ∃ x_ : Cs, x_ = [.slice a8 b0 a9, .slice b2 b4 b3, .slice A0_1 n0_1 c0_1] := ⟨_, rfl⟩
  have i8 : HRs a5 (f25 w) c8 ([a7, b1, l0_1] : List R25) := by rw [g4]; exact (HRs.cons (ms := (cl a8 b0 a9)) (.cons ⟨_, _, _, rfl, (i5.mono (fun _ h_ => e4.1 _ h_))⟩ .nil) (HRs.cons (ms := (cl b2 b4 b3)) (.cons ⟨_, _, _, rfl, i7⟩ .nil) (HRs.one (.cons ⟨_, _, _, rfl, (hb0_1.mono (fun _ h_ => e4.1 _ (g3.1 _ h_)))⟩ .nil))))
  replace c5 : St w d1 (.sl (sp c4) 3 3 c8 25 1 :: .sl (sp a1) 2 2 (iv .u8 a2) 5 1 :: .cells a0 ((cu a0_0) ++ ((cl A0_1 n0_1 c0_1) ++ (cb a0_2))) 104 :: (a5 ++ R)) := by rw [g4]; exact c5
  refine WL.nil ?_
  refine AW.back  ?_
  refine AW.step 10 rfl (by kernel_rfl) ?_
  have i9 := St.hide (A := []) (B := [_, _, _]) (T := a5) (R := R) c5
  obtain ⟨g5, j0, H⟩ := H
  refine WL.call Wanted.none ent55 rfl (slices_Concat_s_byte_byte.calls w d1 a5 (.sl (sp c4) 3 3 c8 25 1 :: .sl (sp a1) 2 2 (iv .u8 a2) 5 1 :: .cells a0 ((cu a0_0) ++ ((cl A0_1 n0_1 c0_1) ++ (cb a0_2))) 104 :: R) ([a7, b1, l0_1] : List R25) (sp c4) 3 3  i9 (HS.mk rfl (c5.cap (i := 0) rfl) (fun W_ L_ st hT => st.src_mem (hT _ (List.mem_append_right _ (List.mem_of_getElem? (i := 0) rfl)))) i8) g5 j0) ?_
  rintro _ j1 ⟨e6, e7, e8, e9, j2, j3, rfl, j4⟩
  have j5 : St w j1 (.sl e7 e9 e8 (iv .u8 g5) 5 1 :: .sl (sp c4) 3 3 c8 25 1 :: .sl (sp a1) 2 2 (iv .u8 a2) 5 1 :: .cells a0 ((cu a0_0) ++ ((cl A0_1 n0_1 c0_1) ++ (cb a0_2))) 104 :: (e6 ++ R)) := St.unhide (A := [_]) (B := [_, _, _]) (T := e6) (R := R) j4
  refine ⟨_, rfl, ?_⟩
  refine WL.nil ?_
  refine AW.back  ?_
  refine AW.tk 11 rfl (fun _ => (Runs.assign rfl)) ?_
  refine AW.tk 12 rfl (fun _ => (Runs.assign rfl)) ?_
  refine AW.done (by kernel_rfl) ?_
  refine QW.then_n (CW.ret ?_)
  obtain ⟨rfl, rfl⟩ := H
  exact QW.ret2 rfl rfl rfl ⟨e6, e7, e8, e9, ((g3.trans e4).trans j2), j3, rfl, (St.pickT (L := [_, _, _, _]) j5 [0] (by decide))⟩
 have d9 : a0_2 = false := (Bool.eq_false_iff.mpr d8)
 refine CW.cf rfl d9 ?_
 refine CW.skip (QW.then_n (CW.seq ?_))
 refine CW.region_awh (C := fun w_ => St w w_ (.sl (sp a1) 2 2 (iv .u8 [1, 0]) 5 1 :: .cells a0 ((cu a0_0) ++ ((cl A0_1 n0_1 c0_1) ++ (cb a0_2))) 104 :: (T ++ R))) 9 wide (by kernel_rfl) c3 (fun j6 a4 => ?_)
 refine AWH.tk 0 rfl a4 (fun wq sq => (Runs.move rfl)) ?_
 refine AWH.tk 2 rfl a4 (fun wq sq => (Runs.fieldAddr (off := 0) (p := 0) fld104_0 rfl rfl rfl)) ?_
 refine AWH.tk 3 rfl a4 (fun wq sq => (Runs.fieldAddr (off := 0) (p := 0) fld42_0 rfl rfl rfl)) ?_
 refine AWH.tk 4 rfl a4 (fun wq sq => (Runs.load nagg37 rfl (sq.cell (k := 1) rfl (pa (.int .u64 a0_0) [] ((cl A0_1 n0_1 c0_1) ++ (cb a0_2)))))) ?_
 refine AWH.tk 6 rfl a4 (fun wq sq => (Runs.fieldAddr (off := 0) (p := 0) fld104_0 rfl rfl rfl)) ?_
 refine AWH.tk 7 rfl a4 (fun wq sq => (Runs.fieldAddr (off := 1) (p := 1) fld42_1 rfl rfl rfl)) ?_
 refine AWH.tk 8 rfl a4 (fun wq sq => (Runs.load nagg25 rfl (sq.cell (k := 1) rfl (pa (.slice A0_1 n0_1 c0_1) (cu a0_0) (cb a0_2))))) ?_
 refine AWH.step 1 rfl (by decide) (by kernel_rfl) (fun inv_ hs_ hk_ hc_ hn_ => ?_)
 obtain ⟨b5, j7, H⟩ := H
 refine WL.call Wanted.none ent60 rfl (word_Pad.calls j6 [1, 0] 8 (sp a1) 2 2 (a4.src_sl (k := 0) rfl) (rfl) (a4.cap (i := 0) rfl) b5 j7) ?_
 rintro _ g6 ⟨b6, b7, b8, j8, rfl, j9⟩
 have g7 := a4.call j9
 refine ⟨_, rfl, ?_⟩
 refine WL.nil ?_
 refine AWH.back (St.subset a4 g7 (mc 1 rfl (mc 2 rfl (mem_TR (A := [_, _, _]) (fun _ h_ => h_))))) inv_ hs_ hk_ hc_ hn_ ?_
 refine AWH.step 5 rfl (by decide) (by kernel_rfl) (fun inv_ hs_ hk_ hc_ hn_ => ?_)
 obtain ⟨b9, k0, H⟩ := H
 refine WL.call Wanted.none ent32 rfl (word_Put.calls g6 a0_0 8 b9 k0) ?_
 rintro _ f0 ⟨c0, c1, c2, k1, rfl, k2⟩
 have f1 := g7.call k2
 refine ⟨_, rfl, ?_⟩
 refine WL.nil ?_
 refine AWH.back (St.subset a4 f1 (mc 2 rfl (mc 3 rfl (mem_TR (A := [_, _, _, _]) (fun _ h_ => h_))))) inv_ hs_ hk_ hc_ hn_ ?_
 refine AWH.tail (by kernel_rfl) ?_
 refine AW.step 9 rfl (by kernel_rfl) ?_
 have hb_103c := f1.cap (i := 1) rfl
 obtain ⟨f2, g8, k3, d2⟩ := St.freeze (A := [_]) (B := [_, _]) (T := T) (R := R) f1
 have k4 : HB w f2 b6 b8 b7 (iv .u8 b5) b5.length := ⟨j8, hb_103c, Hd.of_sl k3⟩
 replace d2 : St w f0 (.sl c0 c1 c2 (iv .u8 b9) 5 1 :: .sl (sp a1) 2 2 (iv .u8 [1, 0]) 5 1 :: .cells a0 ((cu a0_0) ++ ((cl A0_1 n0_1 c0_1) ++ (cb a0_2))) 104 :: (f2 ++ R)) := d2
 have hb_108c := d2.cap (i := 0) rfl
 obtain ⟨a6, f3, k5, f4⟩ := St.freeze (A := []) (B := [_, _]) (T := f2) (R := R) d2
 have k6 : HB w a6 c0 c2 c1 (iv .u8 b9) b9.length := ⟨k1, hb_108c, Hd.of_sl k5⟩
 replace f4 : St w f0 (.sl (sp a1) 2 2 (iv .u8 [1, 0]) 5 1 :: .cells a0 ((cu a0_0) ++ ((cl A0_1 n0_1 c0_1) ++ (cb a0_2))) 104 :: (a6 ++ R)) := f4
 refine WL.buildSl [.slice b6 b8 b7, .slice c0 c2 c1, .slice A0_1 n0_1 c0_1] f4 Tryd.underlying76 elem25 rfl rfl (by decide) (by decide) (by simp [Value.cells]) ?_
 intro c6 d3 c7
 replace c7 : St w d3 (.sl (sp c6) 3 3 [.slice b6 b8 b7, .slice c0 c2 c1, .slice A0_1 n0_1 c0_1] 25 1 :: .sl (sp a1) 2 2 (iv .u8 [1, 0]) 5 1 :: .cells a0 ((cu a0_0) ++ ((cl A0_1 n0_1 c0_1) ++ (cb a0_2))) 104 :: (a6 ++ R)) := c7
 obtain ⟨c9, g9⟩ : ∃ x_ : Cs, x_ = [.slice b6 b8 b7, .slice c0 c2 c1, .slice A0_1 n0_1 c0_1] := ⟨_, rfl⟩
 have k7 : HRs a6 (f25 w) c9 ([b5, b9, l0_1] : List R25) := by rw [g9]; exact (HRs.cons (ms := (cl b6 b8 b7)) (.cons ⟨_, _, _, rfl, (k4.mono (fun _ h_ => f3.1 _ h_))⟩ .nil) (HRs.cons (ms := (cl c0 c2 c1)) (.cons ⟨_, _, _, rfl, k6⟩ .nil) (HRs.one (.cons ⟨_, _, _, rfl, (hb0_1.mono (fun _ h_ => f3.1 _ (g8.1 _ h_)))⟩ .nil))))
 replace c7 : St w d3 (.sl (sp c6) 3 3 c9 25 1 :: .sl (sp a1) 2 2 (iv .u8 [1, 0]) 5 1 :: .cells a0 ((cu a0_0) ++ ((cl A0_1 n0_1 c0_1) ++ (cb a0_2))) 104 :: (a6 ++ R)) := by rw [g9]; exact c7
 refine WL.nil ?_
 refine AW.back  ?_
 refine AW.step 10 rfl (by kernel_rfl) ?_
 have k8 := St.hide (A := []) (B := [_, _, _]) (T := a6) (R := R) c7
 obtain ⟨h0, k9, H⟩ := H
 refine WL.call Wanted.none ent55 rfl (slices_Concat_s_byte_byte.calls w d3 a6 (.sl (sp c6) 3 3 c9 25 1 :: .sl (sp a1) 2 2 (iv .u8 [1, 0]) 5 1 :: .cells a0 ((cu a0_0) ++ ((cl A0_1 n0_1 c0_1) ++ (cb a0_2))) 104 :: R) ([b5, b9, l0_1] : List R25) (sp c6) 3 3  k8 (HS.mk rfl (c7.cap (i := 0) rfl) (fun W_ L_ st hT => st.src_mem (hT _ (List.mem_append_right _ (List.mem_of_getElem? (i := 0) rfl)))) k7) h0 k9) ?_
 rintro _ l0 ⟨f5, f6, f7, f8, l1, l2, rfl, l3⟩
 have l4 : St w l0 (.sl f6 f8 f7 (iv .u8 h0) 5 1 :: .sl (sp c6) 3 3 c9 25 1 :: .sl (sp a1) 2 2 (iv .u8 [1, 0]) 5 1 :: .cells a0 ((cu a0_0) ++ ((cl A0_1 n0_1 c0_1) ++ (cb a0_2))) 104 :: (f5 ++ R)) := St.unhide (A := [_]) (B := [_, _, _]) (T := f5) (R := R) l3
 refine ⟨_, rfl, ?_⟩
 refine WL.nil ?_
 refine AW.back  ?_
 refine AW.tk 11 rfl (fun _ => (Runs.assign rfl)) ?_
 refine AW.tk 12 rfl (fun _ => (Runs.assign rfl)) ?_
 refine AW.done (by kernel_rfl) ?_
 refine QW.then_n (CW.ret ?_)
 obtain ⟨rfl, rfl⟩ := H
 exact QW.ret2 rfl rfl rfl ⟨f5, f6, f7, f8, ((g8.trans f3).trans l1), l2, rfl, (St.pickT (L := [_, _, _, _]) l4 [0] (by decide))⟩
/-! ### seal_size: function 61 -/
def seal_size.rel (a0 : Int) (r0 : Bool) : Prop := ((a0 = 160 ∧ r0 = true) ∨ (¬ (a0 = 160) ∧ r0 = (a0 == 176)))
set_option maxHeartbeats 4000000 in
theorem seal_size.calls (w : World) (a0 : Int)    (r0 : Bool) (H : seal_size.rel a0 r0) :
  Calls Tryd.prog 61 #[.int .i64 a0] w fun e w' => e = .returned (.bool r0) ∧ St w w' [] := by
 refine CW.enter Tryd.func61 rfl (n := 9) rfl [.int .i64 a0] (Nat.le_of_ble_eq_true rfl) ?_
 refine CW.sub [(0, .int .i64 a0)] ⟨rfl, trivial⟩ ?_
 have st0 : St w w [] := St.refl w
 refine cr (WL.as rfl (WL.nx (WL.mv rfl ?_)))
 refine WL.v (Runs.eql rfl rfl rfl) ?_
 refine WL.mv rfl ?_
 rcases H with ⟨a2, H⟩ | ⟨a2, H⟩
 ·have a1 : (a0 == 160) = true := (beq_iff_eq.mpr a2)
  refine WL.off ?_ ?_; exact Wg 5 a1
  refine WL.off ?_ ?_; exact Wg 5 a1
  refine WL.v (Runs.pick_t (evb rfl a1) rfl) ?_
  refine WL.as rfl (wn (CW.ret ?_))
  obtain rfl := H
  exact QW.ret1 rfl rfl ⟨rfl, st0.pick [] (by decide)⟩
 have a1 : (a0 == 160) = false := (beq_eq_false_iff_ne.mpr a2)
 refine WL.on ?_ ?_; exact Wg 5 a1
 refine WL.mv rfl ?_
 refine WL.on ?_ ?_; exact Wg 5 a1
 refine WL.v (Runs.eql rfl rfl rfl) ?_
 refine WL.v (Runs.pick_f (evb rfl a1) rfl) ?_
 refine WL.as rfl (wn (CW.ret ?_))
 obtain rfl := H
 exact QW.ret1 rfl rfl ⟨rfl, st0.pick [] (by decide)⟩
/-! ### cipher_Nonce: function 63 -/
def cipher_Nonce.rel (a0 : Int) (a1 : Int) (r0 : List Int) : Prop := (∃ (a3 : List Int), word_Put.rel (IntKind.u64.wrap a0) 4 a3 ∧ (∃ (a4 : List Int), word_Put.rel a1 8 a4 ∧ (∃ (a2 : List Int), slices_Concat_s_byte_byte.rel ([a3, a4] : List R25) a2 ∧ (12 ≤ a2.length ∧ r0 = List.take 12 a2))))
set_option maxHeartbeats 4000000 in
theorem cipher_Nonce.calls (w : World) (a0 : Int) (a1 : Int)    (r0 : List Int) (H : cipher_Nonce.rel a0 a1 r0) :
  Calls Tryd.prog 63 #[.int .u32 a0, .int .u64 a1] w fun e w' => r0.length = 12 ∧ e = .returned (.agg (iv .u8 r0).toArray) ∧ St w w' [] := by
 refine CW.enter Tryd.func63 rfl (n := 14) rfl [.int .u32 a0, .int .u64 a1] (Nat.le_of_ble_eq_true rfl) ?_
 refine CW.sub [(0, .int .u32 a0), (1, .int .u64 a1)] ⟨rfl, rfl, trivial⟩ ?_
 obtain ⟨T, R, hT, hR, st0⟩ := St.start w
 refine cr ?_
 refine WL.alloc st0 arr140.zero ?_
 intro a2 d1 d2
 refine WL.nx (WL.mv rfl ?_)
 refine WL.v (Runs.conv Tryd.underlying37 ⟨_, Tryd.underlying24⟩ rfl rfl) ?_
 obtain ⟨a4, d3, H⟩ := H
 refine WL.call Wanted.none ent32 rfl (word_Put.calls d1 (IntKind.u64.wrap a0) 4 a4 d3) ?_
 rintro _ c4 ⟨a5, a6, a7, d4, rfl, d5⟩
 have d6 := d2.call d5
 refine ⟨_, rfl, ?_⟩
 refine WL.mv rfl ?_
 obtain ⟨a8, d7, H⟩ := H
 refine WL.call Wanted.none ent32 rfl (word_Put.calls c4 a1 8 a8 d7) ?_
 rintro _ c0 ⟨b0, b1, b2, d8, rfl, d9⟩
 have c5 := d6.call d9
 refine ⟨_, rfl, ?_⟩
 have hb_29c := c5.cap (i := 1) rfl
 obtain ⟨c1, f2, e0, b6⟩ := St.freeze (A := [_]) (B := [_]) (T := T) (R := R) c5
 have e1 : HB w c1 a5 a7 a6 (iv .u8 a4) a4.length := ⟨d4, hb_29c, Hd.of_sl e0⟩
 replace b6 : St w c0 (.sl b0 b1 b2 (iv .u8 a8) 5 1 :: .cells a2 (iv .u8 (List.replicate 12 (0 : Int))) 140 :: (c1 ++ R)) := b6
 have hb_34c := b6.cap (i := 0) rfl
 obtain ⟨a3, e2, e3, c2⟩ := St.freeze (A := []) (B := [_]) (T := c1) (R := R) b6
 have e4 : HB w a3 b0 b2 b1 (iv .u8 a8) a8.length := ⟨d8, hb_34c, Hd.of_sl e3⟩
 replace c2 : St w c0 (.cells a2 (iv .u8 (List.replicate 12 (0 : Int))) 140 :: (a3 ++ R)) := c2
 refine WL.buildSl [.slice a5 a7 a6, .slice b0 b2 b1] c2 Tryd.underlying76 elem25 rfl rfl (by decide) (by decide) (by simp [Value.cells]) ?_
 intro a9 b7 b3
 replace b3 : St w b7 (.sl (sp a9) 2 2 [.slice a5 a7 a6, .slice b0 b2 b1] 25 1 :: .cells a2 (iv .u8 (List.replicate 12 (0 : Int))) 140 :: (a3 ++ R)) := b3
 obtain ⟨b4, c6⟩ : ∃ x_ : Cs, x_ = [.slice a5 a7 a6, .slice b0 b2 b1] := ⟨_, rfl⟩
 have e5 : HRs a3 (f25 w) b4 ([a4, a8] : List R25) := by rw [c6]; exact (HRs.cons (ms := (cl a5 a7 a6)) (.cons ⟨_, _, _, rfl, (e1.mono (fun _ h_ => e2.1 _ h_))⟩ .nil) (HRs.one (.cons ⟨_, _, _, rfl, e4⟩ .nil)))
 replace b3 : St w b7 (.sl (sp a9) 2 2 b4 25 1 :: .cells a2 (iv .u8 (List.replicate 12 (0 : Int))) 140 :: (a3 ++ R)) := by rw [c6]; exact b3
 have e6 := St.hide (A := []) (B := [_, _]) (T := a3) (R := R) b3
 obtain ⟨b8, e7, H⟩ := H
 refine WL.call Wanted.none ent55 rfl (slices_Concat_s_byte_byte.calls w b7 a3 (.sl (sp a9) 2 2 b4 25 1 :: .cells a2 (iv .u8 (List.replicate 12 (0 : Int))) 140 :: R) ([a4, a8] : List R25) (sp a9) 2 2  e6 (HS.mk rfl (b3.cap (i := 0) rfl) (fun W_ L_ st hT => st.src_mem (hT _ (List.mem_append_right _ (List.mem_of_getElem? (i := 0) rfl)))) e5) b8 e7) ?_
 rintro _ e8 ⟨c3, c7, c8, c9, f3, e9, rfl, f0⟩
 have d0 : St w e8 (.sl c7 c9 c8 (iv .u8 b8) 5 1 :: .sl (sp a9) 2 2 b4 25 1 :: .cells a2 (iv .u8 (List.replicate 12 (0 : Int))) 140 :: (c3 ++ R)) := St.unhide (A := [_]) (B := [_, _]) (T := c3) (R := R) f0
 refine ⟨_, rfl, ?_⟩
 obtain ⟨b5, H⟩ := H
 refine WL.v (Runs.toArray Tryd.underlying140 rfl (by rw [e9]; exact b5)) ?_
 refine WL.v (Runs.load_src arr140 (by decide) rfl (d0.src_sl (k := 0) rfl) b5) ?_
 refine WL.store_arr (i := 2) d0 rfl arr140 rfl (by rw [iv_length]; exact (List.length_replicate ..)) (List.length_take_of_le b5) rfl ?_
 intro f1 b9
 try dsimp only [List.set] at b9
 refine wn (CW.ret ?_)
 obtain rfl := H
 exact QW.retc rfl arr140 rfl (b9.blk (i := 2) rfl) (List.length_take_of_le b5) ⟨(List.length_take_of_le b5), rfl, (St.front (A := []) (St.pickT (L := [_, _, _]) b9 [] (by decide)))⟩
/-! ### slices.Chunk: its iterator, function 81 -/
/-- The j-th chunk of M bytes at A, c at a time. -/
def chv (A : Option Addr) (c M j : Nat) : Value := .slice (A.map (·.add (c * j))) (min c (M - c * j)) (min c (M - c * j))
def KpB (B1 B2 : Nat) (W W' : World) : Prop := W'.cell? ⟨B1, 0, none⟩ = W.cell? ⟨B1, 0, none⟩ ∧ W'.cell? ⟨B2, 0, none⟩ = W.cell? ⟨B2, 0, none⟩
theorem KpB.trans {B1 B2 : Nat} {W W' W2 : World} (h : KpB B1 B2 W W') (k : KpB B1 B2 W' W2) : KpB B1 B2 W W2 := ⟨k.1.trans h.1, k.2.trans h.2⟩
theorem KpB.put {B1 B2 : Nat} {w : World} (h1 : B1 < w.heap.size) (h2 : B2 < w.heap.size) (W : World) (j : Nat) (o o' : Obj) (hj : w.heap.size ≤ j) (_ : W.heap[j]? = some o) (_ : o.isCells = false) : KpB B1 B2 W (W.putObj j o') := by
 have hb : ∀ b, b < w.heap.size → (W.putObj j o').cell? ⟨b, 0, none⟩ = W.cell? ⟨b, 0, none⟩ := fun b hb => by
  unfold World.cell?
  rw [World.putObj_heap_other (show (⟨b, 0, none⟩ : Addr).block ≠ j by show b ≠ j; omega)]
 exact ⟨hb _ h1, hb _ h2⟩
theorem chw {x : Int} (h0 : -9223372036854775808 ≤ x) (h1 : x ≤ 9223372036854775807) : IntKind.i64.wrap x = x := by rw [IntKind.wrap_i64]; omega
set_option maxHeartbeats 4000000 in
theorem chunk_seq {w : World} {B1 B2 M C c q : Nat} {A : Option Addr} (hb1 : w.cell? ⟨B1, 0, none⟩ = some (.slice A M C)) (hb2 : w.cell? ⟨B2, 0, none⟩ = some (.int .i64 (c : Int))) (hMC : M ≤ C) (hc : 1 ≤ c) (hcs : c ≤ 1099511627776) (hMs : M ≤ 1099511627776)
  (hq1 : M ≤ c * q) (hq2 : ∀ j, j < q → c * j < M) :
  SeqStopsK Fence.wide 2 Tryd.prog 81 #[.pointer (sp B1), .pointer (sp B2)] (fun j : Fin q => #[chv A c M j.val]) (KpB B1 B2) (fun xs => xs = List.finRange q) (fun _ => True) q w := by
 intro y J Jx W hW hJ hJx hY h0
 have c1 : W.cell? ⟨B1, 0, none⟩ = some (.slice A M C) := (hW.cell (p := ⟨B1, 0, none⟩) (block_lt_of_cell hb1)).trans hb1
 have c2 : W.cell? ⟨B2, 0, none⟩ = some (.int .i64 (c : Int)) := (hW.cell (p := ⟨B2, 0, none⟩) (block_lt_of_cell hb2)).trans hb2
 refine callsIn_wide.2 ?_
 refine CW.enter Tryd.func81 rfl (n := 31) rfl [.func (.yield y) #[] #[], .pointer (sp B1), .pointer (sp B2)] (Nat.le_of_ble_eq_true rfl) ?_
 refine CW.sub [(0, .func (.yield y) #[] #[]), (1, .pointer (sp B1)), (2, .pointer (sp B2))] ⟨rfl, rfl, rfl, trivial⟩ ?_
 refine cr (WL.as rfl (wn (CW.block ?_)))
 refine CW.sub [(0, .func (.yield y) #[] #[]), (1, .pointer (sp B1)), (2, .pointer (sp B2)), (4, .int .i64 0)] ⟨rfl, rfl, rfl, rfl, trivial⟩ ?_
 refine CW.loop (fun k l_ w_ => ∃ j : Nat, k + j = q + 1 ∧ j ≤ q ∧ l_ = [(0, .func (.yield y) #[] #[]), (1, .pointer (sp B1)), (2, .pointer (sp B2)), (4, .int .i64 ((c * j : Nat) : Int))] ∧ J ((List.finRange q).take j) w_ ∧ w_.cell? ⟨B1, 0, none⟩ = some (.slice A M C) ∧ w_.cell? ⟨B2, 0, none⟩ = some (.int .i64 (c : Int)))
  (k := q + 1) ⟨0, by omega, by omega, rfl, h0, c1, c2⟩ (fun _ _ h => by obtain ⟨j, h1, h2, _⟩ := h; omega) ?_
 rintro k l1 w1 ⟨j, hkj, hjq, rfl, hJ1, d1, d2⟩
 refine CW.seq (cr (WL.mv rfl ?_))
 refine WL.v (Runs.load nagg25 rfl d1) ?_
 refine WL.v (Runs.len_sl Tryd.underlying25 rfl rfl) ?_
 refine WL.v (Runs.lss rfl rfl rfl) ?_
 refine wn ?_
 by_cases hlt : j < q
 ·have hjM := hq2 j hlt
  have hfin : (List.finRange q).take (j + 1) = (List.finRange q).take j ++ [⟨j, hlt⟩] := by
   rw [List.take_add_one]; simp [hlt]
  refine CW.ct rfl (decide_eq_true (by omega)) ?_
  refine CW.skip (QW.then_n ?_)
  refine CW.sub [(0, .func (.yield y) #[] #[]), (1, .pointer (sp B1)), (2, .pointer (sp B2)), (4, .int .i64 ((c * j : Nat) : Int))] ⟨rfl, rfl, rfl, rfl, trivial⟩ ?_
  refine CW.seq (CW.block (CW.seq ?_))
  refine CW.region_qC (C := fun W' => J ((List.finRange q).take j) W' ∧ W'.cell? ⟨B1, 0, none⟩ = some (.slice A M C) ∧ W'.cell? ⟨B2, 0, none⟩ = some (.int .i64 (c : Int))) wide (by kernel_rfl) ⟨hJ _ _ _ none hJ1 ⟨rfl, rfl, rfl, Nat.le_refl _, fun _ _ _ => rfl⟩ (fun r e => by cases e), d1, d2⟩ ?_
  refine HL.val Wanted.none (fun W' h' => Runs.load nagg3 rfl h'.2.2) ?_
  refine HL.val Wanted.none (fun W' h' => Runs.load nagg25 rfl h'.2.1) ?_
  refine HL.val Wanted.none (fun W' h' => Runs.move rfl) ?_
  refine HL.val Wanted.none (fun W' h' => Runs.slice_l Tryd.underlying25 cells5 rfl rfl (by omega) (by omega) (B := subA A (c * j) C) rfl (N := M - c * j) rfl (M := C - c * j) rfl) ?_
  refine HL.val Wanted.none (fun W' h' => Runs.len_sl Tryd.underlying25 rfl rfl) ?_
  refine HL.val Wanted.none (fun W' h' => Runs.min2 rfl rfl (z := ((min c (M - c * j) : Nat) : Int)) (by unfold minI; split <;> omega)) ?_
  refine HL.val Wanted.none (fun W' h' => Runs.assign rfl) ?_
  refine HL.nil (fun w2 h2 => ?_)
  obtain ⟨hJ2, f1, f2⟩ := h2
  refine wn ?_
  refine CW.sub [(0, .func (.yield y) #[] #[]), (1, .pointer (sp B1)), (2, .pointer (sp B2)), (4, .int .i64 ((c * j : Nat) : Int)), (5, .int .i64 ((min c (M - c * j) : Nat) : Int))] ⟨rfl, rfl, rfl, rfl, rfl, trivial⟩ ?_
  refine CW.seq ?_
  refine CW.region_y 2 ?_
  refine WY.val (Runs.move rfl) rfl ?_
  refine WY.val (Runs.load nagg25 rfl f1) rfl ?_
  refine WY.val (Runs.move rfl) rfl ?_
  refine WY.val (Runs.move rfl) rfl ?_
  refine WY.val (Runs.move rfl) rfl ?_
  refine WY.val (Runs.add rfl rfl (z := ((c * j + min c (M - c * j) : Nat) : Int)) (by rw [chw (by omega) (by omega)]; omega)) rfl ?_
  refine WY.val (Runs.move rfl) rfl ?_
  refine WY.val (Runs.move rfl) rfl ?_
  refine WY.val (Runs.add rfl rfl (z := ((c * j + min c (M - c * j) : Nat) : Int)) (by rw [chw (by omega) (by omega)]; omega)) rfl ?_
  refine WY.val (Runs.slice_3 Tryd.underlying25 cells5 rfl rfl rfl rfl (by omega) (by omega) (by omega) (by omega) (B := A.map (·.add (c * j))) (by rw [if_neg (by omega)]; rfl) (N := min c (M - c * j)) (by omega) (M := min c (M - c * j)) (by omega)) rfl ?_
  refine WY.yield rfl rfl (hY ((List.finRange q).take j) ⟨j, hlt⟩ w2 hJ2 (by simp; omega)) ?_
  rintro e w3 (⟨rfl, hJ3, hk3⟩ | ⟨rfl, hJx3⟩)
  ·refine ⟨_, rfl, ?_⟩
   refine WY.val (Runs.not rfl rfl) rfl ?_
   refine WY.nil ?_
   refine QW.then_n ?_
   refine CW.cf rfl rfl ?_
   refine CW.skip (QW.blk_n (QW.then_n ?_))
   refine CW.sub [(0, .func (.yield y) #[] #[]), (1, .pointer (sp B1)), (2, .pointer (sp B2)), (4, .int .i64 ((c * j : Nat) : Int))] ⟨rfl, rfl, rfl, rfl, trivial⟩ ?_
   refine CW.region (WL.mv rfl ?_)
   refine WL.v (Runs.load nagg3 rfl (hk3.2.trans f2)) ?_
   refine WL.v (Runs.add rfl rfl (z := ((c * (j + 1) : Nat) : Int)) (by rw [Nat.mul_succ, chw (by omega) (by omega)]; omega)) ?_
   refine WL.as rfl (WL.nil ?_)
   exact QW.at _ (by repeat' constructor) ⟨j + 1, by omega, by omega, rfl, by rw [hfin]; exact hJ3, hk3.1.trans f1, hk3.2.trans f2⟩
  refine ⟨_, rfl, ?_⟩
  refine WY.val (Runs.not rfl rfl) rfl ?_
  refine WY.nil ?_
  refine QW.then_n ?_
  refine CW.ct rfl rfl ?_
  refine CW.ret (QW.blk_r (QW.then_r (QW.then_r (QW.blk_r ?_))))
  exact QW.ret0 rfl ⟨⟨_, rfl⟩, .inr ⟨_, trivial, hJx3⟩⟩
 obtain rfl : j = q := by omega
 refine CW.cf rfl (decide_eq_false (by omega)) ?_
 refine CW.exit (QW.then_x (QW.then_x (QW.blk_x ?_)))
 exact QW.end0 rfl ⟨⟨_, rfl⟩, .inl ⟨_, rfl, by rw [List.take_of_length_le (by simp)] at hJ1; exact hJ1⟩⟩
theorem slices_Chunk.calls (w : World) (A : Option Addr) (M C c : Nat) (hc : 1 ≤ c) :
  Calls Tryd.prog 72 #[.slice A M C, .int .i64 (c : Int)] w fun e w' => ∃ B1 B2, e = .returned (.func (.func 81) #[] #[.pointer (sp B1), .pointer (sp B2)]) ∧ St w w' [.cells B2 [.int .i64 (c : Int)] 3, .cells B1 [.slice A M C] 25] := by
 refine CW.enter Tryd.func72 rfl (n := 9) rfl [.slice A M C, .int .i64 (c : Int)] (Nat.le_of_ble_eq_true rfl) ?_
 refine CW.sub [(0, .slice A M C), (1, .int .i64 (c : Int))] ⟨rfl, rfl, trivial⟩ ?_
 have st0 : St w w [] := St.refl w
 refine cr ?_
 refine WL.box st0 rfl rfl ?_
 intro B1 w1 st1
 refine WL.box st1 rfl rfl ?_
 intro B2 w2 st2
 refine WL.as rfl (wn (CW.seq (cr ?_)))
 refine WL.v (Runs.load nagg3 rfl (st2.cell (k := 0) rfl rfl)) ?_
 refine WL.v (Runs.lss rfl rfl rfl) ?_
 refine wn ?_
 refine CW.cf rfl (decide_eq_false (by omega)) ?_
 refine CW.skip (QW.then_n (cr ?_))
 refine WL.v (Runs.makeFunc (vs := [.pointer (sp B1), .pointer (sp B2)]) rfl) ?_
 refine WL.as rfl (wn (CW.ret ?_))
 exact QW.ret1 rfl rfl ⟨B1, B2, rfl, st2⟩
/-! ### word_inside: function 93 -/
def word_inside.rel (l0 : List Int) (a1 : Int) (a2 : Int) (r0 : Int) : Prop := (∃ (a0 : Bool), word_size.rel a2 a0 ∧ ((¬ (a0 = true) ∧ r0 = 1) ∨ (¬ (¬ (a0 = true)) ∧ ((a1 < 0 ∧ r0 = 12) ∨ (¬ (a1 < 0) ∧ ((a1 > (l0.length : Int) ∧ r0 = 12) ∨ (¬ (a1 > (l0.length : Int)) ∧ (((IntKind.i64.wrap ((l0.length : Int) - a1)) < a2 ∧ r0 = 12) ∨ (¬ ((IntKind.i64.wrap ((l0.length : Int) - a1)) < a2) ∧ r0 = 0)))))))))
set_option maxHeartbeats 4000000 in
theorem word_inside.calls (w : World) (l0 : List Int) (a1 : Int) (a2 : Int) (A0 : Option Addr) (n0 : Nat) (c0 : Nat)  (hs0 : Src w A0 (iv .u8 l0)) (hn0 : n0 = l0.length) (hc0 : n0 ≤ c0) (r0 : Int) (H : word_inside.rel l0 a1 a2 r0) :
  Calls Tryd.prog 93 #[.slice A0 n0 c0, .int .i64 a1, .int .i64 a2] w fun e w' => e = .returned (.int .i64 r0) ∧ St w w' [] := by
 refine CW.enter Tryd.func93 rfl (n := 28) rfl [.slice A0 n0 c0, .int .i64 a1, .int .i64 a2] (Nat.le_of_ble_eq_true rfl) ?_
 refine CW.sub [(0, .slice A0 n0 c0), (1, .int .i64 a1), (2, .int .i64 a2)] ⟨rfl, rfl, rfl, trivial⟩ ?_
 have st0 : St w w [] := St.refl w
 refine cr (WL.as rfl (wn (CW.seq (CW.block (cr (WL.mv rfl ?_))))))
 obtain ⟨a5, b2, H⟩ := H
 refine WL.call Wanted.none ent56 rfl (word_size.calls w a2 a5 b2) ?_
 rintro _ b3 ⟨rfl, b4⟩
 have a4 := st0.call b4
 refine ⟨_, rfl, ?_⟩
 refine WL.v (Runs.not rfl rfl) ?_
 refine WL.as rfl (wn ?_)
 rcases H with ⟨a6, H⟩ | ⟨a6, H⟩
 ·have a7 : (!a5) = true := (not_t (Bool.eq_false_iff.mpr a6))
  refine CW.ct rfl a7 ?_
  refine cr (WL.as rfl (wn (CW.ret (QW.blk_r (QW.then_r ?_)))))
  obtain rfl := H
  exact QW.ret1 rfl rfl ⟨rfl, a4.pick [] (by decide)⟩
 have a7 : (!a5) = false := (not_f (Decidable.not_not.mp a6))
 refine CW.cf rfl a7 ?_
 refine cr (WL.mv rfl ?_)
 refine WL.v (Runs.lss rfl rfl rfl) ?_
 refine WL.mv rfl ?_
 rcases H with ⟨a8, H⟩ | ⟨a8, H⟩
 ·have a3 : (decide (a1 < 0)) = true := (decide_eq_true a8)
  refine WL.off ?_ ?_; exact Wg 14 a3
  refine WL.off ?_ ?_; exact Wg 14 a3
  refine WL.off ?_ ?_; exact Wg 14 a3
  refine WL.off ?_ ?_; exact Wg 14 a3
  refine WL.v (Runs.pick_t (evb rfl a3) rfl) ?_
  refine WL.mv rfl ?_
  refine WL.off ?_ ?_; exact Wg 20 rfl
  refine WL.off ?_ ?_; exact Wg 20 rfl
  refine WL.off ?_ ?_; exact Wg 20 rfl
  refine WL.off ?_ ?_; exact Wg 20 rfl
  refine WL.off ?_ ?_; exact Wg 20 rfl
  refine WL.off ?_ ?_; exact Wg 20 rfl
  refine WL.v (Runs.pick_t rfl rfl) ?_
  refine WL.as rfl (wn ?_)
  refine CW.sub [(6, .int .i64 0), (11, .bool true)] ⟨rfl, rfl, trivial⟩ ?_
  refine CW.ct rfl rfl ?_
  refine cr (WL.as rfl (wn (CW.ret (QW.blk_r (QW.then_r ?_)))))
  obtain rfl := H
  exact QW.ret1 rfl rfl ⟨rfl, a4.pick [] (by decide)⟩
 have a3 : (decide (a1 < 0)) = false := (decide_eq_false a8)
 refine WL.on ?_ ?_; exact Wg 14 a3
 refine WL.mv rfl ?_
 refine WL.on ?_ ?_; exact Wg 14 a3
 refine WL.mv rfl ?_
 refine WL.on ?_ ?_; exact Wg 14 a3
 refine WL.v (Runs.len_sl Tryd.underlying25 rfl (by rw [hn0])) ?_
 refine WL.on ?_ ?_; exact Wg 14 a3
 refine WL.v (Runs.gtr rfl rfl rfl) ?_
 refine WL.v (Runs.pick_f (evb rfl a3) rfl) ?_
 refine WL.mv rfl ?_
 rcases H with ⟨a9, H⟩ | ⟨a9, H⟩
 ·have a0 : (decide (a1 > (l0.length : Int))) = true := (decide_eq_true a9)
  refine WL.off ?_ ?_; exact Wg 20 a0
  refine WL.off ?_ ?_; exact Wg 20 a0
  refine WL.off ?_ ?_; exact Wg 20 a0
  refine WL.off ?_ ?_; exact Wg 20 a0
  refine WL.off ?_ ?_; exact Wg 20 a0
  refine WL.off ?_ ?_; exact Wg 20 a0
  refine WL.v (Runs.pick_t (evb rfl a0) rfl) ?_
  refine WL.as rfl (wn ?_)
  refine CW.sub [(6, .int .i64 0), (11, .bool true)] ⟨rfl, rfl, trivial⟩ ?_
  refine CW.ct rfl rfl ?_
  refine cr (WL.as rfl (wn (CW.ret (QW.blk_r (QW.then_r ?_)))))
  obtain rfl := H
  exact QW.ret1 rfl rfl ⟨rfl, a4.pick [] (by decide)⟩
 have a0 : (decide (a1 > (l0.length : Int))) = false := (decide_eq_false a9)
 refine WL.on ?_ ?_; exact Wg 20 a0
 refine WL.mv rfl ?_
 refine WL.on ?_ ?_; exact Wg 20 a0
 refine WL.v (Runs.len_sl Tryd.underlying25 rfl (by rw [hn0])) ?_
 refine WL.on ?_ ?_; exact Wg 20 a0
 refine WL.mv rfl ?_
 refine WL.on ?_ ?_; exact Wg 20 a0
 refine WL.v (Runs.sub rfl rfl rfl) ?_
 refine WL.on ?_ ?_; exact Wg 20 a0
 refine WL.mv rfl ?_
 refine WL.on ?_ ?_; exact Wg 20 a0
 refine WL.v (Runs.lss rfl rfl rfl) ?_
 refine WL.v (Runs.pick_f (evb rfl a0) rfl) ?_
 refine WL.as rfl (wn ?_)
 refine CW.sub [(6, .int .i64 0), (11, .bool (decide ((IntKind.i64.wrap ((l0.length : Int) - a1)) < a2)))] ⟨rfl, rfl, trivial⟩ ?_
 rcases H with ⟨b0, H⟩ | ⟨b0, H⟩
 ·have b1 : (decide ((IntKind.i64.wrap ((l0.length : Int) - a1)) < a2)) = true := (decide_eq_true b0)
  refine CW.ct rfl b1 ?_
  refine cr (WL.as rfl (wn (CW.ret (QW.blk_r (QW.then_r ?_)))))
  obtain rfl := H
  exact QW.ret1 rfl rfl ⟨rfl, a4.pick [] (by decide)⟩
 have b1 : (decide ((IntKind.i64.wrap ((l0.length : Int) - a1)) < a2)) = false := (decide_eq_false b0)
 refine CW.cf rfl b1 ?_
 refine CW.skip (QW.blk_n (QW.then_n (cr (WL.as rfl (wn (CW.ret ?_))))))
 obtain rfl := H
 exact QW.ret1 rfl rfl ⟨rfl, a4.pick [] (by decide)⟩
/-! ### word_Get: function 92 -/
def word_Get.L1 (l0 : List Int) (a1 : Int) (a2 : Int) (r0 : Int) (r1 : Int) : Nat → Int → Int → Prop
 | 0, _, _ => False
 | kL1 + 1, a3, a0 => ((a0 < ((prt l0 a1 (IntKind.i64.wrap (a1 + a2))).length : Int) ∧ ((0 ≤ a0 ∧ a0 < ((prt l0 a1 (IntKind.i64.wrap (a1 + a2))).length : Int)) ∧ (∃ a4 : Int, a4 = IntKind.u64.wrap (gn (prt l0 a1 (IntKind.i64.wrap (a1 + a2))) (a0.toNat)) ∧ (0 ≤ (IntKind.u64.wrap (IntKind.i64.wrap (8 * a0))) ∧ (∃ a5 : Int, a5 = shlI .u64 a4 (IntKind.u64.wrap (IntKind.i64.wrap (8 * a0))) ∧ word_Get.L1 l0 a1 a2 r0 r1 kL1 (bits .or .u64 a3 a5) (IntKind.i64.wrap (a0 + 1))))))) ∨ (¬ (a0 < ((prt l0 a1 (IntKind.i64.wrap (a1 + a2))).length : Int)) ∧ r0 = a3 ∧ r1 = 0))
def word_Get.rel (l0 : List Int) (a1 : Int) (a2 : Int) (r0 : Int) (r1 : Int) : Prop := (∃ (a0 : Int), word_inside.rel l0 a1 a2 a0 ∧ ((a0 ≠ 0 ∧ r0 = 0 ∧ r1 = a0) ∨ (¬ (a0 ≠ 0) ∧ ((0 ≤ a1 ∧ a1 ≤ (IntKind.i64.wrap (a1 + a2)) ∧ (IntKind.i64.wrap (a1 + a2)) ≤ (l0.length : Int)) ∧ (∃ k_ : Nat, word_Get.L1 l0 a1 a2 r0 r1 k_ 0 0)))))
set_option maxHeartbeats 4000000 in
theorem word_Get.calls (w : World) (l0 : List Int) (a1 : Int) (a2 : Int) (A0 : Option Addr) (n0 : Nat) (c0 : Nat)  (hs0 : Src w A0 (iv .u8 l0)) (hn0 : n0 = l0.length) (hc0 : n0 ≤ c0) (r0 : Int) (r1 : Int) (H : word_Get.rel l0 a1 a2 r0 r1) :
  Calls Tryd.prog 92 #[.slice A0 n0 c0, .int .i64 a1, .int .i64 a2] w fun e w' => e = .returned (.tuple #[.int .u64 r0, .int .i64 r1]) ∧ St w w' [] := by
 refine CW.enter Tryd.func92 rfl (n := 41) rfl [.slice A0 n0 c0, .int .i64 a1, .int .i64 a2] (Nat.le_of_ble_eq_true rfl) ?_
 refine CW.sub [(0, .slice A0 n0 c0), (1, .int .i64 a1), (2, .int .i64 a2)] ⟨rfl, rfl, rfl, trivial⟩ ?_
 have st0 : St w w [] := St.refl w
 refine cr (WL.as rfl (WL.as rfl (wn (CW.seq (cr (WL.mv rfl (WL.mv rfl (WL.mv rfl ?_))))))))
 obtain ⟨a7, c3, H⟩ := H
 refine WL.call Wanted.none ent93 rfl (word_inside.calls w l0 a1 a2 A0 n0 c0 (hs0.ext st0) (hn0) (hc0) a7 c3) ?_
 rintro _ c4 ⟨rfl, c5⟩
 have b8 := st0.call c5
 refine ⟨_, rfl, ?_⟩
 refine WL.as rfl (WL.nx (WL.mv rfl ?_))
 refine WL.v (Runs.neq rfl rfl rfl) ?_
 refine wn ?_
 rcases H with ⟨b1, H⟩ | ⟨b1, H⟩
 ·have b2 : (a7 != 0) = true := (bne_iff_ne.mpr b1)
  refine CW.ct rfl b2 ?_
  refine cr (WL.mv rfl (WL.as rfl (WL.as rfl (wn (CW.ret (QW.then_r ?_))))))
  obtain ⟨rfl, rfl⟩ := H
  exact QW.ret2 rfl rfl rfl ⟨rfl, b8.pick [] (by decide)⟩
 have b2 : (a7 != 0) = false := (bne_eq_false_iff_eq.mpr (Decidable.not_not.mp b1))
 refine CW.cf rfl b2 ?_
 refine CW.skip (QW.then_n ?_)
 refine CW.sub [(0, .slice A0 n0 c0), (1, .int .i64 a1), (2, .int .i64 a2), (6, .int .u64 0), (7, .int .i64 0)] ⟨rfl, rfl, rfl, rfl, rfl, trivial⟩ ?_
 refine cr (WL.as rfl (wn (CW.seq (cr (WL.mv rfl (WL.mv rfl (WL.mv rfl (WL.mv rfl ?_))))))))
 refine WL.v (Runs.add rfl rfl rfl) ?_
 obtain ⟨⟨a3, a4, b9⟩, H⟩ := H
 have d3 : n0 ≤ c0 := hc0
 have b3 : (IntKind.i64.wrap (a1 + a2)) ≤ (c0 : Int) := by have := hn0; omega
 obtain ⟨b4, b5⟩ : ∃ B_, B_ = subA A0 (a1).toNat c0 := ⟨_, rfl⟩
 obtain ⟨a5, a8⟩ : ∃ n_ : Nat, n_ = (prt l0 a1 (IntKind.i64.wrap (a1 + a2))).length := ⟨_, rfl⟩
 obtain ⟨a9, c1⟩ : ∃ c_ : Nat, c_ = c0 - (a1).toNat := ⟨_, rfl⟩
 have d4 : a5 ≤ a9 := by rw [a8, prt_length a3 a4 b9]; rw [c1]; omega
 refine WL.v (Runs.slice_lh Tryd.underlying25 cells5 rfl rfl rfl a3 a4 b3 b5 (N := a5) (by rw [a8, prt_length a3 a4 b9]) c1) ?_
 refine WL.v (Runs.len_sl Tryd.underlying25 rfl (by rw [a8])) ?_
 refine WL.mv rfl (wn ?_)
 refine CW.sub [(6, .int .u64 0), (7, .int .i64 0), (9, .int .u64 0), (24, .slice b4 a5 a9), (25, .int .i64 ((prt l0 a1 (IntKind.i64.wrap (a1 + a2))).length : Int)), (26, .int .i64 0)] (by repeat' constructor) ?_
 refine CW.block ?_
 obtain ⟨c6, H⟩ := H
 refine CW.sub [(6, .int .u64 0), (7, .int .i64 0), (9, .int .u64 0), (24, .slice b4 a5 a9), (25, .int .i64 ((prt l0 a1 (IntKind.i64.wrap (a1 + a2))).length : Int)), (26, .int .i64 0)] (by repeat' constructor) ?_
 refine CW.loop (fun kL1 l_ w_ => ∃ (a6 : Int) (a0 : Int), l_ = [(6, .int .u64 0), (7, .int .i64 0), (9, .int .u64 a6), (24, .slice b4 a5 a9), (25, .int .i64 ((prt l0 a1 (IntKind.i64.wrap (a1 + a2))).length : Int)), (26, .int .i64 a0)] ∧ word_Get.L1 l0 a1 a2 r0 r1 kL1 a6 a0 ∧ St w w_ []) (k := c6) ⟨0, 0, rfl, H, b8⟩ (fun _ _ h => by obtain ⟨_, _, _, h, _⟩ := h; exact h.elim) ?_
 rintro kL1 d5 d6 ⟨a6, a0, rfl, H, b0⟩
 refine cr ?_
 refine WL.v (Runs.lss rfl rfl rfl) ?_
 refine wn (CW.seq ?_)
 rcases H with ⟨b6, H⟩ | ⟨b6, H⟩
 ·have b7 : (decide (a0 < ((prt l0 a1 (IntKind.i64.wrap (a1 + a2))).length : Int))) = true := (decide_eq_true b6)
  refine CW.ct rfl b7 ?_
  refine CW.skip (QW.then_n (CW.seq (CW.block (cr (WL.mv rfl ?_)))))
  obtain ⟨⟨c7, c8⟩, H⟩ := H
  obtain ⟨d7, c2⟩ := ((hs0.ext b0).sub_iv a3 a4 b3 b5).addr_iv (a0.toNat) (by omega)
  refine WL.v (Runs.indexAddr Tryd.underlying25 cells5 (by decide) rfl c2 rfl c7 (by rw [a8]; exact c8) (o := (a0).toNat) (by first | rfl | omega)) ?_
  refine WL.v (Runs.load nagg5 rfl (((hs0.ext b0).sub_iv a3 a4 b3 b5).cell_iv c2 (by omega))) ?_
  refine WL.as rfl (WL.as rfl (wn (CW.region (WL.mv rfl (WL.mv rfl ?_)))))
  obtain ⟨d8, c9, H⟩ := H
  refine WL.v (Runs.conv Tryd.underlying37 ⟨_, Tryd.underlying5⟩ rfl c9) ?_
  refine WL.mv rfl ?_
  refine WL.v (Runs.mul rfl rfl rfl) ?_
  refine WL.v (Runs.conv Tryd.underlying133 ⟨_, Tryd.underlying3⟩ rfl rfl) ?_
  obtain ⟨d0, H⟩ := H
  obtain ⟨d1, d2, H⟩ := H
  refine WL.v (Runs.shl rfl rfl d0 d2) ?_
  refine WL.v (Runs.bor rfl rfl rfl) ?_
  refine WL.as rfl (WL.nil (QW.blk_n (QW.then_n (CW.region ?_))))
  refine WL.v (Runs.add rfl rfl rfl) ?_
  refine WL.mv rfl (WL.nil ?_)
  exact QW.at _ (by repeat' constructor) ⟨bits .or .u64 a6 d1, IntKind.i64.wrap (a0 + 1), rfl, H, b0⟩
 have b7 : (decide (a0 < ((prt l0 a1 (IntKind.i64.wrap (a1 + a2))).length : Int))) = false := (decide_eq_false b6)
 refine CW.cf rfl b7 ?_
 refine CW.exit (QW.then_x (QW.then_x (QW.blk_x (QW.then_n (cr (WL.mv rfl (WL.as rfl (WL.as rfl (wn (CW.ret ?_))))))))))
 obtain ⟨rfl, rfl⟩ := H
 exact QW.ret2 rfl rfl rfl ⟨rfl, b0.pick [] (by decide)⟩
/-! ### cipher_at: function 89 -/
def cipher_at.rel (l0 : List Int) (a1 : Int) (r0 : Int) : Prop := (∃ (a0 : Int) (a2 : Int), word_Get.rel l0 (IntKind.i64.wrap (4 * a1)) 4 a0 a2 ∧ r0 = IntKind.u32.wrap a0)
set_option maxHeartbeats 4000000 in
theorem cipher_at.calls (w : World) (l0 : List Int) (a1 : Int) (A0 : Option Addr) (n0 : Nat) (c0 : Nat)  (hs0 : Src w A0 (iv .u8 l0)) (hn0 : n0 = l0.length) (hc0 : n0 ≤ c0) (r0 : Int) (H : cipher_at.rel l0 a1 r0) :
  Calls Tryd.prog 89 #[.slice A0 n0 c0, .int .i64 a1] w fun e w' => e = .returned (.int .u32 r0) ∧ St w w' [] := by
 refine CW.enter Tryd.func89 rfl (n := 16) rfl [.slice A0 n0 c0, .int .i64 a1] (Nat.le_of_ble_eq_true rfl) ?_
 refine CW.sub [(0, .slice A0 n0 c0), (1, .int .i64 a1)] ⟨rfl, rfl, trivial⟩ ?_
 have st0 : St w w [] := St.refl w
 refine cr (WL.as rfl (WL.nx (WL.mv rfl (WL.mv rfl ?_))))
 refine WL.v (Runs.mul rfl rfl rfl) ?_
 obtain ⟨a0, a2, a3, H⟩ := H
 refine WL.call Wanted.none ent92 rfl (word_Get.calls w l0 (IntKind.i64.wrap (4 * a1)) 4 A0 n0 c0 (hs0.ext st0) (hn0) (hc0) a0 a2 a3) ?_
 rintro _ a4 ⟨rfl, a5⟩
 have a6 := st0.call a5
 refine ⟨_, rfl, ?_⟩
 refine WL.mv rfl ?_
 refine WL.v (Runs.extract rfl rfl) ?_
 refine WL.v (Runs.extract rfl rfl) ?_
 refine WL.as rfl (WL.as rfl (wn ?_))
 refine CW.sub [(4, .int .u32 0), (5, .int .u64 a0)] ⟨rfl, rfl, trivial⟩ ?_
 refine cr (WL.mv rfl ?_)
 refine WL.v (Runs.conv Tryd.underlying24 ⟨_, Tryd.underlying37⟩ rfl rfl) ?_
 refine WL.as rfl (wn (CW.ret ?_))
 obtain rfl := H
 exact QW.ret1 rfl rfl ⟨rfl, a6.pick [] (by decide)⟩
/-! ### cipher_words: function 84 -/
def cipher_words.L2 (l2 : List Int) (r0 : List Int) : Nat → (List Int) → Int → Prop
 | 0, _, _ => False
 | kL2 + 1, a1, a0 => ((a0 < 3 ∧ (∃ (a2 : Int), cipher_at.rel l2 a0 a2 ∧ ((0 ≤ (IntKind.i64.wrap (13 + a0)) ∧ (IntKind.i64.wrap (13 + a0)) < (16 : Int)) ∧ (∃ a3 : List Int, a3 = List.set a1 ((IntKind.i64.wrap (13 + a0)).toNat) a2 ∧ cipher_words.L2 l2 r0 kL2 a3 (IntKind.i64.wrap (a0 + 1)))))) ∨ (¬ (a0 < 3) ∧ r0 = a1))
def cipher_words.L1 (l0 : List Int) (a1 : Int) (l2 : List Int) (r0 : List Int) : Nat → (List Int) → Int → Prop
 | 0, _, _ => False
 | kL1 + 1, a2, a0 => ((a0 < 8 ∧ (∃ (a3 : Int), cipher_at.rel l0 a0 a3 ∧ ((0 ≤ (IntKind.i64.wrap (4 + a0)) ∧ (IntKind.i64.wrap (4 + a0)) < (16 : Int)) ∧ (∃ a4 : List Int, a4 = List.set a2 ((IntKind.i64.wrap (4 + a0)).toNat) a3 ∧ cipher_words.L1 l0 a1 l2 r0 kL1 a4 (IntKind.i64.wrap (a0 + 1)))))) ∨ (¬ (a0 < 8) ∧ (∃ a5 : List Int, a5 = List.set a2 12 a1 ∧ (∃ k_ : Nat, cipher_words.L2 l2 r0 k_ a5 0))))
def cipher_words.rel (l0 : List Int) (a1 : Int) (l2 : List Int) (r0 : List Int) : Prop := (∃ a0 : List Int, a0 = [1634760805, 857760878, 2036477234, 1797285236, 0, 0, 0, 0, 0, 0, 0, 0, 0, 0, 0, 0] ∧ (∃ k_ : Nat, cipher_words.L1 l0 a1 l2 r0 k_ a0 0))
set_option maxHeartbeats 4000000 in
theorem cipher_words.calls (w : World) (l0 : List Int) (a1 : Int) (l2 : List Int)   (hl0 : l0.length = 32) (hl2 : l2.length = 12) (r0 : List Int) (H : cipher_words.rel l0 a1 l2 r0) :
  Calls Tryd.prog 84 #[.agg (iv .u8 l0).toArray, .int .u32 a1, .agg (iv .u8 l2).toArray] w fun e w' => r0.length = 16 ∧ e = .returned (.agg (iv .u32 r0).toArray) ∧ St w w' [] := by
 refine CW.enter Tryd.func84 rfl (n := 34) rfl [.agg (iv .u8 l0).toArray, .int .u32 a1, .agg (iv .u8 l2).toArray] (Nat.le_of_ble_eq_true rfl) ?_
 refine CW.sub [(0, .agg (iv .u8 l0).toArray), (1, .int .u32 a1), (2, .agg (iv .u8 l2).toArray)] ⟨rfl, rfl, rfl, trivial⟩ ?_
 have st0 : St w w [] := St.refl w
 refine cr ?_
 refine WL.box st0 rfl rfl ?_
 intro a4 g0 d2
 refine WL.box d2 rfl rfl ?_
 intro a0 g1 d3
 refine WL.alloc d3 arr166.zero ?_
 intro a2 g2 d4
 refine WL.nx ?_
 obtain ⟨b3, b4, H⟩ := H
 refine WL.v (Runs.build_arr (xs := b3) arr166 rfl rfl (by rw [b4]; rfl)) ?_
 refine WL.alloc d4 arr166.zero ?_
 intro a3 g3 d5
 refine WL.store_arr (i := 0) d5 rfl arr166 rfl (by rw [iv_length]; exact (List.length_replicate ..)) (by rw [b4]; rfl) rfl ?_
 intro d6 b5
 try dsimp only [List.set] at b5
 refine wn (CW.seq (cr (WL.mv rfl (wn (CW.block ?_)))))
 obtain ⟨d7, H⟩ := H
 refine CW.sub [(1, .int .u32 a1), (3, .pointer (sp a4)), (5, .pointer (sp a0)), (6, .pointer (sp a2)), (7, .pointer (sp a3)), (11, .int .i64 0)] (by repeat' constructor) ?_
 refine CW.loop (fun kL1 l_ w_ => ∃ (a8 : List Int) (a5 : Int), l_ = [(1, .int .u32 a1), (3, .pointer (sp a4)), (5, .pointer (sp a0)), (6, .pointer (sp a2)), (7, .pointer (sp a3)), (11, .int .i64 a5)] ∧ cipher_words.L1 l0 a1 l2 r0 kL1 a8 a5 ∧ (a8.length = 16) ∧ St w w_ [.cells a3 (iv .u32 a8) 166, .cells a2 (iv .u32 (List.replicate 16 (0 : Int))) 166, .cells a0 (iv .u8 l2) 140, .cells a4 (iv .u8 l0) 23]) (k := d7) ⟨b3, 0, rfl, H, (by rw [b4]; rfl), b5⟩ (fun _ _ h => by obtain ⟨_, _, _, h, _⟩ := h; exact h.elim) ?_
 rintro kL1 g4 d8 ⟨a8, a5, rfl, H, b0, b6⟩
 refine cr ?_
 refine WL.v (Runs.lss rfl rfl rfl) ?_
 refine wn (CW.seq ?_)
 rcases H with ⟨b7, H⟩ | ⟨b7, H⟩
 ·have b8 : (decide (a5 < 8)) = true := (decide_eq_true b7)
  refine CW.ct rfl b8 ?_
  refine CW.skip (QW.then_n (CW.seq (CW.block (cr (WL.mv rfl (WL.as rfl (wn (CW.region (WL.mv rfl ?_)))))))))
  refine WL.v (Runs.add rfl rfl rfl) ?_
  refine WL.v (Runs.slice_arr arr23 rfl (by decide)) ?_
  refine WL.mv rfl ?_
  obtain ⟨c7, d9, H⟩ := H
  refine WL.call Wanted.none ent89 rfl (cipher_at.calls d8 l0 a5 (sp a4) 32 32 (b6.src_blk (i := 3) rfl) ((hl0).symm) (Nat.le_refl _) c7 d9) ?_
  rintro _ e0 ⟨rfl, e1⟩
  have e2 := b6.call e1
  refine ⟨_, rfl, ?_⟩
  obtain ⟨⟨e3, e4⟩, H⟩ := H
  refine WL.v (Runs.indexAddr_blk arr166 rfl rfl e3 e4 (o := (IntKind.i64.wrap (4 + a5)).toNat) (by first | rfl | omega)) ?_
  obtain ⟨b9, c8, H⟩ := H
  have e5 : b9.length = 16 := by rw [c8, List.length_set]; exact b0
  refine WL.store_cells (i := 0) e2 rfl cells24 rfl (by rw [iv_length]; have := b0; omega) rfl rfl ?_
  intro e6 c0
  have c0' : St w e6 [.cells a3 (iv .u32 b9) 166, .cells a2 (iv .u32 (List.replicate 16 (0 : Int))) 166, .cells a0 (iv .u8 l2) 140, .cells a4 (iv .u8 l0) 23] := by rw [c8, ← iv_set .u32 a8 ((IntKind.i64.wrap (4 + a5)).toNat) c7]; exact c0
  refine WL.nil (QW.blk_n (QW.then_n (CW.region ?_)))
  refine WL.v (Runs.add rfl rfl rfl) ?_
  refine WL.mv rfl (WL.nil ?_)
  exact QW.at _ (by repeat' constructor) ⟨b9, IntKind.i64.wrap (a5 + 1), rfl, H, e5, c0'⟩
 have b8 : (decide (a5 < 8)) = false := (decide_eq_false b7)
 refine CW.cf rfl b8 ?_
 refine CW.exit (QW.then_x (QW.then_x (QW.blk_x (QW.then_n (cr (WL.mv rfl ?_))))))
 refine WL.v (Runs.indexAddr_blk arr166 rfl rfl (by decide) (by decide) (o := 12) (by first | rfl | omega)) ?_
 obtain ⟨c1, c9, H⟩ := H
 have e7 : c1.length = 16 := by rw [c9, List.length_set]; exact b0
 refine WL.store_cells (i := 0) b6 rfl cells24 rfl (by rw [iv_length]; have := b0; omega) rfl rfl ?_
 intro e8 c2
 have c2' : St w e8 [.cells a3 (iv .u32 c1) 166, .cells a2 (iv .u32 (List.replicate 16 (0 : Int))) 166, .cells a0 (iv .u8 l2) 140, .cells a4 (iv .u8 l0) 23] := by rw [c9, ← iv_set .u32 a8 12 a1]; exact c2
 refine wn ?_
 refine CW.sub [(5, .pointer (sp a0)), (6, .pointer (sp a2)), (7, .pointer (sp a3))] ⟨rfl, rfl, rfl, trivial⟩ ?_
 refine CW.seq (cr (WL.mv rfl (wn (CW.block ?_))))
 obtain ⟨e9, H⟩ := H
 refine CW.sub [(5, .pointer (sp a0)), (6, .pointer (sp a2)), (7, .pointer (sp a3)), (23, .int .i64 0)] ⟨rfl, rfl, rfl, rfl, trivial⟩ ?_
 refine CW.loop (fun kL2 l_ w_ => ∃ (a7 : List Int) (a6 : Int), l_ = [(5, .pointer (sp a0)), (6, .pointer (sp a2)), (7, .pointer (sp a3)), (23, .int .i64 a6)] ∧ cipher_words.L2 l2 r0 kL2 a7 a6 ∧ (a7.length = 16) ∧ St w w_ [.cells a3 (iv .u32 a7) 166, .cells a2 (iv .u32 (List.replicate 16 (0 : Int))) 166, .cells a0 (iv .u8 l2) 140, .cells a4 (iv .u8 l0) 23]) (k := e9) ⟨c1, 0, rfl, H, e7, c2'⟩ (fun _ _ h => by obtain ⟨_, _, _, h, _⟩ := h; exact h.elim) ?_
 rintro kL2 g5 f0 ⟨a7, a6, rfl, H, a9, b1⟩
 refine cr ?_
 refine WL.v (Runs.lss rfl rfl rfl) ?_
 refine wn (CW.seq ?_)
 rcases H with ⟨c3, H⟩ | ⟨c3, H⟩
 ·have c4 : (decide (a6 < 3)) = true := (decide_eq_true c3)
  refine CW.ct rfl c4 ?_
  refine CW.skip (QW.then_n (CW.seq (CW.block (cr (WL.mv rfl (WL.as rfl (wn (CW.region (WL.mv rfl ?_)))))))))
  refine WL.v (Runs.add rfl rfl rfl) ?_
  refine WL.v (Runs.slice_arr arr140 rfl (by decide)) ?_
  refine WL.mv rfl ?_
  obtain ⟨d0, f1, H⟩ := H
  refine WL.call Wanted.none ent89 rfl (cipher_at.calls f0 l2 a6 (sp a0) 12 12 (b1.src_blk (i := 2) rfl) ((hl2).symm) (Nat.le_refl _) d0 f1) ?_
  rintro _ f2 ⟨rfl, f3⟩
  have f4 := b1.call f3
  refine ⟨_, rfl, ?_⟩
  obtain ⟨⟨f5, f6⟩, H⟩ := H
  refine WL.v (Runs.indexAddr_blk arr166 rfl rfl f5 f6 (o := (IntKind.i64.wrap (13 + a6)).toNat) (by first | rfl | omega)) ?_
  obtain ⟨c5, d1, H⟩ := H
  have f7 : c5.length = 16 := by rw [d1, List.length_set]; exact a9
  refine WL.store_cells (i := 0) f4 rfl cells24 rfl (by rw [iv_length]; have := a9; omega) rfl rfl ?_
  intro f8 c6
  have c6' : St w f8 [.cells a3 (iv .u32 c5) 166, .cells a2 (iv .u32 (List.replicate 16 (0 : Int))) 166, .cells a0 (iv .u8 l2) 140, .cells a4 (iv .u8 l0) 23] := by rw [d1, ← iv_set .u32 a7 ((IntKind.i64.wrap (13 + a6)).toNat) d0]; exact c6
  refine WL.nil (QW.blk_n (QW.then_n (CW.region ?_)))
  refine WL.v (Runs.add rfl rfl rfl) ?_
  refine WL.mv rfl (WL.nil ?_)
  exact QW.at _ (by repeat' constructor) ⟨c5, IntKind.i64.wrap (a6 + 1), rfl, H, f7, c6'⟩
 have c4 : (decide (a6 < 3)) = false := (decide_eq_false c3)
 refine CW.cf rfl c4 ?_
 refine CW.exit (QW.then_x (QW.then_x (QW.blk_x (QW.then_n (cr ?_)))))
 refine WL.v (Runs.load_arr arr166 rfl (b1.blk (i := 0) rfl) a9) ?_
 refine WL.store_arr (i := 1) b1 rfl arr166 rfl (by rw [iv_length]; exact (List.length_replicate ..)) a9 rfl ?_
 intro f9 b2
 try dsimp only [List.set] at b2
 refine wn (CW.ret ?_)
 obtain rfl := H
 exact QW.retc rfl arr166 rfl (b2.blk (i := 1) rfl) a9 ⟨a9, rfl, b2.pick [] (by decide)⟩
/-! ### bits_RotateLeft32: function 86 -/
def bits_RotateLeft32.rel (a0 : Int) (a1 : Int) (r0 : Int) : Prop := (0 ≤ (bits .and .u64 (IntKind.u64.wrap a1) 31) ∧ (∃ a2 : Int, a2 = IntKind.u64.wrap (32 - (bits .and .u64 (IntKind.u64.wrap a1) 31)) ∧ (0 ≤ a2 ∧ (∃ a3 : Int, a3 = bits .or .u32 (shlI .u32 a0 (bits .and .u64 (IntKind.u64.wrap a1) 31)) (shrI .u32 a0 a2) ∧ r0 = a3))))
set_option maxHeartbeats 4000000 in
theorem bits_RotateLeft32.calls (w : World) (a0 : Int) (a1 : Int)    (r0 : Int) (H : bits_RotateLeft32.rel a0 a1 r0) :
  Calls Tryd.prog 86 #[.int .u32 a0, .int .i64 a1] w fun e w' => e = .returned (.int .u32 r0) ∧ St w w' [] := by
 refine CW.enter Tryd.func86 rfl (n := 17) rfl [.int .u32 a0, .int .i64 a1] (Nat.le_of_ble_eq_true rfl) ?_
 refine CW.sub [(0, .int .u32 a0), (1, .int .i64 a1)] ⟨rfl, rfl, trivial⟩ ?_
 have st0 : St w w [] := St.refl w
 refine cr (WL.as rfl (WL.nx (WL.mv rfl ?_)))
 refine WL.v (Runs.conv Tryd.underlying133 ⟨_, Tryd.underlying3⟩ rfl rfl) ?_
 refine WL.v (Runs.band rfl rfl rfl) ?_
 refine WL.as rfl (WL.nx (WL.mv rfl (WL.mv rfl ?_)))
 obtain ⟨a2, H⟩ := H
 refine WL.v (Runs.shl rfl rfl a2 rfl) ?_
 refine WL.mv rfl (WL.mv rfl ?_)
 obtain ⟨a7, a3, H⟩ := H
 refine WL.v (Runs.sub rfl rfl a3) ?_
 obtain ⟨a4, H⟩ := H
 refine WL.v (Runs.shr rfl rfl a4 rfl) ?_
 obtain ⟨a5, a6, H⟩ := H
 refine WL.v (Runs.bor rfl rfl a6) ?_
 refine WL.as rfl (wn (CW.ret ?_))
 obtain rfl := H
 exact QW.ret1 rfl rfl ⟨rfl, st0.pick [] (by decide)⟩
/-! ### cipher_Block_1: function 85 -/
def cipher_Block_1.rel (a0 : Int) (a1 : Int) (a2 : Int) (a3 : Int) (x0 : List Int) (s0 : List Int) : Prop := ((0 ≤ a0 ∧ a0 < (16 : Int)) ∧ ((0 ≤ a1 ∧ a1 < (16 : Int)) ∧ (∃ a5 : Int, a5 = IntKind.u32.wrap ((gn x0 (a0.toNat)) + (gn x0 (a1.toNat))) ∧ ((0 ≤ a0 ∧ a0 < (16 : Int)) ∧ (∃ a4 : List Int, a4 = List.set x0 (a0.toNat) a5 ∧ ((0 ≤ a2 ∧ a2 < (16 : Int)) ∧ ((0 ≤ a0 ∧ a0 < (16 : Int)) ∧ (∃ (a6 : Int), bits_RotateLeft32.rel (bits .xor .u32 (gn a4 (a2.toNat)) (gn a4 (a0.toNat))) a3 a6 ∧ ((0 ≤ a2 ∧ a2 < (16 : Int)) ∧ (∃ a7 : List Int, a7 = List.set a4 (a2.toNat) a6 ∧ s0 = a7))))))))))
set_option maxHeartbeats 4000000 in
theorem cipher_Block_1.calls (w w1 : World) (T : List En) (a0 : Int) (a1 : Int) (a2 : Int) (a3 : Int) (x0 : List Int) (b0 : Nat) (st0 : St w w1 (.cells b0 (iv .u32 x0) 166 :: T)) (hx0 : x0.length = 16) (s0 : List Int) (H : cipher_Block_1.rel a0 a1 a2 a3 x0 s0) :
  Calls Tryd.prog 85 #[.int .i64 a0, .int .i64 a1, .int .i64 a2, .int .i64 a3, .pointer (sp b0)] w1 fun e w' => s0.length = 16 ∧ e = .returned (.tuple #[]) ∧ St w w' (.cells b0 (iv .u32 s0) 166 :: T) := by
 refine CW.enter Tryd.func85 rfl (n := 28) rfl [.int .i64 a0, .int .i64 a1, .int .i64 a2, .int .i64 a3, .pointer (sp b0)] (Nat.le_of_ble_eq_true rfl) ?_
 refine CW.sub [(0, .int .i64 a0), (1, .int .i64 a1), (2, .int .i64 a2), (3, .int .i64 a3), (4, .pointer (sp b0))] ⟨rfl, rfl, rfl, rfl, rfl, trivial⟩ ?_
 refine CW.seq ?_
 refine CW.region_qt 8 wide (by kernel_rfl) st0 ?_
 refine HL.mv rfl ?_
 obtain ⟨⟨b3, b4⟩, H⟩ := H
 refine HL.v (fun wq sq => (Runs.indexAddr_blk arr166 rfl rfl b3 b4 (o := (a0).toNat) (by first | rfl | omega))) ?_
 refine HL.v (fun wq sq => (Runs.load nagg24 rfl (sq.cell_iv (i := 0) rfl (by have := hx0; omega)))) ?_
 refine HL.mv rfl ?_
 obtain ⟨⟨b5, b6⟩, H⟩ := H
 refine HL.v (fun wq sq => (Runs.indexAddr_blk arr166 rfl rfl b5 b6 (o := (a1).toNat) (by first | rfl | omega))) ?_
 refine HL.v (fun wq sq => (Runs.load nagg24 rfl (sq.cell_iv (i := 0) rfl (by have := hx0; omega)))) ?_
 obtain ⟨b7, b8, H⟩ := H
 refine HL.v (fun wq sq => (Runs.add rfl rfl b8)) ?_
 obtain ⟨⟨b9, c0⟩, H⟩ := H
 refine HL.v (fun wq sq => (Runs.indexAddr_blk arr166 rfl rfl b9 c0 (o := (a0).toNat) (by first | rfl | omega))) ?_
 refine HL.nil (fun d3 c1 => ?_)
 obtain ⟨a4, a8, H⟩ := H
 have a5 : a4.length = 16 := by rw [a8, List.length_set]; exact hx0
 refine WL.store_cells (i := 0) c1 rfl cells24 rfl (by rw [iv_length]; have := hx0; omega) rfl rfl ?_
 intro c2 a6
 have a6' : St w c2 (.cells b0 (iv .u32 a4) 166 :: T) := by rw [a8, ← iv_set .u32 x0 (a0.toNat) b7]; exact a6
 refine wn ?_
 refine CW.sub [(0, .int .i64 a0), (2, .int .i64 a2), (3, .int .i64 a3), (4, .pointer (sp b0))] ⟨rfl, rfl, rfl, rfl, trivial⟩ ?_
 refine CW.region_qt 11 wide (by kernel_rfl) a6' ?_
 refine HL.mv rfl (HL.mv rfl ?_)
 obtain ⟨⟨c3, c4⟩, H⟩ := H
 refine HL.v (fun wq sq => (Runs.indexAddr_blk arr166 rfl rfl c3 c4 (o := (a2).toNat) (by first | rfl | omega))) ?_
 refine HL.v (fun wq sq => (Runs.load nagg24 rfl (sq.cell_iv (i := 0) rfl (by have := a5; omega)))) ?_
 refine HL.mv rfl ?_
 obtain ⟨⟨c5, c6⟩, H⟩ := H
 refine HL.v (fun wq sq => (Runs.indexAddr_blk arr166 rfl rfl c5 c6 (o := (a0).toNat) (by first | rfl | omega))) ?_
 refine HL.v (fun wq sq => (Runs.load nagg24 rfl (sq.cell_iv (i := 0) rfl (by have := a5; omega)))) ?_
 refine HL.v (fun wq sq => (Runs.bxor rfl rfl rfl)) ?_
 refine HL.mv rfl ?_
 obtain ⟨a9, c7, H⟩ := H
 refine HL.call Wanted.none ent86 rfl (fun wq sq => (bits_RotateLeft32.calls wq (bits .xor .u32 (gn a4 (a2.toNat)) (gn a4 (a0.toNat))) a3 a9 c7).mono (by rintro _ _ ⟨rfl, sc⟩; exact ⟨rfl, sq.call sc⟩)) ?_
 obtain ⟨⟨c8, c9⟩, H⟩ := H
 refine HL.v (fun wq sq => (Runs.indexAddr_blk arr166 rfl rfl c8 c9 (o := (a2).toNat) (by first | rfl | omega))) ?_
 refine HL.nil (fun d4 d0 => ?_)
 obtain ⟨b1, b2, H⟩ := H
 have d1 : b1.length = 16 := by rw [b2, List.length_set]; exact a5
 refine WL.store_cells (i := 0) d0 rfl cells24 rfl (by rw [iv_length]; have := a5; omega) rfl rfl ?_
 intro d2 a7
 have a7' : St w d2 (.cells b0 (iv .u32 b1) 166 :: T) := by rw [b2, ← iv_set .u32 a4 (a2.toNat) a9]; exact a7
 refine WL.nil ?_
 obtain rfl := H
 exact QW.end0 rfl ⟨d1, rfl, (St.pickT (L := [_]) a7' [0] (by decide))⟩
/-! ### cipher_Block: function 78 -/
def cipher_Block.L2 (a2 : Int) (K_L1 : (List Int) → Int → Prop) : Nat → (List Int) → Int → Prop
 | 0, _, _ => False
 | kL2 + 1, a3, a1 => ((a1 < 8 ∧ ((0 ≤ a1 ∧ a1 < (8 : Int)) ∧ (∃ a0 : List Int, a0 = List.take 4 (List.drop ((a1).toNat * 4) tab1) ∧ (∃ (a4 : List Int), cipher_Block_1.rel (gn a0 0) (gn a0 1) (gn a0 3) 16 a3 a4 ∧ (∃ (a5 : List Int), cipher_Block_1.rel (gn a0 2) (gn a0 3) (gn a0 1) 12 a4 a5 ∧ (∃ (a6 : List Int), cipher_Block_1.rel (gn a0 0) (gn a0 1) (gn a0 3) 8 a5 a6 ∧ (∃ (a7 : List Int), cipher_Block_1.rel (gn a0 2) (gn a0 3) (gn a0 1) 7 a6 a7 ∧ cipher_Block.L2 a2 K_L1 kL2 a7 (IntKind.i64.wrap (a1 + 1))))))))) ∨ (¬ (a1 < 8) ∧ K_L1 a3 (IntKind.i64.wrap (a2 + 1))))
def cipher_Block.L3 (r0 : List Int) (a2 : List Int) (a3 : List Int) : Nat → (List Int) → Int → Prop
 | 0, _, _ => False
 | kL3 + 1, a1, a0 => ((a0 < 16 ∧ ((0 ≤ a0 ∧ a0 < (16 : Int)) ∧ ((0 ≤ (IntKind.i64.wrap (4 * a0)) ∧ (IntKind.i64.wrap (4 * a0)) ≤ (64 : Int) ∧ (64 : Int) ≤ (64 : Int)) ∧ ((0 ≤ a0 ∧ a0 < (16 : Int)) ∧ (∃ a4 : Int, a4 = IntKind.u32.wrap ((gn a3 (a0.toNat)) + (gn a2 (a0.toNat))) ∧ (∃ (a5 : List Int), word_Put.rel (IntKind.u64.wrap a4) 4 a5 ∧ (∃ a6 : List Int, a6 = cpy a1 (0 + (IntKind.i64.wrap (4 * a0)).toNat) ((prt a1 (IntKind.i64.wrap (4 * a0)) (64 : Int)).length) a5 ∧ cipher_Block.L3 r0 a2 a3 kL3 a6 (IntKind.i64.wrap (a0 + 1))))))))) ∨ (¬ (a0 < 16) ∧ r0 = a1))
def cipher_Block.L1 (r0 : List Int) (a1 : List Int) : Nat → (List Int) → Int → Prop
 | 0, _, _ => False
 | kL1 + 1, a2, a0 => ((a0 < 10 ∧ (∃ k_ : Nat, cipher_Block.L2 a0 (cipher_Block.L1 r0 a1 kL1) k_ a2 0)) ∨ (¬ (a0 < 10) ∧ (∃ k_ : Nat, cipher_Block.L3 r0 a1 a2 k_ (List.replicate 64 (0 : Int)) 0)))
def cipher_Block.rel (l0 : List Int) (a1 : Int) (l2 : List Int) (r0 : List Int) : Prop := (∃ (a0 : List Int), cipher_words.rel l0 a1 l2 a0 ∧ (∃ k_ : Nat, cipher_Block.L1 r0 a0 k_ a0 0))
set_option maxHeartbeats 4000000 in
theorem cipher_Block.calls (w : World) (l0 : List Int) (a1 : Int) (l2 : List Int)   (hG1 : Src w (sp 1) (iv .i64 tab1)) (hl0 : l0.length = 32) (hl2 : l2.length = 12) (r0 : List Int) (H : cipher_Block.rel l0 a1 l2 r0) :
  Calls Tryd.prog 78 #[.agg (iv .u8 l0).toArray, .int .u32 a1, .agg (iv .u8 l2).toArray] w fun e w' => r0.length = 64 ∧ e = .returned (.agg (iv .u8 r0).toArray) ∧ St w w' [] := by
 refine CW.enter Tryd.func78 rfl (n := 79) rfl [.agg (iv .u8 l0).toArray, .int .u32 a1, .agg (iv .u8 l2).toArray] (Nat.le_of_ble_eq_true rfl) ?_
 refine CW.sub [(0, .agg (iv .u8 l0).toArray), (1, .int .u32 a1), (2, .agg (iv .u8 l2).toArray)] ⟨rfl, rfl, rfl, trivial⟩ ?_
 have st0 : St w w [] := St.refl w
 refine cr ?_
 refine WL.box st0 rfl rfl ?_
 intro a6 l5 g6
 refine WL.box g6 rfl rfl ?_
 intro a7 l6 g7
 refine WL.alloc g7 arr158.zero ?_
 intro a0 g8 d3
 refine WL.nx ?_
 refine WL.v (Runs.load_arr arr23 rfl (d3.blk (i := 2) rfl) hl0) ?_
 refine WL.mv rfl ?_
 refine WL.v (Runs.load_arr arr140 rfl (d3.blk (i := 1) rfl) hl2) ?_
 obtain ⟨a4, g9, H⟩ := H
 refine WL.call Wanted.none ent84 rfl (cipher_words.calls g8 l0 a1 l2 hl0 hl2 a4 g9) ?_
 rintro _ h0 ⟨c1, rfl, h1⟩
 have h2 := d3.call h1
 refine ⟨_, rfl, ?_⟩
 refine WL.alloc h2 arr166.zero ?_
 intro a2 l7 h3
 refine WL.store_arr (i := 0) h3 rfl arr166 rfl (by rw [iv_length]; exact (List.length_replicate ..)) c1 rfl ?_
 intro h4 c5
 try dsimp only [List.set] at c5
 refine wn ?_
 refine CW.sub [(6, .pointer (sp a0)), (7, .pointer (sp a2))] ⟨rfl, rfl, trivial⟩ ?_
 refine cr ?_
 refine WL.v (Runs.load_arr arr166 rfl (c5.blk (i := 0) rfl) c1) ?_
 refine WL.alloc c5 arr166.zero ?_
 intro a3 l8 h5
 refine WL.store_arr (i := 0) h5 rfl arr166 rfl (by rw [iv_length]; exact (List.length_replicate ..)) c1 rfl ?_
 intro h6 d4
 try dsimp only [List.set] at d4
 refine WL.nx ?_
 refine WL.v (Runs.makeFunc rfl) ?_
 refine WL.as rfl (wn (CW.seq (cr (WL.mv rfl (wn (CW.block ?_))))))
 obtain ⟨h7, H⟩ := H
 refine CW.sub [(6, .pointer (sp a0)), (7, .pointer (sp a2)), (8, .pointer (sp a3)), (9, .func (.func 85) #[] #[.pointer (sp a3)]), (21, .int .i64 0)] ⟨rfl, rfl, rfl, rfl, rfl, trivial⟩ ?_
 refine CW.loop (fun kL1 l_ w_ => ∃ (b0 : List Int) (b2 : Int), l_ = [(6, .pointer (sp a0)), (7, .pointer (sp a2)), (8, .pointer (sp a3)), (9, .func (.func 85) #[] #[.pointer (sp a3)]), (21, .int .i64 b2)] ∧ cipher_Block.L1 r0 a4 kL1 b0 b2 ∧ (b0.length = 16) ∧ St w w_ [.cells a3 (iv .u32 b0) 166, .cells a2 (iv .u32 a4) 166, .cells a0 (iv .u8 (List.replicate 64 (0 : Int))) 158, .cells a7 (iv .u8 l2) 140, .cells a6 (iv .u8 l0) 23]) (k := h7) ⟨a4, 0, rfl, H, c1, d4⟩ (fun _ _ h => by obtain ⟨_, _, _, h, _⟩ := h; exact h.elim) ?_
 rintro kL1 l9 m0 ⟨b0, b2, rfl, H, d5, d6⟩
 refine cr ?_
 refine WL.v (Runs.lss rfl rfl rfl) ?_
 refine wn (CW.seq ?_)
 rcases H with ⟨d7, H⟩ | ⟨d7, H⟩
 ·have d8 : (decide (b2 < 10)) = true := (decide_eq_true d7)
  refine CW.ct rfl d8 ?_
  refine CW.skip (QW.then_n (CW.seq (CW.block (cr ?_))))
  refine WL.v (Runs.load_srcR row170 rfl (hG1.ext d6) (by rw [iv_length]; exact tab1_len)) ?_
  refine WL.mv rfl (wn (CW.block ?_))
  obtain ⟨h8, H⟩ := H
  refine CW.sub [(6, .pointer (sp a0)), (7, .pointer (sp a2)), (8, .pointer (sp a3)), (9, .func (.func 85) #[] #[.pointer (sp a3)]), (21, .int .i64 b2), (22, .bool (decide (b2 < 10))), (23, .agg (iv .i64 tab1).toArray), (24, .int .i64 0)] (by repeat' constructor) ?_
  refine CW.loop (fun kL2 l_ w_ => ∃ (b6 : List Int) (b8 : Int), l_ = [(6, .pointer (sp a0)), (7, .pointer (sp a2)), (8, .pointer (sp a3)), (9, .func (.func 85) #[] #[.pointer (sp a3)]), (21, .int .i64 b2), (22, .bool (decide (b2 < 10))), (23, .agg (iv .i64 tab1).toArray), (24, .int .i64 b8)] ∧ cipher_Block.L2 b2 (cipher_Block.L1 r0 a4 kL1) kL2 b6 b8 ∧ (b6.length = 16) ∧ St w w_ [.cells a3 (iv .u32 b6) 166, .cells a2 (iv .u32 a4) 166, .cells a0 (iv .u8 (List.replicate 64 (0 : Int))) 158, .cells a7 (iv .u8 l2) 140, .cells a6 (iv .u8 l0) 23]) (k := h8) ⟨b0, 0, rfl, H, d5, d6⟩ (fun _ _ h => by obtain ⟨_, _, _, h, _⟩ := h; exact h.elim) ?_
  rintro kL2 m1 m2 ⟨b6, b8, rfl, H, f4, f5⟩
  refine cr ?_
  refine WL.v (Runs.lss rfl rfl rfl) ?_
  refine wn (CW.seq ?_)
  rcases H with ⟨d9, H⟩ | ⟨d9, H⟩
  ·have e0 : (decide (b8 < 8)) = true := (decide_eq_true d9)
   refine CW.ct rfl e0 ?_
   refine CW.skip (QW.then_n (CW.seq (CW.block (cr ?_))))
   obtain ⟨⟨h9, i0⟩, H⟩ := H
   obtain ⟨a5, f6, H⟩ := H
   have b1 : a5.length = 4 := by rw [f6, List.length_take, List.length_drop, tab1_len]; omega
   refine WL.v (Runs.index_row Tryd.underlying170 row169 rfl rfl h9 i0 rfl (by rw [iv_part, ← f6])) ?_
   refine WL.alloc f5 arr169.zero ?_
   intro b4 m3 i1
   refine WL.store_arr (i := 0) i1 rfl arr169 rfl (by rw [iv_length]; exact (List.length_replicate ..)) b1 rfl ?_
   intro e1 b9
   try dsimp only [List.set] at b9
   refine WL.nx (WL.mv rfl ?_)
   refine WL.v (Runs.indexAddr_blk arr169 rfl rfl (by decide) (by decide) (o := 0) (by first | rfl | omega)) ?_
   refine WL.v (Runs.load nagg3 rfl (b9.cell_iv (i := 0) rfl (by have := b1; omega))) ?_
   refine WL.v (Runs.indexAddr_blk arr169 rfl rfl (by decide) (by decide) (o := 1) (by first | rfl | omega)) ?_
   refine WL.v (Runs.load nagg3 rfl (b9.cell_iv (i := 0) rfl (by have := b1; omega))) ?_
   refine WL.v (Runs.indexAddr_blk arr169 rfl rfl (by decide) (by decide) (o := 3) (by first | rfl | omega)) ?_
   refine WL.v (Runs.load nagg3 rfl (b9.cell_iv (i := 0) rfl (by have := b1; omega))) ?_
   have e2 := b9.pick [1, 0, 2, 3, 4, 5] (by decide)
   replace e2 : St w e1 [.cells a3 (iv .u32 b6) 166, .cells b4 (iv .i64 a5) 169, .cells a2 (iv .u32 a4) 166, .cells a0 (iv .u8 (List.replicate 64 (0 : Int))) 158, .cells a7 (iv .u8 l2) 140, .cells a6 (iv .u8 l0) 23] := e2
   obtain ⟨e3, i2, H⟩ := H
   refine WL.callv Wanted.none ent85 rfl rfl (cipher_Block_1.calls w e1 [.cells b4 (iv .i64 a5) 169, .cells a2 (iv .u32 a4) 166, .cells a0 (iv .u8 (List.replicate 64 (0 : Int))) 158, .cells a7 (iv .u8 l2) 140, .cells a6 (iv .u8 l0) 23] (gn a5 0) (gn a5 1) (gn a5 3) 16 b6 a3 e2 f4 e3 i2) ?_
   rintro _ f7 ⟨i3, rfl, i4⟩
   have c6 : St w f7 [.cells a3 (iv .u32 e3) 166, .cells b4 (iv .i64 a5) 169, .cells a2 (iv .u32 a4) 166, .cells a0 (iv .u8 (List.replicate 64 (0 : Int))) 158, .cells a7 (iv .u8 l2) 140, .cells a6 (iv .u8 l0) 23] := i4
   refine ⟨_, rfl, ?_⟩
   refine WL.nx (WL.mv rfl ?_)
   refine WL.v (Runs.indexAddr_blk arr169 rfl rfl (by decide) (by decide) (o := 2) (by first | rfl | omega)) ?_
   refine WL.v (Runs.load nagg3 rfl (c6.cell_iv (i := 1) rfl (by have := b1; omega))) ?_
   refine WL.v (Runs.indexAddr_blk arr169 rfl rfl (by decide) (by decide) (o := 3) (by first | rfl | omega)) ?_
   refine WL.v (Runs.load nagg3 rfl (c6.cell_iv (i := 1) rfl (by have := b1; omega))) ?_
   refine WL.v (Runs.indexAddr_blk arr169 rfl rfl (by decide) (by decide) (o := 1) (by first | rfl | omega)) ?_
   refine WL.v (Runs.load nagg3 rfl (c6.cell_iv (i := 1) rfl (by have := b1; omega))) ?_
   obtain ⟨e4, i5, H⟩ := H
   refine WL.callv Wanted.none ent85 rfl rfl (cipher_Block_1.calls w f7 [.cells b4 (iv .i64 a5) 169, .cells a2 (iv .u32 a4) 166, .cells a0 (iv .u8 (List.replicate 64 (0 : Int))) 158, .cells a7 (iv .u8 l2) 140, .cells a6 (iv .u8 l0) 23] (gn a5 2) (gn a5 3) (gn a5 1) 12 e3 a3 c6 i3 e4 i5) ?_
   rintro _ f8 ⟨i6, rfl, i7⟩
   have c7 : St w f8 [.cells a3 (iv .u32 e4) 166, .cells b4 (iv .i64 a5) 169, .cells a2 (iv .u32 a4) 166, .cells a0 (iv .u8 (List.replicate 64 (0 : Int))) 158, .cells a7 (iv .u8 l2) 140, .cells a6 (iv .u8 l0) 23] := i7
   refine ⟨_, rfl, ?_⟩
   refine WL.nx (WL.mv rfl ?_)
   refine WL.v (Runs.indexAddr_blk arr169 rfl rfl (by decide) (by decide) (o := 0) (by first | rfl | omega)) ?_
   refine WL.v (Runs.load nagg3 rfl (c7.cell_iv (i := 1) rfl (by have := b1; omega))) ?_
   refine WL.v (Runs.indexAddr_blk arr169 rfl rfl (by decide) (by decide) (o := 1) (by first | rfl | omega)) ?_
   refine WL.v (Runs.load nagg3 rfl (c7.cell_iv (i := 1) rfl (by have := b1; omega))) ?_
   refine WL.v (Runs.indexAddr_blk arr169 rfl rfl (by decide) (by decide) (o := 3) (by first | rfl | omega)) ?_
   refine WL.v (Runs.load nagg3 rfl (c7.cell_iv (i := 1) rfl (by have := b1; omega))) ?_
   obtain ⟨e5, i8, H⟩ := H
   refine WL.callv Wanted.none ent85 rfl rfl (cipher_Block_1.calls w f8 [.cells b4 (iv .i64 a5) 169, .cells a2 (iv .u32 a4) 166, .cells a0 (iv .u8 (List.replicate 64 (0 : Int))) 158, .cells a7 (iv .u8 l2) 140, .cells a6 (iv .u8 l0) 23] (gn a5 0) (gn a5 1) (gn a5 3) 8 e4 a3 c7 i6 e5 i8) ?_
   rintro _ f9 ⟨i9, rfl, j0⟩
   have c8 : St w f9 [.cells a3 (iv .u32 e5) 166, .cells b4 (iv .i64 a5) 169, .cells a2 (iv .u32 a4) 166, .cells a0 (iv .u8 (List.replicate 64 (0 : Int))) 158, .cells a7 (iv .u8 l2) 140, .cells a6 (iv .u8 l0) 23] := j0
   refine ⟨_, rfl, ?_⟩
   refine wn (CW.region (WL.mv rfl ?_))
   refine WL.v (Runs.indexAddr_blk arr169 rfl rfl (by decide) (by decide) (o := 2) (by first | rfl | omega)) ?_
   refine WL.v (Runs.load nagg3 rfl (c8.cell_iv (i := 1) rfl (by have := b1; omega))) ?_
   refine WL.v (Runs.indexAddr_blk arr169 rfl rfl (by decide) (by decide) (o := 3) (by first | rfl | omega)) ?_
   refine WL.v (Runs.load nagg3 rfl (c8.cell_iv (i := 1) rfl (by have := b1; omega))) ?_
   refine WL.v (Runs.indexAddr_blk arr169 rfl rfl (by decide) (by decide) (o := 1) (by first | rfl | omega)) ?_
   refine WL.v (Runs.load nagg3 rfl (c8.cell_iv (i := 1) rfl (by have := b1; omega))) ?_
   obtain ⟨e6, j1, H⟩ := H
   refine WL.callv Wanted.none ent85 rfl rfl (cipher_Block_1.calls w f9 [.cells b4 (iv .i64 a5) 169, .cells a2 (iv .u32 a4) 166, .cells a0 (iv .u8 (List.replicate 64 (0 : Int))) 158, .cells a7 (iv .u8 l2) 140, .cells a6 (iv .u8 l0) 23] (gn a5 2) (gn a5 3) (gn a5 1) 7 e5 a3 c8 i9 e6 j1) ?_
   rintro _ j2 ⟨j3, rfl, j4⟩
   have e7 : St w j2 [.cells a3 (iv .u32 e6) 166, .cells b4 (iv .i64 a5) 169, .cells a2 (iv .u32 a4) 166, .cells a0 (iv .u8 (List.replicate 64 (0 : Int))) 158, .cells a7 (iv .u8 l2) 140, .cells a6 (iv .u8 l0) 23] := j4
   refine ⟨_, rfl, ?_⟩
   refine WL.nil (QW.blk_n (QW.then_n (CW.region ?_)))
   refine WL.v (Runs.add rfl rfl rfl) ?_
   refine WL.mv rfl (WL.nil ?_)
   have e7' := e7.pick [0, 2, 3, 4, 5] (by decide)
   exact QW.at _ (by repeat' constructor) ⟨e6, IntKind.i64.wrap (b8 + 1), rfl, H, j3, e7'⟩
  have e0 : (decide (b8 < 8)) = false := (decide_eq_false d9)
  refine CW.cf rfl e0 ?_
  refine CW.exit (QW.then_x (QW.then_x (QW.blk_x (QW.blk_n (QW.then_n (CW.region ?_))))))
  refine WL.v (Runs.add rfl rfl rfl) ?_
  refine WL.mv rfl (WL.nil ?_)
  exact QW.at _ (by repeat' constructor) ⟨b6, IntKind.i64.wrap (b2 + 1), rfl, H, f4, f5⟩
 have d8 : (decide (b2 < 10)) = false := (decide_eq_false d7)
 refine CW.cf rfl d8 ?_
 refine CW.exit (QW.then_x (QW.then_x (QW.blk_x (QW.then_n (cr ?_)))))
 refine WL.alloc d6 arr158.zero ?_
 intro b7 m4 g0
 refine wn (CW.seq (cr ?_))
 refine WL.v (Runs.load_arr arr166 rfl (g0.blk (i := 1) rfl) d5) ?_
 refine WL.mv rfl (wn (CW.block ?_))
 obtain ⟨j5, H⟩ := H
 refine CW.sub [(6, .pointer (sp a0)), (7, .pointer (sp a2)), (12, .pointer (sp b7)), (61, .agg (iv .u32 b0).toArray), (62, .int .i64 0)] ⟨rfl, rfl, rfl, rfl, rfl, trivial⟩ ?_
 refine CW.loop (fun kL3 l_ w_ => ∃ (a9 : List Int) (a8 : Int), l_ = [(6, .pointer (sp a0)), (7, .pointer (sp a2)), (12, .pointer (sp b7)), (61, .agg (iv .u32 b0).toArray), (62, .int .i64 a8)] ∧ cipher_Block.L3 r0 a4 b0 kL3 a9 a8 ∧ (a9.length = 64) ∧ St w w_ [.cells b7 (iv .u8 a9) 158, .cells a3 (iv .u32 b0) 166, .cells a2 (iv .u32 a4) 166, .cells a0 (iv .u8 (List.replicate 64 (0 : Int))) 158, .cells a7 (iv .u8 l2) 140, .cells a6 (iv .u8 l0) 23]) (k := j5) ⟨List.replicate 64 (0 : Int), 0, rfl, H, (List.length_replicate ..), g0⟩ (fun _ _ h => by obtain ⟨_, _, _, h, _⟩ := h; exact h.elim) ?_
 rintro kL3 m5 m6 ⟨a9, a8, rfl, H, b5, e8⟩
 refine cr ?_
 refine WL.v (Runs.lss rfl rfl rfl) ?_
 refine wn (CW.seq ?_)
 rcases H with ⟨e9, H⟩ | ⟨e9, H⟩
 ·have f0 : (decide (a8 < 16)) = true := (decide_eq_true e9)
  refine CW.ct rfl f0 ?_
  refine CW.skip (QW.then_n (CW.seq (CW.block (cr (WL.mv rfl ?_)))))
  obtain ⟨⟨j6, j7⟩, H⟩ := H
  refine WL.v (Runs.index_arr arr166 rfl d5 rfl j6 j7 (j := (a8).toNat) (by first | rfl | omega)) ?_
  refine WL.as rfl (WL.as rfl (wn ?_))
  refine CW.region_awh (C := fun w_ => St w w_ [.cells b7 (iv .u8 a9) 158, .cells a3 (iv .u32 b0) 166, .cells a2 (iv .u32 a4) 166, .cells a0 (iv .u8 (List.replicate 64 (0 : Int))) 158, .cells a7 (iv .u8 l2) 140, .cells a6 (iv .u8 l0) 23]) 10 wide (by kernel_rfl) e8 (fun j8 b3 => ?_)
  refine AWH.tk 0 rfl b3 (fun wq sq => (Runs.move rfl)) ?_
  refine AWH.tk 1 rfl b3 (fun wq sq => (Runs.mul rfl rfl rfl)) ?_
  obtain ⟨⟨c2, c9, j9⟩, H⟩ := H
  have d0 : (64 : Int) ≤ (a9.length : Int) := by rw [b5]; exact j9
  obtain ⟨m7, g1⟩ : ∃ B_, B_ = subA (sp b7) (IntKind.i64.wrap (4 * a8)).toNat 64 := ⟨_, rfl⟩
  obtain ⟨c3, c0⟩ : ∃ n_ : Nat, n_ = (prt a9 (IntKind.i64.wrap (4 * a8)) (64 : Int)).length := ⟨_, rfl⟩
  obtain ⟨k0, f1⟩ : ∃ c_ : Nat, c_ = 64 - (IntKind.i64.wrap (4 * a8)).toNat := ⟨_, rfl⟩
  have k1 : c3 ≤ k0 := by rw [c0, prt_length c2 c9 d0]; rw [f1]; omega
  refine AWH.tk 2 rfl b3 (fun wq sq => (Runs.slice_arr_l arr158 rfl rfl c2 (by omega) g1 (N := c3) (by rw [c0, prt_length c2 c9 d0]; omega) f1)) ?_
  refine AWH.tk 3 rfl b3 (fun wq sq => (Runs.move rfl)) ?_
  refine AWH.tk 4 rfl b3 (fun wq sq => (Runs.move rfl)) ?_
  obtain ⟨⟨k2, k3⟩, H⟩ := H
  refine AWH.tk 5 rfl b3 (fun wq sq => (Runs.indexAddr_blk arr166 rfl rfl k2 k3 (o := (a8).toNat) (by first | rfl | omega))) ?_
  refine AWH.tk 6 rfl b3 (fun wq sq => (Runs.load nagg24 rfl (sq.cell_iv (i := 2) rfl (by have := c1; omega)))) ?_
  obtain ⟨k4, k5, H⟩ := H
  refine AWH.tk 7 rfl b3 (fun wq sq => (Runs.add rfl rfl k5)) ?_
  refine AWH.tk 8 rfl b3 (fun wq sq => (Runs.conv Tryd.underlying37 ⟨_, Tryd.underlying24⟩ rfl rfl)) ?_
  refine AWH.step 9 rfl (by decide) (by kernel_rfl) (fun inv_ hs_ hk_ hc_ hn_ => ?_)
  obtain ⟨d1, k6, H⟩ := H
  refine WL.call Wanted.none ent32 rfl (word_Put.calls j8 (IntKind.u64.wrap k4) 4 d1 k6) ?_
  rintro _ k7 ⟨g2, g3, g4, k8, rfl, k9⟩
  have f2 := b3.call k9
  refine ⟨_, rfl, ?_⟩
  refine WL.nil ?_
  refine AWH.back (St.subset b3 f2 (mc 1 rfl (mc 2 rfl (mc 3 rfl (mc 4 rfl (mc 5 rfl (mc 6 rfl (fun x_ h_ => by cases h_)))))))) inv_ hs_ hk_ hc_ hn_ ?_
  refine AWH.tail (by kernel_rfl) ?_
  refine AW.step 10 rfl (by kernel_rfl) ?_
  obtain ⟨f3, g5, H⟩ := H
  have hfit_ : 0 + (IntKind.i64.wrap (4 * a8)).toNat + c3 ≤ a9.length := by have := b5; have := (b5).symm; have := prt_length c2 c9 d0; have := c0; omega
  refine WL.copy_cells (i := 1) (o := 0 + (IntKind.i64.wrap (4 * a8)).toNat) f2 rfl Tryd.underlying25 cells5 rfl rfl (subA_map (N' := 1) (fun _ => map_add_zero) g1 (fun _ => by have := (b5).symm; have := prt_length c2 c9 d0; have := c0; have := k1; have := f1; omega)) (by rw [iv_length]; exact hfit_) (f2.src_sl (k := 0) rfl) (k8.trans (iv_length .u8 _).symm) (one_iv .u8 _) ?_
  intro l1 c4
  have l3 : f3.length = a9.length := by rw [g5]; exact cpy_length (by have := (show c3 = (prt a9 (IntKind.i64.wrap (4 * a8)) (64 : Int)).length from c0); omega)
  have c4' : St w l1 [.sl g2 g3 g4 (iv .u8 d1) 5 1, .cells b7 (iv .u8 f3) 158, .cells a3 (iv .u32 b0) 166, .cells a2 (iv .u32 a4) 166, .cells a0 (iv .u8 (List.replicate 64 (0 : Int))) 158, .cells a7 (iv .u8 l2) 140, .cells a6 (iv .u8 l0) 23] := by rw [g5, ← (show c3 = (prt a9 (IntKind.i64.wrap (4 * a8)) (64 : Int)).length from c0), ← cpy_iv .u8]; exact c4
  have m8 := iv_length .u8 d1
  refine WL.nil ?_
  refine AW.back  ?_
  refine AW.done (by kernel_rfl) ?_
  refine QW.blk_n (QW.then_n (CW.region ?_))
  refine WL.v (Runs.add rfl rfl rfl) ?_
  refine WL.mv rfl (WL.nil ?_)
  have c4'' := c4'.pick [1, 2, 3, 4, 5, 6] (by decide)
  exact QW.at _ (by repeat' constructor) ⟨f3, IntKind.i64.wrap (a8 + 1), rfl, H, (l3.trans b5), c4''⟩
 have f0 : (decide (a8 < 16)) = false := (decide_eq_false e9)
 refine CW.cf rfl f0 ?_
 refine CW.exit (QW.then_x (QW.then_x (QW.blk_x (QW.then_n (cr ?_)))))
 refine WL.v (Runs.load_arr arr158 rfl (e8.blk (i := 0) rfl) b5) ?_
 refine WL.store_arr (i := 3) e8 rfl arr158 rfl (by rw [iv_length]; exact (List.length_replicate ..)) b5 rfl ?_
 intro l4 d2
 try dsimp only [List.set] at d2
 refine wn (CW.ret ?_)
 obtain rfl := H
 exact QW.retc rfl arr158 rfl (d2.blk (i := 3) rfl) b5 ⟨b5, rfl, d2.pick [] (by decide)⟩
/-! ### cipher_Crypt: function 62 -/
def cipher_Crypt.L1 (a3 : List Int) (a4 : Int) (a1 : Nat) (a5 : (List Int) → Int → Prop) (a6 : Nat → ((List Int) × Int) → (List Int) × Int) (a7 : List Int) : Nat → (List Int) → Int → Prop
 | 0, _, _ => False
 | kL1 + 1, a2, a0 => ((a0 < ((chl a3 64 a1).length : Int) ∧ ((0 ≤ a0 ∧ a0 < ((chl a2 64 a1).length : Int)) ∧ ((0 ≤ a0 ∧ a0 < (64 : Int)) ∧ (∃ a8 : Int, a8 = bits .xor .u8 (gn (chl a2 64 a1) (a0.toNat)) (gn a7 (a0.toNat)) ∧ ((0 ≤ a0 ∧ a0 < ((chl a2 64 a1).length : Int)) ∧ (∃ a9 : List Int, a9 = List.set a2 (64 * a1 + (a0.toNat)) a8 ∧ cipher_Crypt.L1 a3 a4 a1 a5 a6 a7 kL1 a9 (IntKind.i64.wrap (a0 + 1)))))))) ∨ (¬ (a0 < ((chl a3 64 a1).length : Int)) ∧ (a5 a2 (IntKind.u32.wrap (a4 + 1)) ∧ (a2, IntKind.u32.wrap (a4 + 1)) = a6 a1 (a3, a4))))
def cipher_Crypt.rel (l0 : List Int) (a1 : Int) (l2 : List Int) (l3 : List Int) (r0 : List Int) (r1 : Int) : Prop := (∃ a7 : Int, a7 = IntKind.u64.wrap ((IntKind.u64.wrap ((IntKind.u64.wrap (l3.length : Int)) + 64)) - 1) ∧ (∃ a4 : Int, a4 = IntKind.u64.wrap ((IntKind.u64.wrap a1) + (IntKind.u64.wrap (Int.tdiv a7 64))) ∧ ((a4 > 4294967296 ∧ r0 = [] ∧ r1 = 1) ∨ (¬ (a4 > 4294967296) ∧ (∃ (a0 : List Int), slices_Clone_s_byte_byte.rel l3 a0 ∧ (∃ (a2 : Nat), (a0.length ≤ 64 * a2 ∧ (∀ j : Nat, j < a2 → 64 * j < a0.length) ∧ a0.length ≤ 1099511627776) ∧ ∃ (a5 : (List Int) → Int → Prop) (a8 : Nat → ((List Int) × Int) → ((List Int) × Int)), a5 a0 a1 ∧ (∀ (a9 : Nat) (a3 : List Int) (a6 : Int), a9 < a2 → a5 a3 a6 → a3.length = a0.length → (∃ (b0 : List Int), cipher_Block.rel l0 a6 l2 b0 ∧ (∃ k_ : Nat, cipher_Crypt.L1 a3 a6 a9 a5 a8 b0 k_ a3 0))) ∧ ∃ (b1 : List Int) (b2 : Int), (b1, b2) = (List.range a2).foldl (fun s_ x_ => a8 x_ s_) (a0, a1) ∧ r0 = b1 ∧ r1 = 0))))))
set_option maxHeartbeats 4000000 in
theorem cipher_Crypt.calls (w : World) (l0 : List Int) (a1 : Int) (l2 : List Int) (l3 : List Int) (A3 : Option Addr) (n3 : Nat) (c3 : Nat)  (hG1 : Src w (sp 1) (iv .i64 tab1)) (hl0 : l0.length = 32) (hl2 : l2.length = 12) (hs3 : Src w A3 (iv .u8 l3)) (hn3 : n3 = l3.length) (hc3 : n3 ≤ c3) (r0 : List Int) (r1 : Int) (H : cipher_Crypt.rel l0 a1 l2 l3 r0 r1) :
  Calls Tryd.prog 62 #[.agg (iv .u8 l0).toArray, .int .u32 a1, .agg (iv .u8 l2).toArray, .slice A3 n3 c3] w fun e w' => ∃ B0 q0 z0, z0 = r0.length ∧ e = .returned (.tuple #[.slice B0 z0 q0, .int .i64 r1]) ∧ St w w' [.sl B0 q0 z0 (iv .u8 r0) 5 1] := by
 refine CW.enterM Tryd.func62 rfl (n := 53) rfl [.agg (iv .u8 l0).toArray, .int .u32 a1, .agg (iv .u8 l2).toArray, .slice A3 n3 c3] (Nat.le_of_ble_eq_true rfl) ?_
 refine CW.sub [(0, .agg (iv .u8 l0).toArray), (1, .int .u32 a1), (2, .agg (iv .u8 l2).toArray), (3, .slice A3 n3 c3)] ⟨rfl, rfl, rfl, rfl, trivial⟩ ?_
 have st0 : St w w [] := St.refl w
 refine cr ?_
 refine WL.box st0 rfl rfl ?_
 intro a5 j5 e9
 refine WL.box e9 rfl rfl ?_
 intro a6 j6 f0
 refine WL.box f0 rfl rfl ?_
 intro a7 d8 c4
 refine WL.as rfl (WL.as rfl (WL.nx (WL.mv rfl ?_)))
 refine WL.v (Runs.len_sl Tryd.underlying25 rfl (by rw [hn3])) ?_
 refine WL.v (Runs.conv Tryd.underlying37 ⟨_, Tryd.underlying3⟩ rfl rfl) ?_
 refine WL.v (Runs.add rfl rfl rfl) ?_
 obtain ⟨f1, f2, H⟩ := H
 refine WL.v (Runs.sub rfl rfl f2) ?_
 refine WL.v (Runs.quo rfl rfl (by decide) rfl) ?_
 refine WL.as rfl (wn ?_)
 refine CW.sub [(3, .slice A3 n3 c3), (4, .pointer (sp a5)), (5, .pointer (sp a6)), (6, .pointer (sp a7)), (8, .slice none 0 0), (9, .int .i64 0), (10, .int .u64 (IntKind.u64.wrap (Int.tdiv f1 64)))] (by repeat' constructor) ?_
 refine CW.seq (cr ?_)
 refine WL.v (Runs.load nagg24 rfl (c4.cell (k := 1) rfl rfl)) ?_
 refine WL.v (Runs.conv Tryd.underlying37 ⟨_, Tryd.underlying24⟩ rfl rfl) ?_
 refine WL.mv rfl ?_
 obtain ⟨d9, f3, H⟩ := H
 refine WL.v (Runs.add rfl rfl f3) ?_
 refine WL.v (Runs.gtr rfl rfl rfl) ?_
 refine wn ?_
 rcases H with ⟨c6, H⟩ | ⟨c6, H⟩
 ·have c7 : (decide (d9 > 4294967296)) = true := (decide_eq_true c6)
  refine CW.ct rfl c7 ?_
  refine cr (WL.as rfl (WL.as rfl (wn (CW.ret (QW.then_r ?_)))))
  have c8 := c4.nil_sl 5 1
  have c8 : St w d8 [.sl none 0 0 (iv .u8 ([] : List Int)) 5 1, .cells a7 (iv .u8 l2) 140, .cells a6 [.int .u32 a1] 24, .cells a5 (iv .u8 l0) 23] := c8
  obtain ⟨rfl, rfl⟩ := H
  exact QW.ret2m rfl rfl rfl ⟨none, 0, 0, rfl, rfl, c8.pick [0] (by decide)⟩
 have c7 : (decide (d9 > 4294967296)) = false := (decide_eq_false c6)
 refine CW.cf rfl c7 ?_
 refine CW.skip (QW.then_n ?_)
 refine CW.sub [(3, .slice A3 n3 c3), (4, .pointer (sp a5)), (5, .pointer (sp a6)), (6, .pointer (sp a7)), (8, .slice none 0 0), (9, .int .i64 0)] (by repeat' constructor) ?_
 refine cr (WL.mv rfl ?_)
 obtain ⟨c0, f4, H⟩ := H
 refine WL.call Wanted.none ent48 rfl (slices_Clone_s_byte_byte.calls d8 l3 A3 n3 c3 (hs3.ext c4) (hn3) (hc3) c0 f4) ?_
 rintro _ e0 ⟨a3, a4, a0, b6, rfl, f5⟩
 have f6 := c4.call f5
 refine ⟨_, rfl, ?_⟩
 refine WL.as rfl (wn (CW.seq (cr (WL.mv rfl ?_))))
 refine WL.call Wanted.none ent72 rfl (slices_Chunk.calls e0 a3 a0 a4 64 (by decide)) ?_
 rintro _ f7 ⟨a9, b0, rfl, f8⟩
 have c5 := f6.call f8
 refine ⟨_, rfl, ?_⟩
 refine wn (CW.block ?_)
 obtain ⟨f9, ⟨g0, e1, g1⟩, e2, e3, g2, g3, g4, g5, g6, H⟩ := H
 refine CW.sub [(4, .pointer (sp a5)), (5, .pointer (sp a6)), (6, .pointer (sp a7)), (8, .slice none 0 0), (9, .int .i64 0), (11, .slice a3 a0 a4), (29, .func (.func 81) #[] #[.pointer (sp a9), .pointer (sp b0)])] (by repeat' constructor) ?_
 have hc1 := c5.cell (k := 1) (i := 0) rfl rfl
 have hc2 := c5.cell (k := 0) (i := 0) rfl rfl
 refine CW.range2 (α := Fin f9) (σ := (List Int) × Int) c5 rfl ent81 (chunk_seq (c := 64) hc1 hc2 (c5.cap (i := 2) rfl) (by decide) (by decide) (by rw [b6]; exact g1) (by rw [b6]; exact g0) (fun j hj => by rw [b6]; exact e1 j hj)) (fun h k => h.trans k) (fun W j o o2 h1 h2 h3 => KpB.put (block_lt_of_cell hc1) (block_lt_of_cell hc2) W j o o2 h1 h2 h3) (fun pre_ (s_ : (List Int) × Int) => s_ = pre_.foldl (fun s_ x_ => e3 x_.val s_) (c0, a1) ∧ e2 (s_.1) (s_.2) ∧ a0 = (s_.1).length) (fun (s_ : (List Int) × Int) => [.cells b0 [.int .i64 ((64 : Nat) : Int)] 3, .cells a9 [.slice a3 a0 a4] 25, .sl a3 a4 a0 (iv .u8 (s_.1)) 5 1, .cells a7 (iv .u8 l2) 140, .cells a6 [.int .u32 (s_.2)] 24, .cells a5 (iv .u8 l0) 23]) (fun _ => rfl) (fun s_ t_ _ h_ => blk_of_map (L1 := (fun (s_ : (List Int) × Int) => [.cells b0 [.int .i64 ((64 : Nat) : Int)] 3, .cells a9 [.slice a3 a0 a4] 25, .sl a3 a4 a0 (iv .u8 (s_.1)) 5 1, .cells a7 (iv .u8 l2) 140, .cells a6 [.int .u32 (s_.2)] 24, .cells a5 (iv .u8 l0) 23]) s_) (L2 := (fun (s_ : (List Int) × Int) => [.cells b0 [.int .i64 ((64 : Nat) : Int)] 3, .cells a9 [.slice a3 a0 a4] 25, .sl a3 a4 a0 (iv .u8 (s_.1)) 5 1, .cells a7 (iv .u8 l2) 140, .cells a6 [.int .u32 (s_.2)] 24, .cells a5 (iv .u8 l0) 23]) t_) rfl h_) (fun _ _ _ _ sa sb => ⟨(sb.cell (k := 1) rfl rfl).trans (sa.cell (k := 1) rfl rfl).symm, (sb.cell (k := 0) rfl rfl).trans (sa.cell (k := 0) rfl rfl).symm⟩) (c0, a1) ⟨rfl, g2, b6⟩ rfl ?_ rfl ?_
 ·rintro j_ pre_ a2 ⟨b1, b2⟩ e4 b7 ⟨g7, g8, c9⟩ b5
  replace b5 : St w e4 (.cells b0 [.int .i64 ((64 : Nat) : Int)] 3 :: .cells a9 [.slice a3 a0 a4] 25 :: .sl a3 a4 a0 (iv .u8 b1) 5 1 :: .cells a7 (iv .u8 l2) 140 :: .cells a6 [.int .u32 b2] 24 :: .cells a5 (iv .u8 l0) 23 :: b7) := b5
  have g9 : 64 * a2.val < a0 := by have := e1 a2.val a2.isLt; have := b6; omega
  have H := g3 a2.val b1 b2 a2.isLt g8 (c9.symm.trans b6)
  refine CF.block ?_
  refine CF.seq ?_
  refine CF.region (.inr ⟨j_, rfl⟩) (fun ⟨a, w, h⟩ => h) rfl ?_
  refine WL.v (Runs.load_arr arr23 rfl (b5.blk (i := 5) rfl) hl0) ?_
  refine WL.v (Runs.load nagg24 rfl (b5.cell (k := 4) rfl rfl)) ?_
  refine WL.v (Runs.load_arr arr140 rfl (b5.blk (i := 3) rfl) hl2) ?_
  obtain ⟨b4, h0, H⟩ := H
  refine WL.call Wanted.none ent78 rfl (cipher_Block.calls e4 l0 b2 l2 (hG1.ext b5) hl0 hl2 b4 h0) ?_
  rintro _ h4 ⟨e5, rfl, h5⟩
  have h6 := b5.call h5
  refine ⟨_, rfl, ?_⟩
  refine WL.alloc h6 arr158.zero ?_
  intro b8 j7 h7
  refine WL.store_arr (i := 0) h7 rfl arr158 rfl (by rw [iv_length]; exact (List.length_replicate ..)) e5 rfl ?_
  intro h8 d0
  try dsimp only [List.set] at d0
  refine WL.nil ?_
  refine QW.fthen_n ?_
  refine CF.seq ?_
  refine CF.seq ?_
  refine CF.region (.inr ⟨j_, rfl⟩) (fun ⟨a, w, h⟩ => h) rfl ?_
  refine WL.mv rfl ?_
  refine WL.v (Runs.len_sl Tryd.underlying25 rfl (by rw [show (min 64 (a0 - 64 * a2.val)) = (chl b1 64 a2.val).length from (show (min 64 (a0 - 64 * a2.val)) = (chl b1 64 a2.val).length from (by rw [c9]; exact chl_length _ _ _))])) ?_
  refine WL.mv rfl (WL.nil ?_)
  refine QW.fthen_n ?_
  refine CF.block ?_
  obtain ⟨h9, H⟩ := H
  refine CF.sub [(4, .pointer (sp a5)), (5, .pointer (sp a6)), (6, .pointer (sp a7)), (8, .slice none 0 0), (9, .int .i64 0), (11, .slice a3 a0 a4), (12, .slice (a3.map (·.add (64 * a2.val))) (min 64 (a0 - 64 * a2.val)) (min 64 (a0 - 64 * a2.val))), (31, .agg (iv .u8 l0).toArray), (32, .int .u32 b2), (33, .agg (iv .u8 l2).toArray), (34, .agg (iv .u8 b4).toArray), (13, .pointer (sp b8)), (35, .slice (a3.map (·.add (64 * a2.val))) (min 64 (a0 - 64 * a2.val)) (min 64 (a0 - 64 * a2.val))), (36, .int .i64 ((chl b1 64 a2.val).length : Int)), (37, .int .i64 0)] (by repeat' constructor) ?_
  refine CF.loop (fun kL1 l_ w_ => ∃ (b3 : List Int) (a8 : Int), l_ = [(4, .pointer (sp a5)), (5, .pointer (sp a6)), (6, .pointer (sp a7)), (8, .slice none 0 0), (9, .int .i64 0), (11, .slice a3 a0 a4), (12, .slice (a3.map (·.add (64 * a2.val))) (min 64 (a0 - 64 * a2.val)) (min 64 (a0 - 64 * a2.val))), (31, .agg (iv .u8 l0).toArray), (32, .int .u32 b2), (33, .agg (iv .u8 l2).toArray), (34, .agg (iv .u8 b4).toArray), (13, .pointer (sp b8)), (35, .slice (a3.map (·.add (64 * a2.val))) (min 64 (a0 - 64 * a2.val)) (min 64 (a0 - 64 * a2.val))), (36, .int .i64 ((chl b1 64 a2.val).length : Int)), (37, .int .i64 a8)] ∧ cipher_Crypt.L1 b1 b2 a2 e2 e3 b4 kL1 b3 a8 ∧ (a0 = b3.length) ∧ St w w_ (.cells b8 (iv .u8 b4) 158 :: .cells b0 [.int .i64 ((64 : Nat) : Int)] 3 :: .cells a9 [.slice a3 a0 a4] 25 :: .sl a3 a4 a0 (iv .u8 b3) 5 1 :: .cells a7 (iv .u8 l2) 140 :: .cells a6 [.int .u32 b2] 24 :: .cells a5 (iv .u8 l0) 23 :: b7)) (k := h9) ⟨b1, 0, rfl, H, c9, d0⟩ (fun _ _ h => by obtain ⟨_, _, _, h, _⟩ := h; exact h.elim) ?_
  rintro kL1 j8 j9 ⟨b3, a8, rfl, H, b9, c1⟩
  refine CF.seq ?_
  refine CF.region (.inr ⟨j_, rfl⟩) (fun ⟨a, w, h⟩ => h) rfl ?_
  refine WL.v (Runs.lss rfl rfl rfl) ?_
  refine WL.nil ?_
  refine QW.fthen_n ?_
  refine CF.seq ?_
  rcases H with ⟨d1, H⟩ | ⟨d1, H⟩
  ·have d2 : (decide (a8 < ((chl b1 64 a2.val).length : Int))) = true := (decide_eq_true d1)
   refine CF.ct rfl d2 ?_
   refine CF.skip ?_
   refine QW.fthen_n ?_
   refine CF.seq ?_
   refine CF.block ?_
   refine CF.seq ?_
   refine CF.region (.inr ⟨j_, rfl⟩) (fun ⟨a, w, h⟩ => h) rfl ?_
   refine WL.mv rfl (WL.as rfl (WL.nil ?_))
   refine QW.fthen_n ?_
   refine CF.region_qt 9 (.inr ⟨j_, rfl⟩) (fun ⟨a, w, h⟩ => h) rfl wide (by kernel_rfl) c1 ?_
   refine HL.mv rfl (HL.mv rfl ?_)
   obtain ⟨⟨i0, i1⟩, H⟩ := H
   obtain ⟨k0, e6⟩ := ((c1.src_sl (k := 3) rfl).chunk 64 a2.val).addr_iv (a8.toNat) (by omega)
   refine HL.v (fun wq sq => (Runs.indexAddr Tryd.underlying25 cells5 (by decide) rfl e6 rfl i0 (by rw [(show (min 64 (a0 - 64 * a2.val)) = (chl b3 64 a2.val).length from (by rw [b9]; exact chl_length _ _ _))]; exact i1) (o := (a8).toNat) (by first | rfl | omega))) ?_
   refine HL.v (fun wq sq => (Runs.load nagg5 rfl (((sq.src_sl (k := 3) rfl).chunk 64 a2.val).cell_iv e6 (by omega)))) ?_
   refine HL.mv rfl ?_
   obtain ⟨⟨i2, i3⟩, H⟩ := H
   refine HL.v (fun wq sq => (Runs.indexAddr_blk arr158 rfl rfl i2 i3 (o := (a8).toNat) (by first | rfl | omega))) ?_
   refine HL.v (fun wq sq => (Runs.load nagg5 rfl (sq.cell_iv (i := 0) rfl (by have := e5; omega)))) ?_
   obtain ⟨i4, i5, H⟩ := H
   refine HL.v (fun wq sq => (Runs.bxor rfl rfl i5)) ?_
   obtain ⟨⟨i6, i7⟩, H⟩ := H
   obtain ⟨k1, e7⟩ := ((c1.src_sl (k := 3) rfl).chunk 64 a2.val).addr_iv (a8.toNat) (by omega)
   refine HL.v (fun wq sq => (Runs.indexAddr Tryd.underlying25 cells5 (by decide) rfl e7 rfl i6 (by rw [(show (min 64 (a0 - 64 * a2.val)) = (chl b3 64 a2.val).length from (by rw [b9]; exact chl_length _ _ _))]; exact i7) (o := (a8).toNat) (by first | rfl | omega))) ?_
   refine HL.nil (fun k2 i8 => ?_)
   obtain ⟨d3, e8, H⟩ := H
   have hj_ : (a8).toNat < (min 64 (a0 - 64 * a2.val)) := by have := (show (min 64 (a0 - 64 * a2.val)) = (chl b3 64 a2.val).length from (by rw [b9]; exact chl_length _ _ _)); omega
   refine WL.store_sub (i := 3) (o := 64 * a2.val) (N := (min 64 (a0 - 64 * a2.val))) i8 rfl cells5 rfl e7 (fun _ => rfl) hj_ (by rw [iv_length]; have := b9; have := g9; omega) rfl rfl ?_
   intro i9 d4
   have j0 : a0 = d3.length := by rw [e8, List.length_set]; exact b9
   have d4' : St w i9 (.cells b8 (iv .u8 b4) 158 :: .cells b0 [.int .i64 ((64 : Nat) : Int)] 3 :: .cells a9 [.slice a3 a0 a4] 25 :: .sl a3 a4 a0 (iv .u8 d3) 5 1 :: .cells a7 (iv .u8 l2) 140 :: .cells a6 [.int .u32 b2] 24 :: .cells a5 (iv .u8 l0) 23 :: b7) := by rw [e8, ← iv_set .u8 b3 (64 * a2.val + (a8.toNat)) i4]; exact d4
   refine WL.nil (QW.blk_n ?_)
   refine QW.fthen_n ?_
   refine CF.region (.inr ⟨j_, rfl⟩) (fun ⟨a, w, h⟩ => h) rfl ?_
   refine WL.v (Runs.add rfl rfl rfl) ?_
   refine WL.mv rfl (WL.nil ?_)
   exact QW.at _ (by repeat' constructor) ⟨d3, IntKind.i64.wrap (a8 + 1), rfl, H, j0, d4'⟩
  have d2 : (decide (a8 < ((chl b1 64 a2.val).length : Int))) = false := (decide_eq_false d1)
  refine CF.cf rfl d2 ?_
  refine CF.exit ?_
  refine QW.then_x (QW.then_x (QW.blk_x ?_))
  refine QW.fthen_n ?_
  refine CF.region (.inr ⟨j_, rfl⟩) (fun ⟨a, w, h⟩ => h) rfl ?_
  refine WL.v (Runs.load nagg24 rfl (c1.cell (k := 5) rfl rfl)) ?_
  refine WL.v (Runs.add rfl rfl rfl) ?_
  refine WL.store_cells (i := 5) (j := 0) c1 rfl cells24 rfl (Nat.zero_lt_succ _) rfl rfl ?_
  intro j1 c2
  try dsimp only [List.set] at c2
  refine WL.nil (QW.blk_n ?_)
  obtain ⟨hI1, hg1⟩ := H
  have c2' := (St.pickT (L := [_, _, _, _, _, _, _]) c2 [1, 2, 3, 4, 5, 6] (by decide))
  exact fun b hb hd => ⟨(b3, IntKind.u32.wrap (b2 + 1)), ⟨by rw [List.foldl_append, ← g7]; exact hg1, hI1, b9⟩, c2'⟩
 rintro j2 ⟨k3, k4⟩ j3 ⟨rfl_, _, j4⟩ d5
 rw [foldl_fin, ← g6] at rfl_
 simp only [Prod.mk.injEq] at rfl_
 obtain ⟨d6, d7⟩ := rfl_
 replace d6 := d6.symm
 subst d6
 replace d7 := d7.symm
 subst d7
 have d5 : St w j3 [.obj j2 (.deferred (some [])), .cells b0 [.int .i64 ((64 : Nat) : Int)] 3, .cells a9 [.slice a3 a0 a4] 25, .sl a3 a4 a0 (iv .u8 g4) 5 1, .cells a7 (iv .u8 l2) 140, .cells a6 [.int .u32 g5] 24, .cells a5 (iv .u8 l0) 23] := d5
 refine QW.blk_n (QW.then_n (cr (WL.mv rfl (WL.as rfl (WL.as rfl (wn (CW.ret ?_)))))))
 obtain ⟨rfl, rfl⟩ := H
 refine QW.retM2 d5 (i := 0) rfl rfl rfl rfl (fun wz stz => ?_)
 exact ⟨a3, a4, a0, j4, rfl, stz.pick [3] (by decide)⟩
end Go.Proofs.YtmhcjafkdmcgoaaDoor
