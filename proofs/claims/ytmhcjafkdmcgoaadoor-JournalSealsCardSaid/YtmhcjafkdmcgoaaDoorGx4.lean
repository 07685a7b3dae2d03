/- Walks: each function computes what its relation says, and a call of it ends so. Printed by a program of this session (wip/gen). -/
import Derived.Test.YtmhcjafkdmcgoaaDoorGx3
namespace Go.Proofs.YtmhcjafkdmcgoaaDoor
open Go Go.Kr Go.RowKit
set_option linter.unusedVariables false
set_option linter.unusedSimpArgs false
set_option maxRecDepth 100000
/-! ### reliquaryref04_Nonce: function 66 -/
def reliquaryref04_Nonce.L2 (r0 : List Int) (a1 : List Int) : Nat → (List Int) → Int → Prop
 | 0, _, _ => False
 | kL2 + 1, a2, a0 => ((a0 < 8 ∧ ((0 ≤ a0 ∧ a0 < (a1.length : Int)) ∧ ((0 ≤ (IntKind.i64.wrap (4 + a0)) ∧ (IntKind.i64.wrap (4 + a0)) < (12 : Int)) ∧ (∃ a3 : List Int, a3 = List.set a2 ((IntKind.i64.wrap (4 + a0)).toNat) (gn a1 (a0.toNat)) ∧ reliquaryref04_Nonce.L2 r0 a1 kL2 a3 (IntKind.i64.wrap (a0 + 1)))))) ∨ (¬ (a0 < 8) ∧ r0 = a2))
def reliquaryref04_Nonce.L1 (r0 : List Int) (a1 : List Int) (a2 : List Int) : Nat → (List Int) → Int → Prop
 | 0, _, _ => False
 | kL1 + 1, a3, a0 => ((a0 < 4 ∧ ((0 ≤ a0 ∧ a0 < (a1.length : Int)) ∧ ((0 ≤ a0 ∧ a0 < (12 : Int)) ∧ (∃ a4 : List Int, a4 = List.set a3 (a0.toNat) (gn a1 (a0.toNat)) ∧ reliquaryref04_Nonce.L1 r0 a1 a2 kL1 a4 (IntKind.i64.wrap (a0 + 1)))))) ∨ (¬ (a0 < 4) ∧ (∃ k_ : Nat, reliquaryref04_Nonce.L2 r0 a2 k_ a3 0)))
def reliquaryref04_Nonce.rel (a0 : Int) (a1 : Int) (r0 : List Int) : Prop := (∃ (a2 : List Int), reliquaryref01_Put.rel (IntKind.u64.wrap a0) 4 a2 ∧ (∃ (a3 : List Int), reliquaryref01_Put.rel a1 8 a3 ∧ (∃ k_ : Nat, reliquaryref04_Nonce.L1 r0 a2 a3 k_ (List.replicate 12 (0 : Int)) 0)))
set_option maxHeartbeats 4000000 in
theorem reliquaryref04_Nonce.calls (w : World) (a0 : Int) (a1 : Int)    (r0 : List Int) (H : reliquaryref04_Nonce.rel a0 a1 r0) :
  Calls Tryd.prog 66 #[.int .u32 a0, .int .u64 a1] w fun e w' => r0.length = 12 ∧ e = .returned (.agg (iv .u8 r0).toArray) ∧ St w w' [] := by
 refine CW.enter Tryd.func66 rfl (n := 37) rfl [.int .u32 a0, .int .u64 a1] (Nat.le_of_ble_eq_true rfl) ?_
 refine CW.sub [(0, .int .u32 a0), (1, .int .u64 a1)] ⟨rfl, rfl, trivial⟩ ?_
 have st0 : St w w [] := St.refl w
 refine cr ?_
 refine WL.alloc st0 arr140.zero ?_
 intro a2 g1 d4
 refine WL.nx ?_
 refine WL.alloc d4 arr140.zero ?_
 intro a3 d5 d6
 refine WL.nx (WL.mv rfl ?_)
 refine WL.v (Runs.conv Tryd.underlying37 ⟨_, Tryd.underlying24⟩ rfl rfl) ?_
 obtain ⟨a9, d7, H⟩ := H
 refine WL.call Wanted.none ent33 rfl (reliquaryref01_Put.calls d5 (IntKind.u64.wrap a0) 4 a9 d7) ?_
 rintro _ c9 ⟨b0, b1, b2, d8, rfl, d9⟩
 have e0 := d6.call d9
 refine ⟨_, rfl, ?_⟩
 refine WL.as rfl (WL.nx (WL.mv rfl ?_))
 obtain ⟨b3, e1, H⟩ := H
 refine WL.call Wanted.none ent33 rfl (reliquaryref01_Put.calls c9 a1 8 b3 e1) ?_
 rintro _ e2 ⟨a4, a5, a6, e3, rfl, e4⟩
 have e5 := e0.call e4
 refine ⟨_, rfl, ?_⟩
 refine WL.as rfl (wn ?_)
 refine CW.sub [(4, .pointer (sp a2)), (5, .pointer (sp a3)), (6, .slice b0 b2 b1), (7, .slice a4 a6 a5)] ⟨rfl, rfl, rfl, rfl, trivial⟩ ?_
 refine CW.seq (cr (WL.as rfl (wn (CW.block ?_))))
 obtain ⟨e6, H⟩ := H
 refine CW.sub [(4, .pointer (sp a2)), (5, .pointer (sp a3)), (6, .slice b0 b2 b1), (7, .slice a4 a6 a5), (8, .int .i64 0)] ⟨rfl, rfl, rfl, rfl, rfl, trivial⟩ ?_
 refine CW.loop (fun kL1 l_ w_ => ∃ (b5 : List Int) (a7 : Int), l_ = [(4, .pointer (sp a2)), (5, .pointer (sp a3)), (6, .slice b0 b2 b1), (7, .slice a4 a6 a5), (8, .int .i64 a7)] ∧ reliquaryref04_Nonce.L1 r0 a9 b3 kL1 b5 a7 ∧ (b5.length = 12) ∧ St w w_ [.sl a4 a5 a6 (iv .u8 b3) 5 1, .sl b0 b1 b2 (iv .u8 a9) 5 1, .cells a3 (iv .u8 b5) 140, .cells a2 (iv .u8 (List.replicate 12 (0 : Int))) 140]) (k := e6) ⟨List.replicate 12 (0 : Int), 0, rfl, H, (List.length_replicate ..), e5⟩ (fun _ _ h => by obtain ⟨_, _, _, h, _⟩ := h; exact h.elim) ?_
 rintro kL1 g2 g3 ⟨b5, a7, rfl, H, c0, b8⟩
 refine CW.seq (cr (WL.mv rfl ?_))
 refine WL.v (Runs.lss rfl rfl rfl) ?_
 refine wn ?_
 rcases H with ⟨c1, H⟩ | ⟨c1, H⟩
 ·have c2 : (decide (a7 < 4)) = true := (decide_eq_true c1)
  refine CW.ct rfl c2 ?_
  refine CW.skip (QW.then_n (CW.seq (CW.block (CW.region (WL.mv rfl (WL.mv rfl (WL.mv rfl ?_)))))))
  obtain ⟨⟨e7, e8⟩, H⟩ := H
  obtain ⟨g4, d0⟩ := (b8.src_sl (k := 1) rfl).addr_iv (a7.toNat) (by omega)
  refine WL.v (Runs.indexAddr Tryd.underlying25 cells5 (by decide) rfl d0 rfl e7 (by rw [d8]; exact e8) (o := (a7).toNat) (by first | rfl | omega)) ?_
  refine WL.v (Runs.load nagg5 rfl ((b8.src_sl (k := 1) rfl).cell_iv d0 (by omega))) ?_
  obtain ⟨⟨e9, f0⟩, H⟩ := H
  refine WL.v (Runs.indexAddr_blk arr140 rfl rfl e9 f0 (o := (a7).toNat) (by first | rfl | omega)) ?_
  obtain ⟨c3, d1, H⟩ := H
  have f1 : c3.length = 12 := by rw [d1, List.length_set]; exact c0
  refine WL.store_cells (i := 2) b8 rfl cells5 rfl (by rw [iv_length]; have := c0; omega) rfl rfl ?_
  intro f2 c4
  have c4' : St w f2 [.sl a4 a5 a6 (iv .u8 b3) 5 1, .sl b0 b1 b2 (iv .u8 a9) 5 1, .cells a3 (iv .u8 c3) 140, .cells a2 (iv .u8 (List.replicate 12 (0 : Int))) 140] := by rw [d1, ← iv_set .u8 b5 (a7.toNat) (gn a9 (a7.toNat))]; exact c4
  refine WL.nil (QW.blk_n (QW.then_n (CW.region (WL.mv rfl ?_))))
  refine WL.v (Runs.add rfl rfl rfl) ?_
  refine WL.as rfl (WL.nil ?_)
  exact QW.at _ (by repeat' constructor) ⟨c3, IntKind.i64.wrap (a7 + 1), rfl, H, f1, c4'⟩
 have c2 : (decide (a7 < 4)) = false := (decide_eq_false c1)
 refine CW.cf rfl c2 ?_
 refine CW.exit (QW.then_x (QW.then_x (QW.blk_x (QW.then_n (CW.seq (cr (WL.as rfl (wn (CW.block ?_)))))))))
 obtain ⟨f3, H⟩ := H
 refine CW.sub [(4, .pointer (sp a2)), (5, .pointer (sp a3)), (7, .slice a4 a6 a5), (9, .int .i64 0)] ⟨rfl, rfl, rfl, rfl, trivial⟩ ?_
 refine CW.loop (fun kL2 l_ w_ => ∃ (b4 : List Int) (a8 : Int), l_ = [(4, .pointer (sp a2)), (5, .pointer (sp a3)), (7, .slice a4 a6 a5), (9, .int .i64 a8)] ∧ reliquaryref04_Nonce.L2 r0 b3 kL2 b4 a8 ∧ (b4.length = 12) ∧ St w w_ [.sl a4 a5 a6 (iv .u8 b3) 5 1, .sl b0 b1 b2 (iv .u8 a9) 5 1, .cells a3 (iv .u8 b4) 140, .cells a2 (iv .u8 (List.replicate 12 (0 : Int))) 140]) (k := f3) ⟨b5, 0, rfl, H, c0, b8⟩ (fun _ _ h => by obtain ⟨_, _, _, h, _⟩ := h; exact h.elim) ?_
 rintro kL2 g5 g6 ⟨b4, a8, rfl, H, b6, b7⟩
 refine CW.seq (cr (WL.mv rfl ?_))
 refine WL.v (Runs.lss rfl rfl rfl) ?_
 refine wn ?_
 rcases H with ⟨c5, H⟩ | ⟨c5, H⟩
 ·have c6 : (decide (a8 < 8)) = true := (decide_eq_true c5)
  refine CW.ct rfl c6 ?_
  refine CW.skip (QW.then_n (CW.seq (CW.block (CW.region (WL.mv rfl ?_)))))
  refine WL.v (Runs.add rfl rfl rfl) ?_
  refine WL.mv rfl (WL.mv rfl ?_)
  obtain ⟨⟨f4, f5⟩, H⟩ := H
  obtain ⟨g7, d2⟩ := (b7.src_sl (k := 0) rfl).addr_iv (a8.toNat) (by omega)
  refine WL.v (Runs.indexAddr Tryd.underlying25 cells5 (by decide) rfl d2 rfl f4 (by rw [e3]; exact f5) (o := (a8).toNat) (by first | rfl | omega)) ?_
  refine WL.v (Runs.load nagg5 rfl ((b7.src_sl (k := 0) rfl).cell_iv d2 (by omega))) ?_
  obtain ⟨⟨f6, f7⟩, H⟩ := H
  refine WL.v (Runs.indexAddr_blk arr140 rfl rfl f6 f7 (o := (IntKind.i64.wrap (4 + a8)).toNat) (by first | rfl | omega)) ?_
  obtain ⟨c7, d3, H⟩ := H
  have f8 : c7.length = 12 := by rw [d3, List.length_set]; exact b6
  refine WL.store_cells (i := 2) b7 rfl cells5 rfl (by rw [iv_length]; have := b6; omega) rfl rfl ?_
  intro f9 c8
  have c8' : St w f9 [.sl a4 a5 a6 (iv .u8 b3) 5 1, .sl b0 b1 b2 (iv .u8 a9) 5 1, .cells a3 (iv .u8 c7) 140, .cells a2 (iv .u8 (List.replicate 12 (0 : Int))) 140] := by rw [d3, ← iv_set .u8 b4 ((IntKind.i64.wrap (4 + a8)).toNat) (gn b3 (a8.toNat))]; exact c8
  refine WL.nil (QW.blk_n (QW.then_n (CW.region (WL.mv rfl ?_))))
  refine WL.v (Runs.add rfl rfl rfl) ?_
  refine WL.as rfl (WL.nil ?_)
  exact QW.at _ (by repeat' constructor) ⟨c7, IntKind.i64.wrap (a8 + 1), rfl, H, f8, c8'⟩
 have c6 : (decide (a8 < 8)) = false := (decide_eq_false c5)
 refine CW.cf rfl c6 ?_
 refine CW.exit (QW.then_x (QW.then_x (QW.blk_x (QW.then_n (cr ?_)))))
 refine WL.v (Runs.load_arr arr140 rfl (b7.blk (i := 2) rfl) b6) ?_
 refine WL.store_arr (i := 3) b7 rfl arr140 rfl (by rw [iv_length]; exact (List.length_replicate ..)) b6 rfl ?_
 intro g0 b9
 try dsimp only [List.set] at b9
 refine wn (CW.ret ?_)
 obtain rfl := H
 exact QW.retc rfl arr140 rfl (b9.blk (i := 3) rfl) b6 ⟨b6, rfl, b9.pick [] (by decide)⟩
/-! ### reliquaryref01_Get: function 90 -/
def reliquaryref01_Get.L1 (l0 : List Int) (a1 : Int) (a2 : Int) (r0 : Int) (r1 : Int) : Nat → Int → Int → Int → Prop
 | 0, _, _, _ => False
 | kL1 + 1, a3, a4, a0 => ((a0 < a2 ∧ ((0 ≤ (IntKind.i64.wrap (a1 + a0)) ∧ (IntKind.i64.wrap (a1 + a0)) < (l0.length : Int)) ∧ (∃ a5 : Int, a5 = IntKind.u64.wrap (gn l0 ((IntKind.i64.wrap (a1 + a0)).toNat)) ∧ reliquaryref01_Get.L1 l0 a1 a2 r0 r1 kL1 (IntKind.u64.wrap (a3 + (IntKind.u64.wrap (a5 * a4)))) (IntKind.u64.wrap (a4 * 256)) (IntKind.i64.wrap (a0 + 1))))) ∨ (¬ (a0 < a2) ∧ r0 = a3 ∧ r1 = 0))
def reliquaryref01_Get.rel (l0 : List Int) (a1 : Int) (a2 : Int) (r0 : Int) (r1 : Int) : Prop := ((a2 < 1 ∧ r0 = 0 ∧ r1 = 1) ∨ (¬ (a2 < 1) ∧ ((a2 > 8 ∧ r0 = 0 ∧ r1 = 1) ∨ (¬ (a2 > 8) ∧ ((a1 < 0 ∧ r0 = 0 ∧ r1 = 12) ∨ (¬ (a1 < 0) ∧ ((a1 > (l0.length : Int) ∧ r0 = 0 ∧ r1 = 12) ∨ (¬ (a1 > (l0.length : Int)) ∧ (((IntKind.i64.wrap ((l0.length : Int) - a1)) < a2 ∧ r0 = 0 ∧ r1 = 12) ∨ (¬ ((IntKind.i64.wrap ((l0.length : Int) - a1)) < a2) ∧ (∃ k_ : Nat, reliquaryref01_Get.L1 l0 a1 a2 r0 r1 k_ 0 1 0)))))))))))
set_option maxHeartbeats 4000000 in
theorem reliquaryref01_Get.calls (w : World) (l0 : List Int) (a1 : Int) (a2 : Int) (A0 : Option Addr) (n0 : Nat) (c0 : Nat)  (hs0 : Src w A0 (iv .u8 l0)) (hn0 : n0 = l0.length) (hc0 : n0 ≤ c0) (r0 : Int) (r1 : Int) (H : reliquaryref01_Get.rel l0 a1 a2 r0 r1) :
  Calls Tryd.prog 90 #[.slice A0 n0 c0, .int .i64 a1, .int .i64 a2] w fun e w' => e = .returned (.tuple #[.int .u64 r0, .int .i64 r1]) ∧ St w w' [] := by
 refine CW.enter Tryd.func90 rfl (n := 52) rfl [.slice A0 n0 c0, .int .i64 a1, .int .i64 a2] (Nat.le_of_ble_eq_true rfl) ?_
 refine CW.sub [(0, .slice A0 n0 c0), (1, .int .i64 a1), (2, .int .i64 a2)] ⟨rfl, rfl, rfl, trivial⟩ ?_
 have st0 : St w w [] := St.refl w
 refine cr (WL.as rfl (WL.as rfl (wn (CW.seq (cr (WL.mv rfl ?_))))))
 refine WL.v (Runs.lss rfl rfl rfl) ?_
 refine WL.mv rfl ?_
 rcases H with ⟨a9, H⟩ | ⟨a9, H⟩
 ·have a5 : (decide (a2 < 1)) = true := (decide_eq_true a9)
  refine WL.off ?_ ?_; exact Wg 13 a5
  refine WL.off ?_ ?_; exact Wg 13 a5
  refine WL.v (Runs.pick_t (evb rfl a5) rfl) ?_
  refine wn ?_
  refine CW.ct rfl rfl ?_
  refine cr (WL.as rfl (WL.as rfl (wn (CW.ret (QW.then_r ?_)))))
  obtain ⟨rfl, rfl⟩ := H
  exact QW.ret2 rfl rfl rfl ⟨rfl, st0.pick [] (by decide)⟩
 have a5 : (decide (a2 < 1)) = false := (decide_eq_false a9)
 refine WL.on ?_ ?_; exact Wg 13 a5
 refine WL.mv rfl ?_
 refine WL.on ?_ ?_; exact Wg 13 a5
 refine WL.v (Runs.gtr rfl rfl rfl) ?_
 refine WL.v (Runs.pick_f (evb rfl a5) rfl) ?_
 refine wn ?_
 rcases H with ⟨b0, H⟩ | ⟨b0, H⟩
 ·have b1 : (decide (a2 > 8)) = true := (decide_eq_true b0)
  refine CW.ct rfl b1 ?_
  refine cr (WL.as rfl (WL.as rfl (wn (CW.ret (QW.then_r ?_)))))
  obtain ⟨rfl, rfl⟩ := H
  exact QW.ret2 rfl rfl rfl ⟨rfl, st0.pick [] (by decide)⟩
 have b1 : (decide (a2 > 8)) = false := (decide_eq_false b0)
 refine CW.cf rfl b1 ?_
 refine CW.skip (QW.then_n ?_)
 refine CW.sub [(0, .slice A0 n0 c0), (1, .int .i64 a1), (2, .int .i64 a2), (6, .int .u64 0), (7, .int .i64 0)] ⟨rfl, rfl, rfl, rfl, rfl, trivial⟩ ?_
 refine CW.seq (cr (WL.mv rfl ?_))
 refine WL.v (Runs.lss rfl rfl rfl) ?_
 refine WL.mv rfl ?_
 rcases H with ⟨b2, H⟩ | ⟨b2, H⟩
 ·have a3 : (decide (a1 < 0)) = true := (decide_eq_true b2)
  refine WL.off ?_ ?_; exact Wg 19 a3
  refine WL.off ?_ ?_; exact Wg 19 a3
  refine WL.off ?_ ?_; exact Wg 19 a3
  refine WL.off ?_ ?_; exact Wg 19 a3
  refine WL.v (Runs.pick_t (evb rfl a3) rfl) ?_
  refine WL.mv rfl ?_
  refine WL.off ?_ ?_; exact Wg 25 rfl
  refine WL.off ?_ ?_; exact Wg 25 rfl
  refine WL.off ?_ ?_; exact Wg 25 rfl
  refine WL.off ?_ ?_; exact Wg 25 rfl
  refine WL.off ?_ ?_; exact Wg 25 rfl
  refine WL.off ?_ ?_; exact Wg 25 rfl
  refine WL.v (Runs.pick_t rfl rfl) ?_
  refine wn ?_
  refine CW.sub [(0, .slice A0 n0 c0), (1, .int .i64 a1), (2, .int .i64 a2), (6, .int .u64 0), (7, .int .i64 0), (32, .bool true)] (by repeat' constructor) ?_
  refine CW.ct rfl rfl ?_
  refine cr (WL.as rfl (WL.as rfl (wn (CW.ret (QW.then_r ?_)))))
  obtain ⟨rfl, rfl⟩ := H
  exact QW.ret2 rfl rfl rfl ⟨rfl, st0.pick [] (by decide)⟩
 have a3 : (decide (a1 < 0)) = false := (decide_eq_false b2)
 refine WL.on ?_ ?_; exact Wg 19 a3
 refine WL.mv rfl ?_
 refine WL.on ?_ ?_; exact Wg 19 a3
 refine WL.mv rfl ?_
 refine WL.on ?_ ?_; exact Wg 19 a3
 refine WL.v (Runs.len_sl Tryd.underlying25 rfl (by rw [hn0])) ?_
 refine WL.on ?_ ?_; exact Wg 19 a3
 refine WL.v (Runs.gtr rfl rfl rfl) ?_
 refine WL.v (Runs.pick_f (evb rfl a3) rfl) ?_
 refine WL.mv rfl ?_
 rcases H with ⟨b3, H⟩ | ⟨b3, H⟩
 ·have a0 : (decide (a1 > (l0.length : Int))) = true := (decide_eq_true b3)
  refine WL.off ?_ ?_; exact Wg 25 a0
  refine WL.off ?_ ?_; exact Wg 25 a0
  refine WL.off ?_ ?_; exact Wg 25 a0
  refine WL.off ?_ ?_; exact Wg 25 a0
  refine WL.off ?_ ?_; exact Wg 25 a0
  refine WL.off ?_ ?_; exact Wg 25 a0
  refine WL.v (Runs.pick_t (evb rfl a0) rfl) ?_
  refine wn ?_
  refine CW.sub [(0, .slice A0 n0 c0), (1, .int .i64 a1), (2, .int .i64 a2), (6, .int .u64 0), (7, .int .i64 0), (32, .bool true)] (by repeat' constructor) ?_
  refine CW.ct rfl rfl ?_
  refine cr (WL.as rfl (WL.as rfl (wn (CW.ret (QW.then_r ?_)))))
  obtain ⟨rfl, rfl⟩ := H
  exact QW.ret2 rfl rfl rfl ⟨rfl, st0.pick [] (by decide)⟩
 have a0 : (decide (a1 > (l0.length : Int))) = false := (decide_eq_false b3)
 refine WL.on ?_ ?_; exact Wg 25 a0
 refine WL.mv rfl ?_
 refine WL.on ?_ ?_; exact Wg 25 a0
 refine WL.v (Runs.len_sl Tryd.underlying25 rfl (by rw [hn0])) ?_
 refine WL.on ?_ ?_; exact Wg 25 a0
 refine WL.mv rfl ?_
 refine WL.on ?_ ?_; exact Wg 25 a0
 refine WL.v (Runs.sub rfl rfl rfl) ?_
 refine WL.on ?_ ?_; exact Wg 25 a0
 refine WL.mv rfl ?_
 refine WL.on ?_ ?_; exact Wg 25 a0
 refine WL.v (Runs.lss rfl rfl rfl) ?_
 refine WL.v (Runs.pick_f (evb rfl a0) rfl) ?_
 refine wn ?_
 refine CW.sub [(0, .slice A0 n0 c0), (1, .int .i64 a1), (2, .int .i64 a2), (6, .int .u64 0), (7, .int .i64 0), (32, .bool (decide ((IntKind.i64.wrap ((l0.length : Int) - a1)) < a2)))] (by repeat' constructor) ?_
 rcases H with ⟨b4, H⟩ | ⟨b4, H⟩
 ·have b5 : (decide ((IntKind.i64.wrap ((l0.length : Int) - a1)) < a2)) = true := (decide_eq_true b4)
  refine CW.ct rfl b5 ?_
  refine cr (WL.as rfl (WL.as rfl (wn (CW.ret (QW.then_r ?_)))))
  obtain ⟨rfl, rfl⟩ := H
  exact QW.ret2 rfl rfl rfl ⟨rfl, st0.pick [] (by decide)⟩
 have b5 : (decide ((IntKind.i64.wrap ((l0.length : Int) - a1)) < a2)) = false := (decide_eq_false b4)
 refine CW.cf rfl b5 ?_
 refine CW.skip (QW.then_n (cr (WL.as rfl (WL.nx (WL.as rfl (wn (CW.seq (cr (WL.as rfl (wn (CW.block ?_)))))))))))
 obtain ⟨b9, H⟩ := H
 refine CW.sub [(0, .slice A0 n0 c0), (1, .int .i64 a1), (2, .int .i64 a2), (6, .int .u64 0), (7, .int .i64 0), (8, .int .u64 0), (9, .int .u64 1), (10, .int .i64 0)] (by repeat' constructor) ?_
 refine CW.loop (fun kL1 l_ w_ => ∃ (a6 : Int) (a7 : Int) (a4 : Int), l_ = [(0, .slice A0 n0 c0), (1, .int .i64 a1), (2, .int .i64 a2), (6, .int .u64 0), (7, .int .i64 0), (8, .int .u64 a6), (9, .int .u64 a7), (10, .int .i64 a4)] ∧ reliquaryref01_Get.L1 l0 a1 a2 r0 r1 kL1 a6 a7 a4 ∧ St w w_ []) (k := b9) ⟨0, 1, 0, rfl, H, st0⟩ (fun _ _ h => by obtain ⟨_, _, _, _, h, _⟩ := h; exact h.elim) ?_
 rintro kL1 c5 c6 ⟨a6, a7, a4, rfl, H, a8⟩
 refine CW.seq (cr (WL.mv rfl (WL.mv rfl ?_)))
 refine WL.v (Runs.lss rfl rfl rfl) ?_
 refine wn ?_
 rcases H with ⟨b6, H⟩ | ⟨b6, H⟩
 ·have b7 : (decide (a4 < a2)) = true := (decide_eq_true b6)
  refine CW.ct rfl b7 ?_
  refine CW.skip (QW.then_n (CW.seq (CW.block (cr (WL.mv rfl (WL.mv rfl (WL.mv rfl (WL.mv rfl ?_))))))))
  refine WL.v (Runs.add rfl rfl rfl) ?_
  obtain ⟨⟨c1, c2⟩, H⟩ := H
  obtain ⟨c7, b8⟩ := (hs0.ext a8).addr_iv ((IntKind.i64.wrap (a1 + a4)).toNat) (by omega)
  refine WL.v (Runs.indexAddr Tryd.underlying25 cells5 (by decide) rfl b8 rfl c1 (by rw [hn0]; exact c2) (o := (IntKind.i64.wrap (a1 + a4)).toNat) (by first | rfl | omega)) ?_
  refine WL.v (Runs.load nagg5 rfl ((hs0.ext a8).cell_iv b8 (by omega))) ?_
  obtain ⟨c3, c4, H⟩ := H
  refine WL.v (Runs.conv Tryd.underlying37 ⟨_, Tryd.underlying5⟩ rfl c4) ?_
  refine WL.mv rfl ?_
  refine WL.v (Runs.mul rfl rfl rfl) ?_
  refine WL.v (Runs.add rfl rfl rfl) ?_
  refine WL.as rfl (wn (CW.region (WL.mv rfl ?_)))
  refine WL.v (Runs.mul rfl rfl rfl) ?_
  refine WL.as rfl (WL.nil (QW.blk_n (QW.then_n (CW.region (WL.mv rfl ?_)))))
  refine WL.v (Runs.add rfl rfl rfl) ?_
  refine WL.as rfl (WL.nil ?_)
  exact QW.at _ (by repeat' constructor) ⟨IntKind.u64.wrap (a6 + (IntKind.u64.wrap (c3 * a7))), IntKind.u64.wrap (a7 * 256), IntKind.i64.wrap (a4 + 1), rfl, H, a8⟩
 have b7 : (decide (a4 < a2)) = false := (decide_eq_false b6)
 refine CW.cf rfl b7 ?_
 refine CW.exit (QW.then_x (QW.then_x (QW.blk_x (QW.then_n ?_))))
 refine CW.sub [(6, .int .u64 0), (7, .int .i64 0), (8, .int .u64 a6)] ⟨rfl, rfl, rfl, trivial⟩ ?_
 refine cr (WL.mv rfl (WL.as rfl (WL.as rfl (wn (CW.ret ?_)))))
 obtain ⟨rfl, rfl⟩ := H
 exact QW.ret2 rfl rfl rfl ⟨rfl, a8.pick [] (by decide)⟩
/-! ### reliquaryref04_at: function 87 -/
def reliquaryref04_at.rel (l0 : List Int) (a1 : Int) (r0 : Int) : Prop := (∃ (a0 : Int) (a2 : Int), reliquaryref01_Get.rel l0 a1 4 a0 a2 ∧ r0 = IntKind.u32.wrap a0)
set_option maxHeartbeats 4000000 in
theorem reliquaryref04_at.calls (w : World) (l0 : List Int) (a1 : Int) (A0 : Option Addr) (n0 : Nat) (c0 : Nat)  (hs0 : Src w A0 (iv .u8 l0)) (hn0 : n0 = l0.length) (hc0 : n0 ≤ c0) (r0 : Int) (H : reliquaryref04_at.rel l0 a1 r0) :
  Calls Tryd.prog 87 #[.slice A0 n0 c0, .int .i64 a1] w fun e w' => e = .returned (.int .u32 r0) ∧ St w w' [] := by
 refine CW.enter Tryd.func87 rfl (n := 15) rfl [.slice A0 n0 c0, .int .i64 a1] (Nat.le_of_ble_eq_true rfl) ?_
 refine CW.sub [(0, .slice A0 n0 c0), (1, .int .i64 a1)] ⟨rfl, rfl, trivial⟩ ?_
 have st0 : St w w [] := St.refl w
 refine cr (WL.as rfl (WL.nx (WL.mv rfl (WL.mv rfl ?_))))
 obtain ⟨a0, a2, a3, H⟩ := H
 refine WL.call Wanted.none ent90 rfl (reliquaryref01_Get.calls w l0 a1 4 A0 n0 c0 (hs0.ext st0) (hn0) (hc0) a0 a2 a3) ?_
 rintro _ a4 ⟨rfl, a5⟩
 have a6 := st0.call a5
 refine ⟨_, rfl, ?_⟩
 refine WL.mv rfl ?_
 refine WL.v (Runs.extract rfl rfl) ?_
 refine WL.v (Runs.extract rfl rfl) ?_
 refine WL.as rfl (WL.as rfl (wn ?_))
 refine CW.sub [(4, .int .u32 0), (5, .int .u64 a0)] ⟨rfl, rfl, trivial⟩ ?_
 refine cr (WL.mv rfl ?_)
 refine WL.v (Runs.conv Tryd.underlying24 ⟨_, Tryd.underlying37⟩ rfl rfl) ?_
 refine WL.as rfl (wn (CW.ret ?_))
 obtain rfl := H
 exact QW.ret1 rfl rfl ⟨rfl, a6.pick [] (by decide)⟩
/-! ### reliquaryref04_left: function 91 -/
def reliquaryref04_left.rel (a0 : Int) (a1 : Int) (r0 : Int) : Prop := (0 ≤ a1 ∧ (0 ≤ (IntKind.u64.wrap (32 - a1)) ∧ (∃ a2 : Int, a2 = bits .or .u32 (shlI .u32 a0 a1) (shrI .u32 a0 (IntKind.u64.wrap (32 - a1))) ∧ r0 = a2)))
set_option maxHeartbeats 4000000 in
theorem reliquaryref04_left.calls (w : World) (a0 : Int) (a1 : Int)    (r0 : Int) (H : reliquaryref04_left.rel a0 a1 r0) :
  Calls Tryd.prog 91 #[.int .u32 a0, .int .u64 a1] w fun e w' => e = .returned (.int .u32 r0) ∧ St w w' [] := by
 refine CW.enter Tryd.func91 rfl (n := 13) rfl [.int .u32 a0, .int .u64 a1] (Nat.le_of_ble_eq_true rfl) ?_
 refine CW.sub [(0, .int .u32 a0), (1, .int .u64 a1)] ⟨rfl, rfl, trivial⟩ ?_
 have st0 : St w w [] := St.refl w
 refine cr (WL.as rfl (WL.nx (WL.mv rfl (WL.mv rfl ?_))))
 obtain ⟨a2, H⟩ := H
 refine WL.v (Runs.shl rfl rfl a2 rfl) ?_
 refine WL.mv rfl (WL.mv rfl ?_)
 refine WL.v (Runs.sub rfl rfl rfl) ?_
 obtain ⟨a3, H⟩ := H
 refine WL.v (Runs.shr rfl rfl a3 rfl) ?_
 obtain ⟨a4, a5, H⟩ := H
 refine WL.v (Runs.bor rfl rfl a5) ?_
 refine WL.as rfl (wn (CW.ret ?_))
 obtain rfl := H
 exact QW.ret1 rfl rfl ⟨rfl, st0.pick [] (by decide)⟩
/-! ### reliquaryref04_quarter: function 88 -/
def reliquaryref04_quarter.rel (l0 : List Int) (a1 : Int) (a2 : Int) (a3 : Int) (a4 : Int) (r0 : List Int) : Prop := ((0 ≤ a1 ∧ a1 < (16 : Int)) ∧ ((0 ≤ a2 ∧ a2 < (16 : Int)) ∧ (∃ b1 : Int, b1 = IntKind.u32.wrap ((gn l0 (a1.toNat)) + (gn l0 (a2.toNat))) ∧ ((0 ≤ a1 ∧ a1 < (16 : Int)) ∧ (∃ a0 : List Int, a0 = List.set l0 (a1.toNat) b1 ∧ ((0 ≤ a4 ∧ a4 < (16 : Int)) ∧ ((0 ≤ a1 ∧ a1 < (16 : Int)) ∧ (∃ (b2 : Int), reliquaryref04_left.rel (bits .xor .u32 (gn a0 (a4.toNat)) (gn a0 (a1.toNat))) 16 b2 ∧ ((0 ≤ a4 ∧ a4 < (16 : Int)) ∧ (∃ a5 : List Int, a5 = List.set a0 (a4.toNat) b2 ∧ ((0 ≤ a3 ∧ a3 < (16 : Int)) ∧ ((0 ≤ a4 ∧ a4 < (16 : Int)) ∧ (∃ b3 : Int, b3 = IntKind.u32.wrap ((gn a5 (a3.toNat)) + (gn a5 (a4.toNat))) ∧ ((0 ≤ a3 ∧ a3 < (16 : Int)) ∧ (∃ a6 : List Int, a6 = List.set a5 (a3.toNat) b3 ∧ ((0 ≤ a2 ∧ a2 < (16 : Int)) ∧ ((0 ≤ a3 ∧ a3 < (16 : Int)) ∧ (∃ (b4 : Int), reliquaryref04_left.rel (bits .xor .u32 (gn a6 (a2.toNat)) (gn a6 (a3.toNat))) 12 b4 ∧ ((0 ≤ a2 ∧ a2 < (16 : Int)) ∧ (∃ a7 : List Int, a7 = List.set a6 (a2.toNat) b4 ∧ ((0 ≤ a1 ∧ a1 < (16 : Int)) ∧ ((0 ≤ a2 ∧ a2 < (16 : Int)) ∧ (∃ b5 : Int, b5 = IntKind.u32.wrap ((gn a7 (a1.toNat)) + (gn a7 (a2.toNat))) ∧ ((0 ≤ a1 ∧ a1 < (16 : Int)) ∧ (∃ a8 : List Int, a8 = List.set a7 (a1.toNat) b5 ∧ ((0 ≤ a4 ∧ a4 < (16 : Int)) ∧ ((0 ≤ a1 ∧ a1 < (16 : Int)) ∧ (∃ (b6 : Int), reliquaryref04_left.rel (bits .xor .u32 (gn a8 (a4.toNat)) (gn a8 (a1.toNat))) 8 b6 ∧ ((0 ≤ a4 ∧ a4 < (16 : Int)) ∧ (∃ a9 : List Int, a9 = List.set a8 (a4.toNat) b6 ∧ ((0 ≤ a3 ∧ a3 < (16 : Int)) ∧ ((0 ≤ a4 ∧ a4 < (16 : Int)) ∧ (∃ b7 : Int, b7 = IntKind.u32.wrap ((gn a9 (a3.toNat)) + (gn a9 (a4.toNat))) ∧ ((0 ≤ a3 ∧ a3 < (16 : Int)) ∧ (∃ b0 : List Int, b0 = List.set a9 (a3.toNat) b7 ∧ ((0 ≤ a2 ∧ a2 < (16 : Int)) ∧ ((0 ≤ a3 ∧ a3 < (16 : Int)) ∧ (∃ b8 : Int, b8 = bits .xor .u32 (gn b0 (a2.toNat)) (gn b0 (a3.toNat)) ∧ (∃ (b9 : Int), reliquaryref04_left.rel b8 7 b9 ∧ ((0 ≤ a2 ∧ a2 < (16 : Int)) ∧ (∃ c0 : List Int, c0 = List.set b0 (a2.toNat) b9 ∧ r0 = c0)))))))))))))))))))))))))))))))))))))))))
set_option maxHeartbeats 4000000 in
theorem reliquaryref04_quarter.calls (w : World) (l0 : List Int) (a1 : Int) (a2 : Int) (a3 : Int) (a4 : Int)   (hl0 : l0.length = 16) (r0 : List Int) (H : reliquaryref04_quarter.rel l0 a1 a2 a3 a4 r0) :
  Calls Tryd.prog 88 #[.agg (iv .u32 l0).toArray, .int .i64 a1, .int .i64 a2, .int .i64 a3, .int .i64 a4] w fun e w' => r0.length = 16 ∧ e = .returned (.agg (iv .u32 r0).toArray) ∧ St w w' [] := by
 refine CW.enter Tryd.func88 rfl (n := 88) rfl [.agg (iv .u32 l0).toArray, .int .i64 a1, .int .i64 a2, .int .i64 a3, .int .i64 a4] (Nat.le_of_ble_eq_true rfl) ?_
 refine CW.sub [(0, .agg (iv .u32 l0).toArray), (1, .int .i64 a1), (2, .int .i64 a2), (3, .int .i64 a3), (4, .int .i64 a4)] ⟨rfl, rfl, rfl, rfl, rfl, trivial⟩ ?_
 have st0 : St w w [] := St.refl w
 refine cr ?_
 refine WL.box st0 rfl rfl ?_
 intro a0 m5 e3
 refine WL.alloc e3 arr166.zero ?_
 intro a5 m6 e4
 refine wn (CW.seq ?_)
 refine CW.region_qt 9 wide (by kernel_rfl) e4 ?_
 refine HL.mv rfl (HL.mv rfl ?_)
 obtain ⟨⟨e5, e6⟩, H⟩ := H
 refine HL.v (fun wq sq => (Runs.indexAddr_blk arr166 rfl rfl e5 e6 (o := (a1).toNat) (by first | rfl | omega))) ?_
 refine HL.v (fun wq sq => (Runs.load nagg24 rfl (sq.cell_iv (i := 1) rfl (by have := hl0; omega)))) ?_
 refine HL.mv rfl ?_
 obtain ⟨⟨e7, e8⟩, H⟩ := H
 refine HL.v (fun wq sq => (Runs.indexAddr_blk arr166 rfl rfl e7 e8 (o := (a2).toNat) (by first | rfl | omega))) ?_
 refine HL.v (fun wq sq => (Runs.load nagg24 rfl (sq.cell_iv (i := 1) rfl (by have := hl0; omega)))) ?_
 obtain ⟨e9, f0, H⟩ := H
 refine HL.v (fun wq sq => (Runs.add rfl rfl f0)) ?_
 obtain ⟨⟨f1, f2⟩, H⟩ := H
 refine HL.v (fun wq sq => (Runs.indexAddr_blk arr166 rfl rfl f1 f2 (o := (a1).toNat) (by first | rfl | omega))) ?_
 refine HL.nil (fun m7 f3 => ?_)
 obtain ⟨a6, d1, H⟩ := H
 have a9 : a6.length = 16 := by rw [d1, List.length_set]; exact hl0
 refine WL.store_cells (i := 1) f3 rfl cells24 rfl (by rw [iv_length]; have := hl0; omega) rfl rfl ?_
 intro f4 c0
 have c0' : St w f4 [.cells a5 (iv .u32 (List.replicate 16 (0 : Int))) 166, .cells a0 (iv .u32 a6) 166] := by rw [d1, ← iv_set .u32 l0 (a1.toNat) e9]; exact c0
 refine wn ?_
 refine CW.sub [(1, .int .i64 a1), (2, .int .i64 a2), (3, .int .i64 a3), (4, .int .i64 a4), (5, .pointer (sp a0)), (10, .pointer (sp a5))] (by repeat' constructor) ?_
 refine CW.seq ?_
 refine CW.region_qt 10 wide (by kernel_rfl) c0' ?_
 refine HL.mv rfl (HL.mv rfl ?_)
 obtain ⟨⟨f5, f6⟩, H⟩ := H
 refine HL.v (fun wq sq => (Runs.indexAddr_blk arr166 rfl rfl f5 f6 (o := (a4).toNat) (by first | rfl | omega))) ?_
 refine HL.v (fun wq sq => (Runs.load nagg24 rfl (sq.cell_iv (i := 1) rfl (by have := a9; omega)))) ?_
 refine HL.mv rfl ?_
 obtain ⟨⟨f7, f8⟩, H⟩ := H
 refine HL.v (fun wq sq => (Runs.indexAddr_blk arr166 rfl rfl f7 f8 (o := (a1).toNat) (by first | rfl | omega))) ?_
 refine HL.v (fun wq sq => (Runs.load nagg24 rfl (sq.cell_iv (i := 1) rfl (by have := a9; omega)))) ?_
 refine HL.v (fun wq sq => (Runs.bxor rfl rfl rfl)) ?_
 obtain ⟨d2, f9, H⟩ := H
 refine HL.call Wanted.none ent91 rfl (fun wq sq => (reliquaryref04_left.calls wq (bits .xor .u32 (gn a6 (a4.toNat)) (gn a6 (a1.toNat))) 16 d2 f9).mono (by rintro _ _ ⟨rfl, sc⟩; exact ⟨rfl, sq.call sc⟩)) ?_
 obtain ⟨⟨g0, g1⟩, H⟩ := H
 refine HL.v (fun wq sq => (Runs.indexAddr_blk arr166 rfl rfl g0 g1 (o := (a4).toNat) (by first | rfl | omega))) ?_
 refine HL.nil (fun m8 g2 => ?_)
 obtain ⟨c1, d3, H⟩ := H
 have b0 : c1.length = 16 := by rw [d3, List.length_set]; exact a9
 refine WL.store_cells (i := 1) g2 rfl cells24 rfl (by rw [iv_length]; have := a9; omega) rfl rfl ?_
 intro g3 c2
 have c2' : St w g3 [.cells a5 (iv .u32 (List.replicate 16 (0 : Int))) 166, .cells a0 (iv .u32 c1) 166] := by rw [d3, ← iv_set .u32 a6 (a4.toNat) d2]; exact c2
 refine wn ?_
 refine CW.sub [(1, .int .i64 a1), (2, .int .i64 a2), (3, .int .i64 a3), (4, .int .i64 a4), (5, .pointer (sp a0)), (10, .pointer (sp a5))] (by repeat' constructor) ?_
 refine CW.seq ?_
 refine CW.region_qt 9 wide (by kernel_rfl) c2' ?_
 refine HL.mv rfl (HL.mv rfl ?_)
 obtain ⟨⟨g4, g5⟩, H⟩ := H
 refine HL.v (fun wq sq => (Runs.indexAddr_blk arr166 rfl rfl g4 g5 (o := (a3).toNat) (by first | rfl | omega))) ?_
 refine HL.v (fun wq sq => (Runs.load nagg24 rfl (sq.cell_iv (i := 1) rfl (by have := b0; omega)))) ?_
 refine HL.mv rfl ?_
 obtain ⟨⟨g6, g7⟩, H⟩ := H
 refine HL.v (fun wq sq => (Runs.indexAddr_blk arr166 rfl rfl g6 g7 (o := (a4).toNat) (by first | rfl | omega))) ?_
 refine HL.v (fun wq sq => (Runs.load nagg24 rfl (sq.cell_iv (i := 1) rfl (by have := b0; omega)))) ?_
 obtain ⟨g8, g9, H⟩ := H
 refine HL.v (fun wq sq => (Runs.add rfl rfl g9)) ?_
 obtain ⟨⟨h0, h1⟩, H⟩ := H
 refine HL.v (fun wq sq => (Runs.indexAddr_blk arr166 rfl rfl h0 h1 (o := (a3).toNat) (by first | rfl | omega))) ?_
 refine HL.nil (fun m9 h2 => ?_)
 obtain ⟨a7, d4, H⟩ := H
 have b1 : a7.length = 16 := by rw [d4, List.length_set]; exact b0
 refine WL.store_cells (i := 1) h2 rfl cells24 rfl (by rw [iv_length]; have := b0; omega) rfl rfl ?_
 intro h3 c3
 have c3' : St w h3 [.cells a5 (iv .u32 (List.replicate 16 (0 : Int))) 166, .cells a0 (iv .u32 a7) 166] := by rw [d4, ← iv_set .u32 c1 (a3.toNat) g8]; exact c3
 refine wn ?_
 refine CW.sub [(1, .int .i64 a1), (2, .int .i64 a2), (3, .int .i64 a3), (4, .int .i64 a4), (5, .pointer (sp a0)), (10, .pointer (sp a5))] (by repeat' constructor) ?_
 refine CW.seq ?_
 refine CW.region_qt 10 wide (by kernel_rfl) c3' ?_
 refine HL.mv rfl (HL.mv rfl ?_)
 obtain ⟨⟨h4, h5⟩, H⟩ := H
 refine HL.v (fun wq sq => (Runs.indexAddr_blk arr166 rfl rfl h4 h5 (o := (a2).toNat) (by first | rfl | omega))) ?_
 refine HL.v (fun wq sq => (Runs.load nagg24 rfl (sq.cell_iv (i := 1) rfl (by have := b1; omega)))) ?_
 refine HL.mv rfl ?_
 obtain ⟨⟨h6, h7⟩, H⟩ := H
 refine HL.v (fun wq sq => (Runs.indexAddr_blk arr166 rfl rfl h6 h7 (o := (a3).toNat) (by first | rfl | omega))) ?_
 refine HL.v (fun wq sq => (Runs.load nagg24 rfl (sq.cell_iv (i := 1) rfl (by have := b1; omega)))) ?_
 refine HL.v (fun wq sq => (Runs.bxor rfl rfl rfl)) ?_
 obtain ⟨d5, h8, H⟩ := H
 refine HL.call Wanted.none ent91 rfl (fun wq sq => (reliquaryref04_left.calls wq (bits .xor .u32 (gn a7 (a2.toNat)) (gn a7 (a3.toNat))) 12 d5 h8).mono (by rintro _ _ ⟨rfl, sc⟩; exact ⟨rfl, sq.call sc⟩)) ?_
 obtain ⟨⟨h9, i0⟩, H⟩ := H
 refine HL.v (fun wq sq => (Runs.indexAddr_blk arr166 rfl rfl h9 i0 (o := (a2).toNat) (by first | rfl | omega))) ?_
 refine HL.nil (fun n0 i1 => ?_)
 obtain ⟨c4, d6, H⟩ := H
 have b2 : c4.length = 16 := by rw [d6, List.length_set]; exact b1
 refine WL.store_cells (i := 1) i1 rfl cells24 rfl (by rw [iv_length]; have := b1; omega) rfl rfl ?_
 intro i2 c5
 have c5' : St w i2 [.cells a5 (iv .u32 (List.replicate 16 (0 : Int))) 166, .cells a0 (iv .u32 c4) 166] := by rw [d6, ← iv_set .u32 a7 (a2.toNat) d5]; exact c5
 refine wn ?_
 refine CW.sub [(1, .int .i64 a1), (2, .int .i64 a2), (3, .int .i64 a3), (4, .int .i64 a4), (5, .pointer (sp a0)), (10, .pointer (sp a5))] (by repeat' constructor) ?_
 refine CW.seq ?_
 refine CW.region_qt 9 wide (by kernel_rfl) c5' ?_
 refine HL.mv rfl (HL.mv rfl ?_)
 obtain ⟨⟨i3, i4⟩, H⟩ := H
 refine HL.v (fun wq sq => (Runs.indexAddr_blk arr166 rfl rfl i3 i4 (o := (a1).toNat) (by first | rfl | omega))) ?_
 refine HL.v (fun wq sq => (Runs.load nagg24 rfl (sq.cell_iv (i := 1) rfl (by have := b2; omega)))) ?_
 refine HL.mv rfl ?_
 obtain ⟨⟨i5, i6⟩, H⟩ := H
 refine HL.v (fun wq sq => (Runs.indexAddr_blk arr166 rfl rfl i5 i6 (o := (a2).toNat) (by first | rfl | omega))) ?_
 refine HL.v (fun wq sq => (Runs.load nagg24 rfl (sq.cell_iv (i := 1) rfl (by have := b2; omega)))) ?_
 obtain ⟨i7, i8, H⟩ := H
 refine HL.v (fun wq sq => (Runs.add rfl rfl i8)) ?_
 obtain ⟨⟨i9, j0⟩, H⟩ := H
 refine HL.v (fun wq sq => (Runs.indexAddr_blk arr166 rfl rfl i9 j0 (o := (a1).toNat) (by first | rfl | omega))) ?_
 refine HL.nil (fun n1 j1 => ?_)
 obtain ⟨a8, d7, H⟩ := H
 have b3 : a8.length = 16 := by rw [d7, List.length_set]; exact b2
 refine WL.store_cells (i := 1) j1 rfl cells24 rfl (by rw [iv_length]; have := b2; omega) rfl rfl ?_
 intro j2 c6
 have c6' : St w j2 [.cells a5 (iv .u32 (List.replicate 16 (0 : Int))) 166, .cells a0 (iv .u32 a8) 166] := by rw [d7, ← iv_set .u32 c4 (a1.toNat) i7]; exact c6
 refine wn ?_
 refine CW.sub [(1, .int .i64 a1), (2, .int .i64 a2), (3, .int .i64 a3), (4, .int .i64 a4), (5, .pointer (sp a0)), (10, .pointer (sp a5))] (by repeat' constructor) ?_
 refine CW.seq ?_
 refine CW.region_qt 10 wide (by kernel_rfl) c6' ?_
 refine HL.mv rfl (HL.mv rfl ?_)
 obtain ⟨⟨j3, j4⟩, H⟩ := H
 refine HL.v (fun wq sq => (Runs.indexAddr_blk arr166 rfl rfl j3 j4 (o := (a4).toNat) (by first | rfl | omega))) ?_
 refine HL.v (fun wq sq => (Runs.load nagg24 rfl (sq.cell_iv (i := 1) rfl (by have := b3; omega)))) ?_
 refine HL.mv rfl ?_
 obtain ⟨⟨j5, j6⟩, H⟩ := H
 refine HL.v (fun wq sq => (Runs.indexAddr_blk arr166 rfl rfl j5 j6 (o := (a1).toNat) (by first | rfl | omega))) ?_
 refine HL.v (fun wq sq => (Runs.load nagg24 rfl (sq.cell_iv (i := 1) rfl (by have := b3; omega)))) ?_
 refine HL.v (fun wq sq => (Runs.bxor rfl rfl rfl)) ?_
 obtain ⟨d8, j7, H⟩ := H
 refine HL.call Wanted.none ent91 rfl (fun wq sq => (reliquaryref04_left.calls wq (bits .xor .u32 (gn a8 (a4.toNat)) (gn a8 (a1.toNat))) 8 d8 j7).mono (by rintro _ _ ⟨rfl, sc⟩; exact ⟨rfl, sq.call sc⟩)) ?_
 obtain ⟨⟨j8, j9⟩, H⟩ := H
 refine HL.v (fun wq sq => (Runs.indexAddr_blk arr166 rfl rfl j8 j9 (o := (a4).toNat) (by first | rfl | omega))) ?_
 refine HL.nil (fun n2 k0 => ?_)
 obtain ⟨c7, d9, H⟩ := H
 have b4 : c7.length = 16 := by rw [d9, List.length_set]; exact b3
 refine WL.store_cells (i := 1) k0 rfl cells24 rfl (by rw [iv_length]; have := b3; omega) rfl rfl ?_
 intro k1 c8
 have c8' : St w k1 [.cells a5 (iv .u32 (List.replicate 16 (0 : Int))) 166, .cells a0 (iv .u32 c7) 166] := by rw [d9, ← iv_set .u32 a8 (a4.toNat) d8]; exact c8
 refine wn ?_
 refine CW.sub [(2, .int .i64 a2), (3, .int .i64 a3), (4, .int .i64 a4), (5, .pointer (sp a0)), (10, .pointer (sp a5))] ⟨rfl, rfl, rfl, rfl, rfl, trivial⟩ ?_
 refine CW.seq ?_
 refine CW.region_qt 9 wide (by kernel_rfl) c8' ?_
 refine HL.mv rfl (HL.mv rfl ?_)
 obtain ⟨⟨k2, k3⟩, H⟩ := H
 refine HL.v (fun wq sq => (Runs.indexAddr_blk arr166 rfl rfl k2 k3 (o := (a3).toNat) (by first | rfl | omega))) ?_
 refine HL.v (fun wq sq => (Runs.load nagg24 rfl (sq.cell_iv (i := 1) rfl (by have := b4; omega)))) ?_
 refine HL.mv rfl ?_
 obtain ⟨⟨k4, k5⟩, H⟩ := H
 refine HL.v (fun wq sq => (Runs.indexAddr_blk arr166 rfl rfl k4 k5 (o := (a4).toNat) (by first | rfl | omega))) ?_
 refine HL.v (fun wq sq => (Runs.load nagg24 rfl (sq.cell_iv (i := 1) rfl (by have := b4; omega)))) ?_
 obtain ⟨k6, k7, H⟩ := H
 refine HL.v (fun wq sq => (Runs.add rfl rfl k7)) ?_
 obtain ⟨⟨k8, k9⟩, H⟩ := H
 refine HL.v (fun wq sq => (Runs.indexAddr_blk arr166 rfl rfl k8 k9 (o := (a3).toNat) (by first | rfl | omega))) ?_
 refine HL.nil (fun n3 l1 => ?_)
 obtain ⟨c9, e0, H⟩ := H
 have b5 : c9.length = 16 := by rw [e0, List.length_set]; exact b4
 refine WL.store_cells (i := 1) l1 rfl cells24 rfl (by rw [iv_length]; have := b4; omega) rfl rfl ?_
 intro l2 d0
 have d0' : St w l2 [.cells a5 (iv .u32 (List.replicate 16 (0 : Int))) 166, .cells a0 (iv .u32 c9) 166] := by rw [e0, ← iv_set .u32 c7 (a3.toNat) k6]; exact d0
 refine wn ?_
 refine CW.sub [(2, .int .i64 a2), (3, .int .i64 a3), (5, .pointer (sp a0)), (10, .pointer (sp a5))] ⟨rfl, rfl, rfl, rfl, trivial⟩ ?_
 refine CW.seq ?_
 refine CW.region_qt 10 wide (by kernel_rfl) d0' ?_
 refine HL.mv rfl (HL.mv rfl ?_)
 obtain ⟨⟨l3, l4⟩, H⟩ := H
 refine HL.v (fun wq sq => (Runs.indexAddr_blk arr166 rfl rfl l3 l4 (o := (a2).toNat) (by first | rfl | omega))) ?_
 refine HL.v (fun wq sq => (Runs.load nagg24 rfl (sq.cell_iv (i := 1) rfl (by have := b5; omega)))) ?_
 refine HL.mv rfl ?_
 obtain ⟨⟨l5, l6⟩, H⟩ := H
 refine HL.v (fun wq sq => (Runs.indexAddr_blk arr166 rfl rfl l5 l6 (o := (a3).toNat) (by first | rfl | omega))) ?_
 refine HL.v (fun wq sq => (Runs.load nagg24 rfl (sq.cell_iv (i := 1) rfl (by have := b5; omega)))) ?_
 obtain ⟨l7, l8, H⟩ := H
 refine HL.v (fun wq sq => (Runs.bxor rfl rfl l8)) ?_
 obtain ⟨e1, l9, H⟩ := H
 refine HL.call Wanted.none ent91 rfl (fun wq sq => (reliquaryref04_left.calls wq l7 7 e1 l9).mono (by rintro _ _ ⟨rfl, sc⟩; exact ⟨rfl, sq.call sc⟩)) ?_
 obtain ⟨⟨m0, m1⟩, H⟩ := H
 refine HL.v (fun wq sq => (Runs.indexAddr_blk arr166 rfl rfl m0 m1 (o := (a2).toNat) (by first | rfl | omega))) ?_
 refine HL.nil (fun n4 m2 => ?_)
 obtain ⟨b6, e2, H⟩ := H
 have b7 : b6.length = 16 := by rw [e2, List.length_set]; exact b5
 refine WL.store_cells (i := 1) m2 rfl cells24 rfl (by rw [iv_length]; have := b5; omega) rfl rfl ?_
 intro m3 b8
 have b8' : St w m3 [.cells a5 (iv .u32 (List.replicate 16 (0 : Int))) 166, .cells a0 (iv .u32 b6) 166] := by rw [e2, ← iv_set .u32 c9 (a2.toNat) e1]; exact b8
 refine wn ?_
 refine CW.sub [(5, .pointer (sp a0)), (10, .pointer (sp a5))] ⟨rfl, rfl, trivial⟩ ?_
 refine cr ?_
 refine WL.v (Runs.load_arr arr166 rfl (b8'.blk (i := 1) rfl) b7) ?_
 refine WL.store_arr (i := 0) b8' rfl arr166 rfl (by rw [iv_length]; exact (List.length_replicate ..)) b7 rfl ?_
 intro m4 b9
 try dsimp only [List.set] at b9
 refine wn (CW.ret ?_)
 obtain rfl := H
 exact QW.retc rfl arr166 rfl (b9.blk (i := 0) rfl) b7 ⟨b7, rfl, b9.pick [] (by decide)⟩
/-! ### reliquaryref04_Block: function 79 -/
def reliquaryref04_Block.L6 (a1 : Int) (K_L4 : (List Int) → Int → Prop) : Nat → (List Int) → Int → Prop
 | 0, _, _ => False
 | kL6 + 1, a2, a0 => ((a0 < 4 ∧ (∃ a3 : Int, a3 = IntKind.i64.wrap (4 + (Int.tmod (IntKind.i64.wrap (a0 + 1)) 4)) ∧ (∃ a4 : Int, a4 = IntKind.i64.wrap (8 + (Int.tmod (IntKind.i64.wrap (a0 + 2)) 4)) ∧ (∃ a5 : Int, a5 = IntKind.i64.wrap (12 + (Int.tmod (IntKind.i64.wrap (a0 + 3)) 4)) ∧ (∃ (a6 : List Int), reliquaryref04_quarter.rel a2 a0 a3 a4 a5 a6 ∧ reliquaryref04_Block.L6 a1 K_L4 kL6 a6 (IntKind.i64.wrap (a0 + 1))))))) ∨ (¬ (a0 < 4) ∧ K_L4 a2 (IntKind.i64.wrap (a1 + 1))))
def reliquaryref04_Block.L5 (a1 : Int) (K_L4 : (List Int) → Int → Prop) : Nat → (List Int) → Int → Prop
 | 0, _, _ => False
 | kL5 + 1, a2, a0 => ((a0 < 4 ∧ (∃ (a3 : List Int), reliquaryref04_quarter.rel a2 a0 (IntKind.i64.wrap (4 + a0)) (IntKind.i64.wrap (8 + a0)) (IntKind.i64.wrap (12 + a0)) a3 ∧ reliquaryref04_Block.L5 a1 K_L4 kL5 a3 (IntKind.i64.wrap (a0 + 1)))) ∨ (¬ (a0 < 4) ∧ (∃ k_ : Nat, reliquaryref04_Block.L6 a1 (K_L4) k_ a2 0)))
def reliquaryref04_Block.L7 (r0 : List Int) (a1 : List Int) (a2 : List Int) : Nat → (List Int) → Int → Prop
 | 0, _, _ => False
 | kL7 + 1, a3, a0 => ((a0 < 64 ∧ ((0 ≤ (IntKind.i64.wrap (Int.tdiv a0 4)) ∧ (IntKind.i64.wrap (Int.tdiv a0 4)) < (16 : Int)) ∧ ((0 ≤ (IntKind.i64.wrap (Int.tdiv a0 4)) ∧ (IntKind.i64.wrap (Int.tdiv a0 4)) < (16 : Int)) ∧ (∃ a4 : Int, a4 = IntKind.u32.wrap ((gn a2 ((IntKind.i64.wrap (Int.tdiv a0 4)).toNat)) + (gn a1 ((IntKind.i64.wrap (Int.tdiv a0 4)).toNat))) ∧ (0 ≤ (IntKind.u64.wrap (IntKind.i64.wrap (8 * (Int.tmod a0 4)))) ∧ (∃ a5 : Int, a5 = shrI .u32 a4 (IntKind.u64.wrap (IntKind.i64.wrap (8 * (Int.tmod a0 4)))) ∧ ((0 ≤ a0 ∧ a0 < (64 : Int)) ∧ (∃ a6 : List Int, a6 = List.set a3 (a0.toNat) (IntKind.u8.wrap a5) ∧ reliquaryref04_Block.L7 r0 a1 a2 kL7 a6 (IntKind.i64.wrap (a0 + 1)))))))))) ∨ (¬ (a0 < 64) ∧ r0 = a3))
def reliquaryref04_Block.L4 (r0 : List Int) (a1 : List Int) : Nat → (List Int) → Int → Prop
 | 0, _, _ => False
 | kL4 + 1, a2, a0 => ((a0 < 10 ∧ (∃ k_ : Nat, reliquaryref04_Block.L5 a0 (reliquaryref04_Block.L4 r0 a1 kL4) k_ a2 0)) ∨ (¬ (a0 < 10) ∧ (∃ k_ : Nat, reliquaryref04_Block.L7 r0 a1 a2 k_ (List.replicate 64 (0 : Int)) 0)))
def reliquaryref04_Block.L3 (l2 : List Int) (r0 : List Int) : Nat → (List Int) → Int → Prop
 | 0, _, _ => False
 | kL3 + 1, a1, a0 => ((a0 < 3 ∧ (∃ (a2 : Int), reliquaryref04_at.rel l2 (IntKind.i64.wrap (4 * a0)) a2 ∧ ((0 ≤ (IntKind.i64.wrap (13 + a0)) ∧ (IntKind.i64.wrap (13 + a0)) < (16 : Int)) ∧ (∃ a3 : List Int, a3 = List.set a1 ((IntKind.i64.wrap (13 + a0)).toNat) a2 ∧ reliquaryref04_Block.L3 l2 r0 kL3 a3 (IntKind.i64.wrap (a0 + 1)))))) ∨ (¬ (a0 < 3) ∧ (∃ k_ : Nat, reliquaryref04_Block.L4 r0 a1 k_ a1 0)))
def reliquaryref04_Block.L2 (l0 : List Int) (a1 : Int) (l2 : List Int) (r0 : List Int) : Nat → (List Int) → Int → Prop
 | 0, _, _ => False
 | kL2 + 1, a2, a0 => ((a0 < 8 ∧ (∃ (a3 : Int), reliquaryref04_at.rel l0 (IntKind.i64.wrap (4 * a0)) a3 ∧ ((0 ≤ (IntKind.i64.wrap (4 + a0)) ∧ (IntKind.i64.wrap (4 + a0)) < (16 : Int)) ∧ (∃ a4 : List Int, a4 = List.set a2 ((IntKind.i64.wrap (4 + a0)).toNat) a3 ∧ reliquaryref04_Block.L2 l0 a1 l2 r0 kL2 a4 (IntKind.i64.wrap (a0 + 1)))))) ∨ (¬ (a0 < 8) ∧ (∃ a5 : List Int, a5 = List.set a2 12 a1 ∧ (∃ k_ : Nat, reliquaryref04_Block.L3 l2 r0 k_ a5 0))))
def reliquaryref04_Block.L1 (l0 : List Int) (a1 : Int) (l2 : List Int) (r0 : List Int) : Nat → (List Int) → Int → Prop
 | 0, _, _ => False
 | kL1 + 1, a2, a0 => ((a0 < 4 ∧ (∃ (a3 : Int), reliquaryref04_at.rel [101, 120, 112, 97, 110, 100, 32, 51, 50, 45, 98, 121, 116, 101, 32, 107] (IntKind.i64.wrap (4 * a0)) a3 ∧ ((0 ≤ a0 ∧ a0 < (16 : Int)) ∧ (∃ a4 : List Int, a4 = List.set a2 (a0.toNat) a3 ∧ reliquaryref04_Block.L1 l0 a1 l2 r0 kL1 a4 (IntKind.i64.wrap (a0 + 1)))))) ∨ (¬ (a0 < 4) ∧ (∃ k_ : Nat, reliquaryref04_Block.L2 l0 a1 l2 r0 k_ a2 0)))
def reliquaryref04_Block.rel (l0 : List Int) (a1 : Int) (l2 : List Int) (r0 : List Int) : Prop := (∃ k_ : Nat, reliquaryref04_Block.L1 l0 a1 l2 r0 k_ (List.replicate 16 (0 : Int)) 0)
set_option maxHeartbeats 4000000 in
theorem reliquaryref04_Block.calls (w : World) (l0 : List Int) (a1 : Int) (l2 : List Int)   (hl0 : l0.length = 32) (hl2 : l2.length = 12) (r0 : List Int) (H : reliquaryref04_Block.rel l0 a1 l2 r0) :
  Calls Tryd.prog 79 #[.agg (iv .u8 l0).toArray, .int .u32 a1, .agg (iv .u8 l2).toArray] w fun e w' => r0.length = 64 ∧ e = .returned (.agg (iv .u8 r0).toArray) ∧ St w w' [] := by
 refine CW.enter Tryd.func79 rfl (n := 115) rfl [.agg (iv .u8 l0).toArray, .int .u32 a1, .agg (iv .u8 l2).toArray] (Nat.le_of_ble_eq_true rfl) ?_
 refine CW.sub [(0, .agg (iv .u8 l0).toArray), (1, .int .u32 a1), (2, .agg (iv .u8 l2).toArray)] ⟨rfl, rfl, rfl, trivial⟩ ?_
 have st0 : St w w [] := St.refl w
 refine cr ?_
 refine WL.box st0 rfl rfl ?_
 intro a4 q0 h9
 refine WL.box h9 rfl rfl ?_
 intro a3 q1 i0
 refine WL.alloc i0 arr158.zero ?_
 intro a0 q2 i1
 refine WL.nx ?_
 refine WL.alloc i1 arr166.zero ?_
 intro a2 q3 i2
 refine WL.nx ?_
 refine WL.buildSl [.int .u8 101, .int .u8 120, .int .u8 112, .int .u8 97, .int .u8 110, .int .u8 100, .int .u8 32, .int .u8 51, .int .u8 50, .int .u8 45, .int .u8 98, .int .u8 121, .int .u8 116, .int .u8 101, .int .u8 32, .int .u8 107] i2 Tryd.underlying25 elem5 rfl rfl (by decide) (by decide) (by simp [Value.cells]) ?_
 intro a5 i3 d0
 replace d0 : St w i3 [.sl (sp a5) 16 16 (iv .u8 [101, 120, 112, 97, 110, 100, 32, 51, 50, 45, 98, 121, 116, 101, 32, 107]) 5 1, .cells a2 (iv .u32 (List.replicate 16 (0 : Int))) 166, .cells a0 (iv .u8 (List.replicate 64 (0 : Int))) 158, .cells a3 (iv .u8 l2) 140, .cells a4 (iv .u8 l0) 23] := d0
 refine WL.mark (i := 0) d0 rfl Tryd.underlying25 Tryd.underlying5 rfl ?_
 intro a7 i4 i5 q4 i6 d1
 replace d1 : St w i4 [.obj a5 (.cells a7.toArray 5 (16, 16 + 1)), .cells a2 (iv .u32 (List.replicate 16 (0 : Int))) 166, .cells a0 (iv .u8 (List.replicate 64 (0 : Int))) 158, .cells a3 (iv .u8 l2) 140, .cells a4 (iv .u8 l0) 23] := d1
 refine WL.as rfl (wn (CW.seq (cr (WL.as rfl (wn (CW.block ?_))))))
 obtain ⟨i7, H⟩ := H
 refine CW.sub [(1, .int .u32 a1), (3, .pointer (sp a4)), (5, .pointer (sp a3)), (6, .pointer (sp a0)), (7, .pointer (sp a2)), (8, .slice (sp a5) 16 16), (9, .int .i64 0)] (by repeat' constructor) ?_
 refine CW.loop (fun kL1 l_ w_ => ∃ (b6 : List Int) (b2 : Int), l_ = [(1, .int .u32 a1), (3, .pointer (sp a4)), (5, .pointer (sp a3)), (6, .pointer (sp a0)), (7, .pointer (sp a2)), (8, .slice (sp a5) 16 16), (9, .int .i64 b2)] ∧ reliquaryref04_Block.L1 l0 a1 l2 r0 kL1 b6 b2 ∧ (b6.length = 16) ∧ St w w_ [.obj a5 (.cells a7.toArray 5 (16, 16 + 1)), .cells a2 (iv .u32 b6) 166, .cells a0 (iv .u8 (List.replicate 64 (0 : Int))) 158, .cells a3 (iv .u8 l2) 140, .cells a4 (iv .u8 l0) 23]) (k := i7) ⟨List.replicate 16 (0 : Int), 0, rfl, H, (List.length_replicate ..), d1⟩ (fun _ _ h => by obtain ⟨_, _, _, h, _⟩ := h; exact h.elim) ?_
 rintro kL1 q5 i8 ⟨b6, b2, rfl, H, d2, d3⟩
 refine CW.seq (cr (WL.mv rfl ?_))
 refine WL.v (Runs.lss rfl rfl rfl) ?_
 refine wn ?_
 rcases H with ⟨d4, H⟩ | ⟨d4, H⟩
 ·have d5 : (decide (b2 < 4)) = true := (decide_eq_true d4)
  refine CW.ct rfl d5 ?_
  refine CW.skip (QW.then_n (CW.seq (CW.block (CW.region (WL.mv rfl (WL.mv rfl (WL.mv rfl ?_)))))))
  refine WL.v (Runs.mul rfl rfl rfl) ?_
  obtain ⟨g7, i9, H⟩ := H
  refine WL.call Wanted.none ent87 rfl (reliquaryref04_at.calls i8 [101, 120, 112, 97, 110, 100, 32, 51, 50, 45, 98, 121, 116, 101, 32, 107] (IntKind.i64.wrap (4 * b2)) (sp a5) 16 16 (d3.src_obj (i := 0) rfl i6) (rfl) (i5) g7 i9) ?_
  rintro _ j0 ⟨rfl, j1⟩
  have j2 := d3.call j1
  refine ⟨_, rfl, ?_⟩
  obtain ⟨⟨j3, j4⟩, H⟩ := H
  refine WL.v (Runs.indexAddr_blk arr166 rfl rfl j3 j4 (o := (b2).toNat) (by first | rfl | omega)) ?_
  obtain ⟨d6, g8, H⟩ := H
  have j5 : d6.length = 16 := by rw [g8, List.length_set]; exact d2
  refine WL.store_cells (i := 1) j2 rfl cells24 rfl (by rw [iv_length]; have := d2; omega) rfl rfl ?_
  intro j6 d7
  have d7' : St w j6 [.obj a5 (.cells a7.toArray 5 (16, 16 + 1)), .cells a2 (iv .u32 d6) 166, .cells a0 (iv .u8 (List.replicate 64 (0 : Int))) 158, .cells a3 (iv .u8 l2) 140, .cells a4 (iv .u8 l0) 23] := by rw [g8, ← iv_set .u32 b6 (b2.toNat) g7]; exact d7
  refine WL.nil (QW.blk_n (QW.then_n (CW.region (WL.mv rfl ?_))))
  refine WL.v (Runs.add rfl rfl rfl) ?_
  refine WL.as rfl (WL.nil ?_)
  exact QW.at _ (by repeat' constructor) ⟨d6, IntKind.i64.wrap (b2 + 1), rfl, H, j5, d7'⟩
 have d5 : (decide (b2 < 4)) = false := (decide_eq_false d4)
 refine CW.cf rfl d5 ?_
 refine CW.exit (QW.then_x (QW.then_x (QW.blk_x (QW.then_n (CW.seq (cr (WL.as rfl (wn (CW.block ?_)))))))))
 obtain ⟨j7, H⟩ := H
 refine CW.sub [(1, .int .u32 a1), (3, .pointer (sp a4)), (5, .pointer (sp a3)), (6, .pointer (sp a0)), (7, .pointer (sp a2)), (10, .int .i64 0)] (by repeat' constructor) ?_
 refine CW.loop (fun kL2 l_ w_ => ∃ (b7 : List Int) (b3 : Int), l_ = [(1, .int .u32 a1), (3, .pointer (sp a4)), (5, .pointer (sp a3)), (6, .pointer (sp a0)), (7, .pointer (sp a2)), (10, .int .i64 b3)] ∧ reliquaryref04_Block.L2 l0 a1 l2 r0 kL2 b7 b3 ∧ (b7.length = 16) ∧ St w w_ [.obj a5 (.cells a7.toArray 5 (16, 16 + 1)), .cells a2 (iv .u32 b7) 166, .cells a0 (iv .u8 (List.replicate 64 (0 : Int))) 158, .cells a3 (iv .u8 l2) 140, .cells a4 (iv .u8 l0) 23]) (k := j7) ⟨b6, 0, rfl, H, d2, d3⟩ (fun _ _ h => by obtain ⟨_, _, _, h, _⟩ := h; exact h.elim) ?_
 rintro kL2 q6 j8 ⟨b7, b3, rfl, H, c5, d8⟩
 refine CW.seq (cr (WL.mv rfl ?_))
 refine WL.v (Runs.lss rfl rfl rfl) ?_
 refine wn ?_
 rcases H with ⟨d9, H⟩ | ⟨d9, H⟩
 ·have e0 : (decide (b3 < 8)) = true := (decide_eq_true d9)
  refine CW.ct rfl e0 ?_
  refine CW.skip (QW.then_n (CW.seq (CW.block (CW.region (WL.mv rfl ?_)))))
  refine WL.v (Runs.add rfl rfl rfl) ?_
  refine WL.v (Runs.slice_arr arr23 rfl (by decide)) ?_
  refine WL.mv rfl ?_
  refine WL.v (Runs.mul rfl rfl rfl) ?_
  obtain ⟨g9, j9, H⟩ := H
  refine WL.call Wanted.none ent87 rfl (reliquaryref04_at.calls j8 l0 (IntKind.i64.wrap (4 * b3)) (sp a4) 32 32 (d8.src_blk (i := 4) rfl) ((hl0).symm) (Nat.le_refl _) g9 j9) ?_
  rintro _ k0 ⟨rfl, k1⟩
  have k2 := d8.call k1
  refine ⟨_, rfl, ?_⟩
  obtain ⟨⟨k3, k4⟩, H⟩ := H
  refine WL.v (Runs.indexAddr_blk arr166 rfl rfl k3 k4 (o := (IntKind.i64.wrap (4 + b3)).toNat) (by first | rfl | omega)) ?_
  obtain ⟨e1, h0, H⟩ := H
  have k5 : e1.length = 16 := by rw [h0, List.length_set]; exact c5
  refine WL.store_cells (i := 1) k2 rfl cells24 rfl (by rw [iv_length]; have := c5; omega) rfl rfl ?_
  intro k6 e2
  have e2' : St w k6 [.obj a5 (.cells a7.toArray 5 (16, 16 + 1)), .cells a2 (iv .u32 e1) 166, .cells a0 (iv .u8 (List.replicate 64 (0 : Int))) 158, .cells a3 (iv .u8 l2) 140, .cells a4 (iv .u8 l0) 23] := by rw [h0, ← iv_set .u32 b7 ((IntKind.i64.wrap (4 + b3)).toNat) g9]; exact e2
  refine WL.nil (QW.blk_n (QW.then_n (CW.region (WL.mv rfl ?_))))
  refine WL.v (Runs.add rfl rfl rfl) ?_
  refine WL.as rfl (WL.nil ?_)
  exact QW.at _ (by repeat' constructor) ⟨e1, IntKind.i64.wrap (b3 + 1), rfl, H, k5, e2'⟩
 have e0 : (decide (b3 < 8)) = false := (decide_eq_false d9)
 refine CW.cf rfl e0 ?_
 refine CW.exit (QW.then_x (QW.then_x (QW.blk_x (QW.then_n (cr (WL.mv rfl ?_))))))
 refine WL.v (Runs.indexAddr_blk arr166 rfl rfl (by decide) (by decide) (o := 12) (by first | rfl | omega)) ?_
 obtain ⟨e3, h1, H⟩ := H
 have k7 : e3.length = 16 := by rw [h1, List.length_set]; exact c5
 refine WL.store_cells (i := 1) d8 rfl cells24 rfl (by rw [iv_length]; have := c5; omega) rfl rfl ?_
 intro k8 e4
 have e4' : St w k8 [.obj a5 (.cells a7.toArray 5 (16, 16 + 1)), .cells a2 (iv .u32 e3) 166, .cells a0 (iv .u8 (List.replicate 64 (0 : Int))) 158, .cells a3 (iv .u8 l2) 140, .cells a4 (iv .u8 l0) 23] := by rw [h1, ← iv_set .u32 b7 12 a1]; exact e4
 refine wn ?_
 refine CW.sub [(5, .pointer (sp a3)), (6, .pointer (sp a0)), (7, .pointer (sp a2))] ⟨rfl, rfl, rfl, trivial⟩ ?_
 refine CW.seq (cr (WL.as rfl (wn (CW.block ?_))))
 obtain ⟨k9, H⟩ := H
 refine CW.sub [(5, .pointer (sp a3)), (6, .pointer (sp a0)), (7, .pointer (sp a2)), (11, .int .i64 0)] ⟨rfl, rfl, rfl, rfl, trivial⟩ ?_
 refine CW.loop (fun kL3 l_ w_ => ∃ (a6 : List Int) (b4 : Int), l_ = [(5, .pointer (sp a3)), (6, .pointer (sp a0)), (7, .pointer (sp a2)), (11, .int .i64 b4)] ∧ reliquaryref04_Block.L3 l2 r0 kL3 a6 b4 ∧ (a6.length = 16) ∧ St w w_ [.obj a5 (.cells a7.toArray 5 (16, 16 + 1)), .cells a2 (iv .u32 a6) 166, .cells a0 (iv .u8 (List.replicate 64 (0 : Int))) 158, .cells a3 (iv .u8 l2) 140, .cells a4 (iv .u8 l0) 23]) (k := k9) ⟨e3, 0, rfl, H, k7, e4'⟩ (fun _ _ h => by obtain ⟨_, _, _, h, _⟩ := h; exact h.elim) ?_
 rintro kL3 q7 l1 ⟨a6, b4, rfl, H, c2, c6⟩
 refine CW.seq (cr (WL.mv rfl ?_))
 refine WL.v (Runs.lss rfl rfl rfl) ?_
 refine wn ?_
 rcases H with ⟨e5, H⟩ | ⟨e5, H⟩
 ·have e6 : (decide (b4 < 3)) = true := (decide_eq_true e5)
  refine CW.ct rfl e6 ?_
  refine CW.skip (QW.then_n (CW.seq (CW.block (CW.region (WL.mv rfl ?_)))))
  refine WL.v (Runs.add rfl rfl rfl) ?_
  refine WL.v (Runs.slice_arr arr140 rfl (by decide)) ?_
  refine WL.mv rfl ?_
  refine WL.v (Runs.mul rfl rfl rfl) ?_
  obtain ⟨h2, l3, H⟩ := H
  refine WL.call Wanted.none ent87 rfl (reliquaryref04_at.calls l1 l2 (IntKind.i64.wrap (4 * b4)) (sp a3) 12 12 (c6.src_blk (i := 3) rfl) ((hl2).symm) (Nat.le_refl _) h2 l3) ?_
  rintro _ l4 ⟨rfl, l5⟩
  have l6 := c6.call l5
  refine ⟨_, rfl, ?_⟩
  obtain ⟨⟨l7, l8⟩, H⟩ := H
  refine WL.v (Runs.indexAddr_blk arr166 rfl rfl l7 l8 (o := (IntKind.i64.wrap (13 + b4)).toNat) (by first | rfl | omega)) ?_
  obtain ⟨e7, h3, H⟩ := H
  have l9 : e7.length = 16 := by rw [h3, List.length_set]; exact c2
  refine WL.store_cells (i := 1) l6 rfl cells24 rfl (by rw [iv_length]; have := c2; omega) rfl rfl ?_
  intro m0 e8
  have e8' : St w m0 [.obj a5 (.cells a7.toArray 5 (16, 16 + 1)), .cells a2 (iv .u32 e7) 166, .cells a0 (iv .u8 (List.replicate 64 (0 : Int))) 158, .cells a3 (iv .u8 l2) 140, .cells a4 (iv .u8 l0) 23] := by rw [h3, ← iv_set .u32 a6 ((IntKind.i64.wrap (13 + b4)).toNat) h2]; exact e8
  refine WL.nil (QW.blk_n (QW.then_n (CW.region (WL.mv rfl ?_))))
  refine WL.v (Runs.add rfl rfl rfl) ?_
  refine WL.as rfl (WL.nil ?_)
  exact QW.at _ (by repeat' constructor) ⟨e7, IntKind.i64.wrap (b4 + 1), rfl, H, l9, e8'⟩
 have e6 : (decide (b4 < 3)) = false := (decide_eq_false e5)
 refine CW.cf rfl e6 ?_
 refine CW.exit (QW.then_x (QW.then_x (QW.blk_x (QW.then_n (cr ?_)))))
 refine WL.v (Runs.load_arr arr166 rfl (c6.blk (i := 1) rfl) c2) ?_
 refine WL.alloc c6 arr166.zero ?_
 intro a9 q8 m1
 refine WL.store_arr (i := 0) m1 rfl arr166 rfl (by rw [iv_length]; exact (List.length_replicate ..)) c2 rfl ?_
 intro m2 e9
 try dsimp only [List.set] at e9
 refine wn (CW.seq (cr (WL.as rfl (wn (CW.block ?_)))))
 obtain ⟨m3, H⟩ := H
 refine CW.sub [(6, .pointer (sp a0)), (7, .pointer (sp a2)), (12, .pointer (sp a9)), (13, .int .i64 0)] ⟨rfl, rfl, rfl, rfl, trivial⟩ ?_
 refine CW.loop (fun kL4 l_ w_ => ∃ (b5 : List Int) (a8 : Int), l_ = [(6, .pointer (sp a0)), (7, .pointer (sp a2)), (12, .pointer (sp a9)), (13, .int .i64 a8)] ∧ reliquaryref04_Block.L4 r0 a6 kL4 b5 a8 ∧ (b5.length = 16) ∧ St w w_ [.cells a9 (iv .u32 b5) 166, .obj a5 (.cells a7.toArray 5 (16, 16 + 1)), .cells a2 (iv .u32 a6) 166, .cells a0 (iv .u8 (List.replicate 64 (0 : Int))) 158, .cells a3 (iv .u8 l2) 140, .cells a4 (iv .u8 l0) 23]) (k := m3) ⟨a6, 0, rfl, H, c2, e9⟩ (fun _ _ h => by obtain ⟨_, _, _, h, _⟩ := h; exact h.elim) ?_
 rintro kL4 q9 r1 ⟨b5, a8, rfl, H, h4, h5⟩
 refine CW.seq (cr (WL.mv rfl ?_))
 refine WL.v (Runs.lss rfl rfl rfl) ?_
 refine wn ?_
 rcases H with ⟨f0, H⟩ | ⟨f0, H⟩
 ·have f1 : (decide (a8 < 10)) = true := (decide_eq_true f0)
  refine CW.ct rfl f1 ?_
  refine CW.skip (QW.then_n (CW.seq (CW.block (CW.seq (cr (WL.as rfl (wn (CW.block ?_))))))))
  obtain ⟨m4, H⟩ := H
  refine CW.sub [(6, .pointer (sp a0)), (7, .pointer (sp a2)), (12, .pointer (sp a9)), (13, .int .i64 a8), (56, .int .i64 a8), (57, .bool (decide (a8 < 10))), (14, .int .i64 0)] (by repeat' constructor) ?_
  refine CW.loop (fun kL5 l_ w_ => ∃ (b8 : List Int) (b0 : Int), l_ = [(6, .pointer (sp a0)), (7, .pointer (sp a2)), (12, .pointer (sp a9)), (13, .int .i64 a8), (56, .int .i64 a8), (57, .bool (decide (a8 < 10))), (14, .int .i64 b0)] ∧ reliquaryref04_Block.L5 a8 (reliquaryref04_Block.L4 r0 a6 kL4) kL5 b8 b0 ∧ (b8.length = 16) ∧ St w w_ [.cells a9 (iv .u32 b8) 166, .obj a5 (.cells a7.toArray 5 (16, 16 + 1)), .cells a2 (iv .u32 a6) 166, .cells a0 (iv .u8 (List.replicate 64 (0 : Int))) 158, .cells a3 (iv .u8 l2) 140, .cells a4 (iv .u8 l0) 23]) (k := m4) ⟨b5, 0, rfl, H, h4, h5⟩ (fun _ _ h => by obtain ⟨_, _, _, h, _⟩ := h; exact h.elim) ?_
  rintro kL5 r2 m5 ⟨b8, b0, rfl, H, c7, f2⟩
  refine CW.seq (cr (WL.mv rfl ?_))
  refine WL.v (Runs.lss rfl rfl rfl) ?_
  refine wn ?_
  rcases H with ⟨f3, H⟩ | ⟨f3, H⟩
  ·have f4 : (decide (b0 < 4)) = true := (decide_eq_true f3)
   refine CW.ct rfl f4 ?_
   refine CW.skip (QW.then_n (CW.seq (CW.block (CW.region ?_))))
   refine WL.v (Runs.load_arr arr166 rfl (f2.blk (i := 0) rfl) c7) ?_
   refine WL.mv rfl (WL.mv rfl ?_)
   refine WL.v (Runs.add rfl rfl rfl) ?_
   refine WL.mv rfl ?_
   refine WL.v (Runs.add rfl rfl rfl) ?_
   refine WL.mv rfl ?_
   refine WL.v (Runs.add rfl rfl rfl) ?_
   obtain ⟨f5, m6, H⟩ := H
   refine WL.call Wanted.none ent88 rfl (reliquaryref04_quarter.calls m5 b8 b0 (IntKind.i64.wrap (4 + b0)) (IntKind.i64.wrap (8 + b0)) (IntKind.i64.wrap (12 + b0)) c7 f5 m6) ?_
   rintro _ m7 ⟨h6, rfl, m8⟩
   have m9 := f2.call m8
   refine ⟨_, rfl, ?_⟩
   refine WL.store_arr (i := 0) m9 rfl arr166 rfl (by rw [iv_length]; exact c7) h6 rfl ?_
   intro n0 f6
   try dsimp only [List.set] at f6
   refine WL.nil (QW.blk_n (QW.then_n (CW.region (WL.mv rfl ?_))))
   refine WL.v (Runs.add rfl rfl rfl) ?_
   refine WL.as rfl (WL.nil ?_)
   exact QW.at _ (by repeat' constructor) ⟨f5, IntKind.i64.wrap (b0 + 1), rfl, H, h6, f6⟩
  have f4 : (decide (b0 < 4)) = false := (decide_eq_false f3)
  refine CW.cf rfl f4 ?_
  refine CW.exit (QW.then_x (QW.then_x (QW.blk_x (QW.then_n (cr (WL.as rfl (wn (CW.block ?_))))))))
  obtain ⟨n1, H⟩ := H
  refine CW.sub [(6, .pointer (sp a0)), (7, .pointer (sp a2)), (12, .pointer (sp a9)), (13, .int .i64 a8), (56, .int .i64 a8), (57, .bool (decide (a8 < 10))), (14, .int .i64 b0), (60, .int .i64 b0), (61, .bool (decide (b0 < 4))), (15, .int .i64 0)] (by repeat' constructor) ?_
  refine CW.loop (fun kL6 l_ w_ => ∃ (b9 : List Int) (c0 : Int), l_ = [(6, .pointer (sp a0)), (7, .pointer (sp a2)), (12, .pointer (sp a9)), (13, .int .i64 a8), (56, .int .i64 a8), (57, .bool (decide (a8 < 10))), (14, .int .i64 b0), (60, .int .i64 b0), (61, .bool (decide (b0 < 4))), (15, .int .i64 c0)] ∧ reliquaryref04_Block.L6 a8 (reliquaryref04_Block.L4 r0 a6 kL4) kL6 b9 c0 ∧ (b9.length = 16) ∧ St w w_ [.cells a9 (iv .u32 b9) 166, .obj a5 (.cells a7.toArray 5 (16, 16 + 1)), .cells a2 (iv .u32 a6) 166, .cells a0 (iv .u8 (List.replicate 64 (0 : Int))) 158, .cells a3 (iv .u8 l2) 140, .cells a4 (iv .u8 l0) 23]) (k := n1) ⟨b8, 0, rfl, H, c7, f2⟩ (fun _ _ h => by obtain ⟨_, _, _, h, _⟩ := h; exact h.elim) ?_
  rintro kL6 r3 n2 ⟨b9, c0, rfl, H, c8, f7⟩
  refine CW.seq (cr (WL.mv rfl ?_))
  refine WL.v (Runs.lss rfl rfl rfl) ?_
  refine wn ?_
  rcases H with ⟨f8, H⟩ | ⟨f8, H⟩
  ·have f9 : (decide (c0 < 4)) = true := (decide_eq_true f8)
   refine CW.ct rfl f9 ?_
   refine CW.skip (QW.then_n (CW.seq (CW.block (CW.region ?_))))
   refine WL.v (Runs.load_arr arr166 rfl (f7.blk (i := 0) rfl) c8) ?_
   refine WL.mv rfl (WL.mv rfl ?_)
   refine WL.v (Runs.add rfl rfl rfl) ?_
   refine WL.v (Runs.rem rfl rfl (by decide) rfl) ?_
   obtain ⟨n3, n4, H⟩ := H
   refine WL.v (Runs.add rfl rfl n4) ?_
   refine WL.mv rfl ?_
   refine WL.v (Runs.add rfl rfl rfl) ?_
   refine WL.v (Runs.rem rfl rfl (by decide) rfl) ?_
   obtain ⟨n5, n6, H⟩ := H
   refine WL.v (Runs.add rfl rfl n6) ?_
   refine WL.mv rfl ?_
   refine WL.v (Runs.add rfl rfl rfl) ?_
   refine WL.v (Runs.rem rfl rfl (by decide) rfl) ?_
   obtain ⟨n7, n8, H⟩ := H
   refine WL.v (Runs.add rfl rfl n8) ?_
   obtain ⟨g0, n9, H⟩ := H
   refine WL.call Wanted.none ent88 rfl (reliquaryref04_quarter.calls n2 b9 c0 n3 n5 n7 c8 g0 n9) ?_
   rintro _ o0 ⟨h7, rfl, o1⟩
   have o2 := f7.call o1
   refine ⟨_, rfl, ?_⟩
   refine WL.store_arr (i := 0) o2 rfl arr166 rfl (by rw [iv_length]; exact c8) h7 rfl ?_
   intro o3 g1
   try dsimp only [List.set] at g1
   refine WL.nil (QW.blk_n (QW.then_n (CW.region (WL.mv rfl ?_))))
   refine WL.v (Runs.add rfl rfl rfl) ?_
   refine WL.as rfl (WL.nil ?_)
   exact QW.at _ (by repeat' constructor) ⟨g0, IntKind.i64.wrap (c0 + 1), rfl, H, h7, g1⟩
  have f9 : (decide (c0 < 4)) = false := (decide_eq_false f8)
  refine CW.cf rfl f9 ?_
  refine CW.exit (QW.then_x (QW.then_x (QW.blk_x (QW.blk_n (QW.then_n (CW.region (WL.mv rfl ?_)))))))
  refine WL.v (Runs.add rfl rfl rfl) ?_
  refine WL.as rfl (WL.nil ?_)
  exact QW.at _ (by repeat' constructor) ⟨b9, IntKind.i64.wrap (a8 + 1), rfl, H, c8, f7⟩
 have f1 : (decide (a8 < 10)) = false := (decide_eq_false f0)
 refine CW.cf rfl f1 ?_
 refine CW.exit (QW.then_x (QW.then_x (QW.blk_x (QW.then_n (cr ?_)))))
 refine WL.alloc h5 arr158.zero ?_
 intro c4 r4 o4
 refine wn (CW.seq (cr (WL.as rfl (wn (CW.block ?_)))))
 obtain ⟨o5, H⟩ := H
 refine CW.sub [(6, .pointer (sp a0)), (7, .pointer (sp a2)), (12, .pointer (sp a9)), (16, .pointer (sp c4)), (17, .int .i64 0)] ⟨rfl, rfl, rfl, rfl, rfl, trivial⟩ ?_
 refine CW.loop (fun kL7 l_ w_ => ∃ (c1 : List Int) (b1 : Int), l_ = [(6, .pointer (sp a0)), (7, .pointer (sp a2)), (12, .pointer (sp a9)), (16, .pointer (sp c4)), (17, .int .i64 b1)] ∧ reliquaryref04_Block.L7 r0 a6 b5 kL7 c1 b1 ∧ (c1.length = 64) ∧ St w w_ [.cells c4 (iv .u8 c1) 158, .cells a9 (iv .u32 b5) 166, .obj a5 (.cells a7.toArray 5 (16, 16 + 1)), .cells a2 (iv .u32 a6) 166, .cells a0 (iv .u8 (List.replicate 64 (0 : Int))) 158, .cells a3 (iv .u8 l2) 140, .cells a4 (iv .u8 l0) 23]) (k := o5) ⟨List.replicate 64 (0 : Int), 0, rfl, H, (List.length_replicate ..), o4⟩ (fun _ _ h => by obtain ⟨_, _, _, h, _⟩ := h; exact h.elim) ?_
 rintro kL7 r5 r6 ⟨c1, b1, rfl, H, c3, g2⟩
 refine CW.seq (cr (WL.mv rfl ?_))
 refine WL.v (Runs.lss rfl rfl rfl) ?_
 refine wn ?_
 rcases H with ⟨g3, H⟩ | ⟨g3, H⟩
 ·have g4 : (decide (b1 < 64)) = true := (decide_eq_true g3)
  refine CW.ct rfl g4 ?_
  refine CW.skip (QW.then_n (CW.seq (CW.block (CW.seq ?_))))
  refine CW.region_qa wide (by kernel_rfl) g2 ?_
  refine HL.mv rfl ?_
  refine HL.v (fun wq sq => (Runs.quo rfl rfl (by decide) rfl)) ?_
  obtain ⟨⟨o6, o7⟩, H⟩ := H
  refine HL.v (fun wq sq => (Runs.indexAddr_blk arr166 rfl rfl o6 o7 (o := (IntKind.i64.wrap (Int.tdiv b1 4)).toNat) (by first | rfl | omega))) ?_
  refine HL.v (fun wq sq => (Runs.load nagg24 rfl (sq.cell_iv (i := 1) rfl (by have := h4; omega)))) ?_
  refine HL.mv rfl ?_
  refine HL.v (fun wq sq => (Runs.quo rfl rfl (by decide) rfl)) ?_
  obtain ⟨⟨o8, o9⟩, H⟩ := H
  refine HL.v (fun wq sq => (Runs.indexAddr_blk arr166 rfl rfl o8 o9 (o := (IntKind.i64.wrap (Int.tdiv b1 4)).toNat) (by first | rfl | omega))) ?_
  refine HL.v (fun wq sq => (Runs.load nagg24 rfl (sq.cell_iv (i := 3) rfl (by have := c2; omega)))) ?_
  obtain ⟨r7, p0, H⟩ := H
  refine HL.v (fun wq sq => (Runs.add rfl rfl p0)) ?_
  refine HL.as rfl ?_
  refine HL.nil (fun r8 p1 => ?_)
  refine wn (CW.region (WL.mv rfl (WL.mv rfl (WL.mv rfl ?_))))
  refine WL.v (Runs.rem rfl rfl (by decide) rfl) ?_
  refine WL.v (Runs.mul rfl rfl rfl) ?_
  refine WL.v (Runs.conv Tryd.underlying133 ⟨_, Tryd.underlying3⟩ rfl rfl) ?_
  obtain ⟨p2, H⟩ := H
  obtain ⟨p3, p4, H⟩ := H
  refine WL.v (Runs.shr rfl rfl p2 p4) ?_
  refine WL.v (Runs.conv Tryd.underlying5 ⟨_, Tryd.underlying24⟩ rfl rfl) ?_
  obtain ⟨⟨p5, p6⟩, H⟩ := H
  refine WL.v (Runs.indexAddr_blk arr158 rfl rfl p5 p6 (o := (b1).toNat) (by first | rfl | omega)) ?_
  obtain ⟨g5, h8, H⟩ := H
  have p7 : g5.length = 64 := by rw [h8, List.length_set]; exact c3
  refine WL.store_cells (i := 0) p1 rfl cells5 rfl (by rw [iv_length]; have := c3; omega) rfl rfl ?_
  intro p8 g6
  have g6' : St w p8 [.cells c4 (iv .u8 g5) 158, .cells a9 (iv .u32 b5) 166, .obj a5 (.cells a7.toArray 5 (16, 16 + 1)), .cells a2 (iv .u32 a6) 166, .cells a0 (iv .u8 (List.replicate 64 (0 : Int))) 158, .cells a3 (iv .u8 l2) 140, .cells a4 (iv .u8 l0) 23] := by rw [h8, ← iv_set .u8 c1 (b1.toNat) (IntKind.u8.wrap p3)]; exact g6
  refine WL.nil (QW.blk_n (QW.then_n (CW.region (WL.mv rfl ?_))))
  refine WL.v (Runs.add rfl rfl rfl) ?_
  refine WL.as rfl (WL.nil ?_)
  exact QW.at _ (by repeat' constructor) ⟨g5, IntKind.i64.wrap (b1 + 1), rfl, H, p7, g6'⟩
 have g4 : (decide (b1 < 64)) = false := (decide_eq_false g3)
 refine CW.cf rfl g4 ?_
 refine CW.exit (QW.then_x (QW.then_x (QW.blk_x (QW.then_n (cr ?_)))))
 refine WL.v (Runs.load_arr arr158 rfl (g2.blk (i := 0) rfl) c3) ?_
 refine WL.store_arr (i := 4) g2 rfl arr158 rfl (by rw [iv_length]; exact (List.length_replicate ..)) c3 rfl ?_
 intro p9 c9
 try dsimp only [List.set] at c9
 refine wn (CW.ret ?_)
 obtain rfl := H
 exact QW.retc rfl arr158 rfl (c9.blk (i := 4) rfl) c3 ⟨c3, rfl, c9.pick [] (by decide)⟩
/-! ### reliquaryref04_Crypt: function 65 -/
def reliquaryref04_Crypt.L2 (l3 : List Int) (a2 : Int) (a3 : List Int) (K_L1 : (List Int) → Int → Prop) : Nat → (List Int) → Int → Prop
 | 0, _, _ => False
 | kL2 + 1, a4, a0 => ((a0 < 64 ∧ (∃ a1 : Int, a1 = IntKind.i64.wrap ((IntKind.i64.wrap ((IntKind.i64.wrap a2) * 64)) + a0) ∧ ((a1 < (l3.length : Int) ∧ ((0 ≤ a1 ∧ a1 < (l3.length : Int)) ∧ ((0 ≤ a0 ∧ a0 < (64 : Int)) ∧ (∃ a6 : Int, a6 = bits .xor .u8 (gn l3 (a1.toNat)) (gn a3 (a0.toNat)) ∧ (∃ a5 : List Int, a5 = a4 ++ [a6] ∧ (a5.length ≤ 1099511627776 ∧ reliquaryref04_Crypt.L2 l3 a2 a3 K_L1 kL2 a5 (IntKind.i64.wrap (a0 + 1)))))))) ∨ (¬ (a1 < (l3.length : Int)) ∧ reliquaryref04_Crypt.L2 l3 a2 a3 K_L1 kL2 a4 (IntKind.i64.wrap (a0 + 1)))))) ∨ (¬ (a0 < 64) ∧ K_L1 a4 (IntKind.u64.wrap (a2 + 1))))
def reliquaryref04_Crypt.L1 (l0 : List Int) (a1 : Int) (l2 : List Int) (l3 : List Int) (r0 : List Int) (r1 : Int) (a2 : Int) : Nat → (List Int) → Int → Prop
 | 0, _, _ => False
 | kL1 + 1, a3, a0 => ((a0 < a2 ∧ (∃ (a4 : List Int), reliquaryref04_Block.rel l0 (IntKind.u32.wrap (a1 + (IntKind.u32.wrap a0))) l2 a4 ∧ (∃ k_ : Nat, reliquaryref04_Crypt.L2 l3 a0 a4 (reliquaryref04_Crypt.L1 l0 a1 l2 l3 r0 r1 a2 kL1) k_ a3 0))) ∨ (¬ (a0 < a2) ∧ r0 = a3 ∧ r1 = 0))
def reliquaryref04_Crypt.rel (l0 : List Int) (a1 : Int) (l2 : List Int) (l3 : List Int) (r0 : List Int) (r1 : Int) : Prop := (∃ a0 : Int, a0 = IntKind.u64.wrap (Int.tdiv (IntKind.u64.wrap (IntKind.i64.wrap ((l3.length : Int) + 63))) 64) ∧ (((IntKind.u64.wrap ((IntKind.u64.wrap a1) + a0)) > 4294967296 ∧ r0 = [] ∧ r1 = 1) ∨ (¬ ((IntKind.u64.wrap ((IntKind.u64.wrap a1) + a0)) > 4294967296) ∧ (∃ k_ : Nat, reliquaryref04_Crypt.L1 l0 a1 l2 l3 r0 r1 a0 k_ ([] : List Int) 0))))
set_option maxHeartbeats 4000000 in
theorem reliquaryref04_Crypt.calls (w : World) (l0 : List Int) (a1 : Int) (l2 : List Int) (l3 : List Int) (A3 : Option Addr) (n3 : Nat) (c3 : Nat)  (hl0 : l0.length = 32) (hl2 : l2.length = 12) (hs3 : Src w A3 (iv .u8 l3)) (hn3 : n3 = l3.length) (hc3 : n3 ≤ c3) (r0 : List Int) (r1 : Int) (H : reliquaryref04_Crypt.rel l0 a1 l2 l3 r0 r1) :
  Calls Tryd.prog 65 #[.agg (iv .u8 l0).toArray, .int .u32 a1, .agg (iv .u8 l2).toArray, .slice A3 n3 c3] w fun e w' => ∃ B0 q0 z0, z0 = r0.length ∧ e = .returned (.tuple #[.slice B0 z0 q0, .int .i64 r1]) ∧ St w w' [.sl B0 q0 z0 (iv .u8 r0) 5 1] := by
 refine CW.enter Tryd.func65 rfl (n := 63) rfl [.agg (iv .u8 l0).toArray, .int .u32 a1, .agg (iv .u8 l2).toArray, .slice A3 n3 c3] (Nat.le_of_ble_eq_true rfl) ?_
 refine CW.sub [(0, .agg (iv .u8 l0).toArray), (1, .int .u32 a1), (2, .agg (iv .u8 l2).toArray), (3, .slice A3 n3 c3)] ⟨rfl, rfl, rfl, rfl, trivial⟩ ?_
 have st0 : St w w [] := St.refl w
 refine cr ?_
 refine WL.box st0 rfl rfl ?_
 intro a3 g8 e8
 refine WL.box e8 rfl rfl ?_
 intro a4 d9 e0
 refine WL.as rfl (WL.as rfl (WL.nx (WL.mv rfl ?_)))
 refine WL.v (Runs.len_sl Tryd.underlying25 rfl (by rw [hn3])) ?_
 refine WL.v (Runs.add rfl rfl rfl) ?_
 refine WL.v (Runs.conv Tryd.underlying37 ⟨_, Tryd.underlying3⟩ rfl rfl) ?_
 obtain ⟨a2, e9, H⟩ := H
 refine WL.v (Runs.quo rfl rfl (by decide) e9) ?_
 refine WL.as rfl (wn ?_)
 refine CW.sub [(1, .int .u32 a1), (3, .slice A3 n3 c3), (4, .pointer (sp a3)), (6, .pointer (sp a4)), (8, .slice none 0 0), (9, .int .i64 0), (10, .int .u64 a2)] (by repeat' constructor) ?_
 refine CW.seq (cr (WL.mv rfl ?_))
 refine WL.v (Runs.conv Tryd.underlying37 ⟨_, Tryd.underlying24⟩ rfl rfl) ?_
 refine WL.mv rfl ?_
 refine WL.v (Runs.add rfl rfl rfl) ?_
 refine WL.v (Runs.gtr rfl rfl rfl) ?_
 refine wn ?_
 rcases H with ⟨c4, H⟩ | ⟨c4, H⟩
 ·have c5 : (decide ((IntKind.u64.wrap ((IntKind.u64.wrap a1) + a2)) > 4294967296)) = true := (decide_eq_true c4)
  refine CW.ct rfl c5 ?_
  refine cr (WL.as rfl (WL.as rfl (wn (CW.ret (QW.then_r ?_)))))
  have c6 := e0.nil_sl 5 1
  have c6 : St w d9 [.sl none 0 0 (iv .u8 ([] : List Int)) 5 1, .cells a4 (iv .u8 l2) 140, .cells a3 (iv .u8 l0) 23] := c6
  obtain ⟨rfl, rfl⟩ := H
  exact QW.ret2 rfl rfl rfl ⟨none, 0, 0, rfl, rfl, c6.pick [0] (by decide)⟩
 have c5 : (decide ((IntKind.u64.wrap ((IntKind.u64.wrap a1) + a2)) > 4294967296)) = false := (decide_eq_false c4)
 refine CW.cf rfl c5 ?_
 refine CW.skip (QW.then_n (cr (WL.as rfl (wn (CW.seq (cr (WL.as rfl (wn (CW.block ?_)))))))))
 have c7 := e0.nil_sl 5 1
 have c7 : St w d9 [.sl none 0 0 (iv .u8 ([] : List Int)) 5 1, .cells a4 (iv .u8 l2) 140, .cells a3 (iv .u8 l0) 23] := c7
 obtain ⟨f0, H⟩ := H
 refine CW.sub [(1, .int .u32 a1), (3, .slice A3 n3 c3), (4, .pointer (sp a3)), (6, .pointer (sp a4)), (8, .slice none 0 0), (9, .int .i64 0), (10, .int .u64 a2), (11, .slice none 0 0), (12, .int .u64 0)] (by repeat' constructor) ?_
 refine CW.loop (fun kL1 l_ w_ => ∃ (a7 : Option Addr) (a8 : Nat) (a6 : Nat) (b3 : List Int) (a0 : Int), l_ = [(1, .int .u32 a1), (3, .slice A3 n3 c3), (4, .pointer (sp a3)), (6, .pointer (sp a4)), (8, .slice none 0 0), (9, .int .i64 0), (10, .int .u64 a2), (11, .slice a7 a6 a8), (12, .int .u64 a0)] ∧ reliquaryref04_Crypt.L1 l0 a1 l2 l3 r0 r1 a2 kL1 b3 a0 ∧ (a6 = b3.length) ∧ St w w_ [.sl a7 a8 a6 (iv .u8 b3) 5 1, .cells a4 (iv .u8 l2) 140, .cells a3 (iv .u8 l0) 23]) (k := f0) ⟨none, 0, 0, ([] : List Int), 0, rfl, H, rfl, c7⟩ (fun _ _ h => by obtain ⟨_, _, _, _, _, _, h, _⟩ := h; exact h.elim) ?_
 rintro kL1 g9 f1 ⟨a7, a8, a6, b3, a0, rfl, H, e1, c0⟩
 refine CW.seq (cr (WL.mv rfl (WL.mv rfl ?_)))
 refine WL.v (Runs.lss rfl rfl rfl) ?_
 refine wn ?_
 rcases H with ⟨c8, H⟩ | ⟨c8, H⟩
 ·have c9 : (decide (a0 < a2)) = true := (decide_eq_true c8)
  refine CW.ct rfl c9 ?_
  refine CW.skip (QW.then_n (CW.seq (CW.block (cr ?_))))
  refine WL.v (Runs.load_arr arr23 rfl (c0.blk (i := 2) rfl) hl0) ?_
  refine WL.mv rfl (WL.mv rfl ?_)
  refine WL.v (Runs.conv Tryd.underlying24 ⟨_, Tryd.underlying37⟩ rfl rfl) ?_
  refine WL.v (Runs.add rfl rfl rfl) ?_
  refine WL.v (Runs.load_arr arr140 rfl (c0.blk (i := 1) rfl) hl2) ?_
  obtain ⟨a9, f2, H⟩ := H
  refine WL.call Wanted.none ent79 rfl (reliquaryref04_Block.calls f1 l0 (IntKind.u32.wrap (a1 + (IntKind.u32.wrap a0))) l2 hl0 hl2 a9 f2) ?_
  rintro _ f3 ⟨e2, rfl, f4⟩
  have f5 := c0.call f4
  refine ⟨_, rfl, ?_⟩
  refine WL.alloc f5 arr158.zero ?_
  intro b4 h0 f6
  refine WL.store_arr (i := 0) f6 rfl arr158 rfl (by rw [iv_length]; exact (List.length_replicate ..)) e2 rfl ?_
  intro f7 d0
  try dsimp only [List.set] at d0
  refine WL.nx (WL.as rfl (wn (CW.block ?_)))
  obtain ⟨f8, H⟩ := H
  refine CW.sub [(1, .int .u32 a1), (3, .slice A3 n3 c3), (4, .pointer (sp a3)), (6, .pointer (sp a4)), (8, .slice none 0 0), (9, .int .i64 0), (10, .int .u64 a2), (11, .slice a7 a6 a8), (12, .int .u64 a0), (26, .int .u64 a0), (27, .int .u64 a2), (28, .bool (decide (a0 < a2))), (31, .agg (iv .u8 l0).toArray), (32, .int .u32 a1), (33, .int .u64 a0), (34, .int .u32 (IntKind.u32.wrap a0)), (35, .int .u32 (IntKind.u32.wrap (a1 + (IntKind.u32.wrap a0)))), (36, .agg (iv .u8 l2).toArray), (37, .agg (iv .u8 a9).toArray), (13, .pointer (sp b4)), (14, .int .i64 0)] (by repeat' constructor) ?_
  refine CW.loop (fun kL2 l_ w_ => ∃ (b5 : Option Addr) (b6 : Nat) (b1 : Nat) (b0 : List Int) (b2 : Int), l_ = [(1, .int .u32 a1), (3, .slice A3 n3 c3), (4, .pointer (sp a3)), (6, .pointer (sp a4)), (8, .slice none 0 0), (9, .int .i64 0), (10, .int .u64 a2), (11, .slice b5 b1 b6), (12, .int .u64 a0), (26, .int .u64 a0), (27, .int .u64 a2), (28, .bool (decide (a0 < a2))), (31, .agg (iv .u8 l0).toArray), (32, .int .u32 a1), (33, .int .u64 a0), (34, .int .u32 (IntKind.u32.wrap a0)), (35, .int .u32 (IntKind.u32.wrap (a1 + (IntKind.u32.wrap a0)))), (36, .agg (iv .u8 l2).toArray), (37, .agg (iv .u8 a9).toArray), (13, .pointer (sp b4)), (14, .int .i64 b2)] ∧ reliquaryref04_Crypt.L2 l3 a0 a9 (reliquaryref04_Crypt.L1 l0 a1 l2 l3 r0 r1 a2 kL1) kL2 b0 b2 ∧ (b1 = b0.length) ∧ St w w_ [.cells b4 (iv .u8 a9) 158, .sl b5 b6 b1 (iv .u8 b0) 5 1, .cells a4 (iv .u8 l2) 140, .cells a3 (iv .u8 l0) 23]) (k := f8) ⟨a7, a8, a6, b3, 0, rfl, H, e1, d0⟩ (fun _ _ h => by obtain ⟨_, _, _, _, _, _, h, _⟩ := h; exact h.elim) ?_
  rintro kL2 h1 h2 ⟨b5, b6, b1, b0, b2, rfl, H, d1, b7⟩
  refine CW.seq (cr (WL.mv rfl ?_))
  refine WL.v (Runs.lss rfl rfl rfl) ?_
  refine wn ?_
  rcases H with ⟨d2, H⟩ | ⟨d2, H⟩
  ·have d3 : (decide (b2 < 64)) = true := (decide_eq_true d2)
   refine CW.ct rfl d3 ?_
   refine CW.skip (QW.then_n (CW.seq (CW.block (cr (WL.mv rfl ?_)))))
   refine WL.v (Runs.conv Tryd.underlying3 ⟨_, Tryd.underlying37⟩ rfl rfl) ?_
   refine WL.v (Runs.mul rfl rfl rfl) ?_
   refine WL.mv rfl ?_
   obtain ⟨c1, f9, H⟩ := H
   refine WL.v (Runs.add rfl rfl f9) ?_
   refine WL.as rfl (WL.nx (WL.mv rfl (WL.mv rfl ?_)))
   refine WL.v (Runs.len_sl Tryd.underlying25 rfl (by rw [hn3])) ?_
   refine WL.v (Runs.lss rfl rfl rfl) ?_
   refine wn ?_
   rcases H with ⟨d4, H⟩ | ⟨d4, H⟩
   ·have d5 : (decide (c1 < (l3.length : Int))) = true := (decide_eq_true d4)
    refine CW.ct rfl d5 ?_
    refine CW.region_awh (C := fun w_ => St w w_ [.cells b4 (iv .u8 a9) 158, .sl b5 b6 b1 (iv .u8 b0) 5 1, .cells a4 (iv .u8 l2) 140, .cells a3 (iv .u8 l0) 23]) 10 wide (by kernel_rfl) b7 (fun h3 a5 => ?_)
    refine AWH.tk 0 rfl a5 (fun wq sq => (Runs.move rfl)) ?_
    refine AWH.tk 1 rfl a5 (fun wq sq => (Runs.move rfl)) ?_
    refine AWH.tk 2 rfl a5 (fun wq sq => (Runs.move rfl)) ?_
    obtain ⟨⟨g0, g1⟩, H⟩ := H
    obtain ⟨h4, e3⟩ := (hs3.ext a5).addr_iv (c1.toNat) (by omega)
    refine AWH.tk 3 rfl a5 (fun wq sq => (Runs.indexAddr Tryd.underlying25 cells5 (by decide) rfl e3 rfl g0 (by rw [hn3]; exact g1) (o := (c1).toNat) (by first | rfl | omega))) ?_
    refine AWH.tk 4 rfl a5 (fun wq sq => (Runs.load nagg5 rfl ((hs3.ext sq).cell_iv e3 (by omega)))) ?_
    refine AWH.tk 5 rfl a5 (fun wq sq => (Runs.move rfl)) ?_
    obtain ⟨⟨g2, g3⟩, H⟩ := H
    refine AWH.tk 6 rfl a5 (fun wq sq => (Runs.indexAddr_blk arr158 rfl rfl g2 g3 (o := (b2).toNat) (by first | rfl | omega))) ?_
    refine AWH.tk 7 rfl a5 (fun wq sq => (Runs.load nagg5 rfl (sq.cell_iv (i := 0) rfl (by have := e2; omega)))) ?_
    obtain ⟨c2, g4, H⟩ := H
    refine AWH.tk 8 rfl a5 (fun wq sq => (Runs.bxor rfl rfl g4)) ?_
    refine AWH.step 9 rfl (by decide) (by kernel_rfl) (fun inv_ hs_ hk_ hc_ hn_ => ?_)
    refine WL.buildSl [.int .u8 c2] a5 Tryd.underlying25 elem5 rfl rfl (by decide) (by decide) (by simp [Value.cells]) ?_
    intro e4 g5 b8
    replace b8 : St w g5 [.sl (sp e4) 1 1 (iv .u8 [c2]) 5 1, .cells b4 (iv .u8 a9) 158, .sl b5 b6 b1 (iv .u8 b0) 5 1, .cells a4 (iv .u8 l2) 140, .cells a3 (iv .u8 l0) 23] := b8
    refine WL.nil ?_
    refine AWH.back (St.subset a5 b8 (mc 1 rfl (mc 2 rfl (mc 3 rfl (mc 4 rfl (fun x_ h_ => by cases h_)))))) inv_ hs_ hk_ hc_ hn_ ?_
    refine AWH.tail (by kernel_rfl) ?_
    refine AW.step 10 rfl (by kernel_rfl) ?_
    obtain ⟨d6, e5, H⟩ := H
    obtain ⟨g6, H⟩ := H
    obtain ⟨d7, d8⟩ : ∃ n_ : Nat, n_ = d6.length := ⟨_, rfl⟩
    refine WL.append (i := 2) Wanted.none b8 rfl Tryd.underlying25 elem5 rfl rfl (b8.src_sl (k := 0) rfl) (by rw [iv_length]; exact (Eq.refl _).symm) (one_iv .u8 _) (by decide) (N := d7) (by rw [d8, e5, List.length_append]; exact congr (congrArg HAdd.hAdd (d1)) (rfl)) (by rw [d8]; exact g6) ?_
    intro e6 e7 g7 b9
    have b9' : St w g7 [.sl (sp e4) 1 1 (iv .u8 [c2]) 5 1, .cells b4 (iv .u8 a9) 158, .sl e6 e7 d7 (iv .u8 d6) 5 1, .cells a4 (iv .u8 l2) 140, .cells a3 (iv .u8 l0) 23] := by rw [e5, ← iv_append .u8 b0 [c2]]; exact b9
    refine WL.nil ?_
    refine AW.back  ?_
    refine AW.tk 11 rfl (fun _ => (Runs.assign rfl)) ?_
    refine AW.done (by kernel_rfl) ?_
    refine QW.blk_n (QW.then_n (CW.region (WL.mv rfl ?_)))
    refine WL.v (Runs.add rfl rfl rfl) ?_
    refine WL.as rfl (WL.nil ?_)
    have b9'' := b9'.pick [1, 2, 3, 4] (by decide)
    exact QW.at _ (by repeat' constructor) ⟨e6, e7, d7, d6, IntKind.i64.wrap (b2 + 1), rfl, H, d8, b9''⟩
   have d5 : (decide (c1 < (l3.length : Int))) = false := (decide_eq_false d4)
   refine CW.cf rfl d5 ?_
   refine CW.skip (QW.blk_n (QW.then_n (CW.region (WL.mv rfl ?_))))
   refine WL.v (Runs.add rfl rfl rfl) ?_
   refine WL.as rfl (WL.nil ?_)
   exact QW.at _ (by repeat' constructor) ⟨b5, b6, b1, b0, IntKind.i64.wrap (b2 + 1), rfl, H, d1, b7⟩
  have d3 : (decide (b2 < 64)) = false := (decide_eq_false d2)
  refine CW.cf rfl d3 ?_
  refine CW.exit (QW.then_x (QW.then_x (QW.blk_x (QW.blk_n (QW.then_n (CW.region (WL.mv rfl ?_)))))))
  refine WL.v (Runs.add rfl rfl rfl) ?_
  refine WL.as rfl (WL.nil ?_)
  have b7' := b7.pick [1, 2, 3] (by decide)
  exact QW.at _ (by repeat' constructor) ⟨b5, b6, b1, b0, IntKind.u64.wrap (a0 + 1), rfl, H, d1, b7'⟩
 have c9 : (decide (a0 < a2)) = false := (decide_eq_false c8)
 refine CW.cf rfl c9 ?_
 refine CW.exit (QW.then_x (QW.then_x (QW.blk_x (QW.then_n ?_))))
 refine CW.sub [(8, .slice none 0 0), (9, .int .i64 0), (11, .slice a7 a6 a8)] ⟨rfl, rfl, rfl, trivial⟩ ?_
 refine cr (WL.mv rfl (WL.as rfl (WL.as rfl (wn (CW.ret ?_)))))
 obtain ⟨rfl, rfl⟩ := H
 exact QW.ret2 rfl rfl rfl ⟨a7, a8, a6, e1, rfl, c0.pick [0] (by decide)⟩
/-! ### reliquaryref08_Seal: function 45 -/
def reliquaryref08_Seal.L1 (r0 : ByteArray) (r1 : Int) : Nat → (List Int) → Prop
 | 0, _ => False
 | kL1 + 1, a0 => (((a0.length : Int) < 192 ∧ (∃ a1 : List Int, a1 = a0 ++ [0] ∧ (a1.length ≤ 1099511627776 ∧ reliquaryref08_Seal.L1 r0 r1 kL1 a1))) ∨ (¬ ((a0.length : Int) < 192) ∧ r0 = strOfNums a0 ∧ r1 = 0))
def reliquaryref08_Seal.L2 (r0 : ByteArray) (r1 : Int) : Nat → (List Int) → Prop
 | 0, _ => False
 | kL2 + 1, a0 => (((a0.length : Int) < 192 ∧ (∃ a1 : List Int, a1 = a0 ++ [0] ∧ (a1.length ≤ 1099511627776 ∧ reliquaryref08_Seal.L2 r0 r1 kL2 a1))) ∨ (¬ ((a0.length : Int) < 192) ∧ r0 = strOfNums a0 ∧ r1 = 0))
def reliquaryref08_Seal.rel (l0 : List Int) (a1 : Int) (a2 : Int) (a3 : ByteArray) (r0 : ByteArray) (r1 : Int) : Prop := (((a3.size : Int) ≠ 160 ∧ (((a3.size : Int) ≠ 176 ∧ r0 = (⟨#[]⟩ : ByteArray) ∧ r1 = 1) ∨ (¬ ((a3.size : Int) ≠ 176) ∧ ((a2 = 0 ∧ r0 = (⟨#[]⟩ : ByteArray) ∧ r1 = 1) ∨ (¬ (a2 = 0) ∧ ((a2 = 18446744073709551615 ∧ r0 = (⟨#[]⟩ : ByteArray) ∧ r1 = 15) ∨ (¬ (a2 = 18446744073709551615) ∧ (∃ (a5 : List Int), reliquaryref01_Put.rel a2 8 a5 ∧ (∃ (a6 : List Int), reliquaryref04_Nonce.rel a1 a2 a6 ∧ (∃ (a7 : List Int) (b1 : Int), reliquaryref04_Crypt.rel l0 0 a6 (bl a3) a7 b1 ∧ (∃ a0 : List Int, a0 = a5 ++ a7 ∧ (a0.length ≤ 1099511627776 ∧ (∃ k_ : Nat, reliquaryref08_Seal.L1 r0 r1 k_ a0))))))))))))) ∨ (¬ ((a3.size : Int) ≠ 160) ∧ ((a2 = 0 ∧ r0 = (⟨#[]⟩ : ByteArray) ∧ r1 = 1) ∨ (¬ (a2 = 0) ∧ ((a2 = 18446744073709551615 ∧ r0 = (⟨#[]⟩ : ByteArray) ∧ r1 = 15) ∨ (¬ (a2 = 18446744073709551615) ∧ (∃ (a8 : List Int), reliquaryref01_Put.rel a2 8 a8 ∧ (∃ (a9 : List Int), reliquaryref04_Nonce.rel a1 a2 a9 ∧ (∃ (b0 : List Int) (b2 : Int), reliquaryref04_Crypt.rel l0 0 a9 (bl a3) b0 b2 ∧ (∃ a4 : List Int, a4 = a8 ++ b0 ∧ (a4.length ≤ 1099511627776 ∧ (∃ k_ : Nat, reliquaryref08_Seal.L2 r0 r1 k_ a4))))))))))))
set_option maxHeartbeats 4000000 in
theorem reliquaryref08_Seal.calls (w : World) (l0 : List Int) (a1 : Int) (a2 : Int) (a3 : ByteArray)   (hl0 : l0.length = 32) (r0 : ByteArray) (r1 : Int) (H : reliquaryref08_Seal.rel l0 a1 a2 a3 r0 r1) :
  Calls Tryd.prog 45 #[.agg (iv .u8 l0).toArray, .int .u32 a1, .int .u64 a2, .string a3] w fun e w' => e = .returned (.tuple #[.string r0, .int .i64 r1]) ∧ St w w' [] := by
 refine CW.enter Tryd.func45 rfl (n := 50) rfl [.agg (iv .u8 l0).toArray, .int .u32 a1, .int .u64 a2, .string a3] (Nat.le_of_ble_eq_true rfl) ?_
 refine CW.sub [(0, .agg (iv .u8 l0).toArray), (1, .int .u32 a1), (2, .int .u64 a2), (3, .string a3)] ⟨rfl, rfl, rfl, rfl, trivial⟩ ?_
 have st0 : St w w [] := St.refl w
 refine cr ?_
 refine WL.box st0 rfl rfl ?_
 intro a0 J7 e1
 refine WL.as rfl (WL.as rfl (wn (CW.seq (cr (WL.mv rfl ?_)))))
 refine WL.v (Runs.len_str Tryd.underlying9 rfl) ?_
 refine WL.v (Runs.neq rfl rfl rfl) ?_
 refine WL.mv rfl ?_
 rcases H with ⟨t2, H⟩ | ⟨t2, H⟩
 ·have c6 : ((a3.size : Int) != 160) = true := (bne_iff_ne.mpr t2)
  refine WL.on ?_ ?_; exact Wg 16 c6
  refine WL.mv rfl ?_
  refine WL.on ?_ ?_; exact Wg 16 c6
  refine WL.v (Runs.len_str Tryd.underlying9 rfl) ?_
  refine WL.on ?_ ?_; exact Wg 16 c6
  refine WL.v (Runs.neq rfl rfl rfl) ?_
  refine WL.v (Runs.pick_t (evb rfl c6) rfl) ?_
  refine WL.mv rfl ?_
  rcases H with ⟨t3, H⟩ | ⟨t3, H⟩
  ·have e2 : ((a3.size : Int) != 176) = true := (bne_iff_ne.mpr t3)
   refine WL.off ?_ ?_; exact Wg 21 e2
   refine WL.off ?_ ?_; exact Wg 21 e2
   refine WL.v (Runs.pick_t (evb rfl e2) rfl) ?_
   refine wn ?_
   refine CW.sub [(1, .int .u32 a1), (2, .int .u64 a2), (3, .string a3), (4, .pointer (sp a0)), (8, .string (⟨#[]⟩ : ByteArray)), (9, .int .i64 0), (24, .bool true)] (by repeat' constructor) ?_
   refine CW.ct rfl rfl ?_
   refine cr (WL.as rfl (WL.as rfl (wn (CW.ret (QW.then_r ?_)))))
   obtain ⟨rfl, rfl⟩ := H
   exact QW.ret2 rfl rfl rfl ⟨rfl, e1.pick [] (by decide)⟩
  have e2 : ((a3.size : Int) != 176) = false := (bne_eq_false_iff_eq.mpr (Decidable.not_not.mp t3))
  refine WL.on ?_ ?_; exact Wg 21 e2
  refine WL.mv rfl ?_
  refine WL.on ?_ ?_; exact Wg 21 e2
  refine WL.v (Runs.eql rfl rfl rfl) ?_
  refine WL.v (Runs.pick_f (evb rfl e2) rfl) ?_
  refine wn ?_
  refine CW.sub [(1, .int .u32 a1), (2, .int .u64 a2), (3, .string a3), (4, .pointer (sp a0)), (8, .string (⟨#[]⟩ : ByteArray)), (9, .int .i64 0), (24, .bool (a2 == 0))] (by repeat' constructor) ?_
  rcases H with ⟨t4, H⟩ | ⟨t4, H⟩
  ·have t5 : (a2 == 0) = true := (beq_iff_eq.mpr t4)
   refine CW.ct rfl t5 ?_
   refine cr (WL.as rfl (WL.as rfl (wn (CW.ret (QW.then_r ?_)))))
   obtain ⟨rfl, rfl⟩ := H
   exact QW.ret2 rfl rfl rfl ⟨rfl, e1.pick [] (by decide)⟩
  have t5 : (a2 == 0) = false := (beq_eq_false_iff_ne.mpr t4)
  refine CW.cf rfl t5 ?_
  refine CW.skip (QW.then_n (CW.seq (cr (WL.mv rfl ?_))))
  refine WL.v (Runs.eql rfl rfl rfl) ?_
  refine wn ?_
  rcases H with ⟨t6, H⟩ | ⟨t6, H⟩
  ·have t7 : (a2 == 18446744073709551615) = true := (beq_iff_eq.mpr t6)
   refine CW.ct rfl t7 ?_
   refine cr (WL.as rfl (WL.as rfl (wn (CW.ret (QW.then_r ?_)))))
   obtain ⟨rfl, rfl⟩ := H
   exact QW.ret2 rfl rfl rfl ⟨rfl, e1.pick [] (by decide)⟩
  have t7 : (a2 == 18446744073709551615) = false := (beq_eq_false_iff_ne.mpr t6)
  refine CW.cf rfl t7 ?_
  refine CW.skip (QW.then_n (cr (WL.mv rfl ?_)))
  obtain ⟨a6, V8, H⟩ := H
  refine WL.call Wanted.none ent33 rfl (reliquaryref01_Put.calls J7 a2 8 a6 V8) ?_
  rintro _ V9 ⟨a8, a9, b0, g3, rfl, W0⟩
  have W1 := e1.call W0
  refine ⟨_, rfl, ?_⟩
  refine WL.as rfl (wn (CW.seq ?_))
  refine CW.region_aw wide W1 (fun J8 k7 => ?_)
  refine AW.tk 1 rfl (fun _ => (Runs.move rfl)) ?_
  refine AW.tk 2 rfl (fun _ => (Runs.move rfl)) ?_
  refine AW.tk 4 rfl (fun _ => (Runs.move rfl)) ?_
  refine AW.step3 0 3 5 rfl rfl rfl (by kernel_rfl) ?_ ?_ ?_
  ·refine WL.v (Runs.load_arr arr23 rfl (k7.blk (i := 1) rfl) hl0) ?_
   refine WL.nil ?_
   refine AW.back ?_
   refine AW.step2 3 5 rfl rfl (by kernel_rfl) ?_ ?_
   ·obtain ⟨J9, W2, H⟩ := H
    refine WL.call Wanted.none ent66 rfl (reliquaryref04_Nonce.calls J8 a1 a2 J9 W2) ?_
    rintro _ W3 ⟨W4, rfl, W5⟩
    have W6 := k7.call W5
    refine ⟨_, rfl, ?_⟩
    refine WL.nil ?_
    refine AW.back ?_
    refine AW.step 5 rfl (by kernel_rfl) ?_
    refine WL.bytes W6 Tryd.underlying9 Tryd.underlying25 Tryd.underlying5 rfl ?_
    intro e3 b8 g4 K0 W7 an6 W8 n8
    replace n8 : St w K0 [.obj e3 (.cells g4.toArray 5 (b8, b8 + 1)), .sl a8 a9 b0 (iv .u8 a6) 5 1, .cells a0 (iv .u8 l0) 23] := n8
    refine WL.nil ?_
    refine AW.back  ?_
    refine AW.step 6 rfl (by kernel_rfl) ?_
    obtain ⟨e4, W9, X0, H⟩ := H
    refine WL.call Wanted.none ent65 rfl (reliquaryref04_Crypt.calls K0 l0 0 J9 (bl a3) (sp e3) a3.size b8 hl0 W4 (n8.src_obj (i := 0) rfl W8) ((bl_length _)) (W7) e4 W9 X0) ?_
    rintro _ X1 ⟨g5, g6, g7, K1, rfl, X2⟩
    have K2 := n8.call X2
    refine ⟨_, rfl, ?_⟩
    refine WL.nil ?_
    refine AW.back  ?_
    refine AW.tk 7 rfl (fun _ => (Runs.move rfl)) ?_
    refine AW.tk 8 rfl (fun _ => (Runs.extract rfl rfl)) ?_
    refine AW.tk 9 rfl (fun _ => (Runs.extract rfl rfl)) ?_
    refine AW.tk 10 rfl (fun _ => (Runs.assign rfl)) ?_
    refine AW.tk 11 rfl (fun _ => (Runs.assign rfl)) ?_
    refine AW.done (by kernel_rfl) ?_
    refine QW.then_n ?_
    refine CW.sub [(8, .string (⟨#[]⟩ : ByteArray)), (9, .int .i64 0), (10, .slice a8 b0 a9), (11, .slice g5 g7 g6)] ⟨rfl, rfl, rfl, rfl, trivial⟩ ?_
    refine cr (WL.mv rfl (WL.mv rfl ?_))
    obtain ⟨t8, K3, H⟩ := H
    obtain ⟨X3, H⟩ := H
    obtain ⟨n9, t9⟩ : ∃ n_ : Nat, n_ = t8.length := ⟨_, rfl⟩
    refine WL.append (i := 2) Wanted.none K2 rfl Tryd.underlying25 elem5 rfl rfl (K2.src_sl (k := 0) rfl) (by rw [iv_length]; exact (K1).symm) (one_iv .u8 _) (by decide) (N := n9) (by rw [t9, K3, List.length_append]; exact congr (congrArg HAdd.hAdd (g3)) (K1)) (by rw [t9]; exact X3) ?_
    intro u0 u1 X4 u2
    have u2' : St w X4 [.sl g5 g6 g7 (iv .u8 e4) 5 1, .obj e3 (.cells g4.toArray 5 (b8, b8 + 1)), .sl u0 u1 n9 (iv .u8 t8) 5 1, .cells a0 (iv .u8 l0) 23] := by rw [K3, ← iv_append .u8 a6 e4]; exact u2
    refine WL.as rfl (wn (CW.seq (CW.block ?_)))
    obtain ⟨X5, H⟩ := H
    refine CW.sub [(8, .string (⟨#[]⟩ : ByteArray)), (9, .int .i64 0), (10, .slice u0 n9 u1)] ⟨rfl, rfl, rfl, trivial⟩ ?_
    refine CW.loop (fun kL1 l_ w_ => ∃ (o0 : Option Addr) (o1 : Nat) (k8 : Nat) (c7 : List Int), l_ = [(8, .string (⟨#[]⟩ : ByteArray)), (9, .int .i64 0), (10, .slice o0 k8 o1)] ∧ reliquaryref08_Seal.L1 r0 r1 kL1 c7 ∧ (k8 = c7.length) ∧ St w w_ [.sl g5 g6 g7 (iv .u8 e4) 5 1, .obj e3 (.cells g4.toArray 5 (b8, b8 + 1)), .sl o0 o1 k8 (iv .u8 c7) 5 1, .cells a0 (iv .u8 l0) 23]) (k := X5) ⟨u0, u1, n9, t8, rfl, H, t9, u2'⟩ (fun _ _ h => by obtain ⟨_, _, _, _, _, h, _⟩ := h; exact h.elim) ?_
    rintro kL1 an7 an8 ⟨o0, o1, k8, c7, rfl, H, u3, u4⟩
    refine CW.seq (cr (WL.mv rfl ?_))
    refine WL.v (Runs.len_sl Tryd.underlying25 rfl (by rw [u3])) ?_
    refine WL.v (Runs.lss rfl rfl rfl) ?_
    refine wn ?_
    rcases H with ⟨u5, H⟩ | ⟨u5, H⟩
    ·have u6 : (decide ((c7.length : Int) < 192)) = true := (decide_eq_true u5)
     refine CW.ct rfl u6 ?_
     refine CW.skip (QW.then_n (CW.block (CW.region (WL.mv rfl ?_))))
     refine WL.buildSl [.int .u8 0] u4 Tryd.underlying25 elem5 rfl rfl (by decide) (by decide) (by simp [Value.cells]) ?_
     intro K4 X6 o2
     replace o2 : St w X6 [.sl (sp K4) 1 1 (iv .u8 [0]) 5 1, .sl g5 g6 g7 (iv .u8 e4) 5 1, .obj e3 (.cells g4.toArray 5 (b8, b8 + 1)), .sl o0 o1 k8 (iv .u8 c7) 5 1, .cells a0 (iv .u8 l0) 23] := o2
     obtain ⟨u7, K5, H⟩ := H
     obtain ⟨X7, H⟩ := H
     obtain ⟨u9, v0⟩ : ∃ n_ : Nat, n_ = u7.length := ⟨_, rfl⟩
     refine WL.append (i := 3) Wanted.none o2 rfl Tryd.underlying25 elem5 rfl rfl (o2.src_sl (k := 0) rfl) (by rw [iv_length]; exact (Eq.refl _).symm) (one_iv .u8 _) (by decide) (N := u9) (by rw [v0, K5, List.length_append]; exact congr (congrArg HAdd.hAdd (u3)) (rfl)) (by rw [v0]; exact X7) ?_
     intro K6 K7 X8 k9
     have k9' : St w X8 [.sl (sp K4) 1 1 (iv .u8 [0]) 5 1, .sl g5 g6 g7 (iv .u8 e4) 5 1, .obj e3 (.cells g4.toArray 5 (b8, b8 + 1)), .sl K6 K7 u9 (iv .u8 u7) 5 1, .cells a0 (iv .u8 l0) 23] := by rw [K5, ← iv_append .u8 c7 [0]]; exact k9
     refine WL.as rfl (WL.nil (QW.blk_n ?_))
     have k9'' := k9'.pick [1, 2, 3, 4] (by decide)
     exact QW.at _ (by repeat' constructor) ⟨K6, K7, u9, u7, rfl, H, v0, k9''⟩
    have u6 : (decide ((c7.length : Int) < 192)) = false := (decide_eq_false u5)
    refine CW.cf rfl u6 ?_
    refine CW.exit (QW.then_x (QW.then_x (QW.blk_x (QW.then_n (cr (WL.mv rfl ?_))))))
    refine WL.v (Runs.bytes_str Tryd.underlying25 Tryd.underlying5 Tryd.underlying9 rfl (u4.src_sl (k := 2) rfl) u3) ?_
    refine WL.as rfl (WL.as rfl (wn (CW.ret ?_)))
    obtain ⟨rfl, rfl⟩ := H
    exact QW.ret2 rfl rfl rfl ⟨rfl, u4.pick [] (by decide)⟩
   refine WL.bytes k7 Tryd.underlying9 Tryd.underlying25 Tryd.underlying5 rfl ?_
   intro d9 b4 e5 K8 X9 an9 Y0 v1
   replace v1 : St w K8 [.obj d9 (.cells e5.toArray 5 (b4, b4 + 1)), .sl a8 a9 b0 (iv .u8 a6) 5 1, .cells a0 (iv .u8 l0) 23] := v1
   refine WL.nil ?_
   refine AW.back ?_
   refine AW.step 3 rfl (by kernel_rfl) ?_
   obtain ⟨K9, Y1, H⟩ := H
   refine WL.call Wanted.none ent66 rfl (reliquaryref04_Nonce.calls K8 a1 a2 K9 Y1) ?_
   rintro _ L0 ⟨Y2, rfl, Y3⟩
   have L3 := v1.call Y3
   refine ⟨_, rfl, ?_⟩
   refine WL.nil ?_
   refine AW.back  ?_
   refine AW.step 6 rfl (by kernel_rfl) ?_
   obtain ⟨e6, Y4, Y5, H⟩ := H
   refine WL.call Wanted.none ent65 rfl (reliquaryref04_Crypt.calls L0 l0 0 K9 (bl a3) (sp d9) a3.size b4 hl0 Y2 (L3.src_obj (i := 0) rfl Y0) ((bl_length _)) (X9) e6 Y4 Y5) ?_
   rintro _ Y6 ⟨g8, g9, h0, L4, rfl, Y7⟩
   have L5 := L3.call Y7
   refine ⟨_, rfl, ?_⟩
   refine WL.nil ?_
   refine AW.back  ?_
   refine AW.tk 7 rfl (fun _ => (Runs.move rfl)) ?_
   refine AW.tk 8 rfl (fun _ => (Runs.extract rfl rfl)) ?_
   refine AW.tk 9 rfl (fun _ => (Runs.extract rfl rfl)) ?_
   refine AW.tk 10 rfl (fun _ => (Runs.assign rfl)) ?_
   refine AW.tk 11 rfl (fun _ => (Runs.assign rfl)) ?_
   refine AW.done (by kernel_rfl) ?_
   refine QW.then_n ?_
   refine CW.sub [(8, .string (⟨#[]⟩ : ByteArray)), (9, .int .i64 0), (10, .slice a8 b0 a9), (11, .slice g8 h0 g9)] ⟨rfl, rfl, rfl, rfl, trivial⟩ ?_
   refine cr (WL.mv rfl (WL.mv rfl ?_))
   obtain ⟨v2, L6, H⟩ := H
   obtain ⟨Y8, H⟩ := H
   obtain ⟨o3, v3⟩ : ∃ n_ : Nat, n_ = v2.length := ⟨_, rfl⟩
   refine WL.append (i := 2) Wanted.none L5 rfl Tryd.underlying25 elem5 rfl rfl (L5.src_sl (k := 0) rfl) (by rw [iv_length]; exact (L4).symm) (one_iv .u8 _) (by decide) (N := o3) (by rw [v3, L6, List.length_append]; exact congr (congrArg HAdd.hAdd (g3)) (L4)) (by rw [v3]; exact Y8) ?_
   intro v4 v5 Y9 v6
   have v6' : St w Y9 [.sl g8 g9 h0 (iv .u8 e6) 5 1, .obj d9 (.cells e5.toArray 5 (b4, b4 + 1)), .sl v4 v5 o3 (iv .u8 v2) 5 1, .cells a0 (iv .u8 l0) 23] := by rw [L6, ← iv_append .u8 a6 e6]; exact v6
   refine WL.as rfl (wn (CW.seq (CW.block ?_)))
   obtain ⟨Z0, H⟩ := H
   refine CW.sub [(8, .string (⟨#[]⟩ : ByteArray)), (9, .int .i64 0), (10, .slice v4 o3 v5)] ⟨rfl, rfl, rfl, trivial⟩ ?_
   refine CW.loop (fun kL1 l_ w_ => ∃ (o4 : Option Addr) (o5 : Nat) (l1 : Nat) (c8 : List Int), l_ = [(8, .string (⟨#[]⟩ : ByteArray)), (9, .int .i64 0), (10, .slice o4 l1 o5)] ∧ reliquaryref08_Seal.L1 r0 r1 kL1 c8 ∧ (l1 = c8.length) ∧ St w w_ [.sl g8 g9 h0 (iv .u8 e6) 5 1, .obj d9 (.cells e5.toArray 5 (b4, b4 + 1)), .sl o4 o5 l1 (iv .u8 c8) 5 1, .cells a0 (iv .u8 l0) 23]) (k := Z0) ⟨v4, v5, o3, v2, rfl, H, v3, v6'⟩ (fun _ _ h => by obtain ⟨_, _, _, _, _, h, _⟩ := h; exact h.elim) ?_
   rintro kL1 ao0 ao1 ⟨o4, o5, l1, c8, rfl, H, v7, v8⟩
   refine CW.seq (cr (WL.mv rfl ?_))
   refine WL.v (Runs.len_sl Tryd.underlying25 rfl (by rw [v7])) ?_
   refine WL.v (Runs.lss rfl rfl rfl) ?_
   refine wn ?_
   rcases H with ⟨v9, H⟩ | ⟨v9, H⟩
   ·have w0 : (decide ((c8.length : Int) < 192)) = true := (decide_eq_true v9)
    refine CW.ct rfl w0 ?_
    refine CW.skip (QW.then_n (CW.block (CW.region (WL.mv rfl ?_))))
    refine WL.buildSl [.int .u8 0] v8 Tryd.underlying25 elem5 rfl rfl (by decide) (by decide) (by simp [Value.cells]) ?_
    intro L7 Z1 o6
    replace o6 : St w Z1 [.sl (sp L7) 1 1 (iv .u8 [0]) 5 1, .sl g8 g9 h0 (iv .u8 e6) 5 1, .obj d9 (.cells e5.toArray 5 (b4, b4 + 1)), .sl o4 o5 l1 (iv .u8 c8) 5 1, .cells a0 (iv .u8 l0) 23] := o6
    obtain ⟨w1, L8, H⟩ := H
    obtain ⟨Z2, H⟩ := H
    obtain ⟨w2, w3⟩ : ∃ n_ : Nat, n_ = w1.length := ⟨_, rfl⟩
    refine WL.append (i := 3) Wanted.none o6 rfl Tryd.underlying25 elem5 rfl rfl (o6.src_sl (k := 0) rfl) (by rw [iv_length]; exact (Eq.refl _).symm) (one_iv .u8 _) (by decide) (N := w2) (by rw [w3, L8, List.length_append]; exact congr (congrArg HAdd.hAdd (v7)) (rfl)) (by rw [w3]; exact Z2) ?_
    intro L9 M0 Z3 l2
    have l2' : St w Z3 [.sl (sp L7) 1 1 (iv .u8 [0]) 5 1, .sl g8 g9 h0 (iv .u8 e6) 5 1, .obj d9 (.cells e5.toArray 5 (b4, b4 + 1)), .sl L9 M0 w2 (iv .u8 w1) 5 1, .cells a0 (iv .u8 l0) 23] := by rw [L8, ← iv_append .u8 c8 [0]]; exact l2
    refine WL.as rfl (WL.nil (QW.blk_n ?_))
    have l2'' := l2'.pick [1, 2, 3, 4] (by decide)
    exact QW.at _ (by repeat' constructor) ⟨L9, M0, w2, w1, rfl, H, w3, l2''⟩
   have w0 : (decide ((c8.length : Int) < 192)) = false := (decide_eq_false v9)
   refine CW.cf rfl w0 ?_
   refine CW.exit (QW.then_x (QW.then_x (QW.blk_x (QW.then_n (cr (WL.mv rfl ?_))))))
   refine WL.v (Runs.bytes_str Tryd.underlying25 Tryd.underlying5 Tryd.underlying9 rfl (v8.src_sl (k := 2) rfl) v7) ?_
   refine WL.as rfl (WL.as rfl (wn (CW.ret ?_)))
   obtain ⟨rfl, rfl⟩ := H
   exact QW.ret2 rfl rfl rfl ⟨rfl, v8.pick [] (by decide)⟩
  ·obtain ⟨w4, Z4, H⟩ := H
   refine WL.call Wanted.none ent66 rfl (reliquaryref04_Nonce.calls J8 a1 a2 w4 Z4) ?_
   rintro _ Z5 ⟨M1, rfl, Z6⟩
   have w5 := k7.call Z6
   refine ⟨_, rfl, ?_⟩
   refine WL.nil ?_
   refine AW.back ?_
   refine AW.step2 0 5 rfl rfl (by kernel_rfl) ?_ ?_
   ·refine WL.v (Runs.load_arr arr23 rfl (w5.blk (i := 1) rfl) hl0) ?_
    refine WL.nil ?_
    refine AW.back ?_
    refine AW.step 5 rfl (by kernel_rfl) ?_
    refine WL.bytes w5 Tryd.underlying9 Tryd.underlying25 Tryd.underlying5 rfl ?_
    intro e7 b9 h1 M2 Z7 ao2 Z8 o7
    replace o7 : St w M2 [.obj e7 (.cells h1.toArray 5 (b9, b9 + 1)), .sl a8 a9 b0 (iv .u8 a6) 5 1, .cells a0 (iv .u8 l0) 23] := o7
    refine WL.nil ?_
    refine AW.back  ?_
    refine AW.step 6 rfl (by kernel_rfl) ?_
    obtain ⟨e8, Z9, aa0, H⟩ := H
    refine WL.call Wanted.none ent65 rfl (reliquaryref04_Crypt.calls M2 l0 0 w4 (bl a3) (sp e7) a3.size b9 hl0 M1 (o7.src_obj (i := 0) rfl Z8) ((bl_length _)) (Z7) e8 Z9 aa0) ?_
    rintro _ aa1 ⟨h2, h3, h4, M3, rfl, aa2⟩
    have M4 := o7.call aa2
    refine ⟨_, rfl, ?_⟩
    refine WL.nil ?_
    refine AW.back  ?_
    refine AW.tk 7 rfl (fun _ => (Runs.move rfl)) ?_
    refine AW.tk 8 rfl (fun _ => (Runs.extract rfl rfl)) ?_
    refine AW.tk 9 rfl (fun _ => (Runs.extract rfl rfl)) ?_
    refine AW.tk 10 rfl (fun _ => (Runs.assign rfl)) ?_
    refine AW.tk 11 rfl (fun _ => (Runs.assign rfl)) ?_
    refine AW.done (by kernel_rfl) ?_
    refine QW.then_n ?_
    refine CW.sub [(8, .string (⟨#[]⟩ : ByteArray)), (9, .int .i64 0), (10, .slice a8 b0 a9), (11, .slice h2 h4 h3)] ⟨rfl, rfl, rfl, rfl, trivial⟩ ?_
    refine cr (WL.mv rfl (WL.mv rfl ?_))
    obtain ⟨w6, M5, H⟩ := H
    obtain ⟨aa3, H⟩ := H
    obtain ⟨o8, w7⟩ : ∃ n_ : Nat, n_ = w6.length := ⟨_, rfl⟩
    refine WL.append (i := 2) Wanted.none M4 rfl Tryd.underlying25 elem5 rfl rfl (M4.src_sl (k := 0) rfl) (by rw [iv_length]; exact (M3).symm) (one_iv .u8 _) (by decide) (N := o8) (by rw [w7, M5, List.length_append]; exact congr (congrArg HAdd.hAdd (g3)) (M3)) (by rw [w7]; exact aa3) ?_
    intro w8 w9 aa4 x0
    have x0' : St w aa4 [.sl h2 h3 h4 (iv .u8 e8) 5 1, .obj e7 (.cells h1.toArray 5 (b9, b9 + 1)), .sl w8 w9 o8 (iv .u8 w6) 5 1, .cells a0 (iv .u8 l0) 23] := by rw [M5, ← iv_append .u8 a6 e8]; exact x0
    refine WL.as rfl (wn (CW.seq (CW.block ?_)))
    obtain ⟨aa5, H⟩ := H
    refine CW.sub [(8, .string (⟨#[]⟩ : ByteArray)), (9, .int .i64 0), (10, .slice w8 o8 w9)] ⟨rfl, rfl, rfl, trivial⟩ ?_
    refine CW.loop (fun kL1 l_ w_ => ∃ (o9 : Option Addr) (p0 : Nat) (l3 : Nat) (c9 : List Int), l_ = [(8, .string (⟨#[]⟩ : ByteArray)), (9, .int .i64 0), (10, .slice o9 l3 p0)] ∧ reliquaryref08_Seal.L1 r0 r1 kL1 c9 ∧ (l3 = c9.length) ∧ St w w_ [.sl h2 h3 h4 (iv .u8 e8) 5 1, .obj e7 (.cells h1.toArray 5 (b9, b9 + 1)), .sl o9 p0 l3 (iv .u8 c9) 5 1, .cells a0 (iv .u8 l0) 23]) (k := aa5) ⟨w8, w9, o8, w6, rfl, H, w7, x0'⟩ (fun _ _ h => by obtain ⟨_, _, _, _, _, h, _⟩ := h; exact h.elim) ?_
    rintro kL1 ao3 ao4 ⟨o9, p0, l3, c9, rfl, H, x1, x2⟩
    refine CW.seq (cr (WL.mv rfl ?_))
    refine WL.v (Runs.len_sl Tryd.underlying25 rfl (by rw [x1])) ?_
    refine WL.v (Runs.lss rfl rfl rfl) ?_
    refine wn ?_
    rcases H with ⟨x3, H⟩ | ⟨x3, H⟩
    ·have x4 : (decide ((c9.length : Int) < 192)) = true := (decide_eq_true x3)
     refine CW.ct rfl x4 ?_
     refine CW.skip (QW.then_n (CW.block (CW.region (WL.mv rfl ?_))))
     refine WL.buildSl [.int .u8 0] x2 Tryd.underlying25 elem5 rfl rfl (by decide) (by decide) (by simp [Value.cells]) ?_
     intro M6 aa6 p1
     replace p1 : St w aa6 [.sl (sp M6) 1 1 (iv .u8 [0]) 5 1, .sl h2 h3 h4 (iv .u8 e8) 5 1, .obj e7 (.cells h1.toArray 5 (b9, b9 + 1)), .sl o9 p0 l3 (iv .u8 c9) 5 1, .cells a0 (iv .u8 l0) 23] := p1
     obtain ⟨x5, M7, H⟩ := H
     obtain ⟨aa7, H⟩ := H
     obtain ⟨x6, x7⟩ : ∃ n_ : Nat, n_ = x5.length := ⟨_, rfl⟩
     refine WL.append (i := 3) Wanted.none p1 rfl Tryd.underlying25 elem5 rfl rfl (p1.src_sl (k := 0) rfl) (by rw [iv_length]; exact (Eq.refl _).symm) (one_iv .u8 _) (by decide) (N := x6) (by rw [x7, M7, List.length_append]; exact congr (congrArg HAdd.hAdd (x1)) (rfl)) (by rw [x7]; exact aa7) ?_
     intro M8 M9 aa8 l4
     have l4' : St w aa8 [.sl (sp M6) 1 1 (iv .u8 [0]) 5 1, .sl h2 h3 h4 (iv .u8 e8) 5 1, .obj e7 (.cells h1.toArray 5 (b9, b9 + 1)), .sl M8 M9 x6 (iv .u8 x5) 5 1, .cells a0 (iv .u8 l0) 23] := by rw [M7, ← iv_append .u8 c9 [0]]; exact l4
     refine WL.as rfl (WL.nil (QW.blk_n ?_))
     have l4'' := l4'.pick [1, 2, 3, 4] (by decide)
     exact QW.at _ (by repeat' constructor) ⟨M8, M9, x6, x5, rfl, H, x7, l4''⟩
    have x4 : (decide ((c9.length : Int) < 192)) = false := (decide_eq_false x3)
    refine CW.cf rfl x4 ?_
    refine CW.exit (QW.then_x (QW.then_x (QW.blk_x (QW.then_n (cr (WL.mv rfl ?_))))))
    refine WL.v (Runs.bytes_str Tryd.underlying25 Tryd.underlying5 Tryd.underlying9 rfl (x2.src_sl (k := 2) rfl) x1) ?_
    refine WL.as rfl (WL.as rfl (wn (CW.ret ?_)))
    obtain ⟨rfl, rfl⟩ := H
    exact QW.ret2 rfl rfl rfl ⟨rfl, x2.pick [] (by decide)⟩
   refine WL.bytes w5 Tryd.underlying9 Tryd.underlying25 Tryd.underlying5 rfl ?_
   intro e9 c0 h5 N0 aa9 ao5 ab0 l5
   replace l5 : St w N0 [.obj e9 (.cells h5.toArray 5 (c0, c0 + 1)), .sl a8 a9 b0 (iv .u8 a6) 5 1, .cells a0 (iv .u8 l0) 23] := l5
   refine WL.nil ?_
   refine AW.back ?_
   refine AW.step 0 rfl (by kernel_rfl) ?_
   refine WL.v (Runs.load_arr arr23 rfl (l5.blk (i := 2) rfl) hl0) ?_
   refine WL.nil ?_
   refine AW.back  ?_
   refine AW.step 6 rfl (by kernel_rfl) ?_
   obtain ⟨f0, ab1, ab2, H⟩ := H
   refine WL.call Wanted.none ent65 rfl (reliquaryref04_Crypt.calls N0 l0 0 w4 (bl a3) (sp e9) a3.size c0 hl0 M1 (l5.src_obj (i := 0) rfl ab0) ((bl_length _)) (aa9) f0 ab1 ab2) ?_
   rintro _ ab3 ⟨h6, h7, h8, N1, rfl, ab4⟩
   have N2 := l5.call ab4
   refine ⟨_, rfl, ?_⟩
   refine WL.nil ?_
   refine AW.back  ?_
   refine AW.tk 7 rfl (fun _ => (Runs.move rfl)) ?_
   refine AW.tk 8 rfl (fun _ => (Runs.extract rfl rfl)) ?_
   refine AW.tk 9 rfl (fun _ => (Runs.extract rfl rfl)) ?_
   refine AW.tk 10 rfl (fun _ => (Runs.assign rfl)) ?_
   refine AW.tk 11 rfl (fun _ => (Runs.assign rfl)) ?_
   refine AW.done (by kernel_rfl) ?_
   refine QW.then_n ?_
   refine CW.sub [(8, .string (⟨#[]⟩ : ByteArray)), (9, .int .i64 0), (10, .slice a8 b0 a9), (11, .slice h6 h8 h7)] ⟨rfl, rfl, rfl, rfl, trivial⟩ ?_
   refine cr (WL.mv rfl (WL.mv rfl ?_))
   obtain ⟨x8, N3, H⟩ := H
   obtain ⟨ab5, H⟩ := H
   obtain ⟨p2, x9⟩ : ∃ n_ : Nat, n_ = x8.length := ⟨_, rfl⟩
   refine WL.append (i := 2) Wanted.none N2 rfl Tryd.underlying25 elem5 rfl rfl (N2.src_sl (k := 0) rfl) (by rw [iv_length]; exact (N1).symm) (one_iv .u8 _) (by decide) (N := p2) (by rw [x9, N3, List.length_append]; exact congr (congrArg HAdd.hAdd (g3)) (N1)) (by rw [x9]; exact ab5) ?_
   intro y0 y1 ab6 y2
   have y2' : St w ab6 [.sl h6 h7 h8 (iv .u8 f0) 5 1, .obj e9 (.cells h5.toArray 5 (c0, c0 + 1)), .sl y0 y1 p2 (iv .u8 x8) 5 1, .cells a0 (iv .u8 l0) 23] := by rw [N3, ← iv_append .u8 a6 f0]; exact y2
   refine WL.as rfl (wn (CW.seq (CW.block ?_)))
   obtain ⟨ab7, H⟩ := H
   refine CW.sub [(8, .string (⟨#[]⟩ : ByteArray)), (9, .int .i64 0), (10, .slice y0 p2 y1)] ⟨rfl, rfl, rfl, trivial⟩ ?_
   refine CW.loop (fun kL1 l_ w_ => ∃ (p3 : Option Addr) (p4 : Nat) (l6 : Nat) (d0 : List Int), l_ = [(8, .string (⟨#[]⟩ : ByteArray)), (9, .int .i64 0), (10, .slice p3 l6 p4)] ∧ reliquaryref08_Seal.L1 r0 r1 kL1 d0 ∧ (l6 = d0.length) ∧ St w w_ [.sl h6 h7 h8 (iv .u8 f0) 5 1, .obj e9 (.cells h5.toArray 5 (c0, c0 + 1)), .sl p3 p4 l6 (iv .u8 d0) 5 1, .cells a0 (iv .u8 l0) 23]) (k := ab7) ⟨y0, y1, p2, x8, rfl, H, x9, y2'⟩ (fun _ _ h => by obtain ⟨_, _, _, _, _, h, _⟩ := h; exact h.elim) ?_
   rintro kL1 ao6 ao7 ⟨p3, p4, l6, d0, rfl, H, y3, y4⟩
   refine CW.seq (cr (WL.mv rfl ?_))
   refine WL.v (Runs.len_sl Tryd.underlying25 rfl (by rw [y3])) ?_
   refine WL.v (Runs.lss rfl rfl rfl) ?_
   refine wn ?_
   rcases H with ⟨y5, H⟩ | ⟨y5, H⟩
   ·have y6 : (decide ((d0.length : Int) < 192)) = true := (decide_eq_true y5)
    refine CW.ct rfl y6 ?_
    refine CW.skip (QW.then_n (CW.block (CW.region (WL.mv rfl ?_))))
    refine WL.buildSl [.int .u8 0] y4 Tryd.underlying25 elem5 rfl rfl (by decide) (by decide) (by simp [Value.cells]) ?_
    intro N4 ab8 p5
    replace p5 : St w ab8 [.sl (sp N4) 1 1 (iv .u8 [0]) 5 1, .sl h6 h7 h8 (iv .u8 f0) 5 1, .obj e9 (.cells h5.toArray 5 (c0, c0 + 1)), .sl p3 p4 l6 (iv .u8 d0) 5 1, .cells a0 (iv .u8 l0) 23] := p5
    obtain ⟨y7, N5, H⟩ := H
    obtain ⟨ab9, H⟩ := H
    obtain ⟨y8, y9⟩ : ∃ n_ : Nat, n_ = y7.length := ⟨_, rfl⟩
    refine WL.append (i := 3) Wanted.none p5 rfl Tryd.underlying25 elem5 rfl rfl (p5.src_sl (k := 0) rfl) (by rw [iv_length]; exact (Eq.refl _).symm) (one_iv .u8 _) (by decide) (N := y8) (by rw [y9, N5, List.length_append]; exact congr (congrArg HAdd.hAdd (y3)) (rfl)) (by rw [y9]; exact ab9) ?_
    intro N6 N7 ac0 l7
    have l7' : St w ac0 [.sl (sp N4) 1 1 (iv .u8 [0]) 5 1, .sl h6 h7 h8 (iv .u8 f0) 5 1, .obj e9 (.cells h5.toArray 5 (c0, c0 + 1)), .sl N6 N7 y8 (iv .u8 y7) 5 1, .cells a0 (iv .u8 l0) 23] := by rw [N5, ← iv_append .u8 d0 [0]]; exact l7
    refine WL.as rfl (WL.nil (QW.blk_n ?_))
    have l7'' := l7'.pick [1, 2, 3, 4] (by decide)
    exact QW.at _ (by repeat' constructor) ⟨N6, N7, y8, y7, rfl, H, y9, l7''⟩
   have y6 : (decide ((d0.length : Int) < 192)) = false := (decide_eq_false y5)
   refine CW.cf rfl y6 ?_
   refine CW.exit (QW.then_x (QW.then_x (QW.blk_x (QW.then_n (cr (WL.mv rfl ?_))))))
   refine WL.v (Runs.bytes_str Tryd.underlying25 Tryd.underlying5 Tryd.underlying9 rfl (y4.src_sl (k := 2) rfl) y3) ?_
   refine WL.as rfl (WL.as rfl (wn (CW.ret ?_)))
   obtain ⟨rfl, rfl⟩ := H
   exact QW.ret2 rfl rfl rfl ⟨rfl, y4.pick [] (by decide)⟩
  refine WL.bytes k7 Tryd.underlying9 Tryd.underlying25 Tryd.underlying5 rfl ?_
  intro b5 a4 c1 z0 N8 ao8 N9 l8
  replace l8 : St w z0 [.obj b5 (.cells c1.toArray 5 (a4, a4 + 1)), .sl a8 a9 b0 (iv .u8 a6) 5 1, .cells a0 (iv .u8 l0) 23] := l8
  refine WL.nil ?_
  refine AW.back ?_
  refine AW.step2 0 3 rfl rfl (by kernel_rfl) ?_ ?_
  ·refine WL.v (Runs.load_arr arr23 rfl (l8.blk (i := 2) rfl) hl0) ?_
   refine WL.nil ?_
   refine AW.back ?_
   refine AW.step 3 rfl (by kernel_rfl) ?_
   obtain ⟨O0, ac1, H⟩ := H
   refine WL.call Wanted.none ent66 rfl (reliquaryref04_Nonce.calls z0 a1 a2 O0 ac1) ?_
   rintro _ O1 ⟨ac2, rfl, ac3⟩
   have O2 := l8.call ac3
   refine ⟨_, rfl, ?_⟩
   refine WL.nil ?_
   refine AW.back  ?_
   refine AW.step 6 rfl (by kernel_rfl) ?_
   obtain ⟨f1, ac4, ac5, H⟩ := H
   refine WL.call Wanted.none ent65 rfl (reliquaryref04_Crypt.calls O1 l0 0 O0 (bl a3) (sp b5) a3.size a4 hl0 ac2 (O2.src_obj (i := 0) rfl N9) ((bl_length _)) (N8) f1 ac4 ac5) ?_
   rintro _ ac6 ⟨h9, i0, i1, O3, rfl, ac7⟩
   have O4 := O2.call ac7
   refine ⟨_, rfl, ?_⟩
   refine WL.nil ?_
   refine AW.back  ?_
   refine AW.tk 7 rfl (fun _ => (Runs.move rfl)) ?_
   refine AW.tk 8 rfl (fun _ => (Runs.extract rfl rfl)) ?_
   refine AW.tk 9 rfl (fun _ => (Runs.extract rfl rfl)) ?_
   refine AW.tk 10 rfl (fun _ => (Runs.assign rfl)) ?_
   refine AW.tk 11 rfl (fun _ => (Runs.assign rfl)) ?_
   refine AW.done (by kernel_rfl) ?_
   refine QW.then_n ?_
   refine CW.sub [(8, .string (⟨#[]⟩ : ByteArray)), (9, .int .i64 0), (10, .slice a8 b0 a9), (11, .slice h9 i1 i0)] ⟨rfl, rfl, rfl, rfl, trivial⟩ ?_
   refine cr (WL.mv rfl (WL.mv rfl ?_))
   obtain ⟨z1, O5, H⟩ := H
   obtain ⟨ac8, H⟩ := H
   obtain ⟨p6, z2⟩ : ∃ n_ : Nat, n_ = z1.length := ⟨_, rfl⟩
   refine WL.append (i := 2) Wanted.none O4 rfl Tryd.underlying25 elem5 rfl rfl (O4.src_sl (k := 0) rfl) (by rw [iv_length]; exact (O3).symm) (one_iv .u8 _) (by decide) (N := p6) (by rw [z2, O5, List.length_append]; exact congr (congrArg HAdd.hAdd (g3)) (O3)) (by rw [z2]; exact ac8) ?_
   intro z3 z4 ac9 z5
   have z5' : St w ac9 [.sl h9 i0 i1 (iv .u8 f1) 5 1, .obj b5 (.cells c1.toArray 5 (a4, a4 + 1)), .sl z3 z4 p6 (iv .u8 z1) 5 1, .cells a0 (iv .u8 l0) 23] := by rw [O5, ← iv_append .u8 a6 f1]; exact z5
   refine WL.as rfl (wn (CW.seq (CW.block ?_)))
   obtain ⟨ad0, H⟩ := H
   refine CW.sub [(8, .string (⟨#[]⟩ : ByteArray)), (9, .int .i64 0), (10, .slice z3 p6 z4)] ⟨rfl, rfl, rfl, trivial⟩ ?_
   refine CW.loop (fun kL1 l_ w_ => ∃ (p7 : Option Addr) (p8 : Nat) (l9 : Nat) (d1 : List Int), l_ = [(8, .string (⟨#[]⟩ : ByteArray)), (9, .int .i64 0), (10, .slice p7 l9 p8)] ∧ reliquaryref08_Seal.L1 r0 r1 kL1 d1 ∧ (l9 = d1.length) ∧ St w w_ [.sl h9 i0 i1 (iv .u8 f1) 5 1, .obj b5 (.cells c1.toArray 5 (a4, a4 + 1)), .sl p7 p8 l9 (iv .u8 d1) 5 1, .cells a0 (iv .u8 l0) 23]) (k := ad0) ⟨z3, z4, p6, z1, rfl, H, z2, z5'⟩ (fun _ _ h => by obtain ⟨_, _, _, _, _, h, _⟩ := h; exact h.elim) ?_
   rintro kL1 ao9 ap0 ⟨p7, p8, l9, d1, rfl, H, z6, z7⟩
   refine CW.seq (cr (WL.mv rfl ?_))
   refine WL.v (Runs.len_sl Tryd.underlying25 rfl (by rw [z6])) ?_
   refine WL.v (Runs.lss rfl rfl rfl) ?_
   refine wn ?_
   rcases H with ⟨z8, H⟩ | ⟨z8, H⟩
   ·have z9 : (decide ((d1.length : Int) < 192)) = true := (decide_eq_true z8)
    refine CW.ct rfl z9 ?_
    refine CW.skip (QW.then_n (CW.block (CW.region (WL.mv rfl ?_))))
    refine WL.buildSl [.int .u8 0] z7 Tryd.underlying25 elem5 rfl rfl (by decide) (by decide) (by simp [Value.cells]) ?_
    intro O6 ad1 p9
    replace p9 : St w ad1 [.sl (sp O6) 1 1 (iv .u8 [0]) 5 1, .sl h9 i0 i1 (iv .u8 f1) 5 1, .obj b5 (.cells c1.toArray 5 (a4, a4 + 1)), .sl p7 p8 l9 (iv .u8 d1) 5 1, .cells a0 (iv .u8 l0) 23] := p9
    obtain ⟨A0, O7, H⟩ := H
    obtain ⟨ad2, H⟩ := H
    obtain ⟨A1, A2⟩ : ∃ n_ : Nat, n_ = A0.length := ⟨_, rfl⟩
    refine WL.append (i := 3) Wanted.none p9 rfl Tryd.underlying25 elem5 rfl rfl (p9.src_sl (k := 0) rfl) (by rw [iv_length]; exact (Eq.refl _).symm) (one_iv .u8 _) (by decide) (N := A1) (by rw [A2, O7, List.length_append]; exact congr (congrArg HAdd.hAdd (z6)) (rfl)) (by rw [A2]; exact ad2) ?_
    intro O8 O9 ad3 m0
    have m0' : St w ad3 [.sl (sp O6) 1 1 (iv .u8 [0]) 5 1, .sl h9 i0 i1 (iv .u8 f1) 5 1, .obj b5 (.cells c1.toArray 5 (a4, a4 + 1)), .sl O8 O9 A1 (iv .u8 A0) 5 1, .cells a0 (iv .u8 l0) 23] := by rw [O7, ← iv_append .u8 d1 [0]]; exact m0
    refine WL.as rfl (WL.nil (QW.blk_n ?_))
    have m0'' := m0'.pick [1, 2, 3, 4] (by decide)
    exact QW.at _ (by repeat' constructor) ⟨O8, O9, A1, A0, rfl, H, A2, m0''⟩
   have z9 : (decide ((d1.length : Int) < 192)) = false := (decide_eq_false z8)
   refine CW.cf rfl z9 ?_
   refine CW.exit (QW.then_x (QW.then_x (QW.blk_x (QW.then_n (cr (WL.mv rfl ?_))))))
   refine WL.v (Runs.bytes_str Tryd.underlying25 Tryd.underlying5 Tryd.underlying9 rfl (z7.src_sl (k := 2) rfl) z6) ?_
   refine WL.as rfl (WL.as rfl (wn (CW.ret ?_)))
   obtain ⟨rfl, rfl⟩ := H
   exact QW.ret2 rfl rfl rfl ⟨rfl, z7.pick [] (by decide)⟩
  obtain ⟨P0, ad4, H⟩ := H
  refine WL.call Wanted.none ent66 rfl (reliquaryref04_Nonce.calls z0 a1 a2 P0 ad4) ?_
  rintro _ P1 ⟨ad5, rfl, ad6⟩
  have A3 := l8.call ad6
  refine ⟨_, rfl, ?_⟩
  refine WL.nil ?_
  refine AW.back ?_
  refine AW.step 0 rfl (by kernel_rfl) ?_
  refine WL.v (Runs.load_arr arr23 rfl (A3.blk (i := 2) rfl) hl0) ?_
  refine WL.nil ?_
  refine AW.back  ?_
  refine AW.step 6 rfl (by kernel_rfl) ?_
  obtain ⟨f2, ad7, ad8, H⟩ := H
  refine WL.call Wanted.none ent65 rfl (reliquaryref04_Crypt.calls P1 l0 0 P0 (bl a3) (sp b5) a3.size a4 hl0 ad5 (A3.src_obj (i := 0) rfl N9) ((bl_length _)) (N8) f2 ad7 ad8) ?_
  rintro _ ad9 ⟨i2, i3, i4, P2, rfl, ae0⟩
  have P3 := A3.call ae0
  refine ⟨_, rfl, ?_⟩
  refine WL.nil ?_
  refine AW.back  ?_
  refine AW.tk 7 rfl (fun _ => (Runs.move rfl)) ?_
  refine AW.tk 8 rfl (fun _ => (Runs.extract rfl rfl)) ?_
  refine AW.tk 9 rfl (fun _ => (Runs.extract rfl rfl)) ?_
  refine AW.tk 10 rfl (fun _ => (Runs.assign rfl)) ?_
  refine AW.tk 11 rfl (fun _ => (Runs.assign rfl)) ?_
  refine AW.done (by kernel_rfl) ?_
  refine QW.then_n ?_
  refine CW.sub [(8, .string (⟨#[]⟩ : ByteArray)), (9, .int .i64 0), (10, .slice a8 b0 a9), (11, .slice i2 i4 i3)] ⟨rfl, rfl, rfl, rfl, trivial⟩ ?_
  refine cr (WL.mv rfl (WL.mv rfl ?_))
  obtain ⟨A4, P4, H⟩ := H
  obtain ⟨ae1, H⟩ := H
  obtain ⟨q0, A5⟩ : ∃ n_ : Nat, n_ = A4.length := ⟨_, rfl⟩
  refine WL.append (i := 2) Wanted.none P3 rfl Tryd.underlying25 elem5 rfl rfl (P3.src_sl (k := 0) rfl) (by rw [iv_length]; exact (P2).symm) (one_iv .u8 _) (by decide) (N := q0) (by rw [A5, P4, List.length_append]; exact congr (congrArg HAdd.hAdd (g3)) (P2)) (by rw [A5]; exact ae1) ?_
  intro A6 A7 ae2 A8
  have A8' : St w ae2 [.sl i2 i3 i4 (iv .u8 f2) 5 1, .obj b5 (.cells c1.toArray 5 (a4, a4 + 1)), .sl A6 A7 q0 (iv .u8 A4) 5 1, .cells a0 (iv .u8 l0) 23] := by rw [P4, ← iv_append .u8 a6 f2]; exact A8
  refine WL.as rfl (wn (CW.seq (CW.block ?_)))
  obtain ⟨ae3, H⟩ := H
  refine CW.sub [(8, .string (⟨#[]⟩ : ByteArray)), (9, .int .i64 0), (10, .slice A6 q0 A7)] ⟨rfl, rfl, rfl, trivial⟩ ?_
  refine CW.loop (fun kL1 l_ w_ => ∃ (q1 : Option Addr) (q2 : Nat) (m1 : Nat) (d2 : List Int), l_ = [(8, .string (⟨#[]⟩ : ByteArray)), (9, .int .i64 0), (10, .slice q1 m1 q2)] ∧ reliquaryref08_Seal.L1 r0 r1 kL1 d2 ∧ (m1 = d2.length) ∧ St w w_ [.sl i2 i3 i4 (iv .u8 f2) 5 1, .obj b5 (.cells c1.toArray 5 (a4, a4 + 1)), .sl q1 q2 m1 (iv .u8 d2) 5 1, .cells a0 (iv .u8 l0) 23]) (k := ae3) ⟨A6, A7, q0, A4, rfl, H, A5, A8'⟩ (fun _ _ h => by obtain ⟨_, _, _, _, _, h, _⟩ := h; exact h.elim) ?_
  rintro kL1 ap1 ap2 ⟨q1, q2, m1, d2, rfl, H, A9, B0⟩
  refine CW.seq (cr (WL.mv rfl ?_))
  refine WL.v (Runs.len_sl Tryd.underlying25 rfl (by rw [A9])) ?_
  refine WL.v (Runs.lss rfl rfl rfl) ?_
  refine wn ?_
  rcases H with ⟨B1, H⟩ | ⟨B1, H⟩
  ·have B2 : (decide ((d2.length : Int) < 192)) = true := (decide_eq_true B1)
   refine CW.ct rfl B2 ?_
   refine CW.skip (QW.then_n (CW.block (CW.region (WL.mv rfl ?_))))
   refine WL.buildSl [.int .u8 0] B0 Tryd.underlying25 elem5 rfl rfl (by decide) (by decide) (by simp [Value.cells]) ?_
   intro P5 ae4 q3
   replace q3 : St w ae4 [.sl (sp P5) 1 1 (iv .u8 [0]) 5 1, .sl i2 i3 i4 (iv .u8 f2) 5 1, .obj b5 (.cells c1.toArray 5 (a4, a4 + 1)), .sl q1 q2 m1 (iv .u8 d2) 5 1, .cells a0 (iv .u8 l0) 23] := q3
   obtain ⟨B3, P6, H⟩ := H
   obtain ⟨ae5, H⟩ := H
   obtain ⟨B4, B5⟩ : ∃ n_ : Nat, n_ = B3.length := ⟨_, rfl⟩
   refine WL.append (i := 3) Wanted.none q3 rfl Tryd.underlying25 elem5 rfl rfl (q3.src_sl (k := 0) rfl) (by rw [iv_length]; exact (Eq.refl _).symm) (one_iv .u8 _) (by decide) (N := B4) (by rw [B5, P6, List.length_append]; exact congr (congrArg HAdd.hAdd (A9)) (rfl)) (by rw [B5]; exact ae5) ?_
   intro P7 P8 ae6 m2
   have m2' : St w ae6 [.sl (sp P5) 1 1 (iv .u8 [0]) 5 1, .sl i2 i3 i4 (iv .u8 f2) 5 1, .obj b5 (.cells c1.toArray 5 (a4, a4 + 1)), .sl P7 P8 B4 (iv .u8 B3) 5 1, .cells a0 (iv .u8 l0) 23] := by rw [P6, ← iv_append .u8 d2 [0]]; exact m2
   refine WL.as rfl (WL.nil (QW.blk_n ?_))
   have m2'' := m2'.pick [1, 2, 3, 4] (by decide)
   exact QW.at _ (by repeat' constructor) ⟨P7, P8, B4, B3, rfl, H, B5, m2''⟩
  have B2 : (decide ((d2.length : Int) < 192)) = false := (decide_eq_false B1)
  refine CW.cf rfl B2 ?_
  refine CW.exit (QW.then_x (QW.then_x (QW.blk_x (QW.then_n (cr (WL.mv rfl ?_))))))
  refine WL.v (Runs.bytes_str Tryd.underlying25 Tryd.underlying5 Tryd.underlying9 rfl (B0.src_sl (k := 2) rfl) A9) ?_
  refine WL.as rfl (WL.as rfl (wn (CW.ret ?_)))
  obtain ⟨rfl, rfl⟩ := H
  exact QW.ret2 rfl rfl rfl ⟨rfl, B0.pick [] (by decide)⟩
 have c6 : ((a3.size : Int) != 160) = false := (bne_eq_false_iff_eq.mpr (Decidable.not_not.mp t2))
 refine WL.off ?_ ?_; exact Wg 16 c6
 refine WL.off ?_ ?_; exact Wg 16 c6
 refine WL.off ?_ ?_; exact Wg 16 c6
 refine WL.v (Runs.pick_f (evb rfl c6) rfl) ?_
 refine WL.mv rfl ?_
 refine WL.on ?_ ?_; exact Wg 21 rfl
 refine WL.mv rfl ?_
 refine WL.on ?_ ?_; exact Wg 21 rfl
 refine WL.v (Runs.eql rfl rfl rfl) ?_
 refine WL.v (Runs.pick_f rfl rfl) ?_
 refine wn ?_
 refine CW.sub [(1, .int .u32 a1), (2, .int .u64 a2), (3, .string a3), (4, .pointer (sp a0)), (8, .string (⟨#[]⟩ : ByteArray)), (9, .int .i64 0), (24, .bool (a2 == 0))] (by repeat' constructor) ?_
 rcases H with ⟨B6, H⟩ | ⟨B6, H⟩
 ·have B7 : (a2 == 0) = true := (beq_iff_eq.mpr B6)
  refine CW.ct rfl B7 ?_
  refine cr (WL.as rfl (WL.as rfl (wn (CW.ret (QW.then_r ?_)))))
  obtain ⟨rfl, rfl⟩ := H
  exact QW.ret2 rfl rfl rfl ⟨rfl, e1.pick [] (by decide)⟩
 have B7 : (a2 == 0) = false := (beq_eq_false_iff_ne.mpr B6)
 refine CW.cf rfl B7 ?_
 refine CW.skip (QW.then_n (CW.seq (cr (WL.mv rfl ?_))))
 refine WL.v (Runs.eql rfl rfl rfl) ?_
 refine wn ?_
 rcases H with ⟨B8, H⟩ | ⟨B8, H⟩
 ·have B9 : (a2 == 18446744073709551615) = true := (beq_iff_eq.mpr B8)
  refine CW.ct rfl B9 ?_
  refine cr (WL.as rfl (WL.as rfl (wn (CW.ret (QW.then_r ?_)))))
  obtain ⟨rfl, rfl⟩ := H
  exact QW.ret2 rfl rfl rfl ⟨rfl, e1.pick [] (by decide)⟩
 have B9 : (a2 == 18446744073709551615) = false := (beq_eq_false_iff_ne.mpr B8)
 refine CW.cf rfl B9 ?_
 refine CW.skip (QW.then_n (cr (WL.mv rfl ?_)))
 obtain ⟨a7, ae7, H⟩ := H
 refine WL.call Wanted.none ent33 rfl (reliquaryref01_Put.calls J7 a2 8 a7 ae7) ?_
 rintro _ ae8 ⟨b1, b2, b3, i5, rfl, ae9⟩
 have af0 := e1.call ae9
 refine ⟨_, rfl, ?_⟩
 refine WL.as rfl (wn (CW.seq ?_))
 refine CW.region_aw wide af0 (fun P9 m3 => ?_)
 refine AW.tk 1 rfl (fun _ => (Runs.move rfl)) ?_
 refine AW.tk 2 rfl (fun _ => (Runs.move rfl)) ?_
 refine AW.tk 4 rfl (fun _ => (Runs.move rfl)) ?_
 refine AW.step3 0 3 5 rfl rfl rfl (by kernel_rfl) ?_ ?_ ?_
 ·refine WL.v (Runs.load_arr arr23 rfl (m3.blk (i := 1) rfl) hl0) ?_
  refine WL.nil ?_
  refine AW.back ?_
  refine AW.step2 3 5 rfl rfl (by kernel_rfl) ?_ ?_
  ·obtain ⟨Q0, af1, H⟩ := H
   refine WL.call Wanted.none ent66 rfl (reliquaryref04_Nonce.calls P9 a1 a2 Q0 af1) ?_
   rintro _ af2 ⟨af3, rfl, af4⟩
   have af5 := m3.call af4
   refine ⟨_, rfl, ?_⟩
   refine WL.nil ?_
   refine AW.back ?_
   refine AW.step 5 rfl (by kernel_rfl) ?_
   refine WL.bytes af5 Tryd.underlying9 Tryd.underlying25 Tryd.underlying5 rfl ?_
   intro f3 c2 i6 Q1 af6 ap3 af7 q4
   replace q4 : St w Q1 [.obj f3 (.cells i6.toArray 5 (c2, c2 + 1)), .sl b1 b2 b3 (iv .u8 a7) 5 1, .cells a0 (iv .u8 l0) 23] := q4
   refine WL.nil ?_
   refine AW.back  ?_
   refine AW.step 6 rfl (by kernel_rfl) ?_
   obtain ⟨f4, af8, af9, H⟩ := H
   refine WL.call Wanted.none ent65 rfl (reliquaryref04_Crypt.calls Q1 l0 0 Q0 (bl a3) (sp f3) a3.size c2 hl0 af3 (q4.src_obj (i := 0) rfl af7) ((bl_length _)) (af6) f4 af8 af9) ?_
   rintro _ ag0 ⟨i7, i8, i9, Q2, rfl, ag1⟩
   have Q3 := q4.call ag1
   refine ⟨_, rfl, ?_⟩
   refine WL.nil ?_
   refine AW.back  ?_
   refine AW.tk 7 rfl (fun _ => (Runs.move rfl)) ?_
   refine AW.tk 8 rfl (fun _ => (Runs.extract rfl rfl)) ?_
   refine AW.tk 9 rfl (fun _ => (Runs.extract rfl rfl)) ?_
   refine AW.tk 10 rfl (fun _ => (Runs.assign rfl)) ?_
   refine AW.tk 11 rfl (fun _ => (Runs.assign rfl)) ?_
   refine AW.done (by kernel_rfl) ?_
   refine QW.then_n ?_
   refine CW.sub [(8, .string (⟨#[]⟩ : ByteArray)), (9, .int .i64 0), (10, .slice b1 b3 b2), (11, .slice i7 i9 i8)] ⟨rfl, rfl, rfl, rfl, trivial⟩ ?_
   refine cr (WL.mv rfl (WL.mv rfl ?_))
   obtain ⟨C0, Q4, H⟩ := H
   obtain ⟨ag2, H⟩ := H
   obtain ⟨q5, C1⟩ : ∃ n_ : Nat, n_ = C0.length := ⟨_, rfl⟩
   refine WL.append (i := 2) Wanted.none Q3 rfl Tryd.underlying25 elem5 rfl rfl (Q3.src_sl (k := 0) rfl) (by rw [iv_length]; exact (Q2).symm) (one_iv .u8 _) (by decide) (N := q5) (by rw [C1, Q4, List.length_append]; exact congr (congrArg HAdd.hAdd (i5)) (Q2)) (by rw [C1]; exact ag2) ?_
   intro C2 C3 ag3 C4
   have C4' : St w ag3 [.sl i7 i8 i9 (iv .u8 f4) 5 1, .obj f3 (.cells i6.toArray 5 (c2, c2 + 1)), .sl C2 C3 q5 (iv .u8 C0) 5 1, .cells a0 (iv .u8 l0) 23] := by rw [Q4, ← iv_append .u8 a7 f4]; exact C4
   refine WL.as rfl (wn (CW.seq (CW.block ?_)))
   obtain ⟨ag4, H⟩ := H
   refine CW.sub [(8, .string (⟨#[]⟩ : ByteArray)), (9, .int .i64 0), (10, .slice C2 q5 C3)] ⟨rfl, rfl, rfl, trivial⟩ ?_
   refine CW.loop (fun kL2 l_ w_ => ∃ (q6 : Option Addr) (q7 : Nat) (m4 : Nat) (d3 : List Int), l_ = [(8, .string (⟨#[]⟩ : ByteArray)), (9, .int .i64 0), (10, .slice q6 m4 q7)] ∧ reliquaryref08_Seal.L2 r0 r1 kL2 d3 ∧ (m4 = d3.length) ∧ St w w_ [.sl i7 i8 i9 (iv .u8 f4) 5 1, .obj f3 (.cells i6.toArray 5 (c2, c2 + 1)), .sl q6 q7 m4 (iv .u8 d3) 5 1, .cells a0 (iv .u8 l0) 23]) (k := ag4) ⟨C2, C3, q5, C0, rfl, H, C1, C4'⟩ (fun _ _ h => by obtain ⟨_, _, _, _, _, h, _⟩ := h; exact h.elim) ?_
   rintro kL2 ap4 ap5 ⟨q6, q7, m4, d3, rfl, H, C5, C6⟩
   refine CW.seq (cr (WL.mv rfl ?_))
   refine WL.v (Runs.len_sl Tryd.underlying25 rfl (by rw [C5])) ?_
   refine WL.v (Runs.lss rfl rfl rfl) ?_
   refine wn ?_
   rcases H with ⟨C7, H⟩ | ⟨C7, H⟩
   ·have C8 : (decide ((d3.length : Int) < 192)) = true := (decide_eq_true C7)
    refine CW.ct rfl C8 ?_
    refine CW.skip (QW.then_n (CW.block (CW.region (WL.mv rfl ?_))))
    refine WL.buildSl [.int .u8 0] C6 Tryd.underlying25 elem5 rfl rfl (by decide) (by decide) (by simp [Value.cells]) ?_
    intro Q5 ag5 q8
    replace q8 : St w ag5 [.sl (sp Q5) 1 1 (iv .u8 [0]) 5 1, .sl i7 i8 i9 (iv .u8 f4) 5 1, .obj f3 (.cells i6.toArray 5 (c2, c2 + 1)), .sl q6 q7 m4 (iv .u8 d3) 5 1, .cells a0 (iv .u8 l0) 23] := q8
    obtain ⟨C9, Q6, H⟩ := H
    obtain ⟨ag6, H⟩ := H
    obtain ⟨D0, D1⟩ : ∃ n_ : Nat, n_ = C9.length := ⟨_, rfl⟩
    refine WL.append (i := 3) Wanted.none q8 rfl Tryd.underlying25 elem5 rfl rfl (q8.src_sl (k := 0) rfl) (by rw [iv_length]; exact (Eq.refl _).symm) (one_iv .u8 _) (by decide) (N := D0) (by rw [D1, Q6, List.length_append]; exact congr (congrArg HAdd.hAdd (C5)) (rfl)) (by rw [D1]; exact ag6) ?_
    intro Q7 Q8 ag7 m5
    have m5' : St w ag7 [.sl (sp Q5) 1 1 (iv .u8 [0]) 5 1, .sl i7 i8 i9 (iv .u8 f4) 5 1, .obj f3 (.cells i6.toArray 5 (c2, c2 + 1)), .sl Q7 Q8 D0 (iv .u8 C9) 5 1, .cells a0 (iv .u8 l0) 23] := by rw [Q6, ← iv_append .u8 d3 [0]]; exact m5
    refine WL.as rfl (WL.nil (QW.blk_n ?_))
    have m5'' := m5'.pick [1, 2, 3, 4] (by decide)
    exact QW.at _ (by repeat' constructor) ⟨Q7, Q8, D0, C9, rfl, H, D1, m5''⟩
   have C8 : (decide ((d3.length : Int) < 192)) = false := (decide_eq_false C7)
   refine CW.cf rfl C8 ?_
   refine CW.exit (QW.then_x (QW.then_x (QW.blk_x (QW.then_n (cr (WL.mv rfl ?_))))))
   refine WL.v (Runs.bytes_str Tryd.underlying25 Tryd.underlying5 Tryd.underlying9 rfl (C6.src_sl (k := 2) rfl) C5) ?_
   refine WL.as rfl (WL.as rfl (wn (CW.ret ?_)))
   obtain ⟨rfl, rfl⟩ := H
   exact QW.ret2 rfl rfl rfl ⟨rfl, C6.pick [] (by decide)⟩
  refine WL.bytes m3 Tryd.underlying9 Tryd.underlying25 Tryd.underlying5 rfl ?_
  intro e0 b6 f5 Q9 ag8 ap6 ag9 D2
  replace D2 : St w Q9 [.obj e0 (.cells f5.toArray 5 (b6, b6 + 1)), .sl b1 b2 b3 (iv .u8 a7) 5 1, .cells a0 (iv .u8 l0) 23] := D2
  refine WL.nil ?_
  refine AW.back ?_
  refine AW.step 3 rfl (by kernel_rfl) ?_
  obtain ⟨R0, ah0, H⟩ := H
  refine WL.call Wanted.none ent66 rfl (reliquaryref04_Nonce.calls Q9 a1 a2 R0 ah0) ?_
  rintro _ R1 ⟨ah1, rfl, ah2⟩
  have R2 := D2.call ah2
  refine ⟨_, rfl, ?_⟩
  refine WL.nil ?_
  refine AW.back  ?_
  refine AW.step 6 rfl (by kernel_rfl) ?_
  obtain ⟨f6, ah3, ah4, H⟩ := H
  refine WL.call Wanted.none ent65 rfl (reliquaryref04_Crypt.calls R1 l0 0 R0 (bl a3) (sp e0) a3.size b6 hl0 ah1 (R2.src_obj (i := 0) rfl ag9) ((bl_length _)) (ag8) f6 ah3 ah4) ?_
  rintro _ ah5 ⟨j0, j1, j2, R3, rfl, ah6⟩
  have R4 := R2.call ah6
  refine ⟨_, rfl, ?_⟩
  refine WL.nil ?_
  refine AW.back  ?_
  refine AW.tk 7 rfl (fun _ => (Runs.move rfl)) ?_
  refine AW.tk 8 rfl (fun _ => (Runs.extract rfl rfl)) ?_
  refine AW.tk 9 rfl (fun _ => (Runs.extract rfl rfl)) ?_
  refine AW.tk 10 rfl (fun _ => (Runs.assign rfl)) ?_
  refine AW.tk 11 rfl (fun _ => (Runs.assign rfl)) ?_
  refine AW.done (by kernel_rfl) ?_
  refine QW.then_n ?_
  refine CW.sub [(8, .string (⟨#[]⟩ : ByteArray)), (9, .int .i64 0), (10, .slice b1 b3 b2), (11, .slice j0 j2 j1)] ⟨rfl, rfl, rfl, rfl, trivial⟩ ?_
  refine cr (WL.mv rfl (WL.mv rfl ?_))
  obtain ⟨D3, R5, H⟩ := H
  obtain ⟨ah7, H⟩ := H
  obtain ⟨q9, D4⟩ : ∃ n_ : Nat, n_ = D3.length := ⟨_, rfl⟩
  refine WL.append (i := 2) Wanted.none R4 rfl Tryd.underlying25 elem5 rfl rfl (R4.src_sl (k := 0) rfl) (by rw [iv_length]; exact (R3).symm) (one_iv .u8 _) (by decide) (N := q9) (by rw [D4, R5, List.length_append]; exact congr (congrArg HAdd.hAdd (i5)) (R3)) (by rw [D4]; exact ah7) ?_
  intro D5 D6 ah8 D7
  have D7' : St w ah8 [.sl j0 j1 j2 (iv .u8 f6) 5 1, .obj e0 (.cells f5.toArray 5 (b6, b6 + 1)), .sl D5 D6 q9 (iv .u8 D3) 5 1, .cells a0 (iv .u8 l0) 23] := by rw [R5, ← iv_append .u8 a7 f6]; exact D7
  refine WL.as rfl (wn (CW.seq (CW.block ?_)))
  obtain ⟨ah9, H⟩ := H
  refine CW.sub [(8, .string (⟨#[]⟩ : ByteArray)), (9, .int .i64 0), (10, .slice D5 q9 D6)] ⟨rfl, rfl, rfl, trivial⟩ ?_
  refine CW.loop (fun kL2 l_ w_ => ∃ (r2 : Option Addr) (r3 : Nat) (m6 : Nat) (d4 : List Int), l_ = [(8, .string (⟨#[]⟩ : ByteArray)), (9, .int .i64 0), (10, .slice r2 m6 r3)] ∧ reliquaryref08_Seal.L2 r0 r1 kL2 d4 ∧ (m6 = d4.length) ∧ St w w_ [.sl j0 j1 j2 (iv .u8 f6) 5 1, .obj e0 (.cells f5.toArray 5 (b6, b6 + 1)), .sl r2 r3 m6 (iv .u8 d4) 5 1, .cells a0 (iv .u8 l0) 23]) (k := ah9) ⟨D5, D6, q9, D3, rfl, H, D4, D7'⟩ (fun _ _ h => by obtain ⟨_, _, _, _, _, h, _⟩ := h; exact h.elim) ?_
  rintro kL2 ap7 ap8 ⟨r2, r3, m6, d4, rfl, H, D8, D9⟩
  refine CW.seq (cr (WL.mv rfl ?_))
  refine WL.v (Runs.len_sl Tryd.underlying25 rfl (by rw [D8])) ?_
  refine WL.v (Runs.lss rfl rfl rfl) ?_
  refine wn ?_
  rcases H with ⟨E0, H⟩ | ⟨E0, H⟩
  ·have E1 : (decide ((d4.length : Int) < 192)) = true := (decide_eq_true E0)
   refine CW.ct rfl E1 ?_
   refine CW.skip (QW.then_n (CW.block (CW.region (WL.mv rfl ?_))))
   refine WL.buildSl [.int .u8 0] D9 Tryd.underlying25 elem5 rfl rfl (by decide) (by decide) (by simp [Value.cells]) ?_
   intro R6 ai0 r4
   replace r4 : St w ai0 [.sl (sp R6) 1 1 (iv .u8 [0]) 5 1, .sl j0 j1 j2 (iv .u8 f6) 5 1, .obj e0 (.cells f5.toArray 5 (b6, b6 + 1)), .sl r2 r3 m6 (iv .u8 d4) 5 1, .cells a0 (iv .u8 l0) 23] := r4
   obtain ⟨E2, R7, H⟩ := H
   obtain ⟨ai1, H⟩ := H
   obtain ⟨E3, E4⟩ : ∃ n_ : Nat, n_ = E2.length := ⟨_, rfl⟩
   refine WL.append (i := 3) Wanted.none r4 rfl Tryd.underlying25 elem5 rfl rfl (r4.src_sl (k := 0) rfl) (by rw [iv_length]; exact (Eq.refl _).symm) (one_iv .u8 _) (by decide) (N := E3) (by rw [E4, R7, List.length_append]; exact congr (congrArg HAdd.hAdd (D8)) (rfl)) (by rw [E4]; exact ai1) ?_
   intro R8 R9 ai2 m7
   have m7' : St w ai2 [.sl (sp R6) 1 1 (iv .u8 [0]) 5 1, .sl j0 j1 j2 (iv .u8 f6) 5 1, .obj e0 (.cells f5.toArray 5 (b6, b6 + 1)), .sl R8 R9 E3 (iv .u8 E2) 5 1, .cells a0 (iv .u8 l0) 23] := by rw [R7, ← iv_append .u8 d4 [0]]; exact m7
   refine WL.as rfl (WL.nil (QW.blk_n ?_))
   have m7'' := m7'.pick [1, 2, 3, 4] (by decide)
   exact QW.at _ (by repeat' constructor) ⟨R8, R9, E3, E2, rfl, H, E4, m7''⟩
  have E1 : (decide ((d4.length : Int) < 192)) = false := (decide_eq_false E0)
  refine CW.cf rfl E1 ?_
  refine CW.exit (QW.then_x (QW.then_x (QW.blk_x (QW.then_n (cr (WL.mv rfl ?_))))))
  refine WL.v (Runs.bytes_str Tryd.underlying25 Tryd.underlying5 Tryd.underlying9 rfl (D9.src_sl (k := 2) rfl) D8) ?_
  refine WL.as rfl (WL.as rfl (wn (CW.ret ?_)))
  obtain ⟨rfl, rfl⟩ := H
  exact QW.ret2 rfl rfl rfl ⟨rfl, D9.pick [] (by decide)⟩
 ·obtain ⟨E5, ai3, H⟩ := H
  refine WL.call Wanted.none ent66 rfl (reliquaryref04_Nonce.calls P9 a1 a2 E5 ai3) ?_
  rintro _ ai4 ⟨S0, rfl, ai5⟩
  have E6 := m3.call ai5
  refine ⟨_, rfl, ?_⟩
  refine WL.nil ?_
  refine AW.back ?_
  refine AW.step2 0 5 rfl rfl (by kernel_rfl) ?_ ?_
  ·refine WL.v (Runs.load_arr arr23 rfl (E6.blk (i := 1) rfl) hl0) ?_
   refine WL.nil ?_
   refine AW.back ?_
   refine AW.step 5 rfl (by kernel_rfl) ?_
   refine WL.bytes E6 Tryd.underlying9 Tryd.underlying25 Tryd.underlying5 rfl ?_
   intro f7 c3 j3 S1 ai6 ap9 ai7 r5
   replace r5 : St w S1 [.obj f7 (.cells j3.toArray 5 (c3, c3 + 1)), .sl b1 b2 b3 (iv .u8 a7) 5 1, .cells a0 (iv .u8 l0) 23] := r5
   refine WL.nil ?_
   refine AW.back  ?_
   refine AW.step 6 rfl (by kernel_rfl) ?_
   obtain ⟨f8, ai8, ai9, H⟩ := H
   refine WL.call Wanted.none ent65 rfl (reliquaryref04_Crypt.calls S1 l0 0 E5 (bl a3) (sp f7) a3.size c3 hl0 S0 (r5.src_obj (i := 0) rfl ai7) ((bl_length _)) (ai6) f8 ai8 ai9) ?_
   rintro _ aj0 ⟨j4, j5, j6, S2, rfl, aj1⟩
   have S3 := r5.call aj1
   refine ⟨_, rfl, ?_⟩
   refine WL.nil ?_
   refine AW.back  ?_
   refine AW.tk 7 rfl (fun _ => (Runs.move rfl)) ?_
   refine AW.tk 8 rfl (fun _ => (Runs.extract rfl rfl)) ?_
   refine AW.tk 9 rfl (fun _ => (Runs.extract rfl rfl)) ?_
   refine AW.tk 10 rfl (fun _ => (Runs.assign rfl)) ?_
   refine AW.tk 11 rfl (fun _ => (Runs.assign rfl)) ?_
   refine AW.done (by kernel_rfl) ?_
   refine QW.then_n ?_
   refine CW.sub [(8, .string (⟨#[]⟩ : ByteArray)), (9, .int .i64 0), (10, .slice b1 b3 b2), (11, .slice j4 j6 j5)] ⟨rfl, rfl, rfl, rfl, trivial⟩ ?_
   refine cr (WL.mv rfl (WL.mv rfl ?_))
   obtain ⟨E7, S4, H⟩ := H
   obtain ⟨aj2, H⟩ := H
   obtain ⟨r6, E8⟩ : ∃ n_ : Nat, n_ = E7.length := ⟨_, rfl⟩
   refine WL.append (i := 2) Wanted.none S3 rfl Tryd.underlying25 elem5 rfl rfl (S3.src_sl (k := 0) rfl) (by rw [iv_length]; exact (S2).symm) (one_iv .u8 _) (by decide) (N := r6) (by rw [E8, S4, List.length_append]; exact congr (congrArg HAdd.hAdd (i5)) (S2)) (by rw [E8]; exact aj2) ?_
   intro E9 F0 aj3 F1
   have F1' : St w aj3 [.sl j4 j5 j6 (iv .u8 f8) 5 1, .obj f7 (.cells j3.toArray 5 (c3, c3 + 1)), .sl E9 F0 r6 (iv .u8 E7) 5 1, .cells a0 (iv .u8 l0) 23] := by rw [S4, ← iv_append .u8 a7 f8]; exact F1
   refine WL.as rfl (wn (CW.seq (CW.block ?_)))
   obtain ⟨aj4, H⟩ := H
   refine CW.sub [(8, .string (⟨#[]⟩ : ByteArray)), (9, .int .i64 0), (10, .slice E9 r6 F0)] ⟨rfl, rfl, rfl, trivial⟩ ?_
   refine CW.loop (fun kL2 l_ w_ => ∃ (r7 : Option Addr) (r8 : Nat) (m8 : Nat) (d5 : List Int), l_ = [(8, .string (⟨#[]⟩ : ByteArray)), (9, .int .i64 0), (10, .slice r7 m8 r8)] ∧ reliquaryref08_Seal.L2 r0 r1 kL2 d5 ∧ (m8 = d5.length) ∧ St w w_ [.sl j4 j5 j6 (iv .u8 f8) 5 1, .obj f7 (.cells j3.toArray 5 (c3, c3 + 1)), .sl r7 r8 m8 (iv .u8 d5) 5 1, .cells a0 (iv .u8 l0) 23]) (k := aj4) ⟨E9, F0, r6, E7, rfl, H, E8, F1'⟩ (fun _ _ h => by obtain ⟨_, _, _, _, _, h, _⟩ := h; exact h.elim) ?_
   rintro kL2 aq0 aq1 ⟨r7, r8, m8, d5, rfl, H, F2, F3⟩
   refine CW.seq (cr (WL.mv rfl ?_))
   refine WL.v (Runs.len_sl Tryd.underlying25 rfl (by rw [F2])) ?_
   refine WL.v (Runs.lss rfl rfl rfl) ?_
   refine wn ?_
   rcases H with ⟨F4, H⟩ | ⟨F4, H⟩
   ·have F5 : (decide ((d5.length : Int) < 192)) = true := (decide_eq_true F4)
    refine CW.ct rfl F5 ?_
    refine CW.skip (QW.then_n (CW.block (CW.region (WL.mv rfl ?_))))
    refine WL.buildSl [.int .u8 0] F3 Tryd.underlying25 elem5 rfl rfl (by decide) (by decide) (by simp [Value.cells]) ?_
    intro S5 aj5 r9
    replace r9 : St w aj5 [.sl (sp S5) 1 1 (iv .u8 [0]) 5 1, .sl j4 j5 j6 (iv .u8 f8) 5 1, .obj f7 (.cells j3.toArray 5 (c3, c3 + 1)), .sl r7 r8 m8 (iv .u8 d5) 5 1, .cells a0 (iv .u8 l0) 23] := r9
    obtain ⟨F6, S6, H⟩ := H
    obtain ⟨aj6, H⟩ := H
    obtain ⟨F7, F8⟩ : ∃ n_ : Nat, n_ = F6.length := ⟨_, rfl⟩
    refine WL.append (i := 3) Wanted.none r9 rfl Tryd.underlying25 elem5 rfl rfl (r9.src_sl (k := 0) rfl) (by rw [iv_length]; exact (Eq.refl _).symm) (one_iv .u8 _) (by decide) (N := F7) (by rw [F8, S6, List.length_append]; exact congr (congrArg HAdd.hAdd (F2)) (rfl)) (by rw [F8]; exact aj6) ?_
    intro S7 S8 aj7 m9
    have m9' : St w aj7 [.sl (sp S5) 1 1 (iv .u8 [0]) 5 1, .sl j4 j5 j6 (iv .u8 f8) 5 1, .obj f7 (.cells j3.toArray 5 (c3, c3 + 1)), .sl S7 S8 F7 (iv .u8 F6) 5 1, .cells a0 (iv .u8 l0) 23] := by rw [S6, ← iv_append .u8 d5 [0]]; exact m9
    refine WL.as rfl (WL.nil (QW.blk_n ?_))
    have m9'' := m9'.pick [1, 2, 3, 4] (by decide)
    exact QW.at _ (by repeat' constructor) ⟨S7, S8, F7, F6, rfl, H, F8, m9''⟩
   have F5 : (decide ((d5.length : Int) < 192)) = false := (decide_eq_false F4)
   refine CW.cf rfl F5 ?_
   refine CW.exit (QW.then_x (QW.then_x (QW.blk_x (QW.then_n (cr (WL.mv rfl ?_))))))
   refine WL.v (Runs.bytes_str Tryd.underlying25 Tryd.underlying5 Tryd.underlying9 rfl (F3.src_sl (k := 2) rfl) F2) ?_
   refine WL.as rfl (WL.as rfl (wn (CW.ret ?_)))
   obtain ⟨rfl, rfl⟩ := H
   exact QW.ret2 rfl rfl rfl ⟨rfl, F3.pick [] (by decide)⟩
  refine WL.bytes E6 Tryd.underlying9 Tryd.underlying25 Tryd.underlying5 rfl ?_
  intro f9 c4 j7 S9 aj8 aq2 aj9 n0
  replace n0 : St w S9 [.obj f9 (.cells j7.toArray 5 (c4, c4 + 1)), .sl b1 b2 b3 (iv .u8 a7) 5 1, .cells a0 (iv .u8 l0) 23] := n0
  refine WL.nil ?_
  refine AW.back ?_
  refine AW.step 0 rfl (by kernel_rfl) ?_
  refine WL.v (Runs.load_arr arr23 rfl (n0.blk (i := 2) rfl) hl0) ?_
  refine WL.nil ?_
  refine AW.back  ?_
  refine AW.step 6 rfl (by kernel_rfl) ?_
  obtain ⟨g0, ak0, ak1, H⟩ := H
  refine WL.call Wanted.none ent65 rfl (reliquaryref04_Crypt.calls S9 l0 0 E5 (bl a3) (sp f9) a3.size c4 hl0 S0 (n0.src_obj (i := 0) rfl aj9) ((bl_length _)) (aj8) g0 ak0 ak1) ?_
  rintro _ ak2 ⟨j8, j9, k0, T0, rfl, ak3⟩
  have T1 := n0.call ak3
  refine ⟨_, rfl, ?_⟩
  refine WL.nil ?_
  refine AW.back  ?_
  refine AW.tk 7 rfl (fun _ => (Runs.move rfl)) ?_
  refine AW.tk 8 rfl (fun _ => (Runs.extract rfl rfl)) ?_
  refine AW.tk 9 rfl (fun _ => (Runs.extract rfl rfl)) ?_
  refine AW.tk 10 rfl (fun _ => (Runs.assign rfl)) ?_
  refine AW.tk 11 rfl (fun _ => (Runs.assign rfl)) ?_
  refine AW.done (by kernel_rfl) ?_
  refine QW.then_n ?_
  refine CW.sub [(8, .string (⟨#[]⟩ : ByteArray)), (9, .int .i64 0), (10, .slice b1 b3 b2), (11, .slice j8 k0 j9)] ⟨rfl, rfl, rfl, rfl, trivial⟩ ?_
  refine cr (WL.mv rfl (WL.mv rfl ?_))
  obtain ⟨F9, T2, H⟩ := H
  obtain ⟨ak4, H⟩ := H
  obtain ⟨s0, G0⟩ : ∃ n_ : Nat, n_ = F9.length := ⟨_, rfl⟩
  refine WL.append (i := 2) Wanted.none T1 rfl Tryd.underlying25 elem5 rfl rfl (T1.src_sl (k := 0) rfl) (by rw [iv_length]; exact (T0).symm) (one_iv .u8 _) (by decide) (N := s0) (by rw [G0, T2, List.length_append]; exact congr (congrArg HAdd.hAdd (i5)) (T0)) (by rw [G0]; exact ak4) ?_
  intro G1 G2 ak5 G3
  have G3' : St w ak5 [.sl j8 j9 k0 (iv .u8 g0) 5 1, .obj f9 (.cells j7.toArray 5 (c4, c4 + 1)), .sl G1 G2 s0 (iv .u8 F9) 5 1, .cells a0 (iv .u8 l0) 23] := by rw [T2, ← iv_append .u8 a7 g0]; exact G3
  refine WL.as rfl (wn (CW.seq (CW.block ?_)))
  obtain ⟨ak6, H⟩ := H
  refine CW.sub [(8, .string (⟨#[]⟩ : ByteArray)), (9, .int .i64 0), (10, .slice G1 s0 G2)] ⟨rfl, rfl, rfl, trivial⟩ ?_
  refine CW.loop (fun kL2 l_ w_ => ∃ (s1 : Option Addr) (s2 : Nat) (n1 : Nat) (d6 : List Int), l_ = [(8, .string (⟨#[]⟩ : ByteArray)), (9, .int .i64 0), (10, .slice s1 n1 s2)] ∧ reliquaryref08_Seal.L2 r0 r1 kL2 d6 ∧ (n1 = d6.length) ∧ St w w_ [.sl j8 j9 k0 (iv .u8 g0) 5 1, .obj f9 (.cells j7.toArray 5 (c4, c4 + 1)), .sl s1 s2 n1 (iv .u8 d6) 5 1, .cells a0 (iv .u8 l0) 23]) (k := ak6) ⟨G1, G2, s0, F9, rfl, H, G0, G3'⟩ (fun _ _ h => by obtain ⟨_, _, _, _, _, h, _⟩ := h; exact h.elim) ?_
  rintro kL2 aq3 aq4 ⟨s1, s2, n1, d6, rfl, H, G4, G5⟩
  refine CW.seq (cr (WL.mv rfl ?_))
  refine WL.v (Runs.len_sl Tryd.underlying25 rfl (by rw [G4])) ?_
  refine WL.v (Runs.lss rfl rfl rfl) ?_
  refine wn ?_
  rcases H with ⟨G6, H⟩ | ⟨G6, H⟩
  ·have G7 : (decide ((d6.length : Int) < 192)) = true := (decide_eq_true G6)
   refine CW.ct rfl G7 ?_
   refine CW.skip (QW.then_n (CW.block (CW.region (WL.mv rfl ?_))))
   refine WL.buildSl [.int .u8 0] G5 Tryd.underlying25 elem5 rfl rfl (by decide) (by decide) (by simp [Value.cells]) ?_
   intro T3 ak7 s3
   replace s3 : St w ak7 [.sl (sp T3) 1 1 (iv .u8 [0]) 5 1, .sl j8 j9 k0 (iv .u8 g0) 5 1, .obj f9 (.cells j7.toArray 5 (c4, c4 + 1)), .sl s1 s2 n1 (iv .u8 d6) 5 1, .cells a0 (iv .u8 l0) 23] := s3
   obtain ⟨G8, T4, H⟩ := H
   obtain ⟨ak8, H⟩ := H
   obtain ⟨G9, H0⟩ : ∃ n_ : Nat, n_ = G8.length := ⟨_, rfl⟩
   refine WL.append (i := 3) Wanted.none s3 rfl Tryd.underlying25 elem5 rfl rfl (s3.src_sl (k := 0) rfl) (by rw [iv_length]; exact (Eq.refl _).symm) (one_iv .u8 _) (by decide) (N := G9) (by rw [H0, T4, List.length_append]; exact congr (congrArg HAdd.hAdd (G4)) (rfl)) (by rw [H0]; exact ak8) ?_
   intro T5 T6 ak9 n2
   have n2' : St w ak9 [.sl (sp T3) 1 1 (iv .u8 [0]) 5 1, .sl j8 j9 k0 (iv .u8 g0) 5 1, .obj f9 (.cells j7.toArray 5 (c4, c4 + 1)), .sl T5 T6 G9 (iv .u8 G8) 5 1, .cells a0 (iv .u8 l0) 23] := by rw [T4, ← iv_append .u8 d6 [0]]; exact n2
   refine WL.as rfl (WL.nil (QW.blk_n ?_))
   have n2'' := n2'.pick [1, 2, 3, 4] (by decide)
   exact QW.at _ (by repeat' constructor) ⟨T5, T6, G9, G8, rfl, H, H0, n2''⟩
  have G7 : (decide ((d6.length : Int) < 192)) = false := (decide_eq_false G6)
  refine CW.cf rfl G7 ?_
  refine CW.exit (QW.then_x (QW.then_x (QW.blk_x (QW.then_n (cr (WL.mv rfl ?_))))))
  refine WL.v (Runs.bytes_str Tryd.underlying25 Tryd.underlying5 Tryd.underlying9 rfl (G5.src_sl (k := 2) rfl) G4) ?_
  refine WL.as rfl (WL.as rfl (wn (CW.ret ?_)))
  obtain ⟨rfl, rfl⟩ := H
  exact QW.ret2 rfl rfl rfl ⟨rfl, G5.pick [] (by decide)⟩
 refine WL.bytes m3 Tryd.underlying9 Tryd.underlying25 Tryd.underlying5 rfl ?_
 intro b7 a5 c5 H1 T7 aq5 T8 n3
 replace n3 : St w H1 [.obj b7 (.cells c5.toArray 5 (a5, a5 + 1)), .sl b1 b2 b3 (iv .u8 a7) 5 1, .cells a0 (iv .u8 l0) 23] := n3
 refine WL.nil ?_
 refine AW.back ?_
 refine AW.step2 0 3 rfl rfl (by kernel_rfl) ?_ ?_
 ·refine WL.v (Runs.load_arr arr23 rfl (n3.blk (i := 2) rfl) hl0) ?_
  refine WL.nil ?_
  refine AW.back ?_
  refine AW.step 3 rfl (by kernel_rfl) ?_
  obtain ⟨T9, al0, H⟩ := H
  refine WL.call Wanted.none ent66 rfl (reliquaryref04_Nonce.calls H1 a1 a2 T9 al0) ?_
  rintro _ U0 ⟨al1, rfl, al2⟩
  have U1 := n3.call al2
  refine ⟨_, rfl, ?_⟩
  refine WL.nil ?_
  refine AW.back  ?_
  refine AW.step 6 rfl (by kernel_rfl) ?_
  obtain ⟨g1, al3, al4, H⟩ := H
  refine WL.call Wanted.none ent65 rfl (reliquaryref04_Crypt.calls U0 l0 0 T9 (bl a3) (sp b7) a3.size a5 hl0 al1 (U1.src_obj (i := 0) rfl T8) ((bl_length _)) (T7) g1 al3 al4) ?_
  rintro _ al5 ⟨k1, k2, k3, U2, rfl, al6⟩
  have U3 := U1.call al6
  refine ⟨_, rfl, ?_⟩
  refine WL.nil ?_
  refine AW.back  ?_
  refine AW.tk 7 rfl (fun _ => (Runs.move rfl)) ?_
  refine AW.tk 8 rfl (fun _ => (Runs.extract rfl rfl)) ?_
  refine AW.tk 9 rfl (fun _ => (Runs.extract rfl rfl)) ?_
  refine AW.tk 10 rfl (fun _ => (Runs.assign rfl)) ?_
  refine AW.tk 11 rfl (fun _ => (Runs.assign rfl)) ?_
  refine AW.done (by kernel_rfl) ?_
  refine QW.then_n ?_
  refine CW.sub [(8, .string (⟨#[]⟩ : ByteArray)), (9, .int .i64 0), (10, .slice b1 b3 b2), (11, .slice k1 k3 k2)] ⟨rfl, rfl, rfl, rfl, trivial⟩ ?_
  refine cr (WL.mv rfl (WL.mv rfl ?_))
  obtain ⟨H2, U4, H⟩ := H
  obtain ⟨al7, H⟩ := H
  obtain ⟨s4, H3⟩ : ∃ n_ : Nat, n_ = H2.length := ⟨_, rfl⟩
  refine WL.append (i := 2) Wanted.none U3 rfl Tryd.underlying25 elem5 rfl rfl (U3.src_sl (k := 0) rfl) (by rw [iv_length]; exact (U2).symm) (one_iv .u8 _) (by decide) (N := s4) (by rw [H3, U4, List.length_append]; exact congr (congrArg HAdd.hAdd (i5)) (U2)) (by rw [H3]; exact al7) ?_
  intro H4 H5 al8 H6
  have H6' : St w al8 [.sl k1 k2 k3 (iv .u8 g1) 5 1, .obj b7 (.cells c5.toArray 5 (a5, a5 + 1)), .sl H4 H5 s4 (iv .u8 H2) 5 1, .cells a0 (iv .u8 l0) 23] := by rw [U4, ← iv_append .u8 a7 g1]; exact H6
  refine WL.as rfl (wn (CW.seq (CW.block ?_)))
  obtain ⟨al9, H⟩ := H
  refine CW.sub [(8, .string (⟨#[]⟩ : ByteArray)), (9, .int .i64 0), (10, .slice H4 s4 H5)] ⟨rfl, rfl, rfl, trivial⟩ ?_
  refine CW.loop (fun kL2 l_ w_ => ∃ (s5 : Option Addr) (s6 : Nat) (n4 : Nat) (d7 : List Int), l_ = [(8, .string (⟨#[]⟩ : ByteArray)), (9, .int .i64 0), (10, .slice s5 n4 s6)] ∧ reliquaryref08_Seal.L2 r0 r1 kL2 d7 ∧ (n4 = d7.length) ∧ St w w_ [.sl k1 k2 k3 (iv .u8 g1) 5 1, .obj b7 (.cells c5.toArray 5 (a5, a5 + 1)), .sl s5 s6 n4 (iv .u8 d7) 5 1, .cells a0 (iv .u8 l0) 23]) (k := al9) ⟨H4, H5, s4, H2, rfl, H, H3, H6'⟩ (fun _ _ h => by obtain ⟨_, _, _, _, _, h, _⟩ := h; exact h.elim) ?_
  rintro kL2 aq6 aq7 ⟨s5, s6, n4, d7, rfl, H, H7, H8⟩
  refine CW.seq (cr (WL.mv rfl ?_))
  refine WL.v (Runs.len_sl Tryd.underlying25 rfl (by rw [H7])) ?_
  refine WL.v (Runs.lss rfl rfl rfl) ?_
  refine wn ?_
  rcases H with ⟨H9, H⟩ | ⟨H9, H⟩
  ·have I0 : (decide ((d7.length : Int) < 192)) = true := (decide_eq_true H9)
   refine CW.ct rfl I0 ?_
   refine CW.skip (QW.then_n (CW.block (CW.region (WL.mv rfl ?_))))
   refine WL.buildSl [.int .u8 0] H8 Tryd.underlying25 elem5 rfl rfl (by decide) (by decide) (by simp [Value.cells]) ?_
   intro U5 am0 s7
   replace s7 : St w am0 [.sl (sp U5) 1 1 (iv .u8 [0]) 5 1, .sl k1 k2 k3 (iv .u8 g1) 5 1, .obj b7 (.cells c5.toArray 5 (a5, a5 + 1)), .sl s5 s6 n4 (iv .u8 d7) 5 1, .cells a0 (iv .u8 l0) 23] := s7
   obtain ⟨I1, U6, H⟩ := H
   obtain ⟨am1, H⟩ := H
   obtain ⟨I2, I3⟩ : ∃ n_ : Nat, n_ = I1.length := ⟨_, rfl⟩
   refine WL.append (i := 3) Wanted.none s7 rfl Tryd.underlying25 elem5 rfl rfl (s7.src_sl (k := 0) rfl) (by rw [iv_length]; exact (Eq.refl _).symm) (one_iv .u8 _) (by decide) (N := I2) (by rw [I3, U6, List.length_append]; exact congr (congrArg HAdd.hAdd (H7)) (rfl)) (by rw [I3]; exact am1) ?_
   intro U7 U8 am2 n5
   have n5' : St w am2 [.sl (sp U5) 1 1 (iv .u8 [0]) 5 1, .sl k1 k2 k3 (iv .u8 g1) 5 1, .obj b7 (.cells c5.toArray 5 (a5, a5 + 1)), .sl U7 U8 I2 (iv .u8 I1) 5 1, .cells a0 (iv .u8 l0) 23] := by rw [U6, ← iv_append .u8 d7 [0]]; exact n5
   refine WL.as rfl (WL.nil (QW.blk_n ?_))
   have n5'' := n5'.pick [1, 2, 3, 4] (by decide)
   exact QW.at _ (by repeat' constructor) ⟨U7, U8, I2, I1, rfl, H, I3, n5''⟩
  have I0 : (decide ((d7.length : Int) < 192)) = false := (decide_eq_false H9)
  refine CW.cf rfl I0 ?_
  refine CW.exit (QW.then_x (QW.then_x (QW.blk_x (QW.then_n (cr (WL.mv rfl ?_))))))
  refine WL.v (Runs.bytes_str Tryd.underlying25 Tryd.underlying5 Tryd.underlying9 rfl (H8.src_sl (k := 2) rfl) H7) ?_
  refine WL.as rfl (WL.as rfl (wn (CW.ret ?_)))
  obtain ⟨rfl, rfl⟩ := H
  exact QW.ret2 rfl rfl rfl ⟨rfl, H8.pick [] (by decide)⟩
 obtain ⟨U9, am3, H⟩ := H
 refine WL.call Wanted.none ent66 rfl (reliquaryref04_Nonce.calls H1 a1 a2 U9 am3) ?_
 rintro _ V0 ⟨am4, rfl, am5⟩
 have I4 := n3.call am5
 refine ⟨_, rfl, ?_⟩
 refine WL.nil ?_
 refine AW.back ?_
 refine AW.step 0 rfl (by kernel_rfl) ?_
 refine WL.v (Runs.load_arr arr23 rfl (I4.blk (i := 2) rfl) hl0) ?_
 refine WL.nil ?_
 refine AW.back  ?_
 refine AW.step 6 rfl (by kernel_rfl) ?_
 obtain ⟨g2, am6, am7, H⟩ := H
 refine WL.call Wanted.none ent65 rfl (reliquaryref04_Crypt.calls V0 l0 0 U9 (bl a3) (sp b7) a3.size a5 hl0 am4 (I4.src_obj (i := 0) rfl T8) ((bl_length _)) (T7) g2 am6 am7) ?_
 rintro _ am8 ⟨k4, k5, k6, V1, rfl, am9⟩
 have V2 := I4.call am9
 refine ⟨_, rfl, ?_⟩
 refine WL.nil ?_
 refine AW.back  ?_
 refine AW.tk 7 rfl (fun _ => (Runs.move rfl)) ?_
 refine AW.tk 8 rfl (fun _ => (Runs.extract rfl rfl)) ?_
 refine AW.tk 9 rfl (fun _ => (Runs.extract rfl rfl)) ?_
 refine AW.tk 10 rfl (fun _ => (Runs.assign rfl)) ?_
 refine AW.tk 11 rfl (fun _ => (Runs.assign rfl)) ?_
 refine AW.done (by kernel_rfl) ?_
 refine QW.then_n ?_
 refine CW.sub [(8, .string (⟨#[]⟩ : ByteArray)), (9, .int .i64 0), (10, .slice b1 b3 b2), (11, .slice k4 k6 k5)] ⟨rfl, rfl, rfl, rfl, trivial⟩ ?_
 refine cr (WL.mv rfl (WL.mv rfl ?_))
 obtain ⟨I5, V3, H⟩ := H
 obtain ⟨an0, H⟩ := H
 obtain ⟨s8, I6⟩ : ∃ n_ : Nat, n_ = I5.length := ⟨_, rfl⟩
 refine WL.append (i := 2) Wanted.none V2 rfl Tryd.underlying25 elem5 rfl rfl (V2.src_sl (k := 0) rfl) (by rw [iv_length]; exact (V1).symm) (one_iv .u8 _) (by decide) (N := s8) (by rw [I6, V3, List.length_append]; exact congr (congrArg HAdd.hAdd (i5)) (V1)) (by rw [I6]; exact an0) ?_
 intro I7 I8 an1 I9
 have I9' : St w an1 [.sl k4 k5 k6 (iv .u8 g2) 5 1, .obj b7 (.cells c5.toArray 5 (a5, a5 + 1)), .sl I7 I8 s8 (iv .u8 I5) 5 1, .cells a0 (iv .u8 l0) 23] := by rw [V3, ← iv_append .u8 a7 g2]; exact I9
 refine WL.as rfl (wn (CW.seq (CW.block ?_)))
 obtain ⟨an2, H⟩ := H
 refine CW.sub [(8, .string (⟨#[]⟩ : ByteArray)), (9, .int .i64 0), (10, .slice I7 s8 I8)] ⟨rfl, rfl, rfl, trivial⟩ ?_
 refine CW.loop (fun kL2 l_ w_ => ∃ (s9 : Option Addr) (t0 : Nat) (n6 : Nat) (d8 : List Int), l_ = [(8, .string (⟨#[]⟩ : ByteArray)), (9, .int .i64 0), (10, .slice s9 n6 t0)] ∧ reliquaryref08_Seal.L2 r0 r1 kL2 d8 ∧ (n6 = d8.length) ∧ St w w_ [.sl k4 k5 k6 (iv .u8 g2) 5 1, .obj b7 (.cells c5.toArray 5 (a5, a5 + 1)), .sl s9 t0 n6 (iv .u8 d8) 5 1, .cells a0 (iv .u8 l0) 23]) (k := an2) ⟨I7, I8, s8, I5, rfl, H, I6, I9'⟩ (fun _ _ h => by obtain ⟨_, _, _, _, _, h, _⟩ := h; exact h.elim) ?_
 rintro kL2 aq8 aq9 ⟨s9, t0, n6, d8, rfl, H, J0, J1⟩
 refine CW.seq (cr (WL.mv rfl ?_))
 refine WL.v (Runs.len_sl Tryd.underlying25 rfl (by rw [J0])) ?_
 refine WL.v (Runs.lss rfl rfl rfl) ?_
 refine wn ?_
 rcases H with ⟨J2, H⟩ | ⟨J2, H⟩
 ·have J3 : (decide ((d8.length : Int) < 192)) = true := (decide_eq_true J2)
  refine CW.ct rfl J3 ?_
  refine CW.skip (QW.then_n (CW.block (CW.region (WL.mv rfl ?_))))
  refine WL.buildSl [.int .u8 0] J1 Tryd.underlying25 elem5 rfl rfl (by decide) (by decide) (by simp [Value.cells]) ?_
  intro V4 an3 t1
  replace t1 : St w an3 [.sl (sp V4) 1 1 (iv .u8 [0]) 5 1, .sl k4 k5 k6 (iv .u8 g2) 5 1, .obj b7 (.cells c5.toArray 5 (a5, a5 + 1)), .sl s9 t0 n6 (iv .u8 d8) 5 1, .cells a0 (iv .u8 l0) 23] := t1
  obtain ⟨J4, V5, H⟩ := H
  obtain ⟨an4, H⟩ := H
  obtain ⟨J5, J6⟩ : ∃ n_ : Nat, n_ = J4.length := ⟨_, rfl⟩
  refine WL.append (i := 3) Wanted.none t1 rfl Tryd.underlying25 elem5 rfl rfl (t1.src_sl (k := 0) rfl) (by rw [iv_length]; exact (Eq.refl _).symm) (one_iv .u8 _) (by decide) (N := J5) (by rw [J6, V5, List.length_append]; exact congr (congrArg HAdd.hAdd (J0)) (rfl)) (by rw [J6]; exact an4) ?_
  intro V6 V7 an5 n7
  have n7' : St w an5 [.sl (sp V4) 1 1 (iv .u8 [0]) 5 1, .sl k4 k5 k6 (iv .u8 g2) 5 1, .obj b7 (.cells c5.toArray 5 (a5, a5 + 1)), .sl V6 V7 J5 (iv .u8 J4) 5 1, .cells a0 (iv .u8 l0) 23] := by rw [V5, ← iv_append .u8 d8 [0]]; exact n7
  refine WL.as rfl (WL.nil (QW.blk_n ?_))
  have n7'' := n7'.pick [1, 2, 3, 4] (by decide)
  exact QW.at _ (by repeat' constructor) ⟨V6, V7, J5, J4, rfl, H, J6, n7''⟩
 have J3 : (decide ((d8.length : Int) < 192)) = false := (decide_eq_false J2)
 refine CW.cf rfl J3 ?_
 refine CW.exit (QW.then_x (QW.then_x (QW.blk_x (QW.then_n (cr (WL.mv rfl ?_))))))
 refine WL.v (Runs.bytes_str Tryd.underlying25 Tryd.underlying5 Tryd.underlying9 rfl (J1.src_sl (k := 2) rfl) J0) ?_
 refine WL.as rfl (WL.as rfl (wn (CW.ret ?_)))
 obtain ⟨rfl, rfl⟩ := H
 exact QW.ret2 rfl rfl rfl ⟨rfl, J1.pick [] (by decide)⟩
/-! ### reliquaryref06_fits: function 67 -/
def reliquaryref06_fits.rel (a0_0 : Int) (l0_1 : List R145) (l0_2 : List R145) (a0_3 : Int) (a0_4 : Bool) (l0_5 : List R160) (a1 : Int) (a2 : ByteArray) (ar0 : Int) : Prop := ((a1 < 0 ∧ ar0 = 12) ∨ (¬ (a1 < 0) ∧ ((a1 ≥ a0_0 ∧ ar0 = 12) ∨ (¬ (a1 ≥ a0_0) ∧ (((a2.size : Int) ≠ 192 ∧ ar0 = 1) ∨ (¬ ((a2.size : Int) ≠ 192) ∧ ar0 = 0))))))
set_option maxHeartbeats 1000000 in
theorem reliquaryref06_fits.calls (w w1 : World) (T R : Pool) (a0_0 : Int) (l0_1 : List R145) (l0_2 : List R145) (a0_3 : Int) (a0_4 : Bool) (l0_5 : List R160) (a1 : Int) (a2 : ByteArray) (A0_1 : Option Addr) (n0_1 : Nat) (c0_1 : Nat) (A0_2 : Option Addr) (n0_2 : Nat) (c0_2 : Nat) (A0_5 : Option Addr) (n0_5 : Nat) (c0_5 : Nat) (st0 : St w w1 ((T ++ R))) (hb0_1 : HS w T T A0_1 n0_1 c0_1 (f145 w) l0_1) (hb0_2 : HS w T T A0_2 n0_2 c0_2 (f145 w) l0_2) (hb0_5 : HS w T T A0_5 n0_5 c0_5 (f160 w) l0_5) (ar0 : Int) (H : reliquaryref06_fits.rel a0_0 l0_1 l0_2 a0_3 a0_4 l0_5 a1 a2 ar0) :
  Calls Tryd.prog 67 #[.agg ((ci a0_0) ++ ((cl A0_1 n0_1 c0_1) ++ ((cl A0_2 n0_2 c0_2) ++ ((ci a0_3) ++ ((cb a0_4) ++ (cl A0_5 n0_5 c0_5)))))).toArray, .int .i64 a1, .string a2] w1 fun e w' => ∃ T' , Pl T T' ∧ e = .returned (.int .i64 ar0) ∧ St w w' ((T' ++ R)) := by
 refine CW.enter Tryd.func67 rfl (n := 18) rfl [.agg ((ci a0_0) ++ ((cl A0_1 n0_1 c0_1) ++ ((cl A0_2 n0_2 c0_2) ++ ((ci a0_3) ++ ((cb a0_4) ++ (cl A0_5 n0_5 c0_5)))))).toArray, .int .i64 a1, .string a2] (Nat.le_of_ble_eq_true rfl) ?_
 refine CW.sub [(0, .agg ((ci a0_0) ++ ((cl A0_1 n0_1 c0_1) ++ ((cl A0_2 n0_2 c0_2) ++ ((ci a0_3) ++ ((cb a0_4) ++ (cl A0_5 n0_5 c0_5)))))).toArray), (1, .int .i64 a1), (2, .string a2)] ⟨rfl, rfl, rfl, trivial⟩ ?_
 refine cr ?_
 refine WL.box st0 rfl rfl ?_
 intro a9 b0 a3
 refine WL.as rfl (wn (CW.seq (cr (WL.mv rfl ?_))))
 refine WL.v (Runs.lss rfl rfl rfl) ?_
 refine WL.mv rfl ?_
 rcases H with ⟨a4, H⟩ | ⟨a4, H⟩
 ·have a0 : (decide (a1 < 0)) = true := (decide_eq_true a4)
  refine WL.off ?_ ?_; exact Wg 9 a0
  refine WL.off ?_ ?_; exact Wg 9 a0
  refine WL.off ?_ ?_; exact Wg 9 a0
  refine WL.off ?_ ?_; exact Wg 9 a0
  refine WL.v (Runs.pick_t (evb rfl a0) rfl) ?_
  refine wn ?_
  refine CW.sub [(2, .string a2), (6, .int .i64 0), (14, .bool true)] ⟨rfl, rfl, rfl, trivial⟩ ?_
  refine CW.ct rfl rfl ?_
  refine cr (WL.as rfl (wn (CW.ret (QW.then_r ?_))))
  obtain rfl := H
  exact QW.ret1 rfl rfl ⟨T, Pl.refl, rfl, (St.pickT (L := [_]) a3 [] (by decide))⟩
 have a0 : (decide (a1 < 0)) = false := (decide_eq_false a4)
 refine WL.on ?_ ?_; exact Wg 9 a0
 refine WL.mv rfl ?_
 refine WL.on ?_ ?_; exact Wg 9 a0
 refine WL.v (Runs.fieldAddr (off := 0) (p := 0) fld57_0 rfl rfl rfl) ?_
 refine WL.on ?_ ?_; exact Wg 9 a0
 refine WL.v (Runs.load nagg3 rfl (a3.cell (k := 0) rfl (pa (.int .i64 a0_0) [] ((cl A0_1 n0_1 c0_1) ++ ((cl A0_2 n0_2 c0_2) ++ ((ci a0_3) ++ ((cb a0_4) ++ (cl A0_5 n0_5 c0_5)))))))) ?_
 refine WL.on ?_ ?_; exact Wg 9 a0
 refine WL.v (Runs.geq rfl rfl rfl) ?_
 refine WL.v (Runs.pick_f (evb rfl a0) rfl) ?_
 refine wn ?_
 refine CW.sub [(2, .string a2), (6, .int .i64 0), (14, .bool (decide (a1 ≥ a0_0)))] ⟨rfl, rfl, rfl, trivial⟩ ?_
 rcases H with ⟨a5, H⟩ | ⟨a5, H⟩
 ·have a6 : (decide (a1 ≥ a0_0)) = true := (decide_eq_true a5)
  refine CW.ct rfl a6 ?_
  refine cr (WL.as rfl (wn (CW.ret (QW.then_r ?_))))
  obtain rfl := H
  exact QW.ret1 rfl rfl ⟨T, Pl.refl, rfl, (St.pickT (L := [_]) a3 [] (by decide))⟩
 have a6 : (decide (a1 ≥ a0_0)) = false := (decide_eq_false a5)
 refine CW.cf rfl a6 ?_
 refine CW.skip (QW.then_n (CW.seq (cr (WL.mv rfl ?_))))
 refine WL.v (Runs.len_str Tryd.underlying9 rfl) ?_
 refine WL.v (Runs.neq rfl rfl rfl) ?_
 refine wn ?_
 rcases H with ⟨a7, H⟩ | ⟨a7, H⟩
 ·have a8 : ((a2.size : Int) != 192) = true := (bne_iff_ne.mpr a7)
  refine CW.ct rfl a8 ?_
  refine cr (WL.as rfl (wn (CW.ret (QW.then_r ?_))))
  obtain rfl := H
  exact QW.ret1 rfl rfl ⟨T, Pl.refl, rfl, (St.pickT (L := [_]) a3 [] (by decide))⟩
 have a8 : ((a2.size : Int) != 192) = false := (bne_eq_false_iff_eq.mpr (Decidable.not_not.mp a7))
 refine CW.cf rfl a8 ?_
 refine CW.skip (QW.then_n (cr (WL.as rfl (wn (CW.ret ?_)))))
 obtain rfl := H
 exact QW.ret1 rfl rfl ⟨T, Pl.refl, rfl, (St.pickT (L := [_]) a3 [] (by decide))⟩
/-! ### reliquaryref06_more: function 68 -/
def reliquaryref06_more.rel (l0 : List R145) (a1_0 : Int) (a1_1 : ByteArray) (lr0 : List R145) : Prop := (∃ a0 : List R145, a0 = ([] : List R145) ++ l0 ∧ (a0.length ≤ 1099511627776 ∧ (∃ a1 : List R145, a1 = a0 ++ ([(a1_0, a1_1)] : List R145) ∧ (a1.length ≤ 1099511627776 ∧ lr0 = a1))))
set_option maxHeartbeats 1000000 in
theorem reliquaryref06_more.calls (w w1 : World) (T R : Pool) (l0 : List R145) (a1_0 : Int) (a1_1 : ByteArray) (A0 : Option Addr) (n0 : Nat) (c0 : Nat) (st0 : St w w1 ((T ++ R))) (hb0 : HS w (T ++ R) T A0 n0 c0 (f145 w) l0) (lr0 : List R145) (H : reliquaryref06_more.rel l0 a1_0 a1_1 lr0) :
  Calls Tryd.prog 68 #[.slice A0 n0 c0, .agg ((ci a1_0) ++ (ct a1_1)).toArray] w1 fun e w' => ∃ T' Ar0 nr0 cr0 xr0, Pl T T' ∧ nr0 = lr0.length ∧ HRs T' (f145 w) xr0 lr0 ∧ e = .returned (.slice Ar0 nr0 cr0) ∧ St w w' (.sl Ar0 cr0 nr0 xr0 145 2 :: (T' ++ R)) := by
 refine CW.enter Tryd.func68 rfl (n := 13) rfl [.slice A0 n0 c0, .agg ((ci a1_0) ++ (ct a1_1)).toArray] (Nat.le_of_ble_eq_true rfl) ?_
 refine CW.sub [(0, .slice A0 n0 c0), (1, .agg ((ci a1_0) ++ (ct a1_1)).toArray)] ⟨rfl, rfl, trivial⟩ ?_
 refine cr ?_
 refine WL.box st0 rfl rfl ?_
 intro a0 d0 d1
 refine WL.as rfl (WL.nx (WL.as rfl (WL.nx (WL.mv rfl (WL.mv rfl ?_)))))
 have a4 := d1.nil_sl 145 2
 have a4 : St w d0 (.sl none 0 0 ([] : Cs) 145 2 :: .cells a0 ((ci a1_0) ++ (ct a1_1)) 145 :: (T ++ R)) := a4
 obtain ⟨c2, d2, a8⟩ := hb0.2.2
 obtain ⟨a9, c3, H⟩ := H
 obtain ⟨d3, H⟩ := H
 obtain ⟨a1, b0⟩ : ∃ n_ : Nat, n_ = a9.length := ⟨_, rfl⟩
 refine WL.appendR (i := 0) (N := a1) (news := c2) Wanted.none a4 rfl Tryd.underlying54 elemS145 rfl rfl ((d2.at a4 (mem_TR (A := [_, _]) (fun _ h_ => h_)))) (by have h1_ := (a8).length (fz145 w); have h2_ : n0 = l0.length := hb0.1; rw [h1_, h2_]) (HLs.one a8) (by decide) (by have h1_ : 0 = ([] : List R145).length := rfl; have h2_ : n0 = l0.length := hb0.1; rw [b0, c3, List.length_append]; omega) (by rw [b0]; exact d3) ?_
 intro b1 b2 d4 a5
 obtain ⟨a2, c4⟩ : ∃ x_ : Cs, x_ = ([] : Cs) ++ c2 := ⟨_, rfl⟩
 have d5 : HRs T (f145 w) a2 a9 := by rw [c4, c3]; exact HRs.append (HRs.nil : HRs T (f145 w) [] []) a8
 replace a5 : St w d4 (.sl b1 b2 a1 a2 145 2 :: .cells a0 ((ci a1_0) ++ (ct a1_1)) 145 :: (T ++ R)) := by rw [c4]; exact a5
 refine WL.as rfl (WL.nx (WL.mv rfl ?_))
 refine WL.v (Runs.load_mid row145 rfl a5 (i := 1) rfl (pm [] ((ci a1_0) ++ (ct a1_1)) []) rfl) ?_
 obtain ⟨e3, e4, d6, d7, d8, d9⟩ := slr145_1
 refine WL.buildSlSg (sz := 2) (cs := ((ci a1_0) ++ (ct a1_1))) a5 Tryd.underlying54 d6 d7 d8 (by decide) (by decide) d9 rfl (.one rfl rfl) rfl rfl ?_
 intro b3 c5 b4
 replace b4 : St w c5 (.cells b3 ((ci a1_0) ++ (ct a1_1)) 145 :: .sl b1 b2 a1 a2 145 2 :: .cells a0 ((ci a1_0) ++ (ct a1_1)) 145 :: (T ++ R)) := b4
 have a6 := St.rows_sl (i := 0) (m := 1) (size := 2) b4 rfl rfl (by decide)
 obtain ⟨a3, c6⟩ : ∃ x_ : Cs, x_ = (ci a1_0) ++ (ct a1_1) := ⟨_, rfl⟩
 have b5 : HRs T (f145 w) a3 ([(a1_0, a1_1)] : List R145) := by rw [c6]; exact (HRs.one (.cons rfl (.cons rfl .nil)))
 replace a6 : St w c5 (.sl (sp b3) 1 1 a3 145 2 :: .sl b1 b2 a1 a2 145 2 :: .cells a0 ((ci a1_0) ++ (ct a1_1)) 145 :: (T ++ R)) := by rw [c6]; exact a6
 obtain ⟨c7, c8, H⟩ := H
 obtain ⟨e0, H⟩ := H
 obtain ⟨a7, b6⟩ : ∃ n_ : Nat, n_ = c7.length := ⟨_, rfl⟩
 refine WL.appendR (i := 1) (N := a7) (news := a3) Wanted.none a6 rfl Tryd.underlying54 elemS145 rfl rfl (a6.src_sl (k := 0) rfl) (by have h1_ := (b5).length (fz145 w); have h2_ : 1 = ([(a1_0, a1_1)] : List R145).length := rfl; rw [h1_, h2_]) (HLs.one b5) (by decide) (by have h1_ : a1 = a9.length := b0; have h2_ : 1 = ([(a1_0, a1_1)] : List R145).length := rfl; rw [b6, c8, List.length_append]; omega) (by rw [b6]; exact e0) ?_
 intro b7 b8 e1 b9
 obtain ⟨c1, c9⟩ : ∃ x_ : Cs, x_ = a2 ++ a3 := ⟨_, rfl⟩
 have e2 : HRs T (f145 w) c1 c7 := by rw [c9, c8]; exact HRs.append d5 b5
 replace b9 : St w e1 (.sl (sp b3) 1 1 a3 145 2 :: .sl b7 b8 a7 c1 145 2 :: .cells a0 ((ci a1_0) ++ (ct a1_1)) 145 :: (T ++ R)) := by rw [c9]; exact b9
 refine WL.as rfl (wn (CW.ret ?_))
 obtain rfl := H
 exact QW.ret1 rfl rfl ⟨T, b7, a7, b8, c1, Pl.refl, b6, e2, rfl, (St.pickT (L := [_, _, _]) b9 [1] (by decide))⟩
/-! ### reliquaryref06_noted: function 69 -/
def reliquaryref06_noted.rel (a0_0 : Int) (l0_1 : List R145) (l0_2 : List R145) (a0_3 : Int) (a0_4 : Bool) (l0_5 : List R160) (a1 : Int) (a2 : Int) (ar0_0 : Int) (lr0_1 : List R145) (lr0_2 : List R145) (ar0_3 : Int) (ar0_4 : Bool) (lr0_5 : List R160) : Prop := (∃ a0 : List R160, a0 = ([] : List R160) ++ l0_5 ∧ (a0.length ≤ 1099511627776 ∧ (∃ a3 : List R160, a3 = a0 ++ ([(a1, a2)] : List R160) ∧ (a3.length ≤ 1099511627776 ∧ ar0_0 = a0_0 ∧ lr0_1 = l0_1 ∧ lr0_2 = l0_2 ∧ ar0_3 = a0_3 ∧ ar0_4 = a0_4 ∧ lr0_5 = a3))))
set_option maxHeartbeats 1000000 in
theorem reliquaryref06_noted.calls (w w1 : World) (T R : Pool) (a0_0 : Int) (l0_1 : List R145) (l0_2 : List R145) (a0_3 : Int) (a0_4 : Bool) (l0_5 : List R160) (a1 : Int) (a2 : Int) (A0_1 : Option Addr) (n0_1 : Nat) (c0_1 : Nat) (A0_2 : Option Addr) (n0_2 : Nat) (c0_2 : Nat) (A0_5 : Option Addr) (n0_5 : Nat) (c0_5 : Nat) (st0 : St w w1 ((T ++ R))) (hb0_1 : HS w T T A0_1 n0_1 c0_1 (f145 w) l0_1) (hb0_2 : HS w T T A0_2 n0_2 c0_2 (f145 w) l0_2) (hb0_5 : HS w T T A0_5 n0_5 c0_5 (f160 w) l0_5) (ar0_0 : Int) (lr0_1 : List R145) (lr0_2 : List R145) (ar0_3 : Int) (ar0_4 : Bool) (lr0_5 : List R160) (H : reliquaryref06_noted.rel a0_0 l0_1 l0_2 a0_3 a0_4 l0_5 a1 a2 ar0_0 lr0_1 lr0_2 ar0_3 ar0_4 lr0_5) :
  Calls Tryd.prog 69 #[.agg ((ci a0_0) ++ ((cl A0_1 n0_1 c0_1) ++ ((cl A0_2 n0_2 c0_2) ++ ((ci a0_3) ++ ((cb a0_4) ++ (cl A0_5 n0_5 c0_5)))))).toArray, .int .i64 a1, .int .i64 a2] w1 fun e w' => ∃ T' Ar0_1 nr0_1 cr0_1 Ar0_2 nr0_2 cr0_2 Ar0_5 nr0_5 cr0_5, Pl T T' ∧ HS w T' T' Ar0_1 nr0_1 cr0_1 (f145 w) lr0_1 ∧ HS w T' T' Ar0_2 nr0_2 cr0_2 (f145 w) lr0_2 ∧ HS w T' T' Ar0_5 nr0_5 cr0_5 (f160 w) lr0_5 ∧ e = .returned (.agg ((ci ar0_0) ++ ((cl Ar0_1 nr0_1 cr0_1) ++ ((cl Ar0_2 nr0_2 cr0_2) ++ ((ci ar0_3) ++ ((cb ar0_4) ++ (cl Ar0_5 nr0_5 cr0_5)))))).toArray) ∧ St w w' ((T' ++ R)) := by
 refine CW.enter Tryd.func69 rfl (n := 20) rfl [.agg ((ci a0_0) ++ ((cl A0_1 n0_1 c0_1) ++ ((cl A0_2 n0_2 c0_2) ++ ((ci a0_3) ++ ((cb a0_4) ++ (cl A0_5 n0_5 c0_5)))))).toArray, .int .i64 a1, .int .i64 a2] (Nat.le_of_ble_eq_true rfl) ?_
 refine CW.sub [(0, .agg ((ci a0_0) ++ ((cl A0_1 n0_1 c0_1) ++ ((cl A0_2 n0_2 c0_2) ++ ((ci a0_3) ++ ((cb a0_4) ++ (cl A0_5 n0_5 c0_5)))))).toArray), (1, .int .i64 a1), (2, .int .i64 a2)] ⟨rfl, rfl, rfl, trivial⟩ ?_
 refine cr ?_
 refine WL.box st0 rfl rfl ?_
 intro a5 f5 d9
 refine WL.alloc d9 zero57 ?_
 intro a6 e0 d0
 refine WL.nx (WL.as rfl (WL.nx (WL.mv rfl ?_)))
 refine WL.v (Runs.fieldAddr (off := 5) (p := 5) fld57_5 rfl rfl rfl) ?_
 refine WL.v (Runs.load nagg55 rfl (d0.cell (k := 1) rfl (pa (.slice A0_5 n0_5 c0_5) ((ci a0_0) ++ ((cl A0_1 n0_1 c0_1) ++ ((cl A0_2 n0_2 c0_2) ++ ((ci a0_3) ++ (cb a0_4))))) []))) ?_
 have b2 := d0.nil_sl 160 2
 have b2 : St w e0 (.sl none 0 0 ([] : Cs) 160 2 :: oM a6 0 none 0 0 none 0 0 0 false none 0 0 57 :: oM a5 a0_0 A0_1 n0_1 c0_1 A0_2 n0_2 c0_2 a0_3 a0_4 A0_5 n0_5 c0_5 57 :: (T ++ R)) := b2
 obtain ⟨d1, e1, b9⟩ := hb0_5.2.2
 obtain ⟨c0, d2, H⟩ := H
 obtain ⟨e2, H⟩ := H
 obtain ⟨b0, c1⟩ : ∃ n_ : Nat, n_ = c0.length := ⟨_, rfl⟩
 refine WL.appendR (i := 0) (N := b0) (news := d1) Wanted.none b2 rfl Tryd.underlying55 elemS160 rfl rfl ((e1.at b2 (mem_T (A := [_, _, _]) (fun _ h_ => h_)))) (by have h1_ := (b9).length (fz160 w); have h2_ : n0_5 = l0_5.length := hb0_5.1; rw [h1_, h2_]) (HLs.one b9) (by decide) (by have h1_ : 0 = ([] : List R160).length := rfl; have h2_ : n0_5 = l0_5.length := hb0_5.1; rw [c1, d2, List.length_append]; omega) (by rw [c1]; exact e2) ?_
 intro c2 c3 e3 c4
 obtain ⟨b1, d3⟩ : ∃ x_ : Cs, x_ = ([] : Cs) ++ d1 := ⟨_, rfl⟩
 have e4 : HRs T (f160 w) b1 c0 := by rw [d3, d2]; exact HRs.append (HRs.nil : HRs T (f160 w) [] []) b9
 replace c4 : St w e3 (.sl c2 c3 b0 b1 160 2 :: oM a6 0 none 0 0 none 0 0 0 false none 0 0 57 :: oM a5 a0_0 A0_1 n0_1 c0_1 A0_2 n0_2 c0_2 a0_3 a0_4 A0_5 n0_5 c0_5 57 :: (T ++ R)) := by rw [d3]; exact c4
 refine WL.as rfl (WL.nx (WL.mv rfl (WL.mv rfl (WL.mv rfl ?_))))
 refine WL.v (Runs.build_seg (ps := [(0, 1), (1, 1)]) (cs := ((ci a1) ++ (ci a2))) plc160 zero160 rfl (.cons (ms := ((ci a1))) rfl rfl rfl (.one rfl rfl)) rfl rfl) ?_
 obtain ⟨f6, f7, e5, e6, e7, e8⟩ := slr160_1
 refine WL.buildSlSg (sz := 2) (cs := ((ci a1) ++ (ci a2))) c4 Tryd.underlying55 e5 e6 e7 (by decide) (by decide) e8 rfl (.one rfl rfl) rfl rfl ?_
 intro a8 d4 c5
 replace c5 : St w d4 (.cells a8 ((ci a1) ++ (ci a2)) 160 :: .sl c2 c3 b0 b1 160 2 :: oM a6 0 none 0 0 none 0 0 0 false none 0 0 57 :: oM a5 a0_0 A0_1 n0_1 c0_1 A0_2 n0_2 c0_2 a0_3 a0_4 A0_5 n0_5 c0_5 57 :: (T ++ R)) := c5
 have b3 := St.rows_sl (i := 0) (m := 1) (size := 2) c5 rfl rfl (by decide)
 obtain ⟨a7, d5⟩ : ∃ x_ : Cs, x_ = (ci a1) ++ (ci a2) := ⟨_, rfl⟩
 have c6 : HRs T (f160 w) a7 ([(a1, a2)] : List R160) := by rw [d5]; exact (HRs.one (.cons rfl (.cons rfl .nil)))
 replace b3 : St w d4 (.sl (sp a8) 1 1 a7 160 2 :: .sl c2 c3 b0 b1 160 2 :: oM a6 0 none 0 0 none 0 0 0 false none 0 0 57 :: oM a5 a0_0 A0_1 n0_1 c0_1 A0_2 n0_2 c0_2 a0_3 a0_4 A0_5 n0_5 c0_5 57 :: (T ++ R)) := by rw [d5]; exact b3
 obtain ⟨c7, d6, H⟩ := H
 obtain ⟨e9, H⟩ := H
 obtain ⟨a0, c8⟩ : ∃ n_ : Nat, n_ = c7.length := ⟨_, rfl⟩
 refine WL.appendR (i := 1) (N := a0) (news := a7) Wanted.none b3 rfl Tryd.underlying55 elemS160 rfl rfl (b3.src_sl (k := 0) rfl) (by have h1_ := (c6).length (fz160 w); have h2_ : 1 = ([(a1, a2)] : List R160).length := rfl; rw [h1_, h2_]) (HLs.one c6) (by decide) (by have h1_ : b0 = c0.length := c1; have h2_ : 1 = ([(a1, a2)] : List R160).length := rfl; rw [c8, d6, List.length_append]; omega) (by rw [c8]; exact e9) ?_
 intro a3 a4 f0 c9
 obtain ⟨b4, d7⟩ : ∃ x_ : Cs, x_ = b1 ++ a7 := ⟨_, rfl⟩
 have f1 : HRs T (f160 w) b4 c7 := by rw [d7, d6]; exact HRs.append e4 c6
 replace c9 : St w f0 (.sl (sp a8) 1 1 a7 160 2 :: .sl a3 a4 a0 b4 160 2 :: oM a6 0 none 0 0 none 0 0 0 false none 0 0 57 :: oM a5 a0_0 A0_1 n0_1 c0_1 A0_2 n0_2 c0_2 a0_3 a0_4 A0_5 n0_5 c0_5 57 :: (T ++ R)) := by rw [d7]; exact c9
 refine WL.v (Runs.fieldAddr (off := 5) (p := 5) fld57_5 rfl rfl rfl) ?_
 refine WL.so (new := ((ci a0_0) ++ ((cl A0_1 n0_1 c0_1) ++ ((cl A0_2 n0_2 c0_2) ++ ((ci a0_3) ++ ((cb a0_4) ++ (cl a3 a0 a4))))))) (i := 3) (u0 := .slice A0_5 n0_5 c0_5) (pre := ((ci a0_0) ++ ((cl A0_1 n0_1 c0_1) ++ ((cl A0_2 n0_2 c0_2) ++ ((ci a0_3) ++ (cb a0_4)))))) (post := (([] : Cs))) c9 rfl cells55 (by first | rfl | simp only [aa, an, na, ca]) rfl rfl rfl rfl rfl ?_
 intro f2 b5
 try dsimp only [List.set] at b5
 refine wn ?_
 refine CW.sub [(3, .pointer (sp a5)), (6, .pointer (sp a6))] ⟨rfl, rfl, trivial⟩ ?_
 refine cr ?_
 refine WL.v (Runs.load_mid row57 rfl b5 (i := 3) rfl (pm [] ((ci a0_0) ++ ((cl A0_1 n0_1 c0_1) ++ ((cl A0_2 n0_2 c0_2) ++ ((ci a0_3) ++ ((cb a0_4) ++ (cl a3 a0 a4)))))) []) rfl) ?_
 refine WL.sm (new := ((ci a0_0) ++ ((cl A0_1 n0_1 c0_1) ++ ((cl A0_2 n0_2 c0_2) ++ ((ci a0_3) ++ ((cb a0_4) ++ (cl a3 a0 a4))))))) (i := 2) (pre := (([] : Cs))) (mid := ((ci 0) ++ ((cl none 0 0) ++ ((cl none 0 0) ++ ((ci 0) ++ ((cb false) ++ (cl none 0 0))))))) (post := (([] : Cs))) (ms := ((ci a0_0) ++ ((cl A0_1 n0_1 c0_1) ++ ((cl A0_2 n0_2 c0_2) ++ ((ci a0_3) ++ ((cb a0_4) ++ (cl a3 a0 a4))))))) b5 rfl row57 (by first | rfl | simp only [aa, an, na, ca]) rfl rfl rfl rfl rfl (one_cat oneU (one_cat oneU (one_cat oneU (one_cat oneU (one_cat oneU oneU))))) rfl ?_
 intro d8 b6
 try dsimp only [List.set] at b6
 refine wn (CW.ret ?_)
 have hb_60c := b6.cap (i := 1) rfl
 obtain ⟨b7, a9, f3, b8⟩ := St.freeze (A := [_]) (B := [_, _]) (T := T) (R := R) b6
 have f4 : HS w b7 b7 a3 a0 a4 (f160 w) c7 := HS.mk c8 hb_60c (Hd.of_sl f3) (f1.mono (fun _ h_ => a9.1 _ h_))
 replace b8 : St w d8 (.sl (sp a8) 1 1 a7 160 2 :: oM a6 a0_0 A0_1 n0_1 c0_1 A0_2 n0_2 c0_2 a0_3 a0_4 a3 a0 a4 57 :: oM a5 a0_0 A0_1 n0_1 c0_1 A0_2 n0_2 c0_2 a0_3 a0_4 a3 a0 a4 57 :: (b7 ++ R)) := b8
 obtain ⟨rfl, rfl, rfl, rfl, rfl, rfl⟩ := H
 exact QW.retN1 rfl (Res.row rfl row57 b8 (i := 1) rfl rfl) ⟨b7, A0_1, n0_1, c0_1, A0_2, n0_2, c0_2, a3, a0, a4, a9, (hb0_1.mono (fun _ h_ => a9.1 _ h_) (fun _ h_ => a9.1 _ h_)), (hb0_2.mono (fun _ h_ => a9.1 _ h_) (fun _ h_ => a9.1 _ h_)), f4, rfl, (St.pickT (L := [_, _, _]) b8 [] (by decide))⟩
end Go.Proofs.YtmhcjafkdmcgoaaDoor
