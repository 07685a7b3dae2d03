/- Walks: each function computes what its relation says, and a call of it ends so. Printed by a program of this session (wip/gen). -/
import Derived.Test.YtmhcjafkdmcgoaaDoorGx1
namespace Go.Proofs.YtmhcjafkdmcgoaaDoor
open Go Go.Kr Go.RowKit
set_option linter.unusedVariables false
set_option linter.unusedSimpArgs false
set_option maxRecDepth 100000
/-! ### seal_Seal: function 41 -/
def seal_Seal.rel (l0 : List Int) (a1 : Int) (a2 : Int) (l3 : List Int) (r0 : List Int) (r1 : Int) : Prop := (∃ (a3 : Bool), seal_size.rel (l3.length : Int) a3 ∧ ((¬ (a3 = true) ∧ r0 = [] ∧ r1 = 1) ∨ (¬ (¬ (a3 = true)) ∧ ((a2 = 0 ∧ r0 = [] ∧ r1 = 1) ∨ (¬ (a2 = 0) ∧ ((a2 = 18446744073709551615 ∧ r0 = [] ∧ r1 = 15) ∨ (¬ (a2 = 18446744073709551615) ∧ (∃ (a4 : List Int), cipher_Nonce.rel a1 a2 a4 ∧ (∃ (a5 : List Int) (a0 : Int), cipher_Crypt.rel l0 0 a4 l3 a5 a0 ∧ ((a0 ≠ 0 ∧ r0 = [] ∧ r1 = a0) ∨ (¬ (a0 ≠ 0) ∧ (∃ (a6 : List Int), word_Put.rel a2 8 a6 ∧ (∃ (a7 : List Int), slices_Concat_s_byte_byte.rel ([a6, a5] : List R25) a7 ∧ (∃ (a8 : List Int), word_Pad.rel a7 192 a8 ∧ r0 = a8 ∧ r1 = 0))))))))))))))
set_option maxHeartbeats 4000000 in
theorem seal_Seal.calls (w : World) (l0 : List Int) (a1 : Int) (a2 : Int) (l3 : List Int) (A3 : Option Addr) (n3 : Nat) (c3 : Nat)  (hG1 : Src w (sp 1) (iv .i64 tab1)) (hl0 : l0.length = 32) (hs3 : Src w A3 (iv .u8 l3)) (hn3 : n3 = l3.length) (hc3 : n3 ≤ c3) (r0 : List Int) (r1 : Int) (H : seal_Seal.rel l0 a1 a2 l3 r0 r1) :
  Calls Tryd.prog 41 #[.agg (iv .u8 l0).toArray, .int .u32 a1, .int .u64 a2, .slice A3 n3 c3] w fun e w' => ∃ B0 q0 z0, z0 = r0.length ∧ e = .returned (.tuple #[.slice B0 z0 q0, .int .i64 r1]) ∧ St w w' [.sl B0 q0 z0 (iv .u8 r0) 5 1] := by
 refine CW.enter Tryd.func41 rfl (n := 42) rfl [.agg (iv .u8 l0).toArray, .int .u32 a1, .int .u64 a2, .slice A3 n3 c3] (Nat.le_of_ble_eq_true rfl) ?_
 refine CW.sub [(0, .agg (iv .u8 l0).toArray), (1, .int .u32 a1), (2, .int .u64 a2), (3, .slice A3 n3 c3)] ⟨rfl, rfl, rfl, rfl, trivial⟩ ?_
 obtain ⟨T, R, hT, hR, st0⟩ := St.start w
 refine cr ?_
 refine WL.box st0 rfl rfl ?_
 intro a0 f6 f7
 refine WL.as rfl (WL.as rfl (wn (CW.seq (CW.block (cr (WL.mv rfl ?_))))))
 refine WL.v (Runs.len_sl Tryd.underlying25 rfl (by rw [hn3])) ?_
 obtain ⟨c6, f8, H⟩ := H
 refine WL.call Wanted.none ent61 rfl (seal_size.calls f6 (l3.length : Int) c6 f8) ?_
 rintro _ b8 ⟨rfl, f9⟩
 have b9 := f7.call f9
 refine ⟨_, rfl, ?_⟩
 refine WL.v (Runs.not rfl rfl) ?_
 refine WL.mv rfl ?_
 rcases H with ⟨c7, H⟩ | ⟨c7, H⟩
 ·have a9 : (!c6) = true := (not_t (Bool.eq_false_iff.mpr c7))
  refine WL.off ?_ ?_; exact Wg 17 a9
  refine WL.off ?_ ?_; exact Wg 17 a9
  refine WL.v (Runs.pick_t (evb rfl a9) rfl) ?_
  refine WL.as rfl (wn ?_)
  refine CW.sub [(1, .int .u32 a1), (2, .int .u64 a2), (3, .slice A3 n3 c3), (4, .pointer (sp a0)), (8, .slice none 0 0), (9, .int .i64 0), (12, .bool true)] (by repeat' constructor) ?_
  refine CW.ct rfl rfl ?_
  refine cr (WL.as rfl (WL.as rfl (wn (CW.ret (QW.blk_r (QW.then_r ?_))))))
  have c8 := b9.nil_sl 5 1
  have c8 : St w b8 (.sl none 0 0 (iv .u8 ([] : List Int)) 5 1 :: .cells a0 (iv .u8 l0) 23 :: (T ++ R)) := c8
  obtain ⟨rfl, rfl⟩ := H
  exact QW.ret2 rfl rfl rfl ⟨none, 0, 0, rfl, rfl, (St.front (A := [_]) (St.pickT (L := [_, _]) c8 [0] (by decide)))⟩
 have a9 : (!c6) = false := (not_f (Decidable.not_not.mp c7))
 refine WL.on ?_ ?_; exact Wg 17 a9
 refine WL.mv rfl ?_
 refine WL.on ?_ ?_; exact Wg 17 a9
 refine WL.v (Runs.eql rfl rfl rfl) ?_
 refine WL.v (Runs.pick_f (evb rfl a9) rfl) ?_
 refine WL.as rfl (wn ?_)
 refine CW.sub [(1, .int .u32 a1), (2, .int .u64 a2), (3, .slice A3 n3 c3), (4, .pointer (sp a0)), (8, .slice none 0 0), (9, .int .i64 0), (12, .bool (a2 == 0))] (by repeat' constructor) ?_
 rcases H with ⟨c9, H⟩ | ⟨c9, H⟩
 ·have d0 : (a2 == 0) = true := (beq_iff_eq.mpr c9)
  refine CW.ct rfl d0 ?_
  refine cr (WL.as rfl (WL.as rfl (wn (CW.ret (QW.blk_r (QW.then_r ?_))))))
  have d1 := b9.nil_sl 5 1
  have d1 : St w b8 (.sl none 0 0 (iv .u8 ([] : List Int)) 5 1 :: .cells a0 (iv .u8 l0) 23 :: (T ++ R)) := d1
  obtain ⟨rfl, rfl⟩ := H
  exact QW.ret2 rfl rfl rfl ⟨none, 0, 0, rfl, rfl, (St.front (A := [_]) (St.pickT (L := [_, _]) d1 [0] (by decide)))⟩
 have d0 : (a2 == 0) = false := (beq_eq_false_iff_ne.mpr c9)
 refine CW.cf rfl d0 ?_
 refine cr (WL.mv rfl ?_)
 refine WL.v (Runs.eql rfl rfl rfl) ?_
 refine WL.as rfl (wn ?_)
 rcases H with ⟨d2, H⟩ | ⟨d2, H⟩
 ·have d3 : (a2 == 18446744073709551615) = true := (beq_iff_eq.mpr d2)
  refine CW.ct rfl d3 ?_
  refine cr (WL.as rfl (WL.as rfl (wn (CW.ret (QW.blk_r (QW.then_r ?_))))))
  have d4 := b9.nil_sl 5 1
  have d4 : St w b8 (.sl none 0 0 (iv .u8 ([] : List Int)) 5 1 :: .cells a0 (iv .u8 l0) 23 :: (T ++ R)) := d4
  obtain ⟨rfl, rfl⟩ := H
  exact QW.ret2 rfl rfl rfl ⟨none, 0, 0, rfl, rfl, (St.front (A := [_]) (St.pickT (L := [_, _]) d4 [0] (by decide)))⟩
 have d3 : (a2 == 18446744073709551615) = false := (beq_eq_false_iff_ne.mpr d2)
 refine CW.cf rfl d3 ?_
 refine CW.skip (QW.blk_n (QW.then_n (CW.seq ?_)))
 refine CW.region_awh (C := fun w_ => St w w_ (.cells a0 (iv .u8 l0) 23 :: (T ++ R))) 10 wide (by kernel_rfl) b9 (fun g0 a3 => ?_)
 refine AWH.tk 0 rfl a3 (fun wq sq => (Runs.load_arr arr23 rfl (sq.blk (i := 0) rfl) hl0)) ?_
 refine AWH.tk 1 rfl a3 (fun wq sq => (Runs.move rfl)) ?_
 refine AWH.tk 2 rfl a3 (fun wq sq => (Runs.move rfl)) ?_
 refine AWH.tk 4 rfl a3 (fun wq sq => (Runs.move rfl)) ?_
 refine AWH.step 3 rfl (by decide) (by kernel_rfl) (fun inv_ hs_ hk_ hc_ hn_ => ?_)
 obtain ⟨f0, g1, H⟩ := H
 refine WL.call Wanted.none ent63 rfl (cipher_Nonce.calls g0 a1 a2 f0 g1) ?_
 rintro _ f1 ⟨g2, rfl, g3⟩
 have c0 := a3.call g3
 refine ⟨_, rfl, ?_⟩
 refine WL.nil ?_
 refine AWH.back c0 inv_ hs_ hk_ hc_ hn_ ?_
 refine AWH.step 5 rfl (by decide) (by kernel_rfl) (fun inv_ hs_ hk_ hc_ hn_ => ?_)
 obtain ⟨a4, c1, g4, H⟩ := H
 refine WL.call Wanted.none ent62 rfl (cipher_Crypt.calls f1 l0 0 f0 l3 A3 n3 c3 (hG1.ext c0) hl0 g2 (hs3.ext c0) (hn3) (hc3) a4 c1 g4) ?_
 rintro _ d5 ⟨a5, a6, a7, g5, rfl, g6⟩
 have b0 := c0.call g6
 refine ⟨_, rfl, ?_⟩
 refine WL.nil ?_
 refine AWH.back (St.subset a3 b0 (mc 1 rfl (mem_TR (A := [_, _]) (fun _ h_ => h_)))) inv_ hs_ hk_ hc_ hn_ ?_
 refine AWH.kn (St.subset a3 b0 (mc 1 rfl (mem_TR (A := [_, _]) (fun _ h_ => h_)))) fun zC1 => ?_
 refine AWH.tk 6 rfl zC1 (fun wq sq => (Runs.move rfl)) ?_
 refine AWH.tk 7 rfl zC1 (fun wq sq => (Runs.extract rfl rfl)) ?_
 refine AWH.tk 8 rfl zC1 (fun wq sq => (Runs.extract rfl rfl)) ?_
 refine AWH.tk 9 rfl zC1 (fun wq sq => (Runs.assign rfl)) ?_
 refine AWH.tail (by kernel_rfl) ?_
 refine AW.tk 10 rfl (fun _ => (Runs.assign rfl)) ?_
 refine AW.done (by kernel_rfl) ?_
 refine QW.then_n ?_
 refine CW.sub [(2, .int .u64 a2), (8, .slice none 0 0), (9, .int .i64 0), (10, .slice a5 a7 a6), (11, .int .i64 c1)] ⟨rfl, rfl, rfl, rfl, rfl, trivial⟩ ?_
 refine CW.seq (cr (WL.mv rfl ?_))
 refine WL.v (Runs.neq rfl rfl rfl) ?_
 refine wn ?_
 rcases H with ⟨d6, H⟩ | ⟨d6, H⟩
 ·have d7 : (c1 != 0) = true := (bne_iff_ne.mpr d6)
  refine CW.ct rfl d7 ?_
  refine cr (WL.mv rfl (WL.as rfl (WL.as rfl (wn (CW.ret (QW.then_r ?_))))))
  have d8 := b0.nil_sl 5 1
  have d8 : St w d5 (.sl none 0 0 (iv .u8 ([] : List Int)) 5 1 :: .sl a5 a6 a7 (iv .u8 a4) 5 1 :: .cells a0 (iv .u8 l0) 23 :: (T ++ R)) := d8
  obtain ⟨rfl, rfl⟩ := H
  exact QW.ret2 rfl rfl rfl ⟨none, 0, 0, rfl, rfl, (St.front (A := [_]) (St.pickT (L := [_, _, _]) d8 [0] (by decide)))⟩
 have d7 : (c1 != 0) = false := (bne_eq_false_iff_eq.mpr (Decidable.not_not.mp d6))
 refine CW.cf rfl d7 ?_
 refine CW.skip (QW.then_n (cr (WL.mv rfl ?_)))
 obtain ⟨b2, g7, H⟩ := H
 refine WL.call Wanted.none ent32 rfl (word_Put.calls d5 a2 8 b2 g7) ?_
 rintro _ d9 ⟨b3, b4, b5, g8, rfl, g9⟩
 have f2 := b0.call g9
 refine ⟨_, rfl, ?_⟩
 refine WL.mv rfl ?_
 have hb_59c := f2.cap (i := 0) rfl
 obtain ⟨e0, i5, h0, c2⟩ := St.freeze (A := []) (B := [_, _]) (T := T) (R := R) f2
 have h1 : HB w e0 b3 b5 b4 (iv .u8 b2) b2.length := ⟨g8, hb_59c, Hd.of_sl h0⟩
 replace c2 : St w d9 (.sl a5 a6 a7 (iv .u8 a4) 5 1 :: .cells a0 (iv .u8 l0) 23 :: (e0 ++ R)) := c2
 have hb_64c := c2.cap (i := 0) rfl
 obtain ⟨a8, h2, h3, e1⟩ := St.freeze (A := []) (B := [_]) (T := e0) (R := R) c2
 have h4 : HB w a8 a5 a7 a6 (iv .u8 a4) a4.length := ⟨g5, hb_64c, Hd.of_sl h3⟩
 replace e1 : St w d9 (.cells a0 (iv .u8 l0) 23 :: (a8 ++ R)) := e1
 refine WL.buildSl [.slice b3 b5 b4, .slice a5 a7 a6] e1 Tryd.underlying76 elem25 rfl rfl (by decide) (by decide) (by simp [Value.cells]) ?_
 intro b1 c4 b6
 replace b6 : St w c4 (.sl (sp b1) 2 2 [.slice b3 b5 b4, .slice a5 a7 a6] 25 1 :: .cells a0 (iv .u8 l0) 23 :: (a8 ++ R)) := b6
 obtain ⟨b7, f3⟩ : ∃ x_ : Cs, x_ = [.slice b3 b5 b4, .slice a5 a7 a6] := ⟨_, rfl⟩
 have h5 : HRs a8 (f25 w) b7 ([b2, a4] : List R25) := by rw [f3]; exact (HRs.cons (ms := (cl b3 b5 b4)) (.cons ⟨_, _, _, rfl, (h1.mono (fun _ h_ => h2.1 _ h_))⟩ .nil) (HRs.one (.cons ⟨_, _, _, rfl, h4⟩ .nil)))
 replace b6 : St w c4 (.sl (sp b1) 2 2 b7 25 1 :: .cells a0 (iv .u8 l0) 23 :: (a8 ++ R)) := by rw [f3]; exact b6
 have h6 := St.hide (A := []) (B := [_, _]) (T := a8) (R := R) b6
 obtain ⟨c5, h7, H⟩ := H
 refine WL.call Wanted.none ent55 rfl (slices_Concat_s_byte_byte.calls w c4 a8 (.sl (sp b1) 2 2 b7 25 1 :: .cells a0 (iv .u8 l0) 23 :: R) ([b2, a4] : List R25) (sp b1) 2 2  h6 (HS.mk rfl (b6.cap (i := 0) rfl) (fun W_ L_ st hT => st.src_mem (hT _ (List.mem_append_right _ (List.mem_of_getElem? (i := 0) rfl)))) h5) c5 h7) ?_
 rintro _ f4 ⟨e2, e3, e4, e5, i6, h8, rfl, h9⟩
 have e6 : St w f4 (.sl e3 e5 e4 (iv .u8 c5) 5 1 :: .sl (sp b1) 2 2 b7 25 1 :: .cells a0 (iv .u8 l0) 23 :: (e2 ++ R)) := St.unhide (A := [_]) (B := [_, _]) (T := e2) (R := R) h9
 refine ⟨_, rfl, ?_⟩
 obtain ⟨f5, i0, H⟩ := H
 refine WL.call Wanted.none ent60 rfl (word_Pad.calls f4 c5 192 e3 e4 e5 (e6.src_sl (k := 0) rfl) (h8) (e6.cap (i := 0) rfl) f5 i0) ?_
 rintro _ i1 ⟨e7, e8, e9, i2, rfl, i3⟩
 have i4 := e6.call i3
 refine ⟨_, rfl, ?_⟩
 refine WL.as rfl (WL.as rfl (wn (CW.ret ?_)))
 obtain ⟨rfl, rfl⟩ := H
 exact QW.ret2 rfl rfl rfl ⟨e7, e8, e9, i2, rfl, (St.front (A := [_]) (St.pickT (L := [_, _, _, _]) i4 [0] (by decide)))⟩
/-! ### digest_first: function 71 -/
def digest_first.rel  (r0 : List Int) : Prop := (∃ a0 : List Int, a0 = [1779033703, 3144134277, 1013904242, 2773480762, 1359893119, 2600822924, 528734635, 1541459225] ∧ r0 = a0)
set_option maxHeartbeats 4000000 in
theorem digest_first.calls (w : World)     (r0 : List Int) (H : digest_first.rel  r0) :
  Calls Tryd.prog 71 #[] w fun e w' => r0.length = 8 ∧ e = .returned (.agg (iv .u32 r0).toArray) ∧ St w w' [] := by
 refine CW.enter Tryd.func71 rfl (n := 2) rfl [] (Nat.le_of_ble_eq_true rfl) ?_
 refine CW.sub [] trivial ?_
 have st0 : St w w [] := St.refl w
 refine cr ?_
 refine WL.alloc st0 arr148.zero ?_
 intro a3 a6 a4
 refine WL.nx ?_
 obtain ⟨a2, a0, H⟩ := H
 refine WL.v (Runs.build_arr (xs := a2) arr148 rfl rfl (by rw [a0]; rfl)) ?_
 refine WL.store_arr (i := 0) a4 rfl arr148 rfl (by rw [iv_length]; exact (List.length_replicate ..)) (by rw [a0]; rfl) rfl ?_
 intro a5 a1
 try dsimp only [List.set] at a1
 refine wn (CW.ret ?_)
 obtain rfl := H
 exact QW.retc rfl arr148 rfl (a1.blk (i := 0) rfl) (by rw [a0]; rfl) ⟨(by rw [a0]; rfl), rfl, a1.pick [] (by decide)⟩
/-! ### digest_right: function 83 -/
def digest_right.rel (a0 : Int) (a1 : Int) (r0 : Int) : Prop := (∃ (a2 : Int), bits_RotateLeft32.rel a0 (IntKind.i64.wrap (0 - a1)) a2 ∧ r0 = a2)
set_option maxHeartbeats 4000000 in
theorem digest_right.calls (w : World) (a0 : Int) (a1 : Int)    (r0 : Int) (H : digest_right.rel a0 a1 r0) :
  Calls Tryd.prog 83 #[.int .u32 a0, .int .i64 a1] w fun e w' => e = .returned (.int .u32 r0) ∧ St w w' [] := by
 refine CW.enter Tryd.func83 rfl (n := 9) rfl [.int .u32 a0, .int .i64 a1] (Nat.le_of_ble_eq_true rfl) ?_
 refine CW.sub [(0, .int .u32 a0), (1, .int .i64 a1)] ⟨rfl, rfl, trivial⟩ ?_
 have st0 : St w w [] := St.refl w
 refine cr (WL.as rfl (WL.nx (WL.mv rfl (WL.mv rfl ?_))))
 refine WL.v (Runs.neg rfl rfl) ?_
 obtain ⟨a2, a3, H⟩ := H
 refine WL.call Wanted.none ent86 rfl (bits_RotateLeft32.calls w a0 (IntKind.i64.wrap (0 - a1)) a2 a3) ?_
 rintro _ a4 ⟨rfl, a5⟩
 have a6 := st0.call a5
 refine ⟨_, rfl, ?_⟩
 refine WL.as rfl (wn (CW.ret ?_))
 obtain rfl := H
 exact QW.ret1 rfl rfl ⟨rfl, a6.pick [] (by decide)⟩
/-! ### digest_words: function 82 -/
def digest_words.L2 (l0 : List Int) (a0 : Int) (K_L1 : (List Int) → Int → Prop) : Nat → (List Int) → Int → Prop
 | 0, _, _ => False
 | kL2 + 1, a2, a1 => ((a1 < ((prt l0 (IntKind.i64.wrap (4 * a0)) (IntKind.i64.wrap ((IntKind.i64.wrap (4 * a0)) + 4))).length : Int) ∧ ((0 ≤ a1 ∧ a1 < ((prt l0 (IntKind.i64.wrap (4 * a0)) (IntKind.i64.wrap ((IntKind.i64.wrap (4 * a0)) + 4))).length : Int)) ∧ ((0 ≤ a0 ∧ a0 < (64 : Int)) ∧ (∃ a3 : Int, a3 = IntKind.u32.wrap (gn (prt l0 (IntKind.i64.wrap (4 * a0)) (IntKind.i64.wrap ((IntKind.i64.wrap (4 * a0)) + 4))) (a1.toNat)) ∧ ((0 ≤ a0 ∧ a0 < (64 : Int)) ∧ (∃ a4 : List Int, a4 = List.set a2 (a0.toNat) (bits .or .u32 (shlI .u32 (gn a2 (a0.toNat)) 8) a3) ∧ digest_words.L2 l0 a0 K_L1 kL2 a4 (IntKind.i64.wrap (a1 + 1)))))))) ∨ (¬ (a1 < ((prt l0 (IntKind.i64.wrap (4 * a0)) (IntKind.i64.wrap ((IntKind.i64.wrap (4 * a0)) + 4))).length : Int)) ∧ K_L1 a2 (IntKind.i64.wrap (a0 + 1))))
def digest_words.L3 (r0 : List Int) : Nat → (List Int) → Int → Prop
 | 0, _, _ => False
 | kL3 + 1, a1, a0 => ((a0 < 64 ∧ ((0 ≤ (IntKind.i64.wrap (a0 - 15)) ∧ (IntKind.i64.wrap (a0 - 15)) < (64 : Int)) ∧ ((0 ≤ (IntKind.i64.wrap (a0 - 2)) ∧ (IntKind.i64.wrap (a0 - 2)) < (64 : Int)) ∧ ((0 ≤ (IntKind.i64.wrap (a0 - 16)) ∧ (IntKind.i64.wrap (a0 - 16)) < (64 : Int)) ∧ (∃ (a2 : Int), digest_right.rel (gn a1 ((IntKind.i64.wrap (a0 - 15)).toNat)) 7 a2 ∧ (∃ (a3 : Int), digest_right.rel (gn a1 ((IntKind.i64.wrap (a0 - 15)).toNat)) 18 a3 ∧ (∃ a4 : Int, a4 = bits .xor .u32 (bits .xor .u32 a2 a3) (shrI .u32 (gn a1 ((IntKind.i64.wrap (a0 - 15)).toNat)) 3) ∧ (∃ a5 : Int, a5 = IntKind.u32.wrap ((gn a1 ((IntKind.i64.wrap (a0 - 16)).toNat)) + a4) ∧ ((0 ≤ (IntKind.i64.wrap (a0 - 7)) ∧ (IntKind.i64.wrap (a0 - 7)) < (64 : Int)) ∧ (∃ a6 : Int, a6 = IntKind.u32.wrap (a5 + (gn a1 ((IntKind.i64.wrap (a0 - 7)).toNat))) ∧ (∃ (a7 : Int), digest_right.rel (gn a1 ((IntKind.i64.wrap (a0 - 2)).toNat)) 17 a7 ∧ (∃ (a8 : Int), digest_right.rel (gn a1 ((IntKind.i64.wrap (a0 - 2)).toNat)) 19 a8 ∧ (∃ a9 : Int, a9 = bits .xor .u32 (bits .xor .u32 a7 a8) (shrI .u32 (gn a1 ((IntKind.i64.wrap (a0 - 2)).toNat)) 10) ∧ ((0 ≤ a0 ∧ a0 < (64 : Int)) ∧ (∃ b0 : List Int, b0 = List.set a1 (a0.toNat) (IntKind.u32.wrap (a6 + a9)) ∧ digest_words.L3 r0 kL3 b0 (IntKind.i64.wrap (a0 + 1))))))))))))))))) ∨ (¬ (a0 < 64) ∧ r0 = a1))
def digest_words.L1 (l0 : List Int) (r0 : List Int) : Nat → (List Int) → Int → Prop
 | 0, _, _ => False
 | kL1 + 1, a1, a0 => ((a0 < 16 ∧ ((0 ≤ (IntKind.i64.wrap (4 * a0)) ∧ (IntKind.i64.wrap (4 * a0)) ≤ (IntKind.i64.wrap ((IntKind.i64.wrap (4 * a0)) + 4)) ∧ (IntKind.i64.wrap ((IntKind.i64.wrap (4 * a0)) + 4)) ≤ (l0.length : Int)) ∧ (∃ k_ : Nat, digest_words.L2 l0 a0 (digest_words.L1 l0 r0 kL1) k_ a1 0))) ∨ (¬ (a0 < 16) ∧ (∃ k_ : Nat, digest_words.L3 r0 k_ a1 16)))
def digest_words.rel (l0 : List Int) (r0 : List Int) : Prop := (∃ k_ : Nat, digest_words.L1 l0 r0 k_ (List.replicate 64 (0 : Int)) 0)
set_option maxHeartbeats 4000000 in
theorem digest_words.calls (w : World) (l0 : List Int) (A0 : Option Addr) (n0 : Nat) (c0 : Nat)  (hs0 : Src w A0 (iv .u8 l0)) (hn0 : n0 = l0.length) (hc0 : n0 ≤ c0) (r0 : List Int) (H : digest_words.rel l0 r0) :
  Calls Tryd.prog 82 #[.slice A0 n0 c0] w fun e w' => r0.length = 64 ∧ e = .returned (.agg (iv .u32 r0).toArray) ∧ St w w' [] := by
 refine CW.enter Tryd.func82 rfl (n := 78) rfl [.slice A0 n0 c0] (Nat.le_of_ble_eq_true rfl) ?_
 refine CW.sub [(0, .slice A0 n0 c0)] ⟨rfl, trivial⟩ ?_
 have st0 : St w w [] := St.refl w
 refine cr ?_
 refine WL.alloc st0 arr154.zero ?_
 intro a2 i3 d9
 refine WL.nx ?_
 refine WL.alloc d9 arr154.zero ?_
 intro a3 i4 e0
 refine wn (CW.seq (cr (WL.mv rfl (wn (CW.block ?_)))))
 obtain ⟨e1, H⟩ := H
 refine CW.sub [(0, .slice A0 n0 c0), (2, .pointer (sp a2)), (3, .pointer (sp a3)), (10, .int .i64 0)] ⟨rfl, rfl, rfl, rfl, trivial⟩ ?_
 refine CW.loop (fun kL1 l_ w_ => ∃ (a8 : List Int) (a0 : Int), l_ = [(0, .slice A0 n0 c0), (2, .pointer (sp a2)), (3, .pointer (sp a3)), (10, .int .i64 a0)] ∧ digest_words.L1 l0 r0 kL1 a8 a0 ∧ (a8.length = 64) ∧ St w w_ [.cells a3 (iv .u32 a8) 154, .cells a2 (iv .u32 (List.replicate 64 (0 : Int))) 154]) (k := e1) ⟨List.replicate 64 (0 : Int), 0, rfl, H, (List.length_replicate ..), e0⟩ (fun _ _ h => by obtain ⟨_, _, _, h, _⟩ := h; exact h.elim) ?_
 rintro kL1 i5 i6 ⟨a8, a0, rfl, H, d1, d2⟩
 refine cr ?_
 refine WL.v (Runs.lss rfl rfl rfl) ?_
 refine wn (CW.seq ?_)
 rcases H with ⟨b6, H⟩ | ⟨b6, H⟩
 ·have b7 : (decide (a0 < 16)) = true := (decide_eq_true b6)
  refine CW.ct rfl b7 ?_
  refine CW.skip (QW.then_n (CW.seq (CW.block (cr (WL.mv rfl (WL.as rfl (WL.nx (WL.mv rfl (WL.mv rfl ?_)))))))))
  refine WL.v (Runs.mul rfl rfl rfl) ?_
  refine WL.mv rfl ?_
  refine WL.v (Runs.mul rfl rfl rfl) ?_
  refine WL.v (Runs.add rfl rfl rfl) ?_
  obtain ⟨⟨a9, b0, d3⟩, H⟩ := H
  have i7 : n0 ≤ c0 := hc0
  have b8 : (IntKind.i64.wrap ((IntKind.i64.wrap (4 * a0)) + 4)) ≤ (c0 : Int) := by have := hn0; omega
  obtain ⟨d4, b9⟩ : ∃ B_, B_ = subA A0 (IntKind.i64.wrap (4 * a0)).toNat c0 := ⟨_, rfl⟩
  obtain ⟨b2, b3⟩ : ∃ n_ : Nat, n_ = (prt l0 (IntKind.i64.wrap (4 * a0)) (IntKind.i64.wrap ((IntKind.i64.wrap (4 * a0)) + 4))).length := ⟨_, rfl⟩
  obtain ⟨c1, d5⟩ : ∃ c_ : Nat, c_ = c0 - (IntKind.i64.wrap (4 * a0)).toNat := ⟨_, rfl⟩
  have i8 : b2 ≤ c1 := by rw [b3, prt_length a9 b0 d3]; rw [d5]; omega
  refine WL.v (Runs.slice_lh Tryd.underlying25 cells5 rfl rfl rfl a9 b0 b8 b9 (N := b2) (by rw [b3, prt_length a9 b0 d3]) d5) ?_
  refine WL.v (Runs.len_sl Tryd.underlying25 rfl (by rw [b3])) ?_
  refine WL.mv rfl (wn (CW.block ?_))
  obtain ⟨e2, H⟩ := H
  refine CW.sub [(0, .slice A0 n0 c0), (2, .pointer (sp a2)), (3, .pointer (sp a3)), (10, .int .i64 a0), (11, .bool (decide (a0 < 16))), (12, .int .i64 a0), (4, .int .i64 a0), (13, .slice A0 n0 c0), (14, .int .i64 a0), (15, .int .i64 (IntKind.i64.wrap (4 * a0))), (16, .int .i64 a0), (17, .int .i64 (IntKind.i64.wrap (4 * a0))), (18, .int .i64 (IntKind.i64.wrap ((IntKind.i64.wrap (4 * a0)) + 4))), (19, .slice d4 b2 c1), (20, .int .i64 ((prt l0 (IntKind.i64.wrap (4 * a0)) (IntKind.i64.wrap ((IntKind.i64.wrap (4 * a0)) + 4))).length : Int)), (21, .int .i64 0)] (by repeat' constructor) ?_
  refine CW.loop (fun kL2 l_ w_ => ∃ (a7 : List Int) (a6 : Int), l_ = [(0, .slice A0 n0 c0), (2, .pointer (sp a2)), (3, .pointer (sp a3)), (10, .int .i64 a0), (11, .bool (decide (a0 < 16))), (12, .int .i64 a0), (4, .int .i64 a0), (13, .slice A0 n0 c0), (14, .int .i64 a0), (15, .int .i64 (IntKind.i64.wrap (4 * a0))), (16, .int .i64 a0), (17, .int .i64 (IntKind.i64.wrap (4 * a0))), (18, .int .i64 (IntKind.i64.wrap ((IntKind.i64.wrap (4 * a0)) + 4))), (19, .slice d4 b2 c1), (20, .int .i64 ((prt l0 (IntKind.i64.wrap (4 * a0)) (IntKind.i64.wrap ((IntKind.i64.wrap (4 * a0)) + 4))).length : Int)), (21, .int .i64 a6)] ∧ digest_words.L2 l0 a0 (digest_words.L1 l0 r0 kL1) kL2 a7 a6 ∧ (a7.length = 64) ∧ St w w_ [.cells a3 (iv .u32 a7) 154, .cells a2 (iv .u32 (List.replicate 64 (0 : Int))) 154]) (k := e2) ⟨a8, 0, rfl, H, d1, d2⟩ (fun _ _ h => by obtain ⟨_, _, _, h, _⟩ := h; exact h.elim) ?_
  rintro kL2 i9 j0 ⟨a7, a6, rfl, H, b4, b1⟩
  refine cr ?_
  refine WL.v (Runs.lss rfl rfl rfl) ?_
  refine wn (CW.seq ?_)
  rcases H with ⟨c2, H⟩ | ⟨c2, H⟩
  ·have c3 : (decide (a6 < ((prt l0 (IntKind.i64.wrap (4 * a0)) (IntKind.i64.wrap ((IntKind.i64.wrap (4 * a0)) + 4))).length : Int))) = true := (decide_eq_true c2)
   refine CW.ct rfl c3 ?_
   refine CW.skip (QW.then_n (CW.seq (CW.block (cr ?_))))
   obtain ⟨⟨e3, e4⟩, H⟩ := H
   obtain ⟨j1, d6⟩ := ((hs0.ext b1).sub_iv a9 b0 b8 b9).addr_iv (a6.toNat) (by omega)
   refine WL.v (Runs.indexAddr Tryd.underlying25 cells5 (by decide) rfl d6 rfl e3 (by rw [b3]; exact e4) (o := (a6).toNat) (by first | rfl | omega)) ?_
   refine WL.v (Runs.load nagg5 rfl (((hs0.ext b1).sub_iv a9 b0 b8 b9).cell_iv d6 (by omega))) ?_
   refine WL.as rfl (wn (CW.region (WL.mv rfl (WL.mv rfl ?_))))
   obtain ⟨⟨e5, e6⟩, H⟩ := H
   refine WL.v (Runs.indexAddr_blk arr154 rfl rfl e5 e6 (o := (a0).toNat) (by first | rfl | omega)) ?_
   refine WL.v (Runs.load nagg24 rfl (b1.cell_iv (i := 0) rfl (by have := b4; omega))) ?_
   refine WL.v (Runs.shl rfl rfl (by decide) rfl) ?_
   refine WL.mv rfl ?_
   obtain ⟨e7, e8, H⟩ := H
   refine WL.v (Runs.conv Tryd.underlying24 ⟨_, Tryd.underlying5⟩ rfl e8) ?_
   refine WL.v (Runs.bor rfl rfl rfl) ?_
   obtain ⟨⟨e9, f0⟩, H⟩ := H
   refine WL.v (Runs.indexAddr_blk arr154 rfl rfl e9 f0 (o := (a0).toNat) (by first | rfl | omega)) ?_
   obtain ⟨c4, d7, H⟩ := H
   have f1 : c4.length = 64 := by rw [d7, List.length_set]; exact b4
   refine WL.store_cells (i := 0) b1 rfl cells24 rfl (by rw [iv_length]; have := b4; omega) rfl rfl ?_
   intro f2 c5
   have c5' : St w f2 [.cells a3 (iv .u32 c4) 154, .cells a2 (iv .u32 (List.replicate 64 (0 : Int))) 154] := by rw [d7, ← iv_set .u32 a7 (a0.toNat) (bits .or .u32 (shlI .u32 (gn a7 (a0.toNat)) 8) e7)]; exact c5
   refine WL.nil (QW.blk_n (QW.then_n (CW.region ?_)))
   refine WL.v (Runs.add rfl rfl rfl) ?_
   refine WL.mv rfl (WL.nil ?_)
   exact QW.at _ (by repeat' constructor) ⟨c4, IntKind.i64.wrap (a6 + 1), rfl, H, f1, c5'⟩
  have c3 : (decide (a6 < ((prt l0 (IntKind.i64.wrap (4 * a0)) (IntKind.i64.wrap ((IntKind.i64.wrap (4 * a0)) + 4))).length : Int))) = false := (decide_eq_false c2)
  refine CW.cf rfl c3 ?_
  refine CW.exit (QW.then_x (QW.then_x (QW.blk_x (QW.blk_n (QW.then_n (CW.region ?_))))))
  refine WL.v (Runs.add rfl rfl rfl) ?_
  refine WL.mv rfl (WL.nil ?_)
  exact QW.at _ (by repeat' constructor) ⟨a7, IntKind.i64.wrap (a0 + 1), rfl, H, b4, b1⟩
 have b7 : (decide (a0 < 16)) = false := (decide_eq_false b6)
 refine CW.cf rfl b7 ?_
 refine CW.exit (QW.then_x (QW.then_x (QW.blk_x (QW.then_n (CW.seq (cr (WL.as rfl (wn (CW.block ?_)))))))))
 obtain ⟨f3, H⟩ := H
 refine CW.sub [(2, .pointer (sp a2)), (3, .pointer (sp a3)), (7, .int .i64 16)] ⟨rfl, rfl, rfl, trivial⟩ ?_
 refine CW.loop (fun kL3 l_ w_ => ∃ (a4 : List Int) (a1 : Int), l_ = [(2, .pointer (sp a2)), (3, .pointer (sp a3)), (7, .int .i64 a1)] ∧ digest_words.L3 r0 kL3 a4 a1 ∧ (a4.length = 64) ∧ St w w_ [.cells a3 (iv .u32 a4) 154, .cells a2 (iv .u32 (List.replicate 64 (0 : Int))) 154]) (k := f3) ⟨a8, 16, rfl, H, d1, d2⟩ (fun _ _ h => by obtain ⟨_, _, _, h, _⟩ := h; exact h.elim) ?_
 rintro kL3 j2 j3 ⟨a4, a1, rfl, H, a5, c6⟩
 refine CW.seq (cr (WL.mv rfl ?_))
 refine WL.v (Runs.lss rfl rfl rfl) ?_
 refine wn ?_
 rcases H with ⟨c7, H⟩ | ⟨c7, H⟩
 ·have c8 : (decide (a1 < 64)) = true := (decide_eq_true c7)
  refine CW.ct rfl c8 ?_
  refine CW.skip (QW.then_n (CW.seq (CW.block (CW.seq ?_))))
  refine CW.region_qa wide (by kernel_rfl) c6 ?_
  refine HL.mv rfl ?_
  refine HL.v (fun wq sq => (Runs.sub rfl rfl rfl)) ?_
  obtain ⟨⟨f4, f5⟩, H⟩ := H
  refine HL.v (fun wq sq => (Runs.indexAddr_blk arr154 rfl rfl f4 f5 (o := (IntKind.i64.wrap (a1 - 15)).toNat) (by first | rfl | omega))) ?_
  refine HL.v (fun wq sq => (Runs.load nagg24 rfl (sq.cell_iv (i := 0) rfl (by have := a5; omega)))) ?_
  refine HL.mv rfl ?_
  refine HL.v (fun wq sq => (Runs.sub rfl rfl rfl)) ?_
  obtain ⟨⟨f6, f7⟩, H⟩ := H
  refine HL.v (fun wq sq => (Runs.indexAddr_blk arr154 rfl rfl f6 f7 (o := (IntKind.i64.wrap (a1 - 2)).toNat) (by first | rfl | omega))) ?_
  refine HL.v (fun wq sq => (Runs.load nagg24 rfl (sq.cell_iv (i := 0) rfl (by have := a5; omega)))) ?_
  refine HL.as rfl (HL.as rfl ?_)
  refine HL.nil (fun j4 f8 => ?_)
  refine wn ?_
  refine CW.region_qt 29 wide (by kernel_rfl) f8 ?_
  refine HL.mv rfl (HL.mv rfl ?_)
  refine HL.v (fun wq sq => (Runs.sub rfl rfl rfl)) ?_
  obtain ⟨⟨f9, g0⟩, H⟩ := H
  refine HL.v (fun wq sq => (Runs.indexAddr_blk arr154 rfl rfl f9 g0 (o := (IntKind.i64.wrap (a1 - 16)).toNat) (by first | rfl | omega))) ?_
  refine HL.v (fun wq sq => (Runs.load nagg24 rfl (sq.cell_iv (i := 0) rfl (by have := a5; omega)))) ?_
  refine HL.mv rfl ?_
  obtain ⟨g1, g2, H⟩ := H
  refine HL.call Wanted.none ent83 rfl (fun wq sq => (digest_right.calls wq (gn a4 ((IntKind.i64.wrap (a1 - 15)).toNat)) 7 g1 g2).mono (by rintro _ _ ⟨rfl, sc⟩; exact ⟨rfl, sq.call sc⟩)) ?_
  refine HL.mv rfl ?_
  obtain ⟨g3, g4, H⟩ := H
  refine HL.call Wanted.none ent83 rfl (fun wq sq => (digest_right.calls wq (gn a4 ((IntKind.i64.wrap (a1 - 15)).toNat)) 18 g3 g4).mono (by rintro _ _ ⟨rfl, sc⟩; exact ⟨rfl, sq.call sc⟩)) ?_
  refine HL.v (fun wq sq => (Runs.bxor rfl rfl rfl)) ?_
  refine HL.mv rfl ?_
  refine HL.v (fun wq sq => (Runs.shr rfl rfl (by decide) rfl)) ?_
  obtain ⟨j5, g5, H⟩ := H
  refine HL.v (fun wq sq => (Runs.bxor rfl rfl g5)) ?_
  obtain ⟨j6, g6, H⟩ := H
  refine HL.v (fun wq sq => (Runs.add rfl rfl g6)) ?_
  refine HL.mv rfl ?_
  refine HL.v (fun wq sq => (Runs.sub rfl rfl rfl)) ?_
  obtain ⟨⟨g7, g8⟩, H⟩ := H
  refine HL.v (fun wq sq => (Runs.indexAddr_blk arr154 rfl rfl g7 g8 (o := (IntKind.i64.wrap (a1 - 7)).toNat) (by first | rfl | omega))) ?_
  refine HL.v (fun wq sq => (Runs.load nagg24 rfl (sq.cell_iv (i := 0) rfl (by have := a5; omega)))) ?_
  obtain ⟨g9, h0, H⟩ := H
  refine HL.v (fun wq sq => (Runs.add rfl rfl h0)) ?_
  refine HL.mv rfl ?_
  obtain ⟨h1, h2, H⟩ := H
  refine HL.call Wanted.none ent83 rfl (fun wq sq => (digest_right.calls wq (gn a4 ((IntKind.i64.wrap (a1 - 2)).toNat)) 17 h1 h2).mono (by rintro _ _ ⟨rfl, sc⟩; exact ⟨rfl, sq.call sc⟩)) ?_
  refine HL.mv rfl ?_
  obtain ⟨h3, h4, H⟩ := H
  refine HL.call Wanted.none ent83 rfl (fun wq sq => (digest_right.calls wq (gn a4 ((IntKind.i64.wrap (a1 - 2)).toNat)) 19 h3 h4).mono (by rintro _ _ ⟨rfl, sc⟩; exact ⟨rfl, sq.call sc⟩)) ?_
  refine HL.v (fun wq sq => (Runs.bxor rfl rfl rfl)) ?_
  refine HL.mv rfl ?_
  refine HL.v (fun wq sq => (Runs.shr rfl rfl (by decide) rfl)) ?_
  obtain ⟨h5, h6, H⟩ := H
  refine HL.v (fun wq sq => (Runs.bxor rfl rfl h6)) ?_
  refine HL.v (fun wq sq => (Runs.add rfl rfl rfl)) ?_
  obtain ⟨⟨h7, h8⟩, H⟩ := H
  refine HL.v (fun wq sq => (Runs.indexAddr_blk arr154 rfl rfl h7 h8 (o := (a1).toNat) (by first | rfl | omega))) ?_
  refine HL.nil ?_
  generalize e_ : List.drop 29 _ = z_
  intro j7 h9
  subst e_
  obtain ⟨c9, d8, H⟩ := H
  have i0 : c9.length = 64 := by rw [d8, List.length_set]; exact a5
  refine WL.store_cells (i := 0) h9 rfl cells24 rfl (by rw [iv_length]; have := a5; omega) rfl rfl ?_
  intro i1 d0
  have d0' : St w i1 [.cells a3 (iv .u32 c9) 154, .cells a2 (iv .u32 (List.replicate 64 (0 : Int))) 154] := by rw [d8, ← iv_set .u32 a4 (a1.toNat) (IntKind.u32.wrap (g9 + h5))]; exact d0
  refine WL.nil (QW.blk_n (QW.then_n (CW.region (WL.mv rfl ?_))))
  refine WL.v (Runs.add rfl rfl rfl) ?_
  refine WL.as rfl (WL.nil ?_)
  exact QW.at _ (by repeat' constructor) ⟨c9, IntKind.i64.wrap (a1 + 1), rfl, H, i0, d0'⟩
 have c8 : (decide (a1 < 64)) = false := (decide_eq_false c7)
 refine CW.cf rfl c8 ?_
 refine CW.exit (QW.then_x (QW.then_x (QW.blk_x (QW.then_n (cr ?_)))))
 refine WL.v (Runs.load_arr arr154 rfl (c6.blk (i := 0) rfl) a5) ?_
 refine WL.store_arr (i := 1) c6 rfl arr154 rfl (by rw [iv_length]; exact (List.length_replicate ..)) a5 rfl ?_
 intro i2 b5
 try dsimp only [List.set] at b5
 refine wn (CW.ret ?_)
 obtain rfl := H
 exact QW.retc rfl arr154 rfl (b5.blk (i := 1) rfl) a5 ⟨a5, rfl, b5.pick [] (by decide)⟩
/-! ### digest_state_mixed: function 73 -/
def digest_state_mixed.L2 (r0 : List Int) (a2 : List Int) : Nat → (List Int) → Int → Prop
 | 0, _, _ => False
 | kL2 + 1, a1, a0 => ((a0 < 8 ∧ ((0 ≤ a0 ∧ a0 < (8 : Int)) ∧ ((0 ≤ a0 ∧ a0 < (8 : Int)) ∧ (∃ a3 : Int, a3 = IntKind.u32.wrap ((gn a1 (a0.toNat)) + (gn a2 (a0.toNat))) ∧ ((0 ≤ a0 ∧ a0 < (8 : Int)) ∧ (∃ a4 : List Int, a4 = List.set a1 (a0.toNat) a3 ∧ digest_state_mixed.L2 r0 a2 kL2 a4 (IntKind.i64.wrap (a0 + 1)))))))) ∨ (¬ (a0 < 8) ∧ r0 = a1))
def digest_state_mixed.L1 (l0 : List Int) (r0 : List Int) (a5 : List Int) : Nat → Int → Int → Int → Int → Int → Int → Int → Int → Int → Prop
 | 0, _, _, _, _, _, _, _, _, _ => False
 | kL1 + 1, a1, a3, a4, a9, a2, a6, a7, b0, a0 => ((a0 < 64 ∧ ((0 ≤ a0 ∧ a0 < (64 : Int)) ∧ (∃ (b1 : Int), digest_right.rel a2 6 b1 ∧ (∃ (b2 : Int), digest_right.rel a2 11 b2 ∧ (∃ (b3 : Int), digest_right.rel a2 25 b3 ∧ (∃ b4 : Int, b4 = IntKind.u32.wrap (b0 + (bits .xor .u32 (bits .xor .u32 b1 b2) b3)) ∧ (∃ b5 : Int, b5 = bits .xor .u32 (bits .and .u32 a2 a6) (bits .and .u32 (notI .u32 a2) a7) ∧ ((0 ≤ a0 ∧ a0 < (64 : Int)) ∧ (∃ a8 : Int, a8 = IntKind.u32.wrap ((IntKind.u32.wrap (b4 + b5)) + (gn tab0 (a0.toNat))) ∧ (∃ (b6 : Int), digest_right.rel a1 2 b6 ∧ (∃ (b7 : Int), digest_right.rel a1 13 b7 ∧ (∃ (b8 : Int), digest_right.rel a1 22 b8 ∧ (∃ b9 : Int, b9 = bits .xor .u32 (bits .and .u32 a1 a3) (bits .and .u32 a1 a4) ∧ (∃ c0 : Int, c0 = IntKind.u32.wrap ((bits .xor .u32 (bits .xor .u32 b6 b7) b8) + (bits .xor .u32 b9 (bits .and .u32 a3 a4))) ∧ (∃ c1 : Int, c1 = IntKind.u32.wrap (a9 + (IntKind.u32.wrap (a8 + (gn a5 (a0.toNat))))) ∧ (∃ c2 : Int, c2 = IntKind.u32.wrap ((IntKind.u32.wrap (a8 + (gn a5 (a0.toNat)))) + c0) ∧ digest_state_mixed.L1 l0 r0 a5 kL1 c2 a1 a3 a4 c1 a2 a6 a7 (IntKind.i64.wrap (a0 + 1)))))))))))))))))) ∨ (¬ (a0 < 64) ∧ (∃ c3 : List Int, c3 = [a1, a3, a4, a9, a2, a6, a7, b0] ∧ (∃ k_ : Nat, digest_state_mixed.L2 r0 c3 k_ l0 0))))
def digest_state_mixed.rel (l0 : List Int) (l1 : List Int) (r0 : List Int) : Prop := (∃ (a0 : List Int), digest_words.rel l1 a0 ∧ (∃ k_ : Nat, digest_state_mixed.L1 l0 r0 a0 k_ (gn l0 0) (gn l0 1) (gn l0 2) (gn l0 3) (gn l0 4) (gn l0 5) (gn l0 6) (gn l0 7) 0))
set_option maxHeartbeats 4000000 in
theorem digest_state_mixed.calls (w : World) (l0 : List Int) (l1 : List Int) (A1 : Option Addr) (n1 : Nat) (c1 : Nat)  (hG0 : Src w (sp 0) (iv .u32 tab0)) (hl0 : l0.length = 8) (hs1 : Src w A1 (iv .u8 l1)) (hn1 : n1 = l1.length) (hc1 : n1 ≤ c1) (r0 : List Int) (H : digest_state_mixed.rel l0 l1 r0) :
  Calls Tryd.prog 73 #[.agg (iv .u32 l0).toArray, .slice A1 n1 c1] w fun e w' => r0.length = 8 ∧ e = .returned (.agg (iv .u32 r0).toArray) ∧ St w w' [] := by
 refine CW.enter Tryd.func73 rfl (n := 120) rfl [.agg (iv .u32 l0).toArray, .slice A1 n1 c1] (Nat.le_of_ble_eq_true rfl) ?_
 refine CW.sub [(0, .agg (iv .u32 l0).toArray), (1, .slice A1 n1 c1)] ⟨rfl, rfl, trivial⟩ ?_
 have st0 : St w w [] := St.refl w
 refine cr ?_
 refine WL.box st0 rfl rfl ?_
 intro a0 i6 d1
 refine WL.alloc d1 arr148.zero ?_
 intro a1 i7 d2
 refine wn (CW.seq ?_)
 refine CW.region_qa wide (by kernel_rfl) d2 ?_
 refine HL.v (fun wq sq => (Runs.indexAddr_blk arr148 rfl rfl (by decide) (by decide) (o := 0) (by first | rfl | omega))) ?_
 refine HL.v (fun wq sq => (Runs.load nagg24 rfl (sq.cell_iv (i := 1) rfl (by have := hl0; omega)))) ?_
 refine HL.v (fun wq sq => (Runs.indexAddr_blk arr148 rfl rfl (by decide) (by decide) (o := 1) (by first | rfl | omega))) ?_
 refine HL.v (fun wq sq => (Runs.load nagg24 rfl (sq.cell_iv (i := 1) rfl (by have := hl0; omega)))) ?_
 refine HL.v (fun wq sq => (Runs.indexAddr_blk arr148 rfl rfl (by decide) (by decide) (o := 2) (by first | rfl | omega))) ?_
 refine HL.v (fun wq sq => (Runs.load nagg24 rfl (sq.cell_iv (i := 1) rfl (by have := hl0; omega)))) ?_
 refine HL.v (fun wq sq => (Runs.indexAddr_blk arr148 rfl rfl (by decide) (by decide) (o := 3) (by first | rfl | omega))) ?_
 refine HL.v (fun wq sq => (Runs.load nagg24 rfl (sq.cell_iv (i := 1) rfl (by have := hl0; omega)))) ?_
 refine HL.v (fun wq sq => (Runs.indexAddr_blk arr148 rfl rfl (by decide) (by decide) (o := 4) (by first | rfl | omega))) ?_
 refine HL.v (fun wq sq => (Runs.load nagg24 rfl (sq.cell_iv (i := 1) rfl (by have := hl0; omega)))) ?_
 refine HL.v (fun wq sq => (Runs.indexAddr_blk arr148 rfl rfl (by decide) (by decide) (o := 5) (by first | rfl | omega))) ?_
 refine HL.v (fun wq sq => (Runs.load nagg24 rfl (sq.cell_iv (i := 1) rfl (by have := hl0; omega)))) ?_
 refine HL.v (fun wq sq => (Runs.indexAddr_blk arr148 rfl rfl (by decide) (by decide) (o := 6) (by first | rfl | omega))) ?_
 refine HL.v (fun wq sq => (Runs.load nagg24 rfl (sq.cell_iv (i := 1) rfl (by have := hl0; omega)))) ?_
 refine HL.v (fun wq sq => (Runs.indexAddr_blk arr148 rfl rfl (by decide) (by decide) (o := 7) (by first | rfl | omega))) ?_
 refine HL.v (fun wq sq => (Runs.load nagg24 rfl (sq.cell_iv (i := 1) rfl (by have := hl0; omega)))) ?_
 refine HL.as rfl (HL.as rfl (HL.as rfl (HL.as rfl (HL.as rfl (HL.as rfl (HL.as rfl (HL.as rfl ?_)))))))
 refine HL.nil ?_
 generalize e_ : List.drop 24 _ = z_
 intro d3 c5
 subst e_
 refine wn ?_
 refine CW.sub [(1, .slice A1 n1 c1), (2, .pointer (sp a0)), (4, .pointer (sp a1)), (5, .int .u32 (gn l0 0)), (6, .int .u32 (gn l0 1)), (7, .int .u32 (gn l0 2)), (8, .int .u32 (gn l0 3)), (9, .int .u32 (gn l0 4)), (10, .int .u32 (gn l0 5)), (11, .int .u32 (gn l0 6)), (12, .int .u32 (gn l0 7))] (by repeat' constructor) ?_
 refine CW.seq (cr (WL.mv rfl ?_))
 obtain ⟨a9, d4, H⟩ := H
 refine WL.call Wanted.none ent82 rfl (digest_words.calls d3 l1 A1 n1 c1 (hs1.ext c5) (hn1) (hc1) a9 d4) ?_
 rintro _ d5 ⟨d6, rfl, d7⟩
 have d8 := c5.call d7
 refine ⟨_, rfl, ?_⟩
 refine WL.mv rfl (wn (CW.block ?_))
 obtain ⟨d9, H⟩ := H
 refine CW.sub [(2, .pointer (sp a0)), (4, .pointer (sp a1)), (5, .int .u32 (gn l0 0)), (6, .int .u32 (gn l0 1)), (7, .int .u32 (gn l0 2)), (8, .int .u32 (gn l0 3)), (9, .int .u32 (gn l0 4)), (10, .int .u32 (gn l0 5)), (11, .int .u32 (gn l0 6)), (12, .int .u32 (gn l0 7)), (36, .agg (iv .u32 a9).toArray), (37, .int .i64 0)] (by repeat' constructor) ?_
 refine CW.loop (fun kL1 l_ w_ => ∃ (a4 : Int) (b0 : Int) (b1 : Int) (b6 : Int) (a5 : Int) (b2 : Int) (b3 : Int) (b7 : Int) (a3 : Int), l_ = [(2, .pointer (sp a0)), (4, .pointer (sp a1)), (5, .int .u32 a4), (6, .int .u32 b0), (7, .int .u32 b1), (8, .int .u32 b6), (9, .int .u32 a5), (10, .int .u32 b2), (11, .int .u32 b3), (12, .int .u32 b7), (36, .agg (iv .u32 a9).toArray), (37, .int .i64 a3)] ∧ digest_state_mixed.L1 l0 r0 a9 kL1 a4 b0 b1 b6 a5 b2 b3 b7 a3 ∧ St w w_ [.cells a1 (iv .u32 (List.replicate 8 (0 : Int))) 148, .cells a0 (iv .u32 l0) 148]) (k := d9) ⟨gn l0 0, gn l0 1, gn l0 2, gn l0 3, gn l0 4, gn l0 5, gn l0 6, gn l0 7, 0, rfl, H, d8⟩ (fun _ _ h => by obtain ⟨_, _, _, _, _, _, _, _, _, _, h, _⟩ := h; exact h.elim) ?_
 rintro kL1 i8 i9 ⟨a4, b0, b1, b6, a5, b2, b3, b7, a3, rfl, H, c6⟩
 refine cr ?_
 refine WL.v (Runs.lss rfl rfl rfl) ?_
 refine wn (CW.seq ?_)
 rcases H with ⟨b8, H⟩ | ⟨b8, H⟩
 ·have b9 : (decide (a3 < 64)) = true := (decide_eq_true b8)
  refine CW.ct rfl b9 ?_
  refine CW.skip (QW.then_n (CW.seq (CW.block (cr (WL.mv rfl ?_)))))
  obtain ⟨⟨e0, e1⟩, H⟩ := H
  refine WL.v (Runs.index_arr arr154 rfl d6 rfl e0 e1 (j := (a3).toNat) (by first | rfl | omega)) ?_
  refine WL.as rfl (WL.as rfl (wn (CW.seq ?_)))
  refine CW.region_qa wide (by kernel_rfl) c6 ?_
  refine HL.mv rfl (HL.mv rfl ?_)
  obtain ⟨e2, e3, H⟩ := H
  refine HL.call Wanted.none ent83 rfl (fun wq sq => (digest_right.calls wq a5 6 e2 e3).mono (by rintro _ _ ⟨rfl, sc⟩; exact ⟨rfl, sq.call sc⟩)) ?_
  refine HL.mv rfl ?_
  obtain ⟨e4, e5, H⟩ := H
  refine HL.call Wanted.none ent83 rfl (fun wq sq => (digest_right.calls wq a5 11 e4 e5).mono (by rintro _ _ ⟨rfl, sc⟩; exact ⟨rfl, sq.call sc⟩)) ?_
  refine HL.v (fun wq sq => (Runs.bxor rfl rfl rfl)) ?_
  refine HL.mv rfl ?_
  obtain ⟨e6, e7, H⟩ := H
  refine HL.call Wanted.none ent83 rfl (fun wq sq => (digest_right.calls wq a5 25 e6 e7).mono (by rintro _ _ ⟨rfl, sc⟩; exact ⟨rfl, sq.call sc⟩)) ?_
  refine HL.v (fun wq sq => (Runs.bxor rfl rfl rfl)) ?_
  obtain ⟨j0, e8, H⟩ := H
  refine HL.v (fun wq sq => (Runs.add rfl rfl e8)) ?_
  refine HL.mv rfl (HL.mv rfl ?_)
  refine HL.v (fun wq sq => (Runs.band rfl rfl rfl)) ?_
  refine HL.mv rfl ?_
  refine HL.v (fun wq sq => (Runs.compl rfl rfl)) ?_
  refine HL.mv rfl ?_
  refine HL.v (fun wq sq => (Runs.band rfl rfl rfl)) ?_
  obtain ⟨j1, e9, H⟩ := H
  refine HL.v (fun wq sq => (Runs.bxor rfl rfl e9)) ?_
  refine HL.v (fun wq sq => (Runs.add rfl rfl rfl)) ?_
  refine HL.mv rfl ?_
  obtain ⟨⟨f0, f1⟩, H⟩ := H
  refine HL.v (fun wq sq => (Runs.indexAddr_glob arr154 rfl f0 f1 (o := (a3).toNat) (by first | rfl | omega))) ?_
  refine HL.v (fun wq sq => (Runs.load nagg24 rfl ((hG0.ext sq).cell_iv rfl (by rw [tab0_len]; omega)))) ?_
  obtain ⟨j2, f2, H⟩ := H
  refine HL.v (fun wq sq => (Runs.add rfl rfl f2)) ?_
  refine HL.mv rfl ?_
  refine HL.v (fun wq sq => (Runs.add rfl rfl rfl)) ?_
  refine HL.as rfl ?_
  refine HL.nil ?_
  generalize e_ : List.drop 26 _ = z_
  intro f3 f4
  subst e_
  refine WL.nx (WL.mv rfl ?_)
  obtain ⟨f5, f6, H⟩ := H
  refine WL.call Wanted.none ent83 rfl (digest_right.calls f3 a4 2 f5 f6) ?_
  rintro _ c7 ⟨rfl, f7⟩
  have f8 := f4.call f7
  refine ⟨_, rfl, ?_⟩
  refine WL.mv rfl ?_
  obtain ⟨f9, g0, H⟩ := H
  refine WL.call Wanted.none ent83 rfl (digest_right.calls c7 a4 13 f9 g0) ?_
  rintro _ c8 ⟨rfl, g1⟩
  have g2 := f8.call g1
  refine ⟨_, rfl, ?_⟩
  refine WL.v (Runs.bxor rfl rfl rfl) ?_
  refine WL.mv rfl ?_
  obtain ⟨g3, g4, H⟩ := H
  refine WL.call Wanted.none ent83 rfl (digest_right.calls c8 a4 22 g3 g4) ?_
  rintro _ g5 ⟨rfl, g6⟩
  have g7 := g2.call g6
  refine ⟨_, rfl, ?_⟩
  refine WL.v (Runs.bxor rfl rfl rfl) ?_
  refine WL.mv rfl (WL.mv rfl ?_)
  refine WL.v (Runs.band rfl rfl rfl) ?_
  refine WL.mv rfl (WL.mv rfl ?_)
  refine WL.v (Runs.band rfl rfl rfl) ?_
  obtain ⟨j3, g8, H⟩ := H
  refine WL.v (Runs.bxor rfl rfl g8) ?_
  refine WL.mv rfl (WL.mv rfl ?_)
  refine WL.v (Runs.band rfl rfl rfl) ?_
  refine WL.v (Runs.bxor rfl rfl rfl) ?_
  obtain ⟨j4, g9, H⟩ := H
  refine WL.v (Runs.add rfl rfl g9) ?_
  refine WL.as rfl (wn (CW.region (WL.mv rfl (WL.mv rfl (WL.mv rfl (WL.mv rfl (WL.mv rfl ?_)))))))
  obtain ⟨h0, h1, H⟩ := H
  refine WL.v (Runs.add rfl rfl h1) ?_
  refine WL.mv rfl (WL.mv rfl (WL.mv rfl (WL.mv rfl (WL.mv rfl ?_))))
  obtain ⟨h2, h3, H⟩ := H
  refine WL.v (Runs.add rfl rfl h3) ?_
  refine WL.as rfl (WL.as rfl (WL.as rfl (WL.as rfl (WL.as rfl (WL.as rfl (WL.as rfl (WL.as rfl (WL.nil (QW.blk_n (QW.then_n (CW.region ?_)))))))))))
  refine WL.v (Runs.add rfl rfl rfl) ?_
  refine WL.mv rfl (WL.nil ?_)
  exact QW.at _ (by repeat' constructor) ⟨h2, a4, b0, b1, h0, a5, b2, b3, IntKind.i64.wrap (a3 + 1), rfl, H, g7⟩
 have b9 : (decide (a3 < 64)) = false := (decide_eq_false b8)
 refine CW.cf rfl b9 ?_
 refine CW.exit (QW.then_x (QW.then_x (QW.blk_x (QW.then_n (CW.seq (cr (WL.mv rfl (WL.mv rfl (WL.mv rfl (WL.mv rfl (WL.mv rfl (WL.mv rfl (WL.mv rfl (WL.mv rfl ?_))))))))))))))
 obtain ⟨a8, c9, H⟩ := H
 refine WL.v (Runs.build_arr (xs := a8) arr134 rfl rfl (by rw [c9]; rfl)) ?_
 refine WL.mv rfl (wn ?_)
 refine CW.sub [(2, .pointer (sp a0)), (4, .pointer (sp a1)), (107, .agg (iv .u32 a8).toArray), (108, .int .i64 0)] ⟨rfl, rfl, rfl, rfl, trivial⟩ ?_
 refine CW.block ?_
 obtain ⟨h4, H⟩ := H
 refine CW.sub [(2, .pointer (sp a0)), (4, .pointer (sp a1)), (107, .agg (iv .u32 a8).toArray), (108, .int .i64 0)] ⟨rfl, rfl, rfl, rfl, trivial⟩ ?_
 refine CW.loop (fun kL2 l_ w_ => ∃ (a6 : List Int) (a2 : Int), l_ = [(2, .pointer (sp a0)), (4, .pointer (sp a1)), (107, .agg (iv .u32 a8).toArray), (108, .int .i64 a2)] ∧ digest_state_mixed.L2 r0 a8 kL2 a6 a2 ∧ (a6.length = 8) ∧ St w w_ [.cells a1 (iv .u32 (List.replicate 8 (0 : Int))) 148, .cells a0 (iv .u32 a6) 148]) (k := h4) ⟨l0, 0, rfl, H, hl0, c6⟩ (fun _ _ h => by obtain ⟨_, _, _, h, _⟩ := h; exact h.elim) ?_
 rintro kL2 j5 j6 ⟨a6, a2, rfl, H, a7, b4⟩
 refine cr ?_
 refine WL.v (Runs.lss rfl rfl rfl) ?_
 refine wn (CW.seq ?_)
 rcases H with ⟨c0, H⟩ | ⟨c0, H⟩
 ·have c2 : (decide (a2 < 8)) = true := (decide_eq_true c0)
  refine CW.ct rfl c2 ?_
  refine CW.skip (QW.then_n (CW.seq (CW.block (cr (WL.mv rfl ?_)))))
  obtain ⟨⟨h5, h6⟩, H⟩ := H
  refine WL.v (Runs.index_arr arr134 rfl (by rw [c9]; rfl) rfl h5 h6 (j := (a2).toNat) (by first | rfl | omega)) ?_
  refine WL.as rfl (WL.as rfl (wn (CW.region (WL.mv rfl ?_))))
  obtain ⟨⟨h7, h8⟩, H⟩ := H
  refine WL.v (Runs.indexAddr_blk arr148 rfl rfl h7 h8 (o := (a2).toNat) (by first | rfl | omega)) ?_
  refine WL.v (Runs.load nagg24 rfl (b4.cell_iv (i := 1) rfl (by have := a7; omega))) ?_
  refine WL.mv rfl ?_
  obtain ⟨h9, i0, H⟩ := H
  refine WL.v (Runs.add rfl rfl i0) ?_
  obtain ⟨⟨i1, i2⟩, H⟩ := H
  refine WL.v (Runs.indexAddr_blk arr148 rfl rfl i1 i2 (o := (a2).toNat) (by first | rfl | omega)) ?_
  obtain ⟨c3, d0, H⟩ := H
  have i3 : c3.length = 8 := by rw [d0, List.length_set]; exact a7
  refine WL.store_cells (i := 1) b4 rfl cells24 rfl (by rw [iv_length]; have := a7; omega) rfl rfl ?_
  intro i4 c4
  have c4' : St w i4 [.cells a1 (iv .u32 (List.replicate 8 (0 : Int))) 148, .cells a0 (iv .u32 c3) 148] := by rw [d0, ← iv_set .u32 a6 (a2.toNat) h9]; exact c4
  refine WL.nil (QW.blk_n (QW.then_n (CW.region ?_)))
  refine WL.v (Runs.add rfl rfl rfl) ?_
  refine WL.mv rfl (WL.nil ?_)
  exact QW.at _ (by repeat' constructor) ⟨c3, IntKind.i64.wrap (a2 + 1), rfl, H, i3, c4'⟩
 have c2 : (decide (a2 < 8)) = false := (decide_eq_false c0)
 refine CW.cf rfl c2 ?_
 refine CW.exit (QW.then_x (QW.then_x (QW.blk_x (QW.then_n (cr ?_)))))
 refine WL.v (Runs.load_arr arr148 rfl (b4.blk (i := 1) rfl) a7) ?_
 refine WL.store_arr (i := 0) b4 rfl arr148 rfl (by rw [iv_length]; exact (List.length_replicate ..)) a7 rfl ?_
 intro i5 b5
 try dsimp only [List.set] at b5
 refine wn (CW.ret ?_)
 obtain rfl := H
 exact QW.retc rfl arr148 rfl (b5.blk (i := 0) rfl) a7 ⟨a7, rfl, b5.pick [] (by decide)⟩
/-! ### digest_Of: function 54 -/
def digest_Of.L3 (r0 : List Int) (a2 : List Int) : Nat → (List Int) → Int → Prop
 | 0, _, _ => False
 | kL3 + 1, a3, a0 => ((a0 < 32 ∧ ((0 ≤ (IntKind.i64.wrap (Int.tdiv a0 4)) ∧ (IntKind.i64.wrap (Int.tdiv a0 4)) < (8 : Int)) ∧ (∃ a1 : Int, a1 = IntKind.i64.wrap (24 - (IntKind.i64.wrap ((Int.tmod a0 4) * 8))) ∧ (0 ≤ a1 ∧ (∃ a4 : Int, a4 = shrI .u32 (gn a2 ((IntKind.i64.wrap (Int.tdiv a0 4)).toNat)) a1 ∧ ((0 ≤ a0 ∧ a0 < (32 : Int)) ∧ (∃ a5 : List Int, a5 = List.set a3 (a0.toNat) (IntKind.u8.wrap a4) ∧ digest_Of.L3 r0 a2 kL3 a5 (IntKind.i64.wrap (a0 + 1))))))))) ∨ (¬ (a0 < 32) ∧ r0 = a3))
def digest_Of.L2 (l0 : List Int) (r0 : List Int) : Nat → (List Int) → Int → Prop
 | 0, _, _ => False
 | kL2 + 1, a0, a1 => ((a1 ≥ 0 ∧ (0 ≤ a1 ∧ (∃ a9 : Int, a9 = shrI .u64 (IntKind.u64.wrap (8 * (IntKind.u64.wrap (l0.length : Int)))) a1 ∧ (∃ a4 : List Int, a4 = a0 ++ [IntKind.u8.wrap a9] ∧ (a4.length ≤ 1099511627776 ∧ digest_Of.L2 l0 r0 kL2 a4 (IntKind.i64.wrap (a1 - 8))))))) ∨ (¬ (a1 ≥ 0) ∧ (∃ (a5 : List Int), digest_first.rel  a5 ∧ (∃ (a2 : Nat), (a0.length ≤ 64 * a2 ∧ (∀ j : Nat, j < a2 → 64 * j < a0.length) ∧ a0.length ≤ 1099511627776) ∧ ∃ (a6 : List Int → Prop) (b0 : Nat → List Int → List Int), a6 a5 ∧ (∀ (a7 : Nat) (a3 : List Int), a7 < a2 → a6 a3 → a3.length = 8 → (∃ (a8 : List Int), digest_state_mixed.rel a3 (chl a0 64 a7) a8 ∧ (a6 a8 ∧ a8 = b0 a7 a3))) ∧ ∃ b1 : List Int, b1 = (List.range a2).foldl (fun s_ x_ => b0 x_ s_) a5 ∧ (∃ k_ : Nat, digest_Of.L3 r0 b1 k_ (z32) 0)))))
def digest_Of.L1 (l0 : List Int) (r0 : List Int) : Nat → (List Int) → Prop
 | 0, _ => False
 | kL1 + 1, a0 => (((Int.tmod (a0.length : Int) 64) ≠ 56 ∧ (∃ a1 : List Int, a1 = a0 ++ [0] ∧ (a1.length ≤ 1099511627776 ∧ digest_Of.L1 l0 r0 kL1 a1))) ∨ (¬ ((Int.tmod (a0.length : Int) 64) ≠ 56) ∧ (∃ k_ : Nat, digest_Of.L2 l0 r0 k_ a0 56)))
def digest_Of.rel (l0 : List Int) (r0 : List Int) : Prop := (∃ (a1 : List Int), slices_Clone_s_byte_byte.rel l0 a1 ∧ (∃ a0 : List Int, a0 = a1 ++ [128] ∧ (a0.length ≤ 1099511627776 ∧ (∃ k_ : Nat, digest_Of.L1 l0 r0 k_ a0))))
set_option maxHeartbeats 4000000 in
theorem digest_Of.calls (w : World) (l0 : List Int) (A0 : Option Addr) (n0 : Nat) (c0 : Nat)  (hG0 : Src w (sp 0) (iv .u32 tab0)) (hs0 : Src w A0 (iv .u8 l0)) (hn0 : n0 = l0.length) (hc0 : n0 ≤ c0) (r0 : List Int) (H : digest_Of.rel l0 r0) :
  Calls Tryd.prog 54 #[.slice A0 n0 c0] w fun e w' => r0.length = 32 ∧ e = .returned (.agg (iv .u8 r0).toArray) ∧ St w w' [] := by
 refine CW.enterM Tryd.func54 rfl (n := 58) rfl [.slice A0 n0 c0] (Nat.le_of_ble_eq_true rfl) ?_
 refine CW.sub [(0, .slice A0 n0 c0)] ⟨rfl, trivial⟩ ?_
 have st0 : St w w [] := St.refl w
 refine cr ?_
 refine WL.alloc st0 arr23.zero ?_
 intro a0 i6 g2
 refine WL.nx (WL.mv rfl ?_)
 obtain ⟨c8, i7, H⟩ := H
 refine WL.call Wanted.none ent48 rfl (slices_Clone_s_byte_byte.calls i6 l0 A0 n0 c0 (hs0.ext g2) (hn0) (hc0) c8 i7) ?_
 rintro _ i8 ⟨g3, g4, g5, i9, rfl, j0⟩
 have j1 := g2.call j0
 refine ⟨_, rfl, ?_⟩
 refine WL.buildSl [.int .u8 128] j1 Tryd.underlying25 elem5 rfl rfl (by decide) (by decide) (by simp [Value.cells]) ?_
 intro a4 j2 c9
 replace c9 : St w j2 [.sl (sp a4) 1 1 (iv .u8 [128]) 5 1, .sl g3 g4 g5 (iv .u8 c8) 5 1, .cells a0 (iv .u8 (z32)) 23] := c9
 obtain ⟨d9, g6, H⟩ := H
 obtain ⟨j3, H⟩ := H
 obtain ⟨d0, e0⟩ : ∃ n_ : Nat, n_ = d9.length := ⟨_, rfl⟩
 refine WL.append (i := 1) Wanted.none c9 rfl Tryd.underlying25 elem5 rfl rfl (c9.src_sl (k := 0) rfl) (by rw [iv_length]; exact (Eq.refl _).symm) (one_iv .u8 _) (by decide) (N := d0) (by rw [e0, g6, List.length_append]; exact congr (congrArg HAdd.hAdd (i9)) (rfl)) (by rw [e0]; exact j3) ?_
 intro e1 e2 j4 e3
 have e3' : St w j4 [.sl (sp a4) 1 1 (iv .u8 [128]) 5 1, .sl e1 e2 d0 (iv .u8 d9) 5 1, .cells a0 (iv .u8 (z32)) 23] := by rw [g6, ← iv_append .u8 c8 [128]]; exact e3
 refine WL.as rfl (wn (CW.seq (CW.block ?_)))
 obtain ⟨j5, H⟩ := H
 refine CW.sub [(0, .slice A0 n0 c0), (2, .pointer (sp a0)), (3, .slice e1 d0 e2)] ⟨rfl, rfl, rfl, trivial⟩ ?_
 refine CW.loop (fun kL1 l_ w_ => ∃ (b4 : Option Addr) (b5 : Nat) (b1 : Nat) (a9 : List Int), l_ = [(0, .slice A0 n0 c0), (2, .pointer (sp a0)), (3, .slice b4 b1 b5)] ∧ digest_Of.L1 l0 r0 kL1 a9 ∧ (b1 = a9.length) ∧ St w w_ [.sl (sp a4) 1 1 (iv .u8 [128]) 5 1, .sl b4 b5 b1 (iv .u8 a9) 5 1, .cells a0 (iv .u8 (z32)) 23]) (k := j5) ⟨e1, e2, d0, d9, rfl, H, e0, e3'⟩ (fun _ _ h => by obtain ⟨_, _, _, _, _, h, _⟩ := h; exact h.elim) ?_
 rintro kL1 o8 o9 ⟨b4, b5, b1, a9, rfl, H, e4, g7⟩
 refine CW.seq (cr (WL.mv rfl ?_))
 refine WL.v (Runs.len_sl Tryd.underlying25 rfl (by rw [e4])) ?_
 refine WL.v (Runs.rem rfl rfl (by decide) rfl) ?_
 refine WL.v (Runs.neq rfl rfl rfl) ?_
 refine wn ?_
 rcases H with ⟨e5, H⟩ | ⟨e5, H⟩
 ·have e6 : ((Int.tmod (a9.length : Int) 64) != 56) = true := (bne_iff_ne.mpr e5)
  refine CW.ct rfl e6 ?_
  refine CW.skip (QW.then_n (CW.block (CW.region (WL.mv rfl ?_))))
  refine WL.buildSl [.int .u8 0] g7 Tryd.underlying25 elem5 rfl rfl (by decide) (by decide) (by simp [Value.cells]) ?_
  intro g8 j6 d1
  replace d1 : St w j6 [.sl (sp g8) 1 1 (iv .u8 [0]) 5 1, .sl (sp a4) 1 1 (iv .u8 [128]) 5 1, .sl b4 b5 b1 (iv .u8 a9) 5 1, .cells a0 (iv .u8 (z32)) 23] := d1
  obtain ⟨e7, g9, H⟩ := H
  obtain ⟨j7, H⟩ := H
  obtain ⟨e8, e9⟩ : ∃ n_ : Nat, n_ = e7.length := ⟨_, rfl⟩
  refine WL.append (i := 2) Wanted.none d1 rfl Tryd.underlying25 elem5 rfl rfl (d1.src_sl (k := 0) rfl) (by rw [iv_length]; exact (Eq.refl _).symm) (one_iv .u8 _) (by decide) (N := e8) (by rw [e9, g9, List.length_append]; exact congr (congrArg HAdd.hAdd (e4)) (rfl)) (by rw [e9]; exact j7) ?_
  intro h0 h4 j8 b9
  have b9' : St w j8 [.sl (sp g8) 1 1 (iv .u8 [0]) 5 1, .sl (sp a4) 1 1 (iv .u8 [128]) 5 1, .sl h0 h4 e8 (iv .u8 e7) 5 1, .cells a0 (iv .u8 (z32)) 23] := by rw [g9, ← iv_append .u8 a9 [0]]; exact b9
  refine WL.as rfl (WL.nil (QW.blk_n ?_))
  have b9'' := b9'.pick [1, 2, 3] (by decide)
  exact QW.at _ (by repeat' constructor) ⟨h0, h4, e8, e7, rfl, H, e9, b9''⟩
 have e6 : ((Int.tmod (a9.length : Int) 64) != 56) = false := (bne_eq_false_iff_eq.mpr (Decidable.not_not.mp e5))
 refine CW.cf rfl e6 ?_
 refine CW.exit (QW.then_x (QW.then_x (QW.blk_x (QW.then_n (CW.seq (cr (WL.as rfl (wn (CW.block ?_)))))))))
 obtain ⟨j9, H⟩ := H
 refine CW.sub [(0, .slice A0 n0 c0), (2, .pointer (sp a0)), (3, .slice b4 b1 b5), (4, .int .i64 56)] ⟨rfl, rfl, rfl, rfl, trivial⟩ ?_
 refine CW.loop (fun kL2 l_ w_ => ∃ (a2 : Option Addr) (a3 : Nat) (a1 : Nat) (a5 : List Int) (b6 : Int), l_ = [(0, .slice A0 n0 c0), (2, .pointer (sp a0)), (3, .slice a2 a1 a3), (4, .int .i64 b6)] ∧ digest_Of.L2 l0 r0 kL2 a5 b6 ∧ (a1 = a5.length) ∧ St w w_ [.sl (sp a4) 1 1 (iv .u8 [128]) 5 1, .sl a2 a3 a1 (iv .u8 a5) 5 1, .cells a0 (iv .u8 (z32)) 23]) (k := j9) ⟨b4, b5, b1, a9, 56, rfl, H, e4, g7⟩ (fun _ _ h => by obtain ⟨_, _, _, _, _, _, h, _⟩ := h; exact h.elim) ?_
 rintro kL2 p0 k0 ⟨a2, a3, a1, a5, b6, rfl, H, c1, h5⟩
 refine CW.seq (cr (WL.mv rfl ?_))
 refine WL.v (Runs.geq rfl rfl rfl) ?_
 refine wn ?_
 rcases H with ⟨f0, H⟩ | ⟨f0, H⟩
 ·have f1 : (decide (b6 ≥ 0)) = true := (decide_eq_true f0)
  refine CW.ct rfl f1 ?_
  refine CW.skip (QW.then_n (CW.seq (CW.block (CW.region (WL.mv rfl (WL.mv rfl ?_))))))
  refine WL.v (Runs.len_sl Tryd.underlying25 rfl (by rw [hn0])) ?_
  refine WL.v (Runs.conv Tryd.underlying37 ⟨_, Tryd.underlying3⟩ rfl rfl) ?_
  refine WL.v (Runs.mul rfl rfl rfl) ?_
  refine WL.mv rfl ?_
  obtain ⟨k1, H⟩ := H
  obtain ⟨d2, k2, H⟩ := H
  refine WL.v (Runs.shr rfl rfl k1 k2) ?_
  refine WL.v (Runs.conv Tryd.underlying5 ⟨_, Tryd.underlying37⟩ rfl rfl) ?_
  refine WL.buildSl [.int .u8 (IntKind.u8.wrap d2)] h5 Tryd.underlying25 elem5 rfl rfl (by decide) (by decide) (by simp [Value.cells]) ?_
  intro h6 k3 d3
  replace d3 : St w k3 [.sl (sp h6) 1 1 (iv .u8 [IntKind.u8.wrap d2]) 5 1, .sl (sp a4) 1 1 (iv .u8 [128]) 5 1, .sl a2 a3 a1 (iv .u8 a5) 5 1, .cells a0 (iv .u8 (z32)) 23] := d3
  obtain ⟨f2, h7, H⟩ := H
  obtain ⟨k4, H⟩ := H
  obtain ⟨f3, f4⟩ : ∃ n_ : Nat, n_ = f2.length := ⟨_, rfl⟩
  refine WL.append (i := 2) Wanted.none d3 rfl Tryd.underlying25 elem5 rfl rfl (d3.src_sl (k := 0) rfl) (by rw [iv_length]; exact (Eq.refl _).symm) (one_iv .u8 _) (by decide) (N := f3) (by rw [f4, h7, List.length_append]; exact congr (congrArg HAdd.hAdd (c1)) (rfl)) (by rw [f4]; exact k4) ?_
  intro h8 h9 k5 c2
  have c2' : St w k5 [.sl (sp h6) 1 1 (iv .u8 [IntKind.u8.wrap d2]) 5 1, .sl (sp a4) 1 1 (iv .u8 [128]) 5 1, .sl h8 h9 f3 (iv .u8 f2) 5 1, .cells a0 (iv .u8 (z32)) 23] := by rw [h7, ← iv_append .u8 a5 [IntKind.u8.wrap d2]]; exact c2
  refine WL.as rfl (WL.nil (QW.blk_n (QW.then_n (CW.region (WL.mv rfl ?_)))))
  refine WL.v (Runs.sub rfl rfl rfl) ?_
  refine WL.as rfl (WL.nil ?_)
  have c2'' := c2'.pick [1, 2, 3] (by decide)
  exact QW.at _ (by repeat' constructor) ⟨h8, h9, f3, f2, IntKind.i64.wrap (b6 - 8), rfl, H, f4, c2''⟩
 have f1 : (decide (b6 ≥ 0)) = false := (decide_eq_false f0)
 refine CW.cf rfl f1 ?_
 refine CW.exit (QW.then_x (QW.then_x (QW.blk_x (QW.then_n (cr ?_)))))
 obtain ⟨c3, k6, H⟩ := H
 refine WL.call Wanted.none ent71 rfl (digest_first.calls k0 c3 k6) ?_
 rintro _ k7 ⟨i0, rfl, k8⟩
 have k9 := h5.call k8
 refine ⟨_, rfl, ?_⟩
 refine WL.alloc k9 arr148.zero ?_
 intro a6 p1 l1
 refine WL.store_arr (i := 0) l1 rfl arr148 rfl (by rw [iv_length]; exact (List.length_replicate ..)) i0 rfl ?_
 intro i1 f5
 try dsimp only [List.set] at f5
 refine wn (CW.seq (cr (WL.mv rfl ?_)))
 refine WL.call Wanted.none ent72 rfl (slices_Chunk.calls i1 a2 a1 a3 64 (by decide)) ?_
 rintro _ l2 ⟨a7, a8, rfl, l3⟩
 have d4 := f5.call l3
 refine ⟨_, rfl, ?_⟩
 refine wn ?_
 refine CW.sub [(2, .pointer (sp a0)), (5, .pointer (sp a6)), (36, .func (.func 81) #[] #[.pointer (sp a7), .pointer (sp a8)])] ⟨rfl, rfl, rfl, trivial⟩ ?_
 refine CW.block ?_
 obtain ⟨l4, ⟨l5, l6, l7⟩, l8, l9, m0, m1, c4, m2, H⟩ := H
 refine CW.sub [(2, .pointer (sp a0)), (5, .pointer (sp a6)), (36, .func (.func 81) #[] #[.pointer (sp a7), .pointer (sp a8)])] ⟨rfl, rfl, rfl, trivial⟩ ?_
 have hc1 := d4.cell (k := 1) (i := 0) rfl rfl
 have hc2 := d4.cell (k := 0) (i := 0) rfl rfl
 refine CW.range (α := Fin l4) (σ := List Int) d4 rfl ent81 (chunk_seq (c := 64) hc1 hc2 (d4.cap (i := 4) rfl) (by decide) (by decide) (by rw [c1]; exact l7) (by rw [c1]; exact l5) (fun j hj => by rw [c1]; exact l6 j hj)) (fun h k => h.trans k) (fun W j o o2 h1 h2 h3 => KpB.put (block_lt_of_cell hc1) (block_lt_of_cell hc2) W j o o2 h1 h2 h3) (fun pre s_ => s_ = pre.foldl (fun s_ x_ => l9 x_.val s_) c3 ∧ l8 s_ ∧ s_.length = 8) (fun c5 => [.cells a8 [.int .i64 ((64 : Nat) : Int)] 3, .cells a7 [.slice a2 a1 a3] 25, .cells a6 (iv .u32 c5) 148, .sl (sp a4) 1 1 (iv .u8 [128]) 5 1, .sl a2 a3 a1 (iv .u8 a5) 5 1, .cells a0 (iv .u8 (z32)) 23]) (fun _ => rfl) c3 ⟨rfl, m0, i0⟩ rfl ?_ rfl ?_
 ·rintro j_ pre_ b2 c5 m3 ⟨m4, m5, d5⟩ b7 _ b hb hd
  refine wpIn_block ?_
  refine WL.round (n := 58) (.inr ⟨j_, rfl⟩) (fun ⟨a, w, h⟩ => h) rfl ?_ hb hd
  have H := m1 b2.val c5 b2.isLt m5 d5
  refine WL.v (Runs.load_arr arr148 rfl (b7.blk (i := 2) rfl) d5) ?_
  refine WL.mv rfl ?_
  obtain ⟨f6, m6, H⟩ := H
  refine WL.call Wanted.none ent73 rfl (digest_state_mixed.calls m3 c5 (chl a5 64 b2.val) (a2.map (·.add (64 * b2.val))) (min 64 (a1 - 64 * b2.val)) (min 64 (a1 - 64 * b2.val)) (hG0.ext b7) d5 ((b7.src_sl (k := 4) rfl).chunk 64 b2.val) ((by rw [c1]; exact chl_length _ _ _)) (Nat.le_refl _) f6 m6) ?_
  rintro _ m7 ⟨i2, rfl, i3⟩
  have m8 := keeps_of_below i3.ext
  have m9 := b7.call i3
  refine ⟨_, rfl, ?_⟩
  refine WL.store_arrK (i := 2) m9 rfl arr148 rfl (by rw [iv_length]; exact d5) i2 rfl ?_
  intro n1 c6 n2
  replace c6 : St w n1 [.cells a8 [.int .i64 ((64 : Nat) : Int)] 3, .cells a7 [.slice a2 a1 a3] 25, .cells a6 (iv .u32 f6) 148, .sl (sp a4) 1 1 (iv .u8 [128]) 5 1, .sl a2 a3 a1 (iv .u8 a5) 5 1, .cells a0 (iv .u8 (z32)) 23] := c6
  refine WL.nil (QW.blk_n ?_)
  obtain ⟨hI1, hg1⟩ := H
  exact fun b hb hd => ⟨(m8).trans n2, ⟨(c6.cell (k := 1) rfl rfl).trans (b7.cell (k := 1) rfl rfl).symm, (c6.cell (k := 0) rfl rfl).trans (b7.cell (k := 0) rfl rfl).symm⟩, f6, ⟨by rw [List.foldl_append, ← m4]; exact hg1, hI1, i2⟩, c6⟩
 rintro d6 s_z n3 ⟨rfl_, _, i4⟩ d7
 rw [foldl_fin, ← m2] at rfl_
 rw [rfl_] at d7 i4
 have d7 : St w n3 [.obj d6 (.deferred (some [])), .cells a8 [.int .i64 ((64 : Nat) : Int)] 3, .cells a7 [.slice a2 a1 a3] 25, .cells a6 (iv .u32 c4) 148, .sl (sp a4) 1 1 (iv .u8 [128]) 5 1, .sl a2 a3 a1 (iv .u8 a5) 5 1, .cells a0 (iv .u8 (z32)) 23] := d7
 refine QW.blk_n (QW.then_n (cr ?_))
 refine WL.alloc d7 arr23.zero ?_
 intro c7 p2 n4
 refine wn (CW.seq (cr (WL.mv rfl (wn (CW.block ?_)))))
 obtain ⟨n5, H⟩ := H
 refine CW.sub [(2, .pointer (sp a0)), (5, .pointer (sp a6)), (7, .pointer (sp c7)), (41, .int .i64 0)] ⟨rfl, rfl, rfl, rfl, trivial⟩ ?_
 refine CW.loop (fun kL3 l_ w_ => ∃ (b3 : List Int) (b0 : Int), l_ = [(2, .pointer (sp a0)), (5, .pointer (sp a6)), (7, .pointer (sp c7)), (41, .int .i64 b0)] ∧ digest_Of.L3 r0 c4 kL3 b3 b0 ∧ (b3.length = 32) ∧ St w w_ [.cells c7 (iv .u8 b3) 23, .obj d6 (.deferred (some [])), .cells a8 [.int .i64 ((64 : Nat) : Int)] 3, .cells a7 [.slice a2 a1 a3] 25, .cells a6 (iv .u32 c4) 148, .sl (sp a4) 1 1 (iv .u8 [128]) 5 1, .sl a2 a3 a1 (iv .u8 a5) 5 1, .cells a0 (iv .u8 (z32)) 23]) (k := n5) ⟨z32, 0, rfl, H, (List.length_replicate ..), n4⟩ (fun _ _ h => by obtain ⟨_, _, _, h, _⟩ := h; exact h.elim) ?_
 rintro kL3 p3 p4 ⟨b3, b0, rfl, H, b8, d8⟩
 refine cr ?_
 refine WL.v (Runs.lss rfl rfl rfl) ?_
 refine wn (CW.seq ?_)
 rcases H with ⟨f7, H⟩ | ⟨f7, H⟩
 ·have f8 : (decide (b0 < 32)) = true := (decide_eq_true f7)
  refine CW.ct rfl f8 ?_
  refine CW.skip (QW.then_n (CW.seq (CW.block (cr (WL.mv rfl (WL.as rfl (wn (CW.region (WL.mv rfl (WL.mv rfl ?_))))))))))
  refine WL.v (Runs.quo rfl rfl (by decide) rfl) ?_
  obtain ⟨⟨n6, n7⟩, H⟩ := H
  refine WL.v (Runs.indexAddr_blk arr148 rfl rfl n6 n7 (o := (IntKind.i64.wrap (Int.tdiv b0 4)).toNat) (by first | rfl | omega)) ?_
  refine WL.v (Runs.load nagg24 rfl (d8.cell_iv (i := 4) rfl (by have := i4; omega))) ?_
  refine WL.mv rfl ?_
  refine WL.v (Runs.rem rfl rfl (by decide) rfl) ?_
  refine WL.v (Runs.mul rfl rfl rfl) ?_
  obtain ⟨p5, n8, H⟩ := H
  refine WL.v (Runs.sub rfl rfl n8) ?_
  obtain ⟨n9, H⟩ := H
  obtain ⟨o0, o1, H⟩ := H
  refine WL.v (Runs.shr rfl rfl n9 o1) ?_
  refine WL.v (Runs.conv Tryd.underlying5 ⟨_, Tryd.underlying24⟩ rfl rfl) ?_
  obtain ⟨⟨o3, o4⟩, H⟩ := H
  refine WL.v (Runs.indexAddr_blk arr23 rfl rfl o3 o4 (o := (b0).toNat) (by first | rfl | omega)) ?_
  obtain ⟨f9, i5, H⟩ := H
  have o5 : f9.length = 32 := by rw [i5, List.length_set]; exact b8
  refine WL.store_cells (i := 0) d8 rfl cells5 rfl (by rw [iv_length]; have := b8; omega) rfl rfl ?_
  intro o6 g0
  have g0' : St w o6 [.cells c7 (iv .u8 f9) 23, .obj d6 (.deferred (some [])), .cells a8 [.int .i64 ((64 : Nat) : Int)] 3, .cells a7 [.slice a2 a1 a3] 25, .cells a6 (iv .u32 c4) 148, .sl (sp a4) 1 1 (iv .u8 [128]) 5 1, .sl a2 a3 a1 (iv .u8 a5) 5 1, .cells a0 (iv .u8 (z32)) 23] := by rw [i5, ← iv_set .u8 b3 (b0.toNat) (IntKind.u8.wrap o0)]; exact g0
  refine WL.nil (QW.blk_n (QW.then_n (CW.region ?_)))
  refine WL.v (Runs.add rfl rfl rfl) ?_
  refine WL.mv rfl (WL.nil ?_)
  exact QW.at _ (by repeat' constructor) ⟨f9, IntKind.i64.wrap (b0 + 1), rfl, H, o5, g0'⟩
 have f8 : (decide (b0 < 32)) = false := (decide_eq_false f7)
 refine CW.cf rfl f8 ?_
 refine CW.exit (QW.then_x (QW.then_x (QW.blk_x (QW.then_n (cr ?_)))))
 refine WL.v (Runs.load_arr arr23 rfl (d8.blk (i := 0) rfl) b8) ?_
 refine WL.store_arr (i := 7) d8 rfl arr23 rfl (by rw [iv_length]; exact (List.length_replicate ..)) b8 rfl ?_
 intro o7 g1
 try dsimp only [List.set] at g1
 refine wn (CW.ret ?_)
 obtain rfl := H
 refine QW.retMc g1 (i := 1) rfl rfl arr23 rfl (j := 7) (by decide) rfl b8 (fun wz stz => ?_)
 exact ⟨b8, rfl, stz.pick [] (by decide)⟩
/-! ### digest_Pieces: function 31 -/
def digest_Pieces.rel (l0 : List R25) (lr0 : List Int) : Prop := (∃ (a0 : List Int), slices_Concat_s_byte_byte.rel l0 a0 ∧ (∃ (a1 : List Int), digest_Of.rel a0 a1 ∧ lr0 = a1))
set_option maxHeartbeats 1000000 in
theorem digest_Pieces.calls (w w1 : World) (T R : Pool) (l0 : List R25) (A0 : Option Addr) (n0 : Nat) (c0 : Nat) (st0 : St w w1 ((T ++ R))) (hG0 : Src w (sp 0) (iv .u32 tab0)) (hb0 : HS w (T ++ R) T A0 n0 c0 (f25 w) l0) (lr0 : List Int) (H : digest_Pieces.rel l0 lr0) :
  Calls Tryd.prog 31 #[.slice A0 n0 c0] w1 fun e w' => ∃ T' , Pl T T' ∧ lr0.length = 32 ∧ e = .returned (.agg (iv .u8 lr0).toArray) ∧ St w w' ((T' ++ R)) := by
 refine CW.enter Tryd.func31 rfl (n := 6) rfl [.slice A0 n0 c0] (Nat.le_of_ble_eq_true rfl) ?_
 refine CW.sub [(0, .slice A0 n0 c0)] ⟨rfl, trivial⟩ ?_
 refine cr ?_
 refine WL.alloc st0 arr23.zero ?_
 intro a0 a9 b2
 refine WL.nx (WL.mv rfl ?_)
 have b3 := St.hide (A := []) (B := [_]) (T := T) (R := R) b2
 obtain ⟨a1, b4, H⟩ := H
 refine WL.call Wanted.none ent55 rfl (slices_Concat_s_byte_byte.calls w a9 T (.cells a0 (iv .u8 (z32)) 23 :: R) l0 A0 n0 c0  b3 (hb0.mono (memo_TR (B := [_]) (fun _ h_ => h_)) (fun _ h_ => h_)) a1 b4) ?_
 rintro _ b0 ⟨a2, a3, a4, a5, b5, b6, rfl, b7⟩
 have a6 : St w b0 (.sl a3 a5 a4 (iv .u8 a1) 5 1 :: .cells a0 (iv .u8 (z32)) 23 :: (a2 ++ R)) := St.unhide (A := [_]) (B := [_]) (T := a2) (R := R) b7
 refine ⟨_, rfl, ?_⟩
 obtain ⟨b1, b8, H⟩ := H
 refine WL.call Wanted.none ent54 rfl (digest_Of.calls b0 a1 a3 a4 a5 (hG0.ext a6) (a6.src_sl (k := 0) rfl) (b6) (a6.cap (i := 0) rfl) b1 b8) ?_
 rintro _ b9 ⟨a8, rfl, c1⟩
 have c2 := a6.call c1
 refine ⟨_, rfl, ?_⟩
 refine WL.store_arr (i := 1) c2 rfl arr23 rfl (by rw [iv_length]; exact (List.length_replicate ..)) a8 rfl ?_
 intro c3 a7
 try dsimp only [List.set] at a7
 refine wn (CW.ret ?_)
 obtain rfl := H
 exact QW.retN1 rfl (Res.row rfl row23 a7 (i := 1) rfl (by rw [iv_length]; exact a8)) ⟨a2, b5, a8, rfl, (St.pickT (L := [_, _]) a7 [] (by decide))⟩
/-! ### journal_Link: function 9 -/
def journal_Link.rel (l0 : List Int) (a1 : Int) (l2 : List Int) (r0 : List Int) : Prop := (∃ (a0 : List Int), word_Put.rel (IntKind.u64.wrap a1) 4 a0 ∧ (∃ (a2 : List Int), digest_Pieces.rel ([[255], l0, a0, l2] : List R25) a2 ∧ r0 = a2))
set_option maxHeartbeats 4000000 in
theorem journal_Link.calls (w : World) (l0 : List Int) (a1 : Int) (l2 : List Int) (A2 : Option Addr) (n2 : Nat) (c2 : Nat)  (hG0 : Src w (sp 0) (iv .u32 tab0)) (hl0 : l0.length = 32) (hs2 : Src w A2 (iv .u8 l2)) (hn2 : n2 = l2.length) (hc2 : n2 ≤ c2) (r0 : List Int) (H : journal_Link.rel l0 a1 l2 r0) :
  Calls Tryd.prog 9 #[.agg (iv .u8 l0).toArray, .int .u32 a1, .slice A2 n2 c2] w fun e w' => r0.length = 32 ∧ e = .returned (.agg (iv .u8 r0).toArray) ∧ St w w' [] := by
 refine CW.enter Tryd.func9 rfl (n := 15) rfl [.agg (iv .u8 l0).toArray, .int .u32 a1, .slice A2 n2 c2] (Nat.le_of_ble_eq_true rfl) ?_
 refine CW.sub [(0, .agg (iv .u8 l0).toArray), (1, .int .u32 a1), (2, .slice A2 n2 c2)] ⟨rfl, rfl, rfl, trivial⟩ ?_
 obtain ⟨T, R, hT, hR, st0⟩ := St.start w
 refine cr ?_
 refine WL.box st0 rfl rfl ?_
 intro a2 j4 f3
 refine WL.alloc f3 arr23.zero ?_
 intro a0 j5 f4
 refine wn (CW.seq ?_)
 refine CW.region_aw wide f4 (fun f5 e4 => ?_)
 refine AW.tk 1 rfl (fun _ => (Runs.slice_arr arr23 rfl (by decide))) ?_
 refine AW.tk 2 rfl (fun _ => (Runs.move rfl)) ?_
 refine AW.tk 3 rfl (fun _ => (Runs.conv Tryd.underlying37 ⟨_, Tryd.underlying24⟩ rfl rfl)) ?_
 refine AW.tk 5 rfl (fun _ => (Runs.move rfl)) ?_
 refine AW.step2 0 4 rfl rfl (by kernel_rfl) ?_ ?_
 ·refine WL.buildSl [.int .u8 255] e4 Tryd.underlying25 elem5 rfl rfl (by decide) (by decide) (by simp [Value.cells]) ?_
  intro b3 e5 d1
  replace d1 : St w e5 (.sl (sp b3) 1 1 (iv .u8 [255]) 5 1 :: .cells a0 (iv .u8 (z32)) 23 :: .cells a2 (iv .u8 l0) 23 :: (T ++ R)) := d1
  refine WL.nil ?_
  refine AW.back ?_
  refine AW.step 4 rfl (by kernel_rfl) ?_
  obtain ⟨a9, f6, H⟩ := H
  refine WL.call Wanted.none ent32 rfl (word_Put.calls e5 (IntKind.u64.wrap a1) 4 a9 f6) ?_
  rintro _ c1 ⟨b0, b1, b2, f7, rfl, f8⟩
  have e6 := d1.call f8
  refine ⟨_, rfl, ?_⟩
  refine WL.nil ?_
  refine AW.back  ?_
  refine AW.step 6 rfl (by kernel_rfl) ?_
  have hb_29c := e6.cap (i := 1) rfl
  obtain ⟨d2, j6, f9, d3⟩ := St.freeze (A := [_]) (B := [_, _]) (T := T) (R := R) e6
  have g0 : HB w d2 (sp b3) 1 1 (iv .u8 [255]) [255].length := ⟨rfl, hb_29c, Hd.of_sl f9⟩
  replace d3 : St w c1 (.sl b0 b1 b2 (iv .u8 a9) 5 1 :: .cells a0 (iv .u8 (z32)) 23 :: .cells a2 (iv .u8 l0) 23 :: (d2 ++ R)) := d3
  obtain ⟨d4, g1, g2, c3⟩ := St.freezeC (A := [_, _]) (B := []) (T := d2) (R := R) d3
  have g3 : HB w d4 (sp a2) 32 32 (iv .u8 l0) l0.length := ⟨(hl0).symm, Nat.le_refl _, Hd.of_cells g2⟩
  replace c3 : St w c1 (.sl b0 b1 b2 (iv .u8 a9) 5 1 :: .cells a0 (iv .u8 (z32)) 23 :: (d4 ++ R)) := c3
  have hb_39c := c3.cap (i := 0) rfl
  obtain ⟨a3, e7, g4, d5⟩ := St.freeze (A := []) (B := [_]) (T := d4) (R := R) c3
  have g5 : HB w a3 b0 b2 b1 (iv .u8 a9) a9.length := ⟨f7, hb_39c, Hd.of_sl g4⟩
  replace d5 : St w c1 (.cells a0 (iv .u8 (z32)) 23 :: (a3 ++ R)) := d5
  have g6 : HB w a3 A2 n2 c2 (iv .u8 l2) l2.length := ⟨hn2, hc2, Hd.old hs2⟩
  refine WL.buildSl [.slice (sp b3) 1 1, .slice (sp a2) 32 32, .slice b0 b2 b1, .slice A2 n2 c2] d5 Tryd.underlying76 elem25 rfl rfl (by decide) (by decide) (by simp [Value.cells]) ?_
  intro b4 c4 b6
  replace b6 : St w c4 (.sl (sp b4) 4 4 [.slice (sp b3) 1 1, .slice (sp a2) 32 32, .slice b0 b2 b1, .slice A2 n2 c2] 25 1 :: .cells a0 (iv .u8 (z32)) 23 :: (a3 ++ R)) := b6
  obtain ⟨b7, e8⟩ : ∃ x_ : Cs, x_ = [.slice (sp b3) 1 1, .slice (sp a2) 32 32, .slice b0 b2 b1, .slice A2 n2 c2] := ⟨_, rfl⟩
  have g7 : HRs a3 (f25 w) b7 ([[255], l0, a9, l2] : List R25) := by rw [e8]; exact (HRs.cons (ms := (cl (sp b3) 1 1)) (.cons ⟨_, _, _, rfl, (g0.mono (fun _ h_ => e7.1 _ (g1.1 _ h_)))⟩ .nil) (HRs.cons (ms := (cl (sp a2) 32 32)) (.cons ⟨_, _, _, rfl, (g3.mono (fun _ h_ => e7.1 _ h_))⟩ .nil) (HRs.cons (ms := (cl b0 b2 b1)) (.cons ⟨_, _, _, rfl, g5⟩ .nil) (HRs.one (.cons ⟨_, _, _, rfl, g6⟩ .nil)))))
  replace b6 : St w c4 (.sl (sp b4) 4 4 b7 25 1 :: .cells a0 (iv .u8 (z32)) 23 :: (a3 ++ R)) := by rw [e8]; exact b6
  refine WL.nil ?_
  refine AW.back  ?_
  refine AW.step 7 rfl (by kernel_rfl) ?_
  have g8 := St.hide (A := []) (B := [_, _]) (T := a3) (R := R) b6
  obtain ⟨e9, g9, H⟩ := H
  refine WL.call Wanted.none ent31 rfl (digest_Pieces.calls w c4 a3 (.sl (sp b4) 4 4 b7 25 1 :: .cells a0 (iv .u8 (z32)) 23 :: R) ([[255], l0, a9, l2] : List R25) (sp b4) 4 4  g8 hG0 (HS.mk rfl (b6.cap (i := 0) rfl) (fun W_ L_ st hT => st.src_mem (hT _ (List.mem_append_right _ (List.mem_of_getElem? (i := 0) rfl)))) g7) e9 g9) ?_
  rintro _ h0 ⟨d6, j7, d7, rfl, h1⟩
  have h2 : St w h0 (.sl (sp b4) 4 4 b7 25 1 :: .cells a0 (iv .u8 (z32)) 23 :: (d6 ++ R)) := St.unhide (A := []) (B := [_, _]) (T := d6) (R := R) h1
  refine ⟨_, rfl, ?_⟩
  refine WL.nil ?_
  refine AW.back  ?_
  refine AW.step 8 rfl (by kernel_rfl) ?_
  refine WL.store_arr (i := 1) h2 rfl arr23 rfl (by rw [iv_length]; exact (List.length_replicate ..)) d7 rfl ?_
  intro h3 c5
  try dsimp only [List.set] at c5
  refine WL.nil ?_
  refine AW.back  ?_
  refine AW.done (by kernel_rfl) ?_
  refine QW.then_n (CW.ret ?_)
  obtain rfl := H
  exact QW.retc rfl arr23 rfl (c5.blk (i := 1) rfl) d7 ⟨d7, rfl, (St.front (A := []) (St.pickT (L := [_, _]) c5 [] (by decide)))⟩
 obtain ⟨a4, h4, H⟩ := H
 refine WL.call Wanted.none ent32 rfl (word_Put.calls f5 (IntKind.u64.wrap a1) 4 a4 h4) ?_
 rintro _ h5 ⟨a5, a6, a7, h6, rfl, h7⟩
 have h8 := e4.call h7
 refine ⟨_, rfl, ?_⟩
 refine WL.nil ?_
 refine AW.back ?_
 refine AW.step 0 rfl (by kernel_rfl) ?_
 refine WL.buildSl [.int .u8 255] h8 Tryd.underlying25 elem5 rfl rfl (by decide) (by decide) (by simp [Value.cells]) ?_
 intro b8 c6 c7
 replace c7 : St w c6 (.sl (sp b8) 1 1 (iv .u8 [255]) 5 1 :: .sl a5 a6 a7 (iv .u8 a4) 5 1 :: .cells a0 (iv .u8 (z32)) 23 :: .cells a2 (iv .u8 l0) 23 :: (T ++ R)) := c7
 refine WL.nil ?_
 refine AW.back  ?_
 refine AW.step 6 rfl (by kernel_rfl) ?_
 have hb_79c := c7.cap (i := 0) rfl
 obtain ⟨d8, j8, h9, d9⟩ := St.freeze (A := []) (B := [_, _, _]) (T := T) (R := R) c7
 have i0 : HB w d8 (sp b8) 1 1 (iv .u8 [255]) [255].length := ⟨rfl, hb_79c, Hd.of_sl h9⟩
 replace d9 : St w c6 (.sl a5 a6 a7 (iv .u8 a4) 5 1 :: .cells a0 (iv .u8 (z32)) 23 :: .cells a2 (iv .u8 l0) 23 :: (d8 ++ R)) := d9
 obtain ⟨e0, i1, i2, c8⟩ := St.freezeC (A := [_, _]) (B := []) (T := d8) (R := R) d9
 have i3 : HB w e0 (sp a2) 32 32 (iv .u8 l0) l0.length := ⟨(hl0).symm, Nat.le_refl _, Hd.of_cells i2⟩
 replace c8 : St w c6 (.sl a5 a6 a7 (iv .u8 a4) 5 1 :: .cells a0 (iv .u8 (z32)) 23 :: (e0 ++ R)) := c8
 have hb_89c := c8.cap (i := 0) rfl
 obtain ⟨a8, f0, i4, e1⟩ := St.freeze (A := []) (B := [_]) (T := e0) (R := R) c8
 have i5 : HB w a8 a5 a7 a6 (iv .u8 a4) a4.length := ⟨h6, hb_89c, Hd.of_sl i4⟩
 replace e1 : St w c6 (.cells a0 (iv .u8 (z32)) 23 :: (a8 ++ R)) := e1
 have i6 : HB w a8 A2 n2 c2 (iv .u8 l2) l2.length := ⟨hn2, hc2, Hd.old hs2⟩
 refine WL.buildSl [.slice (sp b8) 1 1, .slice (sp a2) 32 32, .slice a5 a7 a6, .slice A2 n2 c2] e1 Tryd.underlying76 elem25 rfl rfl (by decide) (by decide) (by simp [Value.cells]) ?_
 intro b5 c9 b9
 replace b9 : St w c9 (.sl (sp b5) 4 4 [.slice (sp b8) 1 1, .slice (sp a2) 32 32, .slice a5 a7 a6, .slice A2 n2 c2] 25 1 :: .cells a0 (iv .u8 (z32)) 23 :: (a8 ++ R)) := b9
 obtain ⟨c0, f1⟩ : ∃ x_ : Cs, x_ = [.slice (sp b8) 1 1, .slice (sp a2) 32 32, .slice a5 a7 a6, .slice A2 n2 c2] := ⟨_, rfl⟩
 have i7 : HRs a8 (f25 w) c0 ([[255], l0, a4, l2] : List R25) := by rw [f1]; exact (HRs.cons (ms := (cl (sp b8) 1 1)) (.cons ⟨_, _, _, rfl, (i0.mono (fun _ h_ => f0.1 _ (i1.1 _ h_)))⟩ .nil) (HRs.cons (ms := (cl (sp a2) 32 32)) (.cons ⟨_, _, _, rfl, (i3.mono (fun _ h_ => f0.1 _ h_))⟩ .nil) (HRs.cons (ms := (cl a5 a7 a6)) (.cons ⟨_, _, _, rfl, i5⟩ .nil) (HRs.one (.cons ⟨_, _, _, rfl, i6⟩ .nil)))))
 replace b9 : St w c9 (.sl (sp b5) 4 4 c0 25 1 :: .cells a0 (iv .u8 (z32)) 23 :: (a8 ++ R)) := by rw [f1]; exact b9
 refine WL.nil ?_
 refine AW.back  ?_
 refine AW.step 7 rfl (by kernel_rfl) ?_
 have i8 := St.hide (A := []) (B := [_, _]) (T := a8) (R := R) b9
 obtain ⟨f2, i9, H⟩ := H
 refine WL.call Wanted.none ent31 rfl (digest_Pieces.calls w c9 a8 (.sl (sp b5) 4 4 c0 25 1 :: .cells a0 (iv .u8 (z32)) 23 :: R) ([[255], l0, a4, l2] : List R25) (sp b5) 4 4  i8 hG0 (HS.mk rfl (b9.cap (i := 0) rfl) (fun W_ L_ st hT => st.src_mem (hT _ (List.mem_append_right _ (List.mem_of_getElem? (i := 0) rfl)))) i7) f2 i9) ?_
 rintro _ j0 ⟨e2, j9, e3, rfl, j1⟩
 have j2 : St w j0 (.sl (sp b5) 4 4 c0 25 1 :: .cells a0 (iv .u8 (z32)) 23 :: (e2 ++ R)) := St.unhide (A := []) (B := [_, _]) (T := e2) (R := R) j1
 refine ⟨_, rfl, ?_⟩
 refine WL.nil ?_
 refine AW.back  ?_
 refine AW.step 8 rfl (by kernel_rfl) ?_
 refine WL.store_arr (i := 1) j2 rfl arr23 rfl (by rw [iv_length]; exact (List.length_replicate ..)) e3 rfl ?_
 intro j3 d0
 try dsimp only [List.set] at d0
 refine WL.nil ?_
 refine AW.back  ?_
 refine AW.done (by kernel_rfl) ?_
 refine QW.then_n (CW.ret ?_)
 obtain rfl := H
 exact QW.retc rfl arr23 rfl (d0.blk (i := 1) rfl) e3 ⟨e3, rfl, (St.front (A := []) (St.pickT (L := [_, _]) d0 [] (by decide)))⟩
/-! ### disk_Disk_fits: function 64 -/
def disk_Disk_fits.rel (l0_0 : List R25) (l0_1 : List R124) (a0_2 : Int) (a0_3 : Bool) (l0_4 : List R48) (a1 : Int) (l2 : List Int) (ls0_0 : List R25) (ls0_1 : List R124) (as0_2 : Int) (as0_3 : Bool) (ls0_4 : List R48) (ar0 : Int) : Prop := ((a1 < 0 ∧ ls0_0 = l0_0 ∧ ls0_1 = l0_1 ∧ as0_2 = a0_2 ∧ as0_3 = a0_3 ∧ ls0_4 = l0_4 ∧ ar0 = 12) ∨ (¬ (a1 < 0) ∧ ((a1 ≥ (l0_0.length : Int) ∧ ls0_0 = l0_0 ∧ ls0_1 = l0_1 ∧ as0_2 = a0_2 ∧ as0_3 = a0_3 ∧ ls0_4 = l0_4 ∧ ar0 = 12) ∨ (¬ (a1 ≥ (l0_0.length : Int)) ∧ (((l2.length : Int) ≠ 192 ∧ ls0_0 = l0_0 ∧ ls0_1 = l0_1 ∧ as0_2 = a0_2 ∧ as0_3 = a0_3 ∧ ls0_4 = l0_4 ∧ ar0 = 1) ∨ (¬ ((l2.length : Int) ≠ 192) ∧ ls0_0 = l0_0 ∧ ls0_1 = l0_1 ∧ as0_2 = a0_2 ∧ as0_3 = a0_3 ∧ ls0_4 = l0_4 ∧ ar0 = 0))))))
set_option maxHeartbeats 1000000 in
theorem disk_Disk_fits.calls (w w1 : World) (T R : Pool) (l0_0 : List R25) (l0_1 : List R124) (a0_2 : Int) (a0_3 : Bool) (l0_4 : List R48) (a1 : Int) (l2 : List Int) (b0 : Nat) (A0_0 : Option Addr) (n0_0 : Nat) (c0_0 : Nat) (x0_0 : Cs) (A0_1 : Option Addr) (n0_1 : Nat) (c0_1 : Nat) (x0_1 : Cs) (A0_4 : Option Addr) (n0_4 : Nat) (c0_4 : Nat) (x0_4 : Cs) (A2 : Option Addr) (n2 : Nat) (c2 : Nat) (st0 : St w w1 (oD b0 A0_0 n0_0 c0_0 A0_1 n0_1 c0_1 a0_2 a0_3 A0_4 n0_4 c0_4 95 :: .sl A0_0 c0_0 n0_0 x0_0 25 1 :: .sl A0_1 c0_1 n0_1 x0_1 124 2 :: .sl A0_4 c0_4 n0_4 x0_4 48 2 :: (T ++ R))) (hn0_0 : n0_0 = l0_0.length) (hx0_0 : HRs T (f25 w) x0_0 l0_0) (hn0_1 : n0_1 = l0_1.length) (hx0_1 : HRs T (f124 w) x0_1 l0_1) (hn0_4 : n0_4 = l0_4.length) (hx0_4 : HRs T (f48 w) x0_4 l0_4) (hb2 : HB w (T ++ R) A2 n2 c2 (iv .u8 l2) l2.length) (ls0_0 : List R25) (ls0_1 : List R124) (as0_2 : Int) (as0_3 : Bool) (ls0_4 : List R48) (ar0 : Int) (H : disk_Disk_fits.rel l0_0 l0_1 a0_2 a0_3 l0_4 a1 l2 ls0_0 ls0_1 as0_2 as0_3 ls0_4 ar0) :
  Calls Tryd.prog 64 #[.pointer (sp b0), .int .i64 a1, .slice A2 n2 c2] w1 fun e w' => ∃ T' As0_0 ns0_0 cs0_0 xs0_0 As0_1 ns0_1 cs0_1 xs0_1 As0_4 ns0_4 cs0_4 xs0_4, Pl T T' ∧ ns0_0 = ls0_0.length ∧ HRs T' (f25 w) xs0_0 ls0_0 ∧ ns0_1 = ls0_1.length ∧ HRs T' (f124 w) xs0_1 ls0_1 ∧ ns0_4 = ls0_4.length ∧ HRs T' (f48 w) xs0_4 ls0_4 ∧ e = .returned (.int .i64 ar0) ∧ St w w' (oD b0 As0_0 ns0_0 cs0_0 As0_1 ns0_1 cs0_1 as0_2 as0_3 As0_4 ns0_4 cs0_4 95 :: .sl As0_0 cs0_0 ns0_0 xs0_0 25 1 :: .sl As0_1 cs0_1 ns0_1 xs0_1 124 2 :: .sl As0_4 cs0_4 ns0_4 xs0_4 48 2 :: (T' ++ R)) := by
 refine CW.enter Tryd.func64 rfl (n := 23) rfl [.pointer (sp b0), .int .i64 a1, .slice A2 n2 c2] (Nat.le_of_ble_eq_true rfl) ?_
 refine CW.sub [(0, .pointer (sp b0)), (1, .int .i64 a1), (2, .slice A2 n2 c2)] ⟨rfl, rfl, rfl, trivial⟩ ?_
 refine cr (WL.as rfl (wn (CW.seq (CW.block (cr (WL.mv rfl ?_))))))
 refine WL.v (Runs.lss rfl rfl rfl) ?_
 refine WL.mv rfl ?_
 rcases H with ⟨a2, H⟩ | ⟨a2, H⟩
 ·have a0 : (decide (a1 < 0)) = true := (decide_eq_true a2)
  refine WL.off ?_ ?_; exact Wg 10 a0
  refine WL.off ?_ ?_; exact Wg 10 a0
  refine WL.off ?_ ?_; exact Wg 10 a0
  refine WL.off ?_ ?_; exact Wg 10 a0
  refine WL.off ?_ ?_; exact Wg 10 a0
  refine WL.off ?_ ?_; exact Wg 10 a0
  refine WL.off ?_ ?_; exact Wg 10 a0
  refine WL.v (Runs.pick_t (evb rfl a0) rfl) ?_
  refine WL.as rfl (wn ?_)
  refine CW.sub [(2, .slice A2 n2 c2), (6, .int .i64 0), (7, .bool true)] ⟨rfl, rfl, rfl, trivial⟩ ?_
  refine CW.ct rfl rfl ?_
  refine cr (WL.as rfl (wn (CW.ret (QW.blk_r (QW.then_r ?_)))))
  obtain ⟨rfl, rfl, rfl, rfl, rfl, rfl⟩ := H
  exact QW.ret1 rfl rfl ⟨T, A0_0, n0_0, c0_0, x0_0, A0_1, n0_1, c0_1, x0_1, A0_4, n0_4, c0_4, x0_4, Pl.refl, hn0_0, hx0_0, hn0_1, hx0_1, hn0_4, hx0_4, rfl, (St.pickT (L := [_, _, _, _]) st0 [0, 1, 2, 3] (by decide))⟩
 have a0 : (decide (a1 < 0)) = false := (decide_eq_false a2)
 refine WL.on ?_ ?_; exact Wg 10 a0
 refine WL.mv rfl ?_
 refine WL.on ?_ ?_; exact Wg 10 a0
 refine WL.mv rfl ?_
 refine WL.on ?_ ?_; exact Wg 10 a0
 refine WL.v (Runs.nilCheck rfl) ?_
 refine WL.on ?_ ?_; exact Wg 10 a0
 refine WL.v (Runs.fieldAddr (off := 0) (p := 0) fld95_0 rfl rfl rfl) ?_
 refine WL.on ?_ ?_; exact Wg 10 a0
 refine WL.v (Runs.load nagg76 rfl (st0.cell (k := 0) rfl (pa (.slice A0_0 n0_0 c0_0) [] ((cl A0_1 n0_1 c0_1) ++ ((ci a0_2) ++ ((cb a0_3) ++ (cl A0_4 n0_4 c0_4))))))) ?_
 refine WL.on ?_ ?_; exact Wg 10 a0
 refine WL.v (Runs.len_sl Tryd.underlying76 rfl (by rw [hn0_0])) ?_
 refine WL.on ?_ ?_; exact Wg 10 a0
 refine WL.v (Runs.geq rfl rfl rfl) ?_
 refine WL.v (Runs.pick_f (evb rfl a0) rfl) ?_
 refine WL.as rfl (wn ?_)
 refine CW.sub [(2, .slice A2 n2 c2), (6, .int .i64 0), (7, .bool (decide (a1 ≥ (l0_0.length : Int))))] ⟨rfl, rfl, rfl, trivial⟩ ?_
 rcases H with ⟨a3, H⟩ | ⟨a3, H⟩
 ·have a4 : (decide (a1 ≥ (l0_0.length : Int))) = true := (decide_eq_true a3)
  refine CW.ct rfl a4 ?_
  refine cr (WL.as rfl (wn (CW.ret (QW.blk_r (QW.then_r ?_)))))
  obtain ⟨rfl, rfl, rfl, rfl, rfl, rfl⟩ := H
  exact QW.ret1 rfl rfl ⟨T, A0_0, n0_0, c0_0, x0_0, A0_1, n0_1, c0_1, x0_1, A0_4, n0_4, c0_4, x0_4, Pl.refl, hn0_0, hx0_0, hn0_1, hx0_1, hn0_4, hx0_4, rfl, (St.pickT (L := [_, _, _, _]) st0 [0, 1, 2, 3] (by decide))⟩
 have a4 : (decide (a1 ≥ (l0_0.length : Int))) = false := (decide_eq_false a3)
 refine CW.cf rfl a4 ?_
 refine cr (WL.mv rfl ?_)
 refine WL.v (Runs.len_sl Tryd.underlying25 rfl (by rw [hb2.1])) ?_
 refine WL.v (Runs.neq rfl rfl rfl) ?_
 refine WL.as rfl (wn ?_)
 rcases H with ⟨a5, H⟩ | ⟨a5, H⟩
 ·have a6 : ((l2.length : Int) != 192) = true := (bne_iff_ne.mpr a5)
  refine CW.ct rfl a6 ?_
  refine cr (WL.as rfl (wn (CW.ret (QW.blk_r (QW.then_r ?_)))))
  obtain ⟨rfl, rfl, rfl, rfl, rfl, rfl⟩ := H
  exact QW.ret1 rfl rfl ⟨T, A0_0, n0_0, c0_0, x0_0, A0_1, n0_1, c0_1, x0_1, A0_4, n0_4, c0_4, x0_4, Pl.refl, hn0_0, hx0_0, hn0_1, hx0_1, hn0_4, hx0_4, rfl, (St.pickT (L := [_, _, _, _]) st0 [0, 1, 2, 3] (by decide))⟩
 have a6 : ((l2.length : Int) != 192) = false := (bne_eq_false_iff_eq.mpr (Decidable.not_not.mp a5))
 refine CW.cf rfl a6 ?_
 refine CW.skip (QW.blk_n (QW.then_n ?_))
 refine CW.sub [(6, .int .i64 0)] ⟨rfl, trivial⟩ ?_
 refine cr (WL.as rfl (wn (CW.ret ?_)))
 obtain ⟨rfl, rfl, rfl, rfl, rfl, rfl⟩ := H
 exact QW.ret1 rfl rfl ⟨T, A0_0, n0_0, c0_0, x0_0, A0_1, n0_1, c0_1, x0_1, A0_4, n0_4, c0_4, x0_4, Pl.refl, hn0_0, hx0_0, hn0_1, hx0_1, hn0_4, hx0_4, rfl, (St.pickT (L := [_, _, _, _]) st0 [0, 1, 2, 3] (by decide))⟩
/-! ### disk_Disk_Write: function 42 -/
def disk_Disk_Write.rel (l0_0 : List R25) (l0_1 : List R124) (a0_2 : Int) (a0_3 : Bool) (l0_4 : List R48) (a1 : Int) (l2 : List Int) (ls0_0 : List R25) (ls0_1 : List R124) (as0_2 : Int) (as0_3 : Bool) (ls0_4 : List R48) (ar0 : Int) : Prop := ((a0_3 = true ∧ ls0_0 = l0_0 ∧ ls0_1 = l0_1 ∧ as0_2 = a0_2 ∧ as0_3 = a0_3 ∧ ls0_4 = l0_4 ∧ ar0 = 13) ∨ (¬ (a0_3 = true) ∧ (∃ (a2 : List R25) (a3 : List R124) (a0 : Int) (a5 : Bool) (a4 : List R48) (a6 : Int), disk_Disk_fits.rel l0_0 l0_1 a0_2 a0_3 l0_4 a1 l2 a2 a3 a0 a5 a4 a6 ∧ ((a6 ≠ 0 ∧ ls0_0 = a2 ∧ ls0_1 = a3 ∧ as0_2 = a0 ∧ as0_3 = a5 ∧ ls0_4 = a4 ∧ ar0 = a6) ∨ (¬ (a6 ≠ 0) ∧ ((a0 = 0 ∧ ls0_0 = a2 ∧ ls0_1 = a3 ∧ as0_2 = a0 ∧ as0_3 = true ∧ ls0_4 = a4 ∧ ar0 = 13) ∨ (¬ (a0 = 0) ∧ ((a0 > 0 ∧ (∃ (b1 : List Int), slices_Clone_s_byte_byte.rel l2 b1 ∧ (∃ a7 : List R124, a7 = a3 ++ ([(a1, b1)] : List R124) ∧ (a7.length ≤ 1099511627776 ∧ (∃ a8 : List R48, a8 = a4 ++ ([(2, a1)] : List R48) ∧ (a8.length ≤ 1099511627776 ∧ ls0_0 = a2 ∧ ls0_1 = a7 ∧ as0_2 = IntKind.i64.wrap (a0 - 1) ∧ as0_3 = a5 ∧ ls0_4 = a8 ∧ ar0 = 0)))))) ∨ (¬ (a0 > 0) ∧ (∃ (b2 : List Int), slices_Clone_s_byte_byte.rel l2 b2 ∧ (∃ a9 : List R124, a9 = a3 ++ ([(a1, b2)] : List R124) ∧ (a9.length ≤ 1099511627776 ∧ (∃ b0 : List R48, b0 = a4 ++ ([(2, a1)] : List R48) ∧ (b0.length ≤ 1099511627776 ∧ ls0_0 = a2 ∧ ls0_1 = a9 ∧ as0_2 = a0 ∧ as0_3 = a5 ∧ ls0_4 = b0 ∧ ar0 = 0))))))))))))))
set_option maxHeartbeats 1000000 in
theorem disk_Disk_Write.calls (w w1 : World) (T R : Pool) (l0_0 : List R25) (l0_1 : List R124) (a0_2 : Int) (a0_3 : Bool) (l0_4 : List R48) (a1 : Int) (l2 : List Int) (b0 : Nat) (A0_0 : Option Addr) (n0_0 : Nat) (c0_0 : Nat) (x0_0 : Cs) (A0_1 : Option Addr) (n0_1 : Nat) (c0_1 : Nat) (x0_1 : Cs) (A0_4 : Option Addr) (n0_4 : Nat) (c0_4 : Nat) (x0_4 : Cs) (A2 : Option Addr) (n2 : Nat) (c2 : Nat) (st0 : St w w1 (oD b0 A0_0 n0_0 c0_0 A0_1 n0_1 c0_1 a0_2 a0_3 A0_4 n0_4 c0_4 95 :: .sl A0_0 c0_0 n0_0 x0_0 25 1 :: .sl A0_1 c0_1 n0_1 x0_1 124 2 :: .sl A0_4 c0_4 n0_4 x0_4 48 2 :: (T ++ R))) (hn0_0 : n0_0 = l0_0.length) (hx0_0 : HRs T (f25 w) x0_0 l0_0) (hn0_1 : n0_1 = l0_1.length) (hx0_1 : HRs T (f124 w) x0_1 l0_1) (hn0_4 : n0_4 = l0_4.length) (hx0_4 : HRs T (f48 w) x0_4 l0_4) (hb2 : HB w (T ++ R) A2 n2 c2 (iv .u8 l2) l2.length) (ls0_0 : List R25) (ls0_1 : List R124) (as0_2 : Int) (as0_3 : Bool) (ls0_4 : List R48) (ar0 : Int) (H : disk_Disk_Write.rel l0_0 l0_1 a0_2 a0_3 l0_4 a1 l2 ls0_0 ls0_1 as0_2 as0_3 ls0_4 ar0) :
  Calls Tryd.prog 42 #[.pointer (sp b0), .int .i64 a1, .slice A2 n2 c2] w1 fun e w' => ∃ T' As0_0 ns0_0 cs0_0 xs0_0 As0_1 ns0_1 cs0_1 xs0_1 As0_4 ns0_4 cs0_4 xs0_4, Pl T T' ∧ ns0_0 = ls0_0.length ∧ HRs T' (f25 w) xs0_0 ls0_0 ∧ ns0_1 = ls0_1.length ∧ HRs T' (f124 w) xs0_1 ls0_1 ∧ ns0_4 = ls0_4.length ∧ HRs T' (f48 w) xs0_4 ls0_4 ∧ e = .returned (.int .i64 ar0) ∧ St w w' (oD b0 As0_0 ns0_0 cs0_0 As0_1 ns0_1 cs0_1 as0_2 as0_3 As0_4 ns0_4 cs0_4 95 :: .sl As0_0 cs0_0 ns0_0 xs0_0 25 1 :: .sl As0_1 cs0_1 ns0_1 xs0_1 124 2 :: .sl As0_4 cs0_4 ns0_4 xs0_4 48 2 :: (T' ++ R)) := by
 refine CW.enter Tryd.func42 rfl (n := 67) rfl [.pointer (sp b0), .int .i64 a1, .slice A2 n2 c2] (Nat.le_of_ble_eq_true rfl) ?_
 refine CW.sub [(0, .pointer (sp b0)), (1, .int .i64 a1), (2, .slice A2 n2 c2)] ⟨rfl, rfl, rfl, trivial⟩ ?_
 refine cr (WL.as rfl (wn (CW.seq (CW.block (cr (WL.mv rfl ?_))))))
 refine WL.v (Runs.eql_ptr Tryd.underlying30 rfl rfl rfl) ?_
 refine WL.as rfl (wn ?_)
 refine CW.cf rfl rfl ?_
 refine cr (WL.mv rfl ?_)
 refine WL.v (Runs.nilCheck rfl) ?_
 refine WL.v (Runs.fieldAddr (off := 3) (p := 3) fld95_3 rfl rfl rfl) ?_
 refine WL.v (Runs.load nagg4 rfl (st0.cell (k := 0) rfl (pa (.bool a0_3) ((cl A0_0 n0_0 c0_0) ++ ((cl A0_1 n0_1 c0_1) ++ (ci a0_2))) (cl A0_4 n0_4 c0_4)))) ?_
 refine WL.as rfl (wn ?_)
 refine CW.sub [(0, .pointer (sp b0)), (1, .int .i64 a1), (2, .slice A2 n2 c2), (6, .int .i64 0), (11, .bool a0_3)] ⟨rfl, rfl, rfl, rfl, rfl, trivial⟩ ?_
 rcases H with ⟨h7, H⟩ | ⟨h7, H⟩
 ·have h8 : a0_3 = true := h7
  refine CW.ct rfl h8 ?_
  refine cr (WL.as rfl (wn (CW.ret (QW.blk_r (QW.then_r ?_)))))
  obtain ⟨rfl, rfl, rfl, rfl, rfl, rfl⟩ := H
  exact QW.ret1 rfl rfl ⟨T, A0_0, n0_0, c0_0, x0_0, A0_1, n0_1, c0_1, x0_1, A0_4, n0_4, c0_4, x0_4, Pl.refl, hn0_0, hx0_0, hn0_1, hx0_1, hn0_4, hx0_4, rfl, (St.pickT (L := [_, _, _, _]) st0 [0, 1, 2, 3] (by decide))⟩
 have h8 : a0_3 = false := (Bool.eq_false_iff.mpr h7)
 refine CW.cf rfl h8 ?_
 refine CW.skip (QW.blk_n (QW.then_n (CW.seq (cr (WL.mv rfl (WL.mv rfl (WL.mv rfl ?_)))))))
 have n3 := St.hide (A := [_, _, _, _]) (B := []) (T := T) (R := R) st0
 obtain ⟨n4, h9, a7, a8, i0, f2, n5, H⟩ := H
 refine WL.call Wanted.none ent64 rfl (disk_Disk_fits.calls w w1 T (R) l0_0 l0_1 a0_2 a0_3 l0_4 a1 l2 b0 A0_0 n0_0 c0_0 x0_0 A0_1 n0_1 c0_1 x0_1 A0_4 n0_4 c0_4 x0_4 A2 n2 c2  n3 (hn0_0) hx0_0 (hn0_1) hx0_1 (hn0_4) hx0_4 (hb2.mono (memo_TR (B := []) (fun _ h_ => h_))) n4 h9 a7 a8 i0 f2 n5) ?_
 rintro _ n6 ⟨c5, a0, a2, a3, b3, b1, a9, b2, c1, a5, a4, a6, b4, d9, f9, g0, g1, g2, g3, g4, rfl, n7⟩
 have d6 : St w n6 (oD b0 a0 a2 a3 b1 a9 b2 a7 a8 a5 a4 a6 95 :: .sl a0 a3 a2 b3 25 1 :: .sl b1 b2 a9 c1 124 2 :: .sl a5 a6 a4 b4 48 2 :: (c5 ++ R)) := St.unhide (A := [_, _, _, _]) (B := []) (T := c5) (R := R) n7
 refine ⟨_, rfl, ?_⟩
 refine WL.as rfl (WL.nx (WL.mv rfl ?_))
 refine WL.v (Runs.neq rfl rfl rfl) ?_
 refine wn ?_
 refine CW.sub [(0, .pointer (sp b0)), (1, .int .i64 a1), (2, .slice A2 n2 c2), (6, .int .i64 0), (7, .int .i64 f2), (21, .bool (f2 != 0))] (by repeat' constructor) ?_
 rcases H with ⟨i1, H⟩ | ⟨i1, H⟩
 ·have i2 : (f2 != 0) = true := (bne_iff_ne.mpr i1)
  refine CW.ct rfl i2 ?_
  refine cr (WL.mv rfl (WL.as rfl (wn (CW.ret (QW.then_r ?_)))))
  obtain ⟨rfl, rfl, rfl, rfl, rfl, rfl⟩ := H
  exact QW.ret1 rfl rfl ⟨c5, a0, a2, a3, b3, b1, a9, b2, c1, a5, a4, a6, b4, d9, f9, g0, g1, g2, g3, g4, rfl, (St.pickT (L := [_, _, _, _]) d6 [0, 1, 2, 3] (by decide))⟩
 have i2 : (f2 != 0) = false := (bne_eq_false_iff_eq.mpr (Decidable.not_not.mp i1))
 refine CW.cf rfl i2 ?_
 refine CW.skip (QW.then_n (CW.seq (cr (WL.mv rfl ?_))))
 refine WL.v (Runs.nilCheck rfl) ?_
 refine WL.v (Runs.fieldAddr (off := 2) (p := 2) fld95_2 rfl rfl rfl) ?_
 refine WL.v (Runs.load nagg3 rfl (d6.cell (k := 0) rfl (pa (.int .i64 a7) ((cl a0 a2 a3) ++ (cl b1 a9 b2)) ((cb a8) ++ (cl a5 a4 a6))))) ?_
 refine WL.v (Runs.eql rfl rfl rfl) ?_
 refine wn ?_
 refine CW.sub [(0, .pointer (sp b0)), (1, .int .i64 a1), (2, .slice A2 n2 c2), (6, .int .i64 0), (27, .bool (a7 == 0))] ⟨rfl, rfl, rfl, rfl, rfl, trivial⟩ ?_
 rcases H with ⟨i3, H⟩ | ⟨i3, H⟩
 ·have i4 : (a7 == 0) = true := (beq_iff_eq.mpr i3)
  refine CW.ct rfl i4 ?_
  refine cr (WL.mv rfl ?_)
  refine WL.v (Runs.nilCheck rfl) ?_
  refine WL.v (Runs.fieldAddr (off := 3) (p := 3) fld95_3 rfl rfl rfl) ?_
  refine WL.so (new := ((cl a0 a2 a3) ++ ((cl b1 a9 b2) ++ ((ci a7) ++ ((cb true) ++ (cl a5 a4 a6)))))) (i := 0) (u0 := .bool a8) (pre := ((cl a0 a2 a3) ++ ((cl b1 a9 b2) ++ (ci a7)))) (post := ((cl a5 a4 a6))) d6 rfl cells4 (by first | rfl | simp only [aa, an, na, ca]) rfl rfl rfl rfl rfl ?_
  intro n8 i5
  try dsimp only [List.set] at i5
  refine WL.nx (WL.as rfl (wn (CW.ret (QW.then_r ?_))))
  obtain ⟨rfl, rfl, rfl, rfl, rfl, rfl⟩ := H
  exact QW.ret1 rfl rfl ⟨c5, a0, a2, a3, b3, b1, a9, b2, c1, a5, a4, a6, b4, d9, f9, g0, g1, g2, g3, g4, rfl, (St.pickT (L := [_, _, _, _]) i5 [0, 1, 2, 3] (by decide))⟩
 have i4 : (a7 == 0) = false := (beq_eq_false_iff_ne.mpr i3)
 refine CW.cf rfl i4 ?_
 refine CW.skip (QW.then_n (CW.seq (cr (WL.mv rfl ?_))))
 refine WL.v (Runs.nilCheck rfl) ?_
 refine WL.v (Runs.fieldAddr (off := 2) (p := 2) fld95_2 rfl rfl rfl) ?_
 refine WL.v (Runs.load nagg3 rfl (d6.cell (k := 0) rfl (pa (.int .i64 a7) ((cl a0 a2 a3) ++ (cl b1 a9 b2)) ((cb a8) ++ (cl a5 a4 a6))))) ?_
 refine WL.v (Runs.gtr rfl rfl rfl) ?_
 refine wn ?_
 rcases H with ⟨i6, H⟩ | ⟨i6, H⟩
 ·have i7 : (decide (a7 > 0)) = true := (decide_eq_true i6)
  refine CW.ct rfl i7 ?_
  refine CW.region (WL.mv rfl ?_)
  refine WL.v (Runs.nilCheck rfl) ?_
  refine WL.v (Runs.fieldAddr (off := 2) (p := 2) fld95_2 rfl rfl rfl) ?_
  refine WL.v (Runs.load nagg3 rfl (d6.cell (k := 0) rfl (pa (.int .i64 a7) ((cl a0 a2 a3) ++ (cl b1 a9 b2)) ((cb a8) ++ (cl a5 a4 a6))))) ?_
  refine WL.v (Runs.sub rfl rfl rfl) ?_
  refine WL.v (Runs.nilCheck rfl) ?_
  refine WL.v (Runs.fieldAddr (off := 2) (p := 2) fld95_2 rfl rfl rfl) ?_
  refine WL.so (new := ((cl a0 a2 a3) ++ ((cl b1 a9 b2) ++ ((ci (IntKind.i64.wrap (a7 - 1))) ++ ((cb a8) ++ (cl a5 a4 a6)))))) (i := 0) (u0 := .int .i64 a7) (pre := ((cl a0 a2 a3) ++ (cl b1 a9 b2))) (post := ((cb a8) ++ (cl a5 a4 a6))) d6 rfl cells3 (by first | rfl | simp only [aa, an, na, ca]) rfl rfl rfl rfl rfl ?_
  intro n9 i8
  try dsimp only [List.set] at i8
  refine wn ?_
  refine CW.sub [(0, .pointer (sp b0)), (1, .int .i64 a1), (2, .slice A2 n2 c2), (6, .int .i64 0)] ⟨rfl, rfl, rfl, rfl, trivial⟩ ?_
  refine CW.seq ?_
  refine CW.region_awh (C := fun w_ => St w w_ (oD b0 a0 a2 a3 b1 a9 b2 (IntKind.i64.wrap (a7 - 1)) a8 a5 a4 a6 95 :: .sl a0 a3 a2 b3 25 1 :: .sl a5 a6 a4 b4 48 2 :: (c5 ++ R))) 11 wide (by kernel_rfl) i8 (fun k7 c8 => ?_)
  have c6 : St w k7 (oD b0 a0 a2 a3 b1 a9 b2 (IntKind.i64.wrap (a7 - 1)) a8 a5 a4 a6 95 :: .sl a0 a3 a2 b3 25 1 :: .sl a5 a6 a4 b4 48 2 :: (c5 ++ R)) := (St.pickT (L := [_, _, _, _]) c8 [0, 1, 3] (by decide))
  refine AWH.kn (St.subset c6 c8 (mc 0 rfl (mc 1 rfl (mc 3 rfl (mem_TR (A := [_, _, _, _]) (fun _ h_ => h_)))))) fun zC2 => ?_
  refine AWH.tk 0 rfl zC2 (fun wq sq => (Runs.move rfl)) ?_
  refine AWH.tk 1 rfl zC2 (fun wq sq => (Runs.move rfl)) ?_
  refine AWH.tk 2 rfl zC2 (fun wq sq => (Runs.nilCheck rfl)) ?_
  refine AWH.tk 3 rfl zC2 (fun wq sq => (Runs.fieldAddr (off := 1) (p := 1) fld95_1 rfl rfl rfl)) ?_
  refine AWH.tk 4 rfl zC2 (fun wq sq => (Runs.load nagg93 rfl (sq.cell (k := 0) rfl (pa (.slice b1 a9 b2) (cl a0 a2 a3) ((ci (IntKind.i64.wrap (a7 - 1))) ++ ((cb a8) ++ (cl a5 a4 a6))))))) ?_
  refine AWH.tk 5 rfl zC2 (fun wq sq => (Runs.move rfl)) ?_
  refine AWH.tk 6 rfl zC2 (fun wq sq => (Runs.move rfl)) ?_
  refine AWH.step 7 rfl (by decide) (by kernel_rfl) (fun inv_ hs_ hk_ hc_ hn_ => ?_)
  obtain ⟨d7, o0, H⟩ := H
  refine WL.call Wanted.none ent48 rfl (slices_Clone_s_byte_byte.calls k7 l2 A2 n2 c2 ((hb2.2.2.at c8 (mem_TR (A := [_, _, _, _]) (fun _ h_ => d9.1 _ h_)))) (hb2.1) (hb2.2.1) d7 o0) ?_
  rintro _ k8 ⟨e0, e1, e2, o1, rfl, o2⟩
  have g5 := c8.call o2
  refine ⟨_, rfl, ?_⟩
  refine WL.nil ?_
  refine AWH.back (St.subset c6 g5 (mc 1 rfl (mc 2 rfl (mc 4 rfl (mem_TR (A := [_, _, _, _, _]) (fun _ h_ => h_)))))) inv_ hs_ hk_ hc_ hn_ ?_
  refine AWH.tk 8 rfl (St.subset c6 g5 (mc 1 rfl (mc 2 rfl (mc 4 rfl (mem_TR (A := [_, _, _, _, _]) (fun _ h_ => h_)))))) (fun wq sq => (Runs.build_seg (ps := [(0, 1), (1, 1)]) (cs := ((ci a1) ++ (cl e0 e2 e1))) plc124 zero124 rfl (.cons (ms := ((ci a1))) rfl rfl rfl (.one rfl rfl)) rfl rfl)) ?_
  refine AWH.step 9 rfl (by decide) (by kernel_rfl) (fun inv_ hs_ hk_ hc_ hn_ => ?_)
  have hb_47c := g5.cap (i := 0) rfl
  obtain ⟨c3, e3, o3, i9⟩ := St.freeze (A := []) (B := [_, _, _, _]) (T := c5) (R := R) g5
  have o4 : HB w c3 e0 e2 e1 (iv .u8 d7) d7.length := ⟨o1, hb_47c, Hd.of_sl o3⟩
  replace i9 : St w k8 (oD b0 a0 a2 a3 b1 a9 b2 (IntKind.i64.wrap (a7 - 1)) a8 a5 a4 a6 95 :: .sl a0 a3 a2 b3 25 1 :: .sl b1 b2 a9 c1 124 2 :: .sl a5 a6 a4 b4 48 2 :: (c3 ++ R)) := i9
  obtain ⟨s2, s3, o5, o6, o7, o8⟩ := slr124_1
  refine WL.buildSlSg (sz := 2) (cs := ((ci a1) ++ (cl e0 e2 e1))) i9 Tryd.underlying93 o5 o6 o7 (by decide) (by decide) o8 rfl (.one rfl rfl) rfl rfl ?_
  intro d2 k9 j0
  replace j0 : St w k9 (.cells d2 ((ci a1) ++ (cl e0 e2 e1)) 124 :: oD b0 a0 a2 a3 b1 a9 b2 (IntKind.i64.wrap (a7 - 1)) a8 a5 a4 a6 95 :: .sl a0 a3 a2 b3 25 1 :: .sl b1 b2 a9 c1 124 2 :: .sl a5 a6 a4 b4 48 2 :: (c3 ++ R)) := j0
  have f3 := St.rows_sl (i := 0) (m := 1) (size := 2) j0 rfl rfl (by decide)
  obtain ⟨c9, l0⟩ : ∃ x_ : Cs, x_ = (ci a1) ++ (cl e0 e2 e1) := ⟨_, rfl⟩
  have j1 : HRs c3 (f124 w) c9 ([(a1, d7)] : List R124) := by rw [l0]; exact (HRs.one (.cons rfl (.cons ⟨_, _, _, rfl, o4⟩ .nil)))
  replace f3 : St w k9 (.sl (sp d2) 1 1 c9 124 2 :: oD b0 a0 a2 a3 b1 a9 b2 (IntKind.i64.wrap (a7 - 1)) a8 a5 a4 a6 95 :: .sl a0 a3 a2 b3 25 1 :: .sl b1 b2 a9 c1 124 2 :: .sl a5 a6 a4 b4 48 2 :: (c3 ++ R)) := by rw [l0]; exact f3
  refine WL.nil ?_
  refine AWH.back (St.subset c6 f3 (mc 1 rfl (mc 2 rfl (mc 4 rfl (mem_TR (A := [_, _, _, _, _]) (fun _ h_ => e3.1 _ h_)))))) inv_ hs_ hk_ hc_ hn_ ?_
  refine AWH.step 10 rfl (by decide) (by kernel_rfl) (fun inv_ hs_ hk_ hc_ hn_ => ?_)
  obtain ⟨l1, l3, H⟩ := H
  obtain ⟨o9, H⟩ := H
  obtain ⟨b5, j2⟩ : ∃ n_ : Nat, n_ = l1.length := ⟨_, rfl⟩
  refine WL.appendR (i := 3) (N := b5) (news := c9) Wanted.none f3 rfl Tryd.underlying93 elemS124 rfl rfl (f3.src_sl (k := 0) rfl) (by have h1_ := (j1).length (fz124 w); have h2_ : 1 = ([(a1, d7)] : List R124).length := rfl; rw [h1_, h2_]) (HLs.one j1) (by decide) (by have h1_ : a9 = h9.length := g1; have h2_ : 1 = ([(a1, d7)] : List R124).length := rfl; rw [j2, l3, List.length_append]; omega) (by rw [j2]; exact o9) ?_
  intro b7 b8 p0 g6
  obtain ⟨d3, l4⟩ : ∃ x_ : Cs, x_ = c1 ++ c9 := ⟨_, rfl⟩
  have p1 : HRs c3 (f124 w) d3 l1 := by rw [l4, l3]; exact HRs.append (g2.mono (fun _ h_ => e3.1 _ h_)) j1
  replace g6 : St w p0 (.sl (sp d2) 1 1 c9 124 2 :: oD b0 a0 a2 a3 b1 a9 b2 (IntKind.i64.wrap (a7 - 1)) a8 a5 a4 a6 95 :: .sl a0 a3 a2 b3 25 1 :: .sl b7 b8 b5 d3 124 2 :: .sl a5 a6 a4 b4 48 2 :: (c3 ++ R)) := by rw [l4]; exact g6
  refine WL.nil ?_
  refine AWH.back (St.subset c6 g6 (mc 1 rfl (mc 2 rfl (mc 4 rfl (mem_TR (A := [_, _, _, _, _]) (fun _ h_ => e3.1 _ h_)))))) inv_ hs_ hk_ hc_ hn_ ?_
  refine AWH.tail (by kernel_rfl) ?_
  refine AW.tk 11 rfl (fun _ => (Runs.nilCheck rfl)) ?_
  refine AW.tk 12 rfl (fun _ => (Runs.fieldAddr (off := 1) (p := 1) fld95_1 rfl rfl rfl)) ?_
  refine AW.step 13 rfl (by kernel_rfl) ?_
  refine WL.so (new := ((cl a0 a2 a3) ++ ((cl b7 b5 b8) ++ ((ci (IntKind.i64.wrap (a7 - 1))) ++ ((cb a8) ++ (cl a5 a4 a6)))))) (i := 1) (u0 := .slice b1 a9 b2) (pre := ((cl a0 a2 a3))) (post := ((ci (IntKind.i64.wrap (a7 - 1))) ++ ((cb a8) ++ (cl a5 a4 a6)))) g6 rfl cells93 (by first | rfl | simp only [aa, an, na, ca]) rfl rfl rfl rfl rfl ?_
  intro p2 g7
  try dsimp only [List.set] at g7
  refine WL.nil ?_
  refine AW.back  ?_
  refine AW.done (by kernel_rfl) ?_
  refine QW.then_n ?_
  refine CW.sub [(0, .pointer (sp b0)), (1, .int .i64 a1), (6, .int .i64 0)] ⟨rfl, rfl, rfl, trivial⟩ ?_
  refine cr (WL.mv rfl (WL.mv rfl ?_))
  refine WL.v (Runs.nilCheck rfl) ?_
  refine WL.v (Runs.fieldAddr (off := 4) (p := 4) fld95_4 rfl rfl rfl) ?_
  refine WL.v (Runs.load nagg43 rfl (g7.cell (k := 1) rfl (pa (.slice a5 a4 a6) ((cl a0 a2 a3) ++ ((cl b7 b5 b8) ++ ((ci (IntKind.i64.wrap (a7 - 1))) ++ (cb a8)))) []))) ?_
  refine WL.mv rfl ?_
  refine WL.v (Runs.build_seg (ps := [(0, 1), (1, 1)]) (cs := ((ci 2) ++ (ci a1))) plc48 zero48 rfl (.cons (ms := ((ci 2))) rfl rfl rfl (.one rfl rfl)) rfl rfl) ?_
  obtain ⟨s4, s5, p3, p4, p5, p6⟩ := slr48_1
  refine WL.buildSlSg (sz := 2) (cs := ((ci 2) ++ (ci a1))) g7 Tryd.underlying43 p3 p4 p5 (by decide) (by decide) p6 rfl (.one rfl rfl) rfl rfl ?_
  intro g8 l5 j3
  replace j3 : St w l5 (.cells g8 ((ci 2) ++ (ci a1)) 48 :: .sl (sp d2) 1 1 c9 124 2 :: oD b0 a0 a2 a3 b7 b5 b8 (IntKind.i64.wrap (a7 - 1)) a8 a5 a4 a6 95 :: .sl a0 a3 a2 b3 25 1 :: .sl b7 b8 b5 d3 124 2 :: .sl a5 a6 a4 b4 48 2 :: (c3 ++ R)) := j3
  have g9 := St.rows_sl (i := 0) (m := 1) (size := 2) j3 rfl rfl (by decide)
  obtain ⟨e4, l6⟩ : ∃ x_ : Cs, x_ = (ci 2) ++ (ci a1) := ⟨_, rfl⟩
  have j4 : HRs c3 (f48 w) e4 ([(2, a1)] : List R48) := by rw [l6]; exact (HRs.one (.cons rfl (.cons rfl .nil)))
  replace g9 : St w l5 (.sl (sp g8) 1 1 e4 48 2 :: .sl (sp d2) 1 1 c9 124 2 :: oD b0 a0 a2 a3 b7 b5 b8 (IntKind.i64.wrap (a7 - 1)) a8 a5 a4 a6 95 :: .sl a0 a3 a2 b3 25 1 :: .sl b7 b8 b5 d3 124 2 :: .sl a5 a6 a4 b4 48 2 :: (c3 ++ R)) := by rw [l6]; exact g9
  obtain ⟨l7, l8, H⟩ := H
  obtain ⟨p7, H⟩ := H
  obtain ⟨e5, j5⟩ : ∃ n_ : Nat, n_ = l7.length := ⟨_, rfl⟩
  refine WL.appendR (i := 5) (N := e5) (news := e4) Wanted.none g9 rfl Tryd.underlying43 elemS48 rfl rfl (g9.src_sl (k := 0) rfl) (by have h1_ := (j4).length (fz48 w); have h2_ : 1 = ([(2, a1)] : List R48).length := rfl; rw [h1_, h2_]) (HLs.one j4) (by decide) (by have h1_ : a4 = i0.length := g3; have h2_ : 1 = ([(2, a1)] : List R48).length := rfl; rw [j5, l8, List.length_append]; omega) (by rw [j5]; exact p7) ?_
  intro f4 f5 p8 j6
  obtain ⟨h0, l9⟩ : ∃ x_ : Cs, x_ = b4 ++ e4 := ⟨_, rfl⟩
  have p9 : HRs c3 (f48 w) h0 l7 := by rw [l9, l8]; exact HRs.append (g4.mono (fun _ h_ => e3.1 _ h_)) j4
  replace j6 : St w p8 (.sl (sp g8) 1 1 e4 48 2 :: .sl (sp d2) 1 1 c9 124 2 :: oD b0 a0 a2 a3 b7 b5 b8 (IntKind.i64.wrap (a7 - 1)) a8 a5 a4 a6 95 :: .sl a0 a3 a2 b3 25 1 :: .sl b7 b8 b5 d3 124 2 :: .sl f4 f5 e5 h0 48 2 :: (c3 ++ R)) := by rw [l9]; exact j6
  refine WL.v (Runs.nilCheck rfl) ?_
  refine WL.v (Runs.fieldAddr (off := 4) (p := 4) fld95_4 rfl rfl rfl) ?_
  refine WL.so (new := ((cl a0 a2 a3) ++ ((cl b7 b5 b8) ++ ((ci (IntKind.i64.wrap (a7 - 1))) ++ ((cb a8) ++ (cl f4 e5 f5)))))) (i := 2) (u0 := .slice a5 a4 a6) (pre := ((cl a0 a2 a3) ++ ((cl b7 b5 b8) ++ ((ci (IntKind.i64.wrap (a7 - 1))) ++ (cb a8))))) (post := (([] : Cs))) j6 rfl cells43 (by first | rfl | simp only [aa, an, na, ca]) rfl rfl rfl rfl rfl ?_
  intro q0 j7
  try dsimp only [List.set] at j7
  refine wn ?_
  refine CW.sub [(6, .int .i64 0)] ⟨rfl, trivial⟩ ?_
  refine cr (WL.as rfl (wn (CW.ret ?_)))
  obtain ⟨rfl, rfl, rfl, rfl, rfl, rfl⟩ := H
  exact QW.ret1 rfl rfl ⟨c3, a0, a2, a3, b3, b7, b5, b8, d3, f4, e5, f5, h0, (d9.trans e3), f9, (g0.mono (fun _ h_ => e3.1 _ h_)), j2, p1, j5, p9, rfl, (St.pickT (L := [_, _, _, _, _, _]) j7 [2, 3, 4, 5] (by decide))⟩
 have i7 : (decide (a7 > 0)) = false := (decide_eq_false i6)
 refine CW.cf rfl i7 ?_
 refine CW.skip (QW.then_n ?_)
 refine CW.sub [(0, .pointer (sp b0)), (1, .int .i64 a1), (2, .slice A2 n2 c2), (6, .int .i64 0)] ⟨rfl, rfl, rfl, rfl, trivial⟩ ?_
 refine CW.seq ?_
 refine CW.region_awh (C := fun w_ => St w w_ (oD b0 a0 a2 a3 b1 a9 b2 a7 a8 a5 a4 a6 95 :: .sl a0 a3 a2 b3 25 1 :: .sl a5 a6 a4 b4 48 2 :: (c5 ++ R))) 11 wide (by kernel_rfl) d6 (fun m0 d0 => ?_)
 have c7 : St w m0 (oD b0 a0 a2 a3 b1 a9 b2 a7 a8 a5 a4 a6 95 :: .sl a0 a3 a2 b3 25 1 :: .sl a5 a6 a4 b4 48 2 :: (c5 ++ R)) := (St.pickT (L := [_, _, _, _]) d0 [0, 1, 3] (by decide))
 refine AWH.kn (St.subset c7 d0 (mc 0 rfl (mc 1 rfl (mc 3 rfl (mem_TR (A := [_, _, _, _]) (fun _ h_ => h_)))))) fun zC3 => ?_
 refine AWH.tk 0 rfl zC3 (fun wq sq => (Runs.move rfl)) ?_
 refine AWH.tk 1 rfl zC3 (fun wq sq => (Runs.move rfl)) ?_
 refine AWH.tk 2 rfl zC3 (fun wq sq => (Runs.nilCheck rfl)) ?_
 refine AWH.tk 3 rfl zC3 (fun wq sq => (Runs.fieldAddr (off := 1) (p := 1) fld95_1 rfl rfl rfl)) ?_
 refine AWH.tk 4 rfl zC3 (fun wq sq => (Runs.load nagg93 rfl (sq.cell (k := 0) rfl (pa (.slice b1 a9 b2) (cl a0 a2 a3) ((ci a7) ++ ((cb a8) ++ (cl a5 a4 a6))))))) ?_
 refine AWH.tk 5 rfl zC3 (fun wq sq => (Runs.move rfl)) ?_
 refine AWH.tk 6 rfl zC3 (fun wq sq => (Runs.move rfl)) ?_
 refine AWH.step 7 rfl (by decide) (by kernel_rfl) (fun inv_ hs_ hk_ hc_ hn_ => ?_)
 obtain ⟨d8, q1, H⟩ := H
 refine WL.call Wanted.none ent48 rfl (slices_Clone_s_byte_byte.calls m0 l2 A2 n2 c2 ((hb2.2.2.at d0 (mem_TR (A := [_, _, _, _]) (fun _ h_ => d9.1 _ h_)))) (hb2.1) (hb2.2.1) d8 q1) ?_
 rintro _ m1 ⟨e6, e7, e8, q2, rfl, q3⟩
 have h1 := d0.call q3
 refine ⟨_, rfl, ?_⟩
 refine WL.nil ?_
 refine AWH.back (St.subset c7 h1 (mc 1 rfl (mc 2 rfl (mc 4 rfl (mem_TR (A := [_, _, _, _, _]) (fun _ h_ => h_)))))) inv_ hs_ hk_ hc_ hn_ ?_
 refine AWH.tk 8 rfl (St.subset c7 h1 (mc 1 rfl (mc 2 rfl (mc 4 rfl (mem_TR (A := [_, _, _, _, _]) (fun _ h_ => h_)))))) (fun wq sq => (Runs.build_seg (ps := [(0, 1), (1, 1)]) (cs := ((ci a1) ++ (cl e6 e8 e7))) plc124 zero124 rfl (.cons (ms := ((ci a1))) rfl rfl rfl (.one rfl rfl)) rfl rfl)) ?_
 refine AWH.step 9 rfl (by decide) (by kernel_rfl) (fun inv_ hs_ hk_ hc_ hn_ => ?_)
 have hb_121c := h1.cap (i := 0) rfl
 obtain ⟨c4, e9, q4, j8⟩ := St.freeze (A := []) (B := [_, _, _, _]) (T := c5) (R := R) h1
 have q5 : HB w c4 e6 e8 e7 (iv .u8 d8) d8.length := ⟨q2, hb_121c, Hd.of_sl q4⟩
 replace j8 : St w m1 (oD b0 a0 a2 a3 b1 a9 b2 a7 a8 a5 a4 a6 95 :: .sl a0 a3 a2 b3 25 1 :: .sl b1 b2 a9 c1 124 2 :: .sl a5 a6 a4 b4 48 2 :: (c4 ++ R)) := j8
 obtain ⟨s6, s7, q6, q7, q8, q9⟩ := slr124_1
 refine WL.buildSlSg (sz := 2) (cs := ((ci a1) ++ (cl e6 e8 e7))) j8 Tryd.underlying93 q6 q7 q8 (by decide) (by decide) q9 rfl (.one rfl rfl) rfl rfl ?_
 intro d4 m2 j9
 replace j9 : St w m2 (.cells d4 ((ci a1) ++ (cl e6 e8 e7)) 124 :: oD b0 a0 a2 a3 b1 a9 b2 a7 a8 a5 a4 a6 95 :: .sl a0 a3 a2 b3 25 1 :: .sl b1 b2 a9 c1 124 2 :: .sl a5 a6 a4 b4 48 2 :: (c4 ++ R)) := j9
 have f6 := St.rows_sl (i := 0) (m := 1) (size := 2) j9 rfl rfl (by decide)
 obtain ⟨d1, m3⟩ : ∃ x_ : Cs, x_ = (ci a1) ++ (cl e6 e8 e7) := ⟨_, rfl⟩
 have k0 : HRs c4 (f124 w) d1 ([(a1, d8)] : List R124) := by rw [m3]; exact (HRs.one (.cons rfl (.cons ⟨_, _, _, rfl, q5⟩ .nil)))
 replace f6 : St w m2 (.sl (sp d4) 1 1 d1 124 2 :: oD b0 a0 a2 a3 b1 a9 b2 a7 a8 a5 a4 a6 95 :: .sl a0 a3 a2 b3 25 1 :: .sl b1 b2 a9 c1 124 2 :: .sl a5 a6 a4 b4 48 2 :: (c4 ++ R)) := by rw [m3]; exact f6
 refine WL.nil ?_
 refine AWH.back (St.subset c7 f6 (mc 1 rfl (mc 2 rfl (mc 4 rfl (mem_TR (A := [_, _, _, _, _]) (fun _ h_ => e9.1 _ h_)))))) inv_ hs_ hk_ hc_ hn_ ?_
 refine AWH.step 10 rfl (by decide) (by kernel_rfl) (fun inv_ hs_ hk_ hc_ hn_ => ?_)
 obtain ⟨m4, m5, H⟩ := H
 obtain ⟨r0, H⟩ := H
 obtain ⟨b6, k1⟩ : ∃ n_ : Nat, n_ = m4.length := ⟨_, rfl⟩
 refine WL.appendR (i := 3) (N := b6) (news := d1) Wanted.none f6 rfl Tryd.underlying93 elemS124 rfl rfl (f6.src_sl (k := 0) rfl) (by have h1_ := (k0).length (fz124 w); have h2_ : 1 = ([(a1, d8)] : List R124).length := rfl; rw [h1_, h2_]) (HLs.one k0) (by decide) (by have h1_ : a9 = h9.length := g1; have h2_ : 1 = ([(a1, d8)] : List R124).length := rfl; rw [k1, m5, List.length_append]; omega) (by rw [k1]; exact r0) ?_
 intro b9 c0 r1 h2
 obtain ⟨d5, m6⟩ : ∃ x_ : Cs, x_ = c1 ++ d1 := ⟨_, rfl⟩
 have r2 : HRs c4 (f124 w) d5 m4 := by rw [m6, m5]; exact HRs.append (g2.mono (fun _ h_ => e9.1 _ h_)) k0
 replace h2 : St w r1 (.sl (sp d4) 1 1 d1 124 2 :: oD b0 a0 a2 a3 b1 a9 b2 a7 a8 a5 a4 a6 95 :: .sl a0 a3 a2 b3 25 1 :: .sl b9 c0 b6 d5 124 2 :: .sl a5 a6 a4 b4 48 2 :: (c4 ++ R)) := by rw [m6]; exact h2
 refine WL.nil ?_
 refine AWH.back (St.subset c7 h2 (mc 1 rfl (mc 2 rfl (mc 4 rfl (mem_TR (A := [_, _, _, _, _]) (fun _ h_ => e9.1 _ h_)))))) inv_ hs_ hk_ hc_ hn_ ?_
 refine AWH.tail (by kernel_rfl) ?_
 refine AW.tk 11 rfl (fun _ => (Runs.nilCheck rfl)) ?_
 refine AW.tk 12 rfl (fun _ => (Runs.fieldAddr (off := 1) (p := 1) fld95_1 rfl rfl rfl)) ?_
 refine AW.step 13 rfl (by kernel_rfl) ?_
 refine WL.so (new := ((cl a0 a2 a3) ++ ((cl b9 b6 c0) ++ ((ci a7) ++ ((cb a8) ++ (cl a5 a4 a6)))))) (i := 1) (u0 := .slice b1 a9 b2) (pre := ((cl a0 a2 a3))) (post := ((ci a7) ++ ((cb a8) ++ (cl a5 a4 a6)))) h2 rfl cells93 (by first | rfl | simp only [aa, an, na, ca]) rfl rfl rfl rfl rfl ?_
 intro r3 h3
 try dsimp only [List.set] at h3
 refine WL.nil ?_
 refine AW.back  ?_
 refine AW.done (by kernel_rfl) ?_
 refine QW.then_n ?_
 refine CW.sub [(0, .pointer (sp b0)), (1, .int .i64 a1), (6, .int .i64 0)] ⟨rfl, rfl, rfl, trivial⟩ ?_
 refine cr (WL.mv rfl (WL.mv rfl ?_))
 refine WL.v (Runs.nilCheck rfl) ?_
 refine WL.v (Runs.fieldAddr (off := 4) (p := 4) fld95_4 rfl rfl rfl) ?_
 refine WL.v (Runs.load nagg43 rfl (h3.cell (k := 1) rfl (pa (.slice a5 a4 a6) ((cl a0 a2 a3) ++ ((cl b9 b6 c0) ++ ((ci a7) ++ (cb a8)))) []))) ?_
 refine WL.mv rfl ?_
 refine WL.v (Runs.build_seg (ps := [(0, 1), (1, 1)]) (cs := ((ci 2) ++ (ci a1))) plc48 zero48 rfl (.cons (ms := ((ci 2))) rfl rfl rfl (.one rfl rfl)) rfl rfl) ?_
 obtain ⟨s8, s9, r4, r5, r6, r7⟩ := slr48_1
 refine WL.buildSlSg (sz := 2) (cs := ((ci 2) ++ (ci a1))) h3 Tryd.underlying43 r4 r5 r6 (by decide) (by decide) r7 rfl (.one rfl rfl) rfl rfl ?_
 intro h4 m7 k2
 replace k2 : St w m7 (.cells h4 ((ci 2) ++ (ci a1)) 48 :: .sl (sp d4) 1 1 d1 124 2 :: oD b0 a0 a2 a3 b9 b6 c0 a7 a8 a5 a4 a6 95 :: .sl a0 a3 a2 b3 25 1 :: .sl b9 c0 b6 d5 124 2 :: .sl a5 a6 a4 b4 48 2 :: (c4 ++ R)) := k2
 have h5 := St.rows_sl (i := 0) (m := 1) (size := 2) k2 rfl rfl (by decide)
 obtain ⟨f0, m8⟩ : ∃ x_ : Cs, x_ = (ci 2) ++ (ci a1) := ⟨_, rfl⟩
 have k3 : HRs c4 (f48 w) f0 ([(2, a1)] : List R48) := by rw [m8]; exact (HRs.one (.cons rfl (.cons rfl .nil)))
 replace h5 : St w m7 (.sl (sp h4) 1 1 f0 48 2 :: .sl (sp d4) 1 1 d1 124 2 :: oD b0 a0 a2 a3 b9 b6 c0 a7 a8 a5 a4 a6 95 :: .sl a0 a3 a2 b3 25 1 :: .sl b9 c0 b6 d5 124 2 :: .sl a5 a6 a4 b4 48 2 :: (c4 ++ R)) := by rw [m8]; exact h5
 obtain ⟨m9, n0, H⟩ := H
 obtain ⟨r8, H⟩ := H
 obtain ⟨f1, k4⟩ : ∃ n_ : Nat, n_ = m9.length := ⟨_, rfl⟩
 refine WL.appendR (i := 5) (N := f1) (news := f0) Wanted.none h5 rfl Tryd.underlying43 elemS48 rfl rfl (h5.src_sl (k := 0) rfl) (by have h1_ := (k3).length (fz48 w); have h2_ : 1 = ([(2, a1)] : List R48).length := rfl; rw [h1_, h2_]) (HLs.one k3) (by decide) (by have h1_ : a4 = i0.length := g3; have h2_ : 1 = ([(2, a1)] : List R48).length := rfl; rw [k4, n0, List.length_append]; omega) (by rw [k4]; exact r8) ?_
 intro f7 f8 r9 k5
 obtain ⟨h6, n1⟩ : ∃ x_ : Cs, x_ = b4 ++ f0 := ⟨_, rfl⟩
 have s0 : HRs c4 (f48 w) h6 m9 := by rw [n1, n0]; exact HRs.append (g4.mono (fun _ h_ => e9.1 _ h_)) k3
 replace k5 : St w r9 (.sl (sp h4) 1 1 f0 48 2 :: .sl (sp d4) 1 1 d1 124 2 :: oD b0 a0 a2 a3 b9 b6 c0 a7 a8 a5 a4 a6 95 :: .sl a0 a3 a2 b3 25 1 :: .sl b9 c0 b6 d5 124 2 :: .sl f7 f8 f1 h6 48 2 :: (c4 ++ R)) := by rw [n1]; exact k5
 refine WL.v (Runs.nilCheck rfl) ?_
 refine WL.v (Runs.fieldAddr (off := 4) (p := 4) fld95_4 rfl rfl rfl) ?_
 refine WL.so (new := ((cl a0 a2 a3) ++ ((cl b9 b6 c0) ++ ((ci a7) ++ ((cb a8) ++ (cl f7 f1 f8)))))) (i := 2) (u0 := .slice a5 a4 a6) (pre := ((cl a0 a2 a3) ++ ((cl b9 b6 c0) ++ ((ci a7) ++ (cb a8))))) (post := (([] : Cs))) k5 rfl cells43 (by first | rfl | simp only [aa, an, na, ca]) rfl rfl rfl rfl rfl ?_
 intro s1 k6
 try dsimp only [List.set] at k6
 refine wn ?_
 refine CW.sub [(6, .int .i64 0)] ⟨rfl, trivial⟩ ?_
 refine cr (WL.as rfl (wn (CW.ret ?_)))
 obtain ⟨rfl, rfl, rfl, rfl, rfl, rfl⟩ := H
 exact QW.ret1 rfl rfl ⟨c4, a0, a2, a3, b3, b9, b6, c0, d5, f7, f1, f8, h6, (d9.trans e9), f9, (g0.mono (fun _ h_ => e9.1 _ h_)), k1, r2, k4, s0, rfl, (St.pickT (L := [_, _, _, _, _, _]) k6 [2, 3, 4, 5] (by decide))⟩
/-! ### journal_Journal_Append_1: function 39 -/
def journal_Journal_Append_1.rel (a0_0 : Int) (l0_1 : List Int) (a0_2 : Bool) (l1_0_0 : List R25) (l1_0_1 : List R124) (a1_0_2 : Int) (a1_0_3 : Bool) (l1_0_4 : List R48) (l1_1 : List Int) (a1_2 : Int) (a1_3 : Int) (a1_4 : Int) (a1_5 : Int) (l1_6 : List Int) (a1_7 : Int) (a1_8 : Int) (a2_0 : Int) (a2_1 : Int) (l2_2 : List Int) (ls1_0_0 : List R25) (ls1_0_1 : List R124) (as1_0_2 : Int) (as1_0_3 : Bool) (ls1_0_4 : List R48) (ls1_1 : List Int) (as1_2 : Int) (as1_3 : Int) (as1_4 : Int) (as1_5 : Int) (ls1_6 : List Int) (as1_7 : Int) (as1_8 : Int) (as2_0 : Int) (as2_1 : Int) (ls2_2 : List Int) (ar0 : Int) : Prop := (a1_3 ≠ 0 ∧ (∃ a0 : Int, a0 = IntKind.i64.wrap (Int.tmod (IntKind.u64.wrap (a2_0 + a2_1)) a1_3) ∧ (∃ (a4 : List Int) (a1 : Int), record_Put.rel a0_0 l0_1 a0_2 a4 a1 ∧ ((a1 ≠ 0 ∧ ls1_0_0 = l1_0_0 ∧ ls1_0_1 = l1_0_1 ∧ as1_0_2 = a1_0_2 ∧ as1_0_3 = a1_0_3 ∧ ls1_0_4 = l1_0_4 ∧ ls1_1 = l1_1 ∧ as1_2 = a1_2 ∧ as1_3 = a1_3 ∧ as1_4 = a1_4 ∧ as1_5 = a1_5 ∧ ls1_6 = l1_6 ∧ as1_7 = a1_7 ∧ as1_8 = a1_8 ∧ as2_0 = a2_0 ∧ as2_1 = a2_1 ∧ ls2_2 = l2_2 ∧ ar0 = a1) ∨ (¬ (a1 ≠ 0) ∧ (∃ (a3 : List Int) (a2 : Int), seal_Seal.rel l1_1 (IntKind.u32.wrap (IntKind.i64.wrap (a1_2 + a0))) a1_7 a4 a3 a2 ∧ ((a2 ≠ 0 ∧ ls1_0_0 = l1_0_0 ∧ ls1_0_1 = l1_0_1 ∧ as1_0_2 = a1_0_2 ∧ as1_0_3 = a1_0_3 ∧ ls1_0_4 = l1_0_4 ∧ ls1_1 = l1_1 ∧ as1_2 = a1_2 ∧ as1_3 = a1_3 ∧ as1_4 = a1_4 ∧ as1_5 = a1_5 ∧ ls1_6 = l1_6 ∧ as1_7 = a1_7 ∧ as1_8 = a1_8 ∧ as2_0 = a2_0 ∧ as2_1 = a2_1 ∧ ls2_2 = l2_2 ∧ ar0 = a2) ∨ (¬ (a2 ≠ 0) ∧ (∃ (a5 : List Int), journal_Link.rel l2_2 (IntKind.u32.wrap (IntKind.i64.wrap (a1_2 + a0))) a3 a5 ∧ (∃ (a6 : List R25) (a7 : List R124) (a8 : Int) (a9 : Bool) (b0 : List R48) (b1 : Int), disk_Disk_Write.rel l1_0_0 l1_0_1 a1_0_2 a1_0_3 l1_0_4 (IntKind.i64.wrap (a1_2 + a0)) a3 a6 a7 a8 a9 b0 b1 ∧ ls1_0_0 = a6 ∧ ls1_0_1 = a7 ∧ as1_0_2 = a8 ∧ as1_0_3 = a9 ∧ ls1_0_4 = b0 ∧ ls1_1 = l1_1 ∧ as1_2 = a1_2 ∧ as1_3 = a1_3 ∧ as1_4 = a1_4 ∧ as1_5 = a1_5 ∧ ls1_6 = l1_6 ∧ as1_7 = IntKind.u64.wrap (a1_7 + 1) ∧ as1_8 = a1_8 ∧ as2_0 = a2_0 ∧ as2_1 = IntKind.u64.wrap (a2_1 + 1) ∧ ls2_2 = a5 ∧ ar0 = b1))))))))))
set_option maxHeartbeats 1000000 in
theorem journal_Journal_Append_1.calls (w w1 : World) (T R : Pool) (a0_0 : Int) (l0_1 : List Int) (a0_2 : Bool) (l1_0_0 : List R25) (l1_0_1 : List R124) (a1_0_2 : Int) (a1_0_3 : Bool) (l1_0_4 : List R48) (l1_1 : List Int) (a1_2 : Int) (a1_3 : Int) (a1_4 : Int) (a1_5 : Int) (l1_6 : List Int) (a1_7 : Int) (a1_8 : Int) (a2_0 : Int) (a2_1 : Int) (l2_2 : List Int) (A0_1 : Option Addr) (n0_1 : Nat) (c0_1 : Nat) (bb1 : Nat) (b1 : Nat) (b1_0 : Nat) (A1_0_0 : Option Addr) (n1_0_0 : Nat) (c1_0_0 : Nat) (x1_0_0 : Cs) (A1_0_1 : Option Addr) (n1_0_1 : Nat) (c1_0_1 : Nat) (x1_0_1 : Cs) (A1_0_4 : Option Addr) (n1_0_4 : Nat) (c1_0_4 : Nat) (x1_0_4 : Cs) (b2 : Nat) (st0 : St w w1 (oJ b1 b1_0 l1_1 a1_2 a1_3 a1_4 a1_5 l1_6 a1_7 a1_8 98 :: oD b1_0 A1_0_0 n1_0_0 c1_0_0 A1_0_1 n1_0_1 c1_0_1 a1_0_2 a1_0_3 A1_0_4 n1_0_4 c1_0_4 95 :: .sl A1_0_0 c1_0_0 n1_0_0 x1_0_0 25 1 :: .sl A1_0_1 c1_0_1 n1_0_1 x1_0_1 124 2 :: .sl A1_0_4 c1_0_4 n1_0_4 x1_0_4 48 2 :: oS b2 a2_0 a2_1 l2_2 39 :: (T ++ R))) (hG0 : Src w (sp 0) (iv .u32 tab0)) (hG1 : Src w (sp 1) (iv .i64 tab1)) (hb0_1 : HB w T A0_1 n0_1 c0_1 (iv .u8 l0_1) l0_1.length) (hn1_0_0 : n1_0_0 = l1_0_0.length) (hx1_0_0 : HRs T (f25 w) x1_0_0 l1_0_0) (hn1_0_1 : n1_0_1 = l1_0_1.length) (hx1_0_1 : HRs T (f124 w) x1_0_1 l1_0_1) (hn1_0_4 : n1_0_4 = l1_0_4.length) (hx1_0_4 : HRs T (f48 w) x1_0_4 l1_0_4) (hl1_1 : l1_1.length = 32) (hl1_6 : l1_6.length = 32) (hcell1 : Hd w (T ++ R) fun W_ => W_.cell? ⟨bb1, 0, none⟩ = some (.pointer (sp b1))) (hl2_2 : l2_2.length = 32) (ls1_0_0 : List R25) (ls1_0_1 : List R124) (as1_0_2 : Int) (as1_0_3 : Bool) (ls1_0_4 : List R48) (ls1_1 : List Int) (as1_2 : Int) (as1_3 : Int) (as1_4 : Int) (as1_5 : Int) (ls1_6 : List Int) (as1_7 : Int) (as1_8 : Int) (as2_0 : Int) (as2_1 : Int) (ls2_2 : List Int) (ar0 : Int) (H : journal_Journal_Append_1.rel a0_0 l0_1 a0_2 l1_0_0 l1_0_1 a1_0_2 a1_0_3 l1_0_4 l1_1 a1_2 a1_3 a1_4 a1_5 l1_6 a1_7 a1_8 a2_0 a2_1 l2_2 ls1_0_0 ls1_0_1 as1_0_2 as1_0_3 ls1_0_4 ls1_1 as1_2 as1_3 as1_4 as1_5 ls1_6 as1_7 as1_8 as2_0 as2_1 ls2_2 ar0) :
  Calls Tryd.prog 39 #[.agg ((cu a0_0) ++ ((cl A0_1 n0_1 c0_1) ++ (cb a0_2))).toArray, .pointer (sp bb1), .pointer (sp b2)] w1 fun e w' => ∃ T' As1_0_0 ns1_0_0 cs1_0_0 xs1_0_0 As1_0_1 ns1_0_1 cs1_0_1 xs1_0_1 As1_0_4 ns1_0_4 cs1_0_4 xs1_0_4, Pl T T' ∧ ns1_0_0 = ls1_0_0.length ∧ HRs T' (f25 w) xs1_0_0 ls1_0_0 ∧ ns1_0_1 = ls1_0_1.length ∧ HRs T' (f124 w) xs1_0_1 ls1_0_1 ∧ ns1_0_4 = ls1_0_4.length ∧ HRs T' (f48 w) xs1_0_4 ls1_0_4 ∧ ls1_1.length = 32 ∧ ls1_6.length = 32 ∧ ls2_2.length = 32 ∧ e = .returned (.int .i64 ar0) ∧ St w w' (oJ b1 b1_0 ls1_1 as1_2 as1_3 as1_4 as1_5 ls1_6 as1_7 as1_8 98 :: oD b1_0 As1_0_0 ns1_0_0 cs1_0_0 As1_0_1 ns1_0_1 cs1_0_1 as1_0_2 as1_0_3 As1_0_4 ns1_0_4 cs1_0_4 95 :: .sl As1_0_0 cs1_0_0 ns1_0_0 xs1_0_0 25 1 :: .sl As1_0_1 cs1_0_1 ns1_0_1 xs1_0_1 124 2 :: .sl As1_0_4 cs1_0_4 ns1_0_4 xs1_0_4 48 2 :: oS b2 as2_0 as2_1 ls2_2 39 :: (T' ++ R)) := by
 refine CW.enter Tryd.func39 rfl (n := 76) rfl [.agg ((cu a0_0) ++ ((cl A0_1 n0_1 c0_1) ++ (cb a0_2))).toArray, .pointer (sp bb1), .pointer (sp b2)] (Nat.le_of_ble_eq_true rfl) ?_
 refine CW.sub [(0, .agg ((cu a0_0) ++ ((cl A0_1 n0_1 c0_1) ++ (cb a0_2))).toArray), (1, .pointer (sp bb1)), (2, .pointer (sp b2))] ⟨rfl, rfl, rfl, trivial⟩ ?_
 refine cr ?_
 refine WL.box st0 rfl rfl ?_
 intro a2 i2 f0
 refine WL.as rfl (wn (CW.seq ?_))
 refine CW.region_qa wide (by kernel_rfl) f0 ?_
 refine HL.v (fun wq sq => (Runs.load nagg34 rfl (hcell1.at sq (mem_TR (A := [_, _, _, _, _, _, _]) (fun _ h_ => h_))))) ?_
 refine HL.v (fun wq sq => (Runs.nilCheck rfl)) ?_
 refine HL.v (fun wq sq => (Runs.fieldAddr (off := 33) (p := 33) fld98_2 rfl rfl rfl)) ?_
 refine HL.v (fun wq sq => (Runs.load nagg3 rfl (sq.cell (k := 1) rfl (pa (.int .i64 a1_2) ((cp b1_0) ++ iv .u8 l1_1) ((cu a1_3) ++ ((cu a1_4) ++ ((cu a1_5) ++ (iv .u8 l1_6 ++ ((cu a1_7) ++ (cu a1_8)))))) (ho := by first | rfl | simp only [la, lc, ln, lv, hl1_1]))))) ?_
 refine HL.v (fun wq sq => (Runs.fieldAddr (off := 0) (p := 0) fld39_0 rfl rfl rfl)) ?_
 refine HL.v (fun wq sq => (Runs.load nagg37 rfl (sq.cell (k := 6) rfl (pa (.int .u64 a2_0) [] ((cu a2_1) ++ iv .u8 l2_2))))) ?_
 refine HL.v (fun wq sq => (Runs.fieldAddr (off := 1) (p := 1) fld39_1 rfl rfl rfl)) ?_
 refine HL.v (fun wq sq => (Runs.load nagg37 rfl (sq.cell (k := 6) rfl (pa (.int .u64 a2_1) (cu a2_0) (iv .u8 l2_2))))) ?_
 refine HL.v (fun wq sq => (Runs.add rfl rfl rfl)) ?_
 refine HL.v (fun wq sq => (Runs.load nagg34 rfl (hcell1.at sq (mem_TR (A := [_, _, _, _, _, _, _]) (fun _ h_ => h_))))) ?_
 refine HL.v (fun wq sq => (Runs.nilCheck rfl)) ?_
 refine HL.v (fun wq sq => (Runs.fieldAddr (off := 34) (p := 34) fld98_3 rfl rfl rfl)) ?_
 refine HL.v (fun wq sq => (Runs.load nagg37 rfl (sq.cell (k := 1) rfl (pa (.int .u64 a1_3) ((cp b1_0) ++ (iv .u8 l1_1 ++ (ci a1_2))) ((cu a1_4) ++ ((cu a1_5) ++ (iv .u8 l1_6 ++ ((cu a1_7) ++ (cu a1_8))))) (ho := by first | rfl | simp only [la, lc, ln, lv, hl1_1]))))) ?_
 obtain ⟨f1, H⟩ := H
 refine HL.v (fun wq sq => (Runs.rem rfl rfl f1 rfl)) ?_
 obtain ⟨b5, f2, H⟩ := H
 refine HL.v (fun wq sq => (Runs.conv Tryd.underlying3 ⟨_, Tryd.underlying37⟩ rfl f2)) ?_
 refine HL.v (fun wq sq => (Runs.add rfl rfl rfl)) ?_
 refine HL.as rfl ?_
 refine HL.nil (fun d8 d9 => ?_)
 refine wn ?_
 refine CW.sub [(1, .pointer (sp bb1)), (2, .pointer (sp b2)), (3, .pointer (sp a2)), (4, .int .i64 0), (5, .int .i64 (IntKind.i64.wrap (a1_2 + b5)))] ⟨rfl, rfl, rfl, rfl, rfl, trivial⟩ ?_
 refine cr ?_
 refine WL.v (Runs.load_mid row104 rfl d9 (i := 0) rfl (pm [] ((cu a0_0) ++ ((cl A0_1 n0_1 c0_1) ++ (cb a0_2))) []) rfl) ?_
 have f3 := St.hide (A := []) (B := [_, _, _, _, _, _, _]) (T := T) (R := R) d9
 obtain ⟨a7, b9, f4, H⟩ := H
 refine WL.call Wanted.none ent40 rfl (record_Put.calls w d8 T (.cells a2 ((cu a0_0) ++ ((cl A0_1 n0_1 c0_1) ++ (cb a0_2))) 104 :: oJ b1 b1_0 l1_1 a1_2 a1_3 a1_4 a1_5 l1_6 a1_7 a1_8 98 :: oD b1_0 A1_0_0 n1_0_0 c1_0_0 A1_0_1 n1_0_1 c1_0_1 a1_0_2 a1_0_3 A1_0_4 n1_0_4 c1_0_4 95 :: .sl A1_0_0 c1_0_0 n1_0_0 x1_0_0 25 1 :: .sl A1_0_1 c1_0_1 n1_0_1 x1_0_1 124 2 :: .sl A1_0_4 c1_0_4 n1_0_4 x1_0_4 48 2 :: oS b2 a2_0 a2_1 l2_2 39 :: R) a0_0 l0_1 a0_2 A0_1 n0_1 c0_1  f3 hb0_1 a7 b9 f4) ?_
 rintro _ f5 ⟨a3, a8, a9, b0, a1, f6, rfl, f7⟩
 have e0 : St w f5 (.sl a8 b0 a9 (iv .u8 a7) 5 1 :: .cells a2 ((cu a0_0) ++ ((cl A0_1 n0_1 c0_1) ++ (cb a0_2))) 104 :: oJ b1 b1_0 l1_1 a1_2 a1_3 a1_4 a1_5 l1_6 a1_7 a1_8 98 :: oD b1_0 A1_0_0 n1_0_0 c1_0_0 A1_0_1 n1_0_1 c1_0_1 a1_0_2 a1_0_3 A1_0_4 n1_0_4 c1_0_4 95 :: .sl A1_0_0 c1_0_0 n1_0_0 x1_0_0 25 1 :: .sl A1_0_1 c1_0_1 n1_0_1 x1_0_1 124 2 :: .sl A1_0_4 c1_0_4 n1_0_4 x1_0_4 48 2 :: oS b2 a2_0 a2_1 l2_2 39 :: (a3 ++ R)) := St.unhide (A := [_]) (B := [_, _, _, _, _, _, _]) (T := a3) (R := R) f7
 refine ⟨_, rfl, ?_⟩
 refine WL.mv rfl ?_
 refine WL.v (Runs.extract rfl rfl) ?_
 refine WL.v (Runs.extract rfl rfl) ?_
 refine WL.as rfl (WL.as rfl (wn ?_))
 refine CW.sub [(1, .pointer (sp bb1)), (2, .pointer (sp b2)), (4, .int .i64 0), (5, .int .i64 (IntKind.i64.wrap (a1_2 + b5))), (6, .slice a8 a9 b0), (7, .int .i64 b9)] (by repeat' constructor) ?_
 refine CW.seq (cr (WL.mv rfl ?_))
 refine WL.v (Runs.neq rfl rfl rfl) ?_
 refine wn ?_
 rcases H with ⟨c4, H⟩ | ⟨c4, H⟩
 ·have c5 : (b9 != 0) = true := (bne_iff_ne.mpr c4)
  refine CW.ct rfl c5 ?_
  refine cr (WL.mv rfl (WL.as rfl (wn (CW.ret (QW.then_r ?_)))))
  obtain ⟨rfl, rfl, rfl, rfl, rfl, rfl, rfl, rfl, rfl, rfl, rfl, rfl, rfl, rfl, rfl, rfl, rfl⟩ := H
  exact QW.ret1 rfl rfl ⟨a3, A1_0_0, n1_0_0, c1_0_0, x1_0_0, A1_0_1, n1_0_1, c1_0_1, x1_0_1, A1_0_4, n1_0_4, c1_0_4, x1_0_4, a1, hn1_0_0, (hx1_0_0.mono (fun _ h_ => a1.1 _ h_)), hn1_0_1, (hx1_0_1.mono (fun _ h_ => a1.1 _ h_)), hn1_0_4, (hx1_0_4.mono (fun _ h_ => a1.1 _ h_)), hl1_1, hl1_6, hl2_2, rfl, (St.pickT (L := [_, _, _, _, _, _, _, _]) e0 [2, 3, 4, 5, 6, 7] (by decide))⟩
 have c5 : (b9 != 0) = false := (bne_eq_false_iff_eq.mpr (Decidable.not_not.mp c4))
 refine CW.cf rfl c5 ?_
 refine CW.skip (QW.then_n (CW.seq ?_))
 refine CW.region_awh (C := fun w_ => St w w_ (.sl a8 b0 a9 (iv .u8 a7) 5 1 :: .cells a2 ((cu a0_0) ++ ((cl A0_1 n0_1 c0_1) ++ (cb a0_2))) 104 :: oJ b1 b1_0 l1_1 a1_2 a1_3 a1_4 a1_5 l1_6 a1_7 a1_8 98 :: oD b1_0 A1_0_0 n1_0_0 c1_0_0 A1_0_1 n1_0_1 c1_0_1 a1_0_2 a1_0_3 A1_0_4 n1_0_4 c1_0_4 95 :: .sl A1_0_0 c1_0_0 n1_0_0 x1_0_0 25 1 :: .sl A1_0_1 c1_0_1 n1_0_1 x1_0_1 124 2 :: .sl A1_0_4 c1_0_4 n1_0_4 x1_0_4 48 2 :: oS b2 a2_0 a2_1 l2_2 39 :: (a3 ++ R))) 16 wide (by kernel_rfl) e0 (fun f8 a0 => ?_)
 refine AWH.tk 0 rfl a0 (fun wq sq => (Runs.load nagg34 rfl (hcell1.at sq (mem_TR (A := [_, _, _, _, _, _, _, _]) (fun _ h_ => a1.1 _ h_))))) ?_
 refine AWH.tk 1 rfl a0 (fun wq sq => (Runs.nilCheck rfl)) ?_
 refine AWH.tk 2 rfl a0 (fun wq sq => (Runs.fieldAddr (off := 1) (p := 1) fld98_1 rfl rfl rfl)) ?_
 refine AWH.tk 3 rfl a0 (fun wq sq => (Runs.load_mid row23 rfl sq (i := 2) rfl (pm (cp b1_0) (iv .u8 l1_1) ((ci a1_2) ++ ((cu a1_3) ++ ((cu a1_4) ++ ((cu a1_5) ++ (iv .u8 l1_6 ++ ((cu a1_7) ++ (cu a1_8))))))) (hm := by first | rfl | simp only [la, lc, ln, lv, hl1_1])) (by first | rfl | simp only [la, lc, ln, lv, hl1_1]))) ?_
 refine AWH.tk 4 rfl a0 (fun wq sq => (Runs.move rfl)) ?_
 refine AWH.tk 5 rfl a0 (fun wq sq => (Runs.conv Tryd.underlying24 ⟨_, Tryd.underlying3⟩ rfl rfl)) ?_
 refine AWH.tk 6 rfl a0 (fun wq sq => (Runs.load nagg34 rfl (hcell1.at sq (mem_TR (A := [_, _, _, _, _, _, _, _]) (fun _ h_ => a1.1 _ h_))))) ?_
 refine AWH.tk 7 rfl a0 (fun wq sq => (Runs.nilCheck rfl)) ?_
 refine AWH.tk 8 rfl a0 (fun wq sq => (Runs.fieldAddr (off := 69) (p := 69) fld98_5 rfl rfl rfl)) ?_
 refine AWH.tk 9 rfl a0 (fun wq sq => (Runs.load nagg37 rfl (sq.cell (k := 2) rfl (pa (.int .u64 a1_7) ((cp b1_0) ++ (iv .u8 l1_1 ++ ((ci a1_2) ++ ((cu a1_3) ++ ((cu a1_4) ++ ((cu a1_5) ++ iv .u8 l1_6)))))) (cu a1_8) (ho := by first | rfl | simp only [la, lc, ln, lv, hl1_1, hl1_6]))))) ?_
 refine AWH.tk 10 rfl a0 (fun wq sq => (Runs.move rfl)) ?_
 refine AWH.step 11 rfl (by decide) (by kernel_rfl) (fun inv_ hs_ hk_ hc_ hn_ => ?_)
 obtain ⟨b3, c0, f9, H⟩ := H
 refine WL.call Wanted.none ent41 rfl (seal_Seal.calls f8 l1_1 (IntKind.u32.wrap (IntKind.i64.wrap (a1_2 + b5))) a1_7 a7 a8 a9 b0 (hG1.ext a0) hl1_1 (a0.src_sl (k := 0) rfl) (f6) (a0.cap (i := 0) rfl) b3 c0 f9) ?_
 rintro _ g0 ⟨a4, a5, a6, e1, rfl, g1⟩
 have b4 := a0.call g1
 refine ⟨_, rfl, ?_⟩
 refine WL.nil ?_
 refine AWH.back (St.subset a0 b4 (mc 1 rfl (mc 2 rfl (mc 3 rfl (mc 4 rfl (mc 5 rfl (mc 6 rfl (mc 7 rfl (mc 8 rfl (mem_TR (A := [_, _, _, _, _, _, _, _, _]) (fun _ h_ => h_))))))))))) inv_ hs_ hk_ hc_ hn_ ?_
 refine AWH.kn (St.subset a0 b4 (mc 1 rfl (mc 2 rfl (mc 3 rfl (mc 4 rfl (mc 5 rfl (mc 6 rfl (mc 7 rfl (mc 8 rfl (mem_TR (A := [_, _, _, _, _, _, _, _, _]) (fun _ h_ => h_))))))))))) fun zC4 => ?_
 refine AWH.tk 12 rfl zC4 (fun wq sq => (Runs.move rfl)) ?_
 refine AWH.tk 13 rfl zC4 (fun wq sq => (Runs.extract rfl rfl)) ?_
 refine AWH.tk 14 rfl zC4 (fun wq sq => (Runs.extract rfl rfl)) ?_
 refine AWH.tk 15 rfl zC4 (fun wq sq => (Runs.assign rfl)) ?_
 refine AWH.tail (by kernel_rfl) ?_
 refine AW.tk 16 rfl (fun _ => (Runs.assign rfl)) ?_
 refine AW.done (by kernel_rfl) ?_
 refine QW.then_n ?_
 refine CW.sub [(1, .pointer (sp bb1)), (2, .pointer (sp b2)), (4, .int .i64 0), (5, .int .i64 (IntKind.i64.wrap (a1_2 + b5))), (7, .int .i64 c0), (8, .slice a4 a6 a5)] (by repeat' constructor) ?_
 refine CW.seq (cr (WL.mv rfl ?_))
 refine WL.v (Runs.neq rfl rfl rfl) ?_
 refine wn ?_
 rcases H with ⟨c6, H⟩ | ⟨c6, H⟩
 ·have c7 : (c0 != 0) = true := (bne_iff_ne.mpr c6)
  refine CW.ct rfl c7 ?_
  refine cr (WL.mv rfl (WL.as rfl (wn (CW.ret (QW.then_r ?_)))))
  obtain ⟨rfl, rfl, rfl, rfl, rfl, rfl, rfl, rfl, rfl, rfl, rfl, rfl, rfl, rfl, rfl, rfl, rfl⟩ := H
  exact QW.ret1 rfl rfl ⟨a3, A1_0_0, n1_0_0, c1_0_0, x1_0_0, A1_0_1, n1_0_1, c1_0_1, x1_0_1, A1_0_4, n1_0_4, c1_0_4, x1_0_4, a1, hn1_0_0, (hx1_0_0.mono (fun _ h_ => a1.1 _ h_)), hn1_0_1, (hx1_0_1.mono (fun _ h_ => a1.1 _ h_)), hn1_0_4, (hx1_0_4.mono (fun _ h_ => a1.1 _ h_)), hl1_1, hl1_6, hl2_2, rfl, (St.pickT (L := [_, _, _, _, _, _, _, _, _]) b4 [3, 4, 5, 6, 7, 8] (by decide))⟩
 have c7 : (c0 != 0) = false := (bne_eq_false_iff_eq.mpr (Decidable.not_not.mp c6))
 refine CW.cf rfl c7 ?_
 refine CW.skip (QW.then_n (cr ?_))
 refine WL.v (Runs.load nagg34 rfl (hcell1.at b4 (mem_TR (A := [_, _, _, _, _, _, _, _, _]) (fun _ h_ => a1.1 _ h_)))) ?_
 refine WL.v (Runs.nilCheck rfl) ?_
 refine WL.v (Runs.fieldAddr (off := 69) (p := 69) fld98_5 rfl rfl rfl) ?_
 refine WL.v (Runs.load nagg37 rfl (b4.cell (k := 3) rfl (pa (.int .u64 a1_7) ((cp b1_0) ++ (iv .u8 l1_1 ++ ((ci a1_2) ++ ((cu a1_3) ++ ((cu a1_4) ++ ((cu a1_5) ++ iv .u8 l1_6)))))) (cu a1_8) (ho := by first | rfl | simp only [la, lc, ln, lv, hl1_1, hl1_6])))) ?_
 refine WL.v (Runs.add rfl rfl rfl) ?_
 refine WL.v (Runs.nilCheck rfl) ?_
 refine WL.v (Runs.fieldAddr (off := 69) (p := 69) fld98_5 rfl rfl rfl) ?_
 refine WL.so (new := ((cp b1_0) ++ (iv .u8 l1_1 ++ ((ci a1_2) ++ ((cu a1_3) ++ ((cu a1_4) ++ ((cu a1_5) ++ (iv .u8 l1_6 ++ ((cu (IntKind.u64.wrap (a1_7 + 1))) ++ (cu a1_8)))))))))) (i := 3) (u0 := .int .u64 a1_7) (pre := ((cp b1_0) ++ (iv .u8 l1_1 ++ ((ci a1_2) ++ ((cu a1_3) ++ ((cu a1_4) ++ ((cu a1_5) ++ iv .u8 l1_6))))))) (post := ((cu a1_8))) b4 rfl cells37 (by first | rfl | simp only [aa, an, na, ca]) (by first | rfl | simp only [la, lc, ln, lv, hl1_1, hl1_6]) rfl rfl rfl (by first | rfl | simp only [aa, an, na, ca]) ?_
 intro g2 c1
 try dsimp only [List.set] at c1
 refine wn ?_
 refine CW.sub [(1, .pointer (sp bb1)), (2, .pointer (sp b2)), (4, .int .i64 0), (5, .int .i64 (IntKind.i64.wrap (a1_2 + b5))), (8, .slice a4 a6 a5)] ⟨rfl, rfl, rfl, rfl, rfl, trivial⟩ ?_
 refine cr ?_
 refine WL.v (Runs.fieldAddr (off := 1) (p := 1) fld39_1 rfl rfl rfl) ?_
 refine WL.v (Runs.load nagg37 rfl (c1.cell (k := 8) rfl (pa (.int .u64 a2_1) (cu a2_0) (iv .u8 l2_2)))) ?_
 refine WL.v (Runs.add rfl rfl rfl) ?_
 refine WL.v (Runs.fieldAddr (off := 1) (p := 1) fld39_1 rfl rfl rfl) ?_
 refine WL.so (new := ((cu a2_0) ++ ((cu (IntKind.u64.wrap (a2_1 + 1))) ++ iv .u8 l2_2))) (i := 8) (u0 := .int .u64 a2_1) (pre := ((cu a2_0))) (post := (iv .u8 l2_2)) c1 rfl cells37 (by first | rfl | simp only [aa, an, na, ca]) rfl rfl rfl rfl rfl ?_
 intro e2 b7
 try dsimp only [List.set] at b7
 refine WL.nx ?_
 refine WL.v (Runs.fieldAddr (off := 2) (p := 2) fld39_2 rfl rfl rfl) ?_
 refine WL.v (Runs.load_mid row23 rfl b7 (i := 8) rfl (pm ((cu a2_0) ++ (cu (IntKind.u64.wrap (a2_1 + 1)))) (iv .u8 l2_2) [] (hm := by first | rfl | simp only [la, lc, ln, lv, hl2_2])) (by first | rfl | simp only [la, lc, ln, lv, hl2_2])) ?_
 refine WL.mv rfl ?_
 refine WL.v (Runs.conv Tryd.underlying24 ⟨_, Tryd.underlying3⟩ rfl rfl) ?_
 refine WL.mv rfl ?_
 obtain ⟨b6, g3, H⟩ := H
 refine WL.call Wanted.none ent9 rfl (journal_Link.calls e2 l2_2 (IntKind.u32.wrap (IntKind.i64.wrap (a1_2 + b5))) b3 a4 a6 a5 (hG0.ext b7) hl2_2 (b7.src_sl (k := 0) rfl) (e1) (b7.cap (i := 0) rfl) b6 g3) ?_
 rintro _ g4 ⟨e3, rfl, g5⟩
 have g6 := b7.call g5
 refine ⟨_, rfl, ?_⟩
 refine WL.v (Runs.fieldAddr (off := 2) (p := 2) fld39_2 rfl rfl rfl) ?_
 refine WL.sm (new := ((cu a2_0) ++ ((cu (IntKind.u64.wrap (a2_1 + 1))) ++ iv .u8 b6))) (i := 8) (pre := ((cu a2_0) ++ (cu (IntKind.u64.wrap (a2_1 + 1))))) (mid := (iv .u8 l2_2)) (post := (([] : Cs))) (ms := (iv .u8 b6)) g6 rfl row23 (by first | rfl | simp only [aa, an, na, ca]) rfl rfl rfl (by first | rfl | simp only [la, lc, ln, lv, e3]) (by first | rfl | simp only [la, lc, ln, lv, hl2_2]) (one_iv _ _) (by first | rfl | simp only [aa, an, na, ca]) ?_
 intro c2 b8
 try dsimp only [List.set] at b8
 refine wn ?_
 refine CW.sub [(1, .pointer (sp bb1)), (4, .int .i64 0), (5, .int .i64 (IntKind.i64.wrap (a1_2 + b5))), (8, .slice a4 a6 a5)] ⟨rfl, rfl, rfl, rfl, trivial⟩ ?_
 refine cr ?_
 refine WL.v (Runs.load nagg34 rfl (hcell1.at b8 (mem_TR (A := [_, _, _, _, _, _, _, _, _]) (fun _ h_ => a1.1 _ h_)))) ?_
 refine WL.v (Runs.nilCheck rfl) ?_
 refine WL.v (Runs.fieldAddr (off := 0) (p := 0) fld98_0 rfl rfl rfl) ?_
 refine WL.v (Runs.load nagg30 rfl (b8.cell (k := 3) rfl (pa (.pointer (sp b1_0)) [] (iv .u8 l1_1 ++ ((ci a1_2) ++ ((cu a1_3) ++ ((cu a1_4) ++ ((cu a1_5) ++ (iv .u8 l1_6 ++ ((cu (IntKind.u64.wrap (a1_7 + 1))) ++ (cu a1_8))))))))))) ?_
 refine WL.mv rfl (WL.mv rfl ?_)
 have c3 := (St.pickT (L := [_, _, _, _, _, _, _, _, _]) b8 [4, 5, 6, 7, 0, 1, 2, 3, 8] (by decide))
 have g7 := St.hide (A := [_, _, _, _]) (B := [_, _, _, _, _]) (T := a3) (R := R) c3
 obtain ⟨g8, g9, e4, e5, h0, e6, h1, H⟩ := H
 refine WL.call Wanted.none ent42 rfl (disk_Disk_Write.calls w c2 a3 (.sl a4 a5 a6 (iv .u8 b3) 5 1 :: .sl a8 b0 a9 (iv .u8 a7) 5 1 :: .cells a2 ((cu a0_0) ++ ((cl A0_1 n0_1 c0_1) ++ (cb a0_2))) 104 :: oJ b1 b1_0 l1_1 a1_2 a1_3 a1_4 a1_5 l1_6 (IntKind.u64.wrap (a1_7 + 1)) a1_8 98 :: oS b2 a2_0 (IntKind.u64.wrap (a2_1 + 1)) b6 39 :: R) l1_0_0 l1_0_1 a1_0_2 a1_0_3 l1_0_4 (IntKind.i64.wrap (a1_2 + b5)) b3 b1_0 A1_0_0 n1_0_0 c1_0_0 x1_0_0 A1_0_1 n1_0_1 c1_0_1 x1_0_1 A1_0_4 n1_0_4 c1_0_4 x1_0_4 a4 a6 a5  g7 (hn1_0_0) (hx1_0_0.mono (fun _ h_ => a1.1 _ h_)) (hn1_0_1) (hx1_0_1.mono (fun _ h_ => a1.1 _ h_)) (hn1_0_4) (hx1_0_4.mono (fun _ h_ => a1.1 _ h_)) ⟨e1, c3.cap (i := 4) rfl, fun W_ L_ st hT => st.src_mem (hT _ (List.mem_append_right _ (List.mem_of_getElem? (i := 0) rfl)))⟩ g8 g9 e4 e5 h0 e6 h1) ?_
 rintro _ h2 ⟨c8, c9, d0, d1, e7, d2, d3, d4, e8, d5, d6, d7, e9, h3, h4, h5, h6, h7, h8, h9, rfl, i0⟩
 have i1 : St w h2 (oD b1_0 c9 d0 d1 d2 d3 d4 e4 e5 d5 d6 d7 95 :: .sl c9 d1 d0 e7 25 1 :: .sl d2 d4 d3 e8 124 2 :: .sl d5 d7 d6 e9 48 2 :: .sl a4 a5 a6 (iv .u8 b3) 5 1 :: .sl a8 b0 a9 (iv .u8 a7) 5 1 :: .cells a2 ((cu a0_0) ++ ((cl A0_1 n0_1 c0_1) ++ (cb a0_2))) 104 :: oJ b1 b1_0 l1_1 a1_2 a1_3 a1_4 a1_5 l1_6 (IntKind.u64.wrap (a1_7 + 1)) a1_8 98 :: oS b2 a2_0 (IntKind.u64.wrap (a2_1 + 1)) b6 39 :: (c8 ++ R)) := St.unhide (A := [_, _, _, _]) (B := [_, _, _, _, _]) (T := c8) (R := R) i0
 refine ⟨_, rfl, ?_⟩
 refine WL.as rfl (wn (CW.ret ?_))
 obtain ⟨rfl, rfl, rfl, rfl, rfl, rfl, rfl, rfl, rfl, rfl, rfl, rfl, rfl, rfl, rfl, rfl, rfl⟩ := H
 exact QW.ret1 rfl rfl ⟨c8, c9, d0, d1, e7, d2, d3, d4, e8, d5, d6, d7, e9, (a1.trans h3), h4, h5, h6, h7, h8, h9, hl1_1, hl1_6, e3, rfl, (St.pickT (L := [_, _, _, _, _, _, _, _, _]) i1 [7, 0, 1, 2, 3, 8] (by decide))⟩
/-! ### journal_Journal_Append: function 14 -/
def journal_Journal_Append.L1 (ls0_0_0 : List R25) (ls0_0_1 : List R124) (as0_0_2 : Int) (as0_0_3 : Bool) (ls0_0_4 : List R48) (ls0_1 : List Int) (as0_2 : Int) (as0_3 : Int) (as0_4 : Int) (as0_5 : Int) (ls0_6 : List Int) (as0_7 : Int) (as0_8 : Int) (ar0_0 : Int) (ar0_1 : Int) (lr0_2 : List Int) (ar1 : Int) (a1 : List R104) : Nat → (List R25) → (List R124) → (List R48) → Int → Int → (List Int) → (List Int) → Int → Int → Int → Int → (List Int) → Int → Int → Int → Bool → Int → Int → Prop
 | 0, _, _, _, _, _, _, _, _, _, _, _, _, _, _, _, _, _, _ => False
 | kL1 + 1, b6, b7, b8, b9, c0, c1, c2, c3, c4, c5, c6, c7, c8, c9, d0, d1, d5, a0 => ((a0 < (a1.length : Int) ∧ ((0 ≤ a0 ∧ a0 < (a1.length : Int)) ∧ (∃ (a3 : List R25) (a4 : List R124) (a5 : Int) (a6 : Bool) (a7 : List R48) (a8 : List Int) (a9 : Int) (b0 : Int) (b1 : Int) (b2 : Int) (b3 : List Int) (b4 : Int) (b5 : Int) (d2 : Int) (d3 : Int) (d4 : List Int) (a2 : Int), journal_Journal_Append_1.rel ((gx a1 (a0.toNat)).1) ((gx a1 (a0.toNat)).2.1) ((gx a1 (a0.toNat)).2.2) b6 b7 d0 d1 b8 c2 c3 c4 c5 c6 c7 c8 c9 b9 c0 c1 a3 a4 a5 a6 a7 a8 a9 b0 b1 b2 b3 b4 b5 d2 d3 d4 a2 ∧ ((a2 ≠ 0 ∧ ls0_0_0 = a3 ∧ ls0_0_1 = a4 ∧ as0_0_2 = a5 ∧ as0_0_3 = a6 ∧ ls0_0_4 = a7 ∧ ls0_1 = a8 ∧ as0_2 = a9 ∧ as0_3 = b0 ∧ as0_4 = b1 ∧ as0_5 = b2 ∧ ls0_6 = b3 ∧ as0_7 = b4 ∧ as0_8 = b5 ∧ ar0_0 = 0 ∧ ar0_1 = 0 ∧ lr0_2 = z32 ∧ ar1 = a2) ∨ (¬ (a2 ≠ 0) ∧ journal_Journal_Append.L1 ls0_0_0 ls0_0_1 as0_0_2 as0_0_3 ls0_0_4 ls0_1 as0_2 as0_3 as0_4 as0_5 ls0_6 as0_7 as0_8 ar0_0 ar0_1 lr0_2 ar1 a1 kL1 a3 a4 a7 d2 d3 d4 a8 a9 b0 b1 b2 b3 b4 b5 a5 a6 d5 (IntKind.i64.wrap (a0 + 1))))))) ∨ (¬ (a0 < (a1.length : Int)) ∧ ls0_0_0 = b6 ∧ ls0_0_1 = b7 ∧ as0_0_2 = d0 ∧ as0_0_3 = d1 ∧ ls0_0_4 = b8 ∧ ls0_1 = c2 ∧ as0_2 = c3 ∧ as0_3 = c4 ∧ as0_4 = c5 ∧ as0_5 = c6 ∧ ls0_6 = c7 ∧ as0_7 = c8 ∧ as0_8 = c9 ∧ ar0_0 = b9 ∧ ar0_1 = c0 ∧ lr0_2 = c1 ∧ ar1 = 0))
def journal_Journal_Append.rel (l0_0_0 : List R25) (l0_0_1 : List R124) (a0_0_2 : Int) (a0_0_3 : Bool) (l0_0_4 : List R48) (l0_1 : List Int) (a0_2 : Int) (a0_3 : Int) (a0_4 : Int) (a0_5 : Int) (l0_6 : List Int) (a0_7 : Int) (a0_8 : Int) (l1 : List R42) (ls0_0_0 : List R25) (ls0_0_1 : List R124) (as0_0_2 : Int) (as0_0_3 : Bool) (ls0_0_4 : List R48) (ls0_1 : List Int) (as0_2 : Int) (as0_3 : Int) (as0_4 : Int) (as0_5 : Int) (ls0_6 : List Int) (as0_7 : Int) (as0_8 : Int) (ar0_0 : Int) (ar0_1 : Int) (lr0_2 : List Int) (ar1 : Int) : Prop := (∃ (a2 : List R104) (b4 : Int), record_Of.rel l1 a2 b4 ∧ ((b4 ≠ 0 ∧ ls0_0_0 = l0_0_0 ∧ ls0_0_1 = l0_0_1 ∧ as0_0_2 = a0_0_2 ∧ as0_0_3 = a0_0_3 ∧ ls0_0_4 = l0_0_4 ∧ ls0_1 = l0_1 ∧ as0_2 = a0_2 ∧ as0_3 = a0_3 ∧ as0_4 = a0_4 ∧ as0_5 = a0_5 ∧ ls0_6 = l0_6 ∧ as0_7 = a0_7 ∧ as0_8 = a0_8 ∧ ar0_0 = 0 ∧ ar0_1 = 0 ∧ lr0_2 = z32 ∧ ar1 = b4) ∨ (¬ (b4 ≠ 0) ∧ (∃ (a6 : List R25) (a7 : List R124) (a8 : Int) (a9 : Bool) (b0 : List R48) (b1 : List Int) (b2 : Int) (b3 : Int) (a3 : Int) (a4 : Int) (a5 : List Int) (a0 : Int) (a1 : Int) (b5 : Int), journal_Journal_Room.rel l0_0_0 l0_0_1 a0_0_2 a0_0_3 l0_0_4 l0_1 a0_2 a0_3 a0_4 a0_5 l0_6 a0_7 a0_8 a6 a7 a8 a9 b0 b1 b2 b3 a3 a4 a5 a0 a1 b5 ∧ (((IntKind.u64.wrap (a2.length : Int)) > b5 ∧ ls0_0_0 = a6 ∧ ls0_0_1 = a7 ∧ as0_0_2 = a8 ∧ as0_0_3 = a9 ∧ ls0_0_4 = b0 ∧ ls0_1 = b1 ∧ as0_2 = b2 ∧ as0_3 = b3 ∧ as0_4 = a3 ∧ as0_5 = a4 ∧ ls0_6 = a5 ∧ as0_7 = a0 ∧ as0_8 = a1 ∧ ar0_0 = 0 ∧ ar0_1 = 0 ∧ lr0_2 = z32 ∧ ar1 = 17) ∨ (¬ ((IntKind.u64.wrap (a2.length : Int)) > b5) ∧ ((a0 > a1 ∧ ls0_0_0 = a6 ∧ ls0_0_1 = a7 ∧ as0_0_2 = a8 ∧ as0_0_3 = a9 ∧ ls0_0_4 = b0 ∧ ls0_1 = b1 ∧ as0_2 = b2 ∧ as0_3 = b3 ∧ as0_4 = a3 ∧ as0_5 = a4 ∧ ls0_6 = a5 ∧ as0_7 = a0 ∧ as0_8 = a1 ∧ ar0_0 = 0 ∧ ar0_1 = 0 ∧ lr0_2 = z32 ∧ ar1 = 15) ∨ (¬ (a0 > a1) ∧ (((IntKind.u64.wrap (a2.length : Int)) > (IntKind.u64.wrap (a1 - a0)) ∧ ls0_0_0 = a6 ∧ ls0_0_1 = a7 ∧ as0_0_2 = a8 ∧ as0_0_3 = a9 ∧ ls0_0_4 = b0 ∧ ls0_1 = b1 ∧ as0_2 = b2 ∧ as0_3 = b3 ∧ as0_4 = a3 ∧ as0_5 = a4 ∧ ls0_6 = a5 ∧ as0_7 = a0 ∧ as0_8 = a1 ∧ ar0_0 = 0 ∧ ar0_1 = 0 ∧ lr0_2 = z32 ∧ ar1 = 15) ∨ (¬ ((IntKind.u64.wrap (a2.length : Int)) > (IntKind.u64.wrap (a1 - a0))) ∧ (∃ k_ : Nat, journal_Journal_Append.L1 ls0_0_0 ls0_0_1 as0_0_2 as0_0_3 ls0_0_4 ls0_1 as0_2 as0_3 as0_4 as0_5 ls0_6 as0_7 as0_8 ar0_0 ar0_1 lr0_2 ar1 a2 k_ a6 a7 b0 a3 a4 a5 b1 b2 b3 a3 a4 a5 a0 a1 a8 a9 0 0)))))))))))
set_option maxHeartbeats 1000000 in
theorem journal_Journal_Append.calls (w w1 : World) (T R : Pool) (l0_0_0 : List R25) (l0_0_1 : List R124) (a0_0_2 : Int) (a0_0_3 : Bool) (l0_0_4 : List R48) (l0_1 : List Int) (a0_2 : Int) (a0_3 : Int) (a0_4 : Int) (a0_5 : Int) (l0_6 : List Int) (a0_7 : Int) (a0_8 : Int) (l1 : List R42) (b0 : Nat) (b0_0 : Nat) (A0_0_0 : Option Addr) (n0_0_0 : Nat) (c0_0_0 : Nat) (x0_0_0 : Cs) (A0_0_1 : Option Addr) (n0_0_1 : Nat) (c0_0_1 : Nat) (x0_0_1 : Cs) (A0_0_4 : Option Addr) (n0_0_4 : Nat) (c0_0_4 : Nat) (x0_0_4 : Cs) (A1 : Option Addr) (n1 : Nat) (c1 : Nat) (st0 : St w w1 (oJ b0 b0_0 l0_1 a0_2 a0_3 a0_4 a0_5 l0_6 a0_7 a0_8 98 :: oD b0_0 A0_0_0 n0_0_0 c0_0_0 A0_0_1 n0_0_1 c0_0_1 a0_0_2 a0_0_3 A0_0_4 n0_0_4 c0_0_4 95 :: .sl A0_0_0 c0_0_0 n0_0_0 x0_0_0 25 1 :: .sl A0_0_1 c0_0_1 n0_0_1 x0_0_1 124 2 :: .sl A0_0_4 c0_0_4 n0_0_4 x0_0_4 48 2 :: (T ++ R))) (hG0 : Src w (sp 0) (iv .u32 tab0)) (hG1 : Src w (sp 1) (iv .i64 tab1)) (hn0_0_0 : n0_0_0 = l0_0_0.length) (hx0_0_0 : HRs T (f25 w) x0_0_0 l0_0_0) (hn0_0_1 : n0_0_1 = l0_0_1.length) (hx0_0_1 : HRs T (f124 w) x0_0_1 l0_0_1) (hn0_0_4 : n0_0_4 = l0_0_4.length) (hx0_0_4 : HRs T (f48 w) x0_0_4 l0_0_4) (hl0_1 : l0_1.length = 32) (hl0_6 : l0_6.length = 32) (hb1 : HS w (T ++ R) T A1 n1 c1 (f42 w) l1) (ls0_0_0 : List R25) (ls0_0_1 : List R124) (as0_0_2 : Int) (as0_0_3 : Bool) (ls0_0_4 : List R48) (ls0_1 : List Int) (as0_2 : Int) (as0_3 : Int) (as0_4 : Int) (as0_5 : Int) (ls0_6 : List Int) (as0_7 : Int) (as0_8 : Int) (ar0_0 : Int) (ar0_1 : Int) (lr0_2 : List Int) (ar1 : Int) (H : journal_Journal_Append.rel l0_0_0 l0_0_1 a0_0_2 a0_0_3 l0_0_4 l0_1 a0_2 a0_3 a0_4 a0_5 l0_6 a0_7 a0_8 l1 ls0_0_0 ls0_0_1 as0_0_2 as0_0_3 ls0_0_4 ls0_1 as0_2 as0_3 as0_4 as0_5 ls0_6 as0_7 as0_8 ar0_0 ar0_1 lr0_2 ar1) :
  Calls Tryd.prog 14 #[.pointer (sp b0), .slice A1 n1 c1] w1 fun e w' => ∃ T' As0_0_0 ns0_0_0 cs0_0_0 xs0_0_0 As0_0_1 ns0_0_1 cs0_0_1 xs0_0_1 As0_0_4 ns0_0_4 cs0_0_4 xs0_0_4, Pl T T' ∧ ns0_0_0 = ls0_0_0.length ∧ HRs T' (f25 w) xs0_0_0 ls0_0_0 ∧ ns0_0_1 = ls0_0_1.length ∧ HRs T' (f124 w) xs0_0_1 ls0_0_1 ∧ ns0_0_4 = ls0_0_4.length ∧ HRs T' (f48 w) xs0_0_4 ls0_0_4 ∧ ls0_1.length = 32 ∧ ls0_6.length = 32 ∧ lr0_2.length = 32 ∧ e = .returned (.tuple #[.agg ((cu ar0_0) ++ ((cu ar0_1) ++ iv .u8 lr0_2)).toArray, .int .i64 ar1]) ∧ St w w' (oJ b0 b0_0 ls0_1 as0_2 as0_3 as0_4 as0_5 ls0_6 as0_7 as0_8 98 :: oD b0_0 As0_0_0 ns0_0_0 cs0_0_0 As0_0_1 ns0_0_1 cs0_0_1 as0_0_2 as0_0_3 As0_0_4 ns0_0_4 cs0_0_4 95 :: .sl As0_0_0 cs0_0_0 ns0_0_0 xs0_0_0 25 1 :: .sl As0_0_1 cs0_0_1 ns0_0_1 xs0_0_1 124 2 :: .sl As0_0_4 cs0_0_4 ns0_0_4 xs0_0_4 48 2 :: (T' ++ R)) := by
 refine CW.enter Tryd.func14 rfl (n := 80) rfl [.pointer (sp b0), .slice A1 n1 c1] (Nat.le_of_ble_eq_true rfl) ?_
 refine CW.sub [(0, .pointer (sp b0)), (1, .slice A1 n1 c1)] ⟨rfl, rfl, trivial⟩ ?_
 refine cr ?_
 refine WL.box st0 rfl rfl ?_
 intro a2 u0 q9
 refine WL.alloc q9 zero39 ?_
 intro a3 o2 o3
 refine WL.as rfl (wn (CW.seq (cr ?_)))
 refine WL.v (Runs.load nagg34 rfl (o3.cell (k := 1) rfl rfl)) ?_
 refine WL.v (Runs.eql_ptr Tryd.underlying34 rfl rfl rfl) ?_
 refine wn ?_
 refine CW.cf rfl rfl ?_
 refine CW.skip (QW.then_n (cr (WL.mv rfl ?_)))
 have r0 := St.hide (A := []) (B := [_, _, _, _, _, _, _]) (T := T) (R := R) o3
 obtain ⟨a0, i0, r1, H⟩ := H
 refine WL.call Wanted.none ent38 rfl (record_Of.calls w o2 T (oS a3 0 0 (z32) 39 :: .cells a2 [.pointer (sp b0)] 34 :: oJ b0 b0_0 l0_1 a0_2 a0_3 a0_4 a0_5 l0_6 a0_7 a0_8 98 :: oD b0_0 A0_0_0 n0_0_0 c0_0_0 A0_0_1 n0_0_1 c0_0_1 a0_0_2 a0_0_3 A0_0_4 n0_0_4 c0_0_4 95 :: .sl A0_0_0 c0_0_0 n0_0_0 x0_0_0 25 1 :: .sl A0_0_1 c0_0_1 n0_0_1 x0_0_1 124 2 :: .sl A0_0_4 c0_0_4 n0_0_4 x0_0_4 48 2 :: R) l1 A1 n1 c1  r0 (hb1.mono (memo_TR (B := [_, _, _, _, _, _, _]) (fun _ h_ => h_)) (fun _ h_ => h_)) a0 i0 r1) ?_
 rintro _ i6 ⟨f7, a5, a4, a6, a8, d7, m3, r2, rfl, r3⟩
 have m4 : St w i6 (.sl a5 a6 a4 a8 104 3 :: oS a3 0 0 (z32) 39 :: .cells a2 [.pointer (sp b0)] 34 :: oJ b0 b0_0 l0_1 a0_2 a0_3 a0_4 a0_5 l0_6 a0_7 a0_8 98 :: oD b0_0 A0_0_0 n0_0_0 c0_0_0 A0_0_1 n0_0_1 c0_0_1 a0_0_2 a0_0_3 A0_0_4 n0_0_4 c0_0_4 95 :: .sl A0_0_0 c0_0_0 n0_0_0 x0_0_0 25 1 :: .sl A0_0_1 c0_0_1 n0_0_1 x0_0_1 124 2 :: .sl A0_0_4 c0_0_4 n0_0_4 x0_0_4 48 2 :: (f7 ++ R)) := St.unhide (A := [_]) (B := [_, _, _, _, _, _, _]) (T := f7) (R := R) r3
 refine ⟨_, rfl, ?_⟩
 refine WL.mv rfl ?_
 refine WL.v (Runs.extract rfl rfl) ?_
 refine WL.v (Runs.extract rfl rfl) ?_
 refine WL.as rfl (WL.as rfl (wn ?_))
 refine CW.sub [(2, .pointer (sp a2)), (4, .pointer (sp a3)), (5, .int .i64 0), (6, .slice a5 a4 a6), (7, .int .i64 i0)] ⟨rfl, rfl, rfl, rfl, rfl, trivial⟩ ?_
 refine cr (WL.mv rfl ?_)
 refine WL.v (Runs.len_sl Tryd.underlying100 rfl (by rw [m3])) ?_
 refine WL.v (Runs.conv Tryd.underlying37 ⟨_, Tryd.underlying3⟩ rfl rfl) ?_
 refine WL.as rfl (wn (CW.seq (CW.block (cr (WL.mv rfl ?_)))))
 refine WL.v (Runs.neq rfl rfl rfl) ?_
 refine WL.as rfl (wn ?_)
 rcases H with ⟨m5, H⟩ | ⟨m5, H⟩
 ·have m6 : (i0 != 0) = true := (bne_iff_ne.mpr m5)
  refine CW.ct rfl m6 ?_
  refine cr ?_
  refine WL.v (Runs.build_struct (ps := [(0, 1), (1, 1), (2, 32)]) (cs := ((cu 0) ++ ((cu 0) ++ iv .u8 (z32)))) plc39 zero39 rfl Fills.nil) ?_
  refine WL.mv rfl ?_
  refine WL.sm (new := ((cu 0) ++ ((cu 0) ++ iv .u8 (z32)))) (i := 1) (pre := (([] : Cs))) (mid := ((cu 0) ++ ((cu 0) ++ iv .u8 (z32)))) (post := (([] : Cs))) (ms := ((cu 0) ++ ((cu 0) ++ iv .u8 (z32)))) m4 rfl row39 (by first | rfl | simp only [aa, an, na, ca]) rfl rfl rfl (by first | rfl | simp only [la, lc, ln, lv, List.length_replicate]) (by first | rfl | simp only [la, lc, ln, lv, List.length_replicate]) (one_cat oneU (one_cat oneU (one_iv _ _))) (by first | rfl | simp only [aa, an, na, ca]) ?_
  intro r4 i7
  try dsimp only [List.set] at i7
  refine WL.as rfl (wn (CW.ret (QW.blk_r (QW.then_r ?_))))
  obtain ⟨rfl, rfl, rfl, rfl, rfl, rfl, rfl, rfl, rfl, rfl, rfl, rfl, rfl, rfl, rfl, rfl, rfl⟩ := H
  exact QW.retN2 rfl (Res.row rfl row39 i7 (i := 1) rfl (by first | rfl | simp only [la, lc, ln, lv, List.length_replicate])) (Res.tmp rfl) ⟨f7, A0_0_0, n0_0_0, c0_0_0, x0_0_0, A0_0_1, n0_0_1, c0_0_1, x0_0_1, A0_0_4, n0_0_4, c0_0_4, x0_0_4, d7, hn0_0_0, (hx0_0_0.mono (fun _ h_ => d7.1 _ h_)), hn0_0_1, (hx0_0_1.mono (fun _ h_ => d7.1 _ h_)), hn0_0_4, (hx0_0_4.mono (fun _ h_ => d7.1 _ h_)), hl0_1, hl0_6, (List.length_replicate ..), rfl, (St.pickT (L := [_, _, _, _, _, _, _, _]) i7 [3, 4, 5, 6, 7] (by decide))⟩
 have m6 : (i0 != 0) = false := (bne_eq_false_iff_eq.mpr (Decidable.not_not.mp m5))
 refine CW.cf rfl m6 ?_
 refine cr (WL.mv rfl ?_)
 refine WL.v (Runs.load nagg34 rfl (m4.cell (k := 2) rfl rfl)) ?_
 have m7 := (St.pickT (L := [_, _, _, _, _, _, _, _]) m4 [3, 4, 5, 6, 7, 0, 1, 2] (by decide))
 have r5 := St.hide (A := [_, _, _, _, _]) (B := [_, _, _]) (T := f7) (R := R) m7
 obtain ⟨o4, o5, g6, g7, o6, d8, d9, e0, b2, b3, b4, a9, b1, i8, r6, H⟩ := H
 refine WL.call Wanted.none ent16 rfl (journal_Journal_Room.calls w i6 f7 (.sl a5 a6 a4 a8 104 3 :: oS a3 0 0 (z32) 39 :: .cells a2 [.pointer (sp b0)] 34 :: R) l0_0_0 l0_0_1 a0_0_2 a0_0_3 l0_0_4 l0_1 a0_2 a0_3 a0_4 a0_5 l0_6 a0_7 a0_8 b0 b0_0 A0_0_0 n0_0_0 c0_0_0 x0_0_0 A0_0_1 n0_0_1 c0_0_1 x0_0_1 A0_0_4 n0_0_4 c0_0_4 x0_0_4  r5 (hn0_0_0) (hx0_0_0.mono (fun _ h_ => d7.1 _ h_)) (hn0_0_1) (hx0_0_1.mono (fun _ h_ => d7.1 _ h_)) (hn0_0_4) (hx0_0_4.mono (fun _ h_ => d7.1 _ h_)) hl0_1 hl0_6 o4 o5 g6 g7 o6 d8 d9 e0 b2 b3 b4 a9 b1 i8 r6) ?_
 rintro _ r7 ⟨e4, b6, b7, b8, e8, b9, c0, c2, e9, c3, c4, c5, f0, g8, i9, j0, j1, j2, j3, j4, f1, e1, rfl, r8⟩
 have o7 : St w r7 (oJ b0 b0_0 d8 d9 e0 b2 b3 b4 a9 b1 98 :: oD b0_0 b6 b7 b8 b9 c0 c2 g6 g7 c3 c4 c5 95 :: .sl b6 b8 b7 e8 25 1 :: .sl b9 c2 c0 e9 124 2 :: .sl c3 c5 c4 f0 48 2 :: .sl a5 a6 a4 a8 104 3 :: oS a3 0 0 (z32) 39 :: .cells a2 [.pointer (sp b0)] 34 :: (e4 ++ R)) := St.unhide (A := [_, _, _, _, _]) (B := [_, _, _]) (T := e4) (R := R) r8
 refine ⟨_, rfl, ?_⟩
 refine WL.v (Runs.gtr rfl rfl rfl) ?_
 refine WL.as rfl (wn ?_)
 refine CW.sub [(2, .pointer (sp a2)), (4, .pointer (sp a3)), (5, .int .i64 0), (6, .slice a5 a4 a6), (8, .int .u64 (IntKind.u64.wrap (a0.length : Int))), (30, .bool (decide ((IntKind.u64.wrap (a0.length : Int)) > i8)))] (by repeat' constructor) ?_
 rcases H with ⟨m8, H⟩ | ⟨m8, H⟩
 ·have m9 : (decide ((IntKind.u64.wrap (a0.length : Int)) > i8)) = true := (decide_eq_true m8)
  refine CW.ct rfl m9 ?_
  refine cr ?_
  refine WL.v (Runs.build_struct (ps := [(0, 1), (1, 1), (2, 32)]) (cs := ((cu 0) ++ ((cu 0) ++ iv .u8 (z32)))) plc39 zero39 rfl Fills.nil) ?_
  refine WL.sm (new := ((cu 0) ++ ((cu 0) ++ iv .u8 (z32)))) (i := 6) (pre := (([] : Cs))) (mid := ((cu 0) ++ ((cu 0) ++ iv .u8 (z32)))) (post := (([] : Cs))) (ms := ((cu 0) ++ ((cu 0) ++ iv .u8 (z32)))) o7 rfl row39 (by first | rfl | simp only [aa, an, na, ca]) rfl rfl rfl (by first | rfl | simp only [la, lc, ln, lv, List.length_replicate]) (by first | rfl | simp only [la, lc, ln, lv, List.length_replicate]) (one_cat oneU (one_cat oneU (one_iv _ _))) (by first | rfl | simp only [aa, an, na, ca]) ?_
  intro r9 j5
  try dsimp only [List.set] at j5
  refine WL.as rfl (wn (CW.ret (QW.blk_r (QW.then_r ?_))))
  obtain ⟨rfl, rfl, rfl, rfl, rfl, rfl, rfl, rfl, rfl, rfl, rfl, rfl, rfl, rfl, rfl, rfl, rfl⟩ := H
  exact QW.retN2 rfl (Res.row rfl row39 j5 (i := 6) rfl (by first | rfl | simp only [la, lc, ln, lv, List.length_replicate])) (Res.tmp rfl) ⟨e4, b6, b7, b8, e8, b9, c0, c2, e9, c3, c4, c5, f0, (d7.trans g8), i9, j0, j1, j2, j3, j4, f1, e1, (List.length_replicate ..), rfl, (St.pickT (L := [_, _, _, _, _, _, _, _]) j5 [0, 1, 2, 3, 4] (by decide))⟩
 have m9 : (decide ((IntKind.u64.wrap (a0.length : Int)) > i8)) = false := (decide_eq_false m8)
 refine CW.cf rfl m9 ?_
 refine CW.seq ?_
 refine CW.region_qa wide (by kernel_rfl) o7 ?_
 refine HL.v (fun wq sq => (Runs.load nagg34 rfl (sq.cell (k := 7) rfl rfl))) ?_
 refine HL.v (fun wq sq => (Runs.nilCheck rfl)) ?_
 refine HL.v (fun wq sq => (Runs.fieldAddr (off := 69) (p := 69) fld98_5 rfl rfl rfl)) ?_
 refine HL.v (fun wq sq => (Runs.load nagg37 rfl (sq.cell (k := 0) rfl (pa (.int .u64 a9) ((cp b0_0) ++ (iv .u8 d8 ++ ((ci d9) ++ ((cu e0) ++ ((cu b2) ++ ((cu b3) ++ iv .u8 b4)))))) (cu b1) (ho := by first | rfl | simp only [la, lc, ln, lv, f1, e1]))))) ?_
 refine HL.v (fun wq sq => (Runs.load nagg34 rfl (sq.cell (k := 7) rfl rfl))) ?_
 refine HL.v (fun wq sq => (Runs.nilCheck rfl)) ?_
 refine HL.v (fun wq sq => (Runs.fieldAddr (off := 70) (p := 70) fld98_6 rfl rfl rfl)) ?_
 refine HL.v (fun wq sq => (Runs.load nagg37 rfl (sq.cell (k := 0) rfl (pa (.int .u64 b1) ((cp b0_0) ++ (iv .u8 d8 ++ ((ci d9) ++ ((cu e0) ++ ((cu b2) ++ ((cu b3) ++ (iv .u8 b4 ++ (cu a9)))))))) [] (ho := by first | rfl | simp only [la, lc, ln, lv, f1, e1]))))) ?_
 refine HL.v (fun wq sq => (Runs.gtr rfl rfl rfl)) ?_
 refine HL.mv rfl ?_
 rcases H with ⟨n0, H⟩ | ⟨n0, H⟩
 ·have a7 : (decide (a9 > b1)) = true := (decide_eq_true n0)
  refine HL.off ?_ ?_; exact Wanted.guard (dj := 46) (by rfl) (evb (by rfl) a7) (by rfl)
  refine HL.off ?_ ?_; exact Wanted.guard (dj := 46) (by rfl) (evb (by rfl) a7) (by rfl)
  refine HL.off ?_ ?_; exact Wanted.guard (dj := 46) (by rfl) (evb (by rfl) a7) (by rfl)
  refine HL.off ?_ ?_; exact Wanted.guard (dj := 46) (by rfl) (evb (by rfl) a7) (by rfl)
  refine HL.off ?_ ?_; exact Wanted.guard (dj := 46) (by rfl) (evb (by rfl) a7) (by rfl)
  refine HL.off ?_ ?_; exact Wanted.guard (dj := 46) (by rfl) (evb (by rfl) a7) (by rfl)
  refine HL.off ?_ ?_; exact Wanted.guard (dj := 46) (by rfl) (evb (by rfl) a7) (by rfl)
  refine HL.off ?_ ?_; exact Wanted.guard (dj := 46) (by rfl) (evb (by rfl) a7) (by rfl)
  refine HL.off ?_ ?_; exact Wanted.guard (dj := 46) (by rfl) (evb (by rfl) a7) (by rfl)
  refine HL.off ?_ ?_; exact Wanted.guard (dj := 46) (by rfl) (evb (by rfl) a7) (by rfl)
  refine HL.off ?_ ?_; exact Wanted.guard (dj := 46) (by rfl) (evb (by rfl) a7) (by rfl)
  refine HL.v (fun wq sq => (Runs.pick_t (evb rfl a7) rfl)) ?_
  refine HL.as rfl ?_
  refine HL.nil ?_
  generalize e_ : List.drop 23 _ = z_
  intro u1 s0
  subst e_
  refine wn ?_
  refine CW.sub [(2, .pointer (sp a2)), (4, .pointer (sp a3)), (5, .int .i64 0), (6, .slice a5 a4 a6), (36, .bool true)] ⟨rfl, rfl, rfl, rfl, rfl, trivial⟩ ?_
  refine CW.ct rfl rfl ?_
  refine cr ?_
  refine WL.v (Runs.build_struct (ps := [(0, 1), (1, 1), (2, 32)]) (cs := ((cu 0) ++ ((cu 0) ++ iv .u8 (z32)))) plc39 zero39 rfl Fills.nil) ?_
  refine WL.sm (new := ((cu 0) ++ ((cu 0) ++ iv .u8 (z32)))) (i := 6) (pre := (([] : Cs))) (mid := ((cu 0) ++ ((cu 0) ++ iv .u8 (z32)))) (post := (([] : Cs))) (ms := ((cu 0) ++ ((cu 0) ++ iv .u8 (z32)))) s0 rfl row39 (by first | rfl | simp only [aa, an, na, ca]) rfl rfl rfl (by first | rfl | simp only [la, lc, ln, lv, List.length_replicate]) (by first | rfl | simp only [la, lc, ln, lv, List.length_replicate]) (one_cat oneU (one_cat oneU (one_iv _ _))) (by first | rfl | simp only [aa, an, na, ca]) ?_
  intro s1 j6
  try dsimp only [List.set] at j6
  refine WL.as rfl (wn (CW.ret (QW.blk_r (QW.then_r ?_))))
  obtain ⟨rfl, rfl, rfl, rfl, rfl, rfl, rfl, rfl, rfl, rfl, rfl, rfl, rfl, rfl, rfl, rfl, rfl⟩ := H
  exact QW.retN2 rfl (Res.row rfl row39 j6 (i := 6) rfl (by first | rfl | simp only [la, lc, ln, lv, List.length_replicate])) (Res.tmp rfl) ⟨e4, b6, b7, b8, e8, b9, c0, c2, e9, c3, c4, c5, f0, (d7.trans g8), i9, j0, j1, j2, j3, j4, f1, e1, (List.length_replicate ..), rfl, (St.pickT (L := [_, _, _, _, _, _, _, _]) j6 [0, 1, 2, 3, 4] (by decide))⟩
 have a7 : (decide (a9 > b1)) = false := (decide_eq_false n0)
 refine HL.on ?_ ?_; exact Wanted.guard (dj := 46) (by rfl) (evb (by rfl) a7) (by rfl)
 refine HL.mv rfl ?_
 refine HL.on ?_ ?_; exact Wanted.guard (dj := 46) (by rfl) (evb (by rfl) a7) (by rfl)
 refine HL.v (fun wq sq => (Runs.load nagg34 rfl (sq.cell (k := 7) rfl rfl))) ?_
 refine HL.on ?_ ?_; exact Wanted.guard (dj := 46) (by rfl) (evb (by rfl) a7) (by rfl)
 refine HL.v (fun wq sq => (Runs.nilCheck rfl)) ?_
 refine HL.on ?_ ?_; exact Wanted.guard (dj := 46) (by rfl) (evb (by rfl) a7) (by rfl)
 refine HL.v (fun wq sq => (Runs.fieldAddr (off := 70) (p := 70) fld98_6 rfl rfl rfl)) ?_
 refine HL.on ?_ ?_; exact Wanted.guard (dj := 46) (by rfl) (evb (by rfl) a7) (by rfl)
 refine HL.v (fun wq sq => (Runs.load nagg37 rfl (sq.cell (k := 0) rfl (pa (.int .u64 b1) ((cp b0_0) ++ (iv .u8 d8 ++ ((ci d9) ++ ((cu e0) ++ ((cu b2) ++ ((cu b3) ++ (iv .u8 b4 ++ (cu a9)))))))) [] (ho := by first | rfl | simp only [la, lc, ln, lv, f1, e1]))))) ?_
 refine HL.on ?_ ?_; exact Wanted.guard (dj := 46) (by rfl) (evb (by rfl) a7) (by rfl)
 refine HL.v (fun wq sq => (Runs.load nagg34 rfl (sq.cell (k := 7) rfl rfl))) ?_
 refine HL.on ?_ ?_; exact Wanted.guard (dj := 46) (by rfl) (evb (by rfl) a7) (by rfl)
 refine HL.v (fun wq sq => (Runs.nilCheck rfl)) ?_
 refine HL.on ?_ ?_; exact Wanted.guard (dj := 46) (by rfl) (evb (by rfl) a7) (by rfl)
 refine HL.v (fun wq sq => (Runs.fieldAddr (off := 69) (p := 69) fld98_5 rfl rfl rfl)) ?_
 refine HL.on ?_ ?_; exact Wanted.guard (dj := 46) (by rfl) (evb (by rfl) a7) (by rfl)
 refine HL.v (fun wq sq => (Runs.load nagg37 rfl (sq.cell (k := 0) rfl (pa (.int .u64 a9) ((cp b0_0) ++ (iv .u8 d8 ++ ((ci d9) ++ ((cu e0) ++ ((cu b2) ++ ((cu b3) ++ iv .u8 b4)))))) (cu b1) (ho := by first | rfl | simp only [la, lc, ln, lv, f1, e1]))))) ?_
 refine HL.on ?_ ?_; exact Wanted.guard (dj := 46) (by rfl) (evb (by rfl) a7) (by rfl)
 refine HL.v (fun wq sq => (Runs.sub rfl rfl rfl)) ?_
 refine HL.on ?_ ?_; exact Wanted.guard (dj := 46) (by rfl) (evb (by rfl) a7) (by rfl)
 refine HL.v (fun wq sq => (Runs.gtr rfl rfl rfl)) ?_
 refine HL.v (fun wq sq => (Runs.pick_f (evb rfl a7) rfl)) ?_
 refine HL.as rfl ?_
 refine HL.nil ?_
 generalize e_ : List.drop 23 _ = z_
 intro u2 j7
 subst e_
 refine wn ?_
 refine CW.sub [(2, .pointer (sp a2)), (4, .pointer (sp a3)), (5, .int .i64 0), (6, .slice a5 a4 a6), (36, .bool (decide ((IntKind.u64.wrap (a0.length : Int)) > (IntKind.u64.wrap (b1 - a9)))))] ⟨rfl, rfl, rfl, rfl, rfl, trivial⟩ ?_
 rcases H with ⟨n2, H⟩ | ⟨n2, H⟩
 ·have n3 : (decide ((IntKind.u64.wrap (a0.length : Int)) > (IntKind.u64.wrap (b1 - a9)))) = true := (decide_eq_true n2)
  refine CW.ct rfl n3 ?_
  refine cr ?_
  refine WL.v (Runs.build_struct (ps := [(0, 1), (1, 1), (2, 32)]) (cs := ((cu 0) ++ ((cu 0) ++ iv .u8 (z32)))) plc39 zero39 rfl Fills.nil) ?_
  refine WL.sm (new := ((cu 0) ++ ((cu 0) ++ iv .u8 (z32)))) (i := 6) (pre := (([] : Cs))) (mid := ((cu 0) ++ ((cu 0) ++ iv .u8 (z32)))) (post := (([] : Cs))) (ms := ((cu 0) ++ ((cu 0) ++ iv .u8 (z32)))) j7 rfl row39 (by first | rfl | simp only [aa, an, na, ca]) rfl rfl rfl (by first | rfl | simp only [la, lc, ln, lv, List.length_replicate]) (by first | rfl | simp only [la, lc, ln, lv, List.length_replicate]) (one_cat oneU (one_cat oneU (one_iv _ _))) (by first | rfl | simp only [aa, an, na, ca]) ?_
  intro s2 j8
  try dsimp only [List.set] at j8
  refine WL.as rfl (wn (CW.ret (QW.blk_r (QW.then_r ?_))))
  obtain ⟨rfl, rfl, rfl, rfl, rfl, rfl, rfl, rfl, rfl, rfl, rfl, rfl, rfl, rfl, rfl, rfl, rfl⟩ := H
  exact QW.retN2 rfl (Res.row rfl row39 j8 (i := 6) rfl (by first | rfl | simp only [la, lc, ln, lv, List.length_replicate])) (Res.tmp rfl) ⟨e4, b6, b7, b8, e8, b9, c0, c2, e9, c3, c4, c5, f0, (d7.trans g8), i9, j0, j1, j2, j3, j4, f1, e1, (List.length_replicate ..), rfl, (St.pickT (L := [_, _, _, _, _, _, _, _]) j8 [0, 1, 2, 3, 4] (by decide))⟩
 have n3 : (decide ((IntKind.u64.wrap (a0.length : Int)) > (IntKind.u64.wrap (b1 - a9)))) = false := (decide_eq_false n2)
 refine CW.cf rfl n3 ?_
 refine CW.skip (QW.blk_n (QW.then_n (cr ?_)))
 refine WL.v (Runs.load nagg34 rfl (j7.cell (k := 7) rfl rfl)) ?_
 refine WL.v (Runs.nilCheck rfl) ?_
 refine WL.v (Runs.fieldAddr (off := 35) (p := 35) fld98_4 rfl rfl rfl) ?_
 refine WL.v (Runs.load_mid row39 rfl j7 (i := 0) rfl (pm ((cp b0_0) ++ (iv .u8 d8 ++ ((ci d9) ++ (cu e0)))) ((cu b2) ++ ((cu b3) ++ iv .u8 b4)) ((cu a9) ++ (cu b1)) (ho := by first | rfl | simp only [la, lc, ln, lv, f1]) (hm := by first | rfl | simp only [la, lc, ln, lv, e1])) (by first | rfl | simp only [la, lc, ln, lv, e1])) ?_
 refine WL.alloc j7 zero39 ?_
 intro b5 u3 s3
 refine WL.sm (new := ((cu b2) ++ ((cu b3) ++ iv .u8 b4))) (i := 0) (pre := (([] : Cs))) (mid := ((cu 0) ++ ((cu 0) ++ iv .u8 (z32)))) (post := (([] : Cs))) (ms := ((cu b2) ++ ((cu b3) ++ iv .u8 b4))) s3 rfl row39 (by first | rfl | simp only [aa, an, na, ca]) rfl rfl rfl (by first | rfl | simp only [la, lc, ln, lv, e1]) (by first | rfl | simp only [la, lc, ln, lv, List.length_replicate]) (one_cat oneU (one_cat oneU (one_iv _ _))) (by first | rfl | simp only [aa, an, na, ca]) ?_
 intro s4 n4
 try dsimp only [List.set] at n4
 refine WL.nx ?_
 refine WL.v (Runs.makeFunc rfl) ?_
 refine WL.as rfl (wn ?_)
 refine CW.sub [(4, .pointer (sp a3)), (5, .int .i64 0), (6, .slice a5 a4 a6), (9, .pointer (sp b5)), (10, .func (.func 39) #[] #[.pointer (sp a2), .pointer (sp b5)])] ⟨rfl, rfl, rfl, rfl, rfl, trivial⟩ ?_
 refine CW.seq (cr (WL.mv rfl ?_))
 refine WL.v (Runs.len_sl Tryd.underlying100 rfl (by rw [m3])) ?_
 refine WL.mv rfl (wn (CW.block ?_))
 obtain ⟨s5, H⟩ := H
 refine CW.sub [(4, .pointer (sp a3)), (5, .int .i64 0), (9, .pointer (sp b5)), (10, .func (.func 39) #[] #[.pointer (sp a2), .pointer (sp b5)]), (65, .slice a5 a4 a6), (66, .int .i64 (a0.length : Int)), (67, .int .i64 0)] (by repeat' constructor) ?_
 refine CW.loop (fun kL1 l_ w_ => ∃ (c9 : Pool) (d0 : Option Addr) (d1 : Nat) (c6 : Nat) (f2 : Cs) (i1 : List R25) (d2 : Option Addr) (d3 : Nat) (c7 : Nat) (f3 : Cs) (i2 : List R124) (d4 : Option Addr) (d5 : Nat) (c8 : Nat) (f4 : Cs) (i3 : List R48) (e2 : Int) (e3 : Int) (d6 : List Int) (f5 : List Int) (f8 : Int) (f9 : Int) (g0 : Int) (g1 : Int) (f6 : List Int) (g2 : Int) (g3 : Int) (g4 : Int) (g5 : Bool) (j9 : Int) (a1 : Int), l_ = [(4, .pointer (sp a3)), (5, .int .i64 j9), (9, .pointer (sp b5)), (10, .func (.func 39) #[] #[.pointer (sp a2), .pointer (sp b5)]), (65, .slice a5 a4 a6), (66, .int .i64 (a0.length : Int)), (67, .int .i64 a1)] ∧ journal_Journal_Append.L1 ls0_0_0 ls0_0_1 as0_0_2 as0_0_3 ls0_0_4 ls0_1 as0_2 as0_3 as0_4 as0_5 ls0_6 as0_7 as0_8 ar0_0 ar0_1 lr0_2 ar1 a0 kL1 i1 i2 i3 e2 e3 d6 f5 f8 f9 g0 g1 f6 g2 g3 g4 g5 j9 a1 ∧ (Pl e4 c9) ∧ (c6 = i1.length) ∧ (HRs c9 (f25 w) f2 i1) ∧ (c7 = i2.length) ∧ (HRs c9 (f124 w) f3 i2) ∧ (c8 = i3.length) ∧ (HRs c9 (f48 w) f4 i3) ∧ (d6.length = 32) ∧ (f5.length = 32) ∧ (f6.length = 32) ∧ St w w_ (oS b5 e2 e3 d6 39 :: oJ b0 b0_0 f5 f8 f9 g0 g1 f6 g2 g3 98 :: oD b0_0 d0 c6 d1 d2 c7 d3 g4 g5 d4 c8 d5 95 :: .sl d0 d1 c6 f2 25 1 :: .sl d2 d3 c7 f3 124 2 :: .sl d4 d5 c8 f4 48 2 :: .sl a5 a6 a4 a8 104 3 :: oS a3 0 0 (z32) 39 :: .cells a2 [.pointer (sp b0)] 34 :: (c9 ++ R))) (k := s5) ⟨e4, b6, b8, b7, e8, o4, b9, c2, c0, e9, o5, c3, c5, c4, f0, o6, b2, b3, b4, d8, d9, e0, b2, b3, b4, a9, b1, g6, g7, 0, 0, rfl, H, Pl.refl, i9, j0, j1, j2, j3, j4, e1, f1, e1, n4⟩ (fun _ _ h => by obtain ⟨_, _, _, _, _, _, _, _, _, _, _, _, _, _, _, _, _, _, _, _, _, _, _, _, _, _, _, _, _, _, _, _, h, _⟩ := h; exact h.elim) ?_
 rintro kL1 u4 u5 ⟨c9, d0, d1, c6, f2, i1, d2, d3, c7, f3, i2, d4, d5, c8, f4, i3, e2, e3, d6, f5, f8, f9, g0, g1, f6, g2, g3, g4, g5, j9, a1, rfl, H, k0, o8, o9, p0, p1, p2, p3, g9, p4, p5, i4⟩
 refine cr ?_
 refine WL.v (Runs.lss rfl rfl rfl) ?_
 refine wn (CW.seq ?_)
 rcases H with ⟨n5, H⟩ | ⟨n5, H⟩
 ·have n6 : (decide (a1 < (a0.length : Int))) = true := (decide_eq_true n5)
  refine CW.ct rfl n6 ?_
  refine CW.skip (QW.then_n (CW.seq (CW.block (cr ?_))))
  obtain ⟨⟨s6, s7⟩, H⟩ := H
  obtain ⟨u6, p6, s8, s9, t0⟩ := el_get (i := (a1).toNat) (i4.src_sl (k := 6) rfl) (r2.mono (fun _ h_ => k0.1 _ (g8.1 _ h_))) (fz104 w) (by decide) (by omega)
  obtain ⟨e5, e6, e7, n7, t1⟩ := inv104 t0
  replace n7 : s8 = (cu ((gx a0 (a1.toNat)).1)) ++ ((cl e5 e6 e7) ++ (cb ((gx a0 (a1.toNat)).2.2))) := n7
  subst n7
  refine WL.v (Runs.indexAddr Tryd.underlying100 cells104 (by decide) rfl p6 rfl s6 (by rw [show a4 = a0.length from m3]; exact s7) (o := (a1.toNat) * 3) (by first | rfl | omega)) ?_
  refine WL.v (Runs.load_srcR row104 rfl (Src.cut (i4.src_sl (k := 6) rfl) p6 s9) rfl) ?_
  refine WL.alloc i4 zero104 ?_
  intro h0 u7 t2
  refine WL.sm (new := ((cu ((gx a0 (a1.toNat)).1)) ++ ((cl e5 e6 e7) ++ (cb ((gx a0 (a1.toNat)).2.2))))) (i := 0) (pre := (([] : Cs))) (mid := ((cu 0) ++ ((cl none 0 0) ++ (cb false)))) (post := (([] : Cs))) (ms := ((cu ((gx a0 (a1.toNat)).1)) ++ ((cl e5 e6 e7) ++ (cb ((gx a0 (a1.toNat)).2.2))))) t2 rfl row104 (by first | rfl | simp only [aa, an, na, ca]) rfl rfl rfl rfl rfl (one_cat oneU (one_cat oneU oneU)) rfl ?_
  intro k1 k2
  try dsimp only [List.set] at k2
  refine WL.nx (WL.mv rfl ?_)
  refine WL.v (Runs.load_mid row104 rfl k2 (i := 0) rfl (pm [] ((cu ((gx a0 (a1.toNat)).1)) ++ ((cl e5 e6 e7) ++ (cb ((gx a0 (a1.toNat)).2.2)))) []) rfl) ?_
  have n8 := (St.pickT (L := [_, _, _, _, _, _, _, _, _, _]) k2 [2, 3, 4, 5, 6, 1, 0, 7, 8, 9] (by decide))
  have t3 := St.hide (A := [_, _, _, _, _, _]) (B := [_, _, _, _]) (T := c9) (R := R) n8
  obtain ⟨p7, p8, k3, k4, p9, k5, k6, k7, k8, k9, l0, l2, l3, l4, l5, l6, n9, t4, H⟩ := H
  refine WL.callv Wanted.none ent39 rfl rfl (journal_Journal_Append_1.calls w k1 c9 (.cells h0 ((cu ((gx a0 (a1.toNat)).1)) ++ ((cl e5 e6 e7) ++ (cb ((gx a0 (a1.toNat)).2.2)))) 104 :: .sl a5 a6 a4 a8 104 3 :: oS a3 0 0 (z32) 39 :: .cells a2 [.pointer (sp b0)] 34 :: R) ((gx a0 (a1.toNat)).1) ((gx a0 (a1.toNat)).2.1) ((gx a0 (a1.toNat)).2.2) i1 i2 g4 g5 i3 f5 f8 f9 g0 g1 f6 g2 g3 e2 e3 d6 e5 e6 e7 a2 b0 b0_0 d0 c6 d1 f2 d2 c7 d3 f3 d4 c8 d5 f4 b5  t3 hG0 hG1 t1 (o8) o9 (p0) p1 (p2) p3 p4 p5 (fun W_ L_ st hT => st.cell_mem (hT _ (List.mem_append_right _ (List.mem_of_getElem? (i := 3) rfl))) rfl) g9 p7 p8 k3 k4 p9 k5 k6 k7 k8 k9 l0 l2 l3 l4 l5 l6 n9 t4) ?_
  rintro _ t5 ⟨i5, h1, h2, h3, l7, h4, h5, h6, l8, h7, h8, h9, l9, q0, q1, q2, q3, q4, q5, q6, q7, q8, t6, rfl, t7⟩
  have m0 : St w t5 (oJ b0 b0_0 k5 k6 k7 k8 k9 l0 l2 l3 98 :: oD b0_0 h1 h2 h3 h4 h5 h6 k3 k4 h7 h8 h9 95 :: .sl h1 h3 h2 l7 25 1 :: .sl h4 h6 h5 l8 124 2 :: .sl h7 h9 h8 l9 48 2 :: oS b5 l4 l5 l6 39 :: .cells h0 ((cu ((gx a0 (a1.toNat)).1)) ++ ((cl e5 e6 e7) ++ (cb ((gx a0 (a1.toNat)).2.2)))) 104 :: .sl a5 a6 a4 a8 104 3 :: oS a3 0 0 (z32) 39 :: .cells a2 [.pointer (sp b0)] 34 :: (i5 ++ R)) := St.unhide (A := [_, _, _, _, _, _]) (B := [_, _, _, _]) (T := i5) (R := R) t7
  refine ⟨_, rfl, ?_⟩
  refine WL.as rfl (WL.nx (WL.mv rfl ?_))
  refine WL.v (Runs.neq rfl rfl rfl) ?_
  refine wn ?_
  rcases H with ⟨o0, H⟩ | ⟨o0, H⟩
  ·have o1 : (n9 != 0) = true := (bne_iff_ne.mpr o0)
   refine CW.ct rfl o1 ?_
   refine cr ?_
   refine WL.v (Runs.build_struct (ps := [(0, 1), (1, 1), (2, 32)]) (cs := ((cu 0) ++ ((cu 0) ++ iv .u8 (z32)))) plc39 zero39 rfl Fills.nil) ?_
   refine WL.mv rfl ?_
   refine WL.sm (new := ((cu 0) ++ ((cu 0) ++ iv .u8 (z32)))) (i := 8) (pre := (([] : Cs))) (mid := ((cu 0) ++ ((cu 0) ++ iv .u8 (z32)))) (post := (([] : Cs))) (ms := ((cu 0) ++ ((cu 0) ++ iv .u8 (z32)))) m0 rfl row39 (by first | rfl | simp only [aa, an, na, ca]) rfl rfl rfl (by first | rfl | simp only [la, lc, ln, lv, List.length_replicate]) (by first | rfl | simp only [la, lc, ln, lv, List.length_replicate]) (one_cat oneU (one_cat oneU (one_iv _ _))) (by first | rfl | simp only [aa, an, na, ca]) ?_
   intro t8 m1
   try dsimp only [List.set] at m1
   refine WL.as rfl (wn (CW.ret (QW.blk_r (QW.then_r (QW.then_r (QW.blk_r (QW.then_r ?_)))))))
   obtain ⟨rfl, rfl, rfl, rfl, rfl, rfl, rfl, rfl, rfl, rfl, rfl, rfl, rfl, rfl, rfl, rfl, rfl⟩ := H
   exact QW.retN2 rfl (Res.row rfl row39 m1 (i := 8) rfl (by first | rfl | simp only [la, lc, ln, lv, List.length_replicate])) (Res.tmp rfl) ⟨i5, h1, h2, h3, l7, h4, h5, h6, l8, h7, h8, h9, l9, (((d7.trans g8).trans k0).trans q0), q1, q2, q3, q4, q5, q6, q7, q8, (List.length_replicate ..), rfl, (St.pickT (L := [_, _, _, _, _, _, _, _, _, _]) m1 [0, 1, 2, 3, 4] (by decide))⟩
  have o1 : (n9 != 0) = false := (bne_eq_false_iff_eq.mpr (Decidable.not_not.mp o0))
  refine CW.cf rfl o1 ?_
  refine CW.skip (QW.blk_n (QW.then_n (CW.region ?_)))
  refine WL.v (Runs.add rfl rfl rfl) ?_
  refine WL.mv rfl (WL.nil ?_)
  have m0' := (St.pickT (L := [_, _, _, _, _, _, _, _, _, _]) m0 [5, 0, 1, 2, 3, 4, 7, 8, 9] (by decide))
  exact QW.at _ (by repeat' constructor) ⟨i5, h1, h3, h2, l7, p7, h4, h6, h5, l8, p8, h7, h9, h8, l9, p9, l4, l5, l6, k5, k6, k7, k8, k9, l0, l2, l3, k3, k4, j9, IntKind.i64.wrap (a1 + 1), rfl, H, (k0.trans q0), q1, q2, q3, q4, q5, q6, t6, q7, q8, m0'⟩
 have n6 : (decide (a1 < (a0.length : Int))) = false := (decide_eq_false n5)
 refine CW.cf rfl n6 ?_
 refine CW.exit (QW.then_x (QW.then_x (QW.blk_x (QW.then_n (cr ?_)))))
 refine WL.v (Runs.load_mid row39 rfl i4 (i := 0) rfl (pm [] ((cu e2) ++ ((cu e3) ++ iv .u8 d6)) [] (hm := by first | rfl | simp only [la, lc, ln, lv, g9])) (by first | rfl | simp only [la, lc, ln, lv, g9])) ?_
 refine WL.sm (new := ((cu e2) ++ ((cu e3) ++ iv .u8 d6))) (i := 7) (pre := (([] : Cs))) (mid := ((cu 0) ++ ((cu 0) ++ iv .u8 (z32)))) (post := (([] : Cs))) (ms := ((cu e2) ++ ((cu e3) ++ iv .u8 d6))) i4 rfl row39 (by first | rfl | simp only [aa, an, na, ca]) rfl rfl rfl (by first | rfl | simp only [la, lc, ln, lv, g9]) (by first | rfl | simp only [la, lc, ln, lv, List.length_replicate]) (one_cat oneU (one_cat oneU (one_iv _ _))) (by first | rfl | simp only [aa, an, na, ca]) ?_
 intro t9 m2
 try dsimp only [List.set] at m2
 refine WL.as rfl (wn (CW.ret ?_))
 obtain ⟨rfl, rfl, rfl, rfl, rfl, rfl, rfl, rfl, rfl, rfl, rfl, rfl, rfl, rfl, rfl, rfl, rfl⟩ := H
 exact QW.retN2 rfl (Res.row rfl row39 m2 (i := 7) rfl (by first | rfl | simp only [la, lc, ln, lv, g9])) (Res.tmp rfl) ⟨c9, d0, c6, d1, f2, d2, c7, d3, f3, d4, c8, d5, f4, ((d7.trans g8).trans k0), o8, o9, p0, p1, p2, p3, p4, p5, g9, rfl, (St.pickT (L := [_, _, _, _, _, _, _, _, _]) m2 [1, 2, 3, 4, 5] (by decide))⟩
end Go.Proofs.YtmhcjafkdmcgoaaDoor
