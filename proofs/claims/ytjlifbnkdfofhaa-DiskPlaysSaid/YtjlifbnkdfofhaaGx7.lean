/- Walks: each function computes what its relation says, and a call of it ends so. Printed by a program of this session (wip/gen). -/
import Derived.Test.YtjlifbnkdfofhaaGx6
namespace Go.Proofs.Ytjlifbnkdfofhaa
open Go Go.Kr Go.RowKit
set_option linter.unusedVariables false
set_option linter.unusedSimpArgs false
/-! ### reliquarylaw06_DiskPlays: function 6 -/
def reliquarylaw06_DiskPlays.L1 (l1 : List R33) : Nat → Bool → Int → Prop
 | 0, _, _ => False
 | kL1 + 1, b_47, x_48 => ((x_48 < (l1.length : Int) ∧ ((x_48 < 40 ∧ True) ∨ (¬ (x_48 < 40) ∧ True))) ∨ (¬ (x_48 < (l1.length : Int)) ∧ True))
def reliquarylaw06_DiskPlays.L2 (l1 : List R33) : Nat → (List R22) → (List R69) → (List R71) → Int → (List R86) → (List R86) → Int → Bool → (List R81) → Int → Bool → Bool → Int → Prop
 | 0, _, _, _, _, _, _, _, _, _, _, _, _, _ => False
 | kL2 + 1, l_146, l_153, l_160, x_167, l_171, l_176, x_178, b_179, l_183, x_185, b_186, b_187, x_188 => ((x_188 < (l1.length : Int) ∧ ((x_188 < 40 ∧ ((0 ≤ x_188 ∧ x_188 < (l1.length : Int)) ∧ (∃ (l_225_0 : List R22) (l_225_1 : List R69) (a_229_2 : Int) (a_229_3 : Bool) (l_225_4 : List R71) (a_231_0 : Int) (l_235_1 : List R86) (l_235_2 : List R86) (a_231_3 : Int) (a_231_4 : Bool) (l_235_5 : List R81) (a_239 : Bool), reliquarylaw06_step.rel l_146 l_153 x_185 b_186 l_160 x_167 l_171 l_176 x_178 b_179 l_183 ((gx l1 (x_188.toNat)).1) ((gx l1 (x_188.toNat)).2.1) ((gx l1 (x_188.toNat)).2.2.1) ((gx l1 (x_188.toNat)).2.2.2.1) ((gx l1 (x_188.toNat)).2.2.2.2) l_225_0 l_225_1 a_229_2 a_229_3 l_225_4 a_231_0 l_235_1 l_235_2 a_231_3 a_231_4 l_235_5 a_239 ∧ (¬ (¬ (a_239 = true)) ∧ (∃ (l_254_0 : List R22) (l_254_1 : List R69) (a_258_2 : Int) (a_258_3 : Bool) (l_254_4 : List R71) (a_260 : Bool), reliquarylaw06_same.rel l_225_0 l_225_1 a_229_2 a_229_3 l_225_4 a_231_0 l_235_1 l_235_2 a_231_3 a_231_4 l_235_5 l_254_0 l_254_1 a_258_2 a_258_3 l_254_4 a_260 ∧ (¬ (¬ (a_260 = true)) ∧ reliquarylaw06_DiskPlays.L2 l1 kL2 l_254_0 l_254_1 l_254_4 a_231_0 l_235_1 l_235_2 a_231_3 a_231_4 l_235_5 a_258_2 a_258_3 b_187 (IntKind.i64.wrap (x_188 + 1)))))))) ∨ (¬ (x_188 < 40) ∧ True))) ∨ (¬ (x_188 < (l1.length : Int)) ∧ True))
def reliquarylaw06_DiskPlays.L3 (l1 : List R33) : Nat → Bool → Int → Prop
 | 0, _, _ => False
 | kL3 + 1, b_353, x_354 => ((x_354 < (l1.length : Int) ∧ ((x_354 < 40 ∧ True) ∨ (¬ (x_354 < 40) ∧ True))) ∨ (¬ (x_354 < (l1.length : Int)) ∧ True))
def reliquarylaw06_DiskPlays.L4 (l1 : List R33) : Nat → (List R22) → (List R69) → (List R71) → Int → (List R86) → (List R86) → Int → Bool → (List R81) → Int → Bool → Bool → Int → Prop
 | 0, _, _, _, _, _, _, _, _, _, _, _, _, _ => False
 | kL4 + 1, l_452, l_459, l_466, x_473, l_477, l_482, x_484, b_485, l_489, x_491, b_492, b_493, x_494 => ((x_494 < (l1.length : Int) ∧ ((x_494 < 40 ∧ ((0 ≤ x_494 ∧ x_494 < (l1.length : Int)) ∧ (∃ (l_531_0 : List R22) (l_531_1 : List R69) (a_535_2 : Int) (a_535_3 : Bool) (l_531_4 : List R71) (a_537_0 : Int) (l_541_1 : List R86) (l_541_2 : List R86) (a_537_3 : Int) (a_537_4 : Bool) (l_541_5 : List R81) (a_545 : Bool), reliquarylaw06_step.rel l_452 l_459 x_491 b_492 l_466 x_473 l_477 l_482 x_484 b_485 l_489 ((gx l1 (x_494.toNat)).1) ((gx l1 (x_494.toNat)).2.1) ((gx l1 (x_494.toNat)).2.2.1) ((gx l1 (x_494.toNat)).2.2.2.1) ((gx l1 (x_494.toNat)).2.2.2.2) l_531_0 l_531_1 a_535_2 a_535_3 l_531_4 a_537_0 l_541_1 l_541_2 a_537_3 a_537_4 l_541_5 a_545 ∧ (¬ (¬ (a_545 = true)) ∧ (∃ (l_560_0 : List R22) (l_560_1 : List R69) (a_564_2 : Int) (a_564_3 : Bool) (l_560_4 : List R71) (a_566 : Bool), reliquarylaw06_same.rel l_531_0 l_531_1 a_535_2 a_535_3 l_531_4 a_537_0 l_541_1 l_541_2 a_537_3 a_537_4 l_541_5 l_560_0 l_560_1 a_564_2 a_564_3 l_560_4 a_566 ∧ (¬ (¬ (a_566 = true)) ∧ reliquarylaw06_DiskPlays.L4 l1 kL4 l_560_0 l_560_1 l_560_4 a_537_0 l_541_1 l_541_2 a_537_3 a_537_4 l_541_5 a_564_2 a_564_3 b_493 (IntKind.i64.wrap (x_494 + 1)))))))) ∨ (¬ (x_494 < 40) ∧ True))) ∨ (¬ (x_494 < (l1.length : Int)) ∧ True))
def reliquarylaw06_DiskPlays.rel (a0 : Int) (l1 : List R33)  : Prop := (reliquarylaw06_awake.rel  ∧ ((a0 > 20 ∧ ((a0 ≤ 4096 ∧ True) ∨ (¬ (a0 ≤ 4096) ∧ (∃ (o_11 : Option ((List R22) × (List R69) × Int × Bool × (List R71))) (a_15 : Int), disk_New.rel a0 o_11 a_15 ∧ ((o_11 = none ∧ (∃ (a_24_0 : Int) (l_28_1 : List R86) (l_28_2 : List R86) (a_24_3 : Int) (a_24_4 : Bool) (l_28_5 : List R81) (a_32 : Int), reliquaryref06_New.rel a0 a_24_0 l_28_1 l_28_2 a_24_3 a_24_4 l_28_5 a_32 ∧ (¬ ((1 : Int) ≠ a_32) ∧ (∃ k_ : Nat, reliquarylaw06_DiskPlays.L1 l1 k_ false 0)))) ∨ (∃ (l_63_0 : List R22) (l_63_1 : List R69) (a_67_2 : Int) (a_67_3 : Bool) (l_63_4 : List R71), o_11 = some (l_63_0, l_63_1, a_67_2, a_67_3, l_63_4) ∧ (∃ (a_78_0 : Int) (l_82_1 : List R86) (l_82_2 : List R86) (a_78_3 : Int) (a_78_4 : Bool) (l_82_5 : List R81) (a_86 : Int), reliquaryref06_New.rel a0 a_78_0 l_82_1 l_82_2 a_78_3 a_78_4 l_82_5 a_86 ∧ (¬ ((0 : Int) ≠ a_86) ∧ (∃ k_ : Nat, reliquarylaw06_DiskPlays.L2 l1 k_ l_63_0 l_63_1 l_63_4 a_78_0 l_82_1 l_82_2 a_78_3 a_78_4 l_82_5 a_67_2 a_67_3 false 0))))))))) ∨ (¬ (a0 > 20) ∧ (∃ (o_317 : Option ((List R22) × (List R69) × Int × Bool × (List R71))) (a_321 : Int), disk_New.rel a0 o_317 a_321 ∧ ((o_317 = none ∧ (∃ (a_330_0 : Int) (l_334_1 : List R86) (l_334_2 : List R86) (a_330_3 : Int) (a_330_4 : Bool) (l_334_5 : List R81) (a_338 : Int), reliquaryref06_New.rel a0 a_330_0 l_334_1 l_334_2 a_330_3 a_330_4 l_334_5 a_338 ∧ (¬ ((1 : Int) ≠ a_338) ∧ (∃ k_ : Nat, reliquarylaw06_DiskPlays.L3 l1 k_ false 0)))) ∨ (∃ (l_369_0 : List R22) (l_369_1 : List R69) (a_373_2 : Int) (a_373_3 : Bool) (l_369_4 : List R71), o_317 = some (l_369_0, l_369_1, a_373_2, a_373_3, l_369_4) ∧ (∃ (a_384_0 : Int) (l_388_1 : List R86) (l_388_2 : List R86) (a_384_3 : Int) (a_384_4 : Bool) (l_388_5 : List R81) (a_392 : Int), reliquaryref06_New.rel a0 a_384_0 l_388_1 l_388_2 a_384_3 a_384_4 l_388_5 a_392 ∧ (¬ ((0 : Int) ≠ a_392) ∧ (∃ k_ : Nat, reliquarylaw06_DiskPlays.L4 l1 k_ l_369_0 l_369_1 l_369_4 a_384_0 l_388_1 l_388_2 a_384_3 a_384_4 l_388_5 a_373_2 a_373_3 false 0)))))))))
set_option maxHeartbeats 4000000 in
set_option maxRecDepth 100000 in
theorem reliquarylaw06_DiskPlays.calls (w : World) (a0 : Int) (l1 : List R33) (A1 : Option Addr) (n1 : Nat) (c1 : Nat)  (hb1 : HS w [] [] A1 n1 c1 (f33 w) l1)  (H : reliquarylaw06_DiskPlays.rel a0 l1 ) :
  Calls Try.prog 6 #[.int .i64 a0, .slice A1 n1 c1] w fun e w' => e = .returned (.bool true) ∧ Below w.heap.size w w' := by
 refine CW.enter Try.func6 rfl (n := 73) rfl [.int .i64 a0, .slice A1 n1 c1] (Nat.le_of_ble_eq_true rfl) ?_
 refine CW.sub [(0, .int .i64 a0), (1, .slice A1 n1 c1)] ⟨rfl, rfl, trivial⟩ ?_
 obtain ⟨T, R, hT, hR, st0⟩ := St.start w
 have hT0 : Pl [] T := ⟨fun _ h_ => (by cases h_), fun _ => hT⟩
 refine CW.seq (CW.region ?_)
 refine WL.val Wanted.none (Runs.assign rfl) ?_
 refine WL.nil (QW.then_n ?_)
 refine CW.seq (CW.region ?_)
 obtain ⟨hr_1, H⟩ := H
 refine WL.call Wanted.none ent9 rfl (reliquarylaw06_awake.calls w hr_1) ?_
 rintro _ w_2 ⟨rfl, sc_4⟩
 have st_3 : St w w_2 ((T ++ R)) := st0.below sc_4
 refine ⟨_, rfl, ?_⟩
 refine WL.val Wanted.none (Runs.assign rfl) ?_
 refine WL.nil (QW.then_n ?_)
 refine CW.seq ?_
 refine CW.seq (CW.region ?_)
 refine WL.val Wanted.none (Runs.move rfl) ?_
 refine WL.val Wanted.none (Runs.not rfl rfl) ?_
 refine WL.nil (QW.then_n ?_)
 refine CW.cf rfl rfl ?_
 refine CW.skip ?_
 refine QW.then_n ?_
 refine CW.seq ?_
 refine CW.seq (CW.region ?_)
 refine WL.val Wanted.none (Runs.move rfl) ?_
 refine WL.val Wanted.none (Runs.gtr rfl rfl rfl) ?_
 refine WL.val Wanted.none (Runs.move rfl) ?_
 rcases H with ⟨c_5, H⟩ | ⟨c_5, H⟩
 ·have h_6 : (decide (a0 > 20)) = true := (decide_eq_true c_5)
  refine WL.on ?_ ?_; exact Wanted.guard (dj := 17) (by rfl) (evb (by rfl) h_6) (by rfl)
  refine WL.val Wanted.none (Runs.move rfl) ?_
  refine WL.on ?_ ?_; exact Wanted.guard (dj := 17) (by rfl) (evb (by rfl) h_6) (by rfl)
  refine WL.val Wanted.none (Runs.leq rfl rfl rfl) ?_
  refine WL.val Wanted.none (Runs.pick_t (evb rfl h_6) rfl) ?_
  refine WL.nil (QW.then_n ?_)
  refine CW.sub [(0, .int .i64 a0), (1, .slice A1 n1 c1), (4, .bool false), (20, .bool (decide (a0 ≤ 4096)))] ⟨rfl, rfl, rfl, rfl, trivial⟩ ?_
  rcases H with ⟨c_7, H⟩ | ⟨c_7, H⟩
  ·have h_8 : (decide (a0 ≤ 4096)) = true := (decide_eq_true c_7)
   refine CW.ct rfl h_8 ?_
   refine CW.seq (CW.region ?_)
   refine WL.val Wanted.none (Runs.assign rfl) ?_
   refine WL.nil (QW.then_n ?_)
   refine CW.ret ?_
   refine QW.then_r ?_
   exact QW.ret1 rfl rfl ⟨rfl, st_3.ext⟩
  ·have h_8 : (decide (a0 ≤ 4096)) = false := (decide_eq_false c_7)
   refine CW.cf rfl h_8 ?_
   refine CW.skip ?_
   refine QW.then_n ?_
   refine CW.seq (CW.region ?_)
   refine WL.val Wanted.none (Runs.move rfl) ?_
   have st_9 : St w w_2 ((T ++ (R))) := St.hide (A := []) (B := []) (T := T) (R := R) st_3
   obtain ⟨o_11, a_15, hr_10, H⟩ := H
   rcases H with ⟨rfl, H⟩ | ⟨l_63_0, l_63_1, a_67_2, a_67_3, l_63_4, rfl, H⟩
   ·refine WL.call Wanted.none ent10 rfl (disk_New.calls_nil w w_2 T (R) a0  st_9 a_15 none rfl hr_10) ?_
    rintro _ w_16 ⟨T_12, hs_13, rfl, sc_18⟩
    have st_17 : St w w_16 ((T_12 ++ R)) := St.unhide (A := []) (B := []) (T := T_12) (R := R) sc_18
    refine ⟨_, rfl, ?_⟩
    refine WL.val Wanted.none (Runs.move rfl) ?_
    refine WL.val Wanted.none (Runs.extract rfl rfl) ?_
    refine WL.val Wanted.none (Runs.extract rfl rfl) ?_
    refine WL.val Wanted.none (Runs.assign rfl) ?_
    refine WL.val Wanted.none (Runs.assign rfl) ?_
    refine WL.nil (QW.then_n ?_)
    refine CW.sub [(0, .int .i64 a0), (1, .slice A1 n1 c1), (4, .bool false), (6, .pointer none), (7, .int .i64 1)] ⟨rfl, rfl, rfl, rfl, rfl, trivial⟩ ?_
    refine CW.seq (CW.region ?_)
    refine WL.val Wanted.none (Runs.move rfl) ?_
    have st_19 : St w w_16 ((T_12 ++ (R))) := St.hide (A := []) (B := []) (T := T_12) (R := R) st_17
    obtain ⟨a_24_0, l_28_1, l_28_2, a_24_3, a_24_4, l_28_5, a_32, hr_20, H⟩ := H
    refine WL.call Wanted.none ent18 rfl (reliquaryref06_New.calls w w_16 T_12 (R) a0  st_19 a_24_0 l_28_1 l_28_2 a_24_3 a_24_4 l_28_5 a_32 hr_20) ?_
    rintro _ w_33 ⟨T_21, A_25_1, n_26_1, c_27_1, A_25_2, n_26_2, c_27_2, A_25_5, n_26_5, c_27_5, hs_22, hb_30_1, hb_30_2, hb_30_5, rfl, sc_35⟩
    have st_34 : St w w_33 ((T_21 ++ R)) := St.unhide (A := []) (B := []) (T := T_21) (R := R) sc_35
    refine ⟨_, rfl, ?_⟩
    refine WL.val Wanted.none (Runs.move rfl) ?_
    refine WL.val Wanted.none (Runs.extract rfl rfl) ?_
    refine WL.val Wanted.none (Runs.extract rfl rfl) ?_
    refine WL.alloc st_34 zero48 ?_
    intro B_36 w_37 st_38
    replace st_38 : St w w_37 (.cells B_36 (([.int .i64 0] : Cells) ++ (([.slice none 0 0] : Cells) ++ (([.slice none 0 0] : Cells) ++ (([.int .i64 0] : Cells) ++ (([.bool false] : Cells) ++ ([.slice none 0 0] : Cells)))))) 48 :: (T_21 ++ R)) := st_38
    refine WL.store_mid (i := 0) (pre := (([] : Cells))) (mid := (([.int .i64 0] : Cells) ++ (([.slice none 0 0] : Cells) ++ (([.slice none 0 0] : Cells) ++ (([.int .i64 0] : Cells) ++ (([.bool false] : Cells) ++ ([.slice none 0 0] : Cells))))))) (post := (([] : Cells))) (ms := (([.int .i64 a_24_0] : Cells) ++ (([.slice A_25_1 n_26_1 c_27_1] : Cells) ++ (([.slice A_25_2 n_26_2 c_27_2] : Cells) ++ (([.int .i64 a_24_3] : Cells) ++ (([.bool a_24_4] : Cells) ++ ([.slice A_25_5 n_26_5 c_27_5] : Cells))))))) st_38 rfl row48 (by first | rfl | simp only [List.append_assoc, List.append_nil, List.nil_append, List.cons_append]) (by first | rfl | simp only [List.length_append, List.length_cons, List.length_nil, iv_length]) rfl rfl (by first | rfl | simp only [List.length_append, List.length_cons, List.length_nil, iv_length]) (by first | rfl | simp only [List.length_append, List.length_cons, List.length_nil, iv_length]) (by intro u hu; simp only [List.mem_append, List.mem_singleton] at hu; rcases hu with hu | hu | hu | hu | hu | hu <;> first | exact one_iv _ _ u hu | (subst hu; rfl)) ?_
    intro w_40 st_41
    replace st_41 : St w w_40 (.cells B_36 (([.int .i64 a_24_0] : Cells) ++ (([.slice A_25_1 n_26_1 c_27_1] : Cells) ++ (([.slice A_25_2 n_26_2 c_27_2] : Cells) ++ (([.int .i64 a_24_3] : Cells) ++ (([.bool a_24_4] : Cells) ++ ([.slice A_25_5 n_26_5 c_27_5] : Cells)))))) 48 :: (T_21 ++ R)) := by have e_ : (([.int .i64 a_24_0] : Cells) ++ (([.slice A_25_1 n_26_1 c_27_1] : Cells) ++ (([.slice A_25_2 n_26_2 c_27_2] : Cells) ++ (([.int .i64 a_24_3] : Cells) ++ (([.bool a_24_4] : Cells) ++ ([.slice A_25_5 n_26_5 c_27_5] : Cells)))))) = (([] : Cells)) ++ ((([.int .i64 a_24_0] : Cells) ++ (([.slice A_25_1 n_26_1 c_27_1] : Cells) ++ (([.slice A_25_2 n_26_2 c_27_2] : Cells) ++ (([.int .i64 a_24_3] : Cells) ++ (([.bool a_24_4] : Cells) ++ ([.slice A_25_5 n_26_5 c_27_5] : Cells)))))) ++ (([] : Cells))) := (by first | rfl | simp only [List.append_assoc, List.append_nil, List.nil_append, List.cons_append]); have h_ : St w w_40 (.cells B_36 ((([] : Cells)) ++ ((([.int .i64 a_24_0] : Cells) ++ (([.slice A_25_1 n_26_1 c_27_1] : Cells) ++ (([.slice A_25_2 n_26_2 c_27_2] : Cells) ++ (([.int .i64 a_24_3] : Cells) ++ (([.bool a_24_4] : Cells) ++ ([.slice A_25_5 n_26_5 c_27_5] : Cells)))))) ++ (([] : Cells)))) 48 :: (T_21 ++ R)) := st_41; rw [← e_] at h_; exact h_
    refine WL.val Wanted.none (Runs.assign rfl) ?_
    refine WL.nil (QW.then_n ?_)
    refine CW.sub [(1, .slice A1 n1 c1), (4, .bool false), (6, .pointer none), (7, .int .i64 1), (8, .pointer (some ⟨B_36, 0, none⟩)), (9, .int .i64 a_32)] (by repeat' constructor) ?_
    refine CW.seq ?_
    refine CW.seq (CW.region ?_)
    refine WL.val Wanted.none (Runs.move rfl) ?_
    refine WL.val Wanted.none (Runs.move rfl) ?_
    refine WL.val Wanted.none (Runs.neq rfl rfl rfl) ?_
    refine WL.val Wanted.none (Runs.move rfl) ?_
    obtain ⟨c_42, H⟩ := H
    have h_43 : ((1 : Int) != a_32) = false := (bne_eq_false_iff_eq.mpr (Decidable.not_not.mp c_42))
    refine WL.on ?_ ?_; exact Wanted.guard (dj := 34) (by rfl) (evb (by rfl) h_43) (by rfl)
    refine WL.val Wanted.none (Runs.move rfl) ?_
    refine WL.on ?_ ?_; exact Wanted.guard (dj := 34) (by rfl) (evb (by rfl) h_43) (by rfl)
    refine WL.val Wanted.none (Runs.eql_ptr Try.underlying25 rfl rfl rfl) ?_
    refine WL.on ?_ ?_; exact Wanted.guard (dj := 34) (by rfl) (evb (by rfl) h_43) (by rfl)
    refine WL.val Wanted.none (Runs.move rfl) ?_
    refine WL.on ?_ ?_; exact Wanted.guard (dj := 34) (by rfl) (evb (by rfl) h_43) (by rfl)
    refine WL.val Wanted.none (Runs.neq (b := true) rfl rfl (by decide)) ?_
    refine WL.on ?_ ?_; exact Wanted.guard (dj := 34) (by rfl) (evb (by rfl) h_43) (by rfl)
    refine WL.val Wanted.none (Runs.neb Try.underlying4 rfl rfl rfl) ?_
    refine WL.val Wanted.none (Runs.pick_f (evb rfl h_43) rfl) ?_
    refine WL.nil (QW.then_n ?_)
    refine CW.sub [(1, .slice A1 n1 c1), (4, .bool false), (6, .pointer none), (7, .int .i64 1), (8, .pointer (some ⟨B_36, 0, none⟩)), (40, .bool false)] (by repeat' constructor) ?_
    refine CW.cf rfl rfl ?_
    refine CW.skip ?_
    refine QW.then_n ?_
    refine CW.seq ?_
    refine CW.seq (CW.region ?_)
    refine WL.val Wanted.none (Runs.assign rfl) ?_
    refine WL.nil (QW.then_n ?_)
    refine CW.block ?_
    obtain ⟨k_44, H⟩ := H
    refine CW.sub [(1, .slice A1 n1 c1), (4, .bool false), (6, .pointer none), (7, .int .i64 1), (8, .pointer (some ⟨B_36, 0, none⟩)), (10, .int .i64 0)] (by repeat' constructor) ?_
    refine CW.loop (fun kL1 l_ w_ => ∃ (T_45 : Pool) (b_47 : Bool) (x_48 : Int), l_ = [(1, .slice A1 n1 c1), (4, .bool b_47), (6, .pointer none), (7, .int .i64 1), (8, .pointer (some ⟨B_36, 0, none⟩)), (10, .int .i64 x_48)] ∧ reliquarylaw06_DiskPlays.L1 l1 kL1 b_47 x_48 ∧ (Pl T_21 T_45) ∧ St w w_ (.cells B_36 (([.int .i64 a_24_0] : Cells) ++ (([.slice A_25_1 n_26_1 c_27_1] : Cells) ++ (([.slice A_25_2 n_26_2 c_27_2] : Cells) ++ (([.int .i64 a_24_3] : Cells) ++ (([.bool a_24_4] : Cells) ++ ([.slice A_25_5 n_26_5 c_27_5] : Cells)))))) 48 :: (T_45 ++ R))) (k := k_44) ⟨T_21, false, 0, rfl, H, Pl.refl, st_41⟩ (fun _ _ h => by obtain ⟨_, _, _, _, h, _⟩ := h; exact h.elim) ?_
    rintro kL1 l_51 w_49 ⟨T_45, b_47, x_48, rfl, H, hs_46, st_50⟩
    refine CW.seq ?_
    refine CW.seq (CW.region ?_)
    refine WL.val Wanted.none (Runs.move rfl) ?_
    refine WL.val Wanted.none (Runs.move rfl) ?_
    refine WL.val Wanted.none (Runs.len_sl Try.underlying44 rfl (by rw [hb1.1])) ?_
    refine WL.val Wanted.none (Runs.lss rfl rfl rfl) ?_
    refine WL.val Wanted.none (Runs.move rfl) ?_
    rcases H with ⟨c_52, H⟩ | ⟨c_52, H⟩
    ·have h_53 : (decide (x_48 < (l1.length : Int))) = true := (decide_eq_true c_52)
     refine WL.on ?_ ?_; exact Wanted.guard (dj := 45) (by rfl) (evb (by rfl) h_53) (by rfl)
     refine WL.val Wanted.none (Runs.move rfl) ?_
     refine WL.on ?_ ?_; exact Wanted.guard (dj := 45) (by rfl) (evb (by rfl) h_53) (by rfl)
     refine WL.val Wanted.none (Runs.lss rfl rfl rfl) ?_
     refine WL.val Wanted.none (Runs.pick_t (evb rfl h_53) rfl) ?_
     refine WL.val Wanted.none (Runs.move rfl) ?_
     rcases H with ⟨c_54, H⟩ | ⟨c_54, H⟩
     ·have h_55 : (decide (x_48 < 40)) = true := (decide_eq_true c_54)
      refine WL.on ?_ ?_; exact Wanted.guard (dj := 49) (by rfl) (evb (by rfl) h_55) (by rfl)
      refine WL.val Wanted.none (Runs.move rfl) ?_
      refine WL.on ?_ ?_; exact Wanted.guard (dj := 49) (by rfl) (evb (by rfl) h_55) (by rfl)
      refine WL.val Wanted.none (Runs.eql (b := false) rfl rfl (by decide)) ?_
      refine WL.val Wanted.none (Runs.pick_t (evb rfl h_55) rfl) ?_
      refine WL.nil (QW.then_n ?_)
      refine CW.cf rfl rfl ?_
      refine CW.exit ?_
      refine QW.then_x ?_
      refine QW.then_x ?_
      refine QW.blk_x ?_
      refine QW.then_n ?_
      refine CW.sub [(4, .bool b_47)] ⟨rfl, trivial⟩ ?_
      refine CW.seq (CW.region ?_)
      refine WL.val Wanted.none (Runs.assign rfl) ?_
      refine WL.nil (QW.then_n ?_)
      refine CW.ret ?_
      exact QW.ret1 rfl rfl ⟨rfl, st_50.ext⟩
     ·have h_55 : (decide (x_48 < 40)) = false := (decide_eq_false c_54)
      refine WL.off ?_ ?_; exact Wanted.guard (dj := 49) (by rfl) (evb (by rfl) h_55) (by rfl)
      refine WL.off ?_ ?_; exact Wanted.guard (dj := 49) (by rfl) (evb (by rfl) h_55) (by rfl)
      refine WL.val Wanted.none (Runs.pick_f (evb rfl h_55) rfl) ?_
      refine WL.nil (QW.then_n ?_)
      refine CW.cf rfl rfl ?_
      refine CW.exit ?_
      refine QW.then_x ?_
      refine QW.then_x ?_
      refine QW.blk_x ?_
      refine QW.then_n ?_
      refine CW.sub [(4, .bool b_47)] ⟨rfl, trivial⟩ ?_
      refine CW.seq (CW.region ?_)
      refine WL.val Wanted.none (Runs.assign rfl) ?_
      refine WL.nil (QW.then_n ?_)
      refine CW.ret ?_
      exact QW.ret1 rfl rfl ⟨rfl, st_50.ext⟩
    ·have h_53 : (decide (x_48 < (l1.length : Int))) = false := (decide_eq_false c_52)
     refine WL.off ?_ ?_; exact Wanted.guard (dj := 45) (by rfl) (evb (by rfl) h_53) (by rfl)
     refine WL.off ?_ ?_; exact Wanted.guard (dj := 45) (by rfl) (evb (by rfl) h_53) (by rfl)
     refine WL.val Wanted.none (Runs.pick_f (evb rfl h_53) rfl) ?_
     refine WL.val Wanted.none (Runs.move rfl) ?_
     refine WL.off ?_ ?_; exact Wanted.guard (dj := 49) (by rfl) (by rfl) (by rfl)
     refine WL.off ?_ ?_; exact Wanted.guard (dj := 49) (by rfl) (by rfl) (by rfl)
     refine WL.val Wanted.none (Runs.pick_f rfl rfl) ?_
     refine WL.nil (QW.then_n ?_)
     refine CW.cf rfl rfl ?_
     refine CW.exit ?_
     refine QW.then_x ?_
     refine QW.then_x ?_
     refine QW.blk_x ?_
     refine QW.then_n ?_
     refine CW.sub [(4, .bool b_47)] ⟨rfl, trivial⟩ ?_
     refine CW.seq (CW.region ?_)
     refine WL.val Wanted.none (Runs.assign rfl) ?_
     refine WL.nil (QW.then_n ?_)
     refine CW.ret ?_
     exact QW.ret1 rfl rfl ⟨rfl, st_50.ext⟩
   ·refine WL.call Wanted.none ent10 rfl (disk_New.calls_obj w w_2 T (R) a0  st_9 l_63_0 l_63_1 a_67_2 a_67_3 l_63_4 a_15 (some (l_63_0, l_63_1, a_67_2, a_67_3, l_63_4)) rfl hr_10) ?_
    rintro _ w_70 ⟨T_56, b_59, A_60_0, n_61_0, c_62_0, x_64_0, A_60_1, n_61_1, c_62_1, x_64_1, A_60_4, n_61_4, c_62_4, x_64_4, hs_57, hn_65_0, hx_66_0, hn_65_1, hx_66_1, hn_65_4, hx_66_4, rfl, sc_72⟩
    have st_71 : St w w_70 (.cells b_59 (([.slice A_60_0 n_61_0 c_62_0] : Cells) ++ (([.slice A_60_1 n_61_1 c_62_1] : Cells) ++ (([.int .i64 a_67_2] : Cells) ++ (([.bool a_67_3] : Cells) ++ ([.slice A_60_4 n_61_4 c_62_4] : Cells))))) 66 :: .sl A_60_0 c_62_0 n_61_0 x_64_0 22 1 :: .sl A_60_1 c_62_1 n_61_1 x_64_1 69 2 :: .sl A_60_4 c_62_4 n_61_4 x_64_4 71 2 :: (T_56 ++ R)) := St.unhide (A := [_, _, _, _]) (B := []) (T := T_56) (R := R) sc_72
    refine ⟨_, rfl, ?_⟩
    refine WL.val Wanted.none (Runs.move rfl) ?_
    refine WL.val Wanted.none (Runs.extract rfl rfl) ?_
    refine WL.val Wanted.none (Runs.extract rfl rfl) ?_
    refine WL.val Wanted.none (Runs.assign rfl) ?_
    refine WL.val Wanted.none (Runs.assign rfl) ?_
    refine WL.nil (QW.then_n ?_)
    refine CW.sub [(0, .int .i64 a0), (1, .slice A1 n1 c1), (4, .bool false), (6, .pointer (some ⟨b_59, 0, none⟩)), (7, .int .i64 0)] ⟨rfl, rfl, rfl, rfl, rfl, trivial⟩ ?_
    refine CW.seq (CW.region ?_)
    refine WL.val Wanted.none (Runs.move rfl) ?_
    have st_73 : St w w_70 ((T_56 ++ (.cells b_59 (([.slice A_60_0 n_61_0 c_62_0] : Cells) ++ (([.slice A_60_1 n_61_1 c_62_1] : Cells) ++ (([.int .i64 a_67_2] : Cells) ++ (([.bool a_67_3] : Cells) ++ ([.slice A_60_4 n_61_4 c_62_4] : Cells))))) 66 :: .sl A_60_0 c_62_0 n_61_0 x_64_0 22 1 :: .sl A_60_1 c_62_1 n_61_1 x_64_1 69 2 :: .sl A_60_4 c_62_4 n_61_4 x_64_4 71 2 :: R))) := St.hide (A := []) (B := [_, _, _, _]) (T := T_56) (R := R) st_71
    obtain ⟨a_78_0, l_82_1, l_82_2, a_78_3, a_78_4, l_82_5, a_86, hr_74, H⟩ := H
    refine WL.call Wanted.none ent18 rfl (reliquaryref06_New.calls w w_70 T_56 (.cells b_59 (([.slice A_60_0 n_61_0 c_62_0] : Cells) ++ (([.slice A_60_1 n_61_1 c_62_1] : Cells) ++ (([.int .i64 a_67_2] : Cells) ++ (([.bool a_67_3] : Cells) ++ ([.slice A_60_4 n_61_4 c_62_4] : Cells))))) 66 :: .sl A_60_0 c_62_0 n_61_0 x_64_0 22 1 :: .sl A_60_1 c_62_1 n_61_1 x_64_1 69 2 :: .sl A_60_4 c_62_4 n_61_4 x_64_4 71 2 :: R) a0  st_73 a_78_0 l_82_1 l_82_2 a_78_3 a_78_4 l_82_5 a_86 hr_74) ?_
    rintro _ w_87 ⟨T_75, A_79_1, n_80_1, c_81_1, A_79_2, n_80_2, c_81_2, A_79_5, n_80_5, c_81_5, hs_76, hb_84_1, hb_84_2, hb_84_5, rfl, sc_89⟩
    have st_88 : St w w_87 (.cells b_59 (([.slice A_60_0 n_61_0 c_62_0] : Cells) ++ (([.slice A_60_1 n_61_1 c_62_1] : Cells) ++ (([.int .i64 a_67_2] : Cells) ++ (([.bool a_67_3] : Cells) ++ ([.slice A_60_4 n_61_4 c_62_4] : Cells))))) 66 :: .sl A_60_0 c_62_0 n_61_0 x_64_0 22 1 :: .sl A_60_1 c_62_1 n_61_1 x_64_1 69 2 :: .sl A_60_4 c_62_4 n_61_4 x_64_4 71 2 :: (T_75 ++ R)) := St.unhide (A := []) (B := [_, _, _, _]) (T := T_75) (R := R) sc_89
    refine ⟨_, rfl, ?_⟩
    refine WL.val Wanted.none (Runs.move rfl) ?_
    refine WL.val Wanted.none (Runs.extract rfl rfl) ?_
    refine WL.val Wanted.none (Runs.extract rfl rfl) ?_
    refine WL.alloc st_88 zero48 ?_
    intro B_90 w_91 st_92
    replace st_92 : St w w_91 (.cells B_90 (([.int .i64 0] : Cells) ++ (([.slice none 0 0] : Cells) ++ (([.slice none 0 0] : Cells) ++ (([.int .i64 0] : Cells) ++ (([.bool false] : Cells) ++ ([.slice none 0 0] : Cells)))))) 48 :: .cells b_59 (([.slice A_60_0 n_61_0 c_62_0] : Cells) ++ (([.slice A_60_1 n_61_1 c_62_1] : Cells) ++ (([.int .i64 a_67_2] : Cells) ++ (([.bool a_67_3] : Cells) ++ ([.slice A_60_4 n_61_4 c_62_4] : Cells))))) 66 :: .sl A_60_0 c_62_0 n_61_0 x_64_0 22 1 :: .sl A_60_1 c_62_1 n_61_1 x_64_1 69 2 :: .sl A_60_4 c_62_4 n_61_4 x_64_4 71 2 :: (T_75 ++ R)) := st_92
    refine WL.store_mid (i := 0) (pre := (([] : Cells))) (mid := (([.int .i64 0] : Cells) ++ (([.slice none 0 0] : Cells) ++ (([.slice none 0 0] : Cells) ++ (([.int .i64 0] : Cells) ++ (([.bool false] : Cells) ++ ([.slice none 0 0] : Cells))))))) (post := (([] : Cells))) (ms := (([.int .i64 a_78_0] : Cells) ++ (([.slice A_79_1 n_80_1 c_81_1] : Cells) ++ (([.slice A_79_2 n_80_2 c_81_2] : Cells) ++ (([.int .i64 a_78_3] : Cells) ++ (([.bool a_78_4] : Cells) ++ ([.slice A_79_5 n_80_5 c_81_5] : Cells))))))) st_92 rfl row48 (by first | rfl | simp only [List.append_assoc, List.append_nil, List.nil_append, List.cons_append]) (by first | rfl | simp only [List.length_append, List.length_cons, List.length_nil, iv_length]) rfl rfl (by first | rfl | simp only [List.length_append, List.length_cons, List.length_nil, iv_length]) (by first | rfl | simp only [List.length_append, List.length_cons, List.length_nil, iv_length]) (by intro u hu; simp only [List.mem_append, List.mem_singleton] at hu; rcases hu with hu | hu | hu | hu | hu | hu <;> first | exact one_iv _ _ u hu | (subst hu; rfl)) ?_
    intro w_94 st_95
    replace st_95 : St w w_94 (.cells B_90 (([.int .i64 a_78_0] : Cells) ++ (([.slice A_79_1 n_80_1 c_81_1] : Cells) ++ (([.slice A_79_2 n_80_2 c_81_2] : Cells) ++ (([.int .i64 a_78_3] : Cells) ++ (([.bool a_78_4] : Cells) ++ ([.slice A_79_5 n_80_5 c_81_5] : Cells)))))) 48 :: .cells b_59 (([.slice A_60_0 n_61_0 c_62_0] : Cells) ++ (([.slice A_60_1 n_61_1 c_62_1] : Cells) ++ (([.int .i64 a_67_2] : Cells) ++ (([.bool a_67_3] : Cells) ++ ([.slice A_60_4 n_61_4 c_62_4] : Cells))))) 66 :: .sl A_60_0 c_62_0 n_61_0 x_64_0 22 1 :: .sl A_60_1 c_62_1 n_61_1 x_64_1 69 2 :: .sl A_60_4 c_62_4 n_61_4 x_64_4 71 2 :: (T_75 ++ R)) := by have e_ : (([.int .i64 a_78_0] : Cells) ++ (([.slice A_79_1 n_80_1 c_81_1] : Cells) ++ (([.slice A_79_2 n_80_2 c_81_2] : Cells) ++ (([.int .i64 a_78_3] : Cells) ++ (([.bool a_78_4] : Cells) ++ ([.slice A_79_5 n_80_5 c_81_5] : Cells)))))) = (([] : Cells)) ++ ((([.int .i64 a_78_0] : Cells) ++ (([.slice A_79_1 n_80_1 c_81_1] : Cells) ++ (([.slice A_79_2 n_80_2 c_81_2] : Cells) ++ (([.int .i64 a_78_3] : Cells) ++ (([.bool a_78_4] : Cells) ++ ([.slice A_79_5 n_80_5 c_81_5] : Cells)))))) ++ (([] : Cells))) := (by first | rfl | simp only [List.append_assoc, List.append_nil, List.nil_append, List.cons_append]); have h_ : St w w_94 (.cells B_90 ((([] : Cells)) ++ ((([.int .i64 a_78_0] : Cells) ++ (([.slice A_79_1 n_80_1 c_81_1] : Cells) ++ (([.slice A_79_2 n_80_2 c_81_2] : Cells) ++ (([.int .i64 a_78_3] : Cells) ++ (([.bool a_78_4] : Cells) ++ ([.slice A_79_5 n_80_5 c_81_5] : Cells)))))) ++ (([] : Cells)))) 48 :: .cells b_59 (([.slice A_60_0 n_61_0 c_62_0] : Cells) ++ (([.slice A_60_1 n_61_1 c_62_1] : Cells) ++ (([.int .i64 a_67_2] : Cells) ++ (([.bool a_67_3] : Cells) ++ ([.slice A_60_4 n_61_4 c_62_4] : Cells))))) 66 :: .sl A_60_0 c_62_0 n_61_0 x_64_0 22 1 :: .sl A_60_1 c_62_1 n_61_1 x_64_1 69 2 :: .sl A_60_4 c_62_4 n_61_4 x_64_4 71 2 :: (T_75 ++ R)) := st_95; rw [← e_] at h_; exact h_
    refine WL.val Wanted.none (Runs.assign rfl) ?_
    refine WL.nil (QW.then_n ?_)
    refine CW.sub [(1, .slice A1 n1 c1), (4, .bool false), (6, .pointer (some ⟨b_59, 0, none⟩)), (7, .int .i64 0), (8, .pointer (some ⟨B_90, 0, none⟩)), (9, .int .i64 a_86)] (by repeat' constructor) ?_
    refine CW.seq ?_
    refine CW.seq (CW.region ?_)
    refine WL.val Wanted.none (Runs.move rfl) ?_
    refine WL.val Wanted.none (Runs.move rfl) ?_
    refine WL.val Wanted.none (Runs.neq rfl rfl rfl) ?_
    refine WL.val Wanted.none (Runs.move rfl) ?_
    obtain ⟨c_96, H⟩ := H
    have h_97 : ((0 : Int) != a_86) = false := (bne_eq_false_iff_eq.mpr (Decidable.not_not.mp c_96))
    refine WL.on ?_ ?_; exact Wanted.guard (dj := 34) (by rfl) (evb (by rfl) h_97) (by rfl)
    refine WL.val Wanted.none (Runs.move rfl) ?_
    refine WL.on ?_ ?_; exact Wanted.guard (dj := 34) (by rfl) (evb (by rfl) h_97) (by rfl)
    refine WL.val Wanted.none (Runs.eql_ptr Try.underlying25 rfl rfl rfl) ?_
    refine WL.on ?_ ?_; exact Wanted.guard (dj := 34) (by rfl) (evb (by rfl) h_97) (by rfl)
    refine WL.val Wanted.none (Runs.move rfl) ?_
    refine WL.on ?_ ?_; exact Wanted.guard (dj := 34) (by rfl) (evb (by rfl) h_97) (by rfl)
    refine WL.val Wanted.none (Runs.neq (b := false) rfl rfl (by decide)) ?_
    refine WL.on ?_ ?_; exact Wanted.guard (dj := 34) (by rfl) (evb (by rfl) h_97) (by rfl)
    refine WL.val Wanted.none (Runs.neb Try.underlying4 rfl rfl rfl) ?_
    refine WL.val Wanted.none (Runs.pick_f (evb rfl h_97) rfl) ?_
    refine WL.nil (QW.then_n ?_)
    refine CW.sub [(1, .slice A1 n1 c1), (4, .bool false), (6, .pointer (some ⟨b_59, 0, none⟩)), (7, .int .i64 0), (8, .pointer (some ⟨B_90, 0, none⟩)), (40, .bool false)] (by repeat' constructor) ?_
    refine CW.cf rfl rfl ?_
    refine CW.skip ?_
    refine QW.then_n ?_
    refine CW.seq ?_
    refine CW.seq (CW.region ?_)
    refine WL.val Wanted.none (Runs.assign rfl) ?_
    refine WL.nil (QW.then_n ?_)
    refine CW.block ?_
    obtain ⟨k_98, H⟩ := H
    refine CW.sub [(1, .slice A1 n1 c1), (4, .bool false), (6, .pointer (some ⟨b_59, 0, none⟩)), (7, .int .i64 0), (8, .pointer (some ⟨B_90, 0, none⟩)), (10, .int .i64 0)] (by repeat' constructor) ?_
    refine CW.loop (fun kL2 l_ w_ => ∃ (T_144 : Pool) (A_150 : Option Addr) (c_151 : Nat) (n_152 : Nat) (x_148 : Cells) (l_146 : List R22) (A_157 : Option Addr) (c_158 : Nat) (n_159 : Nat) (x_155 : Cells) (l_153 : List R69) (A_164 : Option Addr) (c_165 : Nat) (n_166 : Nat) (x_162 : Cells) (l_160 : List R71) (x_167 : Int) (A_168 : Option Addr) (n_169 : Nat) (c_170 : Nat) (l_171 : List R86) (A_173 : Option Addr) (n_174 : Nat) (c_175 : Nat) (l_176 : List R86) (x_178 : Int) (b_179 : Bool) (A_180 : Option Addr) (n_181 : Nat) (c_182 : Nat) (l_183 : List R81) (x_185 : Int) (b_186 : Bool) (b_187 : Bool) (x_188 : Int), l_ = [(1, .slice A1 n1 c1), (4, .bool b_187), (6, .pointer (some ⟨b_59, 0, none⟩)), (7, .int .i64 0), (8, .pointer (some ⟨B_90, 0, none⟩)), (10, .int .i64 x_188)] ∧ reliquarylaw06_DiskPlays.L2 l1 kL2 l_146 l_153 l_160 x_167 l_171 l_176 x_178 b_179 l_183 x_185 b_186 b_187 x_188 ∧ (Pl T_75 T_144) ∧ (n_152 = l_146.length) ∧ (HRs T_144 (f22 w) x_148 l_146) ∧ (n_159 = l_153.length) ∧ (HRs T_144 (f69 w) x_155 l_153) ∧ (n_166 = l_160.length) ∧ (HRs T_144 (f71 w) x_162 l_160) ∧ (HS w T_144 T_144 A_168 n_169 c_170 (f86 w) l_171) ∧ (HS w T_144 T_144 A_173 n_174 c_175 (f86 w) l_176) ∧ (HS w T_144 T_144 A_180 n_181 c_182 (f81 w) l_183) ∧ St w w_ (.cells B_90 (([.int .i64 x_167] : Cells) ++ (([.slice A_168 n_169 c_170] : Cells) ++ (([.slice A_173 n_174 c_175] : Cells) ++ (([.int .i64 x_178] : Cells) ++ (([.bool b_179] : Cells) ++ ([.slice A_180 n_181 c_182] : Cells)))))) 48 :: .cells b_59 (([.slice A_150 n_152 c_151] : Cells) ++ (([.slice A_157 n_159 c_158] : Cells) ++ (([.int .i64 x_185] : Cells) ++ (([.bool b_186] : Cells) ++ ([.slice A_164 n_166 c_165] : Cells))))) 66 :: .sl A_150 c_151 n_152 x_148 22 1 :: .sl A_157 c_158 n_159 x_155 69 2 :: .sl A_164 c_165 n_166 x_162 71 2 :: (T_144 ++ R))) (k := k_98) ⟨T_75, A_60_0, c_62_0, n_61_0, x_64_0, l_63_0, A_60_1, c_62_1, n_61_1, x_64_1, l_63_1, A_60_4, c_62_4, n_61_4, x_64_4, l_63_4, a_78_0, A_79_1, n_80_1, c_81_1, l_82_1, A_79_2, n_80_2, c_81_2, l_82_2, a_78_3, a_78_4, A_79_5, n_80_5, c_81_5, l_82_5, a_67_2, a_67_3, false, 0, rfl, H, Pl.refl, hn_65_0, (hx_66_0.mono (fun _ h_ => hs_76.1 _ h_)), hn_65_1, (hx_66_1.mono (fun _ h_ => hs_76.1 _ h_)), hn_65_4, (hx_66_4.mono (fun _ h_ => hs_76.1 _ h_)), hb_84_1, hb_84_2, hb_84_5, st_95⟩ (fun _ _ h => by obtain ⟨_, _, _, _, _, _, _, _, _, _, _, _, _, _, _, _, _, _, _, _, _, _, _, _, _, _, _, _, _, _, _, _, _, _, _, _, h, _⟩ := h; exact h.elim) ?_
    rintro kL2 l_191 w_189 ⟨T_144, A_150, c_151, n_152, x_148, l_146, A_157, c_158, n_159, x_155, l_153, A_164, c_165, n_166, x_162, l_160, x_167, A_168, n_169, c_170, l_171, A_173, n_174, c_175, l_176, x_178, b_179, A_180, n_181, c_182, l_183, x_185, b_186, b_187, x_188, rfl, H, hs_145, hn_147, hx_149, hn_154, hx_156, hn_161, hx_163, hb_172, hb_177, hb_184, st_190⟩
    refine CW.seq ?_
    refine CW.seq (CW.region ?_)
    refine WL.val Wanted.none (Runs.move rfl) ?_
    refine WL.val Wanted.none (Runs.move rfl) ?_
    refine WL.val Wanted.none (Runs.len_sl Try.underlying44 rfl (by rw [hb1.1])) ?_
    refine WL.val Wanted.none (Runs.lss rfl rfl rfl) ?_
    refine WL.val Wanted.none (Runs.move rfl) ?_
    rcases H with ⟨c_192, H⟩ | ⟨c_192, H⟩
    ·have h_193 : (decide (x_188 < (l1.length : Int))) = true := (decide_eq_true c_192)
     refine WL.on ?_ ?_; exact Wanted.guard (dj := 45) (by rfl) (evb (by rfl) h_193) (by rfl)
     refine WL.val Wanted.none (Runs.move rfl) ?_
     refine WL.on ?_ ?_; exact Wanted.guard (dj := 45) (by rfl) (evb (by rfl) h_193) (by rfl)
     refine WL.val Wanted.none (Runs.lss rfl rfl rfl) ?_
     refine WL.val Wanted.none (Runs.pick_t (evb rfl h_193) rfl) ?_
     refine WL.val Wanted.none (Runs.move rfl) ?_
     rcases H with ⟨c_194, H⟩ | ⟨c_194, H⟩
     ·have h_195 : (decide (x_188 < 40)) = true := (decide_eq_true c_194)
      refine WL.on ?_ ?_; exact Wanted.guard (dj := 49) (by rfl) (evb (by rfl) h_195) (by rfl)
      refine WL.val Wanted.none (Runs.move rfl) ?_
      refine WL.on ?_ ?_; exact Wanted.guard (dj := 49) (by rfl) (evb (by rfl) h_195) (by rfl)
      refine WL.val Wanted.none (Runs.eql (b := true) rfl rfl (by decide)) ?_
      refine WL.val Wanted.none (Runs.pick_t (evb rfl h_195) rfl) ?_
      refine WL.nil (QW.then_n ?_)
      refine CW.ct rfl rfl ?_
      refine CW.skip ?_
      refine QW.then_n ?_
      refine CW.seq ?_
      refine CW.block ?_
      refine CW.seq (CW.region ?_)
      refine WL.val Wanted.none (Runs.assign rfl) ?_
      refine WL.nil (QW.then_n ?_)
      refine CW.seq ?_
      refine CW.region_aw wide st_190 (fun w_196 st_197 => ?_)
      refine AW.take 0 rfl (by kernel_rfl) (by kernel_rfl) (by kernel_rfl) Wanted.none (fun _ => (Runs.move rfl)) ?_
      refine AW.take 2 rfl (by kernel_rfl) (by kernel_rfl) (by kernel_rfl) Wanted.none (fun _ => (Runs.move rfl)) ?_
      refine AW.take 3 rfl (by kernel_rfl) (by kernel_rfl) (by kernel_rfl) Wanted.none (fun _ => (Runs.move rfl)) ?_
      obtain ⟨⟨p_198, q_199⟩, H⟩ := H
      obtain ⟨x_200, hs_201, hr_202⟩ := hb1.2.2
      obtain ⟨a_203, e_204, ms_205, hc_206, hm_207⟩ := el_get (i := (x_188).toNat) ((hs_201.at st_197 (mem_T (A := [_, _, _, _, _]) (fun _ h_ => hs_145.1 _ (hs_76.1 _ (hs_57.1 _ (hT0.1 _ h_))))))) (hr_202.mono (fun _ h_ => hs_145.1 _ (hs_76.1 _ (hs_57.1 _ (hT0.1 _ h_))))) (fz33 w) (by decide) (by omega)
      obtain ⟨A_208, n_209, c_210, A_212, n_213, c_214, em_216, hb_211, hb_215⟩ := inv33 hm_207
      replace em_216 : ms_205 = ([.int .i64 ((gx l1 (x_188.toNat)).1)] : Cells) ++ (([.int .i64 ((gx l1 (x_188.toNat)).2.1)] : Cells) ++ (([.slice A_208 n_209 c_210] : Cells) ++ (([.slice A_212 n_213 c_214] : Cells) ++ ([.bool ((gx l1 (x_188.toNat)).2.2.2.2)] : Cells)))) := em_216
      subst em_216
      refine AW.take 4 rfl (by kernel_rfl) (by kernel_rfl) (by kernel_rfl) Wanted.none (fun _ => (Runs.indexAddr Try.underlying44 cells33 (by decide) rfl e_204 rfl p_198 (by rw [show n1 = l1.length from hb1.1]; exact q_199) (o := (x_188.toNat) * 5) (by first | rfl | omega))) ?_
      refine AW.step2 1 5 rfl rfl (by kernel_rfl) ?_ ?_
      ·refine WL.val Wanted.none (Runs.load_mid row48 rfl st_197 (i := 0) rfl (part_mid (pre := (([] : Cells))) (mid := (([.int .i64 x_167] : Cells) ++ (([.slice A_168 n_169 c_170] : Cells) ++ (([.slice A_173 n_174 c_175] : Cells) ++ (([.int .i64 x_178] : Cells) ++ (([.bool b_179] : Cells) ++ ([.slice A_180 n_181 c_182] : Cells))))))) (post := (([] : Cells))) (by first | rfl | simp only [List.append_assoc, List.append_nil, List.nil_append, List.cons_append]) (by first | rfl | simp only [List.length_append, List.length_cons, List.length_nil, iv_length]) (by first | rfl | simp only [List.length_append, List.length_cons, List.length_nil, iv_length])) (by first | rfl | simp only [List.length_append, List.length_cons, List.length_nil, iv_length])) ?_
       refine WL.nil ?_
       refine AW.back ?_
       refine AW.step 5 rfl (by kernel_rfl) ?_
       refine WL.val Wanted.none (Runs.load_srcR row33 rfl (Src.cut ((hs_201.at st_197 (mem_T (A := [_, _, _, _, _]) (fun _ h_ => hs_145.1 _ (hs_76.1 _ (hs_57.1 _ (hT0.1 _ h_))))))) e_204 hc_206) rfl) ?_
       refine WL.nil ?_
       refine AW.back  ?_
       refine AW.step 6 rfl (by kernel_rfl) ?_
       have st_217 := (St.pickT (L := [_, _, _, _, _]) st_197 [1, 2, 3, 4, 0] (by decide))
       replace st_217 : St w w_196 (.cells b_59 (([.slice A_150 n_152 c_151] : Cells) ++ (([.slice A_157 n_159 c_158] : Cells) ++ (([.int .i64 x_185] : Cells) ++ (([.bool b_186] : Cells) ++ ([.slice A_164 n_166 c_165] : Cells))))) 66 :: .sl A_150 c_151 n_152 x_148 22 1 :: .sl A_157 c_158 n_159 x_155 69 2 :: .sl A_164 c_165 n_166 x_162 71 2 :: .cells B_90 (([.int .i64 x_167] : Cells) ++ (([.slice A_168 n_169 c_170] : Cells) ++ (([.slice A_173 n_174 c_175] : Cells) ++ (([.int .i64 x_178] : Cells) ++ (([.bool b_179] : Cells) ++ ([.slice A_180 n_181 c_182] : Cells)))))) 48 :: (T_144 ++ R)) := st_217
       have st_218 : St w w_196 (.cells b_59 (([.slice A_150 n_152 c_151] : Cells) ++ (([.slice A_157 n_159 c_158] : Cells) ++ (([.int .i64 x_185] : Cells) ++ (([.bool b_186] : Cells) ++ ([.slice A_164 n_166 c_165] : Cells))))) 66 :: .sl A_150 c_151 n_152 x_148 22 1 :: .sl A_157 c_158 n_159 x_155 69 2 :: .sl A_164 c_165 n_166 x_162 71 2 :: (T_144 ++ (.cells B_90 (([.int .i64 x_167] : Cells) ++ (([.slice A_168 n_169 c_170] : Cells) ++ (([.slice A_173 n_174 c_175] : Cells) ++ (([.int .i64 x_178] : Cells) ++ (([.bool b_179] : Cells) ++ ([.slice A_180 n_181 c_182] : Cells)))))) 48 :: R))) := St.hide (A := [_, _, _, _]) (B := [_]) (T := T_144) (R := R) st_217
       obtain ⟨l_225_0, l_225_1, a_229_2, a_229_3, l_225_4, a_231_0, l_235_1, l_235_2, a_231_3, a_231_4, l_235_5, a_239, hr_219, H⟩ := H
       refine WL.call Wanted.none ent19 rfl (reliquarylaw06_step.calls w w_196 T_144 (.cells B_90 (([.int .i64 x_167] : Cells) ++ (([.slice A_168 n_169 c_170] : Cells) ++ (([.slice A_173 n_174 c_175] : Cells) ++ (([.int .i64 x_178] : Cells) ++ (([.bool b_179] : Cells) ++ ([.slice A_180 n_181 c_182] : Cells)))))) 48 :: R) l_146 l_153 x_185 b_186 l_160 x_167 l_171 l_176 x_178 b_179 l_183 ((gx l1 (x_188.toNat)).1) ((gx l1 (x_188.toNat)).2.1) ((gx l1 (x_188.toNat)).2.2.1) ((gx l1 (x_188.toNat)).2.2.2.1) ((gx l1 (x_188.toNat)).2.2.2.2) b_59 A_150 n_152 c_151 x_148 A_157 n_159 c_158 x_155 A_164 n_166 c_165 x_162 A_168 n_169 c_170 A_173 n_174 c_175 A_180 n_181 c_182 A_208 n_209 c_210 A_212 n_213 c_214 (hs_145.2 (hs_76.2 (hs_57.2 (hT0.2 (rfl : celly [] = true))))) (show celly (.cells B_90 (([.int .i64 x_167] : Cells) ++ (([.slice A_168 n_169 c_170] : Cells) ++ (([.slice A_173 n_174 c_175] : Cells) ++ (([.int .i64 x_178] : Cells) ++ (([.bool b_179] : Cells) ++ ([.slice A_180 n_181 c_182] : Cells)))))) 48 :: R) = true from hR) st_218 (hn_147) hx_149 (hn_154) hx_156 (hn_161) hx_163 hb_172 hb_177 hb_184 hb_211 hb_215 l_225_0 l_225_1 a_229_2 a_229_3 l_225_4 a_231_0 l_235_1 l_235_2 a_231_3 a_231_4 l_235_5 a_239 hr_219) ?_
       rintro _ w_240 ⟨T_220, A_222_0, n_223_0, c_224_0, x_226_0, A_222_1, n_223_1, c_224_1, x_226_1, A_222_4, n_223_4, c_224_4, x_226_4, A_232_1, n_233_1, c_234_1, A_232_2, n_233_2, c_234_2, A_232_5, n_233_5, c_234_5, hs_221, hn_227_0, hx_228_0, hn_227_1, hx_228_1, hn_227_4, hx_228_4, hb_237_1, hb_237_2, hb_237_5, rfl, sc_242⟩
       have st_241 : St w w_240 (.cells b_59 (([.slice A_222_0 n_223_0 c_224_0] : Cells) ++ (([.slice A_222_1 n_223_1 c_224_1] : Cells) ++ (([.int .i64 a_229_2] : Cells) ++ (([.bool a_229_3] : Cells) ++ ([.slice A_222_4 n_223_4 c_224_4] : Cells))))) 66 :: .sl A_222_0 c_224_0 n_223_0 x_226_0 22 1 :: .sl A_222_1 c_224_1 n_223_1 x_226_1 69 2 :: .sl A_222_4 c_224_4 n_223_4 x_226_4 71 2 :: .cells B_90 (([.int .i64 x_167] : Cells) ++ (([.slice A_168 n_169 c_170] : Cells) ++ (([.slice A_173 n_174 c_175] : Cells) ++ (([.int .i64 x_178] : Cells) ++ (([.bool b_179] : Cells) ++ ([.slice A_180 n_181 c_182] : Cells)))))) 48 :: (T_220 ++ R)) := St.unhide (A := [_, _, _, _]) (B := [_]) (T := T_220) (R := R) sc_242
       refine ⟨_, rfl, ?_⟩
       refine WL.nil ?_
       refine AW.back  ?_
       refine AW.take 7 rfl (by kernel_rfl) (by kernel_rfl) (by kernel_rfl) Wanted.none (fun _ => (Runs.move rfl)) ?_
       refine AW.take 8 rfl (by kernel_rfl) (by kernel_rfl) (by kernel_rfl) Wanted.none (fun _ => (Runs.extract rfl rfl)) ?_
       refine AW.take 9 rfl (by kernel_rfl) (by kernel_rfl) (by kernel_rfl) Wanted.none (fun _ => (Runs.extract rfl rfl)) ?_
       refine AW.step 10 rfl (by kernel_rfl) ?_
       refine WL.store_mid (i := 4) (pre := (([] : Cells))) (mid := (([.int .i64 x_167] : Cells) ++ (([.slice A_168 n_169 c_170] : Cells) ++ (([.slice A_173 n_174 c_175] : Cells) ++ (([.int .i64 x_178] : Cells) ++ (([.bool b_179] : Cells) ++ ([.slice A_180 n_181 c_182] : Cells))))))) (post := (([] : Cells))) (ms := (([.int .i64 a_231_0] : Cells) ++ (([.slice A_232_1 n_233_1 c_234_1] : Cells) ++ (([.slice A_232_2 n_233_2 c_234_2] : Cells) ++ (([.int .i64 a_231_3] : Cells) ++ (([.bool a_231_4] : Cells) ++ ([.slice A_232_5 n_233_5 c_234_5] : Cells))))))) st_241 rfl row48 (by first | rfl | simp only [List.append_assoc, List.append_nil, List.nil_append, List.cons_append]) (by first | rfl | simp only [List.length_append, List.length_cons, List.length_nil, iv_length]) rfl rfl (by first | rfl | simp only [List.length_append, List.length_cons, List.length_nil, iv_length]) (by first | rfl | simp only [List.length_append, List.length_cons, List.length_nil, iv_length]) (by intro u hu; simp only [List.mem_append, List.mem_singleton] at hu; rcases hu with hu | hu | hu | hu | hu | hu <;> first | exact one_iv _ _ u hu | (subst hu; rfl)) ?_
       intro w_243 st_244
       replace st_244 : St w w_243 (.cells b_59 (([.slice A_222_0 n_223_0 c_224_0] : Cells) ++ (([.slice A_222_1 n_223_1 c_224_1] : Cells) ++ (([.int .i64 a_229_2] : Cells) ++ (([.bool a_229_3] : Cells) ++ ([.slice A_222_4 n_223_4 c_224_4] : Cells))))) 66 :: .sl A_222_0 c_224_0 n_223_0 x_226_0 22 1 :: .sl A_222_1 c_224_1 n_223_1 x_226_1 69 2 :: .sl A_222_4 c_224_4 n_223_4 x_226_4 71 2 :: .cells B_90 (([.int .i64 a_231_0] : Cells) ++ (([.slice A_232_1 n_233_1 c_234_1] : Cells) ++ (([.slice A_232_2 n_233_2 c_234_2] : Cells) ++ (([.int .i64 a_231_3] : Cells) ++ (([.bool a_231_4] : Cells) ++ ([.slice A_232_5 n_233_5 c_234_5] : Cells)))))) 48 :: (T_220 ++ R)) := by have e_ : (([.int .i64 a_231_0] : Cells) ++ (([.slice A_232_1 n_233_1 c_234_1] : Cells) ++ (([.slice A_232_2 n_233_2 c_234_2] : Cells) ++ (([.int .i64 a_231_3] : Cells) ++ (([.bool a_231_4] : Cells) ++ ([.slice A_232_5 n_233_5 c_234_5] : Cells)))))) = (([] : Cells)) ++ ((([.int .i64 a_231_0] : Cells) ++ (([.slice A_232_1 n_233_1 c_234_1] : Cells) ++ (([.slice A_232_2 n_233_2 c_234_2] : Cells) ++ (([.int .i64 a_231_3] : Cells) ++ (([.bool a_231_4] : Cells) ++ ([.slice A_232_5 n_233_5 c_234_5] : Cells)))))) ++ (([] : Cells))) := (by first | rfl | simp only [List.append_assoc, List.append_nil, List.nil_append, List.cons_append]); have h_ : St w w_243 (.cells b_59 (([.slice A_222_0 n_223_0 c_224_0] : Cells) ++ (([.slice A_222_1 n_223_1 c_224_1] : Cells) ++ (([.int .i64 a_229_2] : Cells) ++ (([.bool a_229_3] : Cells) ++ ([.slice A_222_4 n_223_4 c_224_4] : Cells))))) 66 :: .sl A_222_0 c_224_0 n_223_0 x_226_0 22 1 :: .sl A_222_1 c_224_1 n_223_1 x_226_1 69 2 :: .sl A_222_4 c_224_4 n_223_4 x_226_4 71 2 :: .cells B_90 ((([] : Cells)) ++ ((([.int .i64 a_231_0] : Cells) ++ (([.slice A_232_1 n_233_1 c_234_1] : Cells) ++ (([.slice A_232_2 n_233_2 c_234_2] : Cells) ++ (([.int .i64 a_231_3] : Cells) ++ (([.bool a_231_4] : Cells) ++ ([.slice A_232_5 n_233_5 c_234_5] : Cells)))))) ++ (([] : Cells)))) 48 :: (T_220 ++ R)) := st_244; rw [← e_] at h_; exact h_
       refine WL.nil ?_
       refine AW.back  ?_
       refine AW.take 11 rfl (by kernel_rfl) (by kernel_rfl) (by kernel_rfl) Wanted.none (fun _ => (Runs.assign rfl)) ?_
       refine AW.done (by kernel_rfl) ?_
       refine QW.then_n ?_
       refine CW.seq (CW.region ?_)
       refine WL.val Wanted.none (Runs.move rfl) ?_
       refine WL.val Wanted.none (Runs.not rfl rfl) ?_
       refine WL.val Wanted.none (Runs.move rfl) ?_
       obtain ⟨c_245, H⟩ := H
       have h_246 : (!a_239) = false := (not_f (Decidable.not_not.mp c_245))
       refine WL.on ?_ ?_; exact Wanted.guard (dj := 67) (by rfl) (evb (by rfl) h_246) (by rfl)
       refine WL.val Wanted.none (Runs.move rfl) ?_
       refine WL.on ?_ ?_; exact Wanted.guard (dj := 67) (by rfl) (evb (by rfl) h_246) (by rfl)
       refine WL.val Wanted.none (Runs.load_mid row48 rfl st_244 (i := 4) rfl (part_mid (pre := (([] : Cells))) (mid := (([.int .i64 a_231_0] : Cells) ++ (([.slice A_232_1 n_233_1 c_234_1] : Cells) ++ (([.slice A_232_2 n_233_2 c_234_2] : Cells) ++ (([.int .i64 a_231_3] : Cells) ++ (([.bool a_231_4] : Cells) ++ ([.slice A_232_5 n_233_5 c_234_5] : Cells))))))) (post := (([] : Cells))) (by first | rfl | simp only [List.append_assoc, List.append_nil, List.nil_append, List.cons_append]) (by first | rfl | simp only [List.length_append, List.length_cons, List.length_nil, iv_length]) (by first | rfl | simp only [List.length_append, List.length_cons, List.length_nil, iv_length])) (by first | rfl | simp only [List.length_append, List.length_cons, List.length_nil, iv_length])) ?_
       refine WL.on ?_ ?_; exact Wanted.guard (dj := 67) (by rfl) (evb (by rfl) h_246) (by rfl)
       have st_247 : St w w_243 (.cells b_59 (([.slice A_222_0 n_223_0 c_224_0] : Cells) ++ (([.slice A_222_1 n_223_1 c_224_1] : Cells) ++ (([.int .i64 a_229_2] : Cells) ++ (([.bool a_229_3] : Cells) ++ ([.slice A_222_4 n_223_4 c_224_4] : Cells))))) 66 :: .sl A_222_0 c_224_0 n_223_0 x_226_0 22 1 :: .sl A_222_1 c_224_1 n_223_1 x_226_1 69 2 :: .sl A_222_4 c_224_4 n_223_4 x_226_4 71 2 :: (T_220 ++ (.cells B_90 (([.int .i64 a_231_0] : Cells) ++ (([.slice A_232_1 n_233_1 c_234_1] : Cells) ++ (([.slice A_232_2 n_233_2 c_234_2] : Cells) ++ (([.int .i64 a_231_3] : Cells) ++ (([.bool a_231_4] : Cells) ++ ([.slice A_232_5 n_233_5 c_234_5] : Cells)))))) 48 :: R))) := St.hide (A := [_, _, _, _]) (B := [_]) (T := T_220) (R := R) st_244
       obtain ⟨l_254_0, l_254_1, a_258_2, a_258_3, l_254_4, a_260, hr_248, H⟩ := H
       refine WL.call Wanted.none ent20 rfl (reliquarylaw06_same.calls w w_243 T_220 (.cells B_90 (([.int .i64 a_231_0] : Cells) ++ (([.slice A_232_1 n_233_1 c_234_1] : Cells) ++ (([.slice A_232_2 n_233_2 c_234_2] : Cells) ++ (([.int .i64 a_231_3] : Cells) ++ (([.bool a_231_4] : Cells) ++ ([.slice A_232_5 n_233_5 c_234_5] : Cells)))))) 48 :: R) l_225_0 l_225_1 a_229_2 a_229_3 l_225_4 a_231_0 l_235_1 l_235_2 a_231_3 a_231_4 l_235_5 b_59 A_222_0 n_223_0 c_224_0 x_226_0 A_222_1 n_223_1 c_224_1 x_226_1 A_222_4 n_223_4 c_224_4 x_226_4 A_232_1 n_233_1 c_234_1 A_232_2 n_233_2 c_234_2 A_232_5 n_233_5 c_234_5  st_247 (hn_227_0) hx_228_0 (hn_227_1) hx_228_1 (hn_227_4) hx_228_4 hb_237_1 hb_237_2 hb_237_5 l_254_0 l_254_1 a_258_2 a_258_3 l_254_4 a_260 hr_248) ?_
       rintro _ w_261 ⟨T_249, A_251_0, n_252_0, c_253_0, x_255_0, A_251_1, n_252_1, c_253_1, x_255_1, A_251_4, n_252_4, c_253_4, x_255_4, hs_250, hn_256_0, hx_257_0, hn_256_1, hx_257_1, hn_256_4, hx_257_4, rfl, sc_263⟩
       have st_262 : St w w_261 (.cells b_59 (([.slice A_251_0 n_252_0 c_253_0] : Cells) ++ (([.slice A_251_1 n_252_1 c_253_1] : Cells) ++ (([.int .i64 a_258_2] : Cells) ++ (([.bool a_258_3] : Cells) ++ ([.slice A_251_4 n_252_4 c_253_4] : Cells))))) 66 :: .sl A_251_0 c_253_0 n_252_0 x_255_0 22 1 :: .sl A_251_1 c_253_1 n_252_1 x_255_1 69 2 :: .sl A_251_4 c_253_4 n_252_4 x_255_4 71 2 :: .cells B_90 (([.int .i64 a_231_0] : Cells) ++ (([.slice A_232_1 n_233_1 c_234_1] : Cells) ++ (([.slice A_232_2 n_233_2 c_234_2] : Cells) ++ (([.int .i64 a_231_3] : Cells) ++ (([.bool a_231_4] : Cells) ++ ([.slice A_232_5 n_233_5 c_234_5] : Cells)))))) 48 :: (T_249 ++ R)) := St.unhide (A := [_, _, _, _]) (B := [_]) (T := T_249) (R := R) sc_263
       refine ⟨_, rfl, ?_⟩
       refine WL.on ?_ ?_; exact Wanted.guard (dj := 67) (by rfl) (evb (by rfl) h_246) (by rfl)
       refine WL.val Wanted.none (Runs.not rfl rfl) ?_
       refine WL.val Wanted.none (Runs.pick_f (evb rfl h_246) rfl) ?_
       refine WL.nil (QW.then_n ?_)
       obtain ⟨c_264, H⟩ := H
       have h_265 : (!a_260) = false := (not_f (Decidable.not_not.mp c_264))
       refine CW.cf rfl h_265 ?_
       refine CW.skip ?_
       refine QW.blk_n ?_
       refine QW.then_n ?_
       refine CW.region ?_
       refine WL.val Wanted.none (Runs.move rfl) ?_
       refine WL.val Wanted.none (Runs.add rfl rfl rfl) ?_
       refine WL.val Wanted.none (Runs.assign rfl) ?_
       refine WL.nil ?_
       have st_262' := (St.pickT (L := [_, _, _, _, _]) st_262 [4, 0, 1, 2, 3] (by decide))
       exact QW.at _ (by repeat' constructor) ⟨T_249, A_251_0, c_253_0, n_252_0, x_255_0, l_254_0, A_251_1, c_253_1, n_252_1, x_255_1, l_254_1, A_251_4, c_253_4, n_252_4, x_255_4, l_254_4, a_231_0, A_232_1, n_233_1, c_234_1, l_235_1, A_232_2, n_233_2, c_234_2, l_235_2, a_231_3, a_231_4, A_232_5, n_233_5, c_234_5, l_235_5, a_258_2, a_258_3, b_187, IntKind.i64.wrap (x_188 + 1), rfl, H, ((hs_145.trans hs_221).trans hs_250), hn_256_0, hx_257_0, hn_256_1, hx_257_1, hn_256_4, hx_257_4, (hb_237_1.mono (fun _ h_ => hs_250.1 _ h_) (fun _ h_ => hs_250.1 _ h_)), (hb_237_2.mono (fun _ h_ => hs_250.1 _ h_) (fun _ h_ => hs_250.1 _ h_)), (hb_237_5.mono (fun _ h_ => hs_250.1 _ h_) (fun _ h_ => hs_250.1 _ h_)), st_262'⟩
      ·refine WL.val Wanted.none (Runs.load_srcR row33 rfl (Src.cut ((hs_201.at st_197 (mem_T (A := [_, _, _, _, _]) (fun _ h_ => hs_145.1 _ (hs_76.1 _ (hs_57.1 _ (hT0.1 _ h_))))))) e_204 hc_206) rfl) ?_
       refine WL.nil ?_
       refine AW.back ?_
       refine AW.step 1 rfl (by kernel_rfl) ?_
       refine WL.val Wanted.none (Runs.load_mid row48 rfl st_197 (i := 0) rfl (part_mid (pre := (([] : Cells))) (mid := (([.int .i64 x_167] : Cells) ++ (([.slice A_168 n_169 c_170] : Cells) ++ (([.slice A_173 n_174 c_175] : Cells) ++ (([.int .i64 x_178] : Cells) ++ (([.bool b_179] : Cells) ++ ([.slice A_180 n_181 c_182] : Cells))))))) (post := (([] : Cells))) (by first | rfl | simp only [List.append_assoc, List.append_nil, List.nil_append, List.cons_append]) (by first | rfl | simp only [List.length_append, List.length_cons, List.length_nil, iv_length]) (by first | rfl | simp only [List.length_append, List.length_cons, List.length_nil, iv_length])) (by first | rfl | simp only [List.length_append, List.length_cons, List.length_nil, iv_length])) ?_
       refine WL.nil ?_
       refine AW.back  ?_
       refine AW.step 6 rfl (by kernel_rfl) ?_
       have st_266 := (St.pickT (L := [_, _, _, _, _]) st_197 [1, 2, 3, 4, 0] (by decide))
       replace st_266 : St w w_196 (.cells b_59 (([.slice A_150 n_152 c_151] : Cells) ++ (([.slice A_157 n_159 c_158] : Cells) ++ (([.int .i64 x_185] : Cells) ++ (([.bool b_186] : Cells) ++ ([.slice A_164 n_166 c_165] : Cells))))) 66 :: .sl A_150 c_151 n_152 x_148 22 1 :: .sl A_157 c_158 n_159 x_155 69 2 :: .sl A_164 c_165 n_166 x_162 71 2 :: .cells B_90 (([.int .i64 x_167] : Cells) ++ (([.slice A_168 n_169 c_170] : Cells) ++ (([.slice A_173 n_174 c_175] : Cells) ++ (([.int .i64 x_178] : Cells) ++ (([.bool b_179] : Cells) ++ ([.slice A_180 n_181 c_182] : Cells)))))) 48 :: (T_144 ++ R)) := st_266
       have st_267 : St w w_196 (.cells b_59 (([.slice A_150 n_152 c_151] : Cells) ++ (([.slice A_157 n_159 c_158] : Cells) ++ (([.int .i64 x_185] : Cells) ++ (([.bool b_186] : Cells) ++ ([.slice A_164 n_166 c_165] : Cells))))) 66 :: .sl A_150 c_151 n_152 x_148 22 1 :: .sl A_157 c_158 n_159 x_155 69 2 :: .sl A_164 c_165 n_166 x_162 71 2 :: (T_144 ++ (.cells B_90 (([.int .i64 x_167] : Cells) ++ (([.slice A_168 n_169 c_170] : Cells) ++ (([.slice A_173 n_174 c_175] : Cells) ++ (([.int .i64 x_178] : Cells) ++ (([.bool b_179] : Cells) ++ ([.slice A_180 n_181 c_182] : Cells)))))) 48 :: R))) := St.hide (A := [_, _, _, _]) (B := [_]) (T := T_144) (R := R) st_266
       obtain ⟨l_274_0, l_274_1, a_278_2, a_278_3, l_274_4, a_280_0, l_284_1, l_284_2, a_280_3, a_280_4, l_284_5, a_288, hr_268, H⟩ := H
       refine WL.call Wanted.none ent19 rfl (reliquarylaw06_step.calls w w_196 T_144 (.cells B_90 (([.int .i64 x_167] : Cells) ++ (([.slice A_168 n_169 c_170] : Cells) ++ (([.slice A_173 n_174 c_175] : Cells) ++ (([.int .i64 x_178] : Cells) ++ (([.bool b_179] : Cells) ++ ([.slice A_180 n_181 c_182] : Cells)))))) 48 :: R) l_146 l_153 x_185 b_186 l_160 x_167 l_171 l_176 x_178 b_179 l_183 ((gx l1 (x_188.toNat)).1) ((gx l1 (x_188.toNat)).2.1) ((gx l1 (x_188.toNat)).2.2.1) ((gx l1 (x_188.toNat)).2.2.2.1) ((gx l1 (x_188.toNat)).2.2.2.2) b_59 A_150 n_152 c_151 x_148 A_157 n_159 c_158 x_155 A_164 n_166 c_165 x_162 A_168 n_169 c_170 A_173 n_174 c_175 A_180 n_181 c_182 A_208 n_209 c_210 A_212 n_213 c_214 (hs_145.2 (hs_76.2 (hs_57.2 (hT0.2 (rfl : celly [] = true))))) (show celly (.cells B_90 (([.int .i64 x_167] : Cells) ++ (([.slice A_168 n_169 c_170] : Cells) ++ (([.slice A_173 n_174 c_175] : Cells) ++ (([.int .i64 x_178] : Cells) ++ (([.bool b_179] : Cells) ++ ([.slice A_180 n_181 c_182] : Cells)))))) 48 :: R) = true from hR) st_267 (hn_147) hx_149 (hn_154) hx_156 (hn_161) hx_163 hb_172 hb_177 hb_184 hb_211 hb_215 l_274_0 l_274_1 a_278_2 a_278_3 l_274_4 a_280_0 l_284_1 l_284_2 a_280_3 a_280_4 l_284_5 a_288 hr_268) ?_
       rintro _ w_289 ⟨T_269, A_271_0, n_272_0, c_273_0, x_275_0, A_271_1, n_272_1, c_273_1, x_275_1, A_271_4, n_272_4, c_273_4, x_275_4, A_281_1, n_282_1, c_283_1, A_281_2, n_282_2, c_283_2, A_281_5, n_282_5, c_283_5, hs_270, hn_276_0, hx_277_0, hn_276_1, hx_277_1, hn_276_4, hx_277_4, hb_286_1, hb_286_2, hb_286_5, rfl, sc_291⟩
       have st_290 : St w w_289 (.cells b_59 (([.slice A_271_0 n_272_0 c_273_0] : Cells) ++ (([.slice A_271_1 n_272_1 c_273_1] : Cells) ++ (([.int .i64 a_278_2] : Cells) ++ (([.bool a_278_3] : Cells) ++ ([.slice A_271_4 n_272_4 c_273_4] : Cells))))) 66 :: .sl A_271_0 c_273_0 n_272_0 x_275_0 22 1 :: .sl A_271_1 c_273_1 n_272_1 x_275_1 69 2 :: .sl A_271_4 c_273_4 n_272_4 x_275_4 71 2 :: .cells B_90 (([.int .i64 x_167] : Cells) ++ (([.slice A_168 n_169 c_170] : Cells) ++ (([.slice A_173 n_174 c_175] : Cells) ++ (([.int .i64 x_178] : Cells) ++ (([.bool b_179] : Cells) ++ ([.slice A_180 n_181 c_182] : Cells)))))) 48 :: (T_269 ++ R)) := St.unhide (A := [_, _, _, _]) (B := [_]) (T := T_269) (R := R) sc_291
       refine ⟨_, rfl, ?_⟩
       refine WL.nil ?_
       refine AW.back  ?_
       refine AW.take 7 rfl (by kernel_rfl) (by kernel_rfl) (by kernel_rfl) Wanted.none (fun _ => (Runs.move rfl)) ?_
       refine AW.take 8 rfl (by kernel_rfl) (by kernel_rfl) (by kernel_rfl) Wanted.none (fun _ => (Runs.extract rfl rfl)) ?_
       refine AW.take 9 rfl (by kernel_rfl) (by kernel_rfl) (by kernel_rfl) Wanted.none (fun _ => (Runs.extract rfl rfl)) ?_
       refine AW.step 10 rfl (by kernel_rfl) ?_
       refine WL.store_mid (i := 4) (pre := (([] : Cells))) (mid := (([.int .i64 x_167] : Cells) ++ (([.slice A_168 n_169 c_170] : Cells) ++ (([.slice A_173 n_174 c_175] : Cells) ++ (([.int .i64 x_178] : Cells) ++ (([.bool b_179] : Cells) ++ ([.slice A_180 n_181 c_182] : Cells))))))) (post := (([] : Cells))) (ms := (([.int .i64 a_280_0] : Cells) ++ (([.slice A_281_1 n_282_1 c_283_1] : Cells) ++ (([.slice A_281_2 n_282_2 c_283_2] : Cells) ++ (([.int .i64 a_280_3] : Cells) ++ (([.bool a_280_4] : Cells) ++ ([.slice A_281_5 n_282_5 c_283_5] : Cells))))))) st_290 rfl row48 (by first | rfl | simp only [List.append_assoc, List.append_nil, List.nil_append, List.cons_append]) (by first | rfl | simp only [List.length_append, List.length_cons, List.length_nil, iv_length]) rfl rfl (by first | rfl | simp only [List.length_append, List.length_cons, List.length_nil, iv_length]) (by first | rfl | simp only [List.length_append, List.length_cons, List.length_nil, iv_length]) (by intro u hu; simp only [List.mem_append, List.mem_singleton] at hu; rcases hu with hu | hu | hu | hu | hu | hu <;> first | exact one_iv _ _ u hu | (subst hu; rfl)) ?_
       intro w_292 st_293
       replace st_293 : St w w_292 (.cells b_59 (([.slice A_271_0 n_272_0 c_273_0] : Cells) ++ (([.slice A_271_1 n_272_1 c_273_1] : Cells) ++ (([.int .i64 a_278_2] : Cells) ++ (([.bool a_278_3] : Cells) ++ ([.slice A_271_4 n_272_4 c_273_4] : Cells))))) 66 :: .sl A_271_0 c_273_0 n_272_0 x_275_0 22 1 :: .sl A_271_1 c_273_1 n_272_1 x_275_1 69 2 :: .sl A_271_4 c_273_4 n_272_4 x_275_4 71 2 :: .cells B_90 (([.int .i64 a_280_0] : Cells) ++ (([.slice A_281_1 n_282_1 c_283_1] : Cells) ++ (([.slice A_281_2 n_282_2 c_283_2] : Cells) ++ (([.int .i64 a_280_3] : Cells) ++ (([.bool a_280_4] : Cells) ++ ([.slice A_281_5 n_282_5 c_283_5] : Cells)))))) 48 :: (T_269 ++ R)) := by have e_ : (([.int .i64 a_280_0] : Cells) ++ (([.slice A_281_1 n_282_1 c_283_1] : Cells) ++ (([.slice A_281_2 n_282_2 c_283_2] : Cells) ++ (([.int .i64 a_280_3] : Cells) ++ (([.bool a_280_4] : Cells) ++ ([.slice A_281_5 n_282_5 c_283_5] : Cells)))))) = (([] : Cells)) ++ ((([.int .i64 a_280_0] : Cells) ++ (([.slice A_281_1 n_282_1 c_283_1] : Cells) ++ (([.slice A_281_2 n_282_2 c_283_2] : Cells) ++ (([.int .i64 a_280_3] : Cells) ++ (([.bool a_280_4] : Cells) ++ ([.slice A_281_5 n_282_5 c_283_5] : Cells)))))) ++ (([] : Cells))) := (by first | rfl | simp only [List.append_assoc, List.append_nil, List.nil_append, List.cons_append]); have h_ : St w w_292 (.cells b_59 (([.slice A_271_0 n_272_0 c_273_0] : Cells) ++ (([.slice A_271_1 n_272_1 c_273_1] : Cells) ++ (([.int .i64 a_278_2] : Cells) ++ (([.bool a_278_3] : Cells) ++ ([.slice A_271_4 n_272_4 c_273_4] : Cells))))) 66 :: .sl A_271_0 c_273_0 n_272_0 x_275_0 22 1 :: .sl A_271_1 c_273_1 n_272_1 x_275_1 69 2 :: .sl A_271_4 c_273_4 n_272_4 x_275_4 71 2 :: .cells B_90 ((([] : Cells)) ++ ((([.int .i64 a_280_0] : Cells) ++ (([.slice A_281_1 n_282_1 c_283_1] : Cells) ++ (([.slice A_281_2 n_282_2 c_283_2] : Cells) ++ (([.int .i64 a_280_3] : Cells) ++ (([.bool a_280_4] : Cells) ++ ([.slice A_281_5 n_282_5 c_283_5] : Cells)))))) ++ (([] : Cells)))) 48 :: (T_269 ++ R)) := st_293; rw [← e_] at h_; exact h_
       refine WL.nil ?_
       refine AW.back  ?_
       refine AW.take 11 rfl (by kernel_rfl) (by kernel_rfl) (by kernel_rfl) Wanted.none (fun _ => (Runs.assign rfl)) ?_
       refine AW.done (by kernel_rfl) ?_
       refine QW.then_n ?_
       refine CW.seq (CW.region ?_)
       refine WL.val Wanted.none (Runs.move rfl) ?_
       refine WL.val Wanted.none (Runs.not rfl rfl) ?_
       refine WL.val Wanted.none (Runs.move rfl) ?_
       obtain ⟨c_294, H⟩ := H
       have h_295 : (!a_288) = false := (not_f (Decidable.not_not.mp c_294))
       refine WL.on ?_ ?_; exact Wanted.guard (dj := 67) (by rfl) (evb (by rfl) h_295) (by rfl)
       refine WL.val Wanted.none (Runs.move rfl) ?_
       refine WL.on ?_ ?_; exact Wanted.guard (dj := 67) (by rfl) (evb (by rfl) h_295) (by rfl)
       refine WL.val Wanted.none (Runs.load_mid row48 rfl st_293 (i := 4) rfl (part_mid (pre := (([] : Cells))) (mid := (([.int .i64 a_280_0] : Cells) ++ (([.slice A_281_1 n_282_1 c_283_1] : Cells) ++ (([.slice A_281_2 n_282_2 c_283_2] : Cells) ++ (([.int .i64 a_280_3] : Cells) ++ (([.bool a_280_4] : Cells) ++ ([.slice A_281_5 n_282_5 c_283_5] : Cells))))))) (post := (([] : Cells))) (by first | rfl | simp only [List.append_assoc, List.append_nil, List.nil_append, List.cons_append]) (by first | rfl | simp only [List.length_append, List.length_cons, List.length_nil, iv_length]) (by first | rfl | simp only [List.length_append, List.length_cons, List.length_nil, iv_length])) (by first | rfl | simp only [List.length_append, List.length_cons, List.length_nil, iv_length])) ?_
       refine WL.on ?_ ?_; exact Wanted.guard (dj := 67) (by rfl) (evb (by rfl) h_295) (by rfl)
       have st_296 : St w w_292 (.cells b_59 (([.slice A_271_0 n_272_0 c_273_0] : Cells) ++ (([.slice A_271_1 n_272_1 c_273_1] : Cells) ++ (([.int .i64 a_278_2] : Cells) ++ (([.bool a_278_3] : Cells) ++ ([.slice A_271_4 n_272_4 c_273_4] : Cells))))) 66 :: .sl A_271_0 c_273_0 n_272_0 x_275_0 22 1 :: .sl A_271_1 c_273_1 n_272_1 x_275_1 69 2 :: .sl A_271_4 c_273_4 n_272_4 x_275_4 71 2 :: (T_269 ++ (.cells B_90 (([.int .i64 a_280_0] : Cells) ++ (([.slice A_281_1 n_282_1 c_283_1] : Cells) ++ (([.slice A_281_2 n_282_2 c_283_2] : Cells) ++ (([.int .i64 a_280_3] : Cells) ++ (([.bool a_280_4] : Cells) ++ ([.slice A_281_5 n_282_5 c_283_5] : Cells)))))) 48 :: R))) := St.hide (A := [_, _, _, _]) (B := [_]) (T := T_269) (R := R) st_293
       obtain ⟨l_303_0, l_303_1, a_307_2, a_307_3, l_303_4, a_309, hr_297, H⟩ := H
       refine WL.call Wanted.none ent20 rfl (reliquarylaw06_same.calls w w_292 T_269 (.cells B_90 (([.int .i64 a_280_0] : Cells) ++ (([.slice A_281_1 n_282_1 c_283_1] : Cells) ++ (([.slice A_281_2 n_282_2 c_283_2] : Cells) ++ (([.int .i64 a_280_3] : Cells) ++ (([.bool a_280_4] : Cells) ++ ([.slice A_281_5 n_282_5 c_283_5] : Cells)))))) 48 :: R) l_274_0 l_274_1 a_278_2 a_278_3 l_274_4 a_280_0 l_284_1 l_284_2 a_280_3 a_280_4 l_284_5 b_59 A_271_0 n_272_0 c_273_0 x_275_0 A_271_1 n_272_1 c_273_1 x_275_1 A_271_4 n_272_4 c_273_4 x_275_4 A_281_1 n_282_1 c_283_1 A_281_2 n_282_2 c_283_2 A_281_5 n_282_5 c_283_5  st_296 (hn_276_0) hx_277_0 (hn_276_1) hx_277_1 (hn_276_4) hx_277_4 hb_286_1 hb_286_2 hb_286_5 l_303_0 l_303_1 a_307_2 a_307_3 l_303_4 a_309 hr_297) ?_
       rintro _ w_310 ⟨T_298, A_300_0, n_301_0, c_302_0, x_304_0, A_300_1, n_301_1, c_302_1, x_304_1, A_300_4, n_301_4, c_302_4, x_304_4, hs_299, hn_305_0, hx_306_0, hn_305_1, hx_306_1, hn_305_4, hx_306_4, rfl, sc_312⟩
       have st_311 : St w w_310 (.cells b_59 (([.slice A_300_0 n_301_0 c_302_0] : Cells) ++ (([.slice A_300_1 n_301_1 c_302_1] : Cells) ++ (([.int .i64 a_307_2] : Cells) ++ (([.bool a_307_3] : Cells) ++ ([.slice A_300_4 n_301_4 c_302_4] : Cells))))) 66 :: .sl A_300_0 c_302_0 n_301_0 x_304_0 22 1 :: .sl A_300_1 c_302_1 n_301_1 x_304_1 69 2 :: .sl A_300_4 c_302_4 n_301_4 x_304_4 71 2 :: .cells B_90 (([.int .i64 a_280_0] : Cells) ++ (([.slice A_281_1 n_282_1 c_283_1] : Cells) ++ (([.slice A_281_2 n_282_2 c_283_2] : Cells) ++ (([.int .i64 a_280_3] : Cells) ++ (([.bool a_280_4] : Cells) ++ ([.slice A_281_5 n_282_5 c_283_5] : Cells)))))) 48 :: (T_298 ++ R)) := St.unhide (A := [_, _, _, _]) (B := [_]) (T := T_298) (R := R) sc_312
       refine ⟨_, rfl, ?_⟩
       refine WL.on ?_ ?_; exact Wanted.guard (dj := 67) (by rfl) (evb (by rfl) h_295) (by rfl)
       refine WL.val Wanted.none (Runs.not rfl rfl) ?_
       refine WL.val Wanted.none (Runs.pick_f (evb rfl h_295) rfl) ?_
       refine WL.nil (QW.then_n ?_)
       obtain ⟨c_313, H⟩ := H
       have h_314 : (!a_309) = false := (not_f (Decidable.not_not.mp c_313))
       refine CW.cf rfl h_314 ?_
       refine CW.skip ?_
       refine QW.blk_n ?_
       refine QW.then_n ?_
       refine CW.region ?_
       refine WL.val Wanted.none (Runs.move rfl) ?_
       refine WL.val Wanted.none (Runs.add rfl rfl rfl) ?_
       refine WL.val Wanted.none (Runs.assign rfl) ?_
       refine WL.nil ?_
       have st_311' := (St.pickT (L := [_, _, _, _, _]) st_311 [4, 0, 1, 2, 3] (by decide))
       exact QW.at _ (by repeat' constructor) ⟨T_298, A_300_0, c_302_0, n_301_0, x_304_0, l_303_0, A_300_1, c_302_1, n_301_1, x_304_1, l_303_1, A_300_4, c_302_4, n_301_4, x_304_4, l_303_4, a_280_0, A_281_1, n_282_1, c_283_1, l_284_1, A_281_2, n_282_2, c_283_2, l_284_2, a_280_3, a_280_4, A_281_5, n_282_5, c_283_5, l_284_5, a_307_2, a_307_3, b_187, IntKind.i64.wrap (x_188 + 1), rfl, H, ((hs_145.trans hs_270).trans hs_299), hn_305_0, hx_306_0, hn_305_1, hx_306_1, hn_305_4, hx_306_4, (hb_286_1.mono (fun _ h_ => hs_299.1 _ h_) (fun _ h_ => hs_299.1 _ h_)), (hb_286_2.mono (fun _ h_ => hs_299.1 _ h_) (fun _ h_ => hs_299.1 _ h_)), (hb_286_5.mono (fun _ h_ => hs_299.1 _ h_) (fun _ h_ => hs_299.1 _ h_)), st_311'⟩
     ·have h_195 : (decide (x_188 < 40)) = false := (decide_eq_false c_194)
      refine WL.off ?_ ?_; exact Wanted.guard (dj := 49) (by rfl) (evb (by rfl) h_195) (by rfl)
      refine WL.off ?_ ?_; exact Wanted.guard (dj := 49) (by rfl) (evb (by rfl) h_195) (by rfl)
      refine WL.val Wanted.none (Runs.pick_f (evb rfl h_195) rfl) ?_
      refine WL.nil (QW.then_n ?_)
      refine CW.cf rfl rfl ?_
      refine CW.exit ?_
      refine QW.then_x ?_
      refine QW.then_x ?_
      refine QW.blk_x ?_
      refine QW.then_n ?_
      refine CW.sub [(4, .bool b_187)] ⟨rfl, trivial⟩ ?_
      refine CW.seq (CW.region ?_)
      refine WL.val Wanted.none (Runs.assign rfl) ?_
      refine WL.nil (QW.then_n ?_)
      refine CW.ret ?_
      exact QW.ret1 rfl rfl ⟨rfl, st_190.ext⟩
    ·have h_193 : (decide (x_188 < (l1.length : Int))) = false := (decide_eq_false c_192)
     refine WL.off ?_ ?_; exact Wanted.guard (dj := 45) (by rfl) (evb (by rfl) h_193) (by rfl)
     refine WL.off ?_ ?_; exact Wanted.guard (dj := 45) (by rfl) (evb (by rfl) h_193) (by rfl)
     refine WL.val Wanted.none (Runs.pick_f (evb rfl h_193) rfl) ?_
     refine WL.val Wanted.none (Runs.move rfl) ?_
     refine WL.off ?_ ?_; exact Wanted.guard (dj := 49) (by rfl) (by rfl) (by rfl)
     refine WL.off ?_ ?_; exact Wanted.guard (dj := 49) (by rfl) (by rfl) (by rfl)
     refine WL.val Wanted.none (Runs.pick_f rfl rfl) ?_
     refine WL.nil (QW.then_n ?_)
     refine CW.cf rfl rfl ?_
     refine CW.exit ?_
     refine QW.then_x ?_
     refine QW.then_x ?_
     refine QW.blk_x ?_
     refine QW.then_n ?_
     refine CW.sub [(4, .bool b_187)] ⟨rfl, trivial⟩ ?_
     refine CW.seq (CW.region ?_)
     refine WL.val Wanted.none (Runs.assign rfl) ?_
     refine WL.nil (QW.then_n ?_)
     refine CW.ret ?_
     exact QW.ret1 rfl rfl ⟨rfl, st_190.ext⟩
 ·have h_6 : (decide (a0 > 20)) = false := (decide_eq_false c_5)
  refine WL.off ?_ ?_; exact Wanted.guard (dj := 17) (by rfl) (evb (by rfl) h_6) (by rfl)
  refine WL.off ?_ ?_; exact Wanted.guard (dj := 17) (by rfl) (evb (by rfl) h_6) (by rfl)
  refine WL.val Wanted.none (Runs.pick_f (evb rfl h_6) rfl) ?_
  refine WL.nil (QW.then_n ?_)
  refine CW.sub [(0, .int .i64 a0), (1, .slice A1 n1 c1), (4, .bool false), (20, .bool false)] ⟨rfl, rfl, rfl, rfl, trivial⟩ ?_
  refine CW.cf rfl rfl ?_
  refine CW.skip ?_
  refine QW.then_n ?_
  refine CW.seq (CW.region ?_)
  refine WL.val Wanted.none (Runs.move rfl) ?_
  have st_315 : St w w_2 ((T ++ (R))) := St.hide (A := []) (B := []) (T := T) (R := R) st_3
  obtain ⟨o_317, a_321, hr_316, H⟩ := H
  rcases H with ⟨rfl, H⟩ | ⟨l_369_0, l_369_1, a_373_2, a_373_3, l_369_4, rfl, H⟩
  ·refine WL.call Wanted.none ent10 rfl (disk_New.calls_nil w w_2 T (R) a0  st_315 a_321 none rfl hr_316) ?_
   rintro _ w_322 ⟨T_318, hs_319, rfl, sc_324⟩
   have st_323 : St w w_322 ((T_318 ++ R)) := St.unhide (A := []) (B := []) (T := T_318) (R := R) sc_324
   refine ⟨_, rfl, ?_⟩
   refine WL.val Wanted.none (Runs.move rfl) ?_
   refine WL.val Wanted.none (Runs.extract rfl rfl) ?_
   refine WL.val Wanted.none (Runs.extract rfl rfl) ?_
   refine WL.val Wanted.none (Runs.assign rfl) ?_
   refine WL.val Wanted.none (Runs.assign rfl) ?_
   refine WL.nil (QW.then_n ?_)
   refine CW.sub [(0, .int .i64 a0), (1, .slice A1 n1 c1), (4, .bool false), (6, .pointer none), (7, .int .i64 1)] ⟨rfl, rfl, rfl, rfl, rfl, trivial⟩ ?_
   refine CW.seq (CW.region ?_)
   refine WL.val Wanted.none (Runs.move rfl) ?_
   have st_325 : St w w_322 ((T_318 ++ (R))) := St.hide (A := []) (B := []) (T := T_318) (R := R) st_323
   obtain ⟨a_330_0, l_334_1, l_334_2, a_330_3, a_330_4, l_334_5, a_338, hr_326, H⟩ := H
   refine WL.call Wanted.none ent18 rfl (reliquaryref06_New.calls w w_322 T_318 (R) a0  st_325 a_330_0 l_334_1 l_334_2 a_330_3 a_330_4 l_334_5 a_338 hr_326) ?_
   rintro _ w_339 ⟨T_327, A_331_1, n_332_1, c_333_1, A_331_2, n_332_2, c_333_2, A_331_5, n_332_5, c_333_5, hs_328, hb_336_1, hb_336_2, hb_336_5, rfl, sc_341⟩
   have st_340 : St w w_339 ((T_327 ++ R)) := St.unhide (A := []) (B := []) (T := T_327) (R := R) sc_341
   refine ⟨_, rfl, ?_⟩
   refine WL.val Wanted.none (Runs.move rfl) ?_
   refine WL.val Wanted.none (Runs.extract rfl rfl) ?_
   refine WL.val Wanted.none (Runs.extract rfl rfl) ?_
   refine WL.alloc st_340 zero48 ?_
   intro B_342 w_343 st_344
   replace st_344 : St w w_343 (.cells B_342 (([.int .i64 0] : Cells) ++ (([.slice none 0 0] : Cells) ++ (([.slice none 0 0] : Cells) ++ (([.int .i64 0] : Cells) ++ (([.bool false] : Cells) ++ ([.slice none 0 0] : Cells)))))) 48 :: (T_327 ++ R)) := st_344
   refine WL.store_mid (i := 0) (pre := (([] : Cells))) (mid := (([.int .i64 0] : Cells) ++ (([.slice none 0 0] : Cells) ++ (([.slice none 0 0] : Cells) ++ (([.int .i64 0] : Cells) ++ (([.bool false] : Cells) ++ ([.slice none 0 0] : Cells))))))) (post := (([] : Cells))) (ms := (([.int .i64 a_330_0] : Cells) ++ (([.slice A_331_1 n_332_1 c_333_1] : Cells) ++ (([.slice A_331_2 n_332_2 c_333_2] : Cells) ++ (([.int .i64 a_330_3] : Cells) ++ (([.bool a_330_4] : Cells) ++ ([.slice A_331_5 n_332_5 c_333_5] : Cells))))))) st_344 rfl row48 (by first | rfl | simp only [List.append_assoc, List.append_nil, List.nil_append, List.cons_append]) (by first | rfl | simp only [List.length_append, List.length_cons, List.length_nil, iv_length]) rfl rfl (by first | rfl | simp only [List.length_append, List.length_cons, List.length_nil, iv_length]) (by first | rfl | simp only [List.length_append, List.length_cons, List.length_nil, iv_length]) (by intro u hu; simp only [List.mem_append, List.mem_singleton] at hu; rcases hu with hu | hu | hu | hu | hu | hu <;> first | exact one_iv _ _ u hu | (subst hu; rfl)) ?_
   intro w_346 st_347
   replace st_347 : St w w_346 (.cells B_342 (([.int .i64 a_330_0] : Cells) ++ (([.slice A_331_1 n_332_1 c_333_1] : Cells) ++ (([.slice A_331_2 n_332_2 c_333_2] : Cells) ++ (([.int .i64 a_330_3] : Cells) ++ (([.bool a_330_4] : Cells) ++ ([.slice A_331_5 n_332_5 c_333_5] : Cells)))))) 48 :: (T_327 ++ R)) := by have e_ : (([.int .i64 a_330_0] : Cells) ++ (([.slice A_331_1 n_332_1 c_333_1] : Cells) ++ (([.slice A_331_2 n_332_2 c_333_2] : Cells) ++ (([.int .i64 a_330_3] : Cells) ++ (([.bool a_330_4] : Cells) ++ ([.slice A_331_5 n_332_5 c_333_5] : Cells)))))) = (([] : Cells)) ++ ((([.int .i64 a_330_0] : Cells) ++ (([.slice A_331_1 n_332_1 c_333_1] : Cells) ++ (([.slice A_331_2 n_332_2 c_333_2] : Cells) ++ (([.int .i64 a_330_3] : Cells) ++ (([.bool a_330_4] : Cells) ++ ([.slice A_331_5 n_332_5 c_333_5] : Cells)))))) ++ (([] : Cells))) := (by first | rfl | simp only [List.append_assoc, List.append_nil, List.nil_append, List.cons_append]); have h_ : St w w_346 (.cells B_342 ((([] : Cells)) ++ ((([.int .i64 a_330_0] : Cells) ++ (([.slice A_331_1 n_332_1 c_333_1] : Cells) ++ (([.slice A_331_2 n_332_2 c_333_2] : Cells) ++ (([.int .i64 a_330_3] : Cells) ++ (([.bool a_330_4] : Cells) ++ ([.slice A_331_5 n_332_5 c_333_5] : Cells)))))) ++ (([] : Cells)))) 48 :: (T_327 ++ R)) := st_347; rw [← e_] at h_; exact h_
   refine WL.val Wanted.none (Runs.assign rfl) ?_
   refine WL.nil (QW.then_n ?_)
   refine CW.sub [(1, .slice A1 n1 c1), (4, .bool false), (6, .pointer none), (7, .int .i64 1), (8, .pointer (some ⟨B_342, 0, none⟩)), (9, .int .i64 a_338)] (by repeat' constructor) ?_
   refine CW.seq ?_
   refine CW.seq (CW.region ?_)
   refine WL.val Wanted.none (Runs.move rfl) ?_
   refine WL.val Wanted.none (Runs.move rfl) ?_
   refine WL.val Wanted.none (Runs.neq rfl rfl rfl) ?_
   refine WL.val Wanted.none (Runs.move rfl) ?_
   obtain ⟨c_348, H⟩ := H
   have h_349 : ((1 : Int) != a_338) = false := (bne_eq_false_iff_eq.mpr (Decidable.not_not.mp c_348))
   refine WL.on ?_ ?_; exact Wanted.guard (dj := 34) (by rfl) (evb (by rfl) h_349) (by rfl)
   refine WL.val Wanted.none (Runs.move rfl) ?_
   refine WL.on ?_ ?_; exact Wanted.guard (dj := 34) (by rfl) (evb (by rfl) h_349) (by rfl)
   refine WL.val Wanted.none (Runs.eql_ptr Try.underlying25 rfl rfl rfl) ?_
   refine WL.on ?_ ?_; exact Wanted.guard (dj := 34) (by rfl) (evb (by rfl) h_349) (by rfl)
   refine WL.val Wanted.none (Runs.move rfl) ?_
   refine WL.on ?_ ?_; exact Wanted.guard (dj := 34) (by rfl) (evb (by rfl) h_349) (by rfl)
   refine WL.val Wanted.none (Runs.neq (b := true) rfl rfl (by decide)) ?_
   refine WL.on ?_ ?_; exact Wanted.guard (dj := 34) (by rfl) (evb (by rfl) h_349) (by rfl)
   refine WL.val Wanted.none (Runs.neb Try.underlying4 rfl rfl rfl) ?_
   refine WL.val Wanted.none (Runs.pick_f (evb rfl h_349) rfl) ?_
   refine WL.nil (QW.then_n ?_)
   refine CW.sub [(1, .slice A1 n1 c1), (4, .bool false), (6, .pointer none), (7, .int .i64 1), (8, .pointer (some ⟨B_342, 0, none⟩)), (40, .bool false)] (by repeat' constructor) ?_
   refine CW.cf rfl rfl ?_
   refine CW.skip ?_
   refine QW.then_n ?_
   refine CW.seq ?_
   refine CW.seq (CW.region ?_)
   refine WL.val Wanted.none (Runs.assign rfl) ?_
   refine WL.nil (QW.then_n ?_)
   refine CW.block ?_
   obtain ⟨k_350, H⟩ := H
   refine CW.sub [(1, .slice A1 n1 c1), (4, .bool false), (6, .pointer none), (7, .int .i64 1), (8, .pointer (some ⟨B_342, 0, none⟩)), (10, .int .i64 0)] (by repeat' constructor) ?_
   refine CW.loop (fun kL3 l_ w_ => ∃ (T_351 : Pool) (b_353 : Bool) (x_354 : Int), l_ = [(1, .slice A1 n1 c1), (4, .bool b_353), (6, .pointer none), (7, .int .i64 1), (8, .pointer (some ⟨B_342, 0, none⟩)), (10, .int .i64 x_354)] ∧ reliquarylaw06_DiskPlays.L3 l1 kL3 b_353 x_354 ∧ (Pl T_327 T_351) ∧ St w w_ (.cells B_342 (([.int .i64 a_330_0] : Cells) ++ (([.slice A_331_1 n_332_1 c_333_1] : Cells) ++ (([.slice A_331_2 n_332_2 c_333_2] : Cells) ++ (([.int .i64 a_330_3] : Cells) ++ (([.bool a_330_4] : Cells) ++ ([.slice A_331_5 n_332_5 c_333_5] : Cells)))))) 48 :: (T_351 ++ R))) (k := k_350) ⟨T_327, false, 0, rfl, H, Pl.refl, st_347⟩ (fun _ _ h => by obtain ⟨_, _, _, _, h, _⟩ := h; exact h.elim) ?_
   rintro kL3 l_357 w_355 ⟨T_351, b_353, x_354, rfl, H, hs_352, st_356⟩
   refine CW.seq ?_
   refine CW.seq (CW.region ?_)
   refine WL.val Wanted.none (Runs.move rfl) ?_
   refine WL.val Wanted.none (Runs.move rfl) ?_
   refine WL.val Wanted.none (Runs.len_sl Try.underlying44 rfl (by rw [hb1.1])) ?_
   refine WL.val Wanted.none (Runs.lss rfl rfl rfl) ?_
   refine WL.val Wanted.none (Runs.move rfl) ?_
   rcases H with ⟨c_358, H⟩ | ⟨c_358, H⟩
   ·have h_359 : (decide (x_354 < (l1.length : Int))) = true := (decide_eq_true c_358)
    refine WL.on ?_ ?_; exact Wanted.guard (dj := 45) (by rfl) (evb (by rfl) h_359) (by rfl)
    refine WL.val Wanted.none (Runs.move rfl) ?_
    refine WL.on ?_ ?_; exact Wanted.guard (dj := 45) (by rfl) (evb (by rfl) h_359) (by rfl)
    refine WL.val Wanted.none (Runs.lss rfl rfl rfl) ?_
    refine WL.val Wanted.none (Runs.pick_t (evb rfl h_359) rfl) ?_
    refine WL.val Wanted.none (Runs.move rfl) ?_
    rcases H with ⟨c_360, H⟩ | ⟨c_360, H⟩
    ·have h_361 : (decide (x_354 < 40)) = true := (decide_eq_true c_360)
     refine WL.on ?_ ?_; exact Wanted.guard (dj := 49) (by rfl) (evb (by rfl) h_361) (by rfl)
     refine WL.val Wanted.none (Runs.move rfl) ?_
     refine WL.on ?_ ?_; exact Wanted.guard (dj := 49) (by rfl) (evb (by rfl) h_361) (by rfl)
     refine WL.val Wanted.none (Runs.eql (b := false) rfl rfl (by decide)) ?_
     refine WL.val Wanted.none (Runs.pick_t (evb rfl h_361) rfl) ?_
     refine WL.nil (QW.then_n ?_)
     refine CW.cf rfl rfl ?_
     refine CW.exit ?_
     refine QW.then_x ?_
     refine QW.then_x ?_
     refine QW.blk_x ?_
     refine QW.then_n ?_
     refine CW.sub [(4, .bool b_353)] ⟨rfl, trivial⟩ ?_
     refine CW.seq (CW.region ?_)
     refine WL.val Wanted.none (Runs.assign rfl) ?_
     refine WL.nil (QW.then_n ?_)
     refine CW.ret ?_
     exact QW.ret1 rfl rfl ⟨rfl, st_356.ext⟩
    ·have h_361 : (decide (x_354 < 40)) = false := (decide_eq_false c_360)
     refine WL.off ?_ ?_; exact Wanted.guard (dj := 49) (by rfl) (evb (by rfl) h_361) (by rfl)
     refine WL.off ?_ ?_; exact Wanted.guard (dj := 49) (by rfl) (evb (by rfl) h_361) (by rfl)
     refine WL.val Wanted.none (Runs.pick_f (evb rfl h_361) rfl) ?_
     refine WL.nil (QW.then_n ?_)
     refine CW.cf rfl rfl ?_
     refine CW.exit ?_
     refine QW.then_x ?_
     refine QW.then_x ?_
     refine QW.blk_x ?_
     refine QW.then_n ?_
     refine CW.sub [(4, .bool b_353)] ⟨rfl, trivial⟩ ?_
     refine CW.seq (CW.region ?_)
     refine WL.val Wanted.none (Runs.assign rfl) ?_
     refine WL.nil (QW.then_n ?_)
     refine CW.ret ?_
     exact QW.ret1 rfl rfl ⟨rfl, st_356.ext⟩
   ·have h_359 : (decide (x_354 < (l1.length : Int))) = false := (decide_eq_false c_358)
    refine WL.off ?_ ?_; exact Wanted.guard (dj := 45) (by rfl) (evb (by rfl) h_359) (by rfl)
    refine WL.off ?_ ?_; exact Wanted.guard (dj := 45) (by rfl) (evb (by rfl) h_359) (by rfl)
    refine WL.val Wanted.none (Runs.pick_f (evb rfl h_359) rfl) ?_
    refine WL.val Wanted.none (Runs.move rfl) ?_
    refine WL.off ?_ ?_; exact Wanted.guard (dj := 49) (by rfl) (by rfl) (by rfl)
    refine WL.off ?_ ?_; exact Wanted.guard (dj := 49) (by rfl) (by rfl) (by rfl)
    refine WL.val Wanted.none (Runs.pick_f rfl rfl) ?_
    refine WL.nil (QW.then_n ?_)
    refine CW.cf rfl rfl ?_
    refine CW.exit ?_
    refine QW.then_x ?_
    refine QW.then_x ?_
    refine QW.blk_x ?_
    refine QW.then_n ?_
    refine CW.sub [(4, .bool b_353)] ⟨rfl, trivial⟩ ?_
    refine CW.seq (CW.region ?_)
    refine WL.val Wanted.none (Runs.assign rfl) ?_
    refine WL.nil (QW.then_n ?_)
    refine CW.ret ?_
    exact QW.ret1 rfl rfl ⟨rfl, st_356.ext⟩
  ·refine WL.call Wanted.none ent10 rfl (disk_New.calls_obj w w_2 T (R) a0  st_315 l_369_0 l_369_1 a_373_2 a_373_3 l_369_4 a_321 (some (l_369_0, l_369_1, a_373_2, a_373_3, l_369_4)) rfl hr_316) ?_
   rintro _ w_376 ⟨T_362, b_365, A_366_0, n_367_0, c_368_0, x_370_0, A_366_1, n_367_1, c_368_1, x_370_1, A_366_4, n_367_4, c_368_4, x_370_4, hs_363, hn_371_0, hx_372_0, hn_371_1, hx_372_1, hn_371_4, hx_372_4, rfl, sc_378⟩
   have st_377 : St w w_376 (.cells b_365 (([.slice A_366_0 n_367_0 c_368_0] : Cells) ++ (([.slice A_366_1 n_367_1 c_368_1] : Cells) ++ (([.int .i64 a_373_2] : Cells) ++ (([.bool a_373_3] : Cells) ++ ([.slice A_366_4 n_367_4 c_368_4] : Cells))))) 66 :: .sl A_366_0 c_368_0 n_367_0 x_370_0 22 1 :: .sl A_366_1 c_368_1 n_367_1 x_370_1 69 2 :: .sl A_366_4 c_368_4 n_367_4 x_370_4 71 2 :: (T_362 ++ R)) := St.unhide (A := [_, _, _, _]) (B := []) (T := T_362) (R := R) sc_378
   refine ⟨_, rfl, ?_⟩
   refine WL.val Wanted.none (Runs.move rfl) ?_
   refine WL.val Wanted.none (Runs.extract rfl rfl) ?_
   refine WL.val Wanted.none (Runs.extract rfl rfl) ?_
   refine WL.val Wanted.none (Runs.assign rfl) ?_
   refine WL.val Wanted.none (Runs.assign rfl) ?_
   refine WL.nil (QW.then_n ?_)
   refine CW.sub [(0, .int .i64 a0), (1, .slice A1 n1 c1), (4, .bool false), (6, .pointer (some ⟨b_365, 0, none⟩)), (7, .int .i64 0)] ⟨rfl, rfl, rfl, rfl, rfl, trivial⟩ ?_
   refine CW.seq (CW.region ?_)
   refine WL.val Wanted.none (Runs.move rfl) ?_
   have st_379 : St w w_376 ((T_362 ++ (.cells b_365 (([.slice A_366_0 n_367_0 c_368_0] : Cells) ++ (([.slice A_366_1 n_367_1 c_368_1] : Cells) ++ (([.int .i64 a_373_2] : Cells) ++ (([.bool a_373_3] : Cells) ++ ([.slice A_366_4 n_367_4 c_368_4] : Cells))))) 66 :: .sl A_366_0 c_368_0 n_367_0 x_370_0 22 1 :: .sl A_366_1 c_368_1 n_367_1 x_370_1 69 2 :: .sl A_366_4 c_368_4 n_367_4 x_370_4 71 2 :: R))) := St.hide (A := []) (B := [_, _, _, _]) (T := T_362) (R := R) st_377
   obtain ⟨a_384_0, l_388_1, l_388_2, a_384_3, a_384_4, l_388_5, a_392, hr_380, H⟩ := H
   refine WL.call Wanted.none ent18 rfl (reliquaryref06_New.calls w w_376 T_362 (.cells b_365 (([.slice A_366_0 n_367_0 c_368_0] : Cells) ++ (([.slice A_366_1 n_367_1 c_368_1] : Cells) ++ (([.int .i64 a_373_2] : Cells) ++ (([.bool a_373_3] : Cells) ++ ([.slice A_366_4 n_367_4 c_368_4] : Cells))))) 66 :: .sl A_366_0 c_368_0 n_367_0 x_370_0 22 1 :: .sl A_366_1 c_368_1 n_367_1 x_370_1 69 2 :: .sl A_366_4 c_368_4 n_367_4 x_370_4 71 2 :: R) a0  st_379 a_384_0 l_388_1 l_388_2 a_384_3 a_384_4 l_388_5 a_392 hr_380) ?_
   rintro _ w_393 ⟨T_381, A_385_1, n_386_1, c_387_1, A_385_2, n_386_2, c_387_2, A_385_5, n_386_5, c_387_5, hs_382, hb_390_1, hb_390_2, hb_390_5, rfl, sc_395⟩
   have st_394 : St w w_393 (.cells b_365 (([.slice A_366_0 n_367_0 c_368_0] : Cells) ++ (([.slice A_366_1 n_367_1 c_368_1] : Cells) ++ (([.int .i64 a_373_2] : Cells) ++ (([.bool a_373_3] : Cells) ++ ([.slice A_366_4 n_367_4 c_368_4] : Cells))))) 66 :: .sl A_366_0 c_368_0 n_367_0 x_370_0 22 1 :: .sl A_366_1 c_368_1 n_367_1 x_370_1 69 2 :: .sl A_366_4 c_368_4 n_367_4 x_370_4 71 2 :: (T_381 ++ R)) := St.unhide (A := []) (B := [_, _, _, _]) (T := T_381) (R := R) sc_395
   refine ⟨_, rfl, ?_⟩
   refine WL.val Wanted.none (Runs.move rfl) ?_
   refine WL.val Wanted.none (Runs.extract rfl rfl) ?_
   refine WL.val Wanted.none (Runs.extract rfl rfl) ?_
   refine WL.alloc st_394 zero48 ?_
   intro B_396 w_397 st_398
   replace st_398 : St w w_397 (.cells B_396 (([.int .i64 0] : Cells) ++ (([.slice none 0 0] : Cells) ++ (([.slice none 0 0] : Cells) ++ (([.int .i64 0] : Cells) ++ (([.bool false] : Cells) ++ ([.slice none 0 0] : Cells)))))) 48 :: .cells b_365 (([.slice A_366_0 n_367_0 c_368_0] : Cells) ++ (([.slice A_366_1 n_367_1 c_368_1] : Cells) ++ (([.int .i64 a_373_2] : Cells) ++ (([.bool a_373_3] : Cells) ++ ([.slice A_366_4 n_367_4 c_368_4] : Cells))))) 66 :: .sl A_366_0 c_368_0 n_367_0 x_370_0 22 1 :: .sl A_366_1 c_368_1 n_367_1 x_370_1 69 2 :: .sl A_366_4 c_368_4 n_367_4 x_370_4 71 2 :: (T_381 ++ R)) := st_398
   refine WL.store_mid (i := 0) (pre := (([] : Cells))) (mid := (([.int .i64 0] : Cells) ++ (([.slice none 0 0] : Cells) ++ (([.slice none 0 0] : Cells) ++ (([.int .i64 0] : Cells) ++ (([.bool false] : Cells) ++ ([.slice none 0 0] : Cells))))))) (post := (([] : Cells))) (ms := (([.int .i64 a_384_0] : Cells) ++ (([.slice A_385_1 n_386_1 c_387_1] : Cells) ++ (([.slice A_385_2 n_386_2 c_387_2] : Cells) ++ (([.int .i64 a_384_3] : Cells) ++ (([.bool a_384_4] : Cells) ++ ([.slice A_385_5 n_386_5 c_387_5] : Cells))))))) st_398 rfl row48 (by first | rfl | simp only [List.append_assoc, List.append_nil, List.nil_append, List.cons_append]) (by first | rfl | simp only [List.length_append, List.length_cons, List.length_nil, iv_length]) rfl rfl (by first | rfl | simp only [List.length_append, List.length_cons, List.length_nil, iv_length]) (by first | rfl | simp only [List.length_append, List.length_cons, List.length_nil, iv_length]) (by intro u hu; simp only [List.mem_append, List.mem_singleton] at hu; rcases hu with hu | hu | hu | hu | hu | hu <;> first | exact one_iv _ _ u hu | (subst hu; rfl)) ?_
   intro w_400 st_401
   replace st_401 : St w w_400 (.cells B_396 (([.int .i64 a_384_0] : Cells) ++ (([.slice A_385_1 n_386_1 c_387_1] : Cells) ++ (([.slice A_385_2 n_386_2 c_387_2] : Cells) ++ (([.int .i64 a_384_3] : Cells) ++ (([.bool a_384_4] : Cells) ++ ([.slice A_385_5 n_386_5 c_387_5] : Cells)))))) 48 :: .cells b_365 (([.slice A_366_0 n_367_0 c_368_0] : Cells) ++ (([.slice A_366_1 n_367_1 c_368_1] : Cells) ++ (([.int .i64 a_373_2] : Cells) ++ (([.bool a_373_3] : Cells) ++ ([.slice A_366_4 n_367_4 c_368_4] : Cells))))) 66 :: .sl A_366_0 c_368_0 n_367_0 x_370_0 22 1 :: .sl A_366_1 c_368_1 n_367_1 x_370_1 69 2 :: .sl A_366_4 c_368_4 n_367_4 x_370_4 71 2 :: (T_381 ++ R)) := by have e_ : (([.int .i64 a_384_0] : Cells) ++ (([.slice A_385_1 n_386_1 c_387_1] : Cells) ++ (([.slice A_385_2 n_386_2 c_387_2] : Cells) ++ (([.int .i64 a_384_3] : Cells) ++ (([.bool a_384_4] : Cells) ++ ([.slice A_385_5 n_386_5 c_387_5] : Cells)))))) = (([] : Cells)) ++ ((([.int .i64 a_384_0] : Cells) ++ (([.slice A_385_1 n_386_1 c_387_1] : Cells) ++ (([.slice A_385_2 n_386_2 c_387_2] : Cells) ++ (([.int .i64 a_384_3] : Cells) ++ (([.bool a_384_4] : Cells) ++ ([.slice A_385_5 n_386_5 c_387_5] : Cells)))))) ++ (([] : Cells))) := (by first | rfl | simp only [List.append_assoc, List.append_nil, List.nil_append, List.cons_append]); have h_ : St w w_400 (.cells B_396 ((([] : Cells)) ++ ((([.int .i64 a_384_0] : Cells) ++ (([.slice A_385_1 n_386_1 c_387_1] : Cells) ++ (([.slice A_385_2 n_386_2 c_387_2] : Cells) ++ (([.int .i64 a_384_3] : Cells) ++ (([.bool a_384_4] : Cells) ++ ([.slice A_385_5 n_386_5 c_387_5] : Cells)))))) ++ (([] : Cells)))) 48 :: .cells b_365 (([.slice A_366_0 n_367_0 c_368_0] : Cells) ++ (([.slice A_366_1 n_367_1 c_368_1] : Cells) ++ (([.int .i64 a_373_2] : Cells) ++ (([.bool a_373_3] : Cells) ++ ([.slice A_366_4 n_367_4 c_368_4] : Cells))))) 66 :: .sl A_366_0 c_368_0 n_367_0 x_370_0 22 1 :: .sl A_366_1 c_368_1 n_367_1 x_370_1 69 2 :: .sl A_366_4 c_368_4 n_367_4 x_370_4 71 2 :: (T_381 ++ R)) := st_401; rw [← e_] at h_; exact h_
   refine WL.val Wanted.none (Runs.assign rfl) ?_
   refine WL.nil (QW.then_n ?_)
   refine CW.sub [(1, .slice A1 n1 c1), (4, .bool false), (6, .pointer (some ⟨b_365, 0, none⟩)), (7, .int .i64 0), (8, .pointer (some ⟨B_396, 0, none⟩)), (9, .int .i64 a_392)] (by repeat' constructor) ?_
   refine CW.seq ?_
   refine CW.seq (CW.region ?_)
   refine WL.val Wanted.none (Runs.move rfl) ?_
   refine WL.val Wanted.none (Runs.move rfl) ?_
   refine WL.val Wanted.none (Runs.neq rfl rfl rfl) ?_
   refine WL.val Wanted.none (Runs.move rfl) ?_
   obtain ⟨c_402, H⟩ := H
   have h_403 : ((0 : Int) != a_392) = false := (bne_eq_false_iff_eq.mpr (Decidable.not_not.mp c_402))
   refine WL.on ?_ ?_; exact Wanted.guard (dj := 34) (by rfl) (evb (by rfl) h_403) (by rfl)
   refine WL.val Wanted.none (Runs.move rfl) ?_
   refine WL.on ?_ ?_; exact Wanted.guard (dj := 34) (by rfl) (evb (by rfl) h_403) (by rfl)
   refine WL.val Wanted.none (Runs.eql_ptr Try.underlying25 rfl rfl rfl) ?_
   refine WL.on ?_ ?_; exact Wanted.guard (dj := 34) (by rfl) (evb (by rfl) h_403) (by rfl)
   refine WL.val Wanted.none (Runs.move rfl) ?_
   refine WL.on ?_ ?_; exact Wanted.guard (dj := 34) (by rfl) (evb (by rfl) h_403) (by rfl)
   refine WL.val Wanted.none (Runs.neq (b := false) rfl rfl (by decide)) ?_
   refine WL.on ?_ ?_; exact Wanted.guard (dj := 34) (by rfl) (evb (by rfl) h_403) (by rfl)
   refine WL.val Wanted.none (Runs.neb Try.underlying4 rfl rfl rfl) ?_
   refine WL.val Wanted.none (Runs.pick_f (evb rfl h_403) rfl) ?_
   refine WL.nil (QW.then_n ?_)
   refine CW.sub [(1, .slice A1 n1 c1), (4, .bool false), (6, .pointer (some ⟨b_365, 0, none⟩)), (7, .int .i64 0), (8, .pointer (some ⟨B_396, 0, none⟩)), (40, .bool false)] (by repeat' constructor) ?_
   refine CW.cf rfl rfl ?_
   refine CW.skip ?_
   refine QW.then_n ?_
   refine CW.seq ?_
   refine CW.seq (CW.region ?_)
   refine WL.val Wanted.none (Runs.assign rfl) ?_
   refine WL.nil (QW.then_n ?_)
   refine CW.block ?_
   obtain ⟨k_404, H⟩ := H
   refine CW.sub [(1, .slice A1 n1 c1), (4, .bool false), (6, .pointer (some ⟨b_365, 0, none⟩)), (7, .int .i64 0), (8, .pointer (some ⟨B_396, 0, none⟩)), (10, .int .i64 0)] (by repeat' constructor) ?_
   refine CW.loop (fun kL4 l_ w_ => ∃ (T_450 : Pool) (A_456 : Option Addr) (c_457 : Nat) (n_458 : Nat) (x_454 : Cells) (l_452 : List R22) (A_463 : Option Addr) (c_464 : Nat) (n_465 : Nat) (x_461 : Cells) (l_459 : List R69) (A_470 : Option Addr) (c_471 : Nat) (n_472 : Nat) (x_468 : Cells) (l_466 : List R71) (x_473 : Int) (A_474 : Option Addr) (n_475 : Nat) (c_476 : Nat) (l_477 : List R86) (A_479 : Option Addr) (n_480 : Nat) (c_481 : Nat) (l_482 : List R86) (x_484 : Int) (b_485 : Bool) (A_486 : Option Addr) (n_487 : Nat) (c_488 : Nat) (l_489 : List R81) (x_491 : Int) (b_492 : Bool) (b_493 : Bool) (x_494 : Int), l_ = [(1, .slice A1 n1 c1), (4, .bool b_493), (6, .pointer (some ⟨b_365, 0, none⟩)), (7, .int .i64 0), (8, .pointer (some ⟨B_396, 0, none⟩)), (10, .int .i64 x_494)] ∧ reliquarylaw06_DiskPlays.L4 l1 kL4 l_452 l_459 l_466 x_473 l_477 l_482 x_484 b_485 l_489 x_491 b_492 b_493 x_494 ∧ (Pl T_381 T_450) ∧ (n_458 = l_452.length) ∧ (HRs T_450 (f22 w) x_454 l_452) ∧ (n_465 = l_459.length) ∧ (HRs T_450 (f69 w) x_461 l_459) ∧ (n_472 = l_466.length) ∧ (HRs T_450 (f71 w) x_468 l_466) ∧ (HS w T_450 T_450 A_474 n_475 c_476 (f86 w) l_477) ∧ (HS w T_450 T_450 A_479 n_480 c_481 (f86 w) l_482) ∧ (HS w T_450 T_450 A_486 n_487 c_488 (f81 w) l_489) ∧ St w w_ (.cells B_396 (([.int .i64 x_473] : Cells) ++ (([.slice A_474 n_475 c_476] : Cells) ++ (([.slice A_479 n_480 c_481] : Cells) ++ (([.int .i64 x_484] : Cells) ++ (([.bool b_485] : Cells) ++ ([.slice A_486 n_487 c_488] : Cells)))))) 48 :: .cells b_365 (([.slice A_456 n_458 c_457] : Cells) ++ (([.slice A_463 n_465 c_464] : Cells) ++ (([.int .i64 x_491] : Cells) ++ (([.bool b_492] : Cells) ++ ([.slice A_470 n_472 c_471] : Cells))))) 66 :: .sl A_456 c_457 n_458 x_454 22 1 :: .sl A_463 c_464 n_465 x_461 69 2 :: .sl A_470 c_471 n_472 x_468 71 2 :: (T_450 ++ R))) (k := k_404) ⟨T_381, A_366_0, c_368_0, n_367_0, x_370_0, l_369_0, A_366_1, c_368_1, n_367_1, x_370_1, l_369_1, A_366_4, c_368_4, n_367_4, x_370_4, l_369_4, a_384_0, A_385_1, n_386_1, c_387_1, l_388_1, A_385_2, n_386_2, c_387_2, l_388_2, a_384_3, a_384_4, A_385_5, n_386_5, c_387_5, l_388_5, a_373_2, a_373_3, false, 0, rfl, H, Pl.refl, hn_371_0, (hx_372_0.mono (fun _ h_ => hs_382.1 _ h_)), hn_371_1, (hx_372_1.mono (fun _ h_ => hs_382.1 _ h_)), hn_371_4, (hx_372_4.mono (fun _ h_ => hs_382.1 _ h_)), hb_390_1, hb_390_2, hb_390_5, st_401⟩ (fun _ _ h => by obtain ⟨_, _, _, _, _, _, _, _, _, _, _, _, _, _, _, _, _, _, _, _, _, _, _, _, _, _, _, _, _, _, _, _, _, _, _, _, h, _⟩ := h; exact h.elim) ?_
   rintro kL4 l_497 w_495 ⟨T_450, A_456, c_457, n_458, x_454, l_452, A_463, c_464, n_465, x_461, l_459, A_470, c_471, n_472, x_468, l_466, x_473, A_474, n_475, c_476, l_477, A_479, n_480, c_481, l_482, x_484, b_485, A_486, n_487, c_488, l_489, x_491, b_492, b_493, x_494, rfl, H, hs_451, hn_453, hx_455, hn_460, hx_462, hn_467, hx_469, hb_478, hb_483, hb_490, st_496⟩
   refine CW.seq ?_
   refine CW.seq (CW.region ?_)
   refine WL.val Wanted.none (Runs.move rfl) ?_
   refine WL.val Wanted.none (Runs.move rfl) ?_
   refine WL.val Wanted.none (Runs.len_sl Try.underlying44 rfl (by rw [hb1.1])) ?_
   refine WL.val Wanted.none (Runs.lss rfl rfl rfl) ?_
   refine WL.val Wanted.none (Runs.move rfl) ?_
   rcases H with ⟨c_498, H⟩ | ⟨c_498, H⟩
   ·have h_499 : (decide (x_494 < (l1.length : Int))) = true := (decide_eq_true c_498)
    refine WL.on ?_ ?_; exact Wanted.guard (dj := 45) (by rfl) (evb (by rfl) h_499) (by rfl)
    refine WL.val Wanted.none (Runs.move rfl) ?_
    refine WL.on ?_ ?_; exact Wanted.guard (dj := 45) (by rfl) (evb (by rfl) h_499) (by rfl)
    refine WL.val Wanted.none (Runs.lss rfl rfl rfl) ?_
    refine WL.val Wanted.none (Runs.pick_t (evb rfl h_499) rfl) ?_
    refine WL.val Wanted.none (Runs.move rfl) ?_
    rcases H with ⟨c_500, H⟩ | ⟨c_500, H⟩
    ·have h_501 : (decide (x_494 < 40)) = true := (decide_eq_true c_500)
     refine WL.on ?_ ?_; exact Wanted.guard (dj := 49) (by rfl) (evb (by rfl) h_501) (by rfl)
     refine WL.val Wanted.none (Runs.move rfl) ?_
     refine WL.on ?_ ?_; exact Wanted.guard (dj := 49) (by rfl) (evb (by rfl) h_501) (by rfl)
     refine WL.val Wanted.none (Runs.eql (b := true) rfl rfl (by decide)) ?_
     refine WL.val Wanted.none (Runs.pick_t (evb rfl h_501) rfl) ?_
     refine WL.nil (QW.then_n ?_)
     refine CW.ct rfl rfl ?_
     refine CW.skip ?_
     refine QW.then_n ?_
     refine CW.seq ?_
     refine CW.block ?_
     refine CW.seq (CW.region ?_)
     refine WL.val Wanted.none (Runs.assign rfl) ?_
     refine WL.nil (QW.then_n ?_)
     refine CW.seq ?_
     refine CW.region_aw wide st_496 (fun w_502 st_503 => ?_)
     refine AW.take 0 rfl (by kernel_rfl) (by kernel_rfl) (by kernel_rfl) Wanted.none (fun _ => (Runs.move rfl)) ?_
     refine AW.take 2 rfl (by kernel_rfl) (by kernel_rfl) (by kernel_rfl) Wanted.none (fun _ => (Runs.move rfl)) ?_
     refine AW.take 3 rfl (by kernel_rfl) (by kernel_rfl) (by kernel_rfl) Wanted.none (fun _ => (Runs.move rfl)) ?_
     obtain ⟨⟨p_504, q_505⟩, H⟩ := H
     obtain ⟨x_506, hs_507, hr_508⟩ := hb1.2.2
     obtain ⟨a_509, e_510, ms_511, hc_512, hm_513⟩ := el_get (i := (x_494).toNat) ((hs_507.at st_503 (mem_T (A := [_, _, _, _, _]) (fun _ h_ => hs_451.1 _ (hs_382.1 _ (hs_363.1 _ (hT0.1 _ h_))))))) (hr_508.mono (fun _ h_ => hs_451.1 _ (hs_382.1 _ (hs_363.1 _ (hT0.1 _ h_))))) (fz33 w) (by decide) (by omega)
     obtain ⟨A_514, n_515, c_516, A_518, n_519, c_520, em_522, hb_517, hb_521⟩ := inv33 hm_513
     replace em_522 : ms_511 = ([.int .i64 ((gx l1 (x_494.toNat)).1)] : Cells) ++ (([.int .i64 ((gx l1 (x_494.toNat)).2.1)] : Cells) ++ (([.slice A_514 n_515 c_516] : Cells) ++ (([.slice A_518 n_519 c_520] : Cells) ++ ([.bool ((gx l1 (x_494.toNat)).2.2.2.2)] : Cells)))) := em_522
     subst em_522
     refine AW.take 4 rfl (by kernel_rfl) (by kernel_rfl) (by kernel_rfl) Wanted.none (fun _ => (Runs.indexAddr Try.underlying44 cells33 (by decide) rfl e_510 rfl p_504 (by rw [show n1 = l1.length from hb1.1]; exact q_505) (o := (x_494.toNat) * 5) (by first | rfl | omega))) ?_
     refine AW.step2 1 5 rfl rfl (by kernel_rfl) ?_ ?_
     ·refine WL.val Wanted.none (Runs.load_mid row48 rfl st_503 (i := 0) rfl (part_mid (pre := (([] : Cells))) (mid := (([.int .i64 x_473] : Cells) ++ (([.slice A_474 n_475 c_476] : Cells) ++ (([.slice A_479 n_480 c_481] : Cells) ++ (([.int .i64 x_484] : Cells) ++ (([.bool b_485] : Cells) ++ ([.slice A_486 n_487 c_488] : Cells))))))) (post := (([] : Cells))) (by first | rfl | simp only [List.append_assoc, List.append_nil, List.nil_append, List.cons_append]) (by first | rfl | simp only [List.length_append, List.length_cons, List.length_nil, iv_length]) (by first | rfl | simp only [List.length_append, List.length_cons, List.length_nil, iv_length])) (by first | rfl | simp only [List.length_append, List.length_cons, List.length_nil, iv_length])) ?_
      refine WL.nil ?_
      refine AW.back ?_
      refine AW.step 5 rfl (by kernel_rfl) ?_
      refine WL.val Wanted.none (Runs.load_srcR row33 rfl (Src.cut ((hs_507.at st_503 (mem_T (A := [_, _, _, _, _]) (fun _ h_ => hs_451.1 _ (hs_382.1 _ (hs_363.1 _ (hT0.1 _ h_))))))) e_510 hc_512) rfl) ?_
      refine WL.nil ?_
      refine AW.back  ?_
      refine AW.step 6 rfl (by kernel_rfl) ?_
      have st_523 := (St.pickT (L := [_, _, _, _, _]) st_503 [1, 2, 3, 4, 0] (by decide))
      replace st_523 : St w w_502 (.cells b_365 (([.slice A_456 n_458 c_457] : Cells) ++ (([.slice A_463 n_465 c_464] : Cells) ++ (([.int .i64 x_491] : Cells) ++ (([.bool b_492] : Cells) ++ ([.slice A_470 n_472 c_471] : Cells))))) 66 :: .sl A_456 c_457 n_458 x_454 22 1 :: .sl A_463 c_464 n_465 x_461 69 2 :: .sl A_470 c_471 n_472 x_468 71 2 :: .cells B_396 (([.int .i64 x_473] : Cells) ++ (([.slice A_474 n_475 c_476] : Cells) ++ (([.slice A_479 n_480 c_481] : Cells) ++ (([.int .i64 x_484] : Cells) ++ (([.bool b_485] : Cells) ++ ([.slice A_486 n_487 c_488] : Cells)))))) 48 :: (T_450 ++ R)) := st_523
      have st_524 : St w w_502 (.cells b_365 (([.slice A_456 n_458 c_457] : Cells) ++ (([.slice A_463 n_465 c_464] : Cells) ++ (([.int .i64 x_491] : Cells) ++ (([.bool b_492] : Cells) ++ ([.slice A_470 n_472 c_471] : Cells))))) 66 :: .sl A_456 c_457 n_458 x_454 22 1 :: .sl A_463 c_464 n_465 x_461 69 2 :: .sl A_470 c_471 n_472 x_468 71 2 :: (T_450 ++ (.cells B_396 (([.int .i64 x_473] : Cells) ++ (([.slice A_474 n_475 c_476] : Cells) ++ (([.slice A_479 n_480 c_481] : Cells) ++ (([.int .i64 x_484] : Cells) ++ (([.bool b_485] : Cells) ++ ([.slice A_486 n_487 c_488] : Cells)))))) 48 :: R))) := St.hide (A := [_, _, _, _]) (B := [_]) (T := T_450) (R := R) st_523
      obtain ⟨l_531_0, l_531_1, a_535_2, a_535_3, l_531_4, a_537_0, l_541_1, l_541_2, a_537_3, a_537_4, l_541_5, a_545, hr_525, H⟩ := H
      refine WL.call Wanted.none ent19 rfl (reliquarylaw06_step.calls w w_502 T_450 (.cells B_396 (([.int .i64 x_473] : Cells) ++ (([.slice A_474 n_475 c_476] : Cells) ++ (([.slice A_479 n_480 c_481] : Cells) ++ (([.int .i64 x_484] : Cells) ++ (([.bool b_485] : Cells) ++ ([.slice A_486 n_487 c_488] : Cells)))))) 48 :: R) l_452 l_459 x_491 b_492 l_466 x_473 l_477 l_482 x_484 b_485 l_489 ((gx l1 (x_494.toNat)).1) ((gx l1 (x_494.toNat)).2.1) ((gx l1 (x_494.toNat)).2.2.1) ((gx l1 (x_494.toNat)).2.2.2.1) ((gx l1 (x_494.toNat)).2.2.2.2) b_365 A_456 n_458 c_457 x_454 A_463 n_465 c_464 x_461 A_470 n_472 c_471 x_468 A_474 n_475 c_476 A_479 n_480 c_481 A_486 n_487 c_488 A_514 n_515 c_516 A_518 n_519 c_520 (hs_451.2 (hs_382.2 (hs_363.2 (hT0.2 (rfl : celly [] = true))))) (show celly (.cells B_396 (([.int .i64 x_473] : Cells) ++ (([.slice A_474 n_475 c_476] : Cells) ++ (([.slice A_479 n_480 c_481] : Cells) ++ (([.int .i64 x_484] : Cells) ++ (([.bool b_485] : Cells) ++ ([.slice A_486 n_487 c_488] : Cells)))))) 48 :: R) = true from hR) st_524 (hn_453) hx_455 (hn_460) hx_462 (hn_467) hx_469 hb_478 hb_483 hb_490 hb_517 hb_521 l_531_0 l_531_1 a_535_2 a_535_3 l_531_4 a_537_0 l_541_1 l_541_2 a_537_3 a_537_4 l_541_5 a_545 hr_525) ?_
      rintro _ w_546 ⟨T_526, A_528_0, n_529_0, c_530_0, x_532_0, A_528_1, n_529_1, c_530_1, x_532_1, A_528_4, n_529_4, c_530_4, x_532_4, A_538_1, n_539_1, c_540_1, A_538_2, n_539_2, c_540_2, A_538_5, n_539_5, c_540_5, hs_527, hn_533_0, hx_534_0, hn_533_1, hx_534_1, hn_533_4, hx_534_4, hb_543_1, hb_543_2, hb_543_5, rfl, sc_548⟩
      have st_547 : St w w_546 (.cells b_365 (([.slice A_528_0 n_529_0 c_530_0] : Cells) ++ (([.slice A_528_1 n_529_1 c_530_1] : Cells) ++ (([.int .i64 a_535_2] : Cells) ++ (([.bool a_535_3] : Cells) ++ ([.slice A_528_4 n_529_4 c_530_4] : Cells))))) 66 :: .sl A_528_0 c_530_0 n_529_0 x_532_0 22 1 :: .sl A_528_1 c_530_1 n_529_1 x_532_1 69 2 :: .sl A_528_4 c_530_4 n_529_4 x_532_4 71 2 :: .cells B_396 (([.int .i64 x_473] : Cells) ++ (([.slice A_474 n_475 c_476] : Cells) ++ (([.slice A_479 n_480 c_481] : Cells) ++ (([.int .i64 x_484] : Cells) ++ (([.bool b_485] : Cells) ++ ([.slice A_486 n_487 c_488] : Cells)))))) 48 :: (T_526 ++ R)) := St.unhide (A := [_, _, _, _]) (B := [_]) (T := T_526) (R := R) sc_548
      refine ⟨_, rfl, ?_⟩
      refine WL.nil ?_
      refine AW.back  ?_
      refine AW.take 7 rfl (by kernel_rfl) (by kernel_rfl) (by kernel_rfl) Wanted.none (fun _ => (Runs.move rfl)) ?_
      refine AW.take 8 rfl (by kernel_rfl) (by kernel_rfl) (by kernel_rfl) Wanted.none (fun _ => (Runs.extract rfl rfl)) ?_
      refine AW.take 9 rfl (by kernel_rfl) (by kernel_rfl) (by kernel_rfl) Wanted.none (fun _ => (Runs.extract rfl rfl)) ?_
      refine AW.step 10 rfl (by kernel_rfl) ?_
      refine WL.store_mid (i := 4) (pre := (([] : Cells))) (mid := (([.int .i64 x_473] : Cells) ++ (([.slice A_474 n_475 c_476] : Cells) ++ (([.slice A_479 n_480 c_481] : Cells) ++ (([.int .i64 x_484] : Cells) ++ (([.bool b_485] : Cells) ++ ([.slice A_486 n_487 c_488] : Cells))))))) (post := (([] : Cells))) (ms := (([.int .i64 a_537_0] : Cells) ++ (([.slice A_538_1 n_539_1 c_540_1] : Cells) ++ (([.slice A_538_2 n_539_2 c_540_2] : Cells) ++ (([.int .i64 a_537_3] : Cells) ++ (([.bool a_537_4] : Cells) ++ ([.slice A_538_5 n_539_5 c_540_5] : Cells))))))) st_547 rfl row48 (by first | rfl | simp only [List.append_assoc, List.append_nil, List.nil_append, List.cons_append]) (by first | rfl | simp only [List.length_append, List.length_cons, List.length_nil, iv_length]) rfl rfl (by first | rfl | simp only [List.length_append, List.length_cons, List.length_nil, iv_length]) (by first | rfl | simp only [List.length_append, List.length_cons, List.length_nil, iv_length]) (by intro u hu; simp only [List.mem_append, List.mem_singleton] at hu; rcases hu with hu | hu | hu | hu | hu | hu <;> first | exact one_iv _ _ u hu | (subst hu; rfl)) ?_
      intro w_549 st_550
      replace st_550 : St w w_549 (.cells b_365 (([.slice A_528_0 n_529_0 c_530_0] : Cells) ++ (([.slice A_528_1 n_529_1 c_530_1] : Cells) ++ (([.int .i64 a_535_2] : Cells) ++ (([.bool a_535_3] : Cells) ++ ([.slice A_528_4 n_529_4 c_530_4] : Cells))))) 66 :: .sl A_528_0 c_530_0 n_529_0 x_532_0 22 1 :: .sl A_528_1 c_530_1 n_529_1 x_532_1 69 2 :: .sl A_528_4 c_530_4 n_529_4 x_532_4 71 2 :: .cells B_396 (([.int .i64 a_537_0] : Cells) ++ (([.slice A_538_1 n_539_1 c_540_1] : Cells) ++ (([.slice A_538_2 n_539_2 c_540_2] : Cells) ++ (([.int .i64 a_537_3] : Cells) ++ (([.bool a_537_4] : Cells) ++ ([.slice A_538_5 n_539_5 c_540_5] : Cells)))))) 48 :: (T_526 ++ R)) := by have e_ : (([.int .i64 a_537_0] : Cells) ++ (([.slice A_538_1 n_539_1 c_540_1] : Cells) ++ (([.slice A_538_2 n_539_2 c_540_2] : Cells) ++ (([.int .i64 a_537_3] : Cells) ++ (([.bool a_537_4] : Cells) ++ ([.slice A_538_5 n_539_5 c_540_5] : Cells)))))) = (([] : Cells)) ++ ((([.int .i64 a_537_0] : Cells) ++ (([.slice A_538_1 n_539_1 c_540_1] : Cells) ++ (([.slice A_538_2 n_539_2 c_540_2] : Cells) ++ (([.int .i64 a_537_3] : Cells) ++ (([.bool a_537_4] : Cells) ++ ([.slice A_538_5 n_539_5 c_540_5] : Cells)))))) ++ (([] : Cells))) := (by first | rfl | simp only [List.append_assoc, List.append_nil, List.nil_append, List.cons_append]); have h_ : St w w_549 (.cells b_365 (([.slice A_528_0 n_529_0 c_530_0] : Cells) ++ (([.slice A_528_1 n_529_1 c_530_1] : Cells) ++ (([.int .i64 a_535_2] : Cells) ++ (([.bool a_535_3] : Cells) ++ ([.slice A_528_4 n_529_4 c_530_4] : Cells))))) 66 :: .sl A_528_0 c_530_0 n_529_0 x_532_0 22 1 :: .sl A_528_1 c_530_1 n_529_1 x_532_1 69 2 :: .sl A_528_4 c_530_4 n_529_4 x_532_4 71 2 :: .cells B_396 ((([] : Cells)) ++ ((([.int .i64 a_537_0] : Cells) ++ (([.slice A_538_1 n_539_1 c_540_1] : Cells) ++ (([.slice A_538_2 n_539_2 c_540_2] : Cells) ++ (([.int .i64 a_537_3] : Cells) ++ (([.bool a_537_4] : Cells) ++ ([.slice A_538_5 n_539_5 c_540_5] : Cells)))))) ++ (([] : Cells)))) 48 :: (T_526 ++ R)) := st_550; rw [← e_] at h_; exact h_
      refine WL.nil ?_
      refine AW.back  ?_
      refine AW.take 11 rfl (by kernel_rfl) (by kernel_rfl) (by kernel_rfl) Wanted.none (fun _ => (Runs.assign rfl)) ?_
      refine AW.done (by kernel_rfl) ?_
      refine QW.then_n ?_
      refine CW.seq (CW.region ?_)
      refine WL.val Wanted.none (Runs.move rfl) ?_
      refine WL.val Wanted.none (Runs.not rfl rfl) ?_
      refine WL.val Wanted.none (Runs.move rfl) ?_
      obtain ⟨c_551, H⟩ := H
      have h_552 : (!a_545) = false := (not_f (Decidable.not_not.mp c_551))
      refine WL.on ?_ ?_; exact Wanted.guard (dj := 67) (by rfl) (evb (by rfl) h_552) (by rfl)
      refine WL.val Wanted.none (Runs.move rfl) ?_
      refine WL.on ?_ ?_; exact Wanted.guard (dj := 67) (by rfl) (evb (by rfl) h_552) (by rfl)
      refine WL.val Wanted.none (Runs.load_mid row48 rfl st_550 (i := 4) rfl (part_mid (pre := (([] : Cells))) (mid := (([.int .i64 a_537_0] : Cells) ++ (([.slice A_538_1 n_539_1 c_540_1] : Cells) ++ (([.slice A_538_2 n_539_2 c_540_2] : Cells) ++ (([.int .i64 a_537_3] : Cells) ++ (([.bool a_537_4] : Cells) ++ ([.slice A_538_5 n_539_5 c_540_5] : Cells))))))) (post := (([] : Cells))) (by first | rfl | simp only [List.append_assoc, List.append_nil, List.nil_append, List.cons_append]) (by first | rfl | simp only [List.length_append, List.length_cons, List.length_nil, iv_length]) (by first | rfl | simp only [List.length_append, List.length_cons, List.length_nil, iv_length])) (by first | rfl | simp only [List.length_append, List.length_cons, List.length_nil, iv_length])) ?_
      refine WL.on ?_ ?_; exact Wanted.guard (dj := 67) (by rfl) (evb (by rfl) h_552) (by rfl)
      have st_553 : St w w_549 (.cells b_365 (([.slice A_528_0 n_529_0 c_530_0] : Cells) ++ (([.slice A_528_1 n_529_1 c_530_1] : Cells) ++ (([.int .i64 a_535_2] : Cells) ++ (([.bool a_535_3] : Cells) ++ ([.slice A_528_4 n_529_4 c_530_4] : Cells))))) 66 :: .sl A_528_0 c_530_0 n_529_0 x_532_0 22 1 :: .sl A_528_1 c_530_1 n_529_1 x_532_1 69 2 :: .sl A_528_4 c_530_4 n_529_4 x_532_4 71 2 :: (T_526 ++ (.cells B_396 (([.int .i64 a_537_0] : Cells) ++ (([.slice A_538_1 n_539_1 c_540_1] : Cells) ++ (([.slice A_538_2 n_539_2 c_540_2] : Cells) ++ (([.int .i64 a_537_3] : Cells) ++ (([.bool a_537_4] : Cells) ++ ([.slice A_538_5 n_539_5 c_540_5] : Cells)))))) 48 :: R))) := St.hide (A := [_, _, _, _]) (B := [_]) (T := T_526) (R := R) st_550
      obtain ⟨l_560_0, l_560_1, a_564_2, a_564_3, l_560_4, a_566, hr_554, H⟩ := H
      refine WL.call Wanted.none ent20 rfl (reliquarylaw06_same.calls w w_549 T_526 (.cells B_396 (([.int .i64 a_537_0] : Cells) ++ (([.slice A_538_1 n_539_1 c_540_1] : Cells) ++ (([.slice A_538_2 n_539_2 c_540_2] : Cells) ++ (([.int .i64 a_537_3] : Cells) ++ (([.bool a_537_4] : Cells) ++ ([.slice A_538_5 n_539_5 c_540_5] : Cells)))))) 48 :: R) l_531_0 l_531_1 a_535_2 a_535_3 l_531_4 a_537_0 l_541_1 l_541_2 a_537_3 a_537_4 l_541_5 b_365 A_528_0 n_529_0 c_530_0 x_532_0 A_528_1 n_529_1 c_530_1 x_532_1 A_528_4 n_529_4 c_530_4 x_532_4 A_538_1 n_539_1 c_540_1 A_538_2 n_539_2 c_540_2 A_538_5 n_539_5 c_540_5  st_553 (hn_533_0) hx_534_0 (hn_533_1) hx_534_1 (hn_533_4) hx_534_4 hb_543_1 hb_543_2 hb_543_5 l_560_0 l_560_1 a_564_2 a_564_3 l_560_4 a_566 hr_554) ?_
      rintro _ w_567 ⟨T_555, A_557_0, n_558_0, c_559_0, x_561_0, A_557_1, n_558_1, c_559_1, x_561_1, A_557_4, n_558_4, c_559_4, x_561_4, hs_556, hn_562_0, hx_563_0, hn_562_1, hx_563_1, hn_562_4, hx_563_4, rfl, sc_569⟩
      have st_568 : St w w_567 (.cells b_365 (([.slice A_557_0 n_558_0 c_559_0] : Cells) ++ (([.slice A_557_1 n_558_1 c_559_1] : Cells) ++ (([.int .i64 a_564_2] : Cells) ++ (([.bool a_564_3] : Cells) ++ ([.slice A_557_4 n_558_4 c_559_4] : Cells))))) 66 :: .sl A_557_0 c_559_0 n_558_0 x_561_0 22 1 :: .sl A_557_1 c_559_1 n_558_1 x_561_1 69 2 :: .sl A_557_4 c_559_4 n_558_4 x_561_4 71 2 :: .cells B_396 (([.int .i64 a_537_0] : Cells) ++ (([.slice A_538_1 n_539_1 c_540_1] : Cells) ++ (([.slice A_538_2 n_539_2 c_540_2] : Cells) ++ (([.int .i64 a_537_3] : Cells) ++ (([.bool a_537_4] : Cells) ++ ([.slice A_538_5 n_539_5 c_540_5] : Cells)))))) 48 :: (T_555 ++ R)) := St.unhide (A := [_, _, _, _]) (B := [_]) (T := T_555) (R := R) sc_569
      refine ⟨_, rfl, ?_⟩
      refine WL.on ?_ ?_; exact Wanted.guard (dj := 67) (by rfl) (evb (by rfl) h_552) (by rfl)
      refine WL.val Wanted.none (Runs.not rfl rfl) ?_
      refine WL.val Wanted.none (Runs.pick_f (evb rfl h_552) rfl) ?_
      refine WL.nil (QW.then_n ?_)
      obtain ⟨c_570, H⟩ := H
      have h_571 : (!a_566) = false := (not_f (Decidable.not_not.mp c_570))
      refine CW.cf rfl h_571 ?_
      refine CW.skip ?_
      refine QW.blk_n ?_
      refine QW.then_n ?_
      refine CW.region ?_
      refine WL.val Wanted.none (Runs.move rfl) ?_
      refine WL.val Wanted.none (Runs.add rfl rfl rfl) ?_
      refine WL.val Wanted.none (Runs.assign rfl) ?_
      refine WL.nil ?_
      have st_568' := (St.pickT (L := [_, _, _, _, _]) st_568 [4, 0, 1, 2, 3] (by decide))
      exact QW.at _ (by repeat' constructor) ⟨T_555, A_557_0, c_559_0, n_558_0, x_561_0, l_560_0, A_557_1, c_559_1, n_558_1, x_561_1, l_560_1, A_557_4, c_559_4, n_558_4, x_561_4, l_560_4, a_537_0, A_538_1, n_539_1, c_540_1, l_541_1, A_538_2, n_539_2, c_540_2, l_541_2, a_537_3, a_537_4, A_538_5, n_539_5, c_540_5, l_541_5, a_564_2, a_564_3, b_493, IntKind.i64.wrap (x_494 + 1), rfl, H, ((hs_451.trans hs_527).trans hs_556), hn_562_0, hx_563_0, hn_562_1, hx_563_1, hn_562_4, hx_563_4, (hb_543_1.mono (fun _ h_ => hs_556.1 _ h_) (fun _ h_ => hs_556.1 _ h_)), (hb_543_2.mono (fun _ h_ => hs_556.1 _ h_) (fun _ h_ => hs_556.1 _ h_)), (hb_543_5.mono (fun _ h_ => hs_556.1 _ h_) (fun _ h_ => hs_556.1 _ h_)), st_568'⟩
     ·refine WL.val Wanted.none (Runs.load_srcR row33 rfl (Src.cut ((hs_507.at st_503 (mem_T (A := [_, _, _, _, _]) (fun _ h_ => hs_451.1 _ (hs_382.1 _ (hs_363.1 _ (hT0.1 _ h_))))))) e_510 hc_512) rfl) ?_
      refine WL.nil ?_
      refine AW.back ?_
      refine AW.step 1 rfl (by kernel_rfl) ?_
      refine WL.val Wanted.none (Runs.load_mid row48 rfl st_503 (i := 0) rfl (part_mid (pre := (([] : Cells))) (mid := (([.int .i64 x_473] : Cells) ++ (([.slice A_474 n_475 c_476] : Cells) ++ (([.slice A_479 n_480 c_481] : Cells) ++ (([.int .i64 x_484] : Cells) ++ (([.bool b_485] : Cells) ++ ([.slice A_486 n_487 c_488] : Cells))))))) (post := (([] : Cells))) (by first | rfl | simp only [List.append_assoc, List.append_nil, List.nil_append, List.cons_append]) (by first | rfl | simp only [List.length_append, List.length_cons, List.length_nil, iv_length]) (by first | rfl | simp only [List.length_append, List.length_cons, List.length_nil, iv_length])) (by first | rfl | simp only [List.length_append, List.length_cons, List.length_nil, iv_length])) ?_
      refine WL.nil ?_
      refine AW.back  ?_
      refine AW.step 6 rfl (by kernel_rfl) ?_
      have st_572 := (St.pickT (L := [_, _, _, _, _]) st_503 [1, 2, 3, 4, 0] (by decide))
      replace st_572 : St w w_502 (.cells b_365 (([.slice A_456 n_458 c_457] : Cells) ++ (([.slice A_463 n_465 c_464] : Cells) ++ (([.int .i64 x_491] : Cells) ++ (([.bool b_492] : Cells) ++ ([.slice A_470 n_472 c_471] : Cells))))) 66 :: .sl A_456 c_457 n_458 x_454 22 1 :: .sl A_463 c_464 n_465 x_461 69 2 :: .sl A_470 c_471 n_472 x_468 71 2 :: .cells B_396 (([.int .i64 x_473] : Cells) ++ (([.slice A_474 n_475 c_476] : Cells) ++ (([.slice A_479 n_480 c_481] : Cells) ++ (([.int .i64 x_484] : Cells) ++ (([.bool b_485] : Cells) ++ ([.slice A_486 n_487 c_488] : Cells)))))) 48 :: (T_450 ++ R)) := st_572
      have st_573 : St w w_502 (.cells b_365 (([.slice A_456 n_458 c_457] : Cells) ++ (([.slice A_463 n_465 c_464] : Cells) ++ (([.int .i64 x_491] : Cells) ++ (([.bool b_492] : Cells) ++ ([.slice A_470 n_472 c_471] : Cells))))) 66 :: .sl A_456 c_457 n_458 x_454 22 1 :: .sl A_463 c_464 n_465 x_461 69 2 :: .sl A_470 c_471 n_472 x_468 71 2 :: (T_450 ++ (.cells B_396 (([.int .i64 x_473] : Cells) ++ (([.slice A_474 n_475 c_476] : Cells) ++ (([.slice A_479 n_480 c_481] : Cells) ++ (([.int .i64 x_484] : Cells) ++ (([.bool b_485] : Cells) ++ ([.slice A_486 n_487 c_488] : Cells)))))) 48 :: R))) := St.hide (A := [_, _, _, _]) (B := [_]) (T := T_450) (R := R) st_572
      obtain ⟨l_580_0, l_580_1, a_584_2, a_584_3, l_580_4, a_586_0, l_590_1, l_590_2, a_586_3, a_586_4, l_590_5, a_594, hr_574, H⟩ := H
      refine WL.call Wanted.none ent19 rfl (reliquarylaw06_step.calls w w_502 T_450 (.cells B_396 (([.int .i64 x_473] : Cells) ++ (([.slice A_474 n_475 c_476] : Cells) ++ (([.slice A_479 n_480 c_481] : Cells) ++ (([.int .i64 x_484] : Cells) ++ (([.bool b_485] : Cells) ++ ([.slice A_486 n_487 c_488] : Cells)))))) 48 :: R) l_452 l_459 x_491 b_492 l_466 x_473 l_477 l_482 x_484 b_485 l_489 ((gx l1 (x_494.toNat)).1) ((gx l1 (x_494.toNat)).2.1) ((gx l1 (x_494.toNat)).2.2.1) ((gx l1 (x_494.toNat)).2.2.2.1) ((gx l1 (x_494.toNat)).2.2.2.2) b_365 A_456 n_458 c_457 x_454 A_463 n_465 c_464 x_461 A_470 n_472 c_471 x_468 A_474 n_475 c_476 A_479 n_480 c_481 A_486 n_487 c_488 A_514 n_515 c_516 A_518 n_519 c_520 (hs_451.2 (hs_382.2 (hs_363.2 (hT0.2 (rfl : celly [] = true))))) (show celly (.cells B_396 (([.int .i64 x_473] : Cells) ++ (([.slice A_474 n_475 c_476] : Cells) ++ (([.slice A_479 n_480 c_481] : Cells) ++ (([.int .i64 x_484] : Cells) ++ (([.bool b_485] : Cells) ++ ([.slice A_486 n_487 c_488] : Cells)))))) 48 :: R) = true from hR) st_573 (hn_453) hx_455 (hn_460) hx_462 (hn_467) hx_469 hb_478 hb_483 hb_490 hb_517 hb_521 l_580_0 l_580_1 a_584_2 a_584_3 l_580_4 a_586_0 l_590_1 l_590_2 a_586_3 a_586_4 l_590_5 a_594 hr_574) ?_
      rintro _ w_595 ⟨T_575, A_577_0, n_578_0, c_579_0, x_581_0, A_577_1, n_578_1, c_579_1, x_581_1, A_577_4, n_578_4, c_579_4, x_581_4, A_587_1, n_588_1, c_589_1, A_587_2, n_588_2, c_589_2, A_587_5, n_588_5, c_589_5, hs_576, hn_582_0, hx_583_0, hn_582_1, hx_583_1, hn_582_4, hx_583_4, hb_592_1, hb_592_2, hb_592_5, rfl, sc_597⟩
      have st_596 : St w w_595 (.cells b_365 (([.slice A_577_0 n_578_0 c_579_0] : Cells) ++ (([.slice A_577_1 n_578_1 c_579_1] : Cells) ++ (([.int .i64 a_584_2] : Cells) ++ (([.bool a_584_3] : Cells) ++ ([.slice A_577_4 n_578_4 c_579_4] : Cells))))) 66 :: .sl A_577_0 c_579_0 n_578_0 x_581_0 22 1 :: .sl A_577_1 c_579_1 n_578_1 x_581_1 69 2 :: .sl A_577_4 c_579_4 n_578_4 x_581_4 71 2 :: .cells B_396 (([.int .i64 x_473] : Cells) ++ (([.slice A_474 n_475 c_476] : Cells) ++ (([.slice A_479 n_480 c_481] : Cells) ++ (([.int .i64 x_484] : Cells) ++ (([.bool b_485] : Cells) ++ ([.slice A_486 n_487 c_488] : Cells)))))) 48 :: (T_575 ++ R)) := St.unhide (A := [_, _, _, _]) (B := [_]) (T := T_575) (R := R) sc_597
      refine ⟨_, rfl, ?_⟩
      refine WL.nil ?_
      refine AW.back  ?_
      refine AW.take 7 rfl (by kernel_rfl) (by kernel_rfl) (by kernel_rfl) Wanted.none (fun _ => (Runs.move rfl)) ?_
      refine AW.take 8 rfl (by kernel_rfl) (by kernel_rfl) (by kernel_rfl) Wanted.none (fun _ => (Runs.extract rfl rfl)) ?_
      refine AW.take 9 rfl (by kernel_rfl) (by kernel_rfl) (by kernel_rfl) Wanted.none (fun _ => (Runs.extract rfl rfl)) ?_
      refine AW.step 10 rfl (by kernel_rfl) ?_
      refine WL.store_mid (i := 4) (pre := (([] : Cells))) (mid := (([.int .i64 x_473] : Cells) ++ (([.slice A_474 n_475 c_476] : Cells) ++ (([.slice A_479 n_480 c_481] : Cells) ++ (([.int .i64 x_484] : Cells) ++ (([.bool b_485] : Cells) ++ ([.slice A_486 n_487 c_488] : Cells))))))) (post := (([] : Cells))) (ms := (([.int .i64 a_586_0] : Cells) ++ (([.slice A_587_1 n_588_1 c_589_1] : Cells) ++ (([.slice A_587_2 n_588_2 c_589_2] : Cells) ++ (([.int .i64 a_586_3] : Cells) ++ (([.bool a_586_4] : Cells) ++ ([.slice A_587_5 n_588_5 c_589_5] : Cells))))))) st_596 rfl row48 (by first | rfl | simp only [List.append_assoc, List.append_nil, List.nil_append, List.cons_append]) (by first | rfl | simp only [List.length_append, List.length_cons, List.length_nil, iv_length]) rfl rfl (by first | rfl | simp only [List.length_append, List.length_cons, List.length_nil, iv_length]) (by first | rfl | simp only [List.length_append, List.length_cons, List.length_nil, iv_length]) (by intro u hu; simp only [List.mem_append, List.mem_singleton] at hu; rcases hu with hu | hu | hu | hu | hu | hu <;> first | exact one_iv _ _ u hu | (subst hu; rfl)) ?_
      intro w_598 st_599
      replace st_599 : St w w_598 (.cells b_365 (([.slice A_577_0 n_578_0 c_579_0] : Cells) ++ (([.slice A_577_1 n_578_1 c_579_1] : Cells) ++ (([.int .i64 a_584_2] : Cells) ++ (([.bool a_584_3] : Cells) ++ ([.slice A_577_4 n_578_4 c_579_4] : Cells))))) 66 :: .sl A_577_0 c_579_0 n_578_0 x_581_0 22 1 :: .sl A_577_1 c_579_1 n_578_1 x_581_1 69 2 :: .sl A_577_4 c_579_4 n_578_4 x_581_4 71 2 :: .cells B_396 (([.int .i64 a_586_0] : Cells) ++ (([.slice A_587_1 n_588_1 c_589_1] : Cells) ++ (([.slice A_587_2 n_588_2 c_589_2] : Cells) ++ (([.int .i64 a_586_3] : Cells) ++ (([.bool a_586_4] : Cells) ++ ([.slice A_587_5 n_588_5 c_589_5] : Cells)))))) 48 :: (T_575 ++ R)) := by have e_ : (([.int .i64 a_586_0] : Cells) ++ (([.slice A_587_1 n_588_1 c_589_1] : Cells) ++ (([.slice A_587_2 n_588_2 c_589_2] : Cells) ++ (([.int .i64 a_586_3] : Cells) ++ (([.bool a_586_4] : Cells) ++ ([.slice A_587_5 n_588_5 c_589_5] : Cells)))))) = (([] : Cells)) ++ ((([.int .i64 a_586_0] : Cells) ++ (([.slice A_587_1 n_588_1 c_589_1] : Cells) ++ (([.slice A_587_2 n_588_2 c_589_2] : Cells) ++ (([.int .i64 a_586_3] : Cells) ++ (([.bool a_586_4] : Cells) ++ ([.slice A_587_5 n_588_5 c_589_5] : Cells)))))) ++ (([] : Cells))) := (by first | rfl | simp only [List.append_assoc, List.append_nil, List.nil_append, List.cons_append]); have h_ : St w w_598 (.cells b_365 (([.slice A_577_0 n_578_0 c_579_0] : Cells) ++ (([.slice A_577_1 n_578_1 c_579_1] : Cells) ++ (([.int .i64 a_584_2] : Cells) ++ (([.bool a_584_3] : Cells) ++ ([.slice A_577_4 n_578_4 c_579_4] : Cells))))) 66 :: .sl A_577_0 c_579_0 n_578_0 x_581_0 22 1 :: .sl A_577_1 c_579_1 n_578_1 x_581_1 69 2 :: .sl A_577_4 c_579_4 n_578_4 x_581_4 71 2 :: .cells B_396 ((([] : Cells)) ++ ((([.int .i64 a_586_0] : Cells) ++ (([.slice A_587_1 n_588_1 c_589_1] : Cells) ++ (([.slice A_587_2 n_588_2 c_589_2] : Cells) ++ (([.int .i64 a_586_3] : Cells) ++ (([.bool a_586_4] : Cells) ++ ([.slice A_587_5 n_588_5 c_589_5] : Cells)))))) ++ (([] : Cells)))) 48 :: (T_575 ++ R)) := st_599; rw [← e_] at h_; exact h_
      refine WL.nil ?_
      refine AW.back  ?_
      refine AW.take 11 rfl (by kernel_rfl) (by kernel_rfl) (by kernel_rfl) Wanted.none (fun _ => (Runs.assign rfl)) ?_
      refine AW.done (by kernel_rfl) ?_
      refine QW.then_n ?_
      refine CW.seq (CW.region ?_)
      refine WL.val Wanted.none (Runs.move rfl) ?_
      refine WL.val Wanted.none (Runs.not rfl rfl) ?_
      refine WL.val Wanted.none (Runs.move rfl) ?_
      obtain ⟨c_600, H⟩ := H
      have h_601 : (!a_594) = false := (not_f (Decidable.not_not.mp c_600))
      refine WL.on ?_ ?_; exact Wanted.guard (dj := 67) (by rfl) (evb (by rfl) h_601) (by rfl)
      refine WL.val Wanted.none (Runs.move rfl) ?_
      refine WL.on ?_ ?_; exact Wanted.guard (dj := 67) (by rfl) (evb (by rfl) h_601) (by rfl)
      refine WL.val Wanted.none (Runs.load_mid row48 rfl st_599 (i := 4) rfl (part_mid (pre := (([] : Cells))) (mid := (([.int .i64 a_586_0] : Cells) ++ (([.slice A_587_1 n_588_1 c_589_1] : Cells) ++ (([.slice A_587_2 n_588_2 c_589_2] : Cells) ++ (([.int .i64 a_586_3] : Cells) ++ (([.bool a_586_4] : Cells) ++ ([.slice A_587_5 n_588_5 c_589_5] : Cells))))))) (post := (([] : Cells))) (by first | rfl | simp only [List.append_assoc, List.append_nil, List.nil_append, List.cons_append]) (by first | rfl | simp only [List.length_append, List.length_cons, List.length_nil, iv_length]) (by first | rfl | simp only [List.length_append, List.length_cons, List.length_nil, iv_length])) (by first | rfl | simp only [List.length_append, List.length_cons, List.length_nil, iv_length])) ?_
      refine WL.on ?_ ?_; exact Wanted.guard (dj := 67) (by rfl) (evb (by rfl) h_601) (by rfl)
      have st_602 : St w w_598 (.cells b_365 (([.slice A_577_0 n_578_0 c_579_0] : Cells) ++ (([.slice A_577_1 n_578_1 c_579_1] : Cells) ++ (([.int .i64 a_584_2] : Cells) ++ (([.bool a_584_3] : Cells) ++ ([.slice A_577_4 n_578_4 c_579_4] : Cells))))) 66 :: .sl A_577_0 c_579_0 n_578_0 x_581_0 22 1 :: .sl A_577_1 c_579_1 n_578_1 x_581_1 69 2 :: .sl A_577_4 c_579_4 n_578_4 x_581_4 71 2 :: (T_575 ++ (.cells B_396 (([.int .i64 a_586_0] : Cells) ++ (([.slice A_587_1 n_588_1 c_589_1] : Cells) ++ (([.slice A_587_2 n_588_2 c_589_2] : Cells) ++ (([.int .i64 a_586_3] : Cells) ++ (([.bool a_586_4] : Cells) ++ ([.slice A_587_5 n_588_5 c_589_5] : Cells)))))) 48 :: R))) := St.hide (A := [_, _, _, _]) (B := [_]) (T := T_575) (R := R) st_599
      obtain ⟨l_609_0, l_609_1, a_613_2, a_613_3, l_609_4, a_615, hr_603, H⟩ := H
      refine WL.call Wanted.none ent20 rfl (reliquarylaw06_same.calls w w_598 T_575 (.cells B_396 (([.int .i64 a_586_0] : Cells) ++ (([.slice A_587_1 n_588_1 c_589_1] : Cells) ++ (([.slice A_587_2 n_588_2 c_589_2] : Cells) ++ (([.int .i64 a_586_3] : Cells) ++ (([.bool a_586_4] : Cells) ++ ([.slice A_587_5 n_588_5 c_589_5] : Cells)))))) 48 :: R) l_580_0 l_580_1 a_584_2 a_584_3 l_580_4 a_586_0 l_590_1 l_590_2 a_586_3 a_586_4 l_590_5 b_365 A_577_0 n_578_0 c_579_0 x_581_0 A_577_1 n_578_1 c_579_1 x_581_1 A_577_4 n_578_4 c_579_4 x_581_4 A_587_1 n_588_1 c_589_1 A_587_2 n_588_2 c_589_2 A_587_5 n_588_5 c_589_5  st_602 (hn_582_0) hx_583_0 (hn_582_1) hx_583_1 (hn_582_4) hx_583_4 hb_592_1 hb_592_2 hb_592_5 l_609_0 l_609_1 a_613_2 a_613_3 l_609_4 a_615 hr_603) ?_
      rintro _ w_616 ⟨T_604, A_606_0, n_607_0, c_608_0, x_610_0, A_606_1, n_607_1, c_608_1, x_610_1, A_606_4, n_607_4, c_608_4, x_610_4, hs_605, hn_611_0, hx_612_0, hn_611_1, hx_612_1, hn_611_4, hx_612_4, rfl, sc_618⟩
      have st_617 : St w w_616 (.cells b_365 (([.slice A_606_0 n_607_0 c_608_0] : Cells) ++ (([.slice A_606_1 n_607_1 c_608_1] : Cells) ++ (([.int .i64 a_613_2] : Cells) ++ (([.bool a_613_3] : Cells) ++ ([.slice A_606_4 n_607_4 c_608_4] : Cells))))) 66 :: .sl A_606_0 c_608_0 n_607_0 x_610_0 22 1 :: .sl A_606_1 c_608_1 n_607_1 x_610_1 69 2 :: .sl A_606_4 c_608_4 n_607_4 x_610_4 71 2 :: .cells B_396 (([.int .i64 a_586_0] : Cells) ++ (([.slice A_587_1 n_588_1 c_589_1] : Cells) ++ (([.slice A_587_2 n_588_2 c_589_2] : Cells) ++ (([.int .i64 a_586_3] : Cells) ++ (([.bool a_586_4] : Cells) ++ ([.slice A_587_5 n_588_5 c_589_5] : Cells)))))) 48 :: (T_604 ++ R)) := St.unhide (A := [_, _, _, _]) (B := [_]) (T := T_604) (R := R) sc_618
      refine ⟨_, rfl, ?_⟩
      refine WL.on ?_ ?_; exact Wanted.guard (dj := 67) (by rfl) (evb (by rfl) h_601) (by rfl)
      refine WL.val Wanted.none (Runs.not rfl rfl) ?_
      refine WL.val Wanted.none (Runs.pick_f (evb rfl h_601) rfl) ?_
      refine WL.nil (QW.then_n ?_)
      obtain ⟨c_619, H⟩ := H
      have h_620 : (!a_615) = false := (not_f (Decidable.not_not.mp c_619))
      refine CW.cf rfl h_620 ?_
      refine CW.skip ?_
      refine QW.blk_n ?_
      refine QW.then_n ?_
      refine CW.region ?_
      refine WL.val Wanted.none (Runs.move rfl) ?_
      refine WL.val Wanted.none (Runs.add rfl rfl rfl) ?_
      refine WL.val Wanted.none (Runs.assign rfl) ?_
      refine WL.nil ?_
      have st_617' := (St.pickT (L := [_, _, _, _, _]) st_617 [4, 0, 1, 2, 3] (by decide))
      exact QW.at _ (by repeat' constructor) ⟨T_604, A_606_0, c_608_0, n_607_0, x_610_0, l_609_0, A_606_1, c_608_1, n_607_1, x_610_1, l_609_1, A_606_4, c_608_4, n_607_4, x_610_4, l_609_4, a_586_0, A_587_1, n_588_1, c_589_1, l_590_1, A_587_2, n_588_2, c_589_2, l_590_2, a_586_3, a_586_4, A_587_5, n_588_5, c_589_5, l_590_5, a_613_2, a_613_3, b_493, IntKind.i64.wrap (x_494 + 1), rfl, H, ((hs_451.trans hs_576).trans hs_605), hn_611_0, hx_612_0, hn_611_1, hx_612_1, hn_611_4, hx_612_4, (hb_592_1.mono (fun _ h_ => hs_605.1 _ h_) (fun _ h_ => hs_605.1 _ h_)), (hb_592_2.mono (fun _ h_ => hs_605.1 _ h_) (fun _ h_ => hs_605.1 _ h_)), (hb_592_5.mono (fun _ h_ => hs_605.1 _ h_) (fun _ h_ => hs_605.1 _ h_)), st_617'⟩
    ·have h_501 : (decide (x_494 < 40)) = false := (decide_eq_false c_500)
     refine WL.off ?_ ?_; exact Wanted.guard (dj := 49) (by rfl) (evb (by rfl) h_501) (by rfl)
     refine WL.off ?_ ?_; exact Wanted.guard (dj := 49) (by rfl) (evb (by rfl) h_501) (by rfl)
     refine WL.val Wanted.none (Runs.pick_f (evb rfl h_501) rfl) ?_
     refine WL.nil (QW.then_n ?_)
     refine CW.cf rfl rfl ?_
     refine CW.exit ?_
     refine QW.then_x ?_
     refine QW.then_x ?_
     refine QW.blk_x ?_
     refine QW.then_n ?_
     refine CW.sub [(4, .bool b_493)] ⟨rfl, trivial⟩ ?_
     refine CW.seq (CW.region ?_)
     refine WL.val Wanted.none (Runs.assign rfl) ?_
     refine WL.nil (QW.then_n ?_)
     refine CW.ret ?_
     exact QW.ret1 rfl rfl ⟨rfl, st_496.ext⟩
   ·have h_499 : (decide (x_494 < (l1.length : Int))) = false := (decide_eq_false c_498)
    refine WL.off ?_ ?_; exact Wanted.guard (dj := 45) (by rfl) (evb (by rfl) h_499) (by rfl)
    refine WL.off ?_ ?_; exact Wanted.guard (dj := 45) (by rfl) (evb (by rfl) h_499) (by rfl)
    refine WL.val Wanted.none (Runs.pick_f (evb rfl h_499) rfl) ?_
    refine WL.val Wanted.none (Runs.move rfl) ?_
    refine WL.off ?_ ?_; exact Wanted.guard (dj := 49) (by rfl) (by rfl) (by rfl)
    refine WL.off ?_ ?_; exact Wanted.guard (dj := 49) (by rfl) (by rfl) (by rfl)
    refine WL.val Wanted.none (Runs.pick_f rfl rfl) ?_
    refine WL.nil (QW.then_n ?_)
    refine CW.cf rfl rfl ?_
    refine CW.exit ?_
    refine QW.then_x ?_
    refine QW.then_x ?_
    refine QW.blk_x ?_
    refine QW.then_n ?_
    refine CW.sub [(4, .bool b_493)] ⟨rfl, trivial⟩ ?_
    refine CW.seq (CW.region ?_)
    refine WL.val Wanted.none (Runs.assign rfl) ?_
    refine WL.nil (QW.then_n ?_)
    refine CW.ret ?_
    exact QW.ret1 rfl rfl ⟨rfl, st_496.ext⟩

end Go.Proofs.Ytjlifbnkdfofhaa
