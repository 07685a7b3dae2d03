/- Walks: each function computes what its relation says, and a call of it ends so. Printed by a program of this session (wip/gen). -/
import Derived.Test.YtekpnjhacnkgcaaDoorGx0
namespace Go.Proofs.YtekpnjhacnkgcaaDoor
open Go Go.Kr Go.RowKit
set_option linter.unusedVariables false
set_option linter.unusedSimpArgs false
/-! ### tree_Stamp: function 17 -/
def tree_Stamp.rel (a0 : Int) (a1 : Int) (r0 : Int) (r1 : Int) : Prop := ((a0 < 1 ∧ r0 = 0 ∧ r1 = 1) ∨ (¬ (a0 < 1) ∧ ((a0 ≥ 9223372036854775808 ∧ r0 = 0 ∧ r1 = 1) ∨ (¬ (a0 ≥ 9223372036854775808) ∧ ((a1 ≠ 0 ∧ ((a1 ≠ 1 ∧ r0 = 0 ∧ r1 = 1) ∨ (¬ (a1 ≠ 1) ∧ (∃ x_9 : Int, x_9 = IntKind.u64.wrap ((IntKind.u64.wrap (2 * a0)) + (IntKind.u64.wrap a1)) ∧ r0 = x_9 ∧ r1 = 0)))) ∨ (¬ (a1 ≠ 0) ∧ (∃ x_11 : Int, x_11 = IntKind.u64.wrap ((IntKind.u64.wrap (2 * a0)) + (IntKind.u64.wrap a1)) ∧ r0 = x_11 ∧ r1 = 0)))))))
set_option maxHeartbeats 4000000 in
set_option maxRecDepth 100000 in
theorem tree_Stamp.calls (w : World) (a0 : Int) (a1 : Int)    (r0 : Int) (r1 : Int) (H : tree_Stamp.rel a0 a1 r0 r1) :
    Calls Tryd.prog 17 #[.int .u64 a0, .int .i64 a1] w fun e w' => e = .returned (.tuple #[.int .u64 r0, .int .i64 r1]) ∧ St w w' [] := by
  refine CW.enter Tryd.func17 rfl (n := 25) rfl [.int .u64 a0, .int .i64 a1] (Nat.le_of_ble_eq_true rfl) ?_
  refine CW.sub [(0, .int .u64 a0), (1, .int .i64 a1)] ⟨rfl, rfl, trivial⟩ ?_
  have st0 : St w w [] := St.refl w
  refine CW.seq ?_
  refine CW.region ?_
  refine WL.val Wanted.none (Runs.assign rfl) ?_
  refine WL.val Wanted.none (Runs.assign rfl) ?_
  refine WL.nil ?_
  refine QW.then_n ?_
  refine CW.seq ?_
  refine CW.seq ?_
  refine CW.region ?_
  refine WL.val Wanted.none (Runs.move rfl) ?_
  refine WL.val Wanted.none (Runs.lss rfl rfl rfl) ?_
  refine WL.val Wanted.none (Runs.move rfl) ?_
  rcases H with ⟨c_1, H⟩ | ⟨c_1, H⟩
  · have h_2 : (decide (a0 < 1)) = true := (decide_eq_true c_1)
    refine WL.off ?_ ?_; exact Wanted.guard (dj := 8) (by rfl) (evb (by rfl) h_2) (by rfl)
    refine WL.off ?_ ?_; exact Wanted.guard (dj := 8) (by rfl) (evb (by rfl) h_2) (by rfl)
    refine WL.val Wanted.none (Runs.pick_t (evb rfl h_2) rfl) ?_
    refine WL.val Wanted.none (Runs.move rfl) ?_
    refine WL.off ?_ ?_; exact Wanted.guard (dj := 12) (by rfl) (by rfl) (by rfl)
    refine WL.off ?_ ?_; exact Wanted.guard (dj := 12) (by rfl) (by rfl) (by rfl)
    refine WL.off ?_ ?_; exact Wanted.guard (dj := 12) (by rfl) (by rfl) (by rfl)
    refine WL.off ?_ ?_; exact Wanted.undef (dj := 15) rfl rfl
    refine WL.off ?_ ?_; exact Wanted.undef (dj := 15) rfl rfl
    refine WL.off ?_ ?_; exact Wanted.guard (dj := 12) (by rfl) (by rfl) (by rfl)
    refine WL.val Wanted.none (Runs.pick_t rfl rfl) ?_
    refine WL.nil ?_
    refine QW.then_n ?_
    refine CW.sub [(0, .int .u64 a0), (1, .int .i64 a1), (4, .int .u64 0), (5, .int .i64 0), (19, .bool true)] ⟨rfl, rfl, rfl, rfl, rfl, trivial⟩ ?_
    refine CW.ct rfl rfl ?_
    refine CW.seq ?_
    refine CW.region ?_
    refine WL.val Wanted.none (Runs.assign rfl) ?_
    refine WL.val Wanted.none (Runs.assign rfl) ?_
    refine WL.nil ?_
    refine QW.then_n ?_
    refine CW.ret ?_
    refine QW.then_r ?_
    obtain ⟨rfl, rfl⟩ := H
    exact QW.ret2 rfl rfl rfl ⟨rfl, st0.pick [] (by decide)⟩
  · have h_2 : (decide (a0 < 1)) = false := (decide_eq_false c_1)
    refine WL.on ?_ ?_; exact Wanted.guard (dj := 8) (by rfl) (evb (by rfl) h_2) (by rfl)
    refine WL.val Wanted.none (Runs.move rfl) ?_
    refine WL.on ?_ ?_; exact Wanted.guard (dj := 8) (by rfl) (evb (by rfl) h_2) (by rfl)
    refine WL.val Wanted.none (Runs.geq rfl rfl rfl) ?_
    refine WL.val Wanted.none (Runs.pick_f (evb rfl h_2) rfl) ?_
    refine WL.val Wanted.none (Runs.move rfl) ?_
    rcases H with ⟨c_3, H⟩ | ⟨c_3, H⟩
    · have h_4 : (decide (a0 ≥ 9223372036854775808)) = true := (decide_eq_true c_3)
      refine WL.off ?_ ?_; exact Wanted.guard (dj := 12) (by rfl) (evb (by rfl) h_4) (by rfl)
      refine WL.off ?_ ?_; exact Wanted.guard (dj := 12) (by rfl) (evb (by rfl) h_4) (by rfl)
      refine WL.off ?_ ?_; exact Wanted.guard (dj := 12) (by rfl) (evb (by rfl) h_4) (by rfl)
      refine WL.off ?_ ?_; exact Wanted.undef (dj := 15) rfl rfl
      refine WL.off ?_ ?_; exact Wanted.undef (dj := 15) rfl rfl
      refine WL.off ?_ ?_; exact Wanted.guard (dj := 12) (by rfl) (evb (by rfl) h_4) (by rfl)
      refine WL.val Wanted.none (Runs.pick_t (evb rfl h_4) rfl) ?_
      refine WL.nil ?_
      refine QW.then_n ?_
      refine CW.sub [(0, .int .u64 a0), (1, .int .i64 a1), (4, .int .u64 0), (5, .int .i64 0), (19, .bool true)] ⟨rfl, rfl, rfl, rfl, rfl, trivial⟩ ?_
      refine CW.ct rfl rfl ?_
      refine CW.seq ?_
      refine CW.region ?_
      refine WL.val Wanted.none (Runs.assign rfl) ?_
      refine WL.val Wanted.none (Runs.assign rfl) ?_
      refine WL.nil ?_
      refine QW.then_n ?_
      refine CW.ret ?_
      refine QW.then_r ?_
      obtain ⟨rfl, rfl⟩ := H
      exact QW.ret2 rfl rfl rfl ⟨rfl, st0.pick [] (by decide)⟩
    · have h_4 : (decide (a0 ≥ 9223372036854775808)) = false := (decide_eq_false c_3)
      refine WL.on ?_ ?_; exact Wanted.guard (dj := 12) (by rfl) (evb (by rfl) h_4) (by rfl)
      refine WL.val Wanted.none (Runs.move rfl) ?_
      refine WL.on ?_ ?_; exact Wanted.guard (dj := 12) (by rfl) (evb (by rfl) h_4) (by rfl)
      refine WL.val Wanted.none (Runs.neq rfl rfl rfl) ?_
      refine WL.on ?_ ?_; exact Wanted.guard (dj := 12) (by rfl) (evb (by rfl) h_4) (by rfl)
      refine WL.val Wanted.none (Runs.move rfl) ?_
      rcases H with ⟨c_5, H⟩ | ⟨c_5, H⟩
      · have h_6 : (a1 != 0) = true := (bne_iff_ne.mpr c_5)
        refine WL.on ?_ ?_; exact Wanted.guard (dj := 15) (by rfl) (evb (by rfl) h_6) (by rfl)
        refine WL.val Wanted.none (Runs.move rfl) ?_
        refine WL.on ?_ ?_; exact Wanted.guard (dj := 15) (by rfl) (evb (by rfl) h_6) (by rfl)
        refine WL.val Wanted.none (Runs.neq rfl rfl rfl) ?_
        refine WL.on ?_ ?_; exact Wanted.guard (dj := 12) (by rfl) (evb (by rfl) h_4) (by rfl)
        refine WL.val Wanted.none (Runs.pick_t (evb rfl h_6) rfl) ?_
        refine WL.val Wanted.none (Runs.pick_f (evb rfl h_4) rfl) ?_
        refine WL.nil ?_
        refine QW.then_n ?_
        refine CW.sub [(0, .int .u64 a0), (1, .int .i64 a1), (4, .int .u64 0), (5, .int .i64 0), (19, .bool (a1 != 1))] ⟨rfl, rfl, rfl, rfl, rfl, trivial⟩ ?_
        rcases H with ⟨c_7, H⟩ | ⟨c_7, H⟩
        · have h_8 : (a1 != 1) = true := (bne_iff_ne.mpr c_7)
          refine CW.ct rfl h_8 ?_
          refine CW.seq ?_
          refine CW.region ?_
          refine WL.val Wanted.none (Runs.assign rfl) ?_
          refine WL.val Wanted.none (Runs.assign rfl) ?_
          refine WL.nil ?_
          refine QW.then_n ?_
          refine CW.ret ?_
          refine QW.then_r ?_
          obtain ⟨rfl, rfl⟩ := H
          exact QW.ret2 rfl rfl rfl ⟨rfl, st0.pick [] (by decide)⟩
        · have h_8 : (a1 != 1) = false := (bne_eq_false_iff_eq.mpr (Decidable.not_not.mp c_7))
          refine CW.cf rfl h_8 ?_
          refine CW.skip ?_
          refine QW.then_n ?_
          refine CW.seq ?_
          refine CW.region ?_
          refine WL.val Wanted.none (Runs.move rfl) ?_
          refine WL.val Wanted.none (Runs.mul rfl rfl rfl) ?_
          refine WL.val Wanted.none (Runs.move rfl) ?_
          refine WL.val Wanted.none (Runs.conv Tryd.underlying24 ⟨_, Tryd.underlying3⟩ rfl rfl) ?_
          obtain ⟨x_9, e_10, H⟩ := H
          refine WL.val Wanted.none (Runs.add rfl rfl e_10) ?_
          refine WL.val Wanted.none (Runs.assign rfl) ?_
          refine WL.val Wanted.none (Runs.assign rfl) ?_
          refine WL.nil ?_
          refine QW.then_n ?_
          refine CW.sub [(4, .int .u64 x_9), (5, .int .i64 0)] ⟨rfl, rfl, trivial⟩ ?_
          refine CW.ret ?_
          obtain ⟨rfl, rfl⟩ := H
          exact QW.ret2 rfl rfl rfl ⟨rfl, st0.pick [] (by decide)⟩
      · have h_6 : (a1 != 0) = false := (bne_eq_false_iff_eq.mpr (Decidable.not_not.mp c_5))
        refine WL.off ?_ ?_; exact Wanted.guard (dj := 15) (by rfl) (evb (by rfl) h_6) (by rfl)
        refine WL.off ?_ ?_; exact Wanted.guard (dj := 15) (by rfl) (evb (by rfl) h_6) (by rfl)
        refine WL.on ?_ ?_; exact Wanted.guard (dj := 12) (by rfl) (evb (by rfl) h_4) (by rfl)
        refine WL.val Wanted.none (Runs.pick_f (evb rfl h_6) rfl) ?_
        refine WL.val Wanted.none (Runs.pick_f (evb rfl h_4) rfl) ?_
        refine WL.nil ?_
        refine QW.then_n ?_
        refine CW.sub [(0, .int .u64 a0), (1, .int .i64 a1), (4, .int .u64 0), (5, .int .i64 0), (19, .bool false)] ⟨rfl, rfl, rfl, rfl, rfl, trivial⟩ ?_
        refine CW.cf rfl rfl ?_
        refine CW.skip ?_
        refine QW.then_n ?_
        refine CW.seq ?_
        refine CW.region ?_
        refine WL.val Wanted.none (Runs.move rfl) ?_
        refine WL.val Wanted.none (Runs.mul rfl rfl rfl) ?_
        refine WL.val Wanted.none (Runs.move rfl) ?_
        refine WL.val Wanted.none (Runs.conv Tryd.underlying24 ⟨_, Tryd.underlying3⟩ rfl rfl) ?_
        obtain ⟨x_11, e_12, H⟩ := H
        refine WL.val Wanted.none (Runs.add rfl rfl e_12) ?_
        refine WL.val Wanted.none (Runs.assign rfl) ?_
        refine WL.val Wanted.none (Runs.assign rfl) ?_
        refine WL.nil ?_
        refine QW.then_n ?_
        refine CW.sub [(4, .int .u64 x_11), (5, .int .i64 0)] ⟨rfl, rfl, trivial⟩ ?_
        refine CW.ret ?_
        obtain ⟨rfl, rfl⟩ := H
        exact QW.ret2 rfl rfl rfl ⟨rfl, st0.pick [] (by decide)⟩

/-! ### word_size: function 30 -/
def word_size.rel (a0 : Int) (r0 : Bool) : Prop := ((a0 ≥ 1 ∧ r0 = (decide (a0 ≤ 8))) ∨ (¬ (a0 ≥ 1) ∧ r0 = false))
set_option maxHeartbeats 4000000 in
set_option maxRecDepth 100000 in
theorem word_size.calls (w : World) (a0 : Int)    (r0 : Bool) (H : word_size.rel a0 r0) :
    Calls Tryd.prog 30 #[.int .i64 a0] w fun e w' => e = .returned (.bool r0) ∧ St w w' [] := by
  refine CW.enter Tryd.func30 rfl (n := 9) rfl [.int .i64 a0] (Nat.le_of_ble_eq_true rfl) ?_
  refine CW.sub [(0, .int .i64 a0)] ⟨rfl, trivial⟩ ?_
  have st0 : St w w [] := St.refl w
  refine CW.seq ?_
  refine CW.region ?_
  refine WL.val Wanted.none (Runs.assign rfl) ?_
  refine WL.nil ?_
  refine QW.then_n ?_
  refine CW.seq ?_
  refine CW.region ?_
  refine WL.val Wanted.none (Runs.move rfl) ?_
  refine WL.val Wanted.none (Runs.geq rfl rfl rfl) ?_
  refine WL.val Wanted.none (Runs.move rfl) ?_
  rcases H with ⟨c_1, H⟩ | ⟨c_1, H⟩
  · have h_2 : (decide (a0 ≥ 1)) = true := (decide_eq_true c_1)
    refine WL.on ?_ ?_; exact Wanted.guard (dj := 5) (by rfl) (evb (by rfl) h_2) (by rfl)
    refine WL.val Wanted.none (Runs.move rfl) ?_
    refine WL.on ?_ ?_; exact Wanted.guard (dj := 5) (by rfl) (evb (by rfl) h_2) (by rfl)
    refine WL.val Wanted.none (Runs.leq rfl rfl rfl) ?_
    refine WL.val Wanted.none (Runs.pick_t (evb rfl h_2) rfl) ?_
    refine WL.val Wanted.none (Runs.assign rfl) ?_
    refine WL.nil ?_
    refine QW.then_n ?_
    refine CW.sub [(2, .bool (decide (a0 ≤ 8)))] ⟨rfl, trivial⟩ ?_
    refine CW.ret ?_
    obtain rfl := H
    exact QW.ret1 rfl rfl ⟨rfl, st0.pick [] (by decide)⟩
  · have h_2 : (decide (a0 ≥ 1)) = false := (decide_eq_false c_1)
    refine WL.off ?_ ?_; exact Wanted.guard (dj := 5) (by rfl) (evb (by rfl) h_2) (by rfl)
    refine WL.off ?_ ?_; exact Wanted.guard (dj := 5) (by rfl) (evb (by rfl) h_2) (by rfl)
    refine WL.val Wanted.none (Runs.pick_f (evb rfl h_2) rfl) ?_
    refine WL.val Wanted.none (Runs.assign rfl) ?_
    refine WL.nil ?_
    refine QW.then_n ?_
    refine CW.sub [(2, .bool false)] ⟨rfl, trivial⟩ ?_
    refine CW.ret ?_
    obtain rfl := H
    exact QW.ret1 rfl rfl ⟨rfl, st0.pick [] (by decide)⟩

/-! ### word_Put: function 22 -/
def word_Put.L1 (a0 : Int) (a1 : Int) (r0 : List Int) : Nat → (List Int) → Int → Prop
  | 0, _, _ => False
  | kL1 + 1, l_20, x_22 => ((x_22 < a1 ∧ (0 ≤ (IntKind.u64.wrap (IntKind.i64.wrap (8 * x_22))) ∧ (∃ x_29 : Int, x_29 = shrI .u64 a0 (IntKind.u64.wrap (IntKind.i64.wrap (8 * x_22))) ∧ ((0 ≤ x_22 ∧ x_22 < (l_20.length : Int)) ∧ (∃ m_35 : List Int, m_35 = List.set l_20 ((x_22).toNat) (IntKind.u8.wrap x_29) ∧ word_Put.L1 a0 a1 r0 kL1 m_35 (IntKind.i64.wrap (x_22 + 1))))))) ∨ (¬ (x_22 < a1) ∧ r0 = l_20))
def word_Put.rel (a0 : Int) (a1 : Int) (r0 : List Int) : Prop := (∃ (r_5 : Bool), word_size.rel a1 r_5 ∧ ((¬ (r_5 = true) ∧ r0 = []) ∨ (¬ (¬ (r_5 = true)) ∧ ((0 ≤ a1 ∧ a1 ≤ 1099511627776) ∧ (∃ k_ : Nat, word_Put.L1 a0 a1 r0 k_ (List.replicate (a1).toNat (0 : Int)) 0)))))
set_option maxHeartbeats 4000000 in
set_option maxRecDepth 100000 in
theorem word_Put.calls (w : World) (a0 : Int) (a1 : Int)    (r0 : List Int) (H : word_Put.rel a0 a1 r0) :
    Calls Tryd.prog 22 #[.int .u64 a0, .int .i64 a1] w fun e w' => ∃ B0 q0 z0, z0 = r0.length ∧ e = .returned (.slice B0 z0 q0) ∧ St w w' [.sl B0 q0 z0 (iv .u8 r0) 5 1] := by
  refine CW.enter Tryd.func22 rfl (n := 27) rfl [.int .u64 a0, .int .i64 a1] (Nat.le_of_ble_eq_true rfl) ?_
  refine CW.sub [(0, .int .u64 a0), (1, .int .i64 a1)] ⟨rfl, rfl, trivial⟩ ?_
  have st0 : St w w [] := St.refl w
  refine CW.seq ?_
  refine CW.region ?_
  refine WL.val Wanted.none (Runs.assign rfl) ?_
  refine WL.nil ?_
  refine QW.then_n ?_
  refine CW.seq ?_
  refine CW.seq ?_
  refine CW.region ?_
  refine WL.val Wanted.none (Runs.move rfl) ?_
  obtain ⟨r_5, hr_1, H⟩ := H
  refine WL.call Wanted.none ent30 rfl (word_size.calls w a1 r_5 hr_1) ?_
  rintro _ w_2 ⟨rfl, sc_4⟩
  have st_3 : St w w_2 [] := st0.call sc_4
  refine ⟨_, rfl, ?_⟩
  refine WL.val Wanted.none (Runs.not rfl rfl) ?_
  refine WL.nil ?_
  refine QW.then_n ?_
  rcases H with ⟨c_6, H⟩ | ⟨c_6, H⟩
  · have h_7 : (!r_5) = true := (not_t (Bool.eq_false_iff.mpr c_6))
    refine CW.ct rfl h_7 ?_
    refine CW.seq ?_
    refine CW.region ?_
    refine WL.val Wanted.none (Runs.assign rfl) ?_
    refine WL.nil ?_
    refine QW.then_n ?_
    refine CW.ret ?_
    refine QW.then_r ?_
    have st_9 := st_3.nil_sl 5 1
    have st_9 : St w w_2 [.sl none 0 0 (iv .u8 ([] : List Int)) 5 1] := st_9
    obtain rfl := H
    exact QW.ret1 rfl rfl ⟨none, 0, 0, rfl, rfl, st_9.pick [0] (by decide)⟩
  · have h_7 : (!r_5) = false := (not_f (Decidable.not_not.mp c_6))
    refine CW.cf rfl h_7 ?_
    refine CW.skip ?_
    refine QW.then_n ?_
    refine CW.seq ?_
    refine CW.region ?_
    refine WL.val Wanted.none (Runs.move rfl) ?_
    obtain ⟨⟨p_10, q_11⟩, H⟩ := H
    obtain ⟨n_12, e_13⟩ : ∃ n_ : Nat, n_ = (a1).toNat := ⟨_, rfl⟩
    refine WL.make st_3 Tryd.underlying29 elem5 rfl rfl p_10 q_11 (by decide) (N := n_12) e_13 ?_
    intro B_14 w_15 st_16
    replace st_16 : St w w_15 [.sl (some ⟨B_14, 0, none⟩) n_12 n_12 (iv .u8 (List.replicate (a1).toNat (0 : Int))) 5 1] := by rw [← e_13]; rw [iv_replicate] at st_16; exact st_16
    have hn_17 : n_12 = (List.replicate (a1).toNat (0 : Int)).length := by rw [List.length_replicate]; exact e_13
    refine WL.val Wanted.none (Runs.assign rfl) ?_
    refine WL.nil ?_
    refine QW.then_n ?_
    refine CW.seq ?_
    refine CW.seq ?_
    refine CW.region ?_
    refine WL.val Wanted.none (Runs.move rfl) ?_
    refine WL.val Wanted.none (Runs.move rfl) ?_
    refine WL.nil ?_
    refine QW.then_n ?_
    refine CW.sub [(0, .int .u64 a0), (4, .slice none 0 0), (5, .slice (some ⟨B_14, 0, none⟩) n_12 n_12), (12, .int .i64 a1), (13, .int .i64 0)] ⟨rfl, rfl, rfl, rfl, rfl, trivial⟩ ?_
    refine CW.block ?_
    obtain ⟨k_19, H⟩ := H
    refine CW.sub [(0, .int .u64 a0), (4, .slice none 0 0), (5, .slice (some ⟨B_14, 0, none⟩) n_12 n_12), (12, .int .i64 a1), (13, .int .i64 0)] ⟨rfl, rfl, rfl, rfl, rfl, trivial⟩ ?_
    refine CW.loop (fun kL1 l_ w_ => ∃ (l_20 : List Int) (x_22 : Int), l_ = [(0, .int .u64 a0), (4, .slice none 0 0), (5, .slice (some ⟨B_14, 0, none⟩) n_12 n_12), (12, .int .i64 a1), (13, .int .i64 x_22)] ∧ word_Put.L1 a0 a1 r0 kL1 l_20 x_22 ∧ (n_12 = l_20.length) ∧ St w w_ [.sl (some ⟨B_14, 0, none⟩) n_12 n_12 (iv .u8 l_20) 5 1]) (k := k_19) ⟨List.replicate (a1).toNat (0 : Int), 0, rfl, H, hn_17, st_16⟩ (fun _ _ h => by obtain ⟨_, _, _, h, _⟩ := h; exact h.elim) ?_
    rintro kL1 l_25 w_23 ⟨l_20, x_22, rfl, H, hn_21, st_24⟩
    refine CW.seq ?_
    refine CW.region ?_
    refine WL.val Wanted.none (Runs.lss rfl rfl rfl) ?_
    refine WL.nil ?_
    refine QW.then_n ?_
    refine CW.seq ?_
    rcases H with ⟨c_26, H⟩ | ⟨c_26, H⟩
    · have h_27 : (decide (x_22 < a1)) = true := (decide_eq_true c_26)
      refine CW.ct rfl h_27 ?_
      refine CW.skip ?_
      refine QW.then_n ?_
      refine CW.seq ?_
      refine CW.block ?_
      refine CW.seq ?_
      refine CW.region ?_
      refine WL.val Wanted.none (Runs.move rfl) ?_
      refine WL.val Wanted.none (Runs.assign rfl) ?_
      refine WL.nil ?_
      refine QW.then_n ?_
      refine CW.region ?_
      refine WL.val Wanted.none (Runs.move rfl) ?_
      refine WL.val Wanted.none (Runs.move rfl) ?_
      refine WL.val Wanted.none (Runs.move rfl) ?_
      refine WL.val Wanted.none (Runs.move rfl) ?_
      refine WL.val Wanted.none (Runs.mul rfl rfl rfl) ?_
      refine WL.val Wanted.none (Runs.conv Tryd.underlying52 ⟨_, Tryd.underlying3⟩ rfl rfl) ?_
      obtain ⟨z_28, H⟩ := H
      obtain ⟨x_29, e_30, H⟩ := H
      refine WL.val Wanted.none (Runs.shr rfl rfl z_28 e_30) ?_
      refine WL.val Wanted.none (Runs.conv Tryd.underlying5 ⟨_, Tryd.underlying24⟩ rfl rfl) ?_
      obtain ⟨⟨p_31, q_32⟩, H⟩ := H
      obtain ⟨a_33, e_34⟩ := (st_24.src_sl (k := 0) rfl).addr_iv ((x_22).toNat) (by omega)
      refine WL.val Wanted.none (Runs.indexAddr Tryd.underlying29 cells5 (by decide) rfl e_34 rfl p_31 (by rw [hn_21]; exact q_32) (o := (x_22).toNat) (by first | rfl | omega)) ?_
      obtain ⟨m_35, e_36, H⟩ := H
      refine WL.store_sl (i := 0) st_24 rfl cells5 rfl e_34 (by rw [iv_length]; omega) rfl rfl ?_
      intro w_37 st_38
      have hn_39 : n_12 = m_35.length := by rw [e_36, List.length_set]; exact hn_21
      have st_38' : St w w_37 [.sl (some ⟨B_14, 0, none⟩) n_12 n_12 (iv .u8 m_35) 5 1] := by rw [e_36, ← iv_set .u8 l_20 ((x_22).toNat) (IntKind.u8.wrap x_29)]; exact st_38
      refine WL.nil ?_
      refine QW.blk_n ?_
      refine QW.then_n ?_
      refine CW.region ?_
      refine WL.val Wanted.none (Runs.add rfl rfl rfl) ?_
      refine WL.val Wanted.none (Runs.move rfl) ?_
      refine WL.nil ?_
      exact QW.at [(0, .int .u64 a0), (4, .slice none 0 0), (5, .slice (some ⟨B_14, 0, none⟩) n_12 n_12), (12, .int .i64 a1), (13, .int .i64 (IntKind.i64.wrap (x_22 + 1)))] ⟨rfl, rfl, rfl, rfl, rfl, trivial⟩ ⟨m_35, IntKind.i64.wrap (x_22 + 1), rfl, H, hn_39, st_38'⟩
    · have h_27 : (decide (x_22 < a1)) = false := (decide_eq_false c_26)
      refine CW.cf rfl h_27 ?_
      refine CW.exit ?_
      refine QW.then_x ?_
      refine QW.then_x ?_
      refine QW.blk_x ?_
      refine QW.then_n ?_
      refine CW.seq ?_
      refine CW.region ?_
      refine WL.val Wanted.none (Runs.move rfl) ?_
      refine WL.val Wanted.none (Runs.assign rfl) ?_
      refine WL.nil ?_
      refine QW.then_n ?_
      refine CW.sub [(4, .slice (some ⟨B_14, 0, none⟩) n_12 n_12)] ⟨rfl, trivial⟩ ?_
      refine CW.ret ?_
      obtain rfl := H
      exact QW.ret1 rfl rfl ⟨(some ⟨B_14, 0, none⟩), n_12, n_12, hn_21, rfl, st_24.pick [0] (by decide)⟩

/-! ### slices_Grow_s_byte_byte_nil0: function 29 -/
def slices_Grow_s_byte_byte_nil0.rel (a1 : Int) (r0 : List Int) : Prop := (¬ (a1 < 0) ∧ (((IntKind.i64.wrap (a1 - (IntKind.i64.wrap (0 - 0)))) > 0 ∧ ((0 < (IntKind.i64.wrap (a1 - (IntKind.i64.wrap (0 - 0)))) ∧ (IntKind.i64.wrap (a1 - (IntKind.i64.wrap (0 - 0)))) ≤ 1099511627776) ∧ (0 ≤ (List.replicate (IntKind.i64.wrap (a1 - (IntKind.i64.wrap (0 - 0)))).toNat (0 : Int)).length ∧ r0 = (List.take 0 (List.replicate (IntKind.i64.wrap (a1 - (IntKind.i64.wrap (0 - 0)))).toNat (0 : Int)))))) ∨ (¬ ((IntKind.i64.wrap (a1 - (IntKind.i64.wrap (0 - 0)))) > 0) ∧ r0 = [])))
set_option maxHeartbeats 4000000 in
set_option maxRecDepth 100000 in
theorem slices_Grow_s_byte_byte_nil0.calls (w : World) (a1 : Int)    (r0 : List Int) (H : slices_Grow_s_byte_byte_nil0.rel a1 r0) :
    Calls Tryd.prog 29 #[.slice none 0 0, .int .i64 a1] w fun e w' => ∃ B0 q0 z0, z0 = r0.length ∧ e = .returned (.slice B0 z0 q0) ∧ St w w' [.sl B0 q0 z0 (iv .u8 r0) 5 1] := by
  refine CW.enter Tryd.func29 rfl (n := 27) rfl [.slice none 0 0, .int .i64 a1] (Nat.le_of_ble_eq_true rfl) ?_
  refine CW.sub [(0, .slice none 0 0), (1, .int .i64 a1)] ⟨rfl, rfl, trivial⟩ ?_
  have st0 : St w w [] := St.refl w
  refine CW.seq ?_
  refine CW.region ?_
  refine WL.val Wanted.none (Runs.assign rfl) ?_
  refine WL.nil ?_
  refine QW.then_n ?_
  refine CW.seq ?_
  refine CW.seq ?_
  refine CW.region ?_
  refine WL.val Wanted.none (Runs.move rfl) ?_
  refine WL.val Wanted.none (Runs.lss rfl rfl rfl) ?_
  refine WL.nil ?_
  refine QW.then_n ?_
  obtain ⟨c_1, H⟩ := H
  have h_2 : (decide (a1 < 0)) = false := (decide_eq_false c_1)
  refine CW.cf rfl h_2 ?_
  refine CW.skip ?_
  refine QW.then_n ?_
  refine CW.seq ?_
  refine CW.seq ?_
  refine CW.region ?_
  refine WL.val Wanted.none (Runs.move rfl) ?_
  refine WL.val Wanted.none (Runs.move rfl) ?_
  refine WL.val Wanted.none (Runs.cap_sl Tryd.underlying29 rfl rfl) ?_
  refine WL.val Wanted.none (Runs.move rfl) ?_
  refine WL.val Wanted.none (Runs.len_sl Tryd.underlying29 rfl rfl) ?_
  refine WL.val Wanted.none (Runs.sub rfl rfl rfl) ?_
  refine WL.val Wanted.none (Runs.sub rfl rfl rfl) ?_
  refine WL.val Wanted.none (Runs.assign rfl) ?_
  refine WL.nil ?_
  refine QW.then_n ?_
  refine CW.sub [(0, .slice none 0 0), (1, .int .i64 (IntKind.i64.wrap (a1 - (IntKind.i64.wrap (0 - 0))))), (4, .slice none 0 0)] ⟨rfl, rfl, rfl, trivial⟩ ?_
  refine CW.seq ?_
  refine CW.region ?_
  refine WL.val Wanted.none (Runs.move rfl) ?_
  refine WL.val Wanted.none (Runs.gtr rfl rfl rfl) ?_
  refine WL.nil ?_
  refine QW.then_n ?_
  rcases H with ⟨c_3, H⟩ | ⟨c_3, H⟩
  · have h_4 : (decide ((IntKind.i64.wrap (a1 - (IntKind.i64.wrap (0 - 0)))) > 0)) = true := (decide_eq_true c_3)
    refine CW.ct rfl h_4 ?_
    refine CW.region ?_
    refine WL.val Wanted.none (Runs.move rfl) ?_
    refine WL.val Wanted.none (Runs.move rfl) ?_
    refine WL.val Wanted.none (Runs.cap_sl Tryd.underlying29 rfl rfl) ?_
    refine WL.val Wanted.none (Runs.slice_h (A := none) (c := 0) (m := 0) (B := none) (N := 0) Tryd.underlying29 cells5 rfl rfl (by decide) (by decide) rfl rfl) ?_
    refine WL.val Wanted.none (Runs.move rfl) ?_
    obtain ⟨⟨p_6, q_7⟩, H⟩ := H
    obtain ⟨n_8, e_9⟩ : ∃ n_ : Nat, n_ = (IntKind.i64.wrap (a1 - (IntKind.i64.wrap (0 - 0)))).toNat := ⟨_, rfl⟩
    refine WL.append_make (N := n_8) st0 Tryd.underlying29 Tryd.underlying3 elem5 rfl rfl p_6 q_7 (by decide) e_9 ?_
    intro B_11 c_12 w_10 st_14
    replace st_14 : St w w_10 [.sl (some ⟨B_11, 0, none⟩) c_12 n_8 (iv .u8 (List.replicate (IntKind.i64.wrap (a1 - (IntKind.i64.wrap (0 - 0)))).toNat (0 : Int))) 5 1] := by rw [← e_9]; rw [iv_replicate] at st_14; exact st_14
    have hn_15 : n_8 = (List.replicate (IntKind.i64.wrap (a1 - (IntKind.i64.wrap (0 - 0)))).toNat (0 : Int)).length := by rw [List.length_replicate]; exact e_9
    refine WL.val Wanted.none (Runs.move rfl) ?_
    refine WL.val Wanted.none (Runs.len_sl Tryd.underlying29 rfl rfl) ?_
    obtain ⟨h_17, H⟩ := H
    rw [← hn_15] at h_17
    have h_17c : n_8 ≤ c_12 := st_14.cap (i := 0) rfl
    have st_16 := st_14.trunc (i := 0) rfl 0 h_17
    have hn_18 : 0 = (List.take 0 (List.replicate (IntKind.i64.wrap (a1 - (IntKind.i64.wrap (0 - 0)))).toNat (0 : Int))).length := by rw [List.length_take]; omega
    have st_16' : St w w_10 [.sl (some ⟨B_11, 0, none⟩) c_12 0 (iv .u8 (List.take 0 (List.replicate (IntKind.i64.wrap (a1 - (IntKind.i64.wrap (0 - 0)))).toNat (0 : Int)))) 5 1] := by rw [← iv_take]; exact st_16
    refine WL.val Wanted.none (Runs.slice_hp Tryd.underlying29 cells5 rfl rfl (by decide) (by omega) rfl) ?_
    refine WL.val Wanted.none (Runs.assign rfl) ?_
    refine WL.nil ?_
    refine QW.then_n ?_
    refine CW.sub [(0, .slice (some ⟨B_11, 0, none⟩) 0 c_12), (4, .slice none 0 0)] ⟨rfl, rfl, trivial⟩ ?_
    refine CW.seq ?_
    refine CW.region ?_
    refine WL.val Wanted.none (Runs.move rfl) ?_
    refine WL.val Wanted.none (Runs.assign rfl) ?_
    refine WL.nil ?_
    refine QW.then_n ?_
    refine CW.ret ?_
    obtain rfl := H
    exact QW.ret1 rfl rfl ⟨(some ⟨B_11, 0, none⟩), c_12, 0, hn_18, rfl, st_16'.pick [0] (by decide)⟩
  · have h_4 : (decide ((IntKind.i64.wrap (a1 - (IntKind.i64.wrap (0 - 0)))) > 0)) = false := (decide_eq_false c_3)
    refine CW.cf rfl h_4 ?_
    refine CW.skip ?_
    refine QW.then_n ?_
    refine CW.seq ?_
    refine CW.region ?_
    refine WL.val Wanted.none (Runs.move rfl) ?_
    refine WL.val Wanted.none (Runs.assign rfl) ?_
    refine WL.nil ?_
    refine QW.then_n ?_
    refine CW.ret ?_
    have st_21 := st0.nil_sl 5 1
    have st_21 : St w w [.sl none 0 0 (iv .u8 ([] : List Int)) 5 1] := st_21
    obtain rfl := H
    exact QW.ret1 rfl rfl ⟨none, 0, 0, rfl, rfl, st_21.pick [0] (by decide)⟩

/-! ### slices_Concat_s_byte_byte: function 21 -/
def slices_Concat_s_byte_byte.L2 (l0 : List (List Int)) (r0 : List Int) : Nat → (List Int) → Int → Prop
  | 0, _, _ => False
  | kL2 + 1, l_37, x_40 => ((x_40 < (l0.length : Int) ∧ ((0 ≤ x_40 ∧ x_40 < (l0.length : Int)) ∧ (∃ m_57 : List Int, m_57 = l_37 ++ (gl l0 ((x_40).toNat)) ∧ (m_57.length ≤ 1099511627776 ∧ slices_Concat_s_byte_byte.L2 l0 r0 kL2 m_57 (IntKind.i64.wrap (x_40 + 1)))))) ∨ (¬ (x_40 < (l0.length : Int)) ∧ r0 = l_37))
def slices_Concat_s_byte_byte.L1 (l0 : List (List Int)) (r0 : List Int) : Nat → Int → Int → Prop
  | 0, _, _ => False
  | kL1 + 1, x_2, x_3 => ((x_3 < (l0.length : Int) ∧ ((0 ≤ x_3 ∧ x_3 < (l0.length : Int)) ∧ (∃ x_20 : Int, x_20 = IntKind.i64.wrap (x_2 + ((gl l0 ((x_3).toNat)).length : Int)) ∧ (¬ (x_20 < 0) ∧ slices_Concat_s_byte_byte.L1 l0 r0 kL1 x_20 (IntKind.i64.wrap (x_3 + 1)))))) ∨ (¬ (x_3 < (l0.length : Int)) ∧ (∃ (r_28 : List Int), slices_Grow_s_byte_byte_nil0.rel x_2 r_28 ∧ (∃ k_ : Nat, slices_Concat_s_byte_byte.L2 l0 r0 k_ r_28 0))))
def slices_Concat_s_byte_byte.rel (l0 : List (List Int)) (r0 : List Int) : Prop := (∃ k_ : Nat, slices_Concat_s_byte_byte.L1 l0 r0 k_ 0 0)
set_option maxHeartbeats 4000000 in
set_option maxRecDepth 100000 in
theorem slices_Concat_s_byte_byte.calls (w : World) (l0 : List (List Int)) (A0 : Option Addr) (n0 : Nat) (c0 : Nat)  (hs0 : RowsOf w .u8 A0 l0) (hn0 : n0 = l0.length) (hc0 : n0 ≤ c0) (r0 : List Int) (H : slices_Concat_s_byte_byte.rel l0 r0) :
    Calls Tryd.prog 21 #[.slice A0 n0 c0] w fun e w' => ∃ B0 q0 z0, z0 = r0.length ∧ e = .returned (.slice B0 z0 q0) ∧ St w w' [.sl B0 q0 z0 (iv .u8 r0) 5 1] := by
  refine CW.enter Tryd.func21 rfl (n := 36) rfl [.slice A0 n0 c0] (Nat.le_of_ble_eq_true rfl) ?_
  refine CW.sub [(0, .slice A0 n0 c0)] ⟨rfl, trivial⟩ ?_
  have st0 : St w w [] := St.refl w
  refine CW.seq ?_
  refine CW.region ?_
  refine WL.val Wanted.none (Runs.assign rfl) ?_
  refine WL.nil ?_
  refine QW.then_n ?_
  refine CW.seq ?_
  refine CW.region ?_
  refine WL.val Wanted.none (Runs.assign rfl) ?_
  refine WL.nil ?_
  refine QW.then_n ?_
  refine CW.seq ?_
  refine CW.seq ?_
  refine CW.region ?_
  refine WL.val Wanted.none (Runs.move rfl) ?_
  refine WL.val Wanted.none (Runs.len_sl Tryd.underlying63 rfl (by rw [hn0])) ?_
  refine WL.val Wanted.none (Runs.move rfl) ?_
  refine WL.nil ?_
  refine QW.then_n ?_
  refine CW.block ?_
  obtain ⟨k_1, H⟩ := H
  refine CW.sub [(0, .slice A0 n0 c0), (2, .slice none 0 0), (3, .int .i64 0), (9, .slice A0 n0 c0), (10, .int .i64 (l0.length : Int)), (11, .int .i64 0)] ⟨rfl, rfl, rfl, rfl, rfl, rfl, trivial⟩ ?_
  refine CW.loop (fun kL1 l_ w_ => ∃ (x_2 : Int) (x_3 : Int), l_ = [(0, .slice A0 n0 c0), (2, .slice none 0 0), (3, .int .i64 x_2), (9, .slice A0 n0 c0), (10, .int .i64 (l0.length : Int)), (11, .int .i64 x_3)] ∧ slices_Concat_s_byte_byte.L1 l0 r0 kL1 x_2 x_3 ∧ St w w_ []) (k := k_1) ⟨0, 0, rfl, H, st0⟩ (fun _ _ h => by obtain ⟨_, _, _, h, _⟩ := h; exact h.elim) ?_
  rintro kL1 l_6 w_4 ⟨x_2, x_3, rfl, H, st_5⟩
  refine CW.seq ?_
  refine CW.region ?_
  refine WL.val Wanted.none (Runs.lss rfl rfl rfl) ?_
  refine WL.nil ?_
  refine QW.then_n ?_
  refine CW.seq ?_
  rcases H with ⟨c_7, H⟩ | ⟨c_7, H⟩
  · have h_8 : (decide (x_3 < (l0.length : Int))) = true := (decide_eq_true c_7)
    refine CW.ct rfl h_8 ?_
    refine CW.skip ?_
    refine QW.then_n ?_
    refine CW.seq ?_
    refine CW.block ?_
    refine CW.seq ?_
    refine CW.region ?_
    obtain ⟨⟨p_9, q_10⟩, H⟩ := H
    obtain ⟨a_11, A_13, n_14, c_15, e_12, f_17, hn_18, hc_19, g_16⟩ := hs0.get ((x_3).toNat) (by omega)
    refine WL.val Wanted.none (Runs.indexAddr Tryd.underlying63 cells29 (by decide) rfl e_12 rfl p_9 (by rw [hn0]; exact q_10) (o := (x_3).toNat) (by first | rfl | omega)) ?_
    refine WL.val Wanted.none (Runs.load nagg29 rfl (st_5.up f_17)) ?_
    refine WL.val Wanted.none (Runs.assign rfl) ?_
    refine WL.nil ?_
    refine QW.then_n ?_
    refine CW.seq ?_
    refine CW.region ?_
    refine WL.val Wanted.none (Runs.move rfl) ?_
    refine WL.val Wanted.none (Runs.move rfl) ?_
    refine WL.val Wanted.none (Runs.len_sl Tryd.underlying29 rfl (by rw [hn_18])) ?_
    obtain ⟨x_20, e_21, H⟩ := H
    refine WL.val Wanted.none (Runs.add rfl rfl e_21) ?_
    refine WL.val Wanted.none (Runs.assign rfl) ?_
    refine WL.nil ?_
    refine QW.then_n ?_
    refine CW.seq ?_
    refine CW.region ?_
    refine WL.val Wanted.none (Runs.move rfl) ?_
    refine WL.val Wanted.none (Runs.lss rfl rfl rfl) ?_
    refine WL.nil ?_
    refine QW.then_n ?_
    obtain ⟨c_22, H⟩ := H
    have h_23 : (decide (x_20 < 0)) = false := (decide_eq_false c_22)
    refine CW.cf rfl h_23 ?_
    refine CW.skip ?_
    refine QW.blk_n ?_
    refine QW.then_n ?_
    refine CW.region ?_
    refine WL.val Wanted.none (Runs.add rfl rfl rfl) ?_
    refine WL.val Wanted.none (Runs.move rfl) ?_
    refine WL.nil ?_
    exact QW.at [(0, .slice A0 n0 c0), (2, .slice none 0 0), (3, .int .i64 x_20), (9, .slice A0 n0 c0), (10, .int .i64 (l0.length : Int)), (11, .int .i64 (IntKind.i64.wrap (x_3 + 1)))] ⟨rfl, rfl, rfl, rfl, rfl, rfl, trivial⟩ ⟨x_20, IntKind.i64.wrap (x_3 + 1), rfl, H, st_5⟩
  · have h_8 : (decide (x_3 < (l0.length : Int))) = false := (decide_eq_false c_7)
    refine CW.cf rfl h_8 ?_
    refine CW.exit ?_
    refine QW.then_x ?_
    refine QW.then_x ?_
    refine QW.blk_x ?_
    refine QW.then_n ?_
    refine CW.seq ?_
    refine CW.region ?_
    refine WL.val Wanted.none (Runs.move rfl) ?_
    obtain ⟨r_28, hr_24, H⟩ := H
    refine WL.call Wanted.none ent29 rfl (slices_Grow_s_byte_byte_nil0.calls w_4 x_2 r_28 hr_24) ?_
    rintro _ w_25 ⟨A_29, c_30, n_31, hn_32, rfl, sc_27⟩
    have st_26 : St w w_25 [.sl A_29 c_30 n_31 (iv .u8 r_28) 5 1] := st_5.call sc_27
    refine ⟨_, rfl, ?_⟩
    refine WL.val Wanted.none (Runs.assign rfl) ?_
    refine WL.nil ?_
    refine QW.then_n ?_
    refine CW.sub [(0, .slice A0 n0 c0), (2, .slice none 0 0), (6, .slice A_29 n_31 c_30)] ⟨rfl, rfl, rfl, trivial⟩ ?_
    refine CW.seq ?_
    refine CW.seq ?_
    refine CW.region ?_
    refine WL.val Wanted.none (Runs.move rfl) ?_
    refine WL.val Wanted.none (Runs.len_sl Tryd.underlying63 rfl (by rw [hn0])) ?_
    refine WL.val Wanted.none (Runs.move rfl) ?_
    refine WL.nil ?_
    refine QW.then_n ?_
    refine CW.block ?_
    obtain ⟨k_34, H⟩ := H
    refine CW.sub [(2, .slice none 0 0), (6, .slice A_29 n_31 c_30), (25, .slice A0 n0 c0), (26, .int .i64 (l0.length : Int)), (27, .int .i64 0)] ⟨rfl, rfl, rfl, rfl, rfl, trivial⟩ ?_
    refine CW.loop (fun kL2 l_ w_ => ∃ (A_35 : Option Addr) (c_36 : Nat) (n_38 : Nat) (l_37 : List Int) (x_40 : Int), l_ = [(2, .slice none 0 0), (6, .slice A_35 n_38 c_36), (25, .slice A0 n0 c0), (26, .int .i64 (l0.length : Int)), (27, .int .i64 x_40)] ∧ slices_Concat_s_byte_byte.L2 l0 r0 kL2 l_37 x_40 ∧ (n_38 = l_37.length) ∧ St w w_ [.sl A_35 c_36 n_38 (iv .u8 l_37) 5 1]) (k := k_34) ⟨A_29, c_30, n_31, r_28, 0, rfl, H, hn_32, st_26⟩ (fun _ _ h => by obtain ⟨_, _, _, _, _, _, h, _⟩ := h; exact h.elim) ?_
    rintro kL2 l_43 w_41 ⟨A_35, c_36, n_38, l_37, x_40, rfl, H, hn_39, st_42⟩
    refine CW.seq ?_
    refine CW.region ?_
    refine WL.val Wanted.none (Runs.lss rfl rfl rfl) ?_
    refine WL.nil ?_
    refine QW.then_n ?_
    refine CW.seq ?_
    rcases H with ⟨c_44, H⟩ | ⟨c_44, H⟩
    · have h_45 : (decide (x_40 < (l0.length : Int))) = true := (decide_eq_true c_44)
      refine CW.ct rfl h_45 ?_
      refine CW.skip ?_
      refine QW.then_n ?_
      refine CW.seq ?_
      refine CW.block ?_
      refine CW.seq ?_
      refine CW.region ?_
      obtain ⟨⟨p_46, q_47⟩, H⟩ := H
      obtain ⟨a_48, A_50, n_51, c_52, e_49, f_54, hn_55, hc_56, g_53⟩ := hs0.get ((x_40).toNat) (by omega)
      refine WL.val Wanted.none (Runs.indexAddr Tryd.underlying63 cells29 (by decide) rfl e_49 rfl p_46 (by rw [hn0]; exact q_47) (o := (x_40).toNat) (by first | rfl | omega)) ?_
      refine WL.val Wanted.none (Runs.load nagg29 rfl (st_42.up f_54)) ?_
      refine WL.val Wanted.none (Runs.assign rfl) ?_
      refine WL.nil ?_
      refine QW.then_n ?_
      refine CW.region ?_
      refine WL.val Wanted.none (Runs.move rfl) ?_
      refine WL.val Wanted.none (Runs.move rfl) ?_
      obtain ⟨m_57, e_58, H⟩ := H
      obtain ⟨z_59, H⟩ := H
      obtain ⟨n_62, hn_65⟩ : ∃ n_ : Nat, n_ = m_57.length := ⟨_, rfl⟩
      refine WL.append (i := 0) Wanted.none st_42 rfl Tryd.underlying29 elem5 rfl rfl (g_53.ext st_42) (by rw [iv_length]; exact (hn_55).symm) (one_iv .u8 _) (by decide) (N := n_62) (by rw [hn_65, e_58, List.length_append]; exact congr (congrArg HAdd.hAdd (hn_39)) (hn_55)) (by rw [hn_65]; exact z_59) ?_
      intro A_60 c_61 w_63 st_64
      have st_64' : St w w_63 [.sl A_60 c_61 n_62 (iv .u8 m_57) 5 1] := by rw [e_58, ← iv_append .u8 l_37 (gl l0 ((x_40).toNat))]; exact st_64
      refine WL.val Wanted.none (Runs.assign rfl) ?_
      refine WL.nil ?_
      refine QW.blk_n ?_
      refine QW.then_n ?_
      refine CW.region ?_
      refine WL.val Wanted.none (Runs.add rfl rfl rfl) ?_
      refine WL.val Wanted.none (Runs.move rfl) ?_
      refine WL.nil ?_
      exact QW.at [(2, .slice none 0 0), (6, .slice A_60 n_62 c_61), (25, .slice A0 n0 c0), (26, .int .i64 (l0.length : Int)), (27, .int .i64 (IntKind.i64.wrap (x_40 + 1)))] ⟨rfl, rfl, rfl, rfl, rfl, trivial⟩ ⟨A_60, c_61, n_62, m_57, IntKind.i64.wrap (x_40 + 1), rfl, H, hn_65, st_64'⟩
    · have h_45 : (decide (x_40 < (l0.length : Int))) = false := (decide_eq_false c_44)
      refine CW.cf rfl h_45 ?_
      refine CW.exit ?_
      refine QW.then_x ?_
      refine QW.then_x ?_
      refine QW.blk_x ?_
      refine QW.then_n ?_
      refine CW.seq ?_
      refine CW.region ?_
      refine WL.val Wanted.none (Runs.move rfl) ?_
      refine WL.val Wanted.none (Runs.assign rfl) ?_
      refine WL.nil ?_
      refine QW.then_n ?_
      refine CW.sub [(2, .slice A_35 n_38 c_36)] ⟨rfl, trivial⟩ ?_
      refine CW.ret ?_
      obtain rfl := H
      exact QW.ret1 rfl rfl ⟨A_35, c_36, n_38, hn_39, rfl, st_42.pick [0] (by decide)⟩

/-! ### tree_Put: function 9 -/
def tree_Put.rel (l0_0 : List Int) (a0_1 : Int) (l0_2 : List Int) (a0_3 : Int) (l0_4 : List Int) (a0_5 : Int) (l0_6 : List Int) (a0_7 : Int) (r0 : List Int) : Prop := (∃ (r_17 : List Int), word_Put.rel a0_1 8 r_17 ∧ (∃ (r_32 : List Int), slices_Concat_s_byte_byte.rel ([([] : List Int), l0_0, r_17] : List (List Int)) r_32 ∧ (∃ (r_50 : List Int), word_Put.rel a0_3 8 r_50 ∧ (∃ (r_65 : List Int), slices_Concat_s_byte_byte.rel ([r_32, l0_2, r_50] : List (List Int)) r_65 ∧ (∃ (r_83 : List Int), word_Put.rel a0_5 8 r_83 ∧ (∃ (r_98 : List Int), slices_Concat_s_byte_byte.rel ([r_65, l0_4, r_83] : List (List Int)) r_98 ∧ (∃ (r_116 : List Int), word_Put.rel a0_7 8 r_116 ∧ (∃ (r_131 : List Int), slices_Concat_s_byte_byte.rel ([r_98, l0_6, r_116] : List (List Int)) r_131 ∧ r0 = r_131))))))))
set_option maxHeartbeats 4000000 in
set_option maxRecDepth 100000 in
theorem tree_Put.calls (w : World) (l0_0 : List Int) (a0_1 : Int) (l0_2 : List Int) (a0_3 : Int) (l0_4 : List Int) (a0_5 : Int) (l0_6 : List Int) (a0_7 : Int)   (hl0_0 : l0_0.length = 32) (hl0_2 : l0_2.length = 32) (hl0_4 : l0_4.length = 32) (hl0_6 : l0_6.length = 32) (r0 : List Int) (H : tree_Put.rel l0_0 a0_1 l0_2 a0_3 l0_4 a0_5 l0_6 a0_7 r0) :
    Calls Tryd.prog 9 #[.agg (iv .u8 l0_0 ++ (([.int .u64 a0_1] : List Value) ++ (iv .u8 l0_2 ++ (([.int .u64 a0_3] : List Value) ++ (iv .u8 l0_4 ++ (([.int .u64 a0_5] : List Value) ++ (iv .u8 l0_6 ++ ([.int .u64 a0_7] : List Value)))))))).toArray] w fun e w' => ∃ B0 q0 z0, z0 = r0.length ∧ e = .returned (.slice B0 z0 q0) ∧ St w w' [.sl B0 q0 z0 (iv .u8 r0) 5 1] := by
  refine CW.enter Tryd.func9 rfl (n := 20) rfl [.agg (iv .u8 l0_0 ++ (([.int .u64 a0_1] : List Value) ++ (iv .u8 l0_2 ++ (([.int .u64 a0_3] : List Value) ++ (iv .u8 l0_4 ++ (([.int .u64 a0_5] : List Value) ++ (iv .u8 l0_6 ++ ([.int .u64 a0_7] : List Value)))))))).toArray] (Nat.le_of_ble_eq_true rfl) ?_
  refine CW.sub [(0, .agg (iv .u8 l0_0 ++ (([.int .u64 a0_1] : List Value) ++ (iv .u8 l0_2 ++ (([.int .u64 a0_3] : List Value) ++ (iv .u8 l0_4 ++ (([.int .u64 a0_5] : List Value) ++ (iv .u8 l0_6 ++ ([.int .u64 a0_7] : List Value)))))))).toArray)] ⟨rfl, trivial⟩ ?_
  have st0 : St w w [] := St.refl w
  refine CW.seq ?_
  refine CW.region ?_
  refine WL.box st0 rfl rfl ?_
  intro B_1 w_2 st_3
  replace st_3 : St w w_2 [.cells B_1 (iv .u8 l0_0 ++ (([.int .u64 a0_1] : List Value) ++ (iv .u8 l0_2 ++ (([.int .u64 a0_3] : List Value) ++ (iv .u8 l0_4 ++ (([.int .u64 a0_5] : List Value) ++ (iv .u8 l0_6 ++ ([.int .u64 a0_7] : List Value)))))))) 28] := st_3
  refine WL.val Wanted.none (Runs.assign rfl) ?_
  refine WL.nil ?_
  refine QW.then_n ?_
  refine CW.seq ?_
  refine CW.region ?_
  refine WL.val Wanted.none (Runs.assign rfl) ?_
  refine WL.nil ?_
  refine QW.then_n ?_
  refine CW.seq ?_
  refine CW.seq ?_
  refine CW.region ?_
  refine WL.val Wanted.none (Runs.load_mid row28 rfl st_3 (i := 0) rfl (part_mid (pre := (([] : List Value))) (mid := (iv .u8 l0_0 ++ (([.int .u64 a0_1] : List Value) ++ (iv .u8 l0_2 ++ (([.int .u64 a0_3] : List Value) ++ (iv .u8 l0_4 ++ (([.int .u64 a0_5] : List Value) ++ (iv .u8 l0_6 ++ ([.int .u64 a0_7] : List Value))))))))) (post := (([] : List Value))) (by first | rfl | simp only [List.append_assoc, List.append_nil, List.nil_append, List.cons_append]) (by first | rfl | simp only [List.length_append, List.length_cons, List.length_nil, iv_length]) (by first | rfl | simp only [List.length_append, List.length_cons, List.length_nil, iv_length, hl0_0, hl0_2, hl0_4, hl0_6])) (by first | rfl | simp only [List.length_append, List.length_cons, List.length_nil, iv_length, hl0_0, hl0_2, hl0_4, hl0_6])) ?_
  refine WL.val Wanted.none (Runs.move rfl) ?_
  refine WL.nil ?_
  refine QW.then_n ?_
  refine CW.block ?_
  refine CW.rounds 39 ?_
  refine CW.seq ?_
  refine CW.region ?_
  refine WL.val Wanted.none (Runs.lss (b := true) rfl rfl (by decide)) ?_
  refine WL.nil ?_
  refine QW.then_n ?_
  refine CW.seq ?_
  refine CW.ct rfl rfl ?_
  refine CW.skip ?_
  refine QW.then_n ?_
  refine CW.seq ?_
  refine CW.block ?_
  refine CW.seq ?_
  refine CW.region ?_
  refine WL.val Wanted.none (Runs.index_row (o := 0) Tryd.underlying28 row26 rfl rfl (by decide) (by decide) rfl (part_mid (pre := (([] : List Value))) (mid := (iv .u8 l0_0 ++ ([.int .u64 a0_1] : List Value))) (post := (iv .u8 l0_2 ++ (([.int .u64 a0_3] : List Value) ++ (iv .u8 l0_4 ++ (([.int .u64 a0_5] : List Value) ++ (iv .u8 l0_6 ++ ([.int .u64 a0_7] : List Value))))))) (by first | rfl | simp only [List.append_assoc, List.append_nil, List.nil_append, List.cons_append]) (by first | rfl | simp only [List.length_append, List.length_cons, List.length_nil, iv_length]) (by first | rfl | simp only [List.length_append, List.length_cons, List.length_nil, iv_length, hl0_0]))) ?_
  refine WL.alloc st_3 zero26 ?_
  intro B_5 w_6 st_7
  replace st_7 : St w w_6 [.cells B_5 (iv .u8 (List.replicate 32 (0 : Int)) ++ ([.int .u64 0] : List Value)) 26, .cells B_1 (iv .u8 l0_0 ++ (([.int .u64 a0_1] : List Value) ++ (iv .u8 l0_2 ++ (([.int .u64 a0_3] : List Value) ++ (iv .u8 l0_4 ++ (([.int .u64 a0_5] : List Value) ++ (iv .u8 l0_6 ++ ([.int .u64 a0_7] : List Value)))))))) 28] := st_7
  refine WL.store_mid (i := 0) (pre := (([] : List Value))) (mid := (iv .u8 (List.replicate 32 (0 : Int)) ++ ([.int .u64 0] : List Value))) (post := (([] : List Value))) (ms := (iv .u8 l0_0 ++ ([.int .u64 a0_1] : List Value))) st_7 rfl row26 (by first | rfl | simp only [List.append_assoc, List.append_nil, List.nil_append, List.cons_append]) (by first | rfl | simp only [List.length_append, List.length_cons, List.length_nil, iv_length]) rfl rfl (by first | rfl | simp only [List.length_append, List.length_cons, List.length_nil, iv_length, hl0_0]) (by first | rfl | simp only [List.length_append, List.length_cons, List.length_nil, iv_length, List.length_replicate]) (by intro u hu; simp only [List.mem_append, List.mem_singleton] at hu; rcases hu with hu | hu <;> first | exact one_iv _ _ u hu | (subst hu; rfl)) ?_
  intro w_9 st_10
  replace st_10 : St w w_9 [.cells B_5 (iv .u8 l0_0 ++ ([.int .u64 a0_1] : List Value)) 26, .cells B_1 (iv .u8 l0_0 ++ (([.int .u64 a0_1] : List Value) ++ (iv .u8 l0_2 ++ (([.int .u64 a0_3] : List Value) ++ (iv .u8 l0_4 ++ (([.int .u64 a0_5] : List Value) ++ (iv .u8 l0_6 ++ ([.int .u64 a0_7] : List Value)))))))) 28] := by have e_ : (iv .u8 l0_0 ++ ([.int .u64 a0_1] : List Value)) = (([] : List Value)) ++ ((iv .u8 l0_0 ++ ([.int .u64 a0_1] : List Value)) ++ (([] : List Value))) := (by first | rfl | simp only [List.append_assoc, List.append_nil, List.nil_append, List.cons_append]); have h_ : St w w_9 [.cells B_5 ((([] : List Value)) ++ ((iv .u8 l0_0 ++ ([.int .u64 a0_1] : List Value)) ++ (([] : List Value)))) 26, .cells B_1 (iv .u8 l0_0 ++ (([.int .u64 a0_1] : List Value) ++ (iv .u8 l0_2 ++ (([.int .u64 a0_3] : List Value) ++ (iv .u8 l0_4 ++ (([.int .u64 a0_5] : List Value) ++ (iv .u8 l0_6 ++ ([.int .u64 a0_7] : List Value)))))))) 28] := st_10; rw [← e_] at h_; exact h_
  refine WL.nil ?_
  refine QW.then_n ?_
  refine CW.region_aw wide st_10 (fun w_11 st_12 => ?_)
  refine AW.take 0 rfl (by kernel_rfl) (by kernel_rfl) (by kernel_rfl) Wanted.none (fun _ => (Runs.move rfl)) ?_
  refine AW.take 1 rfl (by kernel_rfl) (by kernel_rfl) (by kernel_rfl) Wanted.none (fun _ => (Runs.fieldAddr (off := 0) (p := 0) fld26_0 rfl rfl rfl)) ?_
  refine AW.take 2 rfl (by kernel_rfl) (by kernel_rfl) (by kernel_rfl) Wanted.none (fun _ => (Runs.slice_mid arr23 rfl (by decide))) ?_
  refine AW.take 3 rfl (by kernel_rfl) (by kernel_rfl) (by kernel_rfl) Wanted.none (fun _ => (Runs.fieldAddr (off := 32) (p := 32) fld26_1 rfl rfl rfl)) ?_
  refine AW.step 4 rfl (by kernel_rfl) ?_
  refine WL.val Wanted.none (Runs.load nagg24 rfl (st_12.cell (k := 0) rfl (part_one (u := .int .u64 a0_1) (pre := (iv .u8 l0_0)) (post := (([] : List Value))) (by first | rfl | simp only [List.append_assoc, List.append_nil, List.nil_append, List.cons_append]) (by first | rfl | simp only [List.length_append, List.length_cons, List.length_nil, iv_length, hl0_0])))) ?_
  refine WL.nil ?_
  refine AW.back  ?_
  refine AW.step 5 rfl (by kernel_rfl) ?_
  obtain ⟨r_17, hr_13, H⟩ := H
  refine WL.call Wanted.none ent22 rfl (word_Put.calls w_11 a0_1 8 r_17 hr_13) ?_
  rintro _ w_14 ⟨A_18, c_19, n_20, hn_21, rfl, sc_16⟩
  have st_15 : St w w_14 [.sl A_18 c_19 n_20 (iv .u8 r_17) 5 1, .cells B_5 (iv .u8 l0_0 ++ ([.int .u64 a0_1] : List Value)) 26, .cells B_1 (iv .u8 l0_0 ++ (([.int .u64 a0_1] : List Value) ++ (iv .u8 l0_2 ++ (([.int .u64 a0_3] : List Value) ++ (iv .u8 l0_4 ++ (([.int .u64 a0_5] : List Value) ++ (iv .u8 l0_6 ++ ([.int .u64 a0_7] : List Value)))))))) 28] := st_12.call sc_16
  refine ⟨_, rfl, ?_⟩
  refine WL.nil ?_
  refine AW.back  ?_
  refine AW.step 6 rfl (by kernel_rfl) ?_
  refine WL.buildSl [.slice none 0 0, .slice (some ⟨B_5, 0, none⟩) 32 32, .slice A_18 n_20 c_19] st_15 Tryd.underlying63 elem29 rfl rfl (by decide) (by decide) (by simp [Value.cells]) ?_
  intro B_23 w_24 st_25
  replace st_25 : St w w_24 [.sl (some ⟨B_23, 0, none⟩) 3 3 [.slice none 0 0, .slice (some ⟨B_5, 0, none⟩) 32 32, .slice A_18 n_20 c_19] 29 1, .sl A_18 c_19 n_20 (iv .u8 r_17) 5 1, .cells B_5 (iv .u8 l0_0 ++ ([.int .u64 a0_1] : List Value)) 26, .cells B_1 (iv .u8 l0_0 ++ (([.int .u64 a0_1] : List Value) ++ (iv .u8 l0_2 ++ (([.int .u64 a0_3] : List Value) ++ (iv .u8 l0_4 ++ (([.int .u64 a0_5] : List Value) ++ (iv .u8 l0_6 ++ ([.int .u64 a0_7] : List Value)))))))) 28] := st_25
  refine WL.nil ?_
  refine AW.back  ?_
  refine AW.step 7 rfl (by kernel_rfl) ?_
  have hr_27 : RowsOf w_24 .u8 (some ⟨B_23, 0, none⟩) ([([] : List Int), l0_0, r_17] : List (List Int)) := RowsOf.lit (st_25.src_sl (k := 0) rfl) rfl (fun j hj => by match j, hj with | 0, _ => exact ⟨_, _, _, rfl, rfl, Nat.le_refl _, Src.nil _ _⟩ | 1, _ => exact ⟨_, _, _, rfl, (hl0_0).symm, Nat.le_refl _, st_25.src_mid (i := 2) (pre := (([] : List Value))) (mid := (iv .u8 l0_0)) (post := (([.int .u64 a0_1] : List Value))) rfl (by first | rfl | simp only [List.append_assoc, List.append_nil, List.nil_append, List.cons_append]) (by first | rfl | simp only [List.length_append, List.length_cons, List.length_nil, iv_length])⟩ | 2, _ => exact ⟨_, _, _, rfl, hn_21, st_25.cap (i := 1) rfl, st_25.src_sl (k := 1) rfl⟩ | j + 3, hj => exact absurd (show j + 3 < 3 from hj) (by omega))
  obtain ⟨r_32, hr_28, H⟩ := H
  refine WL.call Wanted.none ent21 rfl (slices_Concat_s_byte_byte.calls w_24 ([([] : List Int), l0_0, r_17] : List (List Int)) (some ⟨B_23, 0, none⟩) 3 3 (hr_27) (rfl) (Nat.le_refl _) r_32 hr_28) ?_
  rintro _ w_29 ⟨A_33, c_34, n_35, hn_36, rfl, sc_31⟩
  have st_30 : St w w_29 [.sl A_33 c_34 n_35 (iv .u8 r_32) 5 1, .sl (some ⟨B_23, 0, none⟩) 3 3 [.slice none 0 0, .slice (some ⟨B_5, 0, none⟩) 32 32, .slice A_18 n_20 c_19] 29 1, .sl A_18 c_19 n_20 (iv .u8 r_17) 5 1, .cells B_5 (iv .u8 l0_0 ++ ([.int .u64 a0_1] : List Value)) 26, .cells B_1 (iv .u8 l0_0 ++ (([.int .u64 a0_1] : List Value) ++ (iv .u8 l0_2 ++ (([.int .u64 a0_3] : List Value) ++ (iv .u8 l0_4 ++ (([.int .u64 a0_5] : List Value) ++ (iv .u8 l0_6 ++ ([.int .u64 a0_7] : List Value)))))))) 28] := st_25.call sc_31
  refine ⟨_, rfl, ?_⟩
  refine WL.nil ?_
  refine AW.back  ?_
  refine AW.take 8 rfl (by kernel_rfl) (by kernel_rfl) (by kernel_rfl) Wanted.none (fun _ => (Runs.assign rfl)) ?_
  refine AW.done (by kernel_rfl) ?_
  refine QW.blk_n ?_
  refine QW.then_n ?_
  refine CW.region ?_
  refine WL.val Wanted.none (Runs.add (z := 1) rfl rfl (by decide)) ?_
  refine WL.val Wanted.none (Runs.move rfl) ?_
  refine WL.nil ?_
  refine QW.round ?_
  refine CW.seq ?_
  refine CW.region ?_
  refine WL.val Wanted.none (Runs.lss (b := true) rfl rfl (by decide)) ?_
  refine WL.nil ?_
  refine QW.then_n ?_
  refine CW.seq ?_
  refine CW.ct rfl rfl ?_
  refine CW.skip ?_
  refine QW.then_n ?_
  refine CW.seq ?_
  refine CW.block ?_
  refine CW.seq ?_
  refine CW.region ?_
  refine WL.val Wanted.none (Runs.index_row (o := 33) Tryd.underlying28 row26 rfl rfl (by decide) (by decide) rfl (part_mid (pre := (iv .u8 l0_0 ++ ([.int .u64 a0_1] : List Value))) (mid := (iv .u8 l0_2 ++ ([.int .u64 a0_3] : List Value))) (post := (iv .u8 l0_4 ++ (([.int .u64 a0_5] : List Value) ++ (iv .u8 l0_6 ++ ([.int .u64 a0_7] : List Value))))) (by first | rfl | simp only [List.append_assoc, List.append_nil, List.nil_append, List.cons_append]) (by first | rfl | simp only [List.length_append, List.length_cons, List.length_nil, iv_length, hl0_0]) (by first | rfl | simp only [List.length_append, List.length_cons, List.length_nil, iv_length, hl0_2]))) ?_
  refine WL.alloc st_30 zero26 ?_
  intro B_38 w_39 st_40
  replace st_40 : St w w_39 [.cells B_38 (iv .u8 (List.replicate 32 (0 : Int)) ++ ([.int .u64 0] : List Value)) 26, .sl A_33 c_34 n_35 (iv .u8 r_32) 5 1, .sl (some ⟨B_23, 0, none⟩) 3 3 [.slice none 0 0, .slice (some ⟨B_5, 0, none⟩) 32 32, .slice A_18 n_20 c_19] 29 1, .sl A_18 c_19 n_20 (iv .u8 r_17) 5 1, .cells B_5 (iv .u8 l0_0 ++ ([.int .u64 a0_1] : List Value)) 26, .cells B_1 (iv .u8 l0_0 ++ (([.int .u64 a0_1] : List Value) ++ (iv .u8 l0_2 ++ (([.int .u64 a0_3] : List Value) ++ (iv .u8 l0_4 ++ (([.int .u64 a0_5] : List Value) ++ (iv .u8 l0_6 ++ ([.int .u64 a0_7] : List Value)))))))) 28] := st_40
  refine WL.store_mid (i := 0) (pre := (([] : List Value))) (mid := (iv .u8 (List.replicate 32 (0 : Int)) ++ ([.int .u64 0] : List Value))) (post := (([] : List Value))) (ms := (iv .u8 l0_2 ++ ([.int .u64 a0_3] : List Value))) st_40 rfl row26 (by first | rfl | simp only [List.append_assoc, List.append_nil, List.nil_append, List.cons_append]) (by first | rfl | simp only [List.length_append, List.length_cons, List.length_nil, iv_length]) rfl rfl (by first | rfl | simp only [List.length_append, List.length_cons, List.length_nil, iv_length, hl0_2]) (by first | rfl | simp only [List.length_append, List.length_cons, List.length_nil, iv_length, List.length_replicate]) (by intro u hu; simp only [List.mem_append, List.mem_singleton] at hu; rcases hu with hu | hu <;> first | exact one_iv _ _ u hu | (subst hu; rfl)) ?_
  intro w_42 st_43
  replace st_43 : St w w_42 [.cells B_38 (iv .u8 l0_2 ++ ([.int .u64 a0_3] : List Value)) 26, .sl A_33 c_34 n_35 (iv .u8 r_32) 5 1, .sl (some ⟨B_23, 0, none⟩) 3 3 [.slice none 0 0, .slice (some ⟨B_5, 0, none⟩) 32 32, .slice A_18 n_20 c_19] 29 1, .sl A_18 c_19 n_20 (iv .u8 r_17) 5 1, .cells B_5 (iv .u8 l0_0 ++ ([.int .u64 a0_1] : List Value)) 26, .cells B_1 (iv .u8 l0_0 ++ (([.int .u64 a0_1] : List Value) ++ (iv .u8 l0_2 ++ (([.int .u64 a0_3] : List Value) ++ (iv .u8 l0_4 ++ (([.int .u64 a0_5] : List Value) ++ (iv .u8 l0_6 ++ ([.int .u64 a0_7] : List Value)))))))) 28] := by have e_ : (iv .u8 l0_2 ++ ([.int .u64 a0_3] : List Value)) = (([] : List Value)) ++ ((iv .u8 l0_2 ++ ([.int .u64 a0_3] : List Value)) ++ (([] : List Value))) := (by first | rfl | simp only [List.append_assoc, List.append_nil, List.nil_append, List.cons_append]); have h_ : St w w_42 [.cells B_38 ((([] : List Value)) ++ ((iv .u8 l0_2 ++ ([.int .u64 a0_3] : List Value)) ++ (([] : List Value)))) 26, .sl A_33 c_34 n_35 (iv .u8 r_32) 5 1, .sl (some ⟨B_23, 0, none⟩) 3 3 [.slice none 0 0, .slice (some ⟨B_5, 0, none⟩) 32 32, .slice A_18 n_20 c_19] 29 1, .sl A_18 c_19 n_20 (iv .u8 r_17) 5 1, .cells B_5 (iv .u8 l0_0 ++ ([.int .u64 a0_1] : List Value)) 26, .cells B_1 (iv .u8 l0_0 ++ (([.int .u64 a0_1] : List Value) ++ (iv .u8 l0_2 ++ (([.int .u64 a0_3] : List Value) ++ (iv .u8 l0_4 ++ (([.int .u64 a0_5] : List Value) ++ (iv .u8 l0_6 ++ ([.int .u64 a0_7] : List Value)))))))) 28] := st_43; rw [← e_] at h_; exact h_
  refine WL.nil ?_
  refine QW.then_n ?_
  refine CW.region_aw wide st_43 (fun w_44 st_45 => ?_)
  refine AW.take 0 rfl (by kernel_rfl) (by kernel_rfl) (by kernel_rfl) Wanted.none (fun _ => (Runs.move rfl)) ?_
  refine AW.take 1 rfl (by kernel_rfl) (by kernel_rfl) (by kernel_rfl) Wanted.none (fun _ => (Runs.fieldAddr (off := 0) (p := 0) fld26_0 rfl rfl rfl)) ?_
  refine AW.take 2 rfl (by kernel_rfl) (by kernel_rfl) (by kernel_rfl) Wanted.none (fun _ => (Runs.slice_mid arr23 rfl (by decide))) ?_
  refine AW.take 3 rfl (by kernel_rfl) (by kernel_rfl) (by kernel_rfl) Wanted.none (fun _ => (Runs.fieldAddr (off := 32) (p := 32) fld26_1 rfl rfl rfl)) ?_
  refine AW.step 4 rfl (by kernel_rfl) ?_
  refine WL.val Wanted.none (Runs.load nagg24 rfl (st_45.cell (k := 0) rfl (part_one (u := .int .u64 a0_3) (pre := (iv .u8 l0_2)) (post := (([] : List Value))) (by first | rfl | simp only [List.append_assoc, List.append_nil, List.nil_append, List.cons_append]) (by first | rfl | simp only [List.length_append, List.length_cons, List.length_nil, iv_length, hl0_2])))) ?_
  refine WL.nil ?_
  refine AW.back  ?_
  refine AW.step 5 rfl (by kernel_rfl) ?_
  obtain ⟨r_50, hr_46, H⟩ := H
  refine WL.call Wanted.none ent22 rfl (word_Put.calls w_44 a0_3 8 r_50 hr_46) ?_
  rintro _ w_47 ⟨A_51, c_52, n_53, hn_54, rfl, sc_49⟩
  have st_48 : St w w_47 [.sl A_51 c_52 n_53 (iv .u8 r_50) 5 1, .cells B_38 (iv .u8 l0_2 ++ ([.int .u64 a0_3] : List Value)) 26, .sl A_33 c_34 n_35 (iv .u8 r_32) 5 1, .sl (some ⟨B_23, 0, none⟩) 3 3 [.slice none 0 0, .slice (some ⟨B_5, 0, none⟩) 32 32, .slice A_18 n_20 c_19] 29 1, .sl A_18 c_19 n_20 (iv .u8 r_17) 5 1, .cells B_5 (iv .u8 l0_0 ++ ([.int .u64 a0_1] : List Value)) 26, .cells B_1 (iv .u8 l0_0 ++ (([.int .u64 a0_1] : List Value) ++ (iv .u8 l0_2 ++ (([.int .u64 a0_3] : List Value) ++ (iv .u8 l0_4 ++ (([.int .u64 a0_5] : List Value) ++ (iv .u8 l0_6 ++ ([.int .u64 a0_7] : List Value)))))))) 28] := st_45.call sc_49
  refine ⟨_, rfl, ?_⟩
  refine WL.nil ?_
  refine AW.back  ?_
  refine AW.step 6 rfl (by kernel_rfl) ?_
  refine WL.buildSl [.slice A_33 n_35 c_34, .slice (some ⟨B_38, 0, none⟩) 32 32, .slice A_51 n_53 c_52] st_48 Tryd.underlying63 elem29 rfl rfl (by decide) (by decide) (by simp [Value.cells]) ?_
  intro B_56 w_57 st_58
  replace st_58 : St w w_57 [.sl (some ⟨B_56, 0, none⟩) 3 3 [.slice A_33 n_35 c_34, .slice (some ⟨B_38, 0, none⟩) 32 32, .slice A_51 n_53 c_52] 29 1, .sl A_51 c_52 n_53 (iv .u8 r_50) 5 1, .cells B_38 (iv .u8 l0_2 ++ ([.int .u64 a0_3] : List Value)) 26, .sl A_33 c_34 n_35 (iv .u8 r_32) 5 1, .sl (some ⟨B_23, 0, none⟩) 3 3 [.slice none 0 0, .slice (some ⟨B_5, 0, none⟩) 32 32, .slice A_18 n_20 c_19] 29 1, .sl A_18 c_19 n_20 (iv .u8 r_17) 5 1, .cells B_5 (iv .u8 l0_0 ++ ([.int .u64 a0_1] : List Value)) 26, .cells B_1 (iv .u8 l0_0 ++ (([.int .u64 a0_1] : List Value) ++ (iv .u8 l0_2 ++ (([.int .u64 a0_3] : List Value) ++ (iv .u8 l0_4 ++ (([.int .u64 a0_5] : List Value) ++ (iv .u8 l0_6 ++ ([.int .u64 a0_7] : List Value)))))))) 28] := st_58
  refine WL.nil ?_
  refine AW.back  ?_
  refine AW.step 7 rfl (by kernel_rfl) ?_
  have hr_60 : RowsOf w_57 .u8 (some ⟨B_56, 0, none⟩) ([r_32, l0_2, r_50] : List (List Int)) := RowsOf.lit (st_58.src_sl (k := 0) rfl) rfl (fun j hj => by match j, hj with | 0, _ => exact ⟨_, _, _, rfl, hn_36, st_58.cap (i := 3) rfl, st_58.src_sl (k := 3) rfl⟩ | 1, _ => exact ⟨_, _, _, rfl, (hl0_2).symm, Nat.le_refl _, st_58.src_mid (i := 2) (pre := (([] : List Value))) (mid := (iv .u8 l0_2)) (post := (([.int .u64 a0_3] : List Value))) rfl (by first | rfl | simp only [List.append_assoc, List.append_nil, List.nil_append, List.cons_append]) (by first | rfl | simp only [List.length_append, List.length_cons, List.length_nil, iv_length])⟩ | 2, _ => exact ⟨_, _, _, rfl, hn_54, st_58.cap (i := 1) rfl, st_58.src_sl (k := 1) rfl⟩ | j + 3, hj => exact absurd (show j + 3 < 3 from hj) (by omega))
  obtain ⟨r_65, hr_61, H⟩ := H
  refine WL.call Wanted.none ent21 rfl (slices_Concat_s_byte_byte.calls w_57 ([r_32, l0_2, r_50] : List (List Int)) (some ⟨B_56, 0, none⟩) 3 3 (hr_60) (rfl) (Nat.le_refl _) r_65 hr_61) ?_
  rintro _ w_62 ⟨A_66, c_67, n_68, hn_69, rfl, sc_64⟩
  have st_63 : St w w_62 [.sl A_66 c_67 n_68 (iv .u8 r_65) 5 1, .sl (some ⟨B_56, 0, none⟩) 3 3 [.slice A_33 n_35 c_34, .slice (some ⟨B_38, 0, none⟩) 32 32, .slice A_51 n_53 c_52] 29 1, .sl A_51 c_52 n_53 (iv .u8 r_50) 5 1, .cells B_38 (iv .u8 l0_2 ++ ([.int .u64 a0_3] : List Value)) 26, .sl A_33 c_34 n_35 (iv .u8 r_32) 5 1, .sl (some ⟨B_23, 0, none⟩) 3 3 [.slice none 0 0, .slice (some ⟨B_5, 0, none⟩) 32 32, .slice A_18 n_20 c_19] 29 1, .sl A_18 c_19 n_20 (iv .u8 r_17) 5 1, .cells B_5 (iv .u8 l0_0 ++ ([.int .u64 a0_1] : List Value)) 26, .cells B_1 (iv .u8 l0_0 ++ (([.int .u64 a0_1] : List Value) ++ (iv .u8 l0_2 ++ (([.int .u64 a0_3] : List Value) ++ (iv .u8 l0_4 ++ (([.int .u64 a0_5] : List Value) ++ (iv .u8 l0_6 ++ ([.int .u64 a0_7] : List Value)))))))) 28] := st_58.call sc_64
  refine ⟨_, rfl, ?_⟩
  refine WL.nil ?_
  refine AW.back  ?_
  refine AW.take 8 rfl (by kernel_rfl) (by kernel_rfl) (by kernel_rfl) Wanted.none (fun _ => (Runs.assign rfl)) ?_
  refine AW.done (by kernel_rfl) ?_
  refine QW.blk_n ?_
  refine QW.then_n ?_
  refine CW.region ?_
  refine WL.val Wanted.none (Runs.add (z := 2) rfl rfl (by decide)) ?_
  refine WL.val Wanted.none (Runs.move rfl) ?_
  refine WL.nil ?_
  refine QW.round ?_
  refine CW.seq ?_
  refine CW.region ?_
  refine WL.val Wanted.none (Runs.lss (b := true) rfl rfl (by decide)) ?_
  refine WL.nil ?_
  refine QW.then_n ?_
  refine CW.seq ?_
  refine CW.ct rfl rfl ?_
  refine CW.skip ?_
  refine QW.then_n ?_
  refine CW.seq ?_
  refine CW.block ?_
  refine CW.seq ?_
  refine CW.region ?_
  refine WL.val Wanted.none (Runs.index_row (o := 66) Tryd.underlying28 row26 rfl rfl (by decide) (by decide) rfl (part_mid (pre := (iv .u8 l0_0 ++ (([.int .u64 a0_1] : List Value) ++ (iv .u8 l0_2 ++ ([.int .u64 a0_3] : List Value))))) (mid := (iv .u8 l0_4 ++ ([.int .u64 a0_5] : List Value))) (post := (iv .u8 l0_6 ++ ([.int .u64 a0_7] : List Value))) (by first | rfl | simp only [List.append_assoc, List.append_nil, List.nil_append, List.cons_append]) (by first | rfl | simp only [List.length_append, List.length_cons, List.length_nil, iv_length, hl0_0, hl0_2]) (by first | rfl | simp only [List.length_append, List.length_cons, List.length_nil, iv_length, hl0_4]))) ?_
  refine WL.alloc st_63 zero26 ?_
  intro B_71 w_72 st_73
  replace st_73 : St w w_72 [.cells B_71 (iv .u8 (List.replicate 32 (0 : Int)) ++ ([.int .u64 0] : List Value)) 26, .sl A_66 c_67 n_68 (iv .u8 r_65) 5 1, .sl (some ⟨B_56, 0, none⟩) 3 3 [.slice A_33 n_35 c_34, .slice (some ⟨B_38, 0, none⟩) 32 32, .slice A_51 n_53 c_52] 29 1, .sl A_51 c_52 n_53 (iv .u8 r_50) 5 1, .cells B_38 (iv .u8 l0_2 ++ ([.int .u64 a0_3] : List Value)) 26, .sl A_33 c_34 n_35 (iv .u8 r_32) 5 1, .sl (some ⟨B_23, 0, none⟩) 3 3 [.slice none 0 0, .slice (some ⟨B_5, 0, none⟩) 32 32, .slice A_18 n_20 c_19] 29 1, .sl A_18 c_19 n_20 (iv .u8 r_17) 5 1, .cells B_5 (iv .u8 l0_0 ++ ([.int .u64 a0_1] : List Value)) 26, .cells B_1 (iv .u8 l0_0 ++ (([.int .u64 a0_1] : List Value) ++ (iv .u8 l0_2 ++ (([.int .u64 a0_3] : List Value) ++ (iv .u8 l0_4 ++ (([.int .u64 a0_5] : List Value) ++ (iv .u8 l0_6 ++ ([.int .u64 a0_7] : List Value)))))))) 28] := st_73
  refine WL.store_mid (i := 0) (pre := (([] : List Value))) (mid := (iv .u8 (List.replicate 32 (0 : Int)) ++ ([.int .u64 0] : List Value))) (post := (([] : List Value))) (ms := (iv .u8 l0_4 ++ ([.int .u64 a0_5] : List Value))) st_73 rfl row26 (by first | rfl | simp only [List.append_assoc, List.append_nil, List.nil_append, List.cons_append]) (by first | rfl | simp only [List.length_append, List.length_cons, List.length_nil, iv_length]) rfl rfl (by first | rfl | simp only [List.length_append, List.length_cons, List.length_nil, iv_length, hl0_4]) (by first | rfl | simp only [List.length_append, List.length_cons, List.length_nil, iv_length, List.length_replicate]) (by intro u hu; simp only [List.mem_append, List.mem_singleton] at hu; rcases hu with hu | hu <;> first | exact one_iv _ _ u hu | (subst hu; rfl)) ?_
  intro w_75 st_76
  replace st_76 : St w w_75 [.cells B_71 (iv .u8 l0_4 ++ ([.int .u64 a0_5] : List Value)) 26, .sl A_66 c_67 n_68 (iv .u8 r_65) 5 1, .sl (some ⟨B_56, 0, none⟩) 3 3 [.slice A_33 n_35 c_34, .slice (some ⟨B_38, 0, none⟩) 32 32, .slice A_51 n_53 c_52] 29 1, .sl A_51 c_52 n_53 (iv .u8 r_50) 5 1, .cells B_38 (iv .u8 l0_2 ++ ([.int .u64 a0_3] : List Value)) 26, .sl A_33 c_34 n_35 (iv .u8 r_32) 5 1, .sl (some ⟨B_23, 0, none⟩) 3 3 [.slice none 0 0, .slice (some ⟨B_5, 0, none⟩) 32 32, .slice A_18 n_20 c_19] 29 1, .sl A_18 c_19 n_20 (iv .u8 r_17) 5 1, .cells B_5 (iv .u8 l0_0 ++ ([.int .u64 a0_1] : List Value)) 26, .cells B_1 (iv .u8 l0_0 ++ (([.int .u64 a0_1] : List Value) ++ (iv .u8 l0_2 ++ (([.int .u64 a0_3] : List Value) ++ (iv .u8 l0_4 ++ (([.int .u64 a0_5] : List Value) ++ (iv .u8 l0_6 ++ ([.int .u64 a0_7] : List Value)))))))) 28] := by have e_ : (iv .u8 l0_4 ++ ([.int .u64 a0_5] : List Value)) = (([] : List Value)) ++ ((iv .u8 l0_4 ++ ([.int .u64 a0_5] : List Value)) ++ (([] : List Value))) := (by first | rfl | simp only [List.append_assoc, List.append_nil, List.nil_append, List.cons_append]); have h_ : St w w_75 [.cells B_71 ((([] : List Value)) ++ ((iv .u8 l0_4 ++ ([.int .u64 a0_5] : List Value)) ++ (([] : List Value)))) 26, .sl A_66 c_67 n_68 (iv .u8 r_65) 5 1, .sl (some ⟨B_56, 0, none⟩) 3 3 [.slice A_33 n_35 c_34, .slice (some ⟨B_38, 0, none⟩) 32 32, .slice A_51 n_53 c_52] 29 1, .sl A_51 c_52 n_53 (iv .u8 r_50) 5 1, .cells B_38 (iv .u8 l0_2 ++ ([.int .u64 a0_3] : List Value)) 26, .sl A_33 c_34 n_35 (iv .u8 r_32) 5 1, .sl (some ⟨B_23, 0, none⟩) 3 3 [.slice none 0 0, .slice (some ⟨B_5, 0, none⟩) 32 32, .slice A_18 n_20 c_19] 29 1, .sl A_18 c_19 n_20 (iv .u8 r_17) 5 1, .cells B_5 (iv .u8 l0_0 ++ ([.int .u64 a0_1] : List Value)) 26, .cells B_1 (iv .u8 l0_0 ++ (([.int .u64 a0_1] : List Value) ++ (iv .u8 l0_2 ++ (([.int .u64 a0_3] : List Value) ++ (iv .u8 l0_4 ++ (([.int .u64 a0_5] : List Value) ++ (iv .u8 l0_6 ++ ([.int .u64 a0_7] : List Value)))))))) 28] := st_76; rw [← e_] at h_; exact h_
  refine WL.nil ?_
  refine QW.then_n ?_
  refine CW.region_aw wide st_76 (fun w_77 st_78 => ?_)
  refine AW.take 0 rfl (by kernel_rfl) (by kernel_rfl) (by kernel_rfl) Wanted.none (fun _ => (Runs.move rfl)) ?_
  refine AW.take 1 rfl (by kernel_rfl) (by kernel_rfl) (by kernel_rfl) Wanted.none (fun _ => (Runs.fieldAddr (off := 0) (p := 0) fld26_0 rfl rfl rfl)) ?_
  refine AW.take 2 rfl (by kernel_rfl) (by kernel_rfl) (by kernel_rfl) Wanted.none (fun _ => (Runs.slice_mid arr23 rfl (by decide))) ?_
  refine AW.take 3 rfl (by kernel_rfl) (by kernel_rfl) (by kernel_rfl) Wanted.none (fun _ => (Runs.fieldAddr (off := 32) (p := 32) fld26_1 rfl rfl rfl)) ?_
  refine AW.step 4 rfl (by kernel_rfl) ?_
  refine WL.val Wanted.none (Runs.load nagg24 rfl (st_78.cell (k := 0) rfl (part_one (u := .int .u64 a0_5) (pre := (iv .u8 l0_4)) (post := (([] : List Value))) (by first | rfl | simp only [List.append_assoc, List.append_nil, List.nil_append, List.cons_append]) (by first | rfl | simp only [List.length_append, List.length_cons, List.length_nil, iv_length, hl0_4])))) ?_
  refine WL.nil ?_
  refine AW.back  ?_
  refine AW.step 5 rfl (by kernel_rfl) ?_
  obtain ⟨r_83, hr_79, H⟩ := H
  refine WL.call Wanted.none ent22 rfl (word_Put.calls w_77 a0_5 8 r_83 hr_79) ?_
  rintro _ w_80 ⟨A_84, c_85, n_86, hn_87, rfl, sc_82⟩
  have st_81 : St w w_80 [.sl A_84 c_85 n_86 (iv .u8 r_83) 5 1, .cells B_71 (iv .u8 l0_4 ++ ([.int .u64 a0_5] : List Value)) 26, .sl A_66 c_67 n_68 (iv .u8 r_65) 5 1, .sl (some ⟨B_56, 0, none⟩) 3 3 [.slice A_33 n_35 c_34, .slice (some ⟨B_38, 0, none⟩) 32 32, .slice A_51 n_53 c_52] 29 1, .sl A_51 c_52 n_53 (iv .u8 r_50) 5 1, .cells B_38 (iv .u8 l0_2 ++ ([.int .u64 a0_3] : List Value)) 26, .sl A_33 c_34 n_35 (iv .u8 r_32) 5 1, .sl (some ⟨B_23, 0, none⟩) 3 3 [.slice none 0 0, .slice (some ⟨B_5, 0, none⟩) 32 32, .slice A_18 n_20 c_19] 29 1, .sl A_18 c_19 n_20 (iv .u8 r_17) 5 1, .cells B_5 (iv .u8 l0_0 ++ ([.int .u64 a0_1] : List Value)) 26, .cells B_1 (iv .u8 l0_0 ++ (([.int .u64 a0_1] : List Value) ++ (iv .u8 l0_2 ++ (([.int .u64 a0_3] : List Value) ++ (iv .u8 l0_4 ++ (([.int .u64 a0_5] : List Value) ++ (iv .u8 l0_6 ++ ([.int .u64 a0_7] : List Value)))))))) 28] := st_78.call sc_82
  refine ⟨_, rfl, ?_⟩
  refine WL.nil ?_
  refine AW.back  ?_
  refine AW.step 6 rfl (by kernel_rfl) ?_
  refine WL.buildSl [.slice A_66 n_68 c_67, .slice (some ⟨B_71, 0, none⟩) 32 32, .slice A_84 n_86 c_85] st_81 Tryd.underlying63 elem29 rfl rfl (by decide) (by decide) (by simp [Value.cells]) ?_
  intro B_89 w_90 st_91
  replace st_91 : St w w_90 [.sl (some ⟨B_89, 0, none⟩) 3 3 [.slice A_66 n_68 c_67, .slice (some ⟨B_71, 0, none⟩) 32 32, .slice A_84 n_86 c_85] 29 1, .sl A_84 c_85 n_86 (iv .u8 r_83) 5 1, .cells B_71 (iv .u8 l0_4 ++ ([.int .u64 a0_5] : List Value)) 26, .sl A_66 c_67 n_68 (iv .u8 r_65) 5 1, .sl (some ⟨B_56, 0, none⟩) 3 3 [.slice A_33 n_35 c_34, .slice (some ⟨B_38, 0, none⟩) 32 32, .slice A_51 n_53 c_52] 29 1, .sl A_51 c_52 n_53 (iv .u8 r_50) 5 1, .cells B_38 (iv .u8 l0_2 ++ ([.int .u64 a0_3] : List Value)) 26, .sl A_33 c_34 n_35 (iv .u8 r_32) 5 1, .sl (some ⟨B_23, 0, none⟩) 3 3 [.slice none 0 0, .slice (some ⟨B_5, 0, none⟩) 32 32, .slice A_18 n_20 c_19] 29 1, .sl A_18 c_19 n_20 (iv .u8 r_17) 5 1, .cells B_5 (iv .u8 l0_0 ++ ([.int .u64 a0_1] : List Value)) 26, .cells B_1 (iv .u8 l0_0 ++ (([.int .u64 a0_1] : List Value) ++ (iv .u8 l0_2 ++ (([.int .u64 a0_3] : List Value) ++ (iv .u8 l0_4 ++ (([.int .u64 a0_5] : List Value) ++ (iv .u8 l0_6 ++ ([.int .u64 a0_7] : List Value)))))))) 28] := st_91
  refine WL.nil ?_
  refine AW.back  ?_
  refine AW.step 7 rfl (by kernel_rfl) ?_
  have hr_93 : RowsOf w_90 .u8 (some ⟨B_89, 0, none⟩) ([r_65, l0_4, r_83] : List (List Int)) := RowsOf.lit (st_91.src_sl (k := 0) rfl) rfl (fun j hj => by match j, hj with | 0, _ => exact ⟨_, _, _, rfl, hn_69, st_91.cap (i := 3) rfl, st_91.src_sl (k := 3) rfl⟩ | 1, _ => exact ⟨_, _, _, rfl, (hl0_4).symm, Nat.le_refl _, st_91.src_mid (i := 2) (pre := (([] : List Value))) (mid := (iv .u8 l0_4)) (post := (([.int .u64 a0_5] : List Value))) rfl (by first | rfl | simp only [List.append_assoc, List.append_nil, List.nil_append, List.cons_append]) (by first | rfl | simp only [List.length_append, List.length_cons, List.length_nil, iv_length])⟩ | 2, _ => exact ⟨_, _, _, rfl, hn_87, st_91.cap (i := 1) rfl, st_91.src_sl (k := 1) rfl⟩ | j + 3, hj => exact absurd (show j + 3 < 3 from hj) (by omega))
  obtain ⟨r_98, hr_94, H⟩ := H
  refine WL.call Wanted.none ent21 rfl (slices_Concat_s_byte_byte.calls w_90 ([r_65, l0_4, r_83] : List (List Int)) (some ⟨B_89, 0, none⟩) 3 3 (hr_93) (rfl) (Nat.le_refl _) r_98 hr_94) ?_
  rintro _ w_95 ⟨A_99, c_100, n_101, hn_102, rfl, sc_97⟩
  have st_96 : St w w_95 [.sl A_99 c_100 n_101 (iv .u8 r_98) 5 1, .sl (some ⟨B_89, 0, none⟩) 3 3 [.slice A_66 n_68 c_67, .slice (some ⟨B_71, 0, none⟩) 32 32, .slice A_84 n_86 c_85] 29 1, .sl A_84 c_85 n_86 (iv .u8 r_83) 5 1, .cells B_71 (iv .u8 l0_4 ++ ([.int .u64 a0_5] : List Value)) 26, .sl A_66 c_67 n_68 (iv .u8 r_65) 5 1, .sl (some ⟨B_56, 0, none⟩) 3 3 [.slice A_33 n_35 c_34, .slice (some ⟨B_38, 0, none⟩) 32 32, .slice A_51 n_53 c_52] 29 1, .sl A_51 c_52 n_53 (iv .u8 r_50) 5 1, .cells B_38 (iv .u8 l0_2 ++ ([.int .u64 a0_3] : List Value)) 26, .sl A_33 c_34 n_35 (iv .u8 r_32) 5 1, .sl (some ⟨B_23, 0, none⟩) 3 3 [.slice none 0 0, .slice (some ⟨B_5, 0, none⟩) 32 32, .slice A_18 n_20 c_19] 29 1, .sl A_18 c_19 n_20 (iv .u8 r_17) 5 1, .cells B_5 (iv .u8 l0_0 ++ ([.int .u64 a0_1] : List Value)) 26, .cells B_1 (iv .u8 l0_0 ++ (([.int .u64 a0_1] : List Value) ++ (iv .u8 l0_2 ++ (([.int .u64 a0_3] : List Value) ++ (iv .u8 l0_4 ++ (([.int .u64 a0_5] : List Value) ++ (iv .u8 l0_6 ++ ([.int .u64 a0_7] : List Value)))))))) 28] := st_91.call sc_97
  refine ⟨_, rfl, ?_⟩
  refine WL.nil ?_
  refine AW.back  ?_
  refine AW.take 8 rfl (by kernel_rfl) (by kernel_rfl) (by kernel_rfl) Wanted.none (fun _ => (Runs.assign rfl)) ?_
  refine AW.done (by kernel_rfl) ?_
  refine QW.blk_n ?_
  refine QW.then_n ?_
  refine CW.region ?_
  refine WL.val Wanted.none (Runs.add (z := 3) rfl rfl (by decide)) ?_
  refine WL.val Wanted.none (Runs.move rfl) ?_
  refine WL.nil ?_
  refine QW.round ?_
  refine CW.seq ?_
  refine CW.region ?_
  refine WL.val Wanted.none (Runs.lss (b := true) rfl rfl (by decide)) ?_
  refine WL.nil ?_
  refine QW.then_n ?_
  refine CW.seq ?_
  refine CW.ct rfl rfl ?_
  refine CW.skip ?_
  refine QW.then_n ?_
  refine CW.seq ?_
  refine CW.block ?_
  refine CW.seq ?_
  refine CW.region ?_
  refine WL.val Wanted.none (Runs.index_row (o := 99) Tryd.underlying28 row26 rfl rfl (by decide) (by decide) rfl (part_mid (pre := (iv .u8 l0_0 ++ (([.int .u64 a0_1] : List Value) ++ (iv .u8 l0_2 ++ (([.int .u64 a0_3] : List Value) ++ (iv .u8 l0_4 ++ ([.int .u64 a0_5] : List Value))))))) (mid := (iv .u8 l0_6 ++ ([.int .u64 a0_7] : List Value))) (post := (([] : List Value))) (by first | rfl | simp only [List.append_assoc, List.append_nil, List.nil_append, List.cons_append]) (by first | rfl | simp only [List.length_append, List.length_cons, List.length_nil, iv_length, hl0_0, hl0_2, hl0_4]) (by first | rfl | simp only [List.length_append, List.length_cons, List.length_nil, iv_length, hl0_6]))) ?_
  refine WL.alloc st_96 zero26 ?_
  intro B_104 w_105 st_106
  replace st_106 : St w w_105 [.cells B_104 (iv .u8 (List.replicate 32 (0 : Int)) ++ ([.int .u64 0] : List Value)) 26, .sl A_99 c_100 n_101 (iv .u8 r_98) 5 1, .sl (some ⟨B_89, 0, none⟩) 3 3 [.slice A_66 n_68 c_67, .slice (some ⟨B_71, 0, none⟩) 32 32, .slice A_84 n_86 c_85] 29 1, .sl A_84 c_85 n_86 (iv .u8 r_83) 5 1, .cells B_71 (iv .u8 l0_4 ++ ([.int .u64 a0_5] : List Value)) 26, .sl A_66 c_67 n_68 (iv .u8 r_65) 5 1, .sl (some ⟨B_56, 0, none⟩) 3 3 [.slice A_33 n_35 c_34, .slice (some ⟨B_38, 0, none⟩) 32 32, .slice A_51 n_53 c_52] 29 1, .sl A_51 c_52 n_53 (iv .u8 r_50) 5 1, .cells B_38 (iv .u8 l0_2 ++ ([.int .u64 a0_3] : List Value)) 26, .sl A_33 c_34 n_35 (iv .u8 r_32) 5 1, .sl (some ⟨B_23, 0, none⟩) 3 3 [.slice none 0 0, .slice (some ⟨B_5, 0, none⟩) 32 32, .slice A_18 n_20 c_19] 29 1, .sl A_18 c_19 n_20 (iv .u8 r_17) 5 1, .cells B_5 (iv .u8 l0_0 ++ ([.int .u64 a0_1] : List Value)) 26, .cells B_1 (iv .u8 l0_0 ++ (([.int .u64 a0_1] : List Value) ++ (iv .u8 l0_2 ++ (([.int .u64 a0_3] : List Value) ++ (iv .u8 l0_4 ++ (([.int .u64 a0_5] : List Value) ++ (iv .u8 l0_6 ++ ([.int .u64 a0_7] : List Value)))))))) 28] := st_106
  refine WL.store_mid (i := 0) (pre := (([] : List Value))) (mid := (iv .u8 (List.replicate 32 (0 : Int)) ++ ([.int .u64 0] : List Value))) (post := (([] : List Value))) (ms := (iv .u8 l0_6 ++ ([.int .u64 a0_7] : List Value))) st_106 rfl row26 (by first | rfl | simp only [List.append_assoc, List.append_nil, List.nil_append, List.cons_append]) (by first | rfl | simp only [List.length_append, List.length_cons, List.length_nil, iv_length]) rfl rfl (by first | rfl | simp only [List.length_append, List.length_cons, List.length_nil, iv_length, hl0_6]) (by first | rfl | simp only [List.length_append, List.length_cons, List.length_nil, iv_length, List.length_replicate]) (by intro u hu; simp only [List.mem_append, List.mem_singleton] at hu; rcases hu with hu | hu <;> first | exact one_iv _ _ u hu | (subst hu; rfl)) ?_
  intro w_108 st_109
  replace st_109 : St w w_108 [.cells B_104 (iv .u8 l0_6 ++ ([.int .u64 a0_7] : List Value)) 26, .sl A_99 c_100 n_101 (iv .u8 r_98) 5 1, .sl (some ⟨B_89, 0, none⟩) 3 3 [.slice A_66 n_68 c_67, .slice (some ⟨B_71, 0, none⟩) 32 32, .slice A_84 n_86 c_85] 29 1, .sl A_84 c_85 n_86 (iv .u8 r_83) 5 1, .cells B_71 (iv .u8 l0_4 ++ ([.int .u64 a0_5] : List Value)) 26, .sl A_66 c_67 n_68 (iv .u8 r_65) 5 1, .sl (some ⟨B_56, 0, none⟩) 3 3 [.slice A_33 n_35 c_34, .slice (some ⟨B_38, 0, none⟩) 32 32, .slice A_51 n_53 c_52] 29 1, .sl A_51 c_52 n_53 (iv .u8 r_50) 5 1, .cells B_38 (iv .u8 l0_2 ++ ([.int .u64 a0_3] : List Value)) 26, .sl A_33 c_34 n_35 (iv .u8 r_32) 5 1, .sl (some ⟨B_23, 0, none⟩) 3 3 [.slice none 0 0, .slice (some ⟨B_5, 0, none⟩) 32 32, .slice A_18 n_20 c_19] 29 1, .sl A_18 c_19 n_20 (iv .u8 r_17) 5 1, .cells B_5 (iv .u8 l0_0 ++ ([.int .u64 a0_1] : List Value)) 26, .cells B_1 (iv .u8 l0_0 ++ (([.int .u64 a0_1] : List Value) ++ (iv .u8 l0_2 ++ (([.int .u64 a0_3] : List Value) ++ (iv .u8 l0_4 ++ (([.int .u64 a0_5] : List Value) ++ (iv .u8 l0_6 ++ ([.int .u64 a0_7] : List Value)))))))) 28] := by have e_ : (iv .u8 l0_6 ++ ([.int .u64 a0_7] : List Value)) = (([] : List Value)) ++ ((iv .u8 l0_6 ++ ([.int .u64 a0_7] : List Value)) ++ (([] : List Value))) := (by first | rfl | simp only [List.append_assoc, List.append_nil, List.nil_append, List.cons_append]); have h_ : St w w_108 [.cells B_104 ((([] : List Value)) ++ ((iv .u8 l0_6 ++ ([.int .u64 a0_7] : List Value)) ++ (([] : List Value)))) 26, .sl A_99 c_100 n_101 (iv .u8 r_98) 5 1, .sl (some ⟨B_89, 0, none⟩) 3 3 [.slice A_66 n_68 c_67, .slice (some ⟨B_71, 0, none⟩) 32 32, .slice A_84 n_86 c_85] 29 1, .sl A_84 c_85 n_86 (iv .u8 r_83) 5 1, .cells B_71 (iv .u8 l0_4 ++ ([.int .u64 a0_5] : List Value)) 26, .sl A_66 c_67 n_68 (iv .u8 r_65) 5 1, .sl (some ⟨B_56, 0, none⟩) 3 3 [.slice A_33 n_35 c_34, .slice (some ⟨B_38, 0, none⟩) 32 32, .slice A_51 n_53 c_52] 29 1, .sl A_51 c_52 n_53 (iv .u8 r_50) 5 1, .cells B_38 (iv .u8 l0_2 ++ ([.int .u64 a0_3] : List Value)) 26, .sl A_33 c_34 n_35 (iv .u8 r_32) 5 1, .sl (some ⟨B_23, 0, none⟩) 3 3 [.slice none 0 0, .slice (some ⟨B_5, 0, none⟩) 32 32, .slice A_18 n_20 c_19] 29 1, .sl A_18 c_19 n_20 (iv .u8 r_17) 5 1, .cells B_5 (iv .u8 l0_0 ++ ([.int .u64 a0_1] : List Value)) 26, .cells B_1 (iv .u8 l0_0 ++ (([.int .u64 a0_1] : List Value) ++ (iv .u8 l0_2 ++ (([.int .u64 a0_3] : List Value) ++ (iv .u8 l0_4 ++ (([.int .u64 a0_5] : List Value) ++ (iv .u8 l0_6 ++ ([.int .u64 a0_7] : List Value)))))))) 28] := st_109; rw [← e_] at h_; exact h_
  refine WL.nil ?_
  refine QW.then_n ?_
  refine CW.region_aw wide st_109 (fun w_110 st_111 => ?_)
  refine AW.take 0 rfl (by kernel_rfl) (by kernel_rfl) (by kernel_rfl) Wanted.none (fun _ => (Runs.move rfl)) ?_
  refine AW.take 1 rfl (by kernel_rfl) (by kernel_rfl) (by kernel_rfl) Wanted.none (fun _ => (Runs.fieldAddr (off := 0) (p := 0) fld26_0 rfl rfl rfl)) ?_
  refine AW.take 2 rfl (by kernel_rfl) (by kernel_rfl) (by kernel_rfl) Wanted.none (fun _ => (Runs.slice_mid arr23 rfl (by decide))) ?_
  refine AW.take 3 rfl (by kernel_rfl) (by kernel_rfl) (by kernel_rfl) Wanted.none (fun _ => (Runs.fieldAddr (off := 32) (p := 32) fld26_1 rfl rfl rfl)) ?_
  refine AW.step 4 rfl (by kernel_rfl) ?_
  refine WL.val Wanted.none (Runs.load nagg24 rfl (st_111.cell (k := 0) rfl (part_one (u := .int .u64 a0_7) (pre := (iv .u8 l0_6)) (post := (([] : List Value))) (by first | rfl | simp only [List.append_assoc, List.append_nil, List.nil_append, List.cons_append]) (by first | rfl | simp only [List.length_append, List.length_cons, List.length_nil, iv_length, hl0_6])))) ?_
  refine WL.nil ?_
  refine AW.back  ?_
  refine AW.step 5 rfl (by kernel_rfl) ?_
  obtain ⟨r_116, hr_112, H⟩ := H
  refine WL.call Wanted.none ent22 rfl (word_Put.calls w_110 a0_7 8 r_116 hr_112) ?_
  rintro _ w_113 ⟨A_117, c_118, n_119, hn_120, rfl, sc_115⟩
  have st_114 : St w w_113 [.sl A_117 c_118 n_119 (iv .u8 r_116) 5 1, .cells B_104 (iv .u8 l0_6 ++ ([.int .u64 a0_7] : List Value)) 26, .sl A_99 c_100 n_101 (iv .u8 r_98) 5 1, .sl (some ⟨B_89, 0, none⟩) 3 3 [.slice A_66 n_68 c_67, .slice (some ⟨B_71, 0, none⟩) 32 32, .slice A_84 n_86 c_85] 29 1, .sl A_84 c_85 n_86 (iv .u8 r_83) 5 1, .cells B_71 (iv .u8 l0_4 ++ ([.int .u64 a0_5] : List Value)) 26, .sl A_66 c_67 n_68 (iv .u8 r_65) 5 1, .sl (some ⟨B_56, 0, none⟩) 3 3 [.slice A_33 n_35 c_34, .slice (some ⟨B_38, 0, none⟩) 32 32, .slice A_51 n_53 c_52] 29 1, .sl A_51 c_52 n_53 (iv .u8 r_50) 5 1, .cells B_38 (iv .u8 l0_2 ++ ([.int .u64 a0_3] : List Value)) 26, .sl A_33 c_34 n_35 (iv .u8 r_32) 5 1, .sl (some ⟨B_23, 0, none⟩) 3 3 [.slice none 0 0, .slice (some ⟨B_5, 0, none⟩) 32 32, .slice A_18 n_20 c_19] 29 1, .sl A_18 c_19 n_20 (iv .u8 r_17) 5 1, .cells B_5 (iv .u8 l0_0 ++ ([.int .u64 a0_1] : List Value)) 26, .cells B_1 (iv .u8 l0_0 ++ (([.int .u64 a0_1] : List Value) ++ (iv .u8 l0_2 ++ (([.int .u64 a0_3] : List Value) ++ (iv .u8 l0_4 ++ (([.int .u64 a0_5] : List Value) ++ (iv .u8 l0_6 ++ ([.int .u64 a0_7] : List Value)))))))) 28] := st_111.call sc_115
  refine ⟨_, rfl, ?_⟩
  refine WL.nil ?_
  refine AW.back  ?_
  refine AW.step 6 rfl (by kernel_rfl) ?_
  refine WL.buildSl [.slice A_99 n_101 c_100, .slice (some ⟨B_104, 0, none⟩) 32 32, .slice A_117 n_119 c_118] st_114 Tryd.underlying63 elem29 rfl rfl (by decide) (by decide) (by simp [Value.cells]) ?_
  intro B_122 w_123 st_124
  replace st_124 : St w w_123 [.sl (some ⟨B_122, 0, none⟩) 3 3 [.slice A_99 n_101 c_100, .slice (some ⟨B_104, 0, none⟩) 32 32, .slice A_117 n_119 c_118] 29 1, .sl A_117 c_118 n_119 (iv .u8 r_116) 5 1, .cells B_104 (iv .u8 l0_6 ++ ([.int .u64 a0_7] : List Value)) 26, .sl A_99 c_100 n_101 (iv .u8 r_98) 5 1, .sl (some ⟨B_89, 0, none⟩) 3 3 [.slice A_66 n_68 c_67, .slice (some ⟨B_71, 0, none⟩) 32 32, .slice A_84 n_86 c_85] 29 1, .sl A_84 c_85 n_86 (iv .u8 r_83) 5 1, .cells B_71 (iv .u8 l0_4 ++ ([.int .u64 a0_5] : List Value)) 26, .sl A_66 c_67 n_68 (iv .u8 r_65) 5 1, .sl (some ⟨B_56, 0, none⟩) 3 3 [.slice A_33 n_35 c_34, .slice (some ⟨B_38, 0, none⟩) 32 32, .slice A_51 n_53 c_52] 29 1, .sl A_51 c_52 n_53 (iv .u8 r_50) 5 1, .cells B_38 (iv .u8 l0_2 ++ ([.int .u64 a0_3] : List Value)) 26, .sl A_33 c_34 n_35 (iv .u8 r_32) 5 1, .sl (some ⟨B_23, 0, none⟩) 3 3 [.slice none 0 0, .slice (some ⟨B_5, 0, none⟩) 32 32, .slice A_18 n_20 c_19] 29 1, .sl A_18 c_19 n_20 (iv .u8 r_17) 5 1, .cells B_5 (iv .u8 l0_0 ++ ([.int .u64 a0_1] : List Value)) 26, .cells B_1 (iv .u8 l0_0 ++ (([.int .u64 a0_1] : List Value) ++ (iv .u8 l0_2 ++ (([.int .u64 a0_3] : List Value) ++ (iv .u8 l0_4 ++ (([.int .u64 a0_5] : List Value) ++ (iv .u8 l0_6 ++ ([.int .u64 a0_7] : List Value)))))))) 28] := st_124
  refine WL.nil ?_
  refine AW.back  ?_
  refine AW.step 7 rfl (by kernel_rfl) ?_
  have hr_126 : RowsOf w_123 .u8 (some ⟨B_122, 0, none⟩) ([r_98, l0_6, r_116] : List (List Int)) := RowsOf.lit (st_124.src_sl (k := 0) rfl) rfl (fun j hj => by match j, hj with | 0, _ => exact ⟨_, _, _, rfl, hn_102, st_124.cap (i := 3) rfl, st_124.src_sl (k := 3) rfl⟩ | 1, _ => exact ⟨_, _, _, rfl, (hl0_6).symm, Nat.le_refl _, st_124.src_mid (i := 2) (pre := (([] : List Value))) (mid := (iv .u8 l0_6)) (post := (([.int .u64 a0_7] : List Value))) rfl (by first | rfl | simp only [List.append_assoc, List.append_nil, List.nil_append, List.cons_append]) (by first | rfl | simp only [List.length_append, List.length_cons, List.length_nil, iv_length])⟩ | 2, _ => exact ⟨_, _, _, rfl, hn_120, st_124.cap (i := 1) rfl, st_124.src_sl (k := 1) rfl⟩ | j + 3, hj => exact absurd (show j + 3 < 3 from hj) (by omega))
  obtain ⟨r_131, hr_127, H⟩ := H
  refine WL.call Wanted.none ent21 rfl (slices_Concat_s_byte_byte.calls w_123 ([r_98, l0_6, r_116] : List (List Int)) (some ⟨B_122, 0, none⟩) 3 3 (hr_126) (rfl) (Nat.le_refl _) r_131 hr_127) ?_
  rintro _ w_128 ⟨A_132, c_133, n_134, hn_135, rfl, sc_130⟩
  have st_129 : St w w_128 [.sl A_132 c_133 n_134 (iv .u8 r_131) 5 1, .sl (some ⟨B_122, 0, none⟩) 3 3 [.slice A_99 n_101 c_100, .slice (some ⟨B_104, 0, none⟩) 32 32, .slice A_117 n_119 c_118] 29 1, .sl A_117 c_118 n_119 (iv .u8 r_116) 5 1, .cells B_104 (iv .u8 l0_6 ++ ([.int .u64 a0_7] : List Value)) 26, .sl A_99 c_100 n_101 (iv .u8 r_98) 5 1, .sl (some ⟨B_89, 0, none⟩) 3 3 [.slice A_66 n_68 c_67, .slice (some ⟨B_71, 0, none⟩) 32 32, .slice A_84 n_86 c_85] 29 1, .sl A_84 c_85 n_86 (iv .u8 r_83) 5 1, .cells B_71 (iv .u8 l0_4 ++ ([.int .u64 a0_5] : List Value)) 26, .sl A_66 c_67 n_68 (iv .u8 r_65) 5 1, .sl (some ⟨B_56, 0, none⟩) 3 3 [.slice A_33 n_35 c_34, .slice (some ⟨B_38, 0, none⟩) 32 32, .slice A_51 n_53 c_52] 29 1, .sl A_51 c_52 n_53 (iv .u8 r_50) 5 1, .cells B_38 (iv .u8 l0_2 ++ ([.int .u64 a0_3] : List Value)) 26, .sl A_33 c_34 n_35 (iv .u8 r_32) 5 1, .sl (some ⟨B_23, 0, none⟩) 3 3 [.slice none 0 0, .slice (some ⟨B_5, 0, none⟩) 32 32, .slice A_18 n_20 c_19] 29 1, .sl A_18 c_19 n_20 (iv .u8 r_17) 5 1, .cells B_5 (iv .u8 l0_0 ++ ([.int .u64 a0_1] : List Value)) 26, .cells B_1 (iv .u8 l0_0 ++ (([.int .u64 a0_1] : List Value) ++ (iv .u8 l0_2 ++ (([.int .u64 a0_3] : List Value) ++ (iv .u8 l0_4 ++ (([.int .u64 a0_5] : List Value) ++ (iv .u8 l0_6 ++ ([.int .u64 a0_7] : List Value)))))))) 28] := st_124.call sc_130
  refine ⟨_, rfl, ?_⟩
  refine WL.nil ?_
  refine AW.back  ?_
  refine AW.take 8 rfl (by kernel_rfl) (by kernel_rfl) (by kernel_rfl) Wanted.none (fun _ => (Runs.assign rfl)) ?_
  refine AW.done (by kernel_rfl) ?_
  refine QW.blk_n ?_
  refine QW.then_n ?_
  refine CW.region ?_
  refine WL.val Wanted.none (Runs.add (z := 4) rfl rfl (by decide)) ?_
  refine WL.val Wanted.none (Runs.move rfl) ?_
  refine WL.nil ?_
  refine QW.round ?_
  refine CW.seq ?_
  refine CW.region ?_
  refine WL.val Wanted.none (Runs.lss (b := false) rfl rfl (by decide)) ?_
  refine WL.nil ?_
  refine QW.then_n ?_
  refine CW.seq ?_
  refine CW.cf rfl rfl ?_
  refine CW.exit ?_
  refine QW.then_x ?_
  refine QW.then_x ?_
  refine QW.blk_x ?_
  refine QW.then_n ?_
  refine CW.sub [(2, .slice none 0 0), (3, .slice A_132 n_134 c_133)] ⟨rfl, rfl, trivial⟩ ?_
  refine CW.seq ?_
  refine CW.region ?_
  refine WL.val Wanted.none (Runs.move rfl) ?_
  refine WL.val Wanted.none (Runs.assign rfl) ?_
  refine WL.nil ?_
  refine QW.then_n ?_
  refine CW.ret ?_
  obtain rfl := H
  exact QW.ret1 rfl rfl ⟨A_132, c_133, n_134, hn_135, rfl, st_129.pick [0] (by decide)⟩

/-! ### word_inside: function 31 -/
def word_inside.rel (l0 : List Int) (a1 : Int) (a2 : Int) (r0 : Int) : Prop := (∃ (r_5 : Bool), word_size.rel a2 r_5 ∧ ((¬ (r_5 = true) ∧ r0 = 1) ∨ (¬ (¬ (r_5 = true)) ∧ ((a1 < 0 ∧ r0 = 12) ∨ (¬ (a1 < 0) ∧ ((a1 > (l0.length : Int) ∧ r0 = 12) ∨ (¬ (a1 > (l0.length : Int)) ∧ (((IntKind.i64.wrap ((l0.length : Int) - a1)) < a2 ∧ r0 = 12) ∨ (¬ ((IntKind.i64.wrap ((l0.length : Int) - a1)) < a2) ∧ r0 = 0)))))))))
set_option maxHeartbeats 4000000 in
set_option maxRecDepth 100000 in
theorem word_inside.calls (w : World) (l0 : List Int) (a1 : Int) (a2 : Int) (A0 : Option Addr) (n0 : Nat) (c0 : Nat)  (hs0 : Src w A0 (iv .u8 l0)) (hn0 : n0 = l0.length) (hc0 : n0 ≤ c0) (r0 : Int) (H : word_inside.rel l0 a1 a2 r0) :
    Calls Tryd.prog 31 #[.slice A0 n0 c0, .int .i64 a1, .int .i64 a2] w fun e w' => e = .returned (.int .i64 r0) ∧ St w w' [] := by
  refine CW.enter Tryd.func31 rfl (n := 28) rfl [.slice A0 n0 c0, .int .i64 a1, .int .i64 a2] (Nat.le_of_ble_eq_true rfl) ?_
  refine CW.sub [(0, .slice A0 n0 c0), (1, .int .i64 a1), (2, .int .i64 a2)] ⟨rfl, rfl, rfl, trivial⟩ ?_
  have st0 : St w w [] := St.refl w
  refine CW.seq ?_
  refine CW.region ?_
  refine WL.val Wanted.none (Runs.assign rfl) ?_
  refine WL.nil ?_
  refine QW.then_n ?_
  refine CW.seq ?_
  refine CW.block ?_
  refine CW.seq ?_
  refine CW.region ?_
  refine WL.val Wanted.none (Runs.move rfl) ?_
  obtain ⟨r_5, hr_1, H⟩ := H
  refine WL.call Wanted.none ent30 rfl (word_size.calls w a2 r_5 hr_1) ?_
  rintro _ w_2 ⟨rfl, sc_4⟩
  have st_3 : St w w_2 [] := st0.call sc_4
  refine ⟨_, rfl, ?_⟩
  refine WL.val Wanted.none (Runs.not rfl rfl) ?_
  refine WL.val Wanted.none (Runs.assign rfl) ?_
  refine WL.nil ?_
  refine QW.then_n ?_
  rcases H with ⟨c_6, H⟩ | ⟨c_6, H⟩
  · have h_7 : (!r_5) = true := (not_t (Bool.eq_false_iff.mpr c_6))
    refine CW.ct rfl h_7 ?_
    refine CW.seq ?_
    refine CW.region ?_
    refine WL.val Wanted.none (Runs.assign rfl) ?_
    refine WL.nil ?_
    refine QW.then_n ?_
    refine CW.sub [(6, .int .i64 1)] ⟨rfl, trivial⟩ ?_
    refine CW.ret ?_
    refine QW.blk_r ?_
    refine QW.then_r ?_
    obtain rfl := H
    exact QW.ret1 rfl rfl ⟨rfl, st_3.pick [] (by decide)⟩
  · have h_7 : (!r_5) = false := (not_f (Decidable.not_not.mp c_6))
    refine CW.cf rfl h_7 ?_
    refine CW.seq ?_
    refine CW.region ?_
    refine WL.val Wanted.none (Runs.move rfl) ?_
    refine WL.val Wanted.none (Runs.lss rfl rfl rfl) ?_
    refine WL.val Wanted.none (Runs.move rfl) ?_
    rcases H with ⟨c_8, H⟩ | ⟨c_8, H⟩
    · have h_9 : (decide (a1 < 0)) = true := (decide_eq_true c_8)
      refine WL.off ?_ ?_; exact Wanted.guard (dj := 14) (by rfl) (evb (by rfl) h_9) (by rfl)
      refine WL.off ?_ ?_; exact Wanted.guard (dj := 14) (by rfl) (evb (by rfl) h_9) (by rfl)
      refine WL.off ?_ ?_; exact Wanted.guard (dj := 14) (by rfl) (evb (by rfl) h_9) (by rfl)
      refine WL.off ?_ ?_; exact Wanted.guard (dj := 14) (by rfl) (evb (by rfl) h_9) (by rfl)
      refine WL.val Wanted.none (Runs.pick_t (evb rfl h_9) rfl) ?_
      refine WL.val Wanted.none (Runs.move rfl) ?_
      refine WL.off ?_ ?_; exact Wanted.guard (dj := 20) (by rfl) (by rfl) (by rfl)
      refine WL.off ?_ ?_; exact Wanted.guard (dj := 20) (by rfl) (by rfl) (by rfl)
      refine WL.off ?_ ?_; exact Wanted.guard (dj := 20) (by rfl) (by rfl) (by rfl)
      refine WL.off ?_ ?_; exact Wanted.guard (dj := 20) (by rfl) (by rfl) (by rfl)
      refine WL.off ?_ ?_; exact Wanted.guard (dj := 20) (by rfl) (by rfl) (by rfl)
      refine WL.off ?_ ?_; exact Wanted.guard (dj := 20) (by rfl) (by rfl) (by rfl)
      refine WL.val Wanted.none (Runs.pick_t rfl rfl) ?_
      refine WL.val Wanted.none (Runs.assign rfl) ?_
      refine WL.nil ?_
      refine QW.then_n ?_
      refine CW.sub [(6, .int .i64 0), (11, .bool true)] ⟨rfl, rfl, trivial⟩ ?_
      refine CW.ct rfl rfl ?_
      refine CW.seq ?_
      refine CW.region ?_
      refine WL.val Wanted.none (Runs.assign rfl) ?_
      refine WL.nil ?_
      refine QW.then_n ?_
      refine CW.ret ?_
      refine QW.blk_r ?_
      refine QW.then_r ?_
      obtain rfl := H
      exact QW.ret1 rfl rfl ⟨rfl, st_3.pick [] (by decide)⟩
    · have h_9 : (decide (a1 < 0)) = false := (decide_eq_false c_8)
      refine WL.on ?_ ?_; exact Wanted.guard (dj := 14) (by rfl) (evb (by rfl) h_9) (by rfl)
      refine WL.val Wanted.none (Runs.move rfl) ?_
      refine WL.on ?_ ?_; exact Wanted.guard (dj := 14) (by rfl) (evb (by rfl) h_9) (by rfl)
      refine WL.val Wanted.none (Runs.move rfl) ?_
      refine WL.on ?_ ?_; exact Wanted.guard (dj := 14) (by rfl) (evb (by rfl) h_9) (by rfl)
      refine WL.val Wanted.none (Runs.len_sl Tryd.underlying29 rfl (by rw [hn0])) ?_
      refine WL.on ?_ ?_; exact Wanted.guard (dj := 14) (by rfl) (evb (by rfl) h_9) (by rfl)
      refine WL.val Wanted.none (Runs.gtr rfl rfl rfl) ?_
      refine WL.val Wanted.none (Runs.pick_f (evb rfl h_9) rfl) ?_
      refine WL.val Wanted.none (Runs.move rfl) ?_
      rcases H with ⟨c_10, H⟩ | ⟨c_10, H⟩
      · have h_11 : (decide (a1 > (l0.length : Int))) = true := (decide_eq_true c_10)
        refine WL.off ?_ ?_; exact Wanted.guard (dj := 20) (by rfl) (evb (by rfl) h_11) (by rfl)
        refine WL.off ?_ ?_; exact Wanted.guard (dj := 20) (by rfl) (evb (by rfl) h_11) (by rfl)
        refine WL.off ?_ ?_; exact Wanted.guard (dj := 20) (by rfl) (evb (by rfl) h_11) (by rfl)
        refine WL.off ?_ ?_; exact Wanted.guard (dj := 20) (by rfl) (evb (by rfl) h_11) (by rfl)
        refine WL.off ?_ ?_; exact Wanted.guard (dj := 20) (by rfl) (evb (by rfl) h_11) (by rfl)
        refine WL.off ?_ ?_; exact Wanted.guard (dj := 20) (by rfl) (evb (by rfl) h_11) (by rfl)
        refine WL.val Wanted.none (Runs.pick_t (evb rfl h_11) rfl) ?_
        refine WL.val Wanted.none (Runs.assign rfl) ?_
        refine WL.nil ?_
        refine QW.then_n ?_
        refine CW.sub [(6, .int .i64 0), (11, .bool true)] ⟨rfl, rfl, trivial⟩ ?_
        refine CW.ct rfl rfl ?_
        refine CW.seq ?_
        refine CW.region ?_
        refine WL.val Wanted.none (Runs.assign rfl) ?_
        refine WL.nil ?_
        refine QW.then_n ?_
        refine CW.ret ?_
        refine QW.blk_r ?_
        refine QW.then_r ?_
        obtain rfl := H
        exact QW.ret1 rfl rfl ⟨rfl, st_3.pick [] (by decide)⟩
      · have h_11 : (decide (a1 > (l0.length : Int))) = false := (decide_eq_false c_10)
        refine WL.on ?_ ?_; exact Wanted.guard (dj := 20) (by rfl) (evb (by rfl) h_11) (by rfl)
        refine WL.val Wanted.none (Runs.move rfl) ?_
        refine WL.on ?_ ?_; exact Wanted.guard (dj := 20) (by rfl) (evb (by rfl) h_11) (by rfl)
        refine WL.val Wanted.none (Runs.len_sl Tryd.underlying29 rfl (by rw [hn0])) ?_
        refine WL.on ?_ ?_; exact Wanted.guard (dj := 20) (by rfl) (evb (by rfl) h_11) (by rfl)
        refine WL.val Wanted.none (Runs.move rfl) ?_
        refine WL.on ?_ ?_; exact Wanted.guard (dj := 20) (by rfl) (evb (by rfl) h_11) (by rfl)
        refine WL.val Wanted.none (Runs.sub rfl rfl rfl) ?_
        refine WL.on ?_ ?_; exact Wanted.guard (dj := 20) (by rfl) (evb (by rfl) h_11) (by rfl)
        refine WL.val Wanted.none (Runs.move rfl) ?_
        refine WL.on ?_ ?_; exact Wanted.guard (dj := 20) (by rfl) (evb (by rfl) h_11) (by rfl)
        refine WL.val Wanted.none (Runs.lss rfl rfl rfl) ?_
        refine WL.val Wanted.none (Runs.pick_f (evb rfl h_11) rfl) ?_
        refine WL.val Wanted.none (Runs.assign rfl) ?_
        refine WL.nil ?_
        refine QW.then_n ?_
        refine CW.sub [(6, .int .i64 0), (11, .bool (decide ((IntKind.i64.wrap ((l0.length : Int) - a1)) < a2)))] ⟨rfl, rfl, trivial⟩ ?_
        rcases H with ⟨c_12, H⟩ | ⟨c_12, H⟩
        · have h_13 : (decide ((IntKind.i64.wrap ((l0.length : Int) - a1)) < a2)) = true := (decide_eq_true c_12)
          refine CW.ct rfl h_13 ?_
          refine CW.seq ?_
          refine CW.region ?_
          refine WL.val Wanted.none (Runs.assign rfl) ?_
          refine WL.nil ?_
          refine QW.then_n ?_
          refine CW.ret ?_
          refine QW.blk_r ?_
          refine QW.then_r ?_
          obtain rfl := H
          exact QW.ret1 rfl rfl ⟨rfl, st_3.pick [] (by decide)⟩
        · have h_13 : (decide ((IntKind.i64.wrap ((l0.length : Int) - a1)) < a2)) = false := (decide_eq_false c_12)
          refine CW.cf rfl h_13 ?_
          refine CW.skip ?_
          refine QW.blk_n ?_
          refine QW.then_n ?_
          refine CW.seq ?_
          refine CW.region ?_
          refine WL.val Wanted.none (Runs.assign rfl) ?_
          refine WL.nil ?_
          refine QW.then_n ?_
          refine CW.ret ?_
          obtain rfl := H
          exact QW.ret1 rfl rfl ⟨rfl, st_3.pick [] (by decide)⟩

/-! ### word_Get: function 23 -/
def word_Get.L1 (l0 : List Int) (a1 : Int) (a2 : Int) (r0 : Int) (r1 : Int) : Nat → Int → Int → Prop
  | 0, _, _ => False
  | kL1 + 1, x_21, x_22 => ((x_22 < ((prt l0 a1 (IntKind.i64.wrap (a1 + a2))).length : Int) ∧ ((0 ≤ x_22 ∧ x_22 < ((prt l0 a1 (IntKind.i64.wrap (a1 + a2))).length : Int)) ∧ (∃ x_32 : Int, x_32 = IntKind.u64.wrap (gn (prt l0 a1 (IntKind.i64.wrap (a1 + a2))) ((x_22).toNat)) ∧ (0 ≤ (IntKind.u64.wrap (IntKind.i64.wrap (8 * x_22))) ∧ (∃ x_35 : Int, x_35 = shlI .u64 x_32 (IntKind.u64.wrap (IntKind.i64.wrap (8 * x_22))) ∧ word_Get.L1 l0 a1 a2 r0 r1 kL1 (bits .or .u64 x_21 x_35) (IntKind.i64.wrap (x_22 + 1))))))) ∨ (¬ (x_22 < ((prt l0 a1 (IntKind.i64.wrap (a1 + a2))).length : Int)) ∧ r0 = x_21 ∧ r1 = 0))
def word_Get.rel (l0 : List Int) (a1 : Int) (a2 : Int) (r0 : Int) (r1 : Int) : Prop := (∃ (r_5 : Int), word_inside.rel l0 a1 a2 r_5 ∧ ((r_5 ≠ 0 ∧ r0 = 0 ∧ r1 = r_5) ∨ (¬ (r_5 ≠ 0) ∧ ((0 ≤ a1 ∧ a1 ≤ (IntKind.i64.wrap (a1 + a2)) ∧ (IntKind.i64.wrap (a1 + a2)) ≤ (l0.length : Int)) ∧ (∃ k_ : Nat, word_Get.L1 l0 a1 a2 r0 r1 k_ 0 0)))))
set_option maxHeartbeats 4000000 in
set_option maxRecDepth 100000 in
theorem word_Get.calls (w : World) (l0 : List Int) (a1 : Int) (a2 : Int) (A0 : Option Addr) (n0 : Nat) (c0 : Nat)  (hs0 : Src w A0 (iv .u8 l0)) (hn0 : n0 = l0.length) (hc0 : n0 ≤ c0) (r0 : Int) (r1 : Int) (H : word_Get.rel l0 a1 a2 r0 r1) :
    Calls Tryd.prog 23 #[.slice A0 n0 c0, .int .i64 a1, .int .i64 a2] w fun e w' => e = .returned (.tuple #[.int .u64 r0, .int .i64 r1]) ∧ St w w' [] := by
  refine CW.enter Tryd.func23 rfl (n := 41) rfl [.slice A0 n0 c0, .int .i64 a1, .int .i64 a2] (Nat.le_of_ble_eq_true rfl) ?_
  refine CW.sub [(0, .slice A0 n0 c0), (1, .int .i64 a1), (2, .int .i64 a2)] ⟨rfl, rfl, rfl, trivial⟩ ?_
  have st0 : St w w [] := St.refl w
  refine CW.seq ?_
  refine CW.region ?_
  refine WL.val Wanted.none (Runs.assign rfl) ?_
  refine WL.val Wanted.none (Runs.assign rfl) ?_
  refine WL.nil ?_
  refine QW.then_n ?_
  refine CW.seq ?_
  refine CW.seq ?_
  refine CW.region ?_
  refine WL.val Wanted.none (Runs.move rfl) ?_
  refine WL.val Wanted.none (Runs.move rfl) ?_
  refine WL.val Wanted.none (Runs.move rfl) ?_
  obtain ⟨r_5, hr_1, H⟩ := H
  refine WL.call Wanted.none ent31 rfl (word_inside.calls w l0 a1 a2 A0 n0 c0 (hs0.ext st0) (hn0) (hc0) r_5 hr_1) ?_
  rintro _ w_2 ⟨rfl, sc_4⟩
  have st_3 : St w w_2 [] := st0.call sc_4
  refine ⟨_, rfl, ?_⟩
  refine WL.val Wanted.none (Runs.assign rfl) ?_
  refine WL.nil ?_
  refine QW.then_n ?_
  refine CW.seq ?_
  refine CW.region ?_
  refine WL.val Wanted.none (Runs.move rfl) ?_
  refine WL.val Wanted.none (Runs.neq rfl rfl rfl) ?_
  refine WL.nil ?_
  refine QW.then_n ?_
  rcases H with ⟨c_6, H⟩ | ⟨c_6, H⟩
  · have h_7 : (r_5 != 0) = true := (bne_iff_ne.mpr c_6)
    refine CW.ct rfl h_7 ?_
    refine CW.seq ?_
    refine CW.region ?_
    refine WL.val Wanted.none (Runs.move rfl) ?_
    refine WL.val Wanted.none (Runs.assign rfl) ?_
    refine WL.val Wanted.none (Runs.assign rfl) ?_
    refine WL.nil ?_
    refine QW.then_n ?_
    refine CW.sub [(0, .slice A0 n0 c0), (1, .int .i64 a1), (2, .int .i64 a2), (6, .int .u64 0), (7, .int .i64 r_5)] ⟨rfl, rfl, rfl, rfl, rfl, trivial⟩ ?_
    refine CW.ret ?_
    refine QW.then_r ?_
    obtain ⟨rfl, rfl⟩ := H
    exact QW.ret2 rfl rfl rfl ⟨rfl, st_3.pick [] (by decide)⟩
  · have h_7 : (r_5 != 0) = false := (bne_eq_false_iff_eq.mpr (Decidable.not_not.mp c_6))
    refine CW.cf rfl h_7 ?_
    refine CW.skip ?_
    refine QW.then_n ?_
    refine CW.sub [(0, .slice A0 n0 c0), (1, .int .i64 a1), (2, .int .i64 a2), (6, .int .u64 0), (7, .int .i64 0)] ⟨rfl, rfl, rfl, rfl, rfl, trivial⟩ ?_
    refine CW.seq ?_
    refine CW.region ?_
    refine WL.val Wanted.none (Runs.assign rfl) ?_
    refine WL.nil ?_
    refine QW.then_n ?_
    refine CW.seq ?_
    refine CW.seq ?_
    refine CW.region ?_
    refine WL.val Wanted.none (Runs.move rfl) ?_
    refine WL.val Wanted.none (Runs.move rfl) ?_
    refine WL.val Wanted.none (Runs.move rfl) ?_
    refine WL.val Wanted.none (Runs.move rfl) ?_
    refine WL.val Wanted.none (Runs.add rfl rfl rfl) ?_
    obtain ⟨⟨p_8, q_9, r_10⟩, H⟩ := H
    have h_17 : n0 ≤ c0 := hc0
    have h_18 : (IntKind.i64.wrap (a1 + a2)) ≤ (c0 : Int) := by have := hn0; omega
    obtain ⟨A_11, e_14⟩ : ∃ B_, B_ = subA A0 (a1).toNat c0 := ⟨_, rfl⟩
    obtain ⟨n_13, e_16⟩ : ∃ n_ : Nat, n_ = (prt l0 a1 (IntKind.i64.wrap (a1 + a2))).length := ⟨_, rfl⟩
    obtain ⟨c_12, e_15⟩ : ∃ c_ : Nat, c_ = c0 - (a1).toNat := ⟨_, rfl⟩
    have h_19 : n_13 ≤ c_12 := by rw [e_16, prt_length p_8 q_9 r_10]; rw [e_15]; omega
    refine WL.val Wanted.none (Runs.slice_lh Tryd.underlying29 cells5 rfl rfl rfl p_8 q_9 h_18 e_14 (N := n_13) (by rw [e_16, prt_length p_8 q_9 r_10]) e_15) ?_
    refine WL.val Wanted.none (Runs.len_sl Tryd.underlying29 rfl (by rw [e_16])) ?_
    refine WL.val Wanted.none (Runs.move rfl) ?_
    refine WL.nil ?_
    refine QW.then_n ?_
    refine CW.sub [(6, .int .u64 0), (7, .int .i64 0), (9, .int .u64 0), (24, .slice A_11 n_13 c_12), (25, .int .i64 ((prt l0 a1 (IntKind.i64.wrap (a1 + a2))).length : Int)), (26, .int .i64 0)] ⟨rfl, rfl, rfl, rfl, rfl, rfl, trivial⟩ ?_
    refine CW.block ?_
    obtain ⟨k_20, H⟩ := H
    refine CW.sub [(6, .int .u64 0), (7, .int .i64 0), (9, .int .u64 0), (24, .slice A_11 n_13 c_12), (25, .int .i64 ((prt l0 a1 (IntKind.i64.wrap (a1 + a2))).length : Int)), (26, .int .i64 0)] ⟨rfl, rfl, rfl, rfl, rfl, rfl, trivial⟩ ?_
    refine CW.loop (fun kL1 l_ w_ => ∃ (x_21 : Int) (x_22 : Int), l_ = [(6, .int .u64 0), (7, .int .i64 0), (9, .int .u64 x_21), (24, .slice A_11 n_13 c_12), (25, .int .i64 ((prt l0 a1 (IntKind.i64.wrap (a1 + a2))).length : Int)), (26, .int .i64 x_22)] ∧ word_Get.L1 l0 a1 a2 r0 r1 kL1 x_21 x_22 ∧ St w w_ []) (k := k_20) ⟨0, 0, rfl, H, st_3⟩ (fun _ _ h => by obtain ⟨_, _, _, h, _⟩ := h; exact h.elim) ?_
    rintro kL1 l_25 w_23 ⟨x_21, x_22, rfl, H, st_24⟩
    refine CW.seq ?_
    refine CW.region ?_
    refine WL.val Wanted.none (Runs.lss rfl rfl rfl) ?_
    refine WL.nil ?_
    refine QW.then_n ?_
    refine CW.seq ?_
    rcases H with ⟨c_26, H⟩ | ⟨c_26, H⟩
    · have h_27 : (decide (x_22 < ((prt l0 a1 (IntKind.i64.wrap (a1 + a2))).length : Int))) = true := (decide_eq_true c_26)
      refine CW.ct rfl h_27 ?_
      refine CW.skip ?_
      refine QW.then_n ?_
      refine CW.seq ?_
      refine CW.block ?_
      refine CW.seq ?_
      refine CW.region ?_
      refine WL.val Wanted.none (Runs.move rfl) ?_
      obtain ⟨⟨p_28, q_29⟩, H⟩ := H
      obtain ⟨a_30, e_31⟩ := ((hs0.ext st_24).sub_iv p_8 q_9 h_18 e_14).addr_iv ((x_22).toNat) (by omega)
      refine WL.val Wanted.none (Runs.indexAddr Tryd.underlying29 cells5 (by decide) rfl e_31 rfl p_28 (by rw [e_16]; exact q_29) (o := (x_22).toNat) (by first | rfl | omega)) ?_
      refine WL.val Wanted.none (Runs.load nagg5 rfl (((hs0.ext st_24).sub_iv p_8 q_9 h_18 e_14).cell_iv e_31 (by omega))) ?_
      refine WL.val Wanted.none (Runs.assign rfl) ?_
      refine WL.val Wanted.none (Runs.assign rfl) ?_
      refine WL.nil ?_
      refine QW.then_n ?_
      refine CW.region ?_
      refine WL.val Wanted.none (Runs.move rfl) ?_
      refine WL.val Wanted.none (Runs.move rfl) ?_
      obtain ⟨x_32, e_33, H⟩ := H
      refine WL.val Wanted.none (Runs.conv Tryd.underlying24 ⟨_, Tryd.underlying5⟩ rfl e_33) ?_
      refine WL.val Wanted.none (Runs.move rfl) ?_
      refine WL.val Wanted.none (Runs.mul rfl rfl rfl) ?_
      refine WL.val Wanted.none (Runs.conv Tryd.underlying52 ⟨_, Tryd.underlying3⟩ rfl rfl) ?_
      obtain ⟨z_34, H⟩ := H
      obtain ⟨x_35, e_36, H⟩ := H
      refine WL.val Wanted.none (Runs.shl rfl rfl z_34 e_36) ?_
      refine WL.val Wanted.none (Runs.bor rfl rfl rfl) ?_
      refine WL.val Wanted.none (Runs.assign rfl) ?_
      refine WL.nil ?_
      refine QW.blk_n ?_
      refine QW.then_n ?_
      refine CW.region ?_
      refine WL.val Wanted.none (Runs.add rfl rfl rfl) ?_
      refine WL.val Wanted.none (Runs.move rfl) ?_
      refine WL.nil ?_
      exact QW.at [(6, .int .u64 0), (7, .int .i64 0), (9, .int .u64 (bits .or .u64 x_21 x_35)), (24, .slice A_11 n_13 c_12), (25, .int .i64 ((prt l0 a1 (IntKind.i64.wrap (a1 + a2))).length : Int)), (26, .int .i64 (IntKind.i64.wrap (x_22 + 1)))] ⟨rfl, rfl, rfl, rfl, rfl, rfl, trivial⟩ ⟨bits .or .u64 x_21 x_35, IntKind.i64.wrap (x_22 + 1), rfl, H, st_24⟩
    · have h_27 : (decide (x_22 < ((prt l0 a1 (IntKind.i64.wrap (a1 + a2))).length : Int))) = false := (decide_eq_false c_26)
      refine CW.cf rfl h_27 ?_
      refine CW.exit ?_
      refine QW.then_x ?_
      refine QW.then_x ?_
      refine QW.blk_x ?_
      refine QW.then_n ?_
      refine CW.seq ?_
      refine CW.region ?_
      refine WL.val Wanted.none (Runs.move rfl) ?_
      refine WL.val Wanted.none (Runs.assign rfl) ?_
      refine WL.val Wanted.none (Runs.assign rfl) ?_
      refine WL.nil ?_
      refine QW.then_n ?_
      refine CW.sub [(6, .int .u64 x_21), (7, .int .i64 0)] ⟨rfl, rfl, trivial⟩ ?_
      refine CW.ret ?_
      obtain ⟨rfl, rfl⟩ := H
      exact QW.ret2 rfl rfl rfl ⟨rfl, st_24.pick [] (by decide)⟩

/-! ### tree_Get: function 10 -/
def tree_Get.rel (l0 : List Int) (r0_0 : List Int) (r0_1 : Int) (r0_2 : List Int) (r0_3 : Int) (r0_4 : List Int) (r0_5 : Int) (r0_6 : List Int) (r0_7 : Int) (r1 : Int) : Prop := (((l0.length : Int) ≠ 160 ∧ r0_0 = List.replicate 32 (0 : Int) ∧ r0_1 = 0 ∧ r0_2 = List.replicate 32 (0 : Int) ∧ r0_3 = 0 ∧ r0_4 = List.replicate 32 (0 : Int) ∧ r0_5 = 0 ∧ r0_6 = List.replicate 32 (0 : Int) ∧ r0_7 = 0 ∧ r1 = 11) ∨ (¬ ((l0.length : Int) ≠ 160) ∧ ((0 ≤ (0 : Int) ∧ (0 : Int) ≤ (40 : Int) ∧ (40 : Int) ≤ (l0.length : Int)) ∧ ((0 ≤ (0 : Int) ∧ (0 : Int) ≤ (32 : Int) ∧ (32 : Int) ≤ ((prt l0 (0 : Int) (40 : Int)).length : Int)) ∧ (32 ≤ (prt (prt l0 (0 : Int) (40 : Int)) (0 : Int) (32 : Int)).length ∧ (∃ (r_44 : Int) (r_45 : Int), word_Get.rel (prt l0 (0 : Int) (40 : Int)) 32 8 r_44 r_45 ∧ ((0 ≤ (40 : Int) ∧ (40 : Int) ≤ (80 : Int) ∧ (80 : Int) ≤ (l0.length : Int)) ∧ ((0 ≤ (0 : Int) ∧ (0 : Int) ≤ (32 : Int) ∧ (32 : Int) ≤ ((prt l0 (40 : Int) (80 : Int)).length : Int)) ∧ (32 ≤ (prt (prt l0 (40 : Int) (80 : Int)) (0 : Int) (32 : Int)).length ∧ (∃ (r_79 : Int) (r_80 : Int), word_Get.rel (prt l0 (40 : Int) (80 : Int)) 32 8 r_79 r_80 ∧ ((0 ≤ (80 : Int) ∧ (80 : Int) ≤ (120 : Int) ∧ (120 : Int) ≤ (l0.length : Int)) ∧ ((0 ≤ (0 : Int) ∧ (0 : Int) ≤ (32 : Int) ∧ (32 : Int) ≤ ((prt l0 (80 : Int) (120 : Int)).length : Int)) ∧ (32 ≤ (prt (prt l0 (80 : Int) (120 : Int)) (0 : Int) (32 : Int)).length ∧ (∃ (r_114 : Int) (r_115 : Int), word_Get.rel (prt l0 (80 : Int) (120 : Int)) 32 8 r_114 r_115 ∧ ((0 ≤ (120 : Int) ∧ (120 : Int) ≤ (160 : Int) ∧ (160 : Int) ≤ (l0.length : Int)) ∧ ((0 ≤ (0 : Int) ∧ (0 : Int) ≤ (32 : Int) ∧ (32 : Int) ≤ ((prt l0 (120 : Int) (160 : Int)).length : Int)) ∧ (32 ≤ (prt (prt l0 (120 : Int) (160 : Int)) (0 : Int) (32 : Int)).length ∧ (∃ (r_149 : Int) (r_150 : Int), word_Get.rel (prt l0 (120 : Int) (160 : Int)) 32 8 r_149 r_150 ∧ r0_0 = List.take 32 (prt (prt l0 (0 : Int) (40 : Int)) (0 : Int) (32 : Int)) ∧ r0_1 = r_44 ∧ r0_2 = List.take 32 (prt (prt l0 (40 : Int) (80 : Int)) (0 : Int) (32 : Int)) ∧ r0_3 = r_79 ∧ r0_4 = List.take 32 (prt (prt l0 (80 : Int) (120 : Int)) (0 : Int) (32 : Int)) ∧ r0_5 = r_114 ∧ r0_6 = List.take 32 (prt (prt l0 (120 : Int) (160 : Int)) (0 : Int) (32 : Int)) ∧ r0_7 = r_149 ∧ r1 = 0))))))))))))))))))
set_option maxHeartbeats 4000000 in
set_option maxRecDepth 100000 in
theorem tree_Get.calls (w : World) (l0 : List Int) (A0 : Option Addr) (n0 : Nat) (c0 : Nat)  (hs0 : Src w A0 (iv .u8 l0)) (hn0 : n0 = l0.length) (hc0 : n0 ≤ c0) (r0_0 : List Int) (r0_1 : Int) (r0_2 : List Int) (r0_3 : Int) (r0_4 : List Int) (r0_5 : Int) (r0_6 : List Int) (r0_7 : Int) (r1 : Int) (H : tree_Get.rel l0 r0_0 r0_1 r0_2 r0_3 r0_4 r0_5 r0_6 r0_7 r1) :
    Calls Tryd.prog 10 #[.slice A0 n0 c0] w fun e w' => r0_0.length = 32 ∧ r0_2.length = 32 ∧ r0_4.length = 32 ∧ r0_6.length = 32 ∧ e = .returned (.tuple #[.agg (iv .u8 r0_0 ++ (([.int .u64 r0_1] : List Value) ++ (iv .u8 r0_2 ++ (([.int .u64 r0_3] : List Value) ++ (iv .u8 r0_4 ++ (([.int .u64 r0_5] : List Value) ++ (iv .u8 r0_6 ++ ([.int .u64 r0_7] : List Value)))))))).toArray, .int .i64 r1]) ∧ St w w' [] := by
  refine CW.enter Tryd.func10 rfl (n := 38) rfl [.slice A0 n0 c0] (Nat.le_of_ble_eq_true rfl) ?_
  refine CW.sub [(0, .slice A0 n0 c0)] ⟨rfl, trivial⟩ ?_
  have st0 : St w w [] := St.refl w
  refine CW.seq ?_
  refine CW.region ?_
  refine WL.alloc st0 zero28 ?_
  intro B_1 w_2 st_3
  replace st_3 : St w w_2 [.cells B_1 (iv .u8 (List.replicate 32 (0 : Int)) ++ (([.int .u64 0] : List Value) ++ (iv .u8 (List.replicate 32 (0 : Int)) ++ (([.int .u64 0] : List Value) ++ (iv .u8 (List.replicate 32 (0 : Int)) ++ (([.int .u64 0] : List Value) ++ (iv .u8 (List.replicate 32 (0 : Int)) ++ ([.int .u64 0] : List Value)))))))) 28] := st_3
  refine WL.val Wanted.none (Runs.assign rfl) ?_
  refine WL.nil ?_
  refine QW.then_n ?_
  refine CW.seq ?_
  refine CW.region ?_
  refine WL.alloc st_3 zero28 ?_
  intro B_5 w_6 st_7
  replace st_7 : St w w_6 [.cells B_5 (iv .u8 (List.replicate 32 (0 : Int)) ++ (([.int .u64 0] : List Value) ++ (iv .u8 (List.replicate 32 (0 : Int)) ++ (([.int .u64 0] : List Value) ++ (iv .u8 (List.replicate 32 (0 : Int)) ++ (([.int .u64 0] : List Value) ++ (iv .u8 (List.replicate 32 (0 : Int)) ++ ([.int .u64 0] : List Value)))))))) 28, .cells B_1 (iv .u8 (List.replicate 32 (0 : Int)) ++ (([.int .u64 0] : List Value) ++ (iv .u8 (List.replicate 32 (0 : Int)) ++ (([.int .u64 0] : List Value) ++ (iv .u8 (List.replicate 32 (0 : Int)) ++ (([.int .u64 0] : List Value) ++ (iv .u8 (List.replicate 32 (0 : Int)) ++ ([.int .u64 0] : List Value)))))))) 28] := st_7
  refine WL.nil ?_
  refine QW.then_n ?_
  refine CW.seq ?_
  refine CW.seq ?_
  refine CW.region ?_
  refine WL.val Wanted.none (Runs.move rfl) ?_
  refine WL.val Wanted.none (Runs.len_sl Tryd.underlying29 rfl (by rw [hn0])) ?_
  refine WL.val Wanted.none (Runs.neq rfl rfl rfl) ?_
  refine WL.nil ?_
  refine QW.then_n ?_
  rcases H with ⟨c_9, H⟩ | ⟨c_9, H⟩
  · have h_10 : ((l0.length : Int) != 160) = true := (bne_iff_ne.mpr c_9)
    refine CW.ct rfl h_10 ?_
    refine CW.seq ?_
    refine CW.region ?_
    refine WL.val Wanted.none (Runs.build_rows (cs := (iv .u8 (List.replicate 32 (0 : Int)) ++ (([.int .u64 0] : List Value) ++ (iv .u8 (List.replicate 32 (0 : Int)) ++ (([.int .u64 0] : List Value) ++ (iv .u8 (List.replicate 32 (0 : Int)) ++ (([.int .u64 0] : List Value) ++ (iv .u8 (List.replicate 32 (0 : Int)) ++ ([.int .u64 0] : List Value))))))))) Tryd.underlying28 siz26 zero28 rfl Fills.nil) ?_
    refine WL.store_mid (i := 1) (pre := (([] : List Value))) (mid := (iv .u8 (List.replicate 32 (0 : Int)) ++ (([.int .u64 0] : List Value) ++ (iv .u8 (List.replicate 32 (0 : Int)) ++ (([.int .u64 0] : List Value) ++ (iv .u8 (List.replicate 32 (0 : Int)) ++ (([.int .u64 0] : List Value) ++ (iv .u8 (List.replicate 32 (0 : Int)) ++ ([.int .u64 0] : List Value))))))))) (post := (([] : List Value))) (ms := (iv .u8 (List.replicate 32 (0 : Int)) ++ (([.int .u64 0] : List Value) ++ (iv .u8 (List.replicate 32 (0 : Int)) ++ (([.int .u64 0] : List Value) ++ (iv .u8 (List.replicate 32 (0 : Int)) ++ (([.int .u64 0] : List Value) ++ (iv .u8 (List.replicate 32 (0 : Int)) ++ ([.int .u64 0] : List Value))))))))) st_7 rfl row28 (by first | rfl | simp only [List.append_assoc, List.append_nil, List.nil_append, List.cons_append]) (by first | rfl | simp only [List.length_append, List.length_cons, List.length_nil, iv_length]) rfl rfl (by first | rfl | simp only [List.length_append, List.length_cons, List.length_nil, iv_length, List.length_replicate]) (by first | rfl | simp only [List.length_append, List.length_cons, List.length_nil, iv_length, List.length_replicate]) (by intro u hu; simp only [List.mem_append, List.mem_singleton] at hu; rcases hu with hu | hu | hu | hu | hu | hu | hu | hu <;> first | exact one_iv _ _ u hu | (subst hu; rfl)) ?_
    intro w_11 st_12
    replace st_12 : St w w_11 [.cells B_5 (iv .u8 (List.replicate 32 (0 : Int)) ++ (([.int .u64 0] : List Value) ++ (iv .u8 (List.replicate 32 (0 : Int)) ++ (([.int .u64 0] : List Value) ++ (iv .u8 (List.replicate 32 (0 : Int)) ++ (([.int .u64 0] : List Value) ++ (iv .u8 (List.replicate 32 (0 : Int)) ++ ([.int .u64 0] : List Value)))))))) 28, .cells B_1 (iv .u8 (List.replicate 32 (0 : Int)) ++ (([.int .u64 0] : List Value) ++ (iv .u8 (List.replicate 32 (0 : Int)) ++ (([.int .u64 0] : List Value) ++ (iv .u8 (List.replicate 32 (0 : Int)) ++ (([.int .u64 0] : List Value) ++ (iv .u8 (List.replicate 32 (0 : Int)) ++ ([.int .u64 0] : List Value)))))))) 28] := by have e_ : (iv .u8 (List.replicate 32 (0 : Int)) ++ (([.int .u64 0] : List Value) ++ (iv .u8 (List.replicate 32 (0 : Int)) ++ (([.int .u64 0] : List Value) ++ (iv .u8 (List.replicate 32 (0 : Int)) ++ (([.int .u64 0] : List Value) ++ (iv .u8 (List.replicate 32 (0 : Int)) ++ ([.int .u64 0] : List Value)))))))) = (([] : List Value)) ++ ((iv .u8 (List.replicate 32 (0 : Int)) ++ (([.int .u64 0] : List Value) ++ (iv .u8 (List.replicate 32 (0 : Int)) ++ (([.int .u64 0] : List Value) ++ (iv .u8 (List.replicate 32 (0 : Int)) ++ (([.int .u64 0] : List Value) ++ (iv .u8 (List.replicate 32 (0 : Int)) ++ ([.int .u64 0] : List Value)))))))) ++ (([] : List Value))) := (by first | rfl | simp only [List.append_assoc, List.append_nil, List.nil_append, List.cons_append]); have h_ : St w w_11 [.cells B_5 (iv .u8 (List.replicate 32 (0 : Int)) ++ (([.int .u64 0] : List Value) ++ (iv .u8 (List.replicate 32 (0 : Int)) ++ (([.int .u64 0] : List Value) ++ (iv .u8 (List.replicate 32 (0 : Int)) ++ (([.int .u64 0] : List Value) ++ (iv .u8 (List.replicate 32 (0 : Int)) ++ ([.int .u64 0] : List Value)))))))) 28, .cells B_1 ((([] : List Value)) ++ ((iv .u8 (List.replicate 32 (0 : Int)) ++ (([.int .u64 0] : List Value) ++ (iv .u8 (List.replicate 32 (0 : Int)) ++ (([.int .u64 0] : List Value) ++ (iv .u8 (List.replicate 32 (0 : Int)) ++ (([.int .u64 0] : List Value) ++ (iv .u8 (List.replicate 32 (0 : Int)) ++ ([.int .u64 0] : List Value)))))))) ++ (([] : List Value)))) 28] := st_12; rw [← e_] at h_; exact h_
    refine WL.val Wanted.none (Runs.assign rfl) ?_
    refine WL.nil ?_
    refine QW.then_n ?_
    refine CW.ret ?_
    refine QW.then_r ?_
    obtain ⟨rfl, rfl, rfl, rfl, rfl, rfl, rfl, rfl, rfl⟩ := H
    exact QW.retr1 rfl row28 rfl st_12 (i := 1) rfl (by first | rfl | simp only [List.length_append, List.length_cons, List.length_nil, iv_length, List.length_replicate]) rfl ⟨(List.length_replicate ..), (List.length_replicate ..), (List.length_replicate ..), (List.length_replicate ..), rfl, st_12.pick [] (by decide)⟩
  · have h_10 : ((l0.length : Int) != 160) = false := (bne_eq_false_iff_eq.mpr (Decidable.not_not.mp c_9))
    refine CW.cf rfl h_10 ?_
    refine CW.skip ?_
    refine QW.then_n ?_
    refine CW.seq ?_
    refine CW.seq ?_
    refine CW.region ?_
    refine WL.val Wanted.none (Runs.move rfl) ?_
    refine WL.nil ?_
    refine QW.then_n ?_
    refine CW.block ?_
    refine CW.rounds 39 ?_
    refine CW.seq ?_
    refine CW.region ?_
    refine WL.val Wanted.none (Runs.lss (b := true) rfl rfl (by decide)) ?_
    refine WL.nil ?_
    refine QW.then_n ?_
    refine CW.seq ?_
    refine CW.ct rfl rfl ?_
    refine CW.skip ?_
    refine QW.then_n ?_
    refine CW.seq ?_
    refine CW.block ?_
    refine CW.seq ?_
    refine CW.region ?_
    refine WL.val Wanted.none (Runs.move rfl) ?_
    refine WL.val Wanted.none (Runs.assign rfl) ?_
    refine WL.nil ?_
    refine QW.then_n ?_
    refine CW.seq ?_
    refine CW.region ?_
    refine WL.val Wanted.none (Runs.move rfl) ?_
    refine WL.val Wanted.none (Runs.move rfl) ?_
    refine WL.val Wanted.none (Runs.mul (z := 0) rfl rfl (by decide)) ?_
    refine WL.val Wanted.none (Runs.move rfl) ?_
    refine WL.val Wanted.none (Runs.add (z := 1) rfl rfl (by decide)) ?_
    refine WL.val Wanted.none (Runs.mul (z := 40) rfl rfl (by decide)) ?_
    obtain ⟨⟨p_13, q_14, r_15⟩, H⟩ := H
    have h_22 : n0 ≤ c0 := hc0
    have h_23 : (40 : Int) ≤ (c0 : Int) := by have := hn0; omega
    obtain ⟨A_16, e_19⟩ : ∃ B_, B_ = subA A0 ((0 : Int)).toNat c0 := ⟨_, rfl⟩
    obtain ⟨n_18, e_21⟩ : ∃ n_ : Nat, n_ = (prt l0 (0 : Int) (40 : Int)).length := ⟨_, rfl⟩
    obtain ⟨c_17, e_20⟩ : ∃ c_ : Nat, c_ = c0 - ((0 : Int)).toNat := ⟨_, rfl⟩
    have h_24 : n_18 ≤ c_17 := by rw [e_21, prt_length p_13 q_14 r_15]; rw [e_20]; omega
    refine WL.val Wanted.none (Runs.slice_lh Tryd.underlying29 cells5 rfl rfl rfl p_13 q_14 h_23 e_19 (N := n_18) (by rw [e_21, prt_length p_13 q_14 r_15]) e_20) ?_
    refine WL.val Wanted.none (Runs.assign rfl) ?_
    refine WL.nil ?_
    refine QW.then_n ?_
    refine CW.seq ?_
    refine CW.region ?_
    refine WL.val Wanted.none (Runs.move rfl) ?_
    refine WL.val Wanted.none (Runs.move rfl) ?_
    obtain ⟨⟨p_25, q_26, r_27⟩, H⟩ := H
    have h_34 : n_18 ≤ c_17 := h_24
    have h_35 : (32 : Int) ≤ (c_17 : Int) := by have := e_21; omega
    obtain ⟨A_28, e_31⟩ : ∃ B_, B_ = subA A_16 ((0 : Int)).toNat c_17 := ⟨_, rfl⟩
    obtain ⟨n_30, e_33⟩ : ∃ n_ : Nat, n_ = (prt (prt l0 (0 : Int) (40 : Int)) (0 : Int) (32 : Int)).length := ⟨_, rfl⟩
    have h_36 : n_30 ≤ c_17 := by rw [e_33, prt_length p_25 q_26 r_27]; omega
    refine WL.val Wanted.none (Runs.slice_h Tryd.underlying29 cells5 rfl rfl q_26 h_35 e_31 (N := n_30) (by rw [e_33, prt_length p_25 q_26 r_27]; rfl)) ?_
    obtain ⟨h_37, H⟩ := H
    refine WL.val Wanted.none (Runs.toArray Tryd.underlying23 rfl (by rw [e_33]; exact h_37)) ?_
    refine WL.val Wanted.none (Runs.load_src arr23 (by decide) rfl (((hs0.ext st_7).sub_iv p_13 q_14 h_23 e_19).sub_iv p_25 q_26 h_35 e_31) h_37) ?_
    refine WL.val Wanted.none (Runs.indexAddr_row (p := 0) Tryd.underlying28 siz26 rfl rfl (by decide) (by decide) rfl) ?_
    refine WL.val Wanted.none (Runs.fieldAddr (off := 0) (p := 0) fld26_0 rfl rfl rfl) ?_
    refine WL.store_mid (i := 0) (pre := (([] : List Value))) (mid := (iv .u8 (List.replicate 32 (0 : Int)))) (post := (([.int .u64 0] : List Value) ++ (iv .u8 (List.replicate 32 (0 : Int)) ++ (([.int .u64 0] : List Value) ++ (iv .u8 (List.replicate 32 (0 : Int)) ++ (([.int .u64 0] : List Value) ++ (iv .u8 (List.replicate 32 (0 : Int)) ++ ([.int .u64 0] : List Value)))))))) (ms := (iv .u8 (List.take 32 (prt (prt l0 (0 : Int) (40 : Int)) (0 : Int) (32 : Int))))) st_7 rfl row23 (by first | rfl | simp only [List.append_assoc, List.append_nil, List.nil_append, List.cons_append]) (by first | rfl | simp only [List.length_append, List.length_cons, List.length_nil, iv_length]) rfl rfl (by first | rfl | simp only [List.length_append, List.length_cons, List.length_nil, iv_length, (show (List.take 32 (prt (prt l0 (0 : Int) (40 : Int)) (0 : Int) (32 : Int))).length = 32 from (List.length_take_of_le h_37))]) (by first | rfl | simp only [List.length_append, List.length_cons, List.length_nil, iv_length, List.length_replicate]) (one_iv _ _) ?_
    intro w_38 st_39
    replace st_39 : St w w_38 [.cells B_5 (iv .u8 (List.take 32 (prt (prt l0 (0 : Int) (40 : Int)) (0 : Int) (32 : Int))) ++ (([.int .u64 0] : List Value) ++ (iv .u8 (List.replicate 32 (0 : Int)) ++ (([.int .u64 0] : List Value) ++ (iv .u8 (List.replicate 32 (0 : Int)) ++ (([.int .u64 0] : List Value) ++ (iv .u8 (List.replicate 32 (0 : Int)) ++ ([.int .u64 0] : List Value)))))))) 28, .cells B_1 (iv .u8 (List.replicate 32 (0 : Int)) ++ (([.int .u64 0] : List Value) ++ (iv .u8 (List.replicate 32 (0 : Int)) ++ (([.int .u64 0] : List Value) ++ (iv .u8 (List.replicate 32 (0 : Int)) ++ (([.int .u64 0] : List Value) ++ (iv .u8 (List.replicate 32 (0 : Int)) ++ ([.int .u64 0] : List Value)))))))) 28] := by have e_ : (iv .u8 (List.take 32 (prt (prt l0 (0 : Int) (40 : Int)) (0 : Int) (32 : Int))) ++ (([.int .u64 0] : List Value) ++ (iv .u8 (List.replicate 32 (0 : Int)) ++ (([.int .u64 0] : List Value) ++ (iv .u8 (List.replicate 32 (0 : Int)) ++ (([.int .u64 0] : List Value) ++ (iv .u8 (List.replicate 32 (0 : Int)) ++ ([.int .u64 0] : List Value)))))))) = (([] : List Value)) ++ ((iv .u8 (List.take 32 (prt (prt l0 (0 : Int) (40 : Int)) (0 : Int) (32 : Int)))) ++ (([.int .u64 0] : List Value) ++ (iv .u8 (List.replicate 32 (0 : Int)) ++ (([.int .u64 0] : List Value) ++ (iv .u8 (List.replicate 32 (0 : Int)) ++ (([.int .u64 0] : List Value) ++ (iv .u8 (List.replicate 32 (0 : Int)) ++ ([.int .u64 0] : List Value)))))))) := (by first | rfl | simp only [List.append_assoc, List.append_nil, List.nil_append, List.cons_append]); have h_ : St w w_38 [.cells B_5 ((([] : List Value)) ++ ((iv .u8 (List.take 32 (prt (prt l0 (0 : Int) (40 : Int)) (0 : Int) (32 : Int)))) ++ (([.int .u64 0] : List Value) ++ (iv .u8 (List.replicate 32 (0 : Int)) ++ (([.int .u64 0] : List Value) ++ (iv .u8 (List.replicate 32 (0 : Int)) ++ (([.int .u64 0] : List Value) ++ (iv .u8 (List.replicate 32 (0 : Int)) ++ ([.int .u64 0] : List Value))))))))) 28, .cells B_1 (iv .u8 (List.replicate 32 (0 : Int)) ++ (([.int .u64 0] : List Value) ++ (iv .u8 (List.replicate 32 (0 : Int)) ++ (([.int .u64 0] : List Value) ++ (iv .u8 (List.replicate 32 (0 : Int)) ++ (([.int .u64 0] : List Value) ++ (iv .u8 (List.replicate 32 (0 : Int)) ++ ([.int .u64 0] : List Value)))))))) 28] := st_39; rw [← e_] at h_; exact h_
    refine WL.nil ?_
    refine QW.then_n ?_
    refine CW.region ?_
    refine WL.val Wanted.none (Runs.move rfl) ?_
    refine WL.val Wanted.none (Runs.move rfl) ?_
    obtain ⟨r_44, r_45, hr_40, H⟩ := H
    refine WL.call Wanted.none ent23 rfl (word_Get.calls w_38 (prt l0 (0 : Int) (40 : Int)) 32 8 A_16 n_18 c_17 ((hs0.ext st_39).sub_iv p_13 q_14 h_23 e_19) (e_21) (h_24) r_44 r_45 hr_40) ?_
    rintro _ w_41 ⟨rfl, sc_43⟩
    have st_42 : St w w_41 [.cells B_5 (iv .u8 (List.take 32 (prt (prt l0 (0 : Int) (40 : Int)) (0 : Int) (32 : Int))) ++ (([.int .u64 0] : List Value) ++ (iv .u8 (List.replicate 32 (0 : Int)) ++ (([.int .u64 0] : List Value) ++ (iv .u8 (List.replicate 32 (0 : Int)) ++ (([.int .u64 0] : List Value) ++ (iv .u8 (List.replicate 32 (0 : Int)) ++ ([.int .u64 0] : List Value)))))))) 28, .cells B_1 (iv .u8 (List.replicate 32 (0 : Int)) ++ (([.int .u64 0] : List Value) ++ (iv .u8 (List.replicate 32 (0 : Int)) ++ (([.int .u64 0] : List Value) ++ (iv .u8 (List.replicate 32 (0 : Int)) ++ (([.int .u64 0] : List Value) ++ (iv .u8 (List.replicate 32 (0 : Int)) ++ ([.int .u64 0] : List Value)))))))) 28] := st_39.call sc_43
    refine ⟨_, rfl, ?_⟩
    refine WL.val Wanted.none (Runs.move rfl) ?_
    refine WL.val Wanted.none (Runs.extract rfl rfl) ?_
    refine WL.val Wanted.none (Runs.extract rfl rfl) ?_
    refine WL.val Wanted.none (Runs.indexAddr_row (p := 0) Tryd.underlying28 siz26 rfl rfl (by decide) (by decide) rfl) ?_
    refine WL.val Wanted.none (Runs.fieldAddr (off := 32) (p := 32) fld26_1 rfl rfl rfl) ?_
    refine WL.store_one (i := 0) (u0 := .int .u64 0) (pre := (iv .u8 (List.take 32 (prt (prt l0 (0 : Int) (40 : Int)) (0 : Int) (32 : Int))))) (post := (iv .u8 (List.replicate 32 (0 : Int)) ++ (([.int .u64 0] : List Value) ++ (iv .u8 (List.replicate 32 (0 : Int)) ++ (([.int .u64 0] : List Value) ++ (iv .u8 (List.replicate 32 (0 : Int)) ++ ([.int .u64 0] : List Value))))))) st_42 rfl cells24 (by first | rfl | simp only [List.append_assoc, List.append_nil, List.nil_append, List.cons_append]) (by first | rfl | simp only [List.length_append, List.length_cons, List.length_nil, iv_length, (show (List.take 32 (prt (prt l0 (0 : Int) (40 : Int)) (0 : Int) (32 : Int))).length = 32 from (List.length_take_of_le h_37))]) rfl rfl rfl ?_
    intro w_46 st_47
    replace st_47 : St w w_46 [.cells B_5 (iv .u8 (List.take 32 (prt (prt l0 (0 : Int) (40 : Int)) (0 : Int) (32 : Int))) ++ (([.int .u64 r_44] : List Value) ++ (iv .u8 (List.replicate 32 (0 : Int)) ++ (([.int .u64 0] : List Value) ++ (iv .u8 (List.replicate 32 (0 : Int)) ++ (([.int .u64 0] : List Value) ++ (iv .u8 (List.replicate 32 (0 : Int)) ++ ([.int .u64 0] : List Value)))))))) 28, .cells B_1 (iv .u8 (List.replicate 32 (0 : Int)) ++ (([.int .u64 0] : List Value) ++ (iv .u8 (List.replicate 32 (0 : Int)) ++ (([.int .u64 0] : List Value) ++ (iv .u8 (List.replicate 32 (0 : Int)) ++ (([.int .u64 0] : List Value) ++ (iv .u8 (List.replicate 32 (0 : Int)) ++ ([.int .u64 0] : List Value)))))))) 28] := by have e_ : (iv .u8 (List.take 32 (prt (prt l0 (0 : Int) (40 : Int)) (0 : Int) (32 : Int))) ++ (([.int .u64 r_44] : List Value) ++ (iv .u8 (List.replicate 32 (0 : Int)) ++ (([.int .u64 0] : List Value) ++ (iv .u8 (List.replicate 32 (0 : Int)) ++ (([.int .u64 0] : List Value) ++ (iv .u8 (List.replicate 32 (0 : Int)) ++ ([.int .u64 0] : List Value)))))))) = (iv .u8 (List.take 32 (prt (prt l0 (0 : Int) (40 : Int)) (0 : Int) (32 : Int)))) ++ ((([.int .u64 r_44] : List Value)) ++ (iv .u8 (List.replicate 32 (0 : Int)) ++ (([.int .u64 0] : List Value) ++ (iv .u8 (List.replicate 32 (0 : Int)) ++ (([.int .u64 0] : List Value) ++ (iv .u8 (List.replicate 32 (0 : Int)) ++ ([.int .u64 0] : List Value))))))) := (by first | rfl | simp only [List.append_assoc, List.append_nil, List.nil_append, List.cons_append]); have h_ : St w w_46 [.cells B_5 ((iv .u8 (List.take 32 (prt (prt l0 (0 : Int) (40 : Int)) (0 : Int) (32 : Int)))) ++ ((([.int .u64 r_44] : List Value)) ++ (iv .u8 (List.replicate 32 (0 : Int)) ++ (([.int .u64 0] : List Value) ++ (iv .u8 (List.replicate 32 (0 : Int)) ++ (([.int .u64 0] : List Value) ++ (iv .u8 (List.replicate 32 (0 : Int)) ++ ([.int .u64 0] : List Value)))))))) 28, .cells B_1 (iv .u8 (List.replicate 32 (0 : Int)) ++ (([.int .u64 0] : List Value) ++ (iv .u8 (List.replicate 32 (0 : Int)) ++ (([.int .u64 0] : List Value) ++ (iv .u8 (List.replicate 32 (0 : Int)) ++ (([.int .u64 0] : List Value) ++ (iv .u8 (List.replicate 32 (0 : Int)) ++ ([.int .u64 0] : List Value)))))))) 28] := st_47; rw [← e_] at h_; exact h_
    refine WL.nil ?_
    refine QW.blk_n ?_
    refine QW.then_n ?_
    refine CW.region ?_
    refine WL.val Wanted.none (Runs.add (z := 1) rfl rfl (by decide)) ?_
    refine WL.val Wanted.none (Runs.move rfl) ?_
    refine WL.nil ?_
    refine QW.round ?_
    refine CW.seq ?_
    refine CW.region ?_
    refine WL.val Wanted.none (Runs.lss (b := true) rfl rfl (by decide)) ?_
    refine WL.nil ?_
    refine QW.then_n ?_
    refine CW.seq ?_
    refine CW.ct rfl rfl ?_
    refine CW.skip ?_
    refine QW.then_n ?_
    refine CW.seq ?_
    refine CW.block ?_
    refine CW.seq ?_
    refine CW.region ?_
    refine WL.val Wanted.none (Runs.move rfl) ?_
    refine WL.val Wanted.none (Runs.assign rfl) ?_
    refine WL.nil ?_
    refine QW.then_n ?_
    refine CW.seq ?_
    refine CW.region ?_
    refine WL.val Wanted.none (Runs.move rfl) ?_
    refine WL.val Wanted.none (Runs.move rfl) ?_
    refine WL.val Wanted.none (Runs.mul (z := 40) rfl rfl (by decide)) ?_
    refine WL.val Wanted.none (Runs.move rfl) ?_
    refine WL.val Wanted.none (Runs.add (z := 2) rfl rfl (by decide)) ?_
    refine WL.val Wanted.none (Runs.mul (z := 80) rfl rfl (by decide)) ?_
    obtain ⟨⟨p_48, q_49, r_50⟩, H⟩ := H
    have h_57 : n0 ≤ c0 := hc0
    have h_58 : (80 : Int) ≤ (c0 : Int) := by have := hn0; omega
    obtain ⟨A_51, e_54⟩ : ∃ B_, B_ = subA A0 ((40 : Int)).toNat c0 := ⟨_, rfl⟩
    obtain ⟨n_53, e_56⟩ : ∃ n_ : Nat, n_ = (prt l0 (40 : Int) (80 : Int)).length := ⟨_, rfl⟩
    obtain ⟨c_52, e_55⟩ : ∃ c_ : Nat, c_ = c0 - ((40 : Int)).toNat := ⟨_, rfl⟩
    have h_59 : n_53 ≤ c_52 := by rw [e_56, prt_length p_48 q_49 r_50]; rw [e_55]; omega
    refine WL.val Wanted.none (Runs.slice_lh Tryd.underlying29 cells5 rfl rfl rfl p_48 q_49 h_58 e_54 (N := n_53) (by rw [e_56, prt_length p_48 q_49 r_50]) e_55) ?_
    refine WL.val Wanted.none (Runs.assign rfl) ?_
    refine WL.nil ?_
    refine QW.then_n ?_
    refine CW.seq ?_
    refine CW.region ?_
    refine WL.val Wanted.none (Runs.move rfl) ?_
    refine WL.val Wanted.none (Runs.move rfl) ?_
    obtain ⟨⟨p_60, q_61, r_62⟩, H⟩ := H
    have h_69 : n_53 ≤ c_52 := h_59
    have h_70 : (32 : Int) ≤ (c_52 : Int) := by have := e_56; omega
    obtain ⟨A_63, e_66⟩ : ∃ B_, B_ = subA A_51 ((0 : Int)).toNat c_52 := ⟨_, rfl⟩
    obtain ⟨n_65, e_68⟩ : ∃ n_ : Nat, n_ = (prt (prt l0 (40 : Int) (80 : Int)) (0 : Int) (32 : Int)).length := ⟨_, rfl⟩
    have h_71 : n_65 ≤ c_52 := by rw [e_68, prt_length p_60 q_61 r_62]; omega
    refine WL.val Wanted.none (Runs.slice_h Tryd.underlying29 cells5 rfl rfl q_61 h_70 e_66 (N := n_65) (by rw [e_68, prt_length p_60 q_61 r_62]; rfl)) ?_
    obtain ⟨h_72, H⟩ := H
    refine WL.val Wanted.none (Runs.toArray Tryd.underlying23 rfl (by rw [e_68]; exact h_72)) ?_
    refine WL.val Wanted.none (Runs.load_src arr23 (by decide) rfl (((hs0.ext st_47).sub_iv p_48 q_49 h_58 e_54).sub_iv p_60 q_61 h_70 e_66) h_72) ?_
    refine WL.val Wanted.none (Runs.indexAddr_row (p := 33) Tryd.underlying28 siz26 rfl rfl (by decide) (by decide) rfl) ?_
    refine WL.val Wanted.none (Runs.fieldAddr (off := 0) (p := 33) fld26_0 rfl rfl rfl) ?_
    refine WL.store_mid (i := 0) (pre := (iv .u8 (List.take 32 (prt (prt l0 (0 : Int) (40 : Int)) (0 : Int) (32 : Int))) ++ ([.int .u64 r_44] : List Value))) (mid := (iv .u8 (List.replicate 32 (0 : Int)))) (post := (([.int .u64 0] : List Value) ++ (iv .u8 (List.replicate 32 (0 : Int)) ++ (([.int .u64 0] : List Value) ++ (iv .u8 (List.replicate 32 (0 : Int)) ++ ([.int .u64 0] : List Value)))))) (ms := (iv .u8 (List.take 32 (prt (prt l0 (40 : Int) (80 : Int)) (0 : Int) (32 : Int))))) st_47 rfl row23 (by first | rfl | simp only [List.append_assoc, List.append_nil, List.nil_append, List.cons_append]) (by first | rfl | simp only [List.length_append, List.length_cons, List.length_nil, iv_length, (show (List.take 32 (prt (prt l0 (0 : Int) (40 : Int)) (0 : Int) (32 : Int))).length = 32 from (List.length_take_of_le h_37))]) rfl rfl (by first | rfl | simp only [List.length_append, List.length_cons, List.length_nil, iv_length, (show (List.take 32 (prt (prt l0 (40 : Int) (80 : Int)) (0 : Int) (32 : Int))).length = 32 from (List.length_take_of_le h_72))]) (by first | rfl | simp only [List.length_append, List.length_cons, List.length_nil, iv_length, List.length_replicate]) (one_iv _ _) ?_
    intro w_73 st_74
    replace st_74 : St w w_73 [.cells B_5 (iv .u8 (List.take 32 (prt (prt l0 (0 : Int) (40 : Int)) (0 : Int) (32 : Int))) ++ (([.int .u64 r_44] : List Value) ++ (iv .u8 (List.take 32 (prt (prt l0 (40 : Int) (80 : Int)) (0 : Int) (32 : Int))) ++ (([.int .u64 0] : List Value) ++ (iv .u8 (List.replicate 32 (0 : Int)) ++ (([.int .u64 0] : List Value) ++ (iv .u8 (List.replicate 32 (0 : Int)) ++ ([.int .u64 0] : List Value)))))))) 28, .cells B_1 (iv .u8 (List.replicate 32 (0 : Int)) ++ (([.int .u64 0] : List Value) ++ (iv .u8 (List.replicate 32 (0 : Int)) ++ (([.int .u64 0] : List Value) ++ (iv .u8 (List.replicate 32 (0 : Int)) ++ (([.int .u64 0] : List Value) ++ (iv .u8 (List.replicate 32 (0 : Int)) ++ ([.int .u64 0] : List Value)))))))) 28] := by have e_ : (iv .u8 (List.take 32 (prt (prt l0 (0 : Int) (40 : Int)) (0 : Int) (32 : Int))) ++ (([.int .u64 r_44] : List Value) ++ (iv .u8 (List.take 32 (prt (prt l0 (40 : Int) (80 : Int)) (0 : Int) (32 : Int))) ++ (([.int .u64 0] : List Value) ++ (iv .u8 (List.replicate 32 (0 : Int)) ++ (([.int .u64 0] : List Value) ++ (iv .u8 (List.replicate 32 (0 : Int)) ++ ([.int .u64 0] : List Value)))))))) = (iv .u8 (List.take 32 (prt (prt l0 (0 : Int) (40 : Int)) (0 : Int) (32 : Int))) ++ ([.int .u64 r_44] : List Value)) ++ ((iv .u8 (List.take 32 (prt (prt l0 (40 : Int) (80 : Int)) (0 : Int) (32 : Int)))) ++ (([.int .u64 0] : List Value) ++ (iv .u8 (List.replicate 32 (0 : Int)) ++ (([.int .u64 0] : List Value) ++ (iv .u8 (List.replicate 32 (0 : Int)) ++ ([.int .u64 0] : List Value)))))) := (by first | rfl | simp only [List.append_assoc, List.append_nil, List.nil_append, List.cons_append]); have h_ : St w w_73 [.cells B_5 ((iv .u8 (List.take 32 (prt (prt l0 (0 : Int) (40 : Int)) (0 : Int) (32 : Int))) ++ ([.int .u64 r_44] : List Value)) ++ ((iv .u8 (List.take 32 (prt (prt l0 (40 : Int) (80 : Int)) (0 : Int) (32 : Int)))) ++ (([.int .u64 0] : List Value) ++ (iv .u8 (List.replicate 32 (0 : Int)) ++ (([.int .u64 0] : List Value) ++ (iv .u8 (List.replicate 32 (0 : Int)) ++ ([.int .u64 0] : List Value))))))) 28, .cells B_1 (iv .u8 (List.replicate 32 (0 : Int)) ++ (([.int .u64 0] : List Value) ++ (iv .u8 (List.replicate 32 (0 : Int)) ++ (([.int .u64 0] : List Value) ++ (iv .u8 (List.replicate 32 (0 : Int)) ++ (([.int .u64 0] : List Value) ++ (iv .u8 (List.replicate 32 (0 : Int)) ++ ([.int .u64 0] : List Value)))))))) 28] := st_74; rw [← e_] at h_; exact h_
    refine WL.nil ?_
    refine QW.then_n ?_
    refine CW.region ?_
    refine WL.val Wanted.none (Runs.move rfl) ?_
    refine WL.val Wanted.none (Runs.move rfl) ?_
    obtain ⟨r_79, r_80, hr_75, H⟩ := H
    refine WL.call Wanted.none ent23 rfl (word_Get.calls w_73 (prt l0 (40 : Int) (80 : Int)) 32 8 A_51 n_53 c_52 ((hs0.ext st_74).sub_iv p_48 q_49 h_58 e_54) (e_56) (h_59) r_79 r_80 hr_75) ?_
    rintro _ w_76 ⟨rfl, sc_78⟩
    have st_77 : St w w_76 [.cells B_5 (iv .u8 (List.take 32 (prt (prt l0 (0 : Int) (40 : Int)) (0 : Int) (32 : Int))) ++ (([.int .u64 r_44] : List Value) ++ (iv .u8 (List.take 32 (prt (prt l0 (40 : Int) (80 : Int)) (0 : Int) (32 : Int))) ++ (([.int .u64 0] : List Value) ++ (iv .u8 (List.replicate 32 (0 : Int)) ++ (([.int .u64 0] : List Value) ++ (iv .u8 (List.replicate 32 (0 : Int)) ++ ([.int .u64 0] : List Value)))))))) 28, .cells B_1 (iv .u8 (List.replicate 32 (0 : Int)) ++ (([.int .u64 0] : List Value) ++ (iv .u8 (List.replicate 32 (0 : Int)) ++ (([.int .u64 0] : List Value) ++ (iv .u8 (List.replicate 32 (0 : Int)) ++ (([.int .u64 0] : List Value) ++ (iv .u8 (List.replicate 32 (0 : Int)) ++ ([.int .u64 0] : List Value)))))))) 28] := st_74.call sc_78
    refine ⟨_, rfl, ?_⟩
    refine WL.val Wanted.none (Runs.move rfl) ?_
    refine WL.val Wanted.none (Runs.extract rfl rfl) ?_
    refine WL.val Wanted.none (Runs.extract rfl rfl) ?_
    refine WL.val Wanted.none (Runs.indexAddr_row (p := 33) Tryd.underlying28 siz26 rfl rfl (by decide) (by decide) rfl) ?_
    refine WL.val Wanted.none (Runs.fieldAddr (off := 32) (p := 65) fld26_1 rfl rfl rfl) ?_
    refine WL.store_one (i := 0) (u0 := .int .u64 0) (pre := (iv .u8 (List.take 32 (prt (prt l0 (0 : Int) (40 : Int)) (0 : Int) (32 : Int))) ++ (([.int .u64 r_44] : List Value) ++ iv .u8 (List.take 32 (prt (prt l0 (40 : Int) (80 : Int)) (0 : Int) (32 : Int)))))) (post := (iv .u8 (List.replicate 32 (0 : Int)) ++ (([.int .u64 0] : List Value) ++ (iv .u8 (List.replicate 32 (0 : Int)) ++ ([.int .u64 0] : List Value))))) st_77 rfl cells24 (by first | rfl | simp only [List.append_assoc, List.append_nil, List.nil_append, List.cons_append]) (by first | rfl | simp only [List.length_append, List.length_cons, List.length_nil, iv_length, (show (List.take 32 (prt (prt l0 (0 : Int) (40 : Int)) (0 : Int) (32 : Int))).length = 32 from (List.length_take_of_le h_37)), (show (List.take 32 (prt (prt l0 (40 : Int) (80 : Int)) (0 : Int) (32 : Int))).length = 32 from (List.length_take_of_le h_72))]) rfl rfl rfl ?_
    intro w_81 st_82
    replace st_82 : St w w_81 [.cells B_5 (iv .u8 (List.take 32 (prt (prt l0 (0 : Int) (40 : Int)) (0 : Int) (32 : Int))) ++ (([.int .u64 r_44] : List Value) ++ (iv .u8 (List.take 32 (prt (prt l0 (40 : Int) (80 : Int)) (0 : Int) (32 : Int))) ++ (([.int .u64 r_79] : List Value) ++ (iv .u8 (List.replicate 32 (0 : Int)) ++ (([.int .u64 0] : List Value) ++ (iv .u8 (List.replicate 32 (0 : Int)) ++ ([.int .u64 0] : List Value)))))))) 28, .cells B_1 (iv .u8 (List.replicate 32 (0 : Int)) ++ (([.int .u64 0] : List Value) ++ (iv .u8 (List.replicate 32 (0 : Int)) ++ (([.int .u64 0] : List Value) ++ (iv .u8 (List.replicate 32 (0 : Int)) ++ (([.int .u64 0] : List Value) ++ (iv .u8 (List.replicate 32 (0 : Int)) ++ ([.int .u64 0] : List Value)))))))) 28] := by have e_ : (iv .u8 (List.take 32 (prt (prt l0 (0 : Int) (40 : Int)) (0 : Int) (32 : Int))) ++ (([.int .u64 r_44] : List Value) ++ (iv .u8 (List.take 32 (prt (prt l0 (40 : Int) (80 : Int)) (0 : Int) (32 : Int))) ++ (([.int .u64 r_79] : List Value) ++ (iv .u8 (List.replicate 32 (0 : Int)) ++ (([.int .u64 0] : List Value) ++ (iv .u8 (List.replicate 32 (0 : Int)) ++ ([.int .u64 0] : List Value)))))))) = (iv .u8 (List.take 32 (prt (prt l0 (0 : Int) (40 : Int)) (0 : Int) (32 : Int))) ++ (([.int .u64 r_44] : List Value) ++ iv .u8 (List.take 32 (prt (prt l0 (40 : Int) (80 : Int)) (0 : Int) (32 : Int))))) ++ ((([.int .u64 r_79] : List Value)) ++ (iv .u8 (List.replicate 32 (0 : Int)) ++ (([.int .u64 0] : List Value) ++ (iv .u8 (List.replicate 32 (0 : Int)) ++ ([.int .u64 0] : List Value))))) := (by first | rfl | simp only [List.append_assoc, List.append_nil, List.nil_append, List.cons_append]); have h_ : St w w_81 [.cells B_5 ((iv .u8 (List.take 32 (prt (prt l0 (0 : Int) (40 : Int)) (0 : Int) (32 : Int))) ++ (([.int .u64 r_44] : List Value) ++ iv .u8 (List.take 32 (prt (prt l0 (40 : Int) (80 : Int)) (0 : Int) (32 : Int))))) ++ ((([.int .u64 r_79] : List Value)) ++ (iv .u8 (List.replicate 32 (0 : Int)) ++ (([.int .u64 0] : List Value) ++ (iv .u8 (List.replicate 32 (0 : Int)) ++ ([.int .u64 0] : List Value)))))) 28, .cells B_1 (iv .u8 (List.replicate 32 (0 : Int)) ++ (([.int .u64 0] : List Value) ++ (iv .u8 (List.replicate 32 (0 : Int)) ++ (([.int .u64 0] : List Value) ++ (iv .u8 (List.replicate 32 (0 : Int)) ++ (([.int .u64 0] : List Value) ++ (iv .u8 (List.replicate 32 (0 : Int)) ++ ([.int .u64 0] : List Value)))))))) 28] := st_82; rw [← e_] at h_; exact h_
    refine WL.nil ?_
    refine QW.blk_n ?_
    refine QW.then_n ?_
    refine CW.region ?_
    refine WL.val Wanted.none (Runs.add (z := 2) rfl rfl (by decide)) ?_
    refine WL.val Wanted.none (Runs.move rfl) ?_
    refine WL.nil ?_
    refine QW.round ?_
    refine CW.seq ?_
    refine CW.region ?_
    refine WL.val Wanted.none (Runs.lss (b := true) rfl rfl (by decide)) ?_
    refine WL.nil ?_
    refine QW.then_n ?_
    refine CW.seq ?_
    refine CW.ct rfl rfl ?_
    refine CW.skip ?_
    refine QW.then_n ?_
    refine CW.seq ?_
    refine CW.block ?_
    refine CW.seq ?_
    refine CW.region ?_
    refine WL.val Wanted.none (Runs.move rfl) ?_
    refine WL.val Wanted.none (Runs.assign rfl) ?_
    refine WL.nil ?_
    refine QW.then_n ?_
    refine CW.seq ?_
    refine CW.region ?_
    refine WL.val Wanted.none (Runs.move rfl) ?_
    refine WL.val Wanted.none (Runs.move rfl) ?_
    refine WL.val Wanted.none (Runs.mul (z := 80) rfl rfl (by decide)) ?_
    refine WL.val Wanted.none (Runs.move rfl) ?_
    refine WL.val Wanted.none (Runs.add (z := 3) rfl rfl (by decide)) ?_
    refine WL.val Wanted.none (Runs.mul (z := 120) rfl rfl (by decide)) ?_
    obtain ⟨⟨p_83, q_84, r_85⟩, H⟩ := H
    have h_92 : n0 ≤ c0 := hc0
    have h_93 : (120 : Int) ≤ (c0 : Int) := by have := hn0; omega
    obtain ⟨A_86, e_89⟩ : ∃ B_, B_ = subA A0 ((80 : Int)).toNat c0 := ⟨_, rfl⟩
    obtain ⟨n_88, e_91⟩ : ∃ n_ : Nat, n_ = (prt l0 (80 : Int) (120 : Int)).length := ⟨_, rfl⟩
    obtain ⟨c_87, e_90⟩ : ∃ c_ : Nat, c_ = c0 - ((80 : Int)).toNat := ⟨_, rfl⟩
    have h_94 : n_88 ≤ c_87 := by rw [e_91, prt_length p_83 q_84 r_85]; rw [e_90]; omega
    refine WL.val Wanted.none (Runs.slice_lh Tryd.underlying29 cells5 rfl rfl rfl p_83 q_84 h_93 e_89 (N := n_88) (by rw [e_91, prt_length p_83 q_84 r_85]) e_90) ?_
    refine WL.val Wanted.none (Runs.assign rfl) ?_
    refine WL.nil ?_
    refine QW.then_n ?_
    refine CW.seq ?_
    refine CW.region ?_
    refine WL.val Wanted.none (Runs.move rfl) ?_
    refine WL.val Wanted.none (Runs.move rfl) ?_
    obtain ⟨⟨p_95, q_96, r_97⟩, H⟩ := H
    have h_104 : n_88 ≤ c_87 := h_94
    have h_105 : (32 : Int) ≤ (c_87 : Int) := by have := e_91; omega
    obtain ⟨A_98, e_101⟩ : ∃ B_, B_ = subA A_86 ((0 : Int)).toNat c_87 := ⟨_, rfl⟩
    obtain ⟨n_100, e_103⟩ : ∃ n_ : Nat, n_ = (prt (prt l0 (80 : Int) (120 : Int)) (0 : Int) (32 : Int)).length := ⟨_, rfl⟩
    have h_106 : n_100 ≤ c_87 := by rw [e_103, prt_length p_95 q_96 r_97]; omega
    refine WL.val Wanted.none (Runs.slice_h Tryd.underlying29 cells5 rfl rfl q_96 h_105 e_101 (N := n_100) (by rw [e_103, prt_length p_95 q_96 r_97]; rfl)) ?_
    obtain ⟨h_107, H⟩ := H
    refine WL.val Wanted.none (Runs.toArray Tryd.underlying23 rfl (by rw [e_103]; exact h_107)) ?_
    refine WL.val Wanted.none (Runs.load_src arr23 (by decide) rfl (((hs0.ext st_82).sub_iv p_83 q_84 h_93 e_89).sub_iv p_95 q_96 h_105 e_101) h_107) ?_
    refine WL.val Wanted.none (Runs.indexAddr_row (p := 66) Tryd.underlying28 siz26 rfl rfl (by decide) (by decide) rfl) ?_
    refine WL.val Wanted.none (Runs.fieldAddr (off := 0) (p := 66) fld26_0 rfl rfl rfl) ?_
    refine WL.store_mid (i := 0) (pre := (iv .u8 (List.take 32 (prt (prt l0 (0 : Int) (40 : Int)) (0 : Int) (32 : Int))) ++ (([.int .u64 r_44] : List Value) ++ (iv .u8 (List.take 32 (prt (prt l0 (40 : Int) (80 : Int)) (0 : Int) (32 : Int))) ++ ([.int .u64 r_79] : List Value))))) (mid := (iv .u8 (List.replicate 32 (0 : Int)))) (post := (([.int .u64 0] : List Value) ++ (iv .u8 (List.replicate 32 (0 : Int)) ++ ([.int .u64 0] : List Value)))) (ms := (iv .u8 (List.take 32 (prt (prt l0 (80 : Int) (120 : Int)) (0 : Int) (32 : Int))))) st_82 rfl row23 (by first | rfl | simp only [List.append_assoc, List.append_nil, List.nil_append, List.cons_append]) (by first | rfl | simp only [List.length_append, List.length_cons, List.length_nil, iv_length, (show (List.take 32 (prt (prt l0 (0 : Int) (40 : Int)) (0 : Int) (32 : Int))).length = 32 from (List.length_take_of_le h_37)), (show (List.take 32 (prt (prt l0 (40 : Int) (80 : Int)) (0 : Int) (32 : Int))).length = 32 from (List.length_take_of_le h_72))]) rfl rfl (by first | rfl | simp only [List.length_append, List.length_cons, List.length_nil, iv_length, (show (List.take 32 (prt (prt l0 (80 : Int) (120 : Int)) (0 : Int) (32 : Int))).length = 32 from (List.length_take_of_le h_107))]) (by first | rfl | simp only [List.length_append, List.length_cons, List.length_nil, iv_length, List.length_replicate]) (one_iv _ _) ?_
    intro w_108 st_109
    replace st_109 : St w w_108 [.cells B_5 (iv .u8 (List.take 32 (prt (prt l0 (0 : Int) (40 : Int)) (0 : Int) (32 : Int))) ++ (([.int .u64 r_44] : List Value) ++ (iv .u8 (List.take 32 (prt (prt l0 (40 : Int) (80 : Int)) (0 : Int) (32 : Int))) ++ (([.int .u64 r_79] : List Value) ++ (iv .u8 (List.take 32 (prt (prt l0 (80 : Int) (120 : Int)) (0 : Int) (32 : Int))) ++ (([.int .u64 0] : List Value) ++ (iv .u8 (List.replicate 32 (0 : Int)) ++ ([.int .u64 0] : List Value)))))))) 28, .cells B_1 (iv .u8 (List.replicate 32 (0 : Int)) ++ (([.int .u64 0] : List Value) ++ (iv .u8 (List.replicate 32 (0 : Int)) ++ (([.int .u64 0] : List Value) ++ (iv .u8 (List.replicate 32 (0 : Int)) ++ (([.int .u64 0] : List Value) ++ (iv .u8 (List.replicate 32 (0 : Int)) ++ ([.int .u64 0] : List Value)))))))) 28] := by have e_ : (iv .u8 (List.take 32 (prt (prt l0 (0 : Int) (40 : Int)) (0 : Int) (32 : Int))) ++ (([.int .u64 r_44] : List Value) ++ (iv .u8 (List.take 32 (prt (prt l0 (40 : Int) (80 : Int)) (0 : Int) (32 : Int))) ++ (([.int .u64 r_79] : List Value) ++ (iv .u8 (List.take 32 (prt (prt l0 (80 : Int) (120 : Int)) (0 : Int) (32 : Int))) ++ (([.int .u64 0] : List Value) ++ (iv .u8 (List.replicate 32 (0 : Int)) ++ ([.int .u64 0] : List Value)))))))) = (iv .u8 (List.take 32 (prt (prt l0 (0 : Int) (40 : Int)) (0 : Int) (32 : Int))) ++ (([.int .u64 r_44] : List Value) ++ (iv .u8 (List.take 32 (prt (prt l0 (40 : Int) (80 : Int)) (0 : Int) (32 : Int))) ++ ([.int .u64 r_79] : List Value)))) ++ ((iv .u8 (List.take 32 (prt (prt l0 (80 : Int) (120 : Int)) (0 : Int) (32 : Int)))) ++ (([.int .u64 0] : List Value) ++ (iv .u8 (List.replicate 32 (0 : Int)) ++ ([.int .u64 0] : List Value)))) := (by first | rfl | simp only [List.append_assoc, List.append_nil, List.nil_append, List.cons_append]); have h_ : St w w_108 [.cells B_5 ((iv .u8 (List.take 32 (prt (prt l0 (0 : Int) (40 : Int)) (0 : Int) (32 : Int))) ++ (([.int .u64 r_44] : List Value) ++ (iv .u8 (List.take 32 (prt (prt l0 (40 : Int) (80 : Int)) (0 : Int) (32 : Int))) ++ ([.int .u64 r_79] : List Value)))) ++ ((iv .u8 (List.take 32 (prt (prt l0 (80 : Int) (120 : Int)) (0 : Int) (32 : Int)))) ++ (([.int .u64 0] : List Value) ++ (iv .u8 (List.replicate 32 (0 : Int)) ++ ([.int .u64 0] : List Value))))) 28, .cells B_1 (iv .u8 (List.replicate 32 (0 : Int)) ++ (([.int .u64 0] : List Value) ++ (iv .u8 (List.replicate 32 (0 : Int)) ++ (([.int .u64 0] : List Value) ++ (iv .u8 (List.replicate 32 (0 : Int)) ++ (([.int .u64 0] : List Value) ++ (iv .u8 (List.replicate 32 (0 : Int)) ++ ([.int .u64 0] : List Value)))))))) 28] := st_109; rw [← e_] at h_; exact h_
    refine WL.nil ?_
    refine QW.then_n ?_
    refine CW.region ?_
    refine WL.val Wanted.none (Runs.move rfl) ?_
    refine WL.val Wanted.none (Runs.move rfl) ?_
    obtain ⟨r_114, r_115, hr_110, H⟩ := H
    refine WL.call Wanted.none ent23 rfl (word_Get.calls w_108 (prt l0 (80 : Int) (120 : Int)) 32 8 A_86 n_88 c_87 ((hs0.ext st_109).sub_iv p_83 q_84 h_93 e_89) (e_91) (h_94) r_114 r_115 hr_110) ?_
    rintro _ w_111 ⟨rfl, sc_113⟩
    have st_112 : St w w_111 [.cells B_5 (iv .u8 (List.take 32 (prt (prt l0 (0 : Int) (40 : Int)) (0 : Int) (32 : Int))) ++ (([.int .u64 r_44] : List Value) ++ (iv .u8 (List.take 32 (prt (prt l0 (40 : Int) (80 : Int)) (0 : Int) (32 : Int))) ++ (([.int .u64 r_79] : List Value) ++ (iv .u8 (List.take 32 (prt (prt l0 (80 : Int) (120 : Int)) (0 : Int) (32 : Int))) ++ (([.int .u64 0] : List Value) ++ (iv .u8 (List.replicate 32 (0 : Int)) ++ ([.int .u64 0] : List Value)))))))) 28, .cells B_1 (iv .u8 (List.replicate 32 (0 : Int)) ++ (([.int .u64 0] : List Value) ++ (iv .u8 (List.replicate 32 (0 : Int)) ++ (([.int .u64 0] : List Value) ++ (iv .u8 (List.replicate 32 (0 : Int)) ++ (([.int .u64 0] : List Value) ++ (iv .u8 (List.replicate 32 (0 : Int)) ++ ([.int .u64 0] : List Value)))))))) 28] := st_109.call sc_113
    refine ⟨_, rfl, ?_⟩
    refine WL.val Wanted.none (Runs.move rfl) ?_
    refine WL.val Wanted.none (Runs.extract rfl rfl) ?_
    refine WL.val Wanted.none (Runs.extract rfl rfl) ?_
    refine WL.val Wanted.none (Runs.indexAddr_row (p := 66) Tryd.underlying28 siz26 rfl rfl (by decide) (by decide) rfl) ?_
    refine WL.val Wanted.none (Runs.fieldAddr (off := 32) (p := 98) fld26_1 rfl rfl rfl) ?_
    refine WL.store_one (i := 0) (u0 := .int .u64 0) (pre := (iv .u8 (List.take 32 (prt (prt l0 (0 : Int) (40 : Int)) (0 : Int) (32 : Int))) ++ (([.int .u64 r_44] : List Value) ++ (iv .u8 (List.take 32 (prt (prt l0 (40 : Int) (80 : Int)) (0 : Int) (32 : Int))) ++ (([.int .u64 r_79] : List Value) ++ iv .u8 (List.take 32 (prt (prt l0 (80 : Int) (120 : Int)) (0 : Int) (32 : Int)))))))) (post := (iv .u8 (List.replicate 32 (0 : Int)) ++ ([.int .u64 0] : List Value))) st_112 rfl cells24 (by first | rfl | simp only [List.append_assoc, List.append_nil, List.nil_append, List.cons_append]) (by first | rfl | simp only [List.length_append, List.length_cons, List.length_nil, iv_length, (show (List.take 32 (prt (prt l0 (0 : Int) (40 : Int)) (0 : Int) (32 : Int))).length = 32 from (List.length_take_of_le h_37)), (show (List.take 32 (prt (prt l0 (40 : Int) (80 : Int)) (0 : Int) (32 : Int))).length = 32 from (List.length_take_of_le h_72)), (show (List.take 32 (prt (prt l0 (80 : Int) (120 : Int)) (0 : Int) (32 : Int))).length = 32 from (List.length_take_of_le h_107))]) rfl rfl rfl ?_
    intro w_116 st_117
    replace st_117 : St w w_116 [.cells B_5 (iv .u8 (List.take 32 (prt (prt l0 (0 : Int) (40 : Int)) (0 : Int) (32 : Int))) ++ (([.int .u64 r_44] : List Value) ++ (iv .u8 (List.take 32 (prt (prt l0 (40 : Int) (80 : Int)) (0 : Int) (32 : Int))) ++ (([.int .u64 r_79] : List Value) ++ (iv .u8 (List.take 32 (prt (prt l0 (80 : Int) (120 : Int)) (0 : Int) (32 : Int))) ++ (([.int .u64 r_114] : List Value) ++ (iv .u8 (List.replicate 32 (0 : Int)) ++ ([.int .u64 0] : List Value)))))))) 28, .cells B_1 (iv .u8 (List.replicate 32 (0 : Int)) ++ (([.int .u64 0] : List Value) ++ (iv .u8 (List.replicate 32 (0 : Int)) ++ (([.int .u64 0] : List Value) ++ (iv .u8 (List.replicate 32 (0 : Int)) ++ (([.int .u64 0] : List Value) ++ (iv .u8 (List.replicate 32 (0 : Int)) ++ ([.int .u64 0] : List Value)))))))) 28] := by have e_ : (iv .u8 (List.take 32 (prt (prt l0 (0 : Int) (40 : Int)) (0 : Int) (32 : Int))) ++ (([.int .u64 r_44] : List Value) ++ (iv .u8 (List.take 32 (prt (prt l0 (40 : Int) (80 : Int)) (0 : Int) (32 : Int))) ++ (([.int .u64 r_79] : List Value) ++ (iv .u8 (List.take 32 (prt (prt l0 (80 : Int) (120 : Int)) (0 : Int) (32 : Int))) ++ (([.int .u64 r_114] : List Value) ++ (iv .u8 (List.replicate 32 (0 : Int)) ++ ([.int .u64 0] : List Value)))))))) = (iv .u8 (List.take 32 (prt (prt l0 (0 : Int) (40 : Int)) (0 : Int) (32 : Int))) ++ (([.int .u64 r_44] : List Value) ++ (iv .u8 (List.take 32 (prt (prt l0 (40 : Int) (80 : Int)) (0 : Int) (32 : Int))) ++ (([.int .u64 r_79] : List Value) ++ iv .u8 (List.take 32 (prt (prt l0 (80 : Int) (120 : Int)) (0 : Int) (32 : Int))))))) ++ ((([.int .u64 r_114] : List Value)) ++ (iv .u8 (List.replicate 32 (0 : Int)) ++ ([.int .u64 0] : List Value))) := (by first | rfl | simp only [List.append_assoc, List.append_nil, List.nil_append, List.cons_append]); have h_ : St w w_116 [.cells B_5 ((iv .u8 (List.take 32 (prt (prt l0 (0 : Int) (40 : Int)) (0 : Int) (32 : Int))) ++ (([.int .u64 r_44] : List Value) ++ (iv .u8 (List.take 32 (prt (prt l0 (40 : Int) (80 : Int)) (0 : Int) (32 : Int))) ++ (([.int .u64 r_79] : List Value) ++ iv .u8 (List.take 32 (prt (prt l0 (80 : Int) (120 : Int)) (0 : Int) (32 : Int))))))) ++ ((([.int .u64 r_114] : List Value)) ++ (iv .u8 (List.replicate 32 (0 : Int)) ++ ([.int .u64 0] : List Value)))) 28, .cells B_1 (iv .u8 (List.replicate 32 (0 : Int)) ++ (([.int .u64 0] : List Value) ++ (iv .u8 (List.replicate 32 (0 : Int)) ++ (([.int .u64 0] : List Value) ++ (iv .u8 (List.replicate 32 (0 : Int)) ++ (([.int .u64 0] : List Value) ++ (iv .u8 (List.replicate 32 (0 : Int)) ++ ([.int .u64 0] : List Value)))))))) 28] := st_117; rw [← e_] at h_; exact h_
    refine WL.nil ?_
    refine QW.blk_n ?_
    refine QW.then_n ?_
    refine CW.region ?_
    refine WL.val Wanted.none (Runs.add (z := 3) rfl rfl (by decide)) ?_
    refine WL.val Wanted.none (Runs.move rfl) ?_
    refine WL.nil ?_
    refine QW.round ?_
    refine CW.seq ?_
    refine CW.region ?_
    refine WL.val Wanted.none (Runs.lss (b := true) rfl rfl (by decide)) ?_
    refine WL.nil ?_
    refine QW.then_n ?_
    refine CW.seq ?_
    refine CW.ct rfl rfl ?_
    refine CW.skip ?_
    refine QW.then_n ?_
    refine CW.seq ?_
    refine CW.block ?_
    refine CW.seq ?_
    refine CW.region ?_
    refine WL.val Wanted.none (Runs.move rfl) ?_
    refine WL.val Wanted.none (Runs.assign rfl) ?_
    refine WL.nil ?_
    refine QW.then_n ?_
    refine CW.seq ?_
    refine CW.region ?_
    refine WL.val Wanted.none (Runs.move rfl) ?_
    refine WL.val Wanted.none (Runs.move rfl) ?_
    refine WL.val Wanted.none (Runs.mul (z := 120) rfl rfl (by decide)) ?_
    refine WL.val Wanted.none (Runs.move rfl) ?_
    refine WL.val Wanted.none (Runs.add (z := 4) rfl rfl (by decide)) ?_
    refine WL.val Wanted.none (Runs.mul (z := 160) rfl rfl (by decide)) ?_
    obtain ⟨⟨p_118, q_119, r_120⟩, H⟩ := H
    have h_127 : n0 ≤ c0 := hc0
    have h_128 : (160 : Int) ≤ (c0 : Int) := by have := hn0; omega
    obtain ⟨A_121, e_124⟩ : ∃ B_, B_ = subA A0 ((120 : Int)).toNat c0 := ⟨_, rfl⟩
    obtain ⟨n_123, e_126⟩ : ∃ n_ : Nat, n_ = (prt l0 (120 : Int) (160 : Int)).length := ⟨_, rfl⟩
    obtain ⟨c_122, e_125⟩ : ∃ c_ : Nat, c_ = c0 - ((120 : Int)).toNat := ⟨_, rfl⟩
    have h_129 : n_123 ≤ c_122 := by rw [e_126, prt_length p_118 q_119 r_120]; rw [e_125]; omega
    refine WL.val Wanted.none (Runs.slice_lh Tryd.underlying29 cells5 rfl rfl rfl p_118 q_119 h_128 e_124 (N := n_123) (by rw [e_126, prt_length p_118 q_119 r_120]) e_125) ?_
    refine WL.val Wanted.none (Runs.assign rfl) ?_
    refine WL.nil ?_
    refine QW.then_n ?_
    refine CW.seq ?_
    refine CW.region ?_
    refine WL.val Wanted.none (Runs.move rfl) ?_
    refine WL.val Wanted.none (Runs.move rfl) ?_
    obtain ⟨⟨p_130, q_131, r_132⟩, H⟩ := H
    have h_139 : n_123 ≤ c_122 := h_129
    have h_140 : (32 : Int) ≤ (c_122 : Int) := by have := e_126; omega
    obtain ⟨A_133, e_136⟩ : ∃ B_, B_ = subA A_121 ((0 : Int)).toNat c_122 := ⟨_, rfl⟩
    obtain ⟨n_135, e_138⟩ : ∃ n_ : Nat, n_ = (prt (prt l0 (120 : Int) (160 : Int)) (0 : Int) (32 : Int)).length := ⟨_, rfl⟩
    have h_141 : n_135 ≤ c_122 := by rw [e_138, prt_length p_130 q_131 r_132]; omega
    refine WL.val Wanted.none (Runs.slice_h Tryd.underlying29 cells5 rfl rfl q_131 h_140 e_136 (N := n_135) (by rw [e_138, prt_length p_130 q_131 r_132]; rfl)) ?_
    obtain ⟨h_142, H⟩ := H
    refine WL.val Wanted.none (Runs.toArray Tryd.underlying23 rfl (by rw [e_138]; exact h_142)) ?_
    refine WL.val Wanted.none (Runs.load_src arr23 (by decide) rfl (((hs0.ext st_117).sub_iv p_118 q_119 h_128 e_124).sub_iv p_130 q_131 h_140 e_136) h_142) ?_
    refine WL.val Wanted.none (Runs.indexAddr_row (p := 99) Tryd.underlying28 siz26 rfl rfl (by decide) (by decide) rfl) ?_
    refine WL.val Wanted.none (Runs.fieldAddr (off := 0) (p := 99) fld26_0 rfl rfl rfl) ?_
    refine WL.store_mid (i := 0) (pre := (iv .u8 (List.take 32 (prt (prt l0 (0 : Int) (40 : Int)) (0 : Int) (32 : Int))) ++ (([.int .u64 r_44] : List Value) ++ (iv .u8 (List.take 32 (prt (prt l0 (40 : Int) (80 : Int)) (0 : Int) (32 : Int))) ++ (([.int .u64 r_79] : List Value) ++ (iv .u8 (List.take 32 (prt (prt l0 (80 : Int) (120 : Int)) (0 : Int) (32 : Int))) ++ ([.int .u64 r_114] : List Value))))))) (mid := (iv .u8 (List.replicate 32 (0 : Int)))) (post := (([.int .u64 0] : List Value))) (ms := (iv .u8 (List.take 32 (prt (prt l0 (120 : Int) (160 : Int)) (0 : Int) (32 : Int))))) st_117 rfl row23 (by first | rfl | simp only [List.append_assoc, List.append_nil, List.nil_append, List.cons_append]) (by first | rfl | simp only [List.length_append, List.length_cons, List.length_nil, iv_length, (show (List.take 32 (prt (prt l0 (0 : Int) (40 : Int)) (0 : Int) (32 : Int))).length = 32 from (List.length_take_of_le h_37)), (show (List.take 32 (prt (prt l0 (40 : Int) (80 : Int)) (0 : Int) (32 : Int))).length = 32 from (List.length_take_of_le h_72)), (show (List.take 32 (prt (prt l0 (80 : Int) (120 : Int)) (0 : Int) (32 : Int))).length = 32 from (List.length_take_of_le h_107))]) rfl rfl (by first | rfl | simp only [List.length_append, List.length_cons, List.length_nil, iv_length, (show (List.take 32 (prt (prt l0 (120 : Int) (160 : Int)) (0 : Int) (32 : Int))).length = 32 from (List.length_take_of_le h_142))]) (by first | rfl | simp only [List.length_append, List.length_cons, List.length_nil, iv_length, List.length_replicate]) (one_iv _ _) ?_
    intro w_143 st_144
    replace st_144 : St w w_143 [.cells B_5 (iv .u8 (List.take 32 (prt (prt l0 (0 : Int) (40 : Int)) (0 : Int) (32 : Int))) ++ (([.int .u64 r_44] : List Value) ++ (iv .u8 (List.take 32 (prt (prt l0 (40 : Int) (80 : Int)) (0 : Int) (32 : Int))) ++ (([.int .u64 r_79] : List Value) ++ (iv .u8 (List.take 32 (prt (prt l0 (80 : Int) (120 : Int)) (0 : Int) (32 : Int))) ++ (([.int .u64 r_114] : List Value) ++ (iv .u8 (List.take 32 (prt (prt l0 (120 : Int) (160 : Int)) (0 : Int) (32 : Int))) ++ ([.int .u64 0] : List Value)))))))) 28, .cells B_1 (iv .u8 (List.replicate 32 (0 : Int)) ++ (([.int .u64 0] : List Value) ++ (iv .u8 (List.replicate 32 (0 : Int)) ++ (([.int .u64 0] : List Value) ++ (iv .u8 (List.replicate 32 (0 : Int)) ++ (([.int .u64 0] : List Value) ++ (iv .u8 (List.replicate 32 (0 : Int)) ++ ([.int .u64 0] : List Value)))))))) 28] := by have e_ : (iv .u8 (List.take 32 (prt (prt l0 (0 : Int) (40 : Int)) (0 : Int) (32 : Int))) ++ (([.int .u64 r_44] : List Value) ++ (iv .u8 (List.take 32 (prt (prt l0 (40 : Int) (80 : Int)) (0 : Int) (32 : Int))) ++ (([.int .u64 r_79] : List Value) ++ (iv .u8 (List.take 32 (prt (prt l0 (80 : Int) (120 : Int)) (0 : Int) (32 : Int))) ++ (([.int .u64 r_114] : List Value) ++ (iv .u8 (List.take 32 (prt (prt l0 (120 : Int) (160 : Int)) (0 : Int) (32 : Int))) ++ ([.int .u64 0] : List Value)))))))) = (iv .u8 (List.take 32 (prt (prt l0 (0 : Int) (40 : Int)) (0 : Int) (32 : Int))) ++ (([.int .u64 r_44] : List Value) ++ (iv .u8 (List.take 32 (prt (prt l0 (40 : Int) (80 : Int)) (0 : Int) (32 : Int))) ++ (([.int .u64 r_79] : List Value) ++ (iv .u8 (List.take 32 (prt (prt l0 (80 : Int) (120 : Int)) (0 : Int) (32 : Int))) ++ ([.int .u64 r_114] : List Value)))))) ++ ((iv .u8 (List.take 32 (prt (prt l0 (120 : Int) (160 : Int)) (0 : Int) (32 : Int)))) ++ (([.int .u64 0] : List Value))) := (by first | rfl | simp only [List.append_assoc, List.append_nil, List.nil_append, List.cons_append]); have h_ : St w w_143 [.cells B_5 ((iv .u8 (List.take 32 (prt (prt l0 (0 : Int) (40 : Int)) (0 : Int) (32 : Int))) ++ (([.int .u64 r_44] : List Value) ++ (iv .u8 (List.take 32 (prt (prt l0 (40 : Int) (80 : Int)) (0 : Int) (32 : Int))) ++ (([.int .u64 r_79] : List Value) ++ (iv .u8 (List.take 32 (prt (prt l0 (80 : Int) (120 : Int)) (0 : Int) (32 : Int))) ++ ([.int .u64 r_114] : List Value)))))) ++ ((iv .u8 (List.take 32 (prt (prt l0 (120 : Int) (160 : Int)) (0 : Int) (32 : Int)))) ++ (([.int .u64 0] : List Value)))) 28, .cells B_1 (iv .u8 (List.replicate 32 (0 : Int)) ++ (([.int .u64 0] : List Value) ++ (iv .u8 (List.replicate 32 (0 : Int)) ++ (([.int .u64 0] : List Value) ++ (iv .u8 (List.replicate 32 (0 : Int)) ++ (([.int .u64 0] : List Value) ++ (iv .u8 (List.replicate 32 (0 : Int)) ++ ([.int .u64 0] : List Value)))))))) 28] := st_144; rw [← e_] at h_; exact h_
    refine WL.nil ?_
    refine QW.then_n ?_
    refine CW.region ?_
    refine WL.val Wanted.none (Runs.move rfl) ?_
    refine WL.val Wanted.none (Runs.move rfl) ?_
    obtain ⟨r_149, r_150, hr_145, H⟩ := H
    refine WL.call Wanted.none ent23 rfl (word_Get.calls w_143 (prt l0 (120 : Int) (160 : Int)) 32 8 A_121 n_123 c_122 ((hs0.ext st_144).sub_iv p_118 q_119 h_128 e_124) (e_126) (h_129) r_149 r_150 hr_145) ?_
    rintro _ w_146 ⟨rfl, sc_148⟩
    have st_147 : St w w_146 [.cells B_5 (iv .u8 (List.take 32 (prt (prt l0 (0 : Int) (40 : Int)) (0 : Int) (32 : Int))) ++ (([.int .u64 r_44] : List Value) ++ (iv .u8 (List.take 32 (prt (prt l0 (40 : Int) (80 : Int)) (0 : Int) (32 : Int))) ++ (([.int .u64 r_79] : List Value) ++ (iv .u8 (List.take 32 (prt (prt l0 (80 : Int) (120 : Int)) (0 : Int) (32 : Int))) ++ (([.int .u64 r_114] : List Value) ++ (iv .u8 (List.take 32 (prt (prt l0 (120 : Int) (160 : Int)) (0 : Int) (32 : Int))) ++ ([.int .u64 0] : List Value)))))))) 28, .cells B_1 (iv .u8 (List.replicate 32 (0 : Int)) ++ (([.int .u64 0] : List Value) ++ (iv .u8 (List.replicate 32 (0 : Int)) ++ (([.int .u64 0] : List Value) ++ (iv .u8 (List.replicate 32 (0 : Int)) ++ (([.int .u64 0] : List Value) ++ (iv .u8 (List.replicate 32 (0 : Int)) ++ ([.int .u64 0] : List Value)))))))) 28] := st_144.call sc_148
    refine ⟨_, rfl, ?_⟩
    refine WL.val Wanted.none (Runs.move rfl) ?_
    refine WL.val Wanted.none (Runs.extract rfl rfl) ?_
    refine WL.val Wanted.none (Runs.extract rfl rfl) ?_
    refine WL.val Wanted.none (Runs.indexAddr_row (p := 99) Tryd.underlying28 siz26 rfl rfl (by decide) (by decide) rfl) ?_
    refine WL.val Wanted.none (Runs.fieldAddr (off := 32) (p := 131) fld26_1 rfl rfl rfl) ?_
    refine WL.store_one (i := 0) (u0 := .int .u64 0) (pre := (iv .u8 (List.take 32 (prt (prt l0 (0 : Int) (40 : Int)) (0 : Int) (32 : Int))) ++ (([.int .u64 r_44] : List Value) ++ (iv .u8 (List.take 32 (prt (prt l0 (40 : Int) (80 : Int)) (0 : Int) (32 : Int))) ++ (([.int .u64 r_79] : List Value) ++ (iv .u8 (List.take 32 (prt (prt l0 (80 : Int) (120 : Int)) (0 : Int) (32 : Int))) ++ (([.int .u64 r_114] : List Value) ++ iv .u8 (List.take 32 (prt (prt l0 (120 : Int) (160 : Int)) (0 : Int) (32 : Int)))))))))) (post := (([] : List Value))) st_147 rfl cells24 (by first | rfl | simp only [List.append_assoc, List.append_nil, List.nil_append, List.cons_append]) (by first | rfl | simp only [List.length_append, List.length_cons, List.length_nil, iv_length, (show (List.take 32 (prt (prt l0 (0 : Int) (40 : Int)) (0 : Int) (32 : Int))).length = 32 from (List.length_take_of_le h_37)), (show (List.take 32 (prt (prt l0 (40 : Int) (80 : Int)) (0 : Int) (32 : Int))).length = 32 from (List.length_take_of_le h_72)), (show (List.take 32 (prt (prt l0 (80 : Int) (120 : Int)) (0 : Int) (32 : Int))).length = 32 from (List.length_take_of_le h_107)), (show (List.take 32 (prt (prt l0 (120 : Int) (160 : Int)) (0 : Int) (32 : Int))).length = 32 from (List.length_take_of_le h_142))]) rfl rfl rfl ?_
    intro w_151 st_152
    replace st_152 : St w w_151 [.cells B_5 (iv .u8 (List.take 32 (prt (prt l0 (0 : Int) (40 : Int)) (0 : Int) (32 : Int))) ++ (([.int .u64 r_44] : List Value) ++ (iv .u8 (List.take 32 (prt (prt l0 (40 : Int) (80 : Int)) (0 : Int) (32 : Int))) ++ (([.int .u64 r_79] : List Value) ++ (iv .u8 (List.take 32 (prt (prt l0 (80 : Int) (120 : Int)) (0 : Int) (32 : Int))) ++ (([.int .u64 r_114] : List Value) ++ (iv .u8 (List.take 32 (prt (prt l0 (120 : Int) (160 : Int)) (0 : Int) (32 : Int))) ++ ([.int .u64 r_149] : List Value)))))))) 28, .cells B_1 (iv .u8 (List.replicate 32 (0 : Int)) ++ (([.int .u64 0] : List Value) ++ (iv .u8 (List.replicate 32 (0 : Int)) ++ (([.int .u64 0] : List Value) ++ (iv .u8 (List.replicate 32 (0 : Int)) ++ (([.int .u64 0] : List Value) ++ (iv .u8 (List.replicate 32 (0 : Int)) ++ ([.int .u64 0] : List Value)))))))) 28] := by have e_ : (iv .u8 (List.take 32 (prt (prt l0 (0 : Int) (40 : Int)) (0 : Int) (32 : Int))) ++ (([.int .u64 r_44] : List Value) ++ (iv .u8 (List.take 32 (prt (prt l0 (40 : Int) (80 : Int)) (0 : Int) (32 : Int))) ++ (([.int .u64 r_79] : List Value) ++ (iv .u8 (List.take 32 (prt (prt l0 (80 : Int) (120 : Int)) (0 : Int) (32 : Int))) ++ (([.int .u64 r_114] : List Value) ++ (iv .u8 (List.take 32 (prt (prt l0 (120 : Int) (160 : Int)) (0 : Int) (32 : Int))) ++ ([.int .u64 r_149] : List Value)))))))) = (iv .u8 (List.take 32 (prt (prt l0 (0 : Int) (40 : Int)) (0 : Int) (32 : Int))) ++ (([.int .u64 r_44] : List Value) ++ (iv .u8 (List.take 32 (prt (prt l0 (40 : Int) (80 : Int)) (0 : Int) (32 : Int))) ++ (([.int .u64 r_79] : List Value) ++ (iv .u8 (List.take 32 (prt (prt l0 (80 : Int) (120 : Int)) (0 : Int) (32 : Int))) ++ (([.int .u64 r_114] : List Value) ++ iv .u8 (List.take 32 (prt (prt l0 (120 : Int) (160 : Int)) (0 : Int) (32 : Int))))))))) ++ ((([.int .u64 r_149] : List Value)) ++ (([] : List Value))) := (by first | rfl | simp only [List.append_assoc, List.append_nil, List.nil_append, List.cons_append]); have h_ : St w w_151 [.cells B_5 ((iv .u8 (List.take 32 (prt (prt l0 (0 : Int) (40 : Int)) (0 : Int) (32 : Int))) ++ (([.int .u64 r_44] : List Value) ++ (iv .u8 (List.take 32 (prt (prt l0 (40 : Int) (80 : Int)) (0 : Int) (32 : Int))) ++ (([.int .u64 r_79] : List Value) ++ (iv .u8 (List.take 32 (prt (prt l0 (80 : Int) (120 : Int)) (0 : Int) (32 : Int))) ++ (([.int .u64 r_114] : List Value) ++ iv .u8 (List.take 32 (prt (prt l0 (120 : Int) (160 : Int)) (0 : Int) (32 : Int))))))))) ++ ((([.int .u64 r_149] : List Value)) ++ (([] : List Value)))) 28, .cells B_1 (iv .u8 (List.replicate 32 (0 : Int)) ++ (([.int .u64 0] : List Value) ++ (iv .u8 (List.replicate 32 (0 : Int)) ++ (([.int .u64 0] : List Value) ++ (iv .u8 (List.replicate 32 (0 : Int)) ++ (([.int .u64 0] : List Value) ++ (iv .u8 (List.replicate 32 (0 : Int)) ++ ([.int .u64 0] : List Value)))))))) 28] := st_152; rw [← e_] at h_; exact h_
    refine WL.nil ?_
    refine QW.blk_n ?_
    refine QW.then_n ?_
    refine CW.region ?_
    refine WL.val Wanted.none (Runs.add (z := 4) rfl rfl (by decide)) ?_
    refine WL.val Wanted.none (Runs.move rfl) ?_
    refine WL.nil ?_
    refine QW.round ?_
    refine CW.seq ?_
    refine CW.region ?_
    refine WL.val Wanted.none (Runs.lss (b := false) rfl rfl (by decide)) ?_
    refine WL.nil ?_
    refine QW.then_n ?_
    refine CW.seq ?_
    refine CW.cf rfl rfl ?_
    refine CW.exit ?_
    refine QW.then_x ?_
    refine QW.then_x ?_
    refine QW.blk_x ?_
    refine QW.then_n ?_
    refine CW.sub [(2, .pointer (some ⟨B_1, 0, none⟩)), (3, .int .i64 0), (4, .pointer (some ⟨B_5, 0, none⟩))] ⟨rfl, rfl, rfl, trivial⟩ ?_
    refine CW.seq ?_
    refine CW.region ?_
    refine WL.val Wanted.none (Runs.load_mid row28 rfl st_152 (i := 0) rfl (part_mid (pre := (([] : List Value))) (mid := (iv .u8 (List.take 32 (prt (prt l0 (0 : Int) (40 : Int)) (0 : Int) (32 : Int))) ++ (([.int .u64 r_44] : List Value) ++ (iv .u8 (List.take 32 (prt (prt l0 (40 : Int) (80 : Int)) (0 : Int) (32 : Int))) ++ (([.int .u64 r_79] : List Value) ++ (iv .u8 (List.take 32 (prt (prt l0 (80 : Int) (120 : Int)) (0 : Int) (32 : Int))) ++ (([.int .u64 r_114] : List Value) ++ (iv .u8 (List.take 32 (prt (prt l0 (120 : Int) (160 : Int)) (0 : Int) (32 : Int))) ++ ([.int .u64 r_149] : List Value))))))))) (post := (([] : List Value))) (by first | rfl | simp only [List.append_assoc, List.append_nil, List.nil_append, List.cons_append]) (by first | rfl | simp only [List.length_append, List.length_cons, List.length_nil, iv_length]) (by first | rfl | simp only [List.length_append, List.length_cons, List.length_nil, iv_length, (show (List.take 32 (prt (prt l0 (0 : Int) (40 : Int)) (0 : Int) (32 : Int))).length = 32 from (List.length_take_of_le h_37)), (show (List.take 32 (prt (prt l0 (40 : Int) (80 : Int)) (0 : Int) (32 : Int))).length = 32 from (List.length_take_of_le h_72)), (show (List.take 32 (prt (prt l0 (80 : Int) (120 : Int)) (0 : Int) (32 : Int))).length = 32 from (List.length_take_of_le h_107)), (show (List.take 32 (prt (prt l0 (120 : Int) (160 : Int)) (0 : Int) (32 : Int))).length = 32 from (List.length_take_of_le h_142))])) (by first | rfl | simp only [List.length_append, List.length_cons, List.length_nil, iv_length, (show (List.take 32 (prt (prt l0 (0 : Int) (40 : Int)) (0 : Int) (32 : Int))).length = 32 from (List.length_take_of_le h_37)), (show (List.take 32 (prt (prt l0 (40 : Int) (80 : Int)) (0 : Int) (32 : Int))).length = 32 from (List.length_take_of_le h_72)), (show (List.take 32 (prt (prt l0 (80 : Int) (120 : Int)) (0 : Int) (32 : Int))).length = 32 from (List.length_take_of_le h_107)), (show (List.take 32 (prt (prt l0 (120 : Int) (160 : Int)) (0 : Int) (32 : Int))).length = 32 from (List.length_take_of_le h_142))])) ?_
    refine WL.store_mid (i := 1) (pre := (([] : List Value))) (mid := (iv .u8 (List.replicate 32 (0 : Int)) ++ (([.int .u64 0] : List Value) ++ (iv .u8 (List.replicate 32 (0 : Int)) ++ (([.int .u64 0] : List Value) ++ (iv .u8 (List.replicate 32 (0 : Int)) ++ (([.int .u64 0] : List Value) ++ (iv .u8 (List.replicate 32 (0 : Int)) ++ ([.int .u64 0] : List Value))))))))) (post := (([] : List Value))) (ms := (iv .u8 (List.take 32 (prt (prt l0 (0 : Int) (40 : Int)) (0 : Int) (32 : Int))) ++ (([.int .u64 r_44] : List Value) ++ (iv .u8 (List.take 32 (prt (prt l0 (40 : Int) (80 : Int)) (0 : Int) (32 : Int))) ++ (([.int .u64 r_79] : List Value) ++ (iv .u8 (List.take 32 (prt (prt l0 (80 : Int) (120 : Int)) (0 : Int) (32 : Int))) ++ (([.int .u64 r_114] : List Value) ++ (iv .u8 (List.take 32 (prt (prt l0 (120 : Int) (160 : Int)) (0 : Int) (32 : Int))) ++ ([.int .u64 r_149] : List Value))))))))) st_152 rfl row28 (by first | rfl | simp only [List.append_assoc, List.append_nil, List.nil_append, List.cons_append]) (by first | rfl | simp only [List.length_append, List.length_cons, List.length_nil, iv_length]) rfl rfl (by first | rfl | simp only [List.length_append, List.length_cons, List.length_nil, iv_length, (show (List.take 32 (prt (prt l0 (0 : Int) (40 : Int)) (0 : Int) (32 : Int))).length = 32 from (List.length_take_of_le h_37)), (show (List.take 32 (prt (prt l0 (40 : Int) (80 : Int)) (0 : Int) (32 : Int))).length = 32 from (List.length_take_of_le h_72)), (show (List.take 32 (prt (prt l0 (80 : Int) (120 : Int)) (0 : Int) (32 : Int))).length = 32 from (List.length_take_of_le h_107)), (show (List.take 32 (prt (prt l0 (120 : Int) (160 : Int)) (0 : Int) (32 : Int))).length = 32 from (List.length_take_of_le h_142))]) (by first | rfl | simp only [List.length_append, List.length_cons, List.length_nil, iv_length, List.length_replicate]) (by intro u hu; simp only [List.mem_append, List.mem_singleton] at hu; rcases hu with hu | hu | hu | hu | hu | hu | hu | hu <;> first | exact one_iv _ _ u hu | (subst hu; rfl)) ?_
    intro w_153 st_154
    replace st_154 : St w w_153 [.cells B_5 (iv .u8 (List.take 32 (prt (prt l0 (0 : Int) (40 : Int)) (0 : Int) (32 : Int))) ++ (([.int .u64 r_44] : List Value) ++ (iv .u8 (List.take 32 (prt (prt l0 (40 : Int) (80 : Int)) (0 : Int) (32 : Int))) ++ (([.int .u64 r_79] : List Value) ++ (iv .u8 (List.take 32 (prt (prt l0 (80 : Int) (120 : Int)) (0 : Int) (32 : Int))) ++ (([.int .u64 r_114] : List Value) ++ (iv .u8 (List.take 32 (prt (prt l0 (120 : Int) (160 : Int)) (0 : Int) (32 : Int))) ++ ([.int .u64 r_149] : List Value)))))))) 28, .cells B_1 (iv .u8 (List.take 32 (prt (prt l0 (0 : Int) (40 : Int)) (0 : Int) (32 : Int))) ++ (([.int .u64 r_44] : List Value) ++ (iv .u8 (List.take 32 (prt (prt l0 (40 : Int) (80 : Int)) (0 : Int) (32 : Int))) ++ (([.int .u64 r_79] : List Value) ++ (iv .u8 (List.take 32 (prt (prt l0 (80 : Int) (120 : Int)) (0 : Int) (32 : Int))) ++ (([.int .u64 r_114] : List Value) ++ (iv .u8 (List.take 32 (prt (prt l0 (120 : Int) (160 : Int)) (0 : Int) (32 : Int))) ++ ([.int .u64 r_149] : List Value)))))))) 28] := by have e_ : (iv .u8 (List.take 32 (prt (prt l0 (0 : Int) (40 : Int)) (0 : Int) (32 : Int))) ++ (([.int .u64 r_44] : List Value) ++ (iv .u8 (List.take 32 (prt (prt l0 (40 : Int) (80 : Int)) (0 : Int) (32 : Int))) ++ (([.int .u64 r_79] : List Value) ++ (iv .u8 (List.take 32 (prt (prt l0 (80 : Int) (120 : Int)) (0 : Int) (32 : Int))) ++ (([.int .u64 r_114] : List Value) ++ (iv .u8 (List.take 32 (prt (prt l0 (120 : Int) (160 : Int)) (0 : Int) (32 : Int))) ++ ([.int .u64 r_149] : List Value)))))))) = (([] : List Value)) ++ ((iv .u8 (List.take 32 (prt (prt l0 (0 : Int) (40 : Int)) (0 : Int) (32 : Int))) ++ (([.int .u64 r_44] : List Value) ++ (iv .u8 (List.take 32 (prt (prt l0 (40 : Int) (80 : Int)) (0 : Int) (32 : Int))) ++ (([.int .u64 r_79] : List Value) ++ (iv .u8 (List.take 32 (prt (prt l0 (80 : Int) (120 : Int)) (0 : Int) (32 : Int))) ++ (([.int .u64 r_114] : List Value) ++ (iv .u8 (List.take 32 (prt (prt l0 (120 : Int) (160 : Int)) (0 : Int) (32 : Int))) ++ ([.int .u64 r_149] : List Value)))))))) ++ (([] : List Value))) := (by first | rfl | simp only [List.append_assoc, List.append_nil, List.nil_append, List.cons_append]); have h_ : St w w_153 [.cells B_5 (iv .u8 (List.take 32 (prt (prt l0 (0 : Int) (40 : Int)) (0 : Int) (32 : Int))) ++ (([.int .u64 r_44] : List Value) ++ (iv .u8 (List.take 32 (prt (prt l0 (40 : Int) (80 : Int)) (0 : Int) (32 : Int))) ++ (([.int .u64 r_79] : List Value) ++ (iv .u8 (List.take 32 (prt (prt l0 (80 : Int) (120 : Int)) (0 : Int) (32 : Int))) ++ (([.int .u64 r_114] : List Value) ++ (iv .u8 (List.take 32 (prt (prt l0 (120 : Int) (160 : Int)) (0 : Int) (32 : Int))) ++ ([.int .u64 r_149] : List Value)))))))) 28, .cells B_1 ((([] : List Value)) ++ ((iv .u8 (List.take 32 (prt (prt l0 (0 : Int) (40 : Int)) (0 : Int) (32 : Int))) ++ (([.int .u64 r_44] : List Value) ++ (iv .u8 (List.take 32 (prt (prt l0 (40 : Int) (80 : Int)) (0 : Int) (32 : Int))) ++ (([.int .u64 r_79] : List Value) ++ (iv .u8 (List.take 32 (prt (prt l0 (80 : Int) (120 : Int)) (0 : Int) (32 : Int))) ++ (([.int .u64 r_114] : List Value) ++ (iv .u8 (List.take 32 (prt (prt l0 (120 : Int) (160 : Int)) (0 : Int) (32 : Int))) ++ ([.int .u64 r_149] : List Value)))))))) ++ (([] : List Value)))) 28] := st_154; rw [← e_] at h_; exact h_
    refine WL.val Wanted.none (Runs.assign rfl) ?_
    refine WL.nil ?_
    refine QW.then_n ?_
    refine CW.ret ?_
    obtain ⟨rfl, rfl, rfl, rfl, rfl, rfl, rfl, rfl, rfl⟩ := H
    exact QW.retr1 rfl row28 rfl st_154 (i := 1) rfl (by first | rfl | simp only [List.length_append, List.length_cons, List.length_nil, iv_length, (show (List.take 32 (prt (prt l0 (0 : Int) (40 : Int)) (0 : Int) (32 : Int))).length = 32 from (List.length_take_of_le h_37)), (show (List.take 32 (prt (prt l0 (40 : Int) (80 : Int)) (0 : Int) (32 : Int))).length = 32 from (List.length_take_of_le h_72)), (show (List.take 32 (prt (prt l0 (80 : Int) (120 : Int)) (0 : Int) (32 : Int))).length = 32 from (List.length_take_of_le h_107)), (show (List.take 32 (prt (prt l0 (120 : Int) (160 : Int)) (0 : Int) (32 : Int))).length = 32 from (List.length_take_of_le h_142))]) rfl ⟨(List.length_take_of_le h_37), (List.length_take_of_le h_72), (List.length_take_of_le h_107), (List.length_take_of_le h_142), rfl, st_154.pick [] (by decide)⟩

/-! ### slices_Clone_s_byte_byte: function 36 -/
def slices_Clone_s_byte_byte.rel (l0 : List Int) (r0 : List Int) : Prop := (l0 = [] → r0 = []) ∧ (∃ m_7 : List Int, m_7 = ([] : List Int) ++ l0 ∧ (m_7.length ≤ 1099511627776 ∧ r0 = m_7))
set_option maxHeartbeats 4000000 in
set_option maxRecDepth 100000 in
theorem slices_Clone_s_byte_byte.calls (w : World) (l0 : List Int) (A0 : Option Addr) (n0 : Nat) (c0 : Nat)  (hs0 : Src w A0 (iv .u8 l0)) (hn0 : n0 = l0.length) (hc0 : n0 ≤ c0) (r0 : List Int) (H : slices_Clone_s_byte_byte.rel l0 r0) :
    Calls Tryd.prog 36 #[.slice A0 n0 c0] w fun e w' => ∃ B0 q0 z0, z0 = r0.length ∧ e = .returned (.slice B0 z0 q0) ∧ St w w' [.sl B0 q0 z0 (iv .u8 r0) 5 1] := by
  rcases A0 with _ | A_
  · replace H := H.1 (nil_of_src hs0)
    refine CW.enter Tryd.func36 rfl (n := 8) rfl [.slice none n0 c0] (Nat.le_of_ble_eq_true rfl) ?_
    refine CW.sub [(0, .slice none n0 c0)] ⟨rfl, trivial⟩ ?_
    have st0 : St w w [] := St.refl w
    refine CW.seq ?_
    refine CW.region ?_
    refine WL.val Wanted.none (Runs.assign rfl) ?_
    refine WL.nil ?_
    refine QW.then_n ?_
    refine CW.seq ?_
    refine CW.seq ?_
    refine CW.region ?_
    refine WL.val Wanted.none (Runs.move rfl) ?_
    refine WL.val Wanted.none (Runs.eql_nil Tryd.underlying29 rfl rfl rfl) ?_
    refine WL.nil ?_
    refine QW.then_n ?_
    refine CW.ct rfl rfl ?_
    refine CW.seq ?_
    refine CW.region ?_
    refine WL.val Wanted.none (Runs.assign rfl) ?_
    refine WL.nil ?_
    refine QW.then_n ?_
    refine CW.ret ?_
    refine QW.then_r ?_
    have st_2 := st0.nil_sl 5 1
    have st_2 : St w w [.sl none 0 0 (iv .u8 ([] : List Int)) 5 1] := st_2
    obtain rfl := H
    exact QW.ret1 rfl rfl ⟨none, 0, 0, rfl, rfl, st_2.pick [0] (by decide)⟩
  · replace H := H.2
    refine CW.enter Tryd.func36 rfl (n := 8) rfl [.slice (some A_) n0 c0] (Nat.le_of_ble_eq_true rfl) ?_
    refine CW.sub [(0, .slice (some A_) n0 c0)] ⟨rfl, trivial⟩ ?_
    have st0 : St w w [] := St.refl w
    refine CW.seq ?_
    refine CW.region ?_
    refine WL.val Wanted.none (Runs.assign rfl) ?_
    refine WL.nil ?_
    refine QW.then_n ?_
    refine CW.seq ?_
    refine CW.seq ?_
    refine CW.region ?_
    refine WL.val Wanted.none (Runs.move rfl) ?_
    refine WL.val Wanted.none (Runs.eql_nil Tryd.underlying29 rfl rfl rfl) ?_
    refine WL.nil ?_
    refine QW.then_n ?_
    refine CW.cf rfl rfl ?_
    refine CW.skip ?_
    refine QW.then_n ?_
    refine CW.seq ?_
    refine CW.region ?_
    refine WL.buildSl0 st0 Tryd.underlying29 elem5 ?_
    intro B_3 w_4 st_5
    replace st_5 : St w w_4 [.sl (some ⟨B_3, 0, none⟩) 0 0 (iv .u8 ([] : List Int)) 5 1] := st_5
    refine WL.val Wanted.none (Runs.move rfl) ?_
    obtain ⟨m_7, e_8, H⟩ := H
    obtain ⟨z_9, H⟩ := H
    obtain ⟨n_12, hn_15⟩ : ∃ n_ : Nat, n_ = m_7.length := ⟨_, rfl⟩
    refine WL.append (i := 0) Wanted.none st_5 rfl Tryd.underlying29 elem5 rfl rfl (hs0.ext st_5) (by rw [iv_length]; exact (hn0).symm) (one_iv .u8 _) (by decide) (N := n_12) (by rw [hn_15, e_8, List.length_append]; exact congr (congrArg HAdd.hAdd (rfl)) (hn0)) (by rw [hn_15]; exact z_9) ?_
    intro A_10 c_11 w_13 st_14
    have st_14' : St w w_13 [.sl A_10 c_11 n_12 (iv .u8 m_7) 5 1] := by rw [e_8, ← iv_append .u8 ([] : List Int) l0]; exact st_14
    refine WL.val Wanted.none (Runs.assign rfl) ?_
    refine WL.nil ?_
    refine QW.then_n ?_
    refine CW.sub [(2, .slice A_10 n_12 c_11)] ⟨rfl, trivial⟩ ?_
    refine CW.ret ?_
    obtain rfl := H
    exact QW.ret1 rfl rfl ⟨A_10, c_11, n_12, hn_15, rfl, st_14'.pick [0] (by decide)⟩

/-! ### digest_first: function 37 -/
def digest_first.rel  (r0 : List Int) : Prop := (∃ m_5 : List Int, m_5 = [1779033703, 3144134277, 1013904242, 2773480762, 1359893119, 2600822924, 528734635, 1541459225] ∧ r0 = m_5)
set_option maxHeartbeats 4000000 in
set_option maxRecDepth 100000 in
theorem digest_first.calls (w : World)     (r0 : List Int) (H : digest_first.rel  r0) :
    Calls Tryd.prog 37 #[] w fun e w' => r0.length = 8 ∧ e = .returned (.agg (iv .u32 r0).toArray) ∧ St w w' [] := by
  refine CW.enter Tryd.func37 rfl (n := 2) rfl [] (Nat.le_of_ble_eq_true rfl) ?_
  refine CW.sub [] trivial ?_
  have st0 : St w w [] := St.refl w
  refine CW.seq ?_
  refine CW.region ?_
  refine WL.alloc st0 arr72.zero ?_
  intro B_1 w_2 st_3
  replace st_3 : St w w_2 [.cells B_1 (iv .u32 (List.replicate 8 (0 : Int))) 72] := st_3
  refine WL.nil ?_
  refine QW.then_n ?_
  refine CW.seq ?_
  refine CW.region ?_
  obtain ⟨m_5, e_6, H⟩ := H
  refine WL.val Wanted.none (Runs.build_arr (xs := m_5) arr72 rfl rfl (by rw [e_6]; rfl)) ?_
  refine WL.store_arr (i := 0) st_3 rfl arr72 rfl (by rw [iv_length]; exact (List.length_replicate ..)) (by rw [e_6]; rfl) rfl ?_
  intro w_7 st_8
  replace st_8 : St w w_7 [.cells B_1 (iv .u32 m_5) 72] := st_8
  refine WL.nil ?_
  refine QW.then_n ?_
  refine CW.ret ?_
  obtain rfl := H
  exact QW.retc rfl arr72 rfl (st_8.blk (i := 0) rfl) (by rw [e_6]; rfl) ⟨(by rw [e_6]; rfl), rfl, st_8.pick [] (by decide)⟩

/-! ### slices.Chunk: its iterator, function 40 -/
/-- The j-th chunk of M bytes at A, c at a time. -/
def chv (A : Option Addr) (c M j : Nat) : Value := .slice (A.map (·.add (c * j))) (min c (M - c * j)) (min c (M - c * j))
def KpB (B1 B2 : Nat) (W W' : World) : Prop := W'.cell? ⟨B1, 0, none⟩ = W.cell? ⟨B1, 0, none⟩ ∧ W'.cell? ⟨B2, 0, none⟩ = W.cell? ⟨B2, 0, none⟩
theorem KpB.trans {B1 B2 : Nat} {W W' W2 : World} (h : KpB B1 B2 W W') (k : KpB B1 B2 W' W2) : KpB B1 B2 W W2 := ⟨k.1.trans h.1, k.2.trans h.2⟩
theorem KpB.put {B1 B2 : Nat} {w : World} (h1 : B1 < w.heap.size) (h2 : B2 < w.heap.size) (W : World) (j : Nat) (o o' : Obj) (hj : w.heap.size ≤ j) (_ : W.heap[j]? = some o) (_ : o.isCells = false) : KpB B1 B2 W (W.putObj j o') := by
  have hb : ∀ b, b < w.heap.size → (W.putObj j o').cell? ⟨b, 0, none⟩ = W.cell? ⟨b, 0, none⟩ := fun b hb => by
    unfold World.cell?
    rw [World.putObj_heap_other (show (⟨b, 0, none⟩ : Addr).block ≠ j by show b ≠ j; omega)]
  exact ⟨hb _ h1, hb _ h2⟩
theorem chw {x : Int} (h0 : -9223372036854775808 ≤ x) (h1 : x ≤ 9223372036854775807) : IntKind.i64.wrap x = x := by rw [IntKind.wrap_i64]; omega
set_option maxHeartbeats 4000000 in
set_option maxRecDepth 100000 in
theorem chunk_seq {w : World} {B1 B2 M C c q : Nat} {A : Option Addr} (hb1 : w.cell? ⟨B1, 0, none⟩ = some (.slice A M C)) (hb2 : w.cell? ⟨B2, 0, none⟩ = some (.int .i64 (c : Int))) (hMC : M ≤ C) (hc : 1 ≤ c) (hcs : c ≤ 1099511627776) (hMs : M ≤ 1099511627776)
    (hq1 : M ≤ c * q) (hq2 : ∀ j, j < q → c * j < M) :
    SeqStopsK Fence.wide 2 Tryd.prog 40 #[.pointer (some ⟨B1, 0, none⟩), .pointer (some ⟨B2, 0, none⟩)] (fun j : Fin q => #[chv A c M j.val]) (KpB B1 B2) (fun xs => xs = List.finRange q) (fun _ => True) q w := by
  intro y J Jx W hW hJ hJx hY h0
  have c1 : W.cell? ⟨B1, 0, none⟩ = some (.slice A M C) := (hW.cell (p := ⟨B1, 0, none⟩) (block_lt_of_cell hb1)).trans hb1
  have c2 : W.cell? ⟨B2, 0, none⟩ = some (.int .i64 (c : Int)) := (hW.cell (p := ⟨B2, 0, none⟩) (block_lt_of_cell hb2)).trans hb2
  refine callsIn_wide.2 ?_
  refine CW.enter Tryd.func40 rfl (n := 31) rfl [.func (.yield y) #[] #[], .pointer (some ⟨B1, 0, none⟩), .pointer (some ⟨B2, 0, none⟩)] (Nat.le_of_ble_eq_true rfl) ?_
  refine CW.sub [(0, .func (.yield y) #[] #[]), (1, .pointer (some ⟨B1, 0, none⟩)), (2, .pointer (some ⟨B2, 0, none⟩))] ⟨rfl, rfl, rfl, trivial⟩ ?_
  refine CW.seq ?_
  refine CW.region ?_
  refine WL.val Wanted.none (Runs.assign rfl) ?_
  refine WL.nil ?_
  refine QW.then_n ?_
  refine CW.block ?_
  refine CW.sub [(0, .func (.yield y) #[] #[]), (1, .pointer (some ⟨B1, 0, none⟩)), (2, .pointer (some ⟨B2, 0, none⟩)), (4, .int .i64 0)] ⟨rfl, rfl, rfl, rfl, trivial⟩ ?_
  refine CW.loop (fun k l_ w_ => ∃ j : Nat, k + j = q + 1 ∧ j ≤ q ∧ l_ = [(0, .func (.yield y) #[] #[]), (1, .pointer (some ⟨B1, 0, none⟩)), (2, .pointer (some ⟨B2, 0, none⟩)), (4, .int .i64 ((c * j : Nat) : Int))] ∧ J ((List.finRange q).take j) w_ ∧ w_.cell? ⟨B1, 0, none⟩ = some (.slice A M C) ∧ w_.cell? ⟨B2, 0, none⟩ = some (.int .i64 (c : Int)))
    (k := q + 1) ⟨0, by omega, by omega, rfl, h0, c1, c2⟩ (fun _ _ h => by obtain ⟨j, h1, h2, _⟩ := h; omega) ?_
  rintro k l1 w1 ⟨j, hkj, hjq, rfl, hJ1, d1, d2⟩
  refine CW.seq ?_
  refine CW.seq ?_
  refine CW.region ?_
  refine WL.val Wanted.none (Runs.move rfl) ?_
  refine WL.val Wanted.none (Runs.load nagg29 rfl d1) ?_
  refine WL.val Wanted.none (Runs.len_sl Tryd.underlying29 rfl rfl) ?_
  refine WL.val Wanted.none (Runs.lss rfl rfl rfl) ?_
  refine WL.nil ?_
  refine QW.then_n ?_
  by_cases hlt : j < q
  · have hjM := hq2 j hlt
    have hfin : (List.finRange q).take (j + 1) = (List.finRange q).take j ++ [⟨j, hlt⟩] := by
      rw [List.take_add_one]; simp [hlt]
    refine CW.ct rfl (decide_eq_true (by omega)) ?_
    refine CW.skip ?_
    refine QW.then_n ?_
    refine CW.sub [(0, .func (.yield y) #[] #[]), (1, .pointer (some ⟨B1, 0, none⟩)), (2, .pointer (some ⟨B2, 0, none⟩)), (4, .int .i64 ((c * j : Nat) : Int))] ⟨rfl, rfl, rfl, rfl, trivial⟩ ?_
    refine CW.seq ?_
    refine CW.block ?_
    refine CW.seq ?_
    refine CW.region_qC (C := fun W' => J ((List.finRange q).take j) W' ∧ W'.cell? ⟨B1, 0, none⟩ = some (.slice A M C) ∧ W'.cell? ⟨B2, 0, none⟩ = some (.int .i64 (c : Int))) wide (by kernel_rfl) ⟨hJ _ _ _ none hJ1 ⟨rfl, rfl, rfl, Nat.le_refl _, fun _ _ _ => rfl⟩ (fun r e => by cases e), d1, d2⟩ ?_
    refine HL.val Wanted.none (fun W' h' => Runs.load nagg3 rfl h'.2.2) ?_
    refine HL.val Wanted.none (fun W' h' => Runs.load nagg29 rfl h'.2.1) ?_
    refine HL.val Wanted.none (fun W' h' => Runs.move rfl) ?_
    refine HL.val Wanted.none (fun W' h' => Runs.slice_l Tryd.underlying29 cells5 rfl rfl (by omega) (by omega) (B := subA A (c * j) C) rfl (N := M - c * j) rfl (M := C - c * j) rfl) ?_
    refine HL.val Wanted.none (fun W' h' => Runs.len_sl Tryd.underlying29 rfl rfl) ?_
    refine HL.val Wanted.none (fun W' h' => Runs.min2 rfl rfl (z := ((min c (M - c * j) : Nat) : Int)) (by unfold minI; split <;> omega)) ?_
    refine HL.val Wanted.none (fun W' h' => Runs.assign rfl) ?_
    refine HL.nil (fun w2 h2 => ?_)
    obtain ⟨hJ2, f1, f2⟩ := h2
    refine WL.nil ?_
    refine QW.then_n ?_
    refine CW.sub [(0, .func (.yield y) #[] #[]), (1, .pointer (some ⟨B1, 0, none⟩)), (2, .pointer (some ⟨B2, 0, none⟩)), (4, .int .i64 ((c * j : Nat) : Int)), (5, .int .i64 ((min c (M - c * j) : Nat) : Int))] ⟨rfl, rfl, rfl, rfl, rfl, trivial⟩ ?_
    refine CW.seq ?_
    refine CW.region_y 2 ?_
    refine WY.val (Runs.move rfl) rfl ?_
    refine WY.val (Runs.load nagg29 rfl f1) rfl ?_
    refine WY.val (Runs.move rfl) rfl ?_
    refine WY.val (Runs.move rfl) rfl ?_
    refine WY.val (Runs.move rfl) rfl ?_
    refine WY.val (Runs.add rfl rfl (z := ((c * j + min c (M - c * j) : Nat) : Int)) (by rw [chw (by omega) (by omega)]; omega)) rfl ?_
    refine WY.val (Runs.move rfl) rfl ?_
    refine WY.val (Runs.move rfl) rfl ?_
    refine WY.val (Runs.add rfl rfl (z := ((c * j + min c (M - c * j) : Nat) : Int)) (by rw [chw (by omega) (by omega)]; omega)) rfl ?_
    refine WY.val (Runs.slice_3 Tryd.underlying29 cells5 rfl rfl rfl rfl (by omega) (by omega) (by omega) (by omega) (B := A.map (·.add (c * j))) (by rw [if_neg (by omega)]; rfl) (N := min c (M - c * j)) (by omega) (M := min c (M - c * j)) (by omega)) rfl ?_
    refine WY.yield rfl rfl (hY ((List.finRange q).take j) ⟨j, hlt⟩ w2 hJ2 (by simp; omega)) ?_
    rintro e w3 (⟨rfl, hJ3, hk3⟩ | ⟨rfl, hJx3⟩)
    · refine ⟨_, rfl, ?_⟩
      refine WY.val (Runs.not rfl rfl) rfl ?_
      refine WY.nil ?_
      refine QW.then_n ?_
      refine CW.cf rfl rfl ?_
      refine CW.skip ?_
      refine QW.blk_n ?_
      refine QW.then_n ?_
      refine CW.sub [(0, .func (.yield y) #[] #[]), (1, .pointer (some ⟨B1, 0, none⟩)), (2, .pointer (some ⟨B2, 0, none⟩)), (4, .int .i64 ((c * j : Nat) : Int))] ⟨rfl, rfl, rfl, rfl, trivial⟩ ?_
      refine CW.region ?_
      refine WL.val Wanted.none (Runs.move rfl) ?_
      refine WL.val Wanted.none (Runs.load nagg3 rfl (hk3.2.trans f2)) ?_
      refine WL.val Wanted.none (Runs.add rfl rfl (z := ((c * (j + 1) : Nat) : Int)) (by rw [Nat.mul_succ, chw (by omega) (by omega)]; omega)) ?_
      refine WL.val Wanted.none (Runs.assign rfl) ?_
      refine WL.nil ?_
      exact QW.at [(0, .func (.yield y) #[] #[]), (1, .pointer (some ⟨B1, 0, none⟩)), (2, .pointer (some ⟨B2, 0, none⟩)), (4, .int .i64 ((c * (j + 1) : Nat) : Int))] ⟨rfl, rfl, rfl, rfl, trivial⟩ ⟨j + 1, by omega, by omega, rfl, by rw [hfin]; exact hJ3, hk3.1.trans f1, hk3.2.trans f2⟩
    · refine ⟨_, rfl, ?_⟩
      refine WY.val (Runs.not rfl rfl) rfl ?_
      refine WY.nil ?_
      refine QW.then_n ?_
      refine CW.ct rfl rfl ?_
      refine CW.ret ?_
      refine QW.blk_r ?_
      refine QW.then_r ?_
      refine QW.then_r ?_
      refine QW.blk_r ?_
      exact QW.ret0 rfl ⟨⟨_, rfl⟩, .inr ⟨_, trivial, hJx3⟩⟩
  · obtain rfl : j = q := by omega
    refine CW.cf rfl (decide_eq_false (by omega)) ?_
    refine CW.exit ?_
    refine QW.then_x ?_
    refine QW.then_x ?_
    refine QW.blk_x ?_
    exact QW.end0 rfl ⟨⟨_, rfl⟩, .inl ⟨_, rfl, by rw [List.take_of_length_le (by simp)] at hJ1; exact hJ1⟩⟩
theorem slices_Chunk.calls (w : World) (A : Option Addr) (M C c : Nat) (hc : 1 ≤ c) :
    Calls Tryd.prog 38 #[.slice A M C, .int .i64 (c : Int)] w fun e w' => ∃ B1 B2, e = .returned (.func (.func 40) #[] #[.pointer (some ⟨B1, 0, none⟩), .pointer (some ⟨B2, 0, none⟩)]) ∧ St w w' [.cells B2 [.int .i64 (c : Int)] 3, .cells B1 [.slice A M C] 29] := by
  refine CW.enter Tryd.func38 rfl (n := 9) rfl [.slice A M C, .int .i64 (c : Int)] (Nat.le_of_ble_eq_true rfl) ?_
  refine CW.sub [(0, .slice A M C), (1, .int .i64 (c : Int))] ⟨rfl, rfl, trivial⟩ ?_
  have st0 : St w w [] := St.refl w
  refine CW.seq ?_
  refine CW.region ?_
  refine WL.box st0 rfl rfl ?_
  intro B1 w1 st1
  refine WL.box st1 rfl rfl ?_
  intro B2 w2 st2
  refine WL.val Wanted.none (Runs.assign rfl) ?_
  refine WL.nil ?_
  refine QW.then_n ?_
  refine CW.seq ?_
  refine CW.seq ?_
  refine CW.region ?_
  refine WL.val Wanted.none (Runs.load nagg3 rfl (st2.cell (k := 0) rfl rfl)) ?_
  refine WL.val Wanted.none (Runs.lss rfl rfl rfl) ?_
  refine WL.nil ?_
  refine QW.then_n ?_
  refine CW.cf rfl (decide_eq_false (by omega)) ?_
  refine CW.skip ?_
  refine QW.then_n ?_
  refine CW.seq ?_
  refine CW.region ?_
  refine WL.val Wanted.none (Runs.makeFunc (vs := [.pointer (some ⟨B1, 0, none⟩), .pointer (some ⟨B2, 0, none⟩)]) rfl) ?_
  refine WL.val Wanted.none (Runs.assign rfl) ?_
  refine WL.nil ?_
  refine QW.then_n ?_
  refine CW.ret ?_
  exact QW.ret1 rfl rfl ⟨B1, B2, rfl, st2⟩

/-! ### bits_RotateLeft32: function 43 -/
def bits_RotateLeft32.rel (a0 : Int) (a1 : Int) (r0 : Int) : Prop := (0 ≤ (bits .and .u64 (IntKind.u64.wrap a1) 31) ∧ (∃ x_2 : Int, x_2 = IntKind.u64.wrap (32 - (bits .and .u64 (IntKind.u64.wrap a1) 31)) ∧ (0 ≤ x_2 ∧ (∃ x_5 : Int, x_5 = bits .or .u32 (shlI .u32 a0 (bits .and .u64 (IntKind.u64.wrap a1) 31)) (shrI .u32 a0 x_2) ∧ r0 = x_5))))
set_option maxHeartbeats 4000000 in
set_option maxRecDepth 100000 in
theorem bits_RotateLeft32.calls (w : World) (a0 : Int) (a1 : Int)    (r0 : Int) (H : bits_RotateLeft32.rel a0 a1 r0) :
    Calls Tryd.prog 43 #[.int .u32 a0, .int .i64 a1] w fun e w' => e = .returned (.int .u32 r0) ∧ St w w' [] := by
  refine CW.enter Tryd.func43 rfl (n := 17) rfl [.int .u32 a0, .int .i64 a1] (Nat.le_of_ble_eq_true rfl) ?_
  refine CW.sub [(0, .int .u32 a0), (1, .int .i64 a1)] ⟨rfl, rfl, trivial⟩ ?_
  have st0 : St w w [] := St.refl w
  refine CW.seq ?_
  refine CW.region ?_
  refine WL.val Wanted.none (Runs.assign rfl) ?_
  refine WL.nil ?_
  refine QW.then_n ?_
  refine CW.seq ?_
  refine CW.region ?_
  refine WL.val Wanted.none (Runs.move rfl) ?_
  refine WL.val Wanted.none (Runs.conv Tryd.underlying52 ⟨_, Tryd.underlying3⟩ rfl rfl) ?_
  refine WL.val Wanted.none (Runs.band rfl rfl rfl) ?_
  refine WL.val Wanted.none (Runs.assign rfl) ?_
  refine WL.nil ?_
  refine QW.then_n ?_
  refine CW.seq ?_
  refine CW.region ?_
  refine WL.val Wanted.none (Runs.move rfl) ?_
  refine WL.val Wanted.none (Runs.move rfl) ?_
  obtain ⟨z_1, H⟩ := H
  refine WL.val Wanted.none (Runs.shl rfl rfl z_1 rfl) ?_
  refine WL.val Wanted.none (Runs.move rfl) ?_
  refine WL.val Wanted.none (Runs.move rfl) ?_
  obtain ⟨x_2, e_3, H⟩ := H
  refine WL.val Wanted.none (Runs.sub rfl rfl e_3) ?_
  obtain ⟨z_4, H⟩ := H
  refine WL.val Wanted.none (Runs.shr rfl rfl z_4 rfl) ?_
  obtain ⟨x_5, e_6, H⟩ := H
  refine WL.val Wanted.none (Runs.bor rfl rfl e_6) ?_
  refine WL.val Wanted.none (Runs.assign rfl) ?_
  refine WL.nil ?_
  refine QW.then_n ?_
  refine CW.sub [(4, .int .u32 x_5)] ⟨rfl, trivial⟩ ?_
  refine CW.ret ?_
  obtain rfl := H
  exact QW.ret1 rfl rfl ⟨rfl, st0.pick [] (by decide)⟩

/-! ### digest_right: function 42 -/
def digest_right.rel (a0 : Int) (a1 : Int) (r0 : Int) : Prop := (∃ (r_5 : Int), bits_RotateLeft32.rel a0 (IntKind.i64.wrap (0 - a1)) r_5 ∧ r0 = r_5)
set_option maxHeartbeats 4000000 in
set_option maxRecDepth 100000 in
theorem digest_right.calls (w : World) (a0 : Int) (a1 : Int)    (r0 : Int) (H : digest_right.rel a0 a1 r0) :
    Calls Tryd.prog 42 #[.int .u32 a0, .int .i64 a1] w fun e w' => e = .returned (.int .u32 r0) ∧ St w w' [] := by
  refine CW.enter Tryd.func42 rfl (n := 9) rfl [.int .u32 a0, .int .i64 a1] (Nat.le_of_ble_eq_true rfl) ?_
  refine CW.sub [(0, .int .u32 a0), (1, .int .i64 a1)] ⟨rfl, rfl, trivial⟩ ?_
  have st0 : St w w [] := St.refl w
  refine CW.seq ?_
  refine CW.region ?_
  refine WL.val Wanted.none (Runs.assign rfl) ?_
  refine WL.nil ?_
  refine QW.then_n ?_
  refine CW.seq ?_
  refine CW.region ?_
  refine WL.val Wanted.none (Runs.move rfl) ?_
  refine WL.val Wanted.none (Runs.move rfl) ?_
  refine WL.val Wanted.none (Runs.neg rfl rfl) ?_
  obtain ⟨r_5, hr_1, H⟩ := H
  refine WL.call Wanted.none ent43 rfl (bits_RotateLeft32.calls w a0 (IntKind.i64.wrap (0 - a1)) r_5 hr_1) ?_
  rintro _ w_2 ⟨rfl, sc_4⟩
  have st_3 : St w w_2 [] := st0.call sc_4
  refine ⟨_, rfl, ?_⟩
  refine WL.val Wanted.none (Runs.assign rfl) ?_
  refine WL.nil ?_
  refine QW.then_n ?_
  refine CW.sub [(4, .int .u32 r_5)] ⟨rfl, trivial⟩ ?_
  refine CW.ret ?_
  obtain rfl := H
  exact QW.ret1 rfl rfl ⟨rfl, st_3.pick [] (by decide)⟩

end Go.Proofs.YtekpnjhacnkgcaaDoor
