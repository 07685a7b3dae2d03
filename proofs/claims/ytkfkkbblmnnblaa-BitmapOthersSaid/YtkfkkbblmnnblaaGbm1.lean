/- Walks: each function computes what its relation says, and a call of it ends so. Printed by a program of this session (wip/gen). -/
import Derived.Test.YtkfkkbblmnnblaaGbm0
namespace Go.Proofs.Ytkfkkbblmnnblaa
open Go Go.Kr Go.RowKit
set_option linter.unusedVariables false
set_option linter.unusedSimpArgs false
/-! ### bitmap_row: function 52 -/
def bitmap_row.rel (l0 : List Int) (a1 : Int) (a2 : Int) (r0 : Bool) : Prop := ((a1 ≥ 0 ∧ ((a2 ≥ a1 ∧ r0 = (decide (a2 ≤ (IntKind.i64.wrap (8 * (l0.length : Int)))))) ∨ (¬ (a2 ≥ a1) ∧ r0 = false))) ∨ (¬ (a1 ≥ 0) ∧ r0 = false))
set_option maxHeartbeats 4000000 in
set_option maxRecDepth 100000 in
theorem bitmap_row.calls (w : World) (l0 : List Int) (a1 : Int) (a2 : Int) (A0 : Option Addr) (n0 : Nat) (c0 : Nat) (hs0 : Src w A0 (iv .u8 l0)) (hn0 : n0 = l0.length) (hc0 : n0 ≤ c0) (r0 : Bool) (H : bitmap_row.rel l0 a1 a2 r0) :
    Calls Try.prog 52 #[.slice A0 n0 c0, .int .i64 a1, .int .i64 a2] w fun e w' => e = .returned (.bool r0) ∧ St w w' [] := by
  refine CW.enter Try.func52 rfl (n := 21) rfl [.slice A0 n0 c0, .int .i64 a1, .int .i64 a2] (Nat.le_of_ble_eq_true rfl) ?_
  refine CW.sub [(0, .slice A0 n0 c0), (1, .int .i64 a1), (2, .int .i64 a2)] ⟨rfl, rfl, rfl, trivial⟩ ?_
  have st0 : St w w [] := St.refl w
  refine CW.seq ?_
  refine CW.region ?_
  refine WL.val Wanted.none (Runs.assign rfl) ?_
  refine WL.nil ?_
  refine QW.then_n ?_
  refine CW.seq ?_
  refine CW.region ?_
  refine WL.val Wanted.none (Runs.move rfl) ?_
  refine WL.val Wanted.none (Runs.geq rfl rfl rfl) ?_
  refine WL.val Wanted.none (Runs.move rfl) ?_
  rcases H with ⟨c_1, H⟩ | ⟨c_1, H⟩
  · have h_2 : (decide (a1 ≥ 0)) = true := (decide_eq_true c_1)
    refine WL.on ?_ ?_; exact Wanted.guard (dj := 9) (by rfl) (evb (by rfl) h_2) (by rfl)
    refine WL.val Wanted.none (Runs.move rfl) ?_
    refine WL.on ?_ ?_; exact Wanted.guard (dj := 9) (by rfl) (evb (by rfl) h_2) (by rfl)
    refine WL.val Wanted.none (Runs.move rfl) ?_
    refine WL.on ?_ ?_; exact Wanted.guard (dj := 9) (by rfl) (evb (by rfl) h_2) (by rfl)
    refine WL.val Wanted.none (Runs.geq rfl rfl rfl) ?_
    refine WL.val Wanted.none (Runs.pick_t (evb rfl h_2) rfl) ?_
    refine WL.val Wanted.none (Runs.move rfl) ?_
    rcases H with ⟨c_3, H⟩ | ⟨c_3, H⟩
    · have h_4 : (decide (a2 ≥ a1)) = true := (decide_eq_true c_3)
      refine WL.on ?_ ?_; exact Wanted.guard (dj := 14) (by rfl) (evb (by rfl) h_4) (by rfl)
      refine WL.val Wanted.none (Runs.move rfl) ?_
      refine WL.on ?_ ?_; exact Wanted.guard (dj := 14) (by rfl) (evb (by rfl) h_4) (by rfl)
      refine WL.val Wanted.none (Runs.move rfl) ?_
      refine WL.on ?_ ?_; exact Wanted.guard (dj := 14) (by rfl) (evb (by rfl) h_4) (by rfl)
      refine WL.val Wanted.none (Runs.len_sl Try.underlying22 rfl (by rw [hn0])) ?_
      refine WL.on ?_ ?_; exact Wanted.guard (dj := 14) (by rfl) (evb (by rfl) h_4) (by rfl)
      refine WL.val Wanted.none (Runs.mul rfl rfl rfl) ?_
      refine WL.on ?_ ?_; exact Wanted.guard (dj := 14) (by rfl) (evb (by rfl) h_4) (by rfl)
      refine WL.val Wanted.none (Runs.leq rfl rfl rfl) ?_
      refine WL.val Wanted.none (Runs.pick_t (evb rfl h_4) rfl) ?_
      refine WL.val Wanted.none (Runs.assign rfl) ?_
      refine WL.nil ?_
      refine QW.then_n ?_
      refine CW.sub [(6, .bool (decide (a2 ≤ (IntKind.i64.wrap (8 * (l0.length : Int))))))] ⟨rfl, trivial⟩ ?_
      refine CW.ret ?_
      obtain rfl := H
      exact QW.ret1 rfl rfl ⟨rfl, st0.pick [] (by decide)⟩
    · have h_4 : (decide (a2 ≥ a1)) = false := (decide_eq_false c_3)
      refine WL.off ?_ ?_; exact Wanted.guard (dj := 14) (by rfl) (evb (by rfl) h_4) (by rfl)
      refine WL.off ?_ ?_; exact Wanted.guard (dj := 14) (by rfl) (evb (by rfl) h_4) (by rfl)
      refine WL.off ?_ ?_; exact Wanted.guard (dj := 14) (by rfl) (evb (by rfl) h_4) (by rfl)
      refine WL.off ?_ ?_; exact Wanted.guard (dj := 14) (by rfl) (evb (by rfl) h_4) (by rfl)
      refine WL.off ?_ ?_; exact Wanted.guard (dj := 14) (by rfl) (evb (by rfl) h_4) (by rfl)
      refine WL.val Wanted.none (Runs.pick_f (evb rfl h_4) rfl) ?_
      refine WL.val Wanted.none (Runs.assign rfl) ?_
      refine WL.nil ?_
      refine QW.then_n ?_
      refine CW.sub [(6, .bool false)] ⟨rfl, trivial⟩ ?_
      refine CW.ret ?_
      obtain rfl := H
      exact QW.ret1 rfl rfl ⟨rfl, st0.pick [] (by decide)⟩
  · have h_2 : (decide (a1 ≥ 0)) = false := (decide_eq_false c_1)
    refine WL.off ?_ ?_; exact Wanted.guard (dj := 9) (by rfl) (evb (by rfl) h_2) (by rfl)
    refine WL.off ?_ ?_; exact Wanted.guard (dj := 9) (by rfl) (evb (by rfl) h_2) (by rfl)
    refine WL.off ?_ ?_; exact Wanted.guard (dj := 9) (by rfl) (evb (by rfl) h_2) (by rfl)
    refine WL.val Wanted.none (Runs.pick_f (evb rfl h_2) rfl) ?_
    refine WL.val Wanted.none (Runs.move rfl) ?_
    refine WL.off ?_ ?_; exact Wanted.guard (dj := 14) (by rfl) (by rfl) (by rfl)
    refine WL.off ?_ ?_; exact Wanted.guard (dj := 14) (by rfl) (by rfl) (by rfl)
    refine WL.off ?_ ?_; exact Wanted.guard (dj := 14) (by rfl) (by rfl) (by rfl)
    refine WL.off ?_ ?_; exact Wanted.guard (dj := 14) (by rfl) (by rfl) (by rfl)
    refine WL.off ?_ ?_; exact Wanted.guard (dj := 14) (by rfl) (by rfl) (by rfl)
    refine WL.val Wanted.none (Runs.pick_f rfl rfl) ?_
    refine WL.val Wanted.none (Runs.assign rfl) ?_
    refine WL.nil ?_
    refine QW.then_n ?_
    refine CW.sub [(6, .bool false)] ⟨rfl, trivial⟩ ?_
    refine CW.ret ?_
    obtain rfl := H
    exact QW.ret1 rfl rfl ⟨rfl, st0.pick [] (by decide)⟩

/-! ### bitmap_inside: function 49 -/
def bitmap_inside.rel (l0 : List Int) (a1 : Int) (r0 : Bool) : Prop := ((a1 ≥ 0 ∧ r0 = (decide ((IntKind.i64.wrap (Int.tdiv a1 8)) < (l0.length : Int)))) ∨ (¬ (a1 ≥ 0) ∧ r0 = false))
set_option maxHeartbeats 4000000 in
set_option maxRecDepth 100000 in
theorem bitmap_inside.calls (w : World) (l0 : List Int) (a1 : Int) (A0 : Option Addr) (n0 : Nat) (c0 : Nat) (hs0 : Src w A0 (iv .u8 l0)) (hn0 : n0 = l0.length) (hc0 : n0 ≤ c0) (r0 : Bool) (H : bitmap_inside.rel l0 a1 r0) :
    Calls Try.prog 49 #[.slice A0 n0 c0, .int .i64 a1] w fun e w' => e = .returned (.bool r0) ∧ St w w' [] := by
  refine CW.enter Try.func49 rfl (n := 14) rfl [.slice A0 n0 c0, .int .i64 a1] (Nat.le_of_ble_eq_true rfl) ?_
  refine CW.sub [(0, .slice A0 n0 c0), (1, .int .i64 a1)] ⟨rfl, rfl, trivial⟩ ?_
  have st0 : St w w [] := St.refl w
  refine CW.seq ?_
  refine CW.region ?_
  refine WL.val Wanted.none (Runs.assign rfl) ?_
  refine WL.nil ?_
  refine QW.then_n ?_
  refine CW.seq ?_
  refine CW.region ?_
  refine WL.val Wanted.none (Runs.move rfl) ?_
  refine WL.val Wanted.none (Runs.geq rfl rfl rfl) ?_
  refine WL.val Wanted.none (Runs.move rfl) ?_
  rcases H with ⟨c_1, H⟩ | ⟨c_1, H⟩
  · have h_2 : (decide (a1 ≥ 0)) = true := (decide_eq_true c_1)
    refine WL.on ?_ ?_; exact Wanted.guard (dj := 7) (by rfl) (evb (by rfl) h_2) (by rfl)
    refine WL.val Wanted.none (Runs.move rfl) ?_
    refine WL.on ?_ ?_; exact Wanted.guard (dj := 7) (by rfl) (evb (by rfl) h_2) (by rfl)
    refine WL.val Wanted.none (Runs.quo rfl rfl (by decide) rfl) ?_
    refine WL.on ?_ ?_; exact Wanted.guard (dj := 7) (by rfl) (evb (by rfl) h_2) (by rfl)
    refine WL.val Wanted.none (Runs.move rfl) ?_
    refine WL.on ?_ ?_; exact Wanted.guard (dj := 7) (by rfl) (evb (by rfl) h_2) (by rfl)
    refine WL.val Wanted.none (Runs.len_sl Try.underlying22 rfl (by rw [hn0])) ?_
    refine WL.on ?_ ?_; exact Wanted.guard (dj := 7) (by rfl) (evb (by rfl) h_2) (by rfl)
    refine WL.val Wanted.none (Runs.lss rfl rfl rfl) ?_
    refine WL.val Wanted.none (Runs.pick_t (evb rfl h_2) rfl) ?_
    refine WL.val Wanted.none (Runs.assign rfl) ?_
    refine WL.nil ?_
    refine QW.then_n ?_
    refine CW.sub [(4, .bool (decide ((IntKind.i64.wrap (Int.tdiv a1 8)) < (l0.length : Int))))] ⟨rfl, trivial⟩ ?_
    refine CW.ret ?_
    obtain rfl := H
    exact QW.ret1 rfl rfl ⟨rfl, st0.pick [] (by decide)⟩
  · have h_2 : (decide (a1 ≥ 0)) = false := (decide_eq_false c_1)
    refine WL.off ?_ ?_; exact Wanted.guard (dj := 7) (by rfl) (evb (by rfl) h_2) (by rfl)
    refine WL.off ?_ ?_; exact Wanted.guard (dj := 7) (by rfl) (evb (by rfl) h_2) (by rfl)
    refine WL.off ?_ ?_; exact Wanted.guard (dj := 7) (by rfl) (evb (by rfl) h_2) (by rfl)
    refine WL.off ?_ ?_; exact Wanted.guard (dj := 7) (by rfl) (evb (by rfl) h_2) (by rfl)
    refine WL.off ?_ ?_; exact Wanted.guard (dj := 7) (by rfl) (evb (by rfl) h_2) (by rfl)
    refine WL.val Wanted.none (Runs.pick_f (evb rfl h_2) rfl) ?_
    refine WL.val Wanted.none (Runs.assign rfl) ?_
    refine WL.nil ?_
    refine QW.then_n ?_
    refine CW.sub [(4, .bool false)] ⟨rfl, trivial⟩ ?_
    refine CW.ret ?_
    obtain rfl := H
    exact QW.ret1 rfl rfl ⟨rfl, st0.pick [] (by decide)⟩

/-! ### bitmap_Get: function 25 -/
def bitmap_Get.rel (l0 : List Int) (a1 : Int) (r0 : Bool) (r1 : Int) : Prop := (∃ (r_5 : Bool), bitmap_inside.rel l0 a1 r_5 ∧ ((¬ (r_5 = true) ∧ r0 = false ∧ r1 = 12) ∨ (¬ (¬ (r_5 = true)) ∧ ((0 ≤ (IntKind.i64.wrap (Int.tdiv a1 8)) ∧ (IntKind.i64.wrap (Int.tdiv a1 8)) < (l0.length : Int)) ∧ (0 ≤ (Int.tmod a1 8) ∧ (∃ x_13 : Int, x_13 = shrI .u8 (gn l0 ((IntKind.i64.wrap (Int.tdiv a1 8)).toNat)) (Int.tmod a1 8) ∧ r0 = ((bits .and .u8 x_13 1) == 1) ∧ r1 = 0))))))
set_option maxHeartbeats 4000000 in
set_option maxRecDepth 100000 in
theorem bitmap_Get.calls (w : World) (l0 : List Int) (a1 : Int) (A0 : Option Addr) (n0 : Nat) (c0 : Nat) (hs0 : Src w A0 (iv .u8 l0)) (hn0 : n0 = l0.length) (hc0 : n0 ≤ c0) (r0 : Bool) (r1 : Int) (H : bitmap_Get.rel l0 a1 r0 r1) :
    Calls Try.prog 25 #[.slice A0 n0 c0, .int .i64 a1] w fun e w' => e = .returned (.tuple #[.bool r0, .int .i64 r1]) ∧ St w w' [] := by
  refine CW.enter Try.func25 rfl (n := 20) rfl [.slice A0 n0 c0, .int .i64 a1] (Nat.le_of_ble_eq_true rfl) ?_
  refine CW.sub [(0, .slice A0 n0 c0), (1, .int .i64 a1)] ⟨rfl, rfl, trivial⟩ ?_
  have st0 : St w w [] := St.refl w
  refine CW.seq ?_
  refine CW.region ?_
  refine WL.val Wanted.none (Runs.assign rfl) ?_
  refine WL.val Wanted.none (Runs.assign rfl) ?_
  refine WL.nil ?_
  refine QW.then_n ?_
  refine CW.seq ?_
  refine CW.seq ?_
  refine CW.region ?_
  refine WL.val Wanted.none (Runs.move rfl) ?_
  refine WL.val Wanted.none (Runs.move rfl) ?_
  obtain ⟨r_5, hr_1, H⟩ := H
  refine WL.call Wanted.none ent49 rfl (bitmap_inside.calls w l0 a1 A0 n0 c0 (hs0.ext st0) (hn0) (hc0) r_5 hr_1) ?_
  rintro _ w_2 ⟨rfl, sc_4⟩
  have st_3 : St w w_2 [] := st0.call sc_4
  refine ⟨_, rfl, ?_⟩
  refine WL.val Wanted.none (Runs.not rfl rfl) ?_
  refine WL.nil ?_
  refine QW.then_n ?_
  rcases H with ⟨c_6, H⟩ | ⟨c_6, H⟩
  · have h_7 : (!r_5) = true := (not_t (Bool.eq_false_iff.mpr c_6))
    refine CW.ct rfl h_7 ?_
    refine CW.seq ?_
    refine CW.region ?_
    refine WL.val Wanted.none (Runs.assign rfl) ?_
    refine WL.val Wanted.none (Runs.assign rfl) ?_
    refine WL.nil ?_
    refine QW.then_n ?_
    refine CW.ret ?_
    refine QW.then_r ?_
    obtain ⟨rfl, rfl⟩ := H
    exact QW.ret2 rfl rfl rfl ⟨rfl, st_3.pick [] (by decide)⟩
  · have h_7 : (!r_5) = false := (not_f (Decidable.not_not.mp c_6))
    refine CW.cf rfl h_7 ?_
    refine CW.skip ?_
    refine QW.then_n ?_
    refine CW.seq ?_
    refine CW.region ?_
    refine WL.val Wanted.none (Runs.move rfl) ?_
    refine WL.val Wanted.none (Runs.move rfl) ?_
    refine WL.val Wanted.none (Runs.quo rfl rfl (by decide) rfl) ?_
    obtain ⟨⟨p_8, q_9⟩, H⟩ := H
    obtain ⟨a_10, e_11⟩ := (hs0.ext st_3).addr_iv ((IntKind.i64.wrap (Int.tdiv a1 8)).toNat) (by omega)
    refine WL.val Wanted.none (Runs.indexAddr Try.underlying22 cells5 (by decide) rfl e_11 rfl p_8 (by rw [hn0]; exact q_9) (o := (IntKind.i64.wrap (Int.tdiv a1 8)).toNat) (by first | rfl | omega)) ?_
    refine WL.val Wanted.none (Runs.load nagg5 rfl ((hs0.ext st_3).cell_iv e_11 (by omega))) ?_
    refine WL.val Wanted.none (Runs.move rfl) ?_
    refine WL.val Wanted.none (Runs.rem rfl rfl (by decide) rfl) ?_
    obtain ⟨z_12, H⟩ := H
    obtain ⟨x_13, e_14, H⟩ := H
    refine WL.val Wanted.none (Runs.shr rfl rfl z_12 e_14) ?_
    refine WL.val Wanted.none (Runs.band rfl rfl rfl) ?_
    refine WL.val Wanted.none (Runs.eql rfl rfl rfl) ?_
    refine WL.val Wanted.none (Runs.assign rfl) ?_
    refine WL.val Wanted.none (Runs.assign rfl) ?_
    refine WL.nil ?_
    refine QW.then_n ?_
    refine CW.sub [(4, .bool ((bits .and .u8 x_13 1) == 1)), (5, .int .i64 0)] ⟨rfl, rfl, trivial⟩ ?_
    refine CW.ret ?_
    obtain ⟨rfl, rfl⟩ := H
    exact QW.ret2 rfl rfl rfl ⟨rfl, st_3.pick [] (by decide)⟩

/-! ### bitmap_First: function 29 -/
def bitmap_First.L1 (l0 : List Int) (a2 : Int) (r0 : Int) (r1 : Int) : Nat → Int → Int → Int → Prop
  | 0, _, _, _ => False
  | kL1 + 1, x_9, x_10, x_11 => ((x_11 < a2 ∧ (∃ (r_21 : Bool) (r_22 : Int), bitmap_Get.rel l0 x_11 r_21 r_22 ∧ ((r_21 = true ∧ bitmap_First.L1 l0 a2 r0 r1 kL1 x_9 x_10 (IntKind.i64.wrap (x_11 + 1))) ∨ (¬ (r_21 = true) ∧ r0 = x_11 ∧ r1 = 0)))) ∨ (¬ (x_11 < a2) ∧ r0 = 0 ∧ r1 = 20))
def bitmap_First.rel (l0 : List Int) (a1 : Int) (a2 : Int) (r0 : Int) (r1 : Int) : Prop := (∃ (r_5 : Bool), bitmap_row.rel l0 a1 a2 r_5 ∧ ((¬ (r_5 = true) ∧ r0 = 0 ∧ r1 = 12) ∨ (¬ (¬ (r_5 = true)) ∧ (∃ k_ : Nat, bitmap_First.L1 l0 a2 r0 r1 k_ 0 0 a1))))
set_option maxHeartbeats 4000000 in
set_option maxRecDepth 100000 in
theorem bitmap_First.calls (w : World) (l0 : List Int) (a1 : Int) (a2 : Int) (A0 : Option Addr) (n0 : Nat) (c0 : Nat) (hs0 : Src w A0 (iv .u8 l0)) (hn0 : n0 = l0.length) (hc0 : n0 ≤ c0) (r0 : Int) (r1 : Int) (H : bitmap_First.rel l0 a1 a2 r0 r1) :
    Calls Try.prog 29 #[.slice A0 n0 c0, .int .i64 a1, .int .i64 a2] w fun e w' => e = .returned (.tuple #[.int .i64 r0, .int .i64 r1]) ∧ St w w' [] := by
  refine CW.enter Try.func29 rfl (n := 30) rfl [.slice A0 n0 c0, .int .i64 a1, .int .i64 a2] (Nat.le_of_ble_eq_true rfl) ?_
  refine CW.sub [(0, .slice A0 n0 c0), (1, .int .i64 a1), (2, .int .i64 a2)] ⟨rfl, rfl, rfl, trivial⟩ ?_
  have st0 : St w w [] := St.refl w
  refine CW.seq ?_
  refine CW.region ?_
  refine WL.val Wanted.none (Runs.assign rfl) ?_
  refine WL.val Wanted.none (Runs.assign rfl) ?_
  refine WL.nil ?_
  refine QW.then_n ?_
  refine CW.scope ?_
  refine CW.seq ?_
  refine CW.seq ?_
  refine CW.region ?_
  refine WL.val Wanted.none (Runs.move rfl) ?_
  refine WL.val Wanted.none (Runs.move rfl) ?_
  refine WL.val Wanted.none (Runs.move rfl) ?_
  obtain ⟨r_5, hr_1, H⟩ := H
  refine WL.call Wanted.none ent52 rfl (bitmap_row.calls w l0 a1 a2 A0 n0 c0 (hs0.ext st0) (hn0) (hc0) r_5 hr_1) ?_
  rintro _ w_2 ⟨rfl, sc_4⟩
  have st_3 : St w w_2 [] := st0.call sc_4
  refine ⟨_, rfl, ?_⟩
  refine WL.val Wanted.none (Runs.not rfl rfl) ?_
  refine WL.nil ?_
  refine QW.then_n ?_
  rcases H with ⟨c_6, H⟩ | ⟨c_6, H⟩
  · have h_7 : (!r_5) = true := (not_t (Bool.eq_false_iff.mpr c_6))
    refine CW.ct rfl h_7 ?_
    refine CW.seq ?_
    refine CW.region ?_
    refine WL.val Wanted.none (Runs.assign rfl) ?_
    refine WL.val Wanted.none (Runs.assign rfl) ?_
    refine WL.nil ?_
    refine QW.then_n ?_
    refine CW.ret ?_
    refine QW.then_r ?_
    refine QW.ng_r ?_
    obtain ⟨rfl, rfl⟩ := H
    exact QW.ret2 rfl rfl rfl ⟨rfl, st_3.pick [] (by decide)⟩
  · have h_7 : (!r_5) = false := (not_f (Decidable.not_not.mp c_6))
    refine CW.cf rfl h_7 ?_
    refine CW.skip ?_
    refine QW.then_n ?_
    refine CW.seq ?_
    refine CW.label ?_
    refine QW.then_n ?_
    refine CW.seq ?_
    refine CW.seq ?_
    refine CW.region ?_
    refine WL.val Wanted.none (Runs.move rfl) ?_
    refine WL.val Wanted.none (Runs.assign rfl) ?_
    refine WL.nil ?_
    refine QW.then_n ?_
    refine CW.sub [(0, .slice A0 n0 c0), (2, .int .i64 a2), (6, .int .i64 0), (7, .int .i64 0), (8, .int .i64 a1)] ⟨rfl, rfl, rfl, rfl, rfl, trivial⟩ ?_
    refine CW.block ?_
    obtain ⟨k_8, H⟩ := H
    refine CW.sub [(0, .slice A0 n0 c0), (2, .int .i64 a2), (6, .int .i64 0), (7, .int .i64 0), (8, .int .i64 a1)] ⟨rfl, rfl, rfl, rfl, rfl, trivial⟩ ?_
    refine CW.loop (fun kL1 l_ w_ => ∃ (x_9 : Int) (x_10 : Int) (x_11 : Int), l_ = [(0, .slice A0 n0 c0), (2, .int .i64 a2), (6, .int .i64 x_9), (7, .int .i64 x_10), (8, .int .i64 x_11)] ∧ bitmap_First.L1 l0 a2 r0 r1 kL1 x_9 x_10 x_11 ∧ St w w_ []) (k := k_8) ⟨0, 0, a1, rfl, H, st_3⟩ (fun _ _ h => by obtain ⟨_, _, _, _, h, _⟩ := h; exact h.elim) ?_
    rintro kL1 l_14 w_12 ⟨x_9, x_10, x_11, rfl, H, st_13⟩
    refine CW.seq ?_
    refine CW.seq ?_
    refine CW.region ?_
    refine WL.val Wanted.none (Runs.move rfl) ?_
    refine WL.val Wanted.none (Runs.move rfl) ?_
    refine WL.val Wanted.none (Runs.lss rfl rfl rfl) ?_
    refine WL.nil ?_
    refine QW.then_n ?_
    rcases H with ⟨c_15, H⟩ | ⟨c_15, H⟩
    · have h_16 : (decide (x_11 < a2)) = true := (decide_eq_true c_15)
      refine CW.ct rfl h_16 ?_
      refine CW.skip ?_
      refine QW.then_n ?_
      refine CW.seq ?_
      refine CW.block ?_
      refine CW.seq ?_
      refine CW.seq ?_
      refine CW.region ?_
      refine WL.val Wanted.none (Runs.move rfl) ?_
      refine WL.val Wanted.none (Runs.move rfl) ?_
      obtain ⟨r_21, r_22, hr_17, H⟩ := H
      refine WL.call Wanted.none ent25 rfl (bitmap_Get.calls w_12 l0 x_11 A0 n0 c0 (hs0.ext st_13) (hn0) (hc0) r_21 r_22 hr_17) ?_
      rintro _ w_18 ⟨rfl, sc_20⟩
      have st_19 : St w w_18 [] := st_13.call sc_20
      refine ⟨_, rfl, ?_⟩
      refine WL.val Wanted.none (Runs.move rfl) ?_
      refine WL.val Wanted.none (Runs.extract rfl rfl) ?_
      refine WL.val Wanted.none (Runs.extract rfl rfl) ?_
      refine WL.val Wanted.none (Runs.assign rfl) ?_
      refine WL.val Wanted.none (Runs.assign rfl) ?_
      refine WL.nil ?_
      refine QW.then_n ?_
      refine CW.seq ?_
      refine CW.region ?_
      refine WL.val Wanted.none (Runs.move rfl) ?_
      refine WL.nil ?_
      refine QW.then_n ?_
      rcases H with ⟨c_23, H⟩ | ⟨c_23, H⟩
      · have h_24 : r_21 = true := c_23
        refine CW.ct rfl h_24 ?_
        refine CW.exit ?_
        refine QW.then_x ?_
        refine QW.blk_x ?_
        refine QW.then_n ?_
        refine CW.region ?_
        refine WL.val Wanted.none (Runs.move rfl) ?_
        refine WL.val Wanted.none (Runs.add rfl rfl rfl) ?_
        refine WL.val Wanted.none (Runs.assign rfl) ?_
        refine WL.nil ?_
        exact QW.at [(0, .slice A0 n0 c0), (2, .int .i64 a2), (6, .int .i64 x_9), (7, .int .i64 x_10), (8, .int .i64 (IntKind.i64.wrap (x_11 + 1)))] ⟨rfl, rfl, rfl, rfl, rfl, trivial⟩ ⟨x_9, x_10, IntKind.i64.wrap (x_11 + 1), rfl, H, st_19⟩
      · have h_24 : r_21 = false := (Bool.eq_false_iff.mpr c_23)
        refine CW.cf rfl h_24 ?_
        refine CW.skip ?_
        refine QW.then_n ?_
        refine CW.seq ?_
        refine CW.region ?_
        refine WL.val Wanted.none (Runs.move rfl) ?_
        refine WL.val Wanted.none (Runs.assign rfl) ?_
        refine WL.val Wanted.none (Runs.assign rfl) ?_
        refine WL.nil ?_
        refine QW.then_n ?_
        refine CW.ret ?_
        refine QW.blk_r ?_
        refine QW.then_r ?_
        refine QW.then_r ?_
        refine QW.blk_r ?_
        refine QW.then_r ?_
        refine QW.ng_r ?_
        obtain ⟨rfl, rfl⟩ := H
        exact QW.ret2 rfl rfl rfl ⟨rfl, st_19.pick [] (by decide)⟩
    · have h_16 : (decide (x_11 < a2)) = false := (decide_eq_false c_15)
      refine CW.cf rfl h_16 ?_
      refine CW.exit ?_
      refine QW.then_x ?_
      refine QW.then_x ?_
      refine QW.blk_x ?_
      refine QW.then_n ?_
      refine CW.sub [(6, .int .i64 x_9), (7, .int .i64 x_10)] ⟨rfl, rfl, trivial⟩ ?_
      refine CW.seq ?_
      refine CW.region ?_
      refine WL.val Wanted.none (Runs.assign rfl) ?_
      refine WL.val Wanted.none (Runs.assign rfl) ?_
      refine WL.nil ?_
      refine QW.then_n ?_
      refine CW.ret ?_
      refine QW.ng_r ?_
      obtain ⟨rfl, rfl⟩ := H
      exact QW.ret2 rfl rfl rfl ⟨rfl, st_13.pick [] (by decide)⟩

/-! ### slices_Clone_s_byte_byte: function 50 -/
def slices_Clone_s_byte_byte.rel (l0 : List Int) (r0 : List Int) : Prop := (l0 = [] → r0 = []) ∧ (∃ m_7 : List Int, m_7 = ([] : List Int) ++ l0 ∧ (m_7.length ≤ 1099511627776 ∧ r0 = m_7))
set_option maxHeartbeats 4000000 in
set_option maxRecDepth 100000 in
theorem slices_Clone_s_byte_byte.calls (w : World) (l0 : List Int) (A0 : Option Addr) (n0 : Nat) (c0 : Nat) (hs0 : Src w A0 (iv .u8 l0)) (hn0 : n0 = l0.length) (hc0 : n0 ≤ c0) (r0 : List Int) (H : slices_Clone_s_byte_byte.rel l0 r0) :
    Calls Try.prog 50 #[.slice A0 n0 c0] w fun e w' => ∃ B0 q0 z0, z0 = r0.length ∧ e = .returned (.slice B0 z0 q0) ∧ St w w' [.sl B0 q0 z0 (iv .u8 r0) 5 1] := by
  rcases A0 with _ | A_
  · replace H := H.1 (nil_of_src hs0)
    refine CW.enter Try.func50 rfl (n := 8) rfl [.slice none n0 c0] (Nat.le_of_ble_eq_true rfl) ?_
    refine CW.sub [(0, .slice none n0 c0)] ⟨rfl, trivial⟩ ?_
    have st0 : St w w [] := St.refl w
    refine CW.seq ?_
    refine CW.region ?_
    refine WL.val Wanted.none (Runs.assign rfl) ?_
    refine WL.nil ?_
    refine QW.then_n ?_
    refine CW.seq ?_
    refine CW.seq ?_
    refine CW.region ?_
    refine WL.val Wanted.none (Runs.move rfl) ?_
    refine WL.val Wanted.none (Runs.eql_nil Try.underlying22 rfl rfl rfl) ?_
    refine WL.nil ?_
    refine QW.then_n ?_
    refine CW.ct rfl rfl ?_
    refine CW.seq ?_
    refine CW.region ?_
    refine WL.val Wanted.none (Runs.assign rfl) ?_
    refine WL.nil ?_
    refine QW.then_n ?_
    refine CW.ret ?_
    refine QW.then_r ?_
    have st_2 := st0.nil_sl 5 1
    have st_2 : St w w [.sl none 0 0 (iv .u8 ([] : List Int)) 5 1] := st_2
    obtain rfl := H
    exact QW.ret1 rfl rfl ⟨none, 0, 0, rfl, rfl, st_2.pick [0] (by decide)⟩
  · replace H := H.2
    refine CW.enter Try.func50 rfl (n := 8) rfl [.slice (some A_) n0 c0] (Nat.le_of_ble_eq_true rfl) ?_
    refine CW.sub [(0, .slice (some A_) n0 c0)] ⟨rfl, trivial⟩ ?_
    have st0 : St w w [] := St.refl w
    refine CW.seq ?_
    refine CW.region ?_
    refine WL.val Wanted.none (Runs.assign rfl) ?_
    refine WL.nil ?_
    refine QW.then_n ?_
    refine CW.seq ?_
    refine CW.seq ?_
    refine CW.region ?_
    refine WL.val Wanted.none (Runs.move rfl) ?_
    refine WL.val Wanted.none (Runs.eql_nil Try.underlying22 rfl rfl rfl) ?_
    refine WL.nil ?_
    refine QW.then_n ?_
    refine CW.cf rfl rfl ?_
    refine CW.skip ?_
    refine QW.then_n ?_
    refine CW.seq ?_
    refine CW.region ?_
    refine WL.buildSl0 st0 Try.underlying22 elem5 ?_
    intro B_3 w_4 st_5
    replace st_5 : St w w_4 [.sl (some ⟨B_3, 0, none⟩) 0 0 (iv .u8 ([] : List Int)) 5 1] := st_5
    refine WL.val Wanted.none (Runs.move rfl) ?_
    obtain ⟨m_7, e_8, H⟩ := H
    obtain ⟨z_9, H⟩ := H
    obtain ⟨n_12, hn_15⟩ : ∃ n_ : Nat, n_ = m_7.length := ⟨_, rfl⟩
    refine WL.append (i := 0) Wanted.none st_5 rfl Try.underlying22 elem5 rfl rfl (hs0.ext st_5) (by rw [iv_length]; exact (hn0).symm) (one_iv .u8 _) (by decide) (N := n_12) (by rw [hn_15, e_8, List.length_append]; exact congr (congrArg HAdd.hAdd (rfl)) (hn0)) (by rw [hn_15]; exact z_9) ?_
    intro A_10 c_11 w_13 st_14
    have st_14' : St w w_13 [.sl A_10 c_11 n_12 (iv .u8 m_7) 5 1] := by rw [e_8, ← iv_append .u8 ([] : List Int) l0]; exact st_14
    refine WL.val Wanted.none (Runs.assign rfl) ?_
    refine WL.nil ?_
    refine QW.then_n ?_
    refine CW.sub [(2, .slice A_10 n_12 c_11)] ⟨rfl, trivial⟩ ?_
    refine CW.ret ?_
    obtain rfl := H
    exact QW.ret1 rfl rfl ⟨A_10, c_11, n_12, hn_15, rfl, st_14'.pick [0] (by decide)⟩

/-! ### bitmap_Set: function 27 -/
def bitmap_Set.rel (l0 : List Int) (a1 : Int) (a2 : Bool) (r0 : List Int) (r1 : Int) : Prop := (∃ (r_5 : Bool), bitmap_inside.rel l0 a1 r_5 ∧ ((¬ (r_5 = true) ∧ r0 = [] ∧ r1 = 12) ∨ (¬ (¬ (r_5 = true)) ∧ (∃ (r_14 : List Int), slices_Clone_s_byte_byte.rel l0 r_14 ∧ ((0 ≤ (IntKind.i64.wrap (Int.tdiv a1 8)) ∧ (IntKind.i64.wrap (Int.tdiv a1 8)) < (r_14.length : Int)) ∧ (0 ≤ (Int.tmod a1 8) ∧ (∃ x_25 : Int, x_25 = bits .andNot .u8 (gn r_14 ((IntKind.i64.wrap (Int.tdiv a1 8)).toNat)) (shlI .u8 1 (Int.tmod a1 8)) ∧ ((0 ≤ (IntKind.i64.wrap (Int.tdiv a1 8)) ∧ (IntKind.i64.wrap (Int.tdiv a1 8)) < (r_14.length : Int)) ∧ (∃ m_33 : List Int, m_33 = List.set r_14 ((IntKind.i64.wrap (Int.tdiv a1 8)).toNat) x_25 ∧ ((a2 = true ∧ ((0 ≤ (IntKind.i64.wrap (Int.tdiv a1 8)) ∧ (IntKind.i64.wrap (Int.tdiv a1 8)) < (m_33.length : Int)) ∧ (0 ≤ (Int.tmod a1 8) ∧ (∃ x_45 : Int, x_45 = bits .or .u8 (gn m_33 ((IntKind.i64.wrap (Int.tdiv a1 8)).toNat)) (shlI .u8 1 (Int.tmod a1 8)) ∧ ((0 ≤ (IntKind.i64.wrap (Int.tdiv a1 8)) ∧ (IntKind.i64.wrap (Int.tdiv a1 8)) < (m_33.length : Int)) ∧ (∃ m_53 : List Int, m_53 = List.set m_33 ((IntKind.i64.wrap (Int.tdiv a1 8)).toNat) x_45 ∧ r0 = m_53 ∧ r1 = 0)))))) ∨ (¬ (a2 = true) ∧ r0 = m_33 ∧ r1 = 0)))))))))))
set_option maxHeartbeats 4000000 in
set_option maxRecDepth 100000 in
theorem bitmap_Set.calls (w : World) (l0 : List Int) (a1 : Int) (a2 : Bool) (A0 : Option Addr) (n0 : Nat) (c0 : Nat) (hs0 : Src w A0 (iv .u8 l0)) (hn0 : n0 = l0.length) (hc0 : n0 ≤ c0) (r0 : List Int) (r1 : Int) (H : bitmap_Set.rel l0 a1 a2 r0 r1) :
    Calls Try.prog 27 #[.slice A0 n0 c0, .int .i64 a1, .bool a2] w fun e w' => ∃ B0 q0 z0, z0 = r0.length ∧ e = .returned (.tuple #[.slice B0 z0 q0, .int .i64 r1]) ∧ St w w' [.sl B0 q0 z0 (iv .u8 r0) 5 1] := by
  refine CW.enter Try.func27 rfl (n := 37) rfl [.slice A0 n0 c0, .int .i64 a1, .bool a2] (Nat.le_of_ble_eq_true rfl) ?_
  refine CW.sub [(0, .slice A0 n0 c0), (1, .int .i64 a1), (2, .bool a2)] ⟨rfl, rfl, rfl, trivial⟩ ?_
  have st0 : St w w [] := St.refl w
  refine CW.seq ?_
  refine CW.region ?_
  refine WL.val Wanted.none (Runs.assign rfl) ?_
  refine WL.val Wanted.none (Runs.assign rfl) ?_
  refine WL.nil ?_
  refine QW.then_n ?_
  refine CW.seq ?_
  refine CW.seq ?_
  refine CW.region ?_
  refine WL.val Wanted.none (Runs.move rfl) ?_
  refine WL.val Wanted.none (Runs.move rfl) ?_
  obtain ⟨r_5, hr_1, H⟩ := H
  refine WL.call Wanted.none ent49 rfl (bitmap_inside.calls w l0 a1 A0 n0 c0 (hs0.ext st0) (hn0) (hc0) r_5 hr_1) ?_
  rintro _ w_2 ⟨rfl, sc_4⟩
  have st_3 : St w w_2 [] := st0.call sc_4
  refine ⟨_, rfl, ?_⟩
  refine WL.val Wanted.none (Runs.not rfl rfl) ?_
  refine WL.nil ?_
  refine QW.then_n ?_
  rcases H with ⟨c_6, H⟩ | ⟨c_6, H⟩
  · have h_7 : (!r_5) = true := (not_t (Bool.eq_false_iff.mpr c_6))
    refine CW.ct rfl h_7 ?_
    refine CW.seq ?_
    refine CW.region ?_
    refine WL.val Wanted.none (Runs.assign rfl) ?_
    refine WL.val Wanted.none (Runs.assign rfl) ?_
    refine WL.nil ?_
    refine QW.then_n ?_
    refine CW.ret ?_
    refine QW.then_r ?_
    have st_9 := st_3.nil_sl 5 1
    have st_9 : St w w_2 [.sl none 0 0 (iv .u8 ([] : List Int)) 5 1] := st_9
    obtain ⟨rfl, rfl⟩ := H
    exact QW.ret2 rfl rfl rfl ⟨none, 0, 0, rfl, rfl, st_9.pick [0] (by decide)⟩
  · have h_7 : (!r_5) = false := (not_f (Decidable.not_not.mp c_6))
    refine CW.cf rfl h_7 ?_
    refine CW.skip ?_
    refine QW.then_n ?_
    refine CW.seq ?_
    refine CW.region ?_
    refine WL.val Wanted.none (Runs.move rfl) ?_
    obtain ⟨r_14, hr_10, H⟩ := H
    refine WL.call Wanted.none ent50 rfl (slices_Clone_s_byte_byte.calls w_2 l0 A0 n0 c0 (hs0.ext st_3) (hn0) (hc0) r_14 hr_10) ?_
    rintro _ w_11 ⟨A_15, c_16, n_17, hn_18, rfl, sc_13⟩
    have st_12 : St w w_11 [.sl A_15 c_16 n_17 (iv .u8 r_14) 5 1] := st_3.call sc_13
    refine ⟨_, rfl, ?_⟩
    refine WL.val Wanted.none (Runs.assign rfl) ?_
    refine WL.nil ?_
    refine QW.then_n ?_
    refine CW.sub [(1, .int .i64 a1), (2, .bool a2), (6, .slice none 0 0), (7, .int .i64 0), (8, .slice A_15 n_17 c_16)] ⟨rfl, rfl, rfl, rfl, rfl, trivial⟩ ?_
    refine CW.seq ?_
    refine CW.region_qt 10 wide (by kernel_rfl) st_12 ?_
    refine HL.val Wanted.none (fun wq sq => (Runs.move rfl)) ?_
    refine HL.val Wanted.none (fun wq sq => (Runs.move rfl)) ?_
    refine HL.val Wanted.none (fun wq sq => (Runs.quo rfl rfl (by decide) rfl)) ?_
    obtain ⟨⟨p_20, q_21⟩, H⟩ := H
    obtain ⟨a_22, e_23⟩ := (st_12.src_sl (k := 0) rfl).addr_iv ((IntKind.i64.wrap (Int.tdiv a1 8)).toNat) (by omega)
    refine HL.val Wanted.none (fun wq sq => (Runs.indexAddr Try.underlying22 cells5 (by decide) rfl e_23 rfl p_20 (by rw [hn_18]; exact q_21) (o := (IntKind.i64.wrap (Int.tdiv a1 8)).toNat) (by first | rfl | omega))) ?_
    refine HL.val Wanted.none (fun wq sq => (Runs.load nagg5 rfl ((sq.src_sl (k := 0) rfl).cell_iv e_23 (by omega)))) ?_
    refine HL.val Wanted.none (fun wq sq => (Runs.move rfl)) ?_
    refine HL.val Wanted.none (fun wq sq => (Runs.rem rfl rfl (by decide) rfl)) ?_
    obtain ⟨z_24, H⟩ := H
    refine HL.val Wanted.none (fun wq sq => (Runs.shl rfl rfl z_24 rfl)) ?_
    obtain ⟨x_25, e_26, H⟩ := H
    refine HL.val Wanted.none (fun wq sq => (Runs.bandNot rfl rfl e_26)) ?_
    obtain ⟨⟨p_27, q_28⟩, H⟩ := H
    obtain ⟨a_29, e_30⟩ := (st_12.src_sl (k := 0) rfl).addr_iv ((IntKind.i64.wrap (Int.tdiv a1 8)).toNat) (by omega)
    refine HL.val Wanted.none (fun wq sq => (Runs.indexAddr Try.underlying22 cells5 (by decide) rfl e_30 rfl p_27 (by rw [hn_18]; exact q_28) (o := (IntKind.i64.wrap (Int.tdiv a1 8)).toNat) (by first | rfl | omega))) ?_
    refine HL.nil (fun w_31 st_32 => ?_)
    obtain ⟨m_33, e_34, H⟩ := H
    refine WL.store_sl (i := 0) st_32 rfl cells5 rfl e_30 (by rw [iv_length]; omega) rfl rfl ?_
    intro w_35 st_36
    have hn_37 : n_17 = m_33.length := by rw [e_34, List.length_set]; exact hn_18
    have st_36' : St w w_35 [.sl A_15 c_16 n_17 (iv .u8 m_33) 5 1] := by rw [e_34, ← iv_set .u8 r_14 ((IntKind.i64.wrap (Int.tdiv a1 8)).toNat) x_25]; exact st_36
    refine WL.nil ?_
    refine QW.then_n ?_
    refine CW.sub [(1, .int .i64 a1), (2, .bool a2), (6, .slice none 0 0), (7, .int .i64 0), (8, .slice A_15 n_17 c_16)] ⟨rfl, rfl, rfl, rfl, rfl, trivial⟩ ?_
    refine CW.seq ?_
    refine CW.seq ?_
    refine CW.region ?_
    refine WL.val Wanted.none (Runs.move rfl) ?_
    refine WL.nil ?_
    refine QW.then_n ?_
    rcases H with ⟨c_38, H⟩ | ⟨c_38, H⟩
    · have h_39 : a2 = true := c_38
      refine CW.ct rfl h_39 ?_
      refine CW.region_qt 10 wide (by kernel_rfl) st_36' ?_
      refine HL.val Wanted.none (fun wq sq => (Runs.move rfl)) ?_
      refine HL.val Wanted.none (fun wq sq => (Runs.move rfl)) ?_
      refine HL.val Wanted.none (fun wq sq => (Runs.quo rfl rfl (by decide) rfl)) ?_
      obtain ⟨⟨p_40, q_41⟩, H⟩ := H
      obtain ⟨a_42, e_43⟩ := (st_36'.src_sl (k := 0) rfl).addr_iv ((IntKind.i64.wrap (Int.tdiv a1 8)).toNat) (by omega)
      refine HL.val Wanted.none (fun wq sq => (Runs.indexAddr Try.underlying22 cells5 (by decide) rfl e_43 rfl p_40 (by rw [hn_37]; exact q_41) (o := (IntKind.i64.wrap (Int.tdiv a1 8)).toNat) (by first | rfl | omega))) ?_
      refine HL.val Wanted.none (fun wq sq => (Runs.load nagg5 rfl ((sq.src_sl (k := 0) rfl).cell_iv e_43 (by omega)))) ?_
      refine HL.val Wanted.none (fun wq sq => (Runs.move rfl)) ?_
      refine HL.val Wanted.none (fun wq sq => (Runs.rem rfl rfl (by decide) rfl)) ?_
      obtain ⟨z_44, H⟩ := H
      refine HL.val Wanted.none (fun wq sq => (Runs.shl rfl rfl z_44 rfl)) ?_
      obtain ⟨x_45, e_46, H⟩ := H
      refine HL.val Wanted.none (fun wq sq => (Runs.bor rfl rfl e_46)) ?_
      obtain ⟨⟨p_47, q_48⟩, H⟩ := H
      obtain ⟨a_49, e_50⟩ := (st_36'.src_sl (k := 0) rfl).addr_iv ((IntKind.i64.wrap (Int.tdiv a1 8)).toNat) (by omega)
      refine HL.val Wanted.none (fun wq sq => (Runs.indexAddr Try.underlying22 cells5 (by decide) rfl e_50 rfl p_47 (by rw [hn_37]; exact q_48) (o := (IntKind.i64.wrap (Int.tdiv a1 8)).toNat) (by first | rfl | omega))) ?_
      refine HL.nil (fun w_51 st_52 => ?_)
      obtain ⟨m_53, e_54, H⟩ := H
      refine WL.store_sl (i := 0) st_52 rfl cells5 rfl e_50 (by rw [iv_length]; omega) rfl rfl ?_
      intro w_55 st_56
      have hn_57 : n_17 = m_53.length := by rw [e_54, List.length_set]; exact hn_37
      have st_56' : St w w_55 [.sl A_15 c_16 n_17 (iv .u8 m_53) 5 1] := by rw [e_54, ← iv_set .u8 m_33 ((IntKind.i64.wrap (Int.tdiv a1 8)).toNat) x_45]; exact st_56
      refine WL.nil ?_
      refine QW.then_n ?_
      refine CW.sub [(6, .slice none 0 0), (7, .int .i64 0), (8, .slice A_15 n_17 c_16)] ⟨rfl, rfl, rfl, trivial⟩ ?_
      refine CW.seq ?_
      refine CW.region ?_
      refine WL.val Wanted.none (Runs.move rfl) ?_
      refine WL.val Wanted.none (Runs.assign rfl) ?_
      refine WL.val Wanted.none (Runs.assign rfl) ?_
      refine WL.nil ?_
      refine QW.then_n ?_
      refine CW.ret ?_
      obtain ⟨rfl, rfl⟩ := H
      exact QW.ret2 rfl rfl rfl ⟨A_15, c_16, n_17, hn_57, rfl, st_56'.pick [0] (by decide)⟩
    · have h_39 : a2 = false := (Bool.eq_false_iff.mpr c_38)
      refine CW.cf rfl h_39 ?_
      refine CW.skip ?_
      refine QW.then_n ?_
      refine CW.seq ?_
      refine CW.region ?_
      refine WL.val Wanted.none (Runs.move rfl) ?_
      refine WL.val Wanted.none (Runs.assign rfl) ?_
      refine WL.val Wanted.none (Runs.assign rfl) ?_
      refine WL.nil ?_
      refine QW.then_n ?_
      refine CW.ret ?_
      obtain ⟨rfl, rfl⟩ := H
      exact QW.ret2 rfl rfl rfl ⟨A_15, c_16, n_17, hn_37, rfl, st_36'.pick [0] (by decide)⟩

/-! ### bits_OnesCount8: function 53 -/
def bits_OnesCount8.rel (a0 : Int) (r0 : Int) : Prop := ((0 ≤ a0 ∧ a0 < (str_df7b43d5.size : Int)) ∧ r0 = IntKind.i64.wrap (bn str_df7b43d5 ((a0).toNat)))
set_option maxHeartbeats 4000000 in
set_option maxRecDepth 100000 in
theorem bits_OnesCount8.calls (w : World) (a0 : Int)   (r0 : Int) (H : bits_OnesCount8.rel a0 r0) :
    Calls Try.prog 53 #[.int .u8 a0] w fun e w' => e = .returned (.int .i64 r0) ∧ St w w' [] := by
  refine CW.enter Try.func53 rfl (n := 6) rfl [.int .u8 a0] (Nat.le_of_ble_eq_true rfl) ?_
  refine CW.sub [(0, .int .u8 a0)] ⟨rfl, trivial⟩ ?_
  have st0 : St w w [] := St.refl w
  refine CW.seq ?_
  refine CW.region ?_
  refine WL.val Wanted.none (Runs.assign rfl) ?_
  refine WL.nil ?_
  refine QW.then_n ?_
  refine CW.seq ?_
  refine CW.region ?_
  refine WL.val Wanted.none (Runs.move rfl) ?_
  obtain ⟨⟨p_1, q_2⟩, H⟩ := H
  refine WL.val Wanted.none (Runs.index_str Try.underlying9 rfl rfl p_1 q_2 (j := (a0).toNat) (by first | rfl | omega)) ?_
  refine WL.val Wanted.none (Runs.conv Try.underlying3 ⟨_, Try.underlying5⟩ rfl rfl) ?_
  refine WL.val Wanted.none (Runs.assign rfl) ?_
  refine WL.nil ?_
  refine QW.then_n ?_
  refine CW.ret ?_
  obtain rfl := H
  exact QW.ret1 rfl rfl ⟨rfl, st0.pick [] (by decide)⟩

/-! ### bitmap_Count: function 31 -/
def bitmap_Count.L1 (l0 : List Int) (a1 : Int) (a2 : Int) (r0 : Int) (r1 : Int) : Nat → Int → Int → Prop
  | 0, _, _ => False
  | kL1 + 1, x_9, x_10 => ((x_10 < (l0.length : Int) ∧ ((0 ≤ x_10 ∧ x_10 < (l0.length : Int)) ∧ (∃ x_20 : Int, x_20 = maxI (IntKind.i64.wrap (a1 - (IntKind.i64.wrap (8 * x_10)))) 0 ∧ (∃ x_22 : Int, x_22 = maxI (IntKind.i64.wrap (a2 - (IntKind.i64.wrap (8 * x_10)))) 0 ∧ (0 ≤ (minI x_22 8) ∧ (∃ x_25 : Int, x_25 = bits .and .u8 (gn l0 ((x_10).toNat)) (IntKind.u8.wrap ((shlI .u8 1 (minI x_22 8)) - 1)) ∧ (0 ≤ (minI x_20 8) ∧ (∃ x_28 : Int, x_28 = bits .andNot .u8 x_25 (IntKind.u8.wrap ((shlI .u8 1 (minI x_20 8)) - 1)) ∧ (∃ (r_34 : Int), bits_OnesCount8.rel x_28 r_34 ∧ bitmap_Count.L1 l0 a1 a2 r0 r1 kL1 (IntKind.i64.wrap (x_9 + r_34)) (IntKind.i64.wrap (x_10 + 1))))))))))) ∨ (¬ (x_10 < (l0.length : Int)) ∧ r0 = x_9 ∧ r1 = 0))
def bitmap_Count.rel (l0 : List Int) (a1 : Int) (a2 : Int) (r0 : Int) (r1 : Int) : Prop := (∃ (r_5 : Bool), bitmap_row.rel l0 a1 a2 r_5 ∧ ((¬ (r_5 = true) ∧ r0 = 0 ∧ r1 = 12) ∨ (¬ (¬ (r_5 = true)) ∧ (∃ k_ : Nat, bitmap_Count.L1 l0 a1 a2 r0 r1 k_ 0 0))))
set_option maxHeartbeats 4000000 in
set_option maxRecDepth 100000 in
theorem bitmap_Count.calls (w : World) (l0 : List Int) (a1 : Int) (a2 : Int) (A0 : Option Addr) (n0 : Nat) (c0 : Nat) (hs0 : Src w A0 (iv .u8 l0)) (hn0 : n0 = l0.length) (hc0 : n0 ≤ c0) (r0 : Int) (r1 : Int) (H : bitmap_Count.rel l0 a1 a2 r0 r1) :
    Calls Try.prog 31 #[.slice A0 n0 c0, .int .i64 a1, .int .i64 a2] w fun e w' => e = .returned (.tuple #[.int .i64 r0, .int .i64 r1]) ∧ St w w' [] := by
  refine CW.enter Try.func31 rfl (n := 51) rfl [.slice A0 n0 c0, .int .i64 a1, .int .i64 a2] (Nat.le_of_ble_eq_true rfl) ?_
  refine CW.sub [(0, .slice A0 n0 c0), (1, .int .i64 a1), (2, .int .i64 a2)] ⟨rfl, rfl, rfl, trivial⟩ ?_
  have st0 : St w w [] := St.refl w
  refine CW.seq ?_
  refine CW.region ?_
  refine WL.val Wanted.none (Runs.assign rfl) ?_
  refine WL.val Wanted.none (Runs.assign rfl) ?_
  refine WL.nil ?_
  refine QW.then_n ?_
  refine CW.seq ?_
  refine CW.seq ?_
  refine CW.region ?_
  refine WL.val Wanted.none (Runs.move rfl) ?_
  refine WL.val Wanted.none (Runs.move rfl) ?_
  refine WL.val Wanted.none (Runs.move rfl) ?_
  obtain ⟨r_5, hr_1, H⟩ := H
  refine WL.call Wanted.none ent52 rfl (bitmap_row.calls w l0 a1 a2 A0 n0 c0 (hs0.ext st0) (hn0) (hc0) r_5 hr_1) ?_
  rintro _ w_2 ⟨rfl, sc_4⟩
  have st_3 : St w w_2 [] := st0.call sc_4
  refine ⟨_, rfl, ?_⟩
  refine WL.val Wanted.none (Runs.not rfl rfl) ?_
  refine WL.nil ?_
  refine QW.then_n ?_
  rcases H with ⟨c_6, H⟩ | ⟨c_6, H⟩
  · have h_7 : (!r_5) = true := (not_t (Bool.eq_false_iff.mpr c_6))
    refine CW.ct rfl h_7 ?_
    refine CW.seq ?_
    refine CW.region ?_
    refine WL.val Wanted.none (Runs.assign rfl) ?_
    refine WL.val Wanted.none (Runs.assign rfl) ?_
    refine WL.nil ?_
    refine QW.then_n ?_
    refine CW.ret ?_
    refine QW.then_r ?_
    obtain ⟨rfl, rfl⟩ := H
    exact QW.ret2 rfl rfl rfl ⟨rfl, st_3.pick [] (by decide)⟩
  · have h_7 : (!r_5) = false := (not_f (Decidable.not_not.mp c_6))
    refine CW.cf rfl h_7 ?_
    refine CW.skip ?_
    refine QW.then_n ?_
    refine CW.seq ?_
    refine CW.region ?_
    refine WL.val Wanted.none (Runs.assign rfl) ?_
    refine WL.nil ?_
    refine QW.then_n ?_
    refine CW.seq ?_
    refine CW.seq ?_
    refine CW.region ?_
    refine WL.val Wanted.none (Runs.move rfl) ?_
    refine WL.val Wanted.none (Runs.len_sl Try.underlying22 rfl (by rw [hn0])) ?_
    refine WL.val Wanted.none (Runs.move rfl) ?_
    refine WL.nil ?_
    refine QW.then_n ?_
    refine CW.sub [(1, .int .i64 a1), (2, .int .i64 a2), (6, .int .i64 0), (7, .int .i64 0), (8, .int .i64 0), (18, .slice A0 n0 c0), (19, .int .i64 (l0.length : Int)), (20, .int .i64 0)] ⟨rfl, rfl, rfl, rfl, rfl, rfl, rfl, rfl, trivial⟩ ?_
    refine CW.block ?_
    obtain ⟨k_8, H⟩ := H
    refine CW.sub [(1, .int .i64 a1), (2, .int .i64 a2), (6, .int .i64 0), (7, .int .i64 0), (8, .int .i64 0), (18, .slice A0 n0 c0), (19, .int .i64 (l0.length : Int)), (20, .int .i64 0)] ⟨rfl, rfl, rfl, rfl, rfl, rfl, rfl, rfl, trivial⟩ ?_
    refine CW.loop (fun kL1 l_ w_ => ∃ (x_9 : Int) (x_10 : Int), l_ = [(1, .int .i64 a1), (2, .int .i64 a2), (6, .int .i64 0), (7, .int .i64 0), (8, .int .i64 x_9), (18, .slice A0 n0 c0), (19, .int .i64 (l0.length : Int)), (20, .int .i64 x_10)] ∧ bitmap_Count.L1 l0 a1 a2 r0 r1 kL1 x_9 x_10 ∧ St w w_ []) (k := k_8) ⟨0, 0, rfl, H, st_3⟩ (fun _ _ h => by obtain ⟨_, _, _, h, _⟩ := h; exact h.elim) ?_
    rintro kL1 l_13 w_11 ⟨x_9, x_10, rfl, H, st_12⟩
    refine CW.seq ?_
    refine CW.region ?_
    refine WL.val Wanted.none (Runs.lss rfl rfl rfl) ?_
    refine WL.nil ?_
    refine QW.then_n ?_
    refine CW.seq ?_
    rcases H with ⟨c_14, H⟩ | ⟨c_14, H⟩
    · have h_15 : (decide (x_10 < (l0.length : Int))) = true := (decide_eq_true c_14)
      refine CW.ct rfl h_15 ?_
      refine CW.skip ?_
      refine QW.then_n ?_
      refine CW.seq ?_
      refine CW.block ?_
      refine CW.seq ?_
      refine CW.region ?_
      refine WL.val Wanted.none (Runs.move rfl) ?_
      obtain ⟨⟨p_16, q_17⟩, H⟩ := H
      obtain ⟨a_18, e_19⟩ := (hs0.ext st_12).addr_iv ((x_10).toNat) (by omega)
      refine WL.val Wanted.none (Runs.indexAddr Try.underlying22 cells5 (by decide) rfl e_19 rfl p_16 (by rw [hn0]; exact q_17) (o := (x_10).toNat) (by first | rfl | omega)) ?_
      refine WL.val Wanted.none (Runs.load nagg5 rfl ((hs0.ext st_12).cell_iv e_19 (by omega))) ?_
      refine WL.val Wanted.none (Runs.assign rfl) ?_
      refine WL.val Wanted.none (Runs.assign rfl) ?_
      refine WL.nil ?_
      refine QW.then_n ?_
      refine CW.seq ?_
      refine CW.region ?_
      refine WL.val Wanted.none (Runs.move rfl) ?_
      refine WL.val Wanted.none (Runs.move rfl) ?_
      refine WL.val Wanted.none (Runs.mul rfl rfl rfl) ?_
      refine WL.val Wanted.none (Runs.sub rfl rfl rfl) ?_
      obtain ⟨x_20, e_21, H⟩ := H
      refine WL.val Wanted.none (Runs.max2 rfl rfl e_21) ?_
      refine WL.val Wanted.none (Runs.min2 rfl rfl rfl) ?_
      refine WL.val Wanted.none (Runs.assign rfl) ?_
      refine WL.nil ?_
      refine QW.then_n ?_
      refine CW.seq ?_
      refine CW.region ?_
      refine WL.val Wanted.none (Runs.move rfl) ?_
      refine WL.val Wanted.none (Runs.move rfl) ?_
      refine WL.val Wanted.none (Runs.mul rfl rfl rfl) ?_
      refine WL.val Wanted.none (Runs.sub rfl rfl rfl) ?_
      obtain ⟨x_22, e_23, H⟩ := H
      refine WL.val Wanted.none (Runs.max2 rfl rfl e_23) ?_
      refine WL.val Wanted.none (Runs.min2 rfl rfl rfl) ?_
      refine WL.val Wanted.none (Runs.assign rfl) ?_
      refine WL.nil ?_
      refine QW.then_n ?_
      refine CW.region_qa wide (by kernel_rfl) st_12 ?_
      refine HL.val Wanted.none (fun wq sq => (Runs.move rfl)) ?_
      refine HL.val Wanted.none (fun wq sq => (Runs.move rfl)) ?_
      refine HL.val Wanted.none (fun wq sq => (Runs.move rfl)) ?_
      obtain ⟨z_24, H⟩ := H
      refine HL.val Wanted.none (fun wq sq => (Runs.shl rfl rfl z_24 rfl)) ?_
      refine HL.val Wanted.none (fun wq sq => (Runs.sub rfl rfl rfl)) ?_
      obtain ⟨x_25, e_26, H⟩ := H
      refine HL.val Wanted.none (fun wq sq => (Runs.band rfl rfl e_26)) ?_
      refine HL.val Wanted.none (fun wq sq => (Runs.move rfl)) ?_
      obtain ⟨z_27, H⟩ := H
      refine HL.val Wanted.none (fun wq sq => (Runs.shl rfl rfl z_27 rfl)) ?_
      refine HL.val Wanted.none (fun wq sq => (Runs.sub rfl rfl rfl)) ?_
      obtain ⟨x_28, e_29, H⟩ := H
      refine HL.val Wanted.none (fun wq sq => (Runs.bandNot rfl rfl e_29)) ?_
      obtain ⟨r_34, hr_30, H⟩ := H
      refine HL.call Wanted.none ent53 rfl (fun wq sq => (bits_OnesCount8.calls wq x_28 r_34 hr_30).mono (by rintro _ _ ⟨rfl, sc⟩; exact ⟨rfl, sq.call sc⟩)) ?_
      refine HL.val Wanted.none (fun wq sq => (Runs.add rfl rfl rfl)) ?_
      refine HL.val Wanted.none (fun wq sq => (Runs.assign rfl)) ?_
      refine HL.nil (fun w_35 st_36 => ?_)
      refine WL.nil ?_
      refine QW.blk_n ?_
      refine QW.then_n ?_
      refine CW.region ?_
      refine WL.val Wanted.none (Runs.add rfl rfl rfl) ?_
      refine WL.val Wanted.none (Runs.move rfl) ?_
      refine WL.nil ?_
      exact QW.at [(1, .int .i64 a1), (2, .int .i64 a2), (6, .int .i64 0), (7, .int .i64 0), (8, .int .i64 (IntKind.i64.wrap (x_9 + r_34))), (18, .slice A0 n0 c0), (19, .int .i64 (l0.length : Int)), (20, .int .i64 (IntKind.i64.wrap (x_10 + 1)))] ⟨rfl, rfl, rfl, rfl, rfl, rfl, rfl, rfl, trivial⟩ ⟨IntKind.i64.wrap (x_9 + r_34), IntKind.i64.wrap (x_10 + 1), rfl, H, st_36⟩
    · have h_15 : (decide (x_10 < (l0.length : Int))) = false := (decide_eq_false c_14)
      refine CW.cf rfl h_15 ?_
      refine CW.exit ?_
      refine QW.then_x ?_
      refine QW.then_x ?_
      refine QW.blk_x ?_
      refine QW.then_n ?_
      refine CW.sub [(6, .int .i64 0), (7, .int .i64 0), (8, .int .i64 x_9)] ⟨rfl, rfl, rfl, trivial⟩ ?_
      refine CW.seq ?_
      refine CW.region ?_
      refine WL.val Wanted.none (Runs.move rfl) ?_
      refine WL.val Wanted.none (Runs.assign rfl) ?_
      refine WL.val Wanted.none (Runs.assign rfl) ?_
      refine WL.nil ?_
      refine QW.then_n ?_
      refine CW.ret ?_
      obtain ⟨rfl, rfl⟩ := H
      exact QW.ret2 rfl rfl rfl ⟨rfl, st_12.pick [] (by decide)⟩

/-! ### reliquarylaw18_awake: function 24 -/
def reliquarylaw18_awake.rel   : Prop := (∃ (r_9 : Int) (r_10 : Int), bitmap_First.rel [255, 254] 0 16 r_9 r_10 ∧ (∃ (r_19 : List Int) (r_25 : Int), bitmap_Set.rel [0] 3 true r_19 r_25 ∧ (∃ (r_30 : Bool) (r_31 : Int), bitmap_Get.rel r_19 3 r_30 r_31 ∧ (∃ (r_40 : Int) (r_41 : Int), bitmap_Count.rel [255, 1] 4 16 r_40 r_41 ∧ (r_9 = 8 ∧ (r_10 = 0 ∧ ((r_19.length : Int) = 1 ∧ ((0 ≤ (0 : Int) ∧ (0 : Int) < (r_19.length : Int)) ∧ ((gn r_19 0) = 8 ∧ (r_25 = 0 ∧ (r_30 = true ∧ (r_31 = 0 ∧ (r_40 = 5 ∧ r_41 = 0)))))))))))))
set_option maxHeartbeats 4000000 in
set_option maxRecDepth 100000 in
theorem reliquarylaw18_awake.calls (w : World)     (H : reliquarylaw18_awake.rel  ) :
    Calls Try.prog 24 #[] w fun e w' => e = .returned (.bool true) ∧ Below w.heap.size w w' := by
  refine CW.enter Try.func24 rfl (n := 65) rfl [] (Nat.le_of_ble_eq_true rfl) ?_
  refine CW.sub [] trivial ?_
  have st0 : St w w [] := St.refl w
  refine CW.seq ?_
  refine CW.region ?_
  refine WL.val Wanted.none (Runs.assign rfl) ?_
  refine WL.nil ?_
  refine QW.then_n ?_
  refine CW.seq ?_
  refine CW.region ?_
  refine WL.buildSl [.int .u8 255, .int .u8 254] st0 Try.underlying22 elem5 rfl rfl (by decide) (by decide) (by simp [Value.cells]) ?_
  intro B_1 w_2 st_3
  replace st_3 : St w w_2 [.sl (some ⟨B_1, 0, none⟩) 2 2 (iv .u8 [255, 254]) 5 1] := st_3
  obtain ⟨r_9, r_10, hr_5, H⟩ := H
  refine WL.call Wanted.none ent29 rfl (bitmap_First.calls w_2 [255, 254] 0 16 (some ⟨B_1, 0, none⟩) 2 2 (st_3.src_sl (k := 0) rfl) (rfl) (st_3.cap (i := 0) rfl) r_9 r_10 hr_5) ?_
  rintro _ w_6 ⟨rfl, sc_8⟩
  have st_7 : St w w_6 [.sl (some ⟨B_1, 0, none⟩) 2 2 (iv .u8 [255, 254]) 5 1] := st_3.call sc_8
  refine ⟨_, rfl, ?_⟩
  refine WL.val Wanted.none (Runs.move rfl) ?_
  refine WL.val Wanted.none (Runs.extract rfl rfl) ?_
  refine WL.val Wanted.none (Runs.extract rfl rfl) ?_
  refine WL.val Wanted.none (Runs.assign rfl) ?_
  refine WL.val Wanted.none (Runs.assign rfl) ?_
  refine WL.nil ?_
  refine QW.then_n ?_
  refine CW.seq ?_
  refine CW.region ?_
  refine WL.buildSl [.int .u8 0] st_7 Try.underlying22 elem5 rfl rfl (by decide) (by decide) (by simp [Value.cells]) ?_
  intro B_11 w_12 st_13
  replace st_13 : St w w_12 [.sl (some ⟨B_11, 0, none⟩) 1 1 (iv .u8 [0]) 5 1, .sl (some ⟨B_1, 0, none⟩) 2 2 (iv .u8 [255, 254]) 5 1] := st_13
  obtain ⟨r_19, r_25, hr_15, H⟩ := H
  refine WL.call Wanted.none ent27 rfl (bitmap_Set.calls w_12 [0] 3 true (some ⟨B_11, 0, none⟩) 1 1 (st_13.src_sl (k := 0) rfl) (rfl) (st_13.cap (i := 0) rfl) r_19 r_25 hr_15) ?_
  rintro _ w_16 ⟨A_20, c_21, n_22, hn_23, rfl, sc_18⟩
  have st_17 : St w w_16 [.sl A_20 c_21 n_22 (iv .u8 r_19) 5 1, .sl (some ⟨B_11, 0, none⟩) 1 1 (iv .u8 [0]) 5 1, .sl (some ⟨B_1, 0, none⟩) 2 2 (iv .u8 [255, 254]) 5 1] := st_13.call sc_18
  refine ⟨_, rfl, ?_⟩
  refine WL.val Wanted.none (Runs.move rfl) ?_
  refine WL.val Wanted.none (Runs.extract rfl rfl) ?_
  refine WL.val Wanted.none (Runs.extract rfl rfl) ?_
  refine WL.val Wanted.none (Runs.assign rfl) ?_
  refine WL.val Wanted.none (Runs.assign rfl) ?_
  refine WL.nil ?_
  refine QW.then_n ?_
  refine CW.sub [(0, .bool false), (1, .int .i64 r_9), (2, .int .i64 r_10), (3, .slice A_20 n_22 c_21), (4, .int .i64 r_25)] ⟨rfl, rfl, rfl, rfl, rfl, trivial⟩ ?_
  refine CW.seq ?_
  refine CW.region ?_
  refine WL.val Wanted.none (Runs.move rfl) ?_
  obtain ⟨r_30, r_31, hr_26, H⟩ := H
  refine WL.call Wanted.none ent25 rfl (bitmap_Get.calls w_16 r_19 3 A_20 n_22 c_21 (st_17.src_sl (k := 0) rfl) (hn_23) (st_17.cap (i := 0) rfl) r_30 r_31 hr_26) ?_
  rintro _ w_27 ⟨rfl, sc_29⟩
  have st_28 : St w w_27 [.sl A_20 c_21 n_22 (iv .u8 r_19) 5 1, .sl (some ⟨B_11, 0, none⟩) 1 1 (iv .u8 [0]) 5 1, .sl (some ⟨B_1, 0, none⟩) 2 2 (iv .u8 [255, 254]) 5 1] := st_17.call sc_29
  refine ⟨_, rfl, ?_⟩
  refine WL.val Wanted.none (Runs.move rfl) ?_
  refine WL.val Wanted.none (Runs.extract rfl rfl) ?_
  refine WL.val Wanted.none (Runs.extract rfl rfl) ?_
  refine WL.val Wanted.none (Runs.assign rfl) ?_
  refine WL.val Wanted.none (Runs.assign rfl) ?_
  refine WL.nil ?_
  refine QW.then_n ?_
  refine CW.seq ?_
  refine CW.region ?_
  refine WL.buildSl [.int .u8 255, .int .u8 1] st_28 Try.underlying22 elem5 rfl rfl (by decide) (by decide) (by simp [Value.cells]) ?_
  intro B_32 w_33 st_34
  replace st_34 : St w w_33 [.sl (some ⟨B_32, 0, none⟩) 2 2 (iv .u8 [255, 1]) 5 1, .sl A_20 c_21 n_22 (iv .u8 r_19) 5 1, .sl (some ⟨B_11, 0, none⟩) 1 1 (iv .u8 [0]) 5 1, .sl (some ⟨B_1, 0, none⟩) 2 2 (iv .u8 [255, 254]) 5 1] := st_34
  obtain ⟨r_40, r_41, hr_36, H⟩ := H
  refine WL.call Wanted.none ent31 rfl (bitmap_Count.calls w_33 [255, 1] 4 16 (some ⟨B_32, 0, none⟩) 2 2 (st_34.src_sl (k := 0) rfl) (rfl) (st_34.cap (i := 0) rfl) r_40 r_41 hr_36) ?_
  rintro _ w_37 ⟨rfl, sc_39⟩
  have st_38 : St w w_37 [.sl (some ⟨B_32, 0, none⟩) 2 2 (iv .u8 [255, 1]) 5 1, .sl A_20 c_21 n_22 (iv .u8 r_19) 5 1, .sl (some ⟨B_11, 0, none⟩) 1 1 (iv .u8 [0]) 5 1, .sl (some ⟨B_1, 0, none⟩) 2 2 (iv .u8 [255, 254]) 5 1] := st_34.call sc_39
  refine ⟨_, rfl, ?_⟩
  refine WL.val Wanted.none (Runs.move rfl) ?_
  refine WL.val Wanted.none (Runs.extract rfl rfl) ?_
  refine WL.val Wanted.none (Runs.extract rfl rfl) ?_
  refine WL.val Wanted.none (Runs.assign rfl) ?_
  refine WL.val Wanted.none (Runs.assign rfl) ?_
  refine WL.nil ?_
  refine QW.then_n ?_
  refine CW.sub [(0, .bool false), (1, .int .i64 r_9), (2, .int .i64 r_10), (3, .slice A_20 n_22 c_21), (4, .int .i64 r_25), (5, .bool r_30), (6, .int .i64 r_31), (7, .int .i64 r_40), (8, .int .i64 r_41)] ⟨rfl, rfl, rfl, rfl, rfl, rfl, rfl, rfl, rfl, trivial⟩ ?_
  refine CW.seq ?_
  refine CW.region ?_
  refine WL.val Wanted.none (Runs.move rfl) ?_
  refine WL.val Wanted.none (Runs.eql rfl rfl rfl) ?_
  refine WL.val Wanted.none (Runs.move rfl) ?_
  obtain ⟨c_42, H⟩ := H
  have h_43 : (r_9 == 8) = true := (beq_iff_eq.mpr c_42)
  refine WL.on ?_ ?_; exact Wanted.guard (dj := 31) (by rfl) (evb (by rfl) h_43) (by rfl)
  refine WL.val Wanted.none (Runs.move rfl) ?_
  refine WL.on ?_ ?_; exact Wanted.guard (dj := 31) (by rfl) (evb (by rfl) h_43) (by rfl)
  refine WL.val Wanted.none (Runs.eql rfl rfl rfl) ?_
  refine WL.val Wanted.none (Runs.pick_t (evb rfl h_43) rfl) ?_
  refine WL.val Wanted.none (Runs.move rfl) ?_
  obtain ⟨c_44, H⟩ := H
  have h_45 : (r_10 == 0) = true := (beq_iff_eq.mpr c_44)
  refine WL.on ?_ ?_; exact Wanted.guard (dj := 35) (by rfl) (evb (by rfl) h_45) (by rfl)
  refine WL.val Wanted.none (Runs.move rfl) ?_
  refine WL.on ?_ ?_; exact Wanted.guard (dj := 35) (by rfl) (evb (by rfl) h_45) (by rfl)
  refine WL.val Wanted.none (Runs.len_sl Try.underlying22 rfl (by rw [hn_23])) ?_
  refine WL.on ?_ ?_; exact Wanted.guard (dj := 35) (by rfl) (evb (by rfl) h_45) (by rfl)
  refine WL.val Wanted.none (Runs.eql rfl rfl rfl) ?_
  refine WL.val Wanted.none (Runs.pick_t (evb rfl h_45) rfl) ?_
  refine WL.val Wanted.none (Runs.move rfl) ?_
  obtain ⟨c_46, H⟩ := H
  have h_47 : ((r_19.length : Int) == 1) = true := (beq_iff_eq.mpr c_46)
  refine WL.on ?_ ?_; exact Wanted.guard (dj := 40) (by rfl) (evb (by rfl) h_47) (by rfl)
  refine WL.val Wanted.none (Runs.move rfl) ?_
  refine WL.on ?_ ?_; exact Wanted.guard (dj := 40) (by rfl) (evb (by rfl) h_47) (by rfl)
  obtain ⟨⟨p_48, q_49⟩, H⟩ := H
  obtain ⟨a_50, e_51⟩ := (st_38.src_sl (k := 1) rfl).addr_iv 0 (by omega)
  refine WL.val Wanted.none (Runs.indexAddr Try.underlying22 cells5 (by decide) rfl e_51 rfl p_48 (by rw [hn_23]; exact q_49) (o := 0) (by first | rfl | omega)) ?_
  refine WL.on ?_ ?_; exact Wanted.guard (dj := 40) (by rfl) (evb (by rfl) h_47) (by rfl)
  refine WL.val Wanted.none (Runs.load nagg5 rfl ((st_38.src_sl (k := 1) rfl).cell_iv e_51 (by omega))) ?_
  refine WL.on ?_ ?_; exact Wanted.guard (dj := 40) (by rfl) (evb (by rfl) h_47) (by rfl)
  refine WL.val Wanted.none (Runs.eql rfl rfl rfl) ?_
  refine WL.val Wanted.none (Runs.pick_t (evb rfl h_47) rfl) ?_
  refine WL.val Wanted.none (Runs.move rfl) ?_
  obtain ⟨c_52, H⟩ := H
  have h_53 : ((gn r_19 0) == 8) = true := (beq_iff_eq.mpr c_52)
  refine WL.on ?_ ?_; exact Wanted.guard (dj := 46) (by rfl) (evb (by rfl) h_53) (by rfl)
  refine WL.val Wanted.none (Runs.move rfl) ?_
  refine WL.on ?_ ?_; exact Wanted.guard (dj := 46) (by rfl) (evb (by rfl) h_53) (by rfl)
  refine WL.val Wanted.none (Runs.eql rfl rfl rfl) ?_
  refine WL.val Wanted.none (Runs.pick_t (evb rfl h_53) rfl) ?_
  refine WL.val Wanted.none (Runs.move rfl) ?_
  obtain ⟨c_54, H⟩ := H
  have h_55 : (r_25 == 0) = true := (beq_iff_eq.mpr c_54)
  refine WL.on ?_ ?_; exact Wanted.guard (dj := 50) (by rfl) (evb (by rfl) h_55) (by rfl)
  refine WL.val Wanted.none (Runs.move rfl) ?_
  refine WL.val Wanted.none (Runs.pick_t (evb rfl h_55) rfl) ?_
  refine WL.val Wanted.none (Runs.move rfl) ?_
  obtain ⟨c_56, H⟩ := H
  have h_57 : r_30 = true := c_56
  refine WL.on ?_ ?_; exact Wanted.guard (dj := 53) (by rfl) (evb (by rfl) h_57) (by rfl)
  refine WL.val Wanted.none (Runs.move rfl) ?_
  refine WL.on ?_ ?_; exact Wanted.guard (dj := 53) (by rfl) (evb (by rfl) h_57) (by rfl)
  refine WL.val Wanted.none (Runs.eql rfl rfl rfl) ?_
  refine WL.val Wanted.none (Runs.pick_t (evb rfl h_57) rfl) ?_
  refine WL.val Wanted.none (Runs.move rfl) ?_
  obtain ⟨c_58, H⟩ := H
  have h_59 : (r_31 == 0) = true := (beq_iff_eq.mpr c_58)
  refine WL.on ?_ ?_; exact Wanted.guard (dj := 57) (by rfl) (evb (by rfl) h_59) (by rfl)
  refine WL.val Wanted.none (Runs.move rfl) ?_
  refine WL.on ?_ ?_; exact Wanted.guard (dj := 57) (by rfl) (evb (by rfl) h_59) (by rfl)
  refine WL.val Wanted.none (Runs.eql rfl rfl rfl) ?_
  refine WL.val Wanted.none (Runs.pick_t (evb rfl h_59) rfl) ?_
  refine WL.val Wanted.none (Runs.move rfl) ?_
  obtain ⟨c_60, H⟩ := H
  have h_61 : (r_40 == 5) = true := (beq_iff_eq.mpr c_60)
  refine WL.on ?_ ?_; exact Wanted.guard (dj := 61) (by rfl) (evb (by rfl) h_61) (by rfl)
  refine WL.val Wanted.none (Runs.move rfl) ?_
  refine WL.on ?_ ?_; exact Wanted.guard (dj := 61) (by rfl) (evb (by rfl) h_61) (by rfl)
  refine WL.val Wanted.none (Runs.eql rfl rfl rfl) ?_
  refine WL.val Wanted.none (Runs.pick_t (evb rfl h_61) rfl) ?_
  refine WL.val Wanted.none (Runs.assign rfl) ?_
  refine WL.nil ?_
  refine QW.then_n ?_
  refine CW.sub [(0, .bool (r_41 == 0))] ⟨rfl, trivial⟩ ?_
  refine CW.ret ?_
  have hz : (r_41 == 0) = true := (beq_iff_eq.mpr H)
  exact QW.ret1 rfl (evb rfl hz) ⟨rfl, st_38.ext⟩

/-! ### reliquaryref18_Bits: function 26 -/
def reliquaryref18_Bits.L2 (x_9 : Int) (K_L1 : (List Bool) → Int → Prop) : Nat → (List Bool) → Int → Int → Prop
  | 0, _, _, _ => False
  | kL2 + 1, l_20, x_23, x_24 => ((x_24 < 8 ∧ (∃ m_34 : List Bool, m_34 = l_20 ++ [(Int.tmod x_23 2) == 1] ∧ (m_34.length ≤ 1099511627776 ∧ reliquaryref18_Bits.L2 x_9 K_L1 kL2 m_34 (IntKind.u8.wrap (Int.tdiv x_23 2)) (IntKind.i64.wrap (x_24 + 1))))) ∨ (¬ (x_24 < 8) ∧ K_L1 l_20 (IntKind.i64.wrap (x_9 + 1))))
def reliquaryref18_Bits.L1 (a0 : ByteArray) (r0 : List Bool) : Nat → (List Bool) → Int → Prop
  | 0, _, _ => False
  | kL1 + 1, l_6, x_9 => ((x_9 < (a0.size : Int) ∧ ((0 ≤ x_9 ∧ x_9 < (a0.size : Int)) ∧ (∃ k_ : Nat, reliquaryref18_Bits.L2 x_9 (reliquaryref18_Bits.L1 a0 r0 kL1) k_ l_6 (bn a0 ((x_9).toNat)) 0))) ∨ (¬ (x_9 < (a0.size : Int)) ∧ r0 = l_6))
def reliquaryref18_Bits.rel (a0 : ByteArray) (r0 : List Bool) : Prop := (∃ k_ : Nat, reliquaryref18_Bits.L1 a0 r0 k_ ([] : List Bool) 0)
set_option maxHeartbeats 4000000 in
set_option maxRecDepth 100000 in
theorem reliquaryref18_Bits.calls (w : World) (a0 : ByteArray)   (r0 : List Bool) (H : reliquaryref18_Bits.rel a0 r0) :
    Calls Try.prog 26 #[.string a0] w fun e w' => ∃ B0 q0 z0, z0 = r0.length ∧ e = .returned (.slice B0 z0 q0) ∧ St w w' [.sl B0 q0 z0 (bv r0) 4 1] := by
  refine CW.enter Try.func26 rfl (n := 29) rfl [.string a0] (Nat.le_of_ble_eq_true rfl) ?_
  refine CW.sub [(0, .string a0)] ⟨rfl, trivial⟩ ?_
  have st0 : St w w [] := St.refl w
  refine CW.seq ?_
  refine CW.region ?_
  refine WL.val Wanted.none (Runs.assign rfl) ?_
  refine WL.nil ?_
  refine QW.then_n ?_
  refine CW.seq ?_
  refine CW.region ?_
  refine WL.val Wanted.none (Runs.assign rfl) ?_
  refine WL.nil ?_
  refine QW.then_n ?_
  refine CW.seq ?_
  refine CW.seq ?_
  refine CW.region ?_
  refine WL.val Wanted.none (Runs.assign rfl) ?_
  refine WL.nil ?_
  refine QW.then_n ?_
  refine CW.block ?_
  have st_2 := st0.nil_sl 4 1
  have st_2 : St w w [.sl none 0 0 (bv ([] : List Bool)) 4 1] := st_2
  obtain ⟨k_3, H⟩ := H
  refine CW.sub [(0, .string a0), (2, .slice none 0 0), (3, .slice none 0 0), (4, .int .i64 0)] ⟨rfl, rfl, rfl, rfl, trivial⟩ ?_
  refine CW.loop (fun kL1 l_ w_ => ∃ (A_4 : Option Addr) (c_5 : Nat) (n_7 : Nat) (l_6 : List Bool) (x_9 : Int), l_ = [(0, .string a0), (2, .slice none 0 0), (3, .slice A_4 n_7 c_5), (4, .int .i64 x_9)] ∧ reliquaryref18_Bits.L1 a0 r0 kL1 l_6 x_9 ∧ (n_7 = l_6.length) ∧ St w w_ [.sl A_4 c_5 n_7 (bv l_6) 4 1]) (k := k_3) ⟨none, 0, 0, ([] : List Bool), 0, rfl, H, rfl, st_2⟩ (fun _ _ h => by obtain ⟨_, _, _, _, _, _, h, _⟩ := h; exact h.elim) ?_
  rintro kL1 l_12 w_10 ⟨A_4, c_5, n_7, l_6, x_9, rfl, H, hn_8, st_11⟩
  refine CW.seq ?_
  refine CW.seq ?_
  refine CW.region ?_
  refine WL.val Wanted.none (Runs.move rfl) ?_
  refine WL.val Wanted.none (Runs.move rfl) ?_
  refine WL.val Wanted.none (Runs.len_str Try.underlying9 rfl) ?_
  refine WL.val Wanted.none (Runs.lss rfl rfl rfl) ?_
  refine WL.nil ?_
  refine QW.then_n ?_
  rcases H with ⟨c_13, H⟩ | ⟨c_13, H⟩
  · have h_14 : (decide (x_9 < (a0.size : Int))) = true := (decide_eq_true c_13)
    refine CW.ct rfl h_14 ?_
    refine CW.skip ?_
    refine QW.then_n ?_
    refine CW.seq ?_
    refine CW.block ?_
    refine CW.seq ?_
    refine CW.region ?_
    refine WL.val Wanted.none (Runs.move rfl) ?_
    refine WL.val Wanted.none (Runs.move rfl) ?_
    obtain ⟨⟨p_15, q_16⟩, H⟩ := H
    refine WL.val Wanted.none (Runs.index_str Try.underlying9 rfl rfl p_15 q_16 (j := (x_9).toNat) (by first | rfl | omega)) ?_
    refine WL.val Wanted.none (Runs.assign rfl) ?_
    refine WL.nil ?_
    refine QW.then_n ?_
    refine CW.seq ?_
    refine CW.region ?_
    refine WL.val Wanted.none (Runs.assign rfl) ?_
    refine WL.nil ?_
    refine QW.then_n ?_
    refine CW.block ?_
    obtain ⟨k_17, H⟩ := H
    refine CW.sub [(0, .string a0), (2, .slice none 0 0), (3, .slice A_4 n_7 c_5), (4, .int .i64 x_9), (7, .int .i64 x_9), (8, .string a0), (9, .int .i64 (a0.size : Int)), (10, .bool (decide (x_9 < (a0.size : Int)))), (13, .string a0), (14, .int .i64 x_9), (15, .int .u8 (bn a0 ((x_9).toNat))), (5, .int .u8 (bn a0 ((x_9).toNat))), (6, .int .i64 0)] ⟨rfl, rfl, rfl, rfl, rfl, rfl, rfl, rfl, rfl, rfl, rfl, rfl, rfl, trivial⟩ ?_
    refine CW.loop (fun kL2 l_ w_ => ∃ (A_18 : Option Addr) (c_19 : Nat) (n_21 : Nat) (l_20 : List Bool) (x_23 : Int) (x_24 : Int), l_ = [(0, .string a0), (2, .slice none 0 0), (3, .slice A_18 n_21 c_19), (4, .int .i64 x_9), (7, .int .i64 x_9), (8, .string a0), (9, .int .i64 (a0.size : Int)), (10, .bool (decide (x_9 < (a0.size : Int)))), (13, .string a0), (14, .int .i64 x_9), (15, .int .u8 (bn a0 ((x_9).toNat))), (5, .int .u8 x_23), (6, .int .i64 x_24)] ∧ reliquaryref18_Bits.L2 x_9 (reliquaryref18_Bits.L1 a0 r0 kL1) kL2 l_20 x_23 x_24 ∧ (n_21 = l_20.length) ∧ St w w_ [.sl A_18 c_19 n_21 (bv l_20) 4 1]) (k := k_17) ⟨A_4, c_5, n_7, l_6, bn a0 ((x_9).toNat), 0, rfl, H, hn_8, st_11⟩ (fun _ _ h => by obtain ⟨_, _, _, _, _, _, _, h, _⟩ := h; exact h.elim) ?_
    rintro kL2 l_27 w_25 ⟨A_18, c_19, n_21, l_20, x_23, x_24, rfl, H, hn_22, st_26⟩
    refine CW.seq ?_
    refine CW.seq ?_
    refine CW.region ?_
    refine WL.val Wanted.none (Runs.move rfl) ?_
    refine WL.val Wanted.none (Runs.lss rfl rfl rfl) ?_
    refine WL.nil ?_
    refine QW.then_n ?_
    rcases H with ⟨c_28, H⟩ | ⟨c_28, H⟩
    · have h_29 : (decide (x_24 < 8)) = true := (decide_eq_true c_28)
      refine CW.ct rfl h_29 ?_
      refine CW.skip ?_
      refine QW.then_n ?_
      refine CW.seq ?_
      refine CW.block ?_
      refine CW.seq ?_
      refine CW.region ?_
      refine WL.val Wanted.none (Runs.move rfl) ?_
      refine WL.val Wanted.none (Runs.move rfl) ?_
      refine WL.val Wanted.none (Runs.rem rfl rfl (by decide) rfl) ?_
      refine WL.val Wanted.none (Runs.eql rfl rfl rfl) ?_
      refine WL.buildSl [.bool ((Int.tmod x_23 2) == 1)] st_26 Try.underlying38 elem4 rfl rfl (by decide) (by decide) (by simp [Value.cells]) ?_
      intro B_30 w_31 st_32
      replace st_32 : St w w_31 [.sl (some ⟨B_30, 0, none⟩) 1 1 (bv [(Int.tmod x_23 2) == 1]) 4 1, .sl A_18 c_19 n_21 (bv l_20) 4 1] := st_32
      obtain ⟨m_34, e_35, H⟩ := H
      obtain ⟨z_36, H⟩ := H
      obtain ⟨n_39, hn_42⟩ : ∃ n_ : Nat, n_ = m_34.length := ⟨_, rfl⟩
      refine WL.append (i := 1) Wanted.none st_32 rfl Try.underlying38 elem4 rfl rfl (st_32.src_sl (k := 0) rfl) (by rw [bv_length]; exact (Eq.refl _).symm) (one_bv _) (by decide) (N := n_39) (by rw [hn_42, e_35, List.length_append]; exact congr (congrArg HAdd.hAdd (hn_22)) (rfl)) (by rw [hn_42]; exact z_36) ?_
      intro A_37 c_38 w_40 st_41
      have st_41' : St w w_40 [.sl (some ⟨B_30, 0, none⟩) 1 1 (bv [(Int.tmod x_23 2) == 1]) 4 1, .sl A_37 c_38 n_39 (bv m_34) 4 1] := by rw [e_35, ← bv_append l_20 [(Int.tmod x_23 2) == 1]]; exact st_41
      refine WL.val Wanted.none (Runs.assign rfl) ?_
      refine WL.nil ?_
      refine QW.then_n ?_
      refine CW.region ?_
      refine WL.val Wanted.none (Runs.move rfl) ?_
      refine WL.val Wanted.none (Runs.quo rfl rfl (by decide) rfl) ?_
      refine WL.val Wanted.none (Runs.assign rfl) ?_
      refine WL.nil ?_
      refine QW.blk_n ?_
      refine QW.then_n ?_
      refine CW.region ?_
      refine WL.val Wanted.none (Runs.move rfl) ?_
      refine WL.val Wanted.none (Runs.add rfl rfl rfl) ?_
      refine WL.val Wanted.none (Runs.assign rfl) ?_
      refine WL.nil ?_
      have st_41'' := st_41'.pick [1] (by decide)
      exact QW.at [(0, .string a0), (2, .slice none 0 0), (3, .slice A_37 n_39 c_38), (4, .int .i64 x_9), (7, .int .i64 x_9), (8, .string a0), (9, .int .i64 (a0.size : Int)), (10, .bool (decide (x_9 < (a0.size : Int)))), (13, .string a0), (14, .int .i64 x_9), (15, .int .u8 (bn a0 ((x_9).toNat))), (5, .int .u8 (IntKind.u8.wrap (Int.tdiv x_23 2))), (6, .int .i64 (IntKind.i64.wrap (x_24 + 1)))] ⟨rfl, rfl, rfl, rfl, rfl, rfl, rfl, rfl, rfl, rfl, rfl, rfl, rfl, trivial⟩ ⟨A_37, c_38, n_39, m_34, IntKind.u8.wrap (Int.tdiv x_23 2), IntKind.i64.wrap (x_24 + 1), rfl, H, hn_42, st_41''⟩
    · have h_29 : (decide (x_24 < 8)) = false := (decide_eq_false c_28)
      refine CW.cf rfl h_29 ?_
      refine CW.exit ?_
      refine QW.then_x ?_
      refine QW.then_x ?_
      refine QW.blk_x ?_
      refine QW.blk_n ?_
      refine QW.then_n ?_
      refine CW.region ?_
      refine WL.val Wanted.none (Runs.move rfl) ?_
      refine WL.val Wanted.none (Runs.add rfl rfl rfl) ?_
      refine WL.val Wanted.none (Runs.assign rfl) ?_
      refine WL.nil ?_
      exact QW.at [(0, .string a0), (2, .slice none 0 0), (3, .slice A_18 n_21 c_19), (4, .int .i64 (IntKind.i64.wrap (x_9 + 1)))] ⟨rfl, rfl, rfl, rfl, trivial⟩ ⟨A_18, c_19, n_21, l_20, IntKind.i64.wrap (x_9 + 1), rfl, H, hn_22, st_26⟩
  · have h_14 : (decide (x_9 < (a0.size : Int))) = false := (decide_eq_false c_13)
    refine CW.cf rfl h_14 ?_
    refine CW.exit ?_
    refine QW.then_x ?_
    refine QW.then_x ?_
    refine QW.blk_x ?_
    refine QW.then_n ?_
    refine CW.sub [(2, .slice none 0 0), (3, .slice A_4 n_7 c_5)] ⟨rfl, rfl, trivial⟩ ?_
    refine CW.seq ?_
    refine CW.region ?_
    refine WL.val Wanted.none (Runs.move rfl) ?_
    refine WL.val Wanted.none (Runs.assign rfl) ?_
    refine WL.nil ?_
    refine QW.then_n ?_
    refine CW.ret ?_
    obtain rfl := H
    exact QW.ret1 rfl rfl ⟨A_4, c_5, n_7, hn_8, rfl, st_11.pick [0] (by decide)⟩

/-! ### reliquaryref18_Bytes: function 51 -/
def reliquaryref18_Bytes.L2 (l0 : List Bool) (l_6 : List Int) (x_9 : Int) (K_L1 : (List Int) → Int → Prop) : Nat → Int → Int → Prop
  | 0, _, _ => False
  | kL2 + 1, x_16, x_17 => ((x_17 ≥ 0 ∧ ((0 ≤ (IntKind.i64.wrap (x_9 + x_17)) ∧ (IntKind.i64.wrap (x_9 + x_17)) < (l0.length : Int)) ∧ ((gb l0 ((IntKind.i64.wrap (x_9 + x_17)).toNat) = true ∧ reliquaryref18_Bytes.L2 l0 l_6 x_9 K_L1 kL2 (IntKind.u8.wrap ((IntKind.u8.wrap (x_16 * 2)) + 1)) (IntKind.i64.wrap (x_17 - 1))) ∨ (¬ (gb l0 ((IntKind.i64.wrap (x_9 + x_17)).toNat) = true) ∧ reliquaryref18_Bytes.L2 l0 l_6 x_9 K_L1 kL2 (IntKind.u8.wrap (x_16 * 2)) (IntKind.i64.wrap (x_17 - 1)))))) ∨ (¬ (x_17 ≥ 0) ∧ (∃ m_33 : List Int, m_33 = l_6 ++ [x_16] ∧ (m_33.length ≤ 1099511627776 ∧ K_L1 m_33 (IntKind.i64.wrap (x_9 + 8))))))
def reliquaryref18_Bytes.L1 (l0 : List Bool) (r0 : ByteArray) : Nat → (List Int) → Int → Prop
  | 0, _, _ => False
  | kL1 + 1, l_6, x_9 => (((IntKind.i64.wrap (x_9 + 7)) < (l0.length : Int) ∧ (∃ k_ : Nat, reliquaryref18_Bytes.L2 l0 l_6 x_9 (reliquaryref18_Bytes.L1 l0 r0 kL1) k_ 0 7)) ∨ (¬ ((IntKind.i64.wrap (x_9 + 7)) < (l0.length : Int)) ∧ r0 = strOfNums l_6))
def reliquaryref18_Bytes.rel (l0 : List Bool) (r0 : ByteArray) : Prop := (∃ k_ : Nat, reliquaryref18_Bytes.L1 l0 r0 k_ ([] : List Int) 0)
set_option maxHeartbeats 4000000 in
set_option maxRecDepth 100000 in
theorem reliquaryref18_Bytes.calls (w : World) (l0 : List Bool) (A0 : Option Addr) (n0 : Nat) (c0 : Nat) (hs0 : Src w A0 (bv l0)) (hn0 : n0 = l0.length) (hc0 : n0 ≤ c0) (r0 : ByteArray) (H : reliquaryref18_Bytes.rel l0 r0) :
    Calls Try.prog 51 #[.slice A0 n0 c0] w fun e w' => e = .returned (.string r0) ∧ St w w' [] := by
  refine CW.enter Try.func51 rfl (n := 34) rfl [.slice A0 n0 c0] (Nat.le_of_ble_eq_true rfl) ?_
  refine CW.sub [(0, .slice A0 n0 c0)] ⟨rfl, trivial⟩ ?_
  have st0 : St w w [] := St.refl w
  refine CW.seq ?_
  refine CW.region ?_
  refine WL.val Wanted.none (Runs.assign rfl) ?_
  refine WL.nil ?_
  refine QW.then_n ?_
  refine CW.seq ?_
  refine CW.region ?_
  refine WL.val Wanted.none (Runs.assign rfl) ?_
  refine WL.nil ?_
  refine QW.then_n ?_
  refine CW.seq ?_
  refine CW.seq ?_
  refine CW.region ?_
  refine WL.val Wanted.none (Runs.assign rfl) ?_
  refine WL.nil ?_
  refine QW.then_n ?_
  refine CW.block ?_
  have st_2 := st0.nil_sl 5 1
  have st_2 : St w w [.sl none 0 0 (iv .u8 ([] : List Int)) 5 1] := st_2
  obtain ⟨k_3, H⟩ := H
  refine CW.sub [(0, .slice A0 n0 c0), (2, .string (⟨#[]⟩ : ByteArray)), (3, .slice none 0 0), (4, .int .i64 0)] ⟨rfl, rfl, rfl, rfl, trivial⟩ ?_
  refine CW.loop (fun kL1 l_ w_ => ∃ (A_4 : Option Addr) (c_5 : Nat) (n_7 : Nat) (l_6 : List Int) (x_9 : Int), l_ = [(0, .slice A0 n0 c0), (2, .string (⟨#[]⟩ : ByteArray)), (3, .slice A_4 n_7 c_5), (4, .int .i64 x_9)] ∧ reliquaryref18_Bytes.L1 l0 r0 kL1 l_6 x_9 ∧ (n_7 = l_6.length) ∧ St w w_ [.sl A_4 c_5 n_7 (iv .u8 l_6) 5 1]) (k := k_3) ⟨none, 0, 0, ([] : List Int), 0, rfl, H, rfl, st_2⟩ (fun _ _ h => by obtain ⟨_, _, _, _, _, _, h, _⟩ := h; exact h.elim) ?_
  rintro kL1 l_12 w_10 ⟨A_4, c_5, n_7, l_6, x_9, rfl, H, hn_8, st_11⟩
  refine CW.seq ?_
  refine CW.seq ?_
  refine CW.region ?_
  refine WL.val Wanted.none (Runs.move rfl) ?_
  refine WL.val Wanted.none (Runs.add rfl rfl rfl) ?_
  refine WL.val Wanted.none (Runs.move rfl) ?_
  refine WL.val Wanted.none (Runs.len_sl Try.underlying38 rfl (by rw [hn0])) ?_
  refine WL.val Wanted.none (Runs.lss rfl rfl rfl) ?_
  refine WL.nil ?_
  refine QW.then_n ?_
  rcases H with ⟨c_13, H⟩ | ⟨c_13, H⟩
  · have h_14 : (decide ((IntKind.i64.wrap (x_9 + 7)) < (l0.length : Int))) = true := (decide_eq_true c_13)
    refine CW.ct rfl h_14 ?_
    refine CW.skip ?_
    refine QW.then_n ?_
    refine CW.seq ?_
    refine CW.block ?_
    refine CW.seq ?_
    refine CW.region ?_
    refine WL.val Wanted.none (Runs.assign rfl) ?_
    refine WL.nil ?_
    refine QW.then_n ?_
    refine CW.seq ?_
    refine CW.seq ?_
    refine CW.region ?_
    refine WL.val Wanted.none (Runs.assign rfl) ?_
    refine WL.nil ?_
    refine QW.then_n ?_
    refine CW.block ?_
    obtain ⟨k_15, H⟩ := H
    refine CW.sub [(0, .slice A0 n0 c0), (2, .string (⟨#[]⟩ : ByteArray)), (3, .slice A_4 n_7 c_5), (4, .int .i64 x_9), (7, .int .i64 x_9), (8, .int .i64 (IntKind.i64.wrap (x_9 + 7))), (9, .slice A0 n0 c0), (10, .int .i64 (l0.length : Int)), (11, .bool (decide ((IntKind.i64.wrap (x_9 + 7)) < (l0.length : Int)))), (5, .int .u8 0), (6, .int .i64 7)] ⟨rfl, rfl, rfl, rfl, rfl, rfl, rfl, rfl, rfl, rfl, rfl, trivial⟩ ?_
    refine CW.loop (fun kL2 l_ w_ => ∃ (x_16 : Int) (x_17 : Int), l_ = [(0, .slice A0 n0 c0), (2, .string (⟨#[]⟩ : ByteArray)), (3, .slice A_4 n_7 c_5), (4, .int .i64 x_9), (7, .int .i64 x_9), (8, .int .i64 (IntKind.i64.wrap (x_9 + 7))), (9, .slice A0 n0 c0), (10, .int .i64 (l0.length : Int)), (11, .bool (decide ((IntKind.i64.wrap (x_9 + 7)) < (l0.length : Int)))), (5, .int .u8 x_16), (6, .int .i64 x_17)] ∧ reliquaryref18_Bytes.L2 l0 l_6 x_9 (reliquaryref18_Bytes.L1 l0 r0 kL1) kL2 x_16 x_17 ∧ St w w_ [.sl A_4 c_5 n_7 (iv .u8 l_6) 5 1]) (k := k_15) ⟨0, 7, rfl, H, st_11⟩ (fun _ _ h => by obtain ⟨_, _, _, h, _⟩ := h; exact h.elim) ?_
    rintro kL2 l_20 w_18 ⟨x_16, x_17, rfl, H, st_19⟩
    refine CW.seq ?_
    refine CW.seq ?_
    refine CW.region ?_
    refine WL.val Wanted.none (Runs.move rfl) ?_
    refine WL.val Wanted.none (Runs.geq rfl rfl rfl) ?_
    refine WL.nil ?_
    refine QW.then_n ?_
    rcases H with ⟨c_21, H⟩ | ⟨c_21, H⟩
    · have h_22 : (decide (x_17 ≥ 0)) = true := (decide_eq_true c_21)
      refine CW.ct rfl h_22 ?_
      refine CW.skip ?_
      refine QW.then_n ?_
      refine CW.seq ?_
      refine CW.block ?_
      refine CW.seq ?_
      refine CW.region ?_
      refine WL.val Wanted.none (Runs.move rfl) ?_
      refine WL.val Wanted.none (Runs.mul rfl rfl rfl) ?_
      refine WL.val Wanted.none (Runs.assign rfl) ?_
      refine WL.nil ?_
      refine QW.then_n ?_
      refine CW.seq ?_
      refine CW.region ?_
      refine WL.val Wanted.none (Runs.move rfl) ?_
      refine WL.val Wanted.none (Runs.move rfl) ?_
      refine WL.val Wanted.none (Runs.move rfl) ?_
      refine WL.val Wanted.none (Runs.add rfl rfl rfl) ?_
      obtain ⟨⟨p_23, q_24⟩, H⟩ := H
      obtain ⟨a_25, e_26⟩ := (hs0.ext st_19).addr_bv ((IntKind.i64.wrap (x_9 + x_17)).toNat) (by omega)
      refine WL.val Wanted.none (Runs.indexAddr Try.underlying38 cells4 (by decide) rfl e_26 rfl p_23 (by rw [hn0]; exact q_24) (o := (IntKind.i64.wrap (x_9 + x_17)).toNat) (by first | rfl | omega)) ?_
      refine WL.val Wanted.none (Runs.load nagg4 rfl ((hs0.ext st_19).cell_bv e_26 (by omega))) ?_
      refine WL.nil ?_
      refine QW.then_n ?_
      rcases H with ⟨c_27, H⟩ | ⟨c_27, H⟩
      · have h_28 : (gb l0 ((IntKind.i64.wrap (x_9 + x_17)).toNat)) = true := c_27
        refine CW.ct rfl h_28 ?_
        refine CW.region ?_
        refine WL.val Wanted.none (Runs.move rfl) ?_
        refine WL.val Wanted.none (Runs.add rfl rfl rfl) ?_
        refine WL.val Wanted.none (Runs.assign rfl) ?_
        refine WL.nil ?_
        refine QW.blk_n ?_
        refine QW.then_n ?_
        refine CW.region ?_
        refine WL.val Wanted.none (Runs.move rfl) ?_
        refine WL.val Wanted.none (Runs.sub rfl rfl rfl) ?_
        refine WL.val Wanted.none (Runs.assign rfl) ?_
        refine WL.nil ?_
        exact QW.at [(0, .slice A0 n0 c0), (2, .string (⟨#[]⟩ : ByteArray)), (3, .slice A_4 n_7 c_5), (4, .int .i64 x_9), (7, .int .i64 x_9), (8, .int .i64 (IntKind.i64.wrap (x_9 + 7))), (9, .slice A0 n0 c0), (10, .int .i64 (l0.length : Int)), (11, .bool (decide ((IntKind.i64.wrap (x_9 + 7)) < (l0.length : Int)))), (5, .int .u8 (IntKind.u8.wrap ((IntKind.u8.wrap (x_16 * 2)) + 1))), (6, .int .i64 (IntKind.i64.wrap (x_17 - 1)))] ⟨rfl, rfl, rfl, rfl, rfl, rfl, rfl, rfl, rfl, rfl, rfl, trivial⟩ ⟨IntKind.u8.wrap ((IntKind.u8.wrap (x_16 * 2)) + 1), IntKind.i64.wrap (x_17 - 1), rfl, H, st_19⟩
      · have h_28 : (gb l0 ((IntKind.i64.wrap (x_9 + x_17)).toNat)) = false := (Bool.eq_false_iff.mpr c_27)
        refine CW.cf rfl h_28 ?_
        refine CW.skip ?_
        refine QW.blk_n ?_
        refine QW.then_n ?_
        refine CW.region ?_
        refine WL.val Wanted.none (Runs.move rfl) ?_
        refine WL.val Wanted.none (Runs.sub rfl rfl rfl) ?_
        refine WL.val Wanted.none (Runs.assign rfl) ?_
        refine WL.nil ?_
        exact QW.at [(0, .slice A0 n0 c0), (2, .string (⟨#[]⟩ : ByteArray)), (3, .slice A_4 n_7 c_5), (4, .int .i64 x_9), (7, .int .i64 x_9), (8, .int .i64 (IntKind.i64.wrap (x_9 + 7))), (9, .slice A0 n0 c0), (10, .int .i64 (l0.length : Int)), (11, .bool (decide ((IntKind.i64.wrap (x_9 + 7)) < (l0.length : Int)))), (5, .int .u8 (IntKind.u8.wrap (x_16 * 2))), (6, .int .i64 (IntKind.i64.wrap (x_17 - 1)))] ⟨rfl, rfl, rfl, rfl, rfl, rfl, rfl, rfl, rfl, rfl, rfl, trivial⟩ ⟨IntKind.u8.wrap (x_16 * 2), IntKind.i64.wrap (x_17 - 1), rfl, H, st_19⟩
    · have h_22 : (decide (x_17 ≥ 0)) = false := (decide_eq_false c_21)
      refine CW.cf rfl h_22 ?_
      refine CW.exit ?_
      refine QW.then_x ?_
      refine QW.then_x ?_
      refine QW.blk_x ?_
      refine QW.then_n ?_
      refine CW.region ?_
      refine WL.val Wanted.none (Runs.move rfl) ?_
      refine WL.val Wanted.none (Runs.move rfl) ?_
      refine WL.buildSl [.int .u8 x_16] st_19 Try.underlying22 elem5 rfl rfl (by decide) (by decide) (by simp [Value.cells]) ?_
      intro B_29 w_30 st_31
      replace st_31 : St w w_30 [.sl (some ⟨B_29, 0, none⟩) 1 1 (iv .u8 [x_16]) 5 1, .sl A_4 c_5 n_7 (iv .u8 l_6) 5 1] := st_31
      obtain ⟨m_33, e_34, H⟩ := H
      obtain ⟨z_35, H⟩ := H
      obtain ⟨n_38, hn_41⟩ : ∃ n_ : Nat, n_ = m_33.length := ⟨_, rfl⟩
      refine WL.append (i := 1) Wanted.none st_31 rfl Try.underlying22 elem5 rfl rfl (st_31.src_sl (k := 0) rfl) (by rw [iv_length]; exact (Eq.refl _).symm) (one_iv .u8 _) (by decide) (N := n_38) (by rw [hn_41, e_34, List.length_append]; exact congr (congrArg HAdd.hAdd (hn_8)) (rfl)) (by rw [hn_41]; exact z_35) ?_
      intro A_36 c_37 w_39 st_40
      have st_40' : St w w_39 [.sl (some ⟨B_29, 0, none⟩) 1 1 (iv .u8 [x_16]) 5 1, .sl A_36 c_37 n_38 (iv .u8 m_33) 5 1] := by rw [e_34, ← iv_append .u8 l_6 [x_16]]; exact st_40
      refine WL.val Wanted.none (Runs.assign rfl) ?_
      refine WL.nil ?_
      refine QW.blk_n ?_
      refine QW.then_n ?_
      refine CW.region ?_
      refine WL.val Wanted.none (Runs.move rfl) ?_
      refine WL.val Wanted.none (Runs.add rfl rfl rfl) ?_
      refine WL.val Wanted.none (Runs.assign rfl) ?_
      refine WL.nil ?_
      have st_40'' := st_40'.pick [1] (by decide)
      exact QW.at [(0, .slice A0 n0 c0), (2, .string (⟨#[]⟩ : ByteArray)), (3, .slice A_36 n_38 c_37), (4, .int .i64 (IntKind.i64.wrap (x_9 + 8)))] ⟨rfl, rfl, rfl, rfl, trivial⟩ ⟨A_36, c_37, n_38, m_33, IntKind.i64.wrap (x_9 + 8), rfl, H, hn_41, st_40''⟩
  · have h_14 : (decide ((IntKind.i64.wrap (x_9 + 7)) < (l0.length : Int))) = false := (decide_eq_false c_13)
    refine CW.cf rfl h_14 ?_
    refine CW.exit ?_
    refine QW.then_x ?_
    refine QW.then_x ?_
    refine QW.blk_x ?_
    refine QW.then_n ?_
    refine CW.sub [(2, .string (⟨#[]⟩ : ByteArray)), (3, .slice A_4 n_7 c_5)] ⟨rfl, rfl, trivial⟩ ?_
    refine CW.seq ?_
    refine CW.region ?_
    refine WL.val Wanted.none (Runs.move rfl) ?_
    refine WL.val Wanted.none (Runs.bytes_str Try.underlying22 Try.underlying5 Try.underlying9 rfl (st_11.src_sl (k := 0) rfl) hn_8) ?_
    refine WL.val Wanted.none (Runs.assign rfl) ?_
    refine WL.nil ?_
    refine QW.then_n ?_
    refine CW.ret ?_
    obtain rfl := H
    exact QW.ret1 rfl rfl ⟨rfl, st_11.pick [] (by decide)⟩

/-! ### reliquaryref18_Set: function 28 -/
def reliquaryref18_Set.rel (a0 : ByteArray) (a1 : Int) (a2 : Bool) (r0 : ByteArray) (r1 : Int) : Prop := (∃ (r_5 : List Bool), reliquaryref18_Bits.rel a0 r_5 ∧ ((a1 < 0 ∧ r0 = (⟨#[]⟩ : ByteArray) ∧ r1 = 12) ∨ (¬ (a1 < 0) ∧ ((a1 ≥ (r_5.length : Int) ∧ r0 = (⟨#[]⟩ : ByteArray) ∧ r1 = 12) ∨ (¬ (a1 ≥ (r_5.length : Int)) ∧ ((0 ≤ a1 ∧ a1 < (r_5.length : Int)) ∧ (∃ m_19 : List Bool, m_19 = List.set r_5 ((a1).toNat) a2 ∧ (∃ (r_28 : ByteArray), reliquaryref18_Bytes.rel m_19 r_28 ∧ r0 = r_28 ∧ r1 = 0))))))))
set_option maxHeartbeats 4000000 in
set_option maxRecDepth 100000 in
theorem reliquaryref18_Set.calls (w : World) (a0 : ByteArray) (a1 : Int) (a2 : Bool)   (r0 : ByteArray) (r1 : Int) (H : reliquaryref18_Set.rel a0 a1 a2 r0 r1) :
    Calls Try.prog 28 #[.string a0, .int .i64 a1, .bool a2] w fun e w' => e = .returned (.tuple #[.string r0, .int .i64 r1]) ∧ St w w' [] := by
  refine CW.enter Try.func28 rfl (n := 25) rfl [.string a0, .int .i64 a1, .bool a2] (Nat.le_of_ble_eq_true rfl) ?_
  refine CW.sub [(0, .string a0), (1, .int .i64 a1), (2, .bool a2)] ⟨rfl, rfl, rfl, trivial⟩ ?_
  have st0 : St w w [] := St.refl w
  refine CW.seq ?_
  refine CW.region ?_
  refine WL.val Wanted.none (Runs.assign rfl) ?_
  refine WL.val Wanted.none (Runs.assign rfl) ?_
  refine WL.nil ?_
  refine QW.then_n ?_
  refine CW.seq ?_
  refine CW.region ?_
  refine WL.val Wanted.none (Runs.move rfl) ?_
  obtain ⟨r_5, hr_1, H⟩ := H
  refine WL.call Wanted.none ent26 rfl (reliquaryref18_Bits.calls w a0 r_5 hr_1) ?_
  rintro _ w_2 ⟨A_6, c_7, n_8, hn_9, rfl, sc_4⟩
  have st_3 : St w w_2 [.sl A_6 c_7 n_8 (bv r_5) 4 1] := st0.call sc_4
  refine ⟨_, rfl, ?_⟩
  refine WL.val Wanted.none (Runs.assign rfl) ?_
  refine WL.nil ?_
  refine QW.then_n ?_
  refine CW.seq ?_
  refine CW.seq ?_
  refine CW.region ?_
  refine WL.val Wanted.none (Runs.move rfl) ?_
  refine WL.val Wanted.none (Runs.lss rfl rfl rfl) ?_
  refine WL.val Wanted.none (Runs.move rfl) ?_
  rcases H with ⟨c_11, H⟩ | ⟨c_11, H⟩
  · have h_12 : (decide (a1 < 0)) = true := (decide_eq_true c_11)
    refine WL.off ?_ ?_; exact Wanted.guard (dj := 13) (by rfl) (evb (by rfl) h_12) (by rfl)
    refine WL.off ?_ ?_; exact Wanted.guard (dj := 13) (by rfl) (evb (by rfl) h_12) (by rfl)
    refine WL.off ?_ ?_; exact Wanted.guard (dj := 13) (by rfl) (evb (by rfl) h_12) (by rfl)
    refine WL.off ?_ ?_; exact Wanted.guard (dj := 13) (by rfl) (evb (by rfl) h_12) (by rfl)
    refine WL.val Wanted.none (Runs.pick_t (evb rfl h_12) rfl) ?_
    refine WL.nil ?_
    refine QW.then_n ?_
    refine CW.sub [(1, .int .i64 a1), (2, .bool a2), (6, .string (⟨#[]⟩ : ByteArray)), (7, .int .i64 0), (8, .slice A_6 n_8 c_7), (18, .bool true)] ⟨rfl, rfl, rfl, rfl, rfl, rfl, trivial⟩ ?_
    refine CW.ct rfl rfl ?_
    refine CW.seq ?_
    refine CW.region ?_
    refine WL.val Wanted.none (Runs.assign rfl) ?_
    refine WL.val Wanted.none (Runs.assign rfl) ?_
    refine WL.nil ?_
    refine QW.then_n ?_
    refine CW.ret ?_
    refine QW.then_r ?_
    obtain ⟨rfl, rfl⟩ := H
    exact QW.ret2 rfl rfl rfl ⟨rfl, st_3.pick [] (by decide)⟩
  · have h_12 : (decide (a1 < 0)) = false := (decide_eq_false c_11)
    refine WL.on ?_ ?_; exact Wanted.guard (dj := 13) (by rfl) (evb (by rfl) h_12) (by rfl)
    refine WL.val Wanted.none (Runs.move rfl) ?_
    refine WL.on ?_ ?_; exact Wanted.guard (dj := 13) (by rfl) (evb (by rfl) h_12) (by rfl)
    refine WL.val Wanted.none (Runs.move rfl) ?_
    refine WL.on ?_ ?_; exact Wanted.guard (dj := 13) (by rfl) (evb (by rfl) h_12) (by rfl)
    refine WL.val Wanted.none (Runs.len_sl Try.underlying38 rfl (by rw [hn_9])) ?_
    refine WL.on ?_ ?_; exact Wanted.guard (dj := 13) (by rfl) (evb (by rfl) h_12) (by rfl)
    refine WL.val Wanted.none (Runs.geq rfl rfl rfl) ?_
    refine WL.val Wanted.none (Runs.pick_f (evb rfl h_12) rfl) ?_
    refine WL.nil ?_
    refine QW.then_n ?_
    refine CW.sub [(1, .int .i64 a1), (2, .bool a2), (6, .string (⟨#[]⟩ : ByteArray)), (7, .int .i64 0), (8, .slice A_6 n_8 c_7), (18, .bool (decide (a1 ≥ (r_5.length : Int))))] ⟨rfl, rfl, rfl, rfl, rfl, rfl, trivial⟩ ?_
    rcases H with ⟨c_13, H⟩ | ⟨c_13, H⟩
    · have h_14 : (decide (a1 ≥ (r_5.length : Int))) = true := (decide_eq_true c_13)
      refine CW.ct rfl h_14 ?_
      refine CW.seq ?_
      refine CW.region ?_
      refine WL.val Wanted.none (Runs.assign rfl) ?_
      refine WL.val Wanted.none (Runs.assign rfl) ?_
      refine WL.nil ?_
      refine QW.then_n ?_
      refine CW.ret ?_
      refine QW.then_r ?_
      obtain ⟨rfl, rfl⟩ := H
      exact QW.ret2 rfl rfl rfl ⟨rfl, st_3.pick [] (by decide)⟩
    · have h_14 : (decide (a1 ≥ (r_5.length : Int))) = false := (decide_eq_false c_13)
      refine CW.cf rfl h_14 ?_
      refine CW.skip ?_
      refine QW.then_n ?_
      refine CW.seq ?_
      refine CW.region ?_
      refine WL.val Wanted.none (Runs.move rfl) ?_
      refine WL.val Wanted.none (Runs.move rfl) ?_
      refine WL.val Wanted.none (Runs.move rfl) ?_
      obtain ⟨⟨p_15, q_16⟩, H⟩ := H
      obtain ⟨a_17, e_18⟩ := (st_3.src_sl (k := 0) rfl).addr_bv ((a1).toNat) (by omega)
      refine WL.val Wanted.none (Runs.indexAddr Try.underlying38 cells4 (by decide) rfl e_18 rfl p_15 (by rw [hn_9]; exact q_16) (o := (a1).toNat) (by first | rfl | omega)) ?_
      obtain ⟨m_19, e_20, H⟩ := H
      refine WL.store_sl (i := 0) st_3 rfl cells4 rfl e_18 (by rw [bv_length]; omega) rfl rfl ?_
      intro w_21 st_22
      have hn_23 : n_8 = m_19.length := by rw [e_20, List.length_set]; exact hn_9
      have st_22' : St w w_21 [.sl A_6 c_7 n_8 (bv m_19) 4 1] := by rw [e_20, ← bv_set r_5 ((a1).toNat) a2]; exact st_22
      refine WL.nil ?_
      refine QW.then_n ?_
      refine CW.sub [(6, .string (⟨#[]⟩ : ByteArray)), (7, .int .i64 0), (8, .slice A_6 n_8 c_7)] ⟨rfl, rfl, rfl, trivial⟩ ?_
      refine CW.seq ?_
      refine CW.region ?_
      refine WL.val Wanted.none (Runs.move rfl) ?_
      obtain ⟨r_28, hr_24, H⟩ := H
      refine WL.call Wanted.none ent51 rfl (reliquaryref18_Bytes.calls w_21 m_19 A_6 n_8 c_7 (st_22'.src_sl (k := 0) rfl) (hn_23) (st_22'.cap (i := 0) rfl) r_28 hr_24) ?_
      rintro _ w_25 ⟨rfl, sc_27⟩
      have st_26 : St w w_25 [.sl A_6 c_7 n_8 (bv m_19) 4 1] := st_22'.call sc_27
      refine ⟨_, rfl, ?_⟩
      refine WL.val Wanted.none (Runs.assign rfl) ?_
      refine WL.val Wanted.none (Runs.assign rfl) ?_
      refine WL.nil ?_
      refine QW.then_n ?_
      refine CW.ret ?_
      obtain ⟨rfl, rfl⟩ := H
      exact QW.ret2 rfl rfl rfl ⟨rfl, st_26.pick [] (by decide)⟩

/-! ### reliquarylaw18_BitmapSets: function 8 -/
def reliquarylaw18_BitmapSets.rel (l0 : List Int) (a1 : Int) (a2 : Bool)  : Prop := (reliquarylaw18_awake.rel  ∧ (((l0.length : Int) > 300 ∧ True) ∨ (¬ ((l0.length : Int) > 300) ∧ (∃ (r_11 : Bool) (r_12 : Int), bitmap_Get.rel l0 a1 r_11 r_12 ∧ (∃ (r_17 : List Bool), reliquaryref18_Bits.rel (strOfNums l0) r_17 ∧ (∃ (r_27 : List Int) (r_33 : Int), bitmap_Set.rel l0 a1 a2 r_27 r_33 ∧ (∃ (r_38 : ByteArray) (r_39 : Int), reliquaryref18_Set.rel (strOfNums l0) a1 a2 r_38 r_39 ∧ (¬ (¬ ((strOfNums r_27).toList = r_38.toList)) ∧ (¬ (r_33 ≠ r_39) ∧ (¬ (r_12 ≠ r_39) ∧ ((r_12 ≠ 0 ∧ ((¬ (r_11 = true) ∧ True) ∨ (¬ (¬ (r_11 = true)) ∧ (r_12 = 0 ∧ ((0 ≤ a1 ∧ a1 < (r_17.length : Int)) ∧ r_11 = (gb r_17 ((a1).toNat))))))) ∨ (¬ (r_12 ≠ 0) ∧ (r_12 = 0 ∧ ((0 ≤ a1 ∧ a1 < (r_17.length : Int)) ∧ r_11 = (gb r_17 ((a1).toNat))))))))))))))))
set_option maxHeartbeats 4000000 in
set_option maxRecDepth 100000 in
theorem reliquarylaw18_BitmapSets.calls (w : World) (l0 : List Int) (a1 : Int) (a2 : Bool) (A0 : Option Addr) (n0 : Nat) (c0 : Nat) (hs0 : Src w A0 (iv .u8 l0)) (hn0 : n0 = l0.length) (hc0 : n0 ≤ c0)  (H : reliquarylaw18_BitmapSets.rel l0 a1 a2 ) :
    Calls Try.prog 8 #[.slice A0 n0 c0, .int .i64 a1, .bool a2] w fun e w' => e = .returned (.bool true) ∧ Below w.heap.size w w' := by
  refine CW.enter Try.func8 rfl (n := 77) rfl [.slice A0 n0 c0, .int .i64 a1, .bool a2] (Nat.le_of_ble_eq_true rfl) ?_
  refine CW.sub [(0, .slice A0 n0 c0), (1, .int .i64 a1), (2, .bool a2)] ⟨rfl, rfl, rfl, trivial⟩ ?_
  have st0 : St w w [] := St.refl w
  refine CW.seq ?_
  refine CW.region ?_
  refine WL.val Wanted.none (Runs.assign rfl) ?_
  refine WL.nil ?_
  refine QW.then_n ?_
  refine CW.seq ?_
  refine CW.region ?_
  obtain ⟨hr_1, H⟩ := H
  refine WL.call Wanted.none ent24 rfl (reliquarylaw18_awake.calls w hr_1) ?_
  rintro _ w_2 ⟨rfl, sc_4⟩
  have st_3 : St w w_2 [] := st0.below sc_4
  refine ⟨_, rfl, ?_⟩
  refine WL.val Wanted.none (Runs.assign rfl) ?_
  refine WL.nil ?_
  refine QW.then_n ?_
  refine CW.seq ?_
  refine CW.seq ?_
  refine CW.region ?_
  refine WL.val Wanted.none (Runs.move rfl) ?_
  refine WL.val Wanted.none (Runs.not rfl rfl) ?_
  refine WL.nil ?_
  refine QW.then_n ?_
  refine CW.cf rfl rfl ?_
  refine CW.skip ?_
  refine QW.then_n ?_
  refine CW.seq ?_
  refine CW.seq ?_
  refine CW.region ?_
  refine WL.val Wanted.none (Runs.move rfl) ?_
  refine WL.val Wanted.none (Runs.len_sl Try.underlying22 rfl (by rw [hn0])) ?_
  refine WL.val Wanted.none (Runs.gtr rfl rfl rfl) ?_
  refine WL.nil ?_
  refine QW.then_n ?_
  refine CW.sub [(0, .slice A0 n0 c0), (1, .int .i64 a1), (2, .bool a2), (6, .bool false), (20, .bool (decide ((l0.length : Int) > 300)))] ⟨rfl, rfl, rfl, rfl, rfl, trivial⟩ ?_
  rcases H with ⟨c_5, H⟩ | ⟨c_5, H⟩
  · have h_6 : (decide ((l0.length : Int) > 300)) = true := (decide_eq_true c_5)
    refine CW.ct rfl h_6 ?_
    refine CW.seq ?_
    refine CW.region ?_
    refine WL.val Wanted.none (Runs.assign rfl) ?_
    refine WL.nil ?_
    refine QW.then_n ?_
    refine CW.ret ?_
    refine QW.then_r ?_
    exact QW.ret1 rfl rfl ⟨rfl, st_3.ext⟩
  · have h_6 : (decide ((l0.length : Int) > 300)) = false := (decide_eq_false c_5)
    refine CW.cf rfl h_6 ?_
    refine CW.skip ?_
    refine QW.then_n ?_
    refine CW.seq ?_
    refine CW.region ?_
    refine WL.val Wanted.none (Runs.move rfl) ?_
    refine WL.val Wanted.none (Runs.move rfl) ?_
    obtain ⟨r_11, r_12, hr_7, H⟩ := H
    refine WL.call Wanted.none ent25 rfl (bitmap_Get.calls w_2 l0 a1 A0 n0 c0 (hs0.ext st_3) (hn0) (hc0) r_11 r_12 hr_7) ?_
    rintro _ w_8 ⟨rfl, sc_10⟩
    have st_9 : St w w_8 [] := st_3.call sc_10
    refine ⟨_, rfl, ?_⟩
    refine WL.val Wanted.none (Runs.move rfl) ?_
    refine WL.val Wanted.none (Runs.extract rfl rfl) ?_
    refine WL.val Wanted.none (Runs.extract rfl rfl) ?_
    refine WL.val Wanted.none (Runs.assign rfl) ?_
    refine WL.val Wanted.none (Runs.assign rfl) ?_
    refine WL.nil ?_
    refine QW.then_n ?_
    refine CW.sub [(0, .slice A0 n0 c0), (1, .int .i64 a1), (2, .bool a2), (6, .bool false), (8, .bool r_11), (9, .int .i64 r_12)] ⟨rfl, rfl, rfl, rfl, rfl, rfl, trivial⟩ ?_
    refine CW.seq ?_
    refine CW.region ?_
    refine WL.val Wanted.none (Runs.move rfl) ?_
    refine WL.val Wanted.none (Runs.bytes_str Try.underlying22 Try.underlying5 Try.underlying9 rfl (hs0.ext st_9) hn0) ?_
    obtain ⟨r_17, hr_13, H⟩ := H
    refine WL.call Wanted.none ent26 rfl (reliquaryref18_Bits.calls w_8 (strOfNums l0) r_17 hr_13) ?_
    rintro _ w_14 ⟨A_18, c_19, n_20, hn_21, rfl, sc_16⟩
    have st_15 : St w w_14 [.sl A_18 c_19 n_20 (bv r_17) 4 1] := st_9.call sc_16
    refine ⟨_, rfl, ?_⟩
    refine WL.val Wanted.none (Runs.assign rfl) ?_
    refine WL.nil ?_
    refine QW.then_n ?_
    refine CW.seq ?_
    refine CW.region ?_
    refine WL.val Wanted.none (Runs.move rfl) ?_
    refine WL.val Wanted.none (Runs.move rfl) ?_
    refine WL.val Wanted.none (Runs.move rfl) ?_
    obtain ⟨r_27, r_33, hr_23, H⟩ := H
    refine WL.call Wanted.none ent27 rfl (bitmap_Set.calls w_14 l0 a1 a2 A0 n0 c0 (hs0.ext st_15) (hn0) (hc0) r_27 r_33 hr_23) ?_
    rintro _ w_24 ⟨A_28, c_29, n_30, hn_31, rfl, sc_26⟩
    have st_25 : St w w_24 [.sl A_28 c_29 n_30 (iv .u8 r_27) 5 1, .sl A_18 c_19 n_20 (bv r_17) 4 1] := st_15.call sc_26
    refine ⟨_, rfl, ?_⟩
    refine WL.val Wanted.none (Runs.move rfl) ?_
    refine WL.val Wanted.none (Runs.extract rfl rfl) ?_
    refine WL.val Wanted.none (Runs.extract rfl rfl) ?_
    refine WL.val Wanted.none (Runs.assign rfl) ?_
    refine WL.val Wanted.none (Runs.assign rfl) ?_
    refine WL.nil ?_
    refine QW.then_n ?_
    refine CW.sub [(0, .slice A0 n0 c0), (1, .int .i64 a1), (2, .bool a2), (6, .bool false), (8, .bool r_11), (9, .int .i64 r_12), (10, .slice A_18 n_20 c_19), (11, .slice A_28 n_30 c_29), (12, .int .i64 r_33)] ⟨rfl, rfl, rfl, rfl, rfl, rfl, rfl, rfl, rfl, trivial⟩ ?_
    refine CW.seq ?_
    refine CW.region ?_
    refine WL.val Wanted.none (Runs.move rfl) ?_
    refine WL.val Wanted.none (Runs.bytes_str Try.underlying22 Try.underlying5 Try.underlying9 rfl (hs0.ext st_25) hn0) ?_
    refine WL.val Wanted.none (Runs.move rfl) ?_
    refine WL.val Wanted.none (Runs.move rfl) ?_
    obtain ⟨r_38, r_39, hr_34, H⟩ := H
    refine WL.call Wanted.none ent28 rfl (reliquaryref18_Set.calls w_24 (strOfNums l0) a1 a2 r_38 r_39 hr_34) ?_
    rintro _ w_35 ⟨rfl, sc_37⟩
    have st_36 : St w w_35 [.sl A_28 c_29 n_30 (iv .u8 r_27) 5 1, .sl A_18 c_19 n_20 (bv r_17) 4 1] := st_25.call sc_37
    refine ⟨_, rfl, ?_⟩
    refine WL.val Wanted.none (Runs.move rfl) ?_
    refine WL.val Wanted.none (Runs.extract rfl rfl) ?_
    refine WL.val Wanted.none (Runs.extract rfl rfl) ?_
    refine WL.val Wanted.none (Runs.assign rfl) ?_
    refine WL.val Wanted.none (Runs.assign rfl) ?_
    refine WL.nil ?_
    refine QW.then_n ?_
    refine CW.sub [(1, .int .i64 a1), (6, .bool false), (8, .bool r_11), (9, .int .i64 r_12), (10, .slice A_18 n_20 c_19), (11, .slice A_28 n_30 c_29), (12, .int .i64 r_33), (13, .string r_38), (14, .int .i64 r_39)] ⟨rfl, rfl, rfl, rfl, rfl, rfl, rfl, rfl, rfl, trivial⟩ ?_
    refine CW.seq ?_
    refine CW.seq ?_
    refine CW.region ?_
    refine WL.val Wanted.none (Runs.move rfl) ?_
    refine WL.val Wanted.none (Runs.bytes_str Try.underlying22 Try.underlying5 Try.underlying9 rfl (st_36.src_sl (k := 0) rfl) hn_31) ?_
    refine WL.val Wanted.none (Runs.move rfl) ?_
    refine WL.val Wanted.none (Runs.nes rfl rfl rfl) ?_
    refine WL.val Wanted.none (Runs.move rfl) ?_
    obtain ⟨c_40, H⟩ := H
    have h_41 : (!((strOfNums r_27).toList == r_38.toList)) = false := (not_f (beq_iff_eq.mpr (Decidable.not_not.mp c_40)))
    refine WL.on ?_ ?_; exact Wanted.guard (dj := 49) (by rfl) (evb (by rfl) h_41) (by rfl)
    refine WL.val Wanted.none (Runs.move rfl) ?_
    refine WL.on ?_ ?_; exact Wanted.guard (dj := 49) (by rfl) (evb (by rfl) h_41) (by rfl)
    refine WL.val Wanted.none (Runs.move rfl) ?_
    refine WL.on ?_ ?_; exact Wanted.guard (dj := 49) (by rfl) (evb (by rfl) h_41) (by rfl)
    refine WL.val Wanted.none (Runs.neq rfl rfl rfl) ?_
    refine WL.val Wanted.none (Runs.pick_f (evb rfl h_41) rfl) ?_
    refine WL.val Wanted.none (Runs.move rfl) ?_
    obtain ⟨c_42, H⟩ := H
    have h_43 : (r_33 != r_39) = false := (bne_eq_false_iff_eq.mpr (Decidable.not_not.mp c_42))
    refine WL.on ?_ ?_; exact Wanted.guard (dj := 54) (by rfl) (evb (by rfl) h_43) (by rfl)
    refine WL.val Wanted.none (Runs.move rfl) ?_
    refine WL.on ?_ ?_; exact Wanted.guard (dj := 54) (by rfl) (evb (by rfl) h_43) (by rfl)
    refine WL.val Wanted.none (Runs.move rfl) ?_
    refine WL.on ?_ ?_; exact Wanted.guard (dj := 54) (by rfl) (evb (by rfl) h_43) (by rfl)
    refine WL.val Wanted.none (Runs.neq rfl rfl rfl) ?_
    refine WL.val Wanted.none (Runs.pick_f (evb rfl h_43) rfl) ?_
    refine WL.nil ?_
    refine QW.then_n ?_
    refine CW.sub [(1, .int .i64 a1), (6, .bool false), (8, .bool r_11), (9, .int .i64 r_12), (10, .slice A_18 n_20 c_19), (58, .bool (r_12 != r_39))] ⟨rfl, rfl, rfl, rfl, rfl, rfl, trivial⟩ ?_
    obtain ⟨c_44, H⟩ := H
    have h_45 : (r_12 != r_39) = false := (bne_eq_false_iff_eq.mpr (Decidable.not_not.mp c_44))
    refine CW.cf rfl h_45 ?_
    refine CW.skip ?_
    refine QW.then_n ?_
    refine CW.seq ?_
    refine CW.region ?_
    refine WL.val Wanted.none (Runs.move rfl) ?_
    refine WL.val Wanted.none (Runs.neq rfl rfl rfl) ?_
    refine WL.val Wanted.none (Runs.move rfl) ?_
    rcases H with ⟨c_46, H⟩ | ⟨c_46, H⟩
    · have h_47 : (r_12 != 0) = true := (bne_iff_ne.mpr c_46)
      refine WL.on ?_ ?_; exact Wanted.guard (dj := 61) (by rfl) (evb (by rfl) h_47) (by rfl)
      refine WL.val Wanted.none (Runs.move rfl) ?_
      refine WL.on ?_ ?_; exact Wanted.guard (dj := 61) (by rfl) (evb (by rfl) h_47) (by rfl)
      refine WL.val Wanted.none (Runs.not rfl rfl) ?_
      refine WL.val Wanted.none (Runs.pick_t (evb rfl h_47) rfl) ?_
      refine WL.val Wanted.none (Runs.move rfl) ?_
      rcases H with ⟨c_48, H⟩ | ⟨c_48, H⟩
      · have h_49 : (!r_11) = true := (not_t (Bool.eq_false_iff.mpr c_48))
        refine WL.off ?_ ?_; exact Wanted.guard (dj := 65) (by rfl) (evb (by rfl) h_49) (by rfl)
        refine WL.off ?_ ?_; exact Wanted.guard (dj := 65) (by rfl) (evb (by rfl) h_49) (by rfl)
        refine WL.off ?_ ?_; exact Wanted.guard (dj := 65) (by rfl) (evb (by rfl) h_49) (by rfl)
        refine WL.off ?_ ?_; exact Wanted.undef (dj := 68) rfl rfl
        refine WL.off ?_ ?_; exact Wanted.undef (dj := 68) rfl rfl
        refine WL.off ?_ ?_; exact Wanted.undef (dj := 68) rfl rfl
        refine WL.off ?_ ?_; exact Wanted.undef (dj := 68) rfl rfl
        refine WL.off ?_ ?_; exact Wanted.undef (dj := 68) rfl rfl
        refine WL.off ?_ ?_; exact Wanted.undef (dj := 68) rfl rfl
        refine WL.off ?_ ?_; exact Wanted.guard (dj := 65) (by rfl) (evb (by rfl) h_49) (by rfl)
        refine WL.val Wanted.none (Runs.pick_t (evb rfl h_49) rfl) ?_
        refine WL.val Wanted.none (Runs.assign rfl) ?_
        refine WL.nil ?_
        refine QW.then_n ?_
        refine CW.sub [(6, .bool true)] ⟨rfl, trivial⟩ ?_
        refine CW.ret ?_
        exact QW.ret1 rfl rfl ⟨rfl, st_36.ext⟩
      · have h_49 : (!r_11) = false := (not_f (Decidable.not_not.mp c_48))
        refine WL.on ?_ ?_; exact Wanted.guard (dj := 65) (by rfl) (evb (by rfl) h_49) (by rfl)
        refine WL.val Wanted.none (Runs.move rfl) ?_
        refine WL.on ?_ ?_; exact Wanted.guard (dj := 65) (by rfl) (evb (by rfl) h_49) (by rfl)
        refine WL.val Wanted.none (Runs.eql rfl rfl rfl) ?_
        refine WL.on ?_ ?_; exact Wanted.guard (dj := 65) (by rfl) (evb (by rfl) h_49) (by rfl)
        refine WL.val Wanted.none (Runs.move rfl) ?_
        obtain ⟨c_50, H⟩ := H
        have h_51 : (r_12 == 0) = true := (beq_iff_eq.mpr c_50)
        refine WL.on ?_ ?_; exact Wanted.guard (dj := 68) (by rfl) (evb (by rfl) h_51) (by rfl)
        refine WL.val Wanted.none (Runs.move rfl) ?_
        refine WL.on ?_ ?_; exact Wanted.guard (dj := 68) (by rfl) (evb (by rfl) h_51) (by rfl)
        refine WL.val Wanted.none (Runs.move rfl) ?_
        refine WL.on ?_ ?_; exact Wanted.guard (dj := 68) (by rfl) (evb (by rfl) h_51) (by rfl)
        refine WL.val Wanted.none (Runs.move rfl) ?_
        refine WL.on ?_ ?_; exact Wanted.guard (dj := 68) (by rfl) (evb (by rfl) h_51) (by rfl)
        obtain ⟨⟨p_52, q_53⟩, H⟩ := H
        obtain ⟨a_54, e_55⟩ := (st_36.src_sl (k := 1) rfl).addr_bv ((a1).toNat) (by omega)
        refine WL.val Wanted.none (Runs.indexAddr Try.underlying38 cells4 (by decide) rfl e_55 rfl p_52 (by rw [hn_21]; exact q_53) (o := (a1).toNat) (by first | rfl | omega)) ?_
        refine WL.on ?_ ?_; exact Wanted.guard (dj := 68) (by rfl) (evb (by rfl) h_51) (by rfl)
        refine WL.val Wanted.none (Runs.load nagg4 rfl ((st_36.src_sl (k := 1) rfl).cell_bv e_55 (by omega))) ?_
        refine WL.on ?_ ?_; exact Wanted.guard (dj := 68) (by rfl) (evb (by rfl) h_51) (by rfl)
        refine WL.val Wanted.none (Runs.eqb Try.underlying4 rfl rfl rfl) ?_
        refine WL.on ?_ ?_; exact Wanted.guard (dj := 65) (by rfl) (evb (by rfl) h_49) (by rfl)
        refine WL.val Wanted.none (Runs.pick_t (evb rfl h_51) rfl) ?_
        refine WL.val Wanted.none (Runs.pick_f (evb rfl h_49) rfl) ?_
        refine WL.val Wanted.none (Runs.assign rfl) ?_
        refine WL.nil ?_
        refine QW.then_n ?_
        refine CW.sub [(6, .bool (r_11 == (gb r_17 ((a1).toNat))))] ⟨rfl, trivial⟩ ?_
        refine CW.ret ?_
        have hz : (r_11 == (gb r_17 ((a1).toNat))) = true := (beq_iff_eq.mpr H)
        exact QW.ret1 rfl (evb rfl hz) ⟨rfl, st_36.ext⟩
    · have h_47 : (r_12 != 0) = false := (bne_eq_false_iff_eq.mpr (Decidable.not_not.mp c_46))
      refine WL.off ?_ ?_; exact Wanted.guard (dj := 61) (by rfl) (evb (by rfl) h_47) (by rfl)
      refine WL.off ?_ ?_; exact Wanted.guard (dj := 61) (by rfl) (evb (by rfl) h_47) (by rfl)
      refine WL.val Wanted.none (Runs.pick_f (evb rfl h_47) rfl) ?_
      refine WL.val Wanted.none (Runs.move rfl) ?_
      refine WL.on ?_ ?_; exact Wanted.guard (dj := 65) (by rfl) (by rfl) (by rfl)
      refine WL.val Wanted.none (Runs.move rfl) ?_
      refine WL.on ?_ ?_; exact Wanted.guard (dj := 65) (by rfl) (by rfl) (by rfl)
      refine WL.val Wanted.none (Runs.eql rfl rfl rfl) ?_
      refine WL.on ?_ ?_; exact Wanted.guard (dj := 65) (by rfl) (by rfl) (by rfl)
      refine WL.val Wanted.none (Runs.move rfl) ?_
      obtain ⟨c_56, H⟩ := H
      have h_57 : (r_12 == 0) = true := (beq_iff_eq.mpr c_56)
      refine WL.on ?_ ?_; exact Wanted.guard (dj := 68) (by rfl) (evb (by rfl) h_57) (by rfl)
      refine WL.val Wanted.none (Runs.move rfl) ?_
      refine WL.on ?_ ?_; exact Wanted.guard (dj := 68) (by rfl) (evb (by rfl) h_57) (by rfl)
      refine WL.val Wanted.none (Runs.move rfl) ?_
      refine WL.on ?_ ?_; exact Wanted.guard (dj := 68) (by rfl) (evb (by rfl) h_57) (by rfl)
      refine WL.val Wanted.none (Runs.move rfl) ?_
      refine WL.on ?_ ?_; exact Wanted.guard (dj := 68) (by rfl) (evb (by rfl) h_57) (by rfl)
      obtain ⟨⟨p_58, q_59⟩, H⟩ := H
      obtain ⟨a_60, e_61⟩ := (st_36.src_sl (k := 1) rfl).addr_bv ((a1).toNat) (by omega)
      refine WL.val Wanted.none (Runs.indexAddr Try.underlying38 cells4 (by decide) rfl e_61 rfl p_58 (by rw [hn_21]; exact q_59) (o := (a1).toNat) (by first | rfl | omega)) ?_
      refine WL.on ?_ ?_; exact Wanted.guard (dj := 68) (by rfl) (evb (by rfl) h_57) (by rfl)
      refine WL.val Wanted.none (Runs.load nagg4 rfl ((st_36.src_sl (k := 1) rfl).cell_bv e_61 (by omega))) ?_
      refine WL.on ?_ ?_; exact Wanted.guard (dj := 68) (by rfl) (evb (by rfl) h_57) (by rfl)
      refine WL.val Wanted.none (Runs.eqb Try.underlying4 rfl rfl rfl) ?_
      refine WL.on ?_ ?_; exact Wanted.guard (dj := 65) (by rfl) (by rfl) (by rfl)
      refine WL.val Wanted.none (Runs.pick_t (evb rfl h_57) rfl) ?_
      refine WL.val Wanted.none (Runs.pick_f rfl rfl) ?_
      refine WL.val Wanted.none (Runs.assign rfl) ?_
      refine WL.nil ?_
      refine QW.then_n ?_
      refine CW.sub [(6, .bool (r_11 == (gb r_17 ((a1).toNat))))] ⟨rfl, trivial⟩ ?_
      refine CW.ret ?_
      have hz : (r_11 == (gb r_17 ((a1).toNat))) = true := (beq_iff_eq.mpr H)
      exact QW.ret1 rfl (evb rfl hz) ⟨rfl, st_36.ext⟩

/-! ### reliquaryref18_First: function 30 -/
def reliquaryref18_First.L1 (a2 : Int) (r0 : Int) (r1 : Int) (r_5 : List Bool) : Nat → Int → Int → Int → Prop
  | 0, _, _, _ => False
  | kL1 + 1, x_18, x_19, x_20 => ((x_20 < a2 ∧ ((0 ≤ x_20 ∧ x_20 < (r_5.length : Int)) ∧ ((¬ (gb r_5 ((x_20).toNat) = true) ∧ r0 = x_20 ∧ r1 = 0) ∨ (¬ (¬ (gb r_5 ((x_20).toNat) = true)) ∧ reliquaryref18_First.L1 a2 r0 r1 r_5 kL1 x_18 x_19 (IntKind.i64.wrap (x_20 + 1)))))) ∨ (¬ (x_20 < a2) ∧ r0 = 0 ∧ r1 = 20))
def reliquaryref18_First.rel (a0 : ByteArray) (a1 : Int) (a2 : Int) (r0 : Int) (r1 : Int) : Prop := (∃ (r_5 : List Bool), reliquaryref18_Bits.rel a0 r_5 ∧ ((a1 < 0 ∧ r0 = 0 ∧ r1 = 12) ∨ (¬ (a1 < 0) ∧ ((a2 < a1 ∧ r0 = 0 ∧ r1 = 12) ∨ (¬ (a2 < a1) ∧ ((a2 > (r_5.length : Int) ∧ r0 = 0 ∧ r1 = 12) ∨ (¬ (a2 > (r_5.length : Int)) ∧ (∃ k_ : Nat, reliquaryref18_First.L1 a2 r0 r1 r_5 k_ 0 0 a1))))))))
set_option maxHeartbeats 4000000 in
set_option maxRecDepth 100000 in
theorem reliquaryref18_First.calls (w : World) (a0 : ByteArray) (a1 : Int) (a2 : Int)   (r0 : Int) (r1 : Int) (H : reliquaryref18_First.rel a0 a1 a2 r0 r1) :
    Calls Try.prog 30 #[.string a0, .int .i64 a1, .int .i64 a2] w fun e w' => e = .returned (.tuple #[.int .i64 r0, .int .i64 r1]) ∧ St w w' [] := by
  refine CW.enter Try.func30 rfl (n := 37) rfl [.string a0, .int .i64 a1, .int .i64 a2] (Nat.le_of_ble_eq_true rfl) ?_
  refine CW.sub [(0, .string a0), (1, .int .i64 a1), (2, .int .i64 a2)] ⟨rfl, rfl, rfl, trivial⟩ ?_
  have st0 : St w w [] := St.refl w
  refine CW.seq ?_
  refine CW.region ?_
  refine WL.val Wanted.none (Runs.assign rfl) ?_
  refine WL.val Wanted.none (Runs.assign rfl) ?_
  refine WL.nil ?_
  refine QW.then_n ?_
  refine CW.seq ?_
  refine CW.region ?_
  refine WL.val Wanted.none (Runs.move rfl) ?_
  obtain ⟨r_5, hr_1, H⟩ := H
  refine WL.call Wanted.none ent26 rfl (reliquaryref18_Bits.calls w a0 r_5 hr_1) ?_
  rintro _ w_2 ⟨A_6, c_7, n_8, hn_9, rfl, sc_4⟩
  have st_3 : St w w_2 [.sl A_6 c_7 n_8 (bv r_5) 4 1] := st0.call sc_4
  refine ⟨_, rfl, ?_⟩
  refine WL.val Wanted.none (Runs.assign rfl) ?_
  refine WL.nil ?_
  refine QW.then_n ?_
  refine CW.seq ?_
  refine CW.seq ?_
  refine CW.region ?_
  refine WL.val Wanted.none (Runs.move rfl) ?_
  refine WL.val Wanted.none (Runs.lss rfl rfl rfl) ?_
  refine WL.val Wanted.none (Runs.move rfl) ?_
  rcases H with ⟨c_11, H⟩ | ⟨c_11, H⟩
  · have h_12 : (decide (a1 < 0)) = true := (decide_eq_true c_11)
    refine WL.off ?_ ?_; exact Wanted.guard (dj := 14) (by rfl) (evb (by rfl) h_12) (by rfl)
    refine WL.off ?_ ?_; exact Wanted.guard (dj := 14) (by rfl) (evb (by rfl) h_12) (by rfl)
    refine WL.off ?_ ?_; exact Wanted.guard (dj := 14) (by rfl) (evb (by rfl) h_12) (by rfl)
    refine WL.val Wanted.none (Runs.pick_t (evb rfl h_12) rfl) ?_
    refine WL.val Wanted.none (Runs.move rfl) ?_
    refine WL.off ?_ ?_; exact Wanted.guard (dj := 19) (by rfl) (by rfl) (by rfl)
    refine WL.off ?_ ?_; exact Wanted.guard (dj := 19) (by rfl) (by rfl) (by rfl)
    refine WL.off ?_ ?_; exact Wanted.guard (dj := 19) (by rfl) (by rfl) (by rfl)
    refine WL.off ?_ ?_; exact Wanted.guard (dj := 19) (by rfl) (by rfl) (by rfl)
    refine WL.val Wanted.none (Runs.pick_t rfl rfl) ?_
    refine WL.nil ?_
    refine QW.then_n ?_
    refine CW.sub [(1, .int .i64 a1), (2, .int .i64 a2), (6, .int .i64 0), (7, .int .i64 0), (8, .slice A_6 n_8 c_7), (24, .bool true)] ⟨rfl, rfl, rfl, rfl, rfl, rfl, trivial⟩ ?_
    refine CW.ct rfl rfl ?_
    refine CW.seq ?_
    refine CW.region ?_
    refine WL.val Wanted.none (Runs.assign rfl) ?_
    refine WL.val Wanted.none (Runs.assign rfl) ?_
    refine WL.nil ?_
    refine QW.then_n ?_
    refine CW.ret ?_
    refine QW.then_r ?_
    obtain ⟨rfl, rfl⟩ := H
    exact QW.ret2 rfl rfl rfl ⟨rfl, st_3.pick [] (by decide)⟩
  · have h_12 : (decide (a1 < 0)) = false := (decide_eq_false c_11)
    refine WL.on ?_ ?_; exact Wanted.guard (dj := 14) (by rfl) (evb (by rfl) h_12) (by rfl)
    refine WL.val Wanted.none (Runs.move rfl) ?_
    refine WL.on ?_ ?_; exact Wanted.guard (dj := 14) (by rfl) (evb (by rfl) h_12) (by rfl)
    refine WL.val Wanted.none (Runs.move rfl) ?_
    refine WL.on ?_ ?_; exact Wanted.guard (dj := 14) (by rfl) (evb (by rfl) h_12) (by rfl)
    refine WL.val Wanted.none (Runs.lss rfl rfl rfl) ?_
    refine WL.val Wanted.none (Runs.pick_f (evb rfl h_12) rfl) ?_
    refine WL.val Wanted.none (Runs.move rfl) ?_
    rcases H with ⟨c_13, H⟩ | ⟨c_13, H⟩
    · have h_14 : (decide (a2 < a1)) = true := (decide_eq_true c_13)
      refine WL.off ?_ ?_; exact Wanted.guard (dj := 19) (by rfl) (evb (by rfl) h_14) (by rfl)
      refine WL.off ?_ ?_; exact Wanted.guard (dj := 19) (by rfl) (evb (by rfl) h_14) (by rfl)
      refine WL.off ?_ ?_; exact Wanted.guard (dj := 19) (by rfl) (evb (by rfl) h_14) (by rfl)
      refine WL.off ?_ ?_; exact Wanted.guard (dj := 19) (by rfl) (evb (by rfl) h_14) (by rfl)
      refine WL.val Wanted.none (Runs.pick_t (evb rfl h_14) rfl) ?_
      refine WL.nil ?_
      refine QW.then_n ?_
      refine CW.sub [(1, .int .i64 a1), (2, .int .i64 a2), (6, .int .i64 0), (7, .int .i64 0), (8, .slice A_6 n_8 c_7), (24, .bool true)] ⟨rfl, rfl, rfl, rfl, rfl, rfl, trivial⟩ ?_
      refine CW.ct rfl rfl ?_
      refine CW.seq ?_
      refine CW.region ?_
      refine WL.val Wanted.none (Runs.assign rfl) ?_
      refine WL.val Wanted.none (Runs.assign rfl) ?_
      refine WL.nil ?_
      refine QW.then_n ?_
      refine CW.ret ?_
      refine QW.then_r ?_
      obtain ⟨rfl, rfl⟩ := H
      exact QW.ret2 rfl rfl rfl ⟨rfl, st_3.pick [] (by decide)⟩
    · have h_14 : (decide (a2 < a1)) = false := (decide_eq_false c_13)
      refine WL.on ?_ ?_; exact Wanted.guard (dj := 19) (by rfl) (evb (by rfl) h_14) (by rfl)
      refine WL.val Wanted.none (Runs.move rfl) ?_
      refine WL.on ?_ ?_; exact Wanted.guard (dj := 19) (by rfl) (evb (by rfl) h_14) (by rfl)
      refine WL.val Wanted.none (Runs.move rfl) ?_
      refine WL.on ?_ ?_; exact Wanted.guard (dj := 19) (by rfl) (evb (by rfl) h_14) (by rfl)
      refine WL.val Wanted.none (Runs.len_sl Try.underlying38 rfl (by rw [hn_9])) ?_
      refine WL.on ?_ ?_; exact Wanted.guard (dj := 19) (by rfl) (evb (by rfl) h_14) (by rfl)
      refine WL.val Wanted.none (Runs.gtr rfl rfl rfl) ?_
      refine WL.val Wanted.none (Runs.pick_f (evb rfl h_14) rfl) ?_
      refine WL.nil ?_
      refine QW.then_n ?_
      refine CW.sub [(1, .int .i64 a1), (2, .int .i64 a2), (6, .int .i64 0), (7, .int .i64 0), (8, .slice A_6 n_8 c_7), (24, .bool (decide (a2 > (r_5.length : Int))))] ⟨rfl, rfl, rfl, rfl, rfl, rfl, trivial⟩ ?_
      rcases H with ⟨c_15, H⟩ | ⟨c_15, H⟩
      · have h_16 : (decide (a2 > (r_5.length : Int))) = true := (decide_eq_true c_15)
        refine CW.ct rfl h_16 ?_
        refine CW.seq ?_
        refine CW.region ?_
        refine WL.val Wanted.none (Runs.assign rfl) ?_
        refine WL.val Wanted.none (Runs.assign rfl) ?_
        refine WL.nil ?_
        refine QW.then_n ?_
        refine CW.ret ?_
        refine QW.then_r ?_
        obtain ⟨rfl, rfl⟩ := H
        exact QW.ret2 rfl rfl rfl ⟨rfl, st_3.pick [] (by decide)⟩
      · have h_16 : (decide (a2 > (r_5.length : Int))) = false := (decide_eq_false c_15)
        refine CW.cf rfl h_16 ?_
        refine CW.skip ?_
        refine QW.then_n ?_
        refine CW.seq ?_
        refine CW.seq ?_
        refine CW.region ?_
        refine WL.val Wanted.none (Runs.move rfl) ?_
        refine WL.val Wanted.none (Runs.assign rfl) ?_
        refine WL.nil ?_
        refine QW.then_n ?_
        refine CW.block ?_
        obtain ⟨k_17, H⟩ := H
        refine CW.sub [(2, .int .i64 a2), (6, .int .i64 0), (7, .int .i64 0), (8, .slice A_6 n_8 c_7), (9, .int .i64 a1)] ⟨rfl, rfl, rfl, rfl, rfl, trivial⟩ ?_
        refine CW.loop (fun kL1 l_ w_ => ∃ (x_18 : Int) (x_19 : Int) (x_20 : Int), l_ = [(2, .int .i64 a2), (6, .int .i64 x_18), (7, .int .i64 x_19), (8, .slice A_6 n_8 c_7), (9, .int .i64 x_20)] ∧ reliquaryref18_First.L1 a2 r0 r1 r_5 kL1 x_18 x_19 x_20 ∧ St w w_ [.sl A_6 c_7 n_8 (bv r_5) 4 1]) (k := k_17) ⟨0, 0, a1, rfl, H, st_3⟩ (fun _ _ h => by obtain ⟨_, _, _, _, h, _⟩ := h; exact h.elim) ?_
        rintro kL1 l_23 w_21 ⟨x_18, x_19, x_20, rfl, H, st_22⟩
        refine CW.seq ?_
        refine CW.seq ?_
        refine CW.region ?_
        refine WL.val Wanted.none (Runs.move rfl) ?_
        refine WL.val Wanted.none (Runs.move rfl) ?_
        refine WL.val Wanted.none (Runs.lss rfl rfl rfl) ?_
        refine WL.nil ?_
        refine QW.then_n ?_
        rcases H with ⟨c_24, H⟩ | ⟨c_24, H⟩
        · have h_25 : (decide (x_20 < a2)) = true := (decide_eq_true c_24)
          refine CW.ct rfl h_25 ?_
          refine CW.skip ?_
          refine QW.then_n ?_
          refine CW.seq ?_
          refine CW.block ?_
          refine CW.seq ?_
          refine CW.region ?_
          refine WL.val Wanted.none (Runs.move rfl) ?_
          refine WL.val Wanted.none (Runs.move rfl) ?_
          obtain ⟨⟨p_26, q_27⟩, H⟩ := H
          obtain ⟨a_28, e_29⟩ := (st_22.src_sl (k := 0) rfl).addr_bv ((x_20).toNat) (by omega)
          refine WL.val Wanted.none (Runs.indexAddr Try.underlying38 cells4 (by decide) rfl e_29 rfl p_26 (by rw [hn_9]; exact q_27) (o := (x_20).toNat) (by first | rfl | omega)) ?_
          refine WL.val Wanted.none (Runs.load nagg4 rfl ((st_22.src_sl (k := 0) rfl).cell_bv e_29 (by omega))) ?_
          refine WL.val Wanted.none (Runs.not rfl rfl) ?_
          refine WL.nil ?_
          refine QW.then_n ?_
          rcases H with ⟨c_30, H⟩ | ⟨c_30, H⟩
          · have h_31 : (!(gb r_5 ((x_20).toNat))) = true := (not_t (Bool.eq_false_iff.mpr c_30))
            refine CW.ct rfl h_31 ?_
            refine CW.seq ?_
            refine CW.region ?_
            refine WL.val Wanted.none (Runs.move rfl) ?_
            refine WL.val Wanted.none (Runs.assign rfl) ?_
            refine WL.val Wanted.none (Runs.assign rfl) ?_
            refine WL.nil ?_
            refine QW.then_n ?_
            refine CW.ret ?_
            refine QW.blk_r ?_
            refine QW.then_r ?_
            refine QW.then_r ?_
            refine QW.blk_r ?_
            refine QW.then_r ?_
            obtain ⟨rfl, rfl⟩ := H
            exact QW.ret2 rfl rfl rfl ⟨rfl, st_22.pick [] (by decide)⟩
          · have h_31 : (!(gb r_5 ((x_20).toNat))) = false := (not_f (Decidable.not_not.mp c_30))
            refine CW.cf rfl h_31 ?_
            refine CW.skip ?_
            refine QW.blk_n ?_
            refine QW.then_n ?_
            refine CW.region ?_
            refine WL.val Wanted.none (Runs.move rfl) ?_
            refine WL.val Wanted.none (Runs.add rfl rfl rfl) ?_
            refine WL.val Wanted.none (Runs.assign rfl) ?_
            refine WL.nil ?_
            exact QW.at [(2, .int .i64 a2), (6, .int .i64 x_18), (7, .int .i64 x_19), (8, .slice A_6 n_8 c_7), (9, .int .i64 (IntKind.i64.wrap (x_20 + 1)))] ⟨rfl, rfl, rfl, rfl, rfl, trivial⟩ ⟨x_18, x_19, IntKind.i64.wrap (x_20 + 1), rfl, H, st_22⟩
        · have h_25 : (decide (x_20 < a2)) = false := (decide_eq_false c_24)
          refine CW.cf rfl h_25 ?_
          refine CW.exit ?_
          refine QW.then_x ?_
          refine QW.then_x ?_
          refine QW.blk_x ?_
          refine QW.then_n ?_
          refine CW.sub [(6, .int .i64 x_18), (7, .int .i64 x_19)] ⟨rfl, rfl, trivial⟩ ?_
          refine CW.seq ?_
          refine CW.region ?_
          refine WL.val Wanted.none (Runs.assign rfl) ?_
          refine WL.val Wanted.none (Runs.assign rfl) ?_
          refine WL.nil ?_
          refine QW.then_n ?_
          refine CW.ret ?_
          obtain ⟨rfl, rfl⟩ := H
          exact QW.ret2 rfl rfl rfl ⟨rfl, st_22.pick [] (by decide)⟩

/-! ### reliquaryref18_Count: function 32 -/
def reliquaryref18_Count.L1 (a2 : Int) (r0 : Int) (r1 : Int) (r_5 : List Bool) : Nat → Int → Int → Prop
  | 0, _, _ => False
  | kL1 + 1, x_18, x_19 => ((x_19 < a2 ∧ ((0 ≤ x_19 ∧ x_19 < (r_5.length : Int)) ∧ ((gb r_5 ((x_19).toNat) = true ∧ reliquaryref18_Count.L1 a2 r0 r1 r_5 kL1 (IntKind.i64.wrap (x_18 + 1)) (IntKind.i64.wrap (x_19 + 1))) ∨ (¬ (gb r_5 ((x_19).toNat) = true) ∧ reliquaryref18_Count.L1 a2 r0 r1 r_5 kL1 x_18 (IntKind.i64.wrap (x_19 + 1)))))) ∨ (¬ (x_19 < a2) ∧ r0 = x_18 ∧ r1 = 0))
def reliquaryref18_Count.rel (a0 : ByteArray) (a1 : Int) (a2 : Int) (r0 : Int) (r1 : Int) : Prop := (∃ (r_5 : List Bool), reliquaryref18_Bits.rel a0 r_5 ∧ ((a1 < 0 ∧ r0 = 0 ∧ r1 = 12) ∨ (¬ (a1 < 0) ∧ ((a2 < a1 ∧ r0 = 0 ∧ r1 = 12) ∨ (¬ (a2 < a1) ∧ ((a2 > (r_5.length : Int) ∧ r0 = 0 ∧ r1 = 12) ∨ (¬ (a2 > (r_5.length : Int)) ∧ (∃ k_ : Nat, reliquaryref18_Count.L1 a2 r0 r1 r_5 k_ 0 a1))))))))
set_option maxHeartbeats 4000000 in
set_option maxRecDepth 100000 in
theorem reliquaryref18_Count.calls (w : World) (a0 : ByteArray) (a1 : Int) (a2 : Int)   (r0 : Int) (r1 : Int) (H : reliquaryref18_Count.rel a0 a1 a2 r0 r1) :
    Calls Try.prog 32 #[.string a0, .int .i64 a1, .int .i64 a2] w fun e w' => e = .returned (.tuple #[.int .i64 r0, .int .i64 r1]) ∧ St w w' [] := by
  refine CW.enter Try.func32 rfl (n := 39) rfl [.string a0, .int .i64 a1, .int .i64 a2] (Nat.le_of_ble_eq_true rfl) ?_
  refine CW.sub [(0, .string a0), (1, .int .i64 a1), (2, .int .i64 a2)] ⟨rfl, rfl, rfl, trivial⟩ ?_
  have st0 : St w w [] := St.refl w
  refine CW.seq ?_
  refine CW.region ?_
  refine WL.val Wanted.none (Runs.assign rfl) ?_
  refine WL.val Wanted.none (Runs.assign rfl) ?_
  refine WL.nil ?_
  refine QW.then_n ?_
  refine CW.seq ?_
  refine CW.region ?_
  refine WL.val Wanted.none (Runs.move rfl) ?_
  obtain ⟨r_5, hr_1, H⟩ := H
  refine WL.call Wanted.none ent26 rfl (reliquaryref18_Bits.calls w a0 r_5 hr_1) ?_
  rintro _ w_2 ⟨A_6, c_7, n_8, hn_9, rfl, sc_4⟩
  have st_3 : St w w_2 [.sl A_6 c_7 n_8 (bv r_5) 4 1] := st0.call sc_4
  refine ⟨_, rfl, ?_⟩
  refine WL.val Wanted.none (Runs.assign rfl) ?_
  refine WL.nil ?_
  refine QW.then_n ?_
  refine CW.seq ?_
  refine CW.seq ?_
  refine CW.region ?_
  refine WL.val Wanted.none (Runs.move rfl) ?_
  refine WL.val Wanted.none (Runs.lss rfl rfl rfl) ?_
  refine WL.val Wanted.none (Runs.move rfl) ?_
  rcases H with ⟨c_11, H⟩ | ⟨c_11, H⟩
  · have h_12 : (decide (a1 < 0)) = true := (decide_eq_true c_11)
    refine WL.off ?_ ?_; exact Wanted.guard (dj := 15) (by rfl) (evb (by rfl) h_12) (by rfl)
    refine WL.off ?_ ?_; exact Wanted.guard (dj := 15) (by rfl) (evb (by rfl) h_12) (by rfl)
    refine WL.off ?_ ?_; exact Wanted.guard (dj := 15) (by rfl) (evb (by rfl) h_12) (by rfl)
    refine WL.val Wanted.none (Runs.pick_t (evb rfl h_12) rfl) ?_
    refine WL.val Wanted.none (Runs.move rfl) ?_
    refine WL.off ?_ ?_; exact Wanted.guard (dj := 20) (by rfl) (by rfl) (by rfl)
    refine WL.off ?_ ?_; exact Wanted.guard (dj := 20) (by rfl) (by rfl) (by rfl)
    refine WL.off ?_ ?_; exact Wanted.guard (dj := 20) (by rfl) (by rfl) (by rfl)
    refine WL.off ?_ ?_; exact Wanted.guard (dj := 20) (by rfl) (by rfl) (by rfl)
    refine WL.val Wanted.none (Runs.pick_t rfl rfl) ?_
    refine WL.nil ?_
    refine QW.then_n ?_
    refine CW.sub [(1, .int .i64 a1), (2, .int .i64 a2), (6, .int .i64 0), (7, .int .i64 0), (8, .slice A_6 n_8 c_7), (25, .bool true)] ⟨rfl, rfl, rfl, rfl, rfl, rfl, trivial⟩ ?_
    refine CW.ct rfl rfl ?_
    refine CW.seq ?_
    refine CW.region ?_
    refine WL.val Wanted.none (Runs.assign rfl) ?_
    refine WL.val Wanted.none (Runs.assign rfl) ?_
    refine WL.nil ?_
    refine QW.then_n ?_
    refine CW.ret ?_
    refine QW.then_r ?_
    obtain ⟨rfl, rfl⟩ := H
    exact QW.ret2 rfl rfl rfl ⟨rfl, st_3.pick [] (by decide)⟩
  · have h_12 : (decide (a1 < 0)) = false := (decide_eq_false c_11)
    refine WL.on ?_ ?_; exact Wanted.guard (dj := 15) (by rfl) (evb (by rfl) h_12) (by rfl)
    refine WL.val Wanted.none (Runs.move rfl) ?_
    refine WL.on ?_ ?_; exact Wanted.guard (dj := 15) (by rfl) (evb (by rfl) h_12) (by rfl)
    refine WL.val Wanted.none (Runs.move rfl) ?_
    refine WL.on ?_ ?_; exact Wanted.guard (dj := 15) (by rfl) (evb (by rfl) h_12) (by rfl)
    refine WL.val Wanted.none (Runs.lss rfl rfl rfl) ?_
    refine WL.val Wanted.none (Runs.pick_f (evb rfl h_12) rfl) ?_
    refine WL.val Wanted.none (Runs.move rfl) ?_
    rcases H with ⟨c_13, H⟩ | ⟨c_13, H⟩
    · have h_14 : (decide (a2 < a1)) = true := (decide_eq_true c_13)
      refine WL.off ?_ ?_; exact Wanted.guard (dj := 20) (by rfl) (evb (by rfl) h_14) (by rfl)
      refine WL.off ?_ ?_; exact Wanted.guard (dj := 20) (by rfl) (evb (by rfl) h_14) (by rfl)
      refine WL.off ?_ ?_; exact Wanted.guard (dj := 20) (by rfl) (evb (by rfl) h_14) (by rfl)
      refine WL.off ?_ ?_; exact Wanted.guard (dj := 20) (by rfl) (evb (by rfl) h_14) (by rfl)
      refine WL.val Wanted.none (Runs.pick_t (evb rfl h_14) rfl) ?_
      refine WL.nil ?_
      refine QW.then_n ?_
      refine CW.sub [(1, .int .i64 a1), (2, .int .i64 a2), (6, .int .i64 0), (7, .int .i64 0), (8, .slice A_6 n_8 c_7), (25, .bool true)] ⟨rfl, rfl, rfl, rfl, rfl, rfl, trivial⟩ ?_
      refine CW.ct rfl rfl ?_
      refine CW.seq ?_
      refine CW.region ?_
      refine WL.val Wanted.none (Runs.assign rfl) ?_
      refine WL.val Wanted.none (Runs.assign rfl) ?_
      refine WL.nil ?_
      refine QW.then_n ?_
      refine CW.ret ?_
      refine QW.then_r ?_
      obtain ⟨rfl, rfl⟩ := H
      exact QW.ret2 rfl rfl rfl ⟨rfl, st_3.pick [] (by decide)⟩
    · have h_14 : (decide (a2 < a1)) = false := (decide_eq_false c_13)
      refine WL.on ?_ ?_; exact Wanted.guard (dj := 20) (by rfl) (evb (by rfl) h_14) (by rfl)
      refine WL.val Wanted.none (Runs.move rfl) ?_
      refine WL.on ?_ ?_; exact Wanted.guard (dj := 20) (by rfl) (evb (by rfl) h_14) (by rfl)
      refine WL.val Wanted.none (Runs.move rfl) ?_
      refine WL.on ?_ ?_; exact Wanted.guard (dj := 20) (by rfl) (evb (by rfl) h_14) (by rfl)
      refine WL.val Wanted.none (Runs.len_sl Try.underlying38 rfl (by rw [hn_9])) ?_
      refine WL.on ?_ ?_; exact Wanted.guard (dj := 20) (by rfl) (evb (by rfl) h_14) (by rfl)
      refine WL.val Wanted.none (Runs.gtr rfl rfl rfl) ?_
      refine WL.val Wanted.none (Runs.pick_f (evb rfl h_14) rfl) ?_
      refine WL.nil ?_
      refine QW.then_n ?_
      refine CW.sub [(1, .int .i64 a1), (2, .int .i64 a2), (6, .int .i64 0), (7, .int .i64 0), (8, .slice A_6 n_8 c_7), (25, .bool (decide (a2 > (r_5.length : Int))))] ⟨rfl, rfl, rfl, rfl, rfl, rfl, trivial⟩ ?_
      rcases H with ⟨c_15, H⟩ | ⟨c_15, H⟩
      · have h_16 : (decide (a2 > (r_5.length : Int))) = true := (decide_eq_true c_15)
        refine CW.ct rfl h_16 ?_
        refine CW.seq ?_
        refine CW.region ?_
        refine WL.val Wanted.none (Runs.assign rfl) ?_
        refine WL.val Wanted.none (Runs.assign rfl) ?_
        refine WL.nil ?_
        refine QW.then_n ?_
        refine CW.ret ?_
        refine QW.then_r ?_
        obtain ⟨rfl, rfl⟩ := H
        exact QW.ret2 rfl rfl rfl ⟨rfl, st_3.pick [] (by decide)⟩
      · have h_16 : (decide (a2 > (r_5.length : Int))) = false := (decide_eq_false c_15)
        refine CW.cf rfl h_16 ?_
        refine CW.skip ?_
        refine QW.then_n ?_
        refine CW.seq ?_
        refine CW.region ?_
        refine WL.val Wanted.none (Runs.assign rfl) ?_
        refine WL.nil ?_
        refine QW.then_n ?_
        refine CW.seq ?_
        refine CW.seq ?_
        refine CW.region ?_
        refine WL.val Wanted.none (Runs.move rfl) ?_
        refine WL.val Wanted.none (Runs.assign rfl) ?_
        refine WL.nil ?_
        refine QW.then_n ?_
        refine CW.block ?_
        obtain ⟨k_17, H⟩ := H
        refine CW.sub [(2, .int .i64 a2), (6, .int .i64 0), (7, .int .i64 0), (8, .slice A_6 n_8 c_7), (9, .int .i64 0), (10, .int .i64 a1)] ⟨rfl, rfl, rfl, rfl, rfl, rfl, trivial⟩ ?_
        refine CW.loop (fun kL1 l_ w_ => ∃ (x_18 : Int) (x_19 : Int), l_ = [(2, .int .i64 a2), (6, .int .i64 0), (7, .int .i64 0), (8, .slice A_6 n_8 c_7), (9, .int .i64 x_18), (10, .int .i64 x_19)] ∧ reliquaryref18_Count.L1 a2 r0 r1 r_5 kL1 x_18 x_19 ∧ St w w_ [.sl A_6 c_7 n_8 (bv r_5) 4 1]) (k := k_17) ⟨0, a1, rfl, H, st_3⟩ (fun _ _ h => by obtain ⟨_, _, _, h, _⟩ := h; exact h.elim) ?_
        rintro kL1 l_22 w_20 ⟨x_18, x_19, rfl, H, st_21⟩
        refine CW.seq ?_
        refine CW.seq ?_
        refine CW.region ?_
        refine WL.val Wanted.none (Runs.move rfl) ?_
        refine WL.val Wanted.none (Runs.move rfl) ?_
        refine WL.val Wanted.none (Runs.lss rfl rfl rfl) ?_
        refine WL.nil ?_
        refine QW.then_n ?_
        rcases H with ⟨c_23, H⟩ | ⟨c_23, H⟩
        · have h_24 : (decide (x_19 < a2)) = true := (decide_eq_true c_23)
          refine CW.ct rfl h_24 ?_
          refine CW.skip ?_
          refine QW.then_n ?_
          refine CW.seq ?_
          refine CW.block ?_
          refine CW.seq ?_
          refine CW.region ?_
          refine WL.val Wanted.none (Runs.move rfl) ?_
          refine WL.val Wanted.none (Runs.move rfl) ?_
          obtain ⟨⟨p_25, q_26⟩, H⟩ := H
          obtain ⟨a_27, e_28⟩ := (st_21.src_sl (k := 0) rfl).addr_bv ((x_19).toNat) (by omega)
          refine WL.val Wanted.none (Runs.indexAddr Try.underlying38 cells4 (by decide) rfl e_28 rfl p_25 (by rw [hn_9]; exact q_26) (o := (x_19).toNat) (by first | rfl | omega)) ?_
          refine WL.val Wanted.none (Runs.load nagg4 rfl ((st_21.src_sl (k := 0) rfl).cell_bv e_28 (by omega))) ?_
          refine WL.nil ?_
          refine QW.then_n ?_
          rcases H with ⟨c_29, H⟩ | ⟨c_29, H⟩
          · have h_30 : (gb r_5 ((x_19).toNat)) = true := c_29
            refine CW.ct rfl h_30 ?_
            refine CW.region ?_
            refine WL.val Wanted.none (Runs.move rfl) ?_
            refine WL.val Wanted.none (Runs.add rfl rfl rfl) ?_
            refine WL.val Wanted.none (Runs.assign rfl) ?_
            refine WL.nil ?_
            refine QW.blk_n ?_
            refine QW.then_n ?_
            refine CW.region ?_
            refine WL.val Wanted.none (Runs.move rfl) ?_
            refine WL.val Wanted.none (Runs.add rfl rfl rfl) ?_
            refine WL.val Wanted.none (Runs.assign rfl) ?_
            refine WL.nil ?_
            exact QW.at [(2, .int .i64 a2), (6, .int .i64 0), (7, .int .i64 0), (8, .slice A_6 n_8 c_7), (9, .int .i64 (IntKind.i64.wrap (x_18 + 1))), (10, .int .i64 (IntKind.i64.wrap (x_19 + 1)))] ⟨rfl, rfl, rfl, rfl, rfl, rfl, trivial⟩ ⟨IntKind.i64.wrap (x_18 + 1), IntKind.i64.wrap (x_19 + 1), rfl, H, st_21⟩
          · have h_30 : (gb r_5 ((x_19).toNat)) = false := (Bool.eq_false_iff.mpr c_29)
            refine CW.cf rfl h_30 ?_
            refine CW.skip ?_
            refine QW.blk_n ?_
            refine QW.then_n ?_
            refine CW.region ?_
            refine WL.val Wanted.none (Runs.move rfl) ?_
            refine WL.val Wanted.none (Runs.add rfl rfl rfl) ?_
            refine WL.val Wanted.none (Runs.assign rfl) ?_
            refine WL.nil ?_
            exact QW.at [(2, .int .i64 a2), (6, .int .i64 0), (7, .int .i64 0), (8, .slice A_6 n_8 c_7), (9, .int .i64 x_18), (10, .int .i64 (IntKind.i64.wrap (x_19 + 1)))] ⟨rfl, rfl, rfl, rfl, rfl, rfl, trivial⟩ ⟨x_18, IntKind.i64.wrap (x_19 + 1), rfl, H, st_21⟩
        · have h_24 : (decide (x_19 < a2)) = false := (decide_eq_false c_23)
          refine CW.cf rfl h_24 ?_
          refine CW.exit ?_
          refine QW.then_x ?_
          refine QW.then_x ?_
          refine QW.blk_x ?_
          refine QW.then_n ?_
          refine CW.sub [(6, .int .i64 0), (7, .int .i64 0), (9, .int .i64 x_18)] ⟨rfl, rfl, rfl, trivial⟩ ?_
          refine CW.seq ?_
          refine CW.region ?_
          refine WL.val Wanted.none (Runs.move rfl) ?_
          refine WL.val Wanted.none (Runs.assign rfl) ?_
          refine WL.val Wanted.none (Runs.assign rfl) ?_
          refine WL.nil ?_
          refine QW.then_n ?_
          refine CW.ret ?_
          obtain ⟨rfl, rfl⟩ := H
          exact QW.ret2 rfl rfl rfl ⟨rfl, st_21.pick [] (by decide)⟩

/-! ### reliquarylaw18_BitmapRows: function 9 -/
def reliquarylaw18_BitmapRows.rel (l0 : List Int) (a1 : Int) (a2 : Int)  : Prop := (reliquarylaw18_awake.rel  ∧ (((l0.length : Int) > 300 ∧ True) ∨ (¬ ((l0.length : Int) > 300) ∧ (∃ (r_11 : Int) (r_12 : Int), bitmap_First.rel l0 a1 a2 r_11 r_12 ∧ (∃ (r_17 : Int) (r_18 : Int), reliquaryref18_First.rel (strOfNums l0) a1 a2 r_17 r_18 ∧ (∃ (r_23 : Int) (r_24 : Int), bitmap_Count.rel l0 a1 a2 r_23 r_24 ∧ (∃ (r_29 : Int) (r_30 : Int), reliquaryref18_Count.rel (strOfNums l0) a1 a2 r_29 r_30 ∧ (r_11 = r_17 ∧ (r_12 = r_18 ∧ (r_23 = r_29 ∧ r_24 = r_30))))))))))
set_option maxHeartbeats 4000000 in
set_option maxRecDepth 100000 in
theorem reliquarylaw18_BitmapRows.calls (w : World) (l0 : List Int) (a1 : Int) (a2 : Int) (A0 : Option Addr) (n0 : Nat) (c0 : Nat) (hs0 : Src w A0 (iv .u8 l0)) (hn0 : n0 = l0.length) (hc0 : n0 ≤ c0)  (H : reliquarylaw18_BitmapRows.rel l0 a1 a2 ) :
    Calls Try.prog 9 #[.slice A0 n0 c0, .int .i64 a1, .int .i64 a2] w fun e w' => e = .returned (.bool true) ∧ Below w.heap.size w w' := by
  refine CW.enter Try.func9 rfl (n := 70) rfl [.slice A0 n0 c0, .int .i64 a1, .int .i64 a2] (Nat.le_of_ble_eq_true rfl) ?_
  refine CW.sub [(0, .slice A0 n0 c0), (1, .int .i64 a1), (2, .int .i64 a2)] ⟨rfl, rfl, rfl, trivial⟩ ?_
  have st0 : St w w [] := St.refl w
  refine CW.seq ?_
  refine CW.region ?_
  refine WL.val Wanted.none (Runs.assign rfl) ?_
  refine WL.nil ?_
  refine QW.then_n ?_
  refine CW.seq ?_
  refine CW.region ?_
  obtain ⟨hr_1, H⟩ := H
  refine WL.call Wanted.none ent24 rfl (reliquarylaw18_awake.calls w hr_1) ?_
  rintro _ w_2 ⟨rfl, sc_4⟩
  have st_3 : St w w_2 [] := st0.below sc_4
  refine ⟨_, rfl, ?_⟩
  refine WL.val Wanted.none (Runs.assign rfl) ?_
  refine WL.nil ?_
  refine QW.then_n ?_
  refine CW.seq ?_
  refine CW.seq ?_
  refine CW.region ?_
  refine WL.val Wanted.none (Runs.move rfl) ?_
  refine WL.val Wanted.none (Runs.not rfl rfl) ?_
  refine WL.nil ?_
  refine QW.then_n ?_
  refine CW.cf rfl rfl ?_
  refine CW.skip ?_
  refine QW.then_n ?_
  refine CW.seq ?_
  refine CW.seq ?_
  refine CW.region ?_
  refine WL.val Wanted.none (Runs.move rfl) ?_
  refine WL.val Wanted.none (Runs.len_sl Try.underlying22 rfl (by rw [hn0])) ?_
  refine WL.val Wanted.none (Runs.gtr rfl rfl rfl) ?_
  refine WL.nil ?_
  refine QW.then_n ?_
  refine CW.sub [(0, .slice A0 n0 c0), (1, .int .i64 a1), (2, .int .i64 a2), (6, .bool false), (21, .bool (decide ((l0.length : Int) > 300)))] ⟨rfl, rfl, rfl, rfl, rfl, trivial⟩ ?_
  rcases H with ⟨c_5, H⟩ | ⟨c_5, H⟩
  · have h_6 : (decide ((l0.length : Int) > 300)) = true := (decide_eq_true c_5)
    refine CW.ct rfl h_6 ?_
    refine CW.seq ?_
    refine CW.region ?_
    refine WL.val Wanted.none (Runs.assign rfl) ?_
    refine WL.nil ?_
    refine QW.then_n ?_
    refine CW.ret ?_
    refine QW.then_r ?_
    exact QW.ret1 rfl rfl ⟨rfl, st_3.ext⟩
  · have h_6 : (decide ((l0.length : Int) > 300)) = false := (decide_eq_false c_5)
    refine CW.cf rfl h_6 ?_
    refine CW.skip ?_
    refine QW.then_n ?_
    refine CW.seq ?_
    refine CW.region ?_
    refine WL.val Wanted.none (Runs.move rfl) ?_
    refine WL.val Wanted.none (Runs.move rfl) ?_
    refine WL.val Wanted.none (Runs.move rfl) ?_
    obtain ⟨r_11, r_12, hr_7, H⟩ := H
    refine WL.call Wanted.none ent29 rfl (bitmap_First.calls w_2 l0 a1 a2 A0 n0 c0 (hs0.ext st_3) (hn0) (hc0) r_11 r_12 hr_7) ?_
    rintro _ w_8 ⟨rfl, sc_10⟩
    have st_9 : St w w_8 [] := st_3.call sc_10
    refine ⟨_, rfl, ?_⟩
    refine WL.val Wanted.none (Runs.move rfl) ?_
    refine WL.val Wanted.none (Runs.extract rfl rfl) ?_
    refine WL.val Wanted.none (Runs.extract rfl rfl) ?_
    refine WL.val Wanted.none (Runs.assign rfl) ?_
    refine WL.val Wanted.none (Runs.assign rfl) ?_
    refine WL.nil ?_
    refine QW.then_n ?_
    refine CW.sub [(0, .slice A0 n0 c0), (1, .int .i64 a1), (2, .int .i64 a2), (6, .bool false), (8, .int .i64 r_11), (9, .int .i64 r_12)] ⟨rfl, rfl, rfl, rfl, rfl, rfl, trivial⟩ ?_
    refine CW.seq ?_
    refine CW.region ?_
    refine WL.val Wanted.none (Runs.move rfl) ?_
    refine WL.val Wanted.none (Runs.bytes_str Try.underlying22 Try.underlying5 Try.underlying9 rfl (hs0.ext st_9) hn0) ?_
    refine WL.val Wanted.none (Runs.move rfl) ?_
    refine WL.val Wanted.none (Runs.move rfl) ?_
    obtain ⟨r_17, r_18, hr_13, H⟩ := H
    refine WL.call Wanted.none ent30 rfl (reliquaryref18_First.calls w_8 (strOfNums l0) a1 a2 r_17 r_18 hr_13) ?_
    rintro _ w_14 ⟨rfl, sc_16⟩
    have st_15 : St w w_14 [] := st_9.call sc_16
    refine ⟨_, rfl, ?_⟩
    refine WL.val Wanted.none (Runs.move rfl) ?_
    refine WL.val Wanted.none (Runs.extract rfl rfl) ?_
    refine WL.val Wanted.none (Runs.extract rfl rfl) ?_
    refine WL.val Wanted.none (Runs.assign rfl) ?_
    refine WL.val Wanted.none (Runs.assign rfl) ?_
    refine WL.nil ?_
    refine QW.then_n ?_
    refine CW.sub [(0, .slice A0 n0 c0), (1, .int .i64 a1), (2, .int .i64 a2), (6, .bool false), (8, .int .i64 r_11), (9, .int .i64 r_12), (10, .int .i64 r_17), (11, .int .i64 r_18)] ⟨rfl, rfl, rfl, rfl, rfl, rfl, rfl, rfl, trivial⟩ ?_
    refine CW.seq ?_
    refine CW.region ?_
    refine WL.val Wanted.none (Runs.move rfl) ?_
    refine WL.val Wanted.none (Runs.move rfl) ?_
    refine WL.val Wanted.none (Runs.move rfl) ?_
    obtain ⟨r_23, r_24, hr_19, H⟩ := H
    refine WL.call Wanted.none ent31 rfl (bitmap_Count.calls w_14 l0 a1 a2 A0 n0 c0 (hs0.ext st_15) (hn0) (hc0) r_23 r_24 hr_19) ?_
    rintro _ w_20 ⟨rfl, sc_22⟩
    have st_21 : St w w_20 [] := st_15.call sc_22
    refine ⟨_, rfl, ?_⟩
    refine WL.val Wanted.none (Runs.move rfl) ?_
    refine WL.val Wanted.none (Runs.extract rfl rfl) ?_
    refine WL.val Wanted.none (Runs.extract rfl rfl) ?_
    refine WL.val Wanted.none (Runs.assign rfl) ?_
    refine WL.val Wanted.none (Runs.assign rfl) ?_
    refine WL.nil ?_
    refine QW.then_n ?_
    refine CW.sub [(0, .slice A0 n0 c0), (1, .int .i64 a1), (2, .int .i64 a2), (6, .bool false), (8, .int .i64 r_11), (9, .int .i64 r_12), (10, .int .i64 r_17), (11, .int .i64 r_18), (12, .int .i64 r_23), (13, .int .i64 r_24)] ⟨rfl, rfl, rfl, rfl, rfl, rfl, rfl, rfl, rfl, rfl, trivial⟩ ?_
    refine CW.seq ?_
    refine CW.region ?_
    refine WL.val Wanted.none (Runs.move rfl) ?_
    refine WL.val Wanted.none (Runs.bytes_str Try.underlying22 Try.underlying5 Try.underlying9 rfl (hs0.ext st_21) hn0) ?_
    refine WL.val Wanted.none (Runs.move rfl) ?_
    refine WL.val Wanted.none (Runs.move rfl) ?_
    obtain ⟨r_29, r_30, hr_25, H⟩ := H
    refine WL.call Wanted.none ent32 rfl (reliquaryref18_Count.calls w_20 (strOfNums l0) a1 a2 r_29 r_30 hr_25) ?_
    rintro _ w_26 ⟨rfl, sc_28⟩
    have st_27 : St w w_26 [] := st_21.call sc_28
    refine ⟨_, rfl, ?_⟩
    refine WL.val Wanted.none (Runs.move rfl) ?_
    refine WL.val Wanted.none (Runs.extract rfl rfl) ?_
    refine WL.val Wanted.none (Runs.extract rfl rfl) ?_
    refine WL.val Wanted.none (Runs.assign rfl) ?_
    refine WL.val Wanted.none (Runs.assign rfl) ?_
    refine WL.nil ?_
    refine QW.then_n ?_
    refine CW.sub [(6, .bool false), (8, .int .i64 r_11), (9, .int .i64 r_12), (10, .int .i64 r_17), (11, .int .i64 r_18), (12, .int .i64 r_23), (13, .int .i64 r_24), (14, .int .i64 r_29), (15, .int .i64 r_30)] ⟨rfl, rfl, rfl, rfl, rfl, rfl, rfl, rfl, rfl, trivial⟩ ?_
    refine CW.seq ?_
    refine CW.region ?_
    refine WL.val Wanted.none (Runs.move rfl) ?_
    refine WL.val Wanted.none (Runs.move rfl) ?_
    refine WL.val Wanted.none (Runs.eql rfl rfl rfl) ?_
    refine WL.val Wanted.none (Runs.move rfl) ?_
    obtain ⟨c_31, H⟩ := H
    have h_32 : (r_11 == r_17) = true := (beq_iff_eq.mpr c_31)
    refine WL.on ?_ ?_; exact Wanted.guard (dj := 55) (by rfl) (evb (by rfl) h_32) (by rfl)
    refine WL.val Wanted.none (Runs.move rfl) ?_
    refine WL.on ?_ ?_; exact Wanted.guard (dj := 55) (by rfl) (evb (by rfl) h_32) (by rfl)
    refine WL.val Wanted.none (Runs.move rfl) ?_
    refine WL.on ?_ ?_; exact Wanted.guard (dj := 55) (by rfl) (evb (by rfl) h_32) (by rfl)
    refine WL.val Wanted.none (Runs.eql rfl rfl rfl) ?_
    refine WL.val Wanted.none (Runs.pick_t (evb rfl h_32) rfl) ?_
    refine WL.val Wanted.none (Runs.move rfl) ?_
    obtain ⟨c_33, H⟩ := H
    have h_34 : (r_12 == r_18) = true := (beq_iff_eq.mpr c_33)
    refine WL.on ?_ ?_; exact Wanted.guard (dj := 60) (by rfl) (evb (by rfl) h_34) (by rfl)
    refine WL.val Wanted.none (Runs.move rfl) ?_
    refine WL.on ?_ ?_; exact Wanted.guard (dj := 60) (by rfl) (evb (by rfl) h_34) (by rfl)
    refine WL.val Wanted.none (Runs.move rfl) ?_
    refine WL.on ?_ ?_; exact Wanted.guard (dj := 60) (by rfl) (evb (by rfl) h_34) (by rfl)
    refine WL.val Wanted.none (Runs.eql rfl rfl rfl) ?_
    refine WL.val Wanted.none (Runs.pick_t (evb rfl h_34) rfl) ?_
    refine WL.val Wanted.none (Runs.move rfl) ?_
    obtain ⟨c_35, H⟩ := H
    have h_36 : (r_23 == r_29) = true := (beq_iff_eq.mpr c_35)
    refine WL.on ?_ ?_; exact Wanted.guard (dj := 65) (by rfl) (evb (by rfl) h_36) (by rfl)
    refine WL.val Wanted.none (Runs.move rfl) ?_
    refine WL.on ?_ ?_; exact Wanted.guard (dj := 65) (by rfl) (evb (by rfl) h_36) (by rfl)
    refine WL.val Wanted.none (Runs.move rfl) ?_
    refine WL.on ?_ ?_; exact Wanted.guard (dj := 65) (by rfl) (evb (by rfl) h_36) (by rfl)
    refine WL.val Wanted.none (Runs.eql rfl rfl rfl) ?_
    refine WL.val Wanted.none (Runs.pick_t (evb rfl h_36) rfl) ?_
    refine WL.val Wanted.none (Runs.assign rfl) ?_
    refine WL.nil ?_
    refine QW.then_n ?_
    refine CW.sub [(6, .bool (r_24 == r_30))] ⟨rfl, trivial⟩ ?_
    refine CW.ret ?_
    have hz : (r_24 == r_30) = true := (beq_iff_eq.mpr H)
    exact QW.ret1 rfl (evb rfl hz) ⟨rfl, st_27.ext⟩

/-! ### reliquarylaw18_BitmapFills: function 10 -/
def reliquarylaw18_BitmapFills.L1 (a0 : Int) (a1 : Int) (a2 : Int) (x_14 : Int) : Nat → (List Int) → Bool → Int → Prop
  | 0, _, _, _ => False
  | kL1 + 1, l_20, b_23, x_24 => (∃ x_28 : Int, x_28 = IntKind.i64.wrap (8 * (IntKind.i64.wrap ((IntKind.i64.wrap (Int.tmod a0 4)) + 1))) ∧ ((x_24 < x_28 ∧ (∃ x_32 : Int, x_32 = IntKind.i64.wrap (8 * (IntKind.i64.wrap ((IntKind.i64.wrap (Int.tmod a0 4)) + 1))) ∧ (∃ (r_38 : Int) (r_39 : Int), bitmap_First.rel l_20 (Int.tmod (IntKind.i64.wrap a1) x_14) x_32 r_38 r_39 ∧ (¬ (r_39 ≠ 0) ∧ (¬ (r_38 ≠ x_24) ∧ (∃ (r_48 : List Int) (r_54 : Int), bitmap_Set.rel l_20 r_38 true r_48 r_54 ∧ (¬ (r_54 ≠ 0) ∧ reliquarylaw18_BitmapFills.L1 a0 a1 a2 x_14 kL1 r_48 b_23 (IntKind.i64.wrap (x_24 + 1))))))))) ∨ (¬ (x_24 < x_28) ∧ (∃ x_57 : Int, x_57 = IntKind.i64.wrap (8 * (IntKind.i64.wrap ((IntKind.i64.wrap (Int.tmod a0 4)) + 1))) ∧ (∃ (r_63 : Int) (r_64 : Int), bitmap_First.rel l_20 (Int.tmod (IntKind.i64.wrap a1) x_14) x_57 r_63 r_64 ∧ (∃ x_65 : Int, x_65 = IntKind.i64.wrap (8 * (IntKind.i64.wrap ((IntKind.i64.wrap (Int.tmod a0 4)) + 1))) ∧ (∃ (r_71 : Int) (r_72 : Int), bitmap_Count.rel l_20 0 x_65 r_71 r_72 ∧ (∃ x_73 : Int, x_73 = IntKind.i64.wrap (8 * (IntKind.i64.wrap ((IntKind.i64.wrap (Int.tmod a0 4)) + 1))) ∧ (∃ x_75 : Int, x_75 = IntKind.i64.wrap (x_73 - (Int.tmod (IntKind.i64.wrap a1) x_14)) ∧ (x_75 ≠ 0 ∧ (∃ x_78 : Int, x_78 = IntKind.i64.wrap ((Int.tmod (IntKind.i64.wrap a1) x_14) + (Int.tmod (IntKind.i64.wrap a2) x_75)) ∧ (∃ (r_84 : List Int) (r_90 : Int), bitmap_Set.rel l_20 x_78 false r_84 r_90 ∧ (∃ x_91 : Int, x_91 = IntKind.i64.wrap (8 * (IntKind.i64.wrap ((IntKind.i64.wrap (Int.tmod a0 4)) + 1))) ∧ (∃ (r_97 : Int) (r_98 : Int), bitmap_First.rel r_84 (Int.tmod (IntKind.i64.wrap a1) x_14) x_91 r_97 r_98 ∧ (r_64 = 20 ∧ (r_72 = 0 ∧ (∃ x_103 : Int, x_103 = IntKind.i64.wrap (8 * (IntKind.i64.wrap ((IntKind.i64.wrap (Int.tmod a0 4)) + 1))) ∧ (∃ x_105 : Int, x_105 = IntKind.i64.wrap (x_103 - (Int.tmod (IntKind.i64.wrap a1) x_14)) ∧ (r_71 = x_105 ∧ (r_90 = 0 ∧ (r_98 = 0 ∧ r_97 = x_78)))))))))))))))))))))
def reliquarylaw18_BitmapFills.rel (a0 : Int) (a1 : Int) (a2 : Int)  : Prop := (reliquarylaw18_awake.rel  ∧ ((0 ≤ (IntKind.i64.wrap ((IntKind.i64.wrap (Int.tmod a0 4)) + 1)) ∧ (IntKind.i64.wrap ((IntKind.i64.wrap (Int.tmod a0 4)) + 1)) ≤ 1099511627776) ∧ (∃ x_14 : Int, x_14 = IntKind.i64.wrap (8 * (IntKind.i64.wrap ((IntKind.i64.wrap (Int.tmod a0 4)) + 1))) ∧ (x_14 ≠ 0 ∧ (∃ k_ : Nat, reliquarylaw18_BitmapFills.L1 a0 a1 a2 x_14 k_ (List.replicate (IntKind.i64.wrap ((IntKind.i64.wrap (Int.tmod a0 4)) + 1)).toNat (0 : Int)) false (Int.tmod (IntKind.i64.wrap a1) x_14))))))
set_option maxHeartbeats 4000000 in
set_option maxRecDepth 100000 in
theorem reliquarylaw18_BitmapFills.calls (w : World) (a0 : Int) (a1 : Int) (a2 : Int)    (H : reliquarylaw18_BitmapFills.rel a0 a1 a2 ) :
    Calls Try.prog 10 #[.int .u8 a0, .int .u8 a1, .int .u8 a2] w fun e w' => e = .returned (.bool true) ∧ Below w.heap.size w w' := by
  refine CW.enter Try.func10 rfl (n := 135) rfl [.int .u8 a0, .int .u8 a1, .int .u8 a2] (Nat.le_of_ble_eq_true rfl) ?_
  refine CW.sub [(0, .int .u8 a0), (1, .int .u8 a1), (2, .int .u8 a2)] ⟨rfl, rfl, rfl, trivial⟩ ?_
  have st0 : St w w [] := St.refl w
  refine CW.seq ?_
  refine CW.region ?_
  refine WL.val Wanted.none (Runs.assign rfl) ?_
  refine WL.nil ?_
  refine QW.then_n ?_
  refine CW.seq ?_
  refine CW.region ?_
  obtain ⟨hr_1, H⟩ := H
  refine WL.call Wanted.none ent24 rfl (reliquarylaw18_awake.calls w hr_1) ?_
  rintro _ w_2 ⟨rfl, sc_4⟩
  have st_3 : St w w_2 [] := st0.below sc_4
  refine ⟨_, rfl, ?_⟩
  refine WL.val Wanted.none (Runs.assign rfl) ?_
  refine WL.nil ?_
  refine QW.then_n ?_
  refine CW.seq ?_
  refine CW.seq ?_
  refine CW.region ?_
  refine WL.val Wanted.none (Runs.move rfl) ?_
  refine WL.val Wanted.none (Runs.not rfl rfl) ?_
  refine WL.nil ?_
  refine QW.then_n ?_
  refine CW.cf rfl rfl ?_
  refine CW.skip ?_
  refine QW.then_n ?_
  refine CW.seq ?_
  refine CW.region ?_
  refine WL.val Wanted.none (Runs.move rfl) ?_
  refine WL.val Wanted.none (Runs.rem rfl rfl (by decide) rfl) ?_
  refine WL.val Wanted.none (Runs.conv Try.underlying3 ⟨_, Try.underlying5⟩ rfl rfl) ?_
  refine WL.val Wanted.none (Runs.add rfl rfl rfl) ?_
  refine WL.val Wanted.none (Runs.assign rfl) ?_
  refine WL.nil ?_
  refine QW.then_n ?_
  refine CW.sub [(1, .int .u8 a1), (2, .int .u8 a2), (6, .bool false), (8, .int .i64 (IntKind.i64.wrap ((IntKind.i64.wrap (Int.tmod a0 4)) + 1)))] ⟨rfl, rfl, rfl, rfl, trivial⟩ ?_
  refine CW.seq ?_
  refine CW.region ?_
  refine WL.val Wanted.none (Runs.move rfl) ?_
  obtain ⟨⟨p_5, q_6⟩, H⟩ := H
  obtain ⟨n_7, e_8⟩ : ∃ n_ : Nat, n_ = (IntKind.i64.wrap ((IntKind.i64.wrap (Int.tmod a0 4)) + 1)).toNat := ⟨_, rfl⟩
  refine WL.make st_3 Try.underlying22 elem5 rfl rfl p_5 q_6 (by decide) (N := n_7) e_8 ?_
  intro B_9 w_10 st_11
  replace st_11 : St w w_10 [.sl (some ⟨B_9, 0, none⟩) n_7 n_7 (iv .u8 (List.replicate (IntKind.i64.wrap ((IntKind.i64.wrap (Int.tmod a0 4)) + 1)).toNat (0 : Int))) 5 1] := by rw [← e_8]; rw [iv_replicate] at st_11; exact st_11
  have hn_12 : n_7 = (List.replicate (IntKind.i64.wrap ((IntKind.i64.wrap (Int.tmod a0 4)) + 1)).toNat (0 : Int)).length := by rw [List.length_replicate]; exact e_8
  refine WL.val Wanted.none (Runs.assign rfl) ?_
  refine WL.nil ?_
  refine QW.then_n ?_
  refine CW.seq ?_
  refine CW.region ?_
  refine WL.val Wanted.none (Runs.move rfl) ?_
  refine WL.val Wanted.none (Runs.conv Try.underlying3 ⟨_, Try.underlying5⟩ rfl rfl) ?_
  refine WL.val Wanted.none (Runs.move rfl) ?_
  obtain ⟨x_14, e_15, H⟩ := H
  refine WL.val Wanted.none (Runs.mul rfl rfl e_15) ?_
  obtain ⟨z_16, H⟩ := H
  refine WL.val Wanted.none (Runs.rem rfl rfl z_16 rfl) ?_
  refine WL.val Wanted.none (Runs.assign rfl) ?_
  refine WL.nil ?_
  refine QW.then_n ?_
  refine CW.sub [(2, .int .u8 a2), (6, .bool false), (8, .int .i64 (IntKind.i64.wrap ((IntKind.i64.wrap (Int.tmod a0 4)) + 1))), (9, .slice (some ⟨B_9, 0, none⟩) n_7 n_7), (10, .int .i64 (Int.tmod (IntKind.i64.wrap a1) x_14))] ⟨rfl, rfl, rfl, rfl, rfl, trivial⟩ ?_
  refine CW.seq ?_
  refine CW.seq ?_
  refine CW.region ?_
  refine WL.val Wanted.none (Runs.move rfl) ?_
  refine WL.val Wanted.none (Runs.assign rfl) ?_
  refine WL.nil ?_
  refine QW.then_n ?_
  refine CW.block ?_
  obtain ⟨k_17, H⟩ := H
  refine CW.sub [(2, .int .u8 a2), (6, .bool false), (8, .int .i64 (IntKind.i64.wrap ((IntKind.i64.wrap (Int.tmod a0 4)) + 1))), (9, .slice (some ⟨B_9, 0, none⟩) n_7 n_7), (10, .int .i64 (Int.tmod (IntKind.i64.wrap a1) x_14)), (11, .int .i64 (Int.tmod (IntKind.i64.wrap a1) x_14))] ⟨rfl, rfl, rfl, rfl, rfl, rfl, trivial⟩ ?_
  refine CW.loop (fun kL1 l_ w_ => ∃ (A_18 : Option Addr) (c_19 : Nat) (n_21 : Nat) (l_20 : List Int) (b_23 : Bool) (x_24 : Int), l_ = [(2, .int .u8 a2), (6, .bool b_23), (8, .int .i64 (IntKind.i64.wrap ((IntKind.i64.wrap (Int.tmod a0 4)) + 1))), (9, .slice A_18 n_21 c_19), (10, .int .i64 (Int.tmod (IntKind.i64.wrap a1) x_14)), (11, .int .i64 x_24)] ∧ reliquarylaw18_BitmapFills.L1 a0 a1 a2 x_14 kL1 l_20 b_23 x_24 ∧ (n_21 = l_20.length) ∧ St w w_ [.sl A_18 c_19 n_21 (iv .u8 l_20) 5 1]) (k := k_17) ⟨(some ⟨B_9, 0, none⟩), n_7, n_7, List.replicate (IntKind.i64.wrap ((IntKind.i64.wrap (Int.tmod a0 4)) + 1)).toNat (0 : Int), false, Int.tmod (IntKind.i64.wrap a1) x_14, rfl, H, hn_12, st_11⟩ (fun _ _ h => by obtain ⟨_, _, _, _, _, _, _, h, _⟩ := h; exact h.elim) ?_
  rintro kL1 l_27 w_25 ⟨A_18, c_19, n_21, l_20, b_23, x_24, rfl, H, hn_22, st_26⟩
  refine CW.seq ?_
  refine CW.seq ?_
  refine CW.region ?_
  refine WL.val Wanted.none (Runs.move rfl) ?_
  refine WL.val Wanted.none (Runs.move rfl) ?_
  obtain ⟨x_28, e_29, H⟩ := H
  refine WL.val Wanted.none (Runs.mul rfl rfl e_29) ?_
  refine WL.val Wanted.none (Runs.lss rfl rfl rfl) ?_
  refine WL.nil ?_
  refine QW.then_n ?_
  rcases H with ⟨c_30, H⟩ | ⟨c_30, H⟩
  · have h_31 : (decide (x_24 < x_28)) = true := (decide_eq_true c_30)
    refine CW.ct rfl h_31 ?_
    refine CW.skip ?_
    refine QW.then_n ?_
    refine CW.seq ?_
    refine CW.block ?_
    refine CW.seq ?_
    refine CW.region ?_
    refine WL.val Wanted.none (Runs.move rfl) ?_
    refine WL.val Wanted.none (Runs.move rfl) ?_
    refine WL.val Wanted.none (Runs.move rfl) ?_
    obtain ⟨x_32, e_33, H⟩ := H
    refine WL.val Wanted.none (Runs.mul rfl rfl e_33) ?_
    obtain ⟨r_38, r_39, hr_34, H⟩ := H
    refine WL.call Wanted.none ent29 rfl (bitmap_First.calls w_25 l_20 (Int.tmod (IntKind.i64.wrap a1) x_14) x_32 A_18 n_21 c_19 (st_26.src_sl (k := 0) rfl) (hn_22) (st_26.cap (i := 0) rfl) r_38 r_39 hr_34) ?_
    rintro _ w_35 ⟨rfl, sc_37⟩
    have st_36 : St w w_35 [.sl A_18 c_19 n_21 (iv .u8 l_20) 5 1] := st_26.call sc_37
    refine ⟨_, rfl, ?_⟩
    refine WL.val Wanted.none (Runs.move rfl) ?_
    refine WL.val Wanted.none (Runs.extract rfl rfl) ?_
    refine WL.val Wanted.none (Runs.extract rfl rfl) ?_
    refine WL.val Wanted.none (Runs.assign rfl) ?_
    refine WL.val Wanted.none (Runs.assign rfl) ?_
    refine WL.nil ?_
    refine QW.then_n ?_
    refine CW.seq ?_
    refine CW.seq ?_
    refine CW.region ?_
    refine WL.val Wanted.none (Runs.move rfl) ?_
    refine WL.val Wanted.none (Runs.neq rfl rfl rfl) ?_
    refine WL.val Wanted.none (Runs.move rfl) ?_
    obtain ⟨c_40, H⟩ := H
    have h_41 : (r_39 != 0) = false := (bne_eq_false_iff_eq.mpr (Decidable.not_not.mp c_40))
    refine WL.on ?_ ?_; exact Wanted.guard (dj := 56) (by rfl) (evb (by rfl) h_41) (by rfl)
    refine WL.val Wanted.none (Runs.move rfl) ?_
    refine WL.on ?_ ?_; exact Wanted.guard (dj := 56) (by rfl) (evb (by rfl) h_41) (by rfl)
    refine WL.val Wanted.none (Runs.move rfl) ?_
    refine WL.on ?_ ?_; exact Wanted.guard (dj := 56) (by rfl) (evb (by rfl) h_41) (by rfl)
    refine WL.val Wanted.none (Runs.neq rfl rfl rfl) ?_
    refine WL.val Wanted.none (Runs.pick_f (evb rfl h_41) rfl) ?_
    refine WL.nil ?_
    refine QW.then_n ?_
    obtain ⟨c_42, H⟩ := H
    have h_43 : (r_38 != x_24) = false := (bne_eq_false_iff_eq.mpr (Decidable.not_not.mp c_42))
    refine CW.cf rfl h_43 ?_
    refine CW.skip ?_
    refine QW.then_n ?_
    refine CW.seq ?_
    refine CW.region ?_
    refine WL.val Wanted.none (Runs.move rfl) ?_
    refine WL.val Wanted.none (Runs.move rfl) ?_
    obtain ⟨r_48, r_54, hr_44, H⟩ := H
    refine WL.call Wanted.none ent27 rfl (bitmap_Set.calls w_35 l_20 r_38 true A_18 n_21 c_19 (st_36.src_sl (k := 0) rfl) (hn_22) (st_36.cap (i := 0) rfl) r_48 r_54 hr_44) ?_
    rintro _ w_45 ⟨A_49, c_50, n_51, hn_52, rfl, sc_47⟩
    have st_46 : St w w_45 [.sl A_49 c_50 n_51 (iv .u8 r_48) 5 1, .sl A_18 c_19 n_21 (iv .u8 l_20) 5 1] := st_36.call sc_47
    refine ⟨_, rfl, ?_⟩
    refine WL.val Wanted.none (Runs.move rfl) ?_
    refine WL.val Wanted.none (Runs.extract rfl rfl) ?_
    refine WL.val Wanted.none (Runs.extract rfl rfl) ?_
    refine WL.val Wanted.none (Runs.assign rfl) ?_
    refine WL.val Wanted.none (Runs.assign rfl) ?_
    refine WL.nil ?_
    refine QW.then_n ?_
    refine CW.seq ?_
    refine CW.seq ?_
    refine CW.region ?_
    refine WL.val Wanted.none (Runs.move rfl) ?_
    refine WL.val Wanted.none (Runs.neq rfl rfl rfl) ?_
    refine WL.nil ?_
    refine QW.then_n ?_
    obtain ⟨c_55, H⟩ := H
    have h_56 : (r_54 != 0) = false := (bne_eq_false_iff_eq.mpr (Decidable.not_not.mp c_55))
    refine CW.cf rfl h_56 ?_
    refine CW.skip ?_
    refine QW.then_n ?_
    refine CW.region ?_
    refine WL.val Wanted.none (Runs.move rfl) ?_
    refine WL.val Wanted.none (Runs.assign rfl) ?_
    refine WL.nil ?_
    refine QW.blk_n ?_
    refine QW.then_n ?_
    refine CW.region ?_
    refine WL.val Wanted.none (Runs.move rfl) ?_
    refine WL.val Wanted.none (Runs.add rfl rfl rfl) ?_
    refine WL.val Wanted.none (Runs.assign rfl) ?_
    refine WL.nil ?_
    have st_46' := st_46.pick [0] (by decide)
    exact QW.at [(2, .int .u8 a2), (6, .bool b_23), (8, .int .i64 (IntKind.i64.wrap ((IntKind.i64.wrap (Int.tmod a0 4)) + 1))), (9, .slice A_49 n_51 c_50), (10, .int .i64 (Int.tmod (IntKind.i64.wrap a1) x_14)), (11, .int .i64 (IntKind.i64.wrap (x_24 + 1)))] ⟨rfl, rfl, rfl, rfl, rfl, rfl, trivial⟩ ⟨A_49, c_50, n_51, r_48, b_23, IntKind.i64.wrap (x_24 + 1), rfl, H, hn_52, st_46'⟩
  · have h_31 : (decide (x_24 < x_28)) = false := (decide_eq_false c_30)
    refine CW.cf rfl h_31 ?_
    refine CW.exit ?_
    refine QW.then_x ?_
    refine QW.then_x ?_
    refine QW.blk_x ?_
    refine QW.then_n ?_
    refine CW.seq ?_
    refine CW.region ?_
    refine WL.val Wanted.none (Runs.move rfl) ?_
    refine WL.val Wanted.none (Runs.move rfl) ?_
    refine WL.val Wanted.none (Runs.move rfl) ?_
    obtain ⟨x_57, e_58, H⟩ := H
    refine WL.val Wanted.none (Runs.mul rfl rfl e_58) ?_
    obtain ⟨r_63, r_64, hr_59, H⟩ := H
    refine WL.call Wanted.none ent29 rfl (bitmap_First.calls w_25 l_20 (Int.tmod (IntKind.i64.wrap a1) x_14) x_57 A_18 n_21 c_19 (st_26.src_sl (k := 0) rfl) (hn_22) (st_26.cap (i := 0) rfl) r_63 r_64 hr_59) ?_
    rintro _ w_60 ⟨rfl, sc_62⟩
    have st_61 : St w w_60 [.sl A_18 c_19 n_21 (iv .u8 l_20) 5 1] := st_26.call sc_62
    refine ⟨_, rfl, ?_⟩
    refine WL.val Wanted.none (Runs.move rfl) ?_
    refine WL.val Wanted.none (Runs.extract rfl rfl) ?_
    refine WL.val Wanted.none (Runs.extract rfl rfl) ?_
    refine WL.val Wanted.none (Runs.assign rfl) ?_
    refine WL.val Wanted.none (Runs.assign rfl) ?_
    refine WL.nil ?_
    refine QW.then_n ?_
    refine CW.sub [(2, .int .u8 a2), (6, .bool b_23), (8, .int .i64 (IntKind.i64.wrap ((IntKind.i64.wrap (Int.tmod a0 4)) + 1))), (9, .slice A_18 n_21 c_19), (10, .int .i64 (Int.tmod (IntKind.i64.wrap a1) x_14)), (17, .int .i64 r_64)] ⟨rfl, rfl, rfl, rfl, rfl, rfl, trivial⟩ ?_
    refine CW.seq ?_
    refine CW.region ?_
    refine WL.val Wanted.none (Runs.move rfl) ?_
    refine WL.val Wanted.none (Runs.move rfl) ?_
    obtain ⟨x_65, e_66, H⟩ := H
    refine WL.val Wanted.none (Runs.mul rfl rfl e_66) ?_
    obtain ⟨r_71, r_72, hr_67, H⟩ := H
    refine WL.call Wanted.none ent31 rfl (bitmap_Count.calls w_60 l_20 0 x_65 A_18 n_21 c_19 (st_61.src_sl (k := 0) rfl) (hn_22) (st_61.cap (i := 0) rfl) r_71 r_72 hr_67) ?_
    rintro _ w_68 ⟨rfl, sc_70⟩
    have st_69 : St w w_68 [.sl A_18 c_19 n_21 (iv .u8 l_20) 5 1] := st_61.call sc_70
    refine ⟨_, rfl, ?_⟩
    refine WL.val Wanted.none (Runs.move rfl) ?_
    refine WL.val Wanted.none (Runs.extract rfl rfl) ?_
    refine WL.val Wanted.none (Runs.extract rfl rfl) ?_
    refine WL.val Wanted.none (Runs.assign rfl) ?_
    refine WL.val Wanted.none (Runs.assign rfl) ?_
    refine WL.nil ?_
    refine QW.then_n ?_
    refine CW.sub [(2, .int .u8 a2), (6, .bool b_23), (8, .int .i64 (IntKind.i64.wrap ((IntKind.i64.wrap (Int.tmod a0 4)) + 1))), (9, .slice A_18 n_21 c_19), (10, .int .i64 (Int.tmod (IntKind.i64.wrap a1) x_14)), (17, .int .i64 r_64), (18, .int .i64 r_71), (19, .int .i64 r_72)] ⟨rfl, rfl, rfl, rfl, rfl, rfl, rfl, rfl, trivial⟩ ?_
    refine CW.seq ?_
    refine CW.region ?_
    refine WL.val Wanted.none (Runs.move rfl) ?_
    refine WL.val Wanted.none (Runs.move rfl) ?_
    refine WL.val Wanted.none (Runs.conv Try.underlying3 ⟨_, Try.underlying5⟩ rfl rfl) ?_
    refine WL.val Wanted.none (Runs.move rfl) ?_
    obtain ⟨x_73, e_74, H⟩ := H
    refine WL.val Wanted.none (Runs.mul rfl rfl e_74) ?_
    refine WL.val Wanted.none (Runs.move rfl) ?_
    obtain ⟨x_75, e_76, H⟩ := H
    refine WL.val Wanted.none (Runs.sub rfl rfl e_76) ?_
    obtain ⟨z_77, H⟩ := H
    refine WL.val Wanted.none (Runs.rem rfl rfl z_77 rfl) ?_
    obtain ⟨x_78, e_79, H⟩ := H
    refine WL.val Wanted.none (Runs.add rfl rfl e_79) ?_
    refine WL.val Wanted.none (Runs.assign rfl) ?_
    refine WL.nil ?_
    refine QW.then_n ?_
    refine CW.sub [(6, .bool b_23), (8, .int .i64 (IntKind.i64.wrap ((IntKind.i64.wrap (Int.tmod a0 4)) + 1))), (9, .slice A_18 n_21 c_19), (10, .int .i64 (Int.tmod (IntKind.i64.wrap a1) x_14)), (17, .int .i64 r_64), (18, .int .i64 r_71), (19, .int .i64 r_72), (20, .int .i64 x_78)] ⟨rfl, rfl, rfl, rfl, rfl, rfl, rfl, rfl, trivial⟩ ?_
    refine CW.seq ?_
    refine CW.region ?_
    refine WL.val Wanted.none (Runs.move rfl) ?_
    refine WL.val Wanted.none (Runs.move rfl) ?_
    obtain ⟨r_84, r_90, hr_80, H⟩ := H
    refine WL.call Wanted.none ent27 rfl (bitmap_Set.calls w_68 l_20 x_78 false A_18 n_21 c_19 (st_69.src_sl (k := 0) rfl) (hn_22) (st_69.cap (i := 0) rfl) r_84 r_90 hr_80) ?_
    rintro _ w_81 ⟨A_85, c_86, n_87, hn_88, rfl, sc_83⟩
    have st_82 : St w w_81 [.sl A_85 c_86 n_87 (iv .u8 r_84) 5 1, .sl A_18 c_19 n_21 (iv .u8 l_20) 5 1] := st_69.call sc_83
    refine ⟨_, rfl, ?_⟩
    refine WL.val Wanted.none (Runs.move rfl) ?_
    refine WL.val Wanted.none (Runs.extract rfl rfl) ?_
    refine WL.val Wanted.none (Runs.extract rfl rfl) ?_
    refine WL.val Wanted.none (Runs.assign rfl) ?_
    refine WL.val Wanted.none (Runs.assign rfl) ?_
    refine WL.nil ?_
    refine QW.then_n ?_
    refine CW.sub [(6, .bool b_23), (8, .int .i64 (IntKind.i64.wrap ((IntKind.i64.wrap (Int.tmod a0 4)) + 1))), (10, .int .i64 (Int.tmod (IntKind.i64.wrap a1) x_14)), (17, .int .i64 r_64), (18, .int .i64 r_71), (19, .int .i64 r_72), (20, .int .i64 x_78), (21, .slice A_85 n_87 c_86), (22, .int .i64 r_90)] ⟨rfl, rfl, rfl, rfl, rfl, rfl, rfl, rfl, rfl, trivial⟩ ?_
    refine CW.seq ?_
    refine CW.region ?_
    refine WL.val Wanted.none (Runs.move rfl) ?_
    refine WL.val Wanted.none (Runs.move rfl) ?_
    refine WL.val Wanted.none (Runs.move rfl) ?_
    obtain ⟨x_91, e_92, H⟩ := H
    refine WL.val Wanted.none (Runs.mul rfl rfl e_92) ?_
    obtain ⟨r_97, r_98, hr_93, H⟩ := H
    refine WL.call Wanted.none ent29 rfl (bitmap_First.calls w_81 r_84 (Int.tmod (IntKind.i64.wrap a1) x_14) x_91 A_85 n_87 c_86 (st_82.src_sl (k := 0) rfl) (hn_88) (st_82.cap (i := 0) rfl) r_97 r_98 hr_93) ?_
    rintro _ w_94 ⟨rfl, sc_96⟩
    have st_95 : St w w_94 [.sl A_85 c_86 n_87 (iv .u8 r_84) 5 1, .sl A_18 c_19 n_21 (iv .u8 l_20) 5 1] := st_82.call sc_96
    refine ⟨_, rfl, ?_⟩
    refine WL.val Wanted.none (Runs.move rfl) ?_
    refine WL.val Wanted.none (Runs.extract rfl rfl) ?_
    refine WL.val Wanted.none (Runs.extract rfl rfl) ?_
    refine WL.val Wanted.none (Runs.assign rfl) ?_
    refine WL.val Wanted.none (Runs.assign rfl) ?_
    refine WL.nil ?_
    refine QW.then_n ?_
    refine CW.sub [(6, .bool b_23), (8, .int .i64 (IntKind.i64.wrap ((IntKind.i64.wrap (Int.tmod a0 4)) + 1))), (10, .int .i64 (Int.tmod (IntKind.i64.wrap a1) x_14)), (17, .int .i64 r_64), (18, .int .i64 r_71), (19, .int .i64 r_72), (20, .int .i64 x_78), (22, .int .i64 r_90), (23, .int .i64 r_97), (24, .int .i64 r_98)] ⟨rfl, rfl, rfl, rfl, rfl, rfl, rfl, rfl, rfl, rfl, trivial⟩ ?_
    refine CW.seq ?_
    refine CW.region ?_
    refine WL.val Wanted.none (Runs.move rfl) ?_
    refine WL.val Wanted.none (Runs.eql rfl rfl rfl) ?_
    refine WL.val Wanted.none (Runs.move rfl) ?_
    obtain ⟨c_99, H⟩ := H
    have h_100 : (r_64 == 20) = true := (beq_iff_eq.mpr c_99)
    refine WL.on ?_ ?_; exact Wanted.guard (dj := 110) (by rfl) (evb (by rfl) h_100) (by rfl)
    refine WL.val Wanted.none (Runs.move rfl) ?_
    refine WL.on ?_ ?_; exact Wanted.guard (dj := 110) (by rfl) (evb (by rfl) h_100) (by rfl)
    refine WL.val Wanted.none (Runs.eql rfl rfl rfl) ?_
    refine WL.val Wanted.none (Runs.pick_t (evb rfl h_100) rfl) ?_
    refine WL.val Wanted.none (Runs.move rfl) ?_
    obtain ⟨c_101, H⟩ := H
    have h_102 : (r_72 == 0) = true := (beq_iff_eq.mpr c_101)
    refine WL.on ?_ ?_; exact Wanted.guard (dj := 114) (by rfl) (evb (by rfl) h_102) (by rfl)
    refine WL.val Wanted.none (Runs.move rfl) ?_
    refine WL.on ?_ ?_; exact Wanted.guard (dj := 114) (by rfl) (evb (by rfl) h_102) (by rfl)
    refine WL.val Wanted.none (Runs.move rfl) ?_
    refine WL.on ?_ ?_; exact Wanted.guard (dj := 114) (by rfl) (evb (by rfl) h_102) (by rfl)
    obtain ⟨x_103, e_104, H⟩ := H
    refine WL.val Wanted.none (Runs.mul rfl rfl e_104) ?_
    refine WL.on ?_ ?_; exact Wanted.guard (dj := 114) (by rfl) (evb (by rfl) h_102) (by rfl)
    refine WL.val Wanted.none (Runs.move rfl) ?_
    refine WL.on ?_ ?_; exact Wanted.guard (dj := 114) (by rfl) (evb (by rfl) h_102) (by rfl)
    obtain ⟨x_105, e_106, H⟩ := H
    refine WL.val Wanted.none (Runs.sub rfl rfl e_106) ?_
    refine WL.on ?_ ?_; exact Wanted.guard (dj := 114) (by rfl) (evb (by rfl) h_102) (by rfl)
    refine WL.val Wanted.none (Runs.eql rfl rfl rfl) ?_
    refine WL.val Wanted.none (Runs.pick_t (evb rfl h_102) rfl) ?_
    refine WL.val Wanted.none (Runs.move rfl) ?_
    obtain ⟨c_107, H⟩ := H
    have h_108 : (r_71 == x_105) = true := (beq_iff_eq.mpr c_107)
    refine WL.on ?_ ?_; exact Wanted.guard (dj := 122) (by rfl) (evb (by rfl) h_108) (by rfl)
    refine WL.val Wanted.none (Runs.move rfl) ?_
    refine WL.on ?_ ?_; exact Wanted.guard (dj := 122) (by rfl) (evb (by rfl) h_108) (by rfl)
    refine WL.val Wanted.none (Runs.eql rfl rfl rfl) ?_
    refine WL.val Wanted.none (Runs.pick_t (evb rfl h_108) rfl) ?_
    refine WL.val Wanted.none (Runs.move rfl) ?_
    obtain ⟨c_109, H⟩ := H
    have h_110 : (r_90 == 0) = true := (beq_iff_eq.mpr c_109)
    refine WL.on ?_ ?_; exact Wanted.guard (dj := 126) (by rfl) (evb (by rfl) h_110) (by rfl)
    refine WL.val Wanted.none (Runs.move rfl) ?_
    refine WL.on ?_ ?_; exact Wanted.guard (dj := 126) (by rfl) (evb (by rfl) h_110) (by rfl)
    refine WL.val Wanted.none (Runs.eql rfl rfl rfl) ?_
    refine WL.val Wanted.none (Runs.pick_t (evb rfl h_110) rfl) ?_
    refine WL.val Wanted.none (Runs.move rfl) ?_
    obtain ⟨c_111, H⟩ := H
    have h_112 : (r_98 == 0) = true := (beq_iff_eq.mpr c_111)
    refine WL.on ?_ ?_; exact Wanted.guard (dj := 130) (by rfl) (evb (by rfl) h_112) (by rfl)
    refine WL.val Wanted.none (Runs.move rfl) ?_
    refine WL.on ?_ ?_; exact Wanted.guard (dj := 130) (by rfl) (evb (by rfl) h_112) (by rfl)
    refine WL.val Wanted.none (Runs.move rfl) ?_
    refine WL.on ?_ ?_; exact Wanted.guard (dj := 130) (by rfl) (evb (by rfl) h_112) (by rfl)
    refine WL.val Wanted.none (Runs.eql rfl rfl rfl) ?_
    refine WL.val Wanted.none (Runs.pick_t (evb rfl h_112) rfl) ?_
    refine WL.val Wanted.none (Runs.assign rfl) ?_
    refine WL.nil ?_
    refine QW.then_n ?_
    refine CW.sub [(6, .bool (r_97 == x_78))] ⟨rfl, trivial⟩ ?_
    refine CW.ret ?_
    have hz : (r_97 == x_78) = true := (beq_iff_eq.mpr H)
    exact QW.ret1 rfl (evb rfl hz) ⟨rfl, st_95.ext⟩

/-! ### reliquarylaw18_BitmapParts: function 11 -/
def reliquarylaw18_BitmapParts.L1 (l0 : List Int) (a1 : Int) (x_9 : Int) (x_15 : Int) (x_18 : Int) (r_36 : Int) : Nat → Bool → Int → Int → Int → Prop
  | 0, _, _, _, _ => False
  | kL1 + 1, b_47, x_48, x_49, x_50 => (x_50 ≤ (IntKind.i64.wrap (8 * (l0.length : Int))) ∧ (∃ (r_60 : Int) (r_61 : Int), bitmap_First.rel l0 x_49 (IntKind.i64.wrap (x_15 + x_18)) r_60 r_61 ∧ ((r_61 ≠ 0 ∧ (r_61 = 20 ∧ (∃ x_66 : Int, x_66 = IntKind.i64.wrap ((IntKind.i64.wrap (x_15 + x_18)) - (Int.tmod (IntKind.i64.wrap a1) x_9)) ∧ x_48 = (IntKind.i64.wrap (x_66 - r_36))))) ∨ (¬ (r_61 ≠ 0) ∧ (∃ (r_72 : Bool) (r_73 : Int), bitmap_Get.rel l0 r_60 r_72 r_73 ∧ (¬ (r_72 = true) ∧ (¬ (r_60 < x_49) ∧ (¬ (r_60 ≥ (IntKind.i64.wrap (x_15 + x_18))) ∧ reliquarylaw18_BitmapParts.L1 l0 a1 x_9 x_15 x_18 r_36 kL1 b_47 (IntKind.i64.wrap (x_48 + 1)) (IntKind.i64.wrap (r_60 + 1)) (IntKind.i64.wrap (x_50 + 1))))))))))
def reliquarylaw18_BitmapParts.rel (l0 : List Int) (a1 : Int) (a2 : Int) (a3 : Int)  : Prop := (reliquarylaw18_awake.rel  ∧ (((l0.length : Int) = 0 ∧ True) ∨ (¬ ((l0.length : Int) = 0) ∧ (((l0.length : Int) > 100 ∧ True) ∨ (¬ ((l0.length : Int) > 100) ∧ (∃ x_9 : Int, x_9 = IntKind.i64.wrap ((IntKind.i64.wrap (8 * (l0.length : Int))) + 1) ∧ (x_9 ≠ 0 ∧ (∃ x_12 : Int, x_12 = IntKind.i64.wrap (x_9 - (Int.tmod (IntKind.i64.wrap a1) x_9)) ∧ (x_12 ≠ 0 ∧ (∃ x_15 : Int, x_15 = IntKind.i64.wrap ((Int.tmod (IntKind.i64.wrap a1) x_9) + (Int.tmod (IntKind.i64.wrap a2) x_12)) ∧ ((IntKind.i64.wrap (x_9 - x_15)) ≠ 0 ∧ (∃ x_18 : Int, x_18 = Int.tmod (IntKind.i64.wrap a3) (IntKind.i64.wrap (x_9 - x_15)) ∧ (∃ (r_24 : Int) (r_25 : Int), bitmap_Count.rel l0 (Int.tmod (IntKind.i64.wrap a1) x_9) x_15 r_24 r_25 ∧ (∃ (r_30 : Int) (r_31 : Int), bitmap_Count.rel l0 x_15 (IntKind.i64.wrap (x_15 + x_18)) r_30 r_31 ∧ (∃ (r_36 : Int) (r_37 : Int), bitmap_Count.rel l0 (Int.tmod (IntKind.i64.wrap a1) x_9) (IntKind.i64.wrap (x_15 + x_18)) r_36 r_37 ∧ (¬ (r_25 ≠ 0) ∧ (¬ (r_31 ≠ 0) ∧ (¬ (r_37 ≠ 0) ∧ (¬ ((IntKind.i64.wrap (r_24 + r_30)) ≠ r_36) ∧ (∃ k_ : Nat, reliquarylaw18_BitmapParts.L1 l0 a1 x_9 x_15 x_18 r_36 k_ false 0 (Int.tmod (IntKind.i64.wrap a1) x_9) 0))))))))))))))))))))
set_option maxHeartbeats 4000000 in
set_option maxRecDepth 100000 in
theorem reliquarylaw18_BitmapParts.calls (w : World) (l0 : List Int) (a1 : Int) (a2 : Int) (a3 : Int) (A0 : Option Addr) (n0 : Nat) (c0 : Nat) (hs0 : Src w A0 (iv .u8 l0)) (hn0 : n0 = l0.length) (hc0 : n0 ≤ c0)  (H : reliquarylaw18_BitmapParts.rel l0 a1 a2 a3 ) :
    Calls Try.prog 11 #[.slice A0 n0 c0, .int .u16 a1, .int .u16 a2, .int .u16 a3] w fun e w' => e = .returned (.bool true) ∧ Below w.heap.size w w' := by
  refine CW.enter Try.func11 rfl (n := 149) rfl [.slice A0 n0 c0, .int .u16 a1, .int .u16 a2, .int .u16 a3] (Nat.le_of_ble_eq_true rfl) ?_
  refine CW.sub [(0, .slice A0 n0 c0), (1, .int .u16 a1), (2, .int .u16 a2), (3, .int .u16 a3)] ⟨rfl, rfl, rfl, rfl, trivial⟩ ?_
  have st0 : St w w [] := St.refl w
  refine CW.seq ?_
  refine CW.region ?_
  refine WL.val Wanted.none (Runs.assign rfl) ?_
  refine WL.nil ?_
  refine QW.then_n ?_
  refine CW.seq ?_
  refine CW.region ?_
  obtain ⟨hr_1, H⟩ := H
  refine WL.call Wanted.none ent24 rfl (reliquarylaw18_awake.calls w hr_1) ?_
  rintro _ w_2 ⟨rfl, sc_4⟩
  have st_3 : St w w_2 [] := st0.below sc_4
  refine ⟨_, rfl, ?_⟩
  refine WL.val Wanted.none (Runs.assign rfl) ?_
  refine WL.nil ?_
  refine QW.then_n ?_
  refine CW.seq ?_
  refine CW.seq ?_
  refine CW.region ?_
  refine WL.val Wanted.none (Runs.move rfl) ?_
  refine WL.val Wanted.none (Runs.not rfl rfl) ?_
  refine WL.nil ?_
  refine QW.then_n ?_
  refine CW.cf rfl rfl ?_
  refine CW.skip ?_
  refine QW.then_n ?_
  refine CW.seq ?_
  refine CW.seq ?_
  refine CW.region ?_
  refine WL.val Wanted.none (Runs.move rfl) ?_
  refine WL.val Wanted.none (Runs.len_sl Try.underlying22 rfl (by rw [hn0])) ?_
  refine WL.val Wanted.none (Runs.eql rfl rfl rfl) ?_
  refine WL.val Wanted.none (Runs.move rfl) ?_
  rcases H with ⟨c_5, H⟩ | ⟨c_5, H⟩
  · have h_6 : ((l0.length : Int) == 0) = true := (beq_iff_eq.mpr c_5)
    refine WL.off ?_ ?_; exact Wanted.guard (dj := 33) (by rfl) (evb (by rfl) h_6) (by rfl)
    refine WL.off ?_ ?_; exact Wanted.guard (dj := 33) (by rfl) (evb (by rfl) h_6) (by rfl)
    refine WL.off ?_ ?_; exact Wanted.guard (dj := 33) (by rfl) (evb (by rfl) h_6) (by rfl)
    refine WL.val Wanted.none (Runs.pick_t (evb rfl h_6) rfl) ?_
    refine WL.nil ?_
    refine QW.then_n ?_
    refine CW.sub [(0, .slice A0 n0 c0), (1, .int .u16 a1), (2, .int .u16 a2), (3, .int .u16 a3), (8, .bool false), (37, .bool true)] ⟨rfl, rfl, rfl, rfl, rfl, rfl, trivial⟩ ?_
    refine CW.ct rfl rfl ?_
    refine CW.seq ?_
    refine CW.region ?_
    refine WL.val Wanted.none (Runs.assign rfl) ?_
    refine WL.nil ?_
    refine QW.then_n ?_
    refine CW.ret ?_
    refine QW.then_r ?_
    exact QW.ret1 rfl rfl ⟨rfl, st_3.ext⟩
  · have h_6 : ((l0.length : Int) == 0) = false := (beq_eq_false_iff_ne.mpr c_5)
    refine WL.on ?_ ?_; exact Wanted.guard (dj := 33) (by rfl) (evb (by rfl) h_6) (by rfl)
    refine WL.val Wanted.none (Runs.move rfl) ?_
    refine WL.on ?_ ?_; exact Wanted.guard (dj := 33) (by rfl) (evb (by rfl) h_6) (by rfl)
    refine WL.val Wanted.none (Runs.len_sl Try.underlying22 rfl (by rw [hn0])) ?_
    refine WL.on ?_ ?_; exact Wanted.guard (dj := 33) (by rfl) (evb (by rfl) h_6) (by rfl)
    refine WL.val Wanted.none (Runs.gtr rfl rfl rfl) ?_
    refine WL.val Wanted.none (Runs.pick_f (evb rfl h_6) rfl) ?_
    refine WL.nil ?_
    refine QW.then_n ?_
    refine CW.sub [(0, .slice A0 n0 c0), (1, .int .u16 a1), (2, .int .u16 a2), (3, .int .u16 a3), (8, .bool false), (37, .bool (decide ((l0.length : Int) > 100)))] ⟨rfl, rfl, rfl, rfl, rfl, rfl, trivial⟩ ?_
    rcases H with ⟨c_7, H⟩ | ⟨c_7, H⟩
    · have h_8 : (decide ((l0.length : Int) > 100)) = true := (decide_eq_true c_7)
      refine CW.ct rfl h_8 ?_
      refine CW.seq ?_
      refine CW.region ?_
      refine WL.val Wanted.none (Runs.assign rfl) ?_
      refine WL.nil ?_
      refine QW.then_n ?_
      refine CW.ret ?_
      refine QW.then_r ?_
      exact QW.ret1 rfl rfl ⟨rfl, st_3.ext⟩
    · have h_8 : (decide ((l0.length : Int) > 100)) = false := (decide_eq_false c_7)
      refine CW.cf rfl h_8 ?_
      refine CW.skip ?_
      refine QW.then_n ?_
      refine CW.seq ?_
      refine CW.region ?_
      refine WL.val Wanted.none (Runs.move rfl) ?_
      refine WL.val Wanted.none (Runs.len_sl Try.underlying22 rfl (by rw [hn0])) ?_
      refine WL.val Wanted.none (Runs.mul rfl rfl rfl) ?_
      obtain ⟨x_9, e_10, H⟩ := H
      refine WL.val Wanted.none (Runs.add rfl rfl e_10) ?_
      refine WL.val Wanted.none (Runs.assign rfl) ?_
      refine WL.nil ?_
      refine QW.then_n ?_
      refine CW.seq ?_
      refine CW.region ?_
      refine WL.val Wanted.none (Runs.move rfl) ?_
      refine WL.val Wanted.none (Runs.conv Try.underlying3 ⟨_, Try.underlying31⟩ rfl rfl) ?_
      refine WL.val Wanted.none (Runs.move rfl) ?_
      obtain ⟨z_11, H⟩ := H
      refine WL.val Wanted.none (Runs.rem rfl rfl z_11 rfl) ?_
      refine WL.val Wanted.none (Runs.assign rfl) ?_
      refine WL.nil ?_
      refine QW.then_n ?_
      refine CW.sub [(0, .slice A0 n0 c0), (2, .int .u16 a2), (3, .int .u16 a3), (8, .bool false), (10, .int .i64 x_9), (11, .int .i64 (Int.tmod (IntKind.i64.wrap a1) x_9))] ⟨rfl, rfl, rfl, rfl, rfl, rfl, trivial⟩ ?_
      refine CW.seq ?_
      refine CW.region ?_
      refine WL.val Wanted.none (Runs.move rfl) ?_
      refine WL.val Wanted.none (Runs.move rfl) ?_
      refine WL.val Wanted.none (Runs.conv Try.underlying3 ⟨_, Try.underlying31⟩ rfl rfl) ?_
      refine WL.val Wanted.none (Runs.move rfl) ?_
      refine WL.val Wanted.none (Runs.move rfl) ?_
      obtain ⟨x_12, e_13, H⟩ := H
      refine WL.val Wanted.none (Runs.sub rfl rfl e_13) ?_
      obtain ⟨z_14, H⟩ := H
      refine WL.val Wanted.none (Runs.rem rfl rfl z_14 rfl) ?_
      obtain ⟨x_15, e_16, H⟩ := H
      refine WL.val Wanted.none (Runs.add rfl rfl e_16) ?_
      refine WL.val Wanted.none (Runs.assign rfl) ?_
      refine WL.nil ?_
      refine QW.then_n ?_
      refine CW.sub [(0, .slice A0 n0 c0), (3, .int .u16 a3), (8, .bool false), (10, .int .i64 x_9), (11, .int .i64 (Int.tmod (IntKind.i64.wrap a1) x_9)), (12, .int .i64 x_15)] ⟨rfl, rfl, rfl, rfl, rfl, rfl, trivial⟩ ?_
      refine CW.seq ?_
      refine CW.region ?_
      refine WL.val Wanted.none (Runs.move rfl) ?_
      refine WL.val Wanted.none (Runs.move rfl) ?_
      refine WL.val Wanted.none (Runs.conv Try.underlying3 ⟨_, Try.underlying31⟩ rfl rfl) ?_
      refine WL.val Wanted.none (Runs.move rfl) ?_
      refine WL.val Wanted.none (Runs.move rfl) ?_
      refine WL.val Wanted.none (Runs.sub rfl rfl rfl) ?_
      obtain ⟨z_17, H⟩ := H
      obtain ⟨x_18, e_19, H⟩ := H
      refine WL.val Wanted.none (Runs.rem rfl rfl z_17 e_19) ?_
      refine WL.val Wanted.none (Runs.add rfl rfl rfl) ?_
      refine WL.val Wanted.none (Runs.assign rfl) ?_
      refine WL.nil ?_
      refine QW.then_n ?_
      refine CW.sub [(0, .slice A0 n0 c0), (8, .bool false), (11, .int .i64 (Int.tmod (IntKind.i64.wrap a1) x_9)), (12, .int .i64 x_15), (13, .int .i64 (IntKind.i64.wrap (x_15 + x_18)))] ⟨rfl, rfl, rfl, rfl, rfl, trivial⟩ ?_
      refine CW.seq ?_
      refine CW.region ?_
      refine WL.val Wanted.none (Runs.move rfl) ?_
      refine WL.val Wanted.none (Runs.move rfl) ?_
      refine WL.val Wanted.none (Runs.move rfl) ?_
      obtain ⟨r_24, r_25, hr_20, H⟩ := H
      refine WL.call Wanted.none ent31 rfl (bitmap_Count.calls w_2 l0 (Int.tmod (IntKind.i64.wrap a1) x_9) x_15 A0 n0 c0 (hs0.ext st_3) (hn0) (hc0) r_24 r_25 hr_20) ?_
      rintro _ w_21 ⟨rfl, sc_23⟩
      have st_22 : St w w_21 [] := st_3.call sc_23
      refine ⟨_, rfl, ?_⟩
      refine WL.val Wanted.none (Runs.move rfl) ?_
      refine WL.val Wanted.none (Runs.extract rfl rfl) ?_
      refine WL.val Wanted.none (Runs.extract rfl rfl) ?_
      refine WL.val Wanted.none (Runs.assign rfl) ?_
      refine WL.val Wanted.none (Runs.assign rfl) ?_
      refine WL.nil ?_
      refine QW.then_n ?_
      refine CW.sub [(0, .slice A0 n0 c0), (8, .bool false), (11, .int .i64 (Int.tmod (IntKind.i64.wrap a1) x_9)), (12, .int .i64 x_15), (13, .int .i64 (IntKind.i64.wrap (x_15 + x_18))), (14, .int .i64 r_24), (15, .int .i64 r_25)] ⟨rfl, rfl, rfl, rfl, rfl, rfl, rfl, trivial⟩ ?_
      refine CW.seq ?_
      refine CW.region ?_
      refine WL.val Wanted.none (Runs.move rfl) ?_
      refine WL.val Wanted.none (Runs.move rfl) ?_
      refine WL.val Wanted.none (Runs.move rfl) ?_
      obtain ⟨r_30, r_31, hr_26, H⟩ := H
      refine WL.call Wanted.none ent31 rfl (bitmap_Count.calls w_21 l0 x_15 (IntKind.i64.wrap (x_15 + x_18)) A0 n0 c0 (hs0.ext st_22) (hn0) (hc0) r_30 r_31 hr_26) ?_
      rintro _ w_27 ⟨rfl, sc_29⟩
      have st_28 : St w w_27 [] := st_22.call sc_29
      refine ⟨_, rfl, ?_⟩
      refine WL.val Wanted.none (Runs.move rfl) ?_
      refine WL.val Wanted.none (Runs.extract rfl rfl) ?_
      refine WL.val Wanted.none (Runs.extract rfl rfl) ?_
      refine WL.val Wanted.none (Runs.assign rfl) ?_
      refine WL.val Wanted.none (Runs.assign rfl) ?_
      refine WL.nil ?_
      refine QW.then_n ?_
      refine CW.sub [(0, .slice A0 n0 c0), (8, .bool false), (11, .int .i64 (Int.tmod (IntKind.i64.wrap a1) x_9)), (13, .int .i64 (IntKind.i64.wrap (x_15 + x_18))), (14, .int .i64 r_24), (15, .int .i64 r_25), (16, .int .i64 r_30), (17, .int .i64 r_31)] ⟨rfl, rfl, rfl, rfl, rfl, rfl, rfl, rfl, trivial⟩ ?_
      refine CW.seq ?_
      refine CW.region ?_
      refine WL.val Wanted.none (Runs.move rfl) ?_
      refine WL.val Wanted.none (Runs.move rfl) ?_
      refine WL.val Wanted.none (Runs.move rfl) ?_
      obtain ⟨r_36, r_37, hr_32, H⟩ := H
      refine WL.call Wanted.none ent31 rfl (bitmap_Count.calls w_27 l0 (Int.tmod (IntKind.i64.wrap a1) x_9) (IntKind.i64.wrap (x_15 + x_18)) A0 n0 c0 (hs0.ext st_28) (hn0) (hc0) r_36 r_37 hr_32) ?_
      rintro _ w_33 ⟨rfl, sc_35⟩
      have st_34 : St w w_33 [] := st_28.call sc_35
      refine ⟨_, rfl, ?_⟩
      refine WL.val Wanted.none (Runs.move rfl) ?_
      refine WL.val Wanted.none (Runs.extract rfl rfl) ?_
      refine WL.val Wanted.none (Runs.extract rfl rfl) ?_
      refine WL.val Wanted.none (Runs.assign rfl) ?_
      refine WL.val Wanted.none (Runs.assign rfl) ?_
      refine WL.nil ?_
      refine QW.then_n ?_
      refine CW.sub [(0, .slice A0 n0 c0), (8, .bool false), (11, .int .i64 (Int.tmod (IntKind.i64.wrap a1) x_9)), (13, .int .i64 (IntKind.i64.wrap (x_15 + x_18))), (14, .int .i64 r_24), (15, .int .i64 r_25), (16, .int .i64 r_30), (17, .int .i64 r_31), (18, .int .i64 r_36), (19, .int .i64 r_37)] ⟨rfl, rfl, rfl, rfl, rfl, rfl, rfl, rfl, rfl, rfl, trivial⟩ ?_
      refine CW.seq ?_
      refine CW.seq ?_
      refine CW.region ?_
      refine WL.val Wanted.none (Runs.move rfl) ?_
      refine WL.val Wanted.none (Runs.neq rfl rfl rfl) ?_
      refine WL.val Wanted.none (Runs.move rfl) ?_
      obtain ⟨c_38, H⟩ := H
      have h_39 : (r_25 != 0) = false := (bne_eq_false_iff_eq.mpr (Decidable.not_not.mp c_38))
      refine WL.on ?_ ?_; exact Wanted.guard (dj := 85) (by rfl) (evb (by rfl) h_39) (by rfl)
      refine WL.val Wanted.none (Runs.move rfl) ?_
      refine WL.on ?_ ?_; exact Wanted.guard (dj := 85) (by rfl) (evb (by rfl) h_39) (by rfl)
      refine WL.val Wanted.none (Runs.neq rfl rfl rfl) ?_
      refine WL.val Wanted.none (Runs.pick_f (evb rfl h_39) rfl) ?_
      refine WL.val Wanted.none (Runs.move rfl) ?_
      obtain ⟨c_40, H⟩ := H
      have h_41 : (r_31 != 0) = false := (bne_eq_false_iff_eq.mpr (Decidable.not_not.mp c_40))
      refine WL.on ?_ ?_; exact Wanted.guard (dj := 89) (by rfl) (evb (by rfl) h_41) (by rfl)
      refine WL.val Wanted.none (Runs.move rfl) ?_
      refine WL.on ?_ ?_; exact Wanted.guard (dj := 89) (by rfl) (evb (by rfl) h_41) (by rfl)
      refine WL.val Wanted.none (Runs.neq rfl rfl rfl) ?_
      refine WL.val Wanted.none (Runs.pick_f (evb rfl h_41) rfl) ?_
      refine WL.val Wanted.none (Runs.move rfl) ?_
      obtain ⟨c_42, H⟩ := H
      have h_43 : (r_37 != 0) = false := (bne_eq_false_iff_eq.mpr (Decidable.not_not.mp c_42))
      refine WL.on ?_ ?_; exact Wanted.guard (dj := 93) (by rfl) (evb (by rfl) h_43) (by rfl)
      refine WL.val Wanted.none (Runs.move rfl) ?_
      refine WL.on ?_ ?_; exact Wanted.guard (dj := 93) (by rfl) (evb (by rfl) h_43) (by rfl)
      refine WL.val Wanted.none (Runs.move rfl) ?_
      refine WL.on ?_ ?_; exact Wanted.guard (dj := 93) (by rfl) (evb (by rfl) h_43) (by rfl)
      refine WL.val Wanted.none (Runs.add rfl rfl rfl) ?_
      refine WL.on ?_ ?_; exact Wanted.guard (dj := 93) (by rfl) (evb (by rfl) h_43) (by rfl)
      refine WL.val Wanted.none (Runs.move rfl) ?_
      refine WL.on ?_ ?_; exact Wanted.guard (dj := 93) (by rfl) (evb (by rfl) h_43) (by rfl)
      refine WL.val Wanted.none (Runs.neq rfl rfl rfl) ?_
      refine WL.val Wanted.none (Runs.pick_f (evb rfl h_43) rfl) ?_
      refine WL.nil ?_
      refine QW.then_n ?_
      refine CW.sub [(0, .slice A0 n0 c0), (8, .bool false), (11, .int .i64 (Int.tmod (IntKind.i64.wrap a1) x_9)), (13, .int .i64 (IntKind.i64.wrap (x_15 + x_18))), (18, .int .i64 r_36), (99, .bool ((IntKind.i64.wrap (r_24 + r_30)) != r_36))] ⟨rfl, rfl, rfl, rfl, rfl, rfl, trivial⟩ ?_
      obtain ⟨c_44, H⟩ := H
      have h_45 : ((IntKind.i64.wrap (r_24 + r_30)) != r_36) = false := (bne_eq_false_iff_eq.mpr (Decidable.not_not.mp c_44))
      refine CW.cf rfl h_45 ?_
      refine CW.skip ?_
      refine QW.then_n ?_
      refine CW.seq ?_
      refine CW.region ?_
      refine WL.val Wanted.none (Runs.assign rfl) ?_
      refine WL.nil ?_
      refine QW.then_n ?_
      refine CW.seq ?_
      refine CW.region ?_
      refine WL.val Wanted.none (Runs.move rfl) ?_
      refine WL.val Wanted.none (Runs.assign rfl) ?_
      refine WL.nil ?_
      refine QW.then_n ?_
      refine CW.seq ?_
      refine CW.seq ?_
      refine CW.region ?_
      refine WL.val Wanted.none (Runs.assign rfl) ?_
      refine WL.nil ?_
      refine QW.then_n ?_
      refine CW.block ?_
      obtain ⟨k_46, H⟩ := H
      refine CW.sub [(0, .slice A0 n0 c0), (8, .bool false), (11, .int .i64 (Int.tmod (IntKind.i64.wrap a1) x_9)), (13, .int .i64 (IntKind.i64.wrap (x_15 + x_18))), (18, .int .i64 r_36), (20, .int .i64 0), (21, .int .i64 (Int.tmod (IntKind.i64.wrap a1) x_9)), (22, .int .i64 0)] ⟨rfl, rfl, rfl, rfl, rfl, rfl, rfl, rfl, trivial⟩ ?_
      refine CW.loop (fun kL1 l_ w_ => ∃ (b_47 : Bool) (x_48 : Int) (x_49 : Int) (x_50 : Int), l_ = [(0, .slice A0 n0 c0), (8, .bool b_47), (11, .int .i64 (Int.tmod (IntKind.i64.wrap a1) x_9)), (13, .int .i64 (IntKind.i64.wrap (x_15 + x_18))), (18, .int .i64 r_36), (20, .int .i64 x_48), (21, .int .i64 x_49), (22, .int .i64 x_50)] ∧ reliquarylaw18_BitmapParts.L1 l0 a1 x_9 x_15 x_18 r_36 kL1 b_47 x_48 x_49 x_50 ∧ St w w_ []) (k := k_46) ⟨false, 0, Int.tmod (IntKind.i64.wrap a1) x_9, 0, rfl, H, st_34⟩ (fun _ _ h => by obtain ⟨_, _, _, _, _, h, _⟩ := h; exact h.elim) ?_
      rintro kL1 l_53 w_51 ⟨b_47, x_48, x_49, x_50, rfl, H, st_52⟩
      refine CW.seq ?_
      refine CW.seq ?_
      refine CW.region ?_
      refine WL.val Wanted.none (Runs.move rfl) ?_
      refine WL.val Wanted.none (Runs.move rfl) ?_
      refine WL.val Wanted.none (Runs.len_sl Try.underlying22 rfl (by rw [hn0])) ?_
      refine WL.val Wanted.none (Runs.mul rfl rfl rfl) ?_
      refine WL.val Wanted.none (Runs.leq rfl rfl rfl) ?_
      refine WL.nil ?_
      refine QW.then_n ?_
      obtain ⟨c_54, H⟩ := H
      have h_55 : (decide (x_50 ≤ (IntKind.i64.wrap (8 * (l0.length : Int))))) = true := (decide_eq_true c_54)
      refine CW.ct rfl h_55 ?_
      refine CW.skip ?_
      refine QW.then_n ?_
      refine CW.seq ?_
      refine CW.block ?_
      refine CW.seq ?_
      refine CW.region ?_
      refine WL.val Wanted.none (Runs.move rfl) ?_
      refine WL.val Wanted.none (Runs.move rfl) ?_
      refine WL.val Wanted.none (Runs.move rfl) ?_
      obtain ⟨r_60, r_61, hr_56, H⟩ := H
      refine WL.call Wanted.none ent29 rfl (bitmap_First.calls w_51 l0 x_49 (IntKind.i64.wrap (x_15 + x_18)) A0 n0 c0 (hs0.ext st_52) (hn0) (hc0) r_60 r_61 hr_56) ?_
      rintro _ w_57 ⟨rfl, sc_59⟩
      have st_58 : St w w_57 [] := st_52.call sc_59
      refine ⟨_, rfl, ?_⟩
      refine WL.val Wanted.none (Runs.move rfl) ?_
      refine WL.val Wanted.none (Runs.extract rfl rfl) ?_
      refine WL.val Wanted.none (Runs.extract rfl rfl) ?_
      refine WL.val Wanted.none (Runs.assign rfl) ?_
      refine WL.val Wanted.none (Runs.assign rfl) ?_
      refine WL.nil ?_
      refine QW.then_n ?_
      refine CW.seq ?_
      refine CW.seq ?_
      refine CW.region ?_
      refine WL.val Wanted.none (Runs.move rfl) ?_
      refine WL.val Wanted.none (Runs.neq rfl rfl rfl) ?_
      refine WL.nil ?_
      refine QW.then_n ?_
      rcases H with ⟨c_62, H⟩ | ⟨c_62, H⟩
      · have h_63 : (r_61 != 0) = true := (bne_iff_ne.mpr c_62)
        refine CW.ct rfl h_63 ?_
        refine CW.seq ?_
        refine CW.region ?_
        refine WL.val Wanted.none (Runs.move rfl) ?_
        refine WL.val Wanted.none (Runs.eql rfl rfl rfl) ?_
        refine WL.val Wanted.none (Runs.move rfl) ?_
        obtain ⟨c_64, H⟩ := H
        have h_65 : (r_61 == 20) = true := (beq_iff_eq.mpr c_64)
        refine WL.on ?_ ?_; exact Wanted.guard (dj := 119) (by rfl) (evb (by rfl) h_65) (by rfl)
        refine WL.val Wanted.none (Runs.move rfl) ?_
        refine WL.on ?_ ?_; exact Wanted.guard (dj := 119) (by rfl) (evb (by rfl) h_65) (by rfl)
        refine WL.val Wanted.none (Runs.move rfl) ?_
        refine WL.on ?_ ?_; exact Wanted.guard (dj := 119) (by rfl) (evb (by rfl) h_65) (by rfl)
        refine WL.val Wanted.none (Runs.move rfl) ?_
        refine WL.on ?_ ?_; exact Wanted.guard (dj := 119) (by rfl) (evb (by rfl) h_65) (by rfl)
        obtain ⟨x_66, e_67, H⟩ := H
        refine WL.val Wanted.none (Runs.sub rfl rfl e_67) ?_
        refine WL.on ?_ ?_; exact Wanted.guard (dj := 119) (by rfl) (evb (by rfl) h_65) (by rfl)
        refine WL.val Wanted.none (Runs.move rfl) ?_
        refine WL.on ?_ ?_; exact Wanted.guard (dj := 119) (by rfl) (evb (by rfl) h_65) (by rfl)
        refine WL.val Wanted.none (Runs.sub rfl rfl rfl) ?_
        refine WL.on ?_ ?_; exact Wanted.guard (dj := 119) (by rfl) (evb (by rfl) h_65) (by rfl)
        refine WL.val Wanted.none (Runs.eql rfl rfl rfl) ?_
        refine WL.val Wanted.none (Runs.pick_t (evb rfl h_65) rfl) ?_
        refine WL.val Wanted.none (Runs.assign rfl) ?_
        refine WL.nil ?_
        refine QW.then_n ?_
        refine CW.ret ?_
        refine QW.then_r ?_
        refine QW.blk_r ?_
        refine QW.then_r ?_
        refine QW.then_r ?_
        refine QW.blk_r ?_
        refine QW.then_r ?_
        have hz : (x_48 == (IntKind.i64.wrap (x_66 - r_36))) = true := (beq_iff_eq.mpr H)
        exact QW.ret1 rfl (evb rfl hz) ⟨rfl, st_58.ext⟩
      · have h_63 : (r_61 != 0) = false := (bne_eq_false_iff_eq.mpr (Decidable.not_not.mp c_62))
        refine CW.cf rfl h_63 ?_
        refine CW.skip ?_
        refine QW.then_n ?_
        refine CW.seq ?_
        refine CW.region ?_
        refine WL.val Wanted.none (Runs.move rfl) ?_
        refine WL.val Wanted.none (Runs.move rfl) ?_
        obtain ⟨r_72, r_73, hr_68, H⟩ := H
        refine WL.call Wanted.none ent25 rfl (bitmap_Get.calls w_57 l0 r_60 A0 n0 c0 (hs0.ext st_58) (hn0) (hc0) r_72 r_73 hr_68) ?_
        rintro _ w_69 ⟨rfl, sc_71⟩
        have st_70 : St w w_69 [] := st_58.call sc_71
        refine ⟨_, rfl, ?_⟩
        refine WL.val Wanted.none (Runs.move rfl) ?_
        refine WL.val Wanted.none (Runs.extract rfl rfl) ?_
        refine WL.val Wanted.none (Runs.extract rfl rfl) ?_
        refine WL.val Wanted.none (Runs.assign rfl) ?_
        refine WL.val Wanted.none (Runs.assign rfl) ?_
        refine WL.nil ?_
        refine QW.then_n ?_
        refine CW.seq ?_
        refine CW.seq ?_
        refine CW.region ?_
        refine WL.val Wanted.none (Runs.move rfl) ?_
        refine WL.val Wanted.none (Runs.move rfl) ?_
        obtain ⟨c_74, H⟩ := H
        have h_75 : r_72 = false := (Bool.eq_false_iff.mpr c_74)
        refine WL.on ?_ ?_; exact Wanted.guard (dj := 135) (by rfl) (evb (by rfl) h_75) (by rfl)
        refine WL.val Wanted.none (Runs.move rfl) ?_
        refine WL.on ?_ ?_; exact Wanted.guard (dj := 135) (by rfl) (evb (by rfl) h_75) (by rfl)
        refine WL.val Wanted.none (Runs.move rfl) ?_
        refine WL.on ?_ ?_; exact Wanted.guard (dj := 135) (by rfl) (evb (by rfl) h_75) (by rfl)
        refine WL.val Wanted.none (Runs.lss rfl rfl rfl) ?_
        refine WL.val Wanted.none (Runs.pick_f (evb rfl h_75) rfl) ?_
        refine WL.val Wanted.none (Runs.move rfl) ?_
        obtain ⟨c_76, H⟩ := H
        have h_77 : (decide (r_60 < x_49)) = false := (decide_eq_false c_76)
        refine WL.on ?_ ?_; exact Wanted.guard (dj := 140) (by rfl) (evb (by rfl) h_77) (by rfl)
        refine WL.val Wanted.none (Runs.move rfl) ?_
        refine WL.on ?_ ?_; exact Wanted.guard (dj := 140) (by rfl) (evb (by rfl) h_77) (by rfl)
        refine WL.val Wanted.none (Runs.move rfl) ?_
        refine WL.on ?_ ?_; exact Wanted.guard (dj := 140) (by rfl) (evb (by rfl) h_77) (by rfl)
        refine WL.val Wanted.none (Runs.geq rfl rfl rfl) ?_
        refine WL.val Wanted.none (Runs.pick_f (evb rfl h_77) rfl) ?_
        refine WL.nil ?_
        refine QW.then_n ?_
        obtain ⟨c_78, H⟩ := H
        have h_79 : (decide (r_60 ≥ (IntKind.i64.wrap (x_15 + x_18)))) = false := (decide_eq_false c_78)
        refine CW.cf rfl h_79 ?_
        refine CW.skip ?_
        refine QW.then_n ?_
        refine CW.seq ?_
        refine CW.region ?_
        refine WL.val Wanted.none (Runs.move rfl) ?_
        refine WL.val Wanted.none (Runs.add rfl rfl rfl) ?_
        refine WL.val Wanted.none (Runs.assign rfl) ?_
        refine WL.nil ?_
        refine QW.then_n ?_
        refine CW.region ?_
        refine WL.val Wanted.none (Runs.move rfl) ?_
        refine WL.val Wanted.none (Runs.add rfl rfl rfl) ?_
        refine WL.val Wanted.none (Runs.assign rfl) ?_
        refine WL.nil ?_
        refine QW.blk_n ?_
        refine QW.then_n ?_
        refine CW.region ?_
        refine WL.val Wanted.none (Runs.move rfl) ?_
        refine WL.val Wanted.none (Runs.add rfl rfl rfl) ?_
        refine WL.val Wanted.none (Runs.assign rfl) ?_
        refine WL.nil ?_
        exact QW.at [(0, .slice A0 n0 c0), (8, .bool b_47), (11, .int .i64 (Int.tmod (IntKind.i64.wrap a1) x_9)), (13, .int .i64 (IntKind.i64.wrap (x_15 + x_18))), (18, .int .i64 r_36), (20, .int .i64 (IntKind.i64.wrap (x_48 + 1))), (21, .int .i64 (IntKind.i64.wrap (r_60 + 1))), (22, .int .i64 (IntKind.i64.wrap (x_50 + 1)))] ⟨rfl, rfl, rfl, rfl, rfl, rfl, rfl, rfl, trivial⟩ ⟨b_47, IntKind.i64.wrap (x_48 + 1), IntKind.i64.wrap (r_60 + 1), IntKind.i64.wrap (x_50 + 1), rfl, H, st_70⟩

/-! ### reliquarylaw18_BitmapOthers: function 12 -/
def reliquarylaw18_BitmapOthers.rel (l0 : List Int) (a1 : Int) (a2 : Int) (a3 : Bool)  : Prop := (reliquarylaw18_awake.rel  ∧ (((l0.length : Int) = 0 ∧ True) ∨ (¬ ((l0.length : Int) = 0) ∧ (((l0.length : Int) > 100 ∧ True) ∨ (¬ ((l0.length : Int) > 100) ∧ ((IntKind.i64.wrap (8 * (l0.length : Int))) ≠ 0 ∧ (∃ x_10 : Int, x_10 = Int.tmod (IntKind.i64.wrap a1) (IntKind.i64.wrap (8 * (l0.length : Int))) ∧ ((IntKind.i64.wrap (8 * (l0.length : Int))) ≠ 0 ∧ (∃ x_13 : Int, x_13 = Int.tmod (IntKind.i64.wrap a2) (IntKind.i64.wrap (8 * (l0.length : Int))) ∧ (∃ (r_19 : Bool) (r_20 : Int), bitmap_Get.rel l0 x_13 r_19 r_20 ∧ (∃ (r_25 : List Int) (r_31 : Int), bitmap_Set.rel l0 x_10 a3 r_25 r_31 ∧ (∃ (r_36 : Bool) (r_37 : Int), bitmap_Get.rel r_25 x_10 r_36 r_37 ∧ (∃ (r_42 : Bool) (r_43 : Int), bitmap_Get.rel r_25 x_13 r_42 r_43 ∧ (r_20 = 0 ∧ (r_31 = 0 ∧ (r_37 = 0 ∧ (r_43 = 0 ∧ (r_36 = a3 ∧ ((x_10 = x_13 ∧ ((r_25.length : Int) = (l0.length : Int) ∧ (strOfNums l0).toList = (strOfNums l0).toList)) ∨ (¬ (x_10 = x_13) ∧ (r_42 = r_19 ∧ ((r_25.length : Int) = (l0.length : Int) ∧ (strOfNums l0).toList = (strOfNums l0).toList))))))))))))))))))))))
set_option maxHeartbeats 4000000 in
set_option maxRecDepth 100000 in
theorem reliquarylaw18_BitmapOthers.calls (w : World) (l0 : List Int) (a1 : Int) (a2 : Int) (a3 : Bool) (A0 : Option Addr) (n0 : Nat) (c0 : Nat) (hs0 : Src w A0 (iv .u8 l0)) (hn0 : n0 = l0.length) (hc0 : n0 ≤ c0)  (H : reliquarylaw18_BitmapOthers.rel l0 a1 a2 a3 ) :
    Calls Try.prog 12 #[.slice A0 n0 c0, .int .u16 a1, .int .u16 a2, .bool a3] w fun e w' => e = .returned (.bool true) ∧ Below w.heap.size w w' := by
  refine CW.enter Try.func12 rfl (n := 113) rfl [.slice A0 n0 c0, .int .u16 a1, .int .u16 a2, .bool a3] (Nat.le_of_ble_eq_true rfl) ?_
  refine CW.sub [(0, .slice A0 n0 c0), (1, .int .u16 a1), (2, .int .u16 a2), (3, .bool a3)] ⟨rfl, rfl, rfl, rfl, trivial⟩ ?_
  have st0 : St w w [] := St.refl w
  refine CW.seq ?_
  refine CW.region ?_
  refine WL.val Wanted.none (Runs.assign rfl) ?_
  refine WL.nil ?_
  refine QW.then_n ?_
  refine CW.seq ?_
  refine CW.region ?_
  obtain ⟨hr_1, H⟩ := H
  refine WL.call Wanted.none ent24 rfl (reliquarylaw18_awake.calls w hr_1) ?_
  rintro _ w_2 ⟨rfl, sc_4⟩
  have st_3 : St w w_2 [] := st0.below sc_4
  refine ⟨_, rfl, ?_⟩
  refine WL.val Wanted.none (Runs.assign rfl) ?_
  refine WL.nil ?_
  refine QW.then_n ?_
  refine CW.seq ?_
  refine CW.seq ?_
  refine CW.region ?_
  refine WL.val Wanted.none (Runs.move rfl) ?_
  refine WL.val Wanted.none (Runs.not rfl rfl) ?_
  refine WL.nil ?_
  refine QW.then_n ?_
  refine CW.cf rfl rfl ?_
  refine CW.skip ?_
  refine QW.then_n ?_
  refine CW.seq ?_
  refine CW.seq ?_
  refine CW.region ?_
  refine WL.val Wanted.none (Runs.move rfl) ?_
  refine WL.val Wanted.none (Runs.len_sl Try.underlying22 rfl (by rw [hn0])) ?_
  refine WL.val Wanted.none (Runs.eql rfl rfl rfl) ?_
  refine WL.val Wanted.none (Runs.move rfl) ?_
  rcases H with ⟨c_5, H⟩ | ⟨c_5, H⟩
  · have h_6 : ((l0.length : Int) == 0) = true := (beq_iff_eq.mpr c_5)
    refine WL.off ?_ ?_; exact Wanted.guard (dj := 27) (by rfl) (evb (by rfl) h_6) (by rfl)
    refine WL.off ?_ ?_; exact Wanted.guard (dj := 27) (by rfl) (evb (by rfl) h_6) (by rfl)
    refine WL.off ?_ ?_; exact Wanted.guard (dj := 27) (by rfl) (evb (by rfl) h_6) (by rfl)
    refine WL.val Wanted.none (Runs.pick_t (evb rfl h_6) rfl) ?_
    refine WL.nil ?_
    refine QW.then_n ?_
    refine CW.sub [(0, .slice A0 n0 c0), (1, .int .u16 a1), (2, .int .u16 a2), (3, .bool a3), (8, .bool false), (31, .bool true)] ⟨rfl, rfl, rfl, rfl, rfl, rfl, trivial⟩ ?_
    refine CW.ct rfl rfl ?_
    refine CW.seq ?_
    refine CW.region ?_
    refine WL.val Wanted.none (Runs.assign rfl) ?_
    refine WL.nil ?_
    refine QW.then_n ?_
    refine CW.ret ?_
    refine QW.then_r ?_
    exact QW.ret1 rfl rfl ⟨rfl, st_3.ext⟩
  · have h_6 : ((l0.length : Int) == 0) = false := (beq_eq_false_iff_ne.mpr c_5)
    refine WL.on ?_ ?_; exact Wanted.guard (dj := 27) (by rfl) (evb (by rfl) h_6) (by rfl)
    refine WL.val Wanted.none (Runs.move rfl) ?_
    refine WL.on ?_ ?_; exact Wanted.guard (dj := 27) (by rfl) (evb (by rfl) h_6) (by rfl)
    refine WL.val Wanted.none (Runs.len_sl Try.underlying22 rfl (by rw [hn0])) ?_
    refine WL.on ?_ ?_; exact Wanted.guard (dj := 27) (by rfl) (evb (by rfl) h_6) (by rfl)
    refine WL.val Wanted.none (Runs.gtr rfl rfl rfl) ?_
    refine WL.val Wanted.none (Runs.pick_f (evb rfl h_6) rfl) ?_
    refine WL.nil ?_
    refine QW.then_n ?_
    refine CW.sub [(0, .slice A0 n0 c0), (1, .int .u16 a1), (2, .int .u16 a2), (3, .bool a3), (8, .bool false), (31, .bool (decide ((l0.length : Int) > 100)))] ⟨rfl, rfl, rfl, rfl, rfl, rfl, trivial⟩ ?_
    rcases H with ⟨c_7, H⟩ | ⟨c_7, H⟩
    · have h_8 : (decide ((l0.length : Int) > 100)) = true := (decide_eq_true c_7)
      refine CW.ct rfl h_8 ?_
      refine CW.seq ?_
      refine CW.region ?_
      refine WL.val Wanted.none (Runs.assign rfl) ?_
      refine WL.nil ?_
      refine QW.then_n ?_
      refine CW.ret ?_
      refine QW.then_r ?_
      exact QW.ret1 rfl rfl ⟨rfl, st_3.ext⟩
    · have h_8 : (decide ((l0.length : Int) > 100)) = false := (decide_eq_false c_7)
      refine CW.cf rfl h_8 ?_
      refine CW.skip ?_
      refine QW.then_n ?_
      refine CW.seq ?_
      refine CW.region ?_
      refine WL.val Wanted.none (Runs.move rfl) ?_
      refine WL.val Wanted.none (Runs.conv Try.underlying3 ⟨_, Try.underlying31⟩ rfl rfl) ?_
      refine WL.val Wanted.none (Runs.move rfl) ?_
      refine WL.val Wanted.none (Runs.len_sl Try.underlying22 rfl (by rw [hn0])) ?_
      refine WL.val Wanted.none (Runs.mul rfl rfl rfl) ?_
      obtain ⟨z_9, H⟩ := H
      obtain ⟨x_10, e_11, H⟩ := H
      refine WL.val Wanted.none (Runs.rem rfl rfl z_9 e_11) ?_
      refine WL.val Wanted.none (Runs.assign rfl) ?_
      refine WL.nil ?_
      refine QW.then_n ?_
      refine CW.sub [(0, .slice A0 n0 c0), (2, .int .u16 a2), (3, .bool a3), (8, .bool false), (10, .int .i64 x_10)] ⟨rfl, rfl, rfl, rfl, rfl, trivial⟩ ?_
      refine CW.seq ?_
      refine CW.region ?_
      refine WL.val Wanted.none (Runs.move rfl) ?_
      refine WL.val Wanted.none (Runs.conv Try.underlying3 ⟨_, Try.underlying31⟩ rfl rfl) ?_
      refine WL.val Wanted.none (Runs.move rfl) ?_
      refine WL.val Wanted.none (Runs.len_sl Try.underlying22 rfl (by rw [hn0])) ?_
      refine WL.val Wanted.none (Runs.mul rfl rfl rfl) ?_
      obtain ⟨z_12, H⟩ := H
      obtain ⟨x_13, e_14, H⟩ := H
      refine WL.val Wanted.none (Runs.rem rfl rfl z_12 e_14) ?_
      refine WL.val Wanted.none (Runs.assign rfl) ?_
      refine WL.nil ?_
      refine QW.then_n ?_
      refine CW.sub [(0, .slice A0 n0 c0), (3, .bool a3), (8, .bool false), (10, .int .i64 x_10), (11, .int .i64 x_13)] ⟨rfl, rfl, rfl, rfl, rfl, trivial⟩ ?_
      refine CW.seq ?_
      refine CW.region ?_
      refine WL.val Wanted.none (Runs.move rfl) ?_
      refine WL.val Wanted.none (Runs.bytes_str Try.underlying22 Try.underlying5 Try.underlying9 rfl (hs0.ext st_3) hn0) ?_
      refine WL.val Wanted.none (Runs.assign rfl) ?_
      refine WL.nil ?_
      refine QW.then_n ?_
      refine CW.seq ?_
      refine CW.region ?_
      refine WL.val Wanted.none (Runs.move rfl) ?_
      refine WL.val Wanted.none (Runs.move rfl) ?_
      obtain ⟨r_19, r_20, hr_15, H⟩ := H
      refine WL.call Wanted.none ent25 rfl (bitmap_Get.calls w_2 l0 x_13 A0 n0 c0 (hs0.ext st_3) (hn0) (hc0) r_19 r_20 hr_15) ?_
      rintro _ w_16 ⟨rfl, sc_18⟩
      have st_17 : St w w_16 [] := st_3.call sc_18
      refine ⟨_, rfl, ?_⟩
      refine WL.val Wanted.none (Runs.move rfl) ?_
      refine WL.val Wanted.none (Runs.extract rfl rfl) ?_
      refine WL.val Wanted.none (Runs.extract rfl rfl) ?_
      refine WL.val Wanted.none (Runs.assign rfl) ?_
      refine WL.val Wanted.none (Runs.assign rfl) ?_
      refine WL.nil ?_
      refine QW.then_n ?_
      refine CW.sub [(0, .slice A0 n0 c0), (3, .bool a3), (8, .bool false), (10, .int .i64 x_10), (11, .int .i64 x_13), (12, .string (strOfNums l0)), (13, .bool r_19), (14, .int .i64 r_20)] ⟨rfl, rfl, rfl, rfl, rfl, rfl, rfl, rfl, trivial⟩ ?_
      refine CW.seq ?_
      refine CW.region ?_
      refine WL.val Wanted.none (Runs.move rfl) ?_
      refine WL.val Wanted.none (Runs.move rfl) ?_
      refine WL.val Wanted.none (Runs.move rfl) ?_
      obtain ⟨r_25, r_31, hr_21, H⟩ := H
      refine WL.call Wanted.none ent27 rfl (bitmap_Set.calls w_16 l0 x_10 a3 A0 n0 c0 (hs0.ext st_17) (hn0) (hc0) r_25 r_31 hr_21) ?_
      rintro _ w_22 ⟨A_26, c_27, n_28, hn_29, rfl, sc_24⟩
      have st_23 : St w w_22 [.sl A_26 c_27 n_28 (iv .u8 r_25) 5 1] := st_17.call sc_24
      refine ⟨_, rfl, ?_⟩
      refine WL.val Wanted.none (Runs.move rfl) ?_
      refine WL.val Wanted.none (Runs.extract rfl rfl) ?_
      refine WL.val Wanted.none (Runs.extract rfl rfl) ?_
      refine WL.val Wanted.none (Runs.assign rfl) ?_
      refine WL.val Wanted.none (Runs.assign rfl) ?_
      refine WL.nil ?_
      refine QW.then_n ?_
      refine CW.sub [(0, .slice A0 n0 c0), (3, .bool a3), (8, .bool false), (10, .int .i64 x_10), (11, .int .i64 x_13), (12, .string (strOfNums l0)), (13, .bool r_19), (14, .int .i64 r_20), (15, .slice A_26 n_28 c_27), (16, .int .i64 r_31)] ⟨rfl, rfl, rfl, rfl, rfl, rfl, rfl, rfl, rfl, rfl, trivial⟩ ?_
      refine CW.seq ?_
      refine CW.region ?_
      refine WL.val Wanted.none (Runs.move rfl) ?_
      refine WL.val Wanted.none (Runs.move rfl) ?_
      obtain ⟨r_36, r_37, hr_32, H⟩ := H
      refine WL.call Wanted.none ent25 rfl (bitmap_Get.calls w_22 r_25 x_10 A_26 n_28 c_27 (st_23.src_sl (k := 0) rfl) (hn_29) (st_23.cap (i := 0) rfl) r_36 r_37 hr_32) ?_
      rintro _ w_33 ⟨rfl, sc_35⟩
      have st_34 : St w w_33 [.sl A_26 c_27 n_28 (iv .u8 r_25) 5 1] := st_23.call sc_35
      refine ⟨_, rfl, ?_⟩
      refine WL.val Wanted.none (Runs.move rfl) ?_
      refine WL.val Wanted.none (Runs.extract rfl rfl) ?_
      refine WL.val Wanted.none (Runs.extract rfl rfl) ?_
      refine WL.val Wanted.none (Runs.assign rfl) ?_
      refine WL.val Wanted.none (Runs.assign rfl) ?_
      refine WL.nil ?_
      refine QW.then_n ?_
      refine CW.sub [(0, .slice A0 n0 c0), (3, .bool a3), (8, .bool false), (10, .int .i64 x_10), (11, .int .i64 x_13), (12, .string (strOfNums l0)), (13, .bool r_19), (14, .int .i64 r_20), (15, .slice A_26 n_28 c_27), (16, .int .i64 r_31), (17, .bool r_36), (18, .int .i64 r_37)] ⟨rfl, rfl, rfl, rfl, rfl, rfl, rfl, rfl, rfl, rfl, rfl, rfl, trivial⟩ ?_
      refine CW.seq ?_
      refine CW.region ?_
      refine WL.val Wanted.none (Runs.move rfl) ?_
      refine WL.val Wanted.none (Runs.move rfl) ?_
      obtain ⟨r_42, r_43, hr_38, H⟩ := H
      refine WL.call Wanted.none ent25 rfl (bitmap_Get.calls w_33 r_25 x_13 A_26 n_28 c_27 (st_34.src_sl (k := 0) rfl) (hn_29) (st_34.cap (i := 0) rfl) r_42 r_43 hr_38) ?_
      rintro _ w_39 ⟨rfl, sc_41⟩
      have st_40 : St w w_39 [.sl A_26 c_27 n_28 (iv .u8 r_25) 5 1] := st_34.call sc_41
      refine ⟨_, rfl, ?_⟩
      refine WL.val Wanted.none (Runs.move rfl) ?_
      refine WL.val Wanted.none (Runs.extract rfl rfl) ?_
      refine WL.val Wanted.none (Runs.extract rfl rfl) ?_
      refine WL.val Wanted.none (Runs.assign rfl) ?_
      refine WL.val Wanted.none (Runs.assign rfl) ?_
      refine WL.nil ?_
      refine QW.then_n ?_
      refine CW.sub [(0, .slice A0 n0 c0), (3, .bool a3), (8, .bool false), (10, .int .i64 x_10), (11, .int .i64 x_13), (12, .string (strOfNums l0)), (13, .bool r_19), (14, .int .i64 r_20), (15, .slice A_26 n_28 c_27), (16, .int .i64 r_31), (17, .bool r_36), (18, .int .i64 r_37), (19, .bool r_42), (20, .int .i64 r_43)] ⟨rfl, rfl, rfl, rfl, rfl, rfl, rfl, rfl, rfl, rfl, rfl, rfl, rfl, rfl, trivial⟩ ?_
      refine CW.seq ?_
      refine CW.region ?_
      refine WL.val Wanted.none (Runs.move rfl) ?_
      refine WL.val Wanted.none (Runs.eql rfl rfl rfl) ?_
      refine WL.val Wanted.none (Runs.move rfl) ?_
      obtain ⟨c_44, H⟩ := H
      have h_45 : (r_20 == 0) = true := (beq_iff_eq.mpr c_44)
      refine WL.on ?_ ?_; exact Wanted.guard (dj := 73) (by rfl) (evb (by rfl) h_45) (by rfl)
      refine WL.val Wanted.none (Runs.move rfl) ?_
      refine WL.on ?_ ?_; exact Wanted.guard (dj := 73) (by rfl) (evb (by rfl) h_45) (by rfl)
      refine WL.val Wanted.none (Runs.eql rfl rfl rfl) ?_
      refine WL.val Wanted.none (Runs.pick_t (evb rfl h_45) rfl) ?_
      refine WL.val Wanted.none (Runs.move rfl) ?_
      obtain ⟨c_46, H⟩ := H
      have h_47 : (r_31 == 0) = true := (beq_iff_eq.mpr c_46)
      refine WL.on ?_ ?_; exact Wanted.guard (dj := 77) (by rfl) (evb (by rfl) h_47) (by rfl)
      refine WL.val Wanted.none (Runs.move rfl) ?_
      refine WL.on ?_ ?_; exact Wanted.guard (dj := 77) (by rfl) (evb (by rfl) h_47) (by rfl)
      refine WL.val Wanted.none (Runs.eql rfl rfl rfl) ?_
      refine WL.val Wanted.none (Runs.pick_t (evb rfl h_47) rfl) ?_
      refine WL.val Wanted.none (Runs.move rfl) ?_
      obtain ⟨c_48, H⟩ := H
      have h_49 : (r_37 == 0) = true := (beq_iff_eq.mpr c_48)
      refine WL.on ?_ ?_; exact Wanted.guard (dj := 81) (by rfl) (evb (by rfl) h_49) (by rfl)
      refine WL.val Wanted.none (Runs.move rfl) ?_
      refine WL.on ?_ ?_; exact Wanted.guard (dj := 81) (by rfl) (evb (by rfl) h_49) (by rfl)
      refine WL.val Wanted.none (Runs.eql rfl rfl rfl) ?_
      refine WL.val Wanted.none (Runs.pick_t (evb rfl h_49) rfl) ?_
      refine WL.val Wanted.none (Runs.move rfl) ?_
      obtain ⟨c_50, H⟩ := H
      have h_51 : (r_43 == 0) = true := (beq_iff_eq.mpr c_50)
      refine WL.on ?_ ?_; exact Wanted.guard (dj := 85) (by rfl) (evb (by rfl) h_51) (by rfl)
      refine WL.val Wanted.none (Runs.move rfl) ?_
      refine WL.on ?_ ?_; exact Wanted.guard (dj := 85) (by rfl) (evb (by rfl) h_51) (by rfl)
      refine WL.val Wanted.none (Runs.move rfl) ?_
      refine WL.on ?_ ?_; exact Wanted.guard (dj := 85) (by rfl) (evb (by rfl) h_51) (by rfl)
      refine WL.val Wanted.none (Runs.eqb Try.underlying4 rfl rfl rfl) ?_
      refine WL.val Wanted.none (Runs.pick_t (evb rfl h_51) rfl) ?_
      refine WL.val Wanted.none (Runs.move rfl) ?_
      obtain ⟨c_52, H⟩ := H
      have h_53 : (r_36 == a3) = true := (beq_iff_eq.mpr c_52)
      refine WL.on ?_ ?_; exact Wanted.guard (dj := 90) (by rfl) (evb (by rfl) h_53) (by rfl)
      refine WL.val Wanted.none (Runs.move rfl) ?_
      refine WL.on ?_ ?_; exact Wanted.guard (dj := 90) (by rfl) (evb (by rfl) h_53) (by rfl)
      refine WL.val Wanted.none (Runs.move rfl) ?_
      refine WL.on ?_ ?_; exact Wanted.guard (dj := 90) (by rfl) (evb (by rfl) h_53) (by rfl)
      refine WL.val Wanted.none (Runs.eql rfl rfl rfl) ?_
      refine WL.on ?_ ?_; exact Wanted.guard (dj := 90) (by rfl) (evb (by rfl) h_53) (by rfl)
      refine WL.val Wanted.none (Runs.move rfl) ?_
      rcases H with ⟨c_54, H⟩ | ⟨c_54, H⟩
      · have h_55 : (x_10 == x_13) = true := (beq_iff_eq.mpr c_54)
        refine WL.off ?_ ?_; exact Wanted.guard (dj := 94) (by rfl) (evb (by rfl) h_55) (by rfl)
        refine WL.off ?_ ?_; exact Wanted.guard (dj := 94) (by rfl) (evb (by rfl) h_55) (by rfl)
        refine WL.off ?_ ?_; exact Wanted.guard (dj := 94) (by rfl) (evb (by rfl) h_55) (by rfl)
        refine WL.on ?_ ?_; exact Wanted.guard (dj := 90) (by rfl) (evb (by rfl) h_53) (by rfl)
        refine WL.val Wanted.none (Runs.pick_t (evb rfl h_55) rfl) ?_
        refine WL.val Wanted.none (Runs.pick_t (evb rfl h_53) rfl) ?_
        refine WL.val Wanted.none (Runs.move rfl) ?_
        refine WL.on ?_ ?_; exact Wanted.guard (dj := 100) (by rfl) (by rfl) (by rfl)
        refine WL.val Wanted.none (Runs.move rfl) ?_
        refine WL.on ?_ ?_; exact Wanted.guard (dj := 100) (by rfl) (by rfl) (by rfl)
        refine WL.val Wanted.none (Runs.len_sl Try.underlying22 rfl (by rw [hn_29])) ?_
        refine WL.on ?_ ?_; exact Wanted.guard (dj := 100) (by rfl) (by rfl) (by rfl)
        refine WL.val Wanted.none (Runs.move rfl) ?_
        refine WL.on ?_ ?_; exact Wanted.guard (dj := 100) (by rfl) (by rfl) (by rfl)
        refine WL.val Wanted.none (Runs.len_sl Try.underlying22 rfl (by rw [hn0])) ?_
        refine WL.on ?_ ?_; exact Wanted.guard (dj := 100) (by rfl) (by rfl) (by rfl)
        refine WL.val Wanted.none (Runs.eql rfl rfl rfl) ?_
        refine WL.val Wanted.none (Runs.pick_t rfl rfl) ?_
        refine WL.val Wanted.none (Runs.move rfl) ?_
        obtain ⟨c_56, H⟩ := H
        have h_57 : ((r_25.length : Int) == (l0.length : Int)) = true := (beq_iff_eq.mpr c_56)
        refine WL.on ?_ ?_; exact Wanted.guard (dj := 107) (by rfl) (evb (by rfl) h_57) (by rfl)
        refine WL.val Wanted.none (Runs.move rfl) ?_
        refine WL.on ?_ ?_; exact Wanted.guard (dj := 107) (by rfl) (evb (by rfl) h_57) (by rfl)
        refine WL.val Wanted.none (Runs.bytes_str Try.underlying22 Try.underlying5 Try.underlying9 rfl (hs0.ext st_40) hn0) ?_
        refine WL.on ?_ ?_; exact Wanted.guard (dj := 107) (by rfl) (evb (by rfl) h_57) (by rfl)
        refine WL.val Wanted.none (Runs.move rfl) ?_
        refine WL.on ?_ ?_; exact Wanted.guard (dj := 107) (by rfl) (evb (by rfl) h_57) (by rfl)
        refine WL.val Wanted.none (Runs.eqs rfl rfl rfl) ?_
        refine WL.val Wanted.none (Runs.pick_t (evb rfl h_57) rfl) ?_
        refine WL.val Wanted.none (Runs.assign rfl) ?_
        refine WL.nil ?_
        refine QW.then_n ?_
        refine CW.sub [(8, .bool ((strOfNums l0).toList == (strOfNums l0).toList))] ⟨rfl, trivial⟩ ?_
        refine CW.ret ?_
        have hz : ((strOfNums l0).toList == (strOfNums l0).toList) = true := (beq_iff_eq.mpr H)
        exact QW.ret1 rfl (evb rfl hz) ⟨rfl, st_40.ext⟩
      · have h_55 : (x_10 == x_13) = false := (beq_eq_false_iff_ne.mpr c_54)
        refine WL.on ?_ ?_; exact Wanted.guard (dj := 94) (by rfl) (evb (by rfl) h_55) (by rfl)
        refine WL.val Wanted.none (Runs.move rfl) ?_
        refine WL.on ?_ ?_; exact Wanted.guard (dj := 94) (by rfl) (evb (by rfl) h_55) (by rfl)
        refine WL.val Wanted.none (Runs.move rfl) ?_
        refine WL.on ?_ ?_; exact Wanted.guard (dj := 94) (by rfl) (evb (by rfl) h_55) (by rfl)
        refine WL.val Wanted.none (Runs.eqb Try.underlying4 rfl rfl rfl) ?_
        refine WL.on ?_ ?_; exact Wanted.guard (dj := 90) (by rfl) (evb (by rfl) h_53) (by rfl)
        refine WL.val Wanted.none (Runs.pick_f (evb rfl h_55) rfl) ?_
        refine WL.val Wanted.none (Runs.pick_t (evb rfl h_53) rfl) ?_
        refine WL.val Wanted.none (Runs.move rfl) ?_
        obtain ⟨c_58, H⟩ := H
        have h_59 : (r_42 == r_19) = true := (beq_iff_eq.mpr c_58)
        refine WL.on ?_ ?_; exact Wanted.guard (dj := 100) (by rfl) (evb (by rfl) h_59) (by rfl)
        refine WL.val Wanted.none (Runs.move rfl) ?_
        refine WL.on ?_ ?_; exact Wanted.guard (dj := 100) (by rfl) (evb (by rfl) h_59) (by rfl)
        refine WL.val Wanted.none (Runs.len_sl Try.underlying22 rfl (by rw [hn_29])) ?_
        refine WL.on ?_ ?_; exact Wanted.guard (dj := 100) (by rfl) (evb (by rfl) h_59) (by rfl)
        refine WL.val Wanted.none (Runs.move rfl) ?_
        refine WL.on ?_ ?_; exact Wanted.guard (dj := 100) (by rfl) (evb (by rfl) h_59) (by rfl)
        refine WL.val Wanted.none (Runs.len_sl Try.underlying22 rfl (by rw [hn0])) ?_
        refine WL.on ?_ ?_; exact Wanted.guard (dj := 100) (by rfl) (evb (by rfl) h_59) (by rfl)
        refine WL.val Wanted.none (Runs.eql rfl rfl rfl) ?_
        refine WL.val Wanted.none (Runs.pick_t (evb rfl h_59) rfl) ?_
        refine WL.val Wanted.none (Runs.move rfl) ?_
        obtain ⟨c_60, H⟩ := H
        have h_61 : ((r_25.length : Int) == (l0.length : Int)) = true := (beq_iff_eq.mpr c_60)
        refine WL.on ?_ ?_; exact Wanted.guard (dj := 107) (by rfl) (evb (by rfl) h_61) (by rfl)
        refine WL.val Wanted.none (Runs.move rfl) ?_
        refine WL.on ?_ ?_; exact Wanted.guard (dj := 107) (by rfl) (evb (by rfl) h_61) (by rfl)
        refine WL.val Wanted.none (Runs.bytes_str Try.underlying22 Try.underlying5 Try.underlying9 rfl (hs0.ext st_40) hn0) ?_
        refine WL.on ?_ ?_; exact Wanted.guard (dj := 107) (by rfl) (evb (by rfl) h_61) (by rfl)
        refine WL.val Wanted.none (Runs.move rfl) ?_
        refine WL.on ?_ ?_; exact Wanted.guard (dj := 107) (by rfl) (evb (by rfl) h_61) (by rfl)
        refine WL.val Wanted.none (Runs.eqs rfl rfl rfl) ?_
        refine WL.val Wanted.none (Runs.pick_t (evb rfl h_61) rfl) ?_
        refine WL.val Wanted.none (Runs.assign rfl) ?_
        refine WL.nil ?_
        refine QW.then_n ?_
        refine CW.sub [(8, .bool ((strOfNums l0).toList == (strOfNums l0).toList))] ⟨rfl, trivial⟩ ?_
        refine CW.ret ?_
        have hz : ((strOfNums l0).toList == (strOfNums l0).toList) = true := (beq_iff_eq.mpr H)
        exact QW.ret1 rfl (evb rfl hz) ⟨rfl, st_40.ext⟩

end Go.Proofs.Ytkfkkbblmnnblaa
