/- Walks: each function computes what its relation says, and a call of it ends so. Printed by a program of this session (wip/gen). -/
import Derived.Test.YtkcpocplohdobaaDoorGx0
namespace Go.Proofs.YtkcpocplohdobaaDoor
open Go Go.Kr Go.RowKit
set_option linter.unusedVariables false
set_option linter.unusedSimpArgs false
/-! ### seal_size: function 14 -/
def seal_size.rel (a0 : Int) (r0 : Bool) : Prop := ((a0 = 160 ∧ r0 = true) ∨ (¬ (a0 = 160) ∧ r0 = (a0 == 176)))
set_option maxHeartbeats 4000000 in
set_option maxRecDepth 100000 in
theorem seal_size.calls (w : World) (a0 : Int)    (r0 : Bool) (H : seal_size.rel a0 r0) :
    Calls Tryd.prog 14 #[.int .i64 a0] w fun e w' => e = .returned (.bool r0) ∧ St w w' [] := by
  refine CW.enter Tryd.func14 rfl (n := 9) rfl [.int .i64 a0] (Nat.le_of_ble_eq_true rfl) ?_
  refine CW.sub [(0, .int .i64 a0)] ⟨rfl, trivial⟩ ?_
  have st0 : St w w [] := St.refl w
  refine CW.seq ?_
  refine CW.region ?_
  refine WL.val Wanted.none (Runs.assign rfl) ?_
  refine WL.nil ?_
  refine QW.then_n ?_
  refine CW.seq ?_
  refine CW.region ?_
  refine WL.val Wanted.none (Runs.move rfl) ?_
  refine WL.val Wanted.none (Runs.eql rfl rfl rfl) ?_
  refine WL.val Wanted.none (Runs.move rfl) ?_
  rcases H with ⟨c_1, H⟩ | ⟨c_1, H⟩
  · have h_2 : (a0 == 160) = true := (beq_iff_eq.mpr c_1)
    refine WL.off ?_ ?_; exact Wanted.guard (dj := 5) (by rfl) (evb (by rfl) h_2) (by rfl)
    refine WL.off ?_ ?_; exact Wanted.guard (dj := 5) (by rfl) (evb (by rfl) h_2) (by rfl)
    refine WL.val Wanted.none (Runs.pick_t (evb rfl h_2) rfl) ?_
    refine WL.val Wanted.none (Runs.assign rfl) ?_
    refine WL.nil ?_
    refine QW.then_n ?_
    refine CW.sub [(2, .bool true)] ⟨rfl, trivial⟩ ?_
    refine CW.ret ?_
    obtain rfl := H
    exact QW.ret1 rfl rfl ⟨rfl, st0.pick [] (by decide)⟩
  · have h_2 : (a0 == 160) = false := (beq_eq_false_iff_ne.mpr c_1)
    refine WL.on ?_ ?_; exact Wanted.guard (dj := 5) (by rfl) (evb (by rfl) h_2) (by rfl)
    refine WL.val Wanted.none (Runs.move rfl) ?_
    refine WL.on ?_ ?_; exact Wanted.guard (dj := 5) (by rfl) (evb (by rfl) h_2) (by rfl)
    refine WL.val Wanted.none (Runs.eql rfl rfl rfl) ?_
    refine WL.val Wanted.none (Runs.pick_f (evb rfl h_2) rfl) ?_
    refine WL.val Wanted.none (Runs.assign rfl) ?_
    refine WL.nil ?_
    refine QW.then_n ?_
    refine CW.sub [(2, .bool (a0 == 176))] ⟨rfl, trivial⟩ ?_
    refine CW.ret ?_
    obtain rfl := H
    exact QW.ret1 rfl rfl ⟨rfl, st0.pick [] (by decide)⟩

/-! ### word_size: function 31 -/
def word_size.rel (a0 : Int) (r0 : Bool) : Prop := ((a0 ≥ 1 ∧ r0 = (decide (a0 ≤ 8))) ∨ (¬ (a0 ≥ 1) ∧ r0 = false))
set_option maxHeartbeats 4000000 in
set_option maxRecDepth 100000 in
theorem word_size.calls (w : World) (a0 : Int)    (r0 : Bool) (H : word_size.rel a0 r0) :
    Calls Tryd.prog 31 #[.int .i64 a0] w fun e w' => e = .returned (.bool r0) ∧ St w w' [] := by
  refine CW.enter Tryd.func31 rfl (n := 9) rfl [.int .i64 a0] (Nat.le_of_ble_eq_true rfl) ?_
  refine CW.sub [(0, .int .i64 a0)] ⟨rfl, trivial⟩ ?_
  have st0 : St w w [] := St.refl w
  refine CW.seq ?_
  refine CW.region ?_
  refine WL.val Wanted.none (Runs.assign rfl) ?_
  refine WL.nil ?_
  refine QW.then_n ?_
  refine CW.seq ?_
  refine CW.region ?_
  refine WL.val Wanted.none (Runs.move rfl) ?_
  refine WL.val Wanted.none (Runs.geq rfl rfl rfl) ?_
  refine WL.val Wanted.none (Runs.move rfl) ?_
  rcases H with ⟨c_1, H⟩ | ⟨c_1, H⟩
  · have h_2 : (decide (a0 ≥ 1)) = true := (decide_eq_true c_1)
    refine WL.on ?_ ?_; exact Wanted.guard (dj := 5) (by rfl) (evb (by rfl) h_2) (by rfl)
    refine WL.val Wanted.none (Runs.move rfl) ?_
    refine WL.on ?_ ?_; exact Wanted.guard (dj := 5) (by rfl) (evb (by rfl) h_2) (by rfl)
    refine WL.val Wanted.none (Runs.leq rfl rfl rfl) ?_
    refine WL.val Wanted.none (Runs.pick_t (evb rfl h_2) rfl) ?_
    refine WL.val Wanted.none (Runs.assign rfl) ?_
    refine WL.nil ?_
    refine QW.then_n ?_
    refine CW.sub [(2, .bool (decide (a0 ≤ 8)))] ⟨rfl, trivial⟩ ?_
    refine CW.ret ?_
    obtain rfl := H
    exact QW.ret1 rfl rfl ⟨rfl, st0.pick [] (by decide)⟩
  · have h_2 : (decide (a0 ≥ 1)) = false := (decide_eq_false c_1)
    refine WL.off ?_ ?_; exact Wanted.guard (dj := 5) (by rfl) (evb (by rfl) h_2) (by rfl)
    refine WL.off ?_ ?_; exact Wanted.guard (dj := 5) (by rfl) (evb (by rfl) h_2) (by rfl)
    refine WL.val Wanted.none (Runs.pick_f (evb rfl h_2) rfl) ?_
    refine WL.val Wanted.none (Runs.assign rfl) ?_
    refine WL.nil ?_
    refine QW.then_n ?_
    refine CW.sub [(2, .bool false)] ⟨rfl, trivial⟩ ?_
    refine CW.ret ?_
    obtain rfl := H
    exact QW.ret1 rfl rfl ⟨rfl, st0.pick [] (by decide)⟩

/-! ### word_Put: function 19 -/
def word_Put.L1 (a0 : Int) (a1 : Int) (r0 : List Int) : Nat → (List Int) → Int → Prop
  | 0, _, _ => False
  | kL1 + 1, l_20, x_22 => ((x_22 < a1 ∧ (0 ≤ (IntKind.u64.wrap (IntKind.i64.wrap (8 * x_22))) ∧ (∃ x_29 : Int, x_29 = shrI .u64 a0 (IntKind.u64.wrap (IntKind.i64.wrap (8 * x_22))) ∧ ((0 ≤ x_22 ∧ x_22 < (l_20.length : Int)) ∧ (∃ m_35 : List Int, m_35 = List.set l_20 ((x_22).toNat) (IntKind.u8.wrap x_29) ∧ word_Put.L1 a0 a1 r0 kL1 m_35 (IntKind.i64.wrap (x_22 + 1))))))) ∨ (¬ (x_22 < a1) ∧ r0 = l_20))
def word_Put.rel (a0 : Int) (a1 : Int) (r0 : List Int) : Prop := (∃ (r_5 : Bool), word_size.rel a1 r_5 ∧ ((¬ (r_5 = true) ∧ r0 = []) ∨ (¬ (¬ (r_5 = true)) ∧ ((0 ≤ a1 ∧ a1 ≤ 1099511627776) ∧ (∃ k_ : Nat, word_Put.L1 a0 a1 r0 k_ (List.replicate (a1).toNat (0 : Int)) 0)))))
set_option maxHeartbeats 4000000 in
set_option maxRecDepth 100000 in
theorem word_Put.calls (w : World) (a0 : Int) (a1 : Int)    (r0 : List Int) (H : word_Put.rel a0 a1 r0) :
    Calls Tryd.prog 19 #[.int .u64 a0, .int .i64 a1] w fun e w' => ∃ B0 q0 z0, z0 = r0.length ∧ e = .returned (.slice B0 z0 q0) ∧ St w w' [.sl B0 q0 z0 (iv .u8 r0) 5 1] := by
  refine CW.enter Tryd.func19 rfl (n := 27) rfl [.int .u64 a0, .int .i64 a1] (Nat.le_of_ble_eq_true rfl) ?_
  refine CW.sub [(0, .int .u64 a0), (1, .int .i64 a1)] ⟨rfl, rfl, trivial⟩ ?_
  have st0 : St w w [] := St.refl w
  refine CW.seq ?_
  refine CW.region ?_
  refine WL.val Wanted.none (Runs.assign rfl) ?_
  refine WL.nil ?_
  refine QW.then_n ?_
  refine CW.seq ?_
  refine CW.seq ?_
  refine CW.region ?_
  refine WL.val Wanted.none (Runs.move rfl) ?_
  obtain ⟨r_5, hr_1, H⟩ := H
  refine WL.call Wanted.none ent31 rfl (word_size.calls w a1 r_5 hr_1) ?_
  rintro _ w_2 ⟨rfl, sc_4⟩
  have st_3 : St w w_2 [] := st0.call sc_4
  refine ⟨_, rfl, ?_⟩
  refine WL.val Wanted.none (Runs.not rfl rfl) ?_
  refine WL.nil ?_
  refine QW.then_n ?_
  rcases H with ⟨c_6, H⟩ | ⟨c_6, H⟩
  · have h_7 : (!r_5) = true := (not_t (Bool.eq_false_iff.mpr c_6))
    refine CW.ct rfl h_7 ?_
    refine CW.seq ?_
    refine CW.region ?_
    refine WL.val Wanted.none (Runs.assign rfl) ?_
    refine WL.nil ?_
    refine QW.then_n ?_
    refine CW.ret ?_
    refine QW.then_r ?_
    have st_9 := st_3.nil_sl 5 1
    have st_9 : St w w_2 [.sl none 0 0 (iv .u8 ([] : List Int)) 5 1] := st_9
    obtain rfl := H
    exact QW.ret1 rfl rfl ⟨none, 0, 0, rfl, rfl, st_9.pick [0] (by decide)⟩
  · have h_7 : (!r_5) = false := (not_f (Decidable.not_not.mp c_6))
    refine CW.cf rfl h_7 ?_
    refine CW.skip ?_
    refine QW.then_n ?_
    refine CW.seq ?_
    refine CW.region ?_
    refine WL.val Wanted.none (Runs.move rfl) ?_
    obtain ⟨⟨p_10, q_11⟩, H⟩ := H
    obtain ⟨n_12, e_13⟩ : ∃ n_ : Nat, n_ = (a1).toNat := ⟨_, rfl⟩
    refine WL.make st_3 Tryd.underlying26 elem5 rfl rfl p_10 q_11 (by decide) (N := n_12) e_13 ?_
    intro B_14 w_15 st_16
    replace st_16 : St w w_15 [.sl (some ⟨B_14, 0, none⟩) n_12 n_12 (iv .u8 (List.replicate (a1).toNat (0 : Int))) 5 1] := by rw [← e_13]; rw [iv_replicate] at st_16; exact st_16
    have hn_17 : n_12 = (List.replicate (a1).toNat (0 : Int)).length := by rw [List.length_replicate]; exact e_13
    refine WL.val Wanted.none (Runs.assign rfl) ?_
    refine WL.nil ?_
    refine QW.then_n ?_
    refine CW.seq ?_
    refine CW.seq ?_
    refine CW.region ?_
    refine WL.val Wanted.none (Runs.move rfl) ?_
    refine WL.val Wanted.none (Runs.move rfl) ?_
    refine WL.nil ?_
    refine QW.then_n ?_
    refine CW.sub [(0, .int .u64 a0), (4, .slice none 0 0), (5, .slice (some ⟨B_14, 0, none⟩) n_12 n_12), (12, .int .i64 a1), (13, .int .i64 0)] ⟨rfl, rfl, rfl, rfl, rfl, trivial⟩ ?_
    refine CW.block ?_
    obtain ⟨k_19, H⟩ := H
    refine CW.sub [(0, .int .u64 a0), (4, .slice none 0 0), (5, .slice (some ⟨B_14, 0, none⟩) n_12 n_12), (12, .int .i64 a1), (13, .int .i64 0)] ⟨rfl, rfl, rfl, rfl, rfl, trivial⟩ ?_
    refine CW.loop (fun kL1 l_ w_ => ∃ (l_20 : List Int) (x_22 : Int), l_ = [(0, .int .u64 a0), (4, .slice none 0 0), (5, .slice (some ⟨B_14, 0, none⟩) n_12 n_12), (12, .int .i64 a1), (13, .int .i64 x_22)] ∧ word_Put.L1 a0 a1 r0 kL1 l_20 x_22 ∧ (n_12 = l_20.length) ∧ St w w_ [.sl (some ⟨B_14, 0, none⟩) n_12 n_12 (iv .u8 l_20) 5 1]) (k := k_19) ⟨List.replicate (a1).toNat (0 : Int), 0, rfl, H, hn_17, st_16⟩ (fun _ _ h => by obtain ⟨_, _, _, h, _⟩ := h; exact h.elim) ?_
    rintro kL1 l_25 w_23 ⟨l_20, x_22, rfl, H, hn_21, st_24⟩
    refine CW.seq ?_
    refine CW.region ?_
    refine WL.val Wanted.none (Runs.lss rfl rfl rfl) ?_
    refine WL.nil ?_
    refine QW.then_n ?_
    refine CW.seq ?_
    rcases H with ⟨c_26, H⟩ | ⟨c_26, H⟩
    · have h_27 : (decide (x_22 < a1)) = true := (decide_eq_true c_26)
      refine CW.ct rfl h_27 ?_
      refine CW.skip ?_
      refine QW.then_n ?_
      refine CW.seq ?_
      refine CW.block ?_
      refine CW.seq ?_
      refine CW.region ?_
      refine WL.val Wanted.none (Runs.move rfl) ?_
      refine WL.val Wanted.none (Runs.assign rfl) ?_
      refine WL.nil ?_
      refine QW.then_n ?_
      refine CW.region ?_
      refine WL.val Wanted.none (Runs.move rfl) ?_
      refine WL.val Wanted.none (Runs.move rfl) ?_
      refine WL.val Wanted.none (Runs.move rfl) ?_
      refine WL.val Wanted.none (Runs.move rfl) ?_
      refine WL.val Wanted.none (Runs.mul rfl rfl rfl) ?_
      refine WL.val Wanted.none (Runs.conv Tryd.underlying63 ⟨_, Tryd.underlying3⟩ rfl rfl) ?_
      obtain ⟨z_28, H⟩ := H
      obtain ⟨x_29, e_30, H⟩ := H
      refine WL.val Wanted.none (Runs.shr rfl rfl z_28 e_30) ?_
      refine WL.val Wanted.none (Runs.conv Tryd.underlying5 ⟨_, Tryd.underlying25⟩ rfl rfl) ?_
      obtain ⟨⟨p_31, q_32⟩, H⟩ := H
      obtain ⟨a_33, e_34⟩ := (st_24.src_sl (k := 0) rfl).addr_iv ((x_22).toNat) (by omega)
      refine WL.val Wanted.none (Runs.indexAddr Tryd.underlying26 cells5 (by decide) rfl e_34 rfl p_31 (by rw [hn_21]; exact q_32) (o := (x_22).toNat) (by first | rfl | omega)) ?_
      obtain ⟨m_35, e_36, H⟩ := H
      refine WL.store_sl (i := 0) st_24 rfl cells5 rfl e_34 (by rw [iv_length]; omega) rfl rfl ?_
      intro w_37 st_38
      have hn_39 : n_12 = m_35.length := by rw [e_36, List.length_set]; exact hn_21
      have st_38' : St w w_37 [.sl (some ⟨B_14, 0, none⟩) n_12 n_12 (iv .u8 m_35) 5 1] := by rw [e_36, ← iv_set .u8 l_20 ((x_22).toNat) (IntKind.u8.wrap x_29)]; exact st_38
      refine WL.nil ?_
      refine QW.blk_n ?_
      refine QW.then_n ?_
      refine CW.region ?_
      refine WL.val Wanted.none (Runs.add rfl rfl rfl) ?_
      refine WL.val Wanted.none (Runs.move rfl) ?_
      refine WL.nil ?_
      exact QW.at [(0, .int .u64 a0), (4, .slice none 0 0), (5, .slice (some ⟨B_14, 0, none⟩) n_12 n_12), (12, .int .i64 a1), (13, .int .i64 (IntKind.i64.wrap (x_22 + 1)))] ⟨rfl, rfl, rfl, rfl, rfl, trivial⟩ ⟨m_35, IntKind.i64.wrap (x_22 + 1), rfl, H, hn_39, st_38'⟩
    · have h_27 : (decide (x_22 < a1)) = false := (decide_eq_false c_26)
      refine CW.cf rfl h_27 ?_
      refine CW.exit ?_
      refine QW.then_x ?_
      refine QW.then_x ?_
      refine QW.blk_x ?_
      refine QW.then_n ?_
      refine CW.seq ?_
      refine CW.region ?_
      refine WL.val Wanted.none (Runs.move rfl) ?_
      refine WL.val Wanted.none (Runs.assign rfl) ?_
      refine WL.nil ?_
      refine QW.then_n ?_
      refine CW.sub [(4, .slice (some ⟨B_14, 0, none⟩) n_12 n_12)] ⟨rfl, trivial⟩ ?_
      refine CW.ret ?_
      obtain rfl := H
      exact QW.ret1 rfl rfl ⟨(some ⟨B_14, 0, none⟩), n_12, n_12, hn_21, rfl, st_24.pick [0] (by decide)⟩

/-! ### slices_Grow_s_byte_byte_nil0: function 30 -/
def slices_Grow_s_byte_byte_nil0.rel (a1 : Int) (r0 : List Int) : Prop := (¬ (a1 < 0) ∧ (((IntKind.i64.wrap (a1 - (IntKind.i64.wrap (0 - 0)))) > 0 ∧ ((0 < (IntKind.i64.wrap (a1 - (IntKind.i64.wrap (0 - 0)))) ∧ (IntKind.i64.wrap (a1 - (IntKind.i64.wrap (0 - 0)))) ≤ 1099511627776) ∧ (0 ≤ (List.replicate (IntKind.i64.wrap (a1 - (IntKind.i64.wrap (0 - 0)))).toNat (0 : Int)).length ∧ r0 = (List.take 0 (List.replicate (IntKind.i64.wrap (a1 - (IntKind.i64.wrap (0 - 0)))).toNat (0 : Int)))))) ∨ (¬ ((IntKind.i64.wrap (a1 - (IntKind.i64.wrap (0 - 0)))) > 0) ∧ r0 = [])))
set_option maxHeartbeats 4000000 in
set_option maxRecDepth 100000 in
theorem slices_Grow_s_byte_byte_nil0.calls (w : World) (a1 : Int)    (r0 : List Int) (H : slices_Grow_s_byte_byte_nil0.rel a1 r0) :
    Calls Tryd.prog 30 #[.slice none 0 0, .int .i64 a1] w fun e w' => ∃ B0 q0 z0, z0 = r0.length ∧ e = .returned (.slice B0 z0 q0) ∧ St w w' [.sl B0 q0 z0 (iv .u8 r0) 5 1] := by
  refine CW.enter Tryd.func30 rfl (n := 27) rfl [.slice none 0 0, .int .i64 a1] (Nat.le_of_ble_eq_true rfl) ?_
  refine CW.sub [(0, .slice none 0 0), (1, .int .i64 a1)] ⟨rfl, rfl, trivial⟩ ?_
  have st0 : St w w [] := St.refl w
  refine CW.seq ?_
  refine CW.region ?_
  refine WL.val Wanted.none (Runs.assign rfl) ?_
  refine WL.nil ?_
  refine QW.then_n ?_
  refine CW.seq ?_
  refine CW.seq ?_
  refine CW.region ?_
  refine WL.val Wanted.none (Runs.move rfl) ?_
  refine WL.val Wanted.none (Runs.lss rfl rfl rfl) ?_
  refine WL.nil ?_
  refine QW.then_n ?_
  obtain ⟨c_1, H⟩ := H
  have h_2 : (decide (a1 < 0)) = false := (decide_eq_false c_1)
  refine CW.cf rfl h_2 ?_
  refine CW.skip ?_
  refine QW.then_n ?_
  refine CW.seq ?_
  refine CW.seq ?_
  refine CW.region ?_
  refine WL.val Wanted.none (Runs.move rfl) ?_
  refine WL.val Wanted.none (Runs.move rfl) ?_
  refine WL.val Wanted.none (Runs.cap_sl Tryd.underlying26 rfl rfl) ?_
  refine WL.val Wanted.none (Runs.move rfl) ?_
  refine WL.val Wanted.none (Runs.len_sl Tryd.underlying26 rfl rfl) ?_
  refine WL.val Wanted.none (Runs.sub rfl rfl rfl) ?_
  refine WL.val Wanted.none (Runs.sub rfl rfl rfl) ?_
  refine WL.val Wanted.none (Runs.assign rfl) ?_
  refine WL.nil ?_
  refine QW.then_n ?_
  refine CW.sub [(0, .slice none 0 0), (1, .int .i64 (IntKind.i64.wrap (a1 - (IntKind.i64.wrap (0 - 0))))), (4, .slice none 0 0)] ⟨rfl, rfl, rfl, trivial⟩ ?_
  refine CW.seq ?_
  refine CW.region ?_
  refine WL.val Wanted.none (Runs.move rfl) ?_
  refine WL.val Wanted.none (Runs.gtr rfl rfl rfl) ?_
  refine WL.nil ?_
  refine QW.then_n ?_
  rcases H with ⟨c_3, H⟩ | ⟨c_3, H⟩
  · have h_4 : (decide ((IntKind.i64.wrap (a1 - (IntKind.i64.wrap (0 - 0)))) > 0)) = true := (decide_eq_true c_3)
    refine CW.ct rfl h_4 ?_
    refine CW.region ?_
    refine WL.val Wanted.none (Runs.move rfl) ?_
    refine WL.val Wanted.none (Runs.move rfl) ?_
    refine WL.val Wanted.none (Runs.cap_sl Tryd.underlying26 rfl rfl) ?_
    refine WL.val Wanted.none (Runs.slice_h (A := none) (c := 0) (m := 0) (B := none) (N := 0) Tryd.underlying26 cells5 rfl rfl (by decide) (by decide) rfl rfl) ?_
    refine WL.val Wanted.none (Runs.move rfl) ?_
    obtain ⟨⟨p_6, q_7⟩, H⟩ := H
    obtain ⟨n_8, e_9⟩ : ∃ n_ : Nat, n_ = (IntKind.i64.wrap (a1 - (IntKind.i64.wrap (0 - 0)))).toNat := ⟨_, rfl⟩
    refine WL.append_make (N := n_8) st0 Tryd.underlying26 Tryd.underlying3 elem5 rfl rfl p_6 q_7 (by decide) e_9 ?_
    intro B_11 c_12 w_10 st_14
    replace st_14 : St w w_10 [.sl (some ⟨B_11, 0, none⟩) c_12 n_8 (iv .u8 (List.replicate (IntKind.i64.wrap (a1 - (IntKind.i64.wrap (0 - 0)))).toNat (0 : Int))) 5 1] := by rw [← e_9]; rw [iv_replicate] at st_14; exact st_14
    have hn_15 : n_8 = (List.replicate (IntKind.i64.wrap (a1 - (IntKind.i64.wrap (0 - 0)))).toNat (0 : Int)).length := by rw [List.length_replicate]; exact e_9
    refine WL.val Wanted.none (Runs.move rfl) ?_
    refine WL.val Wanted.none (Runs.len_sl Tryd.underlying26 rfl rfl) ?_
    obtain ⟨h_17, H⟩ := H
    rw [← hn_15] at h_17
    have h_17c : n_8 ≤ c_12 := st_14.cap (i := 0) rfl
    have st_16 := st_14.trunc (i := 0) rfl 0 h_17
    have hn_18 : 0 = (List.take 0 (List.replicate (IntKind.i64.wrap (a1 - (IntKind.i64.wrap (0 - 0)))).toNat (0 : Int))).length := by rw [List.length_take]; omega
    have st_16' : St w w_10 [.sl (some ⟨B_11, 0, none⟩) c_12 0 (iv .u8 (List.take 0 (List.replicate (IntKind.i64.wrap (a1 - (IntKind.i64.wrap (0 - 0)))).toNat (0 : Int)))) 5 1] := by rw [← iv_take]; exact st_16
    refine WL.val Wanted.none (Runs.slice_hp Tryd.underlying26 cells5 rfl rfl (by decide) (by omega) rfl) ?_
    refine WL.val Wanted.none (Runs.assign rfl) ?_
    refine WL.nil ?_
    refine QW.then_n ?_
    refine CW.sub [(0, .slice (some ⟨B_11, 0, none⟩) 0 c_12), (4, .slice none 0 0)] ⟨rfl, rfl, trivial⟩ ?_
    refine CW.seq ?_
    refine CW.region ?_
    refine WL.val Wanted.none (Runs.move rfl) ?_
    refine WL.val Wanted.none (Runs.assign rfl) ?_
    refine WL.nil ?_
    refine QW.then_n ?_
    refine CW.ret ?_
    obtain rfl := H
    exact QW.ret1 rfl rfl ⟨(some ⟨B_11, 0, none⟩), c_12, 0, hn_18, rfl, st_16'.pick [0] (by decide)⟩
  · have h_4 : (decide ((IntKind.i64.wrap (a1 - (IntKind.i64.wrap (0 - 0)))) > 0)) = false := (decide_eq_false c_3)
    refine CW.cf rfl h_4 ?_
    refine CW.skip ?_
    refine QW.then_n ?_
    refine CW.seq ?_
    refine CW.region ?_
    refine WL.val Wanted.none (Runs.move rfl) ?_
    refine WL.val Wanted.none (Runs.assign rfl) ?_
    refine WL.nil ?_
    refine QW.then_n ?_
    refine CW.ret ?_
    have st_21 := st0.nil_sl 5 1
    have st_21 : St w w [.sl none 0 0 (iv .u8 ([] : List Int)) 5 1] := st_21
    obtain rfl := H
    exact QW.ret1 rfl rfl ⟨none, 0, 0, rfl, rfl, st_21.pick [0] (by decide)⟩

/-! ### slices_Concat_s_byte_byte: function 18 -/
def slices_Concat_s_byte_byte.L2 (l0 : List (List Int)) (r0 : List Int) : Nat → (List Int) → Int → Prop
  | 0, _, _ => False
  | kL2 + 1, l_37, x_40 => ((x_40 < (l0.length : Int) ∧ ((0 ≤ x_40 ∧ x_40 < (l0.length : Int)) ∧ (∃ m_57 : List Int, m_57 = l_37 ++ (gl l0 ((x_40).toNat)) ∧ (m_57.length ≤ 1099511627776 ∧ slices_Concat_s_byte_byte.L2 l0 r0 kL2 m_57 (IntKind.i64.wrap (x_40 + 1)))))) ∨ (¬ (x_40 < (l0.length : Int)) ∧ r0 = l_37))
def slices_Concat_s_byte_byte.L1 (l0 : List (List Int)) (r0 : List Int) : Nat → Int → Int → Prop
  | 0, _, _ => False
  | kL1 + 1, x_2, x_3 => ((x_3 < (l0.length : Int) ∧ ((0 ≤ x_3 ∧ x_3 < (l0.length : Int)) ∧ (∃ x_20 : Int, x_20 = IntKind.i64.wrap (x_2 + ((gl l0 ((x_3).toNat)).length : Int)) ∧ (¬ (x_20 < 0) ∧ slices_Concat_s_byte_byte.L1 l0 r0 kL1 x_20 (IntKind.i64.wrap (x_3 + 1)))))) ∨ (¬ (x_3 < (l0.length : Int)) ∧ (∃ (r_28 : List Int), slices_Grow_s_byte_byte_nil0.rel x_2 r_28 ∧ (∃ k_ : Nat, slices_Concat_s_byte_byte.L2 l0 r0 k_ r_28 0))))
def slices_Concat_s_byte_byte.rel (l0 : List (List Int)) (r0 : List Int) : Prop := (∃ k_ : Nat, slices_Concat_s_byte_byte.L1 l0 r0 k_ 0 0)
set_option maxHeartbeats 4000000 in
set_option maxRecDepth 100000 in
theorem slices_Concat_s_byte_byte.calls (w : World) (l0 : List (List Int)) (A0 : Option Addr) (n0 : Nat) (c0 : Nat)  (hs0 : RowsOf w .u8 A0 l0) (hn0 : n0 = l0.length) (hc0 : n0 ≤ c0) (r0 : List Int) (H : slices_Concat_s_byte_byte.rel l0 r0) :
    Calls Tryd.prog 18 #[.slice A0 n0 c0] w fun e w' => ∃ B0 q0 z0, z0 = r0.length ∧ e = .returned (.slice B0 z0 q0) ∧ St w w' [.sl B0 q0 z0 (iv .u8 r0) 5 1] := by
  refine CW.enter Tryd.func18 rfl (n := 36) rfl [.slice A0 n0 c0] (Nat.le_of_ble_eq_true rfl) ?_
  refine CW.sub [(0, .slice A0 n0 c0)] ⟨rfl, trivial⟩ ?_
  have st0 : St w w [] := St.refl w
  refine CW.seq ?_
  refine CW.region ?_
  refine WL.val Wanted.none (Runs.assign rfl) ?_
  refine WL.nil ?_
  refine QW.then_n ?_
  refine CW.seq ?_
  refine CW.region ?_
  refine WL.val Wanted.none (Runs.assign rfl) ?_
  refine WL.nil ?_
  refine QW.then_n ?_
  refine CW.seq ?_
  refine CW.seq ?_
  refine CW.region ?_
  refine WL.val Wanted.none (Runs.move rfl) ?_
  refine WL.val Wanted.none (Runs.len_sl Tryd.underlying62 rfl (by rw [hn0])) ?_
  refine WL.val Wanted.none (Runs.move rfl) ?_
  refine WL.nil ?_
  refine QW.then_n ?_
  refine CW.block ?_
  obtain ⟨k_1, H⟩ := H
  refine CW.sub [(0, .slice A0 n0 c0), (2, .slice none 0 0), (3, .int .i64 0), (9, .slice A0 n0 c0), (10, .int .i64 (l0.length : Int)), (11, .int .i64 0)] ⟨rfl, rfl, rfl, rfl, rfl, rfl, trivial⟩ ?_
  refine CW.loop (fun kL1 l_ w_ => ∃ (x_2 : Int) (x_3 : Int), l_ = [(0, .slice A0 n0 c0), (2, .slice none 0 0), (3, .int .i64 x_2), (9, .slice A0 n0 c0), (10, .int .i64 (l0.length : Int)), (11, .int .i64 x_3)] ∧ slices_Concat_s_byte_byte.L1 l0 r0 kL1 x_2 x_3 ∧ St w w_ []) (k := k_1) ⟨0, 0, rfl, H, st0⟩ (fun _ _ h => by obtain ⟨_, _, _, h, _⟩ := h; exact h.elim) ?_
  rintro kL1 l_6 w_4 ⟨x_2, x_3, rfl, H, st_5⟩
  refine CW.seq ?_
  refine CW.region ?_
  refine WL.val Wanted.none (Runs.lss rfl rfl rfl) ?_
  refine WL.nil ?_
  refine QW.then_n ?_
  refine CW.seq ?_
  rcases H with ⟨c_7, H⟩ | ⟨c_7, H⟩
  · have h_8 : (decide (x_3 < (l0.length : Int))) = true := (decide_eq_true c_7)
    refine CW.ct rfl h_8 ?_
    refine CW.skip ?_
    refine QW.then_n ?_
    refine CW.seq ?_
    refine CW.block ?_
    refine CW.seq ?_
    refine CW.region ?_
    obtain ⟨⟨p_9, q_10⟩, H⟩ := H
    obtain ⟨a_11, A_13, n_14, c_15, e_12, f_17, hn_18, hc_19, g_16⟩ := hs0.get ((x_3).toNat) (by omega)
    refine WL.val Wanted.none (Runs.indexAddr Tryd.underlying62 cells26 (by decide) rfl e_12 rfl p_9 (by rw [hn0]; exact q_10) (o := (x_3).toNat) (by first | rfl | omega)) ?_
    refine WL.val Wanted.none (Runs.load nagg26 rfl (st_5.up f_17)) ?_
    refine WL.val Wanted.none (Runs.assign rfl) ?_
    refine WL.nil ?_
    refine QW.then_n ?_
    refine CW.seq ?_
    refine CW.region ?_
    refine WL.val Wanted.none (Runs.move rfl) ?_
    refine WL.val Wanted.none (Runs.move rfl) ?_
    refine WL.val Wanted.none (Runs.len_sl Tryd.underlying26 rfl (by rw [hn_18])) ?_
    obtain ⟨x_20, e_21, H⟩ := H
    refine WL.val Wanted.none (Runs.add rfl rfl e_21) ?_
    refine WL.val Wanted.none (Runs.assign rfl) ?_
    refine WL.nil ?_
    refine QW.then_n ?_
    refine CW.seq ?_
    refine CW.region ?_
    refine WL.val Wanted.none (Runs.move rfl) ?_
    refine WL.val Wanted.none (Runs.lss rfl rfl rfl) ?_
    refine WL.nil ?_
    refine QW.then_n ?_
    obtain ⟨c_22, H⟩ := H
    have h_23 : (decide (x_20 < 0)) = false := (decide_eq_false c_22)
    refine CW.cf rfl h_23 ?_
    refine CW.skip ?_
    refine QW.blk_n ?_
    refine QW.then_n ?_
    refine CW.region ?_
    refine WL.val Wanted.none (Runs.add rfl rfl rfl) ?_
    refine WL.val Wanted.none (Runs.move rfl) ?_
    refine WL.nil ?_
    exact QW.at [(0, .slice A0 n0 c0), (2, .slice none 0 0), (3, .int .i64 x_20), (9, .slice A0 n0 c0), (10, .int .i64 (l0.length : Int)), (11, .int .i64 (IntKind.i64.wrap (x_3 + 1)))] ⟨rfl, rfl, rfl, rfl, rfl, rfl, trivial⟩ ⟨x_20, IntKind.i64.wrap (x_3 + 1), rfl, H, st_5⟩
  · have h_8 : (decide (x_3 < (l0.length : Int))) = false := (decide_eq_false c_7)
    refine CW.cf rfl h_8 ?_
    refine CW.exit ?_
    refine QW.then_x ?_
    refine QW.then_x ?_
    refine QW.blk_x ?_
    refine QW.then_n ?_
    refine CW.seq ?_
    refine CW.region ?_
    refine WL.val Wanted.none (Runs.move rfl) ?_
    obtain ⟨r_28, hr_24, H⟩ := H
    refine WL.call Wanted.none ent30 rfl (slices_Grow_s_byte_byte_nil0.calls w_4 x_2 r_28 hr_24) ?_
    rintro _ w_25 ⟨A_29, c_30, n_31, hn_32, rfl, sc_27⟩
    have st_26 : St w w_25 [.sl A_29 c_30 n_31 (iv .u8 r_28) 5 1] := st_5.call sc_27
    refine ⟨_, rfl, ?_⟩
    refine WL.val Wanted.none (Runs.assign rfl) ?_
    refine WL.nil ?_
    refine QW.then_n ?_
    refine CW.sub [(0, .slice A0 n0 c0), (2, .slice none 0 0), (6, .slice A_29 n_31 c_30)] ⟨rfl, rfl, rfl, trivial⟩ ?_
    refine CW.seq ?_
    refine CW.seq ?_
    refine CW.region ?_
    refine WL.val Wanted.none (Runs.move rfl) ?_
    refine WL.val Wanted.none (Runs.len_sl Tryd.underlying62 rfl (by rw [hn0])) ?_
    refine WL.val Wanted.none (Runs.move rfl) ?_
    refine WL.nil ?_
    refine QW.then_n ?_
    refine CW.block ?_
    obtain ⟨k_34, H⟩ := H
    refine CW.sub [(2, .slice none 0 0), (6, .slice A_29 n_31 c_30), (25, .slice A0 n0 c0), (26, .int .i64 (l0.length : Int)), (27, .int .i64 0)] ⟨rfl, rfl, rfl, rfl, rfl, trivial⟩ ?_
    refine CW.loop (fun kL2 l_ w_ => ∃ (A_35 : Option Addr) (c_36 : Nat) (n_38 : Nat) (l_37 : List Int) (x_40 : Int), l_ = [(2, .slice none 0 0), (6, .slice A_35 n_38 c_36), (25, .slice A0 n0 c0), (26, .int .i64 (l0.length : Int)), (27, .int .i64 x_40)] ∧ slices_Concat_s_byte_byte.L2 l0 r0 kL2 l_37 x_40 ∧ (n_38 = l_37.length) ∧ St w w_ [.sl A_35 c_36 n_38 (iv .u8 l_37) 5 1]) (k := k_34) ⟨A_29, c_30, n_31, r_28, 0, rfl, H, hn_32, st_26⟩ (fun _ _ h => by obtain ⟨_, _, _, _, _, _, h, _⟩ := h; exact h.elim) ?_
    rintro kL2 l_43 w_41 ⟨A_35, c_36, n_38, l_37, x_40, rfl, H, hn_39, st_42⟩
    refine CW.seq ?_
    refine CW.region ?_
    refine WL.val Wanted.none (Runs.lss rfl rfl rfl) ?_
    refine WL.nil ?_
    refine QW.then_n ?_
    refine CW.seq ?_
    rcases H with ⟨c_44, H⟩ | ⟨c_44, H⟩
    · have h_45 : (decide (x_40 < (l0.length : Int))) = true := (decide_eq_true c_44)
      refine CW.ct rfl h_45 ?_
      refine CW.skip ?_
      refine QW.then_n ?_
      refine CW.seq ?_
      refine CW.block ?_
      refine CW.seq ?_
      refine CW.region ?_
      obtain ⟨⟨p_46, q_47⟩, H⟩ := H
      obtain ⟨a_48, A_50, n_51, c_52, e_49, f_54, hn_55, hc_56, g_53⟩ := hs0.get ((x_40).toNat) (by omega)
      refine WL.val Wanted.none (Runs.indexAddr Tryd.underlying62 cells26 (by decide) rfl e_49 rfl p_46 (by rw [hn0]; exact q_47) (o := (x_40).toNat) (by first | rfl | omega)) ?_
      refine WL.val Wanted.none (Runs.load nagg26 rfl (st_42.up f_54)) ?_
      refine WL.val Wanted.none (Runs.assign rfl) ?_
      refine WL.nil ?_
      refine QW.then_n ?_
      refine CW.region ?_
      refine WL.val Wanted.none (Runs.move rfl) ?_
      refine WL.val Wanted.none (Runs.move rfl) ?_
      obtain ⟨m_57, e_58, H⟩ := H
      obtain ⟨z_59, H⟩ := H
      obtain ⟨n_62, hn_65⟩ : ∃ n_ : Nat, n_ = m_57.length := ⟨_, rfl⟩
      refine WL.append (i := 0) Wanted.none st_42 rfl Tryd.underlying26 elem5 rfl rfl (g_53.ext st_42) (by rw [iv_length]; exact (hn_55).symm) (one_iv .u8 _) (by decide) (N := n_62) (by rw [hn_65, e_58, List.length_append]; exact congr (congrArg HAdd.hAdd (hn_39)) (hn_55)) (by rw [hn_65]; exact z_59) ?_
      intro A_60 c_61 w_63 st_64
      have st_64' : St w w_63 [.sl A_60 c_61 n_62 (iv .u8 m_57) 5 1] := by rw [e_58, ← iv_append .u8 l_37 (gl l0 ((x_40).toNat))]; exact st_64
      refine WL.val Wanted.none (Runs.assign rfl) ?_
      refine WL.nil ?_
      refine QW.blk_n ?_
      refine QW.then_n ?_
      refine CW.region ?_
      refine WL.val Wanted.none (Runs.add rfl rfl rfl) ?_
      refine WL.val Wanted.none (Runs.move rfl) ?_
      refine WL.nil ?_
      exact QW.at [(2, .slice none 0 0), (6, .slice A_60 n_62 c_61), (25, .slice A0 n0 c0), (26, .int .i64 (l0.length : Int)), (27, .int .i64 (IntKind.i64.wrap (x_40 + 1)))] ⟨rfl, rfl, rfl, rfl, rfl, trivial⟩ ⟨A_60, c_61, n_62, m_57, IntKind.i64.wrap (x_40 + 1), rfl, H, hn_65, st_64'⟩
    · have h_45 : (decide (x_40 < (l0.length : Int))) = false := (decide_eq_false c_44)
      refine CW.cf rfl h_45 ?_
      refine CW.exit ?_
      refine QW.then_x ?_
      refine QW.then_x ?_
      refine QW.blk_x ?_
      refine QW.then_n ?_
      refine CW.seq ?_
      refine CW.region ?_
      refine WL.val Wanted.none (Runs.move rfl) ?_
      refine WL.val Wanted.none (Runs.assign rfl) ?_
      refine WL.nil ?_
      refine QW.then_n ?_
      refine CW.sub [(2, .slice A_35 n_38 c_36)] ⟨rfl, trivial⟩ ?_
      refine CW.ret ?_
      obtain rfl := H
      exact QW.ret1 rfl rfl ⟨A_35, c_36, n_38, hn_39, rfl, st_42.pick [0] (by decide)⟩

/-! ### cipher_Nonce: function 16 -/
def cipher_Nonce.rel (a0 : Int) (a1 : Int) (r0 : List Int) : Prop := (∃ (r_9 : List Int), word_Put.rel (IntKind.u64.wrap a0) 4 r_9 ∧ (∃ (r_19 : List Int), word_Put.rel a1 8 r_19 ∧ (∃ (r_34 : List Int), slices_Concat_s_byte_byte.rel ([r_9, r_19] : List (List Int)) r_34 ∧ (12 ≤ r_34.length ∧ r0 = List.take 12 r_34))))
set_option maxHeartbeats 4000000 in
set_option maxRecDepth 100000 in
theorem cipher_Nonce.calls (w : World) (a0 : Int) (a1 : Int)    (r0 : List Int) (H : cipher_Nonce.rel a0 a1 r0) :
    Calls Tryd.prog 16 #[.int .u32 a0, .int .u64 a1] w fun e w' => r0.length = 12 ∧ e = .returned (.agg (iv .u8 r0).toArray) ∧ St w w' [] := by
  refine CW.enter Tryd.func16 rfl (n := 14) rfl [.int .u32 a0, .int .u64 a1] (Nat.le_of_ble_eq_true rfl) ?_
  refine CW.sub [(0, .int .u32 a0), (1, .int .u64 a1)] ⟨rfl, rfl, trivial⟩ ?_
  have st0 : St w w [] := St.refl w
  refine CW.seq ?_
  refine CW.region ?_
  refine WL.alloc st0 arr47.zero ?_
  intro B_1 w_2 st_3
  replace st_3 : St w w_2 [.cells B_1 (iv .u8 (List.replicate 12 (0 : Int))) 47] := st_3
  refine WL.nil ?_
  refine QW.then_n ?_
  refine CW.seq ?_
  refine CW.region ?_
  refine WL.val Wanted.none (Runs.move rfl) ?_
  refine WL.val Wanted.none (Runs.conv Tryd.underlying25 ⟨_, Tryd.underlying24⟩ rfl rfl) ?_
  obtain ⟨r_9, hr_5, H⟩ := H
  refine WL.call Wanted.none ent19 rfl (word_Put.calls w_2 (IntKind.u64.wrap a0) 4 r_9 hr_5) ?_
  rintro _ w_6 ⟨A_10, c_11, n_12, hn_13, rfl, sc_8⟩
  have st_7 : St w w_6 [.sl A_10 c_11 n_12 (iv .u8 r_9) 5 1, .cells B_1 (iv .u8 (List.replicate 12 (0 : Int))) 47] := st_3.call sc_8
  refine ⟨_, rfl, ?_⟩
  refine WL.val Wanted.none (Runs.move rfl) ?_
  obtain ⟨r_19, hr_15, H⟩ := H
  refine WL.call Wanted.none ent19 rfl (word_Put.calls w_6 a1 8 r_19 hr_15) ?_
  rintro _ w_16 ⟨A_20, c_21, n_22, hn_23, rfl, sc_18⟩
  have st_17 : St w w_16 [.sl A_20 c_21 n_22 (iv .u8 r_19) 5 1, .sl A_10 c_11 n_12 (iv .u8 r_9) 5 1, .cells B_1 (iv .u8 (List.replicate 12 (0 : Int))) 47] := st_7.call sc_18
  refine ⟨_, rfl, ?_⟩
  refine WL.buildSl [.slice A_10 n_12 c_11, .slice A_20 n_22 c_21] st_17 Tryd.underlying62 elem26 rfl rfl (by decide) (by decide) (by simp [Value.cells]) ?_
  intro B_25 w_26 st_27
  replace st_27 : St w w_26 [.sl (some ⟨B_25, 0, none⟩) 2 2 [.slice A_10 n_12 c_11, .slice A_20 n_22 c_21] 26 1, .sl A_20 c_21 n_22 (iv .u8 r_19) 5 1, .sl A_10 c_11 n_12 (iv .u8 r_9) 5 1, .cells B_1 (iv .u8 (List.replicate 12 (0 : Int))) 47] := st_27
  have hr_29 : RowsOf w_26 .u8 (some ⟨B_25, 0, none⟩) ([r_9, r_19] : List (List Int)) := RowsOf.lit (st_27.src_sl (k := 0) rfl) rfl (fun j hj => by match j, hj with | 0, _ => exact ⟨_, _, _, rfl, hn_13, st_27.cap (i := 2) rfl, st_27.src_sl (k := 2) rfl⟩ | 1, _ => exact ⟨_, _, _, rfl, hn_23, st_27.cap (i := 1) rfl, st_27.src_sl (k := 1) rfl⟩ | j + 2, hj => exact absurd (show j + 2 < 2 from hj) (by omega))
  obtain ⟨r_34, hr_30, H⟩ := H
  refine WL.call Wanted.none ent18 rfl (slices_Concat_s_byte_byte.calls w_26 ([r_9, r_19] : List (List Int)) (some ⟨B_25, 0, none⟩) 2 2 (hr_29) (rfl) (Nat.le_refl _) r_34 hr_30) ?_
  rintro _ w_31 ⟨A_35, c_36, n_37, hn_38, rfl, sc_33⟩
  have st_32 : St w w_31 [.sl A_35 c_36 n_37 (iv .u8 r_34) 5 1, .sl (some ⟨B_25, 0, none⟩) 2 2 [.slice A_10 n_12 c_11, .slice A_20 n_22 c_21] 26 1, .sl A_20 c_21 n_22 (iv .u8 r_19) 5 1, .sl A_10 c_11 n_12 (iv .u8 r_9) 5 1, .cells B_1 (iv .u8 (List.replicate 12 (0 : Int))) 47] := st_27.call sc_33
  refine ⟨_, rfl, ?_⟩
  obtain ⟨h_40, H⟩ := H
  refine WL.val Wanted.none (Runs.toArray Tryd.underlying47 rfl (by rw [hn_38]; exact h_40)) ?_
  refine WL.val Wanted.none (Runs.load_src arr47 (by decide) rfl (st_32.src_sl (k := 0) rfl) h_40) ?_
  refine WL.store_arr (i := 4) st_32 rfl arr47 rfl (by rw [iv_length]; exact (List.length_replicate ..)) (List.length_take_of_le h_40) rfl ?_
  intro w_41 st_42
  replace st_42 : St w w_41 [.sl A_35 c_36 n_37 (iv .u8 r_34) 5 1, .sl (some ⟨B_25, 0, none⟩) 2 2 [.slice A_10 n_12 c_11, .slice A_20 n_22 c_21] 26 1, .sl A_20 c_21 n_22 (iv .u8 r_19) 5 1, .sl A_10 c_11 n_12 (iv .u8 r_9) 5 1, .cells B_1 (iv .u8 (List.take 12 r_34)) 47] := st_42
  refine WL.nil ?_
  refine QW.then_n ?_
  refine CW.sub [(4, .pointer (some ⟨B_1, 0, none⟩))] ⟨rfl, trivial⟩ ?_
  refine CW.ret ?_
  obtain rfl := H
  exact QW.retc rfl arr47 rfl (st_42.blk (i := 4) rfl) (List.length_take_of_le h_40) ⟨(List.length_take_of_le h_40), rfl, st_42.pick [] (by decide)⟩

/-! ### slices_Clone_s_byte_byte: function 27 -/
def slices_Clone_s_byte_byte.rel (l0 : List Int) (r0 : List Int) : Prop := (l0 = [] → r0 = []) ∧ (∃ m_7 : List Int, m_7 = ([] : List Int) ++ l0 ∧ (m_7.length ≤ 1099511627776 ∧ r0 = m_7))
set_option maxHeartbeats 4000000 in
set_option maxRecDepth 100000 in
theorem slices_Clone_s_byte_byte.calls (w : World) (l0 : List Int) (A0 : Option Addr) (n0 : Nat) (c0 : Nat)  (hs0 : Src w A0 (iv .u8 l0)) (hn0 : n0 = l0.length) (hc0 : n0 ≤ c0) (r0 : List Int) (H : slices_Clone_s_byte_byte.rel l0 r0) :
    Calls Tryd.prog 27 #[.slice A0 n0 c0] w fun e w' => ∃ B0 q0 z0, z0 = r0.length ∧ e = .returned (.slice B0 z0 q0) ∧ St w w' [.sl B0 q0 z0 (iv .u8 r0) 5 1] := by
  rcases A0 with _ | A_
  · replace H := H.1 (nil_of_src hs0)
    refine CW.enter Tryd.func27 rfl (n := 8) rfl [.slice none n0 c0] (Nat.le_of_ble_eq_true rfl) ?_
    refine CW.sub [(0, .slice none n0 c0)] ⟨rfl, trivial⟩ ?_
    have st0 : St w w [] := St.refl w
    refine CW.seq ?_
    refine CW.region ?_
    refine WL.val Wanted.none (Runs.assign rfl) ?_
    refine WL.nil ?_
    refine QW.then_n ?_
    refine CW.seq ?_
    refine CW.seq ?_
    refine CW.region ?_
    refine WL.val Wanted.none (Runs.move rfl) ?_
    refine WL.val Wanted.none (Runs.eql_nil Tryd.underlying26 rfl rfl rfl) ?_
    refine WL.nil ?_
    refine QW.then_n ?_
    refine CW.ct rfl rfl ?_
    refine CW.seq ?_
    refine CW.region ?_
    refine WL.val Wanted.none (Runs.assign rfl) ?_
    refine WL.nil ?_
    refine QW.then_n ?_
    refine CW.ret ?_
    refine QW.then_r ?_
    have st_2 := st0.nil_sl 5 1
    have st_2 : St w w [.sl none 0 0 (iv .u8 ([] : List Int)) 5 1] := st_2
    obtain rfl := H
    exact QW.ret1 rfl rfl ⟨none, 0, 0, rfl, rfl, st_2.pick [0] (by decide)⟩
  · replace H := H.2
    refine CW.enter Tryd.func27 rfl (n := 8) rfl [.slice (some A_) n0 c0] (Nat.le_of_ble_eq_true rfl) ?_
    refine CW.sub [(0, .slice (some A_) n0 c0)] ⟨rfl, trivial⟩ ?_
    have st0 : St w w [] := St.refl w
    refine CW.seq ?_
    refine CW.region ?_
    refine WL.val Wanted.none (Runs.assign rfl) ?_
    refine WL.nil ?_
    refine QW.then_n ?_
    refine CW.seq ?_
    refine CW.seq ?_
    refine CW.region ?_
    refine WL.val Wanted.none (Runs.move rfl) ?_
    refine WL.val Wanted.none (Runs.eql_nil Tryd.underlying26 rfl rfl rfl) ?_
    refine WL.nil ?_
    refine QW.then_n ?_
    refine CW.cf rfl rfl ?_
    refine CW.skip ?_
    refine QW.then_n ?_
    refine CW.seq ?_
    refine CW.region ?_
    refine WL.buildSl0 st0 Tryd.underlying26 elem5 ?_
    intro B_3 w_4 st_5
    replace st_5 : St w w_4 [.sl (some ⟨B_3, 0, none⟩) 0 0 (iv .u8 ([] : List Int)) 5 1] := st_5
    refine WL.val Wanted.none (Runs.move rfl) ?_
    obtain ⟨m_7, e_8, H⟩ := H
    obtain ⟨z_9, H⟩ := H
    obtain ⟨n_12, hn_15⟩ : ∃ n_ : Nat, n_ = m_7.length := ⟨_, rfl⟩
    refine WL.append (i := 0) Wanted.none st_5 rfl Tryd.underlying26 elem5 rfl rfl (hs0.ext st_5) (by rw [iv_length]; exact (hn0).symm) (one_iv .u8 _) (by decide) (N := n_12) (by rw [hn_15, e_8, List.length_append]; exact congr (congrArg HAdd.hAdd (rfl)) (hn0)) (by rw [hn_15]; exact z_9) ?_
    intro A_10 c_11 w_13 st_14
    have st_14' : St w w_13 [.sl A_10 c_11 n_12 (iv .u8 m_7) 5 1] := by rw [e_8, ← iv_append .u8 ([] : List Int) l0]; exact st_14
    refine WL.val Wanted.none (Runs.assign rfl) ?_
    refine WL.nil ?_
    refine QW.then_n ?_
    refine CW.sub [(2, .slice A_10 n_12 c_11)] ⟨rfl, trivial⟩ ?_
    refine CW.ret ?_
    obtain rfl := H
    exact QW.ret1 rfl rfl ⟨A_10, c_11, n_12, hn_15, rfl, st_14'.pick [0] (by decide)⟩

/-! ### slices.Chunk: its iterator, function 35 -/
/-- The j-th chunk of M bytes at A, c at a time. -/
def chv (A : Option Addr) (c M j : Nat) : Value := .slice (A.map (·.add (c * j))) (min c (M - c * j)) (min c (M - c * j))
def KpB (B1 B2 : Nat) (W W' : World) : Prop := W'.cell? ⟨B1, 0, none⟩ = W.cell? ⟨B1, 0, none⟩ ∧ W'.cell? ⟨B2, 0, none⟩ = W.cell? ⟨B2, 0, none⟩
theorem KpB.trans {B1 B2 : Nat} {W W' W2 : World} (h : KpB B1 B2 W W') (k : KpB B1 B2 W' W2) : KpB B1 B2 W W2 := ⟨k.1.trans h.1, k.2.trans h.2⟩
theorem KpB.put {B1 B2 : Nat} {w : World} (h1 : B1 < w.heap.size) (h2 : B2 < w.heap.size) (W : World) (j : Nat) (o o' : Obj) (hj : w.heap.size ≤ j) (_ : W.heap[j]? = some o) (_ : o.isCells = false) : KpB B1 B2 W (W.putObj j o') := by
  have hb : ∀ b, b < w.heap.size → (W.putObj j o').cell? ⟨b, 0, none⟩ = W.cell? ⟨b, 0, none⟩ := fun b hb => by
    unfold World.cell?
    rw [World.putObj_heap_other (show (⟨b, 0, none⟩ : Addr).block ≠ j by show b ≠ j; omega)]
  exact ⟨hb _ h1, hb _ h2⟩
theorem chw {x : Int} (h0 : -9223372036854775808 ≤ x) (h1 : x ≤ 9223372036854775807) : IntKind.i64.wrap x = x := by rw [IntKind.wrap_i64]; omega
set_option maxHeartbeats 4000000 in
set_option maxRecDepth 100000 in
theorem chunk_seq {w : World} {B1 B2 M C c q : Nat} {A : Option Addr} (hb1 : w.cell? ⟨B1, 0, none⟩ = some (.slice A M C)) (hb2 : w.cell? ⟨B2, 0, none⟩ = some (.int .i64 (c : Int))) (hMC : M ≤ C) (hc : 1 ≤ c) (hcs : c ≤ 1099511627776) (hMs : M ≤ 1099511627776)
    (hq1 : M ≤ c * q) (hq2 : ∀ j, j < q → c * j < M) :
    SeqStopsK Fence.wide 2 Tryd.prog 35 #[.pointer (some ⟨B1, 0, none⟩), .pointer (some ⟨B2, 0, none⟩)] (fun j : Fin q => #[chv A c M j.val]) (KpB B1 B2) (fun xs => xs = List.finRange q) (fun _ => True) q w := by
  intro y J Jx W hW hJ hJx hY h0
  have c1 : W.cell? ⟨B1, 0, none⟩ = some (.slice A M C) := (hW.cell (p := ⟨B1, 0, none⟩) (block_lt_of_cell hb1)).trans hb1
  have c2 : W.cell? ⟨B2, 0, none⟩ = some (.int .i64 (c : Int)) := (hW.cell (p := ⟨B2, 0, none⟩) (block_lt_of_cell hb2)).trans hb2
  refine callsIn_wide.2 ?_
  refine CW.enter Tryd.func35 rfl (n := 31) rfl [.func (.yield y) #[] #[], .pointer (some ⟨B1, 0, none⟩), .pointer (some ⟨B2, 0, none⟩)] (Nat.le_of_ble_eq_true rfl) ?_
  refine CW.sub [(0, .func (.yield y) #[] #[]), (1, .pointer (some ⟨B1, 0, none⟩)), (2, .pointer (some ⟨B2, 0, none⟩))] ⟨rfl, rfl, rfl, trivial⟩ ?_
  refine CW.seq ?_
  refine CW.region ?_
  refine WL.val Wanted.none (Runs.assign rfl) ?_
  refine WL.nil ?_
  refine QW.then_n ?_
  refine CW.block ?_
  refine CW.sub [(0, .func (.yield y) #[] #[]), (1, .pointer (some ⟨B1, 0, none⟩)), (2, .pointer (some ⟨B2, 0, none⟩)), (4, .int .i64 0)] ⟨rfl, rfl, rfl, rfl, trivial⟩ ?_
  refine CW.loop (fun k l_ w_ => ∃ j : Nat, k + j = q + 1 ∧ j ≤ q ∧ l_ = [(0, .func (.yield y) #[] #[]), (1, .pointer (some ⟨B1, 0, none⟩)), (2, .pointer (some ⟨B2, 0, none⟩)), (4, .int .i64 ((c * j : Nat) : Int))] ∧ J ((List.finRange q).take j) w_ ∧ w_.cell? ⟨B1, 0, none⟩ = some (.slice A M C) ∧ w_.cell? ⟨B2, 0, none⟩ = some (.int .i64 (c : Int)))
    (k := q + 1) ⟨0, by omega, by omega, rfl, h0, c1, c2⟩ (fun _ _ h => by obtain ⟨j, h1, h2, _⟩ := h; omega) ?_
  rintro k l1 w1 ⟨j, hkj, hjq, rfl, hJ1, d1, d2⟩
  refine CW.seq ?_
  refine CW.seq ?_
  refine CW.region ?_
  refine WL.val Wanted.none (Runs.move rfl) ?_
  refine WL.val Wanted.none (Runs.load nagg26 rfl d1) ?_
  refine WL.val Wanted.none (Runs.len_sl Tryd.underlying26 rfl rfl) ?_
  refine WL.val Wanted.none (Runs.lss rfl rfl rfl) ?_
  refine WL.nil ?_
  refine QW.then_n ?_
  by_cases hlt : j < q
  · have hjM := hq2 j hlt
    have hfin : (List.finRange q).take (j + 1) = (List.finRange q).take j ++ [⟨j, hlt⟩] := by
      rw [List.take_add_one]; simp [hlt]
    refine CW.ct rfl (decide_eq_true (by omega)) ?_
    refine CW.skip ?_
    refine QW.then_n ?_
    refine CW.sub [(0, .func (.yield y) #[] #[]), (1, .pointer (some ⟨B1, 0, none⟩)), (2, .pointer (some ⟨B2, 0, none⟩)), (4, .int .i64 ((c * j : Nat) : Int))] ⟨rfl, rfl, rfl, rfl, trivial⟩ ?_
    refine CW.seq ?_
    refine CW.block ?_
    refine CW.seq ?_
    refine CW.region_qC (C := fun W' => J ((List.finRange q).take j) W' ∧ W'.cell? ⟨B1, 0, none⟩ = some (.slice A M C) ∧ W'.cell? ⟨B2, 0, none⟩ = some (.int .i64 (c : Int))) wide (by kernel_rfl) ⟨hJ _ _ _ none hJ1 ⟨rfl, rfl, rfl, Nat.le_refl _, fun _ _ _ => rfl⟩ (fun r e => by cases e), d1, d2⟩ ?_
    refine HL.val Wanted.none (fun W' h' => Runs.load nagg3 rfl h'.2.2) ?_
    refine HL.val Wanted.none (fun W' h' => Runs.load nagg26 rfl h'.2.1) ?_
    refine HL.val Wanted.none (fun W' h' => Runs.move rfl) ?_
    refine HL.val Wanted.none (fun W' h' => Runs.slice_l Tryd.underlying26 cells5 rfl rfl (by omega) (by omega) (B := subA A (c * j) C) rfl (N := M - c * j) rfl (M := C - c * j) rfl) ?_
    refine HL.val Wanted.none (fun W' h' => Runs.len_sl Tryd.underlying26 rfl rfl) ?_
    refine HL.val Wanted.none (fun W' h' => Runs.min2 rfl rfl (z := ((min c (M - c * j) : Nat) : Int)) (by unfold minI; split <;> omega)) ?_
    refine HL.val Wanted.none (fun W' h' => Runs.assign rfl) ?_
    refine HL.nil (fun w2 h2 => ?_)
    obtain ⟨hJ2, f1, f2⟩ := h2
    refine WL.nil ?_
    refine QW.then_n ?_
    refine CW.sub [(0, .func (.yield y) #[] #[]), (1, .pointer (some ⟨B1, 0, none⟩)), (2, .pointer (some ⟨B2, 0, none⟩)), (4, .int .i64 ((c * j : Nat) : Int)), (5, .int .i64 ((min c (M - c * j) : Nat) : Int))] ⟨rfl, rfl, rfl, rfl, rfl, trivial⟩ ?_
    refine CW.seq ?_
    refine CW.region_y 2 ?_
    refine WY.val (Runs.move rfl) rfl ?_
    refine WY.val (Runs.load nagg26 rfl f1) rfl ?_
    refine WY.val (Runs.move rfl) rfl ?_
    refine WY.val (Runs.move rfl) rfl ?_
    refine WY.val (Runs.move rfl) rfl ?_
    refine WY.val (Runs.add rfl rfl (z := ((c * j + min c (M - c * j) : Nat) : Int)) (by rw [chw (by omega) (by omega)]; omega)) rfl ?_
    refine WY.val (Runs.move rfl) rfl ?_
    refine WY.val (Runs.move rfl) rfl ?_
    refine WY.val (Runs.add rfl rfl (z := ((c * j + min c (M - c * j) : Nat) : Int)) (by rw [chw (by omega) (by omega)]; omega)) rfl ?_
    refine WY.val (Runs.slice_3 Tryd.underlying26 cells5 rfl rfl rfl rfl (by omega) (by omega) (by omega) (by omega) (B := A.map (·.add (c * j))) (by rw [if_neg (by omega)]; rfl) (N := min c (M - c * j)) (by omega) (M := min c (M - c * j)) (by omega)) rfl ?_
    refine WY.yield rfl rfl (hY ((List.finRange q).take j) ⟨j, hlt⟩ w2 hJ2 (by simp; omega)) ?_
    rintro e w3 (⟨rfl, hJ3, hk3⟩ | ⟨rfl, hJx3⟩)
    · refine ⟨_, rfl, ?_⟩
      refine WY.val (Runs.not rfl rfl) rfl ?_
      refine WY.nil ?_
      refine QW.then_n ?_
      refine CW.cf rfl rfl ?_
      refine CW.skip ?_
      refine QW.blk_n ?_
      refine QW.then_n ?_
      refine CW.sub [(0, .func (.yield y) #[] #[]), (1, .pointer (some ⟨B1, 0, none⟩)), (2, .pointer (some ⟨B2, 0, none⟩)), (4, .int .i64 ((c * j : Nat) : Int))] ⟨rfl, rfl, rfl, rfl, trivial⟩ ?_
      refine CW.region ?_
      refine WL.val Wanted.none (Runs.move rfl) ?_
      refine WL.val Wanted.none (Runs.load nagg3 rfl (hk3.2.trans f2)) ?_
      refine WL.val Wanted.none (Runs.add rfl rfl (z := ((c * (j + 1) : Nat) : Int)) (by rw [Nat.mul_succ, chw (by omega) (by omega)]; omega)) ?_
      refine WL.val Wanted.none (Runs.assign rfl) ?_
      refine WL.nil ?_
      exact QW.at [(0, .func (.yield y) #[] #[]), (1, .pointer (some ⟨B1, 0, none⟩)), (2, .pointer (some ⟨B2, 0, none⟩)), (4, .int .i64 ((c * (j + 1) : Nat) : Int))] ⟨rfl, rfl, rfl, rfl, trivial⟩ ⟨j + 1, by omega, by omega, rfl, by rw [hfin]; exact hJ3, hk3.1.trans f1, hk3.2.trans f2⟩
    · refine ⟨_, rfl, ?_⟩
      refine WY.val (Runs.not rfl rfl) rfl ?_
      refine WY.nil ?_
      refine QW.then_n ?_
      refine CW.ct rfl rfl ?_
      refine CW.ret ?_
      refine QW.blk_r ?_
      refine QW.then_r ?_
      refine QW.then_r ?_
      refine QW.blk_r ?_
      exact QW.ret0 rfl ⟨⟨_, rfl⟩, .inr ⟨_, trivial, hJx3⟩⟩
  · obtain rfl : j = q := by omega
    refine CW.cf rfl (decide_eq_false (by omega)) ?_
    refine CW.exit ?_
    refine QW.then_x ?_
    refine QW.then_x ?_
    refine QW.blk_x ?_
    exact QW.end0 rfl ⟨⟨_, rfl⟩, .inl ⟨_, rfl, by rw [List.take_of_length_le (by simp)] at hJ1; exact hJ1⟩⟩
theorem slices_Chunk.calls (w : World) (A : Option Addr) (M C c : Nat) (hc : 1 ≤ c) :
    Calls Tryd.prog 28 #[.slice A M C, .int .i64 (c : Int)] w fun e w' => ∃ B1 B2, e = .returned (.func (.func 35) #[] #[.pointer (some ⟨B1, 0, none⟩), .pointer (some ⟨B2, 0, none⟩)]) ∧ St w w' [.cells B2 [.int .i64 (c : Int)] 3, .cells B1 [.slice A M C] 26] := by
  refine CW.enter Tryd.func28 rfl (n := 9) rfl [.slice A M C, .int .i64 (c : Int)] (Nat.le_of_ble_eq_true rfl) ?_
  refine CW.sub [(0, .slice A M C), (1, .int .i64 (c : Int))] ⟨rfl, rfl, trivial⟩ ?_
  have st0 : St w w [] := St.refl w
  refine CW.seq ?_
  refine CW.region ?_
  refine WL.box st0 rfl rfl ?_
  intro B1 w1 st1
  refine WL.box st1 rfl rfl ?_
  intro B2 w2 st2
  refine WL.val Wanted.none (Runs.assign rfl) ?_
  refine WL.nil ?_
  refine QW.then_n ?_
  refine CW.seq ?_
  refine CW.seq ?_
  refine CW.region ?_
  refine WL.val Wanted.none (Runs.load nagg3 rfl (st2.cell (k := 0) rfl rfl)) ?_
  refine WL.val Wanted.none (Runs.lss rfl rfl rfl) ?_
  refine WL.nil ?_
  refine QW.then_n ?_
  refine CW.cf rfl (decide_eq_false (by omega)) ?_
  refine CW.skip ?_
  refine QW.then_n ?_
  refine CW.seq ?_
  refine CW.region ?_
  refine WL.val Wanted.none (Runs.makeFunc (vs := [.pointer (some ⟨B1, 0, none⟩), .pointer (some ⟨B2, 0, none⟩)]) rfl) ?_
  refine WL.val Wanted.none (Runs.assign rfl) ?_
  refine WL.nil ?_
  refine QW.then_n ?_
  refine CW.ret ?_
  exact QW.ret1 rfl rfl ⟨B1, B2, rfl, st2⟩

/-! ### word_inside: function 33 -/
def word_inside.rel (l0 : List Int) (a1 : Int) (a2 : Int) (r0 : Int) : Prop := (∃ (r_5 : Bool), word_size.rel a2 r_5 ∧ ((¬ (r_5 = true) ∧ r0 = 1) ∨ (¬ (¬ (r_5 = true)) ∧ ((a1 < 0 ∧ r0 = 12) ∨ (¬ (a1 < 0) ∧ ((a1 > (l0.length : Int) ∧ r0 = 12) ∨ (¬ (a1 > (l0.length : Int)) ∧ (((IntKind.i64.wrap ((l0.length : Int) - a1)) < a2 ∧ r0 = 12) ∨ (¬ ((IntKind.i64.wrap ((l0.length : Int) - a1)) < a2) ∧ r0 = 0)))))))))
set_option maxHeartbeats 4000000 in
set_option maxRecDepth 100000 in
theorem word_inside.calls (w : World) (l0 : List Int) (a1 : Int) (a2 : Int) (A0 : Option Addr) (n0 : Nat) (c0 : Nat)  (hs0 : Src w A0 (iv .u8 l0)) (hn0 : n0 = l0.length) (hc0 : n0 ≤ c0) (r0 : Int) (H : word_inside.rel l0 a1 a2 r0) :
    Calls Tryd.prog 33 #[.slice A0 n0 c0, .int .i64 a1, .int .i64 a2] w fun e w' => e = .returned (.int .i64 r0) ∧ St w w' [] := by
  refine CW.enter Tryd.func33 rfl (n := 28) rfl [.slice A0 n0 c0, .int .i64 a1, .int .i64 a2] (Nat.le_of_ble_eq_true rfl) ?_
  refine CW.sub [(0, .slice A0 n0 c0), (1, .int .i64 a1), (2, .int .i64 a2)] ⟨rfl, rfl, rfl, trivial⟩ ?_
  have st0 : St w w [] := St.refl w
  refine CW.seq ?_
  refine CW.region ?_
  refine WL.val Wanted.none (Runs.assign rfl) ?_
  refine WL.nil ?_
  refine QW.then_n ?_
  refine CW.seq ?_
  refine CW.block ?_
  refine CW.seq ?_
  refine CW.region ?_
  refine WL.val Wanted.none (Runs.move rfl) ?_
  obtain ⟨r_5, hr_1, H⟩ := H
  refine WL.call Wanted.none ent31 rfl (word_size.calls w a2 r_5 hr_1) ?_
  rintro _ w_2 ⟨rfl, sc_4⟩
  have st_3 : St w w_2 [] := st0.call sc_4
  refine ⟨_, rfl, ?_⟩
  refine WL.val Wanted.none (Runs.not rfl rfl) ?_
  refine WL.val Wanted.none (Runs.assign rfl) ?_
  refine WL.nil ?_
  refine QW.then_n ?_
  rcases H with ⟨c_6, H⟩ | ⟨c_6, H⟩
  · have h_7 : (!r_5) = true := (not_t (Bool.eq_false_iff.mpr c_6))
    refine CW.ct rfl h_7 ?_
    refine CW.seq ?_
    refine CW.region ?_
    refine WL.val Wanted.none (Runs.assign rfl) ?_
    refine WL.nil ?_
    refine QW.then_n ?_
    refine CW.sub [(6, .int .i64 1)] ⟨rfl, trivial⟩ ?_
    refine CW.ret ?_
    refine QW.blk_r ?_
    refine QW.then_r ?_
    obtain rfl := H
    exact QW.ret1 rfl rfl ⟨rfl, st_3.pick [] (by decide)⟩
  · have h_7 : (!r_5) = false := (not_f (Decidable.not_not.mp c_6))
    refine CW.cf rfl h_7 ?_
    refine CW.seq ?_
    refine CW.region ?_
    refine WL.val Wanted.none (Runs.move rfl) ?_
    refine WL.val Wanted.none (Runs.lss rfl rfl rfl) ?_
    refine WL.val Wanted.none (Runs.move rfl) ?_
    rcases H with ⟨c_8, H⟩ | ⟨c_8, H⟩
    · have h_9 : (decide (a1 < 0)) = true := (decide_eq_true c_8)
      refine WL.off ?_ ?_; exact Wanted.guard (dj := 14) (by rfl) (evb (by rfl) h_9) (by rfl)
      refine WL.off ?_ ?_; exact Wanted.guard (dj := 14) (by rfl) (evb (by rfl) h_9) (by rfl)
      refine WL.off ?_ ?_; exact Wanted.guard (dj := 14) (by rfl) (evb (by rfl) h_9) (by rfl)
      refine WL.off ?_ ?_; exact Wanted.guard (dj := 14) (by rfl) (evb (by rfl) h_9) (by rfl)
      refine WL.val Wanted.none (Runs.pick_t (evb rfl h_9) rfl) ?_
      refine WL.val Wanted.none (Runs.move rfl) ?_
      refine WL.off ?_ ?_; exact Wanted.guard (dj := 20) (by rfl) (by rfl) (by rfl)
      refine WL.off ?_ ?_; exact Wanted.guard (dj := 20) (by rfl) (by rfl) (by rfl)
      refine WL.off ?_ ?_; exact Wanted.guard (dj := 20) (by rfl) (by rfl) (by rfl)
      refine WL.off ?_ ?_; exact Wanted.guard (dj := 20) (by rfl) (by rfl) (by rfl)
      refine WL.off ?_ ?_; exact Wanted.guard (dj := 20) (by rfl) (by rfl) (by rfl)
      refine WL.off ?_ ?_; exact Wanted.guard (dj := 20) (by rfl) (by rfl) (by rfl)
      refine WL.val Wanted.none (Runs.pick_t rfl rfl) ?_
      refine WL.val Wanted.none (Runs.assign rfl) ?_
      refine WL.nil ?_
      refine QW.then_n ?_
      refine CW.sub [(6, .int .i64 0), (11, .bool true)] ⟨rfl, rfl, trivial⟩ ?_
      refine CW.ct rfl rfl ?_
      refine CW.seq ?_
      refine CW.region ?_
      refine WL.val Wanted.none (Runs.assign rfl) ?_
      refine WL.nil ?_
      refine QW.then_n ?_
      refine CW.ret ?_
      refine QW.blk_r ?_
      refine QW.then_r ?_
      obtain rfl := H
      exact QW.ret1 rfl rfl ⟨rfl, st_3.pick [] (by decide)⟩
    · have h_9 : (decide (a1 < 0)) = false := (decide_eq_false c_8)
      refine WL.on ?_ ?_; exact Wanted.guard (dj := 14) (by rfl) (evb (by rfl) h_9) (by rfl)
      refine WL.val Wanted.none (Runs.move rfl) ?_
      refine WL.on ?_ ?_; exact Wanted.guard (dj := 14) (by rfl) (evb (by rfl) h_9) (by rfl)
      refine WL.val Wanted.none (Runs.move rfl) ?_
      refine WL.on ?_ ?_; exact Wanted.guard (dj := 14) (by rfl) (evb (by rfl) h_9) (by rfl)
      refine WL.val Wanted.none (Runs.len_sl Tryd.underlying26 rfl (by rw [hn0])) ?_
      refine WL.on ?_ ?_; exact Wanted.guard (dj := 14) (by rfl) (evb (by rfl) h_9) (by rfl)
      refine WL.val Wanted.none (Runs.gtr rfl rfl rfl) ?_
      refine WL.val Wanted.none (Runs.pick_f (evb rfl h_9) rfl) ?_
      refine WL.val Wanted.none (Runs.move rfl) ?_
      rcases H with ⟨c_10, H⟩ | ⟨c_10, H⟩
      · have h_11 : (decide (a1 > (l0.length : Int))) = true := (decide_eq_true c_10)
        refine WL.off ?_ ?_; exact Wanted.guard (dj := 20) (by rfl) (evb (by rfl) h_11) (by rfl)
        refine WL.off ?_ ?_; exact Wanted.guard (dj := 20) (by rfl) (evb (by rfl) h_11) (by rfl)
        refine WL.off ?_ ?_; exact Wanted.guard (dj := 20) (by rfl) (evb (by rfl) h_11) (by rfl)
        refine WL.off ?_ ?_; exact Wanted.guard (dj := 20) (by rfl) (evb (by rfl) h_11) (by rfl)
        refine WL.off ?_ ?_; exact Wanted.guard (dj := 20) (by rfl) (evb (by rfl) h_11) (by rfl)
        refine WL.off ?_ ?_; exact Wanted.guard (dj := 20) (by rfl) (evb (by rfl) h_11) (by rfl)
        refine WL.val Wanted.none (Runs.pick_t (evb rfl h_11) rfl) ?_
        refine WL.val Wanted.none (Runs.assign rfl) ?_
        refine WL.nil ?_
        refine QW.then_n ?_
        refine CW.sub [(6, .int .i64 0), (11, .bool true)] ⟨rfl, rfl, trivial⟩ ?_
        refine CW.ct rfl rfl ?_
        refine CW.seq ?_
        refine CW.region ?_
        refine WL.val Wanted.none (Runs.assign rfl) ?_
        refine WL.nil ?_
        refine QW.then_n ?_
        refine CW.ret ?_
        refine QW.blk_r ?_
        refine QW.then_r ?_
        obtain rfl := H
        exact QW.ret1 rfl rfl ⟨rfl, st_3.pick [] (by decide)⟩
      · have h_11 : (decide (a1 > (l0.length : Int))) = false := (decide_eq_false c_10)
        refine WL.on ?_ ?_; exact Wanted.guard (dj := 20) (by rfl) (evb (by rfl) h_11) (by rfl)
        refine WL.val Wanted.none (Runs.move rfl) ?_
        refine WL.on ?_ ?_; exact Wanted.guard (dj := 20) (by rfl) (evb (by rfl) h_11) (by rfl)
        refine WL.val Wanted.none (Runs.len_sl Tryd.underlying26 rfl (by rw [hn0])) ?_
        refine WL.on ?_ ?_; exact Wanted.guard (dj := 20) (by rfl) (evb (by rfl) h_11) (by rfl)
        refine WL.val Wanted.none (Runs.move rfl) ?_
        refine WL.on ?_ ?_; exact Wanted.guard (dj := 20) (by rfl) (evb (by rfl) h_11) (by rfl)
        refine WL.val Wanted.none (Runs.sub rfl rfl rfl) ?_
        refine WL.on ?_ ?_; exact Wanted.guard (dj := 20) (by rfl) (evb (by rfl) h_11) (by rfl)
        refine WL.val Wanted.none (Runs.move rfl) ?_
        refine WL.on ?_ ?_; exact Wanted.guard (dj := 20) (by rfl) (evb (by rfl) h_11) (by rfl)
        refine WL.val Wanted.none (Runs.lss rfl rfl rfl) ?_
        refine WL.val Wanted.none (Runs.pick_f (evb rfl h_11) rfl) ?_
        refine WL.val Wanted.none (Runs.assign rfl) ?_
        refine WL.nil ?_
        refine QW.then_n ?_
        refine CW.sub [(6, .int .i64 0), (11, .bool (decide ((IntKind.i64.wrap ((l0.length : Int) - a1)) < a2)))] ⟨rfl, rfl, trivial⟩ ?_
        rcases H with ⟨c_12, H⟩ | ⟨c_12, H⟩
        · have h_13 : (decide ((IntKind.i64.wrap ((l0.length : Int) - a1)) < a2)) = true := (decide_eq_true c_12)
          refine CW.ct rfl h_13 ?_
          refine CW.seq ?_
          refine CW.region ?_
          refine WL.val Wanted.none (Runs.assign rfl) ?_
          refine WL.nil ?_
          refine QW.then_n ?_
          refine CW.ret ?_
          refine QW.blk_r ?_
          refine QW.then_r ?_
          obtain rfl := H
          exact QW.ret1 rfl rfl ⟨rfl, st_3.pick [] (by decide)⟩
        · have h_13 : (decide ((IntKind.i64.wrap ((l0.length : Int) - a1)) < a2)) = false := (decide_eq_false c_12)
          refine CW.cf rfl h_13 ?_
          refine CW.skip ?_
          refine QW.blk_n ?_
          refine QW.then_n ?_
          refine CW.seq ?_
          refine CW.region ?_
          refine WL.val Wanted.none (Runs.assign rfl) ?_
          refine WL.nil ?_
          refine QW.then_n ?_
          refine CW.ret ?_
          obtain rfl := H
          exact QW.ret1 rfl rfl ⟨rfl, st_3.pick [] (by decide)⟩

/-! ### word_Get: function 23 -/
def word_Get.L1 (l0 : List Int) (a1 : Int) (a2 : Int) (r0 : Int) (r1 : Int) : Nat → Int → Int → Prop
  | 0, _, _ => False
  | kL1 + 1, x_21, x_22 => ((x_22 < ((prt l0 a1 (IntKind.i64.wrap (a1 + a2))).length : Int) ∧ ((0 ≤ x_22 ∧ x_22 < ((prt l0 a1 (IntKind.i64.wrap (a1 + a2))).length : Int)) ∧ (∃ x_32 : Int, x_32 = IntKind.u64.wrap (gn (prt l0 a1 (IntKind.i64.wrap (a1 + a2))) ((x_22).toNat)) ∧ (0 ≤ (IntKind.u64.wrap (IntKind.i64.wrap (8 * x_22))) ∧ (∃ x_35 : Int, x_35 = shlI .u64 x_32 (IntKind.u64.wrap (IntKind.i64.wrap (8 * x_22))) ∧ word_Get.L1 l0 a1 a2 r0 r1 kL1 (bits .or .u64 x_21 x_35) (IntKind.i64.wrap (x_22 + 1))))))) ∨ (¬ (x_22 < ((prt l0 a1 (IntKind.i64.wrap (a1 + a2))).length : Int)) ∧ r0 = x_21 ∧ r1 = 0))
def word_Get.rel (l0 : List Int) (a1 : Int) (a2 : Int) (r0 : Int) (r1 : Int) : Prop := (∃ (r_5 : Int), word_inside.rel l0 a1 a2 r_5 ∧ ((r_5 ≠ 0 ∧ r0 = 0 ∧ r1 = r_5) ∨ (¬ (r_5 ≠ 0) ∧ ((0 ≤ a1 ∧ a1 ≤ (IntKind.i64.wrap (a1 + a2)) ∧ (IntKind.i64.wrap (a1 + a2)) ≤ (l0.length : Int)) ∧ (∃ k_ : Nat, word_Get.L1 l0 a1 a2 r0 r1 k_ 0 0)))))
set_option maxHeartbeats 4000000 in
set_option maxRecDepth 100000 in
theorem word_Get.calls (w : World) (l0 : List Int) (a1 : Int) (a2 : Int) (A0 : Option Addr) (n0 : Nat) (c0 : Nat)  (hs0 : Src w A0 (iv .u8 l0)) (hn0 : n0 = l0.length) (hc0 : n0 ≤ c0) (r0 : Int) (r1 : Int) (H : word_Get.rel l0 a1 a2 r0 r1) :
    Calls Tryd.prog 23 #[.slice A0 n0 c0, .int .i64 a1, .int .i64 a2] w fun e w' => e = .returned (.tuple #[.int .u64 r0, .int .i64 r1]) ∧ St w w' [] := by
  refine CW.enter Tryd.func23 rfl (n := 41) rfl [.slice A0 n0 c0, .int .i64 a1, .int .i64 a2] (Nat.le_of_ble_eq_true rfl) ?_
  refine CW.sub [(0, .slice A0 n0 c0), (1, .int .i64 a1), (2, .int .i64 a2)] ⟨rfl, rfl, rfl, trivial⟩ ?_
  have st0 : St w w [] := St.refl w
  refine CW.seq ?_
  refine CW.region ?_
  refine WL.val Wanted.none (Runs.assign rfl) ?_
  refine WL.val Wanted.none (Runs.assign rfl) ?_
  refine WL.nil ?_
  refine QW.then_n ?_
  refine CW.seq ?_
  refine CW.seq ?_
  refine CW.region ?_
  refine WL.val Wanted.none (Runs.move rfl) ?_
  refine WL.val Wanted.none (Runs.move rfl) ?_
  refine WL.val Wanted.none (Runs.move rfl) ?_
  obtain ⟨r_5, hr_1, H⟩ := H
  refine WL.call Wanted.none ent33 rfl (word_inside.calls w l0 a1 a2 A0 n0 c0 (hs0.ext st0) (hn0) (hc0) r_5 hr_1) ?_
  rintro _ w_2 ⟨rfl, sc_4⟩
  have st_3 : St w w_2 [] := st0.call sc_4
  refine ⟨_, rfl, ?_⟩
  refine WL.val Wanted.none (Runs.assign rfl) ?_
  refine WL.nil ?_
  refine QW.then_n ?_
  refine CW.seq ?_
  refine CW.region ?_
  refine WL.val Wanted.none (Runs.move rfl) ?_
  refine WL.val Wanted.none (Runs.neq rfl rfl rfl) ?_
  refine WL.nil ?_
  refine QW.then_n ?_
  rcases H with ⟨c_6, H⟩ | ⟨c_6, H⟩
  · have h_7 : (r_5 != 0) = true := (bne_iff_ne.mpr c_6)
    refine CW.ct rfl h_7 ?_
    refine CW.seq ?_
    refine CW.region ?_
    refine WL.val Wanted.none (Runs.move rfl) ?_
    refine WL.val Wanted.none (Runs.assign rfl) ?_
    refine WL.val Wanted.none (Runs.assign rfl) ?_
    refine WL.nil ?_
    refine QW.then_n ?_
    refine CW.sub [(0, .slice A0 n0 c0), (1, .int .i64 a1), (2, .int .i64 a2), (6, .int .u64 0), (7, .int .i64 r_5)] ⟨rfl, rfl, rfl, rfl, rfl, trivial⟩ ?_
    refine CW.ret ?_
    refine QW.then_r ?_
    obtain ⟨rfl, rfl⟩ := H
    exact QW.ret2 rfl rfl rfl ⟨rfl, st_3.pick [] (by decide)⟩
  · have h_7 : (r_5 != 0) = false := (bne_eq_false_iff_eq.mpr (Decidable.not_not.mp c_6))
    refine CW.cf rfl h_7 ?_
    refine CW.skip ?_
    refine QW.then_n ?_
    refine CW.sub [(0, .slice A0 n0 c0), (1, .int .i64 a1), (2, .int .i64 a2), (6, .int .u64 0), (7, .int .i64 0)] ⟨rfl, rfl, rfl, rfl, rfl, trivial⟩ ?_
    refine CW.seq ?_
    refine CW.region ?_
    refine WL.val Wanted.none (Runs.assign rfl) ?_
    refine WL.nil ?_
    refine QW.then_n ?_
    refine CW.seq ?_
    refine CW.seq ?_
    refine CW.region ?_
    refine WL.val Wanted.none (Runs.move rfl) ?_
    refine WL.val Wanted.none (Runs.move rfl) ?_
    refine WL.val Wanted.none (Runs.move rfl) ?_
    refine WL.val Wanted.none (Runs.move rfl) ?_
    refine WL.val Wanted.none (Runs.add rfl rfl rfl) ?_
    obtain ⟨⟨p_8, q_9, r_10⟩, H⟩ := H
    have h_17 : n0 ≤ c0 := hc0
    have h_18 : (IntKind.i64.wrap (a1 + a2)) ≤ (c0 : Int) := by have := hn0; omega
    obtain ⟨A_11, e_14⟩ : ∃ B_, B_ = subA A0 (a1).toNat c0 := ⟨_, rfl⟩
    obtain ⟨n_13, e_16⟩ : ∃ n_ : Nat, n_ = (prt l0 a1 (IntKind.i64.wrap (a1 + a2))).length := ⟨_, rfl⟩
    obtain ⟨c_12, e_15⟩ : ∃ c_ : Nat, c_ = c0 - (a1).toNat := ⟨_, rfl⟩
    have h_19 : n_13 ≤ c_12 := by rw [e_16, prt_length p_8 q_9 r_10]; rw [e_15]; omega
    refine WL.val Wanted.none (Runs.slice_lh Tryd.underlying26 cells5 rfl rfl rfl p_8 q_9 h_18 e_14 (N := n_13) (by rw [e_16, prt_length p_8 q_9 r_10]) e_15) ?_
    refine WL.val Wanted.none (Runs.len_sl Tryd.underlying26 rfl (by rw [e_16])) ?_
    refine WL.val Wanted.none (Runs.move rfl) ?_
    refine WL.nil ?_
    refine QW.then_n ?_
    refine CW.sub [(6, .int .u64 0), (7, .int .i64 0), (9, .int .u64 0), (24, .slice A_11 n_13 c_12), (25, .int .i64 ((prt l0 a1 (IntKind.i64.wrap (a1 + a2))).length : Int)), (26, .int .i64 0)] ⟨rfl, rfl, rfl, rfl, rfl, rfl, trivial⟩ ?_
    refine CW.block ?_
    obtain ⟨k_20, H⟩ := H
    refine CW.sub [(6, .int .u64 0), (7, .int .i64 0), (9, .int .u64 0), (24, .slice A_11 n_13 c_12), (25, .int .i64 ((prt l0 a1 (IntKind.i64.wrap (a1 + a2))).length : Int)), (26, .int .i64 0)] ⟨rfl, rfl, rfl, rfl, rfl, rfl, trivial⟩ ?_
    refine CW.loop (fun kL1 l_ w_ => ∃ (x_21 : Int) (x_22 : Int), l_ = [(6, .int .u64 0), (7, .int .i64 0), (9, .int .u64 x_21), (24, .slice A_11 n_13 c_12), (25, .int .i64 ((prt l0 a1 (IntKind.i64.wrap (a1 + a2))).length : Int)), (26, .int .i64 x_22)] ∧ word_Get.L1 l0 a1 a2 r0 r1 kL1 x_21 x_22 ∧ St w w_ []) (k := k_20) ⟨0, 0, rfl, H, st_3⟩ (fun _ _ h => by obtain ⟨_, _, _, h, _⟩ := h; exact h.elim) ?_
    rintro kL1 l_25 w_23 ⟨x_21, x_22, rfl, H, st_24⟩
    refine CW.seq ?_
    refine CW.region ?_
    refine WL.val Wanted.none (Runs.lss rfl rfl rfl) ?_
    refine WL.nil ?_
    refine QW.then_n ?_
    refine CW.seq ?_
    rcases H with ⟨c_26, H⟩ | ⟨c_26, H⟩
    · have h_27 : (decide (x_22 < ((prt l0 a1 (IntKind.i64.wrap (a1 + a2))).length : Int))) = true := (decide_eq_true c_26)
      refine CW.ct rfl h_27 ?_
      refine CW.skip ?_
      refine QW.then_n ?_
      refine CW.seq ?_
      refine CW.block ?_
      refine CW.seq ?_
      refine CW.region ?_
      refine WL.val Wanted.none (Runs.move rfl) ?_
      obtain ⟨⟨p_28, q_29⟩, H⟩ := H
      obtain ⟨a_30, e_31⟩ := ((hs0.ext st_24).sub_iv p_8 q_9 h_18 e_14).addr_iv ((x_22).toNat) (by omega)
      refine WL.val Wanted.none (Runs.indexAddr Tryd.underlying26 cells5 (by decide) rfl e_31 rfl p_28 (by rw [e_16]; exact q_29) (o := (x_22).toNat) (by first | rfl | omega)) ?_
      refine WL.val Wanted.none (Runs.load nagg5 rfl (((hs0.ext st_24).sub_iv p_8 q_9 h_18 e_14).cell_iv e_31 (by omega))) ?_
      refine WL.val Wanted.none (Runs.assign rfl) ?_
      refine WL.val Wanted.none (Runs.assign rfl) ?_
      refine WL.nil ?_
      refine QW.then_n ?_
      refine CW.region ?_
      refine WL.val Wanted.none (Runs.move rfl) ?_
      refine WL.val Wanted.none (Runs.move rfl) ?_
      obtain ⟨x_32, e_33, H⟩ := H
      refine WL.val Wanted.none (Runs.conv Tryd.underlying25 ⟨_, Tryd.underlying5⟩ rfl e_33) ?_
      refine WL.val Wanted.none (Runs.move rfl) ?_
      refine WL.val Wanted.none (Runs.mul rfl rfl rfl) ?_
      refine WL.val Wanted.none (Runs.conv Tryd.underlying63 ⟨_, Tryd.underlying3⟩ rfl rfl) ?_
      obtain ⟨z_34, H⟩ := H
      obtain ⟨x_35, e_36, H⟩ := H
      refine WL.val Wanted.none (Runs.shl rfl rfl z_34 e_36) ?_
      refine WL.val Wanted.none (Runs.bor rfl rfl rfl) ?_
      refine WL.val Wanted.none (Runs.assign rfl) ?_
      refine WL.nil ?_
      refine QW.blk_n ?_
      refine QW.then_n ?_
      refine CW.region ?_
      refine WL.val Wanted.none (Runs.add rfl rfl rfl) ?_
      refine WL.val Wanted.none (Runs.move rfl) ?_
      refine WL.nil ?_
      exact QW.at [(6, .int .u64 0), (7, .int .i64 0), (9, .int .u64 (bits .or .u64 x_21 x_35)), (24, .slice A_11 n_13 c_12), (25, .int .i64 ((prt l0 a1 (IntKind.i64.wrap (a1 + a2))).length : Int)), (26, .int .i64 (IntKind.i64.wrap (x_22 + 1)))] ⟨rfl, rfl, rfl, rfl, rfl, rfl, trivial⟩ ⟨bits .or .u64 x_21 x_35, IntKind.i64.wrap (x_22 + 1), rfl, H, st_24⟩
    · have h_27 : (decide (x_22 < ((prt l0 a1 (IntKind.i64.wrap (a1 + a2))).length : Int))) = false := (decide_eq_false c_26)
      refine CW.cf rfl h_27 ?_
      refine CW.exit ?_
      refine QW.then_x ?_
      refine QW.then_x ?_
      refine QW.blk_x ?_
      refine QW.then_n ?_
      refine CW.seq ?_
      refine CW.region ?_
      refine WL.val Wanted.none (Runs.move rfl) ?_
      refine WL.val Wanted.none (Runs.assign rfl) ?_
      refine WL.val Wanted.none (Runs.assign rfl) ?_
      refine WL.nil ?_
      refine QW.then_n ?_
      refine CW.sub [(6, .int .u64 x_21), (7, .int .i64 0)] ⟨rfl, rfl, trivial⟩ ?_
      refine CW.ret ?_
      obtain ⟨rfl, rfl⟩ := H
      exact QW.ret2 rfl rfl rfl ⟨rfl, st_24.pick [] (by decide)⟩

/-! ### cipher_at: function 41 -/
def cipher_at.rel (l0 : List Int) (a1 : Int) (r0 : Int) : Prop := (∃ (r_5 : Int) (r_6 : Int), word_Get.rel l0 (IntKind.i64.wrap (4 * a1)) 4 r_5 r_6 ∧ r0 = IntKind.u32.wrap r_5)
set_option maxHeartbeats 4000000 in
set_option maxRecDepth 100000 in
theorem cipher_at.calls (w : World) (l0 : List Int) (a1 : Int) (A0 : Option Addr) (n0 : Nat) (c0 : Nat)  (hs0 : Src w A0 (iv .u8 l0)) (hn0 : n0 = l0.length) (hc0 : n0 ≤ c0) (r0 : Int) (H : cipher_at.rel l0 a1 r0) :
    Calls Tryd.prog 41 #[.slice A0 n0 c0, .int .i64 a1] w fun e w' => e = .returned (.int .u32 r0) ∧ St w w' [] := by
  refine CW.enter Tryd.func41 rfl (n := 16) rfl [.slice A0 n0 c0, .int .i64 a1] (Nat.le_of_ble_eq_true rfl) ?_
  refine CW.sub [(0, .slice A0 n0 c0), (1, .int .i64 a1)] ⟨rfl, rfl, trivial⟩ ?_
  have st0 : St w w [] := St.refl w
  refine CW.seq ?_
  refine CW.region ?_
  refine WL.val Wanted.none (Runs.assign rfl) ?_
  refine WL.nil ?_
  refine QW.then_n ?_
  refine CW.seq ?_
  refine CW.region ?_
  refine WL.val Wanted.none (Runs.move rfl) ?_
  refine WL.val Wanted.none (Runs.move rfl) ?_
  refine WL.val Wanted.none (Runs.mul rfl rfl rfl) ?_
  obtain ⟨r_5, r_6, hr_1, H⟩ := H
  refine WL.call Wanted.none ent23 rfl (word_Get.calls w l0 (IntKind.i64.wrap (4 * a1)) 4 A0 n0 c0 (hs0.ext st0) (hn0) (hc0) r_5 r_6 hr_1) ?_
  rintro _ w_2 ⟨rfl, sc_4⟩
  have st_3 : St w w_2 [] := st0.call sc_4
  refine ⟨_, rfl, ?_⟩
  refine WL.val Wanted.none (Runs.move rfl) ?_
  refine WL.val Wanted.none (Runs.extract rfl rfl) ?_
  refine WL.val Wanted.none (Runs.extract rfl rfl) ?_
  refine WL.val Wanted.none (Runs.assign rfl) ?_
  refine WL.val Wanted.none (Runs.assign rfl) ?_
  refine WL.nil ?_
  refine QW.then_n ?_
  refine CW.sub [(4, .int .u32 0), (5, .int .u64 r_5)] ⟨rfl, rfl, trivial⟩ ?_
  refine CW.seq ?_
  refine CW.region ?_
  refine WL.val Wanted.none (Runs.move rfl) ?_
  refine WL.val Wanted.none (Runs.conv Tryd.underlying24 ⟨_, Tryd.underlying25⟩ rfl rfl) ?_
  refine WL.val Wanted.none (Runs.assign rfl) ?_
  refine WL.nil ?_
  refine QW.then_n ?_
  refine CW.ret ?_
  obtain rfl := H
  exact QW.ret1 rfl rfl ⟨rfl, st_3.pick [] (by decide)⟩

/-! ### cipher_words: function 36 -/
def cipher_words.L2 (l2 : List Int) (r0 : List Int) : Nat → (List Int) → Int → Prop
  | 0, _, _ => False
  | kL2 + 1, m_49, x_51 => ((x_51 < 3 ∧ (∃ (r_61 : Int), cipher_at.rel l2 x_51 r_61 ∧ ((0 ≤ (IntKind.i64.wrap (13 + x_51)) ∧ (IntKind.i64.wrap (13 + x_51)) < (16 : Int)) ∧ (∃ m_64 : List Int, m_64 = List.set m_49 ((IntKind.i64.wrap (13 + x_51)).toNat) r_61 ∧ cipher_words.L2 l2 r0 kL2 m_64 (IntKind.i64.wrap (x_51 + 1)))))) ∨ (¬ (x_51 < 3) ∧ r0 = m_49))
def cipher_words.L1 (l0 : List Int) (a1 : Int) (l2 : List Int) (r0 : List Int) : Nat → (List Int) → Int → Prop
  | 0, _, _ => False
  | kL1 + 1, m_23, x_25 => ((x_25 < 8 ∧ (∃ (r_35 : Int), cipher_at.rel l0 x_25 r_35 ∧ ((0 ≤ (IntKind.i64.wrap (4 + x_25)) ∧ (IntKind.i64.wrap (4 + x_25)) < (16 : Int)) ∧ (∃ m_38 : List Int, m_38 = List.set m_23 ((IntKind.i64.wrap (4 + x_25)).toNat) r_35 ∧ cipher_words.L1 l0 a1 l2 r0 kL1 m_38 (IntKind.i64.wrap (x_25 + 1)))))) ∨ (¬ (x_25 < 8) ∧ (∃ m_43 : List Int, m_43 = List.set m_23 12 a1 ∧ (∃ k_ : Nat, cipher_words.L2 l2 r0 k_ m_43 0))))
def cipher_words.rel (l0 : List Int) (a1 : Int) (l2 : List Int) (r0 : List Int) : Prop := (∃ m_13 : List Int, m_13 = [1634760805, 857760878, 2036477234, 1797285236, 0, 0, 0, 0, 0, 0, 0, 0, 0, 0, 0, 0] ∧ (∃ k_ : Nat, cipher_words.L1 l0 a1 l2 r0 k_ m_13 0))
set_option maxHeartbeats 4000000 in
set_option maxRecDepth 100000 in
theorem cipher_words.calls (w : World) (l0 : List Int) (a1 : Int) (l2 : List Int)   (hl0 : l0.length = 32) (hl2 : l2.length = 12) (r0 : List Int) (H : cipher_words.rel l0 a1 l2 r0) :
    Calls Tryd.prog 36 #[.agg (iv .u8 l0).toArray, .int .u32 a1, .agg (iv .u8 l2).toArray] w fun e w' => r0.length = 16 ∧ e = .returned (.agg (iv .u32 r0).toArray) ∧ St w w' [] := by
  refine CW.enter Tryd.func36 rfl (n := 34) rfl [.agg (iv .u8 l0).toArray, .int .u32 a1, .agg (iv .u8 l2).toArray] (Nat.le_of_ble_eq_true rfl) ?_
  refine CW.sub [(0, .agg (iv .u8 l0).toArray), (1, .int .u32 a1), (2, .agg (iv .u8 l2).toArray)] ⟨rfl, rfl, rfl, trivial⟩ ?_
  have st0 : St w w [] := St.refl w
  refine CW.seq ?_
  refine CW.region ?_
  refine WL.box st0 rfl rfl ?_
  intro B_1 w_2 st_3
  replace st_3 : St w w_2 [.cells B_1 (iv .u8 l0) 23] := st_3
  refine WL.box st_3 rfl rfl ?_
  intro B_5 w_6 st_7
  replace st_7 : St w w_6 [.cells B_5 (iv .u8 l2) 47, .cells B_1 (iv .u8 l0) 23] := st_7
  refine WL.alloc st_7 arr67.zero ?_
  intro B_9 w_10 st_11
  replace st_11 : St w w_10 [.cells B_9 (iv .u32 (List.replicate 16 (0 : Int))) 67, .cells B_5 (iv .u8 l2) 47, .cells B_1 (iv .u8 l0) 23] := st_11
  refine WL.nil ?_
  refine QW.then_n ?_
  refine CW.seq ?_
  refine CW.region ?_
  obtain ⟨m_13, e_14, H⟩ := H
  refine WL.val Wanted.none (Runs.build_arr (xs := m_13) arr67 rfl rfl (by rw [e_14]; rfl)) ?_
  refine WL.alloc st_11 arr67.zero ?_
  intro B_15 w_16 st_17
  replace st_17 : St w w_16 [.cells B_15 (iv .u32 (List.replicate 16 (0 : Int))) 67, .cells B_9 (iv .u32 (List.replicate 16 (0 : Int))) 67, .cells B_5 (iv .u8 l2) 47, .cells B_1 (iv .u8 l0) 23] := st_17
  refine WL.store_arr (i := 0) st_17 rfl arr67 rfl (by rw [iv_length]; exact (List.length_replicate ..)) (by rw [e_14]; rfl) rfl ?_
  intro w_19 st_20
  replace st_20 : St w w_19 [.cells B_15 (iv .u32 m_13) 67, .cells B_9 (iv .u32 (List.replicate 16 (0 : Int))) 67, .cells B_5 (iv .u8 l2) 47, .cells B_1 (iv .u8 l0) 23] := st_20
  refine WL.nil ?_
  refine QW.then_n ?_
  refine CW.seq ?_
  refine CW.seq ?_
  refine CW.region ?_
  refine WL.val Wanted.none (Runs.move rfl) ?_
  refine WL.nil ?_
  refine QW.then_n ?_
  refine CW.block ?_
  obtain ⟨k_22, H⟩ := H
  refine CW.sub [(1, .int .u32 a1), (3, .pointer (some ⟨B_1, 0, none⟩)), (5, .pointer (some ⟨B_5, 0, none⟩)), (6, .pointer (some ⟨B_9, 0, none⟩)), (7, .pointer (some ⟨B_15, 0, none⟩)), (11, .int .i64 0)] ⟨rfl, rfl, rfl, rfl, rfl, rfl, trivial⟩ ?_
  refine CW.loop (fun kL1 l_ w_ => ∃ (m_23 : List Int) (x_25 : Int), l_ = [(1, .int .u32 a1), (3, .pointer (some ⟨B_1, 0, none⟩)), (5, .pointer (some ⟨B_5, 0, none⟩)), (6, .pointer (some ⟨B_9, 0, none⟩)), (7, .pointer (some ⟨B_15, 0, none⟩)), (11, .int .i64 x_25)] ∧ cipher_words.L1 l0 a1 l2 r0 kL1 m_23 x_25 ∧ (m_23.length = 16) ∧ St w w_ [.cells B_15 (iv .u32 m_23) 67, .cells B_9 (iv .u32 (List.replicate 16 (0 : Int))) 67, .cells B_5 (iv .u8 l2) 47, .cells B_1 (iv .u8 l0) 23]) (k := k_22) ⟨m_13, 0, rfl, H, (by rw [e_14]; rfl), st_20⟩ (fun _ _ h => by obtain ⟨_, _, _, h, _⟩ := h; exact h.elim) ?_
  rintro kL1 l_28 w_26 ⟨m_23, x_25, rfl, H, hl_24, st_27⟩
  refine CW.seq ?_
  refine CW.region ?_
  refine WL.val Wanted.none (Runs.lss rfl rfl rfl) ?_
  refine WL.nil ?_
  refine QW.then_n ?_
  refine CW.seq ?_
  rcases H with ⟨c_29, H⟩ | ⟨c_29, H⟩
  · have h_30 : (decide (x_25 < 8)) = true := (decide_eq_true c_29)
    refine CW.ct rfl h_30 ?_
    refine CW.skip ?_
    refine QW.then_n ?_
    refine CW.seq ?_
    refine CW.block ?_
    refine CW.seq ?_
    refine CW.region ?_
    refine WL.val Wanted.none (Runs.move rfl) ?_
    refine WL.val Wanted.none (Runs.assign rfl) ?_
    refine WL.nil ?_
    refine QW.then_n ?_
    refine CW.region ?_
    refine WL.val Wanted.none (Runs.move rfl) ?_
    refine WL.val Wanted.none (Runs.add rfl rfl rfl) ?_
    refine WL.val Wanted.none (Runs.slice_arr arr23 rfl (by decide)) ?_
    refine WL.val Wanted.none (Runs.move rfl) ?_
    obtain ⟨r_35, hr_31, H⟩ := H
    refine WL.call Wanted.none ent41 rfl (cipher_at.calls w_26 l0 x_25 (some ⟨B_1, 0, none⟩) 32 32 (st_27.src_blk (i := 3) rfl) ((hl0).symm) (Nat.le_refl _) r_35 hr_31) ?_
    rintro _ w_32 ⟨rfl, sc_34⟩
    have st_33 : St w w_32 [.cells B_15 (iv .u32 m_23) 67, .cells B_9 (iv .u32 (List.replicate 16 (0 : Int))) 67, .cells B_5 (iv .u8 l2) 47, .cells B_1 (iv .u8 l0) 23] := st_27.call sc_34
    refine ⟨_, rfl, ?_⟩
    obtain ⟨⟨p_36, q_37⟩, H⟩ := H
    refine WL.val Wanted.none (Runs.indexAddr_blk arr67 rfl rfl p_36 q_37 (o := (IntKind.i64.wrap (4 + x_25)).toNat) (by first | rfl | omega)) ?_
    obtain ⟨m_38, e_39, H⟩ := H
    have hl_42 : m_38.length = 16 := by rw [e_39, List.length_set]; exact hl_24
    refine WL.store_cells (i := 0) st_33 rfl cells24 rfl (by rw [iv_length]; have := hl_24; omega) rfl rfl ?_
    intro w_40 st_41
    have st_41' : St w w_40 [.cells B_15 (iv .u32 m_38) 67, .cells B_9 (iv .u32 (List.replicate 16 (0 : Int))) 67, .cells B_5 (iv .u8 l2) 47, .cells B_1 (iv .u8 l0) 23] := by rw [e_39, ← iv_set .u32 m_23 ((IntKind.i64.wrap (4 + x_25)).toNat) r_35]; exact st_41
    refine WL.nil ?_
    refine QW.blk_n ?_
    refine QW.then_n ?_
    refine CW.region ?_
    refine WL.val Wanted.none (Runs.add rfl rfl rfl) ?_
    refine WL.val Wanted.none (Runs.move rfl) ?_
    refine WL.nil ?_
    exact QW.at [(1, .int .u32 a1), (3, .pointer (some ⟨B_1, 0, none⟩)), (5, .pointer (some ⟨B_5, 0, none⟩)), (6, .pointer (some ⟨B_9, 0, none⟩)), (7, .pointer (some ⟨B_15, 0, none⟩)), (11, .int .i64 (IntKind.i64.wrap (x_25 + 1)))] ⟨rfl, rfl, rfl, rfl, rfl, rfl, trivial⟩ ⟨m_38, IntKind.i64.wrap (x_25 + 1), rfl, H, hl_42, st_41'⟩
  · have h_30 : (decide (x_25 < 8)) = false := (decide_eq_false c_29)
    refine CW.cf rfl h_30 ?_
    refine CW.exit ?_
    refine QW.then_x ?_
    refine QW.then_x ?_
    refine QW.blk_x ?_
    refine QW.then_n ?_
    refine CW.seq ?_
    refine CW.region ?_
    refine WL.val Wanted.none (Runs.move rfl) ?_
    refine WL.val Wanted.none (Runs.indexAddr_blk arr67 rfl rfl (by decide) (by decide) (o := 12) (by first | rfl | omega)) ?_
    obtain ⟨m_43, e_44, H⟩ := H
    have hl_47 : m_43.length = 16 := by rw [e_44, List.length_set]; exact hl_24
    refine WL.store_cells (i := 0) st_27 rfl cells24 rfl (by rw [iv_length]; have := hl_24; omega) rfl rfl ?_
    intro w_45 st_46
    have st_46' : St w w_45 [.cells B_15 (iv .u32 m_43) 67, .cells B_9 (iv .u32 (List.replicate 16 (0 : Int))) 67, .cells B_5 (iv .u8 l2) 47, .cells B_1 (iv .u8 l0) 23] := by rw [e_44, ← iv_set .u32 m_23 12 a1]; exact st_46
    refine WL.nil ?_
    refine QW.then_n ?_
    refine CW.sub [(5, .pointer (some ⟨B_5, 0, none⟩)), (6, .pointer (some ⟨B_9, 0, none⟩)), (7, .pointer (some ⟨B_15, 0, none⟩))] ⟨rfl, rfl, rfl, trivial⟩ ?_
    refine CW.seq ?_
    refine CW.seq ?_
    refine CW.region ?_
    refine WL.val Wanted.none (Runs.move rfl) ?_
    refine WL.nil ?_
    refine QW.then_n ?_
    refine CW.block ?_
    obtain ⟨k_48, H⟩ := H
    refine CW.sub [(5, .pointer (some ⟨B_5, 0, none⟩)), (6, .pointer (some ⟨B_9, 0, none⟩)), (7, .pointer (some ⟨B_15, 0, none⟩)), (23, .int .i64 0)] ⟨rfl, rfl, rfl, rfl, trivial⟩ ?_
    refine CW.loop (fun kL2 l_ w_ => ∃ (m_49 : List Int) (x_51 : Int), l_ = [(5, .pointer (some ⟨B_5, 0, none⟩)), (6, .pointer (some ⟨B_9, 0, none⟩)), (7, .pointer (some ⟨B_15, 0, none⟩)), (23, .int .i64 x_51)] ∧ cipher_words.L2 l2 r0 kL2 m_49 x_51 ∧ (m_49.length = 16) ∧ St w w_ [.cells B_15 (iv .u32 m_49) 67, .cells B_9 (iv .u32 (List.replicate 16 (0 : Int))) 67, .cells B_5 (iv .u8 l2) 47, .cells B_1 (iv .u8 l0) 23]) (k := k_48) ⟨m_43, 0, rfl, H, hl_47, st_46'⟩ (fun _ _ h => by obtain ⟨_, _, _, h, _⟩ := h; exact h.elim) ?_
    rintro kL2 l_54 w_52 ⟨m_49, x_51, rfl, H, hl_50, st_53⟩
    refine CW.seq ?_
    refine CW.region ?_
    refine WL.val Wanted.none (Runs.lss rfl rfl rfl) ?_
    refine WL.nil ?_
    refine QW.then_n ?_
    refine CW.seq ?_
    rcases H with ⟨c_55, H⟩ | ⟨c_55, H⟩
    · have h_56 : (decide (x_51 < 3)) = true := (decide_eq_true c_55)
      refine CW.ct rfl h_56 ?_
      refine CW.skip ?_
      refine QW.then_n ?_
      refine CW.seq ?_
      refine CW.block ?_
      refine CW.seq ?_
      refine CW.region ?_
      refine WL.val Wanted.none (Runs.move rfl) ?_
      refine WL.val Wanted.none (Runs.assign rfl) ?_
      refine WL.nil ?_
      refine QW.then_n ?_
      refine CW.region ?_
      refine WL.val Wanted.none (Runs.move rfl) ?_
      refine WL.val Wanted.none (Runs.add rfl rfl rfl) ?_
      refine WL.val Wanted.none (Runs.slice_arr arr47 rfl (by decide)) ?_
      refine WL.val Wanted.none (Runs.move rfl) ?_
      obtain ⟨r_61, hr_57, H⟩ := H
      refine WL.call Wanted.none ent41 rfl (cipher_at.calls w_52 l2 x_51 (some ⟨B_5, 0, none⟩) 12 12 (st_53.src_blk (i := 2) rfl) ((hl2).symm) (Nat.le_refl _) r_61 hr_57) ?_
      rintro _ w_58 ⟨rfl, sc_60⟩
      have st_59 : St w w_58 [.cells B_15 (iv .u32 m_49) 67, .cells B_9 (iv .u32 (List.replicate 16 (0 : Int))) 67, .cells B_5 (iv .u8 l2) 47, .cells B_1 (iv .u8 l0) 23] := st_53.call sc_60
      refine ⟨_, rfl, ?_⟩
      obtain ⟨⟨p_62, q_63⟩, H⟩ := H
      refine WL.val Wanted.none (Runs.indexAddr_blk arr67 rfl rfl p_62 q_63 (o := (IntKind.i64.wrap (13 + x_51)).toNat) (by first | rfl | omega)) ?_
      obtain ⟨m_64, e_65, H⟩ := H
      have hl_68 : m_64.length = 16 := by rw [e_65, List.length_set]; exact hl_50
      refine WL.store_cells (i := 0) st_59 rfl cells24 rfl (by rw [iv_length]; have := hl_50; omega) rfl rfl ?_
      intro w_66 st_67
      have st_67' : St w w_66 [.cells B_15 (iv .u32 m_64) 67, .cells B_9 (iv .u32 (List.replicate 16 (0 : Int))) 67, .cells B_5 (iv .u8 l2) 47, .cells B_1 (iv .u8 l0) 23] := by rw [e_65, ← iv_set .u32 m_49 ((IntKind.i64.wrap (13 + x_51)).toNat) r_61]; exact st_67
      refine WL.nil ?_
      refine QW.blk_n ?_
      refine QW.then_n ?_
      refine CW.region ?_
      refine WL.val Wanted.none (Runs.add rfl rfl rfl) ?_
      refine WL.val Wanted.none (Runs.move rfl) ?_
      refine WL.nil ?_
      exact QW.at [(5, .pointer (some ⟨B_5, 0, none⟩)), (6, .pointer (some ⟨B_9, 0, none⟩)), (7, .pointer (some ⟨B_15, 0, none⟩)), (23, .int .i64 (IntKind.i64.wrap (x_51 + 1)))] ⟨rfl, rfl, rfl, rfl, trivial⟩ ⟨m_64, IntKind.i64.wrap (x_51 + 1), rfl, H, hl_68, st_67'⟩
    · have h_56 : (decide (x_51 < 3)) = false := (decide_eq_false c_55)
      refine CW.cf rfl h_56 ?_
      refine CW.exit ?_
      refine QW.then_x ?_
      refine QW.then_x ?_
      refine QW.blk_x ?_
      refine QW.then_n ?_
      refine CW.seq ?_
      refine CW.region ?_
      refine WL.val Wanted.none (Runs.load_arr arr67 rfl (st_53.blk (i := 0) rfl) hl_50) ?_
      refine WL.store_arr (i := 1) st_53 rfl arr67 rfl (by rw [iv_length]; exact (List.length_replicate ..)) hl_50 rfl ?_
      intro w_69 st_70
      replace st_70 : St w w_69 [.cells B_15 (iv .u32 m_49) 67, .cells B_9 (iv .u32 m_49) 67, .cells B_5 (iv .u8 l2) 47, .cells B_1 (iv .u8 l0) 23] := st_70
      refine WL.nil ?_
      refine QW.then_n ?_
      refine CW.ret ?_
      obtain rfl := H
      exact QW.retc rfl arr67 rfl (st_70.blk (i := 1) rfl) hl_50 ⟨hl_50, rfl, st_70.pick [] (by decide)⟩

/-! ### bits_RotateLeft32: function 38 -/
def bits_RotateLeft32.rel (a0 : Int) (a1 : Int) (r0 : Int) : Prop := (0 ≤ (bits .and .u64 (IntKind.u64.wrap a1) 31) ∧ (∃ x_2 : Int, x_2 = IntKind.u64.wrap (32 - (bits .and .u64 (IntKind.u64.wrap a1) 31)) ∧ (0 ≤ x_2 ∧ (∃ x_5 : Int, x_5 = bits .or .u32 (shlI .u32 a0 (bits .and .u64 (IntKind.u64.wrap a1) 31)) (shrI .u32 a0 x_2) ∧ r0 = x_5))))
set_option maxHeartbeats 4000000 in
set_option maxRecDepth 100000 in
theorem bits_RotateLeft32.calls (w : World) (a0 : Int) (a1 : Int)    (r0 : Int) (H : bits_RotateLeft32.rel a0 a1 r0) :
    Calls Tryd.prog 38 #[.int .u32 a0, .int .i64 a1] w fun e w' => e = .returned (.int .u32 r0) ∧ St w w' [] := by
  refine CW.enter Tryd.func38 rfl (n := 17) rfl [.int .u32 a0, .int .i64 a1] (Nat.le_of_ble_eq_true rfl) ?_
  refine CW.sub [(0, .int .u32 a0), (1, .int .i64 a1)] ⟨rfl, rfl, trivial⟩ ?_
  have st0 : St w w [] := St.refl w
  refine CW.seq ?_
  refine CW.region ?_
  refine WL.val Wanted.none (Runs.assign rfl) ?_
  refine WL.nil ?_
  refine QW.then_n ?_
  refine CW.seq ?_
  refine CW.region ?_
  refine WL.val Wanted.none (Runs.move rfl) ?_
  refine WL.val Wanted.none (Runs.conv Tryd.underlying63 ⟨_, Tryd.underlying3⟩ rfl rfl) ?_
  refine WL.val Wanted.none (Runs.band rfl rfl rfl) ?_
  refine WL.val Wanted.none (Runs.assign rfl) ?_
  refine WL.nil ?_
  refine QW.then_n ?_
  refine CW.seq ?_
  refine CW.region ?_
  refine WL.val Wanted.none (Runs.move rfl) ?_
  refine WL.val Wanted.none (Runs.move rfl) ?_
  obtain ⟨z_1, H⟩ := H
  refine WL.val Wanted.none (Runs.shl rfl rfl z_1 rfl) ?_
  refine WL.val Wanted.none (Runs.move rfl) ?_
  refine WL.val Wanted.none (Runs.move rfl) ?_
  obtain ⟨x_2, e_3, H⟩ := H
  refine WL.val Wanted.none (Runs.sub rfl rfl e_3) ?_
  obtain ⟨z_4, H⟩ := H
  refine WL.val Wanted.none (Runs.shr rfl rfl z_4 rfl) ?_
  obtain ⟨x_5, e_6, H⟩ := H
  refine WL.val Wanted.none (Runs.bor rfl rfl e_6) ?_
  refine WL.val Wanted.none (Runs.assign rfl) ?_
  refine WL.nil ?_
  refine QW.then_n ?_
  refine CW.sub [(4, .int .u32 x_5)] ⟨rfl, trivial⟩ ?_
  refine CW.ret ?_
  obtain rfl := H
  exact QW.ret1 rfl rfl ⟨rfl, st0.pick [] (by decide)⟩

/-! ### cipher_Block_1: function 37 -/
def cipher_Block_1.rel (a0 : Int) (a1 : Int) (a2 : Int) (a3 : Int) (x0 : List Int) (s0 : List Int) : Prop := ((0 ≤ a0 ∧ a0 < (16 : Int)) ∧ ((0 ≤ a1 ∧ a1 < (16 : Int)) ∧ (∃ x_5 : Int, x_5 = IntKind.u32.wrap ((gn x0 ((a0).toNat)) + (gn x0 ((a1).toNat))) ∧ ((0 ≤ a0 ∧ a0 < (16 : Int)) ∧ (∃ m_11 : List Int, m_11 = List.set x0 ((a0).toNat) x_5 ∧ ((0 ≤ a2 ∧ a2 < (16 : Int)) ∧ ((0 ≤ a0 ∧ a0 < (16 : Int)) ∧ (∃ (r_24 : Int), bits_RotateLeft32.rel (bits .xor .u32 (gn m_11 ((a2).toNat)) (gn m_11 ((a0).toNat))) a3 r_24 ∧ ((0 ≤ a2 ∧ a2 < (16 : Int)) ∧ (∃ m_29 : List Int, m_29 = List.set m_11 ((a2).toNat) r_24 ∧ s0 = m_29))))))))))
set_option maxHeartbeats 4000000 in
set_option maxRecDepth 100000 in
theorem cipher_Block_1.calls (w w1 : World) (T : List En) (a0 : Int) (a1 : Int) (a2 : Int) (a3 : Int) (x0 : List Int) (b0 : Nat) (st0 : St w w1 (.cells b0 (iv .u32 x0) 67 :: T)) (hx0 : x0.length = 16) (s0 : List Int) (H : cipher_Block_1.rel a0 a1 a2 a3 x0 s0) :
    Calls Tryd.prog 37 #[.int .i64 a0, .int .i64 a1, .int .i64 a2, .int .i64 a3, .pointer (some ⟨b0, 0, none⟩)] w1 fun e w' => s0.length = 16 ∧ e = .returned (.tuple #[]) ∧ St w w' (.cells b0 (iv .u32 s0) 67 :: T) := by
  refine CW.enter Tryd.func37 rfl (n := 28) rfl [.int .i64 a0, .int .i64 a1, .int .i64 a2, .int .i64 a3, .pointer (some ⟨b0, 0, none⟩)] (Nat.le_of_ble_eq_true rfl) ?_
  refine CW.sub [(0, .int .i64 a0), (1, .int .i64 a1), (2, .int .i64 a2), (3, .int .i64 a3), (4, .pointer (some ⟨b0, 0, none⟩))] ⟨rfl, rfl, rfl, rfl, rfl, trivial⟩ ?_
  refine CW.seq ?_
  refine CW.region_qt 8 wide (by kernel_rfl) st0 ?_
  refine HL.val Wanted.none (fun wq sq => (Runs.move rfl)) ?_
  obtain ⟨⟨p_1, q_2⟩, H⟩ := H
  refine HL.val Wanted.none (fun wq sq => (Runs.indexAddr_blk arr67 rfl rfl p_1 q_2 (o := (a0).toNat) (by first | rfl | omega))) ?_
  refine HL.val Wanted.none (fun wq sq => (Runs.load nagg24 rfl (sq.cell_iv (i := 0) rfl (by have := hx0; omega)))) ?_
  refine HL.val Wanted.none (fun wq sq => (Runs.move rfl)) ?_
  obtain ⟨⟨p_3, q_4⟩, H⟩ := H
  refine HL.val Wanted.none (fun wq sq => (Runs.indexAddr_blk arr67 rfl rfl p_3 q_4 (o := (a1).toNat) (by first | rfl | omega))) ?_
  refine HL.val Wanted.none (fun wq sq => (Runs.load nagg24 rfl (sq.cell_iv (i := 0) rfl (by have := hx0; omega)))) ?_
  obtain ⟨x_5, e_6, H⟩ := H
  refine HL.val Wanted.none (fun wq sq => (Runs.add rfl rfl e_6)) ?_
  obtain ⟨⟨p_7, q_8⟩, H⟩ := H
  refine HL.val Wanted.none (fun wq sq => (Runs.indexAddr_blk arr67 rfl rfl p_7 q_8 (o := (a0).toNat) (by first | rfl | omega))) ?_
  refine HL.nil (fun w_9 st_10 => ?_)
  obtain ⟨m_11, e_12, H⟩ := H
  have hl_15 : m_11.length = 16 := by rw [e_12, List.length_set]; exact hx0
  refine WL.store_cells (i := 0) st_10 rfl cells24 rfl (by rw [iv_length]; have := hx0; omega) rfl rfl ?_
  intro w_13 st_14
  have st_14' : St w w_13 (.cells b0 (iv .u32 m_11) 67 :: T) := by rw [e_12, ← iv_set .u32 x0 ((a0).toNat) x_5]; exact st_14
  refine WL.nil ?_
  refine QW.then_n ?_
  refine CW.sub [(0, .int .i64 a0), (2, .int .i64 a2), (3, .int .i64 a3), (4, .pointer (some ⟨b0, 0, none⟩))] ⟨rfl, rfl, rfl, rfl, trivial⟩ ?_
  refine CW.region_qt 11 wide (by kernel_rfl) st_14' ?_
  refine HL.val Wanted.none (fun wq sq => (Runs.move rfl)) ?_
  refine HL.val Wanted.none (fun wq sq => (Runs.move rfl)) ?_
  obtain ⟨⟨p_16, q_17⟩, H⟩ := H
  refine HL.val Wanted.none (fun wq sq => (Runs.indexAddr_blk arr67 rfl rfl p_16 q_17 (o := (a2).toNat) (by first | rfl | omega))) ?_
  refine HL.val Wanted.none (fun wq sq => (Runs.load nagg24 rfl (sq.cell_iv (i := 0) rfl (by have := hl_15; omega)))) ?_
  refine HL.val Wanted.none (fun wq sq => (Runs.move rfl)) ?_
  obtain ⟨⟨p_18, q_19⟩, H⟩ := H
  refine HL.val Wanted.none (fun wq sq => (Runs.indexAddr_blk arr67 rfl rfl p_18 q_19 (o := (a0).toNat) (by first | rfl | omega))) ?_
  refine HL.val Wanted.none (fun wq sq => (Runs.load nagg24 rfl (sq.cell_iv (i := 0) rfl (by have := hl_15; omega)))) ?_
  refine HL.val Wanted.none (fun wq sq => (Runs.bxor rfl rfl rfl)) ?_
  refine HL.val Wanted.none (fun wq sq => (Runs.move rfl)) ?_
  obtain ⟨r_24, hr_20, H⟩ := H
  refine HL.call Wanted.none ent38 rfl (fun wq sq => (bits_RotateLeft32.calls wq (bits .xor .u32 (gn m_11 ((a2).toNat)) (gn m_11 ((a0).toNat))) a3 r_24 hr_20).mono (by rintro _ _ ⟨rfl, sc⟩; exact ⟨rfl, sq.call sc⟩)) ?_
  obtain ⟨⟨p_25, q_26⟩, H⟩ := H
  refine HL.val Wanted.none (fun wq sq => (Runs.indexAddr_blk arr67 rfl rfl p_25 q_26 (o := (a2).toNat) (by first | rfl | omega))) ?_
  refine HL.nil (fun w_27 st_28 => ?_)
  obtain ⟨m_29, e_30, H⟩ := H
  have hl_33 : m_29.length = 16 := by rw [e_30, List.length_set]; exact hl_15
  refine WL.store_cells (i := 0) st_28 rfl cells24 rfl (by rw [iv_length]; have := hl_15; omega) rfl rfl ?_
  intro w_31 st_32
  have st_32' : St w w_31 (.cells b0 (iv .u32 m_29) 67 :: T) := by rw [e_30, ← iv_set .u32 m_11 ((a2).toNat) r_24]; exact st_32
  refine WL.nil ?_
  obtain rfl := H
  exact QW.end0 rfl ⟨hl_33, rfl, (St.pickT (L := [_]) st_32' [0] (by decide))⟩

/-! ### cipher_Block: function 29 -/
def cipher_Block.L2 (x_36 : Int) (K_L1 : (List Int) → Int → Prop) : Nat → (List Int) → Int → Prop
  | 0, _, _ => False
  | kL2 + 1, m_43, x_45 => ((x_45 < 8 ∧ ((0 ≤ x_45 ∧ x_45 < (8 : Int)) ∧ (∃ m_53 : List Int, m_53 = List.take 4 (List.drop ((x_45).toNat * 4) tab0) ∧ (∃ (s_68 : List Int), cipher_Block_1.rel (gn m_53 0) (gn m_53 1) (gn m_53 3) 16 m_43 s_68 ∧ (∃ (s_74 : List Int), cipher_Block_1.rel (gn m_53 2) (gn m_53 3) (gn m_53 1) 12 s_68 s_74 ∧ (∃ (s_80 : List Int), cipher_Block_1.rel (gn m_53 0) (gn m_53 1) (gn m_53 3) 8 s_74 s_80 ∧ (∃ (s_86 : List Int), cipher_Block_1.rel (gn m_53 2) (gn m_53 3) (gn m_53 1) 7 s_80 s_86 ∧ cipher_Block.L2 x_36 K_L1 kL2 s_86 (IntKind.i64.wrap (x_45 + 1))))))))) ∨ (¬ (x_45 < 8) ∧ K_L1 m_43 (IntKind.i64.wrap (x_36 + 1))))
def cipher_Block.L3 (r0 : List Int) (r_17 : List Int) (m_34 : List Int) : Nat → (List Int) → Int → Prop
  | 0, _, _ => False
  | kL3 + 1, m_93, x_95 => ((x_95 < 16 ∧ ((0 ≤ x_95 ∧ x_95 < (16 : Int)) ∧ ((0 ≤ (IntKind.i64.wrap (4 * x_95)) ∧ (IntKind.i64.wrap (4 * x_95)) ≤ (64 : Int) ∧ (64 : Int) ≤ (64 : Int)) ∧ ((0 ≤ x_95 ∧ x_95 < (16 : Int)) ∧ (∃ x_119 : Int, x_119 = IntKind.u32.wrap ((gn m_34 ((x_95).toNat)) + (gn r_17 ((x_95).toNat))) ∧ (∃ (r_125 : List Int), word_Put.rel (IntKind.u64.wrap x_119) 4 r_125 ∧ (∃ m_131 : List Int, m_131 = cpy m_93 (0 + (IntKind.i64.wrap (4 * x_95)).toNat) ((prt m_93 (IntKind.i64.wrap (4 * x_95)) (64 : Int)).length) r_125 ∧ cipher_Block.L3 r0 r_17 m_34 kL3 m_131 (IntKind.i64.wrap (x_95 + 1))))))))) ∨ (¬ (x_95 < 16) ∧ r0 = m_93))
def cipher_Block.L1 (r0 : List Int) (r_17 : List Int) : Nat → (List Int) → Int → Prop
  | 0, _, _ => False
  | kL1 + 1, m_34, x_36 => ((x_36 < 10 ∧ (∃ k_ : Nat, cipher_Block.L2 x_36 (cipher_Block.L1 r0 r_17 kL1) k_ m_34 0)) ∨ (¬ (x_36 < 10) ∧ (∃ k_ : Nat, cipher_Block.L3 r0 r_17 m_34 k_ (List.replicate 64 (0 : Int)) 0)))
def cipher_Block.rel (l0 : List Int) (a1 : Int) (l2 : List Int) (r0 : List Int) : Prop := (∃ (r_17 : List Int), cipher_words.rel l0 a1 l2 r_17 ∧ (∃ k_ : Nat, cipher_Block.L1 r0 r_17 k_ r_17 0))
set_option maxHeartbeats 4000000 in
set_option maxRecDepth 100000 in
theorem cipher_Block.calls (w : World) (l0 : List Int) (a1 : Int) (l2 : List Int)   (hG0 : Src w (some ⟨0, 0, none⟩) (iv .i64 tab0)) (hl0 : l0.length = 32) (hl2 : l2.length = 12) (r0 : List Int) (H : cipher_Block.rel l0 a1 l2 r0) :
    Calls Tryd.prog 29 #[.agg (iv .u8 l0).toArray, .int .u32 a1, .agg (iv .u8 l2).toArray] w fun e w' => r0.length = 64 ∧ e = .returned (.agg (iv .u8 r0).toArray) ∧ St w w' [] := by
  refine CW.enter Tryd.func29 rfl (n := 79) rfl [.agg (iv .u8 l0).toArray, .int .u32 a1, .agg (iv .u8 l2).toArray] (Nat.le_of_ble_eq_true rfl) ?_
  refine CW.sub [(0, .agg (iv .u8 l0).toArray), (1, .int .u32 a1), (2, .agg (iv .u8 l2).toArray)] ⟨rfl, rfl, rfl, trivial⟩ ?_
  have st0 : St w w [] := St.refl w
  refine CW.seq ?_
  refine CW.region ?_
  refine WL.box st0 rfl rfl ?_
  intro B_1 w_2 st_3
  replace st_3 : St w w_2 [.cells B_1 (iv .u8 l0) 23] := st_3
  refine WL.box st_3 rfl rfl ?_
  intro B_5 w_6 st_7
  replace st_7 : St w w_6 [.cells B_5 (iv .u8 l2) 47, .cells B_1 (iv .u8 l0) 23] := st_7
  refine WL.alloc st_7 arr60.zero ?_
  intro B_9 w_10 st_11
  replace st_11 : St w w_10 [.cells B_9 (iv .u8 (List.replicate 64 (0 : Int))) 60, .cells B_5 (iv .u8 l2) 47, .cells B_1 (iv .u8 l0) 23] := st_11
  refine WL.nil ?_
  refine QW.then_n ?_
  refine CW.seq ?_
  refine CW.region ?_
  refine WL.val Wanted.none (Runs.load_arr arr23 rfl (st_11.blk (i := 2) rfl) hl0) ?_
  refine WL.val Wanted.none (Runs.move rfl) ?_
  refine WL.val Wanted.none (Runs.load_arr arr47 rfl (st_11.blk (i := 1) rfl) hl2) ?_
  obtain ⟨r_17, hr_13, H⟩ := H
  refine WL.call Wanted.none ent36 rfl (cipher_words.calls w_10 l0 a1 l2 hl0 hl2 r_17 hr_13) ?_
  rintro _ w_14 ⟨hl_18, rfl, sc_16⟩
  have st_15 : St w w_14 [.cells B_9 (iv .u8 (List.replicate 64 (0 : Int))) 60, .cells B_5 (iv .u8 l2) 47, .cells B_1 (iv .u8 l0) 23] := st_11.call sc_16
  refine ⟨_, rfl, ?_⟩
  refine WL.alloc st_15 arr67.zero ?_
  intro B_19 w_20 st_21
  replace st_21 : St w w_20 [.cells B_19 (iv .u32 (List.replicate 16 (0 : Int))) 67, .cells B_9 (iv .u8 (List.replicate 64 (0 : Int))) 60, .cells B_5 (iv .u8 l2) 47, .cells B_1 (iv .u8 l0) 23] := st_21
  refine WL.store_arr (i := 0) st_21 rfl arr67 rfl (by rw [iv_length]; exact (List.length_replicate ..)) hl_18 rfl ?_
  intro w_23 st_24
  replace st_24 : St w w_23 [.cells B_19 (iv .u32 r_17) 67, .cells B_9 (iv .u8 (List.replicate 64 (0 : Int))) 60, .cells B_5 (iv .u8 l2) 47, .cells B_1 (iv .u8 l0) 23] := st_24
  refine WL.nil ?_
  refine QW.then_n ?_
  refine CW.sub [(6, .pointer (some ⟨B_9, 0, none⟩)), (7, .pointer (some ⟨B_19, 0, none⟩))] ⟨rfl, rfl, trivial⟩ ?_
  refine CW.seq ?_
  refine CW.region ?_
  refine WL.val Wanted.none (Runs.load_arr arr67 rfl (st_24.blk (i := 0) rfl) hl_18) ?_
  refine WL.alloc st_24 arr67.zero ?_
  intro B_26 w_27 st_28
  replace st_28 : St w w_27 [.cells B_26 (iv .u32 (List.replicate 16 (0 : Int))) 67, .cells B_19 (iv .u32 r_17) 67, .cells B_9 (iv .u8 (List.replicate 64 (0 : Int))) 60, .cells B_5 (iv .u8 l2) 47, .cells B_1 (iv .u8 l0) 23] := st_28
  refine WL.store_arr (i := 0) st_28 rfl arr67 rfl (by rw [iv_length]; exact (List.length_replicate ..)) hl_18 rfl ?_
  intro w_30 st_31
  replace st_31 : St w w_30 [.cells B_26 (iv .u32 r_17) 67, .cells B_19 (iv .u32 r_17) 67, .cells B_9 (iv .u8 (List.replicate 64 (0 : Int))) 60, .cells B_5 (iv .u8 l2) 47, .cells B_1 (iv .u8 l0) 23] := st_31
  refine WL.nil ?_
  refine QW.then_n ?_
  refine CW.seq ?_
  refine CW.region ?_
  refine WL.val Wanted.none (Runs.makeFunc rfl) ?_
  refine WL.val Wanted.none (Runs.assign rfl) ?_
  refine WL.nil ?_
  refine QW.then_n ?_
  refine CW.seq ?_
  refine CW.seq ?_
  refine CW.region ?_
  refine WL.val Wanted.none (Runs.move rfl) ?_
  refine WL.nil ?_
  refine QW.then_n ?_
  refine CW.block ?_
  obtain ⟨k_33, H⟩ := H
  refine CW.sub [(6, .pointer (some ⟨B_9, 0, none⟩)), (7, .pointer (some ⟨B_19, 0, none⟩)), (8, .pointer (some ⟨B_26, 0, none⟩)), (9, .func (.func 37) #[] #[.pointer (some ⟨B_26, 0, none⟩)]), (21, .int .i64 0)] ⟨rfl, rfl, rfl, rfl, rfl, trivial⟩ ?_
  refine CW.loop (fun kL1 l_ w_ => ∃ (m_34 : List Int) (x_36 : Int), l_ = [(6, .pointer (some ⟨B_9, 0, none⟩)), (7, .pointer (some ⟨B_19, 0, none⟩)), (8, .pointer (some ⟨B_26, 0, none⟩)), (9, .func (.func 37) #[] #[.pointer (some ⟨B_26, 0, none⟩)]), (21, .int .i64 x_36)] ∧ cipher_Block.L1 r0 r_17 kL1 m_34 x_36 ∧ (m_34.length = 16) ∧ St w w_ [.cells B_26 (iv .u32 m_34) 67, .cells B_19 (iv .u32 r_17) 67, .cells B_9 (iv .u8 (List.replicate 64 (0 : Int))) 60, .cells B_5 (iv .u8 l2) 47, .cells B_1 (iv .u8 l0) 23]) (k := k_33) ⟨r_17, 0, rfl, H, hl_18, st_31⟩ (fun _ _ h => by obtain ⟨_, _, _, h, _⟩ := h; exact h.elim) ?_
  rintro kL1 l_39 w_37 ⟨m_34, x_36, rfl, H, hl_35, st_38⟩
  refine CW.seq ?_
  refine CW.region ?_
  refine WL.val Wanted.none (Runs.lss rfl rfl rfl) ?_
  refine WL.nil ?_
  refine QW.then_n ?_
  refine CW.seq ?_
  rcases H with ⟨c_40, H⟩ | ⟨c_40, H⟩
  · have h_41 : (decide (x_36 < 10)) = true := (decide_eq_true c_40)
    refine CW.ct rfl h_41 ?_
    refine CW.skip ?_
    refine QW.then_n ?_
    refine CW.seq ?_
    refine CW.block ?_
    refine CW.seq ?_
    refine CW.region ?_
    refine WL.val Wanted.none (Runs.load_srcR row72 rfl (hG0.ext st_38) (by rw [iv_length]; exact tab0_len)) ?_
    refine WL.val Wanted.none (Runs.move rfl) ?_
    refine WL.nil ?_
    refine QW.then_n ?_
    refine CW.block ?_
    obtain ⟨k_42, H⟩ := H
    refine CW.sub [(6, .pointer (some ⟨B_9, 0, none⟩)), (7, .pointer (some ⟨B_19, 0, none⟩)), (8, .pointer (some ⟨B_26, 0, none⟩)), (9, .func (.func 37) #[] #[.pointer (some ⟨B_26, 0, none⟩)]), (21, .int .i64 x_36), (22, .bool (decide (x_36 < 10))), (23, .agg (iv .i64 tab0).toArray), (24, .int .i64 0)] ⟨rfl, rfl, rfl, rfl, rfl, rfl, rfl, rfl, trivial⟩ ?_
    refine CW.loop (fun kL2 l_ w_ => ∃ (m_43 : List Int) (x_45 : Int), l_ = [(6, .pointer (some ⟨B_9, 0, none⟩)), (7, .pointer (some ⟨B_19, 0, none⟩)), (8, .pointer (some ⟨B_26, 0, none⟩)), (9, .func (.func 37) #[] #[.pointer (some ⟨B_26, 0, none⟩)]), (21, .int .i64 x_36), (22, .bool (decide (x_36 < 10))), (23, .agg (iv .i64 tab0).toArray), (24, .int .i64 x_45)] ∧ cipher_Block.L2 x_36 (cipher_Block.L1 r0 r_17 kL1) kL2 m_43 x_45 ∧ (m_43.length = 16) ∧ St w w_ [.cells B_26 (iv .u32 m_43) 67, .cells B_19 (iv .u32 r_17) 67, .cells B_9 (iv .u8 (List.replicate 64 (0 : Int))) 60, .cells B_5 (iv .u8 l2) 47, .cells B_1 (iv .u8 l0) 23]) (k := k_42) ⟨m_34, 0, rfl, H, hl_35, st_38⟩ (fun _ _ h => by obtain ⟨_, _, _, h, _⟩ := h; exact h.elim) ?_
    rintro kL2 l_48 w_46 ⟨m_43, x_45, rfl, H, hl_44, st_47⟩
    refine CW.seq ?_
    refine CW.region ?_
    refine WL.val Wanted.none (Runs.lss rfl rfl rfl) ?_
    refine WL.nil ?_
    refine QW.then_n ?_
    refine CW.seq ?_
    rcases H with ⟨c_49, H⟩ | ⟨c_49, H⟩
    · have h_50 : (decide (x_45 < 8)) = true := (decide_eq_true c_49)
      refine CW.ct rfl h_50 ?_
      refine CW.skip ?_
      refine QW.then_n ?_
      refine CW.seq ?_
      refine CW.block ?_
      refine CW.seq ?_
      refine CW.region ?_
      obtain ⟨⟨p_51, q_52⟩, H⟩ := H
      obtain ⟨m_53, e_54, H⟩ := H
      have hl_55 : m_53.length = 4 := by rw [e_54, List.length_take, List.length_drop, tab0_len]; omega
      refine WL.val Wanted.none (Runs.index_row Tryd.underlying72 row71 rfl rfl p_51 q_52 rfl (by rw [iv_part, ← e_54])) ?_
      refine WL.alloc st_47 arr71.zero ?_
      intro B_56 w_57 st_58
      replace st_58 : St w w_57 [.cells B_56 (iv .i64 (List.replicate 4 (0 : Int))) 71, .cells B_26 (iv .u32 m_43) 67, .cells B_19 (iv .u32 r_17) 67, .cells B_9 (iv .u8 (List.replicate 64 (0 : Int))) 60, .cells B_5 (iv .u8 l2) 47, .cells B_1 (iv .u8 l0) 23] := st_58
      refine WL.store_arr (i := 0) st_58 rfl arr71 rfl (by rw [iv_length]; exact (List.length_replicate ..)) hl_55 rfl ?_
      intro w_60 st_61
      replace st_61 : St w w_60 [.cells B_56 (iv .i64 m_53) 71, .cells B_26 (iv .u32 m_43) 67, .cells B_19 (iv .u32 r_17) 67, .cells B_9 (iv .u8 (List.replicate 64 (0 : Int))) 60, .cells B_5 (iv .u8 l2) 47, .cells B_1 (iv .u8 l0) 23] := st_61
      refine WL.nil ?_
      refine QW.then_n ?_
      refine CW.seq ?_
      refine CW.region ?_
      refine WL.val Wanted.none (Runs.move rfl) ?_
      refine WL.val Wanted.none (Runs.indexAddr_blk arr71 rfl rfl (by decide) (by decide) (o := 0) (by first | rfl | omega)) ?_
      refine WL.val Wanted.none (Runs.load nagg3 rfl (st_61.cell_iv (i := 0) rfl (by have := hl_55; omega))) ?_
      refine WL.val Wanted.none (Runs.indexAddr_blk arr71 rfl rfl (by decide) (by decide) (o := 1) (by first | rfl | omega)) ?_
      refine WL.val Wanted.none (Runs.load nagg3 rfl (st_61.cell_iv (i := 0) rfl (by have := hl_55; omega))) ?_
      refine WL.val Wanted.none (Runs.indexAddr_blk arr71 rfl rfl (by decide) (by decide) (o := 3) (by first | rfl | omega)) ?_
      refine WL.val Wanted.none (Runs.load nagg3 rfl (st_61.cell_iv (i := 0) rfl (by have := hl_55; omega))) ?_
      have st_63 := st_61.pick [1, 0, 2, 3, 4, 5] (by decide)
      replace st_63 : St w w_60 [.cells B_26 (iv .u32 m_43) 67, .cells B_56 (iv .i64 m_53) 71, .cells B_19 (iv .u32 r_17) 67, .cells B_9 (iv .u8 (List.replicate 64 (0 : Int))) 60, .cells B_5 (iv .u8 l2) 47, .cells B_1 (iv .u8 l0) 23] := st_63
      obtain ⟨s_68, hr_64, H⟩ := H
      refine WL.callv Wanted.none ent37 rfl rfl (cipher_Block_1.calls w w_60 [.cells B_56 (iv .i64 m_53) 71, .cells B_19 (iv .u32 r_17) 67, .cells B_9 (iv .u8 (List.replicate 64 (0 : Int))) 60, .cells B_5 (iv .u8 l2) 47, .cells B_1 (iv .u8 l0) 23] (gn m_53 0) (gn m_53 1) (gn m_53 3) 16 m_43 B_26 st_63 hl_44 s_68 hr_64) ?_
      rintro _ w_65 ⟨hl_69, rfl, sc_67⟩
      have st_66 : St w w_65 [.cells B_26 (iv .u32 s_68) 67, .cells B_56 (iv .i64 m_53) 71, .cells B_19 (iv .u32 r_17) 67, .cells B_9 (iv .u8 (List.replicate 64 (0 : Int))) 60, .cells B_5 (iv .u8 l2) 47, .cells B_1 (iv .u8 l0) 23] := sc_67
      refine ⟨_, rfl, ?_⟩
      refine WL.nil ?_
      refine QW.then_n ?_
      refine CW.seq ?_
      refine CW.region ?_
      refine WL.val Wanted.none (Runs.move rfl) ?_
      refine WL.val Wanted.none (Runs.indexAddr_blk arr71 rfl rfl (by decide) (by decide) (o := 2) (by first | rfl | omega)) ?_
      refine WL.val Wanted.none (Runs.load nagg3 rfl (st_66.cell_iv (i := 1) rfl (by have := hl_55; omega))) ?_
      refine WL.val Wanted.none (Runs.indexAddr_blk arr71 rfl rfl (by decide) (by decide) (o := 3) (by first | rfl | omega)) ?_
      refine WL.val Wanted.none (Runs.load nagg3 rfl (st_66.cell_iv (i := 1) rfl (by have := hl_55; omega))) ?_
      refine WL.val Wanted.none (Runs.indexAddr_blk arr71 rfl rfl (by decide) (by decide) (o := 1) (by first | rfl | omega)) ?_
      refine WL.val Wanted.none (Runs.load nagg3 rfl (st_66.cell_iv (i := 1) rfl (by have := hl_55; omega))) ?_
      obtain ⟨s_74, hr_70, H⟩ := H
      refine WL.callv Wanted.none ent37 rfl rfl (cipher_Block_1.calls w w_65 [.cells B_56 (iv .i64 m_53) 71, .cells B_19 (iv .u32 r_17) 67, .cells B_9 (iv .u8 (List.replicate 64 (0 : Int))) 60, .cells B_5 (iv .u8 l2) 47, .cells B_1 (iv .u8 l0) 23] (gn m_53 2) (gn m_53 3) (gn m_53 1) 12 s_68 B_26 st_66 hl_69 s_74 hr_70) ?_
      rintro _ w_71 ⟨hl_75, rfl, sc_73⟩
      have st_72 : St w w_71 [.cells B_26 (iv .u32 s_74) 67, .cells B_56 (iv .i64 m_53) 71, .cells B_19 (iv .u32 r_17) 67, .cells B_9 (iv .u8 (List.replicate 64 (0 : Int))) 60, .cells B_5 (iv .u8 l2) 47, .cells B_1 (iv .u8 l0) 23] := sc_73
      refine ⟨_, rfl, ?_⟩
      refine WL.nil ?_
      refine QW.then_n ?_
      refine CW.seq ?_
      refine CW.region ?_
      refine WL.val Wanted.none (Runs.move rfl) ?_
      refine WL.val Wanted.none (Runs.indexAddr_blk arr71 rfl rfl (by decide) (by decide) (o := 0) (by first | rfl | omega)) ?_
      refine WL.val Wanted.none (Runs.load nagg3 rfl (st_72.cell_iv (i := 1) rfl (by have := hl_55; omega))) ?_
      refine WL.val Wanted.none (Runs.indexAddr_blk arr71 rfl rfl (by decide) (by decide) (o := 1) (by first | rfl | omega)) ?_
      refine WL.val Wanted.none (Runs.load nagg3 rfl (st_72.cell_iv (i := 1) rfl (by have := hl_55; omega))) ?_
      refine WL.val Wanted.none (Runs.indexAddr_blk arr71 rfl rfl (by decide) (by decide) (o := 3) (by first | rfl | omega)) ?_
      refine WL.val Wanted.none (Runs.load nagg3 rfl (st_72.cell_iv (i := 1) rfl (by have := hl_55; omega))) ?_
      obtain ⟨s_80, hr_76, H⟩ := H
      refine WL.callv Wanted.none ent37 rfl rfl (cipher_Block_1.calls w w_71 [.cells B_56 (iv .i64 m_53) 71, .cells B_19 (iv .u32 r_17) 67, .cells B_9 (iv .u8 (List.replicate 64 (0 : Int))) 60, .cells B_5 (iv .u8 l2) 47, .cells B_1 (iv .u8 l0) 23] (gn m_53 0) (gn m_53 1) (gn m_53 3) 8 s_74 B_26 st_72 hl_75 s_80 hr_76) ?_
      rintro _ w_77 ⟨hl_81, rfl, sc_79⟩
      have st_78 : St w w_77 [.cells B_26 (iv .u32 s_80) 67, .cells B_56 (iv .i64 m_53) 71, .cells B_19 (iv .u32 r_17) 67, .cells B_9 (iv .u8 (List.replicate 64 (0 : Int))) 60, .cells B_5 (iv .u8 l2) 47, .cells B_1 (iv .u8 l0) 23] := sc_79
      refine ⟨_, rfl, ?_⟩
      refine WL.nil ?_
      refine QW.then_n ?_
      refine CW.region ?_
      refine WL.val Wanted.none (Runs.move rfl) ?_
      refine WL.val Wanted.none (Runs.indexAddr_blk arr71 rfl rfl (by decide) (by decide) (o := 2) (by first | rfl | omega)) ?_
      refine WL.val Wanted.none (Runs.load nagg3 rfl (st_78.cell_iv (i := 1) rfl (by have := hl_55; omega))) ?_
      refine WL.val Wanted.none (Runs.indexAddr_blk arr71 rfl rfl (by decide) (by decide) (o := 3) (by first | rfl | omega)) ?_
      refine WL.val Wanted.none (Runs.load nagg3 rfl (st_78.cell_iv (i := 1) rfl (by have := hl_55; omega))) ?_
      refine WL.val Wanted.none (Runs.indexAddr_blk arr71 rfl rfl (by decide) (by decide) (o := 1) (by first | rfl | omega)) ?_
      refine WL.val Wanted.none (Runs.load nagg3 rfl (st_78.cell_iv (i := 1) rfl (by have := hl_55; omega))) ?_
      obtain ⟨s_86, hr_82, H⟩ := H
      refine WL.callv Wanted.none ent37 rfl rfl (cipher_Block_1.calls w w_77 [.cells B_56 (iv .i64 m_53) 71, .cells B_19 (iv .u32 r_17) 67, .cells B_9 (iv .u8 (List.replicate 64 (0 : Int))) 60, .cells B_5 (iv .u8 l2) 47, .cells B_1 (iv .u8 l0) 23] (gn m_53 2) (gn m_53 3) (gn m_53 1) 7 s_80 B_26 st_78 hl_81 s_86 hr_82) ?_
      rintro _ w_83 ⟨hl_87, rfl, sc_85⟩
      have st_84 : St w w_83 [.cells B_26 (iv .u32 s_86) 67, .cells B_56 (iv .i64 m_53) 71, .cells B_19 (iv .u32 r_17) 67, .cells B_9 (iv .u8 (List.replicate 64 (0 : Int))) 60, .cells B_5 (iv .u8 l2) 47, .cells B_1 (iv .u8 l0) 23] := sc_85
      refine ⟨_, rfl, ?_⟩
      refine WL.nil ?_
      refine QW.blk_n ?_
      refine QW.then_n ?_
      refine CW.region ?_
      refine WL.val Wanted.none (Runs.add rfl rfl rfl) ?_
      refine WL.val Wanted.none (Runs.move rfl) ?_
      refine WL.nil ?_
      have st_84' := st_84.pick [0, 2, 3, 4, 5] (by decide)
      exact QW.at [(6, .pointer (some ⟨B_9, 0, none⟩)), (7, .pointer (some ⟨B_19, 0, none⟩)), (8, .pointer (some ⟨B_26, 0, none⟩)), (9, .func (.func 37) #[] #[.pointer (some ⟨B_26, 0, none⟩)]), (21, .int .i64 x_36), (22, .bool (decide (x_36 < 10))), (23, .agg (iv .i64 tab0).toArray), (24, .int .i64 (IntKind.i64.wrap (x_45 + 1)))] ⟨rfl, rfl, rfl, rfl, rfl, rfl, rfl, rfl, trivial⟩ ⟨s_86, IntKind.i64.wrap (x_45 + 1), rfl, H, hl_87, st_84'⟩
    · have h_50 : (decide (x_45 < 8)) = false := (decide_eq_false c_49)
      refine CW.cf rfl h_50 ?_
      refine CW.exit ?_
      refine QW.then_x ?_
      refine QW.then_x ?_
      refine QW.blk_x ?_
      refine QW.blk_n ?_
      refine QW.then_n ?_
      refine CW.region ?_
      refine WL.val Wanted.none (Runs.add rfl rfl rfl) ?_
      refine WL.val Wanted.none (Runs.move rfl) ?_
      refine WL.nil ?_
      exact QW.at [(6, .pointer (some ⟨B_9, 0, none⟩)), (7, .pointer (some ⟨B_19, 0, none⟩)), (8, .pointer (some ⟨B_26, 0, none⟩)), (9, .func (.func 37) #[] #[.pointer (some ⟨B_26, 0, none⟩)]), (21, .int .i64 (IntKind.i64.wrap (x_36 + 1)))] ⟨rfl, rfl, rfl, rfl, rfl, trivial⟩ ⟨m_43, IntKind.i64.wrap (x_36 + 1), rfl, H, hl_44, st_47⟩
  · have h_41 : (decide (x_36 < 10)) = false := (decide_eq_false c_40)
    refine CW.cf rfl h_41 ?_
    refine CW.exit ?_
    refine QW.then_x ?_
    refine QW.then_x ?_
    refine QW.blk_x ?_
    refine QW.then_n ?_
    refine CW.seq ?_
    refine CW.region ?_
    refine WL.alloc st_38 arr60.zero ?_
    intro B_88 w_89 st_90
    replace st_90 : St w w_89 [.cells B_88 (iv .u8 (List.replicate 64 (0 : Int))) 60, .cells B_26 (iv .u32 m_34) 67, .cells B_19 (iv .u32 r_17) 67, .cells B_9 (iv .u8 (List.replicate 64 (0 : Int))) 60, .cells B_5 (iv .u8 l2) 47, .cells B_1 (iv .u8 l0) 23] := st_90
    refine WL.nil ?_
    refine QW.then_n ?_
    refine CW.seq ?_
    refine CW.seq ?_
    refine CW.region ?_
    refine WL.val Wanted.none (Runs.load_arr arr67 rfl (st_90.blk (i := 1) rfl) hl_35) ?_
    refine WL.val Wanted.none (Runs.move rfl) ?_
    refine WL.nil ?_
    refine QW.then_n ?_
    refine CW.block ?_
    obtain ⟨k_92, H⟩ := H
    refine CW.sub [(6, .pointer (some ⟨B_9, 0, none⟩)), (7, .pointer (some ⟨B_19, 0, none⟩)), (12, .pointer (some ⟨B_88, 0, none⟩)), (61, .agg (iv .u32 m_34).toArray), (62, .int .i64 0)] ⟨rfl, rfl, rfl, rfl, rfl, trivial⟩ ?_
    refine CW.loop (fun kL3 l_ w_ => ∃ (m_93 : List Int) (x_95 : Int), l_ = [(6, .pointer (some ⟨B_9, 0, none⟩)), (7, .pointer (some ⟨B_19, 0, none⟩)), (12, .pointer (some ⟨B_88, 0, none⟩)), (61, .agg (iv .u32 m_34).toArray), (62, .int .i64 x_95)] ∧ cipher_Block.L3 r0 r_17 m_34 kL3 m_93 x_95 ∧ (m_93.length = 64) ∧ St w w_ [.cells B_88 (iv .u8 m_93) 60, .cells B_26 (iv .u32 m_34) 67, .cells B_19 (iv .u32 r_17) 67, .cells B_9 (iv .u8 (List.replicate 64 (0 : Int))) 60, .cells B_5 (iv .u8 l2) 47, .cells B_1 (iv .u8 l0) 23]) (k := k_92) ⟨List.replicate 64 (0 : Int), 0, rfl, H, (List.length_replicate ..), st_90⟩ (fun _ _ h => by obtain ⟨_, _, _, h, _⟩ := h; exact h.elim) ?_
    rintro kL3 l_98 w_96 ⟨m_93, x_95, rfl, H, hl_94, st_97⟩
    refine CW.seq ?_
    refine CW.region ?_
    refine WL.val Wanted.none (Runs.lss rfl rfl rfl) ?_
    refine WL.nil ?_
    refine QW.then_n ?_
    refine CW.seq ?_
    rcases H with ⟨c_99, H⟩ | ⟨c_99, H⟩
    · have h_100 : (decide (x_95 < 16)) = true := (decide_eq_true c_99)
      refine CW.ct rfl h_100 ?_
      refine CW.skip ?_
      refine QW.then_n ?_
      refine CW.seq ?_
      refine CW.block ?_
      refine CW.seq ?_
      refine CW.region ?_
      refine WL.val Wanted.none (Runs.move rfl) ?_
      obtain ⟨⟨p_101, q_102⟩, H⟩ := H
      refine WL.val Wanted.none (Runs.index_arr arr67 rfl hl_35 rfl p_101 q_102 (j := (x_95).toNat) (by first | rfl | omega)) ?_
      refine WL.val Wanted.none (Runs.assign rfl) ?_
      refine WL.val Wanted.none (Runs.assign rfl) ?_
      refine WL.nil ?_
      refine QW.then_n ?_
      refine CW.region_aw wide st_97 (fun w_103 st_104 => ?_)
      refine AW.take 0 rfl (by kernel_rfl) (by kernel_rfl) (by kernel_rfl) Wanted.none (fun _ => (Runs.move rfl)) ?_
      refine AW.take 1 rfl (by kernel_rfl) (by kernel_rfl) (by kernel_rfl) Wanted.none (fun _ => (Runs.mul rfl rfl rfl)) ?_
      obtain ⟨⟨p_105, q_106, r_107⟩, H⟩ := H
      have r_116 : (64 : Int) ≤ (m_93.length : Int) := by rw [hl_94]; exact r_107
      obtain ⟨A_108, e_111⟩ : ∃ B_, B_ = subA (some ⟨B_88, 0, none⟩) (IntKind.i64.wrap (4 * x_95)).toNat 64 := ⟨_, rfl⟩
      obtain ⟨n_109, e_112⟩ : ∃ n_ : Nat, n_ = (prt m_93 (IntKind.i64.wrap (4 * x_95)) (64 : Int)).length := ⟨_, rfl⟩
      obtain ⟨c_110, e_113⟩ : ∃ c_ : Nat, c_ = 64 - (IntKind.i64.wrap (4 * x_95)).toNat := ⟨_, rfl⟩
      have h_115 : n_109 ≤ c_110 := by rw [e_112, prt_length p_105 q_106 r_116]; rw [e_113]; omega
      refine AW.take 2 rfl (by kernel_rfl) (by kernel_rfl) (by kernel_rfl) Wanted.none (fun _ => (Runs.slice_arr_l arr60 rfl rfl p_105 (by omega) e_111 (N := n_109) (by rw [e_112, prt_length p_105 q_106 r_116]; omega) e_113)) ?_
      refine AW.take 3 rfl (by kernel_rfl) (by kernel_rfl) (by kernel_rfl) Wanted.none (fun _ => (Runs.move rfl)) ?_
      refine AW.take 4 rfl (by kernel_rfl) (by kernel_rfl) (by kernel_rfl) Wanted.none (fun _ => (Runs.move rfl)) ?_
      obtain ⟨⟨p_117, q_118⟩, H⟩ := H
      refine AW.take 5 rfl (by kernel_rfl) (by kernel_rfl) (by kernel_rfl) Wanted.none (fun _ => (Runs.indexAddr_blk arr67 rfl rfl p_117 q_118 (o := (x_95).toNat) (by first | rfl | omega))) ?_
      refine AW.step 6 rfl (by kernel_rfl) ?_
      refine WL.val Wanted.none (Runs.load nagg24 rfl (st_104.cell_iv (i := 2) rfl (by have := hl_18; omega))) ?_
      refine WL.nil ?_
      refine AW.back ?_
      obtain ⟨x_119, e_120, H⟩ := H
      refine AW.take 7 rfl (by kernel_rfl) (by kernel_rfl) (by kernel_rfl) Wanted.none (fun _ => (Runs.add rfl rfl e_120)) ?_
      refine AW.take 8 rfl (by kernel_rfl) (by kernel_rfl) (by kernel_rfl) Wanted.none (fun _ => (Runs.conv Tryd.underlying25 ⟨_, Tryd.underlying24⟩ rfl rfl)) ?_
      refine AW.step 9 rfl (by kernel_rfl) ?_
      obtain ⟨r_125, hr_121, H⟩ := H
      refine WL.call Wanted.none ent19 rfl (word_Put.calls w_103 (IntKind.u64.wrap x_119) 4 r_125 hr_121) ?_
      rintro _ w_122 ⟨A_126, c_127, n_128, hn_129, rfl, sc_124⟩
      have st_123 : St w w_122 [.sl A_126 c_127 n_128 (iv .u8 r_125) 5 1, .cells B_88 (iv .u8 m_93) 60, .cells B_26 (iv .u32 m_34) 67, .cells B_19 (iv .u32 r_17) 67, .cells B_9 (iv .u8 (List.replicate 64 (0 : Int))) 60, .cells B_5 (iv .u8 l2) 47, .cells B_1 (iv .u8 l0) 23] := st_104.call sc_124
      refine ⟨_, rfl, ?_⟩
      refine WL.nil ?_
      refine AW.back ?_
      refine AW.step 10 rfl (by kernel_rfl) ?_
      obtain ⟨m_131, e_132, H⟩ := H
      have hfit_ : 0 + (IntKind.i64.wrap (4 * x_95)).toNat + n_109 ≤ m_93.length := by have := hl_94; have := (hl_94).symm; have := prt_length p_105 q_106 r_116; have := e_112; omega
      refine WL.copy_cells (i := 1) (o := 0 + (IntKind.i64.wrap (4 * x_95)).toNat) st_123 rfl Tryd.underlying26 cells5 rfl rfl (subA_map (N' := 1) (fun _ => map_add_zero) e_111 (fun _ => by have := (hl_94).symm; have := prt_length p_105 q_106 r_116; have := e_112; have := h_115; have := e_113; omega)) (by rw [iv_length]; exact hfit_) (st_123.src_sl (k := 0) rfl) (hn_129.trans (iv_length .u8 _).symm) (one_iv .u8 _) ?_
      intro w_133 st_134
      have hn_135 : m_131.length = m_93.length := by rw [e_132]; exact cpy_length (by have := (show n_109 = (prt m_93 (IntKind.i64.wrap (4 * x_95)) (64 : Int)).length from e_112); omega)
      have st_134' : St w w_133 [.sl A_126 c_127 n_128 (iv .u8 r_125) 5 1, .cells B_88 (iv .u8 m_131) 60, .cells B_26 (iv .u32 m_34) 67, .cells B_19 (iv .u32 r_17) 67, .cells B_9 (iv .u8 (List.replicate 64 (0 : Int))) 60, .cells B_5 (iv .u8 l2) 47, .cells B_1 (iv .u8 l0) 23] := by rw [e_132, ← (show n_109 = (prt m_93 (IntKind.i64.wrap (4 * x_95)) (64 : Int)).length from e_112), ← cpy_iv .u8]; exact st_134
      have z_136 := iv_length .u8 r_125
      refine WL.nil ?_
      refine AW.back ?_
      refine AW.done (by kernel_rfl) ?_
      refine QW.blk_n ?_
      refine QW.then_n ?_
      refine CW.region ?_
      refine WL.val Wanted.none (Runs.add rfl rfl rfl) ?_
      refine WL.val Wanted.none (Runs.move rfl) ?_
      refine WL.nil ?_
      have st_134'' := st_134'.pick [1, 2, 3, 4, 5, 6] (by decide)
      exact QW.at [(6, .pointer (some ⟨B_9, 0, none⟩)), (7, .pointer (some ⟨B_19, 0, none⟩)), (12, .pointer (some ⟨B_88, 0, none⟩)), (61, .agg (iv .u32 m_34).toArray), (62, .int .i64 (IntKind.i64.wrap (x_95 + 1)))] ⟨rfl, rfl, rfl, rfl, rfl, trivial⟩ ⟨m_131, IntKind.i64.wrap (x_95 + 1), rfl, H, (hn_135.trans hl_94), st_134''⟩
    · have h_100 : (decide (x_95 < 16)) = false := (decide_eq_false c_99)
      refine CW.cf rfl h_100 ?_
      refine CW.exit ?_
      refine QW.then_x ?_
      refine QW.then_x ?_
      refine QW.blk_x ?_
      refine QW.then_n ?_
      refine CW.seq ?_
      refine CW.region ?_
      refine WL.val Wanted.none (Runs.load_arr arr60 rfl (st_97.blk (i := 0) rfl) hl_94) ?_
      refine WL.store_arr (i := 3) st_97 rfl arr60 rfl (by rw [iv_length]; exact (List.length_replicate ..)) hl_94 rfl ?_
      intro w_137 st_138
      replace st_138 : St w w_137 [.cells B_88 (iv .u8 m_93) 60, .cells B_26 (iv .u32 m_34) 67, .cells B_19 (iv .u32 r_17) 67, .cells B_9 (iv .u8 m_93) 60, .cells B_5 (iv .u8 l2) 47, .cells B_1 (iv .u8 l0) 23] := st_138
      refine WL.nil ?_
      refine QW.then_n ?_
      refine CW.sub [(6, .pointer (some ⟨B_9, 0, none⟩))] ⟨rfl, trivial⟩ ?_
      refine CW.ret ?_
      obtain rfl := H
      exact QW.retc rfl arr60 rfl (st_138.blk (i := 3) rfl) hl_94 ⟨hl_94, rfl, st_138.pick [] (by decide)⟩

/-! ### cipher_Crypt: function 15 -/
def cipher_Crypt.L1 (l_52 : List Int) (x_54 : Int) (x_46 : Nat) (Inv_39 : (List Int) → Int → Prop) (g_40 : Nat → ((List Int) × Int) → (List Int) × Int) (r_60 : List Int) : Nat → (List Int) → Int → Prop
  | 0, _, _ => False
  | kL1 + 1, l_70, x_72 => ((x_72 < ((chl l_52 64 x_46).length : Int) ∧ ((0 ≤ x_72 ∧ x_72 < ((chl l_70 64 x_46).length : Int)) ∧ ((0 ≤ x_72 ∧ x_72 < (64 : Int)) ∧ (∃ x_84 : Int, x_84 = bits .xor .u8 (gn (chl l_70 64 x_46) ((x_72).toNat)) (gn r_60 ((x_72).toNat)) ∧ ((0 ≤ x_72 ∧ x_72 < ((chl l_70 64 x_46).length : Int)) ∧ (∃ m_92 : List Int, m_92 = List.set l_70 (64 * x_46 + ((x_72).toNat)) x_84 ∧ cipher_Crypt.L1 l_52 x_54 x_46 Inv_39 g_40 r_60 kL1 m_92 (IntKind.i64.wrap (x_72 + 1)))))))) ∨ (¬ (x_72 < ((chl l_52 64 x_46).length : Int)) ∧ (Inv_39 l_70 (IntKind.u32.wrap (x_54 + 1)) ∧ (l_70, IntKind.u32.wrap (x_54 + 1)) = g_40 x_46 (l_52, x_54))))
def cipher_Crypt.rel (l0 : List Int) (a1 : Int) (l2 : List Int) (l3 : List Int) (r0 : List Int) (r1 : Int) : Prop := (∃ x_13 : Int, x_13 = IntKind.u64.wrap ((IntKind.u64.wrap ((IntKind.u64.wrap (l3.length : Int)) + 64)) - 1) ∧ (∃ x_15 : Int, x_15 = IntKind.u64.wrap ((IntKind.u64.wrap a1) + (IntKind.u64.wrap (Int.tdiv x_13 64))) ∧ ((x_15 > 4294967296 ∧ r0 = [] ∧ r1 = 1) ∨ (¬ (x_15 > 4294967296) ∧ (∃ (r_25 : List Int), slices_Clone_s_byte_byte.rel l3 r_25 ∧ (∃ (q_38 : Nat), (r_25.length ≤ 64 * q_38 ∧ (∀ j : Nat, j < q_38 → 64 * j < r_25.length) ∧ r_25.length ≤ 1099511627776) ∧ ∃ (Inv_39 : (List Int) → Int → Prop) (g_40 : Nat → ((List Int) × Int) → ((List Int) × Int)), Inv_39 r_25 a1 ∧ (∀ (x_46 : Nat) (l_52 : List Int) (x_54 : Int), x_46 < q_38 → Inv_39 l_52 x_54 → l_52.length = r_25.length → (∃ (r_60 : List Int), cipher_Block.rel l0 x_54 l2 r_60 ∧ (∃ k_ : Nat, cipher_Crypt.L1 l_52 x_54 x_46 Inv_39 g_40 r_60 k_ l_52 0))) ∧ ∃ (l_103 : List Int) (x_105 : Int), (l_103, x_105) = (List.range q_38).foldl (fun s_ x_ => g_40 x_ s_) (r_25, a1) ∧ r0 = l_103 ∧ r1 = 0))))))
set_option maxHeartbeats 4000000 in
set_option maxRecDepth 100000 in
theorem cipher_Crypt.calls (w : World) (l0 : List Int) (a1 : Int) (l2 : List Int) (l3 : List Int) (A3 : Option Addr) (n3 : Nat) (c3 : Nat)  (hG0 : Src w (some ⟨0, 0, none⟩) (iv .i64 tab0)) (hl0 : l0.length = 32) (hl2 : l2.length = 12) (hs3 : Src w A3 (iv .u8 l3)) (hn3 : n3 = l3.length) (hc3 : n3 ≤ c3) (r0 : List Int) (r1 : Int) (H : cipher_Crypt.rel l0 a1 l2 l3 r0 r1) :
    Calls Tryd.prog 15 #[.agg (iv .u8 l0).toArray, .int .u32 a1, .agg (iv .u8 l2).toArray, .slice A3 n3 c3] w fun e w' => ∃ B0 q0 z0, z0 = r0.length ∧ e = .returned (.tuple #[.slice B0 z0 q0, .int .i64 r1]) ∧ St w w' [.sl B0 q0 z0 (iv .u8 r0) 5 1] := by
  refine CW.enterM Tryd.func15 rfl (n := 53) rfl [.agg (iv .u8 l0).toArray, .int .u32 a1, .agg (iv .u8 l2).toArray, .slice A3 n3 c3] (Nat.le_of_ble_eq_true rfl) ?_
  refine CW.sub [(0, .agg (iv .u8 l0).toArray), (1, .int .u32 a1), (2, .agg (iv .u8 l2).toArray), (3, .slice A3 n3 c3)] ⟨rfl, rfl, rfl, rfl, trivial⟩ ?_
  have st0 : St w w [] := St.refl w
  refine CW.seq ?_
  refine CW.region ?_
  refine WL.box st0 rfl rfl ?_
  intro B_1 w_2 st_3
  replace st_3 : St w w_2 [.cells B_1 (iv .u8 l0) 23] := st_3
  refine WL.box st_3 rfl rfl ?_
  intro B_5 w_6 st_7
  replace st_7 : St w w_6 [.cells B_5 [.int .u32 a1] 24, .cells B_1 (iv .u8 l0) 23] := st_7
  refine WL.box st_7 rfl rfl ?_
  intro B_9 w_10 st_11
  replace st_11 : St w w_10 [.cells B_9 (iv .u8 l2) 47, .cells B_5 [.int .u32 a1] 24, .cells B_1 (iv .u8 l0) 23] := st_11
  refine WL.val Wanted.none (Runs.assign rfl) ?_
  refine WL.val Wanted.none (Runs.assign rfl) ?_
  refine WL.nil ?_
  refine QW.then_n ?_
  refine CW.seq ?_
  refine CW.region ?_
  refine WL.val Wanted.none (Runs.move rfl) ?_
  refine WL.val Wanted.none (Runs.len_sl Tryd.underlying26 rfl (by rw [hn3])) ?_
  refine WL.val Wanted.none (Runs.conv Tryd.underlying25 ⟨_, Tryd.underlying3⟩ rfl rfl) ?_
  refine WL.val Wanted.none (Runs.add rfl rfl rfl) ?_
  obtain ⟨x_13, e_14, H⟩ := H
  refine WL.val Wanted.none (Runs.sub rfl rfl e_14) ?_
  refine WL.val Wanted.none (Runs.quo rfl rfl (by decide) rfl) ?_
  refine WL.val Wanted.none (Runs.assign rfl) ?_
  refine WL.nil ?_
  refine QW.then_n ?_
  refine CW.sub [(3, .slice A3 n3 c3), (4, .pointer (some ⟨B_1, 0, none⟩)), (5, .pointer (some ⟨B_5, 0, none⟩)), (6, .pointer (some ⟨B_9, 0, none⟩)), (8, .slice none 0 0), (9, .int .i64 0), (10, .int .u64 (IntKind.u64.wrap (Int.tdiv x_13 64)))] ⟨rfl, rfl, rfl, rfl, rfl, rfl, rfl, trivial⟩ ?_
  refine CW.seq ?_
  refine CW.seq ?_
  refine CW.region ?_
  refine WL.val Wanted.none (Runs.load nagg24 rfl (st_11.cell (k := 1) rfl rfl)) ?_
  refine WL.val Wanted.none (Runs.conv Tryd.underlying25 ⟨_, Tryd.underlying24⟩ rfl rfl) ?_
  refine WL.val Wanted.none (Runs.move rfl) ?_
  obtain ⟨x_15, e_16, H⟩ := H
  refine WL.val Wanted.none (Runs.add rfl rfl e_16) ?_
  refine WL.val Wanted.none (Runs.gtr rfl rfl rfl) ?_
  refine WL.nil ?_
  refine QW.then_n ?_
  rcases H with ⟨c_17, H⟩ | ⟨c_17, H⟩
  · have h_18 : (decide (x_15 > 4294967296)) = true := (decide_eq_true c_17)
    refine CW.ct rfl h_18 ?_
    refine CW.seq ?_
    refine CW.region ?_
    refine WL.val Wanted.none (Runs.assign rfl) ?_
    refine WL.val Wanted.none (Runs.assign rfl) ?_
    refine WL.nil ?_
    refine QW.then_n ?_
    refine CW.sub [(3, .slice A3 n3 c3), (4, .pointer (some ⟨B_1, 0, none⟩)), (5, .pointer (some ⟨B_5, 0, none⟩)), (6, .pointer (some ⟨B_9, 0, none⟩)), (8, .slice none 0 0), (9, .int .i64 1)] ⟨rfl, rfl, rfl, rfl, rfl, rfl, trivial⟩ ?_
    refine CW.ret ?_
    refine QW.then_r ?_
    have st_20 := st_11.nil_sl 5 1
    have st_20 : St w w_10 [.sl none 0 0 (iv .u8 ([] : List Int)) 5 1, .cells B_9 (iv .u8 l2) 47, .cells B_5 [.int .u32 a1] 24, .cells B_1 (iv .u8 l0) 23] := st_20
    obtain ⟨rfl, rfl⟩ := H
    exact QW.ret2m rfl rfl rfl ⟨none, 0, 0, rfl, rfl, st_20.pick [0] (by decide)⟩
  · have h_18 : (decide (x_15 > 4294967296)) = false := (decide_eq_false c_17)
    refine CW.cf rfl h_18 ?_
    refine CW.skip ?_
    refine QW.then_n ?_
    refine CW.sub [(3, .slice A3 n3 c3), (4, .pointer (some ⟨B_1, 0, none⟩)), (5, .pointer (some ⟨B_5, 0, none⟩)), (6, .pointer (some ⟨B_9, 0, none⟩)), (8, .slice none 0 0), (9, .int .i64 0)] ⟨rfl, rfl, rfl, rfl, rfl, rfl, trivial⟩ ?_
    refine CW.seq ?_
    refine CW.region ?_
    refine WL.val Wanted.none (Runs.move rfl) ?_
    obtain ⟨r_25, hr_21, H⟩ := H
    refine WL.call Wanted.none ent27 rfl (slices_Clone_s_byte_byte.calls w_10 l3 A3 n3 c3 (hs3.ext st_11) (hn3) (hc3) r_25 hr_21) ?_
    rintro _ w_22 ⟨A_26, c_27, n_28, hn_29, rfl, sc_24⟩
    have st_23 : St w w_22 [.sl A_26 c_27 n_28 (iv .u8 r_25) 5 1, .cells B_9 (iv .u8 l2) 47, .cells B_5 [.int .u32 a1] 24, .cells B_1 (iv .u8 l0) 23] := st_11.call sc_24
    refine ⟨_, rfl, ?_⟩
    refine WL.val Wanted.none (Runs.assign rfl) ?_
    refine WL.nil ?_
    refine QW.then_n ?_
    refine CW.seq ?_
    refine CW.seq ?_
    refine CW.region ?_
    refine WL.val Wanted.none (Runs.move rfl) ?_
    refine WL.call Wanted.none ent28 rfl (slices_Chunk.calls w_22 A_26 n_28 c_27 64 (by decide)) ?_
    rintro _ w_33 ⟨B_31, B_32, rfl, sc_35⟩
    have st_34 : St w w_33 [.cells B_32 [.int .i64 ((64 : Nat) : Int)] 3, .cells B_31 [.slice A_26 n_28 c_27] 26, .sl A_26 c_27 n_28 (iv .u8 r_25) 5 1, .cells B_9 (iv .u8 l2) 47, .cells B_5 [.int .u32 a1] 24, .cells B_1 (iv .u8 l0) 23] := st_23.call sc_35
    refine ⟨_, rfl, ?_⟩
    refine WL.nil ?_
    refine QW.then_n ?_
    refine CW.block ?_
    obtain ⟨q_38, ⟨h_43, h_44, h_45⟩, Inv_39, g_40, hI_41, hB_42, l_103, x_105, e_100, H⟩ := H
    refine CW.sub [(4, .pointer (some ⟨B_1, 0, none⟩)), (5, .pointer (some ⟨B_5, 0, none⟩)), (6, .pointer (some ⟨B_9, 0, none⟩)), (8, .slice none 0 0), (9, .int .i64 0), (11, .slice A_26 n_28 c_27), (29, .func (.func 35) #[] #[.pointer (some ⟨B_31, 0, none⟩), .pointer (some ⟨B_32, 0, none⟩)])] ⟨rfl, rfl, rfl, rfl, rfl, rfl, rfl, trivial⟩ ?_
    have hc1 := st_34.cell (k := 1) (i := 0) rfl rfl
    have hc2 := st_34.cell (k := 0) (i := 0) rfl rfl
    refine CW.range2 (α := Fin q_38) (σ := (List Int) × Int) st_34 rfl ent35 (chunk_seq (c := 64) hc1 hc2 (st_34.cap (i := 2) rfl) (by decide) (by decide) (by rw [hn_29]; exact h_45) (by rw [hn_29]; exact h_43) (fun j hj => by rw [hn_29]; exact h_44 j hj)) (fun h k => h.trans k) (fun W j o o2 h1 h2 h3 => KpB.put (block_lt_of_cell hc1) (block_lt_of_cell hc2) W j o o2 h1 h2 h3) (fun pre_ (s_ : (List Int) × Int) => s_ = pre_.foldl (fun s_ x_ => g_40 x_.val s_) (r_25, a1) ∧ Inv_39 (s_.1) (s_.2) ∧ n_28 = (s_.1).length) (fun (s_ : (List Int) × Int) => [.cells B_32 [.int .i64 ((64 : Nat) : Int)] 3, .cells B_31 [.slice A_26 n_28 c_27] 26, .sl A_26 c_27 n_28 (iv .u8 (s_.1)) 5 1, .cells B_9 (iv .u8 l2) 47, .cells B_5 [.int .u32 (s_.2)] 24, .cells B_1 (iv .u8 l0) 23]) (fun _ => rfl) (fun s_ t_ _ h_ => blk_of_map (L1 := (fun (s_ : (List Int) × Int) => [.cells B_32 [.int .i64 ((64 : Nat) : Int)] 3, .cells B_31 [.slice A_26 n_28 c_27] 26, .sl A_26 c_27 n_28 (iv .u8 (s_.1)) 5 1, .cells B_9 (iv .u8 l2) 47, .cells B_5 [.int .u32 (s_.2)] 24, .cells B_1 (iv .u8 l0) 23]) s_) (L2 := (fun (s_ : (List Int) × Int) => [.cells B_32 [.int .i64 ((64 : Nat) : Int)] 3, .cells B_31 [.slice A_26 n_28 c_27] 26, .sl A_26 c_27 n_28 (iv .u8 (s_.1)) 5 1, .cells B_9 (iv .u8 l2) 47, .cells B_5 [.int .u32 (s_.2)] 24, .cells B_1 (iv .u8 l0) 23]) t_) rfl h_) (fun _ _ _ _ sa sb => ⟨(sb.cell (k := 1) rfl rfl).trans (sa.cell (k := 1) rfl rfl).symm, (sb.cell (k := 0) rfl rfl).trans (sa.cell (k := 0) rfl rfl).symm⟩) (r_25, a1) ⟨rfl, hI_41, hn_29⟩ rfl ?_ rfl ?_
    · rintro j_ pre_ x_46 ⟨l_52, x_54⟩ w_49 T_51 ⟨hs_47, hI_48, hn_53⟩ st_50
      replace st_50 : St w w_49 (.cells B_32 [.int .i64 ((64 : Nat) : Int)] 3 :: .cells B_31 [.slice A_26 n_28 c_27] 26 :: .sl A_26 c_27 n_28 (iv .u8 l_52) 5 1 :: .cells B_9 (iv .u8 l2) 47 :: .cells B_5 [.int .u32 x_54] 24 :: .cells B_1 (iv .u8 l0) 23 :: T_51) := st_50
      have hx_55 : 64 * x_46.val < n_28 := by have := h_44 x_46.val x_46.isLt; have := hn_29; omega
      have H := hB_42 x_46.val l_52 x_54 x_46.isLt hI_48 (hn_53.symm.trans hn_29)
      refine CF.block ?_
      refine CF.seq ?_
      refine CF.region (.inr ⟨j_, rfl⟩) (fun ⟨a, w, h⟩ => h) rfl ?_
      refine WL.val Wanted.none (Runs.load_arr arr23 rfl (st_50.blk (i := 5) rfl) hl0) ?_
      refine WL.val Wanted.none (Runs.load nagg24 rfl (st_50.cell (k := 4) rfl rfl)) ?_
      refine WL.val Wanted.none (Runs.load_arr arr47 rfl (st_50.blk (i := 3) rfl) hl2) ?_
      obtain ⟨r_60, hr_56, H⟩ := H
      refine WL.call Wanted.none ent29 rfl (cipher_Block.calls w_49 l0 x_54 l2 (hG0.ext st_50) hl0 hl2 r_60 hr_56) ?_
      rintro _ w_57 ⟨hl_61, rfl, sc_59⟩
      have st_58 : St w w_57 (.cells B_32 [.int .i64 ((64 : Nat) : Int)] 3 :: .cells B_31 [.slice A_26 n_28 c_27] 26 :: .sl A_26 c_27 n_28 (iv .u8 l_52) 5 1 :: .cells B_9 (iv .u8 l2) 47 :: .cells B_5 [.int .u32 x_54] 24 :: .cells B_1 (iv .u8 l0) 23 :: T_51) := st_50.call sc_59
      refine ⟨_, rfl, ?_⟩
      refine WL.alloc st_58 arr60.zero ?_
      intro B_62 w_63 st_64
      replace st_64 : St w w_63 (.cells B_62 (iv .u8 (List.replicate 64 (0 : Int))) 60 :: .cells B_32 [.int .i64 ((64 : Nat) : Int)] 3 :: .cells B_31 [.slice A_26 n_28 c_27] 26 :: .sl A_26 c_27 n_28 (iv .u8 l_52) 5 1 :: .cells B_9 (iv .u8 l2) 47 :: .cells B_5 [.int .u32 x_54] 24 :: .cells B_1 (iv .u8 l0) 23 :: T_51) := st_64
      refine WL.store_arr (i := 0) st_64 rfl arr60 rfl (by rw [iv_length]; exact (List.length_replicate ..)) hl_61 rfl ?_
      intro w_66 st_67
      replace st_67 : St w w_66 (.cells B_62 (iv .u8 r_60) 60 :: .cells B_32 [.int .i64 ((64 : Nat) : Int)] 3 :: .cells B_31 [.slice A_26 n_28 c_27] 26 :: .sl A_26 c_27 n_28 (iv .u8 l_52) 5 1 :: .cells B_9 (iv .u8 l2) 47 :: .cells B_5 [.int .u32 x_54] 24 :: .cells B_1 (iv .u8 l0) 23 :: T_51) := st_67
      refine WL.nil ?_
      refine QW.fthen_n ?_
      refine CF.seq ?_
      refine CF.seq ?_
      refine CF.region (.inr ⟨j_, rfl⟩) (fun ⟨a, w, h⟩ => h) rfl ?_
      refine WL.val Wanted.none (Runs.move rfl) ?_
      refine WL.val Wanted.none (Runs.len_sl Tryd.underlying26 rfl (by rw [show (min 64 (n_28 - 64 * x_46.val)) = (chl l_52 64 x_46.val).length from (show (min 64 (n_28 - 64 * x_46.val)) = (chl l_52 64 x_46.val).length from (by rw [hn_53]; exact chl_length _ _ _))])) ?_
      refine WL.val Wanted.none (Runs.move rfl) ?_
      refine WL.nil ?_
      refine QW.fthen_n ?_
      refine CF.block ?_
      obtain ⟨k_69, H⟩ := H
      refine CF.sub [(4, .pointer (some ⟨B_1, 0, none⟩)), (5, .pointer (some ⟨B_5, 0, none⟩)), (6, .pointer (some ⟨B_9, 0, none⟩)), (8, .slice none 0 0), (9, .int .i64 0), (11, .slice A_26 n_28 c_27), (12, .slice (A_26.map (·.add (64 * x_46.val))) (min 64 (n_28 - 64 * x_46.val)) (min 64 (n_28 - 64 * x_46.val))), (31, .agg (iv .u8 l0).toArray), (32, .int .u32 x_54), (33, .agg (iv .u8 l2).toArray), (34, .agg (iv .u8 r_60).toArray), (13, .pointer (some ⟨B_62, 0, none⟩)), (35, .slice (A_26.map (·.add (64 * x_46.val))) (min 64 (n_28 - 64 * x_46.val)) (min 64 (n_28 - 64 * x_46.val))), (36, .int .i64 ((chl l_52 64 x_46.val).length : Int)), (37, .int .i64 0)] ⟨rfl, rfl, rfl, rfl, rfl, rfl, rfl, rfl, rfl, rfl, rfl, rfl, rfl, rfl, rfl, trivial⟩ ?_
      refine CF.loop (fun kL1 l_ w_ => ∃ (l_70 : List Int) (x_72 : Int), l_ = [(4, .pointer (some ⟨B_1, 0, none⟩)), (5, .pointer (some ⟨B_5, 0, none⟩)), (6, .pointer (some ⟨B_9, 0, none⟩)), (8, .slice none 0 0), (9, .int .i64 0), (11, .slice A_26 n_28 c_27), (12, .slice (A_26.map (·.add (64 * x_46.val))) (min 64 (n_28 - 64 * x_46.val)) (min 64 (n_28 - 64 * x_46.val))), (31, .agg (iv .u8 l0).toArray), (32, .int .u32 x_54), (33, .agg (iv .u8 l2).toArray), (34, .agg (iv .u8 r_60).toArray), (13, .pointer (some ⟨B_62, 0, none⟩)), (35, .slice (A_26.map (·.add (64 * x_46.val))) (min 64 (n_28 - 64 * x_46.val)) (min 64 (n_28 - 64 * x_46.val))), (36, .int .i64 ((chl l_52 64 x_46.val).length : Int)), (37, .int .i64 x_72)] ∧ cipher_Crypt.L1 l_52 x_54 x_46 Inv_39 g_40 r_60 kL1 l_70 x_72 ∧ (n_28 = l_70.length) ∧ St w w_ (.cells B_62 (iv .u8 r_60) 60 :: .cells B_32 [.int .i64 ((64 : Nat) : Int)] 3 :: .cells B_31 [.slice A_26 n_28 c_27] 26 :: .sl A_26 c_27 n_28 (iv .u8 l_70) 5 1 :: .cells B_9 (iv .u8 l2) 47 :: .cells B_5 [.int .u32 x_54] 24 :: .cells B_1 (iv .u8 l0) 23 :: T_51)) (k := k_69) ⟨l_52, 0, rfl, H, hn_53, st_67⟩ (fun _ _ h => by obtain ⟨_, _, _, h, _⟩ := h; exact h.elim) ?_
      rintro kL1 l_75 w_73 ⟨l_70, x_72, rfl, H, hn_71, st_74⟩
      refine CF.seq ?_
      refine CF.region (.inr ⟨j_, rfl⟩) (fun ⟨a, w, h⟩ => h) rfl ?_
      refine WL.val Wanted.none (Runs.lss rfl rfl rfl) ?_
      refine WL.nil ?_
      refine QW.fthen_n ?_
      refine CF.seq ?_
      rcases H with ⟨c_76, H⟩ | ⟨c_76, H⟩
      · have h_77 : (decide (x_72 < ((chl l_52 64 x_46.val).length : Int))) = true := (decide_eq_true c_76)
        refine CF.ct rfl h_77 ?_
        refine CF.skip ?_
        refine QW.fthen_n ?_
        refine CF.seq ?_
        refine CF.block ?_
        refine CF.seq ?_
        refine CF.region (.inr ⟨j_, rfl⟩) (fun ⟨a, w, h⟩ => h) rfl ?_
        refine WL.val Wanted.none (Runs.move rfl) ?_
        refine WL.val Wanted.none (Runs.assign rfl) ?_
        refine WL.nil ?_
        refine QW.fthen_n ?_
        refine CF.region_qt 9 (.inr ⟨j_, rfl⟩) (fun ⟨a, w, h⟩ => h) rfl wide (by kernel_rfl) st_74 ?_
        refine HL.val Wanted.none (fun wq sq => (Runs.move rfl)) ?_
        refine HL.val Wanted.none (fun wq sq => (Runs.move rfl)) ?_
        obtain ⟨⟨p_78, q_79⟩, H⟩ := H
        obtain ⟨a_80, e_81⟩ := ((st_74.src_sl (k := 3) rfl).chunk 64 x_46.val).addr_iv ((x_72).toNat) (by omega)
        refine HL.val Wanted.none (fun wq sq => (Runs.indexAddr Tryd.underlying26 cells5 (by decide) rfl e_81 rfl p_78 (by rw [(show (min 64 (n_28 - 64 * x_46.val)) = (chl l_70 64 x_46.val).length from (by rw [hn_71]; exact chl_length _ _ _))]; exact q_79) (o := (x_72).toNat) (by first | rfl | omega))) ?_
        refine HL.val Wanted.none (fun wq sq => (Runs.load nagg5 rfl (((sq.src_sl (k := 3) rfl).chunk 64 x_46.val).cell_iv e_81 (by omega)))) ?_
        refine HL.val Wanted.none (fun wq sq => (Runs.move rfl)) ?_
        obtain ⟨⟨p_82, q_83⟩, H⟩ := H
        refine HL.val Wanted.none (fun wq sq => (Runs.indexAddr_blk arr60 rfl rfl p_82 q_83 (o := (x_72).toNat) (by first | rfl | omega))) ?_
        refine HL.val Wanted.none (fun wq sq => (Runs.load nagg5 rfl (sq.cell_iv (i := 0) rfl (by have := hl_61; omega)))) ?_
        obtain ⟨x_84, e_85, H⟩ := H
        refine HL.val Wanted.none (fun wq sq => (Runs.bxor rfl rfl e_85)) ?_
        obtain ⟨⟨p_86, q_87⟩, H⟩ := H
        obtain ⟨a_88, e_89⟩ := ((st_74.src_sl (k := 3) rfl).chunk 64 x_46.val).addr_iv ((x_72).toNat) (by omega)
        refine HL.val Wanted.none (fun wq sq => (Runs.indexAddr Tryd.underlying26 cells5 (by decide) rfl e_89 rfl p_86 (by rw [(show (min 64 (n_28 - 64 * x_46.val)) = (chl l_70 64 x_46.val).length from (by rw [hn_71]; exact chl_length _ _ _))]; exact q_87) (o := (x_72).toNat) (by first | rfl | omega))) ?_
        refine HL.nil (fun w_90 st_91 => ?_)
        obtain ⟨m_92, e_93, H⟩ := H
        have hj_ : (x_72).toNat < (min 64 (n_28 - 64 * x_46.val)) := by have := (show (min 64 (n_28 - 64 * x_46.val)) = (chl l_70 64 x_46.val).length from (by rw [hn_71]; exact chl_length _ _ _)); omega
        refine WL.store_sub (i := 3) (o := 64 * x_46.val) (N := (min 64 (n_28 - 64 * x_46.val))) st_91 rfl cells5 rfl e_89 (fun _ => rfl) hj_ (by rw [iv_length]; have := hn_71; have := hx_55; omega) rfl rfl ?_
        intro w_94 st_95
        have hn_96 : n_28 = m_92.length := by rw [e_93, List.length_set]; exact hn_71
        have st_95' : St w w_94 (.cells B_62 (iv .u8 r_60) 60 :: .cells B_32 [.int .i64 ((64 : Nat) : Int)] 3 :: .cells B_31 [.slice A_26 n_28 c_27] 26 :: .sl A_26 c_27 n_28 (iv .u8 m_92) 5 1 :: .cells B_9 (iv .u8 l2) 47 :: .cells B_5 [.int .u32 x_54] 24 :: .cells B_1 (iv .u8 l0) 23 :: T_51) := by rw [e_93, ← iv_set .u8 l_70 (64 * x_46.val + ((x_72).toNat)) x_84]; exact st_95
        refine WL.nil ?_
        refine QW.blk_n ?_
        refine QW.fthen_n ?_
        refine CF.region (.inr ⟨j_, rfl⟩) (fun ⟨a, w, h⟩ => h) rfl ?_
        refine WL.val Wanted.none (Runs.add rfl rfl rfl) ?_
        refine WL.val Wanted.none (Runs.move rfl) ?_
        refine WL.nil ?_
        exact QW.at [(4, .pointer (some ⟨B_1, 0, none⟩)), (5, .pointer (some ⟨B_5, 0, none⟩)), (6, .pointer (some ⟨B_9, 0, none⟩)), (8, .slice none 0 0), (9, .int .i64 0), (11, .slice A_26 n_28 c_27), (12, .slice (A_26.map (·.add (64 * x_46.val))) (min 64 (n_28 - 64 * x_46.val)) (min 64 (n_28 - 64 * x_46.val))), (31, .agg (iv .u8 l0).toArray), (32, .int .u32 x_54), (33, .agg (iv .u8 l2).toArray), (34, .agg (iv .u8 r_60).toArray), (13, .pointer (some ⟨B_62, 0, none⟩)), (35, .slice (A_26.map (·.add (64 * x_46.val))) (min 64 (n_28 - 64 * x_46.val)) (min 64 (n_28 - 64 * x_46.val))), (36, .int .i64 ((chl l_52 64 x_46.val).length : Int)), (37, .int .i64 (IntKind.i64.wrap (x_72 + 1)))] ⟨rfl, rfl, rfl, rfl, rfl, rfl, rfl, rfl, rfl, rfl, rfl, rfl, rfl, rfl, rfl, trivial⟩ ⟨m_92, IntKind.i64.wrap (x_72 + 1), rfl, H, hn_96, st_95'⟩
      · have h_77 : (decide (x_72 < ((chl l_52 64 x_46.val).length : Int))) = false := (decide_eq_false c_76)
        refine CF.cf rfl h_77 ?_
        refine CF.exit ?_
        refine QW.then_x ?_
        refine QW.then_x ?_
        refine QW.blk_x ?_
        refine QW.fthen_n ?_
        refine CF.region (.inr ⟨j_, rfl⟩) (fun ⟨a, w, h⟩ => h) rfl ?_
        refine WL.val Wanted.none (Runs.load nagg24 rfl (st_74.cell (k := 5) rfl rfl)) ?_
        refine WL.val Wanted.none (Runs.add rfl rfl rfl) ?_
        refine WL.store_cells (i := 5) (j := 0) st_74 rfl cells24 rfl (Nat.zero_lt_succ _) rfl rfl ?_
        intro w_97 st_98
        replace st_98 : St w w_97 (.cells B_62 (iv .u8 r_60) 60 :: .cells B_32 [.int .i64 ((64 : Nat) : Int)] 3 :: .cells B_31 [.slice A_26 n_28 c_27] 26 :: .sl A_26 c_27 n_28 (iv .u8 l_70) 5 1 :: .cells B_9 (iv .u8 l2) 47 :: .cells B_5 [.int .u32 (IntKind.u32.wrap (x_54 + 1))] 24 :: .cells B_1 (iv .u8 l0) 23 :: T_51) := st_98
        refine WL.nil ?_
        refine QW.blk_n ?_
        obtain ⟨hI1, hg1⟩ := H
        have st_98' := (St.pickT (L := [_, _, _, _, _, _, _]) st_98 [1, 2, 3, 4, 5, 6] (by decide))
        exact fun b hb hd => ⟨(l_70, IntKind.u32.wrap (x_54 + 1)), ⟨by rw [List.foldl_append, ← hs_47]; exact hg1, hI1, hn_71⟩, st_98'⟩
    · rintro D_99 ⟨z_0, z_1⟩ w_101 ⟨rfl_, _, hn_104⟩ st_102
      rw [foldl_fin, ← e_100] at rfl_
      simp only [Prod.mk.injEq] at rfl_
      obtain ⟨e_0, e_1⟩ := rfl_
      replace e_0 := e_0.symm
      subst e_0
      replace e_1 := e_1.symm
      subst e_1
      have st_102 : St w w_101 [.obj D_99 (.deferred (some [])), .cells B_32 [.int .i64 ((64 : Nat) : Int)] 3, .cells B_31 [.slice A_26 n_28 c_27] 26, .sl A_26 c_27 n_28 (iv .u8 l_103) 5 1, .cells B_9 (iv .u8 l2) 47, .cells B_5 [.int .u32 x_105] 24, .cells B_1 (iv .u8 l0) 23] := st_102
      refine QW.blk_n ?_
      refine QW.then_n ?_
      refine CW.seq ?_
      refine CW.region ?_
      refine WL.val Wanted.none (Runs.move rfl) ?_
      refine WL.val Wanted.none (Runs.assign rfl) ?_
      refine WL.val Wanted.none (Runs.assign rfl) ?_
      refine WL.nil ?_
      refine QW.then_n ?_
      refine CW.sub [(8, .slice A_26 n_28 c_27), (9, .int .i64 0)] ⟨rfl, rfl, trivial⟩ ?_
      refine CW.ret ?_
      obtain ⟨rfl, rfl⟩ := H
      refine QW.retM2 st_102 (i := 0) rfl rfl rfl rfl (fun wz stz => ?_)
      exact ⟨A_26, c_27, n_28, hn_104, rfl, stz.pick [3] (by decide)⟩

/-! ### word_Pad: function 17 -/
def word_Pad.rel (l0 : List Int) (a1 : Int) (r0 : List Int) : Prop := ((a1 < 1 ∧ r0 = []) ∨ (¬ (a1 < 1) ∧ ((0 ≤ a1 ∧ a1 ≤ 1099511627776) ∧ (∃ m_14 : List Int, m_14 = cpy (List.replicate (a1).toNat (0 : Int)) (0) ((List.replicate (a1).toNat (0 : Int)).length) l0 ∧ r0 = m_14))))
set_option maxHeartbeats 4000000 in
set_option maxRecDepth 100000 in
theorem word_Pad.calls (w : World) (l0 : List Int) (a1 : Int) (A0 : Option Addr) (n0 : Nat) (c0 : Nat)  (hs0 : Src w A0 (iv .u8 l0)) (hn0 : n0 = l0.length) (hc0 : n0 ≤ c0) (r0 : List Int) (H : word_Pad.rel l0 a1 r0) :
    Calls Tryd.prog 17 #[.slice A0 n0 c0, .int .i64 a1] w fun e w' => ∃ B0 q0 z0, z0 = r0.length ∧ e = .returned (.slice B0 z0 q0) ∧ St w w' [.sl B0 q0 z0 (iv .u8 r0) 5 1] := by
  refine CW.enter Tryd.func17 rfl (n := 14) rfl [.slice A0 n0 c0, .int .i64 a1] (Nat.le_of_ble_eq_true rfl) ?_
  refine CW.sub [(0, .slice A0 n0 c0), (1, .int .i64 a1)] ⟨rfl, rfl, trivial⟩ ?_
  have st0 : St w w [] := St.refl w
  refine CW.seq ?_
  refine CW.region ?_
  refine WL.val Wanted.none (Runs.assign rfl) ?_
  refine WL.nil ?_
  refine QW.then_n ?_
  refine CW.seq ?_
  refine CW.seq ?_
  refine CW.region ?_
  refine WL.val Wanted.none (Runs.move rfl) ?_
  refine WL.val Wanted.none (Runs.lss rfl rfl rfl) ?_
  refine WL.nil ?_
  refine QW.then_n ?_
  rcases H with ⟨c_1, H⟩ | ⟨c_1, H⟩
  · have h_2 : (decide (a1 < 1)) = true := (decide_eq_true c_1)
    refine CW.ct rfl h_2 ?_
    refine CW.seq ?_
    refine CW.region ?_
    refine WL.val Wanted.none (Runs.assign rfl) ?_
    refine WL.nil ?_
    refine QW.then_n ?_
    refine CW.ret ?_
    refine QW.then_r ?_
    have st_4 := st0.nil_sl 5 1
    have st_4 : St w w [.sl none 0 0 (iv .u8 ([] : List Int)) 5 1] := st_4
    obtain rfl := H
    exact QW.ret1 rfl rfl ⟨none, 0, 0, rfl, rfl, st_4.pick [0] (by decide)⟩
  · have h_2 : (decide (a1 < 1)) = false := (decide_eq_false c_1)
    refine CW.cf rfl h_2 ?_
    refine CW.skip ?_
    refine QW.then_n ?_
    refine CW.seq ?_
    refine CW.region ?_
    refine WL.val Wanted.none (Runs.move rfl) ?_
    obtain ⟨⟨p_5, q_6⟩, H⟩ := H
    obtain ⟨n_7, e_8⟩ : ∃ n_ : Nat, n_ = (a1).toNat := ⟨_, rfl⟩
    refine WL.make st0 Tryd.underlying26 elem5 rfl rfl p_5 q_6 (by decide) (N := n_7) e_8 ?_
    intro B_9 w_10 st_11
    replace st_11 : St w w_10 [.sl (some ⟨B_9, 0, none⟩) n_7 n_7 (iv .u8 (List.replicate (a1).toNat (0 : Int))) 5 1] := by rw [← e_8]; rw [iv_replicate] at st_11; exact st_11
    have hn_12 : n_7 = (List.replicate (a1).toNat (0 : Int)).length := by rw [List.length_replicate]; exact e_8
    refine WL.val Wanted.none (Runs.assign rfl) ?_
    refine WL.nil ?_
    refine QW.then_n ?_
    refine CW.seq ?_
    refine CW.region ?_
    refine WL.val Wanted.none (Runs.move rfl) ?_
    refine WL.val Wanted.none (Runs.move rfl) ?_
    obtain ⟨m_14, e_15, H⟩ := H
    have hfit_ : 0 + n_7 ≤ n_7 := by have := hn_12; omega
    refine WL.copy_sl (i := 0) (o := 0) st_11 rfl Tryd.underlying26 cells5 rfl rfl (fun _ => map_add_zero) hfit_ (hs0.ext st_11) (hn0.trans (iv_length .u8 _).symm) (one_iv .u8 _) ?_
    intro w_16 st_17
    have hn_18 : m_14.length = (List.replicate (a1).toNat (0 : Int)).length := by rw [e_15]; exact cpy_length (by have := (show n_7 = (List.replicate (a1).toNat (0 : Int)).length from hn_12); have := hn_12; omega)
    have hn_19 : n_7 = m_14.length := by rw [hn_18]; exact hn_12
    have st_17' : St w w_16 [.sl (some ⟨B_9, 0, none⟩) n_7 n_7 (iv .u8 m_14) 5 1] := by rw [e_15, ← (show n_7 = (List.replicate (a1).toNat (0 : Int)).length from hn_12), ← cpy_iv .u8]; exact st_17
    have z_20 := iv_length .u8 l0
    refine WL.nil ?_
    refine QW.then_n ?_
    refine CW.sub [(4, .slice none 0 0), (5, .slice (some ⟨B_9, 0, none⟩) n_7 n_7)] ⟨rfl, rfl, trivial⟩ ?_
    refine CW.seq ?_
    refine CW.region ?_
    refine WL.val Wanted.none (Runs.move rfl) ?_
    refine WL.val Wanted.none (Runs.assign rfl) ?_
    refine WL.nil ?_
    refine QW.then_n ?_
    refine CW.ret ?_
    obtain rfl := H
    exact QW.ret1 rfl rfl ⟨(some ⟨B_9, 0, none⟩), n_7, n_7, hn_19, rfl, st_17'.pick [0] (by decide)⟩

/-! ### seal_Seal: function 10 -/
def seal_Seal.rel (l0 : List Int) (a1 : Int) (a2 : Int) (l3 : List Int) (r0 : List Int) (r1 : Int) : Prop := (∃ (r_9 : Bool), seal_size.rel (l3.length : Int) r_9 ∧ ((¬ (r_9 = true) ∧ r0 = [] ∧ r1 = 1) ∨ (¬ (¬ (r_9 = true)) ∧ ((a2 = 0 ∧ r0 = [] ∧ r1 = 1) ∨ (¬ (a2 = 0) ∧ ((a2 = 18446744073709551615 ∧ r0 = [] ∧ r1 = 15) ∨ (¬ (a2 = 18446744073709551615) ∧ (∃ (r_28 : List Int), cipher_Nonce.rel a1 a2 r_28 ∧ (∃ (r_34 : List Int) (r_40 : Int), cipher_Crypt.rel l0 0 r_28 l3 r_34 r_40 ∧ ((r_40 ≠ 0 ∧ r0 = [] ∧ r1 = r_40) ∨ (¬ (r_40 ≠ 0) ∧ (∃ (r_49 : List Int), word_Put.rel a2 8 r_49 ∧ (∃ (r_64 : List Int), slices_Concat_s_byte_byte.rel ([r_49, r_34] : List (List Int)) r_64 ∧ (∃ (r_74 : List Int), word_Pad.rel r_64 192 r_74 ∧ r0 = r_74 ∧ r1 = 0))))))))))))))
set_option maxHeartbeats 4000000 in
set_option maxRecDepth 100000 in
theorem seal_Seal.calls (w : World) (l0 : List Int) (a1 : Int) (a2 : Int) (l3 : List Int) (A3 : Option Addr) (n3 : Nat) (c3 : Nat)  (hG0 : Src w (some ⟨0, 0, none⟩) (iv .i64 tab0)) (hl0 : l0.length = 32) (hs3 : Src w A3 (iv .u8 l3)) (hn3 : n3 = l3.length) (hc3 : n3 ≤ c3) (r0 : List Int) (r1 : Int) (H : seal_Seal.rel l0 a1 a2 l3 r0 r1) :
    Calls Tryd.prog 10 #[.agg (iv .u8 l0).toArray, .int .u32 a1, .int .u64 a2, .slice A3 n3 c3] w fun e w' => ∃ B0 q0 z0, z0 = r0.length ∧ e = .returned (.tuple #[.slice B0 z0 q0, .int .i64 r1]) ∧ St w w' [.sl B0 q0 z0 (iv .u8 r0) 5 1] := by
  refine CW.enter Tryd.func10 rfl (n := 42) rfl [.agg (iv .u8 l0).toArray, .int .u32 a1, .int .u64 a2, .slice A3 n3 c3] (Nat.le_of_ble_eq_true rfl) ?_
  refine CW.sub [(0, .agg (iv .u8 l0).toArray), (1, .int .u32 a1), (2, .int .u64 a2), (3, .slice A3 n3 c3)] ⟨rfl, rfl, rfl, rfl, trivial⟩ ?_
  have st0 : St w w [] := St.refl w
  refine CW.seq ?_
  refine CW.region ?_
  refine WL.box st0 rfl rfl ?_
  intro B_1 w_2 st_3
  replace st_3 : St w w_2 [.cells B_1 (iv .u8 l0) 23] := st_3
  refine WL.val Wanted.none (Runs.assign rfl) ?_
  refine WL.val Wanted.none (Runs.assign rfl) ?_
  refine WL.nil ?_
  refine QW.then_n ?_
  refine CW.seq ?_
  refine CW.block ?_
  refine CW.seq ?_
  refine CW.region ?_
  refine WL.val Wanted.none (Runs.move rfl) ?_
  refine WL.val Wanted.none (Runs.len_sl Tryd.underlying26 rfl (by rw [hn3])) ?_
  obtain ⟨r_9, hr_5, H⟩ := H
  refine WL.call Wanted.none ent14 rfl (seal_size.calls w_2 (l3.length : Int) r_9 hr_5) ?_
  rintro _ w_6 ⟨rfl, sc_8⟩
  have st_7 : St w w_6 [.cells B_1 (iv .u8 l0) 23] := st_3.call sc_8
  refine ⟨_, rfl, ?_⟩
  refine WL.val Wanted.none (Runs.not rfl rfl) ?_
  refine WL.val Wanted.none (Runs.move rfl) ?_
  rcases H with ⟨c_10, H⟩ | ⟨c_10, H⟩
  · have h_11 : (!r_9) = true := (not_t (Bool.eq_false_iff.mpr c_10))
    refine WL.off ?_ ?_; exact Wanted.guard (dj := 17) (by rfl) (evb (by rfl) h_11) (by rfl)
    refine WL.off ?_ ?_; exact Wanted.guard (dj := 17) (by rfl) (evb (by rfl) h_11) (by rfl)
    refine WL.val Wanted.none (Runs.pick_t (evb rfl h_11) rfl) ?_
    refine WL.val Wanted.none (Runs.assign rfl) ?_
    refine WL.nil ?_
    refine QW.then_n ?_
    refine CW.sub [(1, .int .u32 a1), (2, .int .u64 a2), (3, .slice A3 n3 c3), (4, .pointer (some ⟨B_1, 0, none⟩)), (8, .slice none 0 0), (9, .int .i64 0), (12, .bool true)] ⟨rfl, rfl, rfl, rfl, rfl, rfl, rfl, trivial⟩ ?_
    refine CW.ct rfl rfl ?_
    refine CW.seq ?_
    refine CW.region ?_
    refine WL.val Wanted.none (Runs.assign rfl) ?_
    refine WL.val Wanted.none (Runs.assign rfl) ?_
    refine WL.nil ?_
    refine QW.then_n ?_
    refine CW.ret ?_
    refine QW.blk_r ?_
    refine QW.then_r ?_
    have st_13 := st_7.nil_sl 5 1
    have st_13 : St w w_6 [.sl none 0 0 (iv .u8 ([] : List Int)) 5 1, .cells B_1 (iv .u8 l0) 23] := st_13
    obtain ⟨rfl, rfl⟩ := H
    exact QW.ret2 rfl rfl rfl ⟨none, 0, 0, rfl, rfl, st_13.pick [0] (by decide)⟩
  · have h_11 : (!r_9) = false := (not_f (Decidable.not_not.mp c_10))
    refine WL.on ?_ ?_; exact Wanted.guard (dj := 17) (by rfl) (evb (by rfl) h_11) (by rfl)
    refine WL.val Wanted.none (Runs.move rfl) ?_
    refine WL.on ?_ ?_; exact Wanted.guard (dj := 17) (by rfl) (evb (by rfl) h_11) (by rfl)
    refine WL.val Wanted.none (Runs.eql rfl rfl rfl) ?_
    refine WL.val Wanted.none (Runs.pick_f (evb rfl h_11) rfl) ?_
    refine WL.val Wanted.none (Runs.assign rfl) ?_
    refine WL.nil ?_
    refine QW.then_n ?_
    refine CW.sub [(1, .int .u32 a1), (2, .int .u64 a2), (3, .slice A3 n3 c3), (4, .pointer (some ⟨B_1, 0, none⟩)), (8, .slice none 0 0), (9, .int .i64 0), (12, .bool (a2 == 0))] ⟨rfl, rfl, rfl, rfl, rfl, rfl, rfl, trivial⟩ ?_
    rcases H with ⟨c_14, H⟩ | ⟨c_14, H⟩
    · have h_15 : (a2 == 0) = true := (beq_iff_eq.mpr c_14)
      refine CW.ct rfl h_15 ?_
      refine CW.seq ?_
      refine CW.region ?_
      refine WL.val Wanted.none (Runs.assign rfl) ?_
      refine WL.val Wanted.none (Runs.assign rfl) ?_
      refine WL.nil ?_
      refine QW.then_n ?_
      refine CW.ret ?_
      refine QW.blk_r ?_
      refine QW.then_r ?_
      have st_17 := st_7.nil_sl 5 1
      have st_17 : St w w_6 [.sl none 0 0 (iv .u8 ([] : List Int)) 5 1, .cells B_1 (iv .u8 l0) 23] := st_17
      obtain ⟨rfl, rfl⟩ := H
      exact QW.ret2 rfl rfl rfl ⟨none, 0, 0, rfl, rfl, st_17.pick [0] (by decide)⟩
    · have h_15 : (a2 == 0) = false := (beq_eq_false_iff_ne.mpr c_14)
      refine CW.cf rfl h_15 ?_
      refine CW.seq ?_
      refine CW.region ?_
      refine WL.val Wanted.none (Runs.move rfl) ?_
      refine WL.val Wanted.none (Runs.eql rfl rfl rfl) ?_
      refine WL.val Wanted.none (Runs.assign rfl) ?_
      refine WL.nil ?_
      refine QW.then_n ?_
      rcases H with ⟨c_18, H⟩ | ⟨c_18, H⟩
      · have h_19 : (a2 == 18446744073709551615) = true := (beq_iff_eq.mpr c_18)
        refine CW.ct rfl h_19 ?_
        refine CW.seq ?_
        refine CW.region ?_
        refine WL.val Wanted.none (Runs.assign rfl) ?_
        refine WL.val Wanted.none (Runs.assign rfl) ?_
        refine WL.nil ?_
        refine QW.then_n ?_
        refine CW.ret ?_
        refine QW.blk_r ?_
        refine QW.then_r ?_
        have st_21 := st_7.nil_sl 5 1
        have st_21 : St w w_6 [.sl none 0 0 (iv .u8 ([] : List Int)) 5 1, .cells B_1 (iv .u8 l0) 23] := st_21
        obtain ⟨rfl, rfl⟩ := H
        exact QW.ret2 rfl rfl rfl ⟨none, 0, 0, rfl, rfl, st_21.pick [0] (by decide)⟩
      · have h_19 : (a2 == 18446744073709551615) = false := (beq_eq_false_iff_ne.mpr c_18)
        refine CW.cf rfl h_19 ?_
        refine CW.skip ?_
        refine QW.blk_n ?_
        refine QW.then_n ?_
        refine CW.seq ?_
        refine CW.region_aw wide st_7 (fun w_22 st_23 => ?_)
        refine AW.take 1 rfl (by kernel_rfl) (by kernel_rfl) (by kernel_rfl) Wanted.none (fun _ => (Runs.move rfl)) ?_
        refine AW.take 2 rfl (by kernel_rfl) (by kernel_rfl) (by kernel_rfl) Wanted.none (fun _ => (Runs.move rfl)) ?_
        refine AW.take 4 rfl (by kernel_rfl) (by kernel_rfl) (by kernel_rfl) Wanted.none (fun _ => (Runs.move rfl)) ?_
        refine AW.step2 0 3 rfl rfl (by kernel_rfl) ?_ ?_
        · refine WL.val Wanted.none (Runs.load_arr arr23 rfl (st_23.blk (i := 0) rfl) hl0) ?_
          refine WL.nil ?_
          refine AW.back ?_
          refine AW.step 3 rfl (by kernel_rfl) ?_
          obtain ⟨r_28, hr_24, H⟩ := H
          refine WL.call Wanted.none ent16 rfl (cipher_Nonce.calls w_22 a1 a2 r_28 hr_24) ?_
          rintro _ w_25 ⟨hl_29, rfl, sc_27⟩
          have st_26 : St w w_25 [.cells B_1 (iv .u8 l0) 23] := st_23.call sc_27
          refine ⟨_, rfl, ?_⟩
          refine WL.nil ?_
          refine AW.back ?_
          refine AW.step 5 rfl (by kernel_rfl) ?_
          obtain ⟨r_34, r_40, hr_30, H⟩ := H
          refine WL.call Wanted.none ent15 rfl (cipher_Crypt.calls w_25 l0 0 r_28 l3 A3 n3 c3 (hG0.ext st_26) hl0 hl_29 (hs3.ext st_26) (hn3) (hc3) r_34 r_40 hr_30) ?_
          rintro _ w_31 ⟨A_35, c_36, n_37, hn_38, rfl, sc_33⟩
          have st_32 : St w w_31 [.sl A_35 c_36 n_37 (iv .u8 r_34) 5 1, .cells B_1 (iv .u8 l0) 23] := st_26.call sc_33
          refine ⟨_, rfl, ?_⟩
          refine WL.nil ?_
          refine AW.back ?_
          refine AW.take 6 rfl (by kernel_rfl) (by kernel_rfl) (by kernel_rfl) Wanted.none (fun _ => (Runs.move rfl)) ?_
          refine AW.take 7 rfl (by kernel_rfl) (by kernel_rfl) (by kernel_rfl) Wanted.none (fun _ => (Runs.extract rfl rfl)) ?_
          refine AW.take 8 rfl (by kernel_rfl) (by kernel_rfl) (by kernel_rfl) Wanted.none (fun _ => (Runs.extract rfl rfl)) ?_
          refine AW.take 9 rfl (by kernel_rfl) (by kernel_rfl) (by kernel_rfl) Wanted.none (fun _ => (Runs.assign rfl)) ?_
          refine AW.take 10 rfl (by kernel_rfl) (by kernel_rfl) (by kernel_rfl) Wanted.none (fun _ => (Runs.assign rfl)) ?_
          refine AW.done (by kernel_rfl) ?_
          refine QW.then_n ?_
          refine CW.sub [(2, .int .u64 a2), (8, .slice none 0 0), (9, .int .i64 0), (10, .slice A_35 n_37 c_36), (11, .int .i64 r_40)] ⟨rfl, rfl, rfl, rfl, rfl, trivial⟩ ?_
          refine CW.seq ?_
          refine CW.seq ?_
          refine CW.region ?_
          refine WL.val Wanted.none (Runs.move rfl) ?_
          refine WL.val Wanted.none (Runs.neq rfl rfl rfl) ?_
          refine WL.nil ?_
          refine QW.then_n ?_
          rcases H with ⟨c_41, H⟩ | ⟨c_41, H⟩
          · have h_42 : (r_40 != 0) = true := (bne_iff_ne.mpr c_41)
            refine CW.ct rfl h_42 ?_
            refine CW.seq ?_
            refine CW.region ?_
            refine WL.val Wanted.none (Runs.move rfl) ?_
            refine WL.val Wanted.none (Runs.assign rfl) ?_
            refine WL.val Wanted.none (Runs.assign rfl) ?_
            refine WL.nil ?_
            refine QW.then_n ?_
            refine CW.ret ?_
            refine QW.then_r ?_
            have st_44 := st_32.nil_sl 5 1
            have st_44 : St w w_31 [.sl none 0 0 (iv .u8 ([] : List Int)) 5 1, .sl A_35 c_36 n_37 (iv .u8 r_34) 5 1, .cells B_1 (iv .u8 l0) 23] := st_44
            obtain ⟨rfl, rfl⟩ := H
            exact QW.ret2 rfl rfl rfl ⟨none, 0, 0, rfl, rfl, st_44.pick [0] (by decide)⟩
          · have h_42 : (r_40 != 0) = false := (bne_eq_false_iff_eq.mpr (Decidable.not_not.mp c_41))
            refine CW.cf rfl h_42 ?_
            refine CW.skip ?_
            refine QW.then_n ?_
            refine CW.seq ?_
            refine CW.region ?_
            refine WL.val Wanted.none (Runs.move rfl) ?_
            obtain ⟨r_49, hr_45, H⟩ := H
            refine WL.call Wanted.none ent19 rfl (word_Put.calls w_31 a2 8 r_49 hr_45) ?_
            rintro _ w_46 ⟨A_50, c_51, n_52, hn_53, rfl, sc_48⟩
            have st_47 : St w w_46 [.sl A_50 c_51 n_52 (iv .u8 r_49) 5 1, .sl A_35 c_36 n_37 (iv .u8 r_34) 5 1, .cells B_1 (iv .u8 l0) 23] := st_32.call sc_48
            refine ⟨_, rfl, ?_⟩
            refine WL.val Wanted.none (Runs.move rfl) ?_
            refine WL.buildSl [.slice A_50 n_52 c_51, .slice A_35 n_37 c_36] st_47 Tryd.underlying62 elem26 rfl rfl (by decide) (by decide) (by simp [Value.cells]) ?_
            intro B_55 w_56 st_57
            replace st_57 : St w w_56 [.sl (some ⟨B_55, 0, none⟩) 2 2 [.slice A_50 n_52 c_51, .slice A_35 n_37 c_36] 26 1, .sl A_50 c_51 n_52 (iv .u8 r_49) 5 1, .sl A_35 c_36 n_37 (iv .u8 r_34) 5 1, .cells B_1 (iv .u8 l0) 23] := st_57
            have hr_59 : RowsOf w_56 .u8 (some ⟨B_55, 0, none⟩) ([r_49, r_34] : List (List Int)) := RowsOf.lit (st_57.src_sl (k := 0) rfl) rfl (fun j hj => by match j, hj with | 0, _ => exact ⟨_, _, _, rfl, hn_53, st_57.cap (i := 1) rfl, st_57.src_sl (k := 1) rfl⟩ | 1, _ => exact ⟨_, _, _, rfl, hn_38, st_57.cap (i := 2) rfl, st_57.src_sl (k := 2) rfl⟩ | j + 2, hj => exact absurd (show j + 2 < 2 from hj) (by omega))
            obtain ⟨r_64, hr_60, H⟩ := H
            refine WL.call Wanted.none ent18 rfl (slices_Concat_s_byte_byte.calls w_56 ([r_49, r_34] : List (List Int)) (some ⟨B_55, 0, none⟩) 2 2 (hr_59) (rfl) (Nat.le_refl _) r_64 hr_60) ?_
            rintro _ w_61 ⟨A_65, c_66, n_67, hn_68, rfl, sc_63⟩
            have st_62 : St w w_61 [.sl A_65 c_66 n_67 (iv .u8 r_64) 5 1, .sl (some ⟨B_55, 0, none⟩) 2 2 [.slice A_50 n_52 c_51, .slice A_35 n_37 c_36] 26 1, .sl A_50 c_51 n_52 (iv .u8 r_49) 5 1, .sl A_35 c_36 n_37 (iv .u8 r_34) 5 1, .cells B_1 (iv .u8 l0) 23] := st_57.call sc_63
            refine ⟨_, rfl, ?_⟩
            obtain ⟨r_74, hr_70, H⟩ := H
            refine WL.call Wanted.none ent17 rfl (word_Pad.calls w_61 r_64 192 A_65 n_67 c_66 (st_62.src_sl (k := 0) rfl) (hn_68) (st_62.cap (i := 0) rfl) r_74 hr_70) ?_
            rintro _ w_71 ⟨A_75, c_76, n_77, hn_78, rfl, sc_73⟩
            have st_72 : St w w_71 [.sl A_75 c_76 n_77 (iv .u8 r_74) 5 1, .sl A_65 c_66 n_67 (iv .u8 r_64) 5 1, .sl (some ⟨B_55, 0, none⟩) 2 2 [.slice A_50 n_52 c_51, .slice A_35 n_37 c_36] 26 1, .sl A_50 c_51 n_52 (iv .u8 r_49) 5 1, .sl A_35 c_36 n_37 (iv .u8 r_34) 5 1, .cells B_1 (iv .u8 l0) 23] := st_62.call sc_73
            refine ⟨_, rfl, ?_⟩
            refine WL.val Wanted.none (Runs.assign rfl) ?_
            refine WL.val Wanted.none (Runs.assign rfl) ?_
            refine WL.nil ?_
            refine QW.then_n ?_
            refine CW.sub [(8, .slice A_75 n_77 c_76), (9, .int .i64 0)] ⟨rfl, rfl, trivial⟩ ?_
            refine CW.ret ?_
            obtain ⟨rfl, rfl⟩ := H
            exact QW.ret2 rfl rfl rfl ⟨A_75, c_76, n_77, hn_78, rfl, st_72.pick [0] (by decide)⟩
        · obtain ⟨r_84, hr_80, H⟩ := H
          refine WL.call Wanted.none ent16 rfl (cipher_Nonce.calls w_22 a1 a2 r_84 hr_80) ?_
          rintro _ w_81 ⟨hl_85, rfl, sc_83⟩
          have st_82 : St w w_81 [.cells B_1 (iv .u8 l0) 23] := st_23.call sc_83
          refine ⟨_, rfl, ?_⟩
          refine WL.nil ?_
          refine AW.back ?_
          refine AW.step 0 rfl (by kernel_rfl) ?_
          refine WL.val Wanted.none (Runs.load_arr arr23 rfl (st_82.blk (i := 0) rfl) hl0) ?_
          refine WL.nil ?_
          refine AW.back ?_
          refine AW.step 5 rfl (by kernel_rfl) ?_
          obtain ⟨r_90, r_96, hr_86, H⟩ := H
          refine WL.call Wanted.none ent15 rfl (cipher_Crypt.calls w_81 l0 0 r_84 l3 A3 n3 c3 (hG0.ext st_82) hl0 hl_85 (hs3.ext st_82) (hn3) (hc3) r_90 r_96 hr_86) ?_
          rintro _ w_87 ⟨A_91, c_92, n_93, hn_94, rfl, sc_89⟩
          have st_88 : St w w_87 [.sl A_91 c_92 n_93 (iv .u8 r_90) 5 1, .cells B_1 (iv .u8 l0) 23] := st_82.call sc_89
          refine ⟨_, rfl, ?_⟩
          refine WL.nil ?_
          refine AW.back ?_
          refine AW.take 6 rfl (by kernel_rfl) (by kernel_rfl) (by kernel_rfl) Wanted.none (fun _ => (Runs.move rfl)) ?_
          refine AW.take 7 rfl (by kernel_rfl) (by kernel_rfl) (by kernel_rfl) Wanted.none (fun _ => (Runs.extract rfl rfl)) ?_
          refine AW.take 8 rfl (by kernel_rfl) (by kernel_rfl) (by kernel_rfl) Wanted.none (fun _ => (Runs.extract rfl rfl)) ?_
          refine AW.take 9 rfl (by kernel_rfl) (by kernel_rfl) (by kernel_rfl) Wanted.none (fun _ => (Runs.assign rfl)) ?_
          refine AW.take 10 rfl (by kernel_rfl) (by kernel_rfl) (by kernel_rfl) Wanted.none (fun _ => (Runs.assign rfl)) ?_
          refine AW.done (by kernel_rfl) ?_
          refine QW.then_n ?_
          refine CW.sub [(2, .int .u64 a2), (8, .slice none 0 0), (9, .int .i64 0), (10, .slice A_91 n_93 c_92), (11, .int .i64 r_96)] ⟨rfl, rfl, rfl, rfl, rfl, trivial⟩ ?_
          refine CW.seq ?_
          refine CW.seq ?_
          refine CW.region ?_
          refine WL.val Wanted.none (Runs.move rfl) ?_
          refine WL.val Wanted.none (Runs.neq rfl rfl rfl) ?_
          refine WL.nil ?_
          refine QW.then_n ?_
          rcases H with ⟨c_97, H⟩ | ⟨c_97, H⟩
          · have h_98 : (r_96 != 0) = true := (bne_iff_ne.mpr c_97)
            refine CW.ct rfl h_98 ?_
            refine CW.seq ?_
            refine CW.region ?_
            refine WL.val Wanted.none (Runs.move rfl) ?_
            refine WL.val Wanted.none (Runs.assign rfl) ?_
            refine WL.val Wanted.none (Runs.assign rfl) ?_
            refine WL.nil ?_
            refine QW.then_n ?_
            refine CW.ret ?_
            refine QW.then_r ?_
            have st_100 := st_88.nil_sl 5 1
            have st_100 : St w w_87 [.sl none 0 0 (iv .u8 ([] : List Int)) 5 1, .sl A_91 c_92 n_93 (iv .u8 r_90) 5 1, .cells B_1 (iv .u8 l0) 23] := st_100
            obtain ⟨rfl, rfl⟩ := H
            exact QW.ret2 rfl rfl rfl ⟨none, 0, 0, rfl, rfl, st_100.pick [0] (by decide)⟩
          · have h_98 : (r_96 != 0) = false := (bne_eq_false_iff_eq.mpr (Decidable.not_not.mp c_97))
            refine CW.cf rfl h_98 ?_
            refine CW.skip ?_
            refine QW.then_n ?_
            refine CW.seq ?_
            refine CW.region ?_
            refine WL.val Wanted.none (Runs.move rfl) ?_
            obtain ⟨r_105, hr_101, H⟩ := H
            refine WL.call Wanted.none ent19 rfl (word_Put.calls w_87 a2 8 r_105 hr_101) ?_
            rintro _ w_102 ⟨A_106, c_107, n_108, hn_109, rfl, sc_104⟩
            have st_103 : St w w_102 [.sl A_106 c_107 n_108 (iv .u8 r_105) 5 1, .sl A_91 c_92 n_93 (iv .u8 r_90) 5 1, .cells B_1 (iv .u8 l0) 23] := st_88.call sc_104
            refine ⟨_, rfl, ?_⟩
            refine WL.val Wanted.none (Runs.move rfl) ?_
            refine WL.buildSl [.slice A_106 n_108 c_107, .slice A_91 n_93 c_92] st_103 Tryd.underlying62 elem26 rfl rfl (by decide) (by decide) (by simp [Value.cells]) ?_
            intro B_111 w_112 st_113
            replace st_113 : St w w_112 [.sl (some ⟨B_111, 0, none⟩) 2 2 [.slice A_106 n_108 c_107, .slice A_91 n_93 c_92] 26 1, .sl A_106 c_107 n_108 (iv .u8 r_105) 5 1, .sl A_91 c_92 n_93 (iv .u8 r_90) 5 1, .cells B_1 (iv .u8 l0) 23] := st_113
            have hr_115 : RowsOf w_112 .u8 (some ⟨B_111, 0, none⟩) ([r_105, r_90] : List (List Int)) := RowsOf.lit (st_113.src_sl (k := 0) rfl) rfl (fun j hj => by match j, hj with | 0, _ => exact ⟨_, _, _, rfl, hn_109, st_113.cap (i := 1) rfl, st_113.src_sl (k := 1) rfl⟩ | 1, _ => exact ⟨_, _, _, rfl, hn_94, st_113.cap (i := 2) rfl, st_113.src_sl (k := 2) rfl⟩ | j + 2, hj => exact absurd (show j + 2 < 2 from hj) (by omega))
            obtain ⟨r_120, hr_116, H⟩ := H
            refine WL.call Wanted.none ent18 rfl (slices_Concat_s_byte_byte.calls w_112 ([r_105, r_90] : List (List Int)) (some ⟨B_111, 0, none⟩) 2 2 (hr_115) (rfl) (Nat.le_refl _) r_120 hr_116) ?_
            rintro _ w_117 ⟨A_121, c_122, n_123, hn_124, rfl, sc_119⟩
            have st_118 : St w w_117 [.sl A_121 c_122 n_123 (iv .u8 r_120) 5 1, .sl (some ⟨B_111, 0, none⟩) 2 2 [.slice A_106 n_108 c_107, .slice A_91 n_93 c_92] 26 1, .sl A_106 c_107 n_108 (iv .u8 r_105) 5 1, .sl A_91 c_92 n_93 (iv .u8 r_90) 5 1, .cells B_1 (iv .u8 l0) 23] := st_113.call sc_119
            refine ⟨_, rfl, ?_⟩
            obtain ⟨r_130, hr_126, H⟩ := H
            refine WL.call Wanted.none ent17 rfl (word_Pad.calls w_117 r_120 192 A_121 n_123 c_122 (st_118.src_sl (k := 0) rfl) (hn_124) (st_118.cap (i := 0) rfl) r_130 hr_126) ?_
            rintro _ w_127 ⟨A_131, c_132, n_133, hn_134, rfl, sc_129⟩
            have st_128 : St w w_127 [.sl A_131 c_132 n_133 (iv .u8 r_130) 5 1, .sl A_121 c_122 n_123 (iv .u8 r_120) 5 1, .sl (some ⟨B_111, 0, none⟩) 2 2 [.slice A_106 n_108 c_107, .slice A_91 n_93 c_92] 26 1, .sl A_106 c_107 n_108 (iv .u8 r_105) 5 1, .sl A_91 c_92 n_93 (iv .u8 r_90) 5 1, .cells B_1 (iv .u8 l0) 23] := st_118.call sc_129
            refine ⟨_, rfl, ?_⟩
            refine WL.val Wanted.none (Runs.assign rfl) ?_
            refine WL.val Wanted.none (Runs.assign rfl) ?_
            refine WL.nil ?_
            refine QW.then_n ?_
            refine CW.sub [(8, .slice A_131 n_133 c_132), (9, .int .i64 0)] ⟨rfl, rfl, trivial⟩ ?_
            refine CW.ret ?_
            obtain ⟨rfl, rfl⟩ := H
            exact QW.ret2 rfl rfl rfl ⟨A_131, c_132, n_133, hn_134, rfl, st_128.pick [0] (by decide)⟩

/-! ### seal_Open_1: function 25 -/
def seal_Open_1.rel (a0 : Int) (r0 : Bool) : Prop := r0 = (a0 != 0)
set_option maxHeartbeats 4000000 in
set_option maxRecDepth 100000 in
theorem seal_Open_1.calls (w : World) (a0 : Int)    (r0 : Bool) (H : seal_Open_1.rel a0 r0) :
    Calls Tryd.prog 25 #[.int .u8 a0] w fun e w' => e = .returned (.bool r0) ∧ St w w' [] := by
  refine CW.enter Tryd.func25 rfl (n := 5) rfl [.int .u8 a0] (Nat.le_of_ble_eq_true rfl) ?_
  refine CW.sub [(0, .int .u8 a0)] ⟨rfl, trivial⟩ ?_
  have st0 : St w w [] := St.refl w
  refine CW.seq ?_
  refine CW.region ?_
  refine WL.val Wanted.none (Runs.assign rfl) ?_
  refine WL.nil ?_
  refine QW.then_n ?_
  refine CW.seq ?_
  refine CW.region ?_
  refine WL.val Wanted.none (Runs.move rfl) ?_
  refine WL.val Wanted.none (Runs.neq rfl rfl rfl) ?_
  refine WL.val Wanted.none (Runs.assign rfl) ?_
  refine WL.nil ?_
  refine QW.then_n ?_
  refine CW.ret ?_
  obtain rfl := H
  exact QW.ret1 rfl rfl ⟨rfl, st0.pick [] (by decide)⟩

/-! ### slices_IndexFunc_s_byte_byte_fn1_seal_Open_1: function 34 -/
def slices_IndexFunc_s_byte_byte_fn1_seal_Open_1.L1 (l0 : List Int) (r0 : Int) : Nat → Int → Int → Prop
  | 0, _, _ => False
  | kL1 + 1, x_2, x_3 => ((x_3 < (l0.length : Int) ∧ ((0 ≤ x_3 ∧ x_3 < (l0.length : Int)) ∧ (∃ (r_17 : Bool), seal_Open_1.rel (gn l0 ((x_3).toNat)) r_17 ∧ ((r_17 = true ∧ r0 = x_3) ∨ (¬ (r_17 = true) ∧ slices_IndexFunc_s_byte_byte_fn1_seal_Open_1.L1 l0 r0 kL1 x_2 (IntKind.i64.wrap (x_3 + 1))))))) ∨ (¬ (x_3 < (l0.length : Int)) ∧ r0 = -1))
def slices_IndexFunc_s_byte_byte_fn1_seal_Open_1.rel (l0 : List Int) (r0 : Int) : Prop := (∃ k_ : Nat, slices_IndexFunc_s_byte_byte_fn1_seal_Open_1.L1 l0 r0 k_ 0 0)
set_option maxHeartbeats 4000000 in
set_option maxRecDepth 100000 in
theorem slices_IndexFunc_s_byte_byte_fn1_seal_Open_1.calls (w : World) (l0 : List Int) (A0 : Option Addr) (n0 : Nat) (c0 : Nat)  (hs0 : Src w A0 (iv .u8 l0)) (hn0 : n0 = l0.length) (hc0 : n0 ≤ c0) (r0 : Int) (H : slices_IndexFunc_s_byte_byte_fn1_seal_Open_1.rel l0 r0) :
    Calls Tryd.prog 34 #[.slice A0 n0 c0, .func (.func 25) #[] #[]] w fun e w' => e = .returned (.int .i64 r0) ∧ St w w' [] := by
  refine CW.enter Tryd.func34 rfl (n := 19) rfl [.slice A0 n0 c0, .func (.func 25) #[] #[]] (Nat.le_of_ble_eq_true rfl) ?_
  refine CW.sub [(0, .slice A0 n0 c0), (1, .func (.func 25) #[] #[])] ⟨rfl, rfl, trivial⟩ ?_
  have st0 : St w w [] := St.refl w
  refine CW.seq ?_
  refine CW.region ?_
  refine WL.val Wanted.none (Runs.assign rfl) ?_
  refine WL.nil ?_
  refine QW.then_n ?_
  refine CW.seq ?_
  refine CW.seq ?_
  refine CW.region ?_
  refine WL.val Wanted.none (Runs.move rfl) ?_
  refine WL.val Wanted.none (Runs.len_sl Tryd.underlying26 rfl (by rw [hn0])) ?_
  refine WL.val Wanted.none (Runs.move rfl) ?_
  refine WL.nil ?_
  refine QW.then_n ?_
  refine CW.block ?_
  obtain ⟨k_1, H⟩ := H
  refine CW.sub [(0, .slice A0 n0 c0), (1, .func (.func 25) #[] #[]), (4, .int .i64 0), (7, .int .i64 (l0.length : Int)), (8, .int .i64 0)] ⟨rfl, rfl, rfl, rfl, rfl, trivial⟩ ?_
  refine CW.loop (fun kL1 l_ w_ => ∃ (x_2 : Int) (x_3 : Int), l_ = [(0, .slice A0 n0 c0), (1, .func (.func 25) #[] #[]), (4, .int .i64 x_2), (7, .int .i64 (l0.length : Int)), (8, .int .i64 x_3)] ∧ slices_IndexFunc_s_byte_byte_fn1_seal_Open_1.L1 l0 r0 kL1 x_2 x_3 ∧ St w w_ []) (k := k_1) ⟨0, 0, rfl, H, st0⟩ (fun _ _ h => by obtain ⟨_, _, _, h, _⟩ := h; exact h.elim) ?_
  rintro kL1 l_6 w_4 ⟨x_2, x_3, rfl, H, st_5⟩
  refine CW.seq ?_
  refine CW.region ?_
  refine WL.val Wanted.none (Runs.lss rfl rfl rfl) ?_
  refine WL.nil ?_
  refine QW.then_n ?_
  refine CW.seq ?_
  rcases H with ⟨c_7, H⟩ | ⟨c_7, H⟩
  · have h_8 : (decide (x_3 < (l0.length : Int))) = true := (decide_eq_true c_7)
    refine CW.ct rfl h_8 ?_
    refine CW.skip ?_
    refine QW.then_n ?_
    refine CW.seq ?_
    refine CW.block ?_
    refine CW.seq ?_
    refine CW.region ?_
    refine WL.val Wanted.none (Runs.move rfl) ?_
    refine WL.val Wanted.none (Runs.assign rfl) ?_
    refine WL.nil ?_
    refine QW.then_n ?_
    refine CW.seq ?_
    refine CW.region ?_
    refine WL.val Wanted.none (Runs.move rfl) ?_
    refine WL.val Wanted.none (Runs.move rfl) ?_
    refine WL.val Wanted.none (Runs.move rfl) ?_
    obtain ⟨⟨p_9, q_10⟩, H⟩ := H
    obtain ⟨a_11, e_12⟩ := (hs0.ext st_5).addr_iv ((x_3).toNat) (by omega)
    refine WL.val Wanted.none (Runs.indexAddr Tryd.underlying26 cells5 (by decide) rfl e_12 rfl p_9 (by rw [hn0]; exact q_10) (o := (x_3).toNat) (by first | rfl | omega)) ?_
    refine WL.val Wanted.none (Runs.load nagg5 rfl ((hs0.ext st_5).cell_iv e_12 (by omega))) ?_
    obtain ⟨r_17, hr_13, H⟩ := H
    refine WL.callv Wanted.none ent25 rfl rfl (seal_Open_1.calls w_4 (gn l0 ((x_3).toNat)) r_17 hr_13) ?_
    rintro _ w_14 ⟨rfl, sc_16⟩
    have st_15 : St w w_14 [] := st_5.call sc_16
    refine ⟨_, rfl, ?_⟩
    refine WL.nil ?_
    refine QW.then_n ?_
    rcases H with ⟨c_18, H⟩ | ⟨c_18, H⟩
    · have h_19 : r_17 = true := c_18
      refine CW.ct rfl h_19 ?_
      refine CW.seq ?_
      refine CW.region ?_
      refine WL.val Wanted.none (Runs.move rfl) ?_
      refine WL.val Wanted.none (Runs.assign rfl) ?_
      refine WL.nil ?_
      refine QW.then_n ?_
      refine CW.ret ?_
      refine QW.blk_r ?_
      refine QW.then_r ?_
      refine QW.then_r ?_
      refine QW.blk_r ?_
      refine QW.then_r ?_
      obtain rfl := H
      exact QW.ret1 rfl rfl ⟨rfl, st_15.pick [] (by decide)⟩
    · have h_19 : r_17 = false := (Bool.eq_false_iff.mpr c_18)
      refine CW.cf rfl h_19 ?_
      refine CW.skip ?_
      refine QW.blk_n ?_
      refine QW.then_n ?_
      refine CW.region ?_
      refine WL.val Wanted.none (Runs.add rfl rfl rfl) ?_
      refine WL.val Wanted.none (Runs.move rfl) ?_
      refine WL.nil ?_
      exact QW.at [(0, .slice A0 n0 c0), (1, .func (.func 25) #[] #[]), (4, .int .i64 x_2), (7, .int .i64 (l0.length : Int)), (8, .int .i64 (IntKind.i64.wrap (x_3 + 1)))] ⟨rfl, rfl, rfl, rfl, rfl, trivial⟩ ⟨x_2, IntKind.i64.wrap (x_3 + 1), rfl, H, st_15⟩
  · have h_8 : (decide (x_3 < (l0.length : Int))) = false := (decide_eq_false c_7)
    refine CW.cf rfl h_8 ?_
    refine CW.exit ?_
    refine QW.then_x ?_
    refine QW.then_x ?_
    refine QW.blk_x ?_
    refine QW.then_n ?_
    refine CW.seq ?_
    refine CW.region ?_
    refine WL.val Wanted.none (Runs.assign rfl) ?_
    refine WL.nil ?_
    refine QW.then_n ?_
    refine CW.ret ?_
    obtain rfl := H
    exact QW.ret1 rfl rfl ⟨rfl, st_5.pick [] (by decide)⟩

/-! ### slices_ContainsFunc_s_byte_byte_fn1_seal_Open_1: function 24 -/
def slices_ContainsFunc_s_byte_byte_fn1_seal_Open_1.rel (l0 : List Int) (r0 : Bool) : Prop := (∃ (r_5 : Int), slices_IndexFunc_s_byte_byte_fn1_seal_Open_1.rel l0 r_5 ∧ r0 = (decide (r_5 ≥ 0)))
set_option maxHeartbeats 4000000 in
set_option maxRecDepth 100000 in
theorem slices_ContainsFunc_s_byte_byte_fn1_seal_Open_1.calls (w : World) (l0 : List Int) (A0 : Option Addr) (n0 : Nat) (c0 : Nat)  (hs0 : Src w A0 (iv .u8 l0)) (hn0 : n0 = l0.length) (hc0 : n0 ≤ c0) (r0 : Bool) (H : slices_ContainsFunc_s_byte_byte_fn1_seal_Open_1.rel l0 r0) :
    Calls Tryd.prog 24 #[.slice A0 n0 c0, .func (.func 25) #[] #[]] w fun e w' => e = .returned (.bool r0) ∧ St w w' [] := by
  refine CW.enter Tryd.func24 rfl (n := 9) rfl [.slice A0 n0 c0, .func (.func 25) #[] #[]] (Nat.le_of_ble_eq_true rfl) ?_
  refine CW.sub [(0, .slice A0 n0 c0), (1, .func (.func 25) #[] #[])] ⟨rfl, rfl, trivial⟩ ?_
  have st0 : St w w [] := St.refl w
  refine CW.seq ?_
  refine CW.region ?_
  refine WL.val Wanted.none (Runs.assign rfl) ?_
  refine WL.nil ?_
  refine QW.then_n ?_
  refine CW.seq ?_
  refine CW.region ?_
  refine WL.val Wanted.none (Runs.move rfl) ?_
  refine WL.val Wanted.none (Runs.move rfl) ?_
  obtain ⟨r_5, hr_1, H⟩ := H
  refine WL.call Wanted.none ent34 rfl (slices_IndexFunc_s_byte_byte_fn1_seal_Open_1.calls w l0 A0 n0 c0 (hs0.ext st0) (hn0) (hc0) r_5 hr_1) ?_
  rintro _ w_2 ⟨rfl, sc_4⟩
  have st_3 : St w w_2 [] := st0.call sc_4
  refine ⟨_, rfl, ?_⟩
  refine WL.val Wanted.none (Runs.geq rfl rfl rfl) ?_
  refine WL.val Wanted.none (Runs.assign rfl) ?_
  refine WL.nil ?_
  refine QW.then_n ?_
  refine CW.sub [(4, .bool (decide (r_5 ≥ 0)))] ⟨rfl, trivial⟩ ?_
  refine CW.ret ?_
  obtain rfl := H
  exact QW.ret1 rfl rfl ⟨rfl, st_3.pick [] (by decide)⟩

/-! ### seal_Open: function 12 -/
def seal_Open.rel (l0 : List Int) (a1 : Int) (l2 : List Int) (a3 : Int) (r0 : Int) (r1 : List Int) (r2 : Int) : Prop := (∃ (r_9 : Bool), seal_size.rel a3 r_9 ∧ ((¬ (r_9 = true) ∧ r0 = 0 ∧ r1 = [] ∧ r2 = 1) ∨ (¬ (¬ (r_9 = true)) ∧ (∃ (r_18 : Int) (r_19 : Int), word_Get.rel l2 0 8 r_18 r_19 ∧ ((r_19 ≠ 0 ∧ r0 = 0 ∧ r1 = [] ∧ r2 = 11) ∨ (¬ (r_19 ≠ 0) ∧ (((l2.length : Int) ≠ 192 ∧ r0 = 0 ∧ r1 = [] ∧ r2 = 11) ∨ (¬ ((l2.length : Int) ≠ 192) ∧ ((r_18 = 0 ∧ r0 = 0 ∧ r1 = [] ∧ r2 = 11) ∨ (¬ (r_18 = 0) ∧ ((r_18 = 18446744073709551615 ∧ r0 = 0 ∧ r1 = [] ∧ r2 = 11) ∨ (¬ (r_18 = 18446744073709551615) ∧ ((0 ≤ (IntKind.i64.wrap (8 + a3)) ∧ (IntKind.i64.wrap (8 + a3)) ≤ (l2.length : Int) ∧ (l2.length : Int) ≤ (l2.length : Int)) ∧ (∃ (r_52 : Bool), slices_ContainsFunc_s_byte_byte_fn1_seal_Open_1.rel (prt l2 (IntKind.i64.wrap (8 + a3)) (l2.length : Int)) r_52 ∧ ((r_52 = true ∧ r0 = 0 ∧ r1 = [] ∧ r2 = 11) ∨ (¬ (r_52 = true) ∧ ((0 ≤ (8 : Int) ∧ (8 : Int) ≤ (IntKind.i64.wrap (8 + a3)) ∧ (IntKind.i64.wrap (8 + a3)) ≤ (l2.length : Int)) ∧ (∃ (r_75 : List Int), cipher_Nonce.rel a1 r_18 r_75 ∧ (∃ (r_81 : List Int) (r_87 : Int), cipher_Crypt.rel l0 0 r_75 (prt l2 (8 : Int) (IntKind.i64.wrap (8 + a3))) r_81 r_87 ∧ ((r_87 ≠ 0 ∧ r0 = 0 ∧ r1 = [] ∧ r2 = r_87) ∨ (¬ (r_87 ≠ 0) ∧ r0 = r_18 ∧ r1 = r_81 ∧ r2 = 0)))))))))))))))))))))
set_option maxHeartbeats 4000000 in
set_option maxRecDepth 100000 in
theorem seal_Open.calls (w : World) (l0 : List Int) (a1 : Int) (l2 : List Int) (a3 : Int) (A2 : Option Addr) (n2 : Nat) (c2 : Nat)  (hG0 : Src w (some ⟨0, 0, none⟩) (iv .i64 tab0)) (hl0 : l0.length = 32) (hs2 : Src w A2 (iv .u8 l2)) (hn2 : n2 = l2.length) (hc2 : n2 ≤ c2) (r0 : Int) (r1 : List Int) (r2 : Int) (H : seal_Open.rel l0 a1 l2 a3 r0 r1 r2) :
    Calls Tryd.prog 12 #[.agg (iv .u8 l0).toArray, .int .u32 a1, .slice A2 n2 c2, .int .i64 a3] w fun e w' => ∃ B1 q1 z1, z1 = r1.length ∧ e = .returned (.tuple #[.int .u64 r0, .slice B1 z1 q1, .int .i64 r2]) ∧ St w w' [.sl B1 q1 z1 (iv .u8 r1) 5 1] := by
  refine CW.enter Tryd.func12 rfl (n := 61) rfl [.agg (iv .u8 l0).toArray, .int .u32 a1, .slice A2 n2 c2, .int .i64 a3] (Nat.le_of_ble_eq_true rfl) ?_
  refine CW.sub [(0, .agg (iv .u8 l0).toArray), (1, .int .u32 a1), (2, .slice A2 n2 c2), (3, .int .i64 a3)] ⟨rfl, rfl, rfl, rfl, trivial⟩ ?_
  have st0 : St w w [] := St.refl w
  refine CW.seq ?_
  refine CW.region ?_
  refine WL.box st0 rfl rfl ?_
  intro B_1 w_2 st_3
  replace st_3 : St w w_2 [.cells B_1 (iv .u8 l0) 23] := st_3
  refine WL.val Wanted.none (Runs.assign rfl) ?_
  refine WL.val Wanted.none (Runs.assign rfl) ?_
  refine WL.val Wanted.none (Runs.assign rfl) ?_
  refine WL.nil ?_
  refine QW.then_n ?_
  refine CW.seq ?_
  refine CW.seq ?_
  refine CW.region ?_
  refine WL.val Wanted.none (Runs.move rfl) ?_
  obtain ⟨r_9, hr_5, H⟩ := H
  refine WL.call Wanted.none ent14 rfl (seal_size.calls w_2 a3 r_9 hr_5) ?_
  rintro _ w_6 ⟨rfl, sc_8⟩
  have st_7 : St w w_6 [.cells B_1 (iv .u8 l0) 23] := st_3.call sc_8
  refine ⟨_, rfl, ?_⟩
  refine WL.val Wanted.none (Runs.not rfl rfl) ?_
  refine WL.nil ?_
  refine QW.then_n ?_
  rcases H with ⟨c_10, H⟩ | ⟨c_10, H⟩
  · have h_11 : (!r_9) = true := (not_t (Bool.eq_false_iff.mpr c_10))
    refine CW.ct rfl h_11 ?_
    refine CW.seq ?_
    refine CW.region ?_
    refine WL.val Wanted.none (Runs.assign rfl) ?_
    refine WL.val Wanted.none (Runs.assign rfl) ?_
    refine WL.val Wanted.none (Runs.assign rfl) ?_
    refine WL.nil ?_
    refine QW.then_n ?_
    refine CW.ret ?_
    refine QW.then_r ?_
    have st_13 := st_7.nil_sl 5 1
    have st_13 : St w w_6 [.sl none 0 0 (iv .u8 ([] : List Int)) 5 1, .cells B_1 (iv .u8 l0) 23] := st_13
    obtain ⟨rfl, rfl, rfl⟩ := H
    exact QW.ret3 rfl rfl rfl rfl ⟨none, 0, 0, rfl, rfl, st_13.pick [0] (by decide)⟩
  · have h_11 : (!r_9) = false := (not_f (Decidable.not_not.mp c_10))
    refine CW.cf rfl h_11 ?_
    refine CW.skip ?_
    refine QW.then_n ?_
    refine CW.seq ?_
    refine CW.region ?_
    refine WL.val Wanted.none (Runs.move rfl) ?_
    obtain ⟨r_18, r_19, hr_14, H⟩ := H
    refine WL.call Wanted.none ent23 rfl (word_Get.calls w_6 l2 0 8 A2 n2 c2 (hs2.ext st_7) (hn2) (hc2) r_18 r_19 hr_14) ?_
    rintro _ w_15 ⟨rfl, sc_17⟩
    have st_16 : St w w_15 [.cells B_1 (iv .u8 l0) 23] := st_7.call sc_17
    refine ⟨_, rfl, ?_⟩
    refine WL.val Wanted.none (Runs.move rfl) ?_
    refine WL.val Wanted.none (Runs.extract rfl rfl) ?_
    refine WL.val Wanted.none (Runs.extract rfl rfl) ?_
    refine WL.val Wanted.none (Runs.assign rfl) ?_
    refine WL.val Wanted.none (Runs.assign rfl) ?_
    refine WL.nil ?_
    refine QW.then_n ?_
    refine CW.sub [(1, .int .u32 a1), (2, .slice A2 n2 c2), (3, .int .i64 a3), (4, .pointer (some ⟨B_1, 0, none⟩)), (8, .int .u64 0), (9, .slice none 0 0), (10, .int .i64 0), (11, .int .u64 r_18), (12, .int .i64 r_19)] ⟨rfl, rfl, rfl, rfl, rfl, rfl, rfl, rfl, rfl, trivial⟩ ?_
    refine CW.seq ?_
    refine CW.seq ?_
    refine CW.region ?_
    refine WL.val Wanted.none (Runs.move rfl) ?_
    refine WL.val Wanted.none (Runs.neq rfl rfl rfl) ?_
    refine WL.val Wanted.none (Runs.move rfl) ?_
    rcases H with ⟨c_20, H⟩ | ⟨c_20, H⟩
    · have h_21 : (r_19 != 0) = true := (bne_iff_ne.mpr c_20)
      refine WL.off ?_ ?_; exact Wanted.guard (dj := 24) (by rfl) (evb (by rfl) h_21) (by rfl)
      refine WL.off ?_ ?_; exact Wanted.guard (dj := 24) (by rfl) (evb (by rfl) h_21) (by rfl)
      refine WL.off ?_ ?_; exact Wanted.guard (dj := 24) (by rfl) (evb (by rfl) h_21) (by rfl)
      refine WL.val Wanted.none (Runs.pick_t (evb rfl h_21) rfl) ?_
      refine WL.val Wanted.none (Runs.move rfl) ?_
      refine WL.off ?_ ?_; exact Wanted.guard (dj := 29) (by rfl) (by rfl) (by rfl)
      refine WL.off ?_ ?_; exact Wanted.guard (dj := 29) (by rfl) (by rfl) (by rfl)
      refine WL.val Wanted.none (Runs.pick_t rfl rfl) ?_
      refine WL.val Wanted.none (Runs.move rfl) ?_
      refine WL.off ?_ ?_; exact Wanted.guard (dj := 33) (by rfl) (by rfl) (by rfl)
      refine WL.off ?_ ?_; exact Wanted.guard (dj := 33) (by rfl) (by rfl) (by rfl)
      refine WL.val Wanted.none (Runs.pick_t rfl rfl) ?_
      refine WL.val Wanted.none (Runs.move rfl) ?_
      refine WL.off ?_ ?_; exact Wanted.guard (dj := 37) (by rfl) (by rfl) (by rfl)
      refine WL.off ?_ ?_; exact Wanted.guard (dj := 37) (by rfl) (by rfl) (by rfl)
      refine WL.off ?_ ?_; exact Wanted.guard (dj := 37) (by rfl) (by rfl) (by rfl)
      refine WL.off ?_ ?_; exact Wanted.guard (dj := 37) (by rfl) (by rfl) (by rfl)
      refine WL.off ?_ ?_; exact Wanted.guard (dj := 37) (by rfl) (by rfl) (by rfl)
      refine WL.val Wanted.none (Runs.pick_t rfl rfl) ?_
      refine WL.nil ?_
      refine QW.then_n ?_
      refine CW.sub [(1, .int .u32 a1), (2, .slice A2 n2 c2), (3, .int .i64 a3), (4, .pointer (some ⟨B_1, 0, none⟩)), (8, .int .u64 0), (9, .slice none 0 0), (10, .int .i64 0), (11, .int .u64 r_18), (12, .int .i64 r_19), (43, .bool true)] ⟨rfl, rfl, rfl, rfl, rfl, rfl, rfl, rfl, rfl, rfl, trivial⟩ ?_
      refine CW.ct rfl rfl ?_
      refine CW.seq ?_
      refine CW.region ?_
      refine WL.val Wanted.none (Runs.assign rfl) ?_
      refine WL.val Wanted.none (Runs.assign rfl) ?_
      refine WL.val Wanted.none (Runs.assign rfl) ?_
      refine WL.nil ?_
      refine QW.then_n ?_
      refine CW.ret ?_
      refine QW.then_r ?_
      have st_23 := st_16.nil_sl 5 1
      have st_23 : St w w_15 [.sl none 0 0 (iv .u8 ([] : List Int)) 5 1, .cells B_1 (iv .u8 l0) 23] := st_23
      obtain ⟨rfl, rfl, rfl⟩ := H
      exact QW.ret3 rfl rfl rfl rfl ⟨none, 0, 0, rfl, rfl, st_23.pick [0] (by decide)⟩
    · have h_21 : (r_19 != 0) = false := (bne_eq_false_iff_eq.mpr (Decidable.not_not.mp c_20))
      refine WL.on ?_ ?_; exact Wanted.guard (dj := 24) (by rfl) (evb (by rfl) h_21) (by rfl)
      refine WL.val Wanted.none (Runs.move rfl) ?_
      refine WL.on ?_ ?_; exact Wanted.guard (dj := 24) (by rfl) (evb (by rfl) h_21) (by rfl)
      refine WL.val Wanted.none (Runs.len_sl Tryd.underlying26 rfl (by rw [hn2])) ?_
      refine WL.on ?_ ?_; exact Wanted.guard (dj := 24) (by rfl) (evb (by rfl) h_21) (by rfl)
      refine WL.val Wanted.none (Runs.neq rfl rfl rfl) ?_
      refine WL.val Wanted.none (Runs.pick_f (evb rfl h_21) rfl) ?_
      refine WL.val Wanted.none (Runs.move rfl) ?_
      rcases H with ⟨c_24, H⟩ | ⟨c_24, H⟩
      · have h_25 : ((l2.length : Int) != 192) = true := (bne_iff_ne.mpr c_24)
        refine WL.off ?_ ?_; exact Wanted.guard (dj := 29) (by rfl) (evb (by rfl) h_25) (by rfl)
        refine WL.off ?_ ?_; exact Wanted.guard (dj := 29) (by rfl) (evb (by rfl) h_25) (by rfl)
        refine WL.val Wanted.none (Runs.pick_t (evb rfl h_25) rfl) ?_
        refine WL.val Wanted.none (Runs.move rfl) ?_
        refine WL.off ?_ ?_; exact Wanted.guard (dj := 33) (by rfl) (by rfl) (by rfl)
        refine WL.off ?_ ?_; exact Wanted.guard (dj := 33) (by rfl) (by rfl) (by rfl)
        refine WL.val Wanted.none (Runs.pick_t rfl rfl) ?_
        refine WL.val Wanted.none (Runs.move rfl) ?_
        refine WL.off ?_ ?_; exact Wanted.guard (dj := 37) (by rfl) (by rfl) (by rfl)
        refine WL.off ?_ ?_; exact Wanted.guard (dj := 37) (by rfl) (by rfl) (by rfl)
        refine WL.off ?_ ?_; exact Wanted.guard (dj := 37) (by rfl) (by rfl) (by rfl)
        refine WL.off ?_ ?_; exact Wanted.guard (dj := 37) (by rfl) (by rfl) (by rfl)
        refine WL.off ?_ ?_; exact Wanted.guard (dj := 37) (by rfl) (by rfl) (by rfl)
        refine WL.val Wanted.none (Runs.pick_t rfl rfl) ?_
        refine WL.nil ?_
        refine QW.then_n ?_
        refine CW.sub [(1, .int .u32 a1), (2, .slice A2 n2 c2), (3, .int .i64 a3), (4, .pointer (some ⟨B_1, 0, none⟩)), (8, .int .u64 0), (9, .slice none 0 0), (10, .int .i64 0), (11, .int .u64 r_18), (12, .int .i64 r_19), (43, .bool true)] ⟨rfl, rfl, rfl, rfl, rfl, rfl, rfl, rfl, rfl, rfl, trivial⟩ ?_
        refine CW.ct rfl rfl ?_
        refine CW.seq ?_
        refine CW.region ?_
        refine WL.val Wanted.none (Runs.assign rfl) ?_
        refine WL.val Wanted.none (Runs.assign rfl) ?_
        refine WL.val Wanted.none (Runs.assign rfl) ?_
        refine WL.nil ?_
        refine QW.then_n ?_
        refine CW.ret ?_
        refine QW.then_r ?_
        have st_27 := st_16.nil_sl 5 1
        have st_27 : St w w_15 [.sl none 0 0 (iv .u8 ([] : List Int)) 5 1, .cells B_1 (iv .u8 l0) 23] := st_27
        obtain ⟨rfl, rfl, rfl⟩ := H
        exact QW.ret3 rfl rfl rfl rfl ⟨none, 0, 0, rfl, rfl, st_27.pick [0] (by decide)⟩
      · have h_25 : ((l2.length : Int) != 192) = false := (bne_eq_false_iff_eq.mpr (Decidable.not_not.mp c_24))
        refine WL.on ?_ ?_; exact Wanted.guard (dj := 29) (by rfl) (evb (by rfl) h_25) (by rfl)
        refine WL.val Wanted.none (Runs.move rfl) ?_
        refine WL.on ?_ ?_; exact Wanted.guard (dj := 29) (by rfl) (evb (by rfl) h_25) (by rfl)
        refine WL.val Wanted.none (Runs.eql rfl rfl rfl) ?_
        refine WL.val Wanted.none (Runs.pick_f (evb rfl h_25) rfl) ?_
        refine WL.val Wanted.none (Runs.move rfl) ?_
        rcases H with ⟨c_28, H⟩ | ⟨c_28, H⟩
        · have h_29 : (r_18 == 0) = true := (beq_iff_eq.mpr c_28)
          refine WL.off ?_ ?_; exact Wanted.guard (dj := 33) (by rfl) (evb (by rfl) h_29) (by rfl)
          refine WL.off ?_ ?_; exact Wanted.guard (dj := 33) (by rfl) (evb (by rfl) h_29) (by rfl)
          refine WL.val Wanted.none (Runs.pick_t (evb rfl h_29) rfl) ?_
          refine WL.val Wanted.none (Runs.move rfl) ?_
          refine WL.off ?_ ?_; exact Wanted.guard (dj := 37) (by rfl) (by rfl) (by rfl)
          refine WL.off ?_ ?_; exact Wanted.guard (dj := 37) (by rfl) (by rfl) (by rfl)
          refine WL.off ?_ ?_; exact Wanted.guard (dj := 37) (by rfl) (by rfl) (by rfl)
          refine WL.off ?_ ?_; exact Wanted.guard (dj := 37) (by rfl) (by rfl) (by rfl)
          refine WL.off ?_ ?_; exact Wanted.guard (dj := 37) (by rfl) (by rfl) (by rfl)
          refine WL.val Wanted.none (Runs.pick_t rfl rfl) ?_
          refine WL.nil ?_
          refine QW.then_n ?_
          refine CW.sub [(1, .int .u32 a1), (2, .slice A2 n2 c2), (3, .int .i64 a3), (4, .pointer (some ⟨B_1, 0, none⟩)), (8, .int .u64 0), (9, .slice none 0 0), (10, .int .i64 0), (11, .int .u64 r_18), (12, .int .i64 r_19), (43, .bool true)] ⟨rfl, rfl, rfl, rfl, rfl, rfl, rfl, rfl, rfl, rfl, trivial⟩ ?_
          refine CW.ct rfl rfl ?_
          refine CW.seq ?_
          refine CW.region ?_
          refine WL.val Wanted.none (Runs.assign rfl) ?_
          refine WL.val Wanted.none (Runs.assign rfl) ?_
          refine WL.val Wanted.none (Runs.assign rfl) ?_
          refine WL.nil ?_
          refine QW.then_n ?_
          refine CW.ret ?_
          refine QW.then_r ?_
          have st_31 := st_16.nil_sl 5 1
          have st_31 : St w w_15 [.sl none 0 0 (iv .u8 ([] : List Int)) 5 1, .cells B_1 (iv .u8 l0) 23] := st_31
          obtain ⟨rfl, rfl, rfl⟩ := H
          exact QW.ret3 rfl rfl rfl rfl ⟨none, 0, 0, rfl, rfl, st_31.pick [0] (by decide)⟩
        · have h_29 : (r_18 == 0) = false := (beq_eq_false_iff_ne.mpr c_28)
          refine WL.on ?_ ?_; exact Wanted.guard (dj := 33) (by rfl) (evb (by rfl) h_29) (by rfl)
          refine WL.val Wanted.none (Runs.move rfl) ?_
          refine WL.on ?_ ?_; exact Wanted.guard (dj := 33) (by rfl) (evb (by rfl) h_29) (by rfl)
          refine WL.val Wanted.none (Runs.eql rfl rfl rfl) ?_
          refine WL.val Wanted.none (Runs.pick_f (evb rfl h_29) rfl) ?_
          refine WL.val Wanted.none (Runs.move rfl) ?_
          rcases H with ⟨c_32, H⟩ | ⟨c_32, H⟩
          · have h_33 : (r_18 == 18446744073709551615) = true := (beq_iff_eq.mpr c_32)
            refine WL.off ?_ ?_; exact Wanted.guard (dj := 37) (by rfl) (evb (by rfl) h_33) (by rfl)
            refine WL.off ?_ ?_; exact Wanted.guard (dj := 37) (by rfl) (evb (by rfl) h_33) (by rfl)
            refine WL.off ?_ ?_; exact Wanted.guard (dj := 37) (by rfl) (evb (by rfl) h_33) (by rfl)
            refine WL.off ?_ ?_; exact Wanted.guard (dj := 37) (by rfl) (evb (by rfl) h_33) (by rfl)
            refine WL.off ?_ ?_; exact Wanted.guard (dj := 37) (by rfl) (evb (by rfl) h_33) (by rfl)
            refine WL.val Wanted.none (Runs.pick_t (evb rfl h_33) rfl) ?_
            refine WL.nil ?_
            refine QW.then_n ?_
            refine CW.sub [(1, .int .u32 a1), (2, .slice A2 n2 c2), (3, .int .i64 a3), (4, .pointer (some ⟨B_1, 0, none⟩)), (8, .int .u64 0), (9, .slice none 0 0), (10, .int .i64 0), (11, .int .u64 r_18), (12, .int .i64 r_19), (43, .bool true)] ⟨rfl, rfl, rfl, rfl, rfl, rfl, rfl, rfl, rfl, rfl, trivial⟩ ?_
            refine CW.ct rfl rfl ?_
            refine CW.seq ?_
            refine CW.region ?_
            refine WL.val Wanted.none (Runs.assign rfl) ?_
            refine WL.val Wanted.none (Runs.assign rfl) ?_
            refine WL.val Wanted.none (Runs.assign rfl) ?_
            refine WL.nil ?_
            refine QW.then_n ?_
            refine CW.ret ?_
            refine QW.then_r ?_
            have st_35 := st_16.nil_sl 5 1
            have st_35 : St w w_15 [.sl none 0 0 (iv .u8 ([] : List Int)) 5 1, .cells B_1 (iv .u8 l0) 23] := st_35
            obtain ⟨rfl, rfl, rfl⟩ := H
            exact QW.ret3 rfl rfl rfl rfl ⟨none, 0, 0, rfl, rfl, st_35.pick [0] (by decide)⟩
          · have h_33 : (r_18 == 18446744073709551615) = false := (beq_eq_false_iff_ne.mpr c_32)
            refine WL.on ?_ ?_; exact Wanted.guard (dj := 37) (by rfl) (evb (by rfl) h_33) (by rfl)
            refine WL.val Wanted.none (Runs.move rfl) ?_
            refine WL.on ?_ ?_; exact Wanted.guard (dj := 37) (by rfl) (evb (by rfl) h_33) (by rfl)
            refine WL.val Wanted.none (Runs.move rfl) ?_
            refine WL.on ?_ ?_; exact Wanted.guard (dj := 37) (by rfl) (evb (by rfl) h_33) (by rfl)
            refine WL.val Wanted.none (Runs.add rfl rfl rfl) ?_
            refine WL.on ?_ ?_; exact Wanted.guard (dj := 37) (by rfl) (evb (by rfl) h_33) (by rfl)
            obtain ⟨⟨p_36, q_37, r_38⟩, H⟩ := H
            have h_45 : n2 ≤ c2 := hc2
            have h_46 : (l2.length : Int) ≤ (c2 : Int) := by have := hn2; omega
            obtain ⟨A_39, e_42⟩ : ∃ B_, B_ = subA A2 (IntKind.i64.wrap (8 + a3)).toNat c2 := ⟨_, rfl⟩
            obtain ⟨n_41, e_44⟩ : ∃ n_ : Nat, n_ = (prt l2 (IntKind.i64.wrap (8 + a3)) (l2.length : Int)).length := ⟨_, rfl⟩
            obtain ⟨c_40, e_43⟩ : ∃ c_ : Nat, c_ = c2 - (IntKind.i64.wrap (8 + a3)).toNat := ⟨_, rfl⟩
            have h_47 : n_41 ≤ c_40 := by rw [e_44, prt_length p_36 q_37 r_38]; rw [e_43]; omega
            refine WL.val Wanted.none (Runs.slice_l Tryd.underlying26 cells5 rfl rfl p_36 (by have := hn2; omega) e_42 (N := n_41) (by rw [e_44, prt_length p_36 q_37 r_38]; rw [hn2]; rfl) e_43) ?_
            refine WL.on ?_ ?_; exact Wanted.guard (dj := 37) (by rfl) (evb (by rfl) h_33) (by rfl)
            obtain ⟨r_52, hr_48, H⟩ := H
            refine WL.call Wanted.none ent24 rfl (slices_ContainsFunc_s_byte_byte_fn1_seal_Open_1.calls w_15 (prt l2 (IntKind.i64.wrap (8 + a3)) (l2.length : Int)) A_39 n_41 c_40 ((hs2.ext st_16).sub_iv p_36 q_37 h_46 e_42) (e_44) (h_47) r_52 hr_48) ?_
            rintro _ w_49 ⟨rfl, sc_51⟩
            have st_50 : St w w_49 [.cells B_1 (iv .u8 l0) 23] := st_16.call sc_51
            refine ⟨_, rfl, ?_⟩
            refine WL.val Wanted.none (Runs.pick_f (evb rfl h_33) rfl) ?_
            refine WL.nil ?_
            refine QW.then_n ?_
            refine CW.sub [(1, .int .u32 a1), (2, .slice A2 n2 c2), (3, .int .i64 a3), (4, .pointer (some ⟨B_1, 0, none⟩)), (8, .int .u64 0), (9, .slice none 0 0), (10, .int .i64 0), (11, .int .u64 r_18), (12, .int .i64 r_19), (43, .bool r_52)] ⟨rfl, rfl, rfl, rfl, rfl, rfl, rfl, rfl, rfl, rfl, trivial⟩ ?_
            rcases H with ⟨c_53, H⟩ | ⟨c_53, H⟩
            · have h_54 : r_52 = true := c_53
              refine CW.ct rfl h_54 ?_
              refine CW.seq ?_
              refine CW.region ?_
              refine WL.val Wanted.none (Runs.assign rfl) ?_
              refine WL.val Wanted.none (Runs.assign rfl) ?_
              refine WL.val Wanted.none (Runs.assign rfl) ?_
              refine WL.nil ?_
              refine QW.then_n ?_
              refine CW.ret ?_
              refine QW.then_r ?_
              have st_56 := st_50.nil_sl 5 1
              have st_56 : St w w_49 [.sl none 0 0 (iv .u8 ([] : List Int)) 5 1, .cells B_1 (iv .u8 l0) 23] := st_56
              obtain ⟨rfl, rfl, rfl⟩ := H
              exact QW.ret3 rfl rfl rfl rfl ⟨none, 0, 0, rfl, rfl, st_56.pick [0] (by decide)⟩
            · have h_54 : r_52 = false := (Bool.eq_false_iff.mpr c_53)
              refine CW.cf rfl h_54 ?_
              refine CW.skip ?_
              refine QW.then_n ?_
              refine CW.seq ?_
              refine CW.region_aw wide st_50 (fun w_57 st_58 => ?_)
              refine AW.take 1 rfl (by kernel_rfl) (by kernel_rfl) (by kernel_rfl) Wanted.none (fun _ => (Runs.move rfl)) ?_
              refine AW.take 2 rfl (by kernel_rfl) (by kernel_rfl) (by kernel_rfl) Wanted.none (fun _ => (Runs.move rfl)) ?_
              refine AW.take 4 rfl (by kernel_rfl) (by kernel_rfl) (by kernel_rfl) Wanted.none (fun _ => (Runs.move rfl)) ?_
              refine AW.take 5 rfl (by kernel_rfl) (by kernel_rfl) (by kernel_rfl) Wanted.none (fun _ => (Runs.move rfl)) ?_
              refine AW.take 6 rfl (by kernel_rfl) (by kernel_rfl) (by kernel_rfl) Wanted.none (fun _ => (Runs.add rfl rfl rfl)) ?_
              obtain ⟨⟨p_59, q_60, r_61⟩, H⟩ := H
              have h_68 : n2 ≤ c2 := hc2
              have h_69 : (IntKind.i64.wrap (8 + a3)) ≤ (c2 : Int) := by have := hn2; omega
              obtain ⟨A_62, e_65⟩ : ∃ B_, B_ = subA A2 ((8 : Int)).toNat c2 := ⟨_, rfl⟩
              obtain ⟨n_64, e_67⟩ : ∃ n_ : Nat, n_ = (prt l2 (8 : Int) (IntKind.i64.wrap (8 + a3))).length := ⟨_, rfl⟩
              obtain ⟨c_63, e_66⟩ : ∃ c_ : Nat, c_ = c2 - ((8 : Int)).toNat := ⟨_, rfl⟩
              have h_70 : n_64 ≤ c_63 := by rw [e_67, prt_length p_59 q_60 r_61]; rw [e_66]; omega
              refine AW.take 7 rfl (by kernel_rfl) (by kernel_rfl) (by kernel_rfl) Wanted.none (fun _ => (Runs.slice_lh Tryd.underlying26 cells5 rfl rfl rfl p_59 q_60 h_69 e_65 (N := n_64) (by rw [e_67, prt_length p_59 q_60 r_61]) e_66)) ?_
              refine AW.step2 0 3 rfl rfl (by kernel_rfl) ?_ ?_
              · refine WL.val Wanted.none (Runs.load_arr arr23 rfl (st_58.blk (i := 0) rfl) hl0) ?_
                refine WL.nil ?_
                refine AW.back ?_
                refine AW.step 3 rfl (by kernel_rfl) ?_
                obtain ⟨r_75, hr_71, H⟩ := H
                refine WL.call Wanted.none ent16 rfl (cipher_Nonce.calls w_57 a1 r_18 r_75 hr_71) ?_
                rintro _ w_72 ⟨hl_76, rfl, sc_74⟩
                have st_73 : St w w_72 [.cells B_1 (iv .u8 l0) 23] := st_58.call sc_74
                refine ⟨_, rfl, ?_⟩
                refine WL.nil ?_
                refine AW.back ?_
                refine AW.step 8 rfl (by kernel_rfl) ?_
                obtain ⟨r_81, r_87, hr_77, H⟩ := H
                refine WL.call Wanted.none ent15 rfl (cipher_Crypt.calls w_72 l0 0 r_75 (prt l2 (8 : Int) (IntKind.i64.wrap (8 + a3))) A_62 n_64 c_63 (hG0.ext st_73) hl0 hl_76 ((hs2.ext st_73).sub_iv p_59 q_60 h_69 e_65) (e_67) (h_70) r_81 r_87 hr_77) ?_
                rintro _ w_78 ⟨A_82, c_83, n_84, hn_85, rfl, sc_80⟩
                have st_79 : St w w_78 [.sl A_82 c_83 n_84 (iv .u8 r_81) 5 1, .cells B_1 (iv .u8 l0) 23] := st_73.call sc_80
                refine ⟨_, rfl, ?_⟩
                refine WL.nil ?_
                refine AW.back ?_
                refine AW.take 9 rfl (by kernel_rfl) (by kernel_rfl) (by kernel_rfl) Wanted.none (fun _ => (Runs.move rfl)) ?_
                refine AW.take 10 rfl (by kernel_rfl) (by kernel_rfl) (by kernel_rfl) Wanted.none (fun _ => (Runs.extract rfl rfl)) ?_
                refine AW.take 11 rfl (by kernel_rfl) (by kernel_rfl) (by kernel_rfl) Wanted.none (fun _ => (Runs.extract rfl rfl)) ?_
                refine AW.take 12 rfl (by kernel_rfl) (by kernel_rfl) (by kernel_rfl) Wanted.none (fun _ => (Runs.assign rfl)) ?_
                refine AW.take 13 rfl (by kernel_rfl) (by kernel_rfl) (by kernel_rfl) Wanted.none (fun _ => (Runs.assign rfl)) ?_
                refine AW.done (by kernel_rfl) ?_
                refine QW.then_n ?_
                refine CW.sub [(8, .int .u64 0), (9, .slice none 0 0), (10, .int .i64 0), (11, .int .u64 r_18), (12, .int .i64 r_87), (13, .slice A_82 n_84 c_83)] ⟨rfl, rfl, rfl, rfl, rfl, rfl, trivial⟩ ?_
                refine CW.seq ?_
                refine CW.seq ?_
                refine CW.region ?_
                refine WL.val Wanted.none (Runs.move rfl) ?_
                refine WL.val Wanted.none (Runs.neq rfl rfl rfl) ?_
                refine WL.nil ?_
                refine QW.then_n ?_
                rcases H with ⟨c_88, H⟩ | ⟨c_88, H⟩
                · have h_89 : (r_87 != 0) = true := (bne_iff_ne.mpr c_88)
                  refine CW.ct rfl h_89 ?_
                  refine CW.seq ?_
                  refine CW.region ?_
                  refine WL.val Wanted.none (Runs.move rfl) ?_
                  refine WL.val Wanted.none (Runs.assign rfl) ?_
                  refine WL.val Wanted.none (Runs.assign rfl) ?_
                  refine WL.val Wanted.none (Runs.assign rfl) ?_
                  refine WL.nil ?_
                  refine QW.then_n ?_
                  refine CW.ret ?_
                  refine QW.then_r ?_
                  have st_91 := st_79.nil_sl 5 1
                  have st_91 : St w w_78 [.sl none 0 0 (iv .u8 ([] : List Int)) 5 1, .sl A_82 c_83 n_84 (iv .u8 r_81) 5 1, .cells B_1 (iv .u8 l0) 23] := st_91
                  obtain ⟨rfl, rfl, rfl⟩ := H
                  exact QW.ret3 rfl rfl rfl rfl ⟨none, 0, 0, rfl, rfl, st_91.pick [0] (by decide)⟩
                · have h_89 : (r_87 != 0) = false := (bne_eq_false_iff_eq.mpr (Decidable.not_not.mp c_88))
                  refine CW.cf rfl h_89 ?_
                  refine CW.skip ?_
                  refine QW.then_n ?_
                  refine CW.seq ?_
                  refine CW.region ?_
                  refine WL.val Wanted.none (Runs.move rfl) ?_
                  refine WL.val Wanted.none (Runs.move rfl) ?_
                  refine WL.val Wanted.none (Runs.assign rfl) ?_
                  refine WL.val Wanted.none (Runs.assign rfl) ?_
                  refine WL.val Wanted.none (Runs.assign rfl) ?_
                  refine WL.nil ?_
                  refine QW.then_n ?_
                  refine CW.sub [(8, .int .u64 r_18), (9, .slice A_82 n_84 c_83), (10, .int .i64 0)] ⟨rfl, rfl, rfl, trivial⟩ ?_
                  refine CW.ret ?_
                  obtain ⟨rfl, rfl, rfl⟩ := H
                  exact QW.ret3 rfl rfl rfl rfl ⟨A_82, c_83, n_84, hn_85, rfl, st_79.pick [0] (by decide)⟩
              · obtain ⟨r_96, hr_92, H⟩ := H
                refine WL.call Wanted.none ent16 rfl (cipher_Nonce.calls w_57 a1 r_18 r_96 hr_92) ?_
                rintro _ w_93 ⟨hl_97, rfl, sc_95⟩
                have st_94 : St w w_93 [.cells B_1 (iv .u8 l0) 23] := st_58.call sc_95
                refine ⟨_, rfl, ?_⟩
                refine WL.nil ?_
                refine AW.back ?_
                refine AW.step 0 rfl (by kernel_rfl) ?_
                refine WL.val Wanted.none (Runs.load_arr arr23 rfl (st_94.blk (i := 0) rfl) hl0) ?_
                refine WL.nil ?_
                refine AW.back ?_
                refine AW.step 8 rfl (by kernel_rfl) ?_
                obtain ⟨r_102, r_108, hr_98, H⟩ := H
                refine WL.call Wanted.none ent15 rfl (cipher_Crypt.calls w_93 l0 0 r_96 (prt l2 (8 : Int) (IntKind.i64.wrap (8 + a3))) A_62 n_64 c_63 (hG0.ext st_94) hl0 hl_97 ((hs2.ext st_94).sub_iv p_59 q_60 h_69 e_65) (e_67) (h_70) r_102 r_108 hr_98) ?_
                rintro _ w_99 ⟨A_103, c_104, n_105, hn_106, rfl, sc_101⟩
                have st_100 : St w w_99 [.sl A_103 c_104 n_105 (iv .u8 r_102) 5 1, .cells B_1 (iv .u8 l0) 23] := st_94.call sc_101
                refine ⟨_, rfl, ?_⟩
                refine WL.nil ?_
                refine AW.back ?_
                refine AW.take 9 rfl (by kernel_rfl) (by kernel_rfl) (by kernel_rfl) Wanted.none (fun _ => (Runs.move rfl)) ?_
                refine AW.take 10 rfl (by kernel_rfl) (by kernel_rfl) (by kernel_rfl) Wanted.none (fun _ => (Runs.extract rfl rfl)) ?_
                refine AW.take 11 rfl (by kernel_rfl) (by kernel_rfl) (by kernel_rfl) Wanted.none (fun _ => (Runs.extract rfl rfl)) ?_
                refine AW.take 12 rfl (by kernel_rfl) (by kernel_rfl) (by kernel_rfl) Wanted.none (fun _ => (Runs.assign rfl)) ?_
                refine AW.take 13 rfl (by kernel_rfl) (by kernel_rfl) (by kernel_rfl) Wanted.none (fun _ => (Runs.assign rfl)) ?_
                refine AW.done (by kernel_rfl) ?_
                refine QW.then_n ?_
                refine CW.sub [(8, .int .u64 0), (9, .slice none 0 0), (10, .int .i64 0), (11, .int .u64 r_18), (12, .int .i64 r_108), (13, .slice A_103 n_105 c_104)] ⟨rfl, rfl, rfl, rfl, rfl, rfl, trivial⟩ ?_
                refine CW.seq ?_
                refine CW.seq ?_
                refine CW.region ?_
                refine WL.val Wanted.none (Runs.move rfl) ?_
                refine WL.val Wanted.none (Runs.neq rfl rfl rfl) ?_
                refine WL.nil ?_
                refine QW.then_n ?_
                rcases H with ⟨c_109, H⟩ | ⟨c_109, H⟩
                · have h_110 : (r_108 != 0) = true := (bne_iff_ne.mpr c_109)
                  refine CW.ct rfl h_110 ?_
                  refine CW.seq ?_
                  refine CW.region ?_
                  refine WL.val Wanted.none (Runs.move rfl) ?_
                  refine WL.val Wanted.none (Runs.assign rfl) ?_
                  refine WL.val Wanted.none (Runs.assign rfl) ?_
                  refine WL.val Wanted.none (Runs.assign rfl) ?_
                  refine WL.nil ?_
                  refine QW.then_n ?_
                  refine CW.ret ?_
                  refine QW.then_r ?_
                  have st_112 := st_100.nil_sl 5 1
                  have st_112 : St w w_99 [.sl none 0 0 (iv .u8 ([] : List Int)) 5 1, .sl A_103 c_104 n_105 (iv .u8 r_102) 5 1, .cells B_1 (iv .u8 l0) 23] := st_112
                  obtain ⟨rfl, rfl, rfl⟩ := H
                  exact QW.ret3 rfl rfl rfl rfl ⟨none, 0, 0, rfl, rfl, st_112.pick [0] (by decide)⟩
                · have h_110 : (r_108 != 0) = false := (bne_eq_false_iff_eq.mpr (Decidable.not_not.mp c_109))
                  refine CW.cf rfl h_110 ?_
                  refine CW.skip ?_
                  refine QW.then_n ?_
                  refine CW.seq ?_
                  refine CW.region ?_
                  refine WL.val Wanted.none (Runs.move rfl) ?_
                  refine WL.val Wanted.none (Runs.move rfl) ?_
                  refine WL.val Wanted.none (Runs.assign rfl) ?_
                  refine WL.val Wanted.none (Runs.assign rfl) ?_
                  refine WL.val Wanted.none (Runs.assign rfl) ?_
                  refine WL.nil ?_
                  refine QW.then_n ?_
                  refine CW.sub [(8, .int .u64 r_18), (9, .slice A_103 n_105 c_104), (10, .int .i64 0)] ⟨rfl, rfl, rfl, trivial⟩ ?_
                  refine CW.ret ?_
                  obtain ⟨rfl, rfl, rfl⟩ := H
                  exact QW.ret3 rfl rfl rfl rfl ⟨A_103, c_104, n_105, hn_106, rfl, st_100.pick [0] (by decide)⟩

end Go.Proofs.YtkcpocplohdobaaDoor
