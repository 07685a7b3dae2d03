/- Walks: each function computes what its relation says, and a call of it ends so. Printed by a program of this session (wip/gen). -/
import Derived.Test.YtkfkkbblmnnblaaGeq0
namespace Go.Proofs.Ytkfkkbblmnnblaa
open Go Go.Kr Go.RowKit
set_option linter.unusedVariables false
set_option linter.unusedSimpArgs false
/-! ### equal_Choose: function 22 -/
def equal_Choose.rel (a0 : Int) (a1 : Int) (a2 : Int) (r0 : Int) : Prop := (∃ x_1 : Int, x_1 = bits .and .u64 (IntKind.u64.wrap (0 - (bits .and .u64 a0 1))) (bits .xor .u64 a1 a2) ∧ r0 = bits .xor .u64 a2 x_1)
set_option maxHeartbeats 4000000 in
set_option maxRecDepth 100000 in
theorem equal_Choose.calls (w : World) (a0 : Int) (a1 : Int) (a2 : Int)   (r0 : Int) (H : equal_Choose.rel a0 a1 a2 r0) :
    Calls Try.prog 22 #[.int .u64 a0, .int .u64 a1, .int .u64 a2] w fun e w' => e = .returned (.int .u64 r0) ∧ St w w' [] := by
  refine CW.enter Try.func22 rfl (n := 18) rfl [.int .u64 a0, .int .u64 a1, .int .u64 a2] (Nat.le_of_ble_eq_true rfl) ?_
  refine CW.sub [(0, .int .u64 a0), (1, .int .u64 a1), (2, .int .u64 a2)] ⟨rfl, rfl, rfl, trivial⟩ ?_
  have st0 : St w w [] := St.refl w
  refine CW.seq ?_
  refine CW.region ?_
  refine WL.val Wanted.none (Runs.assign rfl) ?_
  refine WL.nil ?_
  refine QW.then_n ?_
  refine CW.seq ?_
  refine CW.region ?_
  refine WL.val Wanted.none (Runs.move rfl) ?_
  refine WL.val Wanted.none (Runs.band rfl rfl rfl) ?_
  refine WL.val Wanted.none (Runs.neg rfl rfl) ?_
  refine WL.val Wanted.none (Runs.assign rfl) ?_
  refine WL.nil ?_
  refine QW.then_n ?_
  refine CW.seq ?_
  refine CW.region ?_
  refine WL.val Wanted.none (Runs.move rfl) ?_
  refine WL.val Wanted.none (Runs.move rfl) ?_
  refine WL.val Wanted.none (Runs.move rfl) ?_
  refine WL.val Wanted.none (Runs.move rfl) ?_
  refine WL.val Wanted.none (Runs.bxor rfl rfl rfl) ?_
  obtain ⟨x_1, e_2, H⟩ := H
  refine WL.val Wanted.none (Runs.band rfl rfl e_2) ?_
  refine WL.val Wanted.none (Runs.bxor rfl rfl rfl) ?_
  refine WL.val Wanted.none (Runs.assign rfl) ?_
  refine WL.nil ?_
  refine QW.then_n ?_
  refine CW.sub [(6, .int .u64 (bits .xor .u64 a2 x_1))] ⟨rfl, trivial⟩ ?_
  refine CW.ret ?_
  obtain rfl := H
  exact QW.ret1 rfl rfl ⟨rfl, st0.pick [] (by decide)⟩

/-! ### equal_differ: function 47 -/
def equal_differ.L1 (l0 : List Int) (l1 : List Int) (r0 : Int) : Nat → Int → Int → Prop
  | 0, _, _ => False
  | kL1 + 1, x_2, x_3 => ((x_3 < (l0.length : Int) ∧ ((0 ≤ x_3 ∧ x_3 < (l0.length : Int)) ∧ ((0 ≤ x_3 ∧ x_3 < (l1.length : Int)) ∧ (∃ x_17 : Int, x_17 = IntKind.u64.wrap (bits .xor .u8 (gn l0 ((x_3).toNat)) (gn l1 ((x_3).toNat))) ∧ equal_differ.L1 l0 l1 r0 kL1 (bits .or .u64 x_2 x_17) (IntKind.i64.wrap (x_3 + 1)))))) ∨ (¬ (x_3 < (l0.length : Int)) ∧ r0 = x_2))
def equal_differ.rel (l0 : List Int) (l1 : List Int) (r0 : Int) : Prop := (∃ k_ : Nat, equal_differ.L1 l0 l1 r0 k_ 0 0)
set_option maxHeartbeats 4000000 in
set_option maxRecDepth 100000 in
theorem equal_differ.calls (w : World) (l0 : List Int) (l1 : List Int) (A0 : Option Addr) (n0 : Nat) (c0 : Nat) (A1 : Option Addr) (n1 : Nat) (c1 : Nat) (hs0 : Src w A0 (iv .u8 l0)) (hn0 : n0 = l0.length) (hc0 : n0 ≤ c0) (hs1 : Src w A1 (iv .u8 l1)) (hn1 : n1 = l1.length) (hc1 : n1 ≤ c1) (r0 : Int) (H : equal_differ.rel l0 l1 r0) :
    Calls Try.prog 47 #[.slice A0 n0 c0, .slice A1 n1 c1] w fun e w' => e = .returned (.int .u64 r0) ∧ St w w' [] := by
  refine CW.enter Try.func47 rfl (n := 26) rfl [.slice A0 n0 c0, .slice A1 n1 c1] (Nat.le_of_ble_eq_true rfl) ?_
  refine CW.sub [(0, .slice A0 n0 c0), (1, .slice A1 n1 c1)] ⟨rfl, rfl, trivial⟩ ?_
  have st0 : St w w [] := St.refl w
  refine CW.seq ?_
  refine CW.region ?_
  refine WL.val Wanted.none (Runs.assign rfl) ?_
  refine WL.nil ?_
  refine QW.then_n ?_
  refine CW.seq ?_
  refine CW.region ?_
  refine WL.val Wanted.none (Runs.assign rfl) ?_
  refine WL.nil ?_
  refine QW.then_n ?_
  refine CW.seq ?_
  refine CW.seq ?_
  refine CW.region ?_
  refine WL.val Wanted.none (Runs.move rfl) ?_
  refine WL.val Wanted.none (Runs.len_sl Try.underlying22 rfl (by rw [hn0])) ?_
  refine WL.val Wanted.none (Runs.move rfl) ?_
  refine WL.nil ?_
  refine QW.then_n ?_
  refine CW.block ?_
  obtain ⟨k_1, H⟩ := H
  refine CW.sub [(0, .slice A0 n0 c0), (1, .slice A1 n1 c1), (4, .int .u64 0), (5, .int .u64 0), (8, .int .i64 (l0.length : Int)), (9, .int .i64 0)] ⟨rfl, rfl, rfl, rfl, rfl, rfl, trivial⟩ ?_
  refine CW.loop (fun kL1 l_ w_ => ∃ (x_2 : Int) (x_3 : Int), l_ = [(0, .slice A0 n0 c0), (1, .slice A1 n1 c1), (4, .int .u64 0), (5, .int .u64 x_2), (8, .int .i64 (l0.length : Int)), (9, .int .i64 x_3)] ∧ equal_differ.L1 l0 l1 r0 kL1 x_2 x_3 ∧ St w w_ []) (k := k_1) ⟨0, 0, rfl, H, st0⟩ (fun _ _ h => by obtain ⟨_, _, _, h, _⟩ := h; exact h.elim) ?_
  rintro kL1 l_6 w_4 ⟨x_2, x_3, rfl, H, st_5⟩
  refine CW.seq ?_
  refine CW.region ?_
  refine WL.val Wanted.none (Runs.lss rfl rfl rfl) ?_
  refine WL.nil ?_
  refine QW.then_n ?_
  refine CW.seq ?_
  rcases H with ⟨c_7, H⟩ | ⟨c_7, H⟩
  · have h_8 : (decide (x_3 < (l0.length : Int))) = true := (decide_eq_true c_7)
    refine CW.ct rfl h_8 ?_
    refine CW.skip ?_
    refine QW.then_n ?_
    refine CW.seq ?_
    refine CW.block ?_
    refine CW.seq ?_
    refine CW.region ?_
    refine WL.val Wanted.none (Runs.move rfl) ?_
    refine WL.val Wanted.none (Runs.assign rfl) ?_
    refine WL.nil ?_
    refine QW.then_n ?_
    refine CW.region_qa wide (by kernel_rfl) st_5 ?_
    refine HL.val Wanted.none (fun wq sq => (Runs.move rfl)) ?_
    refine HL.val Wanted.none (fun wq sq => (Runs.move rfl)) ?_
    refine HL.val Wanted.none (fun wq sq => (Runs.move rfl)) ?_
    obtain ⟨⟨p_9, q_10⟩, H⟩ := H
    obtain ⟨a_11, e_12⟩ := (hs0.ext st_5).addr_iv ((x_3).toNat) (by omega)
    refine HL.val Wanted.none (fun wq sq => (Runs.indexAddr Try.underlying22 cells5 (by decide) rfl e_12 rfl p_9 (by rw [hn0]; exact q_10) (o := (x_3).toNat) (by first | rfl | omega))) ?_
    refine HL.val Wanted.none (fun wq sq => (Runs.load nagg5 rfl ((hs0.ext sq).cell_iv e_12 (by omega)))) ?_
    refine HL.val Wanted.none (fun wq sq => (Runs.move rfl)) ?_
    refine HL.val Wanted.none (fun wq sq => (Runs.move rfl)) ?_
    obtain ⟨⟨p_13, q_14⟩, H⟩ := H
    obtain ⟨a_15, e_16⟩ := (hs1.ext st_5).addr_iv ((x_3).toNat) (by omega)
    refine HL.val Wanted.none (fun wq sq => (Runs.indexAddr Try.underlying22 cells5 (by decide) rfl e_16 rfl p_13 (by rw [hn1]; exact q_14) (o := (x_3).toNat) (by first | rfl | omega))) ?_
    refine HL.val Wanted.none (fun wq sq => (Runs.load nagg5 rfl ((hs1.ext sq).cell_iv e_16 (by omega)))) ?_
    refine HL.val Wanted.none (fun wq sq => (Runs.bxor rfl rfl rfl)) ?_
    obtain ⟨x_17, e_18, H⟩ := H
    refine HL.val Wanted.none (fun wq sq => (Runs.conv Try.underlying28 ⟨_, Try.underlying5⟩ rfl e_18)) ?_
    refine HL.val Wanted.none (fun wq sq => (Runs.bor rfl rfl rfl)) ?_
    refine HL.val Wanted.none (fun wq sq => (Runs.assign rfl)) ?_
    refine HL.nil (fun w_19 st_20 => ?_)
    refine WL.nil ?_
    refine QW.blk_n ?_
    refine QW.then_n ?_
    refine CW.region ?_
    refine WL.val Wanted.none (Runs.add rfl rfl rfl) ?_
    refine WL.val Wanted.none (Runs.move rfl) ?_
    refine WL.nil ?_
    exact QW.at [(0, .slice A0 n0 c0), (1, .slice A1 n1 c1), (4, .int .u64 0), (5, .int .u64 (bits .or .u64 x_2 x_17)), (8, .int .i64 (l0.length : Int)), (9, .int .i64 (IntKind.i64.wrap (x_3 + 1)))] ⟨rfl, rfl, rfl, rfl, rfl, rfl, trivial⟩ ⟨bits .or .u64 x_2 x_17, IntKind.i64.wrap (x_3 + 1), rfl, H, st_20⟩
  · have h_8 : (decide (x_3 < (l0.length : Int))) = false := (decide_eq_false c_7)
    refine CW.cf rfl h_8 ?_
    refine CW.exit ?_
    refine QW.then_x ?_
    refine QW.then_x ?_
    refine QW.blk_x ?_
    refine QW.then_n ?_
    refine CW.seq ?_
    refine CW.region ?_
    refine WL.val Wanted.none (Runs.move rfl) ?_
    refine WL.val Wanted.none (Runs.assign rfl) ?_
    refine WL.nil ?_
    refine QW.then_n ?_
    refine CW.sub [(4, .int .u64 x_2)] ⟨rfl, trivial⟩ ?_
    refine CW.ret ?_
    obtain rfl := H
    exact QW.ret1 rfl rfl ⟨rfl, st_5.pick [] (by decide)⟩

/-! ### equal_Bytes: function 19 -/
def equal_Bytes.rel (l0 : List Int) (l1 : List Int) (r0 : Bool) : Prop := (((l0.length : Int) = (l1.length : Int) ∧ (∃ (r_7 : Int), equal_differ.rel l0 l1 r_7 ∧ r0 = (r_7 == 0))) ∨ (¬ ((l0.length : Int) = (l1.length : Int)) ∧ r0 = false))
set_option maxHeartbeats 4000000 in
set_option maxRecDepth 100000 in
theorem equal_Bytes.calls (w : World) (l0 : List Int) (l1 : List Int) (A0 : Option Addr) (n0 : Nat) (c0 : Nat) (A1 : Option Addr) (n1 : Nat) (c1 : Nat) (hs0 : Src w A0 (iv .u8 l0)) (hn0 : n0 = l0.length) (hc0 : n0 ≤ c0) (hs1 : Src w A1 (iv .u8 l1)) (hn1 : n1 = l1.length) (hc1 : n1 ≤ c1) (r0 : Bool) (H : equal_Bytes.rel l0 l1 r0) :
    Calls Try.prog 19 #[.slice A0 n0 c0, .slice A1 n1 c1] w fun e w' => e = .returned (.bool r0) ∧ St w w' [] := by
  refine CW.enter Try.func19 rfl (n := 16) rfl [.slice A0 n0 c0, .slice A1 n1 c1] (Nat.le_of_ble_eq_true rfl) ?_
  refine CW.sub [(0, .slice A0 n0 c0), (1, .slice A1 n1 c1)] ⟨rfl, rfl, trivial⟩ ?_
  have st0 : St w w [] := St.refl w
  refine CW.seq ?_
  refine CW.region ?_
  refine WL.val Wanted.none (Runs.assign rfl) ?_
  refine WL.nil ?_
  refine QW.then_n ?_
  refine CW.seq ?_
  refine CW.region ?_
  refine WL.val Wanted.none (Runs.move rfl) ?_
  refine WL.val Wanted.none (Runs.len_sl Try.underlying22 rfl (by rw [hn0])) ?_
  refine WL.val Wanted.none (Runs.move rfl) ?_
  refine WL.val Wanted.none (Runs.len_sl Try.underlying22 rfl (by rw [hn1])) ?_
  refine WL.val Wanted.none (Runs.eql rfl rfl rfl) ?_
  refine WL.val Wanted.none (Runs.move rfl) ?_
  rcases H with ⟨c_1, H⟩ | ⟨c_1, H⟩
  · have h_2 : ((l0.length : Int) == (l1.length : Int)) = true := (beq_iff_eq.mpr c_1)
    refine WL.on ?_ ?_; exact Wanted.guard (dj := 10) (by rfl) (evb (by rfl) h_2) (by rfl)
    refine WL.val Wanted.none (Runs.move rfl) ?_
    refine WL.on ?_ ?_; exact Wanted.guard (dj := 10) (by rfl) (evb (by rfl) h_2) (by rfl)
    refine WL.val Wanted.none (Runs.move rfl) ?_
    refine WL.on ?_ ?_; exact Wanted.guard (dj := 10) (by rfl) (evb (by rfl) h_2) (by rfl)
    obtain ⟨r_7, hr_3, H⟩ := H
    refine WL.call Wanted.none ent47 rfl (equal_differ.calls w l0 l1 A0 n0 c0 A1 n1 c1 (hs0.ext st0) (hn0) (hc0) (hs1.ext st0) (hn1) (hc1) r_7 hr_3) ?_
    rintro _ w_4 ⟨rfl, sc_6⟩
    have st_5 : St w w_4 [] := st0.call sc_6
    refine ⟨_, rfl, ?_⟩
    refine WL.on ?_ ?_; exact Wanted.guard (dj := 10) (by rfl) (evb (by rfl) h_2) (by rfl)
    refine WL.val Wanted.none (Runs.eql rfl rfl rfl) ?_
    refine WL.val Wanted.none (Runs.pick_t (evb rfl h_2) rfl) ?_
    refine WL.val Wanted.none (Runs.assign rfl) ?_
    refine WL.nil ?_
    refine QW.then_n ?_
    refine CW.sub [(4, .bool (r_7 == 0))] ⟨rfl, trivial⟩ ?_
    refine CW.ret ?_
    obtain rfl := H
    exact QW.ret1 rfl rfl ⟨rfl, st_5.pick [] (by decide)⟩
  · have h_2 : ((l0.length : Int) == (l1.length : Int)) = false := (beq_eq_false_iff_ne.mpr c_1)
    refine WL.off ?_ ?_; exact Wanted.guard (dj := 10) (by rfl) (evb (by rfl) h_2) (by rfl)
    refine WL.off ?_ ?_; exact Wanted.guard (dj := 10) (by rfl) (evb (by rfl) h_2) (by rfl)
    refine WL.off ?_ ?_; exact Wanted.guard (dj := 10) (by rfl) (evb (by rfl) h_2) (by rfl)
    refine WL.off ?_ ?_; exact Wanted.guard (dj := 10) (by rfl) (evb (by rfl) h_2) (by rfl)
    refine WL.val Wanted.none (Runs.pick_f (evb rfl h_2) rfl) ?_
    refine WL.val Wanted.none (Runs.assign rfl) ?_
    refine WL.nil ?_
    refine QW.then_n ?_
    refine CW.sub [(4, .bool false)] ⟨rfl, trivial⟩ ?_
    refine CW.ret ?_
    obtain rfl := H
    exact QW.ret1 rfl rfl ⟨rfl, st0.pick [] (by decide)⟩

/-! ### equal_bit: function 48 -/
def equal_bit.rel (a0 : Bool) (r0 : Int) : Prop := ((a0 = true ∧ r0 = 1) ∨ (¬ (a0 = true) ∧ r0 = 0))
set_option maxHeartbeats 4000000 in
set_option maxRecDepth 100000 in
theorem equal_bit.calls (w : World) (a0 : Bool)   (r0 : Int) (H : equal_bit.rel a0 r0) :
    Calls Try.prog 48 #[.bool a0] w fun e w' => e = .returned (.int .u64 r0) ∧ St w w' [] := by
  refine CW.enter Try.func48 rfl (n := 4) rfl [.bool a0] (Nat.le_of_ble_eq_true rfl) ?_
  refine CW.sub [(0, .bool a0)] ⟨rfl, trivial⟩ ?_
  have st0 : St w w [] := St.refl w
  refine CW.seq ?_
  refine CW.region ?_
  refine WL.val Wanted.none (Runs.assign rfl) ?_
  refine WL.nil ?_
  refine QW.then_n ?_
  refine CW.seq ?_
  refine CW.seq ?_
  refine CW.region ?_
  refine WL.val Wanted.none (Runs.move rfl) ?_
  refine WL.nil ?_
  refine QW.then_n ?_
  rcases H with ⟨c_1, H⟩ | ⟨c_1, H⟩
  · have h_2 : a0 = true := c_1
    refine CW.ct rfl h_2 ?_
    refine CW.seq ?_
    refine CW.region ?_
    refine WL.val Wanted.none (Runs.assign rfl) ?_
    refine WL.nil ?_
    refine QW.then_n ?_
    refine CW.ret ?_
    refine QW.then_r ?_
    obtain rfl := H
    exact QW.ret1 rfl rfl ⟨rfl, st0.pick [] (by decide)⟩
  · have h_2 : a0 = false := (Bool.eq_false_iff.mpr c_1)
    refine CW.cf rfl h_2 ?_
    refine CW.skip ?_
    refine QW.then_n ?_
    refine CW.seq ?_
    refine CW.region ?_
    refine WL.val Wanted.none (Runs.assign rfl) ?_
    refine WL.nil ?_
    refine QW.then_n ?_
    refine CW.ret ?_
    obtain rfl := H
    exact QW.ret1 rfl rfl ⟨rfl, st0.pick [] (by decide)⟩

/-! ### equal_Find: function 20 -/
def equal_Find.L1 (l0 : List (List Int)) (l1 : List Int) (r0 : Int) : Nat → Int → Int → Prop
  | 0, _, _ => False
  | kL1 + 1, x_2, x_3 => ((x_3 < (l0.length : Int) ∧ (∃ x_9 : Int, x_9 = IntKind.i64.wrap ((IntKind.i64.wrap ((l0.length : Int) - 1)) - x_3) ∧ ((0 ≤ x_9 ∧ x_9 < (l0.length : Int)) ∧ (∃ (r_26 : Bool), equal_Bytes.rel (gl l0 ((x_9).toNat)) l1 r_26 ∧ (∃ (r_31 : Int), equal_bit.rel r_26 r_31 ∧ (∃ (r_36 : Int), equal_Choose.rel r_31 (IntKind.u64.wrap x_9) x_2 r_36 ∧ equal_Find.L1 l0 l1 r0 kL1 r_36 (IntKind.i64.wrap (x_3 + 1)))))))) ∨ (¬ (x_3 < (l0.length : Int)) ∧ r0 = IntKind.i64.wrap x_2))
def equal_Find.rel (l0 : List (List Int)) (l1 : List Int) (r0 : Int) : Prop := (∃ k_ : Nat, equal_Find.L1 l0 l1 r0 k_ 18446744073709551615 0)
set_option maxHeartbeats 4000000 in
set_option maxRecDepth 100000 in
theorem equal_Find.calls (w : World) (l0 : List (List Int)) (l1 : List Int) (A0 : Option Addr) (n0 : Nat) (c0 : Nat) (A1 : Option Addr) (n1 : Nat) (c1 : Nat) (hs0 : RowsOf w .u8 A0 l0) (hn0 : n0 = l0.length) (hc0 : n0 ≤ c0) (hs1 : Src w A1 (iv .u8 l1)) (hn1 : n1 = l1.length) (hc1 : n1 ≤ c1) (r0 : Int) (H : equal_Find.rel l0 l1 r0) :
    Calls Try.prog 20 #[.slice A0 n0 c0, .slice A1 n1 c1] w fun e w' => e = .returned (.int .i64 r0) ∧ St w w' [] := by
  refine CW.enter Try.func20 rfl (n := 32) rfl [.slice A0 n0 c0, .slice A1 n1 c1] (Nat.le_of_ble_eq_true rfl) ?_
  refine CW.sub [(0, .slice A0 n0 c0), (1, .slice A1 n1 c1)] ⟨rfl, rfl, trivial⟩ ?_
  have st0 : St w w [] := St.refl w
  refine CW.seq ?_
  refine CW.region ?_
  refine WL.val Wanted.none (Runs.assign rfl) ?_
  refine WL.nil ?_
  refine QW.then_n ?_
  refine CW.seq ?_
  refine CW.region ?_
  refine WL.val Wanted.none (Runs.assign rfl) ?_
  refine WL.nil ?_
  refine QW.then_n ?_
  refine CW.seq ?_
  refine CW.seq ?_
  refine CW.region ?_
  refine WL.val Wanted.none (Runs.move rfl) ?_
  refine WL.val Wanted.none (Runs.len_sl Try.underlying23 rfl (by rw [hn0])) ?_
  refine WL.val Wanted.none (Runs.move rfl) ?_
  refine WL.nil ?_
  refine QW.then_n ?_
  refine CW.block ?_
  obtain ⟨k_1, H⟩ := H
  refine CW.sub [(0, .slice A0 n0 c0), (1, .slice A1 n1 c1), (4, .int .i64 0), (5, .int .u64 18446744073709551615), (9, .int .i64 (l0.length : Int)), (10, .int .i64 0)] ⟨rfl, rfl, rfl, rfl, rfl, rfl, trivial⟩ ?_
  refine CW.loop (fun kL1 l_ w_ => ∃ (x_2 : Int) (x_3 : Int), l_ = [(0, .slice A0 n0 c0), (1, .slice A1 n1 c1), (4, .int .i64 0), (5, .int .u64 x_2), (9, .int .i64 (l0.length : Int)), (10, .int .i64 x_3)] ∧ equal_Find.L1 l0 l1 r0 kL1 x_2 x_3 ∧ St w w_ []) (k := k_1) ⟨18446744073709551615, 0, rfl, H, st0⟩ (fun _ _ h => by obtain ⟨_, _, _, h, _⟩ := h; exact h.elim) ?_
  rintro kL1 l_6 w_4 ⟨x_2, x_3, rfl, H, st_5⟩
  refine CW.seq ?_
  refine CW.region ?_
  refine WL.val Wanted.none (Runs.lss rfl rfl rfl) ?_
  refine WL.nil ?_
  refine QW.then_n ?_
  refine CW.seq ?_
  rcases H with ⟨c_7, H⟩ | ⟨c_7, H⟩
  · have h_8 : (decide (x_3 < (l0.length : Int))) = true := (decide_eq_true c_7)
    refine CW.ct rfl h_8 ?_
    refine CW.skip ?_
    refine QW.then_n ?_
    refine CW.seq ?_
    refine CW.block ?_
    refine CW.seq ?_
    refine CW.region ?_
    refine WL.val Wanted.none (Runs.move rfl) ?_
    refine WL.val Wanted.none (Runs.assign rfl) ?_
    refine WL.nil ?_
    refine QW.then_n ?_
    refine CW.seq ?_
    refine CW.region ?_
    refine WL.val Wanted.none (Runs.move rfl) ?_
    refine WL.val Wanted.none (Runs.len_sl Try.underlying23 rfl (by rw [hn0])) ?_
    refine WL.val Wanted.none (Runs.sub rfl rfl rfl) ?_
    refine WL.val Wanted.none (Runs.move rfl) ?_
    obtain ⟨x_9, e_10, H⟩ := H
    refine WL.val Wanted.none (Runs.sub rfl rfl e_10) ?_
    refine WL.val Wanted.none (Runs.assign rfl) ?_
    refine WL.nil ?_
    refine QW.then_n ?_
    refine CW.region ?_
    refine WL.val Wanted.none (Runs.move rfl) ?_
    refine WL.val Wanted.none (Runs.move rfl) ?_
    obtain ⟨⟨p_11, q_12⟩, H⟩ := H
    obtain ⟨a_13, A_15, n_16, c_17, e_14, f_19, hn_20, hc_21, g_18⟩ := hs0.get ((x_9).toNat) (by omega)
    refine WL.val Wanted.none (Runs.indexAddr Try.underlying23 cells22 (by decide) rfl e_14 rfl p_11 (by rw [hn0]; exact q_12) (o := (x_9).toNat) (by first | rfl | omega)) ?_
    refine WL.val Wanted.none (Runs.load nagg22 rfl (st_5.up f_19)) ?_
    refine WL.val Wanted.none (Runs.move rfl) ?_
    obtain ⟨r_26, hr_22, H⟩ := H
    refine WL.call Wanted.none ent19 rfl (equal_Bytes.calls w_4 (gl l0 ((x_9).toNat)) l1 A_15 n_16 c_17 A1 n1 c1 (g_18.ext st_5) (hn_20) (hc_21) (hs1.ext st_5) (hn1) (hc1) r_26 hr_22) ?_
    rintro _ w_23 ⟨rfl, sc_25⟩
    have st_24 : St w w_23 [] := st_5.call sc_25
    refine ⟨_, rfl, ?_⟩
    obtain ⟨r_31, hr_27, H⟩ := H
    refine WL.call Wanted.none ent48 rfl (equal_bit.calls w_23 r_26 r_31 hr_27) ?_
    rintro _ w_28 ⟨rfl, sc_30⟩
    have st_29 : St w w_28 [] := st_24.call sc_30
    refine ⟨_, rfl, ?_⟩
    refine WL.val Wanted.none (Runs.move rfl) ?_
    refine WL.val Wanted.none (Runs.conv Try.underlying28 ⟨_, Try.underlying3⟩ rfl rfl) ?_
    refine WL.val Wanted.none (Runs.move rfl) ?_
    obtain ⟨r_36, hr_32, H⟩ := H
    refine WL.call Wanted.none ent22 rfl (equal_Choose.calls w_28 r_31 (IntKind.u64.wrap x_9) x_2 r_36 hr_32) ?_
    rintro _ w_33 ⟨rfl, sc_35⟩
    have st_34 : St w w_33 [] := st_29.call sc_35
    refine ⟨_, rfl, ?_⟩
    refine WL.val Wanted.none (Runs.assign rfl) ?_
    refine WL.nil ?_
    refine QW.blk_n ?_
    refine QW.then_n ?_
    refine CW.region ?_
    refine WL.val Wanted.none (Runs.add rfl rfl rfl) ?_
    refine WL.val Wanted.none (Runs.move rfl) ?_
    refine WL.nil ?_
    exact QW.at [(0, .slice A0 n0 c0), (1, .slice A1 n1 c1), (4, .int .i64 0), (5, .int .u64 r_36), (9, .int .i64 (l0.length : Int)), (10, .int .i64 (IntKind.i64.wrap (x_3 + 1)))] ⟨rfl, rfl, rfl, rfl, rfl, rfl, trivial⟩ ⟨r_36, IntKind.i64.wrap (x_3 + 1), rfl, H, st_34⟩
  · have h_8 : (decide (x_3 < (l0.length : Int))) = false := (decide_eq_false c_7)
    refine CW.cf rfl h_8 ?_
    refine CW.exit ?_
    refine QW.then_x ?_
    refine QW.then_x ?_
    refine QW.blk_x ?_
    refine QW.then_n ?_
    refine CW.seq ?_
    refine CW.region ?_
    refine WL.val Wanted.none (Runs.move rfl) ?_
    refine WL.val Wanted.none (Runs.conv Try.underlying2 ⟨_, Try.underlying28⟩ rfl rfl) ?_
    refine WL.val Wanted.none (Runs.assign rfl) ?_
    refine WL.nil ?_
    refine QW.then_n ?_
    refine CW.sub [(4, .int .i64 (IntKind.i64.wrap x_2))] ⟨rfl, trivial⟩ ?_
    refine CW.ret ?_
    obtain rfl := H
    exact QW.ret1 rfl rfl ⟨rfl, st_5.pick [] (by decide)⟩

/-! ### reliquarylaw05_awake: function 18 -/
def reliquarylaw05_awake.rel   : Prop := (∃ (r_5 : Int), equal_Choose.rel 1 5 7 r_5 ∧ (r_5 = 5 ∧ (∃ (r_12 : Int), equal_Choose.rel 2 5 7 r_12 ∧ (r_12 = 7 ∧ (∃ (r_19 : Bool), equal_Bytes.rel ([] : List Int) ([] : List Int) r_19 ∧ (r_19 = true ∧ (∃ (r_26 : Int), equal_Find.rel ([] : List (List Int)) ([] : List Int) r_26 ∧ r_26 = (-1))))))))
set_option maxHeartbeats 4000000 in
set_option maxRecDepth 100000 in
theorem reliquarylaw05_awake.calls (w : World)     (H : reliquarylaw05_awake.rel  ) :
    Calls Try.prog 18 #[] w fun e w' => e = .returned (.bool true) ∧ Below w.heap.size w w' := by
  refine CW.enter Try.func18 rfl (n := 14) rfl [] (Nat.le_of_ble_eq_true rfl) ?_
  refine CW.sub [] trivial ?_
  have st0 : St w w [] := St.refl w
  refine CW.seq ?_
  refine CW.region ?_
  refine WL.val Wanted.none (Runs.assign rfl) ?_
  refine WL.nil ?_
  refine QW.then_n ?_
  refine CW.seq ?_
  refine CW.region ?_
  obtain ⟨r_5, hr_1, H⟩ := H
  refine WL.call Wanted.none ent22 rfl (equal_Choose.calls w 1 5 7 r_5 hr_1) ?_
  rintro _ w_2 ⟨rfl, sc_4⟩
  have st_3 : St w w_2 [] := st0.call sc_4
  refine ⟨_, rfl, ?_⟩
  refine WL.val Wanted.none (Runs.eql rfl rfl rfl) ?_
  refine WL.val Wanted.none (Runs.move rfl) ?_
  obtain ⟨c_6, H⟩ := H
  have h_7 : (r_5 == 5) = true := (beq_iff_eq.mpr c_6)
  refine WL.on ?_ ?_; exact Wanted.guard (dj := 3) (by rfl) (evb (by rfl) h_7) (by rfl)
  obtain ⟨r_12, hr_8, H⟩ := H
  refine WL.call Wanted.none ent22 rfl (equal_Choose.calls w_2 2 5 7 r_12 hr_8) ?_
  rintro _ w_9 ⟨rfl, sc_11⟩
  have st_10 : St w w_9 [] := st_3.call sc_11
  refine ⟨_, rfl, ?_⟩
  refine WL.on ?_ ?_; exact Wanted.guard (dj := 3) (by rfl) (evb (by rfl) h_7) (by rfl)
  refine WL.val Wanted.none (Runs.eql rfl rfl rfl) ?_
  refine WL.val Wanted.none (Runs.pick_t (evb rfl h_7) rfl) ?_
  refine WL.val Wanted.none (Runs.move rfl) ?_
  obtain ⟨c_13, H⟩ := H
  have h_14 : (r_12 == 7) = true := (beq_iff_eq.mpr c_13)
  refine WL.on ?_ ?_; exact Wanted.guard (dj := 7) (by rfl) (evb (by rfl) h_14) (by rfl)
  obtain ⟨r_19, hr_15, H⟩ := H
  refine WL.call Wanted.none ent19 rfl (equal_Bytes.calls w_9 ([] : List Int) ([] : List Int) none 0 0 none 0 0 (Src.nil _ _) (rfl) (Nat.le_refl _) (Src.nil _ _) (rfl) (Nat.le_refl _) r_19 hr_15) ?_
  rintro _ w_16 ⟨rfl, sc_18⟩
  have st_17 : St w w_16 [] := st_10.call sc_18
  refine ⟨_, rfl, ?_⟩
  refine WL.val Wanted.none (Runs.pick_t (evb rfl h_14) rfl) ?_
  refine WL.val Wanted.none (Runs.move rfl) ?_
  obtain ⟨c_20, H⟩ := H
  have h_21 : r_19 = true := c_20
  refine WL.on ?_ ?_; exact Wanted.guard (dj := 10) (by rfl) (evb (by rfl) h_21) (by rfl)
  obtain ⟨r_26, hr_22, H⟩ := H
  refine WL.call Wanted.none ent20 rfl (equal_Find.calls w_16 ([] : List (List Int)) ([] : List Int) none 0 0 none 0 0 (RowsOf.nil _ _ _) (rfl) (Nat.le_refl _) (Src.nil _ _) (rfl) (Nat.le_refl _) r_26 hr_22) ?_
  rintro _ w_23 ⟨rfl, sc_25⟩
  have st_24 : St w w_23 [] := st_17.call sc_25
  refine ⟨_, rfl, ?_⟩
  refine WL.on ?_ ?_; exact Wanted.guard (dj := 10) (by rfl) (evb (by rfl) h_21) (by rfl)
  refine WL.val Wanted.none (Runs.eql rfl rfl rfl) ?_
  refine WL.val Wanted.none (Runs.pick_t (evb rfl h_21) rfl) ?_
  refine WL.val Wanted.none (Runs.assign rfl) ?_
  refine WL.nil ?_
  refine QW.then_n ?_
  refine CW.sub [(0, .bool (r_26 == (-1)))] ⟨rfl, trivial⟩ ?_
  refine CW.ret ?_
  have hz : (r_26 == (-1)) = true := (beq_iff_eq.mpr H)
  exact QW.ret1 rfl (evb rfl hz) ⟨rfl, st_24.ext⟩

/-! ### reliquaryref05_Find: function 21 -/
def reliquaryref05_Find.L1 (l0 : List (List Int)) (l1 : List Int) (r0 : Int) : Nat → Int → Int → Prop
  | 0, _, _ => False
  | kL1 + 1, x_2, x_3 => ((x_3 < (l0.length : Int) ∧ ((0 ≤ x_3 ∧ x_3 < (l0.length : Int)) ∧ (((strOfNums (gl l0 ((x_3).toNat))).toList = (strOfNums l1).toList ∧ r0 = x_3) ∨ (¬ ((strOfNums (gl l0 ((x_3).toNat))).toList = (strOfNums l1).toList) ∧ reliquaryref05_Find.L1 l0 l1 r0 kL1 x_2 (IntKind.i64.wrap (x_3 + 1)))))) ∨ (¬ (x_3 < (l0.length : Int)) ∧ r0 = -1))
def reliquaryref05_Find.rel (l0 : List (List Int)) (l1 : List Int) (r0 : Int) : Prop := (∃ k_ : Nat, reliquaryref05_Find.L1 l0 l1 r0 k_ 0 0)
set_option maxHeartbeats 4000000 in
set_option maxRecDepth 100000 in
theorem reliquaryref05_Find.calls (w : World) (l0 : List (List Int)) (l1 : List Int) (A0 : Option Addr) (n0 : Nat) (c0 : Nat) (A1 : Option Addr) (n1 : Nat) (c1 : Nat) (hs0 : RowsOf w .u8 A0 l0) (hn0 : n0 = l0.length) (hc0 : n0 ≤ c0) (hs1 : Src w A1 (iv .u8 l1)) (hn1 : n1 = l1.length) (hc1 : n1 ≤ c1) (r0 : Int) (H : reliquaryref05_Find.rel l0 l1 r0) :
    Calls Try.prog 21 #[.slice A0 n0 c0, .slice A1 n1 c1] w fun e w' => e = .returned (.int .i64 r0) ∧ St w w' [] := by
  refine CW.enter Try.func21 rfl (n := 21) rfl [.slice A0 n0 c0, .slice A1 n1 c1] (Nat.le_of_ble_eq_true rfl) ?_
  refine CW.sub [(0, .slice A0 n0 c0), (1, .slice A1 n1 c1)] ⟨rfl, rfl, trivial⟩ ?_
  have st0 : St w w [] := St.refl w
  refine CW.seq ?_
  refine CW.region ?_
  refine WL.val Wanted.none (Runs.assign rfl) ?_
  refine WL.nil ?_
  refine QW.then_n ?_
  refine CW.seq ?_
  refine CW.seq ?_
  refine CW.region ?_
  refine WL.val Wanted.none (Runs.assign rfl) ?_
  refine WL.nil ?_
  refine QW.then_n ?_
  refine CW.block ?_
  obtain ⟨k_1, H⟩ := H
  refine CW.sub [(0, .slice A0 n0 c0), (1, .slice A1 n1 c1), (4, .int .i64 0), (5, .int .i64 0)] ⟨rfl, rfl, rfl, rfl, trivial⟩ ?_
  refine CW.loop (fun kL1 l_ w_ => ∃ (x_2 : Int) (x_3 : Int), l_ = [(0, .slice A0 n0 c0), (1, .slice A1 n1 c1), (4, .int .i64 x_2), (5, .int .i64 x_3)] ∧ reliquaryref05_Find.L1 l0 l1 r0 kL1 x_2 x_3 ∧ St w w_ []) (k := k_1) ⟨0, 0, rfl, H, st0⟩ (fun _ _ h => by obtain ⟨_, _, _, h, _⟩ := h; exact h.elim) ?_
  rintro kL1 l_6 w_4 ⟨x_2, x_3, rfl, H, st_5⟩
  refine CW.seq ?_
  refine CW.seq ?_
  refine CW.region ?_
  refine WL.val Wanted.none (Runs.move rfl) ?_
  refine WL.val Wanted.none (Runs.move rfl) ?_
  refine WL.val Wanted.none (Runs.len_sl Try.underlying23 rfl (by rw [hn0])) ?_
  refine WL.val Wanted.none (Runs.lss rfl rfl rfl) ?_
  refine WL.nil ?_
  refine QW.then_n ?_
  rcases H with ⟨c_7, H⟩ | ⟨c_7, H⟩
  · have h_8 : (decide (x_3 < (l0.length : Int))) = true := (decide_eq_true c_7)
    refine CW.ct rfl h_8 ?_
    refine CW.skip ?_
    refine QW.then_n ?_
    refine CW.seq ?_
    refine CW.block ?_
    refine CW.seq ?_
    refine CW.region_qa wide (by kernel_rfl) st_5 ?_
    refine HL.val Wanted.none (fun wq sq => (Runs.move rfl)) ?_
    refine HL.val Wanted.none (fun wq sq => (Runs.move rfl)) ?_
    obtain ⟨⟨p_9, q_10⟩, H⟩ := H
    obtain ⟨a_11, A_13, n_14, c_15, e_12, f_17, hn_18, hc_19, g_16⟩ := hs0.get ((x_3).toNat) (by omega)
    refine HL.val Wanted.none (fun wq sq => (Runs.indexAddr Try.underlying23 cells22 (by decide) rfl e_12 rfl p_9 (by rw [hn0]; exact q_10) (o := (x_3).toNat) (by first | rfl | omega))) ?_
    refine HL.val Wanted.none (fun wq sq => (Runs.load nagg22 rfl (sq.up f_17))) ?_
    refine HL.val Wanted.none (fun wq sq => (Runs.bytes_str Try.underlying22 Try.underlying5 Try.underlying9 rfl (g_16.ext sq) hn_18)) ?_
    refine HL.val Wanted.none (fun wq sq => (Runs.move rfl)) ?_
    refine HL.val Wanted.none (fun wq sq => (Runs.bytes_str Try.underlying22 Try.underlying5 Try.underlying9 rfl (hs1.ext sq) hn1)) ?_
    refine HL.val Wanted.none (fun wq sq => (Runs.eqs rfl rfl rfl)) ?_
    refine HL.nil (fun w_20 st_21 => ?_)
    refine WL.nil ?_
    refine QW.then_n ?_
    rcases H with ⟨c_22, H⟩ | ⟨c_22, H⟩
    · have h_23 : ((strOfNums (gl l0 ((x_3).toNat))).toList == (strOfNums l1).toList) = true := (beq_iff_eq.mpr c_22)
      refine CW.ct rfl h_23 ?_
      refine CW.seq ?_
      refine CW.region ?_
      refine WL.val Wanted.none (Runs.move rfl) ?_
      refine WL.val Wanted.none (Runs.assign rfl) ?_
      refine WL.nil ?_
      refine QW.then_n ?_
      refine CW.ret ?_
      refine QW.blk_r ?_
      refine QW.then_r ?_
      refine QW.then_r ?_
      refine QW.blk_r ?_
      refine QW.then_r ?_
      obtain rfl := H
      exact QW.ret1 rfl rfl ⟨rfl, st_21.pick [] (by decide)⟩
    · have h_23 : ((strOfNums (gl l0 ((x_3).toNat))).toList == (strOfNums l1).toList) = false := (beq_eq_false_iff_ne.mpr c_22)
      refine CW.cf rfl h_23 ?_
      refine CW.skip ?_
      refine QW.blk_n ?_
      refine QW.then_n ?_
      refine CW.region ?_
      refine WL.val Wanted.none (Runs.move rfl) ?_
      refine WL.val Wanted.none (Runs.add rfl rfl rfl) ?_
      refine WL.val Wanted.none (Runs.assign rfl) ?_
      refine WL.nil ?_
      exact QW.at [(0, .slice A0 n0 c0), (1, .slice A1 n1 c1), (4, .int .i64 x_2), (5, .int .i64 (IntKind.i64.wrap (x_3 + 1)))] ⟨rfl, rfl, rfl, rfl, trivial⟩ ⟨x_2, IntKind.i64.wrap (x_3 + 1), rfl, H, st_21⟩
  · have h_8 : (decide (x_3 < (l0.length : Int))) = false := (decide_eq_false c_7)
    refine CW.cf rfl h_8 ?_
    refine CW.exit ?_
    refine QW.then_x ?_
    refine QW.then_x ?_
    refine QW.blk_x ?_
    refine QW.then_n ?_
    refine CW.sub [(4, .int .i64 x_2)] ⟨rfl, trivial⟩ ?_
    refine CW.seq ?_
    refine CW.region ?_
    refine WL.val Wanted.none (Runs.assign rfl) ?_
    refine WL.nil ?_
    refine QW.then_n ?_
    refine CW.ret ?_
    obtain rfl := H
    exact QW.ret1 rfl rfl ⟨rfl, st_5.pick [] (by decide)⟩

/-! ### reliquarylaw05_EqualBytes: function 3 -/
def reliquarylaw05_EqualBytes.L1 (l0 : List Int) (l1 : List Int) (l2 : List (List Int)) : Nat → Bool → Int → Prop
  | 0, _, _ => False
  | kL1 + 1, b_12, x_13 => ((x_13 < (l2.length : Int) ∧ ((0 ≤ x_13 ∧ x_13 < (l2.length : Int)) ∧ ((((gl l2 ((x_13).toNat)).length : Int) > 500 ∧ True) ∨ (¬ (((gl l2 ((x_13).toNat)).length : Int) > 500) ∧ reliquarylaw05_EqualBytes.L1 l0 l1 l2 kL1 b_12 (IntKind.i64.wrap (x_13 + 1)))))) ∨ (¬ (x_13 < (l2.length : Int)) ∧ (∃ (r_36 : Bool), equal_Bytes.rel l0 l1 r_36 ∧ (r_36 = ((strOfNums l0).toList == (strOfNums l1).toList) ∧ (∃ (r_43 : Bool), equal_Bytes.rel l1 l0 r_43 ∧ (∃ (r_48 : Bool), equal_Bytes.rel l0 l1 r_48 ∧ (r_43 = r_48 ∧ (∃ (r_55 : Int), equal_Find.rel l2 l0 r_55 ∧ (∃ (r_60 : Int), reliquaryref05_Find.rel l2 l0 r_60 ∧ r_55 = r_60)))))))))
def reliquarylaw05_EqualBytes.rel (l0 : List Int) (l1 : List Int) (l2 : List (List Int))  : Prop := (reliquarylaw05_awake.rel  ∧ (((l0.length : Int) > 3000 ∧ True) ∨ (¬ ((l0.length : Int) > 3000) ∧ (((l1.length : Int) > 3000 ∧ True) ∨ (¬ ((l1.length : Int) > 3000) ∧ (((l2.length : Int) > 100 ∧ True) ∨ (¬ ((l2.length : Int) > 100) ∧ (∃ k_ : Nat, reliquarylaw05_EqualBytes.L1 l0 l1 l2 k_ false 0))))))))
set_option maxHeartbeats 4000000 in
set_option maxRecDepth 100000 in
theorem reliquarylaw05_EqualBytes.calls (w : World) (l0 : List Int) (l1 : List Int) (l2 : List (List Int)) (A0 : Option Addr) (n0 : Nat) (c0 : Nat) (A1 : Option Addr) (n1 : Nat) (c1 : Nat) (A2 : Option Addr) (n2 : Nat) (c2 : Nat) (hs0 : Src w A0 (iv .u8 l0)) (hn0 : n0 = l0.length) (hc0 : n0 ≤ c0) (hs1 : Src w A1 (iv .u8 l1)) (hn1 : n1 = l1.length) (hc1 : n1 ≤ c1) (hs2 : RowsOf w .u8 A2 l2) (hn2 : n2 = l2.length) (hc2 : n2 ≤ c2)  (H : reliquarylaw05_EqualBytes.rel l0 l1 l2 ) :
    Calls Try.prog 3 #[.slice A0 n0 c0, .slice A1 n1 c1, .slice A2 n2 c2] w fun e w' => e = .returned (.bool true) ∧ Below w.heap.size w w' := by
  refine CW.enter Try.func3 rfl (n := 64) rfl [.slice A0 n0 c0, .slice A1 n1 c1, .slice A2 n2 c2] (Nat.le_of_ble_eq_true rfl) ?_
  refine CW.sub [(0, .slice A0 n0 c0), (1, .slice A1 n1 c1), (2, .slice A2 n2 c2)] ⟨rfl, rfl, rfl, trivial⟩ ?_
  have st0 : St w w [] := St.refl w
  refine CW.seq ?_
  refine CW.region ?_
  refine WL.val Wanted.none (Runs.assign rfl) ?_
  refine WL.nil ?_
  refine QW.then_n ?_
  refine CW.seq ?_
  refine CW.region ?_
  obtain ⟨hr_1, H⟩ := H
  refine WL.call Wanted.none ent18 rfl (reliquarylaw05_awake.calls w hr_1) ?_
  rintro _ w_2 ⟨rfl, sc_4⟩
  have st_3 : St w w_2 [] := st0.below sc_4
  refine ⟨_, rfl, ?_⟩
  refine WL.val Wanted.none (Runs.assign rfl) ?_
  refine WL.nil ?_
  refine QW.then_n ?_
  refine CW.seq ?_
  refine CW.seq ?_
  refine CW.region ?_
  refine WL.val Wanted.none (Runs.move rfl) ?_
  refine WL.val Wanted.none (Runs.not rfl rfl) ?_
  refine WL.nil ?_
  refine QW.then_n ?_
  refine CW.cf rfl rfl ?_
  refine CW.skip ?_
  refine QW.then_n ?_
  refine CW.seq ?_
  refine CW.seq ?_
  refine CW.region ?_
  refine WL.val Wanted.none (Runs.move rfl) ?_
  refine WL.val Wanted.none (Runs.len_sl Try.underlying22 rfl (by rw [hn0])) ?_
  refine WL.val Wanted.none (Runs.gtr rfl rfl rfl) ?_
  refine WL.val Wanted.none (Runs.move rfl) ?_
  rcases H with ⟨c_5, H⟩ | ⟨c_5, H⟩
  · have h_6 : (decide ((l0.length : Int) > 3000)) = true := (decide_eq_true c_5)
    refine WL.off ?_ ?_; exact Wanted.guard (dj := 15) (by rfl) (evb (by rfl) h_6) (by rfl)
    refine WL.off ?_ ?_; exact Wanted.guard (dj := 15) (by rfl) (evb (by rfl) h_6) (by rfl)
    refine WL.off ?_ ?_; exact Wanted.guard (dj := 15) (by rfl) (evb (by rfl) h_6) (by rfl)
    refine WL.val Wanted.none (Runs.pick_t (evb rfl h_6) rfl) ?_
    refine WL.val Wanted.none (Runs.move rfl) ?_
    refine WL.off ?_ ?_; exact Wanted.guard (dj := 20) (by rfl) (by rfl) (by rfl)
    refine WL.off ?_ ?_; exact Wanted.guard (dj := 20) (by rfl) (by rfl) (by rfl)
    refine WL.off ?_ ?_; exact Wanted.guard (dj := 20) (by rfl) (by rfl) (by rfl)
    refine WL.val Wanted.none (Runs.pick_t rfl rfl) ?_
    refine WL.nil ?_
    refine QW.then_n ?_
    refine CW.sub [(0, .slice A0 n0 c0), (1, .slice A1 n1 c1), (2, .slice A2 n2 c2), (6, .bool false), (24, .bool true)] ⟨rfl, rfl, rfl, rfl, rfl, trivial⟩ ?_
    refine CW.ct rfl rfl ?_
    refine CW.seq ?_
    refine CW.region ?_
    refine WL.val Wanted.none (Runs.assign rfl) ?_
    refine WL.nil ?_
    refine QW.then_n ?_
    refine CW.ret ?_
    refine QW.then_r ?_
    exact QW.ret1 rfl rfl ⟨rfl, st_3.ext⟩
  · have h_6 : (decide ((l0.length : Int) > 3000)) = false := (decide_eq_false c_5)
    refine WL.on ?_ ?_; exact Wanted.guard (dj := 15) (by rfl) (evb (by rfl) h_6) (by rfl)
    refine WL.val Wanted.none (Runs.move rfl) ?_
    refine WL.on ?_ ?_; exact Wanted.guard (dj := 15) (by rfl) (evb (by rfl) h_6) (by rfl)
    refine WL.val Wanted.none (Runs.len_sl Try.underlying22 rfl (by rw [hn1])) ?_
    refine WL.on ?_ ?_; exact Wanted.guard (dj := 15) (by rfl) (evb (by rfl) h_6) (by rfl)
    refine WL.val Wanted.none (Runs.gtr rfl rfl rfl) ?_
    refine WL.val Wanted.none (Runs.pick_f (evb rfl h_6) rfl) ?_
    refine WL.val Wanted.none (Runs.move rfl) ?_
    rcases H with ⟨c_7, H⟩ | ⟨c_7, H⟩
    · have h_8 : (decide ((l1.length : Int) > 3000)) = true := (decide_eq_true c_7)
      refine WL.off ?_ ?_; exact Wanted.guard (dj := 20) (by rfl) (evb (by rfl) h_8) (by rfl)
      refine WL.off ?_ ?_; exact Wanted.guard (dj := 20) (by rfl) (evb (by rfl) h_8) (by rfl)
      refine WL.off ?_ ?_; exact Wanted.guard (dj := 20) (by rfl) (evb (by rfl) h_8) (by rfl)
      refine WL.val Wanted.none (Runs.pick_t (evb rfl h_8) rfl) ?_
      refine WL.nil ?_
      refine QW.then_n ?_
      refine CW.sub [(0, .slice A0 n0 c0), (1, .slice A1 n1 c1), (2, .slice A2 n2 c2), (6, .bool false), (24, .bool true)] ⟨rfl, rfl, rfl, rfl, rfl, trivial⟩ ?_
      refine CW.ct rfl rfl ?_
      refine CW.seq ?_
      refine CW.region ?_
      refine WL.val Wanted.none (Runs.assign rfl) ?_
      refine WL.nil ?_
      refine QW.then_n ?_
      refine CW.ret ?_
      refine QW.then_r ?_
      exact QW.ret1 rfl rfl ⟨rfl, st_3.ext⟩
    · have h_8 : (decide ((l1.length : Int) > 3000)) = false := (decide_eq_false c_7)
      refine WL.on ?_ ?_; exact Wanted.guard (dj := 20) (by rfl) (evb (by rfl) h_8) (by rfl)
      refine WL.val Wanted.none (Runs.move rfl) ?_
      refine WL.on ?_ ?_; exact Wanted.guard (dj := 20) (by rfl) (evb (by rfl) h_8) (by rfl)
      refine WL.val Wanted.none (Runs.len_sl Try.underlying23 rfl (by rw [hn2])) ?_
      refine WL.on ?_ ?_; exact Wanted.guard (dj := 20) (by rfl) (evb (by rfl) h_8) (by rfl)
      refine WL.val Wanted.none (Runs.gtr rfl rfl rfl) ?_
      refine WL.val Wanted.none (Runs.pick_f (evb rfl h_8) rfl) ?_
      refine WL.nil ?_
      refine QW.then_n ?_
      refine CW.sub [(0, .slice A0 n0 c0), (1, .slice A1 n1 c1), (2, .slice A2 n2 c2), (6, .bool false), (24, .bool (decide ((l2.length : Int) > 100)))] ⟨rfl, rfl, rfl, rfl, rfl, trivial⟩ ?_
      rcases H with ⟨c_9, H⟩ | ⟨c_9, H⟩
      · have h_10 : (decide ((l2.length : Int) > 100)) = true := (decide_eq_true c_9)
        refine CW.ct rfl h_10 ?_
        refine CW.seq ?_
        refine CW.region ?_
        refine WL.val Wanted.none (Runs.assign rfl) ?_
        refine WL.nil ?_
        refine QW.then_n ?_
        refine CW.ret ?_
        refine QW.then_r ?_
        exact QW.ret1 rfl rfl ⟨rfl, st_3.ext⟩
      · have h_10 : (decide ((l2.length : Int) > 100)) = false := (decide_eq_false c_9)
        refine CW.cf rfl h_10 ?_
        refine CW.skip ?_
        refine QW.then_n ?_
        refine CW.seq ?_
        refine CW.seq ?_
        refine CW.region ?_
        refine WL.val Wanted.none (Runs.assign rfl) ?_
        refine WL.nil ?_
        refine QW.then_n ?_
        refine CW.block ?_
        obtain ⟨k_11, H⟩ := H
        refine CW.sub [(0, .slice A0 n0 c0), (1, .slice A1 n1 c1), (2, .slice A2 n2 c2), (6, .bool false), (8, .int .i64 0)] ⟨rfl, rfl, rfl, rfl, rfl, trivial⟩ ?_
        refine CW.loop (fun kL1 l_ w_ => ∃ (b_12 : Bool) (x_13 : Int), l_ = [(0, .slice A0 n0 c0), (1, .slice A1 n1 c1), (2, .slice A2 n2 c2), (6, .bool b_12), (8, .int .i64 x_13)] ∧ reliquarylaw05_EqualBytes.L1 l0 l1 l2 kL1 b_12 x_13 ∧ St w w_ []) (k := k_11) ⟨false, 0, rfl, H, st_3⟩ (fun _ _ h => by obtain ⟨_, _, _, h, _⟩ := h; exact h.elim) ?_
        rintro kL1 l_16 w_14 ⟨b_12, x_13, rfl, H, st_15⟩
        refine CW.seq ?_
        refine CW.seq ?_
        refine CW.region ?_
        refine WL.val Wanted.none (Runs.move rfl) ?_
        refine WL.val Wanted.none (Runs.move rfl) ?_
        refine WL.val Wanted.none (Runs.len_sl Try.underlying23 rfl (by rw [hn2])) ?_
        refine WL.val Wanted.none (Runs.lss rfl rfl rfl) ?_
        refine WL.nil ?_
        refine QW.then_n ?_
        rcases H with ⟨c_17, H⟩ | ⟨c_17, H⟩
        · have h_18 : (decide (x_13 < (l2.length : Int))) = true := (decide_eq_true c_17)
          refine CW.ct rfl h_18 ?_
          refine CW.skip ?_
          refine QW.then_n ?_
          refine CW.seq ?_
          refine CW.block ?_
          refine CW.seq ?_
          refine CW.region ?_
          refine WL.val Wanted.none (Runs.move rfl) ?_
          refine WL.val Wanted.none (Runs.move rfl) ?_
          obtain ⟨⟨p_19, q_20⟩, H⟩ := H
          obtain ⟨a_21, A_23, n_24, c_25, e_22, f_27, hn_28, hc_29, g_26⟩ := hs2.get ((x_13).toNat) (by omega)
          refine WL.val Wanted.none (Runs.indexAddr Try.underlying23 cells22 (by decide) rfl e_22 rfl p_19 (by rw [hn2]; exact q_20) (o := (x_13).toNat) (by first | rfl | omega)) ?_
          refine WL.val Wanted.none (Runs.load nagg22 rfl (st_15.up f_27)) ?_
          refine WL.val Wanted.none (Runs.len_sl Try.underlying22 rfl (by rw [hn_28])) ?_
          refine WL.val Wanted.none (Runs.gtr rfl rfl rfl) ?_
          refine WL.nil ?_
          refine QW.then_n ?_
          rcases H with ⟨c_30, H⟩ | ⟨c_30, H⟩
          · have h_31 : (decide (((gl l2 ((x_13).toNat)).length : Int) > 500)) = true := (decide_eq_true c_30)
            refine CW.ct rfl h_31 ?_
            refine CW.seq ?_
            refine CW.region ?_
            refine WL.val Wanted.none (Runs.assign rfl) ?_
            refine WL.nil ?_
            refine QW.then_n ?_
            refine CW.ret ?_
            refine QW.blk_r ?_
            refine QW.then_r ?_
            refine QW.then_r ?_
            refine QW.blk_r ?_
            refine QW.then_r ?_
            exact QW.ret1 rfl rfl ⟨rfl, st_15.ext⟩
          · have h_31 : (decide (((gl l2 ((x_13).toNat)).length : Int) > 500)) = false := (decide_eq_false c_30)
            refine CW.cf rfl h_31 ?_
            refine CW.skip ?_
            refine QW.blk_n ?_
            refine QW.then_n ?_
            refine CW.region ?_
            refine WL.val Wanted.none (Runs.move rfl) ?_
            refine WL.val Wanted.none (Runs.add rfl rfl rfl) ?_
            refine WL.val Wanted.none (Runs.assign rfl) ?_
            refine WL.nil ?_
            exact QW.at [(0, .slice A0 n0 c0), (1, .slice A1 n1 c1), (2, .slice A2 n2 c2), (6, .bool b_12), (8, .int .i64 (IntKind.i64.wrap (x_13 + 1)))] ⟨rfl, rfl, rfl, rfl, rfl, trivial⟩ ⟨b_12, IntKind.i64.wrap (x_13 + 1), rfl, H, st_15⟩
        · have h_18 : (decide (x_13 < (l2.length : Int))) = false := (decide_eq_false c_17)
          refine CW.cf rfl h_18 ?_
          refine CW.exit ?_
          refine QW.then_x ?_
          refine QW.then_x ?_
          refine QW.blk_x ?_
          refine QW.then_n ?_
          refine CW.seq ?_
          refine CW.region_qa wide (by kernel_rfl) st_15 ?_
          refine HL.val Wanted.none (fun wq sq => (Runs.move rfl)) ?_
          refine HL.val Wanted.none (fun wq sq => (Runs.move rfl)) ?_
          obtain ⟨r_36, hr_32, H⟩ := H
          refine HL.call Wanted.none ent19 rfl (fun wq sq => (equal_Bytes.calls wq l0 l1 A0 n0 c0 A1 n1 c1 (hs0.ext sq) (hn0) (hc0) (hs1.ext sq) (hn1) (hc1) r_36 hr_32).mono (by rintro _ _ ⟨rfl, sc⟩; exact ⟨rfl, sq.call sc⟩)) ?_
          refine HL.val Wanted.none (fun wq sq => (Runs.move rfl)) ?_
          refine HL.val Wanted.none (fun wq sq => (Runs.bytes_str Try.underlying22 Try.underlying5 Try.underlying9 rfl (hs0.ext sq) hn0)) ?_
          refine HL.val Wanted.none (fun wq sq => (Runs.move rfl)) ?_
          refine HL.val Wanted.none (fun wq sq => (Runs.bytes_str Try.underlying22 Try.underlying5 Try.underlying9 rfl (hs1.ext sq) hn1)) ?_
          refine HL.val Wanted.none (fun wq sq => (Runs.eqs rfl rfl rfl)) ?_
          refine HL.val Wanted.none (fun wq sq => (Runs.eqb Try.underlying4 rfl rfl rfl)) ?_
          refine HL.val Wanted.none (fun wq sq => (Runs.move rfl)) ?_
          obtain ⟨c_37, H⟩ := H
          have h_38 : (r_36 == ((strOfNums l0).toList == (strOfNums l1).toList)) = true := (beq_iff_eq.mpr c_37)
          refine HL.on ?_ ?_; exact Wanted.guard (dj := 46) (by rfl) (evb (by rfl) h_38) (by rfl)
          refine HL.val Wanted.none (fun wq sq => (Runs.move rfl)) ?_
          refine HL.on ?_ ?_; exact Wanted.guard (dj := 46) (by rfl) (evb (by rfl) h_38) (by rfl)
          refine HL.val Wanted.none (fun wq sq => (Runs.move rfl)) ?_
          refine HL.on ?_ ?_; exact Wanted.guard (dj := 46) (by rfl) (evb (by rfl) h_38) (by rfl)
          obtain ⟨r_43, hr_39, H⟩ := H
          refine HL.call Wanted.none ent19 rfl (fun wq sq => (equal_Bytes.calls wq l1 l0 A1 n1 c1 A0 n0 c0 (hs1.ext sq) (hn1) (hc1) (hs0.ext sq) (hn0) (hc0) r_43 hr_39).mono (by rintro _ _ ⟨rfl, sc⟩; exact ⟨rfl, sq.call sc⟩)) ?_
          refine HL.on ?_ ?_; exact Wanted.guard (dj := 46) (by rfl) (evb (by rfl) h_38) (by rfl)
          refine HL.val Wanted.none (fun wq sq => (Runs.move rfl)) ?_
          refine HL.on ?_ ?_; exact Wanted.guard (dj := 46) (by rfl) (evb (by rfl) h_38) (by rfl)
          refine HL.val Wanted.none (fun wq sq => (Runs.move rfl)) ?_
          refine HL.on ?_ ?_; exact Wanted.guard (dj := 46) (by rfl) (evb (by rfl) h_38) (by rfl)
          obtain ⟨r_48, hr_44, H⟩ := H
          refine HL.call Wanted.none ent19 rfl (fun wq sq => (equal_Bytes.calls wq l0 l1 A0 n0 c0 A1 n1 c1 (hs0.ext sq) (hn0) (hc0) (hs1.ext sq) (hn1) (hc1) r_48 hr_44).mono (by rintro _ _ ⟨rfl, sc⟩; exact ⟨rfl, sq.call sc⟩)) ?_
          refine HL.on ?_ ?_; exact Wanted.guard (dj := 46) (by rfl) (evb (by rfl) h_38) (by rfl)
          refine HL.val Wanted.none (fun wq sq => (Runs.eqb Try.underlying4 rfl rfl rfl)) ?_
          refine HL.val Wanted.none (fun wq sq => (Runs.pick_t (evb rfl h_38) rfl)) ?_
          refine HL.val Wanted.none (fun wq sq => (Runs.move rfl)) ?_
          obtain ⟨c_49, H⟩ := H
          have h_50 : (r_43 == r_48) = true := (beq_iff_eq.mpr c_49)
          refine HL.on ?_ ?_; exact Wanted.guard (dj := 55) (by rfl) (evb (by rfl) h_50) (by rfl)
          refine HL.val Wanted.none (fun wq sq => (Runs.move rfl)) ?_
          refine HL.on ?_ ?_; exact Wanted.guard (dj := 55) (by rfl) (evb (by rfl) h_50) (by rfl)
          refine HL.val Wanted.none (fun wq sq => (Runs.move rfl)) ?_
          refine HL.on ?_ ?_; exact Wanted.guard (dj := 55) (by rfl) (evb (by rfl) h_50) (by rfl)
          obtain ⟨r_55, hr_51, H⟩ := H
          refine HL.call Wanted.none ent20 rfl (fun wq sq => (equal_Find.calls wq l2 l0 A2 n2 c2 A0 n0 c0 (hs2.ext sq) (hn2) (hc2) (hs0.ext sq) (hn0) (hc0) r_55 hr_51).mono (by rintro _ _ ⟨rfl, sc⟩; exact ⟨rfl, sq.call sc⟩)) ?_
          refine HL.on ?_ ?_; exact Wanted.guard (dj := 55) (by rfl) (evb (by rfl) h_50) (by rfl)
          refine HL.val Wanted.none (fun wq sq => (Runs.move rfl)) ?_
          refine HL.on ?_ ?_; exact Wanted.guard (dj := 55) (by rfl) (evb (by rfl) h_50) (by rfl)
          refine HL.val Wanted.none (fun wq sq => (Runs.move rfl)) ?_
          refine HL.on ?_ ?_; exact Wanted.guard (dj := 55) (by rfl) (evb (by rfl) h_50) (by rfl)
          obtain ⟨r_60, hr_56, H⟩ := H
          refine HL.call Wanted.none ent21 rfl (fun wq sq => (reliquaryref05_Find.calls wq l2 l0 A2 n2 c2 A0 n0 c0 (hs2.ext sq) (hn2) (hc2) (hs0.ext sq) (hn0) (hc0) r_60 hr_56).mono (by rintro _ _ ⟨rfl, sc⟩; exact ⟨rfl, sq.call sc⟩)) ?_
          refine HL.on ?_ ?_; exact Wanted.guard (dj := 55) (by rfl) (evb (by rfl) h_50) (by rfl)
          refine HL.val Wanted.none (fun wq sq => (Runs.eql rfl rfl rfl)) ?_
          refine HL.val Wanted.none (fun wq sq => (Runs.pick_t (evb rfl h_50) rfl)) ?_
          refine HL.val Wanted.none (fun wq sq => (Runs.assign rfl)) ?_
          refine HL.nil (fun w_61 st_62 => ?_)
          refine WL.nil ?_
          refine QW.then_n ?_
          refine CW.sub [(6, .bool (r_55 == r_60))] ⟨rfl, trivial⟩ ?_
          refine CW.ret ?_
          have hz : (r_55 == r_60) = true := (beq_iff_eq.mpr H)
          exact QW.ret1 rfl (evb rfl hz) ⟨rfl, st_62.ext⟩

/-! ### reliquarylaw05_EqualChoose: function 4 -/
def reliquarylaw05_EqualChoose.rel (a0 : Int) (a1 : Int) (a2 : Int)  : Prop := (reliquarylaw05_awake.rel  ∧ (((Int.tmod a0 2) = 1 ∧ (∃ (r_11 : Int), equal_Choose.rel a0 a1 a2 r_11 ∧ r_11 = a1)) ∨ (¬ ((Int.tmod a0 2) = 1) ∧ (∃ (r_16 : Int), equal_Choose.rel a0 a1 a2 r_16 ∧ r_16 = a2))))
set_option maxHeartbeats 4000000 in
set_option maxRecDepth 100000 in
theorem reliquarylaw05_EqualChoose.calls (w : World) (a0 : Int) (a1 : Int) (a2 : Int)    (H : reliquarylaw05_EqualChoose.rel a0 a1 a2 ) :
    Calls Try.prog 4 #[.int .u64 a0, .int .u64 a1, .int .u64 a2] w fun e w' => e = .returned (.bool true) ∧ Below w.heap.size w w' := by
  refine CW.enter Try.func4 rfl (n := 23) rfl [.int .u64 a0, .int .u64 a1, .int .u64 a2] (Nat.le_of_ble_eq_true rfl) ?_
  refine CW.sub [(0, .int .u64 a0), (1, .int .u64 a1), (2, .int .u64 a2)] ⟨rfl, rfl, rfl, trivial⟩ ?_
  have st0 : St w w [] := St.refl w
  refine CW.seq ?_
  refine CW.region ?_
  refine WL.val Wanted.none (Runs.assign rfl) ?_
  refine WL.nil ?_
  refine QW.then_n ?_
  refine CW.seq ?_
  refine CW.region ?_
  obtain ⟨hr_1, H⟩ := H
  refine WL.call Wanted.none ent18 rfl (reliquarylaw05_awake.calls w hr_1) ?_
  rintro _ w_2 ⟨rfl, sc_4⟩
  have st_3 : St w w_2 [] := st0.below sc_4
  refine ⟨_, rfl, ?_⟩
  refine WL.val Wanted.none (Runs.assign rfl) ?_
  refine WL.nil ?_
  refine QW.then_n ?_
  refine CW.seq ?_
  refine CW.seq ?_
  refine CW.region ?_
  refine WL.val Wanted.none (Runs.move rfl) ?_
  refine WL.val Wanted.none (Runs.not rfl rfl) ?_
  refine WL.nil ?_
  refine QW.then_n ?_
  refine CW.cf rfl rfl ?_
  refine CW.skip ?_
  refine QW.then_n ?_
  refine CW.seq ?_
  refine CW.region ?_
  refine WL.val Wanted.none (Runs.move rfl) ?_
  refine WL.val Wanted.none (Runs.assign rfl) ?_
  refine WL.nil ?_
  refine QW.then_n ?_
  refine CW.seq ?_
  refine CW.seq ?_
  refine CW.region ?_
  refine WL.val Wanted.none (Runs.move rfl) ?_
  refine WL.val Wanted.none (Runs.rem rfl rfl (by decide) rfl) ?_
  refine WL.val Wanted.none (Runs.eql rfl rfl rfl) ?_
  refine WL.nil ?_
  refine QW.then_n ?_
  refine CW.sub [(0, .int .u64 a0), (1, .int .u64 a1), (2, .int .u64 a2), (6, .bool false), (8, .int .u64 a2), (15, .bool ((Int.tmod a0 2) == 1))] ⟨rfl, rfl, rfl, rfl, rfl, rfl, trivial⟩ ?_
  rcases H with ⟨c_5, H⟩ | ⟨c_5, H⟩
  · have h_6 : ((Int.tmod a0 2) == 1) = true := (beq_iff_eq.mpr c_5)
    refine CW.ct rfl h_6 ?_
    refine CW.region ?_
    refine WL.val Wanted.none (Runs.move rfl) ?_
    refine WL.val Wanted.none (Runs.assign rfl) ?_
    refine WL.nil ?_
    refine QW.then_n ?_
    refine CW.seq ?_
    refine CW.region ?_
    refine WL.val Wanted.none (Runs.move rfl) ?_
    refine WL.val Wanted.none (Runs.move rfl) ?_
    refine WL.val Wanted.none (Runs.move rfl) ?_
    obtain ⟨r_11, hr_7, H⟩ := H
    refine WL.call Wanted.none ent22 rfl (equal_Choose.calls w_2 a0 a1 a2 r_11 hr_7) ?_
    rintro _ w_8 ⟨rfl, sc_10⟩
    have st_9 : St w w_8 [] := st_3.call sc_10
    refine ⟨_, rfl, ?_⟩
    refine WL.val Wanted.none (Runs.move rfl) ?_
    refine WL.val Wanted.none (Runs.eql rfl rfl rfl) ?_
    refine WL.val Wanted.none (Runs.assign rfl) ?_
    refine WL.nil ?_
    refine QW.then_n ?_
    refine CW.sub [(6, .bool (r_11 == a1))] ⟨rfl, trivial⟩ ?_
    refine CW.ret ?_
    have hz : (r_11 == a1) = true := (beq_iff_eq.mpr H)
    exact QW.ret1 rfl (evb rfl hz) ⟨rfl, st_9.ext⟩
  · have h_6 : ((Int.tmod a0 2) == 1) = false := (beq_eq_false_iff_ne.mpr c_5)
    refine CW.cf rfl h_6 ?_
    refine CW.skip ?_
    refine QW.then_n ?_
    refine CW.seq ?_
    refine CW.region ?_
    refine WL.val Wanted.none (Runs.move rfl) ?_
    refine WL.val Wanted.none (Runs.move rfl) ?_
    refine WL.val Wanted.none (Runs.move rfl) ?_
    obtain ⟨r_16, hr_12, H⟩ := H
    refine WL.call Wanted.none ent22 rfl (equal_Choose.calls w_2 a0 a1 a2 r_16 hr_12) ?_
    rintro _ w_13 ⟨rfl, sc_15⟩
    have st_14 : St w w_13 [] := st_3.call sc_15
    refine ⟨_, rfl, ?_⟩
    refine WL.val Wanted.none (Runs.move rfl) ?_
    refine WL.val Wanted.none (Runs.eql rfl rfl rfl) ?_
    refine WL.val Wanted.none (Runs.assign rfl) ?_
    refine WL.nil ?_
    refine QW.then_n ?_
    refine CW.sub [(6, .bool (r_16 == a2))] ⟨rfl, trivial⟩ ?_
    refine CW.ret ?_
    have hz : (r_16 == a2) = true := (beq_iff_eq.mpr H)
    exact QW.ret1 rfl (evb rfl hz) ⟨rfl, st_14.ext⟩

/-! ### reliquarylaw05_EqualTurned: function 5 -/
def reliquarylaw05_EqualTurned.rel (l0 : List Int) (a1 : Int) (a2 : Int)  : Prop := (reliquarylaw05_awake.rel  ∧ (((l0.length : Int) = 0 ∧ True) ∨ (¬ ((l0.length : Int) = 0) ∧ (((l0.length : Int) > 3000 ∧ True) ∨ (¬ ((l0.length : Int) > 3000) ∧ (∃ m_11 : List Int, m_11 = ([] : List Int) ++ l0 ∧ (m_11.length ≤ 1099511627776 ∧ (∃ (r_24 : Bool), equal_Bytes.rel l0 m_11 r_24 ∧ ((l0.length : Int) ≠ 0 ∧ ((0 ≤ (Int.tmod (IntKind.i64.wrap a1) (l0.length : Int)) ∧ (Int.tmod (IntKind.i64.wrap a1) (l0.length : Int)) < (m_11.length : Int)) ∧ (0 ≤ (bits .and .u8 a2 7) ∧ (∃ x_31 : Int, x_31 = bits .xor .u8 (gn m_11 ((Int.tmod (IntKind.i64.wrap a1) (l0.length : Int)).toNat)) (shlI .u8 1 (bits .and .u8 a2 7)) ∧ ((0 ≤ (Int.tmod (IntKind.i64.wrap a1) (l0.length : Int)) ∧ (Int.tmod (IntKind.i64.wrap a1) (l0.length : Int)) < (m_11.length : Int)) ∧ (∃ m_37 : List Int, m_37 = List.set m_11 ((Int.tmod (IntKind.i64.wrap a1) (l0.length : Int)).toNat) x_31 ∧ (r_24 = true ∧ (∃ (r_48 : Bool), equal_Bytes.rel l0 m_37 r_48 ∧ (¬ (r_48 = true) ∧ (∃ (r_55 : Bool), equal_Bytes.rel m_37 l0 r_55 ∧ (¬ (r_55 = true) ∧ ((0 ≤ (1 : Int) ∧ (1 : Int) ≤ (l0.length : Int) ∧ (l0.length : Int) ≤ (l0.length : Int)) ∧ (∃ (r_74 : Bool), equal_Bytes.rel l0 (prt l0 (1 : Int) (l0.length : Int)) r_74 ∧ ¬ (r_74 = true))))))))))))))))))))))
set_option maxHeartbeats 4000000 in
set_option maxRecDepth 100000 in
theorem reliquarylaw05_EqualTurned.calls (w : World) (l0 : List Int) (a1 : Int) (a2 : Int) (A0 : Option Addr) (n0 : Nat) (c0 : Nat) (hs0 : Src w A0 (iv .u8 l0)) (hn0 : n0 = l0.length) (hc0 : n0 ≤ c0)  (H : reliquarylaw05_EqualTurned.rel l0 a1 a2 ) :
    Calls Try.prog 5 #[.slice A0 n0 c0, .int .u16 a1, .int .u8 a2] w fun e w' => e = .returned (.bool true) ∧ Below w.heap.size w w' := by
  refine CW.enter Try.func5 rfl (n := 60) rfl [.slice A0 n0 c0, .int .u16 a1, .int .u8 a2] (Nat.le_of_ble_eq_true rfl) ?_
  refine CW.sub [(0, .slice A0 n0 c0), (1, .int .u16 a1), (2, .int .u8 a2)] ⟨rfl, rfl, rfl, trivial⟩ ?_
  have st0 : St w w [] := St.refl w
  refine CW.seq ?_
  refine CW.region ?_
  refine WL.val Wanted.none (Runs.assign rfl) ?_
  refine WL.nil ?_
  refine QW.then_n ?_
  refine CW.seq ?_
  refine CW.region ?_
  obtain ⟨hr_1, H⟩ := H
  refine WL.call Wanted.none ent18 rfl (reliquarylaw05_awake.calls w hr_1) ?_
  rintro _ w_2 ⟨rfl, sc_4⟩
  have st_3 : St w w_2 [] := st0.below sc_4
  refine ⟨_, rfl, ?_⟩
  refine WL.val Wanted.none (Runs.assign rfl) ?_
  refine WL.nil ?_
  refine QW.then_n ?_
  refine CW.seq ?_
  refine CW.seq ?_
  refine CW.region ?_
  refine WL.val Wanted.none (Runs.move rfl) ?_
  refine WL.val Wanted.none (Runs.not rfl rfl) ?_
  refine WL.nil ?_
  refine QW.then_n ?_
  refine CW.cf rfl rfl ?_
  refine CW.skip ?_
  refine QW.then_n ?_
  refine CW.seq ?_
  refine CW.seq ?_
  refine CW.region ?_
  refine WL.val Wanted.none (Runs.move rfl) ?_
  refine WL.val Wanted.none (Runs.len_sl Try.underlying22 rfl (by rw [hn0])) ?_
  refine WL.val Wanted.none (Runs.eql rfl rfl rfl) ?_
  refine WL.val Wanted.none (Runs.move rfl) ?_
  rcases H with ⟨c_5, H⟩ | ⟨c_5, H⟩
  · have h_6 : ((l0.length : Int) == 0) = true := (beq_iff_eq.mpr c_5)
    refine WL.off ?_ ?_; exact Wanted.guard (dj := 16) (by rfl) (evb (by rfl) h_6) (by rfl)
    refine WL.off ?_ ?_; exact Wanted.guard (dj := 16) (by rfl) (evb (by rfl) h_6) (by rfl)
    refine WL.off ?_ ?_; exact Wanted.guard (dj := 16) (by rfl) (evb (by rfl) h_6) (by rfl)
    refine WL.val Wanted.none (Runs.pick_t (evb rfl h_6) rfl) ?_
    refine WL.nil ?_
    refine QW.then_n ?_
    refine CW.sub [(0, .slice A0 n0 c0), (1, .int .u16 a1), (2, .int .u8 a2), (6, .bool false), (20, .bool true)] ⟨rfl, rfl, rfl, rfl, rfl, trivial⟩ ?_
    refine CW.ct rfl rfl ?_
    refine CW.seq ?_
    refine CW.region ?_
    refine WL.val Wanted.none (Runs.assign rfl) ?_
    refine WL.nil ?_
    refine QW.then_n ?_
    refine CW.ret ?_
    refine QW.then_r ?_
    exact QW.ret1 rfl rfl ⟨rfl, st_3.ext⟩
  · have h_6 : ((l0.length : Int) == 0) = false := (beq_eq_false_iff_ne.mpr c_5)
    refine WL.on ?_ ?_; exact Wanted.guard (dj := 16) (by rfl) (evb (by rfl) h_6) (by rfl)
    refine WL.val Wanted.none (Runs.move rfl) ?_
    refine WL.on ?_ ?_; exact Wanted.guard (dj := 16) (by rfl) (evb (by rfl) h_6) (by rfl)
    refine WL.val Wanted.none (Runs.len_sl Try.underlying22 rfl (by rw [hn0])) ?_
    refine WL.on ?_ ?_; exact Wanted.guard (dj := 16) (by rfl) (evb (by rfl) h_6) (by rfl)
    refine WL.val Wanted.none (Runs.gtr rfl rfl rfl) ?_
    refine WL.val Wanted.none (Runs.pick_f (evb rfl h_6) rfl) ?_
    refine WL.nil ?_
    refine QW.then_n ?_
    refine CW.sub [(0, .slice A0 n0 c0), (1, .int .u16 a1), (2, .int .u8 a2), (6, .bool false), (20, .bool (decide ((l0.length : Int) > 3000)))] ⟨rfl, rfl, rfl, rfl, rfl, trivial⟩ ?_
    rcases H with ⟨c_7, H⟩ | ⟨c_7, H⟩
    · have h_8 : (decide ((l0.length : Int) > 3000)) = true := (decide_eq_true c_7)
      refine CW.ct rfl h_8 ?_
      refine CW.seq ?_
      refine CW.region ?_
      refine WL.val Wanted.none (Runs.assign rfl) ?_
      refine WL.nil ?_
      refine QW.then_n ?_
      refine CW.ret ?_
      refine QW.then_r ?_
      exact QW.ret1 rfl rfl ⟨rfl, st_3.ext⟩
    · have h_8 : (decide ((l0.length : Int) > 3000)) = false := (decide_eq_false c_7)
      refine CW.cf rfl h_8 ?_
      refine CW.skip ?_
      refine QW.then_n ?_
      refine CW.seq ?_
      refine CW.region ?_
      refine WL.val Wanted.none (Runs.assign rfl) ?_
      refine WL.nil ?_
      refine QW.then_n ?_
      refine CW.seq ?_
      refine CW.region ?_
      refine WL.val Wanted.none (Runs.move rfl) ?_
      refine WL.val Wanted.none (Runs.move rfl) ?_
      have st_10 := st_3.nil_sl 5 1
      have st_10 : St w w_2 [.sl none 0 0 (iv .u8 ([] : List Int)) 5 1] := st_10
      obtain ⟨m_11, e_12, H⟩ := H
      obtain ⟨z_13, H⟩ := H
      obtain ⟨n_16, hn_19⟩ : ∃ n_ : Nat, n_ = m_11.length := ⟨_, rfl⟩
      refine WL.append (i := 0) Wanted.none st_10 rfl Try.underlying22 elem5 rfl rfl (hs0.ext st_10) (by rw [iv_length]; exact (hn0).symm) (one_iv .u8 _) (by decide) (N := n_16) (by rw [hn_19, e_12, List.length_append]; exact congr (congrArg HAdd.hAdd (rfl)) (hn0)) (by rw [hn_19]; exact z_13) ?_
      intro A_14 c_15 w_17 st_18
      have st_18' : St w w_17 [.sl A_14 c_15 n_16 (iv .u8 m_11) 5 1] := by rw [e_12, ← iv_append .u8 ([] : List Int) l0]; exact st_18
      refine WL.val Wanted.none (Runs.assign rfl) ?_
      refine WL.nil ?_
      refine QW.then_n ?_
      refine CW.seq ?_
      refine CW.region ?_
      refine WL.val Wanted.none (Runs.move rfl) ?_
      refine WL.val Wanted.none (Runs.move rfl) ?_
      obtain ⟨r_24, hr_20, H⟩ := H
      refine WL.call Wanted.none ent19 rfl (equal_Bytes.calls w_17 l0 m_11 A0 n0 c0 A_14 n_16 c_15 (hs0.ext st_18') (hn0) (hc0) (st_18'.src_sl (k := 0) rfl) (hn_19) (st_18'.cap (i := 0) rfl) r_24 hr_20) ?_
      rintro _ w_21 ⟨rfl, sc_23⟩
      have st_22 : St w w_21 [.sl A_14 c_15 n_16 (iv .u8 m_11) 5 1] := st_18'.call sc_23
      refine ⟨_, rfl, ?_⟩
      refine WL.val Wanted.none (Runs.assign rfl) ?_
      refine WL.nil ?_
      refine QW.then_n ?_
      refine CW.sub [(0, .slice A0 n0 c0), (1, .int .u16 a1), (2, .int .u8 a2), (6, .bool false), (8, .slice A_14 n_16 c_15), (9, .bool r_24)] ⟨rfl, rfl, rfl, rfl, rfl, rfl, trivial⟩ ?_
      refine CW.seq ?_
      refine CW.region ?_
      refine WL.val Wanted.none (Runs.move rfl) ?_
      refine WL.val Wanted.none (Runs.move rfl) ?_
      refine WL.val Wanted.none (Runs.conv Try.underlying3 ⟨_, Try.underlying31⟩ rfl rfl) ?_
      refine WL.val Wanted.none (Runs.move rfl) ?_
      refine WL.val Wanted.none (Runs.len_sl Try.underlying22 rfl (by rw [hn0])) ?_
      obtain ⟨z_25, H⟩ := H
      refine WL.val Wanted.none (Runs.rem rfl rfl z_25 rfl) ?_
      obtain ⟨⟨p_26, q_27⟩, H⟩ := H
      obtain ⟨a_28, e_29⟩ := (st_22.src_sl (k := 0) rfl).addr_iv ((Int.tmod (IntKind.i64.wrap a1) (l0.length : Int)).toNat) (by omega)
      refine WL.val Wanted.none (Runs.indexAddr Try.underlying22 cells5 (by decide) rfl e_29 rfl p_26 (by rw [hn_19]; exact q_27) (o := (Int.tmod (IntKind.i64.wrap a1) (l0.length : Int)).toNat) (by first | rfl | omega)) ?_
      refine WL.val Wanted.none (Runs.load nagg5 rfl ((st_22.src_sl (k := 0) rfl).cell_iv e_29 (by omega))) ?_
      refine WL.val Wanted.none (Runs.move rfl) ?_
      refine WL.val Wanted.none (Runs.band rfl rfl rfl) ?_
      obtain ⟨z_30, H⟩ := H
      refine WL.val Wanted.none (Runs.shl rfl rfl z_30 rfl) ?_
      obtain ⟨x_31, e_32, H⟩ := H
      refine WL.val Wanted.none (Runs.bxor rfl rfl e_32) ?_
      obtain ⟨⟨p_33, q_34⟩, H⟩ := H
      obtain ⟨a_35, e_36⟩ := (st_22.src_sl (k := 0) rfl).addr_iv ((Int.tmod (IntKind.i64.wrap a1) (l0.length : Int)).toNat) (by omega)
      refine WL.val Wanted.none (Runs.indexAddr Try.underlying22 cells5 (by decide) rfl e_36 rfl p_33 (by rw [hn_19]; exact q_34) (o := (Int.tmod (IntKind.i64.wrap a1) (l0.length : Int)).toNat) (by first | rfl | omega)) ?_
      obtain ⟨m_37, e_38, H⟩ := H
      refine WL.store_sl (i := 0) st_22 rfl cells5 rfl e_36 (by rw [iv_length]; omega) rfl rfl ?_
      intro w_39 st_40
      have hn_41 : n_16 = m_37.length := by rw [e_38, List.length_set]; exact hn_19
      have st_40' : St w w_39 [.sl A_14 c_15 n_16 (iv .u8 m_37) 5 1] := by rw [e_38, ← iv_set .u8 m_11 ((Int.tmod (IntKind.i64.wrap a1) (l0.length : Int)).toNat) x_31]; exact st_40
      refine WL.nil ?_
      refine QW.then_n ?_
      refine CW.sub [(0, .slice A0 n0 c0), (6, .bool false), (8, .slice A_14 n_16 c_15), (9, .bool r_24)] ⟨rfl, rfl, rfl, rfl, trivial⟩ ?_
      refine CW.seq ?_
      refine CW.region ?_
      refine WL.val Wanted.none (Runs.move rfl) ?_
      refine WL.val Wanted.none (Runs.move rfl) ?_
      obtain ⟨c_42, H⟩ := H
      have h_43 : r_24 = true := c_42
      refine WL.on ?_ ?_; exact Wanted.guard (dj := 41) (by rfl) (evb (by rfl) h_43) (by rfl)
      refine WL.val Wanted.none (Runs.move rfl) ?_
      refine WL.on ?_ ?_; exact Wanted.guard (dj := 41) (by rfl) (evb (by rfl) h_43) (by rfl)
      refine WL.val Wanted.none (Runs.move rfl) ?_
      refine WL.on ?_ ?_; exact Wanted.guard (dj := 41) (by rfl) (evb (by rfl) h_43) (by rfl)
      obtain ⟨r_48, hr_44, H⟩ := H
      refine WL.call Wanted.none ent19 rfl (equal_Bytes.calls w_39 l0 m_37 A0 n0 c0 A_14 n_16 c_15 (hs0.ext st_40') (hn0) (hc0) (st_40'.src_sl (k := 0) rfl) (hn_41) (st_40'.cap (i := 0) rfl) r_48 hr_44) ?_
      rintro _ w_45 ⟨rfl, sc_47⟩
      have st_46 : St w w_45 [.sl A_14 c_15 n_16 (iv .u8 m_37) 5 1] := st_40'.call sc_47
      refine ⟨_, rfl, ?_⟩
      refine WL.on ?_ ?_; exact Wanted.guard (dj := 41) (by rfl) (evb (by rfl) h_43) (by rfl)
      refine WL.val Wanted.none (Runs.not rfl rfl) ?_
      refine WL.val Wanted.none (Runs.pick_t (evb rfl h_43) rfl) ?_
      refine WL.val Wanted.none (Runs.move rfl) ?_
      obtain ⟨c_49, H⟩ := H
      have h_50 : (!r_48) = true := (not_t (Bool.eq_false_iff.mpr c_49))
      refine WL.on ?_ ?_; exact Wanted.guard (dj := 47) (by rfl) (evb (by rfl) h_50) (by rfl)
      refine WL.val Wanted.none (Runs.move rfl) ?_
      refine WL.on ?_ ?_; exact Wanted.guard (dj := 47) (by rfl) (evb (by rfl) h_50) (by rfl)
      refine WL.val Wanted.none (Runs.move rfl) ?_
      refine WL.on ?_ ?_; exact Wanted.guard (dj := 47) (by rfl) (evb (by rfl) h_50) (by rfl)
      obtain ⟨r_55, hr_51, H⟩ := H
      refine WL.call Wanted.none ent19 rfl (equal_Bytes.calls w_45 m_37 l0 A_14 n_16 c_15 A0 n0 c0 (st_46.src_sl (k := 0) rfl) (hn_41) (st_46.cap (i := 0) rfl) (hs0.ext st_46) (hn0) (hc0) r_55 hr_51) ?_
      rintro _ w_52 ⟨rfl, sc_54⟩
      have st_53 : St w w_52 [.sl A_14 c_15 n_16 (iv .u8 m_37) 5 1] := st_46.call sc_54
      refine ⟨_, rfl, ?_⟩
      refine WL.on ?_ ?_; exact Wanted.guard (dj := 47) (by rfl) (evb (by rfl) h_50) (by rfl)
      refine WL.val Wanted.none (Runs.not rfl rfl) ?_
      refine WL.val Wanted.none (Runs.pick_t (evb rfl h_50) rfl) ?_
      refine WL.val Wanted.none (Runs.move rfl) ?_
      obtain ⟨c_56, H⟩ := H
      have h_57 : (!r_55) = true := (not_t (Bool.eq_false_iff.mpr c_56))
      refine WL.on ?_ ?_; exact Wanted.guard (dj := 53) (by rfl) (evb (by rfl) h_57) (by rfl)
      refine WL.val Wanted.none (Runs.move rfl) ?_
      refine WL.on ?_ ?_; exact Wanted.guard (dj := 53) (by rfl) (evb (by rfl) h_57) (by rfl)
      refine WL.val Wanted.none (Runs.move rfl) ?_
      refine WL.on ?_ ?_; exact Wanted.guard (dj := 53) (by rfl) (evb (by rfl) h_57) (by rfl)
      obtain ⟨⟨p_58, q_59, r_60⟩, H⟩ := H
      have h_67 : n0 ≤ c0 := hc0
      have h_68 : (l0.length : Int) ≤ (c0 : Int) := by have := hn0; omega
      obtain ⟨A_61, e_64⟩ : ∃ B_, B_ = subA A0 ((1 : Int)).toNat c0 := ⟨_, rfl⟩
      obtain ⟨n_63, e_66⟩ : ∃ n_ : Nat, n_ = (prt l0 (1 : Int) (l0.length : Int)).length := ⟨_, rfl⟩
      obtain ⟨c_62, e_65⟩ : ∃ c_ : Nat, c_ = c0 - ((1 : Int)).toNat := ⟨_, rfl⟩
      have h_69 : n_63 ≤ c_62 := by rw [e_66, prt_length p_58 q_59 r_60]; rw [e_65]; omega
      refine WL.val Wanted.none (Runs.slice_l Try.underlying22 cells5 rfl rfl p_58 (by have := hn0; omega) e_64 (N := n_63) (by rw [e_66, prt_length p_58 q_59 r_60]; rw [hn0]; rfl) e_65) ?_
      refine WL.on ?_ ?_; exact Wanted.guard (dj := 53) (by rfl) (evb (by rfl) h_57) (by rfl)
      obtain ⟨r_74, hr_70, H⟩ := H
      refine WL.call Wanted.none ent19 rfl (equal_Bytes.calls w_52 l0 (prt l0 (1 : Int) (l0.length : Int)) A0 n0 c0 A_61 n_63 c_62 (hs0.ext st_53) (hn0) (hc0) ((hs0.ext st_53).sub_iv p_58 q_59 h_68 e_64) (e_66) (h_69) r_74 hr_70) ?_
      rintro _ w_71 ⟨rfl, sc_73⟩
      have st_72 : St w w_71 [.sl A_14 c_15 n_16 (iv .u8 m_37) 5 1] := st_53.call sc_73
      refine ⟨_, rfl, ?_⟩
      refine WL.on ?_ ?_; exact Wanted.guard (dj := 53) (by rfl) (evb (by rfl) h_57) (by rfl)
      refine WL.val Wanted.none (Runs.not rfl rfl) ?_
      refine WL.val Wanted.none (Runs.pick_t (evb rfl h_57) rfl) ?_
      refine WL.val Wanted.none (Runs.assign rfl) ?_
      refine WL.nil ?_
      refine QW.then_n ?_
      refine CW.sub [(6, .bool (!r_74))] ⟨rfl, trivial⟩ ?_
      refine CW.ret ?_
      have hz : (!r_74) = true := (not_t (Bool.eq_false_iff.mpr H))
      exact QW.ret1 rfl (evb rfl hz) ⟨rfl, st_72.ext⟩

/-! ### reliquarylaw05_EqualFirst: function 6 -/
def reliquarylaw05_EqualFirst.L2 (l0 : List (List Int)) (a1 : Int) (r_46 : Int) : Nat → Bool → Int → Prop
  | 0, _, _ => False
  | kL2 + 1, b_82, x_83 => ((x_83 < r_46 ∧ ((0 ≤ x_83 ∧ x_83 < (l0.length : Int)) ∧ ((0 ≤ (Int.tmod (IntKind.i64.wrap a1) (l0.length : Int)) ∧ (Int.tmod (IntKind.i64.wrap a1) (l0.length : Int)) < (l0.length : Int)) ∧ (¬ ((strOfNums (gl l0 ((x_83).toNat))).toList = (strOfNums (gl l0 ((Int.tmod (IntKind.i64.wrap a1) (l0.length : Int)).toNat))).toList) ∧ reliquarylaw05_EqualFirst.L2 l0 a1 r_46 kL2 b_82 (IntKind.i64.wrap (x_83 + 1)))))) ∨ (¬ (x_83 < r_46) ∧ True))
def reliquarylaw05_EqualFirst.L1 (l0 : List (List Int)) (a1 : Int) : Nat → Bool → Int → Prop
  | 0, _, _ => False
  | kL1 + 1, b_10, x_11 => ((x_11 < (l0.length : Int) ∧ ((0 ≤ x_11 ∧ x_11 < (l0.length : Int)) ∧ ((((gl l0 ((x_11).toNat)).length : Int) > 200 ∧ True) ∨ (¬ (((gl l0 ((x_11).toNat)).length : Int) > 200) ∧ reliquarylaw05_EqualFirst.L1 l0 a1 kL1 b_10 (IntKind.i64.wrap (x_11 + 1)))))) ∨ (¬ (x_11 < (l0.length : Int)) ∧ ((l0.length : Int) ≠ 0 ∧ ((0 ≤ (Int.tmod (IntKind.i64.wrap a1) (l0.length : Int)) ∧ (Int.tmod (IntKind.i64.wrap a1) (l0.length : Int)) < (l0.length : Int)) ∧ (∃ (r_46 : Int), equal_Find.rel l0 (gl l0 ((Int.tmod (IntKind.i64.wrap a1) (l0.length : Int)).toNat)) r_46 ∧ (¬ (r_46 < 0) ∧ (¬ (r_46 > (Int.tmod (IntKind.i64.wrap a1) (l0.length : Int))) ∧ ((0 ≤ r_46 ∧ r_46 < (l0.length : Int)) ∧ ((0 ≤ (Int.tmod (IntKind.i64.wrap a1) (l0.length : Int)) ∧ (Int.tmod (IntKind.i64.wrap a1) (l0.length : Int)) < (l0.length : Int)) ∧ (¬ (¬ ((strOfNums (gl l0 ((r_46).toNat))).toList = (strOfNums (gl l0 ((Int.tmod (IntKind.i64.wrap a1) (l0.length : Int)).toNat))).toList)) ∧ (∃ k_ : Nat, reliquarylaw05_EqualFirst.L2 l0 a1 r_46 k_ b_10 0)))))))))))
def reliquarylaw05_EqualFirst.rel (l0 : List (List Int)) (a1 : Int)  : Prop := (reliquarylaw05_awake.rel  ∧ (((l0.length : Int) = 0 ∧ True) ∨ (¬ ((l0.length : Int) = 0) ∧ (((l0.length : Int) > 50 ∧ True) ∨ (¬ ((l0.length : Int) > 50) ∧ (∃ k_ : Nat, reliquarylaw05_EqualFirst.L1 l0 a1 k_ false 0))))))
set_option maxHeartbeats 4000000 in
set_option maxRecDepth 100000 in
theorem reliquarylaw05_EqualFirst.calls (w : World) (l0 : List (List Int)) (a1 : Int) (A0 : Option Addr) (n0 : Nat) (c0 : Nat) (hs0 : RowsOf w .u8 A0 l0) (hn0 : n0 = l0.length) (hc0 : n0 ≤ c0)  (H : reliquarylaw05_EqualFirst.rel l0 a1 ) :
    Calls Try.prog 6 #[.slice A0 n0 c0, .int .u8 a1] w fun e w' => e = .returned (.bool true) ∧ Below w.heap.size w w' := by
  refine CW.enter Try.func6 rfl (n := 80) rfl [.slice A0 n0 c0, .int .u8 a1] (Nat.le_of_ble_eq_true rfl) ?_
  refine CW.sub [(0, .slice A0 n0 c0), (1, .int .u8 a1)] ⟨rfl, rfl, trivial⟩ ?_
  have st0 : St w w [] := St.refl w
  refine CW.seq ?_
  refine CW.region ?_
  refine WL.val Wanted.none (Runs.assign rfl) ?_
  refine WL.nil ?_
  refine QW.then_n ?_
  refine CW.seq ?_
  refine CW.region ?_
  obtain ⟨hr_1, H⟩ := H
  refine WL.call Wanted.none ent18 rfl (reliquarylaw05_awake.calls w hr_1) ?_
  rintro _ w_2 ⟨rfl, sc_4⟩
  have st_3 : St w w_2 [] := st0.below sc_4
  refine ⟨_, rfl, ?_⟩
  refine WL.val Wanted.none (Runs.assign rfl) ?_
  refine WL.nil ?_
  refine QW.then_n ?_
  refine CW.seq ?_
  refine CW.seq ?_
  refine CW.region ?_
  refine WL.val Wanted.none (Runs.move rfl) ?_
  refine WL.val Wanted.none (Runs.not rfl rfl) ?_
  refine WL.nil ?_
  refine QW.then_n ?_
  refine CW.cf rfl rfl ?_
  refine CW.skip ?_
  refine QW.then_n ?_
  refine CW.seq ?_
  refine CW.seq ?_
  refine CW.region ?_
  refine WL.val Wanted.none (Runs.move rfl) ?_
  refine WL.val Wanted.none (Runs.len_sl Try.underlying23 rfl (by rw [hn0])) ?_
  refine WL.val Wanted.none (Runs.eql rfl rfl rfl) ?_
  refine WL.val Wanted.none (Runs.move rfl) ?_
  rcases H with ⟨c_5, H⟩ | ⟨c_5, H⟩
  · have h_6 : ((l0.length : Int) == 0) = true := (beq_iff_eq.mpr c_5)
    refine WL.off ?_ ?_; exact Wanted.guard (dj := 16) (by rfl) (evb (by rfl) h_6) (by rfl)
    refine WL.off ?_ ?_; exact Wanted.guard (dj := 16) (by rfl) (evb (by rfl) h_6) (by rfl)
    refine WL.off ?_ ?_; exact Wanted.guard (dj := 16) (by rfl) (evb (by rfl) h_6) (by rfl)
    refine WL.val Wanted.none (Runs.pick_t (evb rfl h_6) rfl) ?_
    refine WL.nil ?_
    refine QW.then_n ?_
    refine CW.sub [(0, .slice A0 n0 c0), (1, .int .u8 a1), (4, .bool false), (20, .bool true)] ⟨rfl, rfl, rfl, rfl, trivial⟩ ?_
    refine CW.ct rfl rfl ?_
    refine CW.seq ?_
    refine CW.region ?_
    refine WL.val Wanted.none (Runs.assign rfl) ?_
    refine WL.nil ?_
    refine QW.then_n ?_
    refine CW.ret ?_
    refine QW.then_r ?_
    exact QW.ret1 rfl rfl ⟨rfl, st_3.ext⟩
  · have h_6 : ((l0.length : Int) == 0) = false := (beq_eq_false_iff_ne.mpr c_5)
    refine WL.on ?_ ?_; exact Wanted.guard (dj := 16) (by rfl) (evb (by rfl) h_6) (by rfl)
    refine WL.val Wanted.none (Runs.move rfl) ?_
    refine WL.on ?_ ?_; exact Wanted.guard (dj := 16) (by rfl) (evb (by rfl) h_6) (by rfl)
    refine WL.val Wanted.none (Runs.len_sl Try.underlying23 rfl (by rw [hn0])) ?_
    refine WL.on ?_ ?_; exact Wanted.guard (dj := 16) (by rfl) (evb (by rfl) h_6) (by rfl)
    refine WL.val Wanted.none (Runs.gtr rfl rfl rfl) ?_
    refine WL.val Wanted.none (Runs.pick_f (evb rfl h_6) rfl) ?_
    refine WL.nil ?_
    refine QW.then_n ?_
    refine CW.sub [(0, .slice A0 n0 c0), (1, .int .u8 a1), (4, .bool false), (20, .bool (decide ((l0.length : Int) > 50)))] ⟨rfl, rfl, rfl, rfl, trivial⟩ ?_
    rcases H with ⟨c_7, H⟩ | ⟨c_7, H⟩
    · have h_8 : (decide ((l0.length : Int) > 50)) = true := (decide_eq_true c_7)
      refine CW.ct rfl h_8 ?_
      refine CW.seq ?_
      refine CW.region ?_
      refine WL.val Wanted.none (Runs.assign rfl) ?_
      refine WL.nil ?_
      refine QW.then_n ?_
      refine CW.ret ?_
      refine QW.then_r ?_
      exact QW.ret1 rfl rfl ⟨rfl, st_3.ext⟩
    · have h_8 : (decide ((l0.length : Int) > 50)) = false := (decide_eq_false c_7)
      refine CW.cf rfl h_8 ?_
      refine CW.skip ?_
      refine QW.then_n ?_
      refine CW.seq ?_
      refine CW.seq ?_
      refine CW.region ?_
      refine WL.val Wanted.none (Runs.assign rfl) ?_
      refine WL.nil ?_
      refine QW.then_n ?_
      refine CW.block ?_
      obtain ⟨k_9, H⟩ := H
      refine CW.sub [(0, .slice A0 n0 c0), (1, .int .u8 a1), (4, .bool false), (6, .int .i64 0)] ⟨rfl, rfl, rfl, rfl, trivial⟩ ?_
      refine CW.loop (fun kL1 l_ w_ => ∃ (b_10 : Bool) (x_11 : Int), l_ = [(0, .slice A0 n0 c0), (1, .int .u8 a1), (4, .bool b_10), (6, .int .i64 x_11)] ∧ reliquarylaw05_EqualFirst.L1 l0 a1 kL1 b_10 x_11 ∧ St w w_ []) (k := k_9) ⟨false, 0, rfl, H, st_3⟩ (fun _ _ h => by obtain ⟨_, _, _, h, _⟩ := h; exact h.elim) ?_
      rintro kL1 l_14 w_12 ⟨b_10, x_11, rfl, H, st_13⟩
      refine CW.seq ?_
      refine CW.seq ?_
      refine CW.region ?_
      refine WL.val Wanted.none (Runs.move rfl) ?_
      refine WL.val Wanted.none (Runs.move rfl) ?_
      refine WL.val Wanted.none (Runs.len_sl Try.underlying23 rfl (by rw [hn0])) ?_
      refine WL.val Wanted.none (Runs.lss rfl rfl rfl) ?_
      refine WL.nil ?_
      refine QW.then_n ?_
      rcases H with ⟨c_15, H⟩ | ⟨c_15, H⟩
      · have h_16 : (decide (x_11 < (l0.length : Int))) = true := (decide_eq_true c_15)
        refine CW.ct rfl h_16 ?_
        refine CW.skip ?_
        refine QW.then_n ?_
        refine CW.seq ?_
        refine CW.block ?_
        refine CW.seq ?_
        refine CW.region ?_
        refine WL.val Wanted.none (Runs.move rfl) ?_
        refine WL.val Wanted.none (Runs.move rfl) ?_
        obtain ⟨⟨p_17, q_18⟩, H⟩ := H
        obtain ⟨a_19, A_21, n_22, c_23, e_20, f_25, hn_26, hc_27, g_24⟩ := hs0.get ((x_11).toNat) (by omega)
        refine WL.val Wanted.none (Runs.indexAddr Try.underlying23 cells22 (by decide) rfl e_20 rfl p_17 (by rw [hn0]; exact q_18) (o := (x_11).toNat) (by first | rfl | omega)) ?_
        refine WL.val Wanted.none (Runs.load nagg22 rfl (st_13.up f_25)) ?_
        refine WL.val Wanted.none (Runs.len_sl Try.underlying22 rfl (by rw [hn_26])) ?_
        refine WL.val Wanted.none (Runs.gtr rfl rfl rfl) ?_
        refine WL.nil ?_
        refine QW.then_n ?_
        rcases H with ⟨c_28, H⟩ | ⟨c_28, H⟩
        · have h_29 : (decide (((gl l0 ((x_11).toNat)).length : Int) > 200)) = true := (decide_eq_true c_28)
          refine CW.ct rfl h_29 ?_
          refine CW.seq ?_
          refine CW.region ?_
          refine WL.val Wanted.none (Runs.assign rfl) ?_
          refine WL.nil ?_
          refine QW.then_n ?_
          refine CW.ret ?_
          refine QW.blk_r ?_
          refine QW.then_r ?_
          refine QW.then_r ?_
          refine QW.blk_r ?_
          refine QW.then_r ?_
          exact QW.ret1 rfl rfl ⟨rfl, st_13.ext⟩
        · have h_29 : (decide (((gl l0 ((x_11).toNat)).length : Int) > 200)) = false := (decide_eq_false c_28)
          refine CW.cf rfl h_29 ?_
          refine CW.skip ?_
          refine QW.blk_n ?_
          refine QW.then_n ?_
          refine CW.region ?_
          refine WL.val Wanted.none (Runs.move rfl) ?_
          refine WL.val Wanted.none (Runs.add rfl rfl rfl) ?_
          refine WL.val Wanted.none (Runs.assign rfl) ?_
          refine WL.nil ?_
          exact QW.at [(0, .slice A0 n0 c0), (1, .int .u8 a1), (4, .bool b_10), (6, .int .i64 (IntKind.i64.wrap (x_11 + 1)))] ⟨rfl, rfl, rfl, rfl, trivial⟩ ⟨b_10, IntKind.i64.wrap (x_11 + 1), rfl, H, st_13⟩
      · have h_16 : (decide (x_11 < (l0.length : Int))) = false := (decide_eq_false c_15)
        refine CW.cf rfl h_16 ?_
        refine CW.exit ?_
        refine QW.then_x ?_
        refine QW.then_x ?_
        refine QW.blk_x ?_
        refine QW.then_n ?_
        refine CW.seq ?_
        refine CW.region ?_
        refine WL.val Wanted.none (Runs.move rfl) ?_
        refine WL.val Wanted.none (Runs.conv Try.underlying3 ⟨_, Try.underlying5⟩ rfl rfl) ?_
        refine WL.val Wanted.none (Runs.move rfl) ?_
        refine WL.val Wanted.none (Runs.len_sl Try.underlying23 rfl (by rw [hn0])) ?_
        obtain ⟨z_30, H⟩ := H
        refine WL.val Wanted.none (Runs.rem rfl rfl z_30 rfl) ?_
        refine WL.val Wanted.none (Runs.assign rfl) ?_
        refine WL.nil ?_
        refine QW.then_n ?_
        refine CW.sub [(0, .slice A0 n0 c0), (4, .bool b_10), (7, .int .i64 (Int.tmod (IntKind.i64.wrap a1) (l0.length : Int)))] ⟨rfl, rfl, rfl, trivial⟩ ?_
        refine CW.seq ?_
        refine CW.region ?_
        refine WL.val Wanted.none (Runs.move rfl) ?_
        refine WL.val Wanted.none (Runs.move rfl) ?_
        refine WL.val Wanted.none (Runs.move rfl) ?_
        obtain ⟨⟨p_31, q_32⟩, H⟩ := H
        obtain ⟨a_33, A_35, n_36, c_37, e_34, f_39, hn_40, hc_41, g_38⟩ := hs0.get ((Int.tmod (IntKind.i64.wrap a1) (l0.length : Int)).toNat) (by omega)
        refine WL.val Wanted.none (Runs.indexAddr Try.underlying23 cells22 (by decide) rfl e_34 rfl p_31 (by rw [hn0]; exact q_32) (o := (Int.tmod (IntKind.i64.wrap a1) (l0.length : Int)).toNat) (by first | rfl | omega)) ?_
        refine WL.val Wanted.none (Runs.load nagg22 rfl (st_13.up f_39)) ?_
        obtain ⟨r_46, hr_42, H⟩ := H
        refine WL.call Wanted.none ent20 rfl (equal_Find.calls w_12 l0 (gl l0 ((Int.tmod (IntKind.i64.wrap a1) (l0.length : Int)).toNat)) A0 n0 c0 A_35 n_36 c_37 (hs0.ext st_13) (hn0) (hc0) (g_38.ext st_13) (hn_40) (hc_41) r_46 hr_42) ?_
        rintro _ w_43 ⟨rfl, sc_45⟩
        have st_44 : St w w_43 [] := st_13.call sc_45
        refine ⟨_, rfl, ?_⟩
        refine WL.val Wanted.none (Runs.assign rfl) ?_
        refine WL.nil ?_
        refine QW.then_n ?_
        refine CW.sub [(0, .slice A0 n0 c0), (4, .bool b_10), (7, .int .i64 (Int.tmod (IntKind.i64.wrap a1) (l0.length : Int))), (8, .int .i64 r_46)] ⟨rfl, rfl, rfl, rfl, trivial⟩ ?_
        refine CW.seq ?_
        refine CW.seq ?_
        refine CW.region_qa wide (by kernel_rfl) st_44 ?_
        refine HL.val Wanted.none (fun wq sq => (Runs.move rfl)) ?_
        refine HL.val Wanted.none (fun wq sq => (Runs.lss rfl rfl rfl)) ?_
        refine HL.val Wanted.none (fun wq sq => (Runs.move rfl)) ?_
        obtain ⟨c_47, H⟩ := H
        have h_48 : (decide (r_46 < 0)) = false := (decide_eq_false c_47)
        refine HL.on ?_ ?_; exact Wanted.guard (dj := 46) (by rfl) (evb (by rfl) h_48) (by rfl)
        refine HL.val Wanted.none (fun wq sq => (Runs.move rfl)) ?_
        refine HL.on ?_ ?_; exact Wanted.guard (dj := 46) (by rfl) (evb (by rfl) h_48) (by rfl)
        refine HL.val Wanted.none (fun wq sq => (Runs.move rfl)) ?_
        refine HL.on ?_ ?_; exact Wanted.guard (dj := 46) (by rfl) (evb (by rfl) h_48) (by rfl)
        refine HL.val Wanted.none (fun wq sq => (Runs.gtr rfl rfl rfl)) ?_
        refine HL.val Wanted.none (fun wq sq => (Runs.pick_f (evb rfl h_48) rfl)) ?_
        refine HL.val Wanted.none (fun wq sq => (Runs.move rfl)) ?_
        obtain ⟨c_51, H⟩ := H
        have h_52 : (decide (r_46 > (Int.tmod (IntKind.i64.wrap a1) (l0.length : Int)))) = false := (decide_eq_false c_51)
        refine HL.on ?_ ?_; exact Wanted.guard (dj := 51) (by rfl) (evb (by rfl) h_52) (by rfl)
        refine HL.val Wanted.none (fun wq sq => (Runs.move rfl)) ?_
        refine HL.on ?_ ?_; exact Wanted.guard (dj := 51) (by rfl) (evb (by rfl) h_52) (by rfl)
        refine HL.val Wanted.none (fun wq sq => (Runs.move rfl)) ?_
        refine HL.on ?_ ?_; exact Wanted.guard (dj := 51) (by rfl) (evb (by rfl) h_52) (by rfl)
        obtain ⟨⟨p_55, q_56⟩, H⟩ := H
        obtain ⟨a_57, A_59, n_60, c_61, e_58, f_63, hn_64, hc_65, g_62⟩ := hs0.get ((r_46).toNat) (by omega)
        refine HL.val Wanted.none (fun wq sq => (Runs.indexAddr Try.underlying23 cells22 (by decide) rfl e_58 rfl p_55 (by rw [hn0]; exact q_56) (o := (r_46).toNat) (by first | rfl | omega))) ?_
        refine HL.on ?_ ?_; exact Wanted.guard (dj := 51) (by rfl) (evb (by rfl) h_52) (by rfl)
        refine HL.val Wanted.none (fun wq sq => (Runs.load nagg22 rfl (sq.up f_63))) ?_
        refine HL.on ?_ ?_; exact Wanted.guard (dj := 51) (by rfl) (evb (by rfl) h_52) (by rfl)
        refine HL.val Wanted.none (fun wq sq => (Runs.bytes_str Try.underlying22 Try.underlying5 Try.underlying9 rfl (g_62.ext sq) hn_64)) ?_
        refine HL.on ?_ ?_; exact Wanted.guard (dj := 51) (by rfl) (evb (by rfl) h_52) (by rfl)
        refine HL.val Wanted.none (fun wq sq => (Runs.move rfl)) ?_
        refine HL.on ?_ ?_; exact Wanted.guard (dj := 51) (by rfl) (evb (by rfl) h_52) (by rfl)
        refine HL.val Wanted.none (fun wq sq => (Runs.move rfl)) ?_
        refine HL.on ?_ ?_; exact Wanted.guard (dj := 51) (by rfl) (evb (by rfl) h_52) (by rfl)
        obtain ⟨⟨p_66, q_67⟩, H⟩ := H
        obtain ⟨a_68, A_70, n_71, c_72, e_69, f_74, hn_75, hc_76, g_73⟩ := hs0.get ((Int.tmod (IntKind.i64.wrap a1) (l0.length : Int)).toNat) (by omega)
        refine HL.val Wanted.none (fun wq sq => (Runs.indexAddr Try.underlying23 cells22 (by decide) rfl e_69 rfl p_66 (by rw [hn0]; exact q_67) (o := (Int.tmod (IntKind.i64.wrap a1) (l0.length : Int)).toNat) (by first | rfl | omega))) ?_
        refine HL.on ?_ ?_; exact Wanted.guard (dj := 51) (by rfl) (evb (by rfl) h_52) (by rfl)
        refine HL.val Wanted.none (fun wq sq => (Runs.load nagg22 rfl (sq.up f_74))) ?_
        refine HL.on ?_ ?_; exact Wanted.guard (dj := 51) (by rfl) (evb (by rfl) h_52) (by rfl)
        refine HL.val Wanted.none (fun wq sq => (Runs.bytes_str Try.underlying22 Try.underlying5 Try.underlying9 rfl (g_73.ext sq) hn_75)) ?_
        refine HL.on ?_ ?_; exact Wanted.guard (dj := 51) (by rfl) (evb (by rfl) h_52) (by rfl)
        refine HL.val Wanted.none (fun wq sq => (Runs.nes rfl rfl rfl)) ?_
        refine HL.val Wanted.none (fun wq sq => (Runs.pick_f (evb rfl h_52) rfl)) ?_
        refine HL.nil (fun w_77 st_78 => ?_)
        refine WL.nil ?_
        refine QW.then_n ?_
        refine CW.sub [(0, .slice A0 n0 c0), (4, .bool b_10), (7, .int .i64 (Int.tmod (IntKind.i64.wrap a1) (l0.length : Int))), (8, .int .i64 r_46), (63, .bool (!((strOfNums (gl l0 ((r_46).toNat))).toList == (strOfNums (gl l0 ((Int.tmod (IntKind.i64.wrap a1) (l0.length : Int)).toNat))).toList)))] ⟨rfl, rfl, rfl, rfl, rfl, trivial⟩ ?_
        obtain ⟨c_79, H⟩ := H
        have h_80 : (!((strOfNums (gl l0 ((r_46).toNat))).toList == (strOfNums (gl l0 ((Int.tmod (IntKind.i64.wrap a1) (l0.length : Int)).toNat))).toList)) = false := (not_f (beq_iff_eq.mpr (Decidable.not_not.mp c_79)))
        refine CW.cf rfl h_80 ?_
        refine CW.skip ?_
        refine QW.then_n ?_
        refine CW.seq ?_
        refine CW.seq ?_
        refine CW.region ?_
        refine WL.val Wanted.none (Runs.assign rfl) ?_
        refine WL.nil ?_
        refine QW.then_n ?_
        refine CW.block ?_
        obtain ⟨k_81, H⟩ := H
        refine CW.sub [(0, .slice A0 n0 c0), (4, .bool b_10), (7, .int .i64 (Int.tmod (IntKind.i64.wrap a1) (l0.length : Int))), (8, .int .i64 r_46), (9, .int .i64 0)] ⟨rfl, rfl, rfl, rfl, rfl, trivial⟩ ?_
        refine CW.loop (fun kL2 l_ w_ => ∃ (b_82 : Bool) (x_83 : Int), l_ = [(0, .slice A0 n0 c0), (4, .bool b_82), (7, .int .i64 (Int.tmod (IntKind.i64.wrap a1) (l0.length : Int))), (8, .int .i64 r_46), (9, .int .i64 x_83)] ∧ reliquarylaw05_EqualFirst.L2 l0 a1 r_46 kL2 b_82 x_83 ∧ St w w_ []) (k := k_81) ⟨b_10, 0, rfl, H, st_78⟩ (fun _ _ h => by obtain ⟨_, _, _, h, _⟩ := h; exact h.elim) ?_
        rintro kL2 l_86 w_84 ⟨b_82, x_83, rfl, H, st_85⟩
        refine CW.seq ?_
        refine CW.seq ?_
        refine CW.region ?_
        refine WL.val Wanted.none (Runs.move rfl) ?_
        refine WL.val Wanted.none (Runs.move rfl) ?_
        refine WL.val Wanted.none (Runs.lss rfl rfl rfl) ?_
        refine WL.nil ?_
        refine QW.then_n ?_
        rcases H with ⟨c_87, H⟩ | ⟨c_87, H⟩
        · have h_88 : (decide (x_83 < r_46)) = true := (decide_eq_true c_87)
          refine CW.ct rfl h_88 ?_
          refine CW.skip ?_
          refine QW.then_n ?_
          refine CW.seq ?_
          refine CW.block ?_
          refine CW.seq ?_
          refine CW.region_qa wide (by kernel_rfl) st_85 ?_
          refine HL.val Wanted.none (fun wq sq => (Runs.move rfl)) ?_
          refine HL.val Wanted.none (fun wq sq => (Runs.move rfl)) ?_
          obtain ⟨⟨p_89, q_90⟩, H⟩ := H
          obtain ⟨a_91, A_93, n_94, c_95, e_92, f_97, hn_98, hc_99, g_96⟩ := hs0.get ((x_83).toNat) (by omega)
          refine HL.val Wanted.none (fun wq sq => (Runs.indexAddr Try.underlying23 cells22 (by decide) rfl e_92 rfl p_89 (by rw [hn0]; exact q_90) (o := (x_83).toNat) (by first | rfl | omega))) ?_
          refine HL.val Wanted.none (fun wq sq => (Runs.load nagg22 rfl (sq.up f_97))) ?_
          refine HL.val Wanted.none (fun wq sq => (Runs.bytes_str Try.underlying22 Try.underlying5 Try.underlying9 rfl (g_96.ext sq) hn_98)) ?_
          refine HL.val Wanted.none (fun wq sq => (Runs.move rfl)) ?_
          refine HL.val Wanted.none (fun wq sq => (Runs.move rfl)) ?_
          obtain ⟨⟨p_100, q_101⟩, H⟩ := H
          obtain ⟨a_102, A_104, n_105, c_106, e_103, f_108, hn_109, hc_110, g_107⟩ := hs0.get ((Int.tmod (IntKind.i64.wrap a1) (l0.length : Int)).toNat) (by omega)
          refine HL.val Wanted.none (fun wq sq => (Runs.indexAddr Try.underlying23 cells22 (by decide) rfl e_103 rfl p_100 (by rw [hn0]; exact q_101) (o := (Int.tmod (IntKind.i64.wrap a1) (l0.length : Int)).toNat) (by first | rfl | omega))) ?_
          refine HL.val Wanted.none (fun wq sq => (Runs.load nagg22 rfl (sq.up f_108))) ?_
          refine HL.val Wanted.none (fun wq sq => (Runs.bytes_str Try.underlying22 Try.underlying5 Try.underlying9 rfl (g_107.ext sq) hn_109)) ?_
          refine HL.val Wanted.none (fun wq sq => (Runs.eqs rfl rfl rfl)) ?_
          refine HL.nil (fun w_111 st_112 => ?_)
          refine WL.nil ?_
          refine QW.then_n ?_
          obtain ⟨c_113, H⟩ := H
          have h_114 : ((strOfNums (gl l0 ((x_83).toNat))).toList == (strOfNums (gl l0 ((Int.tmod (IntKind.i64.wrap a1) (l0.length : Int)).toNat))).toList) = false := (beq_eq_false_iff_ne.mpr c_113)
          refine CW.cf rfl h_114 ?_
          refine CW.skip ?_
          refine QW.blk_n ?_
          refine QW.then_n ?_
          refine CW.region ?_
          refine WL.val Wanted.none (Runs.move rfl) ?_
          refine WL.val Wanted.none (Runs.add rfl rfl rfl) ?_
          refine WL.val Wanted.none (Runs.assign rfl) ?_
          refine WL.nil ?_
          exact QW.at [(0, .slice A0 n0 c0), (4, .bool b_82), (7, .int .i64 (Int.tmod (IntKind.i64.wrap a1) (l0.length : Int))), (8, .int .i64 r_46), (9, .int .i64 (IntKind.i64.wrap (x_83 + 1)))] ⟨rfl, rfl, rfl, rfl, rfl, trivial⟩ ⟨b_82, IntKind.i64.wrap (x_83 + 1), rfl, H, st_112⟩
        · have h_88 : (decide (x_83 < r_46)) = false := (decide_eq_false c_87)
          refine CW.cf rfl h_88 ?_
          refine CW.exit ?_
          refine QW.then_x ?_
          refine QW.then_x ?_
          refine QW.blk_x ?_
          refine QW.then_n ?_
          refine CW.sub [(4, .bool b_82)] ⟨rfl, trivial⟩ ?_
          refine CW.seq ?_
          refine CW.region ?_
          refine WL.val Wanted.none (Runs.assign rfl) ?_
          refine WL.nil ?_
          refine QW.then_n ?_
          refine CW.ret ?_
          exact QW.ret1 rfl rfl ⟨rfl, st_85.ext⟩

/-! ### reliquarylaw05_found: function 23 -/
def reliquarylaw05_found.rel (a0 : Int) (r0 : Int) : Prop := ((a0 > 0 ∧ r0 = 1) ∨ (¬ (a0 > 0) ∧ r0 = 0))
set_option maxHeartbeats 4000000 in
set_option maxRecDepth 100000 in
theorem reliquarylaw05_found.calls (w : World) (a0 : Int)   (r0 : Int) (H : reliquarylaw05_found.rel a0 r0) :
    Calls Try.prog 23 #[.int .i64 a0] w fun e w' => e = .returned (.int .i64 r0) ∧ St w w' [] := by
  refine CW.enter Try.func23 rfl (n := 5) rfl [.int .i64 a0] (Nat.le_of_ble_eq_true rfl) ?_
  refine CW.sub [(0, .int .i64 a0)] ⟨rfl, trivial⟩ ?_
  have st0 : St w w [] := St.refl w
  refine CW.seq ?_
  refine CW.region ?_
  refine WL.val Wanted.none (Runs.assign rfl) ?_
  refine WL.nil ?_
  refine QW.then_n ?_
  refine CW.seq ?_
  refine CW.seq ?_
  refine CW.region ?_
  refine WL.val Wanted.none (Runs.move rfl) ?_
  refine WL.val Wanted.none (Runs.gtr rfl rfl rfl) ?_
  refine WL.nil ?_
  refine QW.then_n ?_
  rcases H with ⟨c_1, H⟩ | ⟨c_1, H⟩
  · have h_2 : (decide (a0 > 0)) = true := (decide_eq_true c_1)
    refine CW.ct rfl h_2 ?_
    refine CW.seq ?_
    refine CW.region ?_
    refine WL.val Wanted.none (Runs.assign rfl) ?_
    refine WL.nil ?_
    refine QW.then_n ?_
    refine CW.ret ?_
    refine QW.then_r ?_
    obtain rfl := H
    exact QW.ret1 rfl rfl ⟨rfl, st0.pick [] (by decide)⟩
  · have h_2 : (decide (a0 > 0)) = false := (decide_eq_false c_1)
    refine CW.cf rfl h_2 ?_
    refine CW.skip ?_
    refine QW.then_n ?_
    refine CW.seq ?_
    refine CW.region ?_
    refine WL.val Wanted.none (Runs.assign rfl) ?_
    refine WL.nil ?_
    refine QW.then_n ?_
    refine CW.ret ?_
    obtain rfl := H
    exact QW.ret1 rfl rfl ⟨rfl, st0.pick [] (by decide)⟩

/-! ### reliquarylaw05_EqualLong: function 7 -/
def reliquarylaw05_EqualLong.rel (l0 : List Int) (l1 : List Int)  : Prop := (reliquarylaw05_awake.rel  ∧ (((l0.length : Int) > 1000 ∧ True) ∨ (¬ ((l0.length : Int) > 1000) ∧ (((l1.length : Int) > 1000 ∧ True) ∨ (¬ ((l1.length : Int) > 1000) ∧ (∃ m_11 : List Int, m_11 = ([] : List Int) ++ l0 ∧ (m_11.length ≤ 1099511627776 ∧ (∃ m_20 : List Int, m_20 = m_11 ++ l1 ∧ (m_20.length ≤ 1099511627776 ∧ (∃ (r_33 : Bool), equal_Bytes.rel l0 m_20 r_33 ∧ (r_33 = ((l1.length : Int) == 0) ∧ (∃ (r_40 : Bool), equal_Bytes.rel m_20 m_20 r_40 ∧ (r_40 = true ∧ ((0 ≤ (0 : Int) ∧ (0 : Int) ≤ (l0.length : Int) ∧ (l0.length : Int) ≤ (m_20.length : Int)) ∧ (∃ (r_59 : Bool), equal_Bytes.rel (prt m_20 (0 : Int) (l0.length : Int)) l0 r_59 ∧ (r_59 = true ∧ ((0 ≤ (l0.length : Int) ∧ (l0.length : Int) ≤ (m_20.length : Int) ∧ (m_20.length : Int) ≤ (m_20.length : Int)) ∧ (∃ (r_78 : Bool), equal_Bytes.rel (prt m_20 (l0.length : Int) (m_20.length : Int)) l1 r_78 ∧ (r_78 = true ∧ (∃ (r_90 : Int), equal_Find.rel ([m_20, l0] : List (List Int)) l0 r_90 ∧ (∃ (r_95 : Int), reliquarylaw05_found.rel (l1.length : Int) r_95 ∧ r_90 = r_95)))))))))))))))))))))
set_option maxHeartbeats 4000000 in
set_option maxRecDepth 100000 in
theorem reliquarylaw05_EqualLong.calls (w : World) (l0 : List Int) (l1 : List Int) (A0 : Option Addr) (n0 : Nat) (c0 : Nat) (A1 : Option Addr) (n1 : Nat) (c1 : Nat) (hs0 : Src w A0 (iv .u8 l0)) (hn0 : n0 = l0.length) (hc0 : n0 ≤ c0) (hs1 : Src w A1 (iv .u8 l1)) (hn1 : n1 = l1.length) (hc1 : n1 ≤ c1)  (H : reliquarylaw05_EqualLong.rel l0 l1 ) :
    Calls Try.prog 7 #[.slice A0 n0 c0, .slice A1 n1 c1] w fun e w' => e = .returned (.bool true) ∧ Below w.heap.size w w' := by
  refine CW.enter Try.func7 rfl (n := 63) rfl [.slice A0 n0 c0, .slice A1 n1 c1] (Nat.le_of_ble_eq_true rfl) ?_
  refine CW.sub [(0, .slice A0 n0 c0), (1, .slice A1 n1 c1)] ⟨rfl, rfl, trivial⟩ ?_
  have st0 : St w w [] := St.refl w
  refine CW.seq ?_
  refine CW.region ?_
  refine WL.val Wanted.none (Runs.assign rfl) ?_
  refine WL.nil ?_
  refine QW.then_n ?_
  refine CW.seq ?_
  refine CW.region ?_
  obtain ⟨hr_1, H⟩ := H
  refine WL.call Wanted.none ent18 rfl (reliquarylaw05_awake.calls w hr_1) ?_
  rintro _ w_2 ⟨rfl, sc_4⟩
  have st_3 : St w w_2 [] := st0.below sc_4
  refine ⟨_, rfl, ?_⟩
  refine WL.val Wanted.none (Runs.assign rfl) ?_
  refine WL.nil ?_
  refine QW.then_n ?_
  refine CW.seq ?_
  refine CW.seq ?_
  refine CW.region ?_
  refine WL.val Wanted.none (Runs.move rfl) ?_
  refine WL.val Wanted.none (Runs.not rfl rfl) ?_
  refine WL.nil ?_
  refine QW.then_n ?_
  refine CW.cf rfl rfl ?_
  refine CW.skip ?_
  refine QW.then_n ?_
  refine CW.seq ?_
  refine CW.seq ?_
  refine CW.region ?_
  refine WL.val Wanted.none (Runs.move rfl) ?_
  refine WL.val Wanted.none (Runs.len_sl Try.underlying22 rfl (by rw [hn0])) ?_
  refine WL.val Wanted.none (Runs.gtr rfl rfl rfl) ?_
  refine WL.val Wanted.none (Runs.move rfl) ?_
  rcases H with ⟨c_5, H⟩ | ⟨c_5, H⟩
  · have h_6 : (decide ((l0.length : Int) > 1000)) = true := (decide_eq_true c_5)
    refine WL.off ?_ ?_; exact Wanted.guard (dj := 13) (by rfl) (evb (by rfl) h_6) (by rfl)
    refine WL.off ?_ ?_; exact Wanted.guard (dj := 13) (by rfl) (evb (by rfl) h_6) (by rfl)
    refine WL.off ?_ ?_; exact Wanted.guard (dj := 13) (by rfl) (evb (by rfl) h_6) (by rfl)
    refine WL.val Wanted.none (Runs.pick_t (evb rfl h_6) rfl) ?_
    refine WL.nil ?_
    refine QW.then_n ?_
    refine CW.sub [(0, .slice A0 n0 c0), (1, .slice A1 n1 c1), (4, .bool false), (17, .bool true)] ⟨rfl, rfl, rfl, rfl, trivial⟩ ?_
    refine CW.ct rfl rfl ?_
    refine CW.seq ?_
    refine CW.region ?_
    refine WL.val Wanted.none (Runs.assign rfl) ?_
    refine WL.nil ?_
    refine QW.then_n ?_
    refine CW.ret ?_
    refine QW.then_r ?_
    exact QW.ret1 rfl rfl ⟨rfl, st_3.ext⟩
  · have h_6 : (decide ((l0.length : Int) > 1000)) = false := (decide_eq_false c_5)
    refine WL.on ?_ ?_; exact Wanted.guard (dj := 13) (by rfl) (evb (by rfl) h_6) (by rfl)
    refine WL.val Wanted.none (Runs.move rfl) ?_
    refine WL.on ?_ ?_; exact Wanted.guard (dj := 13) (by rfl) (evb (by rfl) h_6) (by rfl)
    refine WL.val Wanted.none (Runs.len_sl Try.underlying22 rfl (by rw [hn1])) ?_
    refine WL.on ?_ ?_; exact Wanted.guard (dj := 13) (by rfl) (evb (by rfl) h_6) (by rfl)
    refine WL.val Wanted.none (Runs.gtr rfl rfl rfl) ?_
    refine WL.val Wanted.none (Runs.pick_f (evb rfl h_6) rfl) ?_
    refine WL.nil ?_
    refine QW.then_n ?_
    refine CW.sub [(0, .slice A0 n0 c0), (1, .slice A1 n1 c1), (4, .bool false), (17, .bool (decide ((l1.length : Int) > 1000)))] ⟨rfl, rfl, rfl, rfl, trivial⟩ ?_
    rcases H with ⟨c_7, H⟩ | ⟨c_7, H⟩
    · have h_8 : (decide ((l1.length : Int) > 1000)) = true := (decide_eq_true c_7)
      refine CW.ct rfl h_8 ?_
      refine CW.seq ?_
      refine CW.region ?_
      refine WL.val Wanted.none (Runs.assign rfl) ?_
      refine WL.nil ?_
      refine QW.then_n ?_
      refine CW.ret ?_
      refine QW.then_r ?_
      exact QW.ret1 rfl rfl ⟨rfl, st_3.ext⟩
    · have h_8 : (decide ((l1.length : Int) > 1000)) = false := (decide_eq_false c_7)
      refine CW.cf rfl h_8 ?_
      refine CW.skip ?_
      refine QW.then_n ?_
      refine CW.seq ?_
      refine CW.region ?_
      refine WL.val Wanted.none (Runs.assign rfl) ?_
      refine WL.nil ?_
      refine QW.then_n ?_
      refine CW.seq ?_
      refine CW.region ?_
      refine WL.val Wanted.none (Runs.move rfl) ?_
      refine WL.val Wanted.none (Runs.move rfl) ?_
      have st_10 := st_3.nil_sl 5 1
      have st_10 : St w w_2 [.sl none 0 0 (iv .u8 ([] : List Int)) 5 1] := st_10
      obtain ⟨m_11, e_12, H⟩ := H
      obtain ⟨z_13, H⟩ := H
      obtain ⟨n_16, hn_19⟩ : ∃ n_ : Nat, n_ = m_11.length := ⟨_, rfl⟩
      refine WL.append (i := 0) Wanted.none st_10 rfl Try.underlying22 elem5 rfl rfl (hs0.ext st_10) (by rw [iv_length]; exact (hn0).symm) (one_iv .u8 _) (by decide) (N := n_16) (by rw [hn_19, e_12, List.length_append]; exact congr (congrArg HAdd.hAdd (rfl)) (hn0)) (by rw [hn_19]; exact z_13) ?_
      intro A_14 c_15 w_17 st_18
      have st_18' : St w w_17 [.sl A_14 c_15 n_16 (iv .u8 m_11) 5 1] := by rw [e_12, ← iv_append .u8 ([] : List Int) l0]; exact st_18
      refine WL.val Wanted.none (Runs.assign rfl) ?_
      refine WL.nil ?_
      refine QW.then_n ?_
      refine CW.seq ?_
      refine CW.region ?_
      refine WL.val Wanted.none (Runs.move rfl) ?_
      refine WL.val Wanted.none (Runs.move rfl) ?_
      obtain ⟨m_20, e_21, H⟩ := H
      obtain ⟨z_22, H⟩ := H
      obtain ⟨n_25, hn_28⟩ : ∃ n_ : Nat, n_ = m_20.length := ⟨_, rfl⟩
      refine WL.append (i := 0) Wanted.none st_18' rfl Try.underlying22 elem5 rfl rfl (hs1.ext st_18') (by rw [iv_length]; exact (hn1).symm) (one_iv .u8 _) (by decide) (N := n_25) (by rw [hn_28, e_21, List.length_append]; exact congr (congrArg HAdd.hAdd (hn_19)) (hn1)) (by rw [hn_28]; exact z_22) ?_
      intro A_23 c_24 w_26 st_27
      have st_27' : St w w_26 [.sl A_23 c_24 n_25 (iv .u8 m_20) 5 1] := by rw [e_21, ← iv_append .u8 m_11 l1]; exact st_27
      refine WL.val Wanted.none (Runs.assign rfl) ?_
      refine WL.nil ?_
      refine QW.then_n ?_
      refine CW.sub [(0, .slice A0 n0 c0), (1, .slice A1 n1 c1), (4, .bool false), (6, .slice A_23 n_25 c_24)] ⟨rfl, rfl, rfl, rfl, trivial⟩ ?_
      refine CW.seq ?_
      refine CW.region ?_
      refine WL.val Wanted.none (Runs.move rfl) ?_
      refine WL.val Wanted.none (Runs.move rfl) ?_
      obtain ⟨r_33, hr_29, H⟩ := H
      refine WL.call Wanted.none ent19 rfl (equal_Bytes.calls w_26 l0 m_20 A0 n0 c0 A_23 n_25 c_24 (hs0.ext st_27') (hn0) (hc0) (st_27'.src_sl (k := 0) rfl) (hn_28) (st_27'.cap (i := 0) rfl) r_33 hr_29) ?_
      rintro _ w_30 ⟨rfl, sc_32⟩
      have st_31 : St w w_30 [.sl A_23 c_24 n_25 (iv .u8 m_20) 5 1] := st_27'.call sc_32
      refine ⟨_, rfl, ?_⟩
      refine WL.val Wanted.none (Runs.move rfl) ?_
      refine WL.val Wanted.none (Runs.len_sl Try.underlying22 rfl (by rw [hn1])) ?_
      refine WL.val Wanted.none (Runs.eql rfl rfl rfl) ?_
      refine WL.val Wanted.none (Runs.eqb Try.underlying4 rfl rfl rfl) ?_
      refine WL.val Wanted.none (Runs.move rfl) ?_
      obtain ⟨c_34, H⟩ := H
      have h_35 : (r_33 == ((l1.length : Int) == 0)) = true := (beq_iff_eq.mpr c_34)
      refine WL.on ?_ ?_; exact Wanted.guard (dj := 31) (by rfl) (evb (by rfl) h_35) (by rfl)
      refine WL.val Wanted.none (Runs.move rfl) ?_
      refine WL.on ?_ ?_; exact Wanted.guard (dj := 31) (by rfl) (evb (by rfl) h_35) (by rfl)
      refine WL.val Wanted.none (Runs.move rfl) ?_
      refine WL.on ?_ ?_; exact Wanted.guard (dj := 31) (by rfl) (evb (by rfl) h_35) (by rfl)
      obtain ⟨r_40, hr_36, H⟩ := H
      refine WL.call Wanted.none ent19 rfl (equal_Bytes.calls w_30 m_20 m_20 A_23 n_25 c_24 A_23 n_25 c_24 (st_31.src_sl (k := 0) rfl) (hn_28) (st_31.cap (i := 0) rfl) (st_31.src_sl (k := 0) rfl) (hn_28) (st_31.cap (i := 0) rfl) r_40 hr_36) ?_
      rintro _ w_37 ⟨rfl, sc_39⟩
      have st_38 : St w w_37 [.sl A_23 c_24 n_25 (iv .u8 m_20) 5 1] := st_31.call sc_39
      refine ⟨_, rfl, ?_⟩
      refine WL.val Wanted.none (Runs.pick_t (evb rfl h_35) rfl) ?_
      refine WL.val Wanted.none (Runs.move rfl) ?_
      obtain ⟨c_41, H⟩ := H
      have h_42 : r_40 = true := c_41
      refine WL.on ?_ ?_; exact Wanted.guard (dj := 36) (by rfl) (evb (by rfl) h_42) (by rfl)
      refine WL.val Wanted.none (Runs.move rfl) ?_
      refine WL.on ?_ ?_; exact Wanted.guard (dj := 36) (by rfl) (evb (by rfl) h_42) (by rfl)
      refine WL.val Wanted.none (Runs.move rfl) ?_
      refine WL.on ?_ ?_; exact Wanted.guard (dj := 36) (by rfl) (evb (by rfl) h_42) (by rfl)
      refine WL.val Wanted.none (Runs.len_sl Try.underlying22 rfl (by rw [hn0])) ?_
      refine WL.on ?_ ?_; exact Wanted.guard (dj := 36) (by rfl) (evb (by rfl) h_42) (by rfl)
      obtain ⟨⟨p_43, q_44, r_45⟩, H⟩ := H
      have h_52 : n_25 ≤ c_24 := st_38.cap (i := 0) rfl
      have h_53 : (l0.length : Int) ≤ (c_24 : Int) := by have := hn_28; omega
      obtain ⟨A_46, e_49⟩ : ∃ B_, B_ = subA A_23 ((0 : Int)).toNat c_24 := ⟨_, rfl⟩
      obtain ⟨n_48, e_51⟩ : ∃ n_ : Nat, n_ = (prt m_20 (0 : Int) (l0.length : Int)).length := ⟨_, rfl⟩
      have h_54 : n_48 ≤ c_24 := by rw [e_51, prt_length p_43 q_44 r_45]; omega
      refine WL.val Wanted.none (Runs.slice_h Try.underlying22 cells5 rfl rfl q_44 h_53 e_49 (N := n_48) (by rw [e_51, prt_length p_43 q_44 r_45]; rfl)) ?_
      refine WL.on ?_ ?_; exact Wanted.guard (dj := 36) (by rfl) (evb (by rfl) h_42) (by rfl)
      refine WL.val Wanted.none (Runs.move rfl) ?_
      refine WL.on ?_ ?_; exact Wanted.guard (dj := 36) (by rfl) (evb (by rfl) h_42) (by rfl)
      obtain ⟨r_59, hr_55, H⟩ := H
      refine WL.call Wanted.none ent19 rfl (equal_Bytes.calls w_37 (prt m_20 (0 : Int) (l0.length : Int)) l0 A_46 n_48 c_24 A0 n0 c0 ((st_38.src_sl (k := 0) rfl).sub_iv p_43 q_44 h_53 e_49) (e_51) (h_54) (hs0.ext st_38) (hn0) (hc0) r_59 hr_55) ?_
      rintro _ w_56 ⟨rfl, sc_58⟩
      have st_57 : St w w_56 [.sl A_23 c_24 n_25 (iv .u8 m_20) 5 1] := st_38.call sc_58
      refine ⟨_, rfl, ?_⟩
      refine WL.val Wanted.none (Runs.pick_t (evb rfl h_42) rfl) ?_
      refine WL.val Wanted.none (Runs.move rfl) ?_
      obtain ⟨c_60, H⟩ := H
      have h_61 : r_59 = true := c_60
      refine WL.on ?_ ?_; exact Wanted.guard (dj := 44) (by rfl) (evb (by rfl) h_61) (by rfl)
      refine WL.val Wanted.none (Runs.move rfl) ?_
      refine WL.on ?_ ?_; exact Wanted.guard (dj := 44) (by rfl) (evb (by rfl) h_61) (by rfl)
      refine WL.val Wanted.none (Runs.move rfl) ?_
      refine WL.on ?_ ?_; exact Wanted.guard (dj := 44) (by rfl) (evb (by rfl) h_61) (by rfl)
      refine WL.val Wanted.none (Runs.len_sl Try.underlying22 rfl (by rw [hn0])) ?_
      refine WL.on ?_ ?_; exact Wanted.guard (dj := 44) (by rfl) (evb (by rfl) h_61) (by rfl)
      obtain ⟨⟨p_62, q_63, r_64⟩, H⟩ := H
      have h_71 : n_25 ≤ c_24 := st_57.cap (i := 0) rfl
      have h_72 : (m_20.length : Int) ≤ (c_24 : Int) := by have := hn_28; omega
      obtain ⟨A_65, e_68⟩ : ∃ B_, B_ = subA A_23 ((l0.length : Int)).toNat c_24 := ⟨_, rfl⟩
      obtain ⟨n_67, e_70⟩ : ∃ n_ : Nat, n_ = (prt m_20 (l0.length : Int) (m_20.length : Int)).length := ⟨_, rfl⟩
      obtain ⟨c_66, e_69⟩ : ∃ c_ : Nat, c_ = c_24 - ((l0.length : Int)).toNat := ⟨_, rfl⟩
      have h_73 : n_67 ≤ c_66 := by rw [e_70, prt_length p_62 q_63 r_64]; rw [e_69]; omega
      refine WL.val Wanted.none (Runs.slice_l Try.underlying22 cells5 rfl rfl p_62 (by have := hn_28; omega) e_68 (N := n_67) (by rw [e_70, prt_length p_62 q_63 r_64]; rw [hn_28]; rfl) e_69) ?_
      refine WL.on ?_ ?_; exact Wanted.guard (dj := 44) (by rfl) (evb (by rfl) h_61) (by rfl)
      refine WL.val Wanted.none (Runs.move rfl) ?_
      refine WL.on ?_ ?_; exact Wanted.guard (dj := 44) (by rfl) (evb (by rfl) h_61) (by rfl)
      obtain ⟨r_78, hr_74, H⟩ := H
      refine WL.call Wanted.none ent19 rfl (equal_Bytes.calls w_56 (prt m_20 (l0.length : Int) (m_20.length : Int)) l1 A_65 n_67 c_66 A1 n1 c1 ((st_57.src_sl (k := 0) rfl).sub_iv p_62 q_63 h_72 e_68) (e_70) (h_73) (hs1.ext st_57) (hn1) (hc1) r_78 hr_74) ?_
      rintro _ w_75 ⟨rfl, sc_77⟩
      have st_76 : St w w_75 [.sl A_23 c_24 n_25 (iv .u8 m_20) 5 1] := st_57.call sc_77
      refine ⟨_, rfl, ?_⟩
      refine WL.val Wanted.none (Runs.pick_t (evb rfl h_61) rfl) ?_
      refine WL.val Wanted.none (Runs.move rfl) ?_
      obtain ⟨c_79, H⟩ := H
      have h_80 : r_78 = true := c_79
      refine WL.on ?_ ?_; exact Wanted.guard (dj := 52) (by rfl) (evb (by rfl) h_80) (by rfl)
      refine WL.val Wanted.none (Runs.move rfl) ?_
      refine WL.on ?_ ?_; exact Wanted.guard (dj := 52) (by rfl) (evb (by rfl) h_80) (by rfl)
      refine WL.val Wanted.none (Runs.move rfl) ?_
      refine WL.on ?_ ?_; exact Wanted.guard (dj := 52) (by rfl) (evb (by rfl) h_80) (by rfl)
      refine WL.buildSl [.slice A_23 n_25 c_24, .slice A0 n0 c0] st_76 Try.underlying23 elem22 rfl rfl (by decide) (by decide) (by simp [Value.cells]) ?_
      intro B_81 w_82 st_83
      replace st_83 : St w w_82 [.sl (some ⟨B_81, 0, none⟩) 2 2 [.slice A_23 n_25 c_24, .slice A0 n0 c0] 22 1, .sl A_23 c_24 n_25 (iv .u8 m_20) 5 1] := st_83
      refine WL.on ?_ ?_; exact Wanted.guard (dj := 52) (by rfl) (evb (by rfl) h_80) (by rfl)
      refine WL.val Wanted.none (Runs.move rfl) ?_
      refine WL.on ?_ ?_; exact Wanted.guard (dj := 52) (by rfl) (evb (by rfl) h_80) (by rfl)
      have hr_85 : RowsOf w_82 .u8 (some ⟨B_81, 0, none⟩) ([m_20, l0] : List (List Int)) := RowsOf.lit (st_83.src_sl (k := 0) rfl) rfl (fun j hj => by match j, hj with | 0, _ => exact ⟨_, _, _, rfl, hn_28, st_83.cap (i := 1) rfl, st_83.src_sl (k := 1) rfl⟩ | 1, _ => exact ⟨_, _, _, rfl, hn0, hc0, hs0.ext st_83⟩ | j + 2, hj => exact absurd (show j + 2 < 2 from hj) (by omega))
      obtain ⟨r_90, hr_86, H⟩ := H
      refine WL.call Wanted.none ent20 rfl (equal_Find.calls w_82 ([m_20, l0] : List (List Int)) l0 (some ⟨B_81, 0, none⟩) 2 2 A0 n0 c0 (hr_85) (rfl) (Nat.le_refl _) (hs0.ext st_83) (hn0) (hc0) r_90 hr_86) ?_
      rintro _ w_87 ⟨rfl, sc_89⟩
      have st_88 : St w w_87 [.sl (some ⟨B_81, 0, none⟩) 2 2 [.slice A_23 n_25 c_24, .slice A0 n0 c0] 22 1, .sl A_23 c_24 n_25 (iv .u8 m_20) 5 1] := st_83.call sc_89
      refine ⟨_, rfl, ?_⟩
      refine WL.on ?_ ?_; exact Wanted.guard (dj := 52) (by rfl) (evb (by rfl) h_80) (by rfl)
      refine WL.val Wanted.none (Runs.move rfl) ?_
      refine WL.on ?_ ?_; exact Wanted.guard (dj := 52) (by rfl) (evb (by rfl) h_80) (by rfl)
      refine WL.val Wanted.none (Runs.len_sl Try.underlying22 rfl (by rw [hn1])) ?_
      refine WL.on ?_ ?_; exact Wanted.guard (dj := 52) (by rfl) (evb (by rfl) h_80) (by rfl)
      obtain ⟨r_95, hr_91, H⟩ := H
      refine WL.call Wanted.none ent23 rfl (reliquarylaw05_found.calls w_87 (l1.length : Int) r_95 hr_91) ?_
      rintro _ w_92 ⟨rfl, sc_94⟩
      have st_93 : St w w_92 [.sl (some ⟨B_81, 0, none⟩) 2 2 [.slice A_23 n_25 c_24, .slice A0 n0 c0] 22 1, .sl A_23 c_24 n_25 (iv .u8 m_20) 5 1] := st_88.call sc_94
      refine ⟨_, rfl, ?_⟩
      refine WL.on ?_ ?_; exact Wanted.guard (dj := 52) (by rfl) (evb (by rfl) h_80) (by rfl)
      refine WL.val Wanted.none (Runs.eql rfl rfl rfl) ?_
      refine WL.val Wanted.none (Runs.pick_t (evb rfl h_80) rfl) ?_
      refine WL.val Wanted.none (Runs.assign rfl) ?_
      refine WL.nil ?_
      refine QW.then_n ?_
      refine CW.sub [(4, .bool (r_90 == r_95))] ⟨rfl, trivial⟩ ?_
      refine CW.ret ?_
      have hz : (r_90 == r_95) = true := (beq_iff_eq.mpr H)
      exact QW.ret1 rfl (evb rfl hz) ⟨rfl, st_93.ext⟩

end Go.Proofs.Ytkfkkbblmnnblaa
