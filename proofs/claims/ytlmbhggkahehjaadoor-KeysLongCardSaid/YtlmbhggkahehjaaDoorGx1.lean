/- Walks: each function computes what its relation says, and a call of it ends so. Printed by a program of this session (wip/gen). -/
import Derived.Test.YtlmbhggkahehjaaDoorGx0
namespace Go.Proofs.YtlmbhggkahehjaaDoor
open Go Go.Kr Go.RowKit
set_option linter.unusedVariables false
set_option linter.unusedSimpArgs false
/-! ### slices_Clone_s_byte_byte: function 19 -/
def slices_Clone_s_byte_byte.rel (l0 : List Int) (r0 : List Int) : Prop := (l0 = [] → r0 = []) ∧ (∃ m_7 : List Int, m_7 = ([] : List Int) ++ l0 ∧ (m_7.length ≤ 1099511627776 ∧ r0 = m_7))
set_option maxHeartbeats 4000000 in
set_option maxRecDepth 100000 in
theorem slices_Clone_s_byte_byte.calls (w : World) (l0 : List Int) (A0 : Option Addr) (n0 : Nat) (c0 : Nat)  (hs0 : Src w A0 (iv .u8 l0)) (hn0 : n0 = l0.length) (hc0 : n0 ≤ c0) (r0 : List Int) (H : slices_Clone_s_byte_byte.rel l0 r0) :
    Calls Tryd.prog 19 #[.slice A0 n0 c0] w fun e w' => ∃ B0 q0 z0, z0 = r0.length ∧ e = .returned (.slice B0 z0 q0) ∧ St w w' [.sl B0 q0 z0 (iv .u8 r0) 5 1] := by
  rcases A0 with _ | A_
  · replace H := H.1 (nil_of_src hs0)
    refine CW.enter Tryd.func19 rfl (n := 8) rfl [.slice none n0 c0] (Nat.le_of_ble_eq_true rfl) ?_
    refine CW.sub [(0, .slice none n0 c0)] ⟨rfl, trivial⟩ ?_
    have st0 : St w w [] := St.refl w
    refine CW.seq ?_
    refine CW.region ?_
    refine WL.val Wanted.none (Runs.assign rfl) ?_
    refine WL.nil ?_
    refine QW.then_n ?_
    refine CW.seq ?_
    refine CW.seq ?_
    refine CW.region ?_
    refine WL.val Wanted.none (Runs.move rfl) ?_
    refine WL.val Wanted.none (Runs.eql_nil Tryd.underlying22 rfl rfl rfl) ?_
    refine WL.nil ?_
    refine QW.then_n ?_
    refine CW.ct rfl rfl ?_
    refine CW.seq ?_
    refine CW.region ?_
    refine WL.val Wanted.none (Runs.assign rfl) ?_
    refine WL.nil ?_
    refine QW.then_n ?_
    refine CW.ret ?_
    refine QW.then_r ?_
    have st_2 := st0.nil_sl 5 1
    have st_2 : St w w [.sl none 0 0 (iv .u8 ([] : List Int)) 5 1] := st_2
    obtain rfl := H
    exact QW.ret1 rfl rfl ⟨none, 0, 0, rfl, rfl, st_2.pick [0] (by decide)⟩
  · replace H := H.2
    refine CW.enter Tryd.func19 rfl (n := 8) rfl [.slice (some A_) n0 c0] (Nat.le_of_ble_eq_true rfl) ?_
    refine CW.sub [(0, .slice (some A_) n0 c0)] ⟨rfl, trivial⟩ ?_
    have st0 : St w w [] := St.refl w
    refine CW.seq ?_
    refine CW.region ?_
    refine WL.val Wanted.none (Runs.assign rfl) ?_
    refine WL.nil ?_
    refine QW.then_n ?_
    refine CW.seq ?_
    refine CW.seq ?_
    refine CW.region ?_
    refine WL.val Wanted.none (Runs.move rfl) ?_
    refine WL.val Wanted.none (Runs.eql_nil Tryd.underlying22 rfl rfl rfl) ?_
    refine WL.nil ?_
    refine QW.then_n ?_
    refine CW.cf rfl rfl ?_
    refine CW.skip ?_
    refine QW.then_n ?_
    refine CW.seq ?_
    refine CW.region ?_
    refine WL.buildSl0 st0 Tryd.underlying22 elem5 ?_
    intro B_3 w_4 st_5
    replace st_5 : St w w_4 [.sl (some ⟨B_3, 0, none⟩) 0 0 (iv .u8 ([] : List Int)) 5 1] := st_5
    refine WL.val Wanted.none (Runs.move rfl) ?_
    obtain ⟨m_7, e_8, H⟩ := H
    obtain ⟨z_9, H⟩ := H
    obtain ⟨n_12, hn_15⟩ : ∃ n_ : Nat, n_ = m_7.length := ⟨_, rfl⟩
    refine WL.append (i := 0) Wanted.none st_5 rfl Tryd.underlying22 elem5 rfl rfl (hs0.ext st_5) (by rw [iv_length]; exact (hn0).symm) (one_iv .u8 _) (by decide) (N := n_12) (by rw [hn_15, e_8, List.length_append]; exact congr (congrArg HAdd.hAdd (rfl)) (hn0)) (by rw [hn_15]; exact z_9) ?_
    intro A_10 c_11 w_13 st_14
    have st_14' : St w w_13 [.sl A_10 c_11 n_12 (iv .u8 m_7) 5 1] := by rw [e_8, ← iv_append .u8 ([] : List Int) l0]; exact st_14
    refine WL.val Wanted.none (Runs.assign rfl) ?_
    refine WL.nil ?_
    refine QW.then_n ?_
    refine CW.sub [(2, .slice A_10 n_12 c_11)] ⟨rfl, trivial⟩ ?_
    refine CW.ret ?_
    obtain rfl := H
    exact QW.ret1 rfl rfl ⟨A_10, c_11, n_12, hn_15, rfl, st_14'.pick [0] (by decide)⟩

/-! ### digest_first: function 20 -/
def digest_first.rel  (r0 : List Int) : Prop := (∃ m_5 : List Int, m_5 = [1779033703, 3144134277, 1013904242, 2773480762, 1359893119, 2600822924, 528734635, 1541459225] ∧ r0 = m_5)
set_option maxHeartbeats 4000000 in
set_option maxRecDepth 100000 in
theorem digest_first.calls (w : World)     (r0 : List Int) (H : digest_first.rel  r0) :
    Calls Tryd.prog 20 #[] w fun e w' => r0.length = 8 ∧ e = .returned (.agg (iv .u32 r0).toArray) ∧ St w w' [] := by
  refine CW.enter Tryd.func20 rfl (n := 2) rfl [] (Nat.le_of_ble_eq_true rfl) ?_
  refine CW.sub [] trivial ?_
  have st0 : St w w [] := St.refl w
  refine CW.seq ?_
  refine CW.region ?_
  refine WL.alloc st0 arr50.zero ?_
  intro B_1 w_2 st_3
  replace st_3 : St w w_2 [.cells B_1 (iv .u32 (List.replicate 8 (0 : Int))) 50] := st_3
  refine WL.nil ?_
  refine QW.then_n ?_
  refine CW.seq ?_
  refine CW.region ?_
  obtain ⟨m_5, e_6, H⟩ := H
  refine WL.val Wanted.none (Runs.build_arr (xs := m_5) arr50 rfl rfl (by rw [e_6]; rfl)) ?_
  refine WL.store_arr (i := 0) st_3 rfl arr50 rfl (by rw [iv_length]; exact (List.length_replicate ..)) (by rw [e_6]; rfl) rfl ?_
  intro w_7 st_8
  replace st_8 : St w w_7 [.cells B_1 (iv .u32 m_5) 50] := st_8
  refine WL.nil ?_
  refine QW.then_n ?_
  refine CW.ret ?_
  obtain rfl := H
  exact QW.retc rfl arr50 rfl (st_8.blk (i := 0) rfl) (by rw [e_6]; rfl) ⟨(by rw [e_6]; rfl), rfl, st_8.pick [] (by decide)⟩

/-! ### slices.Chunk: its iterator, function 26 -/
/-- The j-th chunk of M bytes at A, c at a time. -/
def chv (A : Option Addr) (c M j : Nat) : Value := .slice (A.map (·.add (c * j))) (min c (M - c * j)) (min c (M - c * j))
def KpB (B1 B2 : Nat) (W W' : World) : Prop := W'.cell? ⟨B1, 0, none⟩ = W.cell? ⟨B1, 0, none⟩ ∧ W'.cell? ⟨B2, 0, none⟩ = W.cell? ⟨B2, 0, none⟩
theorem KpB.trans {B1 B2 : Nat} {W W' W2 : World} (h : KpB B1 B2 W W') (k : KpB B1 B2 W' W2) : KpB B1 B2 W W2 := ⟨k.1.trans h.1, k.2.trans h.2⟩
theorem KpB.put {B1 B2 : Nat} {w : World} (h1 : B1 < w.heap.size) (h2 : B2 < w.heap.size) (W : World) (j : Nat) (o o' : Obj) (hj : w.heap.size ≤ j) (_ : W.heap[j]? = some o) (_ : o.isCells = false) : KpB B1 B2 W (W.putObj j o') := by
  have hb : ∀ b, b < w.heap.size → (W.putObj j o').cell? ⟨b, 0, none⟩ = W.cell? ⟨b, 0, none⟩ := fun b hb => by
    unfold World.cell?
    rw [World.putObj_heap_other (show (⟨b, 0, none⟩ : Addr).block ≠ j by show b ≠ j; omega)]
  exact ⟨hb _ h1, hb _ h2⟩
theorem chw {x : Int} (h0 : -9223372036854775808 ≤ x) (h1 : x ≤ 9223372036854775807) : IntKind.i64.wrap x = x := by rw [IntKind.wrap_i64]; omega
set_option maxHeartbeats 4000000 in
set_option maxRecDepth 100000 in
theorem chunk_seq {w : World} {B1 B2 M C c q : Nat} {A : Option Addr} (hb1 : w.cell? ⟨B1, 0, none⟩ = some (.slice A M C)) (hb2 : w.cell? ⟨B2, 0, none⟩ = some (.int .i64 (c : Int))) (hMC : M ≤ C) (hc : 1 ≤ c) (hcs : c ≤ 1099511627776) (hMs : M ≤ 1099511627776)
    (hq1 : M ≤ c * q) (hq2 : ∀ j, j < q → c * j < M) :
    SeqStopsK Fence.wide 2 Tryd.prog 26 #[.pointer (some ⟨B1, 0, none⟩), .pointer (some ⟨B2, 0, none⟩)] (fun j : Fin q => #[chv A c M j.val]) (KpB B1 B2) (fun xs => xs = List.finRange q) (fun _ => True) q w := by
  intro y J Jx W hW hJ hJx hY h0
  have c1 : W.cell? ⟨B1, 0, none⟩ = some (.slice A M C) := (hW.cell (p := ⟨B1, 0, none⟩) (block_lt_of_cell hb1)).trans hb1
  have c2 : W.cell? ⟨B2, 0, none⟩ = some (.int .i64 (c : Int)) := (hW.cell (p := ⟨B2, 0, none⟩) (block_lt_of_cell hb2)).trans hb2
  refine callsIn_wide.2 ?_
  refine CW.enter Tryd.func26 rfl (n := 31) rfl [.func (.yield y) #[] #[], .pointer (some ⟨B1, 0, none⟩), .pointer (some ⟨B2, 0, none⟩)] (Nat.le_of_ble_eq_true rfl) ?_
  refine CW.sub [(0, .func (.yield y) #[] #[]), (1, .pointer (some ⟨B1, 0, none⟩)), (2, .pointer (some ⟨B2, 0, none⟩))] ⟨rfl, rfl, rfl, trivial⟩ ?_
  refine CW.seq ?_
  refine CW.region ?_
  refine WL.val Wanted.none (Runs.assign rfl) ?_
  refine WL.nil ?_
  refine QW.then_n ?_
  refine CW.block ?_
  refine CW.sub [(0, .func (.yield y) #[] #[]), (1, .pointer (some ⟨B1, 0, none⟩)), (2, .pointer (some ⟨B2, 0, none⟩)), (4, .int .i64 0)] ⟨rfl, rfl, rfl, rfl, trivial⟩ ?_
  refine CW.loop (fun k l_ w_ => ∃ j : Nat, k + j = q + 1 ∧ j ≤ q ∧ l_ = [(0, .func (.yield y) #[] #[]), (1, .pointer (some ⟨B1, 0, none⟩)), (2, .pointer (some ⟨B2, 0, none⟩)), (4, .int .i64 ((c * j : Nat) : Int))] ∧ J ((List.finRange q).take j) w_ ∧ w_.cell? ⟨B1, 0, none⟩ = some (.slice A M C) ∧ w_.cell? ⟨B2, 0, none⟩ = some (.int .i64 (c : Int)))
    (k := q + 1) ⟨0, by omega, by omega, rfl, h0, c1, c2⟩ (fun _ _ h => by obtain ⟨j, h1, h2, _⟩ := h; omega) ?_
  rintro k l1 w1 ⟨j, hkj, hjq, rfl, hJ1, d1, d2⟩
  refine CW.seq ?_
  refine CW.seq ?_
  refine CW.region ?_
  refine WL.val Wanted.none (Runs.move rfl) ?_
  refine WL.val Wanted.none (Runs.load nagg22 rfl d1) ?_
  refine WL.val Wanted.none (Runs.len_sl Tryd.underlying22 rfl rfl) ?_
  refine WL.val Wanted.none (Runs.lss rfl rfl rfl) ?_
  refine WL.nil ?_
  refine QW.then_n ?_
  by_cases hlt : j < q
  · have hjM := hq2 j hlt
    have hfin : (List.finRange q).take (j + 1) = (List.finRange q).take j ++ [⟨j, hlt⟩] := by
      rw [List.take_add_one]; simp [hlt]
    refine CW.ct rfl (decide_eq_true (by omega)) ?_
    refine CW.skip ?_
    refine QW.then_n ?_
    refine CW.sub [(0, .func (.yield y) #[] #[]), (1, .pointer (some ⟨B1, 0, none⟩)), (2, .pointer (some ⟨B2, 0, none⟩)), (4, .int .i64 ((c * j : Nat) : Int))] ⟨rfl, rfl, rfl, rfl, trivial⟩ ?_
    refine CW.seq ?_
    refine CW.block ?_
    refine CW.seq ?_
    refine CW.region_qC (C := fun W' => J ((List.finRange q).take j) W' ∧ W'.cell? ⟨B1, 0, none⟩ = some (.slice A M C) ∧ W'.cell? ⟨B2, 0, none⟩ = some (.int .i64 (c : Int))) wide (by kernel_rfl) ⟨hJ _ _ _ none hJ1 ⟨rfl, rfl, rfl, Nat.le_refl _, fun _ _ _ => rfl⟩ (fun r e => by cases e), d1, d2⟩ ?_
    refine HL.val Wanted.none (fun W' h' => Runs.load nagg3 rfl h'.2.2) ?_
    refine HL.val Wanted.none (fun W' h' => Runs.load nagg22 rfl h'.2.1) ?_
    refine HL.val Wanted.none (fun W' h' => Runs.move rfl) ?_
    refine HL.val Wanted.none (fun W' h' => Runs.slice_l Tryd.underlying22 cells5 rfl rfl (by omega) (by omega) (B := subA A (c * j) C) rfl (N := M - c * j) rfl (M := C - c * j) rfl) ?_
    refine HL.val Wanted.none (fun W' h' => Runs.len_sl Tryd.underlying22 rfl rfl) ?_
    refine HL.val Wanted.none (fun W' h' => Runs.min2 rfl rfl (z := ((min c (M - c * j) : Nat) : Int)) (by unfold minI; split <;> omega)) ?_
    refine HL.val Wanted.none (fun W' h' => Runs.assign rfl) ?_
    refine HL.nil (fun w2 h2 => ?_)
    obtain ⟨hJ2, f1, f2⟩ := h2
    refine WL.nil ?_
    refine QW.then_n ?_
    refine CW.sub [(0, .func (.yield y) #[] #[]), (1, .pointer (some ⟨B1, 0, none⟩)), (2, .pointer (some ⟨B2, 0, none⟩)), (4, .int .i64 ((c * j : Nat) : Int)), (5, .int .i64 ((min c (M - c * j) : Nat) : Int))] ⟨rfl, rfl, rfl, rfl, rfl, trivial⟩ ?_
    refine CW.seq ?_
    refine CW.region_y 2 ?_
    refine WY.val (Runs.move rfl) rfl ?_
    refine WY.val (Runs.load nagg22 rfl f1) rfl ?_
    refine WY.val (Runs.move rfl) rfl ?_
    refine WY.val (Runs.move rfl) rfl ?_
    refine WY.val (Runs.move rfl) rfl ?_
    refine WY.val (Runs.add rfl rfl (z := ((c * j + min c (M - c * j) : Nat) : Int)) (by rw [chw (by omega) (by omega)]; omega)) rfl ?_
    refine WY.val (Runs.move rfl) rfl ?_
    refine WY.val (Runs.move rfl) rfl ?_
    refine WY.val (Runs.add rfl rfl (z := ((c * j + min c (M - c * j) : Nat) : Int)) (by rw [chw (by omega) (by omega)]; omega)) rfl ?_
    refine WY.val (Runs.slice_3 Tryd.underlying22 cells5 rfl rfl rfl rfl (by omega) (by omega) (by omega) (by omega) (B := A.map (·.add (c * j))) (by rw [if_neg (by omega)]; rfl) (N := min c (M - c * j)) (by omega) (M := min c (M - c * j)) (by omega)) rfl ?_
    refine WY.yield rfl rfl (hY ((List.finRange q).take j) ⟨j, hlt⟩ w2 hJ2 (by simp; omega)) ?_
    rintro e w3 (⟨rfl, hJ3, hk3⟩ | ⟨rfl, hJx3⟩)
    · refine ⟨_, rfl, ?_⟩
      refine WY.val (Runs.not rfl rfl) rfl ?_
      refine WY.nil ?_
      refine QW.then_n ?_
      refine CW.cf rfl rfl ?_
      refine CW.skip ?_
      refine QW.blk_n ?_
      refine QW.then_n ?_
      refine CW.sub [(0, .func (.yield y) #[] #[]), (1, .pointer (some ⟨B1, 0, none⟩)), (2, .pointer (some ⟨B2, 0, none⟩)), (4, .int .i64 ((c * j : Nat) : Int))] ⟨rfl, rfl, rfl, rfl, trivial⟩ ?_
      refine CW.region ?_
      refine WL.val Wanted.none (Runs.move rfl) ?_
      refine WL.val Wanted.none (Runs.load nagg3 rfl (hk3.2.trans f2)) ?_
      refine WL.val Wanted.none (Runs.add rfl rfl (z := ((c * (j + 1) : Nat) : Int)) (by rw [Nat.mul_succ, chw (by omega) (by omega)]; omega)) ?_
      refine WL.val Wanted.none (Runs.assign rfl) ?_
      refine WL.nil ?_
      exact QW.at [(0, .func (.yield y) #[] #[]), (1, .pointer (some ⟨B1, 0, none⟩)), (2, .pointer (some ⟨B2, 0, none⟩)), (4, .int .i64 ((c * (j + 1) : Nat) : Int))] ⟨rfl, rfl, rfl, rfl, trivial⟩ ⟨j + 1, by omega, by omega, rfl, by rw [hfin]; exact hJ3, hk3.1.trans f1, hk3.2.trans f2⟩
    · refine ⟨_, rfl, ?_⟩
      refine WY.val (Runs.not rfl rfl) rfl ?_
      refine WY.nil ?_
      refine QW.then_n ?_
      refine CW.ct rfl rfl ?_
      refine CW.ret ?_
      refine QW.blk_r ?_
      refine QW.then_r ?_
      refine QW.then_r ?_
      refine QW.blk_r ?_
      exact QW.ret0 rfl ⟨⟨_, rfl⟩, .inr ⟨_, trivial, hJx3⟩⟩
  · obtain rfl : j = q := by omega
    refine CW.cf rfl (decide_eq_false (by omega)) ?_
    refine CW.exit ?_
    refine QW.then_x ?_
    refine QW.then_x ?_
    refine QW.blk_x ?_
    exact QW.end0 rfl ⟨⟨_, rfl⟩, .inl ⟨_, rfl, by rw [List.take_of_length_le (by simp)] at hJ1; exact hJ1⟩⟩
theorem slices_Chunk.calls (w : World) (A : Option Addr) (M C c : Nat) (hc : 1 ≤ c) :
    Calls Tryd.prog 21 #[.slice A M C, .int .i64 (c : Int)] w fun e w' => ∃ B1 B2, e = .returned (.func (.func 26) #[] #[.pointer (some ⟨B1, 0, none⟩), .pointer (some ⟨B2, 0, none⟩)]) ∧ St w w' [.cells B2 [.int .i64 (c : Int)] 3, .cells B1 [.slice A M C] 22] := by
  refine CW.enter Tryd.func21 rfl (n := 9) rfl [.slice A M C, .int .i64 (c : Int)] (Nat.le_of_ble_eq_true rfl) ?_
  refine CW.sub [(0, .slice A M C), (1, .int .i64 (c : Int))] ⟨rfl, rfl, trivial⟩ ?_
  have st0 : St w w [] := St.refl w
  refine CW.seq ?_
  refine CW.region ?_
  refine WL.box st0 rfl rfl ?_
  intro B1 w1 st1
  refine WL.box st1 rfl rfl ?_
  intro B2 w2 st2
  refine WL.val Wanted.none (Runs.assign rfl) ?_
  refine WL.nil ?_
  refine QW.then_n ?_
  refine CW.seq ?_
  refine CW.seq ?_
  refine CW.region ?_
  refine WL.val Wanted.none (Runs.load nagg3 rfl (st2.cell (k := 0) rfl rfl)) ?_
  refine WL.val Wanted.none (Runs.lss rfl rfl rfl) ?_
  refine WL.nil ?_
  refine QW.then_n ?_
  refine CW.cf rfl (decide_eq_false (by omega)) ?_
  refine CW.skip ?_
  refine QW.then_n ?_
  refine CW.seq ?_
  refine CW.region ?_
  refine WL.val Wanted.none (Runs.makeFunc (vs := [.pointer (some ⟨B1, 0, none⟩), .pointer (some ⟨B2, 0, none⟩)]) rfl) ?_
  refine WL.val Wanted.none (Runs.assign rfl) ?_
  refine WL.nil ?_
  refine QW.then_n ?_
  refine CW.ret ?_
  exact QW.ret1 rfl rfl ⟨B1, B2, rfl, st2⟩

/-! ### bits_RotateLeft32: function 30 -/
def bits_RotateLeft32.rel (a0 : Int) (a1 : Int) (r0 : Int) : Prop := (0 ≤ (bits .and .u64 (IntKind.u64.wrap a1) 31) ∧ (∃ x_2 : Int, x_2 = IntKind.u64.wrap (32 - (bits .and .u64 (IntKind.u64.wrap a1) 31)) ∧ (0 ≤ x_2 ∧ (∃ x_5 : Int, x_5 = bits .or .u32 (shlI .u32 a0 (bits .and .u64 (IntKind.u64.wrap a1) 31)) (shrI .u32 a0 x_2) ∧ r0 = x_5))))
set_option maxHeartbeats 4000000 in
set_option maxRecDepth 100000 in
theorem bits_RotateLeft32.calls (w : World) (a0 : Int) (a1 : Int)    (r0 : Int) (H : bits_RotateLeft32.rel a0 a1 r0) :
    Calls Tryd.prog 30 #[.int .u32 a0, .int .i64 a1] w fun e w' => e = .returned (.int .u32 r0) ∧ St w w' [] := by
  refine CW.enter Tryd.func30 rfl (n := 17) rfl [.int .u32 a0, .int .i64 a1] (Nat.le_of_ble_eq_true rfl) ?_
  refine CW.sub [(0, .int .u32 a0), (1, .int .i64 a1)] ⟨rfl, rfl, trivial⟩ ?_
  have st0 : St w w [] := St.refl w
  refine CW.seq ?_
  refine CW.region ?_
  refine WL.val Wanted.none (Runs.assign rfl) ?_
  refine WL.nil ?_
  refine QW.then_n ?_
  refine CW.seq ?_
  refine CW.region ?_
  refine WL.val Wanted.none (Runs.move rfl) ?_
  refine WL.val Wanted.none (Runs.conv Tryd.underlying45 ⟨_, Tryd.underlying3⟩ rfl rfl) ?_
  refine WL.val Wanted.none (Runs.band rfl rfl rfl) ?_
  refine WL.val Wanted.none (Runs.assign rfl) ?_
  refine WL.nil ?_
  refine QW.then_n ?_
  refine CW.seq ?_
  refine CW.region ?_
  refine WL.val Wanted.none (Runs.move rfl) ?_
  refine WL.val Wanted.none (Runs.move rfl) ?_
  obtain ⟨z_1, H⟩ := H
  refine WL.val Wanted.none (Runs.shl rfl rfl z_1 rfl) ?_
  refine WL.val Wanted.none (Runs.move rfl) ?_
  refine WL.val Wanted.none (Runs.move rfl) ?_
  obtain ⟨x_2, e_3, H⟩ := H
  refine WL.val Wanted.none (Runs.sub rfl rfl e_3) ?_
  obtain ⟨z_4, H⟩ := H
  refine WL.val Wanted.none (Runs.shr rfl rfl z_4 rfl) ?_
  obtain ⟨x_5, e_6, H⟩ := H
  refine WL.val Wanted.none (Runs.bor rfl rfl e_6) ?_
  refine WL.val Wanted.none (Runs.assign rfl) ?_
  refine WL.nil ?_
  refine QW.then_n ?_
  refine CW.sub [(4, .int .u32 x_5)] ⟨rfl, trivial⟩ ?_
  refine CW.ret ?_
  obtain rfl := H
  exact QW.ret1 rfl rfl ⟨rfl, st0.pick [] (by decide)⟩

/-! ### digest_right: function 28 -/
def digest_right.rel (a0 : Int) (a1 : Int) (r0 : Int) : Prop := (∃ (r_5 : Int), bits_RotateLeft32.rel a0 (IntKind.i64.wrap (0 - a1)) r_5 ∧ r0 = r_5)
set_option maxHeartbeats 4000000 in
set_option maxRecDepth 100000 in
theorem digest_right.calls (w : World) (a0 : Int) (a1 : Int)    (r0 : Int) (H : digest_right.rel a0 a1 r0) :
    Calls Tryd.prog 28 #[.int .u32 a0, .int .i64 a1] w fun e w' => e = .returned (.int .u32 r0) ∧ St w w' [] := by
  refine CW.enter Tryd.func28 rfl (n := 9) rfl [.int .u32 a0, .int .i64 a1] (Nat.le_of_ble_eq_true rfl) ?_
  refine CW.sub [(0, .int .u32 a0), (1, .int .i64 a1)] ⟨rfl, rfl, trivial⟩ ?_
  have st0 : St w w [] := St.refl w
  refine CW.seq ?_
  refine CW.region ?_
  refine WL.val Wanted.none (Runs.assign rfl) ?_
  refine WL.nil ?_
  refine QW.then_n ?_
  refine CW.seq ?_
  refine CW.region ?_
  refine WL.val Wanted.none (Runs.move rfl) ?_
  refine WL.val Wanted.none (Runs.move rfl) ?_
  refine WL.val Wanted.none (Runs.neg rfl rfl) ?_
  obtain ⟨r_5, hr_1, H⟩ := H
  refine WL.call Wanted.none ent30 rfl (bits_RotateLeft32.calls w a0 (IntKind.i64.wrap (0 - a1)) r_5 hr_1) ?_
  rintro _ w_2 ⟨rfl, sc_4⟩
  have st_3 : St w w_2 [] := st0.call sc_4
  refine ⟨_, rfl, ?_⟩
  refine WL.val Wanted.none (Runs.assign rfl) ?_
  refine WL.nil ?_
  refine QW.then_n ?_
  refine CW.sub [(4, .int .u32 r_5)] ⟨rfl, trivial⟩ ?_
  refine CW.ret ?_
  obtain rfl := H
  exact QW.ret1 rfl rfl ⟨rfl, st_3.pick [] (by decide)⟩

/-! ### digest_words: function 27 -/
def digest_words.L2 (l0 : List Int) (x_12 : Int) (K_L1 : (List Int) → Int → Prop) : Nat → (List Int) → Int → Prop
  | 0, _, _ => False
  | kL2 + 1, m_31, x_33 => ((x_33 < ((prt l0 (IntKind.i64.wrap (4 * x_12)) (IntKind.i64.wrap ((IntKind.i64.wrap (4 * x_12)) + 4))).length : Int) ∧ ((0 ≤ x_33 ∧ x_33 < ((prt l0 (IntKind.i64.wrap (4 * x_12)) (IntKind.i64.wrap ((IntKind.i64.wrap (4 * x_12)) + 4))).length : Int)) ∧ ((0 ≤ x_12 ∧ x_12 < (64 : Int)) ∧ (∃ x_45 : Int, x_45 = IntKind.u32.wrap (gn (prt l0 (IntKind.i64.wrap (4 * x_12)) (IntKind.i64.wrap ((IntKind.i64.wrap (4 * x_12)) + 4))) ((x_33).toNat)) ∧ ((0 ≤ x_12 ∧ x_12 < (64 : Int)) ∧ (∃ m_49 : List Int, m_49 = List.set m_31 ((x_12).toNat) (bits .or .u32 (shlI .u32 (gn m_31 ((x_12).toNat)) 8) x_45) ∧ digest_words.L2 l0 x_12 K_L1 kL2 m_49 (IntKind.i64.wrap (x_33 + 1)))))))) ∨ (¬ (x_33 < ((prt l0 (IntKind.i64.wrap (4 * x_12)) (IntKind.i64.wrap ((IntKind.i64.wrap (4 * x_12)) + 4))).length : Int)) ∧ K_L1 m_31 (IntKind.i64.wrap (x_12 + 1))))
def digest_words.L3 (r0 : List Int) : Nat → (List Int) → Int → Prop
  | 0, _, _ => False
  | kL3 + 1, m_55, x_57 => ((x_57 < 64 ∧ ((0 ≤ (IntKind.i64.wrap (x_57 - 15)) ∧ (IntKind.i64.wrap (x_57 - 15)) < (64 : Int)) ∧ ((0 ≤ (IntKind.i64.wrap (x_57 - 2)) ∧ (IntKind.i64.wrap (x_57 - 2)) < (64 : Int)) ∧ ((0 ≤ (IntKind.i64.wrap (x_57 - 16)) ∧ (IntKind.i64.wrap (x_57 - 16)) < (64 : Int)) ∧ (∃ (r_75 : Int), digest_right.rel (gn m_55 ((IntKind.i64.wrap (x_57 - 15)).toNat)) 7 r_75 ∧ (∃ (r_80 : Int), digest_right.rel (gn m_55 ((IntKind.i64.wrap (x_57 - 15)).toNat)) 18 r_80 ∧ (∃ x_81 : Int, x_81 = bits .xor .u32 (bits .xor .u32 r_75 r_80) (shrI .u32 (gn m_55 ((IntKind.i64.wrap (x_57 - 15)).toNat)) 3) ∧ (∃ x_83 : Int, x_83 = IntKind.u32.wrap ((gn m_55 ((IntKind.i64.wrap (x_57 - 16)).toNat)) + x_81) ∧ ((0 ≤ (IntKind.i64.wrap (x_57 - 7)) ∧ (IntKind.i64.wrap (x_57 - 7)) < (64 : Int)) ∧ (∃ x_87 : Int, x_87 = IntKind.u32.wrap (x_83 + (gn m_55 ((IntKind.i64.wrap (x_57 - 7)).toNat))) ∧ (∃ (r_93 : Int), digest_right.rel (gn m_55 ((IntKind.i64.wrap (x_57 - 2)).toNat)) 17 r_93 ∧ (∃ (r_98 : Int), digest_right.rel (gn m_55 ((IntKind.i64.wrap (x_57 - 2)).toNat)) 19 r_98 ∧ (∃ x_99 : Int, x_99 = bits .xor .u32 (bits .xor .u32 r_93 r_98) (shrI .u32 (gn m_55 ((IntKind.i64.wrap (x_57 - 2)).toNat)) 10) ∧ ((0 ≤ x_57 ∧ x_57 < (64 : Int)) ∧ (∃ m_105 : List Int, m_105 = List.set m_55 ((x_57).toNat) (IntKind.u32.wrap (x_87 + x_99)) ∧ digest_words.L3 r0 kL3 m_105 (IntKind.i64.wrap (x_57 + 1))))))))))))))))) ∨ (¬ (x_57 < 64) ∧ r0 = m_55))
def digest_words.L1 (l0 : List Int) (r0 : List Int) : Nat → (List Int) → Int → Prop
  | 0, _, _ => False
  | kL1 + 1, m_10, x_12 => ((x_12 < 16 ∧ ((0 ≤ (IntKind.i64.wrap (4 * x_12)) ∧ (IntKind.i64.wrap (4 * x_12)) ≤ (IntKind.i64.wrap ((IntKind.i64.wrap (4 * x_12)) + 4)) ∧ (IntKind.i64.wrap ((IntKind.i64.wrap (4 * x_12)) + 4)) ≤ (l0.length : Int)) ∧ (∃ k_ : Nat, digest_words.L2 l0 x_12 (digest_words.L1 l0 r0 kL1) k_ m_10 0))) ∨ (¬ (x_12 < 16) ∧ (∃ k_ : Nat, digest_words.L3 r0 k_ m_10 16)))
def digest_words.rel (l0 : List Int) (r0 : List Int) : Prop := (∃ k_ : Nat, digest_words.L1 l0 r0 k_ (List.replicate 64 (0 : Int)) 0)
set_option maxHeartbeats 4000000 in
set_option maxRecDepth 100000 in
theorem digest_words.calls (w : World) (l0 : List Int) (A0 : Option Addr) (n0 : Nat) (c0 : Nat)  (hs0 : Src w A0 (iv .u8 l0)) (hn0 : n0 = l0.length) (hc0 : n0 ≤ c0) (r0 : List Int) (H : digest_words.rel l0 r0) :
    Calls Tryd.prog 27 #[.slice A0 n0 c0] w fun e w' => r0.length = 64 ∧ e = .returned (.agg (iv .u32 r0).toArray) ∧ St w w' [] := by
  refine CW.enter Tryd.func27 rfl (n := 78) rfl [.slice A0 n0 c0] (Nat.le_of_ble_eq_true rfl) ?_
  refine CW.sub [(0, .slice A0 n0 c0)] ⟨rfl, trivial⟩ ?_
  have st0 : St w w [] := St.refl w
  refine CW.seq ?_
  refine CW.region ?_
  refine WL.alloc st0 arr58.zero ?_
  intro B_1 w_2 st_3
  replace st_3 : St w w_2 [.cells B_1 (iv .u32 (List.replicate 64 (0 : Int))) 58] := st_3
  refine WL.nil ?_
  refine QW.then_n ?_
  refine CW.seq ?_
  refine CW.region ?_
  refine WL.alloc st_3 arr58.zero ?_
  intro B_5 w_6 st_7
  replace st_7 : St w w_6 [.cells B_5 (iv .u32 (List.replicate 64 (0 : Int))) 58, .cells B_1 (iv .u32 (List.replicate 64 (0 : Int))) 58] := st_7
  refine WL.nil ?_
  refine QW.then_n ?_
  refine CW.seq ?_
  refine CW.seq ?_
  refine CW.region ?_
  refine WL.val Wanted.none (Runs.move rfl) ?_
  refine WL.nil ?_
  refine QW.then_n ?_
  refine CW.block ?_
  obtain ⟨k_9, H⟩ := H
  refine CW.sub [(0, .slice A0 n0 c0), (2, .pointer (some ⟨B_1, 0, none⟩)), (3, .pointer (some ⟨B_5, 0, none⟩)), (10, .int .i64 0)] ⟨rfl, rfl, rfl, rfl, trivial⟩ ?_
  refine CW.loop (fun kL1 l_ w_ => ∃ (m_10 : List Int) (x_12 : Int), l_ = [(0, .slice A0 n0 c0), (2, .pointer (some ⟨B_1, 0, none⟩)), (3, .pointer (some ⟨B_5, 0, none⟩)), (10, .int .i64 x_12)] ∧ digest_words.L1 l0 r0 kL1 m_10 x_12 ∧ (m_10.length = 64) ∧ St w w_ [.cells B_5 (iv .u32 m_10) 58, .cells B_1 (iv .u32 (List.replicate 64 (0 : Int))) 58]) (k := k_9) ⟨List.replicate 64 (0 : Int), 0, rfl, H, (List.length_replicate ..), st_7⟩ (fun _ _ h => by obtain ⟨_, _, _, h, _⟩ := h; exact h.elim) ?_
  rintro kL1 l_15 w_13 ⟨m_10, x_12, rfl, H, hl_11, st_14⟩
  refine CW.seq ?_
  refine CW.region ?_
  refine WL.val Wanted.none (Runs.lss rfl rfl rfl) ?_
  refine WL.nil ?_
  refine QW.then_n ?_
  refine CW.seq ?_
  rcases H with ⟨c_16, H⟩ | ⟨c_16, H⟩
  · have h_17 : (decide (x_12 < 16)) = true := (decide_eq_true c_16)
    refine CW.ct rfl h_17 ?_
    refine CW.skip ?_
    refine QW.then_n ?_
    refine CW.seq ?_
    refine CW.block ?_
    refine CW.seq ?_
    refine CW.region ?_
    refine WL.val Wanted.none (Runs.move rfl) ?_
    refine WL.val Wanted.none (Runs.assign rfl) ?_
    refine WL.nil ?_
    refine QW.then_n ?_
    refine CW.seq ?_
    refine CW.region ?_
    refine WL.val Wanted.none (Runs.move rfl) ?_
    refine WL.val Wanted.none (Runs.move rfl) ?_
    refine WL.val Wanted.none (Runs.mul rfl rfl rfl) ?_
    refine WL.val Wanted.none (Runs.move rfl) ?_
    refine WL.val Wanted.none (Runs.mul rfl rfl rfl) ?_
    refine WL.val Wanted.none (Runs.add rfl rfl rfl) ?_
    obtain ⟨⟨p_18, q_19, r_20⟩, H⟩ := H
    have h_27 : n0 ≤ c0 := hc0
    have h_28 : (IntKind.i64.wrap ((IntKind.i64.wrap (4 * x_12)) + 4)) ≤ (c0 : Int) := by have := hn0; omega
    obtain ⟨A_21, e_24⟩ : ∃ B_, B_ = subA A0 (IntKind.i64.wrap (4 * x_12)).toNat c0 := ⟨_, rfl⟩
    obtain ⟨n_23, e_26⟩ : ∃ n_ : Nat, n_ = (prt l0 (IntKind.i64.wrap (4 * x_12)) (IntKind.i64.wrap ((IntKind.i64.wrap (4 * x_12)) + 4))).length := ⟨_, rfl⟩
    obtain ⟨c_22, e_25⟩ : ∃ c_ : Nat, c_ = c0 - (IntKind.i64.wrap (4 * x_12)).toNat := ⟨_, rfl⟩
    have h_29 : n_23 ≤ c_22 := by rw [e_26, prt_length p_18 q_19 r_20]; rw [e_25]; omega
    refine WL.val Wanted.none (Runs.slice_lh Tryd.underlying22 cells5 rfl rfl rfl p_18 q_19 h_28 e_24 (N := n_23) (by rw [e_26, prt_length p_18 q_19 r_20]) e_25) ?_
    refine WL.val Wanted.none (Runs.len_sl Tryd.underlying22 rfl (by rw [e_26])) ?_
    refine WL.val Wanted.none (Runs.move rfl) ?_
    refine WL.nil ?_
    refine QW.then_n ?_
    refine CW.block ?_
    obtain ⟨k_30, H⟩ := H
    refine CW.sub [(0, .slice A0 n0 c0), (2, .pointer (some ⟨B_1, 0, none⟩)), (3, .pointer (some ⟨B_5, 0, none⟩)), (10, .int .i64 x_12), (11, .bool (decide (x_12 < 16))), (12, .int .i64 x_12), (4, .int .i64 x_12), (13, .slice A0 n0 c0), (14, .int .i64 x_12), (15, .int .i64 (IntKind.i64.wrap (4 * x_12))), (16, .int .i64 x_12), (17, .int .i64 (IntKind.i64.wrap (4 * x_12))), (18, .int .i64 (IntKind.i64.wrap ((IntKind.i64.wrap (4 * x_12)) + 4))), (19, .slice A_21 n_23 c_22), (20, .int .i64 ((prt l0 (IntKind.i64.wrap (4 * x_12)) (IntKind.i64.wrap ((IntKind.i64.wrap (4 * x_12)) + 4))).length : Int)), (21, .int .i64 0)] ⟨rfl, rfl, rfl, rfl, rfl, rfl, rfl, rfl, rfl, rfl, rfl, rfl, rfl, rfl, rfl, rfl, trivial⟩ ?_
    refine CW.loop (fun kL2 l_ w_ => ∃ (m_31 : List Int) (x_33 : Int), l_ = [(0, .slice A0 n0 c0), (2, .pointer (some ⟨B_1, 0, none⟩)), (3, .pointer (some ⟨B_5, 0, none⟩)), (10, .int .i64 x_12), (11, .bool (decide (x_12 < 16))), (12, .int .i64 x_12), (4, .int .i64 x_12), (13, .slice A0 n0 c0), (14, .int .i64 x_12), (15, .int .i64 (IntKind.i64.wrap (4 * x_12))), (16, .int .i64 x_12), (17, .int .i64 (IntKind.i64.wrap (4 * x_12))), (18, .int .i64 (IntKind.i64.wrap ((IntKind.i64.wrap (4 * x_12)) + 4))), (19, .slice A_21 n_23 c_22), (20, .int .i64 ((prt l0 (IntKind.i64.wrap (4 * x_12)) (IntKind.i64.wrap ((IntKind.i64.wrap (4 * x_12)) + 4))).length : Int)), (21, .int .i64 x_33)] ∧ digest_words.L2 l0 x_12 (digest_words.L1 l0 r0 kL1) kL2 m_31 x_33 ∧ (m_31.length = 64) ∧ St w w_ [.cells B_5 (iv .u32 m_31) 58, .cells B_1 (iv .u32 (List.replicate 64 (0 : Int))) 58]) (k := k_30) ⟨m_10, 0, rfl, H, hl_11, st_14⟩ (fun _ _ h => by obtain ⟨_, _, _, h, _⟩ := h; exact h.elim) ?_
    rintro kL2 l_36 w_34 ⟨m_31, x_33, rfl, H, hl_32, st_35⟩
    refine CW.seq ?_
    refine CW.region ?_
    refine WL.val Wanted.none (Runs.lss rfl rfl rfl) ?_
    refine WL.nil ?_
    refine QW.then_n ?_
    refine CW.seq ?_
    rcases H with ⟨c_37, H⟩ | ⟨c_37, H⟩
    · have h_38 : (decide (x_33 < ((prt l0 (IntKind.i64.wrap (4 * x_12)) (IntKind.i64.wrap ((IntKind.i64.wrap (4 * x_12)) + 4))).length : Int))) = true := (decide_eq_true c_37)
      refine CW.ct rfl h_38 ?_
      refine CW.skip ?_
      refine QW.then_n ?_
      refine CW.seq ?_
      refine CW.block ?_
      refine CW.seq ?_
      refine CW.region ?_
      obtain ⟨⟨p_39, q_40⟩, H⟩ := H
      obtain ⟨a_41, e_42⟩ := ((hs0.ext st_35).sub_iv p_18 q_19 h_28 e_24).addr_iv ((x_33).toNat) (by omega)
      refine WL.val Wanted.none (Runs.indexAddr Tryd.underlying22 cells5 (by decide) rfl e_42 rfl p_39 (by rw [e_26]; exact q_40) (o := (x_33).toNat) (by first | rfl | omega)) ?_
      refine WL.val Wanted.none (Runs.load nagg5 rfl (((hs0.ext st_35).sub_iv p_18 q_19 h_28 e_24).cell_iv e_42 (by omega))) ?_
      refine WL.val Wanted.none (Runs.assign rfl) ?_
      refine WL.nil ?_
      refine QW.then_n ?_
      refine CW.region ?_
      refine WL.val Wanted.none (Runs.move rfl) ?_
      refine WL.val Wanted.none (Runs.move rfl) ?_
      obtain ⟨⟨p_43, q_44⟩, H⟩ := H
      refine WL.val Wanted.none (Runs.indexAddr_blk arr58 rfl rfl p_43 q_44 (o := (x_12).toNat) (by first | rfl | omega)) ?_
      refine WL.val Wanted.none (Runs.load nagg46 rfl (st_35.cell_iv (i := 0) rfl (by have := hl_32; omega))) ?_
      refine WL.val Wanted.none (Runs.shl rfl rfl (by decide) rfl) ?_
      refine WL.val Wanted.none (Runs.move rfl) ?_
      obtain ⟨x_45, e_46, H⟩ := H
      refine WL.val Wanted.none (Runs.conv Tryd.underlying46 ⟨_, Tryd.underlying5⟩ rfl e_46) ?_
      refine WL.val Wanted.none (Runs.bor rfl rfl rfl) ?_
      obtain ⟨⟨p_47, q_48⟩, H⟩ := H
      refine WL.val Wanted.none (Runs.indexAddr_blk arr58 rfl rfl p_47 q_48 (o := (x_12).toNat) (by first | rfl | omega)) ?_
      obtain ⟨m_49, e_50, H⟩ := H
      have hl_53 : m_49.length = 64 := by rw [e_50, List.length_set]; exact hl_32
      refine WL.store_cells (i := 0) st_35 rfl cells46 rfl (by rw [iv_length]; have := hl_32; omega) rfl rfl ?_
      intro w_51 st_52
      have st_52' : St w w_51 [.cells B_5 (iv .u32 m_49) 58, .cells B_1 (iv .u32 (List.replicate 64 (0 : Int))) 58] := by rw [e_50, ← iv_set .u32 m_31 ((x_12).toNat) (bits .or .u32 (shlI .u32 (gn m_31 ((x_12).toNat)) 8) x_45)]; exact st_52
      refine WL.nil ?_
      refine QW.blk_n ?_
      refine QW.then_n ?_
      refine CW.region ?_
      refine WL.val Wanted.none (Runs.add rfl rfl rfl) ?_
      refine WL.val Wanted.none (Runs.move rfl) ?_
      refine WL.nil ?_
      exact QW.at [(0, .slice A0 n0 c0), (2, .pointer (some ⟨B_1, 0, none⟩)), (3, .pointer (some ⟨B_5, 0, none⟩)), (10, .int .i64 x_12), (11, .bool (decide (x_12 < 16))), (12, .int .i64 x_12), (4, .int .i64 x_12), (13, .slice A0 n0 c0), (14, .int .i64 x_12), (15, .int .i64 (IntKind.i64.wrap (4 * x_12))), (16, .int .i64 x_12), (17, .int .i64 (IntKind.i64.wrap (4 * x_12))), (18, .int .i64 (IntKind.i64.wrap ((IntKind.i64.wrap (4 * x_12)) + 4))), (19, .slice A_21 n_23 c_22), (20, .int .i64 ((prt l0 (IntKind.i64.wrap (4 * x_12)) (IntKind.i64.wrap ((IntKind.i64.wrap (4 * x_12)) + 4))).length : Int)), (21, .int .i64 (IntKind.i64.wrap (x_33 + 1)))] ⟨rfl, rfl, rfl, rfl, rfl, rfl, rfl, rfl, rfl, rfl, rfl, rfl, rfl, rfl, rfl, rfl, trivial⟩ ⟨m_49, IntKind.i64.wrap (x_33 + 1), rfl, H, hl_53, st_52'⟩
    · have h_38 : (decide (x_33 < ((prt l0 (IntKind.i64.wrap (4 * x_12)) (IntKind.i64.wrap ((IntKind.i64.wrap (4 * x_12)) + 4))).length : Int))) = false := (decide_eq_false c_37)
      refine CW.cf rfl h_38 ?_
      refine CW.exit ?_
      refine QW.then_x ?_
      refine QW.then_x ?_
      refine QW.blk_x ?_
      refine QW.blk_n ?_
      refine QW.then_n ?_
      refine CW.region ?_
      refine WL.val Wanted.none (Runs.add rfl rfl rfl) ?_
      refine WL.val Wanted.none (Runs.move rfl) ?_
      refine WL.nil ?_
      exact QW.at [(0, .slice A0 n0 c0), (2, .pointer (some ⟨B_1, 0, none⟩)), (3, .pointer (some ⟨B_5, 0, none⟩)), (10, .int .i64 (IntKind.i64.wrap (x_12 + 1)))] ⟨rfl, rfl, rfl, rfl, trivial⟩ ⟨m_31, IntKind.i64.wrap (x_12 + 1), rfl, H, hl_32, st_35⟩
  · have h_17 : (decide (x_12 < 16)) = false := (decide_eq_false c_16)
    refine CW.cf rfl h_17 ?_
    refine CW.exit ?_
    refine QW.then_x ?_
    refine QW.then_x ?_
    refine QW.blk_x ?_
    refine QW.then_n ?_
    refine CW.seq ?_
    refine CW.seq ?_
    refine CW.region ?_
    refine WL.val Wanted.none (Runs.assign rfl) ?_
    refine WL.nil ?_
    refine QW.then_n ?_
    refine CW.block ?_
    obtain ⟨k_54, H⟩ := H
    refine CW.sub [(2, .pointer (some ⟨B_1, 0, none⟩)), (3, .pointer (some ⟨B_5, 0, none⟩)), (7, .int .i64 16)] ⟨rfl, rfl, rfl, trivial⟩ ?_
    refine CW.loop (fun kL3 l_ w_ => ∃ (m_55 : List Int) (x_57 : Int), l_ = [(2, .pointer (some ⟨B_1, 0, none⟩)), (3, .pointer (some ⟨B_5, 0, none⟩)), (7, .int .i64 x_57)] ∧ digest_words.L3 r0 kL3 m_55 x_57 ∧ (m_55.length = 64) ∧ St w w_ [.cells B_5 (iv .u32 m_55) 58, .cells B_1 (iv .u32 (List.replicate 64 (0 : Int))) 58]) (k := k_54) ⟨m_10, 16, rfl, H, hl_11, st_14⟩ (fun _ _ h => by obtain ⟨_, _, _, h, _⟩ := h; exact h.elim) ?_
    rintro kL3 l_60 w_58 ⟨m_55, x_57, rfl, H, hl_56, st_59⟩
    refine CW.seq ?_
    refine CW.seq ?_
    refine CW.region ?_
    refine WL.val Wanted.none (Runs.move rfl) ?_
    refine WL.val Wanted.none (Runs.lss rfl rfl rfl) ?_
    refine WL.nil ?_
    refine QW.then_n ?_
    rcases H with ⟨c_61, H⟩ | ⟨c_61, H⟩
    · have h_62 : (decide (x_57 < 64)) = true := (decide_eq_true c_61)
      refine CW.ct rfl h_62 ?_
      refine CW.skip ?_
      refine QW.then_n ?_
      refine CW.seq ?_
      refine CW.block ?_
      refine CW.seq ?_
      refine CW.region_qa wide (by kernel_rfl) st_59 ?_
      refine HL.val Wanted.none (fun wq sq => (Runs.move rfl)) ?_
      refine HL.val Wanted.none (fun wq sq => (Runs.sub rfl rfl rfl)) ?_
      obtain ⟨⟨p_63, q_64⟩, H⟩ := H
      refine HL.val Wanted.none (fun wq sq => (Runs.indexAddr_blk arr58 rfl rfl p_63 q_64 (o := (IntKind.i64.wrap (x_57 - 15)).toNat) (by first | rfl | omega))) ?_
      refine HL.val Wanted.none (fun wq sq => (Runs.load nagg46 rfl (sq.cell_iv (i := 0) rfl (by have := hl_56; omega)))) ?_
      refine HL.val Wanted.none (fun wq sq => (Runs.move rfl)) ?_
      refine HL.val Wanted.none (fun wq sq => (Runs.sub rfl rfl rfl)) ?_
      obtain ⟨⟨p_65, q_66⟩, H⟩ := H
      refine HL.val Wanted.none (fun wq sq => (Runs.indexAddr_blk arr58 rfl rfl p_65 q_66 (o := (IntKind.i64.wrap (x_57 - 2)).toNat) (by first | rfl | omega))) ?_
      refine HL.val Wanted.none (fun wq sq => (Runs.load nagg46 rfl (sq.cell_iv (i := 0) rfl (by have := hl_56; omega)))) ?_
      refine HL.val Wanted.none (fun wq sq => (Runs.assign rfl)) ?_
      refine HL.val Wanted.none (fun wq sq => (Runs.assign rfl)) ?_
      refine HL.nil (fun w_67 st_68 => ?_)
      refine WL.nil ?_
      refine QW.then_n ?_
      refine CW.region_qt 29 wide (by kernel_rfl) st_68 ?_
      refine HL.val Wanted.none (fun wq sq => (Runs.move rfl)) ?_
      refine HL.val Wanted.none (fun wq sq => (Runs.move rfl)) ?_
      refine HL.val Wanted.none (fun wq sq => (Runs.sub rfl rfl rfl)) ?_
      obtain ⟨⟨p_69, q_70⟩, H⟩ := H
      refine HL.val Wanted.none (fun wq sq => (Runs.indexAddr_blk arr58 rfl rfl p_69 q_70 (o := (IntKind.i64.wrap (x_57 - 16)).toNat) (by first | rfl | omega))) ?_
      refine HL.val Wanted.none (fun wq sq => (Runs.load nagg46 rfl (sq.cell_iv (i := 0) rfl (by have := hl_56; omega)))) ?_
      refine HL.val Wanted.none (fun wq sq => (Runs.move rfl)) ?_
      obtain ⟨r_75, hr_71, H⟩ := H
      refine HL.call Wanted.none ent28 rfl (fun wq sq => (digest_right.calls wq (gn m_55 ((IntKind.i64.wrap (x_57 - 15)).toNat)) 7 r_75 hr_71).mono (by rintro _ _ ⟨rfl, sc⟩; exact ⟨rfl, sq.call sc⟩)) ?_
      refine HL.val Wanted.none (fun wq sq => (Runs.move rfl)) ?_
      obtain ⟨r_80, hr_76, H⟩ := H
      refine HL.call Wanted.none ent28 rfl (fun wq sq => (digest_right.calls wq (gn m_55 ((IntKind.i64.wrap (x_57 - 15)).toNat)) 18 r_80 hr_76).mono (by rintro _ _ ⟨rfl, sc⟩; exact ⟨rfl, sq.call sc⟩)) ?_
      refine HL.val Wanted.none (fun wq sq => (Runs.bxor rfl rfl rfl)) ?_
      refine HL.val Wanted.none (fun wq sq => (Runs.move rfl)) ?_
      refine HL.val Wanted.none (fun wq sq => (Runs.shr rfl rfl (by decide) rfl)) ?_
      obtain ⟨x_81, e_82, H⟩ := H
      refine HL.val Wanted.none (fun wq sq => (Runs.bxor rfl rfl e_82)) ?_
      obtain ⟨x_83, e_84, H⟩ := H
      refine HL.val Wanted.none (fun wq sq => (Runs.add rfl rfl e_84)) ?_
      refine HL.val Wanted.none (fun wq sq => (Runs.move rfl)) ?_
      refine HL.val Wanted.none (fun wq sq => (Runs.sub rfl rfl rfl)) ?_
      obtain ⟨⟨p_85, q_86⟩, H⟩ := H
      refine HL.val Wanted.none (fun wq sq => (Runs.indexAddr_blk arr58 rfl rfl p_85 q_86 (o := (IntKind.i64.wrap (x_57 - 7)).toNat) (by first | rfl | omega))) ?_
      refine HL.val Wanted.none (fun wq sq => (Runs.load nagg46 rfl (sq.cell_iv (i := 0) rfl (by have := hl_56; omega)))) ?_
      obtain ⟨x_87, e_88, H⟩ := H
      refine HL.val Wanted.none (fun wq sq => (Runs.add rfl rfl e_88)) ?_
      refine HL.val Wanted.none (fun wq sq => (Runs.move rfl)) ?_
      obtain ⟨r_93, hr_89, H⟩ := H
      refine HL.call Wanted.none ent28 rfl (fun wq sq => (digest_right.calls wq (gn m_55 ((IntKind.i64.wrap (x_57 - 2)).toNat)) 17 r_93 hr_89).mono (by rintro _ _ ⟨rfl, sc⟩; exact ⟨rfl, sq.call sc⟩)) ?_
      refine HL.val Wanted.none (fun wq sq => (Runs.move rfl)) ?_
      obtain ⟨r_98, hr_94, H⟩ := H
      refine HL.call Wanted.none ent28 rfl (fun wq sq => (digest_right.calls wq (gn m_55 ((IntKind.i64.wrap (x_57 - 2)).toNat)) 19 r_98 hr_94).mono (by rintro _ _ ⟨rfl, sc⟩; exact ⟨rfl, sq.call sc⟩)) ?_
      refine HL.val Wanted.none (fun wq sq => (Runs.bxor rfl rfl rfl)) ?_
      refine HL.val Wanted.none (fun wq sq => (Runs.move rfl)) ?_
      refine HL.val Wanted.none (fun wq sq => (Runs.shr rfl rfl (by decide) rfl)) ?_
      obtain ⟨x_99, e_100, H⟩ := H
      refine HL.val Wanted.none (fun wq sq => (Runs.bxor rfl rfl e_100)) ?_
      refine HL.val Wanted.none (fun wq sq => (Runs.add rfl rfl rfl)) ?_
      obtain ⟨⟨p_101, q_102⟩, H⟩ := H
      refine HL.val Wanted.none (fun wq sq => (Runs.indexAddr_blk arr58 rfl rfl p_101 q_102 (o := (x_57).toNat) (by first | rfl | omega))) ?_
      refine HL.nil (fun w_103 st_104 => ?_)
      obtain ⟨m_105, e_106, H⟩ := H
      have hl_109 : m_105.length = 64 := by rw [e_106, List.length_set]; exact hl_56
      refine WL.store_cells (i := 0) st_104 rfl cells46 rfl (by rw [iv_length]; have := hl_56; omega) rfl rfl ?_
      intro w_107 st_108
      have st_108' : St w w_107 [.cells B_5 (iv .u32 m_105) 58, .cells B_1 (iv .u32 (List.replicate 64 (0 : Int))) 58] := by rw [e_106, ← iv_set .u32 m_55 ((x_57).toNat) (IntKind.u32.wrap (x_87 + x_99))]; exact st_108
      refine WL.nil ?_
      refine QW.blk_n ?_
      refine QW.then_n ?_
      refine CW.region ?_
      refine WL.val Wanted.none (Runs.move rfl) ?_
      refine WL.val Wanted.none (Runs.add rfl rfl rfl) ?_
      refine WL.val Wanted.none (Runs.assign rfl) ?_
      refine WL.nil ?_
      exact QW.at [(2, .pointer (some ⟨B_1, 0, none⟩)), (3, .pointer (some ⟨B_5, 0, none⟩)), (7, .int .i64 (IntKind.i64.wrap (x_57 + 1)))] ⟨rfl, rfl, rfl, trivial⟩ ⟨m_105, IntKind.i64.wrap (x_57 + 1), rfl, H, hl_109, st_108'⟩
    · have h_62 : (decide (x_57 < 64)) = false := (decide_eq_false c_61)
      refine CW.cf rfl h_62 ?_
      refine CW.exit ?_
      refine QW.then_x ?_
      refine QW.then_x ?_
      refine QW.blk_x ?_
      refine QW.then_n ?_
      refine CW.seq ?_
      refine CW.region ?_
      refine WL.val Wanted.none (Runs.load_arr arr58 rfl (st_59.blk (i := 0) rfl) hl_56) ?_
      refine WL.store_arr (i := 1) st_59 rfl arr58 rfl (by rw [iv_length]; exact (List.length_replicate ..)) hl_56 rfl ?_
      intro w_110 st_111
      replace st_111 : St w w_110 [.cells B_5 (iv .u32 m_55) 58, .cells B_1 (iv .u32 m_55) 58] := st_111
      refine WL.nil ?_
      refine QW.then_n ?_
      refine CW.ret ?_
      obtain rfl := H
      exact QW.retc rfl arr58 rfl (st_111.blk (i := 1) rfl) hl_56 ⟨hl_56, rfl, st_111.pick [] (by decide)⟩

/-! ### digest_state_mixed: function 22 -/
def digest_state_mixed.L2 (r0 : List Int) (m_82 : List Int) : Nat → (List Int) → Int → Prop
  | 0, _, _ => False
  | kL2 + 1, m_85, x_87 => ((x_87 < 8 ∧ ((0 ≤ x_87 ∧ x_87 < (8 : Int)) ∧ ((0 ≤ x_87 ∧ x_87 < (8 : Int)) ∧ (∃ x_97 : Int, x_97 = IntKind.u32.wrap ((gn m_85 ((x_87).toNat)) + (gn m_82 ((x_87).toNat))) ∧ ((0 ≤ x_87 ∧ x_87 < (8 : Int)) ∧ (∃ m_101 : List Int, m_101 = List.set m_85 ((x_87).toNat) x_97 ∧ digest_state_mixed.L2 r0 m_82 kL2 m_101 (IntKind.i64.wrap (x_87 + 1)))))))) ∨ (¬ (x_87 < 8) ∧ r0 = m_85))
def digest_state_mixed.L1 (l0 : List Int) (r0 : List Int) (r_15 : List Int) : Nat → Int → Int → Int → Int → Int → Int → Int → Int → Int → Prop
  | 0, _, _, _, _, _, _, _, _, _ => False
  | kL1 + 1, x_18, x_19, x_20, x_21, x_22, x_23, x_24, x_25, x_26 => ((x_26 < 64 ∧ ((0 ≤ x_26 ∧ x_26 < (64 : Int)) ∧ (∃ (r_38 : Int), digest_right.rel x_22 6 r_38 ∧ (∃ (r_43 : Int), digest_right.rel x_22 11 r_43 ∧ (∃ (r_48 : Int), digest_right.rel x_22 25 r_48 ∧ (∃ x_49 : Int, x_49 = IntKind.u32.wrap (x_25 + (bits .xor .u32 (bits .xor .u32 r_38 r_43) r_48)) ∧ (∃ x_51 : Int, x_51 = bits .xor .u32 (bits .and .u32 x_22 x_23) (bits .and .u32 (notI .u32 x_22) x_24) ∧ ((0 ≤ x_26 ∧ x_26 < (64 : Int)) ∧ (∃ x_55 : Int, x_55 = IntKind.u32.wrap ((IntKind.u32.wrap (x_49 + x_51)) + (gn tab0 ((x_26).toNat))) ∧ (∃ (r_63 : Int), digest_right.rel x_18 2 r_63 ∧ (∃ (r_68 : Int), digest_right.rel x_18 13 r_68 ∧ (∃ (r_73 : Int), digest_right.rel x_18 22 r_73 ∧ (∃ x_74 : Int, x_74 = bits .xor .u32 (bits .and .u32 x_18 x_19) (bits .and .u32 x_18 x_20) ∧ (∃ x_76 : Int, x_76 = IntKind.u32.wrap ((bits .xor .u32 (bits .xor .u32 r_63 r_68) r_73) + (bits .xor .u32 x_74 (bits .and .u32 x_19 x_20))) ∧ (∃ x_78 : Int, x_78 = IntKind.u32.wrap (x_21 + (IntKind.u32.wrap (x_55 + (gn r_15 ((x_26).toNat))))) ∧ (∃ x_80 : Int, x_80 = IntKind.u32.wrap ((IntKind.u32.wrap (x_55 + (gn r_15 ((x_26).toNat)))) + x_76) ∧ digest_state_mixed.L1 l0 r0 r_15 kL1 x_80 x_18 x_19 x_20 x_78 x_22 x_23 x_24 (IntKind.i64.wrap (x_26 + 1)))))))))))))))))) ∨ (¬ (x_26 < 64) ∧ (∃ m_82 : List Int, m_82 = [x_18, x_19, x_20, x_21, x_22, x_23, x_24, x_25] ∧ (∃ k_ : Nat, digest_state_mixed.L2 r0 m_82 k_ l0 0))))
def digest_state_mixed.rel (l0 : List Int) (l1 : List Int) (r0 : List Int) : Prop := (∃ (r_15 : List Int), digest_words.rel l1 r_15 ∧ (∃ k_ : Nat, digest_state_mixed.L1 l0 r0 r_15 k_ (gn l0 0) (gn l0 1) (gn l0 2) (gn l0 3) (gn l0 4) (gn l0 5) (gn l0 6) (gn l0 7) 0))
set_option maxHeartbeats 4000000 in
set_option maxRecDepth 100000 in
theorem digest_state_mixed.calls (w : World) (l0 : List Int) (l1 : List Int) (A1 : Option Addr) (n1 : Nat) (c1 : Nat)  (hG0 : Src w (some ⟨0, 0, none⟩) (iv .u32 tab0)) (hl0 : l0.length = 8) (hs1 : Src w A1 (iv .u8 l1)) (hn1 : n1 = l1.length) (hc1 : n1 ≤ c1) (r0 : List Int) (H : digest_state_mixed.rel l0 l1 r0) :
    Calls Tryd.prog 22 #[.agg (iv .u32 l0).toArray, .slice A1 n1 c1] w fun e w' => r0.length = 8 ∧ e = .returned (.agg (iv .u32 r0).toArray) ∧ St w w' [] := by
  refine CW.enter Tryd.func22 rfl (n := 120) rfl [.agg (iv .u32 l0).toArray, .slice A1 n1 c1] (Nat.le_of_ble_eq_true rfl) ?_
  refine CW.sub [(0, .agg (iv .u32 l0).toArray), (1, .slice A1 n1 c1)] ⟨rfl, rfl, trivial⟩ ?_
  have st0 : St w w [] := St.refl w
  refine CW.seq ?_
  refine CW.region ?_
  refine WL.box st0 rfl rfl ?_
  intro B_1 w_2 st_3
  replace st_3 : St w w_2 [.cells B_1 (iv .u32 l0) 50] := st_3
  refine WL.alloc st_3 arr50.zero ?_
  intro B_5 w_6 st_7
  replace st_7 : St w w_6 [.cells B_5 (iv .u32 (List.replicate 8 (0 : Int))) 50, .cells B_1 (iv .u32 l0) 50] := st_7
  refine WL.nil ?_
  refine QW.then_n ?_
  refine CW.seq ?_
  refine CW.region_qa wide (by kernel_rfl) st_7 ?_
  refine HL.val Wanted.none (fun wq sq => (Runs.indexAddr_blk arr50 rfl rfl (by decide) (by decide) (o := 0) (by first | rfl | omega))) ?_
  refine HL.val Wanted.none (fun wq sq => (Runs.load nagg46 rfl (sq.cell_iv (i := 1) rfl (by have := hl0; omega)))) ?_
  refine HL.val Wanted.none (fun wq sq => (Runs.indexAddr_blk arr50 rfl rfl (by decide) (by decide) (o := 1) (by first | rfl | omega))) ?_
  refine HL.val Wanted.none (fun wq sq => (Runs.load nagg46 rfl (sq.cell_iv (i := 1) rfl (by have := hl0; omega)))) ?_
  refine HL.val Wanted.none (fun wq sq => (Runs.indexAddr_blk arr50 rfl rfl (by decide) (by decide) (o := 2) (by first | rfl | omega))) ?_
  refine HL.val Wanted.none (fun wq sq => (Runs.load nagg46 rfl (sq.cell_iv (i := 1) rfl (by have := hl0; omega)))) ?_
  refine HL.val Wanted.none (fun wq sq => (Runs.indexAddr_blk arr50 rfl rfl (by decide) (by decide) (o := 3) (by first | rfl | omega))) ?_
  refine HL.val Wanted.none (fun wq sq => (Runs.load nagg46 rfl (sq.cell_iv (i := 1) rfl (by have := hl0; omega)))) ?_
  refine HL.val Wanted.none (fun wq sq => (Runs.indexAddr_blk arr50 rfl rfl (by decide) (by decide) (o := 4) (by first | rfl | omega))) ?_
  refine HL.val Wanted.none (fun wq sq => (Runs.load nagg46 rfl (sq.cell_iv (i := 1) rfl (by have := hl0; omega)))) ?_
  refine HL.val Wanted.none (fun wq sq => (Runs.indexAddr_blk arr50 rfl rfl (by decide) (by decide) (o := 5) (by first | rfl | omega))) ?_
  refine HL.val Wanted.none (fun wq sq => (Runs.load nagg46 rfl (sq.cell_iv (i := 1) rfl (by have := hl0; omega)))) ?_
  refine HL.val Wanted.none (fun wq sq => (Runs.indexAddr_blk arr50 rfl rfl (by decide) (by decide) (o := 6) (by first | rfl | omega))) ?_
  refine HL.val Wanted.none (fun wq sq => (Runs.load nagg46 rfl (sq.cell_iv (i := 1) rfl (by have := hl0; omega)))) ?_
  refine HL.val Wanted.none (fun wq sq => (Runs.indexAddr_blk arr50 rfl rfl (by decide) (by decide) (o := 7) (by first | rfl | omega))) ?_
  refine HL.val Wanted.none (fun wq sq => (Runs.load nagg46 rfl (sq.cell_iv (i := 1) rfl (by have := hl0; omega)))) ?_
  refine HL.val Wanted.none (fun wq sq => (Runs.assign rfl)) ?_
  refine HL.val Wanted.none (fun wq sq => (Runs.assign rfl)) ?_
  refine HL.val Wanted.none (fun wq sq => (Runs.assign rfl)) ?_
  refine HL.val Wanted.none (fun wq sq => (Runs.assign rfl)) ?_
  refine HL.val Wanted.none (fun wq sq => (Runs.assign rfl)) ?_
  refine HL.val Wanted.none (fun wq sq => (Runs.assign rfl)) ?_
  refine HL.val Wanted.none (fun wq sq => (Runs.assign rfl)) ?_
  refine HL.val Wanted.none (fun wq sq => (Runs.assign rfl)) ?_
  refine HL.nil (fun w_9 st_10 => ?_)
  refine WL.nil ?_
  refine QW.then_n ?_
  refine CW.sub [(1, .slice A1 n1 c1), (2, .pointer (some ⟨B_1, 0, none⟩)), (4, .pointer (some ⟨B_5, 0, none⟩)), (5, .int .u32 (gn l0 0)), (6, .int .u32 (gn l0 1)), (7, .int .u32 (gn l0 2)), (8, .int .u32 (gn l0 3)), (9, .int .u32 (gn l0 4)), (10, .int .u32 (gn l0 5)), (11, .int .u32 (gn l0 6)), (12, .int .u32 (gn l0 7))] ⟨rfl, rfl, rfl, rfl, rfl, rfl, rfl, rfl, rfl, rfl, rfl, trivial⟩ ?_
  refine CW.seq ?_
  refine CW.seq ?_
  refine CW.region ?_
  refine WL.val Wanted.none (Runs.move rfl) ?_
  obtain ⟨r_15, hr_11, H⟩ := H
  refine WL.call Wanted.none ent27 rfl (digest_words.calls w_9 l1 A1 n1 c1 (hs1.ext st_10) (hn1) (hc1) r_15 hr_11) ?_
  rintro _ w_12 ⟨hl_16, rfl, sc_14⟩
  have st_13 : St w w_12 [.cells B_5 (iv .u32 (List.replicate 8 (0 : Int))) 50, .cells B_1 (iv .u32 l0) 50] := st_10.call sc_14
  refine ⟨_, rfl, ?_⟩
  refine WL.val Wanted.none (Runs.move rfl) ?_
  refine WL.nil ?_
  refine QW.then_n ?_
  refine CW.block ?_
  obtain ⟨k_17, H⟩ := H
  refine CW.sub [(2, .pointer (some ⟨B_1, 0, none⟩)), (4, .pointer (some ⟨B_5, 0, none⟩)), (5, .int .u32 (gn l0 0)), (6, .int .u32 (gn l0 1)), (7, .int .u32 (gn l0 2)), (8, .int .u32 (gn l0 3)), (9, .int .u32 (gn l0 4)), (10, .int .u32 (gn l0 5)), (11, .int .u32 (gn l0 6)), (12, .int .u32 (gn l0 7)), (36, .agg (iv .u32 r_15).toArray), (37, .int .i64 0)] ⟨rfl, rfl, rfl, rfl, rfl, rfl, rfl, rfl, rfl, rfl, rfl, rfl, trivial⟩ ?_
  refine CW.loop (fun kL1 l_ w_ => ∃ (x_18 : Int) (x_19 : Int) (x_20 : Int) (x_21 : Int) (x_22 : Int) (x_23 : Int) (x_24 : Int) (x_25 : Int) (x_26 : Int), l_ = [(2, .pointer (some ⟨B_1, 0, none⟩)), (4, .pointer (some ⟨B_5, 0, none⟩)), (5, .int .u32 x_18), (6, .int .u32 x_19), (7, .int .u32 x_20), (8, .int .u32 x_21), (9, .int .u32 x_22), (10, .int .u32 x_23), (11, .int .u32 x_24), (12, .int .u32 x_25), (36, .agg (iv .u32 r_15).toArray), (37, .int .i64 x_26)] ∧ digest_state_mixed.L1 l0 r0 r_15 kL1 x_18 x_19 x_20 x_21 x_22 x_23 x_24 x_25 x_26 ∧ St w w_ [.cells B_5 (iv .u32 (List.replicate 8 (0 : Int))) 50, .cells B_1 (iv .u32 l0) 50]) (k := k_17) ⟨gn l0 0, gn l0 1, gn l0 2, gn l0 3, gn l0 4, gn l0 5, gn l0 6, gn l0 7, 0, rfl, H, st_13⟩ (fun _ _ h => by obtain ⟨_, _, _, _, _, _, _, _, _, _, h, _⟩ := h; exact h.elim) ?_
  rintro kL1 l_29 w_27 ⟨x_18, x_19, x_20, x_21, x_22, x_23, x_24, x_25, x_26, rfl, H, st_28⟩
  refine CW.seq ?_
  refine CW.region ?_
  refine WL.val Wanted.none (Runs.lss rfl rfl rfl) ?_
  refine WL.nil ?_
  refine QW.then_n ?_
  refine CW.seq ?_
  rcases H with ⟨c_30, H⟩ | ⟨c_30, H⟩
  · have h_31 : (decide (x_26 < 64)) = true := (decide_eq_true c_30)
    refine CW.ct rfl h_31 ?_
    refine CW.skip ?_
    refine QW.then_n ?_
    refine CW.seq ?_
    refine CW.block ?_
    refine CW.seq ?_
    refine CW.region ?_
    refine WL.val Wanted.none (Runs.move rfl) ?_
    obtain ⟨⟨p_32, q_33⟩, H⟩ := H
    refine WL.val Wanted.none (Runs.index_arr arr58 rfl hl_16 rfl p_32 q_33 (j := (x_26).toNat) (by first | rfl | omega)) ?_
    refine WL.val Wanted.none (Runs.assign rfl) ?_
    refine WL.val Wanted.none (Runs.assign rfl) ?_
    refine WL.nil ?_
    refine QW.then_n ?_
    refine CW.seq ?_
    refine CW.region_qa wide (by kernel_rfl) st_28 ?_
    refine HL.val Wanted.none (fun wq sq => (Runs.move rfl)) ?_
    refine HL.val Wanted.none (fun wq sq => (Runs.move rfl)) ?_
    obtain ⟨r_38, hr_34, H⟩ := H
    refine HL.call Wanted.none ent28 rfl (fun wq sq => (digest_right.calls wq x_22 6 r_38 hr_34).mono (by rintro _ _ ⟨rfl, sc⟩; exact ⟨rfl, sq.call sc⟩)) ?_
    refine HL.val Wanted.none (fun wq sq => (Runs.move rfl)) ?_
    obtain ⟨r_43, hr_39, H⟩ := H
    refine HL.call Wanted.none ent28 rfl (fun wq sq => (digest_right.calls wq x_22 11 r_43 hr_39).mono (by rintro _ _ ⟨rfl, sc⟩; exact ⟨rfl, sq.call sc⟩)) ?_
    refine HL.val Wanted.none (fun wq sq => (Runs.bxor rfl rfl rfl)) ?_
    refine HL.val Wanted.none (fun wq sq => (Runs.move rfl)) ?_
    obtain ⟨r_48, hr_44, H⟩ := H
    refine HL.call Wanted.none ent28 rfl (fun wq sq => (digest_right.calls wq x_22 25 r_48 hr_44).mono (by rintro _ _ ⟨rfl, sc⟩; exact ⟨rfl, sq.call sc⟩)) ?_
    refine HL.val Wanted.none (fun wq sq => (Runs.bxor rfl rfl rfl)) ?_
    obtain ⟨x_49, e_50, H⟩ := H
    refine HL.val Wanted.none (fun wq sq => (Runs.add rfl rfl e_50)) ?_
    refine HL.val Wanted.none (fun wq sq => (Runs.move rfl)) ?_
    refine HL.val Wanted.none (fun wq sq => (Runs.move rfl)) ?_
    refine HL.val Wanted.none (fun wq sq => (Runs.band rfl rfl rfl)) ?_
    refine HL.val Wanted.none (fun wq sq => (Runs.move rfl)) ?_
    refine HL.val Wanted.none (fun wq sq => (Runs.compl rfl rfl)) ?_
    refine HL.val Wanted.none (fun wq sq => (Runs.move rfl)) ?_
    refine HL.val Wanted.none (fun wq sq => (Runs.band rfl rfl rfl)) ?_
    obtain ⟨x_51, e_52, H⟩ := H
    refine HL.val Wanted.none (fun wq sq => (Runs.bxor rfl rfl e_52)) ?_
    refine HL.val Wanted.none (fun wq sq => (Runs.add rfl rfl rfl)) ?_
    refine HL.val Wanted.none (fun wq sq => (Runs.move rfl)) ?_
    obtain ⟨⟨p_53, q_54⟩, H⟩ := H
    refine HL.val Wanted.none (fun wq sq => (Runs.indexAddr_glob arr58 rfl p_53 q_54 (o := (x_26).toNat) (by first | rfl | omega))) ?_
    refine HL.val Wanted.none (fun wq sq => (Runs.load nagg46 rfl ((hG0.ext sq).cell_iv rfl (by rw [tab0_len]; omega)))) ?_
    obtain ⟨x_55, e_56, H⟩ := H
    refine HL.val Wanted.none (fun wq sq => (Runs.add rfl rfl e_56)) ?_
    refine HL.val Wanted.none (fun wq sq => (Runs.move rfl)) ?_
    refine HL.val Wanted.none (fun wq sq => (Runs.add rfl rfl rfl)) ?_
    refine HL.val Wanted.none (fun wq sq => (Runs.assign rfl)) ?_
    refine HL.nil (fun w_57 st_58 => ?_)
    refine WL.nil ?_
    refine QW.then_n ?_
    refine CW.seq ?_
    refine CW.region ?_
    refine WL.val Wanted.none (Runs.move rfl) ?_
    obtain ⟨r_63, hr_59, H⟩ := H
    refine WL.call Wanted.none ent28 rfl (digest_right.calls w_57 x_18 2 r_63 hr_59) ?_
    rintro _ w_60 ⟨rfl, sc_62⟩
    have st_61 : St w w_60 [.cells B_5 (iv .u32 (List.replicate 8 (0 : Int))) 50, .cells B_1 (iv .u32 l0) 50] := st_58.call sc_62
    refine ⟨_, rfl, ?_⟩
    refine WL.val Wanted.none (Runs.move rfl) ?_
    obtain ⟨r_68, hr_64, H⟩ := H
    refine WL.call Wanted.none ent28 rfl (digest_right.calls w_60 x_18 13 r_68 hr_64) ?_
    rintro _ w_65 ⟨rfl, sc_67⟩
    have st_66 : St w w_65 [.cells B_5 (iv .u32 (List.replicate 8 (0 : Int))) 50, .cells B_1 (iv .u32 l0) 50] := st_61.call sc_67
    refine ⟨_, rfl, ?_⟩
    refine WL.val Wanted.none (Runs.bxor rfl rfl rfl) ?_
    refine WL.val Wanted.none (Runs.move rfl) ?_
    obtain ⟨r_73, hr_69, H⟩ := H
    refine WL.call Wanted.none ent28 rfl (digest_right.calls w_65 x_18 22 r_73 hr_69) ?_
    rintro _ w_70 ⟨rfl, sc_72⟩
    have st_71 : St w w_70 [.cells B_5 (iv .u32 (List.replicate 8 (0 : Int))) 50, .cells B_1 (iv .u32 l0) 50] := st_66.call sc_72
    refine ⟨_, rfl, ?_⟩
    refine WL.val Wanted.none (Runs.bxor rfl rfl rfl) ?_
    refine WL.val Wanted.none (Runs.move rfl) ?_
    refine WL.val Wanted.none (Runs.move rfl) ?_
    refine WL.val Wanted.none (Runs.band rfl rfl rfl) ?_
    refine WL.val Wanted.none (Runs.move rfl) ?_
    refine WL.val Wanted.none (Runs.move rfl) ?_
    refine WL.val Wanted.none (Runs.band rfl rfl rfl) ?_
    obtain ⟨x_74, e_75, H⟩ := H
    refine WL.val Wanted.none (Runs.bxor rfl rfl e_75) ?_
    refine WL.val Wanted.none (Runs.move rfl) ?_
    refine WL.val Wanted.none (Runs.move rfl) ?_
    refine WL.val Wanted.none (Runs.band rfl rfl rfl) ?_
    refine WL.val Wanted.none (Runs.bxor rfl rfl rfl) ?_
    obtain ⟨x_76, e_77, H⟩ := H
    refine WL.val Wanted.none (Runs.add rfl rfl e_77) ?_
    refine WL.val Wanted.none (Runs.assign rfl) ?_
    refine WL.nil ?_
    refine QW.then_n ?_
    refine CW.region ?_
    refine WL.val Wanted.none (Runs.move rfl) ?_
    refine WL.val Wanted.none (Runs.move rfl) ?_
    refine WL.val Wanted.none (Runs.move rfl) ?_
    refine WL.val Wanted.none (Runs.move rfl) ?_
    refine WL.val Wanted.none (Runs.move rfl) ?_
    obtain ⟨x_78, e_79, H⟩ := H
    refine WL.val Wanted.none (Runs.add rfl rfl e_79) ?_
    refine WL.val Wanted.none (Runs.move rfl) ?_
    refine WL.val Wanted.none (Runs.move rfl) ?_
    refine WL.val Wanted.none (Runs.move rfl) ?_
    refine WL.val Wanted.none (Runs.move rfl) ?_
    refine WL.val Wanted.none (Runs.move rfl) ?_
    obtain ⟨x_80, e_81, H⟩ := H
    refine WL.val Wanted.none (Runs.add rfl rfl e_81) ?_
    refine WL.val Wanted.none (Runs.assign rfl) ?_
    refine WL.val Wanted.none (Runs.assign rfl) ?_
    refine WL.val Wanted.none (Runs.assign rfl) ?_
    refine WL.val Wanted.none (Runs.assign rfl) ?_
    refine WL.val Wanted.none (Runs.assign rfl) ?_
    refine WL.val Wanted.none (Runs.assign rfl) ?_
    refine WL.val Wanted.none (Runs.assign rfl) ?_
    refine WL.val Wanted.none (Runs.assign rfl) ?_
    refine WL.nil ?_
    refine QW.blk_n ?_
    refine QW.then_n ?_
    refine CW.region ?_
    refine WL.val Wanted.none (Runs.add rfl rfl rfl) ?_
    refine WL.val Wanted.none (Runs.move rfl) ?_
    refine WL.nil ?_
    exact QW.at [(2, .pointer (some ⟨B_1, 0, none⟩)), (4, .pointer (some ⟨B_5, 0, none⟩)), (5, .int .u32 x_80), (6, .int .u32 x_18), (7, .int .u32 x_19), (8, .int .u32 x_20), (9, .int .u32 x_78), (10, .int .u32 x_22), (11, .int .u32 x_23), (12, .int .u32 x_24), (36, .agg (iv .u32 r_15).toArray), (37, .int .i64 (IntKind.i64.wrap (x_26 + 1)))] ⟨rfl, rfl, rfl, rfl, rfl, rfl, rfl, rfl, rfl, rfl, rfl, rfl, trivial⟩ ⟨x_80, x_18, x_19, x_20, x_78, x_22, x_23, x_24, IntKind.i64.wrap (x_26 + 1), rfl, H, st_71⟩
  · have h_31 : (decide (x_26 < 64)) = false := (decide_eq_false c_30)
    refine CW.cf rfl h_31 ?_
    refine CW.exit ?_
    refine QW.then_x ?_
    refine QW.then_x ?_
    refine QW.blk_x ?_
    refine QW.then_n ?_
    refine CW.seq ?_
    refine CW.seq ?_
    refine CW.region ?_
    refine WL.val Wanted.none (Runs.move rfl) ?_
    refine WL.val Wanted.none (Runs.move rfl) ?_
    refine WL.val Wanted.none (Runs.move rfl) ?_
    refine WL.val Wanted.none (Runs.move rfl) ?_
    refine WL.val Wanted.none (Runs.move rfl) ?_
    refine WL.val Wanted.none (Runs.move rfl) ?_
    refine WL.val Wanted.none (Runs.move rfl) ?_
    refine WL.val Wanted.none (Runs.move rfl) ?_
    obtain ⟨m_82, e_83, H⟩ := H
    refine WL.val Wanted.none (Runs.build_arr (xs := m_82) arr47 rfl rfl (by rw [e_83]; rfl)) ?_
    refine WL.val Wanted.none (Runs.move rfl) ?_
    refine WL.nil ?_
    refine QW.then_n ?_
    refine CW.sub [(2, .pointer (some ⟨B_1, 0, none⟩)), (4, .pointer (some ⟨B_5, 0, none⟩)), (107, .agg (iv .u32 m_82).toArray), (108, .int .i64 0)] ⟨rfl, rfl, rfl, rfl, trivial⟩ ?_
    refine CW.block ?_
    obtain ⟨k_84, H⟩ := H
    refine CW.sub [(2, .pointer (some ⟨B_1, 0, none⟩)), (4, .pointer (some ⟨B_5, 0, none⟩)), (107, .agg (iv .u32 m_82).toArray), (108, .int .i64 0)] ⟨rfl, rfl, rfl, rfl, trivial⟩ ?_
    refine CW.loop (fun kL2 l_ w_ => ∃ (m_85 : List Int) (x_87 : Int), l_ = [(2, .pointer (some ⟨B_1, 0, none⟩)), (4, .pointer (some ⟨B_5, 0, none⟩)), (107, .agg (iv .u32 m_82).toArray), (108, .int .i64 x_87)] ∧ digest_state_mixed.L2 r0 m_82 kL2 m_85 x_87 ∧ (m_85.length = 8) ∧ St w w_ [.cells B_5 (iv .u32 (List.replicate 8 (0 : Int))) 50, .cells B_1 (iv .u32 m_85) 50]) (k := k_84) ⟨l0, 0, rfl, H, hl0, st_28⟩ (fun _ _ h => by obtain ⟨_, _, _, h, _⟩ := h; exact h.elim) ?_
    rintro kL2 l_90 w_88 ⟨m_85, x_87, rfl, H, hl_86, st_89⟩
    refine CW.seq ?_
    refine CW.region ?_
    refine WL.val Wanted.none (Runs.lss rfl rfl rfl) ?_
    refine WL.nil ?_
    refine QW.then_n ?_
    refine CW.seq ?_
    rcases H with ⟨c_91, H⟩ | ⟨c_91, H⟩
    · have h_92 : (decide (x_87 < 8)) = true := (decide_eq_true c_91)
      refine CW.ct rfl h_92 ?_
      refine CW.skip ?_
      refine QW.then_n ?_
      refine CW.seq ?_
      refine CW.block ?_
      refine CW.seq ?_
      refine CW.region ?_
      refine WL.val Wanted.none (Runs.move rfl) ?_
      obtain ⟨⟨p_93, q_94⟩, H⟩ := H
      refine WL.val Wanted.none (Runs.index_arr arr47 rfl (by rw [e_83]; rfl) rfl p_93 q_94 (j := (x_87).toNat) (by first | rfl | omega)) ?_
      refine WL.val Wanted.none (Runs.assign rfl) ?_
      refine WL.val Wanted.none (Runs.assign rfl) ?_
      refine WL.nil ?_
      refine QW.then_n ?_
      refine CW.region ?_
      refine WL.val Wanted.none (Runs.move rfl) ?_
      obtain ⟨⟨p_95, q_96⟩, H⟩ := H
      refine WL.val Wanted.none (Runs.indexAddr_blk arr50 rfl rfl p_95 q_96 (o := (x_87).toNat) (by first | rfl | omega)) ?_
      refine WL.val Wanted.none (Runs.load nagg46 rfl (st_89.cell_iv (i := 1) rfl (by have := hl_86; omega))) ?_
      refine WL.val Wanted.none (Runs.move rfl) ?_
      obtain ⟨x_97, e_98, H⟩ := H
      refine WL.val Wanted.none (Runs.add rfl rfl e_98) ?_
      obtain ⟨⟨p_99, q_100⟩, H⟩ := H
      refine WL.val Wanted.none (Runs.indexAddr_blk arr50 rfl rfl p_99 q_100 (o := (x_87).toNat) (by first | rfl | omega)) ?_
      obtain ⟨m_101, e_102, H⟩ := H
      have hl_105 : m_101.length = 8 := by rw [e_102, List.length_set]; exact hl_86
      refine WL.store_cells (i := 1) st_89 rfl cells46 rfl (by rw [iv_length]; have := hl_86; omega) rfl rfl ?_
      intro w_103 st_104
      have st_104' : St w w_103 [.cells B_5 (iv .u32 (List.replicate 8 (0 : Int))) 50, .cells B_1 (iv .u32 m_101) 50] := by rw [e_102, ← iv_set .u32 m_85 ((x_87).toNat) x_97]; exact st_104
      refine WL.nil ?_
      refine QW.blk_n ?_
      refine QW.then_n ?_
      refine CW.region ?_
      refine WL.val Wanted.none (Runs.add rfl rfl rfl) ?_
      refine WL.val Wanted.none (Runs.move rfl) ?_
      refine WL.nil ?_
      exact QW.at [(2, .pointer (some ⟨B_1, 0, none⟩)), (4, .pointer (some ⟨B_5, 0, none⟩)), (107, .agg (iv .u32 m_82).toArray), (108, .int .i64 (IntKind.i64.wrap (x_87 + 1)))] ⟨rfl, rfl, rfl, rfl, trivial⟩ ⟨m_101, IntKind.i64.wrap (x_87 + 1), rfl, H, hl_105, st_104'⟩
    · have h_92 : (decide (x_87 < 8)) = false := (decide_eq_false c_91)
      refine CW.cf rfl h_92 ?_
      refine CW.exit ?_
      refine QW.then_x ?_
      refine QW.then_x ?_
      refine QW.blk_x ?_
      refine QW.then_n ?_
      refine CW.seq ?_
      refine CW.region ?_
      refine WL.val Wanted.none (Runs.load_arr arr50 rfl (st_89.blk (i := 1) rfl) hl_86) ?_
      refine WL.store_arr (i := 0) st_89 rfl arr50 rfl (by rw [iv_length]; exact (List.length_replicate ..)) hl_86 rfl ?_
      intro w_106 st_107
      replace st_107 : St w w_106 [.cells B_5 (iv .u32 m_85) 50, .cells B_1 (iv .u32 m_85) 50] := st_107
      refine WL.nil ?_
      refine QW.then_n ?_
      refine CW.ret ?_
      obtain rfl := H
      exact QW.retc rfl arr50 rfl (st_107.blk (i := 0) rfl) hl_86 ⟨hl_86, rfl, st_107.pick [] (by decide)⟩

/-! ### digest_Of: function 14 -/
def digest_Of.L3 (r0 : List Int) (s_126 : List Int) : Nat → (List Int) → Int → Prop
  | 0, _, _ => False
  | kL3 + 1, m_137, x_139 => ((x_139 < 32 ∧ ((0 ≤ (IntKind.i64.wrap (Int.tdiv x_139 4)) ∧ (IntKind.i64.wrap (Int.tdiv x_139 4)) < (8 : Int)) ∧ (∃ x_147 : Int, x_147 = IntKind.i64.wrap (24 - (IntKind.i64.wrap ((Int.tmod x_139 4) * 8))) ∧ (0 ≤ x_147 ∧ (∃ x_150 : Int, x_150 = shrI .u32 (gn s_126 ((IntKind.i64.wrap (Int.tdiv x_139 4)).toNat)) x_147 ∧ ((0 ≤ x_139 ∧ x_139 < (32 : Int)) ∧ (∃ m_154 : List Int, m_154 = List.set m_137 ((x_139).toNat) (IntKind.u8.wrap x_150) ∧ digest_Of.L3 r0 s_126 kL3 m_154 (IntKind.i64.wrap (x_139 + 1))))))))) ∨ (¬ (x_139 < 32) ∧ r0 = m_137))
def digest_Of.L2 (l0 : List Int) (r0 : List Int) : Nat → (List Int) → Int → Prop
  | 0, _, _ => False
  | kL2 + 1, l_55, x_58 => ((x_58 ≥ 0 ∧ (0 ≤ x_58 ∧ (∃ x_65 : Int, x_65 = shrI .u64 (IntKind.u64.wrap (8 * (IntKind.u64.wrap (l0.length : Int)))) x_58 ∧ (∃ m_71 : List Int, m_71 = l_55 ++ [IntKind.u8.wrap x_65] ∧ (m_71.length ≤ 1099511627776 ∧ digest_Of.L2 l0 r0 kL2 m_71 (IntKind.i64.wrap (x_58 - 8))))))) ∨ (¬ (x_58 ≥ 0) ∧ (∃ (r_84 : List Int), digest_first.rel  r_84 ∧ (∃ (q_100 : Nat), (l_55.length ≤ 64 * q_100 ∧ (∀ j : Nat, j < q_100 → 64 * j < l_55.length) ∧ l_55.length ≤ 1099511627776) ∧ ∃ (Inv_101 : List Int → Prop) (g_102 : Nat → List Int → List Int), Inv_101 r_84 ∧ (∀ (x_108 : Nat) (s_109 : List Int), x_108 < q_100 → Inv_101 s_109 → s_109.length = 8 → (∃ (r_119 : List Int), digest_state_mixed.rel s_109 (chl l_55 64 x_108) r_119 ∧ (Inv_101 r_119 ∧ r_119 = g_102 x_108 s_109))) ∧ ∃ s_126 : List Int, s_126 = (List.range q_100).foldl (fun s_ x_ => g_102 x_ s_) r_84 ∧ (∃ k_ : Nat, digest_Of.L3 r0 s_126 k_ (List.replicate 32 (0 : Int)) 0)))))
def digest_Of.L1 (l0 : List Int) (r0 : List Int) : Nat → (List Int) → Prop
  | 0, _ => False
  | kL1 + 1, l_31 => (((Int.tmod (l_31.length : Int) 64) ≠ 56 ∧ (∃ m_43 : List Int, m_43 = l_31 ++ [0] ∧ (m_43.length ≤ 1099511627776 ∧ digest_Of.L1 l0 r0 kL1 m_43))) ∨ (¬ ((Int.tmod (l_31.length : Int) 64) ≠ 56) ∧ (∃ k_ : Nat, digest_Of.L2 l0 r0 k_ l_31 56)))
def digest_Of.rel (l0 : List Int) (r0 : List Int) : Prop := (∃ (r_9 : List Int), slices_Clone_s_byte_byte.rel l0 r_9 ∧ (∃ m_19 : List Int, m_19 = r_9 ++ [128] ∧ (m_19.length ≤ 1099511627776 ∧ (∃ k_ : Nat, digest_Of.L1 l0 r0 k_ m_19))))
set_option maxHeartbeats 4000000 in
set_option maxRecDepth 100000 in
theorem digest_Of.calls (w : World) (l0 : List Int) (A0 : Option Addr) (n0 : Nat) (c0 : Nat)  (hG0 : Src w (some ⟨0, 0, none⟩) (iv .u32 tab0)) (hs0 : Src w A0 (iv .u8 l0)) (hn0 : n0 = l0.length) (hc0 : n0 ≤ c0) (r0 : List Int) (H : digest_Of.rel l0 r0) :
    Calls Tryd.prog 14 #[.slice A0 n0 c0] w fun e w' => r0.length = 32 ∧ e = .returned (.agg (iv .u8 r0).toArray) ∧ St w w' [] := by
  refine CW.enterM Tryd.func14 rfl (n := 58) rfl [.slice A0 n0 c0] (Nat.le_of_ble_eq_true rfl) ?_
  refine CW.sub [(0, .slice A0 n0 c0)] ⟨rfl, trivial⟩ ?_
  have st0 : St w w [] := St.refl w
  refine CW.seq ?_
  refine CW.region ?_
  refine WL.alloc st0 arr25.zero ?_
  intro B_1 w_2 st_3
  replace st_3 : St w w_2 [.cells B_1 (iv .u8 (List.replicate 32 (0 : Int))) 25] := st_3
  refine WL.nil ?_
  refine QW.then_n ?_
  refine CW.seq ?_
  refine CW.region ?_
  refine WL.val Wanted.none (Runs.move rfl) ?_
  obtain ⟨r_9, hr_5, H⟩ := H
  refine WL.call Wanted.none ent19 rfl (slices_Clone_s_byte_byte.calls w_2 l0 A0 n0 c0 (hs0.ext st_3) (hn0) (hc0) r_9 hr_5) ?_
  rintro _ w_6 ⟨A_10, c_11, n_12, hn_13, rfl, sc_8⟩
  have st_7 : St w w_6 [.sl A_10 c_11 n_12 (iv .u8 r_9) 5 1, .cells B_1 (iv .u8 (List.replicate 32 (0 : Int))) 25] := st_3.call sc_8
  refine ⟨_, rfl, ?_⟩
  refine WL.buildSl [.int .u8 128] st_7 Tryd.underlying22 elem5 rfl rfl (by decide) (by decide) (by simp [Value.cells]) ?_
  intro B_15 w_16 st_17
  replace st_17 : St w w_16 [.sl (some ⟨B_15, 0, none⟩) 1 1 (iv .u8 [128]) 5 1, .sl A_10 c_11 n_12 (iv .u8 r_9) 5 1, .cells B_1 (iv .u8 (List.replicate 32 (0 : Int))) 25] := st_17
  obtain ⟨m_19, e_20, H⟩ := H
  obtain ⟨z_21, H⟩ := H
  obtain ⟨n_24, hn_27⟩ : ∃ n_ : Nat, n_ = m_19.length := ⟨_, rfl⟩
  refine WL.append (i := 1) Wanted.none st_17 rfl Tryd.underlying22 elem5 rfl rfl (st_17.src_sl (k := 0) rfl) (by rw [iv_length]; exact (Eq.refl _).symm) (one_iv .u8 _) (by decide) (N := n_24) (by rw [hn_27, e_20, List.length_append]; exact congr (congrArg HAdd.hAdd (hn_13)) (rfl)) (by rw [hn_27]; exact z_21) ?_
  intro A_22 c_23 w_25 st_26
  have st_26' : St w w_25 [.sl (some ⟨B_15, 0, none⟩) 1 1 (iv .u8 [128]) 5 1, .sl A_22 c_23 n_24 (iv .u8 m_19) 5 1, .cells B_1 (iv .u8 (List.replicate 32 (0 : Int))) 25] := by rw [e_20, ← iv_append .u8 r_9 [128]]; exact st_26
  refine WL.val Wanted.none (Runs.assign rfl) ?_
  refine WL.nil ?_
  refine QW.then_n ?_
  refine CW.seq ?_
  refine CW.block ?_
  obtain ⟨k_28, H⟩ := H
  refine CW.sub [(0, .slice A0 n0 c0), (2, .pointer (some ⟨B_1, 0, none⟩)), (3, .slice A_22 n_24 c_23)] ⟨rfl, rfl, rfl, trivial⟩ ?_
  refine CW.loop (fun kL1 l_ w_ => ∃ (A_29 : Option Addr) (c_30 : Nat) (n_32 : Nat) (l_31 : List Int), l_ = [(0, .slice A0 n0 c0), (2, .pointer (some ⟨B_1, 0, none⟩)), (3, .slice A_29 n_32 c_30)] ∧ digest_Of.L1 l0 r0 kL1 l_31 ∧ (n_32 = l_31.length) ∧ St w w_ [.sl (some ⟨B_15, 0, none⟩) 1 1 (iv .u8 [128]) 5 1, .sl A_29 c_30 n_32 (iv .u8 l_31) 5 1, .cells B_1 (iv .u8 (List.replicate 32 (0 : Int))) 25]) (k := k_28) ⟨A_22, c_23, n_24, m_19, rfl, H, hn_27, st_26'⟩ (fun _ _ h => by obtain ⟨_, _, _, _, _, h, _⟩ := h; exact h.elim) ?_
  rintro kL1 l_36 w_34 ⟨A_29, c_30, n_32, l_31, rfl, H, hn_33, st_35⟩
  refine CW.seq ?_
  refine CW.seq ?_
  refine CW.region ?_
  refine WL.val Wanted.none (Runs.move rfl) ?_
  refine WL.val Wanted.none (Runs.len_sl Tryd.underlying22 rfl (by rw [hn_33])) ?_
  refine WL.val Wanted.none (Runs.rem rfl rfl (by decide) rfl) ?_
  refine WL.val Wanted.none (Runs.neq rfl rfl rfl) ?_
  refine WL.nil ?_
  refine QW.then_n ?_
  rcases H with ⟨c_37, H⟩ | ⟨c_37, H⟩
  · have h_38 : ((Int.tmod (l_31.length : Int) 64) != 56) = true := (bne_iff_ne.mpr c_37)
    refine CW.ct rfl h_38 ?_
    refine CW.skip ?_
    refine QW.then_n ?_
    refine CW.block ?_
    refine CW.region ?_
    refine WL.val Wanted.none (Runs.move rfl) ?_
    refine WL.buildSl [.int .u8 0] st_35 Tryd.underlying22 elem5 rfl rfl (by decide) (by decide) (by simp [Value.cells]) ?_
    intro B_39 w_40 st_41
    replace st_41 : St w w_40 [.sl (some ⟨B_39, 0, none⟩) 1 1 (iv .u8 [0]) 5 1, .sl (some ⟨B_15, 0, none⟩) 1 1 (iv .u8 [128]) 5 1, .sl A_29 c_30 n_32 (iv .u8 l_31) 5 1, .cells B_1 (iv .u8 (List.replicate 32 (0 : Int))) 25] := st_41
    obtain ⟨m_43, e_44, H⟩ := H
    obtain ⟨z_45, H⟩ := H
    obtain ⟨n_48, hn_51⟩ : ∃ n_ : Nat, n_ = m_43.length := ⟨_, rfl⟩
    refine WL.append (i := 2) Wanted.none st_41 rfl Tryd.underlying22 elem5 rfl rfl (st_41.src_sl (k := 0) rfl) (by rw [iv_length]; exact (Eq.refl _).symm) (one_iv .u8 _) (by decide) (N := n_48) (by rw [hn_51, e_44, List.length_append]; exact congr (congrArg HAdd.hAdd (hn_33)) (rfl)) (by rw [hn_51]; exact z_45) ?_
    intro A_46 c_47 w_49 st_50
    have st_50' : St w w_49 [.sl (some ⟨B_39, 0, none⟩) 1 1 (iv .u8 [0]) 5 1, .sl (some ⟨B_15, 0, none⟩) 1 1 (iv .u8 [128]) 5 1, .sl A_46 c_47 n_48 (iv .u8 m_43) 5 1, .cells B_1 (iv .u8 (List.replicate 32 (0 : Int))) 25] := by rw [e_44, ← iv_append .u8 l_31 [0]]; exact st_50
    refine WL.val Wanted.none (Runs.assign rfl) ?_
    refine WL.nil ?_
    refine QW.blk_n ?_
    have st_50'' := st_50'.pick [1, 2, 3] (by decide)
    exact QW.at [(0, .slice A0 n0 c0), (2, .pointer (some ⟨B_1, 0, none⟩)), (3, .slice A_46 n_48 c_47)] ⟨rfl, rfl, rfl, trivial⟩ ⟨A_46, c_47, n_48, m_43, rfl, H, hn_51, st_50''⟩
  · have h_38 : ((Int.tmod (l_31.length : Int) 64) != 56) = false := (bne_eq_false_iff_eq.mpr (Decidable.not_not.mp c_37))
    refine CW.cf rfl h_38 ?_
    refine CW.exit ?_
    refine QW.then_x ?_
    refine QW.then_x ?_
    refine QW.blk_x ?_
    refine QW.then_n ?_
    refine CW.seq ?_
    refine CW.seq ?_
    refine CW.region ?_
    refine WL.val Wanted.none (Runs.assign rfl) ?_
    refine WL.nil ?_
    refine QW.then_n ?_
    refine CW.block ?_
    obtain ⟨k_52, H⟩ := H
    refine CW.sub [(0, .slice A0 n0 c0), (2, .pointer (some ⟨B_1, 0, none⟩)), (3, .slice A_29 n_32 c_30), (4, .int .i64 56)] ⟨rfl, rfl, rfl, rfl, trivial⟩ ?_
    refine CW.loop (fun kL2 l_ w_ => ∃ (A_53 : Option Addr) (c_54 : Nat) (n_56 : Nat) (l_55 : List Int) (x_58 : Int), l_ = [(0, .slice A0 n0 c0), (2, .pointer (some ⟨B_1, 0, none⟩)), (3, .slice A_53 n_56 c_54), (4, .int .i64 x_58)] ∧ digest_Of.L2 l0 r0 kL2 l_55 x_58 ∧ (n_56 = l_55.length) ∧ St w w_ [.sl (some ⟨B_15, 0, none⟩) 1 1 (iv .u8 [128]) 5 1, .sl A_53 c_54 n_56 (iv .u8 l_55) 5 1, .cells B_1 (iv .u8 (List.replicate 32 (0 : Int))) 25]) (k := k_52) ⟨A_29, c_30, n_32, l_31, 56, rfl, H, hn_33, st_35⟩ (fun _ _ h => by obtain ⟨_, _, _, _, _, _, h, _⟩ := h; exact h.elim) ?_
    rintro kL2 l_61 w_59 ⟨A_53, c_54, n_56, l_55, x_58, rfl, H, hn_57, st_60⟩
    refine CW.seq ?_
    refine CW.seq ?_
    refine CW.region ?_
    refine WL.val Wanted.none (Runs.move rfl) ?_
    refine WL.val Wanted.none (Runs.geq rfl rfl rfl) ?_
    refine WL.nil ?_
    refine QW.then_n ?_
    rcases H with ⟨c_62, H⟩ | ⟨c_62, H⟩
    · have h_63 : (decide (x_58 ≥ 0)) = true := (decide_eq_true c_62)
      refine CW.ct rfl h_63 ?_
      refine CW.skip ?_
      refine QW.then_n ?_
      refine CW.seq ?_
      refine CW.block ?_
      refine CW.region ?_
      refine WL.val Wanted.none (Runs.move rfl) ?_
      refine WL.val Wanted.none (Runs.move rfl) ?_
      refine WL.val Wanted.none (Runs.len_sl Tryd.underlying22 rfl (by rw [hn0])) ?_
      refine WL.val Wanted.none (Runs.conv Tryd.underlying44 ⟨_, Tryd.underlying3⟩ rfl rfl) ?_
      refine WL.val Wanted.none (Runs.mul rfl rfl rfl) ?_
      refine WL.val Wanted.none (Runs.move rfl) ?_
      obtain ⟨z_64, H⟩ := H
      obtain ⟨x_65, e_66, H⟩ := H
      refine WL.val Wanted.none (Runs.shr rfl rfl z_64 e_66) ?_
      refine WL.val Wanted.none (Runs.conv Tryd.underlying5 ⟨_, Tryd.underlying44⟩ rfl rfl) ?_
      refine WL.buildSl [.int .u8 (IntKind.u8.wrap x_65)] st_60 Tryd.underlying22 elem5 rfl rfl (by decide) (by decide) (by simp [Value.cells]) ?_
      intro B_67 w_68 st_69
      replace st_69 : St w w_68 [.sl (some ⟨B_67, 0, none⟩) 1 1 (iv .u8 [IntKind.u8.wrap x_65]) 5 1, .sl (some ⟨B_15, 0, none⟩) 1 1 (iv .u8 [128]) 5 1, .sl A_53 c_54 n_56 (iv .u8 l_55) 5 1, .cells B_1 (iv .u8 (List.replicate 32 (0 : Int))) 25] := st_69
      obtain ⟨m_71, e_72, H⟩ := H
      obtain ⟨z_73, H⟩ := H
      obtain ⟨n_76, hn_79⟩ : ∃ n_ : Nat, n_ = m_71.length := ⟨_, rfl⟩
      refine WL.append (i := 2) Wanted.none st_69 rfl Tryd.underlying22 elem5 rfl rfl (st_69.src_sl (k := 0) rfl) (by rw [iv_length]; exact (Eq.refl _).symm) (one_iv .u8 _) (by decide) (N := n_76) (by rw [hn_79, e_72, List.length_append]; exact congr (congrArg HAdd.hAdd (hn_57)) (rfl)) (by rw [hn_79]; exact z_73) ?_
      intro A_74 c_75 w_77 st_78
      have st_78' : St w w_77 [.sl (some ⟨B_67, 0, none⟩) 1 1 (iv .u8 [IntKind.u8.wrap x_65]) 5 1, .sl (some ⟨B_15, 0, none⟩) 1 1 (iv .u8 [128]) 5 1, .sl A_74 c_75 n_76 (iv .u8 m_71) 5 1, .cells B_1 (iv .u8 (List.replicate 32 (0 : Int))) 25] := by rw [e_72, ← iv_append .u8 l_55 [IntKind.u8.wrap x_65]]; exact st_78
      refine WL.val Wanted.none (Runs.assign rfl) ?_
      refine WL.nil ?_
      refine QW.blk_n ?_
      refine QW.then_n ?_
      refine CW.region ?_
      refine WL.val Wanted.none (Runs.move rfl) ?_
      refine WL.val Wanted.none (Runs.sub rfl rfl rfl) ?_
      refine WL.val Wanted.none (Runs.assign rfl) ?_
      refine WL.nil ?_
      have st_78'' := st_78'.pick [1, 2, 3] (by decide)
      exact QW.at [(0, .slice A0 n0 c0), (2, .pointer (some ⟨B_1, 0, none⟩)), (3, .slice A_74 n_76 c_75), (4, .int .i64 (IntKind.i64.wrap (x_58 - 8)))] ⟨rfl, rfl, rfl, rfl, trivial⟩ ⟨A_74, c_75, n_76, m_71, IntKind.i64.wrap (x_58 - 8), rfl, H, hn_79, st_78''⟩
    · have h_63 : (decide (x_58 ≥ 0)) = false := (decide_eq_false c_62)
      refine CW.cf rfl h_63 ?_
      refine CW.exit ?_
      refine QW.then_x ?_
      refine QW.then_x ?_
      refine QW.blk_x ?_
      refine QW.then_n ?_
      refine CW.seq ?_
      refine CW.region ?_
      obtain ⟨r_84, hr_80, H⟩ := H
      refine WL.call Wanted.none ent20 rfl (digest_first.calls w_59 r_84 hr_80) ?_
      rintro _ w_81 ⟨hl_85, rfl, sc_83⟩
      have st_82 : St w w_81 [.sl (some ⟨B_15, 0, none⟩) 1 1 (iv .u8 [128]) 5 1, .sl A_53 c_54 n_56 (iv .u8 l_55) 5 1, .cells B_1 (iv .u8 (List.replicate 32 (0 : Int))) 25] := st_60.call sc_83
      refine ⟨_, rfl, ?_⟩
      refine WL.alloc st_82 arr50.zero ?_
      intro B_86 w_87 st_88
      replace st_88 : St w w_87 [.cells B_86 (iv .u32 (List.replicate 8 (0 : Int))) 50, .sl (some ⟨B_15, 0, none⟩) 1 1 (iv .u8 [128]) 5 1, .sl A_53 c_54 n_56 (iv .u8 l_55) 5 1, .cells B_1 (iv .u8 (List.replicate 32 (0 : Int))) 25] := st_88
      refine WL.store_arr (i := 0) st_88 rfl arr50 rfl (by rw [iv_length]; exact (List.length_replicate ..)) hl_85 rfl ?_
      intro w_90 st_91
      replace st_91 : St w w_90 [.cells B_86 (iv .u32 r_84) 50, .sl (some ⟨B_15, 0, none⟩) 1 1 (iv .u8 [128]) 5 1, .sl A_53 c_54 n_56 (iv .u8 l_55) 5 1, .cells B_1 (iv .u8 (List.replicate 32 (0 : Int))) 25] := st_91
      refine WL.nil ?_
      refine QW.then_n ?_
      refine CW.seq ?_
      refine CW.seq ?_
      refine CW.region ?_
      refine WL.val Wanted.none (Runs.move rfl) ?_
      refine WL.call Wanted.none ent21 rfl (slices_Chunk.calls w_90 A_53 n_56 c_54 64 (by decide)) ?_
      rintro _ w_95 ⟨B_93, B_94, rfl, sc_97⟩
      have st_96 : St w w_95 [.cells B_94 [.int .i64 ((64 : Nat) : Int)] 3, .cells B_93 [.slice A_53 n_56 c_54] 22, .cells B_86 (iv .u32 r_84) 50, .sl (some ⟨B_15, 0, none⟩) 1 1 (iv .u8 [128]) 5 1, .sl A_53 c_54 n_56 (iv .u8 l_55) 5 1, .cells B_1 (iv .u8 (List.replicate 32 (0 : Int))) 25] := st_91.call sc_97
      refine ⟨_, rfl, ?_⟩
      refine WL.nil ?_
      refine QW.then_n ?_
      refine CW.sub [(2, .pointer (some ⟨B_1, 0, none⟩)), (5, .pointer (some ⟨B_86, 0, none⟩)), (36, .func (.func 26) #[] #[.pointer (some ⟨B_93, 0, none⟩), .pointer (some ⟨B_94, 0, none⟩)])] ⟨rfl, rfl, rfl, trivial⟩ ?_
      refine CW.block ?_
      obtain ⟨q_100, ⟨h_105, h_106, h_107⟩, Inv_101, g_102, hI_103, hB_104, s_126, e_127, H⟩ := H
      refine CW.sub [(2, .pointer (some ⟨B_1, 0, none⟩)), (5, .pointer (some ⟨B_86, 0, none⟩)), (36, .func (.func 26) #[] #[.pointer (some ⟨B_93, 0, none⟩), .pointer (some ⟨B_94, 0, none⟩)])] ⟨rfl, rfl, rfl, trivial⟩ ?_
      have hc1 := st_96.cell (k := 1) (i := 0) rfl rfl
      have hc2 := st_96.cell (k := 0) (i := 0) rfl rfl
      refine CW.range (α := Fin q_100) (σ := List Int) st_96 rfl ent26 (chunk_seq (c := 64) hc1 hc2 (st_96.cap (i := 4) rfl) (by decide) (by decide) (by rw [hn_57]; exact h_107) (by rw [hn_57]; exact h_105) (fun j hj => by rw [hn_57]; exact h_106 j hj)) (fun h k => h.trans k) (fun W j o o2 h1 h2 h3 => KpB.put (block_lt_of_cell hc1) (block_lt_of_cell hc2) W j o o2 h1 h2 h3) (fun pre s_ => s_ = pre.foldl (fun s_ x_ => g_102 x_.val s_) r_84 ∧ Inv_101 s_ ∧ s_.length = 8) (fun s_109 => [.cells B_94 [.int .i64 ((64 : Nat) : Int)] 3, .cells B_93 [.slice A_53 n_56 c_54] 22, .cells B_86 (iv .u32 s_109) 50, .sl (some ⟨B_15, 0, none⟩) 1 1 (iv .u8 [128]) 5 1, .sl A_53 c_54 n_56 (iv .u8 l_55) 5 1, .cells B_1 (iv .u8 (List.replicate 32 (0 : Int))) 25]) (fun _ => rfl) r_84 ⟨rfl, hI_103, hl_85⟩ rfl ?_ rfl ?_
      · rintro j_ pre_ x_108 s_109 w_110 ⟨hs_112, hI_113, hl_114⟩ st_111 _ b hb hd
        refine wpIn_block ?_
        refine WL.round (n := 58) (.inr ⟨j_, rfl⟩) (fun ⟨a, w, h⟩ => h) rfl ?_ hb hd
        have H := hB_104 x_108.val s_109 x_108.isLt hI_113 hl_114
        refine WL.val Wanted.none (Runs.load_arr arr50 rfl (st_111.blk (i := 2) rfl) hl_114) ?_
        refine WL.val Wanted.none (Runs.move rfl) ?_
        obtain ⟨r_119, hr_115, H⟩ := H
        refine WL.call Wanted.none ent22 rfl (digest_state_mixed.calls w_110 s_109 (chl l_55 64 x_108.val) (A_53.map (·.add (64 * x_108.val))) (min 64 (n_56 - 64 * x_108.val)) (min 64 (n_56 - 64 * x_108.val)) (hG0.ext st_111) hl_114 ((st_111.src_sl (k := 4) rfl).chunk 64 x_108.val) ((by rw [hn_57]; exact chl_length _ _ _)) (Nat.le_refl _) r_119 hr_115) ?_
        rintro _ w_116 ⟨hl_120, rfl, sc_118⟩
        have kp_121 := keeps_of_below sc_118.ext
        have st_117 : St w w_116 [.cells B_94 [.int .i64 ((64 : Nat) : Int)] 3, .cells B_93 [.slice A_53 n_56 c_54] 22, .cells B_86 (iv .u32 s_109) 50, .sl (some ⟨B_15, 0, none⟩) 1 1 (iv .u8 [128]) 5 1, .sl A_53 c_54 n_56 (iv .u8 l_55) 5 1, .cells B_1 (iv .u8 (List.replicate 32 (0 : Int))) 25] := st_111.call sc_118
        refine ⟨_, rfl, ?_⟩
        refine WL.store_arrK (i := 2) st_117 rfl arr50 rfl (by rw [iv_length]; exact hl_114) hl_120 rfl ?_
        intro w_122 st_123 kp_124
        replace st_123 : St w w_122 [.cells B_94 [.int .i64 ((64 : Nat) : Int)] 3, .cells B_93 [.slice A_53 n_56 c_54] 22, .cells B_86 (iv .u32 r_119) 50, .sl (some ⟨B_15, 0, none⟩) 1 1 (iv .u8 [128]) 5 1, .sl A_53 c_54 n_56 (iv .u8 l_55) 5 1, .cells B_1 (iv .u8 (List.replicate 32 (0 : Int))) 25] := st_123
        refine WL.nil ?_
        refine QW.blk_n ?_
        obtain ⟨hI1, hg1⟩ := H
        exact fun b hb hd => ⟨(kp_121).trans kp_124, ⟨(st_123.cell (k := 1) rfl rfl).trans (st_111.cell (k := 1) rfl rfl).symm, (st_123.cell (k := 0) rfl rfl).trans (st_111.cell (k := 0) rfl rfl).symm⟩, r_119, ⟨by rw [List.foldl_append, ← hs_112]; exact hg1, hI1, hl_120⟩, st_123⟩
      · rintro D_125 s_z w_128 ⟨rfl_, _, hl_130⟩ st_129
        rw [foldl_fin, ← e_127] at rfl_
        rw [rfl_] at st_129 hl_130
        have st_129 : St w w_128 [.obj D_125 (.deferred (some [])), .cells B_94 [.int .i64 ((64 : Nat) : Int)] 3, .cells B_93 [.slice A_53 n_56 c_54] 22, .cells B_86 (iv .u32 s_126) 50, .sl (some ⟨B_15, 0, none⟩) 1 1 (iv .u8 [128]) 5 1, .sl A_53 c_54 n_56 (iv .u8 l_55) 5 1, .cells B_1 (iv .u8 (List.replicate 32 (0 : Int))) 25] := st_129
        refine QW.blk_n ?_
        refine QW.then_n ?_
        refine CW.seq ?_
        refine CW.region ?_
        refine WL.alloc st_129 arr25.zero ?_
        intro B_132 w_133 st_134
        replace st_134 : St w w_133 [.cells B_132 (iv .u8 (List.replicate 32 (0 : Int))) 25, .obj D_125 (.deferred (some [])), .cells B_94 [.int .i64 ((64 : Nat) : Int)] 3, .cells B_93 [.slice A_53 n_56 c_54] 22, .cells B_86 (iv .u32 s_126) 50, .sl (some ⟨B_15, 0, none⟩) 1 1 (iv .u8 [128]) 5 1, .sl A_53 c_54 n_56 (iv .u8 l_55) 5 1, .cells B_1 (iv .u8 (List.replicate 32 (0 : Int))) 25] := st_134
        refine WL.nil ?_
        refine QW.then_n ?_
        refine CW.seq ?_
        refine CW.seq ?_
        refine CW.region ?_
        refine WL.val Wanted.none (Runs.move rfl) ?_
        refine WL.nil ?_
        refine QW.then_n ?_
        refine CW.block ?_
        obtain ⟨k_136, H⟩ := H
        refine CW.sub [(2, .pointer (some ⟨B_1, 0, none⟩)), (5, .pointer (some ⟨B_86, 0, none⟩)), (7, .pointer (some ⟨B_132, 0, none⟩)), (41, .int .i64 0)] ⟨rfl, rfl, rfl, rfl, trivial⟩ ?_
        refine CW.loop (fun kL3 l_ w_ => ∃ (m_137 : List Int) (x_139 : Int), l_ = [(2, .pointer (some ⟨B_1, 0, none⟩)), (5, .pointer (some ⟨B_86, 0, none⟩)), (7, .pointer (some ⟨B_132, 0, none⟩)), (41, .int .i64 x_139)] ∧ digest_Of.L3 r0 s_126 kL3 m_137 x_139 ∧ (m_137.length = 32) ∧ St w w_ [.cells B_132 (iv .u8 m_137) 25, .obj D_125 (.deferred (some [])), .cells B_94 [.int .i64 ((64 : Nat) : Int)] 3, .cells B_93 [.slice A_53 n_56 c_54] 22, .cells B_86 (iv .u32 s_126) 50, .sl (some ⟨B_15, 0, none⟩) 1 1 (iv .u8 [128]) 5 1, .sl A_53 c_54 n_56 (iv .u8 l_55) 5 1, .cells B_1 (iv .u8 (List.replicate 32 (0 : Int))) 25]) (k := k_136) ⟨List.replicate 32 (0 : Int), 0, rfl, H, (List.length_replicate ..), st_134⟩ (fun _ _ h => by obtain ⟨_, _, _, h, _⟩ := h; exact h.elim) ?_
        rintro kL3 l_142 w_140 ⟨m_137, x_139, rfl, H, hl_138, st_141⟩
        refine CW.seq ?_
        refine CW.region ?_
        refine WL.val Wanted.none (Runs.lss rfl rfl rfl) ?_
        refine WL.nil ?_
        refine QW.then_n ?_
        refine CW.seq ?_
        rcases H with ⟨c_143, H⟩ | ⟨c_143, H⟩
        · have h_144 : (decide (x_139 < 32)) = true := (decide_eq_true c_143)
          refine CW.ct rfl h_144 ?_
          refine CW.skip ?_
          refine QW.then_n ?_
          refine CW.seq ?_
          refine CW.block ?_
          refine CW.seq ?_
          refine CW.region ?_
          refine WL.val Wanted.none (Runs.move rfl) ?_
          refine WL.val Wanted.none (Runs.assign rfl) ?_
          refine WL.nil ?_
          refine QW.then_n ?_
          refine CW.region ?_
          refine WL.val Wanted.none (Runs.move rfl) ?_
          refine WL.val Wanted.none (Runs.move rfl) ?_
          refine WL.val Wanted.none (Runs.quo rfl rfl (by decide) rfl) ?_
          obtain ⟨⟨p_145, q_146⟩, H⟩ := H
          refine WL.val Wanted.none (Runs.indexAddr_blk arr50 rfl rfl p_145 q_146 (o := (IntKind.i64.wrap (Int.tdiv x_139 4)).toNat) (by first | rfl | omega)) ?_
          refine WL.val Wanted.none (Runs.load nagg46 rfl (st_141.cell_iv (i := 4) rfl (by have := hl_130; omega))) ?_
          refine WL.val Wanted.none (Runs.move rfl) ?_
          refine WL.val Wanted.none (Runs.rem rfl rfl (by decide) rfl) ?_
          refine WL.val Wanted.none (Runs.mul rfl rfl rfl) ?_
          obtain ⟨x_147, e_148, H⟩ := H
          refine WL.val Wanted.none (Runs.sub rfl rfl e_148) ?_
          obtain ⟨z_149, H⟩ := H
          obtain ⟨x_150, e_151, H⟩ := H
          refine WL.val Wanted.none (Runs.shr rfl rfl z_149 e_151) ?_
          refine WL.val Wanted.none (Runs.conv Tryd.underlying5 ⟨_, Tryd.underlying46⟩ rfl rfl) ?_
          obtain ⟨⟨p_152, q_153⟩, H⟩ := H
          refine WL.val Wanted.none (Runs.indexAddr_blk arr25 rfl rfl p_152 q_153 (o := (x_139).toNat) (by first | rfl | omega)) ?_
          obtain ⟨m_154, e_155, H⟩ := H
          have hl_158 : m_154.length = 32 := by rw [e_155, List.length_set]; exact hl_138
          refine WL.store_cells (i := 0) st_141 rfl cells5 rfl (by rw [iv_length]; have := hl_138; omega) rfl rfl ?_
          intro w_156 st_157
          have st_157' : St w w_156 [.cells B_132 (iv .u8 m_154) 25, .obj D_125 (.deferred (some [])), .cells B_94 [.int .i64 ((64 : Nat) : Int)] 3, .cells B_93 [.slice A_53 n_56 c_54] 22, .cells B_86 (iv .u32 s_126) 50, .sl (some ⟨B_15, 0, none⟩) 1 1 (iv .u8 [128]) 5 1, .sl A_53 c_54 n_56 (iv .u8 l_55) 5 1, .cells B_1 (iv .u8 (List.replicate 32 (0 : Int))) 25] := by rw [e_155, ← iv_set .u8 m_137 ((x_139).toNat) (IntKind.u8.wrap x_150)]; exact st_157
          refine WL.nil ?_
          refine QW.blk_n ?_
          refine QW.then_n ?_
          refine CW.region ?_
          refine WL.val Wanted.none (Runs.add rfl rfl rfl) ?_
          refine WL.val Wanted.none (Runs.move rfl) ?_
          refine WL.nil ?_
          exact QW.at [(2, .pointer (some ⟨B_1, 0, none⟩)), (5, .pointer (some ⟨B_86, 0, none⟩)), (7, .pointer (some ⟨B_132, 0, none⟩)), (41, .int .i64 (IntKind.i64.wrap (x_139 + 1)))] ⟨rfl, rfl, rfl, rfl, trivial⟩ ⟨m_154, IntKind.i64.wrap (x_139 + 1), rfl, H, hl_158, st_157'⟩
        · have h_144 : (decide (x_139 < 32)) = false := (decide_eq_false c_143)
          refine CW.cf rfl h_144 ?_
          refine CW.exit ?_
          refine QW.then_x ?_
          refine QW.then_x ?_
          refine QW.blk_x ?_
          refine QW.then_n ?_
          refine CW.seq ?_
          refine CW.region ?_
          refine WL.val Wanted.none (Runs.load_arr arr25 rfl (st_141.blk (i := 0) rfl) hl_138) ?_
          refine WL.store_arr (i := 7) st_141 rfl arr25 rfl (by rw [iv_length]; exact (List.length_replicate ..)) hl_138 rfl ?_
          intro w_159 st_160
          replace st_160 : St w w_159 [.cells B_132 (iv .u8 m_137) 25, .obj D_125 (.deferred (some [])), .cells B_94 [.int .i64 ((64 : Nat) : Int)] 3, .cells B_93 [.slice A_53 n_56 c_54] 22, .cells B_86 (iv .u32 s_126) 50, .sl (some ⟨B_15, 0, none⟩) 1 1 (iv .u8 [128]) 5 1, .sl A_53 c_54 n_56 (iv .u8 l_55) 5 1, .cells B_1 (iv .u8 m_137) 25] := st_160
          refine WL.nil ?_
          refine QW.then_n ?_
          refine CW.ret ?_
          obtain rfl := H
          refine QW.retMc st_160 (i := 1) rfl rfl arr25 rfl (j := 7) (by decide) rfl hl_138 (fun wz stz => ?_)
          exact ⟨hl_138, rfl, stz.pick [] (by decide)⟩

/-! ### keys_Mac_1: function 15 -/
def keys_Mac_1.L1 (a0 : Int) (r0 : List Int) (m_6 : List Int) : Nat → (List Int) → Int → Prop
  | 0, _, _ => False
  | kL1 + 1, l_14, x_16 => ((x_16 < (m_6.length : Int) ∧ ((0 ≤ x_16 ∧ x_16 < (l_14.length : Int)) ∧ ((0 ≤ x_16 ∧ x_16 < (l_14.length : Int)) ∧ (∃ m_30 : List Int, m_30 = List.set l_14 ((x_16).toNat) (bits .xor .u8 (gn l_14 ((x_16).toNat)) a0) ∧ keys_Mac_1.L1 a0 r0 m_6 kL1 m_30 (IntKind.i64.wrap (x_16 + 1)))))) ∨ (¬ (x_16 < (m_6.length : Int)) ∧ r0 = l_14))
def keys_Mac_1.rel (a0 : Int) (l_c0 : List Int) (r0 : List Int) : Prop := (∃ m_6 : List Int, m_6 = cpy (List.replicate 64 (0 : Int)) (0) 64 l_c0 ∧ (∃ k_ : Nat, keys_Mac_1.L1 a0 r0 m_6 k_ m_6 0))
set_option maxHeartbeats 4000000 in
set_option maxRecDepth 100000 in
theorem keys_Mac_1.calls (w : World) (a0 : Int) (l_c0 : List Int) (b0 : Nat) (A_c0 : Option Addr) (n_c0 : Nat) (c_c0 : Nat)  (hs_c0 : Src w A_c0 (iv .u8 l_c0)) (hn_c0 : n_c0 = l_c0.length) (hc_c0 : n_c0 ≤ c_c0) (hcell0 : w.cell? ⟨b0, 0, none⟩ = some (.slice A_c0 n_c0 c_c0)) (r0 : List Int) (H : keys_Mac_1.rel a0 l_c0 r0) :
    Calls Tryd.prog 15 #[.int .u8 a0, .pointer (some ⟨b0, 0, none⟩)] w fun e w' => ∃ B0 q0 z0, z0 = r0.length ∧ e = .returned (.slice B0 z0 q0) ∧ St w w' [.sl B0 q0 z0 (iv .u8 r0) 5 1] := by
  refine CW.enter Tryd.func15 rfl (n := 24) rfl [.int .u8 a0, .pointer (some ⟨b0, 0, none⟩)] (Nat.le_of_ble_eq_true rfl) ?_
  refine CW.sub [(0, .int .u8 a0), (1, .pointer (some ⟨b0, 0, none⟩))] ⟨rfl, rfl, trivial⟩ ?_
  have st0 : St w w [] := St.refl w
  refine CW.seq ?_
  refine CW.region ?_
  refine WL.val Wanted.none (Runs.assign rfl) ?_
  refine WL.nil ?_
  refine QW.then_n ?_
  refine CW.seq ?_
  refine CW.region ?_
  refine WL.make st0 Tryd.underlying22 elem5 rfl rfl (by decide) (by decide) (by decide) (N := 64) rfl ?_
  intro B_1 w_2 st_3
  replace st_3 : St w w_2 [.sl (some ⟨B_1, 0, none⟩) 64 64 (iv .u8 (List.replicate 64 (0 : Int))) 5 1] := by rw [iv_replicate] at st_3; exact st_3
  have hn_4 : 64 = (List.replicate 64 (0 : Int)).length := by simp
  refine WL.val Wanted.none (Runs.assign rfl) ?_
  refine WL.nil ?_
  refine QW.then_n ?_
  refine CW.seq ?_
  refine CW.region ?_
  refine WL.val Wanted.none (Runs.move rfl) ?_
  refine WL.val Wanted.none (Runs.load nagg22 rfl (st_3.up hcell0)) ?_
  obtain ⟨m_6, e_7, H⟩ := H
  have hfit_ : 0 + 64 ≤ 64 := by have := hn_4; omega
  refine WL.copy_sl (i := 0) (o := 0) st_3 rfl Tryd.underlying22 cells5 rfl rfl (fun _ => map_add_zero) hfit_ (hs_c0.ext st_3) (hn_c0.trans (iv_length .u8 _).symm) (one_iv .u8 _) ?_
  intro w_8 st_9
  have hn_10 : m_6.length = (List.replicate 64 (0 : Int)).length := by rw [e_7]; exact cpy_length (by have := hn_4; omega)
  have hn_11 : 64 = m_6.length := by rw [hn_10]; exact hn_4
  have st_9' : St w w_8 [.sl (some ⟨B_1, 0, none⟩) 64 64 (iv .u8 m_6) 5 1] := by rw [e_7, ← cpy_iv .u8]; exact st_9
  have z_12 := iv_length .u8 l_c0
  refine WL.nil ?_
  refine QW.then_n ?_
  refine CW.seq ?_
  refine CW.seq ?_
  refine CW.region ?_
  refine WL.val Wanted.none (Runs.move rfl) ?_
  refine WL.val Wanted.none (Runs.len_sl Tryd.underlying22 rfl (by rw [hn_11])) ?_
  refine WL.val Wanted.none (Runs.move rfl) ?_
  refine WL.nil ?_
  refine QW.then_n ?_
  refine CW.sub [(0, .int .u8 a0), (3, .slice none 0 0), (4, .slice (some ⟨B_1, 0, none⟩) 64 64), (11, .int .i64 (m_6.length : Int)), (12, .int .i64 0)] ⟨rfl, rfl, rfl, rfl, rfl, trivial⟩ ?_
  refine CW.block ?_
  obtain ⟨k_13, H⟩ := H
  refine CW.sub [(0, .int .u8 a0), (3, .slice none 0 0), (4, .slice (some ⟨B_1, 0, none⟩) 64 64), (11, .int .i64 (m_6.length : Int)), (12, .int .i64 0)] ⟨rfl, rfl, rfl, rfl, rfl, trivial⟩ ?_
  refine CW.loop (fun kL1 l_ w_ => ∃ (l_14 : List Int) (x_16 : Int), l_ = [(0, .int .u8 a0), (3, .slice none 0 0), (4, .slice (some ⟨B_1, 0, none⟩) 64 64), (11, .int .i64 (m_6.length : Int)), (12, .int .i64 x_16)] ∧ keys_Mac_1.L1 a0 r0 m_6 kL1 l_14 x_16 ∧ (64 = l_14.length) ∧ St w w_ [.sl (some ⟨B_1, 0, none⟩) 64 64 (iv .u8 l_14) 5 1]) (k := k_13) ⟨m_6, 0, rfl, H, hn_11, st_9'⟩ (fun _ _ h => by obtain ⟨_, _, _, h, _⟩ := h; exact h.elim) ?_
  rintro kL1 l_19 w_17 ⟨l_14, x_16, rfl, H, hn_15, st_18⟩
  refine CW.seq ?_
  refine CW.region ?_
  refine WL.val Wanted.none (Runs.lss rfl rfl rfl) ?_
  refine WL.nil ?_
  refine QW.then_n ?_
  refine CW.seq ?_
  rcases H with ⟨c_20, H⟩ | ⟨c_20, H⟩
  · have h_21 : (decide (x_16 < (m_6.length : Int))) = true := (decide_eq_true c_20)
    refine CW.ct rfl h_21 ?_
    refine CW.skip ?_
    refine QW.then_n ?_
    refine CW.seq ?_
    refine CW.block ?_
    refine CW.seq ?_
    refine CW.region ?_
    refine WL.val Wanted.none (Runs.move rfl) ?_
    refine WL.val Wanted.none (Runs.assign rfl) ?_
    refine WL.nil ?_
    refine QW.then_n ?_
    refine CW.region ?_
    refine WL.val Wanted.none (Runs.move rfl) ?_
    refine WL.val Wanted.none (Runs.move rfl) ?_
    obtain ⟨⟨p_22, q_23⟩, H⟩ := H
    obtain ⟨a_24, e_25⟩ := (st_18.src_sl (k := 0) rfl).addr_iv ((x_16).toNat) (by omega)
    refine WL.val Wanted.none (Runs.indexAddr Tryd.underlying22 cells5 (by decide) rfl e_25 rfl p_22 (by rw [hn_15]; exact q_23) (o := (x_16).toNat) (by first | rfl | omega)) ?_
    refine WL.val Wanted.none (Runs.load nagg5 rfl ((st_18.src_sl (k := 0) rfl).cell_iv e_25 (by omega))) ?_
    refine WL.val Wanted.none (Runs.move rfl) ?_
    refine WL.val Wanted.none (Runs.bxor rfl rfl rfl) ?_
    obtain ⟨⟨p_26, q_27⟩, H⟩ := H
    obtain ⟨a_28, e_29⟩ := (st_18.src_sl (k := 0) rfl).addr_iv ((x_16).toNat) (by omega)
    refine WL.val Wanted.none (Runs.indexAddr Tryd.underlying22 cells5 (by decide) rfl e_29 rfl p_26 (by rw [hn_15]; exact q_27) (o := (x_16).toNat) (by first | rfl | omega)) ?_
    obtain ⟨m_30, e_31, H⟩ := H
    refine WL.store_sl (i := 0) st_18 rfl cells5 rfl e_29 (by rw [iv_length]; omega) rfl rfl ?_
    intro w_32 st_33
    have hn_34 : 64 = m_30.length := by rw [e_31, List.length_set]; exact hn_15
    have st_33' : St w w_32 [.sl (some ⟨B_1, 0, none⟩) 64 64 (iv .u8 m_30) 5 1] := by rw [e_31, ← iv_set .u8 l_14 ((x_16).toNat) (bits .xor .u8 (gn l_14 ((x_16).toNat)) a0)]; exact st_33
    refine WL.nil ?_
    refine QW.blk_n ?_
    refine QW.then_n ?_
    refine CW.region ?_
    refine WL.val Wanted.none (Runs.add rfl rfl rfl) ?_
    refine WL.val Wanted.none (Runs.move rfl) ?_
    refine WL.nil ?_
    exact QW.at [(0, .int .u8 a0), (3, .slice none 0 0), (4, .slice (some ⟨B_1, 0, none⟩) 64 64), (11, .int .i64 (m_6.length : Int)), (12, .int .i64 (IntKind.i64.wrap (x_16 + 1)))] ⟨rfl, rfl, rfl, rfl, rfl, trivial⟩ ⟨m_30, IntKind.i64.wrap (x_16 + 1), rfl, H, hn_34, st_33'⟩
  · have h_21 : (decide (x_16 < (m_6.length : Int))) = false := (decide_eq_false c_20)
    refine CW.cf rfl h_21 ?_
    refine CW.exit ?_
    refine QW.then_x ?_
    refine QW.then_x ?_
    refine QW.blk_x ?_
    refine QW.then_n ?_
    refine CW.seq ?_
    refine CW.region ?_
    refine WL.val Wanted.none (Runs.move rfl) ?_
    refine WL.val Wanted.none (Runs.assign rfl) ?_
    refine WL.nil ?_
    refine QW.then_n ?_
    refine CW.sub [(3, .slice (some ⟨B_1, 0, none⟩) 64 64)] ⟨rfl, trivial⟩ ?_
    refine CW.ret ?_
    obtain rfl := H
    exact QW.ret1 rfl rfl ⟨(some ⟨B_1, 0, none⟩), 64, 64, hn_15, rfl, st_18.pick [0] (by decide)⟩

/-! ### slices_Grow_s_byte_byte_nil0: function 29 -/
def slices_Grow_s_byte_byte_nil0.rel (a1 : Int) (r0 : List Int) : Prop := (¬ (a1 < 0) ∧ (((IntKind.i64.wrap (a1 - (IntKind.i64.wrap (0 - 0)))) > 0 ∧ ((0 < (IntKind.i64.wrap (a1 - (IntKind.i64.wrap (0 - 0)))) ∧ (IntKind.i64.wrap (a1 - (IntKind.i64.wrap (0 - 0)))) ≤ 1099511627776) ∧ (0 ≤ (List.replicate (IntKind.i64.wrap (a1 - (IntKind.i64.wrap (0 - 0)))).toNat (0 : Int)).length ∧ r0 = (List.take 0 (List.replicate (IntKind.i64.wrap (a1 - (IntKind.i64.wrap (0 - 0)))).toNat (0 : Int)))))) ∨ (¬ ((IntKind.i64.wrap (a1 - (IntKind.i64.wrap (0 - 0)))) > 0) ∧ r0 = [])))
set_option maxHeartbeats 4000000 in
set_option maxRecDepth 100000 in
theorem slices_Grow_s_byte_byte_nil0.calls (w : World) (a1 : Int)    (r0 : List Int) (H : slices_Grow_s_byte_byte_nil0.rel a1 r0) :
    Calls Tryd.prog 29 #[.slice none 0 0, .int .i64 a1] w fun e w' => ∃ B0 q0 z0, z0 = r0.length ∧ e = .returned (.slice B0 z0 q0) ∧ St w w' [.sl B0 q0 z0 (iv .u8 r0) 5 1] := by
  refine CW.enter Tryd.func29 rfl (n := 27) rfl [.slice none 0 0, .int .i64 a1] (Nat.le_of_ble_eq_true rfl) ?_
  refine CW.sub [(0, .slice none 0 0), (1, .int .i64 a1)] ⟨rfl, rfl, trivial⟩ ?_
  have st0 : St w w [] := St.refl w
  refine CW.seq ?_
  refine CW.region ?_
  refine WL.val Wanted.none (Runs.assign rfl) ?_
  refine WL.nil ?_
  refine QW.then_n ?_
  refine CW.seq ?_
  refine CW.seq ?_
  refine CW.region ?_
  refine WL.val Wanted.none (Runs.move rfl) ?_
  refine WL.val Wanted.none (Runs.lss rfl rfl rfl) ?_
  refine WL.nil ?_
  refine QW.then_n ?_
  obtain ⟨c_1, H⟩ := H
  have h_2 : (decide (a1 < 0)) = false := (decide_eq_false c_1)
  refine CW.cf rfl h_2 ?_
  refine CW.skip ?_
  refine QW.then_n ?_
  refine CW.seq ?_
  refine CW.seq ?_
  refine CW.region ?_
  refine WL.val Wanted.none (Runs.move rfl) ?_
  refine WL.val Wanted.none (Runs.move rfl) ?_
  refine WL.val Wanted.none (Runs.cap_sl Tryd.underlying22 rfl rfl) ?_
  refine WL.val Wanted.none (Runs.move rfl) ?_
  refine WL.val Wanted.none (Runs.len_sl Tryd.underlying22 rfl rfl) ?_
  refine WL.val Wanted.none (Runs.sub rfl rfl rfl) ?_
  refine WL.val Wanted.none (Runs.sub rfl rfl rfl) ?_
  refine WL.val Wanted.none (Runs.assign rfl) ?_
  refine WL.nil ?_
  refine QW.then_n ?_
  refine CW.sub [(0, .slice none 0 0), (1, .int .i64 (IntKind.i64.wrap (a1 - (IntKind.i64.wrap (0 - 0))))), (4, .slice none 0 0)] ⟨rfl, rfl, rfl, trivial⟩ ?_
  refine CW.seq ?_
  refine CW.region ?_
  refine WL.val Wanted.none (Runs.move rfl) ?_
  refine WL.val Wanted.none (Runs.gtr rfl rfl rfl) ?_
  refine WL.nil ?_
  refine QW.then_n ?_
  rcases H with ⟨c_3, H⟩ | ⟨c_3, H⟩
  · have h_4 : (decide ((IntKind.i64.wrap (a1 - (IntKind.i64.wrap (0 - 0)))) > 0)) = true := (decide_eq_true c_3)
    refine CW.ct rfl h_4 ?_
    refine CW.region ?_
    refine WL.val Wanted.none (Runs.move rfl) ?_
    refine WL.val Wanted.none (Runs.move rfl) ?_
    refine WL.val Wanted.none (Runs.cap_sl Tryd.underlying22 rfl rfl) ?_
    refine WL.val Wanted.none (Runs.slice_h (A := none) (c := 0) (m := 0) (B := none) (N := 0) Tryd.underlying22 cells5 rfl rfl (by decide) (by decide) rfl rfl) ?_
    refine WL.val Wanted.none (Runs.move rfl) ?_
    obtain ⟨⟨p_6, q_7⟩, H⟩ := H
    obtain ⟨n_8, e_9⟩ : ∃ n_ : Nat, n_ = (IntKind.i64.wrap (a1 - (IntKind.i64.wrap (0 - 0)))).toNat := ⟨_, rfl⟩
    refine WL.append_make (N := n_8) st0 Tryd.underlying22 Tryd.underlying3 elem5 rfl rfl p_6 q_7 (by decide) e_9 ?_
    intro B_11 c_12 w_10 st_14
    replace st_14 : St w w_10 [.sl (some ⟨B_11, 0, none⟩) c_12 n_8 (iv .u8 (List.replicate (IntKind.i64.wrap (a1 - (IntKind.i64.wrap (0 - 0)))).toNat (0 : Int))) 5 1] := by rw [← e_9]; rw [iv_replicate] at st_14; exact st_14
    have hn_15 : n_8 = (List.replicate (IntKind.i64.wrap (a1 - (IntKind.i64.wrap (0 - 0)))).toNat (0 : Int)).length := by rw [List.length_replicate]; exact e_9
    refine WL.val Wanted.none (Runs.move rfl) ?_
    refine WL.val Wanted.none (Runs.len_sl Tryd.underlying22 rfl rfl) ?_
    obtain ⟨h_17, H⟩ := H
    rw [← hn_15] at h_17
    have h_17c : n_8 ≤ c_12 := st_14.cap (i := 0) rfl
    have st_16 := st_14.trunc (i := 0) rfl 0 h_17
    have hn_18 : 0 = (List.take 0 (List.replicate (IntKind.i64.wrap (a1 - (IntKind.i64.wrap (0 - 0)))).toNat (0 : Int))).length := by rw [List.length_take]; omega
    have st_16' : St w w_10 [.sl (some ⟨B_11, 0, none⟩) c_12 0 (iv .u8 (List.take 0 (List.replicate (IntKind.i64.wrap (a1 - (IntKind.i64.wrap (0 - 0)))).toNat (0 : Int)))) 5 1] := by rw [← iv_take]; exact st_16
    refine WL.val Wanted.none (Runs.slice_hp Tryd.underlying22 cells5 rfl rfl (by decide) (by omega) rfl) ?_
    refine WL.val Wanted.none (Runs.assign rfl) ?_
    refine WL.nil ?_
    refine QW.then_n ?_
    refine CW.sub [(0, .slice (some ⟨B_11, 0, none⟩) 0 c_12), (4, .slice none 0 0)] ⟨rfl, rfl, trivial⟩ ?_
    refine CW.seq ?_
    refine CW.region ?_
    refine WL.val Wanted.none (Runs.move rfl) ?_
    refine WL.val Wanted.none (Runs.assign rfl) ?_
    refine WL.nil ?_
    refine QW.then_n ?_
    refine CW.ret ?_
    obtain rfl := H
    exact QW.ret1 rfl rfl ⟨(some ⟨B_11, 0, none⟩), c_12, 0, hn_18, rfl, st_16'.pick [0] (by decide)⟩
  · have h_4 : (decide ((IntKind.i64.wrap (a1 - (IntKind.i64.wrap (0 - 0)))) > 0)) = false := (decide_eq_false c_3)
    refine CW.cf rfl h_4 ?_
    refine CW.skip ?_
    refine QW.then_n ?_
    refine CW.seq ?_
    refine CW.region ?_
    refine WL.val Wanted.none (Runs.move rfl) ?_
    refine WL.val Wanted.none (Runs.assign rfl) ?_
    refine WL.nil ?_
    refine QW.then_n ?_
    refine CW.ret ?_
    have st_21 := st0.nil_sl 5 1
    have st_21 : St w w [.sl none 0 0 (iv .u8 ([] : List Int)) 5 1] := st_21
    obtain rfl := H
    exact QW.ret1 rfl rfl ⟨none, 0, 0, rfl, rfl, st_21.pick [0] (by decide)⟩

/-! ### slices_Concat_s_byte_byte: function 23 -/
def slices_Concat_s_byte_byte.L2 (l0 : List (List Int)) (r0 : List Int) : Nat → (List Int) → Int → Prop
  | 0, _, _ => False
  | kL2 + 1, l_37, x_40 => ((x_40 < (l0.length : Int) ∧ ((0 ≤ x_40 ∧ x_40 < (l0.length : Int)) ∧ (∃ m_57 : List Int, m_57 = l_37 ++ (gl l0 ((x_40).toNat)) ∧ (m_57.length ≤ 1099511627776 ∧ slices_Concat_s_byte_byte.L2 l0 r0 kL2 m_57 (IntKind.i64.wrap (x_40 + 1)))))) ∨ (¬ (x_40 < (l0.length : Int)) ∧ r0 = l_37))
def slices_Concat_s_byte_byte.L1 (l0 : List (List Int)) (r0 : List Int) : Nat → Int → Int → Prop
  | 0, _, _ => False
  | kL1 + 1, x_2, x_3 => ((x_3 < (l0.length : Int) ∧ ((0 ≤ x_3 ∧ x_3 < (l0.length : Int)) ∧ (∃ x_20 : Int, x_20 = IntKind.i64.wrap (x_2 + ((gl l0 ((x_3).toNat)).length : Int)) ∧ (¬ (x_20 < 0) ∧ slices_Concat_s_byte_byte.L1 l0 r0 kL1 x_20 (IntKind.i64.wrap (x_3 + 1)))))) ∨ (¬ (x_3 < (l0.length : Int)) ∧ (∃ (r_28 : List Int), slices_Grow_s_byte_byte_nil0.rel x_2 r_28 ∧ (∃ k_ : Nat, slices_Concat_s_byte_byte.L2 l0 r0 k_ r_28 0))))
def slices_Concat_s_byte_byte.rel (l0 : List (List Int)) (r0 : List Int) : Prop := (∃ k_ : Nat, slices_Concat_s_byte_byte.L1 l0 r0 k_ 0 0)
set_option maxHeartbeats 4000000 in
set_option maxRecDepth 100000 in
theorem slices_Concat_s_byte_byte.calls (w : World) (l0 : List (List Int)) (A0 : Option Addr) (n0 : Nat) (c0 : Nat)  (hs0 : RowsOf w .u8 A0 l0) (hn0 : n0 = l0.length) (hc0 : n0 ≤ c0) (r0 : List Int) (H : slices_Concat_s_byte_byte.rel l0 r0) :
    Calls Tryd.prog 23 #[.slice A0 n0 c0] w fun e w' => ∃ B0 q0 z0, z0 = r0.length ∧ e = .returned (.slice B0 z0 q0) ∧ St w w' [.sl B0 q0 z0 (iv .u8 r0) 5 1] := by
  refine CW.enter Tryd.func23 rfl (n := 36) rfl [.slice A0 n0 c0] (Nat.le_of_ble_eq_true rfl) ?_
  refine CW.sub [(0, .slice A0 n0 c0)] ⟨rfl, trivial⟩ ?_
  have st0 : St w w [] := St.refl w
  refine CW.seq ?_
  refine CW.region ?_
  refine WL.val Wanted.none (Runs.assign rfl) ?_
  refine WL.nil ?_
  refine QW.then_n ?_
  refine CW.seq ?_
  refine CW.region ?_
  refine WL.val Wanted.none (Runs.assign rfl) ?_
  refine WL.nil ?_
  refine QW.then_n ?_
  refine CW.seq ?_
  refine CW.seq ?_
  refine CW.region ?_
  refine WL.val Wanted.none (Runs.move rfl) ?_
  refine WL.val Wanted.none (Runs.len_sl Tryd.underlying56 rfl (by rw [hn0])) ?_
  refine WL.val Wanted.none (Runs.move rfl) ?_
  refine WL.nil ?_
  refine QW.then_n ?_
  refine CW.block ?_
  obtain ⟨k_1, H⟩ := H
  refine CW.sub [(0, .slice A0 n0 c0), (2, .slice none 0 0), (3, .int .i64 0), (9, .slice A0 n0 c0), (10, .int .i64 (l0.length : Int)), (11, .int .i64 0)] ⟨rfl, rfl, rfl, rfl, rfl, rfl, trivial⟩ ?_
  refine CW.loop (fun kL1 l_ w_ => ∃ (x_2 : Int) (x_3 : Int), l_ = [(0, .slice A0 n0 c0), (2, .slice none 0 0), (3, .int .i64 x_2), (9, .slice A0 n0 c0), (10, .int .i64 (l0.length : Int)), (11, .int .i64 x_3)] ∧ slices_Concat_s_byte_byte.L1 l0 r0 kL1 x_2 x_3 ∧ St w w_ []) (k := k_1) ⟨0, 0, rfl, H, st0⟩ (fun _ _ h => by obtain ⟨_, _, _, h, _⟩ := h; exact h.elim) ?_
  rintro kL1 l_6 w_4 ⟨x_2, x_3, rfl, H, st_5⟩
  refine CW.seq ?_
  refine CW.region ?_
  refine WL.val Wanted.none (Runs.lss rfl rfl rfl) ?_
  refine WL.nil ?_
  refine QW.then_n ?_
  refine CW.seq ?_
  rcases H with ⟨c_7, H⟩ | ⟨c_7, H⟩
  · have h_8 : (decide (x_3 < (l0.length : Int))) = true := (decide_eq_true c_7)
    refine CW.ct rfl h_8 ?_
    refine CW.skip ?_
    refine QW.then_n ?_
    refine CW.seq ?_
    refine CW.block ?_
    refine CW.seq ?_
    refine CW.region ?_
    obtain ⟨⟨p_9, q_10⟩, H⟩ := H
    obtain ⟨a_11, A_13, n_14, c_15, e_12, f_17, hn_18, hc_19, g_16⟩ := hs0.get ((x_3).toNat) (by omega)
    refine WL.val Wanted.none (Runs.indexAddr Tryd.underlying56 cells22 (by decide) rfl e_12 rfl p_9 (by rw [hn0]; exact q_10) (o := (x_3).toNat) (by first | rfl | omega)) ?_
    refine WL.val Wanted.none (Runs.load nagg22 rfl (st_5.up f_17)) ?_
    refine WL.val Wanted.none (Runs.assign rfl) ?_
    refine WL.nil ?_
    refine QW.then_n ?_
    refine CW.seq ?_
    refine CW.region ?_
    refine WL.val Wanted.none (Runs.move rfl) ?_
    refine WL.val Wanted.none (Runs.move rfl) ?_
    refine WL.val Wanted.none (Runs.len_sl Tryd.underlying22 rfl (by rw [hn_18])) ?_
    obtain ⟨x_20, e_21, H⟩ := H
    refine WL.val Wanted.none (Runs.add rfl rfl e_21) ?_
    refine WL.val Wanted.none (Runs.assign rfl) ?_
    refine WL.nil ?_
    refine QW.then_n ?_
    refine CW.seq ?_
    refine CW.region ?_
    refine WL.val Wanted.none (Runs.move rfl) ?_
    refine WL.val Wanted.none (Runs.lss rfl rfl rfl) ?_
    refine WL.nil ?_
    refine QW.then_n ?_
    obtain ⟨c_22, H⟩ := H
    have h_23 : (decide (x_20 < 0)) = false := (decide_eq_false c_22)
    refine CW.cf rfl h_23 ?_
    refine CW.skip ?_
    refine QW.blk_n ?_
    refine QW.then_n ?_
    refine CW.region ?_
    refine WL.val Wanted.none (Runs.add rfl rfl rfl) ?_
    refine WL.val Wanted.none (Runs.move rfl) ?_
    refine WL.nil ?_
    exact QW.at [(0, .slice A0 n0 c0), (2, .slice none 0 0), (3, .int .i64 x_20), (9, .slice A0 n0 c0), (10, .int .i64 (l0.length : Int)), (11, .int .i64 (IntKind.i64.wrap (x_3 + 1)))] ⟨rfl, rfl, rfl, rfl, rfl, rfl, trivial⟩ ⟨x_20, IntKind.i64.wrap (x_3 + 1), rfl, H, st_5⟩
  · have h_8 : (decide (x_3 < (l0.length : Int))) = false := (decide_eq_false c_7)
    refine CW.cf rfl h_8 ?_
    refine CW.exit ?_
    refine QW.then_x ?_
    refine QW.then_x ?_
    refine QW.blk_x ?_
    refine QW.then_n ?_
    refine CW.seq ?_
    refine CW.region ?_
    refine WL.val Wanted.none (Runs.move rfl) ?_
    obtain ⟨r_28, hr_24, H⟩ := H
    refine WL.call Wanted.none ent29 rfl (slices_Grow_s_byte_byte_nil0.calls w_4 x_2 r_28 hr_24) ?_
    rintro _ w_25 ⟨A_29, c_30, n_31, hn_32, rfl, sc_27⟩
    have st_26 : St w w_25 [.sl A_29 c_30 n_31 (iv .u8 r_28) 5 1] := st_5.call sc_27
    refine ⟨_, rfl, ?_⟩
    refine WL.val Wanted.none (Runs.assign rfl) ?_
    refine WL.nil ?_
    refine QW.then_n ?_
    refine CW.sub [(0, .slice A0 n0 c0), (2, .slice none 0 0), (6, .slice A_29 n_31 c_30)] ⟨rfl, rfl, rfl, trivial⟩ ?_
    refine CW.seq ?_
    refine CW.seq ?_
    refine CW.region ?_
    refine WL.val Wanted.none (Runs.move rfl) ?_
    refine WL.val Wanted.none (Runs.len_sl Tryd.underlying56 rfl (by rw [hn0])) ?_
    refine WL.val Wanted.none (Runs.move rfl) ?_
    refine WL.nil ?_
    refine QW.then_n ?_
    refine CW.block ?_
    obtain ⟨k_34, H⟩ := H
    refine CW.sub [(2, .slice none 0 0), (6, .slice A_29 n_31 c_30), (25, .slice A0 n0 c0), (26, .int .i64 (l0.length : Int)), (27, .int .i64 0)] ⟨rfl, rfl, rfl, rfl, rfl, trivial⟩ ?_
    refine CW.loop (fun kL2 l_ w_ => ∃ (A_35 : Option Addr) (c_36 : Nat) (n_38 : Nat) (l_37 : List Int) (x_40 : Int), l_ = [(2, .slice none 0 0), (6, .slice A_35 n_38 c_36), (25, .slice A0 n0 c0), (26, .int .i64 (l0.length : Int)), (27, .int .i64 x_40)] ∧ slices_Concat_s_byte_byte.L2 l0 r0 kL2 l_37 x_40 ∧ (n_38 = l_37.length) ∧ St w w_ [.sl A_35 c_36 n_38 (iv .u8 l_37) 5 1]) (k := k_34) ⟨A_29, c_30, n_31, r_28, 0, rfl, H, hn_32, st_26⟩ (fun _ _ h => by obtain ⟨_, _, _, _, _, _, h, _⟩ := h; exact h.elim) ?_
    rintro kL2 l_43 w_41 ⟨A_35, c_36, n_38, l_37, x_40, rfl, H, hn_39, st_42⟩
    refine CW.seq ?_
    refine CW.region ?_
    refine WL.val Wanted.none (Runs.lss rfl rfl rfl) ?_
    refine WL.nil ?_
    refine QW.then_n ?_
    refine CW.seq ?_
    rcases H with ⟨c_44, H⟩ | ⟨c_44, H⟩
    · have h_45 : (decide (x_40 < (l0.length : Int))) = true := (decide_eq_true c_44)
      refine CW.ct rfl h_45 ?_
      refine CW.skip ?_
      refine QW.then_n ?_
      refine CW.seq ?_
      refine CW.block ?_
      refine CW.seq ?_
      refine CW.region ?_
      obtain ⟨⟨p_46, q_47⟩, H⟩ := H
      obtain ⟨a_48, A_50, n_51, c_52, e_49, f_54, hn_55, hc_56, g_53⟩ := hs0.get ((x_40).toNat) (by omega)
      refine WL.val Wanted.none (Runs.indexAddr Tryd.underlying56 cells22 (by decide) rfl e_49 rfl p_46 (by rw [hn0]; exact q_47) (o := (x_40).toNat) (by first | rfl | omega)) ?_
      refine WL.val Wanted.none (Runs.load nagg22 rfl (st_42.up f_54)) ?_
      refine WL.val Wanted.none (Runs.assign rfl) ?_
      refine WL.nil ?_
      refine QW.then_n ?_
      refine CW.region ?_
      refine WL.val Wanted.none (Runs.move rfl) ?_
      refine WL.val Wanted.none (Runs.move rfl) ?_
      obtain ⟨m_57, e_58, H⟩ := H
      obtain ⟨z_59, H⟩ := H
      obtain ⟨n_62, hn_65⟩ : ∃ n_ : Nat, n_ = m_57.length := ⟨_, rfl⟩
      refine WL.append (i := 0) Wanted.none st_42 rfl Tryd.underlying22 elem5 rfl rfl (g_53.ext st_42) (by rw [iv_length]; exact (hn_55).symm) (one_iv .u8 _) (by decide) (N := n_62) (by rw [hn_65, e_58, List.length_append]; exact congr (congrArg HAdd.hAdd (hn_39)) (hn_55)) (by rw [hn_65]; exact z_59) ?_
      intro A_60 c_61 w_63 st_64
      have st_64' : St w w_63 [.sl A_60 c_61 n_62 (iv .u8 m_57) 5 1] := by rw [e_58, ← iv_append .u8 l_37 (gl l0 ((x_40).toNat))]; exact st_64
      refine WL.val Wanted.none (Runs.assign rfl) ?_
      refine WL.nil ?_
      refine QW.blk_n ?_
      refine QW.then_n ?_
      refine CW.region ?_
      refine WL.val Wanted.none (Runs.add rfl rfl rfl) ?_
      refine WL.val Wanted.none (Runs.move rfl) ?_
      refine WL.nil ?_
      exact QW.at [(2, .slice none 0 0), (6, .slice A_60 n_62 c_61), (25, .slice A0 n0 c0), (26, .int .i64 (l0.length : Int)), (27, .int .i64 (IntKind.i64.wrap (x_40 + 1)))] ⟨rfl, rfl, rfl, rfl, rfl, trivial⟩ ⟨A_60, c_61, n_62, m_57, IntKind.i64.wrap (x_40 + 1), rfl, H, hn_65, st_64'⟩
    · have h_45 : (decide (x_40 < (l0.length : Int))) = false := (decide_eq_false c_44)
      refine CW.cf rfl h_45 ?_
      refine CW.exit ?_
      refine QW.then_x ?_
      refine QW.then_x ?_
      refine QW.blk_x ?_
      refine QW.then_n ?_
      refine CW.seq ?_
      refine CW.region ?_
      refine WL.val Wanted.none (Runs.move rfl) ?_
      refine WL.val Wanted.none (Runs.assign rfl) ?_
      refine WL.nil ?_
      refine QW.then_n ?_
      refine CW.sub [(2, .slice A_35 n_38 c_36)] ⟨rfl, trivial⟩ ?_
      refine CW.ret ?_
      obtain rfl := H
      exact QW.ret1 rfl rfl ⟨A_35, c_36, n_38, hn_39, rfl, st_42.pick [0] (by decide)⟩

/-! ### digest_Pieces: function 16 -/
def digest_Pieces.rel (l0 : List (List Int)) (r0 : List Int) : Prop := (∃ (r_9 : List Int), slices_Concat_s_byte_byte.rel l0 r_9 ∧ (∃ (r_19 : List Int), digest_Of.rel r_9 r_19 ∧ r0 = r_19))
set_option maxHeartbeats 4000000 in
set_option maxRecDepth 100000 in
theorem digest_Pieces.calls (w : World) (l0 : List (List Int)) (A0 : Option Addr) (n0 : Nat) (c0 : Nat)  (hG0 : Src w (some ⟨0, 0, none⟩) (iv .u32 tab0)) (hs0 : RowsOf w .u8 A0 l0) (hn0 : n0 = l0.length) (hc0 : n0 ≤ c0) (r0 : List Int) (H : digest_Pieces.rel l0 r0) :
    Calls Tryd.prog 16 #[.slice A0 n0 c0] w fun e w' => r0.length = 32 ∧ e = .returned (.agg (iv .u8 r0).toArray) ∧ St w w' [] := by
  refine CW.enter Tryd.func16 rfl (n := 6) rfl [.slice A0 n0 c0] (Nat.le_of_ble_eq_true rfl) ?_
  refine CW.sub [(0, .slice A0 n0 c0)] ⟨rfl, trivial⟩ ?_
  have st0 : St w w [] := St.refl w
  refine CW.seq ?_
  refine CW.region ?_
  refine WL.alloc st0 arr25.zero ?_
  intro B_1 w_2 st_3
  replace st_3 : St w w_2 [.cells B_1 (iv .u8 (List.replicate 32 (0 : Int))) 25] := st_3
  refine WL.nil ?_
  refine QW.then_n ?_
  refine CW.seq ?_
  refine CW.region ?_
  refine WL.val Wanted.none (Runs.move rfl) ?_
  obtain ⟨r_9, hr_5, H⟩ := H
  refine WL.call Wanted.none ent23 rfl (slices_Concat_s_byte_byte.calls w_2 l0 A0 n0 c0 (hs0.ext st_3) (hn0) (hc0) r_9 hr_5) ?_
  rintro _ w_6 ⟨A_10, c_11, n_12, hn_13, rfl, sc_8⟩
  have st_7 : St w w_6 [.sl A_10 c_11 n_12 (iv .u8 r_9) 5 1, .cells B_1 (iv .u8 (List.replicate 32 (0 : Int))) 25] := st_3.call sc_8
  refine ⟨_, rfl, ?_⟩
  obtain ⟨r_19, hr_15, H⟩ := H
  refine WL.call Wanted.none ent14 rfl (digest_Of.calls w_6 r_9 A_10 n_12 c_11 (hG0.ext st_7) (st_7.src_sl (k := 0) rfl) (hn_13) (st_7.cap (i := 0) rfl) r_19 hr_15) ?_
  rintro _ w_16 ⟨hl_20, rfl, sc_18⟩
  have st_17 : St w w_16 [.sl A_10 c_11 n_12 (iv .u8 r_9) 5 1, .cells B_1 (iv .u8 (List.replicate 32 (0 : Int))) 25] := st_7.call sc_18
  refine ⟨_, rfl, ?_⟩
  refine WL.store_arr (i := 1) st_17 rfl arr25 rfl (by rw [iv_length]; exact (List.length_replicate ..)) hl_20 rfl ?_
  intro w_21 st_22
  replace st_22 : St w w_21 [.sl A_10 c_11 n_12 (iv .u8 r_9) 5 1, .cells B_1 (iv .u8 r_19) 25] := st_22
  refine WL.nil ?_
  refine QW.then_n ?_
  refine CW.ret ?_
  obtain rfl := H
  exact QW.retc rfl arr25 rfl (st_22.blk (i := 1) rfl) hl_20 ⟨hl_20, rfl, st_22.pick [] (by decide)⟩

/-! ### keys_Mac: function 8 -/
def keys_Mac.rel (l0 : List Int) (l1 : List Int) (r0 : List Int) : Prop := (((l0.length : Int) > 64 ∧ (∃ (r_15 : List Int), digest_Of.rel l0 r_15 ∧ (∃ (r_30 : List Int), keys_Mac_1.rel 54 r_15 r_30 ∧ (∃ (r_45 : List Int), digest_Pieces.rel ([r_30, l1] : List (List Int)) r_45 ∧ (∃ (r_60 : List Int), keys_Mac_1.rel 92 r_15 r_60 ∧ (∃ (r_75 : List Int), digest_Pieces.rel ([r_60, r_45] : List (List Int)) r_75 ∧ r0 = r_75)))))) ∨ (¬ ((l0.length : Int) > 64) ∧ (∃ (r_84 : List Int), keys_Mac_1.rel 54 l0 r_84 ∧ (∃ (r_99 : List Int), digest_Pieces.rel ([r_84, l1] : List (List Int)) r_99 ∧ (∃ (r_114 : List Int), keys_Mac_1.rel 92 l0 r_114 ∧ (∃ (r_129 : List Int), digest_Pieces.rel ([r_114, r_99] : List (List Int)) r_129 ∧ r0 = r_129))))))
set_option maxHeartbeats 4000000 in
set_option maxRecDepth 100000 in
theorem keys_Mac.calls (w : World) (l0 : List Int) (l1 : List Int) (A0 : Option Addr) (n0 : Nat) (c0 : Nat) (A1 : Option Addr) (n1 : Nat) (c1 : Nat)  (hG0 : Src w (some ⟨0, 0, none⟩) (iv .u32 tab0)) (hs0 : Src w A0 (iv .u8 l0)) (hn0 : n0 = l0.length) (hc0 : n0 ≤ c0) (hs1 : Src w A1 (iv .u8 l1)) (hn1 : n1 = l1.length) (hc1 : n1 ≤ c1) (r0 : List Int) (H : keys_Mac.rel l0 l1 r0) :
    Calls Tryd.prog 8 #[.slice A0 n0 c0, .slice A1 n1 c1] w fun e w' => r0.length = 32 ∧ e = .returned (.agg (iv .u8 r0).toArray) ∧ St w w' [] := by
  refine CW.enter Tryd.func8 rfl (n := 25) rfl [.slice A0 n0 c0, .slice A1 n1 c1] (Nat.le_of_ble_eq_true rfl) ?_
  refine CW.sub [(0, .slice A0 n0 c0), (1, .slice A1 n1 c1)] ⟨rfl, rfl, trivial⟩ ?_
  have st0 : St w w [] := St.refl w
  refine CW.seq ?_
  refine CW.region ?_
  refine WL.box st0 rfl rfl ?_
  intro B_1 w_2 st_3
  replace st_3 : St w w_2 [.cells B_1 [.slice A0 n0 c0] 22] := st_3
  refine WL.alloc st_3 arr25.zero ?_
  intro B_5 w_6 st_7
  replace st_7 : St w w_6 [.cells B_5 (iv .u8 (List.replicate 32 (0 : Int))) 25, .cells B_1 [.slice A0 n0 c0] 22] := st_7
  refine WL.nil ?_
  refine QW.then_n ?_
  refine CW.seq ?_
  refine CW.seq ?_
  refine CW.region ?_
  refine WL.val Wanted.none (Runs.load nagg22 rfl (st_7.cell (k := 1) rfl rfl)) ?_
  refine WL.val Wanted.none (Runs.len_sl Tryd.underlying22 rfl (by rw [hn0])) ?_
  refine WL.val Wanted.none (Runs.gtr rfl rfl rfl) ?_
  refine WL.nil ?_
  refine QW.then_n ?_
  rcases H with ⟨c_9, H⟩ | ⟨c_9, H⟩
  · have h_10 : (decide ((l0.length : Int) > 64)) = true := (decide_eq_true c_9)
    refine CW.ct rfl h_10 ?_
    refine CW.seq ?_
    refine CW.region ?_
    refine WL.val Wanted.none (Runs.load nagg22 rfl (st_7.cell (k := 1) rfl rfl)) ?_
    obtain ⟨r_15, hr_11, H⟩ := H
    refine WL.call Wanted.none ent14 rfl (digest_Of.calls w_6 l0 A0 n0 c0 (hG0.ext st_7) (hs0.ext st_7) (hn0) (hc0) r_15 hr_11) ?_
    rintro _ w_12 ⟨hl_16, rfl, sc_14⟩
    have st_13 : St w w_12 [.cells B_5 (iv .u8 (List.replicate 32 (0 : Int))) 25, .cells B_1 [.slice A0 n0 c0] 22] := st_7.call sc_14
    refine ⟨_, rfl, ?_⟩
    refine WL.alloc st_13 arr25.zero ?_
    intro B_17 w_18 st_19
    replace st_19 : St w w_18 [.cells B_17 (iv .u8 (List.replicate 32 (0 : Int))) 25, .cells B_5 (iv .u8 (List.replicate 32 (0 : Int))) 25, .cells B_1 [.slice A0 n0 c0] 22] := st_19
    refine WL.store_arr (i := 0) st_19 rfl arr25 rfl (by rw [iv_length]; exact (List.length_replicate ..)) hl_16 rfl ?_
    intro w_21 st_22
    replace st_22 : St w w_21 [.cells B_17 (iv .u8 r_15) 25, .cells B_5 (iv .u8 (List.replicate 32 (0 : Int))) 25, .cells B_1 [.slice A0 n0 c0] 22] := st_22
    refine WL.nil ?_
    refine QW.then_n ?_
    refine CW.sub [(1, .slice A1 n1 c1), (2, .pointer (some ⟨B_1, 0, none⟩)), (4, .pointer (some ⟨B_5, 0, none⟩)), (5, .pointer (some ⟨B_17, 0, none⟩))] ⟨rfl, rfl, rfl, rfl, trivial⟩ ?_
    refine CW.region ?_
    refine WL.val Wanted.none (Runs.slice_arr arr25 rfl (by decide)) ?_
    refine WL.store_cells (i := 2) (j := 0) st_22 rfl cells22 rfl (Nat.zero_lt_succ _) rfl rfl ?_
    intro w_24 st_25
    replace st_25 : St w w_24 [.cells B_17 (iv .u8 r_15) 25, .cells B_5 (iv .u8 (List.replicate 32 (0 : Int))) 25, .cells B_1 [.slice (some ⟨B_17, 0, none⟩) 32 32] 22] := st_25
    refine WL.nil ?_
    refine QW.then_n ?_
    refine CW.seq ?_
    refine CW.region ?_
    refine WL.val Wanted.none (Runs.makeFunc rfl) ?_
    refine WL.val Wanted.none (Runs.assign rfl) ?_
    refine WL.nil ?_
    refine QW.then_n ?_
    refine CW.seq ?_
    refine CW.region ?_
    refine WL.val Wanted.none (Runs.move rfl) ?_
    obtain ⟨r_30, hr_26, H⟩ := H
    refine WL.callv Wanted.none ent15 rfl rfl (keys_Mac_1.calls w_24 54 r_15 B_1 (some ⟨B_17, 0, none⟩) 32 32 (st_25.src_blk (i := 0) rfl) ((hl_16).symm) (Nat.le_refl _) (st_25.cell (k := 2) rfl rfl) r_30 hr_26) ?_
    rintro _ w_27 ⟨A_31, c_32, n_33, hn_34, rfl, sc_29⟩
    have st_28 : St w w_27 [.sl A_31 c_32 n_33 (iv .u8 r_30) 5 1, .cells B_17 (iv .u8 r_15) 25, .cells B_5 (iv .u8 (List.replicate 32 (0 : Int))) 25, .cells B_1 [.slice (some ⟨B_17, 0, none⟩) 32 32] 22] := st_25.call sc_29
    refine ⟨_, rfl, ?_⟩
    refine WL.val Wanted.none (Runs.move rfl) ?_
    refine WL.buildSl [.slice A_31 n_33 c_32, .slice A1 n1 c1] st_28 Tryd.underlying56 elem22 rfl rfl (by decide) (by decide) (by simp [Value.cells]) ?_
    intro B_36 w_37 st_38
    replace st_38 : St w w_37 [.sl (some ⟨B_36, 0, none⟩) 2 2 [.slice A_31 n_33 c_32, .slice A1 n1 c1] 22 1, .sl A_31 c_32 n_33 (iv .u8 r_30) 5 1, .cells B_17 (iv .u8 r_15) 25, .cells B_5 (iv .u8 (List.replicate 32 (0 : Int))) 25, .cells B_1 [.slice (some ⟨B_17, 0, none⟩) 32 32] 22] := st_38
    have hr_40 : RowsOf w_37 .u8 (some ⟨B_36, 0, none⟩) ([r_30, l1] : List (List Int)) := RowsOf.lit (st_38.src_sl (k := 0) rfl) rfl (fun j hj => by match j, hj with | 0, _ => exact ⟨_, _, _, rfl, hn_34, st_38.cap (i := 1) rfl, st_38.src_sl (k := 1) rfl⟩ | 1, _ => exact ⟨_, _, _, rfl, hn1, hc1, hs1.ext st_38⟩ | j + 2, hj => exact absurd (show j + 2 < 2 from hj) (by omega))
    obtain ⟨r_45, hr_41, H⟩ := H
    refine WL.call Wanted.none ent16 rfl (digest_Pieces.calls w_37 ([r_30, l1] : List (List Int)) (some ⟨B_36, 0, none⟩) 2 2 (hG0.ext st_38) (hr_40) (rfl) (Nat.le_refl _) r_45 hr_41) ?_
    rintro _ w_42 ⟨hl_46, rfl, sc_44⟩
    have st_43 : St w w_42 [.sl (some ⟨B_36, 0, none⟩) 2 2 [.slice A_31 n_33 c_32, .slice A1 n1 c1] 22 1, .sl A_31 c_32 n_33 (iv .u8 r_30) 5 1, .cells B_17 (iv .u8 r_15) 25, .cells B_5 (iv .u8 (List.replicate 32 (0 : Int))) 25, .cells B_1 [.slice (some ⟨B_17, 0, none⟩) 32 32] 22] := st_38.call sc_44
    refine ⟨_, rfl, ?_⟩
    refine WL.alloc st_43 arr25.zero ?_
    intro B_47 w_48 st_49
    replace st_49 : St w w_48 [.cells B_47 (iv .u8 (List.replicate 32 (0 : Int))) 25, .sl (some ⟨B_36, 0, none⟩) 2 2 [.slice A_31 n_33 c_32, .slice A1 n1 c1] 22 1, .sl A_31 c_32 n_33 (iv .u8 r_30) 5 1, .cells B_17 (iv .u8 r_15) 25, .cells B_5 (iv .u8 (List.replicate 32 (0 : Int))) 25, .cells B_1 [.slice (some ⟨B_17, 0, none⟩) 32 32] 22] := st_49
    refine WL.store_arr (i := 0) st_49 rfl arr25 rfl (by rw [iv_length]; exact (List.length_replicate ..)) hl_46 rfl ?_
    intro w_51 st_52
    replace st_52 : St w w_51 [.cells B_47 (iv .u8 r_45) 25, .sl (some ⟨B_36, 0, none⟩) 2 2 [.slice A_31 n_33 c_32, .slice A1 n1 c1] 22 1, .sl A_31 c_32 n_33 (iv .u8 r_30) 5 1, .cells B_17 (iv .u8 r_15) 25, .cells B_5 (iv .u8 (List.replicate 32 (0 : Int))) 25, .cells B_1 [.slice (some ⟨B_17, 0, none⟩) 32 32] 22] := st_52
    refine WL.nil ?_
    refine QW.then_n ?_
    refine CW.sub [(4, .pointer (some ⟨B_5, 0, none⟩)), (6, .func (.func 15) #[] #[.pointer (some ⟨B_1, 0, none⟩)]), (7, .pointer (some ⟨B_47, 0, none⟩))] ⟨rfl, rfl, rfl, trivial⟩ ?_
    refine CW.seq ?_
    refine CW.region_aw wide st_52 (fun w_54 st_55 => ?_)
    refine AW.take 0 rfl (by kernel_rfl) (by kernel_rfl) (by kernel_rfl) Wanted.none (fun _ => (Runs.move rfl)) ?_
    refine AW.take 2 rfl (by kernel_rfl) (by kernel_rfl) (by kernel_rfl) Wanted.none (fun _ => (Runs.slice_arr arr25 rfl (by decide))) ?_
    refine AW.step 1 rfl (by kernel_rfl) ?_
    obtain ⟨r_60, hr_56, H⟩ := H
    refine WL.callv Wanted.none ent15 rfl rfl (keys_Mac_1.calls w_54 92 r_15 B_1 (some ⟨B_17, 0, none⟩) 32 32 (st_55.src_blk (i := 3) rfl) ((hl_16).symm) (Nat.le_refl _) (st_55.cell (k := 5) rfl rfl) r_60 hr_56) ?_
    rintro _ w_57 ⟨A_61, c_62, n_63, hn_64, rfl, sc_59⟩
    have st_58 : St w w_57 [.sl A_61 c_62 n_63 (iv .u8 r_60) 5 1, .cells B_47 (iv .u8 r_45) 25, .sl (some ⟨B_36, 0, none⟩) 2 2 [.slice A_31 n_33 c_32, .slice A1 n1 c1] 22 1, .sl A_31 c_32 n_33 (iv .u8 r_30) 5 1, .cells B_17 (iv .u8 r_15) 25, .cells B_5 (iv .u8 (List.replicate 32 (0 : Int))) 25, .cells B_1 [.slice (some ⟨B_17, 0, none⟩) 32 32] 22] := st_55.call sc_59
    refine ⟨_, rfl, ?_⟩
    refine WL.nil ?_
    refine AW.back ?_
    refine AW.step 3 rfl (by kernel_rfl) ?_
    refine WL.buildSl [.slice A_61 n_63 c_62, .slice (some ⟨B_47, 0, none⟩) 32 32] st_58 Tryd.underlying56 elem22 rfl rfl (by decide) (by decide) (by simp [Value.cells]) ?_
    intro B_66 w_67 st_68
    replace st_68 : St w w_67 [.sl (some ⟨B_66, 0, none⟩) 2 2 [.slice A_61 n_63 c_62, .slice (some ⟨B_47, 0, none⟩) 32 32] 22 1, .sl A_61 c_62 n_63 (iv .u8 r_60) 5 1, .cells B_47 (iv .u8 r_45) 25, .sl (some ⟨B_36, 0, none⟩) 2 2 [.slice A_31 n_33 c_32, .slice A1 n1 c1] 22 1, .sl A_31 c_32 n_33 (iv .u8 r_30) 5 1, .cells B_17 (iv .u8 r_15) 25, .cells B_5 (iv .u8 (List.replicate 32 (0 : Int))) 25, .cells B_1 [.slice (some ⟨B_17, 0, none⟩) 32 32] 22] := st_68
    refine WL.nil ?_
    refine AW.back ?_
    refine AW.step 4 rfl (by kernel_rfl) ?_
    have hr_70 : RowsOf w_67 .u8 (some ⟨B_66, 0, none⟩) ([r_60, r_45] : List (List Int)) := RowsOf.lit (st_68.src_sl (k := 0) rfl) rfl (fun j hj => by match j, hj with | 0, _ => exact ⟨_, _, _, rfl, hn_64, st_68.cap (i := 1) rfl, st_68.src_sl (k := 1) rfl⟩ | 1, _ => exact ⟨_, _, _, rfl, (hl_46).symm, Nat.le_refl _, st_68.src_blk (i := 2) rfl⟩ | j + 2, hj => exact absurd (show j + 2 < 2 from hj) (by omega))
    obtain ⟨r_75, hr_71, H⟩ := H
    refine WL.call Wanted.none ent16 rfl (digest_Pieces.calls w_67 ([r_60, r_45] : List (List Int)) (some ⟨B_66, 0, none⟩) 2 2 (hG0.ext st_68) (hr_70) (rfl) (Nat.le_refl _) r_75 hr_71) ?_
    rintro _ w_72 ⟨hl_76, rfl, sc_74⟩
    have st_73 : St w w_72 [.sl (some ⟨B_66, 0, none⟩) 2 2 [.slice A_61 n_63 c_62, .slice (some ⟨B_47, 0, none⟩) 32 32] 22 1, .sl A_61 c_62 n_63 (iv .u8 r_60) 5 1, .cells B_47 (iv .u8 r_45) 25, .sl (some ⟨B_36, 0, none⟩) 2 2 [.slice A_31 n_33 c_32, .slice A1 n1 c1] 22 1, .sl A_31 c_32 n_33 (iv .u8 r_30) 5 1, .cells B_17 (iv .u8 r_15) 25, .cells B_5 (iv .u8 (List.replicate 32 (0 : Int))) 25, .cells B_1 [.slice (some ⟨B_17, 0, none⟩) 32 32] 22] := st_68.call sc_74
    refine ⟨_, rfl, ?_⟩
    refine WL.nil ?_
    refine AW.back ?_
    refine AW.step 5 rfl (by kernel_rfl) ?_
    refine WL.store_arr (i := 6) st_73 rfl arr25 rfl (by rw [iv_length]; exact (List.length_replicate ..)) hl_76 rfl ?_
    intro w_77 st_78
    replace st_78 : St w w_77 [.sl (some ⟨B_66, 0, none⟩) 2 2 [.slice A_61 n_63 c_62, .slice (some ⟨B_47, 0, none⟩) 32 32] 22 1, .sl A_61 c_62 n_63 (iv .u8 r_60) 5 1, .cells B_47 (iv .u8 r_45) 25, .sl (some ⟨B_36, 0, none⟩) 2 2 [.slice A_31 n_33 c_32, .slice A1 n1 c1] 22 1, .sl A_31 c_32 n_33 (iv .u8 r_30) 5 1, .cells B_17 (iv .u8 r_15) 25, .cells B_5 (iv .u8 r_75) 25, .cells B_1 [.slice (some ⟨B_17, 0, none⟩) 32 32] 22] := st_78
    refine WL.nil ?_
    refine AW.back ?_
    refine AW.done (by kernel_rfl) ?_
    refine QW.then_n ?_
    refine CW.sub [(4, .pointer (some ⟨B_5, 0, none⟩))] ⟨rfl, trivial⟩ ?_
    refine CW.ret ?_
    obtain rfl := H
    exact QW.retc rfl arr25 rfl (st_78.blk (i := 6) rfl) hl_76 ⟨hl_76, rfl, st_78.pick [] (by decide)⟩
  · have h_10 : (decide ((l0.length : Int) > 64)) = false := (decide_eq_false c_9)
    refine CW.cf rfl h_10 ?_
    refine CW.skip ?_
    refine QW.then_n ?_
    refine CW.seq ?_
    refine CW.region ?_
    refine WL.val Wanted.none (Runs.makeFunc rfl) ?_
    refine WL.val Wanted.none (Runs.assign rfl) ?_
    refine WL.nil ?_
    refine QW.then_n ?_
    refine CW.sub [(1, .slice A1 n1 c1), (4, .pointer (some ⟨B_5, 0, none⟩)), (6, .func (.func 15) #[] #[.pointer (some ⟨B_1, 0, none⟩)])] ⟨rfl, rfl, rfl, trivial⟩ ?_
    refine CW.seq ?_
    refine CW.region ?_
    refine WL.val Wanted.none (Runs.move rfl) ?_
    obtain ⟨r_84, hr_80, H⟩ := H
    refine WL.callv Wanted.none ent15 rfl rfl (keys_Mac_1.calls w_6 54 l0 B_1 A0 n0 c0 (hs0.ext st_7) (hn0) (hc0) (st_7.cell (k := 1) rfl rfl) r_84 hr_80) ?_
    rintro _ w_81 ⟨A_85, c_86, n_87, hn_88, rfl, sc_83⟩
    have st_82 : St w w_81 [.sl A_85 c_86 n_87 (iv .u8 r_84) 5 1, .cells B_5 (iv .u8 (List.replicate 32 (0 : Int))) 25, .cells B_1 [.slice A0 n0 c0] 22] := st_7.call sc_83
    refine ⟨_, rfl, ?_⟩
    refine WL.val Wanted.none (Runs.move rfl) ?_
    refine WL.buildSl [.slice A_85 n_87 c_86, .slice A1 n1 c1] st_82 Tryd.underlying56 elem22 rfl rfl (by decide) (by decide) (by simp [Value.cells]) ?_
    intro B_90 w_91 st_92
    replace st_92 : St w w_91 [.sl (some ⟨B_90, 0, none⟩) 2 2 [.slice A_85 n_87 c_86, .slice A1 n1 c1] 22 1, .sl A_85 c_86 n_87 (iv .u8 r_84) 5 1, .cells B_5 (iv .u8 (List.replicate 32 (0 : Int))) 25, .cells B_1 [.slice A0 n0 c0] 22] := st_92
    have hr_94 : RowsOf w_91 .u8 (some ⟨B_90, 0, none⟩) ([r_84, l1] : List (List Int)) := RowsOf.lit (st_92.src_sl (k := 0) rfl) rfl (fun j hj => by match j, hj with | 0, _ => exact ⟨_, _, _, rfl, hn_88, st_92.cap (i := 1) rfl, st_92.src_sl (k := 1) rfl⟩ | 1, _ => exact ⟨_, _, _, rfl, hn1, hc1, hs1.ext st_92⟩ | j + 2, hj => exact absurd (show j + 2 < 2 from hj) (by omega))
    obtain ⟨r_99, hr_95, H⟩ := H
    refine WL.call Wanted.none ent16 rfl (digest_Pieces.calls w_91 ([r_84, l1] : List (List Int)) (some ⟨B_90, 0, none⟩) 2 2 (hG0.ext st_92) (hr_94) (rfl) (Nat.le_refl _) r_99 hr_95) ?_
    rintro _ w_96 ⟨hl_100, rfl, sc_98⟩
    have st_97 : St w w_96 [.sl (some ⟨B_90, 0, none⟩) 2 2 [.slice A_85 n_87 c_86, .slice A1 n1 c1] 22 1, .sl A_85 c_86 n_87 (iv .u8 r_84) 5 1, .cells B_5 (iv .u8 (List.replicate 32 (0 : Int))) 25, .cells B_1 [.slice A0 n0 c0] 22] := st_92.call sc_98
    refine ⟨_, rfl, ?_⟩
    refine WL.alloc st_97 arr25.zero ?_
    intro B_101 w_102 st_103
    replace st_103 : St w w_102 [.cells B_101 (iv .u8 (List.replicate 32 (0 : Int))) 25, .sl (some ⟨B_90, 0, none⟩) 2 2 [.slice A_85 n_87 c_86, .slice A1 n1 c1] 22 1, .sl A_85 c_86 n_87 (iv .u8 r_84) 5 1, .cells B_5 (iv .u8 (List.replicate 32 (0 : Int))) 25, .cells B_1 [.slice A0 n0 c0] 22] := st_103
    refine WL.store_arr (i := 0) st_103 rfl arr25 rfl (by rw [iv_length]; exact (List.length_replicate ..)) hl_100 rfl ?_
    intro w_105 st_106
    replace st_106 : St w w_105 [.cells B_101 (iv .u8 r_99) 25, .sl (some ⟨B_90, 0, none⟩) 2 2 [.slice A_85 n_87 c_86, .slice A1 n1 c1] 22 1, .sl A_85 c_86 n_87 (iv .u8 r_84) 5 1, .cells B_5 (iv .u8 (List.replicate 32 (0 : Int))) 25, .cells B_1 [.slice A0 n0 c0] 22] := st_106
    refine WL.nil ?_
    refine QW.then_n ?_
    refine CW.sub [(4, .pointer (some ⟨B_5, 0, none⟩)), (6, .func (.func 15) #[] #[.pointer (some ⟨B_1, 0, none⟩)]), (7, .pointer (some ⟨B_101, 0, none⟩))] ⟨rfl, rfl, rfl, trivial⟩ ?_
    refine CW.seq ?_
    refine CW.region_aw wide st_106 (fun w_108 st_109 => ?_)
    refine AW.take 0 rfl (by kernel_rfl) (by kernel_rfl) (by kernel_rfl) Wanted.none (fun _ => (Runs.move rfl)) ?_
    refine AW.take 2 rfl (by kernel_rfl) (by kernel_rfl) (by kernel_rfl) Wanted.none (fun _ => (Runs.slice_arr arr25 rfl (by decide))) ?_
    refine AW.step 1 rfl (by kernel_rfl) ?_
    obtain ⟨r_114, hr_110, H⟩ := H
    refine WL.callv Wanted.none ent15 rfl rfl (keys_Mac_1.calls w_108 92 l0 B_1 A0 n0 c0 (hs0.ext st_109) (hn0) (hc0) (st_109.cell (k := 4) rfl rfl) r_114 hr_110) ?_
    rintro _ w_111 ⟨A_115, c_116, n_117, hn_118, rfl, sc_113⟩
    have st_112 : St w w_111 [.sl A_115 c_116 n_117 (iv .u8 r_114) 5 1, .cells B_101 (iv .u8 r_99) 25, .sl (some ⟨B_90, 0, none⟩) 2 2 [.slice A_85 n_87 c_86, .slice A1 n1 c1] 22 1, .sl A_85 c_86 n_87 (iv .u8 r_84) 5 1, .cells B_5 (iv .u8 (List.replicate 32 (0 : Int))) 25, .cells B_1 [.slice A0 n0 c0] 22] := st_109.call sc_113
    refine ⟨_, rfl, ?_⟩
    refine WL.nil ?_
    refine AW.back ?_
    refine AW.step 3 rfl (by kernel_rfl) ?_
    refine WL.buildSl [.slice A_115 n_117 c_116, .slice (some ⟨B_101, 0, none⟩) 32 32] st_112 Tryd.underlying56 elem22 rfl rfl (by decide) (by decide) (by simp [Value.cells]) ?_
    intro B_120 w_121 st_122
    replace st_122 : St w w_121 [.sl (some ⟨B_120, 0, none⟩) 2 2 [.slice A_115 n_117 c_116, .slice (some ⟨B_101, 0, none⟩) 32 32] 22 1, .sl A_115 c_116 n_117 (iv .u8 r_114) 5 1, .cells B_101 (iv .u8 r_99) 25, .sl (some ⟨B_90, 0, none⟩) 2 2 [.slice A_85 n_87 c_86, .slice A1 n1 c1] 22 1, .sl A_85 c_86 n_87 (iv .u8 r_84) 5 1, .cells B_5 (iv .u8 (List.replicate 32 (0 : Int))) 25, .cells B_1 [.slice A0 n0 c0] 22] := st_122
    refine WL.nil ?_
    refine AW.back ?_
    refine AW.step 4 rfl (by kernel_rfl) ?_
    have hr_124 : RowsOf w_121 .u8 (some ⟨B_120, 0, none⟩) ([r_114, r_99] : List (List Int)) := RowsOf.lit (st_122.src_sl (k := 0) rfl) rfl (fun j hj => by match j, hj with | 0, _ => exact ⟨_, _, _, rfl, hn_118, st_122.cap (i := 1) rfl, st_122.src_sl (k := 1) rfl⟩ | 1, _ => exact ⟨_, _, _, rfl, (hl_100).symm, Nat.le_refl _, st_122.src_blk (i := 2) rfl⟩ | j + 2, hj => exact absurd (show j + 2 < 2 from hj) (by omega))
    obtain ⟨r_129, hr_125, H⟩ := H
    refine WL.call Wanted.none ent16 rfl (digest_Pieces.calls w_121 ([r_114, r_99] : List (List Int)) (some ⟨B_120, 0, none⟩) 2 2 (hG0.ext st_122) (hr_124) (rfl) (Nat.le_refl _) r_129 hr_125) ?_
    rintro _ w_126 ⟨hl_130, rfl, sc_128⟩
    have st_127 : St w w_126 [.sl (some ⟨B_120, 0, none⟩) 2 2 [.slice A_115 n_117 c_116, .slice (some ⟨B_101, 0, none⟩) 32 32] 22 1, .sl A_115 c_116 n_117 (iv .u8 r_114) 5 1, .cells B_101 (iv .u8 r_99) 25, .sl (some ⟨B_90, 0, none⟩) 2 2 [.slice A_85 n_87 c_86, .slice A1 n1 c1] 22 1, .sl A_85 c_86 n_87 (iv .u8 r_84) 5 1, .cells B_5 (iv .u8 (List.replicate 32 (0 : Int))) 25, .cells B_1 [.slice A0 n0 c0] 22] := st_122.call sc_128
    refine ⟨_, rfl, ?_⟩
    refine WL.nil ?_
    refine AW.back ?_
    refine AW.step 5 rfl (by kernel_rfl) ?_
    refine WL.store_arr (i := 5) st_127 rfl arr25 rfl (by rw [iv_length]; exact (List.length_replicate ..)) hl_130 rfl ?_
    intro w_131 st_132
    replace st_132 : St w w_131 [.sl (some ⟨B_120, 0, none⟩) 2 2 [.slice A_115 n_117 c_116, .slice (some ⟨B_101, 0, none⟩) 32 32] 22 1, .sl A_115 c_116 n_117 (iv .u8 r_114) 5 1, .cells B_101 (iv .u8 r_99) 25, .sl (some ⟨B_90, 0, none⟩) 2 2 [.slice A_85 n_87 c_86, .slice A1 n1 c1] 22 1, .sl A_85 c_86 n_87 (iv .u8 r_84) 5 1, .cells B_5 (iv .u8 r_129) 25, .cells B_1 [.slice A0 n0 c0] 22] := st_132
    refine WL.nil ?_
    refine AW.back ?_
    refine AW.done (by kernel_rfl) ?_
    refine QW.then_n ?_
    refine CW.sub [(4, .pointer (some ⟨B_5, 0, none⟩))] ⟨rfl, trivial⟩ ?_
    refine CW.ret ?_
    obtain rfl := H
    exact QW.retc rfl arr25 rfl (st_132.blk (i := 5) rfl) hl_130 ⟨hl_130, rfl, st_132.pick [] (by decide)⟩

/-! ### keys_Derive: function 10 -/
def keys_Derive.rel (l0 : List Int) (a1 : ByteArray) (r0 : List Int) (r1 : Int) : Prop := (((l0.length : Int) ≠ 32 ∧ (∃ m_7 : List Int, m_7 = List.replicate 32 (0 : Int) ∧ r0 = m_7 ∧ r1 = 1)) ∨ (¬ ((l0.length : Int) ≠ 32) ∧ (((a1.size : Int) < 1 ∧ (∃ m_14 : List Int, m_14 = List.replicate 32 (0 : Int) ∧ r0 = m_14 ∧ r1 = 1)) ∨ (¬ ((a1.size : Int) < 1) ∧ (((a1.size : Int) > 64 ∧ (∃ m_21 : List Int, m_21 = List.replicate 32 (0 : Int) ∧ r0 = m_21 ∧ r1 = 1)) ∨ (¬ ((a1.size : Int) > 64) ∧ (∃ m_39 : List Int, m_39 = (bl a1) ++ [1] ∧ (m_39.length ≤ 1099511627776 ∧ (∃ (r_58 : List Int), keys_Mac.rel l0 m_39 r_58 ∧ r0 = r_58 ∧ r1 = 0)))))))))
set_option maxHeartbeats 4000000 in
set_option maxRecDepth 100000 in
theorem keys_Derive.calls (w : World) (l0 : List Int) (a1 : ByteArray) (A0 : Option Addr) (n0 : Nat) (c0 : Nat)  (hG0 : Src w (some ⟨0, 0, none⟩) (iv .u32 tab0)) (hs0 : Src w A0 (iv .u8 l0)) (hn0 : n0 = l0.length) (hc0 : n0 ≤ c0) (r0 : List Int) (r1 : Int) (H : keys_Derive.rel l0 a1 r0 r1) :
    Calls Tryd.prog 10 #[.slice A0 n0 c0, .string a1] w fun e w' => r0.length = 32 ∧ e = .returned (.tuple #[.agg (iv .u8 r0).toArray, .int .i64 r1]) ∧ St w w' [] := by
  refine CW.enter Tryd.func10 rfl (n := 26) rfl [.slice A0 n0 c0, .string a1] (Nat.le_of_ble_eq_true rfl) ?_
  refine CW.sub [(0, .slice A0 n0 c0), (1, .string a1)] ⟨rfl, rfl, trivial⟩ ?_
  have st0 : St w w [] := St.refl w
  refine CW.seq ?_
  refine CW.region ?_
  refine WL.alloc st0 arr25.zero ?_
  intro B_1 w_2 st_3
  replace st_3 : St w w_2 [.cells B_1 (iv .u8 (List.replicate 32 (0 : Int))) 25] := st_3
  refine WL.val Wanted.none (Runs.assign rfl) ?_
  refine WL.nil ?_
  refine QW.then_n ?_
  refine CW.seq ?_
  refine CW.seq ?_
  refine CW.region ?_
  refine WL.val Wanted.none (Runs.move rfl) ?_
  refine WL.val Wanted.none (Runs.len_sl Tryd.underlying22 rfl (by rw [hn0])) ?_
  refine WL.val Wanted.none (Runs.neq rfl rfl rfl) ?_
  refine WL.val Wanted.none (Runs.move rfl) ?_
  rcases H with ⟨c_5, H⟩ | ⟨c_5, H⟩
  · have h_6 : ((l0.length : Int) != 32) = true := (bne_iff_ne.mpr c_5)
    refine WL.off ?_ ?_; exact Wanted.guard (dj := 9) (by rfl) (evb (by rfl) h_6) (by rfl)
    refine WL.off ?_ ?_; exact Wanted.guard (dj := 9) (by rfl) (evb (by rfl) h_6) (by rfl)
    refine WL.off ?_ ?_; exact Wanted.guard (dj := 9) (by rfl) (evb (by rfl) h_6) (by rfl)
    refine WL.val Wanted.none (Runs.pick_t (evb rfl h_6) rfl) ?_
    refine WL.val Wanted.none (Runs.move rfl) ?_
    refine WL.off ?_ ?_; exact Wanted.guard (dj := 14) (by rfl) (by rfl) (by rfl)
    refine WL.off ?_ ?_; exact Wanted.guard (dj := 14) (by rfl) (by rfl) (by rfl)
    refine WL.off ?_ ?_; exact Wanted.guard (dj := 14) (by rfl) (by rfl) (by rfl)
    refine WL.val Wanted.none (Runs.pick_t rfl rfl) ?_
    refine WL.nil ?_
    refine QW.then_n ?_
    refine CW.sub [(0, .slice A0 n0 c0), (1, .string a1), (4, .pointer (some ⟨B_1, 0, none⟩)), (5, .int .i64 0), (18, .bool true)] ⟨rfl, rfl, rfl, rfl, rfl, trivial⟩ ?_
    refine CW.ct rfl rfl ?_
    refine CW.seq ?_
    refine CW.region ?_
    obtain ⟨m_7, e_8, H⟩ := H
    refine WL.val Wanted.none (Runs.build_arr (xs := m_7) arr25 rfl rfl (by rw [e_8]; rfl)) ?_
    refine WL.store_arr (i := 0) st_3 rfl arr25 rfl (by rw [iv_length]; exact (List.length_replicate ..)) (by rw [e_8]; rfl) rfl ?_
    intro w_9 st_10
    replace st_10 : St w w_9 [.cells B_1 (iv .u8 m_7) 25] := st_10
    refine WL.val Wanted.none (Runs.assign rfl) ?_
    refine WL.nil ?_
    refine QW.then_n ?_
    refine CW.ret ?_
    refine QW.then_r ?_
    obtain ⟨rfl, rfl⟩ := H
    exact QW.retc1 rfl arr25 rfl (st_10.blk (i := 0) rfl) (by rw [e_8]; rfl) rfl ⟨(by rw [e_8]; rfl), rfl, st_10.pick [] (by decide)⟩
  · have h_6 : ((l0.length : Int) != 32) = false := (bne_eq_false_iff_eq.mpr (Decidable.not_not.mp c_5))
    refine WL.on ?_ ?_; exact Wanted.guard (dj := 9) (by rfl) (evb (by rfl) h_6) (by rfl)
    refine WL.val Wanted.none (Runs.move rfl) ?_
    refine WL.on ?_ ?_; exact Wanted.guard (dj := 9) (by rfl) (evb (by rfl) h_6) (by rfl)
    refine WL.val Wanted.none (Runs.len_str Tryd.underlying9 rfl) ?_
    refine WL.on ?_ ?_; exact Wanted.guard (dj := 9) (by rfl) (evb (by rfl) h_6) (by rfl)
    refine WL.val Wanted.none (Runs.lss rfl rfl rfl) ?_
    refine WL.val Wanted.none (Runs.pick_f (evb rfl h_6) rfl) ?_
    refine WL.val Wanted.none (Runs.move rfl) ?_
    rcases H with ⟨c_12, H⟩ | ⟨c_12, H⟩
    · have h_13 : (decide ((a1.size : Int) < 1)) = true := (decide_eq_true c_12)
      refine WL.off ?_ ?_; exact Wanted.guard (dj := 14) (by rfl) (evb (by rfl) h_13) (by rfl)
      refine WL.off ?_ ?_; exact Wanted.guard (dj := 14) (by rfl) (evb (by rfl) h_13) (by rfl)
      refine WL.off ?_ ?_; exact Wanted.guard (dj := 14) (by rfl) (evb (by rfl) h_13) (by rfl)
      refine WL.val Wanted.none (Runs.pick_t (evb rfl h_13) rfl) ?_
      refine WL.nil ?_
      refine QW.then_n ?_
      refine CW.sub [(0, .slice A0 n0 c0), (1, .string a1), (4, .pointer (some ⟨B_1, 0, none⟩)), (5, .int .i64 0), (18, .bool true)] ⟨rfl, rfl, rfl, rfl, rfl, trivial⟩ ?_
      refine CW.ct rfl rfl ?_
      refine CW.seq ?_
      refine CW.region ?_
      obtain ⟨m_14, e_15, H⟩ := H
      refine WL.val Wanted.none (Runs.build_arr (xs := m_14) arr25 rfl rfl (by rw [e_15]; rfl)) ?_
      refine WL.store_arr (i := 0) st_3 rfl arr25 rfl (by rw [iv_length]; exact (List.length_replicate ..)) (by rw [e_15]; rfl) rfl ?_
      intro w_16 st_17
      replace st_17 : St w w_16 [.cells B_1 (iv .u8 m_14) 25] := st_17
      refine WL.val Wanted.none (Runs.assign rfl) ?_
      refine WL.nil ?_
      refine QW.then_n ?_
      refine CW.ret ?_
      refine QW.then_r ?_
      obtain ⟨rfl, rfl⟩ := H
      exact QW.retc1 rfl arr25 rfl (st_17.blk (i := 0) rfl) (by rw [e_15]; rfl) rfl ⟨(by rw [e_15]; rfl), rfl, st_17.pick [] (by decide)⟩
    · have h_13 : (decide ((a1.size : Int) < 1)) = false := (decide_eq_false c_12)
      refine WL.on ?_ ?_; exact Wanted.guard (dj := 14) (by rfl) (evb (by rfl) h_13) (by rfl)
      refine WL.val Wanted.none (Runs.move rfl) ?_
      refine WL.on ?_ ?_; exact Wanted.guard (dj := 14) (by rfl) (evb (by rfl) h_13) (by rfl)
      refine WL.val Wanted.none (Runs.len_str Tryd.underlying9 rfl) ?_
      refine WL.on ?_ ?_; exact Wanted.guard (dj := 14) (by rfl) (evb (by rfl) h_13) (by rfl)
      refine WL.val Wanted.none (Runs.gtr rfl rfl rfl) ?_
      refine WL.val Wanted.none (Runs.pick_f (evb rfl h_13) rfl) ?_
      refine WL.nil ?_
      refine QW.then_n ?_
      refine CW.sub [(0, .slice A0 n0 c0), (1, .string a1), (4, .pointer (some ⟨B_1, 0, none⟩)), (5, .int .i64 0), (18, .bool (decide ((a1.size : Int) > 64)))] ⟨rfl, rfl, rfl, rfl, rfl, trivial⟩ ?_
      rcases H with ⟨c_19, H⟩ | ⟨c_19, H⟩
      · have h_20 : (decide ((a1.size : Int) > 64)) = true := (decide_eq_true c_19)
        refine CW.ct rfl h_20 ?_
        refine CW.seq ?_
        refine CW.region ?_
        obtain ⟨m_21, e_22, H⟩ := H
        refine WL.val Wanted.none (Runs.build_arr (xs := m_21) arr25 rfl rfl (by rw [e_22]; rfl)) ?_
        refine WL.store_arr (i := 0) st_3 rfl arr25 rfl (by rw [iv_length]; exact (List.length_replicate ..)) (by rw [e_22]; rfl) rfl ?_
        intro w_23 st_24
        replace st_24 : St w w_23 [.cells B_1 (iv .u8 m_21) 25] := st_24
        refine WL.val Wanted.none (Runs.assign rfl) ?_
        refine WL.nil ?_
        refine QW.then_n ?_
        refine CW.ret ?_
        refine QW.then_r ?_
        obtain ⟨rfl, rfl⟩ := H
        exact QW.retc1 rfl arr25 rfl (st_24.blk (i := 0) rfl) (by rw [e_22]; rfl) rfl ⟨(by rw [e_22]; rfl), rfl, st_24.pick [] (by decide)⟩
      · have h_20 : (decide ((a1.size : Int) > 64)) = false := (decide_eq_false c_19)
        refine CW.cf rfl h_20 ?_
        refine CW.skip ?_
        refine QW.then_n ?_
        refine CW.seq ?_
        refine CW.region ?_
        refine WL.val Wanted.none (Runs.move rfl) ?_
        refine WL.val Wanted.none (Runs.move rfl) ?_
        refine WL.bytes st_3 Tryd.underlying9 Tryd.underlying22 Tryd.underlying5 rfl ?_
        intro B_26 c_27 cs_28 w_29 h_30 h_31 h_32 st_33
        replace st_33 : St w w_29 [.obj B_26 (.cells cs_28.toArray 5 (c_27, c_27 + 1)), .cells B_1 (iv .u8 (List.replicate 32 (0 : Int))) 25] := st_33
        refine WL.buildSl [.int .u8 1] st_33 Tryd.underlying22 elem5 rfl rfl (by decide) (by decide) (by simp [Value.cells]) ?_
        intro B_35 w_36 st_37
        replace st_37 : St w w_36 [.sl (some ⟨B_35, 0, none⟩) 1 1 (iv .u8 [1]) 5 1, .obj B_26 (.cells cs_28.toArray 5 (c_27, c_27 + 1)), .cells B_1 (iv .u8 (List.replicate 32 (0 : Int))) 25] := st_37
        obtain ⟨m_39, e_40, H⟩ := H
        obtain ⟨z_41, H⟩ := H
        obtain ⟨n_42, hn_43⟩ : ∃ n_ : Nat, n_ = m_39.length := ⟨_, rfl⟩
        refine WL.append_obj (i := 1) (N := n_42) st_37 rfl Tryd.underlying22 elem5 rfl rfl (st_37.src_sl (k := 0) rfl) (by rw [iv_length]; exact (Eq.refl _).symm) (one_iv .u8 _) (by decide) (by rw [hn_43, e_40, List.length_append]; exact congr (congrArg HAdd.hAdd ((bl_length _))) (rfl)) (by rw [hn_43]; exact z_41) h_32 h_30 h_31 (.inr rfl) (List.cons_ne_nil _ _) ?_
        intro B_44 c_45 cs_46 fr_47 w_48 st_49 h_50 h_51 h_52 h_53
        have h_50' : cs_46.take n_42 = iv .u8 m_39 := by rw [h_50, e_40, ← iv_append]
        replace st_49 : St w w_48 [.sl (some ⟨B_35, 0, none⟩) 1 1 (iv .u8 [1]) 5 1, .obj B_44 (.cells cs_46.toArray 5 fr_47), .cells B_1 (iv .u8 (List.replicate 32 (0 : Int))) 25] := st_49
        obtain ⟨r_58, hr_54, H⟩ := H
        refine WL.call Wanted.none ent8 rfl (keys_Mac.calls w_48 l0 m_39 A0 n0 c0 (some ⟨B_44, 0, none⟩) n_42 c_45 (hG0.ext st_49) (hs0.ext st_49) (hn0) (hc0) (st_49.src_obj (i := 1) rfl h_50') (hn_43) (h_51) r_58 hr_54) ?_
        rintro _ w_55 ⟨hl_59, rfl, sc_57⟩
        have st_56 : St w w_55 [.sl (some ⟨B_35, 0, none⟩) 1 1 (iv .u8 [1]) 5 1, .obj B_44 (.cells cs_46.toArray 5 fr_47), .cells B_1 (iv .u8 (List.replicate 32 (0 : Int))) 25] := st_49.call sc_57
        refine ⟨_, rfl, ?_⟩
        refine WL.store_arr (i := 2) st_56 rfl arr25 rfl (by rw [iv_length]; exact (List.length_replicate ..)) hl_59 rfl ?_
        intro w_60 st_61
        replace st_61 : St w w_60 [.sl (some ⟨B_35, 0, none⟩) 1 1 (iv .u8 [1]) 5 1, .obj B_44 (.cells cs_46.toArray 5 fr_47), .cells B_1 (iv .u8 r_58) 25] := st_61
        refine WL.val Wanted.none (Runs.assign rfl) ?_
        refine WL.nil ?_
        refine QW.then_n ?_
        refine CW.sub [(4, .pointer (some ⟨B_1, 0, none⟩)), (5, .int .i64 0)] ⟨rfl, rfl, trivial⟩ ?_
        refine CW.ret ?_
        obtain ⟨rfl, rfl⟩ := H
        exact QW.retc1 rfl arr25 rfl (st_61.blk (i := 2) rfl) hl_59 rfl ⟨hl_59, rfl, st_61.pick [] (by decide)⟩

end Go.Proofs.YtlmbhggkahehjaaDoor
