/- Walks: each function computes what its relation says, and a call of it ends so. Printed by a program of this session (wip/gen). -/
import Derived.Test.YtekpnjhacnkgcaaDoorGx1
namespace Go.Proofs.YtekpnjhacnkgcaaDoor
open Go Go.Kr Go.RowKit
set_option linter.unusedVariables false
set_option linter.unusedSimpArgs false
/-! ### digest_words: function 41 -/
def digest_words.L2 (l0 : List Int) (x_12 : Int) (K_L1 : (List Int) → Int → Prop) : Nat → (List Int) → Int → Prop
  | 0, _, _ => False
  | kL2 + 1, m_31, x_33 => ((x_33 < ((prt l0 (IntKind.i64.wrap (4 * x_12)) (IntKind.i64.wrap ((IntKind.i64.wrap (4 * x_12)) + 4))).length : Int) ∧ ((0 ≤ x_33 ∧ x_33 < ((prt l0 (IntKind.i64.wrap (4 * x_12)) (IntKind.i64.wrap ((IntKind.i64.wrap (4 * x_12)) + 4))).length : Int)) ∧ ((0 ≤ x_12 ∧ x_12 < (64 : Int)) ∧ (∃ x_45 : Int, x_45 = IntKind.u32.wrap (gn (prt l0 (IntKind.i64.wrap (4 * x_12)) (IntKind.i64.wrap ((IntKind.i64.wrap (4 * x_12)) + 4))) ((x_33).toNat)) ∧ ((0 ≤ x_12 ∧ x_12 < (64 : Int)) ∧ (∃ m_49 : List Int, m_49 = List.set m_31 ((x_12).toNat) (bits .or .u32 (shlI .u32 (gn m_31 ((x_12).toNat)) 8) x_45) ∧ digest_words.L2 l0 x_12 K_L1 kL2 m_49 (IntKind.i64.wrap (x_33 + 1)))))))) ∨ (¬ (x_33 < ((prt l0 (IntKind.i64.wrap (4 * x_12)) (IntKind.i64.wrap ((IntKind.i64.wrap (4 * x_12)) + 4))).length : Int)) ∧ K_L1 m_31 (IntKind.i64.wrap (x_12 + 1))))
def digest_words.L3 (r0 : List Int) : Nat → (List Int) → Int → Prop
  | 0, _, _ => False
  | kL3 + 1, m_55, x_57 => ((x_57 < 64 ∧ ((0 ≤ (IntKind.i64.wrap (x_57 - 15)) ∧ (IntKind.i64.wrap (x_57 - 15)) < (64 : Int)) ∧ ((0 ≤ (IntKind.i64.wrap (x_57 - 2)) ∧ (IntKind.i64.wrap (x_57 - 2)) < (64 : Int)) ∧ ((0 ≤ (IntKind.i64.wrap (x_57 - 16)) ∧ (IntKind.i64.wrap (x_57 - 16)) < (64 : Int)) ∧ (∃ (r_75 : Int), digest_right.rel (gn m_55 ((IntKind.i64.wrap (x_57 - 15)).toNat)) 7 r_75 ∧ (∃ (r_80 : Int), digest_right.rel (gn m_55 ((IntKind.i64.wrap (x_57 - 15)).toNat)) 18 r_80 ∧ (∃ x_81 : Int, x_81 = bits .xor .u32 (bits .xor .u32 r_75 r_80) (shrI .u32 (gn m_55 ((IntKind.i64.wrap (x_57 - 15)).toNat)) 3) ∧ (∃ x_83 : Int, x_83 = IntKind.u32.wrap ((gn m_55 ((IntKind.i64.wrap (x_57 - 16)).toNat)) + x_81) ∧ ((0 ≤ (IntKind.i64.wrap (x_57 - 7)) ∧ (IntKind.i64.wrap (x_57 - 7)) < (64 : Int)) ∧ (∃ x_87 : Int, x_87 = IntKind.u32.wrap (x_83 + (gn m_55 ((IntKind.i64.wrap (x_57 - 7)).toNat))) ∧ (∃ (r_93 : Int), digest_right.rel (gn m_55 ((IntKind.i64.wrap (x_57 - 2)).toNat)) 17 r_93 ∧ (∃ (r_98 : Int), digest_right.rel (gn m_55 ((IntKind.i64.wrap (x_57 - 2)).toNat)) 19 r_98 ∧ (∃ x_99 : Int, x_99 = bits .xor .u32 (bits .xor .u32 r_93 r_98) (shrI .u32 (gn m_55 ((IntKind.i64.wrap (x_57 - 2)).toNat)) 10) ∧ ((0 ≤ x_57 ∧ x_57 < (64 : Int)) ∧ (∃ m_105 : List Int, m_105 = List.set m_55 ((x_57).toNat) (IntKind.u32.wrap (x_87 + x_99)) ∧ digest_words.L3 r0 kL3 m_105 (IntKind.i64.wrap (x_57 + 1))))))))))))))))) ∨ (¬ (x_57 < 64) ∧ r0 = m_55))
def digest_words.L1 (l0 : List Int) (r0 : List Int) : Nat → (List Int) → Int → Prop
  | 0, _, _ => False
  | kL1 + 1, m_10, x_12 => ((x_12 < 16 ∧ ((0 ≤ (IntKind.i64.wrap (4 * x_12)) ∧ (IntKind.i64.wrap (4 * x_12)) ≤ (IntKind.i64.wrap ((IntKind.i64.wrap (4 * x_12)) + 4)) ∧ (IntKind.i64.wrap ((IntKind.i64.wrap (4 * x_12)) + 4)) ≤ (l0.length : Int)) ∧ (∃ k_ : Nat, digest_words.L2 l0 x_12 (digest_words.L1 l0 r0 kL1) k_ m_10 0))) ∨ (¬ (x_12 < 16) ∧ (∃ k_ : Nat, digest_words.L3 r0 k_ m_10 16)))
def digest_words.rel (l0 : List Int) (r0 : List Int) : Prop := (∃ k_ : Nat, digest_words.L1 l0 r0 k_ (List.replicate 64 (0 : Int)) 0)
set_option maxHeartbeats 4000000 in
set_option maxRecDepth 100000 in
theorem digest_words.calls (w : World) (l0 : List Int) (A0 : Option Addr) (n0 : Nat) (c0 : Nat)  (hs0 : Src w A0 (iv .u8 l0)) (hn0 : n0 = l0.length) (hc0 : n0 ≤ c0) (r0 : List Int) (H : digest_words.rel l0 r0) :
    Calls Tryd.prog 41 #[.slice A0 n0 c0] w fun e w' => r0.length = 64 ∧ e = .returned (.agg (iv .u32 r0).toArray) ∧ St w w' [] := by
  refine CW.enter Tryd.func41 rfl (n := 78) rfl [.slice A0 n0 c0] (Nat.le_of_ble_eq_true rfl) ?_
  refine CW.sub [(0, .slice A0 n0 c0)] ⟨rfl, trivial⟩ ?_
  have st0 : St w w [] := St.refl w
  refine CW.seq ?_
  refine CW.region ?_
  refine WL.alloc st0 arr68.zero ?_
  intro B_1 w_2 st_3
  replace st_3 : St w w_2 [.cells B_1 (iv .u32 (List.replicate 64 (0 : Int))) 68] := st_3
  refine WL.nil ?_
  refine QW.then_n ?_
  refine CW.seq ?_
  refine CW.region ?_
  refine WL.alloc st_3 arr68.zero ?_
  intro B_5 w_6 st_7
  replace st_7 : St w w_6 [.cells B_5 (iv .u32 (List.replicate 64 (0 : Int))) 68, .cells B_1 (iv .u32 (List.replicate 64 (0 : Int))) 68] := st_7
  refine WL.nil ?_
  refine QW.then_n ?_
  refine CW.seq ?_
  refine CW.seq ?_
  refine CW.region ?_
  refine WL.val Wanted.none (Runs.move rfl) ?_
  refine WL.nil ?_
  refine QW.then_n ?_
  refine CW.block ?_
  obtain ⟨k_9, H⟩ := H
  refine CW.sub [(0, .slice A0 n0 c0), (2, .pointer (some ⟨B_1, 0, none⟩)), (3, .pointer (some ⟨B_5, 0, none⟩)), (10, .int .i64 0)] ⟨rfl, rfl, rfl, rfl, trivial⟩ ?_
  refine CW.loop (fun kL1 l_ w_ => ∃ (m_10 : List Int) (x_12 : Int), l_ = [(0, .slice A0 n0 c0), (2, .pointer (some ⟨B_1, 0, none⟩)), (3, .pointer (some ⟨B_5, 0, none⟩)), (10, .int .i64 x_12)] ∧ digest_words.L1 l0 r0 kL1 m_10 x_12 ∧ (m_10.length = 64) ∧ St w w_ [.cells B_5 (iv .u32 m_10) 68, .cells B_1 (iv .u32 (List.replicate 64 (0 : Int))) 68]) (k := k_9) ⟨List.replicate 64 (0 : Int), 0, rfl, H, (List.length_replicate ..), st_7⟩ (fun _ _ h => by obtain ⟨_, _, _, h, _⟩ := h; exact h.elim) ?_
  rintro kL1 l_15 w_13 ⟨m_10, x_12, rfl, H, hl_11, st_14⟩
  refine CW.seq ?_
  refine CW.region ?_
  refine WL.val Wanted.none (Runs.lss rfl rfl rfl) ?_
  refine WL.nil ?_
  refine QW.then_n ?_
  refine CW.seq ?_
  rcases H with ⟨c_16, H⟩ | ⟨c_16, H⟩
  · have h_17 : (decide (x_12 < 16)) = true := (decide_eq_true c_16)
    refine CW.ct rfl h_17 ?_
    refine CW.skip ?_
    refine QW.then_n ?_
    refine CW.seq ?_
    refine CW.block ?_
    refine CW.seq ?_
    refine CW.region ?_
    refine WL.val Wanted.none (Runs.move rfl) ?_
    refine WL.val Wanted.none (Runs.assign rfl) ?_
    refine WL.nil ?_
    refine QW.then_n ?_
    refine CW.seq ?_
    refine CW.region ?_
    refine WL.val Wanted.none (Runs.move rfl) ?_
    refine WL.val Wanted.none (Runs.move rfl) ?_
    refine WL.val Wanted.none (Runs.mul rfl rfl rfl) ?_
    refine WL.val Wanted.none (Runs.move rfl) ?_
    refine WL.val Wanted.none (Runs.mul rfl rfl rfl) ?_
    refine WL.val Wanted.none (Runs.add rfl rfl rfl) ?_
    obtain ⟨⟨p_18, q_19, r_20⟩, H⟩ := H
    have h_27 : n0 ≤ c0 := hc0
    have h_28 : (IntKind.i64.wrap ((IntKind.i64.wrap (4 * x_12)) + 4)) ≤ (c0 : Int) := by have := hn0; omega
    obtain ⟨A_21, e_24⟩ : ∃ B_, B_ = subA A0 (IntKind.i64.wrap (4 * x_12)).toNat c0 := ⟨_, rfl⟩
    obtain ⟨n_23, e_26⟩ : ∃ n_ : Nat, n_ = (prt l0 (IntKind.i64.wrap (4 * x_12)) (IntKind.i64.wrap ((IntKind.i64.wrap (4 * x_12)) + 4))).length := ⟨_, rfl⟩
    obtain ⟨c_22, e_25⟩ : ∃ c_ : Nat, c_ = c0 - (IntKind.i64.wrap (4 * x_12)).toNat := ⟨_, rfl⟩
    have h_29 : n_23 ≤ c_22 := by rw [e_26, prt_length p_18 q_19 r_20]; rw [e_25]; omega
    refine WL.val Wanted.none (Runs.slice_lh Tryd.underlying29 cells5 rfl rfl rfl p_18 q_19 h_28 e_24 (N := n_23) (by rw [e_26, prt_length p_18 q_19 r_20]) e_25) ?_
    refine WL.val Wanted.none (Runs.len_sl Tryd.underlying29 rfl (by rw [e_26])) ?_
    refine WL.val Wanted.none (Runs.move rfl) ?_
    refine WL.nil ?_
    refine QW.then_n ?_
    refine CW.block ?_
    obtain ⟨k_30, H⟩ := H
    refine CW.sub [(0, .slice A0 n0 c0), (2, .pointer (some ⟨B_1, 0, none⟩)), (3, .pointer (some ⟨B_5, 0, none⟩)), (10, .int .i64 x_12), (11, .bool (decide (x_12 < 16))), (12, .int .i64 x_12), (4, .int .i64 x_12), (13, .slice A0 n0 c0), (14, .int .i64 x_12), (15, .int .i64 (IntKind.i64.wrap (4 * x_12))), (16, .int .i64 x_12), (17, .int .i64 (IntKind.i64.wrap (4 * x_12))), (18, .int .i64 (IntKind.i64.wrap ((IntKind.i64.wrap (4 * x_12)) + 4))), (19, .slice A_21 n_23 c_22), (20, .int .i64 ((prt l0 (IntKind.i64.wrap (4 * x_12)) (IntKind.i64.wrap ((IntKind.i64.wrap (4 * x_12)) + 4))).length : Int)), (21, .int .i64 0)] ⟨rfl, rfl, rfl, rfl, rfl, rfl, rfl, rfl, rfl, rfl, rfl, rfl, rfl, rfl, rfl, rfl, trivial⟩ ?_
    refine CW.loop (fun kL2 l_ w_ => ∃ (m_31 : List Int) (x_33 : Int), l_ = [(0, .slice A0 n0 c0), (2, .pointer (some ⟨B_1, 0, none⟩)), (3, .pointer (some ⟨B_5, 0, none⟩)), (10, .int .i64 x_12), (11, .bool (decide (x_12 < 16))), (12, .int .i64 x_12), (4, .int .i64 x_12), (13, .slice A0 n0 c0), (14, .int .i64 x_12), (15, .int .i64 (IntKind.i64.wrap (4 * x_12))), (16, .int .i64 x_12), (17, .int .i64 (IntKind.i64.wrap (4 * x_12))), (18, .int .i64 (IntKind.i64.wrap ((IntKind.i64.wrap (4 * x_12)) + 4))), (19, .slice A_21 n_23 c_22), (20, .int .i64 ((prt l0 (IntKind.i64.wrap (4 * x_12)) (IntKind.i64.wrap ((IntKind.i64.wrap (4 * x_12)) + 4))).length : Int)), (21, .int .i64 x_33)] ∧ digest_words.L2 l0 x_12 (digest_words.L1 l0 r0 kL1) kL2 m_31 x_33 ∧ (m_31.length = 64) ∧ St w w_ [.cells B_5 (iv .u32 m_31) 68, .cells B_1 (iv .u32 (List.replicate 64 (0 : Int))) 68]) (k := k_30) ⟨m_10, 0, rfl, H, hl_11, st_14⟩ (fun _ _ h => by obtain ⟨_, _, _, h, _⟩ := h; exact h.elim) ?_
    rintro kL2 l_36 w_34 ⟨m_31, x_33, rfl, H, hl_32, st_35⟩
    refine CW.seq ?_
    refine CW.region ?_
    refine WL.val Wanted.none (Runs.lss rfl rfl rfl) ?_
    refine WL.nil ?_
    refine QW.then_n ?_
    refine CW.seq ?_
    rcases H with ⟨c_37, H⟩ | ⟨c_37, H⟩
    · have h_38 : (decide (x_33 < ((prt l0 (IntKind.i64.wrap (4 * x_12)) (IntKind.i64.wrap ((IntKind.i64.wrap (4 * x_12)) + 4))).length : Int))) = true := (decide_eq_true c_37)
      refine CW.ct rfl h_38 ?_
      refine CW.skip ?_
      refine QW.then_n ?_
      refine CW.seq ?_
      refine CW.block ?_
      refine CW.seq ?_
      refine CW.region ?_
      obtain ⟨⟨p_39, q_40⟩, H⟩ := H
      obtain ⟨a_41, e_42⟩ := ((hs0.ext st_35).sub_iv p_18 q_19 h_28 e_24).addr_iv ((x_33).toNat) (by omega)
      refine WL.val Wanted.none (Runs.indexAddr Tryd.underlying29 cells5 (by decide) rfl e_42 rfl p_39 (by rw [e_26]; exact q_40) (o := (x_33).toNat) (by first | rfl | omega)) ?_
      refine WL.val Wanted.none (Runs.load nagg5 rfl (((hs0.ext st_35).sub_iv p_18 q_19 h_28 e_24).cell_iv e_42 (by omega))) ?_
      refine WL.val Wanted.none (Runs.assign rfl) ?_
      refine WL.nil ?_
      refine QW.then_n ?_
      refine CW.region ?_
      refine WL.val Wanted.none (Runs.move rfl) ?_
      refine WL.val Wanted.none (Runs.move rfl) ?_
      obtain ⟨⟨p_43, q_44⟩, H⟩ := H
      refine WL.val Wanted.none (Runs.indexAddr_blk arr68 rfl rfl p_43 q_44 (o := (x_12).toNat) (by first | rfl | omega)) ?_
      refine WL.val Wanted.none (Runs.load nagg42 rfl (st_35.cell_iv (i := 0) rfl (by have := hl_32; omega))) ?_
      refine WL.val Wanted.none (Runs.shl rfl rfl (by decide) rfl) ?_
      refine WL.val Wanted.none (Runs.move rfl) ?_
      obtain ⟨x_45, e_46, H⟩ := H
      refine WL.val Wanted.none (Runs.conv Tryd.underlying42 ⟨_, Tryd.underlying5⟩ rfl e_46) ?_
      refine WL.val Wanted.none (Runs.bor rfl rfl rfl) ?_
      obtain ⟨⟨p_47, q_48⟩, H⟩ := H
      refine WL.val Wanted.none (Runs.indexAddr_blk arr68 rfl rfl p_47 q_48 (o := (x_12).toNat) (by first | rfl | omega)) ?_
      obtain ⟨m_49, e_50, H⟩ := H
      have hl_53 : m_49.length = 64 := by rw [e_50, List.length_set]; exact hl_32
      refine WL.store_cells (i := 0) st_35 rfl cells42 rfl (by rw [iv_length]; have := hl_32; omega) rfl rfl ?_
      intro w_51 st_52
      have st_52' : St w w_51 [.cells B_5 (iv .u32 m_49) 68, .cells B_1 (iv .u32 (List.replicate 64 (0 : Int))) 68] := by rw [e_50, ← iv_set .u32 m_31 ((x_12).toNat) (bits .or .u32 (shlI .u32 (gn m_31 ((x_12).toNat)) 8) x_45)]; exact st_52
      refine WL.nil ?_
      refine QW.blk_n ?_
      refine QW.then_n ?_
      refine CW.region ?_
      refine WL.val Wanted.none (Runs.add rfl rfl rfl) ?_
      refine WL.val Wanted.none (Runs.move rfl) ?_
      refine WL.nil ?_
      exact QW.at [(0, .slice A0 n0 c0), (2, .pointer (some ⟨B_1, 0, none⟩)), (3, .pointer (some ⟨B_5, 0, none⟩)), (10, .int .i64 x_12), (11, .bool (decide (x_12 < 16))), (12, .int .i64 x_12), (4, .int .i64 x_12), (13, .slice A0 n0 c0), (14, .int .i64 x_12), (15, .int .i64 (IntKind.i64.wrap (4 * x_12))), (16, .int .i64 x_12), (17, .int .i64 (IntKind.i64.wrap (4 * x_12))), (18, .int .i64 (IntKind.i64.wrap ((IntKind.i64.wrap (4 * x_12)) + 4))), (19, .slice A_21 n_23 c_22), (20, .int .i64 ((prt l0 (IntKind.i64.wrap (4 * x_12)) (IntKind.i64.wrap ((IntKind.i64.wrap (4 * x_12)) + 4))).length : Int)), (21, .int .i64 (IntKind.i64.wrap (x_33 + 1)))] ⟨rfl, rfl, rfl, rfl, rfl, rfl, rfl, rfl, rfl, rfl, rfl, rfl, rfl, rfl, rfl, rfl, trivial⟩ ⟨m_49, IntKind.i64.wrap (x_33 + 1), rfl, H, hl_53, st_52'⟩
    · have h_38 : (decide (x_33 < ((prt l0 (IntKind.i64.wrap (4 * x_12)) (IntKind.i64.wrap ((IntKind.i64.wrap (4 * x_12)) + 4))).length : Int))) = false := (decide_eq_false c_37)
      refine CW.cf rfl h_38 ?_
      refine CW.exit ?_
      refine QW.then_x ?_
      refine QW.then_x ?_
      refine QW.blk_x ?_
      refine QW.blk_n ?_
      refine QW.then_n ?_
      refine CW.region ?_
      refine WL.val Wanted.none (Runs.add rfl rfl rfl) ?_
      refine WL.val Wanted.none (Runs.move rfl) ?_
      refine WL.nil ?_
      exact QW.at [(0, .slice A0 n0 c0), (2, .pointer (some ⟨B_1, 0, none⟩)), (3, .pointer (some ⟨B_5, 0, none⟩)), (10, .int .i64 (IntKind.i64.wrap (x_12 + 1)))] ⟨rfl, rfl, rfl, rfl, trivial⟩ ⟨m_31, IntKind.i64.wrap (x_12 + 1), rfl, H, hl_32, st_35⟩
  · have h_17 : (decide (x_12 < 16)) = false := (decide_eq_false c_16)
    refine CW.cf rfl h_17 ?_
    refine CW.exit ?_
    refine QW.then_x ?_
    refine QW.then_x ?_
    refine QW.blk_x ?_
    refine QW.then_n ?_
    refine CW.seq ?_
    refine CW.seq ?_
    refine CW.region ?_
    refine WL.val Wanted.none (Runs.assign rfl) ?_
    refine WL.nil ?_
    refine QW.then_n ?_
    refine CW.block ?_
    obtain ⟨k_54, H⟩ := H
    refine CW.sub [(2, .pointer (some ⟨B_1, 0, none⟩)), (3, .pointer (some ⟨B_5, 0, none⟩)), (7, .int .i64 16)] ⟨rfl, rfl, rfl, trivial⟩ ?_
    refine CW.loop (fun kL3 l_ w_ => ∃ (m_55 : List Int) (x_57 : Int), l_ = [(2, .pointer (some ⟨B_1, 0, none⟩)), (3, .pointer (some ⟨B_5, 0, none⟩)), (7, .int .i64 x_57)] ∧ digest_words.L3 r0 kL3 m_55 x_57 ∧ (m_55.length = 64) ∧ St w w_ [.cells B_5 (iv .u32 m_55) 68, .cells B_1 (iv .u32 (List.replicate 64 (0 : Int))) 68]) (k := k_54) ⟨m_10, 16, rfl, H, hl_11, st_14⟩ (fun _ _ h => by obtain ⟨_, _, _, h, _⟩ := h; exact h.elim) ?_
    rintro kL3 l_60 w_58 ⟨m_55, x_57, rfl, H, hl_56, st_59⟩
    refine CW.seq ?_
    refine CW.seq ?_
    refine CW.region ?_
    refine WL.val Wanted.none (Runs.move rfl) ?_
    refine WL.val Wanted.none (Runs.lss rfl rfl rfl) ?_
    refine WL.nil ?_
    refine QW.then_n ?_
    rcases H with ⟨c_61, H⟩ | ⟨c_61, H⟩
    · have h_62 : (decide (x_57 < 64)) = true := (decide_eq_true c_61)
      refine CW.ct rfl h_62 ?_
      refine CW.skip ?_
      refine QW.then_n ?_
      refine CW.seq ?_
      refine CW.block ?_
      refine CW.seq ?_
      refine CW.region_qa wide (by kernel_rfl) st_59 ?_
      refine HL.val Wanted.none (fun wq sq => (Runs.move rfl)) ?_
      refine HL.val Wanted.none (fun wq sq => (Runs.sub rfl rfl rfl)) ?_
      obtain ⟨⟨p_63, q_64⟩, H⟩ := H
      refine HL.val Wanted.none (fun wq sq => (Runs.indexAddr_blk arr68 rfl rfl p_63 q_64 (o := (IntKind.i64.wrap (x_57 - 15)).toNat) (by first | rfl | omega))) ?_
      refine HL.val Wanted.none (fun wq sq => (Runs.load nagg42 rfl (sq.cell_iv (i := 0) rfl (by have := hl_56; omega)))) ?_
      refine HL.val Wanted.none (fun wq sq => (Runs.move rfl)) ?_
      refine HL.val Wanted.none (fun wq sq => (Runs.sub rfl rfl rfl)) ?_
      obtain ⟨⟨p_65, q_66⟩, H⟩ := H
      refine HL.val Wanted.none (fun wq sq => (Runs.indexAddr_blk arr68 rfl rfl p_65 q_66 (o := (IntKind.i64.wrap (x_57 - 2)).toNat) (by first | rfl | omega))) ?_
      refine HL.val Wanted.none (fun wq sq => (Runs.load nagg42 rfl (sq.cell_iv (i := 0) rfl (by have := hl_56; omega)))) ?_
      refine HL.val Wanted.none (fun wq sq => (Runs.assign rfl)) ?_
      refine HL.val Wanted.none (fun wq sq => (Runs.assign rfl)) ?_
      refine HL.nil (fun w_67 st_68 => ?_)
      refine WL.nil ?_
      refine QW.then_n ?_
      refine CW.region_qt 29 wide (by kernel_rfl) st_68 ?_
      refine HL.val Wanted.none (fun wq sq => (Runs.move rfl)) ?_
      refine HL.val Wanted.none (fun wq sq => (Runs.move rfl)) ?_
      refine HL.val Wanted.none (fun wq sq => (Runs.sub rfl rfl rfl)) ?_
      obtain ⟨⟨p_69, q_70⟩, H⟩ := H
      refine HL.val Wanted.none (fun wq sq => (Runs.indexAddr_blk arr68 rfl rfl p_69 q_70 (o := (IntKind.i64.wrap (x_57 - 16)).toNat) (by first | rfl | omega))) ?_
      refine HL.val Wanted.none (fun wq sq => (Runs.load nagg42 rfl (sq.cell_iv (i := 0) rfl (by have := hl_56; omega)))) ?_
      refine HL.val Wanted.none (fun wq sq => (Runs.move rfl)) ?_
      obtain ⟨r_75, hr_71, H⟩ := H
      refine HL.call Wanted.none ent42 rfl (fun wq sq => (digest_right.calls wq (gn m_55 ((IntKind.i64.wrap (x_57 - 15)).toNat)) 7 r_75 hr_71).mono (by rintro _ _ ⟨rfl, sc⟩; exact ⟨rfl, sq.call sc⟩)) ?_
      refine HL.val Wanted.none (fun wq sq => (Runs.move rfl)) ?_
      obtain ⟨r_80, hr_76, H⟩ := H
      refine HL.call Wanted.none ent42 rfl (fun wq sq => (digest_right.calls wq (gn m_55 ((IntKind.i64.wrap (x_57 - 15)).toNat)) 18 r_80 hr_76).mono (by rintro _ _ ⟨rfl, sc⟩; exact ⟨rfl, sq.call sc⟩)) ?_
      refine HL.val Wanted.none (fun wq sq => (Runs.bxor rfl rfl rfl)) ?_
      refine HL.val Wanted.none (fun wq sq => (Runs.move rfl)) ?_
      refine HL.val Wanted.none (fun wq sq => (Runs.shr rfl rfl (by decide) rfl)) ?_
      obtain ⟨x_81, e_82, H⟩ := H
      refine HL.val Wanted.none (fun wq sq => (Runs.bxor rfl rfl e_82)) ?_
      obtain ⟨x_83, e_84, H⟩ := H
      refine HL.val Wanted.none (fun wq sq => (Runs.add rfl rfl e_84)) ?_
      refine HL.val Wanted.none (fun wq sq => (Runs.move rfl)) ?_
      refine HL.val Wanted.none (fun wq sq => (Runs.sub rfl rfl rfl)) ?_
      obtain ⟨⟨p_85, q_86⟩, H⟩ := H
      refine HL.val Wanted.none (fun wq sq => (Runs.indexAddr_blk arr68 rfl rfl p_85 q_86 (o := (IntKind.i64.wrap (x_57 - 7)).toNat) (by first | rfl | omega))) ?_
      refine HL.val Wanted.none (fun wq sq => (Runs.load nagg42 rfl (sq.cell_iv (i := 0) rfl (by have := hl_56; omega)))) ?_
      obtain ⟨x_87, e_88, H⟩ := H
      refine HL.val Wanted.none (fun wq sq => (Runs.add rfl rfl e_88)) ?_
      refine HL.val Wanted.none (fun wq sq => (Runs.move rfl)) ?_
      obtain ⟨r_93, hr_89, H⟩ := H
      refine HL.call Wanted.none ent42 rfl (fun wq sq => (digest_right.calls wq (gn m_55 ((IntKind.i64.wrap (x_57 - 2)).toNat)) 17 r_93 hr_89).mono (by rintro _ _ ⟨rfl, sc⟩; exact ⟨rfl, sq.call sc⟩)) ?_
      refine HL.val Wanted.none (fun wq sq => (Runs.move rfl)) ?_
      obtain ⟨r_98, hr_94, H⟩ := H
      refine HL.call Wanted.none ent42 rfl (fun wq sq => (digest_right.calls wq (gn m_55 ((IntKind.i64.wrap (x_57 - 2)).toNat)) 19 r_98 hr_94).mono (by rintro _ _ ⟨rfl, sc⟩; exact ⟨rfl, sq.call sc⟩)) ?_
      refine HL.val Wanted.none (fun wq sq => (Runs.bxor rfl rfl rfl)) ?_
      refine HL.val Wanted.none (fun wq sq => (Runs.move rfl)) ?_
      refine HL.val Wanted.none (fun wq sq => (Runs.shr rfl rfl (by decide) rfl)) ?_
      obtain ⟨x_99, e_100, H⟩ := H
      refine HL.val Wanted.none (fun wq sq => (Runs.bxor rfl rfl e_100)) ?_
      refine HL.val Wanted.none (fun wq sq => (Runs.add rfl rfl rfl)) ?_
      obtain ⟨⟨p_101, q_102⟩, H⟩ := H
      refine HL.val Wanted.none (fun wq sq => (Runs.indexAddr_blk arr68 rfl rfl p_101 q_102 (o := (x_57).toNat) (by first | rfl | omega))) ?_
      refine HL.nil (fun w_103 st_104 => ?_)
      obtain ⟨m_105, e_106, H⟩ := H
      have hl_109 : m_105.length = 64 := by rw [e_106, List.length_set]; exact hl_56
      refine WL.store_cells (i := 0) st_104 rfl cells42 rfl (by rw [iv_length]; have := hl_56; omega) rfl rfl ?_
      intro w_107 st_108
      have st_108' : St w w_107 [.cells B_5 (iv .u32 m_105) 68, .cells B_1 (iv .u32 (List.replicate 64 (0 : Int))) 68] := by rw [e_106, ← iv_set .u32 m_55 ((x_57).toNat) (IntKind.u32.wrap (x_87 + x_99))]; exact st_108
      refine WL.nil ?_
      refine QW.blk_n ?_
      refine QW.then_n ?_
      refine CW.region ?_
      refine WL.val Wanted.none (Runs.move rfl) ?_
      refine WL.val Wanted.none (Runs.add rfl rfl rfl) ?_
      refine WL.val Wanted.none (Runs.assign rfl) ?_
      refine WL.nil ?_
      exact QW.at [(2, .pointer (some ⟨B_1, 0, none⟩)), (3, .pointer (some ⟨B_5, 0, none⟩)), (7, .int .i64 (IntKind.i64.wrap (x_57 + 1)))] ⟨rfl, rfl, rfl, trivial⟩ ⟨m_105, IntKind.i64.wrap (x_57 + 1), rfl, H, hl_109, st_108'⟩
    · have h_62 : (decide (x_57 < 64)) = false := (decide_eq_false c_61)
      refine CW.cf rfl h_62 ?_
      refine CW.exit ?_
      refine QW.then_x ?_
      refine QW.then_x ?_
      refine QW.blk_x ?_
      refine QW.then_n ?_
      refine CW.seq ?_
      refine CW.region ?_
      refine WL.val Wanted.none (Runs.load_arr arr68 rfl (st_59.blk (i := 0) rfl) hl_56) ?_
      refine WL.store_arr (i := 1) st_59 rfl arr68 rfl (by rw [iv_length]; exact (List.length_replicate ..)) hl_56 rfl ?_
      intro w_110 st_111
      replace st_111 : St w w_110 [.cells B_5 (iv .u32 m_55) 68, .cells B_1 (iv .u32 m_55) 68] := st_111
      refine WL.nil ?_
      refine QW.then_n ?_
      refine CW.ret ?_
      obtain rfl := H
      exact QW.retc rfl arr68 rfl (st_111.blk (i := 1) rfl) hl_56 ⟨hl_56, rfl, st_111.pick [] (by decide)⟩

/-! ### digest_state_mixed: function 39 -/
def digest_state_mixed.L2 (r0 : List Int) (m_82 : List Int) : Nat → (List Int) → Int → Prop
  | 0, _, _ => False
  | kL2 + 1, m_85, x_87 => ((x_87 < 8 ∧ ((0 ≤ x_87 ∧ x_87 < (8 : Int)) ∧ ((0 ≤ x_87 ∧ x_87 < (8 : Int)) ∧ (∃ x_97 : Int, x_97 = IntKind.u32.wrap ((gn m_85 ((x_87).toNat)) + (gn m_82 ((x_87).toNat))) ∧ ((0 ≤ x_87 ∧ x_87 < (8 : Int)) ∧ (∃ m_101 : List Int, m_101 = List.set m_85 ((x_87).toNat) x_97 ∧ digest_state_mixed.L2 r0 m_82 kL2 m_101 (IntKind.i64.wrap (x_87 + 1)))))))) ∨ (¬ (x_87 < 8) ∧ r0 = m_85))
def digest_state_mixed.L1 (l0 : List Int) (r0 : List Int) (r_15 : List Int) : Nat → Int → Int → Int → Int → Int → Int → Int → Int → Int → Prop
  | 0, _, _, _, _, _, _, _, _, _ => False
  | kL1 + 1, x_18, x_19, x_20, x_21, x_22, x_23, x_24, x_25, x_26 => ((x_26 < 64 ∧ ((0 ≤ x_26 ∧ x_26 < (64 : Int)) ∧ (∃ (r_38 : Int), digest_right.rel x_22 6 r_38 ∧ (∃ (r_43 : Int), digest_right.rel x_22 11 r_43 ∧ (∃ (r_48 : Int), digest_right.rel x_22 25 r_48 ∧ (∃ x_49 : Int, x_49 = IntKind.u32.wrap (x_25 + (bits .xor .u32 (bits .xor .u32 r_38 r_43) r_48)) ∧ (∃ x_51 : Int, x_51 = bits .xor .u32 (bits .and .u32 x_22 x_23) (bits .and .u32 (notI .u32 x_22) x_24) ∧ ((0 ≤ x_26 ∧ x_26 < (64 : Int)) ∧ (∃ x_55 : Int, x_55 = IntKind.u32.wrap ((IntKind.u32.wrap (x_49 + x_51)) + (gn tab0 ((x_26).toNat))) ∧ (∃ (r_63 : Int), digest_right.rel x_18 2 r_63 ∧ (∃ (r_68 : Int), digest_right.rel x_18 13 r_68 ∧ (∃ (r_73 : Int), digest_right.rel x_18 22 r_73 ∧ (∃ x_74 : Int, x_74 = bits .xor .u32 (bits .and .u32 x_18 x_19) (bits .and .u32 x_18 x_20) ∧ (∃ x_76 : Int, x_76 = IntKind.u32.wrap ((bits .xor .u32 (bits .xor .u32 r_63 r_68) r_73) + (bits .xor .u32 x_74 (bits .and .u32 x_19 x_20))) ∧ (∃ x_78 : Int, x_78 = IntKind.u32.wrap (x_21 + (IntKind.u32.wrap (x_55 + (gn r_15 ((x_26).toNat))))) ∧ (∃ x_80 : Int, x_80 = IntKind.u32.wrap ((IntKind.u32.wrap (x_55 + (gn r_15 ((x_26).toNat)))) + x_76) ∧ digest_state_mixed.L1 l0 r0 r_15 kL1 x_80 x_18 x_19 x_20 x_78 x_22 x_23 x_24 (IntKind.i64.wrap (x_26 + 1)))))))))))))))))) ∨ (¬ (x_26 < 64) ∧ (∃ m_82 : List Int, m_82 = [x_18, x_19, x_20, x_21, x_22, x_23, x_24, x_25] ∧ (∃ k_ : Nat, digest_state_mixed.L2 r0 m_82 k_ l0 0))))
def digest_state_mixed.rel (l0 : List Int) (l1 : List Int) (r0 : List Int) : Prop := (∃ (r_15 : List Int), digest_words.rel l1 r_15 ∧ (∃ k_ : Nat, digest_state_mixed.L1 l0 r0 r_15 k_ (gn l0 0) (gn l0 1) (gn l0 2) (gn l0 3) (gn l0 4) (gn l0 5) (gn l0 6) (gn l0 7) 0))
set_option maxHeartbeats 4000000 in
set_option maxRecDepth 100000 in
theorem digest_state_mixed.calls (w : World) (l0 : List Int) (l1 : List Int) (A1 : Option Addr) (n1 : Nat) (c1 : Nat)  (hG0 : Src w (some ⟨0, 0, none⟩) (iv .u32 tab0)) (hl0 : l0.length = 8) (hs1 : Src w A1 (iv .u8 l1)) (hn1 : n1 = l1.length) (hc1 : n1 ≤ c1) (r0 : List Int) (H : digest_state_mixed.rel l0 l1 r0) :
    Calls Tryd.prog 39 #[.agg (iv .u32 l0).toArray, .slice A1 n1 c1] w fun e w' => r0.length = 8 ∧ e = .returned (.agg (iv .u32 r0).toArray) ∧ St w w' [] := by
  refine CW.enter Tryd.func39 rfl (n := 120) rfl [.agg (iv .u32 l0).toArray, .slice A1 n1 c1] (Nat.le_of_ble_eq_true rfl) ?_
  refine CW.sub [(0, .agg (iv .u32 l0).toArray), (1, .slice A1 n1 c1)] ⟨rfl, rfl, trivial⟩ ?_
  have st0 : St w w [] := St.refl w
  refine CW.seq ?_
  refine CW.region ?_
  refine WL.box st0 rfl rfl ?_
  intro B_1 w_2 st_3
  replace st_3 : St w w_2 [.cells B_1 (iv .u32 l0) 72] := st_3
  refine WL.alloc st_3 arr72.zero ?_
  intro B_5 w_6 st_7
  replace st_7 : St w w_6 [.cells B_5 (iv .u32 (List.replicate 8 (0 : Int))) 72, .cells B_1 (iv .u32 l0) 72] := st_7
  refine WL.nil ?_
  refine QW.then_n ?_
  refine CW.seq ?_
  refine CW.region_qa wide (by kernel_rfl) st_7 ?_
  refine HL.val Wanted.none (fun wq sq => (Runs.indexAddr_blk arr72 rfl rfl (by decide) (by decide) (o := 0) (by first | rfl | omega))) ?_
  refine HL.val Wanted.none (fun wq sq => (Runs.load nagg42 rfl (sq.cell_iv (i := 1) rfl (by have := hl0; omega)))) ?_
  refine HL.val Wanted.none (fun wq sq => (Runs.indexAddr_blk arr72 rfl rfl (by decide) (by decide) (o := 1) (by first | rfl | omega))) ?_
  refine HL.val Wanted.none (fun wq sq => (Runs.load nagg42 rfl (sq.cell_iv (i := 1) rfl (by have := hl0; omega)))) ?_
  refine HL.val Wanted.none (fun wq sq => (Runs.indexAddr_blk arr72 rfl rfl (by decide) (by decide) (o := 2) (by first | rfl | omega))) ?_
  refine HL.val Wanted.none (fun wq sq => (Runs.load nagg42 rfl (sq.cell_iv (i := 1) rfl (by have := hl0; omega)))) ?_
  refine HL.val Wanted.none (fun wq sq => (Runs.indexAddr_blk arr72 rfl rfl (by decide) (by decide) (o := 3) (by first | rfl | omega))) ?_
  refine HL.val Wanted.none (fun wq sq => (Runs.load nagg42 rfl (sq.cell_iv (i := 1) rfl (by have := hl0; omega)))) ?_
  refine HL.val Wanted.none (fun wq sq => (Runs.indexAddr_blk arr72 rfl rfl (by decide) (by decide) (o := 4) (by first | rfl | omega))) ?_
  refine HL.val Wanted.none (fun wq sq => (Runs.load nagg42 rfl (sq.cell_iv (i := 1) rfl (by have := hl0; omega)))) ?_
  refine HL.val Wanted.none (fun wq sq => (Runs.indexAddr_blk arr72 rfl rfl (by decide) (by decide) (o := 5) (by first | rfl | omega))) ?_
  refine HL.val Wanted.none (fun wq sq => (Runs.load nagg42 rfl (sq.cell_iv (i := 1) rfl (by have := hl0; omega)))) ?_
  refine HL.val Wanted.none (fun wq sq => (Runs.indexAddr_blk arr72 rfl rfl (by decide) (by decide) (o := 6) (by first | rfl | omega))) ?_
  refine HL.val Wanted.none (fun wq sq => (Runs.load nagg42 rfl (sq.cell_iv (i := 1) rfl (by have := hl0; omega)))) ?_
  refine HL.val Wanted.none (fun wq sq => (Runs.indexAddr_blk arr72 rfl rfl (by decide) (by decide) (o := 7) (by first | rfl | omega))) ?_
  refine HL.val Wanted.none (fun wq sq => (Runs.load nagg42 rfl (sq.cell_iv (i := 1) rfl (by have := hl0; omega)))) ?_
  refine HL.val Wanted.none (fun wq sq => (Runs.assign rfl)) ?_
  refine HL.val Wanted.none (fun wq sq => (Runs.assign rfl)) ?_
  refine HL.val Wanted.none (fun wq sq => (Runs.assign rfl)) ?_
  refine HL.val Wanted.none (fun wq sq => (Runs.assign rfl)) ?_
  refine HL.val Wanted.none (fun wq sq => (Runs.assign rfl)) ?_
  refine HL.val Wanted.none (fun wq sq => (Runs.assign rfl)) ?_
  refine HL.val Wanted.none (fun wq sq => (Runs.assign rfl)) ?_
  refine HL.val Wanted.none (fun wq sq => (Runs.assign rfl)) ?_
  refine HL.nil (fun w_9 st_10 => ?_)
  refine WL.nil ?_
  refine QW.then_n ?_
  refine CW.sub [(1, .slice A1 n1 c1), (2, .pointer (some ⟨B_1, 0, none⟩)), (4, .pointer (some ⟨B_5, 0, none⟩)), (5, .int .u32 (gn l0 0)), (6, .int .u32 (gn l0 1)), (7, .int .u32 (gn l0 2)), (8, .int .u32 (gn l0 3)), (9, .int .u32 (gn l0 4)), (10, .int .u32 (gn l0 5)), (11, .int .u32 (gn l0 6)), (12, .int .u32 (gn l0 7))] ⟨rfl, rfl, rfl, rfl, rfl, rfl, rfl, rfl, rfl, rfl, rfl, trivial⟩ ?_
  refine CW.seq ?_
  refine CW.seq ?_
  refine CW.region ?_
  refine WL.val Wanted.none (Runs.move rfl) ?_
  obtain ⟨r_15, hr_11, H⟩ := H
  refine WL.call Wanted.none ent41 rfl (digest_words.calls w_9 l1 A1 n1 c1 (hs1.ext st_10) (hn1) (hc1) r_15 hr_11) ?_
  rintro _ w_12 ⟨hl_16, rfl, sc_14⟩
  have st_13 : St w w_12 [.cells B_5 (iv .u32 (List.replicate 8 (0 : Int))) 72, .cells B_1 (iv .u32 l0) 72] := st_10.call sc_14
  refine ⟨_, rfl, ?_⟩
  refine WL.val Wanted.none (Runs.move rfl) ?_
  refine WL.nil ?_
  refine QW.then_n ?_
  refine CW.block ?_
  obtain ⟨k_17, H⟩ := H
  refine CW.sub [(2, .pointer (some ⟨B_1, 0, none⟩)), (4, .pointer (some ⟨B_5, 0, none⟩)), (5, .int .u32 (gn l0 0)), (6, .int .u32 (gn l0 1)), (7, .int .u32 (gn l0 2)), (8, .int .u32 (gn l0 3)), (9, .int .u32 (gn l0 4)), (10, .int .u32 (gn l0 5)), (11, .int .u32 (gn l0 6)), (12, .int .u32 (gn l0 7)), (36, .agg (iv .u32 r_15).toArray), (37, .int .i64 0)] ⟨rfl, rfl, rfl, rfl, rfl, rfl, rfl, rfl, rfl, rfl, rfl, rfl, trivial⟩ ?_
  refine CW.loop (fun kL1 l_ w_ => ∃ (x_18 : Int) (x_19 : Int) (x_20 : Int) (x_21 : Int) (x_22 : Int) (x_23 : Int) (x_24 : Int) (x_25 : Int) (x_26 : Int), l_ = [(2, .pointer (some ⟨B_1, 0, none⟩)), (4, .pointer (some ⟨B_5, 0, none⟩)), (5, .int .u32 x_18), (6, .int .u32 x_19), (7, .int .u32 x_20), (8, .int .u32 x_21), (9, .int .u32 x_22), (10, .int .u32 x_23), (11, .int .u32 x_24), (12, .int .u32 x_25), (36, .agg (iv .u32 r_15).toArray), (37, .int .i64 x_26)] ∧ digest_state_mixed.L1 l0 r0 r_15 kL1 x_18 x_19 x_20 x_21 x_22 x_23 x_24 x_25 x_26 ∧ St w w_ [.cells B_5 (iv .u32 (List.replicate 8 (0 : Int))) 72, .cells B_1 (iv .u32 l0) 72]) (k := k_17) ⟨gn l0 0, gn l0 1, gn l0 2, gn l0 3, gn l0 4, gn l0 5, gn l0 6, gn l0 7, 0, rfl, H, st_13⟩ (fun _ _ h => by obtain ⟨_, _, _, _, _, _, _, _, _, _, h, _⟩ := h; exact h.elim) ?_
  rintro kL1 l_29 w_27 ⟨x_18, x_19, x_20, x_21, x_22, x_23, x_24, x_25, x_26, rfl, H, st_28⟩
  refine CW.seq ?_
  refine CW.region ?_
  refine WL.val Wanted.none (Runs.lss rfl rfl rfl) ?_
  refine WL.nil ?_
  refine QW.then_n ?_
  refine CW.seq ?_
  rcases H with ⟨c_30, H⟩ | ⟨c_30, H⟩
  · have h_31 : (decide (x_26 < 64)) = true := (decide_eq_true c_30)
    refine CW.ct rfl h_31 ?_
    refine CW.skip ?_
    refine QW.then_n ?_
    refine CW.seq ?_
    refine CW.block ?_
    refine CW.seq ?_
    refine CW.region ?_
    refine WL.val Wanted.none (Runs.move rfl) ?_
    obtain ⟨⟨p_32, q_33⟩, H⟩ := H
    refine WL.val Wanted.none (Runs.index_arr arr68 rfl hl_16 rfl p_32 q_33 (j := (x_26).toNat) (by first | rfl | omega)) ?_
    refine WL.val Wanted.none (Runs.assign rfl) ?_
    refine WL.val Wanted.none (Runs.assign rfl) ?_
    refine WL.nil ?_
    refine QW.then_n ?_
    refine CW.seq ?_
    refine CW.region_qa wide (by kernel_rfl) st_28 ?_
    refine HL.val Wanted.none (fun wq sq => (Runs.move rfl)) ?_
    refine HL.val Wanted.none (fun wq sq => (Runs.move rfl)) ?_
    obtain ⟨r_38, hr_34, H⟩ := H
    refine HL.call Wanted.none ent42 rfl (fun wq sq => (digest_right.calls wq x_22 6 r_38 hr_34).mono (by rintro _ _ ⟨rfl, sc⟩; exact ⟨rfl, sq.call sc⟩)) ?_
    refine HL.val Wanted.none (fun wq sq => (Runs.move rfl)) ?_
    obtain ⟨r_43, hr_39, H⟩ := H
    refine HL.call Wanted.none ent42 rfl (fun wq sq => (digest_right.calls wq x_22 11 r_43 hr_39).mono (by rintro _ _ ⟨rfl, sc⟩; exact ⟨rfl, sq.call sc⟩)) ?_
    refine HL.val Wanted.none (fun wq sq => (Runs.bxor rfl rfl rfl)) ?_
    refine HL.val Wanted.none (fun wq sq => (Runs.move rfl)) ?_
    obtain ⟨r_48, hr_44, H⟩ := H
    refine HL.call Wanted.none ent42 rfl (fun wq sq => (digest_right.calls wq x_22 25 r_48 hr_44).mono (by rintro _ _ ⟨rfl, sc⟩; exact ⟨rfl, sq.call sc⟩)) ?_
    refine HL.val Wanted.none (fun wq sq => (Runs.bxor rfl rfl rfl)) ?_
    obtain ⟨x_49, e_50, H⟩ := H
    refine HL.val Wanted.none (fun wq sq => (Runs.add rfl rfl e_50)) ?_
    refine HL.val Wanted.none (fun wq sq => (Runs.move rfl)) ?_
    refine HL.val Wanted.none (fun wq sq => (Runs.move rfl)) ?_
    refine HL.val Wanted.none (fun wq sq => (Runs.band rfl rfl rfl)) ?_
    refine HL.val Wanted.none (fun wq sq => (Runs.move rfl)) ?_
    refine HL.val Wanted.none (fun wq sq => (Runs.compl rfl rfl)) ?_
    refine HL.val Wanted.none (fun wq sq => (Runs.move rfl)) ?_
    refine HL.val Wanted.none (fun wq sq => (Runs.band rfl rfl rfl)) ?_
    obtain ⟨x_51, e_52, H⟩ := H
    refine HL.val Wanted.none (fun wq sq => (Runs.bxor rfl rfl e_52)) ?_
    refine HL.val Wanted.none (fun wq sq => (Runs.add rfl rfl rfl)) ?_
    refine HL.val Wanted.none (fun wq sq => (Runs.move rfl)) ?_
    obtain ⟨⟨p_53, q_54⟩, H⟩ := H
    refine HL.val Wanted.none (fun wq sq => (Runs.indexAddr_glob arr68 rfl p_53 q_54 (o := (x_26).toNat) (by first | rfl | omega))) ?_
    refine HL.val Wanted.none (fun wq sq => (Runs.load nagg42 rfl ((hG0.ext sq).cell_iv rfl (by rw [tab0_len]; omega)))) ?_
    obtain ⟨x_55, e_56, H⟩ := H
    refine HL.val Wanted.none (fun wq sq => (Runs.add rfl rfl e_56)) ?_
    refine HL.val Wanted.none (fun wq sq => (Runs.move rfl)) ?_
    refine HL.val Wanted.none (fun wq sq => (Runs.add rfl rfl rfl)) ?_
    refine HL.val Wanted.none (fun wq sq => (Runs.assign rfl)) ?_
    refine HL.nil (fun w_57 st_58 => ?_)
    refine WL.nil ?_
    refine QW.then_n ?_
    refine CW.seq ?_
    refine CW.region ?_
    refine WL.val Wanted.none (Runs.move rfl) ?_
    obtain ⟨r_63, hr_59, H⟩ := H
    refine WL.call Wanted.none ent42 rfl (digest_right.calls w_57 x_18 2 r_63 hr_59) ?_
    rintro _ w_60 ⟨rfl, sc_62⟩
    have st_61 : St w w_60 [.cells B_5 (iv .u32 (List.replicate 8 (0 : Int))) 72, .cells B_1 (iv .u32 l0) 72] := st_58.call sc_62
    refine ⟨_, rfl, ?_⟩
    refine WL.val Wanted.none (Runs.move rfl) ?_
    obtain ⟨r_68, hr_64, H⟩ := H
    refine WL.call Wanted.none ent42 rfl (digest_right.calls w_60 x_18 13 r_68 hr_64) ?_
    rintro _ w_65 ⟨rfl, sc_67⟩
    have st_66 : St w w_65 [.cells B_5 (iv .u32 (List.replicate 8 (0 : Int))) 72, .cells B_1 (iv .u32 l0) 72] := st_61.call sc_67
    refine ⟨_, rfl, ?_⟩
    refine WL.val Wanted.none (Runs.bxor rfl rfl rfl) ?_
    refine WL.val Wanted.none (Runs.move rfl) ?_
    obtain ⟨r_73, hr_69, H⟩ := H
    refine WL.call Wanted.none ent42 rfl (digest_right.calls w_65 x_18 22 r_73 hr_69) ?_
    rintro _ w_70 ⟨rfl, sc_72⟩
    have st_71 : St w w_70 [.cells B_5 (iv .u32 (List.replicate 8 (0 : Int))) 72, .cells B_1 (iv .u32 l0) 72] := st_66.call sc_72
    refine ⟨_, rfl, ?_⟩
    refine WL.val Wanted.none (Runs.bxor rfl rfl rfl) ?_
    refine WL.val Wanted.none (Runs.move rfl) ?_
    refine WL.val Wanted.none (Runs.move rfl) ?_
    refine WL.val Wanted.none (Runs.band rfl rfl rfl) ?_
    refine WL.val Wanted.none (Runs.move rfl) ?_
    refine WL.val Wanted.none (Runs.move rfl) ?_
    refine WL.val Wanted.none (Runs.band rfl rfl rfl) ?_
    obtain ⟨x_74, e_75, H⟩ := H
    refine WL.val Wanted.none (Runs.bxor rfl rfl e_75) ?_
    refine WL.val Wanted.none (Runs.move rfl) ?_
    refine WL.val Wanted.none (Runs.move rfl) ?_
    refine WL.val Wanted.none (Runs.band rfl rfl rfl) ?_
    refine WL.val Wanted.none (Runs.bxor rfl rfl rfl) ?_
    obtain ⟨x_76, e_77, H⟩ := H
    refine WL.val Wanted.none (Runs.add rfl rfl e_77) ?_
    refine WL.val Wanted.none (Runs.assign rfl) ?_
    refine WL.nil ?_
    refine QW.then_n ?_
    refine CW.region ?_
    refine WL.val Wanted.none (Runs.move rfl) ?_
    refine WL.val Wanted.none (Runs.move rfl) ?_
    refine WL.val Wanted.none (Runs.move rfl) ?_
    refine WL.val Wanted.none (Runs.move rfl) ?_
    refine WL.val Wanted.none (Runs.move rfl) ?_
    obtain ⟨x_78, e_79, H⟩ := H
    refine WL.val Wanted.none (Runs.add rfl rfl e_79) ?_
    refine WL.val Wanted.none (Runs.move rfl) ?_
    refine WL.val Wanted.none (Runs.move rfl) ?_
    refine WL.val Wanted.none (Runs.move rfl) ?_
    refine WL.val Wanted.none (Runs.move rfl) ?_
    refine WL.val Wanted.none (Runs.move rfl) ?_
    obtain ⟨x_80, e_81, H⟩ := H
    refine WL.val Wanted.none (Runs.add rfl rfl e_81) ?_
    refine WL.val Wanted.none (Runs.assign rfl) ?_
    refine WL.val Wanted.none (Runs.assign rfl) ?_
    refine WL.val Wanted.none (Runs.assign rfl) ?_
    refine WL.val Wanted.none (Runs.assign rfl) ?_
    refine WL.val Wanted.none (Runs.assign rfl) ?_
    refine WL.val Wanted.none (Runs.assign rfl) ?_
    refine WL.val Wanted.none (Runs.assign rfl) ?_
    refine WL.val Wanted.none (Runs.assign rfl) ?_
    refine WL.nil ?_
    refine QW.blk_n ?_
    refine QW.then_n ?_
    refine CW.region ?_
    refine WL.val Wanted.none (Runs.add rfl rfl rfl) ?_
    refine WL.val Wanted.none (Runs.move rfl) ?_
    refine WL.nil ?_
    exact QW.at [(2, .pointer (some ⟨B_1, 0, none⟩)), (4, .pointer (some ⟨B_5, 0, none⟩)), (5, .int .u32 x_80), (6, .int .u32 x_18), (7, .int .u32 x_19), (8, .int .u32 x_20), (9, .int .u32 x_78), (10, .int .u32 x_22), (11, .int .u32 x_23), (12, .int .u32 x_24), (36, .agg (iv .u32 r_15).toArray), (37, .int .i64 (IntKind.i64.wrap (x_26 + 1)))] ⟨rfl, rfl, rfl, rfl, rfl, rfl, rfl, rfl, rfl, rfl, rfl, rfl, trivial⟩ ⟨x_80, x_18, x_19, x_20, x_78, x_22, x_23, x_24, IntKind.i64.wrap (x_26 + 1), rfl, H, st_71⟩
  · have h_31 : (decide (x_26 < 64)) = false := (decide_eq_false c_30)
    refine CW.cf rfl h_31 ?_
    refine CW.exit ?_
    refine QW.then_x ?_
    refine QW.then_x ?_
    refine QW.blk_x ?_
    refine QW.then_n ?_
    refine CW.seq ?_
    refine CW.seq ?_
    refine CW.region ?_
    refine WL.val Wanted.none (Runs.move rfl) ?_
    refine WL.val Wanted.none (Runs.move rfl) ?_
    refine WL.val Wanted.none (Runs.move rfl) ?_
    refine WL.val Wanted.none (Runs.move rfl) ?_
    refine WL.val Wanted.none (Runs.move rfl) ?_
    refine WL.val Wanted.none (Runs.move rfl) ?_
    refine WL.val Wanted.none (Runs.move rfl) ?_
    refine WL.val Wanted.none (Runs.move rfl) ?_
    obtain ⟨m_82, e_83, H⟩ := H
    refine WL.val Wanted.none (Runs.build_arr (xs := m_82) arr61 rfl rfl (by rw [e_83]; rfl)) ?_
    refine WL.val Wanted.none (Runs.move rfl) ?_
    refine WL.nil ?_
    refine QW.then_n ?_
    refine CW.sub [(2, .pointer (some ⟨B_1, 0, none⟩)), (4, .pointer (some ⟨B_5, 0, none⟩)), (107, .agg (iv .u32 m_82).toArray), (108, .int .i64 0)] ⟨rfl, rfl, rfl, rfl, trivial⟩ ?_
    refine CW.block ?_
    obtain ⟨k_84, H⟩ := H
    refine CW.sub [(2, .pointer (some ⟨B_1, 0, none⟩)), (4, .pointer (some ⟨B_5, 0, none⟩)), (107, .agg (iv .u32 m_82).toArray), (108, .int .i64 0)] ⟨rfl, rfl, rfl, rfl, trivial⟩ ?_
    refine CW.loop (fun kL2 l_ w_ => ∃ (m_85 : List Int) (x_87 : Int), l_ = [(2, .pointer (some ⟨B_1, 0, none⟩)), (4, .pointer (some ⟨B_5, 0, none⟩)), (107, .agg (iv .u32 m_82).toArray), (108, .int .i64 x_87)] ∧ digest_state_mixed.L2 r0 m_82 kL2 m_85 x_87 ∧ (m_85.length = 8) ∧ St w w_ [.cells B_5 (iv .u32 (List.replicate 8 (0 : Int))) 72, .cells B_1 (iv .u32 m_85) 72]) (k := k_84) ⟨l0, 0, rfl, H, hl0, st_28⟩ (fun _ _ h => by obtain ⟨_, _, _, h, _⟩ := h; exact h.elim) ?_
    rintro kL2 l_90 w_88 ⟨m_85, x_87, rfl, H, hl_86, st_89⟩
    refine CW.seq ?_
    refine CW.region ?_
    refine WL.val Wanted.none (Runs.lss rfl rfl rfl) ?_
    refine WL.nil ?_
    refine QW.then_n ?_
    refine CW.seq ?_
    rcases H with ⟨c_91, H⟩ | ⟨c_91, H⟩
    · have h_92 : (decide (x_87 < 8)) = true := (decide_eq_true c_91)
      refine CW.ct rfl h_92 ?_
      refine CW.skip ?_
      refine QW.then_n ?_
      refine CW.seq ?_
      refine CW.block ?_
      refine CW.seq ?_
      refine CW.region ?_
      refine WL.val Wanted.none (Runs.move rfl) ?_
      obtain ⟨⟨p_93, q_94⟩, H⟩ := H
      refine WL.val Wanted.none (Runs.index_arr arr61 rfl (by rw [e_83]; rfl) rfl p_93 q_94 (j := (x_87).toNat) (by first | rfl | omega)) ?_
      refine WL.val Wanted.none (Runs.assign rfl) ?_
      refine WL.val Wanted.none (Runs.assign rfl) ?_
      refine WL.nil ?_
      refine QW.then_n ?_
      refine CW.region ?_
      refine WL.val Wanted.none (Runs.move rfl) ?_
      obtain ⟨⟨p_95, q_96⟩, H⟩ := H
      refine WL.val Wanted.none (Runs.indexAddr_blk arr72 rfl rfl p_95 q_96 (o := (x_87).toNat) (by first | rfl | omega)) ?_
      refine WL.val Wanted.none (Runs.load nagg42 rfl (st_89.cell_iv (i := 1) rfl (by have := hl_86; omega))) ?_
      refine WL.val Wanted.none (Runs.move rfl) ?_
      obtain ⟨x_97, e_98, H⟩ := H
      refine WL.val Wanted.none (Runs.add rfl rfl e_98) ?_
      obtain ⟨⟨p_99, q_100⟩, H⟩ := H
      refine WL.val Wanted.none (Runs.indexAddr_blk arr72 rfl rfl p_99 q_100 (o := (x_87).toNat) (by first | rfl | omega)) ?_
      obtain ⟨m_101, e_102, H⟩ := H
      have hl_105 : m_101.length = 8 := by rw [e_102, List.length_set]; exact hl_86
      refine WL.store_cells (i := 1) st_89 rfl cells42 rfl (by rw [iv_length]; have := hl_86; omega) rfl rfl ?_
      intro w_103 st_104
      have st_104' : St w w_103 [.cells B_5 (iv .u32 (List.replicate 8 (0 : Int))) 72, .cells B_1 (iv .u32 m_101) 72] := by rw [e_102, ← iv_set .u32 m_85 ((x_87).toNat) x_97]; exact st_104
      refine WL.nil ?_
      refine QW.blk_n ?_
      refine QW.then_n ?_
      refine CW.region ?_
      refine WL.val Wanted.none (Runs.add rfl rfl rfl) ?_
      refine WL.val Wanted.none (Runs.move rfl) ?_
      refine WL.nil ?_
      exact QW.at [(2, .pointer (some ⟨B_1, 0, none⟩)), (4, .pointer (some ⟨B_5, 0, none⟩)), (107, .agg (iv .u32 m_82).toArray), (108, .int .i64 (IntKind.i64.wrap (x_87 + 1)))] ⟨rfl, rfl, rfl, rfl, trivial⟩ ⟨m_101, IntKind.i64.wrap (x_87 + 1), rfl, H, hl_105, st_104'⟩
    · have h_92 : (decide (x_87 < 8)) = false := (decide_eq_false c_91)
      refine CW.cf rfl h_92 ?_
      refine CW.exit ?_
      refine QW.then_x ?_
      refine QW.then_x ?_
      refine QW.blk_x ?_
      refine QW.then_n ?_
      refine CW.seq ?_
      refine CW.region ?_
      refine WL.val Wanted.none (Runs.load_arr arr72 rfl (st_89.blk (i := 1) rfl) hl_86) ?_
      refine WL.store_arr (i := 0) st_89 rfl arr72 rfl (by rw [iv_length]; exact (List.length_replicate ..)) hl_86 rfl ?_
      intro w_106 st_107
      replace st_107 : St w w_106 [.cells B_5 (iv .u32 m_85) 72, .cells B_1 (iv .u32 m_85) 72] := st_107
      refine WL.nil ?_
      refine QW.then_n ?_
      refine CW.ret ?_
      obtain rfl := H
      exact QW.retc rfl arr72 rfl (st_107.blk (i := 0) rfl) hl_86 ⟨hl_86, rfl, st_107.pick [] (by decide)⟩

/-! ### digest_Of: function 32 -/
def digest_Of.L3 (r0 : List Int) (s_126 : List Int) : Nat → (List Int) → Int → Prop
  | 0, _, _ => False
  | kL3 + 1, m_137, x_139 => ((x_139 < 32 ∧ ((0 ≤ (IntKind.i64.wrap (Int.tdiv x_139 4)) ∧ (IntKind.i64.wrap (Int.tdiv x_139 4)) < (8 : Int)) ∧ (∃ x_147 : Int, x_147 = IntKind.i64.wrap (24 - (IntKind.i64.wrap ((Int.tmod x_139 4) * 8))) ∧ (0 ≤ x_147 ∧ (∃ x_150 : Int, x_150 = shrI .u32 (gn s_126 ((IntKind.i64.wrap (Int.tdiv x_139 4)).toNat)) x_147 ∧ ((0 ≤ x_139 ∧ x_139 < (32 : Int)) ∧ (∃ m_154 : List Int, m_154 = List.set m_137 ((x_139).toNat) (IntKind.u8.wrap x_150) ∧ digest_Of.L3 r0 s_126 kL3 m_154 (IntKind.i64.wrap (x_139 + 1))))))))) ∨ (¬ (x_139 < 32) ∧ r0 = m_137))
def digest_Of.L2 (l0 : List Int) (r0 : List Int) : Nat → (List Int) → Int → Prop
  | 0, _, _ => False
  | kL2 + 1, l_55, x_58 => ((x_58 ≥ 0 ∧ (0 ≤ x_58 ∧ (∃ x_65 : Int, x_65 = shrI .u64 (IntKind.u64.wrap (8 * (IntKind.u64.wrap (l0.length : Int)))) x_58 ∧ (∃ m_71 : List Int, m_71 = l_55 ++ [IntKind.u8.wrap x_65] ∧ (m_71.length ≤ 1099511627776 ∧ digest_Of.L2 l0 r0 kL2 m_71 (IntKind.i64.wrap (x_58 - 8))))))) ∨ (¬ (x_58 ≥ 0) ∧ (∃ (r_84 : List Int), digest_first.rel  r_84 ∧ (∃ (q_100 : Nat), (l_55.length ≤ 64 * q_100 ∧ (∀ j : Nat, j < q_100 → 64 * j < l_55.length) ∧ l_55.length ≤ 1099511627776) ∧ ∃ (Inv_101 : List Int → Prop) (g_102 : Nat → List Int → List Int), Inv_101 r_84 ∧ (∀ (x_108 : Nat) (s_109 : List Int), x_108 < q_100 → Inv_101 s_109 → s_109.length = 8 → (∃ (r_119 : List Int), digest_state_mixed.rel s_109 (chl l_55 64 x_108) r_119 ∧ (Inv_101 r_119 ∧ r_119 = g_102 x_108 s_109))) ∧ ∃ s_126 : List Int, s_126 = (List.range q_100).foldl (fun s_ x_ => g_102 x_ s_) r_84 ∧ (∃ k_ : Nat, digest_Of.L3 r0 s_126 k_ (List.replicate 32 (0 : Int)) 0)))))
def digest_Of.L1 (l0 : List Int) (r0 : List Int) : Nat → (List Int) → Prop
  | 0, _ => False
  | kL1 + 1, l_31 => (((Int.tmod (l_31.length : Int) 64) ≠ 56 ∧ (∃ m_43 : List Int, m_43 = l_31 ++ [0] ∧ (m_43.length ≤ 1099511627776 ∧ digest_Of.L1 l0 r0 kL1 m_43))) ∨ (¬ ((Int.tmod (l_31.length : Int) 64) ≠ 56) ∧ (∃ k_ : Nat, digest_Of.L2 l0 r0 k_ l_31 56)))
def digest_Of.rel (l0 : List Int) (r0 : List Int) : Prop := (∃ (r_9 : List Int), slices_Clone_s_byte_byte.rel l0 r_9 ∧ (∃ m_19 : List Int, m_19 = r_9 ++ [128] ∧ (m_19.length ≤ 1099511627776 ∧ (∃ k_ : Nat, digest_Of.L1 l0 r0 k_ m_19))))
set_option maxHeartbeats 4000000 in
set_option maxRecDepth 100000 in
theorem digest_Of.calls (w : World) (l0 : List Int) (A0 : Option Addr) (n0 : Nat) (c0 : Nat)  (hG0 : Src w (some ⟨0, 0, none⟩) (iv .u32 tab0)) (hs0 : Src w A0 (iv .u8 l0)) (hn0 : n0 = l0.length) (hc0 : n0 ≤ c0) (r0 : List Int) (H : digest_Of.rel l0 r0) :
    Calls Tryd.prog 32 #[.slice A0 n0 c0] w fun e w' => r0.length = 32 ∧ e = .returned (.agg (iv .u8 r0).toArray) ∧ St w w' [] := by
  refine CW.enterM Tryd.func32 rfl (n := 58) rfl [.slice A0 n0 c0] (Nat.le_of_ble_eq_true rfl) ?_
  refine CW.sub [(0, .slice A0 n0 c0)] ⟨rfl, trivial⟩ ?_
  have st0 : St w w [] := St.refl w
  refine CW.seq ?_
  refine CW.region ?_
  refine WL.alloc st0 arr23.zero ?_
  intro B_1 w_2 st_3
  replace st_3 : St w w_2 [.cells B_1 (iv .u8 (List.replicate 32 (0 : Int))) 23] := st_3
  refine WL.nil ?_
  refine QW.then_n ?_
  refine CW.seq ?_
  refine CW.region ?_
  refine WL.val Wanted.none (Runs.move rfl) ?_
  obtain ⟨r_9, hr_5, H⟩ := H
  refine WL.call Wanted.none ent36 rfl (slices_Clone_s_byte_byte.calls w_2 l0 A0 n0 c0 (hs0.ext st_3) (hn0) (hc0) r_9 hr_5) ?_
  rintro _ w_6 ⟨A_10, c_11, n_12, hn_13, rfl, sc_8⟩
  have st_7 : St w w_6 [.sl A_10 c_11 n_12 (iv .u8 r_9) 5 1, .cells B_1 (iv .u8 (List.replicate 32 (0 : Int))) 23] := st_3.call sc_8
  refine ⟨_, rfl, ?_⟩
  refine WL.buildSl [.int .u8 128] st_7 Tryd.underlying29 elem5 rfl rfl (by decide) (by decide) (by simp [Value.cells]) ?_
  intro B_15 w_16 st_17
  replace st_17 : St w w_16 [.sl (some ⟨B_15, 0, none⟩) 1 1 (iv .u8 [128]) 5 1, .sl A_10 c_11 n_12 (iv .u8 r_9) 5 1, .cells B_1 (iv .u8 (List.replicate 32 (0 : Int))) 23] := st_17
  obtain ⟨m_19, e_20, H⟩ := H
  obtain ⟨z_21, H⟩ := H
  obtain ⟨n_24, hn_27⟩ : ∃ n_ : Nat, n_ = m_19.length := ⟨_, rfl⟩
  refine WL.append (i := 1) Wanted.none st_17 rfl Tryd.underlying29 elem5 rfl rfl (st_17.src_sl (k := 0) rfl) (by rw [iv_length]; exact (Eq.refl _).symm) (one_iv .u8 _) (by decide) (N := n_24) (by rw [hn_27, e_20, List.length_append]; exact congr (congrArg HAdd.hAdd (hn_13)) (rfl)) (by rw [hn_27]; exact z_21) ?_
  intro A_22 c_23 w_25 st_26
  have st_26' : St w w_25 [.sl (some ⟨B_15, 0, none⟩) 1 1 (iv .u8 [128]) 5 1, .sl A_22 c_23 n_24 (iv .u8 m_19) 5 1, .cells B_1 (iv .u8 (List.replicate 32 (0 : Int))) 23] := by rw [e_20, ← iv_append .u8 r_9 [128]]; exact st_26
  refine WL.val Wanted.none (Runs.assign rfl) ?_
  refine WL.nil ?_
  refine QW.then_n ?_
  refine CW.seq ?_
  refine CW.block ?_
  obtain ⟨k_28, H⟩ := H
  refine CW.sub [(0, .slice A0 n0 c0), (2, .pointer (some ⟨B_1, 0, none⟩)), (3, .slice A_22 n_24 c_23)] ⟨rfl, rfl, rfl, trivial⟩ ?_
  refine CW.loop (fun kL1 l_ w_ => ∃ (A_29 : Option Addr) (c_30 : Nat) (n_32 : Nat) (l_31 : List Int), l_ = [(0, .slice A0 n0 c0), (2, .pointer (some ⟨B_1, 0, none⟩)), (3, .slice A_29 n_32 c_30)] ∧ digest_Of.L1 l0 r0 kL1 l_31 ∧ (n_32 = l_31.length) ∧ St w w_ [.sl (some ⟨B_15, 0, none⟩) 1 1 (iv .u8 [128]) 5 1, .sl A_29 c_30 n_32 (iv .u8 l_31) 5 1, .cells B_1 (iv .u8 (List.replicate 32 (0 : Int))) 23]) (k := k_28) ⟨A_22, c_23, n_24, m_19, rfl, H, hn_27, st_26'⟩ (fun _ _ h => by obtain ⟨_, _, _, _, _, h, _⟩ := h; exact h.elim) ?_
  rintro kL1 l_36 w_34 ⟨A_29, c_30, n_32, l_31, rfl, H, hn_33, st_35⟩
  refine CW.seq ?_
  refine CW.seq ?_
  refine CW.region ?_
  refine WL.val Wanted.none (Runs.move rfl) ?_
  refine WL.val Wanted.none (Runs.len_sl Tryd.underlying29 rfl (by rw [hn_33])) ?_
  refine WL.val Wanted.none (Runs.rem rfl rfl (by decide) rfl) ?_
  refine WL.val Wanted.none (Runs.neq rfl rfl rfl) ?_
  refine WL.nil ?_
  refine QW.then_n ?_
  rcases H with ⟨c_37, H⟩ | ⟨c_37, H⟩
  · have h_38 : ((Int.tmod (l_31.length : Int) 64) != 56) = true := (bne_iff_ne.mpr c_37)
    refine CW.ct rfl h_38 ?_
    refine CW.skip ?_
    refine QW.then_n ?_
    refine CW.block ?_
    refine CW.region ?_
    refine WL.val Wanted.none (Runs.move rfl) ?_
    refine WL.buildSl [.int .u8 0] st_35 Tryd.underlying29 elem5 rfl rfl (by decide) (by decide) (by simp [Value.cells]) ?_
    intro B_39 w_40 st_41
    replace st_41 : St w w_40 [.sl (some ⟨B_39, 0, none⟩) 1 1 (iv .u8 [0]) 5 1, .sl (some ⟨B_15, 0, none⟩) 1 1 (iv .u8 [128]) 5 1, .sl A_29 c_30 n_32 (iv .u8 l_31) 5 1, .cells B_1 (iv .u8 (List.replicate 32 (0 : Int))) 23] := st_41
    obtain ⟨m_43, e_44, H⟩ := H
    obtain ⟨z_45, H⟩ := H
    obtain ⟨n_48, hn_51⟩ : ∃ n_ : Nat, n_ = m_43.length := ⟨_, rfl⟩
    refine WL.append (i := 2) Wanted.none st_41 rfl Tryd.underlying29 elem5 rfl rfl (st_41.src_sl (k := 0) rfl) (by rw [iv_length]; exact (Eq.refl _).symm) (one_iv .u8 _) (by decide) (N := n_48) (by rw [hn_51, e_44, List.length_append]; exact congr (congrArg HAdd.hAdd (hn_33)) (rfl)) (by rw [hn_51]; exact z_45) ?_
    intro A_46 c_47 w_49 st_50
    have st_50' : St w w_49 [.sl (some ⟨B_39, 0, none⟩) 1 1 (iv .u8 [0]) 5 1, .sl (some ⟨B_15, 0, none⟩) 1 1 (iv .u8 [128]) 5 1, .sl A_46 c_47 n_48 (iv .u8 m_43) 5 1, .cells B_1 (iv .u8 (List.replicate 32 (0 : Int))) 23] := by rw [e_44, ← iv_append .u8 l_31 [0]]; exact st_50
    refine WL.val Wanted.none (Runs.assign rfl) ?_
    refine WL.nil ?_
    refine QW.blk_n ?_
    have st_50'' := st_50'.pick [1, 2, 3] (by decide)
    exact QW.at [(0, .slice A0 n0 c0), (2, .pointer (some ⟨B_1, 0, none⟩)), (3, .slice A_46 n_48 c_47)] ⟨rfl, rfl, rfl, trivial⟩ ⟨A_46, c_47, n_48, m_43, rfl, H, hn_51, st_50''⟩
  · have h_38 : ((Int.tmod (l_31.length : Int) 64) != 56) = false := (bne_eq_false_iff_eq.mpr (Decidable.not_not.mp c_37))
    refine CW.cf rfl h_38 ?_
    refine CW.exit ?_
    refine QW.then_x ?_
    refine QW.then_x ?_
    refine QW.blk_x ?_
    refine QW.then_n ?_
    refine CW.seq ?_
    refine CW.seq ?_
    refine CW.region ?_
    refine WL.val Wanted.none (Runs.assign rfl) ?_
    refine WL.nil ?_
    refine QW.then_n ?_
    refine CW.block ?_
    obtain ⟨k_52, H⟩ := H
    refine CW.sub [(0, .slice A0 n0 c0), (2, .pointer (some ⟨B_1, 0, none⟩)), (3, .slice A_29 n_32 c_30), (4, .int .i64 56)] ⟨rfl, rfl, rfl, rfl, trivial⟩ ?_
    refine CW.loop (fun kL2 l_ w_ => ∃ (A_53 : Option Addr) (c_54 : Nat) (n_56 : Nat) (l_55 : List Int) (x_58 : Int), l_ = [(0, .slice A0 n0 c0), (2, .pointer (some ⟨B_1, 0, none⟩)), (3, .slice A_53 n_56 c_54), (4, .int .i64 x_58)] ∧ digest_Of.L2 l0 r0 kL2 l_55 x_58 ∧ (n_56 = l_55.length) ∧ St w w_ [.sl (some ⟨B_15, 0, none⟩) 1 1 (iv .u8 [128]) 5 1, .sl A_53 c_54 n_56 (iv .u8 l_55) 5 1, .cells B_1 (iv .u8 (List.replicate 32 (0 : Int))) 23]) (k := k_52) ⟨A_29, c_30, n_32, l_31, 56, rfl, H, hn_33, st_35⟩ (fun _ _ h => by obtain ⟨_, _, _, _, _, _, h, _⟩ := h; exact h.elim) ?_
    rintro kL2 l_61 w_59 ⟨A_53, c_54, n_56, l_55, x_58, rfl, H, hn_57, st_60⟩
    refine CW.seq ?_
    refine CW.seq ?_
    refine CW.region ?_
    refine WL.val Wanted.none (Runs.move rfl) ?_
    refine WL.val Wanted.none (Runs.geq rfl rfl rfl) ?_
    refine WL.nil ?_
    refine QW.then_n ?_
    rcases H with ⟨c_62, H⟩ | ⟨c_62, H⟩
    · have h_63 : (decide (x_58 ≥ 0)) = true := (decide_eq_true c_62)
      refine CW.ct rfl h_63 ?_
      refine CW.skip ?_
      refine QW.then_n ?_
      refine CW.seq ?_
      refine CW.block ?_
      refine CW.region ?_
      refine WL.val Wanted.none (Runs.move rfl) ?_
      refine WL.val Wanted.none (Runs.move rfl) ?_
      refine WL.val Wanted.none (Runs.len_sl Tryd.underlying29 rfl (by rw [hn0])) ?_
      refine WL.val Wanted.none (Runs.conv Tryd.underlying24 ⟨_, Tryd.underlying3⟩ rfl rfl) ?_
      refine WL.val Wanted.none (Runs.mul rfl rfl rfl) ?_
      refine WL.val Wanted.none (Runs.move rfl) ?_
      obtain ⟨z_64, H⟩ := H
      obtain ⟨x_65, e_66, H⟩ := H
      refine WL.val Wanted.none (Runs.shr rfl rfl z_64 e_66) ?_
      refine WL.val Wanted.none (Runs.conv Tryd.underlying5 ⟨_, Tryd.underlying24⟩ rfl rfl) ?_
      refine WL.buildSl [.int .u8 (IntKind.u8.wrap x_65)] st_60 Tryd.underlying29 elem5 rfl rfl (by decide) (by decide) (by simp [Value.cells]) ?_
      intro B_67 w_68 st_69
      replace st_69 : St w w_68 [.sl (some ⟨B_67, 0, none⟩) 1 1 (iv .u8 [IntKind.u8.wrap x_65]) 5 1, .sl (some ⟨B_15, 0, none⟩) 1 1 (iv .u8 [128]) 5 1, .sl A_53 c_54 n_56 (iv .u8 l_55) 5 1, .cells B_1 (iv .u8 (List.replicate 32 (0 : Int))) 23] := st_69
      obtain ⟨m_71, e_72, H⟩ := H
      obtain ⟨z_73, H⟩ := H
      obtain ⟨n_76, hn_79⟩ : ∃ n_ : Nat, n_ = m_71.length := ⟨_, rfl⟩
      refine WL.append (i := 2) Wanted.none st_69 rfl Tryd.underlying29 elem5 rfl rfl (st_69.src_sl (k := 0) rfl) (by rw [iv_length]; exact (Eq.refl _).symm) (one_iv .u8 _) (by decide) (N := n_76) (by rw [hn_79, e_72, List.length_append]; exact congr (congrArg HAdd.hAdd (hn_57)) (rfl)) (by rw [hn_79]; exact z_73) ?_
      intro A_74 c_75 w_77 st_78
      have st_78' : St w w_77 [.sl (some ⟨B_67, 0, none⟩) 1 1 (iv .u8 [IntKind.u8.wrap x_65]) 5 1, .sl (some ⟨B_15, 0, none⟩) 1 1 (iv .u8 [128]) 5 1, .sl A_74 c_75 n_76 (iv .u8 m_71) 5 1, .cells B_1 (iv .u8 (List.replicate 32 (0 : Int))) 23] := by rw [e_72, ← iv_append .u8 l_55 [IntKind.u8.wrap x_65]]; exact st_78
      refine WL.val Wanted.none (Runs.assign rfl) ?_
      refine WL.nil ?_
      refine QW.blk_n ?_
      refine QW.then_n ?_
      refine CW.region ?_
      refine WL.val Wanted.none (Runs.move rfl) ?_
      refine WL.val Wanted.none (Runs.sub rfl rfl rfl) ?_
      refine WL.val Wanted.none (Runs.assign rfl) ?_
      refine WL.nil ?_
      have st_78'' := st_78'.pick [1, 2, 3] (by decide)
      exact QW.at [(0, .slice A0 n0 c0), (2, .pointer (some ⟨B_1, 0, none⟩)), (3, .slice A_74 n_76 c_75), (4, .int .i64 (IntKind.i64.wrap (x_58 - 8)))] ⟨rfl, rfl, rfl, rfl, trivial⟩ ⟨A_74, c_75, n_76, m_71, IntKind.i64.wrap (x_58 - 8), rfl, H, hn_79, st_78''⟩
    · have h_63 : (decide (x_58 ≥ 0)) = false := (decide_eq_false c_62)
      refine CW.cf rfl h_63 ?_
      refine CW.exit ?_
      refine QW.then_x ?_
      refine QW.then_x ?_
      refine QW.blk_x ?_
      refine QW.then_n ?_
      refine CW.seq ?_
      refine CW.region ?_
      obtain ⟨r_84, hr_80, H⟩ := H
      refine WL.call Wanted.none ent37 rfl (digest_first.calls w_59 r_84 hr_80) ?_
      rintro _ w_81 ⟨hl_85, rfl, sc_83⟩
      have st_82 : St w w_81 [.sl (some ⟨B_15, 0, none⟩) 1 1 (iv .u8 [128]) 5 1, .sl A_53 c_54 n_56 (iv .u8 l_55) 5 1, .cells B_1 (iv .u8 (List.replicate 32 (0 : Int))) 23] := st_60.call sc_83
      refine ⟨_, rfl, ?_⟩
      refine WL.alloc st_82 arr72.zero ?_
      intro B_86 w_87 st_88
      replace st_88 : St w w_87 [.cells B_86 (iv .u32 (List.replicate 8 (0 : Int))) 72, .sl (some ⟨B_15, 0, none⟩) 1 1 (iv .u8 [128]) 5 1, .sl A_53 c_54 n_56 (iv .u8 l_55) 5 1, .cells B_1 (iv .u8 (List.replicate 32 (0 : Int))) 23] := st_88
      refine WL.store_arr (i := 0) st_88 rfl arr72 rfl (by rw [iv_length]; exact (List.length_replicate ..)) hl_85 rfl ?_
      intro w_90 st_91
      replace st_91 : St w w_90 [.cells B_86 (iv .u32 r_84) 72, .sl (some ⟨B_15, 0, none⟩) 1 1 (iv .u8 [128]) 5 1, .sl A_53 c_54 n_56 (iv .u8 l_55) 5 1, .cells B_1 (iv .u8 (List.replicate 32 (0 : Int))) 23] := st_91
      refine WL.nil ?_
      refine QW.then_n ?_
      refine CW.seq ?_
      refine CW.seq ?_
      refine CW.region ?_
      refine WL.val Wanted.none (Runs.move rfl) ?_
      refine WL.call Wanted.none ent38 rfl (slices_Chunk.calls w_90 A_53 n_56 c_54 64 (by decide)) ?_
      rintro _ w_95 ⟨B_93, B_94, rfl, sc_97⟩
      have st_96 : St w w_95 [.cells B_94 [.int .i64 ((64 : Nat) : Int)] 3, .cells B_93 [.slice A_53 n_56 c_54] 29, .cells B_86 (iv .u32 r_84) 72, .sl (some ⟨B_15, 0, none⟩) 1 1 (iv .u8 [128]) 5 1, .sl A_53 c_54 n_56 (iv .u8 l_55) 5 1, .cells B_1 (iv .u8 (List.replicate 32 (0 : Int))) 23] := st_91.call sc_97
      refine ⟨_, rfl, ?_⟩
      refine WL.nil ?_
      refine QW.then_n ?_
      refine CW.sub [(2, .pointer (some ⟨B_1, 0, none⟩)), (5, .pointer (some ⟨B_86, 0, none⟩)), (36, .func (.func 40) #[] #[.pointer (some ⟨B_93, 0, none⟩), .pointer (some ⟨B_94, 0, none⟩)])] ⟨rfl, rfl, rfl, trivial⟩ ?_
      refine CW.block ?_
      obtain ⟨q_100, ⟨h_105, h_106, h_107⟩, Inv_101, g_102, hI_103, hB_104, s_126, e_127, H⟩ := H
      refine CW.sub [(2, .pointer (some ⟨B_1, 0, none⟩)), (5, .pointer (some ⟨B_86, 0, none⟩)), (36, .func (.func 40) #[] #[.pointer (some ⟨B_93, 0, none⟩), .pointer (some ⟨B_94, 0, none⟩)])] ⟨rfl, rfl, rfl, trivial⟩ ?_
      have hc1 := st_96.cell (k := 1) (i := 0) rfl rfl
      have hc2 := st_96.cell (k := 0) (i := 0) rfl rfl
      refine CW.range (α := Fin q_100) (σ := List Int) st_96 rfl ent40 (chunk_seq (c := 64) hc1 hc2 (st_96.cap (i := 4) rfl) (by decide) (by decide) (by rw [hn_57]; exact h_107) (by rw [hn_57]; exact h_105) (fun j hj => by rw [hn_57]; exact h_106 j hj)) (fun h k => h.trans k) (fun W j o o2 h1 h2 h3 => KpB.put (block_lt_of_cell hc1) (block_lt_of_cell hc2) W j o o2 h1 h2 h3) (fun pre s_ => s_ = pre.foldl (fun s_ x_ => g_102 x_.val s_) r_84 ∧ Inv_101 s_ ∧ s_.length = 8) (fun s_109 => [.cells B_94 [.int .i64 ((64 : Nat) : Int)] 3, .cells B_93 [.slice A_53 n_56 c_54] 29, .cells B_86 (iv .u32 s_109) 72, .sl (some ⟨B_15, 0, none⟩) 1 1 (iv .u8 [128]) 5 1, .sl A_53 c_54 n_56 (iv .u8 l_55) 5 1, .cells B_1 (iv .u8 (List.replicate 32 (0 : Int))) 23]) (fun _ => rfl) r_84 ⟨rfl, hI_103, hl_85⟩ rfl ?_ rfl ?_
      · rintro j_ pre_ x_108 s_109 w_110 ⟨hs_112, hI_113, hl_114⟩ st_111 _ b hb hd
        refine wpIn_block ?_
        refine WL.round (n := 58) (.inr ⟨j_, rfl⟩) (fun ⟨a, w, h⟩ => h) rfl ?_ hb hd
        have H := hB_104 x_108.val s_109 x_108.isLt hI_113 hl_114
        refine WL.val Wanted.none (Runs.load_arr arr72 rfl (st_111.blk (i := 2) rfl) hl_114) ?_
        refine WL.val Wanted.none (Runs.move rfl) ?_
        obtain ⟨r_119, hr_115, H⟩ := H
        refine WL.call Wanted.none ent39 rfl (digest_state_mixed.calls w_110 s_109 (chl l_55 64 x_108.val) (A_53.map (·.add (64 * x_108.val))) (min 64 (n_56 - 64 * x_108.val)) (min 64 (n_56 - 64 * x_108.val)) (hG0.ext st_111) hl_114 ((st_111.src_sl (k := 4) rfl).chunk 64 x_108.val) ((by rw [hn_57]; exact chl_length _ _ _)) (Nat.le_refl _) r_119 hr_115) ?_
        rintro _ w_116 ⟨hl_120, rfl, sc_118⟩
        have kp_121 := keeps_of_below sc_118.ext
        have st_117 : St w w_116 [.cells B_94 [.int .i64 ((64 : Nat) : Int)] 3, .cells B_93 [.slice A_53 n_56 c_54] 29, .cells B_86 (iv .u32 s_109) 72, .sl (some ⟨B_15, 0, none⟩) 1 1 (iv .u8 [128]) 5 1, .sl A_53 c_54 n_56 (iv .u8 l_55) 5 1, .cells B_1 (iv .u8 (List.replicate 32 (0 : Int))) 23] := st_111.call sc_118
        refine ⟨_, rfl, ?_⟩
        refine WL.store_arrK (i := 2) st_117 rfl arr72 rfl (by rw [iv_length]; exact hl_114) hl_120 rfl ?_
        intro w_122 st_123 kp_124
        replace st_123 : St w w_122 [.cells B_94 [.int .i64 ((64 : Nat) : Int)] 3, .cells B_93 [.slice A_53 n_56 c_54] 29, .cells B_86 (iv .u32 r_119) 72, .sl (some ⟨B_15, 0, none⟩) 1 1 (iv .u8 [128]) 5 1, .sl A_53 c_54 n_56 (iv .u8 l_55) 5 1, .cells B_1 (iv .u8 (List.replicate 32 (0 : Int))) 23] := st_123
        refine WL.nil ?_
        refine QW.blk_n ?_
        obtain ⟨hI1, hg1⟩ := H
        exact fun b hb hd => ⟨(kp_121).trans kp_124, ⟨(st_123.cell (k := 1) rfl rfl).trans (st_111.cell (k := 1) rfl rfl).symm, (st_123.cell (k := 0) rfl rfl).trans (st_111.cell (k := 0) rfl rfl).symm⟩, r_119, ⟨by rw [List.foldl_append, ← hs_112]; exact hg1, hI1, hl_120⟩, st_123⟩
      · rintro D_125 s_z w_128 ⟨rfl_, _, hl_130⟩ st_129
        rw [foldl_fin, ← e_127] at rfl_
        rw [rfl_] at st_129 hl_130
        have st_129 : St w w_128 [.obj D_125 (.deferred (some [])), .cells B_94 [.int .i64 ((64 : Nat) : Int)] 3, .cells B_93 [.slice A_53 n_56 c_54] 29, .cells B_86 (iv .u32 s_126) 72, .sl (some ⟨B_15, 0, none⟩) 1 1 (iv .u8 [128]) 5 1, .sl A_53 c_54 n_56 (iv .u8 l_55) 5 1, .cells B_1 (iv .u8 (List.replicate 32 (0 : Int))) 23] := st_129
        refine QW.blk_n ?_
        refine QW.then_n ?_
        refine CW.seq ?_
        refine CW.region ?_
        refine WL.alloc st_129 arr23.zero ?_
        intro B_132 w_133 st_134
        replace st_134 : St w w_133 [.cells B_132 (iv .u8 (List.replicate 32 (0 : Int))) 23, .obj D_125 (.deferred (some [])), .cells B_94 [.int .i64 ((64 : Nat) : Int)] 3, .cells B_93 [.slice A_53 n_56 c_54] 29, .cells B_86 (iv .u32 s_126) 72, .sl (some ⟨B_15, 0, none⟩) 1 1 (iv .u8 [128]) 5 1, .sl A_53 c_54 n_56 (iv .u8 l_55) 5 1, .cells B_1 (iv .u8 (List.replicate 32 (0 : Int))) 23] := st_134
        refine WL.nil ?_
        refine QW.then_n ?_
        refine CW.seq ?_
        refine CW.seq ?_
        refine CW.region ?_
        refine WL.val Wanted.none (Runs.move rfl) ?_
        refine WL.nil ?_
        refine QW.then_n ?_
        refine CW.block ?_
        obtain ⟨k_136, H⟩ := H
        refine CW.sub [(2, .pointer (some ⟨B_1, 0, none⟩)), (5, .pointer (some ⟨B_86, 0, none⟩)), (7, .pointer (some ⟨B_132, 0, none⟩)), (41, .int .i64 0)] ⟨rfl, rfl, rfl, rfl, trivial⟩ ?_
        refine CW.loop (fun kL3 l_ w_ => ∃ (m_137 : List Int) (x_139 : Int), l_ = [(2, .pointer (some ⟨B_1, 0, none⟩)), (5, .pointer (some ⟨B_86, 0, none⟩)), (7, .pointer (some ⟨B_132, 0, none⟩)), (41, .int .i64 x_139)] ∧ digest_Of.L3 r0 s_126 kL3 m_137 x_139 ∧ (m_137.length = 32) ∧ St w w_ [.cells B_132 (iv .u8 m_137) 23, .obj D_125 (.deferred (some [])), .cells B_94 [.int .i64 ((64 : Nat) : Int)] 3, .cells B_93 [.slice A_53 n_56 c_54] 29, .cells B_86 (iv .u32 s_126) 72, .sl (some ⟨B_15, 0, none⟩) 1 1 (iv .u8 [128]) 5 1, .sl A_53 c_54 n_56 (iv .u8 l_55) 5 1, .cells B_1 (iv .u8 (List.replicate 32 (0 : Int))) 23]) (k := k_136) ⟨List.replicate 32 (0 : Int), 0, rfl, H, (List.length_replicate ..), st_134⟩ (fun _ _ h => by obtain ⟨_, _, _, h, _⟩ := h; exact h.elim) ?_
        rintro kL3 l_142 w_140 ⟨m_137, x_139, rfl, H, hl_138, st_141⟩
        refine CW.seq ?_
        refine CW.region ?_
        refine WL.val Wanted.none (Runs.lss rfl rfl rfl) ?_
        refine WL.nil ?_
        refine QW.then_n ?_
        refine CW.seq ?_
        rcases H with ⟨c_143, H⟩ | ⟨c_143, H⟩
        · have h_144 : (decide (x_139 < 32)) = true := (decide_eq_true c_143)
          refine CW.ct rfl h_144 ?_
          refine CW.skip ?_
          refine QW.then_n ?_
          refine CW.seq ?_
          refine CW.block ?_
          refine CW.seq ?_
          refine CW.region ?_
          refine WL.val Wanted.none (Runs.move rfl) ?_
          refine WL.val Wanted.none (Runs.assign rfl) ?_
          refine WL.nil ?_
          refine QW.then_n ?_
          refine CW.region ?_
          refine WL.val Wanted.none (Runs.move rfl) ?_
          refine WL.val Wanted.none (Runs.move rfl) ?_
          refine WL.val Wanted.none (Runs.quo rfl rfl (by decide) rfl) ?_
          obtain ⟨⟨p_145, q_146⟩, H⟩ := H
          refine WL.val Wanted.none (Runs.indexAddr_blk arr72 rfl rfl p_145 q_146 (o := (IntKind.i64.wrap (Int.tdiv x_139 4)).toNat) (by first | rfl | omega)) ?_
          refine WL.val Wanted.none (Runs.load nagg42 rfl (st_141.cell_iv (i := 4) rfl (by have := hl_130; omega))) ?_
          refine WL.val Wanted.none (Runs.move rfl) ?_
          refine WL.val Wanted.none (Runs.rem rfl rfl (by decide) rfl) ?_
          refine WL.val Wanted.none (Runs.mul rfl rfl rfl) ?_
          obtain ⟨x_147, e_148, H⟩ := H
          refine WL.val Wanted.none (Runs.sub rfl rfl e_148) ?_
          obtain ⟨z_149, H⟩ := H
          obtain ⟨x_150, e_151, H⟩ := H
          refine WL.val Wanted.none (Runs.shr rfl rfl z_149 e_151) ?_
          refine WL.val Wanted.none (Runs.conv Tryd.underlying5 ⟨_, Tryd.underlying42⟩ rfl rfl) ?_
          obtain ⟨⟨p_152, q_153⟩, H⟩ := H
          refine WL.val Wanted.none (Runs.indexAddr_blk arr23 rfl rfl p_152 q_153 (o := (x_139).toNat) (by first | rfl | omega)) ?_
          obtain ⟨m_154, e_155, H⟩ := H
          have hl_158 : m_154.length = 32 := by rw [e_155, List.length_set]; exact hl_138
          refine WL.store_cells (i := 0) st_141 rfl cells5 rfl (by rw [iv_length]; have := hl_138; omega) rfl rfl ?_
          intro w_156 st_157
          have st_157' : St w w_156 [.cells B_132 (iv .u8 m_154) 23, .obj D_125 (.deferred (some [])), .cells B_94 [.int .i64 ((64 : Nat) : Int)] 3, .cells B_93 [.slice A_53 n_56 c_54] 29, .cells B_86 (iv .u32 s_126) 72, .sl (some ⟨B_15, 0, none⟩) 1 1 (iv .u8 [128]) 5 1, .sl A_53 c_54 n_56 (iv .u8 l_55) 5 1, .cells B_1 (iv .u8 (List.replicate 32 (0 : Int))) 23] := by rw [e_155, ← iv_set .u8 m_137 ((x_139).toNat) (IntKind.u8.wrap x_150)]; exact st_157
          refine WL.nil ?_
          refine QW.blk_n ?_
          refine QW.then_n ?_
          refine CW.region ?_
          refine WL.val Wanted.none (Runs.add rfl rfl rfl) ?_
          refine WL.val Wanted.none (Runs.move rfl) ?_
          refine WL.nil ?_
          exact QW.at [(2, .pointer (some ⟨B_1, 0, none⟩)), (5, .pointer (some ⟨B_86, 0, none⟩)), (7, .pointer (some ⟨B_132, 0, none⟩)), (41, .int .i64 (IntKind.i64.wrap (x_139 + 1)))] ⟨rfl, rfl, rfl, rfl, trivial⟩ ⟨m_154, IntKind.i64.wrap (x_139 + 1), rfl, H, hl_158, st_157'⟩
        · have h_144 : (decide (x_139 < 32)) = false := (decide_eq_false c_143)
          refine CW.cf rfl h_144 ?_
          refine CW.exit ?_
          refine QW.then_x ?_
          refine QW.then_x ?_
          refine QW.blk_x ?_
          refine QW.then_n ?_
          refine CW.seq ?_
          refine CW.region ?_
          refine WL.val Wanted.none (Runs.load_arr arr23 rfl (st_141.blk (i := 0) rfl) hl_138) ?_
          refine WL.store_arr (i := 7) st_141 rfl arr23 rfl (by rw [iv_length]; exact (List.length_replicate ..)) hl_138 rfl ?_
          intro w_159 st_160
          replace st_160 : St w w_159 [.cells B_132 (iv .u8 m_137) 23, .obj D_125 (.deferred (some [])), .cells B_94 [.int .i64 ((64 : Nat) : Int)] 3, .cells B_93 [.slice A_53 n_56 c_54] 29, .cells B_86 (iv .u32 s_126) 72, .sl (some ⟨B_15, 0, none⟩) 1 1 (iv .u8 [128]) 5 1, .sl A_53 c_54 n_56 (iv .u8 l_55) 5 1, .cells B_1 (iv .u8 m_137) 23] := st_160
          refine WL.nil ?_
          refine QW.then_n ?_
          refine CW.ret ?_
          obtain rfl := H
          refine QW.retMc st_160 (i := 1) rfl rfl arr23 rfl (j := 7) (by decide) rfl hl_138 (fun wz stz => ?_)
          exact ⟨hl_138, rfl, stz.pick [] (by decide)⟩

/-! ### digest_Pieces: function 26 -/
def digest_Pieces.rel (l0 : List (List Int)) (r0 : List Int) : Prop := (∃ (r_9 : List Int), slices_Concat_s_byte_byte.rel l0 r_9 ∧ (∃ (r_19 : List Int), digest_Of.rel r_9 r_19 ∧ r0 = r_19))
set_option maxHeartbeats 4000000 in
set_option maxRecDepth 100000 in
theorem digest_Pieces.calls (w : World) (l0 : List (List Int)) (A0 : Option Addr) (n0 : Nat) (c0 : Nat)  (hG0 : Src w (some ⟨0, 0, none⟩) (iv .u32 tab0)) (hs0 : RowsOf w .u8 A0 l0) (hn0 : n0 = l0.length) (hc0 : n0 ≤ c0) (r0 : List Int) (H : digest_Pieces.rel l0 r0) :
    Calls Tryd.prog 26 #[.slice A0 n0 c0] w fun e w' => r0.length = 32 ∧ e = .returned (.agg (iv .u8 r0).toArray) ∧ St w w' [] := by
  refine CW.enter Tryd.func26 rfl (n := 6) rfl [.slice A0 n0 c0] (Nat.le_of_ble_eq_true rfl) ?_
  refine CW.sub [(0, .slice A0 n0 c0)] ⟨rfl, trivial⟩ ?_
  have st0 : St w w [] := St.refl w
  refine CW.seq ?_
  refine CW.region ?_
  refine WL.alloc st0 arr23.zero ?_
  intro B_1 w_2 st_3
  replace st_3 : St w w_2 [.cells B_1 (iv .u8 (List.replicate 32 (0 : Int))) 23] := st_3
  refine WL.nil ?_
  refine QW.then_n ?_
  refine CW.seq ?_
  refine CW.region ?_
  refine WL.val Wanted.none (Runs.move rfl) ?_
  obtain ⟨r_9, hr_5, H⟩ := H
  refine WL.call Wanted.none ent21 rfl (slices_Concat_s_byte_byte.calls w_2 l0 A0 n0 c0 (hs0.ext st_3) (hn0) (hc0) r_9 hr_5) ?_
  rintro _ w_6 ⟨A_10, c_11, n_12, hn_13, rfl, sc_8⟩
  have st_7 : St w w_6 [.sl A_10 c_11 n_12 (iv .u8 r_9) 5 1, .cells B_1 (iv .u8 (List.replicate 32 (0 : Int))) 23] := st_3.call sc_8
  refine ⟨_, rfl, ?_⟩
  obtain ⟨r_19, hr_15, H⟩ := H
  refine WL.call Wanted.none ent32 rfl (digest_Of.calls w_6 r_9 A_10 n_12 c_11 (hG0.ext st_7) (st_7.src_sl (k := 0) rfl) (hn_13) (st_7.cap (i := 0) rfl) r_19 hr_15) ?_
  rintro _ w_16 ⟨hl_20, rfl, sc_18⟩
  have st_17 : St w w_16 [.sl A_10 c_11 n_12 (iv .u8 r_9) 5 1, .cells B_1 (iv .u8 (List.replicate 32 (0 : Int))) 23] := st_7.call sc_18
  refine ⟨_, rfl, ?_⟩
  refine WL.store_arr (i := 1) st_17 rfl arr23 rfl (by rw [iv_length]; exact (List.length_replicate ..)) hl_20 rfl ?_
  intro w_21 st_22
  replace st_22 : St w w_21 [.sl A_10 c_11 n_12 (iv .u8 r_9) 5 1, .cells B_1 (iv .u8 r_19) 23] := st_22
  refine WL.nil ?_
  refine QW.then_n ?_
  refine CW.ret ?_
  obtain rfl := H
  exact QW.retc rfl arr23 rfl (st_22.blk (i := 1) rfl) hl_20 ⟨hl_20, rfl, st_22.pick [] (by decide)⟩

/-! ### tree_Digest: function 14 -/
def tree_Digest.rel (a0 : Int) (a1 : Int) (l2 : List Int) (r0 : List Int) : Prop := (∃ (r_13 : List Int), word_Put.rel (IntKind.u64.wrap a1) 4 r_13 ∧ (∃ (r_28 : List Int), digest_Pieces.rel ([[IntKind.u8.wrap a0], r_13, l2] : List (List Int)) r_28 ∧ r0 = r_28))
set_option maxHeartbeats 4000000 in
set_option maxRecDepth 100000 in
theorem tree_Digest.calls (w : World) (a0 : Int) (a1 : Int) (l2 : List Int) (A2 : Option Addr) (n2 : Nat) (c2 : Nat)  (hG0 : Src w (some ⟨0, 0, none⟩) (iv .u32 tab0)) (hs2 : Src w A2 (iv .u8 l2)) (hn2 : n2 = l2.length) (hc2 : n2 ≤ c2) (r0 : List Int) (H : tree_Digest.rel a0 a1 l2 r0) :
    Calls Tryd.prog 14 #[.int .i64 a0, .int .u32 a1, .slice A2 n2 c2] w fun e w' => r0.length = 32 ∧ e = .returned (.agg (iv .u8 r0).toArray) ∧ St w w' [] := by
  refine CW.enter Tryd.func14 rfl (n := 16) rfl [.int .i64 a0, .int .u32 a1, .slice A2 n2 c2] (Nat.le_of_ble_eq_true rfl) ?_
  refine CW.sub [(0, .int .i64 a0), (1, .int .u32 a1), (2, .slice A2 n2 c2)] ⟨rfl, rfl, rfl, trivial⟩ ?_
  have st0 : St w w [] := St.refl w
  refine CW.seq ?_
  refine CW.region ?_
  refine WL.alloc st0 arr23.zero ?_
  intro B_1 w_2 st_3
  replace st_3 : St w w_2 [.cells B_1 (iv .u8 (List.replicate 32 (0 : Int))) 23] := st_3
  refine WL.nil ?_
  refine QW.then_n ?_
  refine CW.seq ?_
  refine CW.region ?_
  refine WL.val Wanted.none (Runs.move rfl) ?_
  refine WL.val Wanted.none (Runs.conv Tryd.underlying5 ⟨_, Tryd.underlying3⟩ rfl rfl) ?_
  refine WL.buildSl [.int .u8 (IntKind.u8.wrap a0)] st_3 Tryd.underlying29 elem5 rfl rfl (by decide) (by decide) (by simp [Value.cells]) ?_
  intro B_5 w_6 st_7
  replace st_7 : St w w_6 [.sl (some ⟨B_5, 0, none⟩) 1 1 (iv .u8 [IntKind.u8.wrap a0]) 5 1, .cells B_1 (iv .u8 (List.replicate 32 (0 : Int))) 23] := st_7
  refine WL.val Wanted.none (Runs.move rfl) ?_
  refine WL.val Wanted.none (Runs.conv Tryd.underlying24 ⟨_, Tryd.underlying42⟩ rfl rfl) ?_
  obtain ⟨r_13, hr_9, H⟩ := H
  refine WL.call Wanted.none ent22 rfl (word_Put.calls w_6 (IntKind.u64.wrap a1) 4 r_13 hr_9) ?_
  rintro _ w_10 ⟨A_14, c_15, n_16, hn_17, rfl, sc_12⟩
  have st_11 : St w w_10 [.sl A_14 c_15 n_16 (iv .u8 r_13) 5 1, .sl (some ⟨B_5, 0, none⟩) 1 1 (iv .u8 [IntKind.u8.wrap a0]) 5 1, .cells B_1 (iv .u8 (List.replicate 32 (0 : Int))) 23] := st_7.call sc_12
  refine ⟨_, rfl, ?_⟩
  refine WL.val Wanted.none (Runs.move rfl) ?_
  refine WL.buildSl [.slice (some ⟨B_5, 0, none⟩) 1 1, .slice A_14 n_16 c_15, .slice A2 n2 c2] st_11 Tryd.underlying63 elem29 rfl rfl (by decide) (by decide) (by simp [Value.cells]) ?_
  intro B_19 w_20 st_21
  replace st_21 : St w w_20 [.sl (some ⟨B_19, 0, none⟩) 3 3 [.slice (some ⟨B_5, 0, none⟩) 1 1, .slice A_14 n_16 c_15, .slice A2 n2 c2] 29 1, .sl A_14 c_15 n_16 (iv .u8 r_13) 5 1, .sl (some ⟨B_5, 0, none⟩) 1 1 (iv .u8 [IntKind.u8.wrap a0]) 5 1, .cells B_1 (iv .u8 (List.replicate 32 (0 : Int))) 23] := st_21
  have hr_23 : RowsOf w_20 .u8 (some ⟨B_19, 0, none⟩) ([[IntKind.u8.wrap a0], r_13, l2] : List (List Int)) := RowsOf.lit (st_21.src_sl (k := 0) rfl) rfl (fun j hj => by match j, hj with | 0, _ => exact ⟨_, _, _, rfl, rfl, st_21.cap (i := 2) rfl, st_21.src_sl (k := 2) rfl⟩ | 1, _ => exact ⟨_, _, _, rfl, hn_17, st_21.cap (i := 1) rfl, st_21.src_sl (k := 1) rfl⟩ | 2, _ => exact ⟨_, _, _, rfl, hn2, hc2, hs2.ext st_21⟩ | j + 3, hj => exact absurd (show j + 3 < 3 from hj) (by omega))
  obtain ⟨r_28, hr_24, H⟩ := H
  refine WL.call Wanted.none ent26 rfl (digest_Pieces.calls w_20 ([[IntKind.u8.wrap a0], r_13, l2] : List (List Int)) (some ⟨B_19, 0, none⟩) 3 3 (hG0.ext st_21) (hr_23) (rfl) (Nat.le_refl _) r_28 hr_24) ?_
  rintro _ w_25 ⟨hl_29, rfl, sc_27⟩
  have st_26 : St w w_25 [.sl (some ⟨B_19, 0, none⟩) 3 3 [.slice (some ⟨B_5, 0, none⟩) 1 1, .slice A_14 n_16 c_15, .slice A2 n2 c2] 29 1, .sl A_14 c_15 n_16 (iv .u8 r_13) 5 1, .sl (some ⟨B_5, 0, none⟩) 1 1 (iv .u8 [IntKind.u8.wrap a0]) 5 1, .cells B_1 (iv .u8 (List.replicate 32 (0 : Int))) 23] := st_21.call sc_27
  refine ⟨_, rfl, ?_⟩
  refine WL.store_arr (i := 3) st_26 rfl arr23 rfl (by rw [iv_length]; exact (List.length_replicate ..)) hl_29 rfl ?_
  intro w_30 st_31
  replace st_31 : St w w_30 [.sl (some ⟨B_19, 0, none⟩) 3 3 [.slice (some ⟨B_5, 0, none⟩) 1 1, .slice A_14 n_16 c_15, .slice A2 n2 c2] 29 1, .sl A_14 c_15 n_16 (iv .u8 r_13) 5 1, .sl (some ⟨B_5, 0, none⟩) 1 1 (iv .u8 [IntKind.u8.wrap a0]) 5 1, .cells B_1 (iv .u8 r_28) 23] := st_31
  refine WL.nil ?_
  refine QW.then_n ?_
  refine CW.sub [(6, .pointer (some ⟨B_1, 0, none⟩))] ⟨rfl, trivial⟩ ?_
  refine CW.ret ?_
  obtain rfl := H
  exact QW.retc rfl arr23 rfl (st_31.blk (i := 3) rfl) hl_29 ⟨hl_29, rfl, st_31.pick [] (by decide)⟩

/-! ### equal_differ: function 33 -/
def equal_differ.L1 (l0 : List Int) (l1 : List Int) (r0 : Int) : Nat → Int → Int → Prop
  | 0, _, _ => False
  | kL1 + 1, x_2, x_3 => ((x_3 < (l0.length : Int) ∧ ((0 ≤ x_3 ∧ x_3 < (l0.length : Int)) ∧ ((0 ≤ x_3 ∧ x_3 < (l1.length : Int)) ∧ (∃ x_17 : Int, x_17 = IntKind.u64.wrap (bits .xor .u8 (gn l0 ((x_3).toNat)) (gn l1 ((x_3).toNat))) ∧ equal_differ.L1 l0 l1 r0 kL1 (bits .or .u64 x_2 x_17) (IntKind.i64.wrap (x_3 + 1)))))) ∨ (¬ (x_3 < (l0.length : Int)) ∧ r0 = x_2))
def equal_differ.rel (l0 : List Int) (l1 : List Int) (r0 : Int) : Prop := (∃ k_ : Nat, equal_differ.L1 l0 l1 r0 k_ 0 0)
set_option maxHeartbeats 4000000 in
set_option maxRecDepth 100000 in
theorem equal_differ.calls (w : World) (l0 : List Int) (l1 : List Int) (A0 : Option Addr) (n0 : Nat) (c0 : Nat) (A1 : Option Addr) (n1 : Nat) (c1 : Nat)  (hs0 : Src w A0 (iv .u8 l0)) (hn0 : n0 = l0.length) (hc0 : n0 ≤ c0) (hs1 : Src w A1 (iv .u8 l1)) (hn1 : n1 = l1.length) (hc1 : n1 ≤ c1) (r0 : Int) (H : equal_differ.rel l0 l1 r0) :
    Calls Tryd.prog 33 #[.slice A0 n0 c0, .slice A1 n1 c1] w fun e w' => e = .returned (.int .u64 r0) ∧ St w w' [] := by
  refine CW.enter Tryd.func33 rfl (n := 26) rfl [.slice A0 n0 c0, .slice A1 n1 c1] (Nat.le_of_ble_eq_true rfl) ?_
  refine CW.sub [(0, .slice A0 n0 c0), (1, .slice A1 n1 c1)] ⟨rfl, rfl, trivial⟩ ?_
  have st0 : St w w [] := St.refl w
  refine CW.seq ?_
  refine CW.region ?_
  refine WL.val Wanted.none (Runs.assign rfl) ?_
  refine WL.nil ?_
  refine QW.then_n ?_
  refine CW.seq ?_
  refine CW.region ?_
  refine WL.val Wanted.none (Runs.assign rfl) ?_
  refine WL.nil ?_
  refine QW.then_n ?_
  refine CW.seq ?_
  refine CW.seq ?_
  refine CW.region ?_
  refine WL.val Wanted.none (Runs.move rfl) ?_
  refine WL.val Wanted.none (Runs.len_sl Tryd.underlying29 rfl (by rw [hn0])) ?_
  refine WL.val Wanted.none (Runs.move rfl) ?_
  refine WL.nil ?_
  refine QW.then_n ?_
  refine CW.block ?_
  obtain ⟨k_1, H⟩ := H
  refine CW.sub [(0, .slice A0 n0 c0), (1, .slice A1 n1 c1), (4, .int .u64 0), (5, .int .u64 0), (8, .int .i64 (l0.length : Int)), (9, .int .i64 0)] ⟨rfl, rfl, rfl, rfl, rfl, rfl, trivial⟩ ?_
  refine CW.loop (fun kL1 l_ w_ => ∃ (x_2 : Int) (x_3 : Int), l_ = [(0, .slice A0 n0 c0), (1, .slice A1 n1 c1), (4, .int .u64 0), (5, .int .u64 x_2), (8, .int .i64 (l0.length : Int)), (9, .int .i64 x_3)] ∧ equal_differ.L1 l0 l1 r0 kL1 x_2 x_3 ∧ St w w_ []) (k := k_1) ⟨0, 0, rfl, H, st0⟩ (fun _ _ h => by obtain ⟨_, _, _, h, _⟩ := h; exact h.elim) ?_
  rintro kL1 l_6 w_4 ⟨x_2, x_3, rfl, H, st_5⟩
  refine CW.seq ?_
  refine CW.region ?_
  refine WL.val Wanted.none (Runs.lss rfl rfl rfl) ?_
  refine WL.nil ?_
  refine QW.then_n ?_
  refine CW.seq ?_
  rcases H with ⟨c_7, H⟩ | ⟨c_7, H⟩
  · have h_8 : (decide (x_3 < (l0.length : Int))) = true := (decide_eq_true c_7)
    refine CW.ct rfl h_8 ?_
    refine CW.skip ?_
    refine QW.then_n ?_
    refine CW.seq ?_
    refine CW.block ?_
    refine CW.seq ?_
    refine CW.region ?_
    refine WL.val Wanted.none (Runs.move rfl) ?_
    refine WL.val Wanted.none (Runs.assign rfl) ?_
    refine WL.nil ?_
    refine QW.then_n ?_
    refine CW.region_qa wide (by kernel_rfl) st_5 ?_
    refine HL.val Wanted.none (fun wq sq => (Runs.move rfl)) ?_
    refine HL.val Wanted.none (fun wq sq => (Runs.move rfl)) ?_
    refine HL.val Wanted.none (fun wq sq => (Runs.move rfl)) ?_
    obtain ⟨⟨p_9, q_10⟩, H⟩ := H
    obtain ⟨a_11, e_12⟩ := (hs0.ext st_5).addr_iv ((x_3).toNat) (by omega)
    refine HL.val Wanted.none (fun wq sq => (Runs.indexAddr Tryd.underlying29 cells5 (by decide) rfl e_12 rfl p_9 (by rw [hn0]; exact q_10) (o := (x_3).toNat) (by first | rfl | omega))) ?_
    refine HL.val Wanted.none (fun wq sq => (Runs.load nagg5 rfl ((hs0.ext sq).cell_iv e_12 (by omega)))) ?_
    refine HL.val Wanted.none (fun wq sq => (Runs.move rfl)) ?_
    refine HL.val Wanted.none (fun wq sq => (Runs.move rfl)) ?_
    obtain ⟨⟨p_13, q_14⟩, H⟩ := H
    obtain ⟨a_15, e_16⟩ := (hs1.ext st_5).addr_iv ((x_3).toNat) (by omega)
    refine HL.val Wanted.none (fun wq sq => (Runs.indexAddr Tryd.underlying29 cells5 (by decide) rfl e_16 rfl p_13 (by rw [hn1]; exact q_14) (o := (x_3).toNat) (by first | rfl | omega))) ?_
    refine HL.val Wanted.none (fun wq sq => (Runs.load nagg5 rfl ((hs1.ext sq).cell_iv e_16 (by omega)))) ?_
    refine HL.val Wanted.none (fun wq sq => (Runs.bxor rfl rfl rfl)) ?_
    obtain ⟨x_17, e_18, H⟩ := H
    refine HL.val Wanted.none (fun wq sq => (Runs.conv Tryd.underlying24 ⟨_, Tryd.underlying5⟩ rfl e_18)) ?_
    refine HL.val Wanted.none (fun wq sq => (Runs.bor rfl rfl rfl)) ?_
    refine HL.val Wanted.none (fun wq sq => (Runs.assign rfl)) ?_
    refine HL.nil (fun w_19 st_20 => ?_)
    refine WL.nil ?_
    refine QW.blk_n ?_
    refine QW.then_n ?_
    refine CW.region ?_
    refine WL.val Wanted.none (Runs.add rfl rfl rfl) ?_
    refine WL.val Wanted.none (Runs.move rfl) ?_
    refine WL.nil ?_
    exact QW.at [(0, .slice A0 n0 c0), (1, .slice A1 n1 c1), (4, .int .u64 0), (5, .int .u64 (bits .or .u64 x_2 x_17)), (8, .int .i64 (l0.length : Int)), (9, .int .i64 (IntKind.i64.wrap (x_3 + 1)))] ⟨rfl, rfl, rfl, rfl, rfl, rfl, trivial⟩ ⟨bits .or .u64 x_2 x_17, IntKind.i64.wrap (x_3 + 1), rfl, H, st_20⟩
  · have h_8 : (decide (x_3 < (l0.length : Int))) = false := (decide_eq_false c_7)
    refine CW.cf rfl h_8 ?_
    refine CW.exit ?_
    refine QW.then_x ?_
    refine QW.then_x ?_
    refine QW.blk_x ?_
    refine QW.then_n ?_
    refine CW.seq ?_
    refine CW.region ?_
    refine WL.val Wanted.none (Runs.move rfl) ?_
    refine WL.val Wanted.none (Runs.assign rfl) ?_
    refine WL.nil ?_
    refine QW.then_n ?_
    refine CW.sub [(4, .int .u64 x_2)] ⟨rfl, trivial⟩ ?_
    refine CW.ret ?_
    obtain rfl := H
    exact QW.ret1 rfl rfl ⟨rfl, st_5.pick [] (by decide)⟩

/-! ### equal_Bytes: function 27 -/
def equal_Bytes.rel (l0 : List Int) (l1 : List Int) (r0 : Bool) : Prop := (((l0.length : Int) = (l1.length : Int) ∧ (∃ (r_7 : Int), equal_differ.rel l0 l1 r_7 ∧ r0 = (r_7 == 0))) ∨ (¬ ((l0.length : Int) = (l1.length : Int)) ∧ r0 = false))
set_option maxHeartbeats 4000000 in
set_option maxRecDepth 100000 in
theorem equal_Bytes.calls (w : World) (l0 : List Int) (l1 : List Int) (A0 : Option Addr) (n0 : Nat) (c0 : Nat) (A1 : Option Addr) (n1 : Nat) (c1 : Nat)  (hs0 : Src w A0 (iv .u8 l0)) (hn0 : n0 = l0.length) (hc0 : n0 ≤ c0) (hs1 : Src w A1 (iv .u8 l1)) (hn1 : n1 = l1.length) (hc1 : n1 ≤ c1) (r0 : Bool) (H : equal_Bytes.rel l0 l1 r0) :
    Calls Tryd.prog 27 #[.slice A0 n0 c0, .slice A1 n1 c1] w fun e w' => e = .returned (.bool r0) ∧ St w w' [] := by
  refine CW.enter Tryd.func27 rfl (n := 16) rfl [.slice A0 n0 c0, .slice A1 n1 c1] (Nat.le_of_ble_eq_true rfl) ?_
  refine CW.sub [(0, .slice A0 n0 c0), (1, .slice A1 n1 c1)] ⟨rfl, rfl, trivial⟩ ?_
  have st0 : St w w [] := St.refl w
  refine CW.seq ?_
  refine CW.region ?_
  refine WL.val Wanted.none (Runs.assign rfl) ?_
  refine WL.nil ?_
  refine QW.then_n ?_
  refine CW.seq ?_
  refine CW.region ?_
  refine WL.val Wanted.none (Runs.move rfl) ?_
  refine WL.val Wanted.none (Runs.len_sl Tryd.underlying29 rfl (by rw [hn0])) ?_
  refine WL.val Wanted.none (Runs.move rfl) ?_
  refine WL.val Wanted.none (Runs.len_sl Tryd.underlying29 rfl (by rw [hn1])) ?_
  refine WL.val Wanted.none (Runs.eql rfl rfl rfl) ?_
  refine WL.val Wanted.none (Runs.move rfl) ?_
  rcases H with ⟨c_1, H⟩ | ⟨c_1, H⟩
  · have h_2 : ((l0.length : Int) == (l1.length : Int)) = true := (beq_iff_eq.mpr c_1)
    refine WL.on ?_ ?_; exact Wanted.guard (dj := 10) (by rfl) (evb (by rfl) h_2) (by rfl)
    refine WL.val Wanted.none (Runs.move rfl) ?_
    refine WL.on ?_ ?_; exact Wanted.guard (dj := 10) (by rfl) (evb (by rfl) h_2) (by rfl)
    refine WL.val Wanted.none (Runs.move rfl) ?_
    refine WL.on ?_ ?_; exact Wanted.guard (dj := 10) (by rfl) (evb (by rfl) h_2) (by rfl)
    obtain ⟨r_7, hr_3, H⟩ := H
    refine WL.call Wanted.none ent33 rfl (equal_differ.calls w l0 l1 A0 n0 c0 A1 n1 c1 (hs0.ext st0) (hn0) (hc0) (hs1.ext st0) (hn1) (hc1) r_7 hr_3) ?_
    rintro _ w_4 ⟨rfl, sc_6⟩
    have st_5 : St w w_4 [] := st0.call sc_6
    refine ⟨_, rfl, ?_⟩
    refine WL.on ?_ ?_; exact Wanted.guard (dj := 10) (by rfl) (evb (by rfl) h_2) (by rfl)
    refine WL.val Wanted.none (Runs.eql rfl rfl rfl) ?_
    refine WL.val Wanted.none (Runs.pick_t (evb rfl h_2) rfl) ?_
    refine WL.val Wanted.none (Runs.assign rfl) ?_
    refine WL.nil ?_
    refine QW.then_n ?_
    refine CW.sub [(4, .bool (r_7 == 0))] ⟨rfl, trivial⟩ ?_
    refine CW.ret ?_
    obtain rfl := H
    exact QW.ret1 rfl rfl ⟨rfl, st_5.pick [] (by decide)⟩
  · have h_2 : ((l0.length : Int) == (l1.length : Int)) = false := (beq_eq_false_iff_ne.mpr c_1)
    refine WL.off ?_ ?_; exact Wanted.guard (dj := 10) (by rfl) (evb (by rfl) h_2) (by rfl)
    refine WL.off ?_ ?_; exact Wanted.guard (dj := 10) (by rfl) (evb (by rfl) h_2) (by rfl)
    refine WL.off ?_ ?_; exact Wanted.guard (dj := 10) (by rfl) (evb (by rfl) h_2) (by rfl)
    refine WL.off ?_ ?_; exact Wanted.guard (dj := 10) (by rfl) (evb (by rfl) h_2) (by rfl)
    refine WL.val Wanted.none (Runs.pick_f (evb rfl h_2) rfl) ?_
    refine WL.val Wanted.none (Runs.assign rfl) ?_
    refine WL.nil ?_
    refine QW.then_n ?_
    refine CW.sub [(4, .bool false)] ⟨rfl, trivial⟩ ?_
    refine CW.ret ?_
    obtain rfl := H
    exact QW.ret1 rfl rfl ⟨rfl, st0.pick [] (by decide)⟩

/-! ### tree_Check: function 16 -/
def tree_Check.rel (l0_0 : List Int) (a0_1 : Int) (a1 : Int) (a2 : Int) (l3 : List Int) (r0 : Bool) : Prop := (∃ (r_9 : List Int), tree_Digest.rel a1 a2 l3 r_9 ∧ (∃ (r_22 : Bool), equal_Bytes.rel l0_0 r_9 r_22 ∧ r0 = r_22))
set_option maxHeartbeats 4000000 in
set_option maxRecDepth 100000 in
theorem tree_Check.calls (w : World) (l0_0 : List Int) (a0_1 : Int) (a1 : Int) (a2 : Int) (l3 : List Int) (A3 : Option Addr) (n3 : Nat) (c3 : Nat)  (hG0 : Src w (some ⟨0, 0, none⟩) (iv .u32 tab0)) (hl0_0 : l0_0.length = 32) (hs3 : Src w A3 (iv .u8 l3)) (hn3 : n3 = l3.length) (hc3 : n3 ≤ c3) (r0 : Bool) (H : tree_Check.rel l0_0 a0_1 a1 a2 l3 r0) :
    Calls Tryd.prog 16 #[.agg (iv .u8 l0_0 ++ ([.int .u64 a0_1] : List Value)).toArray, .int .i64 a1, .int .u32 a2, .slice A3 n3 c3] w fun e w' => e = .returned (.bool r0) ∧ St w w' [] := by
  refine CW.enter Tryd.func16 rfl (n := 18) rfl [.agg (iv .u8 l0_0 ++ ([.int .u64 a0_1] : List Value)).toArray, .int .i64 a1, .int .u32 a2, .slice A3 n3 c3] (Nat.le_of_ble_eq_true rfl) ?_
  refine CW.sub [(0, .agg (iv .u8 l0_0 ++ ([.int .u64 a0_1] : List Value)).toArray), (1, .int .i64 a1), (2, .int .u32 a2), (3, .slice A3 n3 c3)] ⟨rfl, rfl, rfl, rfl, trivial⟩ ?_
  have st0 : St w w [] := St.refl w
  refine CW.seq ?_
  refine CW.region ?_
  refine WL.box st0 rfl rfl ?_
  intro B_1 w_2 st_3
  replace st_3 : St w w_2 [.cells B_1 (iv .u8 l0_0 ++ ([.int .u64 a0_1] : List Value)) 26] := st_3
  refine WL.val Wanted.none (Runs.assign rfl) ?_
  refine WL.nil ?_
  refine QW.then_n ?_
  refine CW.seq ?_
  refine CW.region ?_
  refine WL.val Wanted.none (Runs.move rfl) ?_
  refine WL.val Wanted.none (Runs.move rfl) ?_
  refine WL.val Wanted.none (Runs.move rfl) ?_
  obtain ⟨r_9, hr_5, H⟩ := H
  refine WL.call Wanted.none ent14 rfl (tree_Digest.calls w_2 a1 a2 l3 A3 n3 c3 (hG0.ext st_3) (hs3.ext st_3) (hn3) (hc3) r_9 hr_5) ?_
  rintro _ w_6 ⟨hl_10, rfl, sc_8⟩
  have st_7 : St w w_6 [.cells B_1 (iv .u8 l0_0 ++ ([.int .u64 a0_1] : List Value)) 26] := st_3.call sc_8
  refine ⟨_, rfl, ?_⟩
  refine WL.alloc st_7 arr23.zero ?_
  intro B_11 w_12 st_13
  replace st_13 : St w w_12 [.cells B_11 (iv .u8 (List.replicate 32 (0 : Int))) 23, .cells B_1 (iv .u8 l0_0 ++ ([.int .u64 a0_1] : List Value)) 26] := st_13
  refine WL.store_arr (i := 0) st_13 rfl arr23 rfl (by rw [iv_length]; exact (List.length_replicate ..)) hl_10 rfl ?_
  intro w_15 st_16
  replace st_16 : St w w_15 [.cells B_11 (iv .u8 r_9) 23, .cells B_1 (iv .u8 l0_0 ++ ([.int .u64 a0_1] : List Value)) 26] := st_16
  refine WL.nil ?_
  refine QW.then_n ?_
  refine CW.sub [(4, .pointer (some ⟨B_1, 0, none⟩)), (8, .bool false), (9, .pointer (some ⟨B_11, 0, none⟩))] ⟨rfl, rfl, rfl, trivial⟩ ?_
  refine CW.seq ?_
  refine CW.region_qa wide (by kernel_rfl) st_16 ?_
  refine HL.val Wanted.none (fun wq sq => (Runs.fieldAddr (off := 0) (p := 0) fld26_0 rfl rfl rfl)) ?_
  refine HL.val Wanted.none (fun wq sq => (Runs.slice_mid arr23 rfl (by decide))) ?_
  refine HL.val Wanted.none (fun wq sq => (Runs.slice_arr arr23 rfl (by decide))) ?_
  obtain ⟨r_22, hr_18, H⟩ := H
  refine HL.call Wanted.none ent27 rfl (fun wq sq => (equal_Bytes.calls wq l0_0 r_9 (some ⟨B_1, 0, none⟩) 32 32 (some ⟨B_11, 0, none⟩) 32 32 (sq.src_mid (i := 1) (pre := (([] : List Value))) (mid := (iv .u8 l0_0)) (post := (([.int .u64 a0_1] : List Value))) rfl (by first | rfl | simp only [List.append_assoc, List.append_nil, List.nil_append, List.cons_append]) (by first | rfl | simp only [List.length_append, List.length_cons, List.length_nil, iv_length])) ((hl0_0).symm) (Nat.le_refl _) (sq.src_blk (i := 0) rfl) ((hl_10).symm) (Nat.le_refl _) r_22 hr_18).mono (by rintro _ _ ⟨rfl, sc⟩; exact ⟨rfl, sq.call sc⟩)) ?_
  refine HL.val Wanted.none (fun wq sq => (Runs.assign rfl)) ?_
  refine HL.nil (fun w_23 st_24 => ?_)
  refine WL.nil ?_
  refine QW.then_n ?_
  refine CW.sub [(8, .bool r_22)] ⟨rfl, trivial⟩ ?_
  refine CW.ret ?_
  obtain rfl := H
  exact QW.ret1 rfl rfl ⟨rfl, st_24.pick [] (by decide)⟩

/-! ### tree_Version: function 18 -/
def tree_Version.rel (a0 : Int) (r0 : Int) : Prop := r0 = IntKind.u64.wrap (Int.tdiv a0 2)
set_option maxHeartbeats 4000000 in
set_option maxRecDepth 100000 in
theorem tree_Version.calls (w : World) (a0 : Int)    (r0 : Int) (H : tree_Version.rel a0 r0) :
    Calls Tryd.prog 18 #[.int .u64 a0] w fun e w' => e = .returned (.int .u64 r0) ∧ St w w' [] := by
  refine CW.enter Tryd.func18 rfl (n := 5) rfl [.int .u64 a0] (Nat.le_of_ble_eq_true rfl) ?_
  refine CW.sub [(0, .int .u64 a0)] ⟨rfl, trivial⟩ ?_
  have st0 : St w w [] := St.refl w
  refine CW.seq ?_
  refine CW.region ?_
  refine WL.val Wanted.none (Runs.assign rfl) ?_
  refine WL.nil ?_
  refine QW.then_n ?_
  refine CW.seq ?_
  refine CW.region ?_
  refine WL.val Wanted.none (Runs.move rfl) ?_
  refine WL.val Wanted.none (Runs.quo rfl rfl (by decide) rfl) ?_
  refine WL.val Wanted.none (Runs.assign rfl) ?_
  refine WL.nil ?_
  refine QW.then_n ?_
  refine CW.ret ?_
  obtain rfl := H
  exact QW.ret1 rfl rfl ⟨rfl, st0.pick [] (by decide)⟩

/-! ### tree_Side: function 19 -/
def tree_Side.rel (a0 : Int) (r0 : Int) : Prop := r0 = IntKind.i64.wrap (Int.tmod a0 2)
set_option maxHeartbeats 4000000 in
set_option maxRecDepth 100000 in
theorem tree_Side.calls (w : World) (a0 : Int)    (r0 : Int) (H : tree_Side.rel a0 r0) :
    Calls Tryd.prog 19 #[.int .u64 a0] w fun e w' => e = .returned (.int .i64 r0) ∧ St w w' [] := by
  refine CW.enter Tryd.func19 rfl (n := 6) rfl [.int .u64 a0] (Nat.le_of_ble_eq_true rfl) ?_
  refine CW.sub [(0, .int .u64 a0)] ⟨rfl, trivial⟩ ?_
  have st0 : St w w [] := St.refl w
  refine CW.seq ?_
  refine CW.region ?_
  refine WL.val Wanted.none (Runs.assign rfl) ?_
  refine WL.nil ?_
  refine QW.then_n ?_
  refine CW.seq ?_
  refine CW.region ?_
  refine WL.val Wanted.none (Runs.move rfl) ?_
  refine WL.val Wanted.none (Runs.rem rfl rfl (by decide) rfl) ?_
  refine WL.val Wanted.none (Runs.conv Tryd.underlying3 ⟨_, Tryd.underlying24⟩ rfl rfl) ?_
  refine WL.val Wanted.none (Runs.assign rfl) ?_
  refine WL.nil ?_
  refine QW.then_n ?_
  refine CW.ret ?_
  obtain rfl := H
  exact QW.ret1 rfl rfl ⟨rfl, st0.pick [] (by decide)⟩

/-! ### reliquarylaw10_awake: function 8 -/
def reliquarylaw10_awake.rel   : Prop := (∃ (r_5 : Int) (r_6 : Int), tree_Stamp.rel 3 1 r_5 r_6 ∧ (∃ (r_11 : List Int), tree_Put.rel (List.replicate 32 (0 : Int)) 0 (List.replicate 32 (0 : Int)) 0 (List.replicate 32 (0 : Int)) 0 (List.replicate 32 (0 : Int)) 0 r_11 ∧ (∃ (r_21 : List Int) (r_23 : Int) (r_24 : List Int) (r_26 : Int) (r_27 : List Int) (r_29 : Int) (r_30 : List Int) (r_32 : Int) (r_33 : Int), tree_Get.rel r_11 r_21 r_23 r_24 r_26 r_27 r_29 r_30 r_32 r_33 ∧ (∃ (r_44 : List Int), tree_Digest.rel 0 0 ([] : List Int) r_44 ∧ (r_5 = 7 ∧ (r_6 = 0 ∧ ((r_11.length : Int) = 160 ∧ ((((r_21 == (List.replicate 32 (0 : Int))) && ((r_23 == 0) && true)) && (((r_24 == (List.replicate 32 (0 : Int))) && ((r_26 == 0) && true)) && (((r_27 == (List.replicate 32 (0 : Int))) && ((r_29 == 0) && true)) && (((r_30 == (List.replicate 32 (0 : Int))) && ((r_32 == 0) && true)) && true)))) = true ∧ (r_33 = 0 ∧ (∃ (r_67 : Bool), tree_Check.rel r_44 0 0 0 ([] : List Int) r_67 ∧ (r_67 = true ∧ (∃ (r_74 : Int), tree_Version.rel 7 r_74 ∧ (r_74 = 3 ∧ (∃ (r_81 : Int), tree_Side.rel 7 r_81 ∧ r_81 = 1))))))))))))))
set_option maxHeartbeats 4000000 in
set_option maxRecDepth 100000 in
theorem reliquarylaw10_awake.calls (w : World)    (hG0 : Src w (some ⟨0, 0, none⟩) (iv .u32 tab0))  (H : reliquarylaw10_awake.rel  ) :
    Calls Tryd.prog 8 #[] w fun e w' => e = .returned (.bool true) ∧ Below w.heap.size w w' := by
  refine CW.enter Tryd.func8 rfl (n := 52) rfl [] (Nat.le_of_ble_eq_true rfl) ?_
  refine CW.sub [] trivial ?_
  have st0 : St w w [] := St.refl w
  refine CW.seq ?_
  refine CW.region ?_
  refine WL.val Wanted.none (Runs.assign rfl) ?_
  refine WL.nil ?_
  refine QW.then_n ?_
  refine CW.seq ?_
  refine CW.region ?_
  obtain ⟨r_5, r_6, hr_1, H⟩ := H
  refine WL.call Wanted.none ent17 rfl (tree_Stamp.calls w 3 1 r_5 r_6 hr_1) ?_
  rintro _ w_2 ⟨rfl, sc_4⟩
  have st_3 : St w w_2 [] := st0.call sc_4
  refine ⟨_, rfl, ?_⟩
  refine WL.val Wanted.none (Runs.move rfl) ?_
  refine WL.val Wanted.none (Runs.extract rfl rfl) ?_
  refine WL.val Wanted.none (Runs.extract rfl rfl) ?_
  refine WL.val Wanted.none (Runs.assign rfl) ?_
  refine WL.val Wanted.none (Runs.assign rfl) ?_
  refine WL.nil ?_
  refine QW.then_n ?_
  refine CW.seq ?_
  refine CW.region ?_
  refine WL.val Wanted.none (Runs.build_rows (cs := (iv .u8 (List.replicate 32 (0 : Int)) ++ (([.int .u64 0] : List Value) ++ (iv .u8 (List.replicate 32 (0 : Int)) ++ (([.int .u64 0] : List Value) ++ (iv .u8 (List.replicate 32 (0 : Int)) ++ (([.int .u64 0] : List Value) ++ (iv .u8 (List.replicate 32 (0 : Int)) ++ ([.int .u64 0] : List Value))))))))) Tryd.underlying28 siz26 zero28 rfl Fills.nil) ?_
  obtain ⟨r_11, hr_7, H⟩ := H
  refine WL.call Wanted.none ent9 rfl (tree_Put.calls w_2 (List.replicate 32 (0 : Int)) 0 (List.replicate 32 (0 : Int)) 0 (List.replicate 32 (0 : Int)) 0 (List.replicate 32 (0 : Int)) 0 (List.length_replicate ..) (List.length_replicate ..) (List.length_replicate ..) (List.length_replicate ..) r_11 hr_7) ?_
  rintro _ w_8 ⟨A_12, c_13, n_14, hn_15, rfl, sc_10⟩
  have st_9 : St w w_8 [.sl A_12 c_13 n_14 (iv .u8 r_11) 5 1] := st_3.call sc_10
  refine ⟨_, rfl, ?_⟩
  refine WL.val Wanted.none (Runs.assign rfl) ?_
  refine WL.nil ?_
  refine QW.then_n ?_
  refine CW.sub [(0, .bool false), (1, .int .u64 r_5), (2, .int .i64 r_6), (3, .slice A_12 n_14 c_13)] ⟨rfl, rfl, rfl, rfl, trivial⟩ ?_
  refine CW.seq ?_
  refine CW.region ?_
  refine WL.val Wanted.none (Runs.move rfl) ?_
  obtain ⟨r_21, r_23, r_24, r_26, r_27, r_29, r_30, r_32, r_33, hr_17, H⟩ := H
  refine WL.call Wanted.none ent10 rfl (tree_Get.calls w_8 r_11 A_12 n_14 c_13 (st_9.src_sl (k := 0) rfl) (hn_15) (st_9.cap (i := 0) rfl) r_21 r_23 r_24 r_26 r_27 r_29 r_30 r_32 r_33 hr_17) ?_
  rintro _ w_18 ⟨hl_22, hl_25, hl_28, hl_31, rfl, sc_20⟩
  have st_19 : St w w_18 [.sl A_12 c_13 n_14 (iv .u8 r_11) 5 1] := st_9.call sc_20
  refine ⟨_, rfl, ?_⟩
  refine WL.val Wanted.none (Runs.move rfl) ?_
  refine WL.val Wanted.none (Runs.extract rfl rfl) ?_
  refine WL.val Wanted.none (Runs.extract rfl rfl) ?_
  refine WL.alloc st_19 zero28 ?_
  intro B_34 w_35 st_36
  replace st_36 : St w w_35 [.cells B_34 (iv .u8 (List.replicate 32 (0 : Int)) ++ (([.int .u64 0] : List Value) ++ (iv .u8 (List.replicate 32 (0 : Int)) ++ (([.int .u64 0] : List Value) ++ (iv .u8 (List.replicate 32 (0 : Int)) ++ (([.int .u64 0] : List Value) ++ (iv .u8 (List.replicate 32 (0 : Int)) ++ ([.int .u64 0] : List Value)))))))) 28, .sl A_12 c_13 n_14 (iv .u8 r_11) 5 1] := st_36
  refine WL.store_mid (i := 0) (pre := (([] : List Value))) (mid := (iv .u8 (List.replicate 32 (0 : Int)) ++ (([.int .u64 0] : List Value) ++ (iv .u8 (List.replicate 32 (0 : Int)) ++ (([.int .u64 0] : List Value) ++ (iv .u8 (List.replicate 32 (0 : Int)) ++ (([.int .u64 0] : List Value) ++ (iv .u8 (List.replicate 32 (0 : Int)) ++ ([.int .u64 0] : List Value))))))))) (post := (([] : List Value))) (ms := (iv .u8 r_21 ++ (([.int .u64 r_23] : List Value) ++ (iv .u8 r_24 ++ (([.int .u64 r_26] : List Value) ++ (iv .u8 r_27 ++ (([.int .u64 r_29] : List Value) ++ (iv .u8 r_30 ++ ([.int .u64 r_32] : List Value))))))))) st_36 rfl row28 (by first | rfl | simp only [List.append_assoc, List.append_nil, List.nil_append, List.cons_append]) (by first | rfl | simp only [List.length_append, List.length_cons, List.length_nil, iv_length]) rfl rfl (by first | rfl | simp only [List.length_append, List.length_cons, List.length_nil, iv_length, hl_22, hl_25, hl_28, hl_31]) (by first | rfl | simp only [List.length_append, List.length_cons, List.length_nil, iv_length, List.length_replicate]) (by intro u hu; simp only [List.mem_append, List.mem_singleton] at hu; rcases hu with hu | hu | hu | hu | hu | hu | hu | hu <;> first | exact one_iv _ _ u hu | (subst hu; rfl)) ?_
  intro w_38 st_39
  replace st_39 : St w w_38 [.cells B_34 (iv .u8 r_21 ++ (([.int .u64 r_23] : List Value) ++ (iv .u8 r_24 ++ (([.int .u64 r_26] : List Value) ++ (iv .u8 r_27 ++ (([.int .u64 r_29] : List Value) ++ (iv .u8 r_30 ++ ([.int .u64 r_32] : List Value)))))))) 28, .sl A_12 c_13 n_14 (iv .u8 r_11) 5 1] := by have e_ : (iv .u8 r_21 ++ (([.int .u64 r_23] : List Value) ++ (iv .u8 r_24 ++ (([.int .u64 r_26] : List Value) ++ (iv .u8 r_27 ++ (([.int .u64 r_29] : List Value) ++ (iv .u8 r_30 ++ ([.int .u64 r_32] : List Value)))))))) = (([] : List Value)) ++ ((iv .u8 r_21 ++ (([.int .u64 r_23] : List Value) ++ (iv .u8 r_24 ++ (([.int .u64 r_26] : List Value) ++ (iv .u8 r_27 ++ (([.int .u64 r_29] : List Value) ++ (iv .u8 r_30 ++ ([.int .u64 r_32] : List Value)))))))) ++ (([] : List Value))) := (by first | rfl | simp only [List.append_assoc, List.append_nil, List.nil_append, List.cons_append]); have h_ : St w w_38 [.cells B_34 ((([] : List Value)) ++ ((iv .u8 r_21 ++ (([.int .u64 r_23] : List Value) ++ (iv .u8 r_24 ++ (([.int .u64 r_26] : List Value) ++ (iv .u8 r_27 ++ (([.int .u64 r_29] : List Value) ++ (iv .u8 r_30 ++ ([.int .u64 r_32] : List Value)))))))) ++ (([] : List Value)))) 28, .sl A_12 c_13 n_14 (iv .u8 r_11) 5 1] := st_39; rw [← e_] at h_; exact h_
  refine WL.val Wanted.none (Runs.assign rfl) ?_
  refine WL.nil ?_
  refine QW.then_n ?_
  refine CW.seq ?_
  refine CW.region ?_
  obtain ⟨r_44, hr_40, H⟩ := H
  refine WL.call Wanted.none ent14 rfl (tree_Digest.calls w_38 0 0 ([] : List Int) none 0 0 (hG0.ext st_39) (Src.nil _ _) (rfl) (Nat.le_refl _) r_44 hr_40) ?_
  rintro _ w_41 ⟨hl_45, rfl, sc_43⟩
  have st_42 : St w w_41 [.cells B_34 (iv .u8 r_21 ++ (([.int .u64 r_23] : List Value) ++ (iv .u8 r_24 ++ (([.int .u64 r_26] : List Value) ++ (iv .u8 r_27 ++ (([.int .u64 r_29] : List Value) ++ (iv .u8 r_30 ++ ([.int .u64 r_32] : List Value)))))))) 28, .sl A_12 c_13 n_14 (iv .u8 r_11) 5 1] := st_39.call sc_43
  refine ⟨_, rfl, ?_⟩
  refine WL.alloc st_42 arr23.zero ?_
  intro B_46 w_47 st_48
  replace st_48 : St w w_47 [.cells B_46 (iv .u8 (List.replicate 32 (0 : Int))) 23, .cells B_34 (iv .u8 r_21 ++ (([.int .u64 r_23] : List Value) ++ (iv .u8 r_24 ++ (([.int .u64 r_26] : List Value) ++ (iv .u8 r_27 ++ (([.int .u64 r_29] : List Value) ++ (iv .u8 r_30 ++ ([.int .u64 r_32] : List Value)))))))) 28, .sl A_12 c_13 n_14 (iv .u8 r_11) 5 1] := st_48
  refine WL.store_arr (i := 0) st_48 rfl arr23 rfl (by rw [iv_length]; exact (List.length_replicate ..)) hl_45 rfl ?_
  intro w_50 st_51
  replace st_51 : St w w_50 [.cells B_46 (iv .u8 r_44) 23, .cells B_34 (iv .u8 r_21 ++ (([.int .u64 r_23] : List Value) ++ (iv .u8 r_24 ++ (([.int .u64 r_26] : List Value) ++ (iv .u8 r_27 ++ (([.int .u64 r_29] : List Value) ++ (iv .u8 r_30 ++ ([.int .u64 r_32] : List Value)))))))) 28, .sl A_12 c_13 n_14 (iv .u8 r_11) 5 1] := st_51
  refine WL.nil ?_
  refine QW.then_n ?_
  refine CW.sub [(0, .bool false), (1, .int .u64 r_5), (2, .int .i64 r_6), (3, .slice A_12 n_14 c_13), (4, .pointer (some ⟨B_34, 0, none⟩)), (5, .int .i64 r_33), (6, .pointer (some ⟨B_46, 0, none⟩))] ⟨rfl, rfl, rfl, rfl, rfl, rfl, rfl, trivial⟩ ?_
  refine CW.seq ?_
  refine CW.region ?_
  refine WL.val Wanted.none (Runs.move rfl) ?_
  refine WL.val Wanted.none (Runs.eql rfl rfl rfl) ?_
  refine WL.val Wanted.none (Runs.move rfl) ?_
  obtain ⟨c_53, H⟩ := H
  have h_54 : (r_5 == 7) = true := (beq_iff_eq.mpr c_53)
  refine WL.on ?_ ?_; exact Wanted.guard (dj := 21) (by rfl) (evb (by rfl) h_54) (by rfl)
  refine WL.val Wanted.none (Runs.move rfl) ?_
  refine WL.on ?_ ?_; exact Wanted.guard (dj := 21) (by rfl) (evb (by rfl) h_54) (by rfl)
  refine WL.val Wanted.none (Runs.eql rfl rfl rfl) ?_
  refine WL.val Wanted.none (Runs.pick_t (evb rfl h_54) rfl) ?_
  refine WL.val Wanted.none (Runs.move rfl) ?_
  obtain ⟨c_55, H⟩ := H
  have h_56 : (r_6 == 0) = true := (beq_iff_eq.mpr c_55)
  refine WL.on ?_ ?_; exact Wanted.guard (dj := 25) (by rfl) (evb (by rfl) h_56) (by rfl)
  refine WL.val Wanted.none (Runs.move rfl) ?_
  refine WL.on ?_ ?_; exact Wanted.guard (dj := 25) (by rfl) (evb (by rfl) h_56) (by rfl)
  refine WL.val Wanted.none (Runs.len_sl Tryd.underlying29 rfl (by rw [hn_15])) ?_
  refine WL.on ?_ ?_; exact Wanted.guard (dj := 25) (by rfl) (evb (by rfl) h_56) (by rfl)
  refine WL.val Wanted.none (Runs.eql rfl rfl rfl) ?_
  refine WL.val Wanted.none (Runs.pick_t (evb rfl h_56) rfl) ?_
  refine WL.val Wanted.none (Runs.move rfl) ?_
  obtain ⟨c_57, H⟩ := H
  have h_58 : ((r_11.length : Int) == 160) = true := (beq_iff_eq.mpr c_57)
  refine WL.on ?_ ?_; exact Wanted.guard (dj := 30) (by rfl) (evb (by rfl) h_58) (by rfl)
  refine WL.val Wanted.none (Runs.load_mid row28 rfl st_51 (i := 1) rfl (part_mid (pre := (([] : List Value))) (mid := (iv .u8 r_21 ++ (([.int .u64 r_23] : List Value) ++ (iv .u8 r_24 ++ (([.int .u64 r_26] : List Value) ++ (iv .u8 r_27 ++ (([.int .u64 r_29] : List Value) ++ (iv .u8 r_30 ++ ([.int .u64 r_32] : List Value))))))))) (post := (([] : List Value))) (by first | rfl | simp only [List.append_assoc, List.append_nil, List.nil_append, List.cons_append]) (by first | rfl | simp only [List.length_append, List.length_cons, List.length_nil, iv_length]) (by first | rfl | simp only [List.length_append, List.length_cons, List.length_nil, iv_length, hl_22, hl_25, hl_28, hl_31])) (by first | rfl | simp only [List.length_append, List.length_cons, List.length_nil, iv_length, hl_22, hl_25, hl_28, hl_31])) ?_
  refine WL.on ?_ ?_; exact Wanted.guard (dj := 30) (by rfl) (evb (by rfl) h_58) (by rfl)
  refine WL.val Wanted.none (Runs.build_rows (cs := (iv .u8 (List.replicate 32 (0 : Int)) ++ (([.int .u64 0] : List Value) ++ (iv .u8 (List.replicate 32 (0 : Int)) ++ (([.int .u64 0] : List Value) ++ (iv .u8 (List.replicate 32 (0 : Int)) ++ (([.int .u64 0] : List Value) ++ (iv .u8 (List.replicate 32 (0 : Int)) ++ ([.int .u64 0] : List Value))))))))) Tryd.underlying28 siz26 zero28 rfl Fills.nil) ?_
  refine WL.on ?_ ?_; exact Wanted.guard (dj := 30) (by rfl) (evb (by rfl) h_58) (by rfl)
  refine WL.val Wanted.none (Runs.eql_top (EqTop.rows Tryd.underlying28 siz26 rfl (EqFs.cons (part_mid' (pre := (([] : List Value))) (mid := (iv .u8 r_21 ++ ([.int .u64 r_23] : List Value))) (post := (iv .u8 r_24 ++ (([.int .u64 r_26] : List Value) ++ (iv .u8 r_27 ++ (([.int .u64 r_29] : List Value) ++ (iv .u8 r_30 ++ ([.int .u64 r_32] : List Value))))))) (by first | rfl | simp only [List.append_assoc, List.append_nil, List.nil_append, List.cons_append]) (by first | rfl | simp only [List.length_append, List.length_cons, List.length_nil, iv_length])) (part_mid' (pre := (([] : List Value))) (mid := (iv .u8 (List.replicate 32 (0 : Int)) ++ ([.int .u64 0] : List Value))) (post := (iv .u8 (List.replicate 32 (0 : Int)) ++ (([.int .u64 0] : List Value) ++ (iv .u8 (List.replicate 32 (0 : Int)) ++ (([.int .u64 0] : List Value) ++ (iv .u8 (List.replicate 32 (0 : Int)) ++ ([.int .u64 0] : List Value))))))) (by first | rfl | simp only [List.append_assoc, List.append_nil, List.nil_append, List.cons_append]) (by first | rfl | simp only [List.length_append, List.length_cons, List.length_nil, iv_length])) (EqTop.place (EqTop.struct eqs26 (EqFs.cons (part_mid' (pre := (([] : List Value))) (mid := (iv .u8 r_21)) (post := (([.int .u64 r_23] : List Value))) (by first | rfl | simp only [List.append_assoc, List.append_nil, List.nil_append, List.cons_append]) (by first | rfl | simp only [List.length_append, List.length_cons, List.length_nil, iv_length])) (part_mid' (pre := (([] : List Value))) (mid := (iv .u8 (List.replicate 32 (0 : Int)))) (post := (([.int .u64 0] : List Value))) (by first | rfl | simp only [List.append_assoc, List.append_nil, List.nil_append, List.cons_append]) (by first | rfl | simp only [List.length_append, List.length_cons, List.length_nil, iv_length])) (EqTop.place (EqTop.arr arr23 hl_22 (List.length_replicate ..)) row23 (by first | rfl | simp only [List.length_append, List.length_cons, List.length_nil, iv_length, hl_22]) (by first | rfl | simp only [List.length_append, List.length_cons, List.length_nil, iv_length, List.length_replicate])) (EqFs.cons (part_mid' (pre := (iv .u8 r_21)) (mid := (([.int .u64 r_23] : List Value))) (post := (([] : List Value))) (by first | rfl | simp only [List.append_assoc, List.append_nil, List.nil_append, List.cons_append]) (by first | rfl | simp only [List.length_append, List.length_cons, List.length_nil, iv_length, hl_22])) (part_mid' (pre := (iv .u8 (List.replicate 32 (0 : Int)))) (mid := (([.int .u64 0] : List Value))) (post := (([] : List Value))) (by first | rfl | simp only [List.append_assoc, List.append_nil, List.nil_append, List.cons_append]) (by first | rfl | simp only [List.length_append, List.length_cons, List.length_nil, iv_length, List.length_replicate])) (EqPl.int Tryd.underlying24) EqFs.nil))) row26 (by first | rfl | simp only [List.length_append, List.length_cons, List.length_nil, iv_length, hl_22]) (by first | rfl | simp only [List.length_append, List.length_cons, List.length_nil, iv_length, List.length_replicate])) (EqFs.cons (part_mid' (pre := (iv .u8 r_21 ++ ([.int .u64 r_23] : List Value))) (mid := (iv .u8 r_24 ++ ([.int .u64 r_26] : List Value))) (post := (iv .u8 r_27 ++ (([.int .u64 r_29] : List Value) ++ (iv .u8 r_30 ++ ([.int .u64 r_32] : List Value))))) (by first | rfl | simp only [List.append_assoc, List.append_nil, List.nil_append, List.cons_append]) (by first | rfl | simp only [List.length_append, List.length_cons, List.length_nil, iv_length, hl_22])) (part_mid' (pre := (iv .u8 (List.replicate 32 (0 : Int)) ++ ([.int .u64 0] : List Value))) (mid := (iv .u8 (List.replicate 32 (0 : Int)) ++ ([.int .u64 0] : List Value))) (post := (iv .u8 (List.replicate 32 (0 : Int)) ++ (([.int .u64 0] : List Value) ++ (iv .u8 (List.replicate 32 (0 : Int)) ++ ([.int .u64 0] : List Value))))) (by first | rfl | simp only [List.append_assoc, List.append_nil, List.nil_append, List.cons_append]) (by first | rfl | simp only [List.length_append, List.length_cons, List.length_nil, iv_length, List.length_replicate])) (EqTop.place (EqTop.struct eqs26 (EqFs.cons (part_mid' (pre := (([] : List Value))) (mid := (iv .u8 r_24)) (post := (([.int .u64 r_26] : List Value))) (by first | rfl | simp only [List.append_assoc, List.append_nil, List.nil_append, List.cons_append]) (by first | rfl | simp only [List.length_append, List.length_cons, List.length_nil, iv_length])) (part_mid' (pre := (([] : List Value))) (mid := (iv .u8 (List.replicate 32 (0 : Int)))) (post := (([.int .u64 0] : List Value))) (by first | rfl | simp only [List.append_assoc, List.append_nil, List.nil_append, List.cons_append]) (by first | rfl | simp only [List.length_append, List.length_cons, List.length_nil, iv_length])) (EqTop.place (EqTop.arr arr23 hl_25 (List.length_replicate ..)) row23 (by first | rfl | simp only [List.length_append, List.length_cons, List.length_nil, iv_length, hl_25]) (by first | rfl | simp only [List.length_append, List.length_cons, List.length_nil, iv_length, List.length_replicate])) (EqFs.cons (part_mid' (pre := (iv .u8 r_24)) (mid := (([.int .u64 r_26] : List Value))) (post := (([] : List Value))) (by first | rfl | simp only [List.append_assoc, List.append_nil, List.nil_append, List.cons_append]) (by first | rfl | simp only [List.length_append, List.length_cons, List.length_nil, iv_length, hl_25])) (part_mid' (pre := (iv .u8 (List.replicate 32 (0 : Int)))) (mid := (([.int .u64 0] : List Value))) (post := (([] : List Value))) (by first | rfl | simp only [List.append_assoc, List.append_nil, List.nil_append, List.cons_append]) (by first | rfl | simp only [List.length_append, List.length_cons, List.length_nil, iv_length, List.length_replicate])) (EqPl.int Tryd.underlying24) EqFs.nil))) row26 (by first | rfl | simp only [List.length_append, List.length_cons, List.length_nil, iv_length, hl_25]) (by first | rfl | simp only [List.length_append, List.length_cons, List.length_nil, iv_length, List.length_replicate])) (EqFs.cons (part_mid' (pre := (iv .u8 r_21 ++ (([.int .u64 r_23] : List Value) ++ (iv .u8 r_24 ++ ([.int .u64 r_26] : List Value))))) (mid := (iv .u8 r_27 ++ ([.int .u64 r_29] : List Value))) (post := (iv .u8 r_30 ++ ([.int .u64 r_32] : List Value))) (by first | rfl | simp only [List.append_assoc, List.append_nil, List.nil_append, List.cons_append]) (by first | rfl | simp only [List.length_append, List.length_cons, List.length_nil, iv_length, hl_22, hl_25])) (part_mid' (pre := (iv .u8 (List.replicate 32 (0 : Int)) ++ (([.int .u64 0] : List Value) ++ (iv .u8 (List.replicate 32 (0 : Int)) ++ ([.int .u64 0] : List Value))))) (mid := (iv .u8 (List.replicate 32 (0 : Int)) ++ ([.int .u64 0] : List Value))) (post := (iv .u8 (List.replicate 32 (0 : Int)) ++ ([.int .u64 0] : List Value))) (by first | rfl | simp only [List.append_assoc, List.append_nil, List.nil_append, List.cons_append]) (by first | rfl | simp only [List.length_append, List.length_cons, List.length_nil, iv_length, List.length_replicate])) (EqTop.place (EqTop.struct eqs26 (EqFs.cons (part_mid' (pre := (([] : List Value))) (mid := (iv .u8 r_27)) (post := (([.int .u64 r_29] : List Value))) (by first | rfl | simp only [List.append_assoc, List.append_nil, List.nil_append, List.cons_append]) (by first | rfl | simp only [List.length_append, List.length_cons, List.length_nil, iv_length])) (part_mid' (pre := (([] : List Value))) (mid := (iv .u8 (List.replicate 32 (0 : Int)))) (post := (([.int .u64 0] : List Value))) (by first | rfl | simp only [List.append_assoc, List.append_nil, List.nil_append, List.cons_append]) (by first | rfl | simp only [List.length_append, List.length_cons, List.length_nil, iv_length])) (EqTop.place (EqTop.arr arr23 hl_28 (List.length_replicate ..)) row23 (by first | rfl | simp only [List.length_append, List.length_cons, List.length_nil, iv_length, hl_28]) (by first | rfl | simp only [List.length_append, List.length_cons, List.length_nil, iv_length, List.length_replicate])) (EqFs.cons (part_mid' (pre := (iv .u8 r_27)) (mid := (([.int .u64 r_29] : List Value))) (post := (([] : List Value))) (by first | rfl | simp only [List.append_assoc, List.append_nil, List.nil_append, List.cons_append]) (by first | rfl | simp only [List.length_append, List.length_cons, List.length_nil, iv_length, hl_28])) (part_mid' (pre := (iv .u8 (List.replicate 32 (0 : Int)))) (mid := (([.int .u64 0] : List Value))) (post := (([] : List Value))) (by first | rfl | simp only [List.append_assoc, List.append_nil, List.nil_append, List.cons_append]) (by first | rfl | simp only [List.length_append, List.length_cons, List.length_nil, iv_length, List.length_replicate])) (EqPl.int Tryd.underlying24) EqFs.nil))) row26 (by first | rfl | simp only [List.length_append, List.length_cons, List.length_nil, iv_length, hl_28]) (by first | rfl | simp only [List.length_append, List.length_cons, List.length_nil, iv_length, List.length_replicate])) (EqFs.cons (part_mid' (pre := (iv .u8 r_21 ++ (([.int .u64 r_23] : List Value) ++ (iv .u8 r_24 ++ (([.int .u64 r_26] : List Value) ++ (iv .u8 r_27 ++ ([.int .u64 r_29] : List Value))))))) (mid := (iv .u8 r_30 ++ ([.int .u64 r_32] : List Value))) (post := (([] : List Value))) (by first | rfl | simp only [List.append_assoc, List.append_nil, List.nil_append, List.cons_append]) (by first | rfl | simp only [List.length_append, List.length_cons, List.length_nil, iv_length, hl_22, hl_25, hl_28])) (part_mid' (pre := (iv .u8 (List.replicate 32 (0 : Int)) ++ (([.int .u64 0] : List Value) ++ (iv .u8 (List.replicate 32 (0 : Int)) ++ (([.int .u64 0] : List Value) ++ (iv .u8 (List.replicate 32 (0 : Int)) ++ ([.int .u64 0] : List Value))))))) (mid := (iv .u8 (List.replicate 32 (0 : Int)) ++ ([.int .u64 0] : List Value))) (post := (([] : List Value))) (by first | rfl | simp only [List.append_assoc, List.append_nil, List.nil_append, List.cons_append]) (by first | rfl | simp only [List.length_append, List.length_cons, List.length_nil, iv_length, List.length_replicate])) (EqTop.place (EqTop.struct eqs26 (EqFs.cons (part_mid' (pre := (([] : List Value))) (mid := (iv .u8 r_30)) (post := (([.int .u64 r_32] : List Value))) (by first | rfl | simp only [List.append_assoc, List.append_nil, List.nil_append, List.cons_append]) (by first | rfl | simp only [List.length_append, List.length_cons, List.length_nil, iv_length])) (part_mid' (pre := (([] : List Value))) (mid := (iv .u8 (List.replicate 32 (0 : Int)))) (post := (([.int .u64 0] : List Value))) (by first | rfl | simp only [List.append_assoc, List.append_nil, List.nil_append, List.cons_append]) (by first | rfl | simp only [List.length_append, List.length_cons, List.length_nil, iv_length])) (EqTop.place (EqTop.arr arr23 hl_31 (List.length_replicate ..)) row23 (by first | rfl | simp only [List.length_append, List.length_cons, List.length_nil, iv_length, hl_31]) (by first | rfl | simp only [List.length_append, List.length_cons, List.length_nil, iv_length, List.length_replicate])) (EqFs.cons (part_mid' (pre := (iv .u8 r_30)) (mid := (([.int .u64 r_32] : List Value))) (post := (([] : List Value))) (by first | rfl | simp only [List.append_assoc, List.append_nil, List.nil_append, List.cons_append]) (by first | rfl | simp only [List.length_append, List.length_cons, List.length_nil, iv_length, hl_31])) (part_mid' (pre := (iv .u8 (List.replicate 32 (0 : Int)))) (mid := (([.int .u64 0] : List Value))) (post := (([] : List Value))) (by first | rfl | simp only [List.append_assoc, List.append_nil, List.nil_append, List.cons_append]) (by first | rfl | simp only [List.length_append, List.length_cons, List.length_nil, iv_length, List.length_replicate])) (EqPl.int Tryd.underlying24) EqFs.nil))) row26 (by first | rfl | simp only [List.length_append, List.length_cons, List.length_nil, iv_length, hl_31]) (by first | rfl | simp only [List.length_append, List.length_cons, List.length_nil, iv_length, List.length_replicate])) EqFs.nil))))) eqg28 rfl rfl) ?_
  refine WL.val Wanted.none (Runs.pick_t (evb rfl h_58) rfl) ?_
  refine WL.val Wanted.none (Runs.move rfl) ?_
  obtain ⟨c_59, H⟩ := H
  have h_60 : (((r_21 == (List.replicate 32 (0 : Int))) && ((r_23 == 0) && true)) && (((r_24 == (List.replicate 32 (0 : Int))) && ((r_26 == 0) && true)) && (((r_27 == (List.replicate 32 (0 : Int))) && ((r_29 == 0) && true)) && (((r_30 == (List.replicate 32 (0 : Int))) && ((r_32 == 0) && true)) && true)))) = true := c_59
  refine WL.on ?_ ?_; exact Wanted.guard (dj := 35) (by rfl) (evb (by rfl) h_60) (by rfl)
  refine WL.val Wanted.none (Runs.move rfl) ?_
  refine WL.on ?_ ?_; exact Wanted.guard (dj := 35) (by rfl) (evb (by rfl) h_60) (by rfl)
  refine WL.val Wanted.none (Runs.eql rfl rfl rfl) ?_
  refine WL.val Wanted.none (Runs.pick_t (evb rfl h_60) rfl) ?_
  refine WL.val Wanted.none (Runs.move rfl) ?_
  obtain ⟨c_61, H⟩ := H
  have h_62 : (r_33 == 0) = true := (beq_iff_eq.mpr c_61)
  refine WL.on ?_ ?_; exact Wanted.guard (dj := 39) (by rfl) (evb (by rfl) h_62) (by rfl)
  refine WL.val Wanted.none (Runs.load_arr arr23 rfl (st_51.blk (i := 0) rfl) hl_45) ?_
  refine WL.on ?_ ?_; exact Wanted.guard (dj := 39) (by rfl) (evb (by rfl) h_62) (by rfl)
  refine WL.val Wanted.none (Runs.build_struct (ps := [(0, 32), (32, 1)]) (cs := (iv .u8 r_44 ++ ([.int .u64 0] : List Value))) plc26 zero26 rfl (by refine Fills.cons (o := 0) (ms := (iv .u8 r_44)) (show _ = some (0, (iv .u8 r_44).length) by rw [show (iv .u8 r_44).length = 32 from (by first | rfl | simp only [List.length_append, List.length_cons, List.length_nil, iv_length, hl_45])] <;> rfl) rfl (by have h1_ : (iv .u8 r_44).length = 32 := (by first | rfl | simp only [List.length_append, List.length_cons, List.length_nil, iv_length, hl_45]); have h2_ : (iv .u8 (List.replicate 32 (0 : Int)) ++ ([.int .u64 0] : List Value)).length = 33 := (by first | rfl | simp only [List.length_append, List.length_cons, List.length_nil, iv_length, List.length_replicate]); omega) ?_; rw [show layV (iv .u8 (List.replicate 32 (0 : Int)) ++ ([.int .u64 0] : List Value)) 0 (iv .u8 r_44) = (iv .u8 r_44 ++ ([.int .u64 0] : List Value)) from (layV_mid (pre := (([] : List Value))) (mid := (iv .u8 (List.replicate 32 (0 : Int)))) (post := (([.int .u64 0] : List Value))) (by first | rfl | simp only [List.append_assoc, List.append_nil, List.nil_append, List.cons_append]) (by first | rfl | simp only [List.length_append, List.length_cons, List.length_nil, iv_length]) (Eq.trans (b := 32) (by first | rfl | simp only [List.length_append, List.length_cons, List.length_nil, iv_length, List.length_replicate]) (Eq.symm (by first | rfl | simp only [List.length_append, List.length_cons, List.length_nil, iv_length, hl_45])))).trans (by first | rfl | simp only [List.append_assoc, List.append_nil, List.nil_append, List.cons_append])]; exact Fills.nil)) ?_
  refine WL.on ?_ ?_; exact Wanted.guard (dj := 39) (by rfl) (evb (by rfl) h_62) (by rfl)
  obtain ⟨r_67, hr_63, H⟩ := H
  refine WL.call Wanted.none ent16 rfl (tree_Check.calls w_50 r_44 0 0 0 ([] : List Int) none 0 0 (hG0.ext st_51) hl_45 (Src.nil _ _) (rfl) (Nat.le_refl _) r_67 hr_63) ?_
  rintro _ w_64 ⟨rfl, sc_66⟩
  have st_65 : St w w_64 [.cells B_46 (iv .u8 r_44) 23, .cells B_34 (iv .u8 r_21 ++ (([.int .u64 r_23] : List Value) ++ (iv .u8 r_24 ++ (([.int .u64 r_26] : List Value) ++ (iv .u8 r_27 ++ (([.int .u64 r_29] : List Value) ++ (iv .u8 r_30 ++ ([.int .u64 r_32] : List Value)))))))) 28, .sl A_12 c_13 n_14 (iv .u8 r_11) 5 1] := st_51.call sc_66
  refine ⟨_, rfl, ?_⟩
  refine WL.val Wanted.none (Runs.pick_t (evb rfl h_62) rfl) ?_
  refine WL.val Wanted.none (Runs.move rfl) ?_
  obtain ⟨c_68, H⟩ := H
  have h_69 : r_67 = true := c_68
  refine WL.on ?_ ?_; exact Wanted.guard (dj := 44) (by rfl) (evb (by rfl) h_69) (by rfl)
  obtain ⟨r_74, hr_70, H⟩ := H
  refine WL.call Wanted.none ent18 rfl (tree_Version.calls w_64 7 r_74 hr_70) ?_
  rintro _ w_71 ⟨rfl, sc_73⟩
  have st_72 : St w w_71 [.cells B_46 (iv .u8 r_44) 23, .cells B_34 (iv .u8 r_21 ++ (([.int .u64 r_23] : List Value) ++ (iv .u8 r_24 ++ (([.int .u64 r_26] : List Value) ++ (iv .u8 r_27 ++ (([.int .u64 r_29] : List Value) ++ (iv .u8 r_30 ++ ([.int .u64 r_32] : List Value)))))))) 28, .sl A_12 c_13 n_14 (iv .u8 r_11) 5 1] := st_65.call sc_73
  refine ⟨_, rfl, ?_⟩
  refine WL.on ?_ ?_; exact Wanted.guard (dj := 44) (by rfl) (evb (by rfl) h_69) (by rfl)
  refine WL.val Wanted.none (Runs.eql rfl rfl rfl) ?_
  refine WL.val Wanted.none (Runs.pick_t (evb rfl h_69) rfl) ?_
  refine WL.val Wanted.none (Runs.move rfl) ?_
  obtain ⟨c_75, H⟩ := H
  have h_76 : (r_74 == 3) = true := (beq_iff_eq.mpr c_75)
  refine WL.on ?_ ?_; exact Wanted.guard (dj := 48) (by rfl) (evb (by rfl) h_76) (by rfl)
  obtain ⟨r_81, hr_77, H⟩ := H
  refine WL.call Wanted.none ent19 rfl (tree_Side.calls w_71 7 r_81 hr_77) ?_
  rintro _ w_78 ⟨rfl, sc_80⟩
  have st_79 : St w w_78 [.cells B_46 (iv .u8 r_44) 23, .cells B_34 (iv .u8 r_21 ++ (([.int .u64 r_23] : List Value) ++ (iv .u8 r_24 ++ (([.int .u64 r_26] : List Value) ++ (iv .u8 r_27 ++ (([.int .u64 r_29] : List Value) ++ (iv .u8 r_30 ++ ([.int .u64 r_32] : List Value)))))))) 28, .sl A_12 c_13 n_14 (iv .u8 r_11) 5 1] := st_72.call sc_80
  refine ⟨_, rfl, ?_⟩
  refine WL.on ?_ ?_; exact Wanted.guard (dj := 48) (by rfl) (evb (by rfl) h_76) (by rfl)
  refine WL.val Wanted.none (Runs.eql rfl rfl rfl) ?_
  refine WL.val Wanted.none (Runs.pick_t (evb rfl h_76) rfl) ?_
  refine WL.val Wanted.none (Runs.assign rfl) ?_
  refine WL.nil ?_
  refine QW.then_n ?_
  refine CW.sub [(0, .bool (r_81 == 1))] ⟨rfl, trivial⟩ ?_
  refine CW.ret ?_
  have hz : (r_81 == 1) = true := (beq_iff_eq.mpr H)
  exact QW.ret1 rfl (evb rfl hz) ⟨rfl, st_79.ext⟩

/-! ### reliquaryref01_Get: function 24 -/
def reliquaryref01_Get.L1 (l0 : List Int) (a1 : Int) (a2 : Int) (r0 : Int) (r1 : Int) : Nat → Int → Int → Int → Prop
  | 0, _, _, _ => False
  | kL1 + 1, x_12, x_13, x_14 => ((x_14 < a2 ∧ ((0 ≤ (IntKind.i64.wrap (a1 + x_14)) ∧ (IntKind.i64.wrap (a1 + x_14)) < (l0.length : Int)) ∧ (∃ x_24 : Int, x_24 = IntKind.u64.wrap (gn l0 ((IntKind.i64.wrap (a1 + x_14)).toNat)) ∧ reliquaryref01_Get.L1 l0 a1 a2 r0 r1 kL1 (IntKind.u64.wrap (x_12 + (IntKind.u64.wrap (x_24 * x_13)))) (IntKind.u64.wrap (x_13 * 256)) (IntKind.i64.wrap (x_14 + 1))))) ∨ (¬ (x_14 < a2) ∧ r0 = x_12 ∧ r1 = 0))
def reliquaryref01_Get.rel (l0 : List Int) (a1 : Int) (a2 : Int) (r0 : Int) (r1 : Int) : Prop := ((a2 < 1 ∧ r0 = 0 ∧ r1 = 1) ∨ (¬ (a2 < 1) ∧ ((a2 > 8 ∧ r0 = 0 ∧ r1 = 1) ∨ (¬ (a2 > 8) ∧ ((a1 < 0 ∧ r0 = 0 ∧ r1 = 12) ∨ (¬ (a1 < 0) ∧ ((a1 > (l0.length : Int) ∧ r0 = 0 ∧ r1 = 12) ∨ (¬ (a1 > (l0.length : Int)) ∧ (((IntKind.i64.wrap ((l0.length : Int) - a1)) < a2 ∧ r0 = 0 ∧ r1 = 12) ∨ (¬ ((IntKind.i64.wrap ((l0.length : Int) - a1)) < a2) ∧ (∃ k_ : Nat, reliquaryref01_Get.L1 l0 a1 a2 r0 r1 k_ 0 1 0)))))))))))
set_option maxHeartbeats 4000000 in
set_option maxRecDepth 100000 in
theorem reliquaryref01_Get.calls (w : World) (l0 : List Int) (a1 : Int) (a2 : Int) (A0 : Option Addr) (n0 : Nat) (c0 : Nat)  (hs0 : Src w A0 (iv .u8 l0)) (hn0 : n0 = l0.length) (hc0 : n0 ≤ c0) (r0 : Int) (r1 : Int) (H : reliquaryref01_Get.rel l0 a1 a2 r0 r1) :
    Calls Tryd.prog 24 #[.slice A0 n0 c0, .int .i64 a1, .int .i64 a2] w fun e w' => e = .returned (.tuple #[.int .u64 r0, .int .i64 r1]) ∧ St w w' [] := by
  refine CW.enter Tryd.func24 rfl (n := 52) rfl [.slice A0 n0 c0, .int .i64 a1, .int .i64 a2] (Nat.le_of_ble_eq_true rfl) ?_
  refine CW.sub [(0, .slice A0 n0 c0), (1, .int .i64 a1), (2, .int .i64 a2)] ⟨rfl, rfl, rfl, trivial⟩ ?_
  have st0 : St w w [] := St.refl w
  refine CW.seq ?_
  refine CW.region ?_
  refine WL.val Wanted.none (Runs.assign rfl) ?_
  refine WL.val Wanted.none (Runs.assign rfl) ?_
  refine WL.nil ?_
  refine QW.then_n ?_
  refine CW.seq ?_
  refine CW.seq ?_
  refine CW.region ?_
  refine WL.val Wanted.none (Runs.move rfl) ?_
  refine WL.val Wanted.none (Runs.lss rfl rfl rfl) ?_
  refine WL.val Wanted.none (Runs.move rfl) ?_
  rcases H with ⟨c_1, H⟩ | ⟨c_1, H⟩
  · have h_2 : (decide (a2 < 1)) = true := (decide_eq_true c_1)
    refine WL.off ?_ ?_; exact Wanted.guard (dj := 13) (by rfl) (evb (by rfl) h_2) (by rfl)
    refine WL.off ?_ ?_; exact Wanted.guard (dj := 13) (by rfl) (evb (by rfl) h_2) (by rfl)
    refine WL.val Wanted.none (Runs.pick_t (evb rfl h_2) rfl) ?_
    refine WL.nil ?_
    refine QW.then_n ?_
    refine CW.ct rfl rfl ?_
    refine CW.seq ?_
    refine CW.region ?_
    refine WL.val Wanted.none (Runs.assign rfl) ?_
    refine WL.val Wanted.none (Runs.assign rfl) ?_
    refine WL.nil ?_
    refine QW.then_n ?_
    refine CW.sub [(0, .slice A0 n0 c0), (1, .int .i64 a1), (2, .int .i64 a2), (6, .int .u64 0), (7, .int .i64 1)] ⟨rfl, rfl, rfl, rfl, rfl, trivial⟩ ?_
    refine CW.ret ?_
    refine QW.then_r ?_
    obtain ⟨rfl, rfl⟩ := H
    exact QW.ret2 rfl rfl rfl ⟨rfl, st0.pick [] (by decide)⟩
  · have h_2 : (decide (a2 < 1)) = false := (decide_eq_false c_1)
    refine WL.on ?_ ?_; exact Wanted.guard (dj := 13) (by rfl) (evb (by rfl) h_2) (by rfl)
    refine WL.val Wanted.none (Runs.move rfl) ?_
    refine WL.on ?_ ?_; exact Wanted.guard (dj := 13) (by rfl) (evb (by rfl) h_2) (by rfl)
    refine WL.val Wanted.none (Runs.gtr rfl rfl rfl) ?_
    refine WL.val Wanted.none (Runs.pick_f (evb rfl h_2) rfl) ?_
    refine WL.nil ?_
    refine QW.then_n ?_
    rcases H with ⟨c_3, H⟩ | ⟨c_3, H⟩
    · have h_4 : (decide (a2 > 8)) = true := (decide_eq_true c_3)
      refine CW.ct rfl h_4 ?_
      refine CW.seq ?_
      refine CW.region ?_
      refine WL.val Wanted.none (Runs.assign rfl) ?_
      refine WL.val Wanted.none (Runs.assign rfl) ?_
      refine WL.nil ?_
      refine QW.then_n ?_
      refine CW.sub [(0, .slice A0 n0 c0), (1, .int .i64 a1), (2, .int .i64 a2), (6, .int .u64 0), (7, .int .i64 1)] ⟨rfl, rfl, rfl, rfl, rfl, trivial⟩ ?_
      refine CW.ret ?_
      refine QW.then_r ?_
      obtain ⟨rfl, rfl⟩ := H
      exact QW.ret2 rfl rfl rfl ⟨rfl, st0.pick [] (by decide)⟩
    · have h_4 : (decide (a2 > 8)) = false := (decide_eq_false c_3)
      refine CW.cf rfl h_4 ?_
      refine CW.skip ?_
      refine QW.then_n ?_
      refine CW.sub [(0, .slice A0 n0 c0), (1, .int .i64 a1), (2, .int .i64 a2), (6, .int .u64 0), (7, .int .i64 0)] ⟨rfl, rfl, rfl, rfl, rfl, trivial⟩ ?_
      refine CW.seq ?_
      refine CW.seq ?_
      refine CW.region ?_
      refine WL.val Wanted.none (Runs.move rfl) ?_
      refine WL.val Wanted.none (Runs.lss rfl rfl rfl) ?_
      refine WL.val Wanted.none (Runs.move rfl) ?_
      rcases H with ⟨c_5, H⟩ | ⟨c_5, H⟩
      · have h_6 : (decide (a1 < 0)) = true := (decide_eq_true c_5)
        refine WL.off ?_ ?_; exact Wanted.guard (dj := 19) (by rfl) (evb (by rfl) h_6) (by rfl)
        refine WL.off ?_ ?_; exact Wanted.guard (dj := 19) (by rfl) (evb (by rfl) h_6) (by rfl)
        refine WL.off ?_ ?_; exact Wanted.guard (dj := 19) (by rfl) (evb (by rfl) h_6) (by rfl)
        refine WL.off ?_ ?_; exact Wanted.guard (dj := 19) (by rfl) (evb (by rfl) h_6) (by rfl)
        refine WL.val Wanted.none (Runs.pick_t (evb rfl h_6) rfl) ?_
        refine WL.val Wanted.none (Runs.move rfl) ?_
        refine WL.off ?_ ?_; exact Wanted.guard (dj := 25) (by rfl) (by rfl) (by rfl)
        refine WL.off ?_ ?_; exact Wanted.guard (dj := 25) (by rfl) (by rfl) (by rfl)
        refine WL.off ?_ ?_; exact Wanted.guard (dj := 25) (by rfl) (by rfl) (by rfl)
        refine WL.off ?_ ?_; exact Wanted.guard (dj := 25) (by rfl) (by rfl) (by rfl)
        refine WL.off ?_ ?_; exact Wanted.guard (dj := 25) (by rfl) (by rfl) (by rfl)
        refine WL.off ?_ ?_; exact Wanted.guard (dj := 25) (by rfl) (by rfl) (by rfl)
        refine WL.val Wanted.none (Runs.pick_t rfl rfl) ?_
        refine WL.nil ?_
        refine QW.then_n ?_
        refine CW.sub [(0, .slice A0 n0 c0), (1, .int .i64 a1), (2, .int .i64 a2), (6, .int .u64 0), (7, .int .i64 0), (32, .bool true)] ⟨rfl, rfl, rfl, rfl, rfl, rfl, trivial⟩ ?_
        refine CW.ct rfl rfl ?_
        refine CW.seq ?_
        refine CW.region ?_
        refine WL.val Wanted.none (Runs.assign rfl) ?_
        refine WL.val Wanted.none (Runs.assign rfl) ?_
        refine WL.nil ?_
        refine QW.then_n ?_
        refine CW.ret ?_
        refine QW.then_r ?_
        obtain ⟨rfl, rfl⟩ := H
        exact QW.ret2 rfl rfl rfl ⟨rfl, st0.pick [] (by decide)⟩
      · have h_6 : (decide (a1 < 0)) = false := (decide_eq_false c_5)
        refine WL.on ?_ ?_; exact Wanted.guard (dj := 19) (by rfl) (evb (by rfl) h_6) (by rfl)
        refine WL.val Wanted.none (Runs.move rfl) ?_
        refine WL.on ?_ ?_; exact Wanted.guard (dj := 19) (by rfl) (evb (by rfl) h_6) (by rfl)
        refine WL.val Wanted.none (Runs.move rfl) ?_
        refine WL.on ?_ ?_; exact Wanted.guard (dj := 19) (by rfl) (evb (by rfl) h_6) (by rfl)
        refine WL.val Wanted.none (Runs.len_sl Tryd.underlying29 rfl (by rw [hn0])) ?_
        refine WL.on ?_ ?_; exact Wanted.guard (dj := 19) (by rfl) (evb (by rfl) h_6) (by rfl)
        refine WL.val Wanted.none (Runs.gtr rfl rfl rfl) ?_
        refine WL.val Wanted.none (Runs.pick_f (evb rfl h_6) rfl) ?_
        refine WL.val Wanted.none (Runs.move rfl) ?_
        rcases H with ⟨c_7, H⟩ | ⟨c_7, H⟩
        · have h_8 : (decide (a1 > (l0.length : Int))) = true := (decide_eq_true c_7)
          refine WL.off ?_ ?_; exact Wanted.guard (dj := 25) (by rfl) (evb (by rfl) h_8) (by rfl)
          refine WL.off ?_ ?_; exact Wanted.guard (dj := 25) (by rfl) (evb (by rfl) h_8) (by rfl)
          refine WL.off ?_ ?_; exact Wanted.guard (dj := 25) (by rfl) (evb (by rfl) h_8) (by rfl)
          refine WL.off ?_ ?_; exact Wanted.guard (dj := 25) (by rfl) (evb (by rfl) h_8) (by rfl)
          refine WL.off ?_ ?_; exact Wanted.guard (dj := 25) (by rfl) (evb (by rfl) h_8) (by rfl)
          refine WL.off ?_ ?_; exact Wanted.guard (dj := 25) (by rfl) (evb (by rfl) h_8) (by rfl)
          refine WL.val Wanted.none (Runs.pick_t (evb rfl h_8) rfl) ?_
          refine WL.nil ?_
          refine QW.then_n ?_
          refine CW.sub [(0, .slice A0 n0 c0), (1, .int .i64 a1), (2, .int .i64 a2), (6, .int .u64 0), (7, .int .i64 0), (32, .bool true)] ⟨rfl, rfl, rfl, rfl, rfl, rfl, trivial⟩ ?_
          refine CW.ct rfl rfl ?_
          refine CW.seq ?_
          refine CW.region ?_
          refine WL.val Wanted.none (Runs.assign rfl) ?_
          refine WL.val Wanted.none (Runs.assign rfl) ?_
          refine WL.nil ?_
          refine QW.then_n ?_
          refine CW.ret ?_
          refine QW.then_r ?_
          obtain ⟨rfl, rfl⟩ := H
          exact QW.ret2 rfl rfl rfl ⟨rfl, st0.pick [] (by decide)⟩
        · have h_8 : (decide (a1 > (l0.length : Int))) = false := (decide_eq_false c_7)
          refine WL.on ?_ ?_; exact Wanted.guard (dj := 25) (by rfl) (evb (by rfl) h_8) (by rfl)
          refine WL.val Wanted.none (Runs.move rfl) ?_
          refine WL.on ?_ ?_; exact Wanted.guard (dj := 25) (by rfl) (evb (by rfl) h_8) (by rfl)
          refine WL.val Wanted.none (Runs.len_sl Tryd.underlying29 rfl (by rw [hn0])) ?_
          refine WL.on ?_ ?_; exact Wanted.guard (dj := 25) (by rfl) (evb (by rfl) h_8) (by rfl)
          refine WL.val Wanted.none (Runs.move rfl) ?_
          refine WL.on ?_ ?_; exact Wanted.guard (dj := 25) (by rfl) (evb (by rfl) h_8) (by rfl)
          refine WL.val Wanted.none (Runs.sub rfl rfl rfl) ?_
          refine WL.on ?_ ?_; exact Wanted.guard (dj := 25) (by rfl) (evb (by rfl) h_8) (by rfl)
          refine WL.val Wanted.none (Runs.move rfl) ?_
          refine WL.on ?_ ?_; exact Wanted.guard (dj := 25) (by rfl) (evb (by rfl) h_8) (by rfl)
          refine WL.val Wanted.none (Runs.lss rfl rfl rfl) ?_
          refine WL.val Wanted.none (Runs.pick_f (evb rfl h_8) rfl) ?_
          refine WL.nil ?_
          refine QW.then_n ?_
          refine CW.sub [(0, .slice A0 n0 c0), (1, .int .i64 a1), (2, .int .i64 a2), (6, .int .u64 0), (7, .int .i64 0), (32, .bool (decide ((IntKind.i64.wrap ((l0.length : Int) - a1)) < a2)))] ⟨rfl, rfl, rfl, rfl, rfl, rfl, trivial⟩ ?_
          rcases H with ⟨c_9, H⟩ | ⟨c_9, H⟩
          · have h_10 : (decide ((IntKind.i64.wrap ((l0.length : Int) - a1)) < a2)) = true := (decide_eq_true c_9)
            refine CW.ct rfl h_10 ?_
            refine CW.seq ?_
            refine CW.region ?_
            refine WL.val Wanted.none (Runs.assign rfl) ?_
            refine WL.val Wanted.none (Runs.assign rfl) ?_
            refine WL.nil ?_
            refine QW.then_n ?_
            refine CW.ret ?_
            refine QW.then_r ?_
            obtain ⟨rfl, rfl⟩ := H
            exact QW.ret2 rfl rfl rfl ⟨rfl, st0.pick [] (by decide)⟩
          · have h_10 : (decide ((IntKind.i64.wrap ((l0.length : Int) - a1)) < a2)) = false := (decide_eq_false c_9)
            refine CW.cf rfl h_10 ?_
            refine CW.skip ?_
            refine QW.then_n ?_
            refine CW.seq ?_
            refine CW.region ?_
            refine WL.val Wanted.none (Runs.assign rfl) ?_
            refine WL.nil ?_
            refine QW.then_n ?_
            refine CW.seq ?_
            refine CW.region ?_
            refine WL.val Wanted.none (Runs.assign rfl) ?_
            refine WL.nil ?_
            refine QW.then_n ?_
            refine CW.seq ?_
            refine CW.seq ?_
            refine CW.region ?_
            refine WL.val Wanted.none (Runs.assign rfl) ?_
            refine WL.nil ?_
            refine QW.then_n ?_
            refine CW.block ?_
            obtain ⟨k_11, H⟩ := H
            refine CW.sub [(0, .slice A0 n0 c0), (1, .int .i64 a1), (2, .int .i64 a2), (6, .int .u64 0), (7, .int .i64 0), (8, .int .u64 0), (9, .int .u64 1), (10, .int .i64 0)] ⟨rfl, rfl, rfl, rfl, rfl, rfl, rfl, rfl, trivial⟩ ?_
            refine CW.loop (fun kL1 l_ w_ => ∃ (x_12 : Int) (x_13 : Int) (x_14 : Int), l_ = [(0, .slice A0 n0 c0), (1, .int .i64 a1), (2, .int .i64 a2), (6, .int .u64 0), (7, .int .i64 0), (8, .int .u64 x_12), (9, .int .u64 x_13), (10, .int .i64 x_14)] ∧ reliquaryref01_Get.L1 l0 a1 a2 r0 r1 kL1 x_12 x_13 x_14 ∧ St w w_ []) (k := k_11) ⟨0, 1, 0, rfl, H, st0⟩ (fun _ _ h => by obtain ⟨_, _, _, _, h, _⟩ := h; exact h.elim) ?_
            rintro kL1 l_17 w_15 ⟨x_12, x_13, x_14, rfl, H, st_16⟩
            refine CW.seq ?_
            refine CW.seq ?_
            refine CW.region ?_
            refine WL.val Wanted.none (Runs.move rfl) ?_
            refine WL.val Wanted.none (Runs.move rfl) ?_
            refine WL.val Wanted.none (Runs.lss rfl rfl rfl) ?_
            refine WL.nil ?_
            refine QW.then_n ?_
            rcases H with ⟨c_18, H⟩ | ⟨c_18, H⟩
            · have h_19 : (decide (x_14 < a2)) = true := (decide_eq_true c_18)
              refine CW.ct rfl h_19 ?_
              refine CW.skip ?_
              refine QW.then_n ?_
              refine CW.seq ?_
              refine CW.block ?_
              refine CW.seq ?_
              refine CW.region ?_
              refine WL.val Wanted.none (Runs.move rfl) ?_
              refine WL.val Wanted.none (Runs.move rfl) ?_
              refine WL.val Wanted.none (Runs.move rfl) ?_
              refine WL.val Wanted.none (Runs.move rfl) ?_
              refine WL.val Wanted.none (Runs.add rfl rfl rfl) ?_
              obtain ⟨⟨p_20, q_21⟩, H⟩ := H
              obtain ⟨a_22, e_23⟩ := (hs0.ext st_16).addr_iv ((IntKind.i64.wrap (a1 + x_14)).toNat) (by omega)
              refine WL.val Wanted.none (Runs.indexAddr Tryd.underlying29 cells5 (by decide) rfl e_23 rfl p_20 (by rw [hn0]; exact q_21) (o := (IntKind.i64.wrap (a1 + x_14)).toNat) (by first | rfl | omega)) ?_
              refine WL.val Wanted.none (Runs.load nagg5 rfl ((hs0.ext st_16).cell_iv e_23 (by omega))) ?_
              obtain ⟨x_24, e_25, H⟩ := H
              refine WL.val Wanted.none (Runs.conv Tryd.underlying24 ⟨_, Tryd.underlying5⟩ rfl e_25) ?_
              refine WL.val Wanted.none (Runs.move rfl) ?_
              refine WL.val Wanted.none (Runs.mul rfl rfl rfl) ?_
              refine WL.val Wanted.none (Runs.add rfl rfl rfl) ?_
              refine WL.val Wanted.none (Runs.assign rfl) ?_
              refine WL.nil ?_
              refine QW.then_n ?_
              refine CW.region ?_
              refine WL.val Wanted.none (Runs.move rfl) ?_
              refine WL.val Wanted.none (Runs.mul rfl rfl rfl) ?_
              refine WL.val Wanted.none (Runs.assign rfl) ?_
              refine WL.nil ?_
              refine QW.blk_n ?_
              refine QW.then_n ?_
              refine CW.region ?_
              refine WL.val Wanted.none (Runs.move rfl) ?_
              refine WL.val Wanted.none (Runs.add rfl rfl rfl) ?_
              refine WL.val Wanted.none (Runs.assign rfl) ?_
              refine WL.nil ?_
              exact QW.at [(0, .slice A0 n0 c0), (1, .int .i64 a1), (2, .int .i64 a2), (6, .int .u64 0), (7, .int .i64 0), (8, .int .u64 (IntKind.u64.wrap (x_12 + (IntKind.u64.wrap (x_24 * x_13))))), (9, .int .u64 (IntKind.u64.wrap (x_13 * 256))), (10, .int .i64 (IntKind.i64.wrap (x_14 + 1)))] ⟨rfl, rfl, rfl, rfl, rfl, rfl, rfl, rfl, trivial⟩ ⟨IntKind.u64.wrap (x_12 + (IntKind.u64.wrap (x_24 * x_13))), IntKind.u64.wrap (x_13 * 256), IntKind.i64.wrap (x_14 + 1), rfl, H, st_16⟩
            · have h_19 : (decide (x_14 < a2)) = false := (decide_eq_false c_18)
              refine CW.cf rfl h_19 ?_
              refine CW.exit ?_
              refine QW.then_x ?_
              refine QW.then_x ?_
              refine QW.blk_x ?_
              refine QW.then_n ?_
              refine CW.sub [(6, .int .u64 0), (7, .int .i64 0), (8, .int .u64 x_12)] ⟨rfl, rfl, rfl, trivial⟩ ?_
              refine CW.seq ?_
              refine CW.region ?_
              refine WL.val Wanted.none (Runs.move rfl) ?_
              refine WL.val Wanted.none (Runs.assign rfl) ?_
              refine WL.val Wanted.none (Runs.assign rfl) ?_
              refine WL.nil ?_
              refine QW.then_n ?_
              refine CW.ret ?_
              obtain ⟨rfl, rfl⟩ := H
              exact QW.ret2 rfl rfl rfl ⟨rfl, st_16.pick [] (by decide)⟩

end Go.Proofs.YtekpnjhacnkgcaaDoor
