/- Walks: each function computes what its relation says, and a call of it ends so. Printed by a program of this session (wip/gen). -/
import Derived.Test.YtekpnjhacnkgcaaDoorGx4
namespace Go.Proofs.YtekpnjhacnkgcaaDoor
open Go Go.Kr Go.RowKit
set_option linter.unusedVariables false
set_option linter.unusedSimpArgs false
/-! ### reliquarylaw10_TreeApart: function 6 -/
def reliquarylaw10_TreeApart.rel (a0 : Int) (a1 : Int) (l2 : List Int) (a3 : Int) (a4 : Int) (l5 : List Int)  : Prop := (reliquarylaw10_awake.rel  ∧ (((l2.length : Int) > 300 ∧ True) ∨ (¬ ((l2.length : Int) > 300) ∧ (((l5.length : Int) > 300 ∧ True) ∨ (¬ ((l5.length : Int) > 300) ∧ (∃ (r_13 : List Int), tree_Digest.rel (IntKind.i64.wrap a0) a1 l2 r_13 ∧ (∃ (r_26 : Bool), tree_Check.rel r_13 0 (IntKind.i64.wrap a3) a4 l5 r_26 ∧ ((¬ (r_26 = true) ∧ ((a0 ≠ a3 ∧ True) ∨ (¬ (a0 ≠ a3) ∧ ((a1 ≠ a4 ∧ True) ∨ (¬ (a1 ≠ a4) ∧ ¬ ((strOfNums l2).toList = (strOfNums l5).toList)))))) ∨ (¬ (¬ (r_26 = true)) ∧ ((a0 = a3 ∧ ((a1 = a4 ∧ (((strOfNums l2).toList = (strOfNums l5).toList ∧ True) ∨ (¬ ((strOfNums l2).toList = (strOfNums l5).toList) ∧ (∃ m_43 : List Int, m_43 = [a0, IntKind.u8.wrap a1, IntKind.u8.wrap (shrI .u32 a1 8), IntKind.u8.wrap (shrI .u32 a1 16), IntKind.u8.wrap (shrI .u32 a1 24)] ++ l2 ∧ (m_43.length ≤ 1099511627776 ∧ (∃ m_56 : List Int, m_56 = [a3, IntKind.u8.wrap a4, IntKind.u8.wrap (shrI .u32 a4 8), IntKind.u8.wrap (shrI .u32 a4 16), IntKind.u8.wrap (shrI .u32 a4 24)] ++ l5 ∧ (m_56.length ≤ 1099511627776 ∧ (¬ ((strOfNums m_43).toList = (strOfNums m_56).toList) ∧ (∃ (r_71 : List Int), reliquaryref02_Of.rel m_43 r_71 ∧ (∃ (r_77 : List Int), reliquaryref02_Of.rel m_56 r_77 ∧ r_71 = r_77)))))))))) ∨ (¬ (a1 = a4) ∧ (∃ m_83 : List Int, m_83 = [a0, IntKind.u8.wrap a1, IntKind.u8.wrap (shrI .u32 a1 8), IntKind.u8.wrap (shrI .u32 a1 16), IntKind.u8.wrap (shrI .u32 a1 24)] ++ l2 ∧ (m_83.length ≤ 1099511627776 ∧ (∃ m_96 : List Int, m_96 = [a3, IntKind.u8.wrap a4, IntKind.u8.wrap (shrI .u32 a4 8), IntKind.u8.wrap (shrI .u32 a4 16), IntKind.u8.wrap (shrI .u32 a4 24)] ++ l5 ∧ (m_96.length ≤ 1099511627776 ∧ (¬ ((strOfNums m_83).toList = (strOfNums m_96).toList) ∧ (∃ (r_111 : List Int), reliquaryref02_Of.rel m_83 r_111 ∧ (∃ (r_117 : List Int), reliquaryref02_Of.rel m_96 r_117 ∧ r_111 = r_117)))))))))) ∨ (¬ (a0 = a3) ∧ (∃ m_123 : List Int, m_123 = [a0, IntKind.u8.wrap a1, IntKind.u8.wrap (shrI .u32 a1 8), IntKind.u8.wrap (shrI .u32 a1 16), IntKind.u8.wrap (shrI .u32 a1 24)] ++ l2 ∧ (m_123.length ≤ 1099511627776 ∧ (∃ m_136 : List Int, m_136 = [a3, IntKind.u8.wrap a4, IntKind.u8.wrap (shrI .u32 a4 8), IntKind.u8.wrap (shrI .u32 a4 16), IntKind.u8.wrap (shrI .u32 a4 24)] ++ l5 ∧ (m_136.length ≤ 1099511627776 ∧ (¬ ((strOfNums m_123).toList = (strOfNums m_136).toList) ∧ (∃ (r_151 : List Int), reliquaryref02_Of.rel m_123 r_151 ∧ (∃ (r_157 : List Int), reliquaryref02_Of.rel m_136 r_157 ∧ r_151 = r_157))))))))))))))))))
set_option maxHeartbeats 4000000 in
set_option maxRecDepth 100000 in
theorem reliquarylaw10_TreeApart.calls (w : World) (a0 : Int) (a1 : Int) (l2 : List Int) (a3 : Int) (a4 : Int) (l5 : List Int) (A2 : Option Addr) (n2 : Nat) (c2 : Nat) (A5 : Option Addr) (n5 : Nat) (c5 : Nat)  (hG0 : Src w (some ⟨0, 0, none⟩) (iv .u32 tab0)) (hs2 : Src w A2 (iv .u8 l2)) (hn2 : n2 = l2.length) (hc2 : n2 ≤ c2) (hs5 : Src w A5 (iv .u8 l5)) (hn5 : n5 = l5.length) (hc5 : n5 ≤ c5)  (H : reliquarylaw10_TreeApart.rel a0 a1 l2 a3 a4 l5 ) :
    Calls Tryd.prog 6 #[.int .u8 a0, .int .u32 a1, .slice A2 n2 c2, .int .u8 a3, .int .u32 a4, .slice A5 n5 c5] w fun e w' => e = .returned (.bool true) ∧ Below w.heap.size w w' := by
  refine CW.enter Tryd.func6 rfl (n := 113) rfl [.int .u8 a0, .int .u32 a1, .slice A2 n2 c2, .int .u8 a3, .int .u32 a4, .slice A5 n5 c5] (Nat.le_of_ble_eq_true rfl) ?_
  refine CW.sub [(0, .int .u8 a0), (1, .int .u32 a1), (2, .slice A2 n2 c2), (3, .int .u8 a3), (4, .int .u32 a4), (5, .slice A5 n5 c5)] ⟨rfl, rfl, rfl, rfl, rfl, rfl, trivial⟩ ?_
  have st0 : St w w [] := St.refl w
  refine CW.seq ?_
  refine CW.region ?_
  refine WL.val Wanted.none (Runs.assign rfl) ?_
  refine WL.nil ?_
  refine QW.then_n ?_
  refine CW.seq ?_
  refine CW.region ?_
  obtain ⟨hr_1, H⟩ := H
  refine WL.call Wanted.none ent8 rfl (reliquarylaw10_awake.calls w (hG0.ext st0) hr_1) ?_
  rintro _ w_2 ⟨rfl, sc_4⟩
  have st_3 : St w w_2 [] := st0.below sc_4
  refine ⟨_, rfl, ?_⟩
  refine WL.val Wanted.none (Runs.assign rfl) ?_
  refine WL.nil ?_
  refine QW.then_n ?_
  refine CW.seq ?_
  refine CW.seq ?_
  refine CW.region ?_
  refine WL.val Wanted.none (Runs.move rfl) ?_
  refine WL.val Wanted.none (Runs.not rfl rfl) ?_
  refine WL.nil ?_
  refine QW.then_n ?_
  refine CW.cf rfl rfl ?_
  refine CW.skip ?_
  refine QW.then_n ?_
  refine CW.seq ?_
  refine CW.seq ?_
  refine CW.region ?_
  refine WL.val Wanted.none (Runs.move rfl) ?_
  refine WL.val Wanted.none (Runs.len_sl Tryd.underlying29 rfl (by rw [hn2])) ?_
  refine WL.val Wanted.none (Runs.gtr rfl rfl rfl) ?_
  refine WL.val Wanted.none (Runs.move rfl) ?_
  rcases H with ⟨c_5, H⟩ | ⟨c_5, H⟩
  · have h_6 : (decide ((l2.length : Int) > 300)) = true := (decide_eq_true c_5)
    refine WL.off ?_ ?_; exact Wanted.guard (dj := 23) (by rfl) (evb (by rfl) h_6) (by rfl)
    refine WL.off ?_ ?_; exact Wanted.guard (dj := 23) (by rfl) (evb (by rfl) h_6) (by rfl)
    refine WL.off ?_ ?_; exact Wanted.guard (dj := 23) (by rfl) (evb (by rfl) h_6) (by rfl)
    refine WL.val Wanted.none (Runs.pick_t (evb rfl h_6) rfl) ?_
    refine WL.nil ?_
    refine QW.then_n ?_
    refine CW.sub [(0, .int .u8 a0), (1, .int .u32 a1), (2, .slice A2 n2 c2), (3, .int .u8 a3), (4, .int .u32 a4), (5, .slice A5 n5 c5), (12, .bool false), (27, .bool true)] ⟨rfl, rfl, rfl, rfl, rfl, rfl, rfl, rfl, trivial⟩ ?_
    refine CW.ct rfl rfl ?_
    refine CW.seq ?_
    refine CW.region ?_
    refine WL.val Wanted.none (Runs.assign rfl) ?_
    refine WL.nil ?_
    refine QW.then_n ?_
    refine CW.ret ?_
    refine QW.then_r ?_
    exact QW.ret1 rfl rfl ⟨rfl, st_3.ext⟩
  · have h_6 : (decide ((l2.length : Int) > 300)) = false := (decide_eq_false c_5)
    refine WL.on ?_ ?_; exact Wanted.guard (dj := 23) (by rfl) (evb (by rfl) h_6) (by rfl)
    refine WL.val Wanted.none (Runs.move rfl) ?_
    refine WL.on ?_ ?_; exact Wanted.guard (dj := 23) (by rfl) (evb (by rfl) h_6) (by rfl)
    refine WL.val Wanted.none (Runs.len_sl Tryd.underlying29 rfl (by rw [hn5])) ?_
    refine WL.on ?_ ?_; exact Wanted.guard (dj := 23) (by rfl) (evb (by rfl) h_6) (by rfl)
    refine WL.val Wanted.none (Runs.gtr rfl rfl rfl) ?_
    refine WL.val Wanted.none (Runs.pick_f (evb rfl h_6) rfl) ?_
    refine WL.nil ?_
    refine QW.then_n ?_
    refine CW.sub [(0, .int .u8 a0), (1, .int .u32 a1), (2, .slice A2 n2 c2), (3, .int .u8 a3), (4, .int .u32 a4), (5, .slice A5 n5 c5), (12, .bool false), (27, .bool (decide ((l5.length : Int) > 300)))] ⟨rfl, rfl, rfl, rfl, rfl, rfl, rfl, rfl, trivial⟩ ?_
    rcases H with ⟨c_7, H⟩ | ⟨c_7, H⟩
    · have h_8 : (decide ((l5.length : Int) > 300)) = true := (decide_eq_true c_7)
      refine CW.ct rfl h_8 ?_
      refine CW.seq ?_
      refine CW.region ?_
      refine WL.val Wanted.none (Runs.assign rfl) ?_
      refine WL.nil ?_
      refine QW.then_n ?_
      refine CW.ret ?_
      refine QW.then_r ?_
      exact QW.ret1 rfl rfl ⟨rfl, st_3.ext⟩
    · have h_8 : (decide ((l5.length : Int) > 300)) = false := (decide_eq_false c_7)
      refine CW.cf rfl h_8 ?_
      refine CW.skip ?_
      refine QW.then_n ?_
      refine CW.seq ?_
      refine CW.region ?_
      refine WL.val Wanted.none (Runs.move rfl) ?_
      refine WL.val Wanted.none (Runs.conv Tryd.underlying3 ⟨_, Tryd.underlying5⟩ rfl rfl) ?_
      refine WL.val Wanted.none (Runs.move rfl) ?_
      refine WL.val Wanted.none (Runs.move rfl) ?_
      obtain ⟨r_13, hr_9, H⟩ := H
      refine WL.call Wanted.none ent14 rfl (tree_Digest.calls w_2 (IntKind.i64.wrap a0) a1 l2 A2 n2 c2 (hG0.ext st_3) (hs2.ext st_3) (hn2) (hc2) r_13 hr_9) ?_
      rintro _ w_10 ⟨hl_14, rfl, sc_12⟩
      have st_11 : St w w_10 [] := st_3.call sc_12
      refine ⟨_, rfl, ?_⟩
      refine WL.alloc st_11 arr23.zero ?_
      intro B_15 w_16 st_17
      replace st_17 : St w w_16 [.cells B_15 (iv .u8 (List.replicate 32 (0 : Int))) 23] := st_17
      refine WL.store_arr (i := 0) st_17 rfl arr23 rfl (by rw [iv_length]; exact (List.length_replicate ..)) hl_14 rfl ?_
      intro w_19 st_20
      replace st_20 : St w w_19 [.cells B_15 (iv .u8 r_13) 23] := st_20
      refine WL.nil ?_
      refine QW.then_n ?_
      refine CW.sub [(0, .int .u8 a0), (1, .int .u32 a1), (2, .slice A2 n2 c2), (3, .int .u8 a3), (4, .int .u32 a4), (5, .slice A5 n5 c5), (12, .bool false), (14, .pointer (some ⟨B_15, 0, none⟩))] ⟨rfl, rfl, rfl, rfl, rfl, rfl, rfl, rfl, trivial⟩ ?_
      refine CW.seq ?_
      refine CW.seq ?_
      refine CW.region ?_
      refine WL.val Wanted.none (Runs.load_arr arr23 rfl (st_20.blk (i := 0) rfl) hl_14) ?_
      refine WL.val Wanted.none (Runs.build_struct (ps := [(0, 32), (32, 1)]) (cs := (iv .u8 r_13 ++ ([.int .u64 0] : List Value))) plc26 zero26 rfl (by refine Fills.cons (o := 0) (ms := (iv .u8 r_13)) (show _ = some (0, (iv .u8 r_13).length) by rw [show (iv .u8 r_13).length = 32 from (by first | rfl | simp only [List.length_append, List.length_cons, List.length_nil, iv_length, hl_14])] <;> rfl) rfl (by have h1_ : (iv .u8 r_13).length = 32 := (by first | rfl | simp only [List.length_append, List.length_cons, List.length_nil, iv_length, hl_14]); have h2_ : (iv .u8 (List.replicate 32 (0 : Int)) ++ ([.int .u64 0] : List Value)).length = 33 := (by first | rfl | simp only [List.length_append, List.length_cons, List.length_nil, iv_length, List.length_replicate]); omega) ?_; rw [show layV (iv .u8 (List.replicate 32 (0 : Int)) ++ ([.int .u64 0] : List Value)) 0 (iv .u8 r_13) = (iv .u8 r_13 ++ ([.int .u64 0] : List Value)) from (layV_mid (pre := (([] : List Value))) (mid := (iv .u8 (List.replicate 32 (0 : Int)))) (post := (([.int .u64 0] : List Value))) (by first | rfl | simp only [List.append_assoc, List.append_nil, List.nil_append, List.cons_append]) (by first | rfl | simp only [List.length_append, List.length_cons, List.length_nil, iv_length]) (Eq.trans (b := 32) (by first | rfl | simp only [List.length_append, List.length_cons, List.length_nil, iv_length, List.length_replicate]) (Eq.symm (by first | rfl | simp only [List.length_append, List.length_cons, List.length_nil, iv_length, hl_14])))).trans (by first | rfl | simp only [List.append_assoc, List.append_nil, List.nil_append, List.cons_append])]; exact Fills.nil)) ?_
      refine WL.val Wanted.none (Runs.move rfl) ?_
      refine WL.val Wanted.none (Runs.conv Tryd.underlying3 ⟨_, Tryd.underlying5⟩ rfl rfl) ?_
      refine WL.val Wanted.none (Runs.move rfl) ?_
      refine WL.val Wanted.none (Runs.move rfl) ?_
      obtain ⟨r_26, hr_22, H⟩ := H
      refine WL.call Wanted.none ent16 rfl (tree_Check.calls w_19 r_13 0 (IntKind.i64.wrap a3) a4 l5 A5 n5 c5 (hG0.ext st_20) hl_14 (hs5.ext st_20) (hn5) (hc5) r_26 hr_22) ?_
      rintro _ w_23 ⟨rfl, sc_25⟩
      have st_24 : St w w_23 [.cells B_15 (iv .u8 r_13) 23] := st_20.call sc_25
      refine ⟨_, rfl, ?_⟩
      refine WL.val Wanted.none (Runs.not rfl rfl) ?_
      refine WL.nil ?_
      refine QW.then_n ?_
      refine CW.sub [(0, .int .u8 a0), (1, .int .u32 a1), (2, .slice A2 n2 c2), (3, .int .u8 a3), (4, .int .u32 a4), (5, .slice A5 n5 c5), (12, .bool false), (40, .bool (!r_26))] ⟨rfl, rfl, rfl, rfl, rfl, rfl, rfl, rfl, trivial⟩ ?_
      rcases H with ⟨c_27, H⟩ | ⟨c_27, H⟩
      · have h_28 : (!r_26) = true := (not_t (Bool.eq_false_iff.mpr c_27))
        refine CW.ct rfl h_28 ?_
        refine CW.seq ?_
        refine CW.region ?_
        refine WL.val Wanted.none (Runs.move rfl) ?_
        refine WL.val Wanted.none (Runs.move rfl) ?_
        refine WL.val Wanted.none (Runs.neq rfl rfl rfl) ?_
        refine WL.val Wanted.none (Runs.move rfl) ?_
        rcases H with ⟨c_29, H⟩ | ⟨c_29, H⟩
        · have h_30 : (a0 != a3) = true := (bne_iff_ne.mpr c_29)
          refine WL.off ?_ ?_; exact Wanted.guard (dj := 44) (by rfl) (evb (by rfl) h_30) (by rfl)
          refine WL.off ?_ ?_; exact Wanted.guard (dj := 44) (by rfl) (evb (by rfl) h_30) (by rfl)
          refine WL.off ?_ ?_; exact Wanted.guard (dj := 44) (by rfl) (evb (by rfl) h_30) (by rfl)
          refine WL.val Wanted.none (Runs.pick_t (evb rfl h_30) rfl) ?_
          refine WL.val Wanted.none (Runs.move rfl) ?_
          refine WL.off ?_ ?_; exact Wanted.guard (dj := 49) (by rfl) (by rfl) (by rfl)
          refine WL.off ?_ ?_; exact Wanted.guard (dj := 49) (by rfl) (by rfl) (by rfl)
          refine WL.off ?_ ?_; exact Wanted.guard (dj := 49) (by rfl) (by rfl) (by rfl)
          refine WL.off ?_ ?_; exact Wanted.guard (dj := 49) (by rfl) (by rfl) (by rfl)
          refine WL.off ?_ ?_; exact Wanted.guard (dj := 49) (by rfl) (by rfl) (by rfl)
          refine WL.val Wanted.none (Runs.pick_t rfl rfl) ?_
          refine WL.val Wanted.none (Runs.assign rfl) ?_
          refine WL.nil ?_
          refine QW.then_n ?_
          refine CW.sub [(0, .int .u8 a0), (1, .int .u32 a1), (2, .slice A2 n2 c2), (3, .int .u8 a3), (4, .int .u32 a4), (5, .slice A5 n5 c5), (12, .bool true)] ⟨rfl, rfl, rfl, rfl, rfl, rfl, rfl, trivial⟩ ?_
          refine CW.ret ?_
          refine QW.then_r ?_
          exact QW.ret1 rfl rfl ⟨rfl, st_24.ext⟩
        · have h_30 : (a0 != a3) = false := (bne_eq_false_iff_eq.mpr (Decidable.not_not.mp c_29))
          refine WL.on ?_ ?_; exact Wanted.guard (dj := 44) (by rfl) (evb (by rfl) h_30) (by rfl)
          refine WL.val Wanted.none (Runs.move rfl) ?_
          refine WL.on ?_ ?_; exact Wanted.guard (dj := 44) (by rfl) (evb (by rfl) h_30) (by rfl)
          refine WL.val Wanted.none (Runs.move rfl) ?_
          refine WL.on ?_ ?_; exact Wanted.guard (dj := 44) (by rfl) (evb (by rfl) h_30) (by rfl)
          refine WL.val Wanted.none (Runs.neq rfl rfl rfl) ?_
          refine WL.val Wanted.none (Runs.pick_f (evb rfl h_30) rfl) ?_
          refine WL.val Wanted.none (Runs.move rfl) ?_
          rcases H with ⟨c_31, H⟩ | ⟨c_31, H⟩
          · have h_32 : (a1 != a4) = true := (bne_iff_ne.mpr c_31)
            refine WL.off ?_ ?_; exact Wanted.guard (dj := 49) (by rfl) (evb (by rfl) h_32) (by rfl)
            refine WL.off ?_ ?_; exact Wanted.guard (dj := 49) (by rfl) (evb (by rfl) h_32) (by rfl)
            refine WL.off ?_ ?_; exact Wanted.guard (dj := 49) (by rfl) (evb (by rfl) h_32) (by rfl)
            refine WL.off ?_ ?_; exact Wanted.guard (dj := 49) (by rfl) (evb (by rfl) h_32) (by rfl)
            refine WL.off ?_ ?_; exact Wanted.guard (dj := 49) (by rfl) (evb (by rfl) h_32) (by rfl)
            refine WL.val Wanted.none (Runs.pick_t (evb rfl h_32) rfl) ?_
            refine WL.val Wanted.none (Runs.assign rfl) ?_
            refine WL.nil ?_
            refine QW.then_n ?_
            refine CW.sub [(0, .int .u8 a0), (1, .int .u32 a1), (2, .slice A2 n2 c2), (3, .int .u8 a3), (4, .int .u32 a4), (5, .slice A5 n5 c5), (12, .bool true)] ⟨rfl, rfl, rfl, rfl, rfl, rfl, rfl, trivial⟩ ?_
            refine CW.ret ?_
            refine QW.then_r ?_
            exact QW.ret1 rfl rfl ⟨rfl, st_24.ext⟩
          · have h_32 : (a1 != a4) = false := (bne_eq_false_iff_eq.mpr (Decidable.not_not.mp c_31))
            refine WL.on ?_ ?_; exact Wanted.guard (dj := 49) (by rfl) (evb (by rfl) h_32) (by rfl)
            refine WL.val Wanted.none (Runs.move rfl) ?_
            refine WL.on ?_ ?_; exact Wanted.guard (dj := 49) (by rfl) (evb (by rfl) h_32) (by rfl)
            refine WL.val Wanted.none (Runs.bytes_str Tryd.underlying29 Tryd.underlying5 Tryd.underlying9 rfl (hs2.ext st_24) hn2) ?_
            refine WL.on ?_ ?_; exact Wanted.guard (dj := 49) (by rfl) (evb (by rfl) h_32) (by rfl)
            refine WL.val Wanted.none (Runs.move rfl) ?_
            refine WL.on ?_ ?_; exact Wanted.guard (dj := 49) (by rfl) (evb (by rfl) h_32) (by rfl)
            refine WL.val Wanted.none (Runs.bytes_str Tryd.underlying29 Tryd.underlying5 Tryd.underlying9 rfl (hs5.ext st_24) hn5) ?_
            refine WL.on ?_ ?_; exact Wanted.guard (dj := 49) (by rfl) (evb (by rfl) h_32) (by rfl)
            refine WL.val Wanted.none (Runs.nes rfl rfl rfl) ?_
            refine WL.val Wanted.none (Runs.pick_f (evb rfl h_32) rfl) ?_
            refine WL.val Wanted.none (Runs.assign rfl) ?_
            refine WL.nil ?_
            refine QW.then_n ?_
            refine CW.sub [(0, .int .u8 a0), (1, .int .u32 a1), (2, .slice A2 n2 c2), (3, .int .u8 a3), (4, .int .u32 a4), (5, .slice A5 n5 c5), (12, .bool (!((strOfNums l2).toList == (strOfNums l5).toList)))] ⟨rfl, rfl, rfl, rfl, rfl, rfl, rfl, trivial⟩ ?_
            refine CW.ret ?_
            refine QW.then_r ?_
            have hz : (!((strOfNums l2).toList == (strOfNums l5).toList)) = true := (not_t (beq_eq_false_iff_ne.mpr H))
            exact QW.ret1 rfl (evb rfl hz) ⟨rfl, st_24.ext⟩
      · have h_28 : (!r_26) = false := (not_f (Decidable.not_not.mp c_27))
        refine CW.cf rfl h_28 ?_
        refine CW.skip ?_
        refine QW.then_n ?_
        refine CW.seq ?_
        refine CW.seq ?_
        refine CW.region ?_
        refine WL.val Wanted.none (Runs.move rfl) ?_
        refine WL.val Wanted.none (Runs.move rfl) ?_
        refine WL.val Wanted.none (Runs.eql rfl rfl rfl) ?_
        refine WL.val Wanted.none (Runs.move rfl) ?_
        rcases H with ⟨c_33, H⟩ | ⟨c_33, H⟩
        · have h_34 : (a0 == a3) = true := (beq_iff_eq.mpr c_33)
          refine WL.on ?_ ?_; exact Wanted.guard (dj := 59) (by rfl) (evb (by rfl) h_34) (by rfl)
          refine WL.val Wanted.none (Runs.move rfl) ?_
          refine WL.on ?_ ?_; exact Wanted.guard (dj := 59) (by rfl) (evb (by rfl) h_34) (by rfl)
          refine WL.val Wanted.none (Runs.move rfl) ?_
          refine WL.on ?_ ?_; exact Wanted.guard (dj := 59) (by rfl) (evb (by rfl) h_34) (by rfl)
          refine WL.val Wanted.none (Runs.eql rfl rfl rfl) ?_
          refine WL.val Wanted.none (Runs.pick_t (evb rfl h_34) rfl) ?_
          refine WL.val Wanted.none (Runs.move rfl) ?_
          rcases H with ⟨c_35, H⟩ | ⟨c_35, H⟩
          · have h_36 : (a1 == a4) = true := (beq_iff_eq.mpr c_35)
            refine WL.on ?_ ?_; exact Wanted.guard (dj := 64) (by rfl) (evb (by rfl) h_36) (by rfl)
            refine WL.val Wanted.none (Runs.move rfl) ?_
            refine WL.on ?_ ?_; exact Wanted.guard (dj := 64) (by rfl) (evb (by rfl) h_36) (by rfl)
            refine WL.val Wanted.none (Runs.bytes_str Tryd.underlying29 Tryd.underlying5 Tryd.underlying9 rfl (hs2.ext st_24) hn2) ?_
            refine WL.on ?_ ?_; exact Wanted.guard (dj := 64) (by rfl) (evb (by rfl) h_36) (by rfl)
            refine WL.val Wanted.none (Runs.move rfl) ?_
            refine WL.on ?_ ?_; exact Wanted.guard (dj := 64) (by rfl) (evb (by rfl) h_36) (by rfl)
            refine WL.val Wanted.none (Runs.bytes_str Tryd.underlying29 Tryd.underlying5 Tryd.underlying9 rfl (hs5.ext st_24) hn5) ?_
            refine WL.on ?_ ?_; exact Wanted.guard (dj := 64) (by rfl) (evb (by rfl) h_36) (by rfl)
            refine WL.val Wanted.none (Runs.eqs rfl rfl rfl) ?_
            refine WL.val Wanted.none (Runs.pick_t (evb rfl h_36) rfl) ?_
            refine WL.nil ?_
            refine QW.then_n ?_
            refine CW.sub [(0, .int .u8 a0), (1, .int .u32 a1), (2, .slice A2 n2 c2), (3, .int .u8 a3), (4, .int .u32 a4), (5, .slice A5 n5 c5), (12, .bool false), (70, .bool ((strOfNums l2).toList == (strOfNums l5).toList))] ⟨rfl, rfl, rfl, rfl, rfl, rfl, rfl, rfl, trivial⟩ ?_
            rcases H with ⟨c_37, H⟩ | ⟨c_37, H⟩
            · have h_38 : ((strOfNums l2).toList == (strOfNums l5).toList) = true := (beq_iff_eq.mpr c_37)
              refine CW.ct rfl h_38 ?_
              refine CW.seq ?_
              refine CW.region ?_
              refine WL.val Wanted.none (Runs.assign rfl) ?_
              refine WL.nil ?_
              refine QW.then_n ?_
              refine CW.ret ?_
              refine QW.then_r ?_
              exact QW.ret1 rfl rfl ⟨rfl, st_24.ext⟩
            · have h_38 : ((strOfNums l2).toList == (strOfNums l5).toList) = false := (beq_eq_false_iff_ne.mpr c_37)
              refine CW.cf rfl h_38 ?_
              refine CW.skip ?_
              refine QW.then_n ?_
              refine CW.seq ?_
              refine CW.region ?_
              refine WL.val Wanted.none (Runs.move rfl) ?_
              refine WL.val Wanted.none (Runs.move rfl) ?_
              refine WL.val Wanted.none (Runs.conv Tryd.underlying5 ⟨_, Tryd.underlying42⟩ rfl rfl) ?_
              refine WL.val Wanted.none (Runs.move rfl) ?_
              refine WL.val Wanted.none (Runs.shr rfl rfl (by decide) rfl) ?_
              refine WL.val Wanted.none (Runs.conv Tryd.underlying5 ⟨_, Tryd.underlying42⟩ rfl rfl) ?_
              refine WL.val Wanted.none (Runs.move rfl) ?_
              refine WL.val Wanted.none (Runs.shr rfl rfl (by decide) rfl) ?_
              refine WL.val Wanted.none (Runs.conv Tryd.underlying5 ⟨_, Tryd.underlying42⟩ rfl rfl) ?_
              refine WL.val Wanted.none (Runs.move rfl) ?_
              refine WL.val Wanted.none (Runs.shr rfl rfl (by decide) rfl) ?_
              refine WL.val Wanted.none (Runs.conv Tryd.underlying5 ⟨_, Tryd.underlying42⟩ rfl rfl) ?_
              refine WL.buildSl [.int .u8 a0, .int .u8 (IntKind.u8.wrap a1), .int .u8 (IntKind.u8.wrap (shrI .u32 a1 8)), .int .u8 (IntKind.u8.wrap (shrI .u32 a1 16)), .int .u8 (IntKind.u8.wrap (shrI .u32 a1 24))] st_24 Tryd.underlying29 elem5 rfl rfl (by decide) (by decide) (by simp [Value.cells]) ?_
              intro B_39 w_40 st_41
              replace st_41 : St w w_40 [.sl (some ⟨B_39, 0, none⟩) 5 5 (iv .u8 [a0, IntKind.u8.wrap a1, IntKind.u8.wrap (shrI .u32 a1 8), IntKind.u8.wrap (shrI .u32 a1 16), IntKind.u8.wrap (shrI .u32 a1 24)]) 5 1, .cells B_15 (iv .u8 r_13) 23] := st_41
              refine WL.val Wanted.none (Runs.move rfl) ?_
              obtain ⟨m_43, e_44, H⟩ := H
              obtain ⟨z_45, H⟩ := H
              obtain ⟨n_48, hn_51⟩ : ∃ n_ : Nat, n_ = m_43.length := ⟨_, rfl⟩
              refine WL.append (i := 0) Wanted.none st_41 rfl Tryd.underlying29 elem5 rfl rfl (hs2.ext st_41) (by rw [iv_length]; exact (hn2).symm) (one_iv .u8 _) (by decide) (N := n_48) (by rw [hn_51, e_44, List.length_append]; exact congr (congrArg HAdd.hAdd (rfl)) (hn2)) (by rw [hn_51]; exact z_45) ?_
              intro A_46 c_47 w_49 st_50
              have st_50' : St w w_49 [.sl A_46 c_47 n_48 (iv .u8 m_43) 5 1, .cells B_15 (iv .u8 r_13) 23] := by rw [e_44, ← iv_append .u8 [a0, IntKind.u8.wrap a1, IntKind.u8.wrap (shrI .u32 a1 8), IntKind.u8.wrap (shrI .u32 a1 16), IntKind.u8.wrap (shrI .u32 a1 24)] l2]; exact st_50
              refine WL.val Wanted.none (Runs.assign rfl) ?_
              refine WL.nil ?_
              refine QW.then_n ?_
              refine CW.sub [(3, .int .u8 a3), (4, .int .u32 a4), (5, .slice A5 n5 c5), (12, .bool false), (15, .slice A_46 n_48 c_47)] ⟨rfl, rfl, rfl, rfl, rfl, trivial⟩ ?_
              refine CW.seq ?_
              refine CW.region ?_
              refine WL.val Wanted.none (Runs.move rfl) ?_
              refine WL.val Wanted.none (Runs.move rfl) ?_
              refine WL.val Wanted.none (Runs.conv Tryd.underlying5 ⟨_, Tryd.underlying42⟩ rfl rfl) ?_
              refine WL.val Wanted.none (Runs.move rfl) ?_
              refine WL.val Wanted.none (Runs.shr rfl rfl (by decide) rfl) ?_
              refine WL.val Wanted.none (Runs.conv Tryd.underlying5 ⟨_, Tryd.underlying42⟩ rfl rfl) ?_
              refine WL.val Wanted.none (Runs.move rfl) ?_
              refine WL.val Wanted.none (Runs.shr rfl rfl (by decide) rfl) ?_
              refine WL.val Wanted.none (Runs.conv Tryd.underlying5 ⟨_, Tryd.underlying42⟩ rfl rfl) ?_
              refine WL.val Wanted.none (Runs.move rfl) ?_
              refine WL.val Wanted.none (Runs.shr rfl rfl (by decide) rfl) ?_
              refine WL.val Wanted.none (Runs.conv Tryd.underlying5 ⟨_, Tryd.underlying42⟩ rfl rfl) ?_
              refine WL.buildSl [.int .u8 a3, .int .u8 (IntKind.u8.wrap a4), .int .u8 (IntKind.u8.wrap (shrI .u32 a4 8)), .int .u8 (IntKind.u8.wrap (shrI .u32 a4 16)), .int .u8 (IntKind.u8.wrap (shrI .u32 a4 24))] st_50' Tryd.underlying29 elem5 rfl rfl (by decide) (by decide) (by simp [Value.cells]) ?_
              intro B_52 w_53 st_54
              replace st_54 : St w w_53 [.sl (some ⟨B_52, 0, none⟩) 5 5 (iv .u8 [a3, IntKind.u8.wrap a4, IntKind.u8.wrap (shrI .u32 a4 8), IntKind.u8.wrap (shrI .u32 a4 16), IntKind.u8.wrap (shrI .u32 a4 24)]) 5 1, .sl A_46 c_47 n_48 (iv .u8 m_43) 5 1, .cells B_15 (iv .u8 r_13) 23] := st_54
              refine WL.val Wanted.none (Runs.move rfl) ?_
              obtain ⟨m_56, e_57, H⟩ := H
              obtain ⟨z_58, H⟩ := H
              obtain ⟨n_61, hn_64⟩ : ∃ n_ : Nat, n_ = m_56.length := ⟨_, rfl⟩
              refine WL.append (i := 0) Wanted.none st_54 rfl Tryd.underlying29 elem5 rfl rfl (hs5.ext st_54) (by rw [iv_length]; exact (hn5).symm) (one_iv .u8 _) (by decide) (N := n_61) (by rw [hn_64, e_57, List.length_append]; exact congr (congrArg HAdd.hAdd (rfl)) (hn5)) (by rw [hn_64]; exact z_58) ?_
              intro A_59 c_60 w_62 st_63
              have st_63' : St w w_62 [.sl A_59 c_60 n_61 (iv .u8 m_56) 5 1, .sl A_46 c_47 n_48 (iv .u8 m_43) 5 1, .cells B_15 (iv .u8 r_13) 23] := by rw [e_57, ← iv_append .u8 [a3, IntKind.u8.wrap a4, IntKind.u8.wrap (shrI .u32 a4 8), IntKind.u8.wrap (shrI .u32 a4 16), IntKind.u8.wrap (shrI .u32 a4 24)] l5]; exact st_63
              refine WL.val Wanted.none (Runs.assign rfl) ?_
              refine WL.nil ?_
              refine QW.then_n ?_
              refine CW.sub [(12, .bool false), (15, .slice A_46 n_48 c_47), (16, .slice A_59 n_61 c_60)] ⟨rfl, rfl, rfl, trivial⟩ ?_
              refine CW.seq ?_
              refine CW.region ?_
              refine WL.val Wanted.none (Runs.move rfl) ?_
              refine WL.val Wanted.none (Runs.bytes_str Tryd.underlying29 Tryd.underlying5 Tryd.underlying9 rfl (st_63'.src_sl (k := 1) rfl) hn_51) ?_
              refine WL.val Wanted.none (Runs.move rfl) ?_
              refine WL.val Wanted.none (Runs.bytes_str Tryd.underlying29 Tryd.underlying5 Tryd.underlying9 rfl (st_63'.src_sl (k := 0) rfl) hn_64) ?_
              refine WL.val Wanted.none (Runs.nes rfl rfl rfl) ?_
              refine WL.val Wanted.none (Runs.move rfl) ?_
              obtain ⟨c_65, H⟩ := H
              have h_66 : (!((strOfNums m_43).toList == (strOfNums m_56).toList)) = true := (not_t (beq_eq_false_iff_ne.mpr c_65))
              refine WL.on ?_ ?_; exact Wanted.guard (dj := 106) (by rfl) (evb (by rfl) h_66) (by rfl)
              refine WL.val Wanted.none (Runs.move rfl) ?_
              refine WL.on ?_ ?_; exact Wanted.guard (dj := 106) (by rfl) (evb (by rfl) h_66) (by rfl)
              obtain ⟨r_71, hr_67, H⟩ := H
              refine WL.call Wanted.none ent20 rfl (reliquaryref02_Of.calls w_62 m_43 A_46 n_48 c_47 (st_63'.src_sl (k := 1) rfl) (hn_51) (st_63'.cap (i := 1) rfl) r_71 hr_67) ?_
              rintro _ w_68 ⟨hl_72, rfl, sc_70⟩
              have st_69 : St w w_68 [.sl A_59 c_60 n_61 (iv .u8 m_56) 5 1, .sl A_46 c_47 n_48 (iv .u8 m_43) 5 1, .cells B_15 (iv .u8 r_13) 23] := st_63'.call sc_70
              refine ⟨_, rfl, ?_⟩
              refine WL.on ?_ ?_; exact Wanted.guard (dj := 106) (by rfl) (evb (by rfl) h_66) (by rfl)
              refine WL.val Wanted.none (Runs.move rfl) ?_
              refine WL.on ?_ ?_; exact Wanted.guard (dj := 106) (by rfl) (evb (by rfl) h_66) (by rfl)
              obtain ⟨r_77, hr_73, H⟩ := H
              refine WL.call Wanted.none ent20 rfl (reliquaryref02_Of.calls w_68 m_56 A_59 n_61 c_60 (st_69.src_sl (k := 0) rfl) (hn_64) (st_69.cap (i := 0) rfl) r_77 hr_73) ?_
              rintro _ w_74 ⟨hl_78, rfl, sc_76⟩
              have st_75 : St w w_74 [.sl A_59 c_60 n_61 (iv .u8 m_56) 5 1, .sl A_46 c_47 n_48 (iv .u8 m_43) 5 1, .cells B_15 (iv .u8 r_13) 23] := st_69.call sc_76
              refine ⟨_, rfl, ?_⟩
              refine WL.on ?_ ?_; exact Wanted.guard (dj := 106) (by rfl) (evb (by rfl) h_66) (by rfl)
              refine WL.val Wanted.none (Runs.eql_arr arr23 eqg23 rfl rfl hl_72 hl_78 rfl) ?_
              refine WL.val Wanted.none (Runs.pick_t (evb rfl h_66) rfl) ?_
              refine WL.val Wanted.none (Runs.assign rfl) ?_
              refine WL.nil ?_
              refine QW.then_n ?_
              refine CW.sub [(12, .bool (r_71 == r_77))] ⟨rfl, trivial⟩ ?_
              refine CW.ret ?_
              have hz : (r_71 == r_77) = true := (beq_iff_eq.mpr H)
              exact QW.ret1 rfl (evb rfl hz) ⟨rfl, st_75.ext⟩
          · have h_36 : (a1 == a4) = false := (beq_eq_false_iff_ne.mpr c_35)
            refine WL.off ?_ ?_; exact Wanted.guard (dj := 64) (by rfl) (evb (by rfl) h_36) (by rfl)
            refine WL.off ?_ ?_; exact Wanted.guard (dj := 64) (by rfl) (evb (by rfl) h_36) (by rfl)
            refine WL.off ?_ ?_; exact Wanted.guard (dj := 64) (by rfl) (evb (by rfl) h_36) (by rfl)
            refine WL.off ?_ ?_; exact Wanted.guard (dj := 64) (by rfl) (evb (by rfl) h_36) (by rfl)
            refine WL.off ?_ ?_; exact Wanted.guard (dj := 64) (by rfl) (evb (by rfl) h_36) (by rfl)
            refine WL.val Wanted.none (Runs.pick_f (evb rfl h_36) rfl) ?_
            refine WL.nil ?_
            refine QW.then_n ?_
            refine CW.sub [(0, .int .u8 a0), (1, .int .u32 a1), (2, .slice A2 n2 c2), (3, .int .u8 a3), (4, .int .u32 a4), (5, .slice A5 n5 c5), (12, .bool false), (70, .bool false)] ⟨rfl, rfl, rfl, rfl, rfl, rfl, rfl, rfl, trivial⟩ ?_
            refine CW.cf rfl rfl ?_
            refine CW.skip ?_
            refine QW.then_n ?_
            refine CW.seq ?_
            refine CW.region ?_
            refine WL.val Wanted.none (Runs.move rfl) ?_
            refine WL.val Wanted.none (Runs.move rfl) ?_
            refine WL.val Wanted.none (Runs.conv Tryd.underlying5 ⟨_, Tryd.underlying42⟩ rfl rfl) ?_
            refine WL.val Wanted.none (Runs.move rfl) ?_
            refine WL.val Wanted.none (Runs.shr rfl rfl (by decide) rfl) ?_
            refine WL.val Wanted.none (Runs.conv Tryd.underlying5 ⟨_, Tryd.underlying42⟩ rfl rfl) ?_
            refine WL.val Wanted.none (Runs.move rfl) ?_
            refine WL.val Wanted.none (Runs.shr rfl rfl (by decide) rfl) ?_
            refine WL.val Wanted.none (Runs.conv Tryd.underlying5 ⟨_, Tryd.underlying42⟩ rfl rfl) ?_
            refine WL.val Wanted.none (Runs.move rfl) ?_
            refine WL.val Wanted.none (Runs.shr rfl rfl (by decide) rfl) ?_
            refine WL.val Wanted.none (Runs.conv Tryd.underlying5 ⟨_, Tryd.underlying42⟩ rfl rfl) ?_
            refine WL.buildSl [.int .u8 a0, .int .u8 (IntKind.u8.wrap a1), .int .u8 (IntKind.u8.wrap (shrI .u32 a1 8)), .int .u8 (IntKind.u8.wrap (shrI .u32 a1 16)), .int .u8 (IntKind.u8.wrap (shrI .u32 a1 24))] st_24 Tryd.underlying29 elem5 rfl rfl (by decide) (by decide) (by simp [Value.cells]) ?_
            intro B_79 w_80 st_81
            replace st_81 : St w w_80 [.sl (some ⟨B_79, 0, none⟩) 5 5 (iv .u8 [a0, IntKind.u8.wrap a1, IntKind.u8.wrap (shrI .u32 a1 8), IntKind.u8.wrap (shrI .u32 a1 16), IntKind.u8.wrap (shrI .u32 a1 24)]) 5 1, .cells B_15 (iv .u8 r_13) 23] := st_81
            refine WL.val Wanted.none (Runs.move rfl) ?_
            obtain ⟨m_83, e_84, H⟩ := H
            obtain ⟨z_85, H⟩ := H
            obtain ⟨n_88, hn_91⟩ : ∃ n_ : Nat, n_ = m_83.length := ⟨_, rfl⟩
            refine WL.append (i := 0) Wanted.none st_81 rfl Tryd.underlying29 elem5 rfl rfl (hs2.ext st_81) (by rw [iv_length]; exact (hn2).symm) (one_iv .u8 _) (by decide) (N := n_88) (by rw [hn_91, e_84, List.length_append]; exact congr (congrArg HAdd.hAdd (rfl)) (hn2)) (by rw [hn_91]; exact z_85) ?_
            intro A_86 c_87 w_89 st_90
            have st_90' : St w w_89 [.sl A_86 c_87 n_88 (iv .u8 m_83) 5 1, .cells B_15 (iv .u8 r_13) 23] := by rw [e_84, ← iv_append .u8 [a0, IntKind.u8.wrap a1, IntKind.u8.wrap (shrI .u32 a1 8), IntKind.u8.wrap (shrI .u32 a1 16), IntKind.u8.wrap (shrI .u32 a1 24)] l2]; exact st_90
            refine WL.val Wanted.none (Runs.assign rfl) ?_
            refine WL.nil ?_
            refine QW.then_n ?_
            refine CW.sub [(3, .int .u8 a3), (4, .int .u32 a4), (5, .slice A5 n5 c5), (12, .bool false), (15, .slice A_86 n_88 c_87)] ⟨rfl, rfl, rfl, rfl, rfl, trivial⟩ ?_
            refine CW.seq ?_
            refine CW.region ?_
            refine WL.val Wanted.none (Runs.move rfl) ?_
            refine WL.val Wanted.none (Runs.move rfl) ?_
            refine WL.val Wanted.none (Runs.conv Tryd.underlying5 ⟨_, Tryd.underlying42⟩ rfl rfl) ?_
            refine WL.val Wanted.none (Runs.move rfl) ?_
            refine WL.val Wanted.none (Runs.shr rfl rfl (by decide) rfl) ?_
            refine WL.val Wanted.none (Runs.conv Tryd.underlying5 ⟨_, Tryd.underlying42⟩ rfl rfl) ?_
            refine WL.val Wanted.none (Runs.move rfl) ?_
            refine WL.val Wanted.none (Runs.shr rfl rfl (by decide) rfl) ?_
            refine WL.val Wanted.none (Runs.conv Tryd.underlying5 ⟨_, Tryd.underlying42⟩ rfl rfl) ?_
            refine WL.val Wanted.none (Runs.move rfl) ?_
            refine WL.val Wanted.none (Runs.shr rfl rfl (by decide) rfl) ?_
            refine WL.val Wanted.none (Runs.conv Tryd.underlying5 ⟨_, Tryd.underlying42⟩ rfl rfl) ?_
            refine WL.buildSl [.int .u8 a3, .int .u8 (IntKind.u8.wrap a4), .int .u8 (IntKind.u8.wrap (shrI .u32 a4 8)), .int .u8 (IntKind.u8.wrap (shrI .u32 a4 16)), .int .u8 (IntKind.u8.wrap (shrI .u32 a4 24))] st_90' Tryd.underlying29 elem5 rfl rfl (by decide) (by decide) (by simp [Value.cells]) ?_
            intro B_92 w_93 st_94
            replace st_94 : St w w_93 [.sl (some ⟨B_92, 0, none⟩) 5 5 (iv .u8 [a3, IntKind.u8.wrap a4, IntKind.u8.wrap (shrI .u32 a4 8), IntKind.u8.wrap (shrI .u32 a4 16), IntKind.u8.wrap (shrI .u32 a4 24)]) 5 1, .sl A_86 c_87 n_88 (iv .u8 m_83) 5 1, .cells B_15 (iv .u8 r_13) 23] := st_94
            refine WL.val Wanted.none (Runs.move rfl) ?_
            obtain ⟨m_96, e_97, H⟩ := H
            obtain ⟨z_98, H⟩ := H
            obtain ⟨n_101, hn_104⟩ : ∃ n_ : Nat, n_ = m_96.length := ⟨_, rfl⟩
            refine WL.append (i := 0) Wanted.none st_94 rfl Tryd.underlying29 elem5 rfl rfl (hs5.ext st_94) (by rw [iv_length]; exact (hn5).symm) (one_iv .u8 _) (by decide) (N := n_101) (by rw [hn_104, e_97, List.length_append]; exact congr (congrArg HAdd.hAdd (rfl)) (hn5)) (by rw [hn_104]; exact z_98) ?_
            intro A_99 c_100 w_102 st_103
            have st_103' : St w w_102 [.sl A_99 c_100 n_101 (iv .u8 m_96) 5 1, .sl A_86 c_87 n_88 (iv .u8 m_83) 5 1, .cells B_15 (iv .u8 r_13) 23] := by rw [e_97, ← iv_append .u8 [a3, IntKind.u8.wrap a4, IntKind.u8.wrap (shrI .u32 a4 8), IntKind.u8.wrap (shrI .u32 a4 16), IntKind.u8.wrap (shrI .u32 a4 24)] l5]; exact st_103
            refine WL.val Wanted.none (Runs.assign rfl) ?_
            refine WL.nil ?_
            refine QW.then_n ?_
            refine CW.sub [(12, .bool false), (15, .slice A_86 n_88 c_87), (16, .slice A_99 n_101 c_100)] ⟨rfl, rfl, rfl, trivial⟩ ?_
            refine CW.seq ?_
            refine CW.region ?_
            refine WL.val Wanted.none (Runs.move rfl) ?_
            refine WL.val Wanted.none (Runs.bytes_str Tryd.underlying29 Tryd.underlying5 Tryd.underlying9 rfl (st_103'.src_sl (k := 1) rfl) hn_91) ?_
            refine WL.val Wanted.none (Runs.move rfl) ?_
            refine WL.val Wanted.none (Runs.bytes_str Tryd.underlying29 Tryd.underlying5 Tryd.underlying9 rfl (st_103'.src_sl (k := 0) rfl) hn_104) ?_
            refine WL.val Wanted.none (Runs.nes rfl rfl rfl) ?_
            refine WL.val Wanted.none (Runs.move rfl) ?_
            obtain ⟨c_105, H⟩ := H
            have h_106 : (!((strOfNums m_83).toList == (strOfNums m_96).toList)) = true := (not_t (beq_eq_false_iff_ne.mpr c_105))
            refine WL.on ?_ ?_; exact Wanted.guard (dj := 106) (by rfl) (evb (by rfl) h_106) (by rfl)
            refine WL.val Wanted.none (Runs.move rfl) ?_
            refine WL.on ?_ ?_; exact Wanted.guard (dj := 106) (by rfl) (evb (by rfl) h_106) (by rfl)
            obtain ⟨r_111, hr_107, H⟩ := H
            refine WL.call Wanted.none ent20 rfl (reliquaryref02_Of.calls w_102 m_83 A_86 n_88 c_87 (st_103'.src_sl (k := 1) rfl) (hn_91) (st_103'.cap (i := 1) rfl) r_111 hr_107) ?_
            rintro _ w_108 ⟨hl_112, rfl, sc_110⟩
            have st_109 : St w w_108 [.sl A_99 c_100 n_101 (iv .u8 m_96) 5 1, .sl A_86 c_87 n_88 (iv .u8 m_83) 5 1, .cells B_15 (iv .u8 r_13) 23] := st_103'.call sc_110
            refine ⟨_, rfl, ?_⟩
            refine WL.on ?_ ?_; exact Wanted.guard (dj := 106) (by rfl) (evb (by rfl) h_106) (by rfl)
            refine WL.val Wanted.none (Runs.move rfl) ?_
            refine WL.on ?_ ?_; exact Wanted.guard (dj := 106) (by rfl) (evb (by rfl) h_106) (by rfl)
            obtain ⟨r_117, hr_113, H⟩ := H
            refine WL.call Wanted.none ent20 rfl (reliquaryref02_Of.calls w_108 m_96 A_99 n_101 c_100 (st_109.src_sl (k := 0) rfl) (hn_104) (st_109.cap (i := 0) rfl) r_117 hr_113) ?_
            rintro _ w_114 ⟨hl_118, rfl, sc_116⟩
            have st_115 : St w w_114 [.sl A_99 c_100 n_101 (iv .u8 m_96) 5 1, .sl A_86 c_87 n_88 (iv .u8 m_83) 5 1, .cells B_15 (iv .u8 r_13) 23] := st_109.call sc_116
            refine ⟨_, rfl, ?_⟩
            refine WL.on ?_ ?_; exact Wanted.guard (dj := 106) (by rfl) (evb (by rfl) h_106) (by rfl)
            refine WL.val Wanted.none (Runs.eql_arr arr23 eqg23 rfl rfl hl_112 hl_118 rfl) ?_
            refine WL.val Wanted.none (Runs.pick_t (evb rfl h_106) rfl) ?_
            refine WL.val Wanted.none (Runs.assign rfl) ?_
            refine WL.nil ?_
            refine QW.then_n ?_
            refine CW.sub [(12, .bool (r_111 == r_117))] ⟨rfl, trivial⟩ ?_
            refine CW.ret ?_
            have hz : (r_111 == r_117) = true := (beq_iff_eq.mpr H)
            exact QW.ret1 rfl (evb rfl hz) ⟨rfl, st_115.ext⟩
        · have h_34 : (a0 == a3) = false := (beq_eq_false_iff_ne.mpr c_33)
          refine WL.off ?_ ?_; exact Wanted.guard (dj := 59) (by rfl) (evb (by rfl) h_34) (by rfl)
          refine WL.off ?_ ?_; exact Wanted.guard (dj := 59) (by rfl) (evb (by rfl) h_34) (by rfl)
          refine WL.off ?_ ?_; exact Wanted.guard (dj := 59) (by rfl) (evb (by rfl) h_34) (by rfl)
          refine WL.val Wanted.none (Runs.pick_f (evb rfl h_34) rfl) ?_
          refine WL.val Wanted.none (Runs.move rfl) ?_
          refine WL.off ?_ ?_; exact Wanted.guard (dj := 64) (by rfl) (by rfl) (by rfl)
          refine WL.off ?_ ?_; exact Wanted.guard (dj := 64) (by rfl) (by rfl) (by rfl)
          refine WL.off ?_ ?_; exact Wanted.guard (dj := 64) (by rfl) (by rfl) (by rfl)
          refine WL.off ?_ ?_; exact Wanted.guard (dj := 64) (by rfl) (by rfl) (by rfl)
          refine WL.off ?_ ?_; exact Wanted.guard (dj := 64) (by rfl) (by rfl) (by rfl)
          refine WL.val Wanted.none (Runs.pick_f rfl rfl) ?_
          refine WL.nil ?_
          refine QW.then_n ?_
          refine CW.sub [(0, .int .u8 a0), (1, .int .u32 a1), (2, .slice A2 n2 c2), (3, .int .u8 a3), (4, .int .u32 a4), (5, .slice A5 n5 c5), (12, .bool false), (70, .bool false)] ⟨rfl, rfl, rfl, rfl, rfl, rfl, rfl, rfl, trivial⟩ ?_
          refine CW.cf rfl rfl ?_
          refine CW.skip ?_
          refine QW.then_n ?_
          refine CW.seq ?_
          refine CW.region ?_
          refine WL.val Wanted.none (Runs.move rfl) ?_
          refine WL.val Wanted.none (Runs.move rfl) ?_
          refine WL.val Wanted.none (Runs.conv Tryd.underlying5 ⟨_, Tryd.underlying42⟩ rfl rfl) ?_
          refine WL.val Wanted.none (Runs.move rfl) ?_
          refine WL.val Wanted.none (Runs.shr rfl rfl (by decide) rfl) ?_
          refine WL.val Wanted.none (Runs.conv Tryd.underlying5 ⟨_, Tryd.underlying42⟩ rfl rfl) ?_
          refine WL.val Wanted.none (Runs.move rfl) ?_
          refine WL.val Wanted.none (Runs.shr rfl rfl (by decide) rfl) ?_
          refine WL.val Wanted.none (Runs.conv Tryd.underlying5 ⟨_, Tryd.underlying42⟩ rfl rfl) ?_
          refine WL.val Wanted.none (Runs.move rfl) ?_
          refine WL.val Wanted.none (Runs.shr rfl rfl (by decide) rfl) ?_
          refine WL.val Wanted.none (Runs.conv Tryd.underlying5 ⟨_, Tryd.underlying42⟩ rfl rfl) ?_
          refine WL.buildSl [.int .u8 a0, .int .u8 (IntKind.u8.wrap a1), .int .u8 (IntKind.u8.wrap (shrI .u32 a1 8)), .int .u8 (IntKind.u8.wrap (shrI .u32 a1 16)), .int .u8 (IntKind.u8.wrap (shrI .u32 a1 24))] st_24 Tryd.underlying29 elem5 rfl rfl (by decide) (by decide) (by simp [Value.cells]) ?_
          intro B_119 w_120 st_121
          replace st_121 : St w w_120 [.sl (some ⟨B_119, 0, none⟩) 5 5 (iv .u8 [a0, IntKind.u8.wrap a1, IntKind.u8.wrap (shrI .u32 a1 8), IntKind.u8.wrap (shrI .u32 a1 16), IntKind.u8.wrap (shrI .u32 a1 24)]) 5 1, .cells B_15 (iv .u8 r_13) 23] := st_121
          refine WL.val Wanted.none (Runs.move rfl) ?_
          obtain ⟨m_123, e_124, H⟩ := H
          obtain ⟨z_125, H⟩ := H
          obtain ⟨n_128, hn_131⟩ : ∃ n_ : Nat, n_ = m_123.length := ⟨_, rfl⟩
          refine WL.append (i := 0) Wanted.none st_121 rfl Tryd.underlying29 elem5 rfl rfl (hs2.ext st_121) (by rw [iv_length]; exact (hn2).symm) (one_iv .u8 _) (by decide) (N := n_128) (by rw [hn_131, e_124, List.length_append]; exact congr (congrArg HAdd.hAdd (rfl)) (hn2)) (by rw [hn_131]; exact z_125) ?_
          intro A_126 c_127 w_129 st_130
          have st_130' : St w w_129 [.sl A_126 c_127 n_128 (iv .u8 m_123) 5 1, .cells B_15 (iv .u8 r_13) 23] := by rw [e_124, ← iv_append .u8 [a0, IntKind.u8.wrap a1, IntKind.u8.wrap (shrI .u32 a1 8), IntKind.u8.wrap (shrI .u32 a1 16), IntKind.u8.wrap (shrI .u32 a1 24)] l2]; exact st_130
          refine WL.val Wanted.none (Runs.assign rfl) ?_
          refine WL.nil ?_
          refine QW.then_n ?_
          refine CW.sub [(3, .int .u8 a3), (4, .int .u32 a4), (5, .slice A5 n5 c5), (12, .bool false), (15, .slice A_126 n_128 c_127)] ⟨rfl, rfl, rfl, rfl, rfl, trivial⟩ ?_
          refine CW.seq ?_
          refine CW.region ?_
          refine WL.val Wanted.none (Runs.move rfl) ?_
          refine WL.val Wanted.none (Runs.move rfl) ?_
          refine WL.val Wanted.none (Runs.conv Tryd.underlying5 ⟨_, Tryd.underlying42⟩ rfl rfl) ?_
          refine WL.val Wanted.none (Runs.move rfl) ?_
          refine WL.val Wanted.none (Runs.shr rfl rfl (by decide) rfl) ?_
          refine WL.val Wanted.none (Runs.conv Tryd.underlying5 ⟨_, Tryd.underlying42⟩ rfl rfl) ?_
          refine WL.val Wanted.none (Runs.move rfl) ?_
          refine WL.val Wanted.none (Runs.shr rfl rfl (by decide) rfl) ?_
          refine WL.val Wanted.none (Runs.conv Tryd.underlying5 ⟨_, Tryd.underlying42⟩ rfl rfl) ?_
          refine WL.val Wanted.none (Runs.move rfl) ?_
          refine WL.val Wanted.none (Runs.shr rfl rfl (by decide) rfl) ?_
          refine WL.val Wanted.none (Runs.conv Tryd.underlying5 ⟨_, Tryd.underlying42⟩ rfl rfl) ?_
          refine WL.buildSl [.int .u8 a3, .int .u8 (IntKind.u8.wrap a4), .int .u8 (IntKind.u8.wrap (shrI .u32 a4 8)), .int .u8 (IntKind.u8.wrap (shrI .u32 a4 16)), .int .u8 (IntKind.u8.wrap (shrI .u32 a4 24))] st_130' Tryd.underlying29 elem5 rfl rfl (by decide) (by decide) (by simp [Value.cells]) ?_
          intro B_132 w_133 st_134
          replace st_134 : St w w_133 [.sl (some ⟨B_132, 0, none⟩) 5 5 (iv .u8 [a3, IntKind.u8.wrap a4, IntKind.u8.wrap (shrI .u32 a4 8), IntKind.u8.wrap (shrI .u32 a4 16), IntKind.u8.wrap (shrI .u32 a4 24)]) 5 1, .sl A_126 c_127 n_128 (iv .u8 m_123) 5 1, .cells B_15 (iv .u8 r_13) 23] := st_134
          refine WL.val Wanted.none (Runs.move rfl) ?_
          obtain ⟨m_136, e_137, H⟩ := H
          obtain ⟨z_138, H⟩ := H
          obtain ⟨n_141, hn_144⟩ : ∃ n_ : Nat, n_ = m_136.length := ⟨_, rfl⟩
          refine WL.append (i := 0) Wanted.none st_134 rfl Tryd.underlying29 elem5 rfl rfl (hs5.ext st_134) (by rw [iv_length]; exact (hn5).symm) (one_iv .u8 _) (by decide) (N := n_141) (by rw [hn_144, e_137, List.length_append]; exact congr (congrArg HAdd.hAdd (rfl)) (hn5)) (by rw [hn_144]; exact z_138) ?_
          intro A_139 c_140 w_142 st_143
          have st_143' : St w w_142 [.sl A_139 c_140 n_141 (iv .u8 m_136) 5 1, .sl A_126 c_127 n_128 (iv .u8 m_123) 5 1, .cells B_15 (iv .u8 r_13) 23] := by rw [e_137, ← iv_append .u8 [a3, IntKind.u8.wrap a4, IntKind.u8.wrap (shrI .u32 a4 8), IntKind.u8.wrap (shrI .u32 a4 16), IntKind.u8.wrap (shrI .u32 a4 24)] l5]; exact st_143
          refine WL.val Wanted.none (Runs.assign rfl) ?_
          refine WL.nil ?_
          refine QW.then_n ?_
          refine CW.sub [(12, .bool false), (15, .slice A_126 n_128 c_127), (16, .slice A_139 n_141 c_140)] ⟨rfl, rfl, rfl, trivial⟩ ?_
          refine CW.seq ?_
          refine CW.region ?_
          refine WL.val Wanted.none (Runs.move rfl) ?_
          refine WL.val Wanted.none (Runs.bytes_str Tryd.underlying29 Tryd.underlying5 Tryd.underlying9 rfl (st_143'.src_sl (k := 1) rfl) hn_131) ?_
          refine WL.val Wanted.none (Runs.move rfl) ?_
          refine WL.val Wanted.none (Runs.bytes_str Tryd.underlying29 Tryd.underlying5 Tryd.underlying9 rfl (st_143'.src_sl (k := 0) rfl) hn_144) ?_
          refine WL.val Wanted.none (Runs.nes rfl rfl rfl) ?_
          refine WL.val Wanted.none (Runs.move rfl) ?_
          obtain ⟨c_145, H⟩ := H
          have h_146 : (!((strOfNums m_123).toList == (strOfNums m_136).toList)) = true := (not_t (beq_eq_false_iff_ne.mpr c_145))
          refine WL.on ?_ ?_; exact Wanted.guard (dj := 106) (by rfl) (evb (by rfl) h_146) (by rfl)
          refine WL.val Wanted.none (Runs.move rfl) ?_
          refine WL.on ?_ ?_; exact Wanted.guard (dj := 106) (by rfl) (evb (by rfl) h_146) (by rfl)
          obtain ⟨r_151, hr_147, H⟩ := H
          refine WL.call Wanted.none ent20 rfl (reliquaryref02_Of.calls w_142 m_123 A_126 n_128 c_127 (st_143'.src_sl (k := 1) rfl) (hn_131) (st_143'.cap (i := 1) rfl) r_151 hr_147) ?_
          rintro _ w_148 ⟨hl_152, rfl, sc_150⟩
          have st_149 : St w w_148 [.sl A_139 c_140 n_141 (iv .u8 m_136) 5 1, .sl A_126 c_127 n_128 (iv .u8 m_123) 5 1, .cells B_15 (iv .u8 r_13) 23] := st_143'.call sc_150
          refine ⟨_, rfl, ?_⟩
          refine WL.on ?_ ?_; exact Wanted.guard (dj := 106) (by rfl) (evb (by rfl) h_146) (by rfl)
          refine WL.val Wanted.none (Runs.move rfl) ?_
          refine WL.on ?_ ?_; exact Wanted.guard (dj := 106) (by rfl) (evb (by rfl) h_146) (by rfl)
          obtain ⟨r_157, hr_153, H⟩ := H
          refine WL.call Wanted.none ent20 rfl (reliquaryref02_Of.calls w_148 m_136 A_139 n_141 c_140 (st_149.src_sl (k := 0) rfl) (hn_144) (st_149.cap (i := 0) rfl) r_157 hr_153) ?_
          rintro _ w_154 ⟨hl_158, rfl, sc_156⟩
          have st_155 : St w w_154 [.sl A_139 c_140 n_141 (iv .u8 m_136) 5 1, .sl A_126 c_127 n_128 (iv .u8 m_123) 5 1, .cells B_15 (iv .u8 r_13) 23] := st_149.call sc_156
          refine ⟨_, rfl, ?_⟩
          refine WL.on ?_ ?_; exact Wanted.guard (dj := 106) (by rfl) (evb (by rfl) h_146) (by rfl)
          refine WL.val Wanted.none (Runs.eql_arr arr23 eqg23 rfl rfl hl_152 hl_158 rfl) ?_
          refine WL.val Wanted.none (Runs.pick_t (evb rfl h_146) rfl) ?_
          refine WL.val Wanted.none (Runs.assign rfl) ?_
          refine WL.nil ?_
          refine QW.then_n ?_
          refine CW.sub [(12, .bool (r_151 == r_157))] ⟨rfl, trivial⟩ ?_
          refine CW.ret ?_
          have hz : (r_151 == r_157) = true := (beq_iff_eq.mpr H)
          exact QW.ret1 rfl (evb rfl hz) ⟨rfl, st_155.ext⟩

/-! ### reliquarylaw10_TreeFields: function 7 -/
def reliquarylaw10_TreeFields.rel (l0_0 : List Int) (a0_1 : Int) (l0_2 : List Int) (a0_3 : Int) (l0_4 : List Int) (a0_5 : Int) (l0_6 : List Int) (a0_7 : Int) (a1 : Int) (l2_0 : List Int) (a2_1 : Int)  : Prop := (reliquarylaw10_awake.rel  ∧ (((IntKind.i64.wrap (bits .and .u8 a1 3)) = 0 ∧ (∃ (r_26 : List Int), tree_Put.rel l0_0 a0_1 l0_2 a0_3 l0_4 a0_5 l0_6 a0_7 r_26 ∧ (∃ (r_36 : List Int), tree_Put.rel l2_0 a2_1 l0_2 a0_3 l0_4 a0_5 l0_6 a0_7 r_36 ∧ (¬ ((r_26.length : Int) ≠ 160) ∧ (¬ ((r_36.length : Int) ≠ 160) ∧ ((0 ≤ (0 : Int) ∧ (0 : Int) ≤ (IntKind.i64.wrap (40 * 0)) ∧ (IntKind.i64.wrap (40 * 0)) ≤ (r_26.length : Int)) ∧ ((0 ≤ (0 : Int) ∧ (0 : Int) ≤ (IntKind.i64.wrap (40 * 0)) ∧ (IntKind.i64.wrap (40 * 0)) ≤ (r_36.length : Int)) ∧ (¬ (¬ ((strOfNums (prt r_26 (0 : Int) (IntKind.i64.wrap (40 * 0)))).toList = (strOfNums (prt r_36 (0 : Int) (IntKind.i64.wrap (40 * 0)))).toList)) ∧ ((0 ≤ (IntKind.i64.wrap ((IntKind.i64.wrap (40 * 0)) + 40)) ∧ (IntKind.i64.wrap ((IntKind.i64.wrap (40 * 0)) + 40)) ≤ (r_26.length : Int) ∧ (r_26.length : Int) ≤ (r_26.length : Int)) ∧ ((0 ≤ (IntKind.i64.wrap ((IntKind.i64.wrap (40 * 0)) + 40)) ∧ (IntKind.i64.wrap ((IntKind.i64.wrap (40 * 0)) + 40)) ≤ (r_36.length : Int) ∧ (r_36.length : Int) ≤ (r_36.length : Int)) ∧ (¬ (¬ ((strOfNums (prt r_26 (IntKind.i64.wrap ((IntKind.i64.wrap (40 * 0)) + 40)) (r_26.length : Int))).toList = (strOfNums (prt r_36 (IntKind.i64.wrap ((IntKind.i64.wrap (40 * 0)) + 40)) (r_36.length : Int))).toList)) ∧ ((0 ≤ (IntKind.i64.wrap (40 * 0)) ∧ (IntKind.i64.wrap (40 * 0)) ≤ (IntKind.i64.wrap ((IntKind.i64.wrap (40 * 0)) + 32)) ∧ (IntKind.i64.wrap ((IntKind.i64.wrap (40 * 0)) + 32)) ≤ (r_26.length : Int)) ∧ ((0 ≤ (IntKind.i64.wrap (40 * 0)) ∧ (IntKind.i64.wrap (40 * 0)) ≤ (IntKind.i64.wrap ((IntKind.i64.wrap (40 * 0)) + 32)) ∧ (IntKind.i64.wrap ((IntKind.i64.wrap (40 * 0)) + 32)) ≤ (r_36.length : Int)) ∧ (((strOfNums (prt r_26 (IntKind.i64.wrap (40 * 0)) (IntKind.i64.wrap ((IntKind.i64.wrap (40 * 0)) + 32)))).toList == (strOfNums (prt r_36 (IntKind.i64.wrap (40 * 0)) (IntKind.i64.wrap ((IntKind.i64.wrap (40 * 0)) + 32)))).toList) = (l0_0 == l2_0) ∧ ((0 ≤ (IntKind.i64.wrap ((IntKind.i64.wrap (40 * 0)) + 32)) ∧ (IntKind.i64.wrap ((IntKind.i64.wrap (40 * 0)) + 32)) ≤ (IntKind.i64.wrap ((IntKind.i64.wrap (40 * 0)) + 40)) ∧ (IntKind.i64.wrap ((IntKind.i64.wrap (40 * 0)) + 40)) ≤ (r_26.length : Int)) ∧ ((0 ≤ (IntKind.i64.wrap ((IntKind.i64.wrap (40 * 0)) + 32)) ∧ (IntKind.i64.wrap ((IntKind.i64.wrap (40 * 0)) + 32)) ≤ (IntKind.i64.wrap ((IntKind.i64.wrap (40 * 0)) + 40)) ∧ (IntKind.i64.wrap ((IntKind.i64.wrap (40 * 0)) + 40)) ≤ (r_36.length : Int)) ∧ ((strOfNums (prt r_26 (IntKind.i64.wrap ((IntKind.i64.wrap (40 * 0)) + 32)) (IntKind.i64.wrap ((IntKind.i64.wrap (40 * 0)) + 40)))).toList == (strOfNums (prt r_36 (IntKind.i64.wrap ((IntKind.i64.wrap (40 * 0)) + 32)) (IntKind.i64.wrap ((IntKind.i64.wrap (40 * 0)) + 40)))).toList) = (a0_1 == a2_1))))))))))))))))) ∨ ((IntKind.i64.wrap (bits .and .u8 a1 3)) = 1 ∧ (∃ (r_166 : List Int), tree_Put.rel l0_0 a0_1 l0_2 a0_3 l0_4 a0_5 l0_6 a0_7 r_166 ∧ (∃ (r_176 : List Int), tree_Put.rel l0_0 a0_1 l2_0 a2_1 l0_4 a0_5 l0_6 a0_7 r_176 ∧ (¬ ((r_166.length : Int) ≠ 160) ∧ (¬ ((r_176.length : Int) ≠ 160) ∧ ((0 ≤ (0 : Int) ∧ (0 : Int) ≤ (IntKind.i64.wrap (40 * 1)) ∧ (IntKind.i64.wrap (40 * 1)) ≤ (r_166.length : Int)) ∧ ((0 ≤ (0 : Int) ∧ (0 : Int) ≤ (IntKind.i64.wrap (40 * 1)) ∧ (IntKind.i64.wrap (40 * 1)) ≤ (r_176.length : Int)) ∧ (¬ (¬ ((strOfNums (prt r_166 (0 : Int) (IntKind.i64.wrap (40 * 1)))).toList = (strOfNums (prt r_176 (0 : Int) (IntKind.i64.wrap (40 * 1)))).toList)) ∧ ((0 ≤ (IntKind.i64.wrap ((IntKind.i64.wrap (40 * 1)) + 40)) ∧ (IntKind.i64.wrap ((IntKind.i64.wrap (40 * 1)) + 40)) ≤ (r_166.length : Int) ∧ (r_166.length : Int) ≤ (r_166.length : Int)) ∧ ((0 ≤ (IntKind.i64.wrap ((IntKind.i64.wrap (40 * 1)) + 40)) ∧ (IntKind.i64.wrap ((IntKind.i64.wrap (40 * 1)) + 40)) ≤ (r_176.length : Int) ∧ (r_176.length : Int) ≤ (r_176.length : Int)) ∧ (¬ (¬ ((strOfNums (prt r_166 (IntKind.i64.wrap ((IntKind.i64.wrap (40 * 1)) + 40)) (r_166.length : Int))).toList = (strOfNums (prt r_176 (IntKind.i64.wrap ((IntKind.i64.wrap (40 * 1)) + 40)) (r_176.length : Int))).toList)) ∧ ((0 ≤ (IntKind.i64.wrap (40 * 1)) ∧ (IntKind.i64.wrap (40 * 1)) ≤ (IntKind.i64.wrap ((IntKind.i64.wrap (40 * 1)) + 32)) ∧ (IntKind.i64.wrap ((IntKind.i64.wrap (40 * 1)) + 32)) ≤ (r_166.length : Int)) ∧ ((0 ≤ (IntKind.i64.wrap (40 * 1)) ∧ (IntKind.i64.wrap (40 * 1)) ≤ (IntKind.i64.wrap ((IntKind.i64.wrap (40 * 1)) + 32)) ∧ (IntKind.i64.wrap ((IntKind.i64.wrap (40 * 1)) + 32)) ≤ (r_176.length : Int)) ∧ (((strOfNums (prt r_166 (IntKind.i64.wrap (40 * 1)) (IntKind.i64.wrap ((IntKind.i64.wrap (40 * 1)) + 32)))).toList == (strOfNums (prt r_176 (IntKind.i64.wrap (40 * 1)) (IntKind.i64.wrap ((IntKind.i64.wrap (40 * 1)) + 32)))).toList) = (l0_2 == l2_0) ∧ ((0 ≤ (IntKind.i64.wrap ((IntKind.i64.wrap (40 * 1)) + 32)) ∧ (IntKind.i64.wrap ((IntKind.i64.wrap (40 * 1)) + 32)) ≤ (IntKind.i64.wrap ((IntKind.i64.wrap (40 * 1)) + 40)) ∧ (IntKind.i64.wrap ((IntKind.i64.wrap (40 * 1)) + 40)) ≤ (r_166.length : Int)) ∧ ((0 ≤ (IntKind.i64.wrap ((IntKind.i64.wrap (40 * 1)) + 32)) ∧ (IntKind.i64.wrap ((IntKind.i64.wrap (40 * 1)) + 32)) ≤ (IntKind.i64.wrap ((IntKind.i64.wrap (40 * 1)) + 40)) ∧ (IntKind.i64.wrap ((IntKind.i64.wrap (40 * 1)) + 40)) ≤ (r_176.length : Int)) ∧ ((strOfNums (prt r_166 (IntKind.i64.wrap ((IntKind.i64.wrap (40 * 1)) + 32)) (IntKind.i64.wrap ((IntKind.i64.wrap (40 * 1)) + 40)))).toList == (strOfNums (prt r_176 (IntKind.i64.wrap ((IntKind.i64.wrap (40 * 1)) + 32)) (IntKind.i64.wrap ((IntKind.i64.wrap (40 * 1)) + 40)))).toList) = (a0_3 == a2_1))))))))))))))))) ∨ ((IntKind.i64.wrap (bits .and .u8 a1 3)) = 2 ∧ (∃ (r_306 : List Int), tree_Put.rel l0_0 a0_1 l0_2 a0_3 l0_4 a0_5 l0_6 a0_7 r_306 ∧ (∃ (r_316 : List Int), tree_Put.rel l0_0 a0_1 l0_2 a0_3 l2_0 a2_1 l0_6 a0_7 r_316 ∧ (¬ ((r_306.length : Int) ≠ 160) ∧ (¬ ((r_316.length : Int) ≠ 160) ∧ ((0 ≤ (0 : Int) ∧ (0 : Int) ≤ (IntKind.i64.wrap (40 * 2)) ∧ (IntKind.i64.wrap (40 * 2)) ≤ (r_306.length : Int)) ∧ ((0 ≤ (0 : Int) ∧ (0 : Int) ≤ (IntKind.i64.wrap (40 * 2)) ∧ (IntKind.i64.wrap (40 * 2)) ≤ (r_316.length : Int)) ∧ (¬ (¬ ((strOfNums (prt r_306 (0 : Int) (IntKind.i64.wrap (40 * 2)))).toList = (strOfNums (prt r_316 (0 : Int) (IntKind.i64.wrap (40 * 2)))).toList)) ∧ ((0 ≤ (IntKind.i64.wrap ((IntKind.i64.wrap (40 * 2)) + 40)) ∧ (IntKind.i64.wrap ((IntKind.i64.wrap (40 * 2)) + 40)) ≤ (r_306.length : Int) ∧ (r_306.length : Int) ≤ (r_306.length : Int)) ∧ ((0 ≤ (IntKind.i64.wrap ((IntKind.i64.wrap (40 * 2)) + 40)) ∧ (IntKind.i64.wrap ((IntKind.i64.wrap (40 * 2)) + 40)) ≤ (r_316.length : Int) ∧ (r_316.length : Int) ≤ (r_316.length : Int)) ∧ (¬ (¬ ((strOfNums (prt r_306 (IntKind.i64.wrap ((IntKind.i64.wrap (40 * 2)) + 40)) (r_306.length : Int))).toList = (strOfNums (prt r_316 (IntKind.i64.wrap ((IntKind.i64.wrap (40 * 2)) + 40)) (r_316.length : Int))).toList)) ∧ ((0 ≤ (IntKind.i64.wrap (40 * 2)) ∧ (IntKind.i64.wrap (40 * 2)) ≤ (IntKind.i64.wrap ((IntKind.i64.wrap (40 * 2)) + 32)) ∧ (IntKind.i64.wrap ((IntKind.i64.wrap (40 * 2)) + 32)) ≤ (r_306.length : Int)) ∧ ((0 ≤ (IntKind.i64.wrap (40 * 2)) ∧ (IntKind.i64.wrap (40 * 2)) ≤ (IntKind.i64.wrap ((IntKind.i64.wrap (40 * 2)) + 32)) ∧ (IntKind.i64.wrap ((IntKind.i64.wrap (40 * 2)) + 32)) ≤ (r_316.length : Int)) ∧ (((strOfNums (prt r_306 (IntKind.i64.wrap (40 * 2)) (IntKind.i64.wrap ((IntKind.i64.wrap (40 * 2)) + 32)))).toList == (strOfNums (prt r_316 (IntKind.i64.wrap (40 * 2)) (IntKind.i64.wrap ((IntKind.i64.wrap (40 * 2)) + 32)))).toList) = (l0_4 == l2_0) ∧ ((0 ≤ (IntKind.i64.wrap ((IntKind.i64.wrap (40 * 2)) + 32)) ∧ (IntKind.i64.wrap ((IntKind.i64.wrap (40 * 2)) + 32)) ≤ (IntKind.i64.wrap ((IntKind.i64.wrap (40 * 2)) + 40)) ∧ (IntKind.i64.wrap ((IntKind.i64.wrap (40 * 2)) + 40)) ≤ (r_306.length : Int)) ∧ ((0 ≤ (IntKind.i64.wrap ((IntKind.i64.wrap (40 * 2)) + 32)) ∧ (IntKind.i64.wrap ((IntKind.i64.wrap (40 * 2)) + 32)) ≤ (IntKind.i64.wrap ((IntKind.i64.wrap (40 * 2)) + 40)) ∧ (IntKind.i64.wrap ((IntKind.i64.wrap (40 * 2)) + 40)) ≤ (r_316.length : Int)) ∧ ((strOfNums (prt r_306 (IntKind.i64.wrap ((IntKind.i64.wrap (40 * 2)) + 32)) (IntKind.i64.wrap ((IntKind.i64.wrap (40 * 2)) + 40)))).toList == (strOfNums (prt r_316 (IntKind.i64.wrap ((IntKind.i64.wrap (40 * 2)) + 32)) (IntKind.i64.wrap ((IntKind.i64.wrap (40 * 2)) + 40)))).toList) = (a0_5 == a2_1))))))))))))))))) ∨ ((IntKind.i64.wrap (bits .and .u8 a1 3)) = 3 ∧ (∃ (r_446 : List Int), tree_Put.rel l0_0 a0_1 l0_2 a0_3 l0_4 a0_5 l0_6 a0_7 r_446 ∧ (∃ (r_456 : List Int), tree_Put.rel l0_0 a0_1 l0_2 a0_3 l0_4 a0_5 l2_0 a2_1 r_456 ∧ (¬ ((r_446.length : Int) ≠ 160) ∧ (¬ ((r_456.length : Int) ≠ 160) ∧ ((0 ≤ (0 : Int) ∧ (0 : Int) ≤ (IntKind.i64.wrap (40 * 3)) ∧ (IntKind.i64.wrap (40 * 3)) ≤ (r_446.length : Int)) ∧ ((0 ≤ (0 : Int) ∧ (0 : Int) ≤ (IntKind.i64.wrap (40 * 3)) ∧ (IntKind.i64.wrap (40 * 3)) ≤ (r_456.length : Int)) ∧ (¬ (¬ ((strOfNums (prt r_446 (0 : Int) (IntKind.i64.wrap (40 * 3)))).toList = (strOfNums (prt r_456 (0 : Int) (IntKind.i64.wrap (40 * 3)))).toList)) ∧ ((0 ≤ (IntKind.i64.wrap ((IntKind.i64.wrap (40 * 3)) + 40)) ∧ (IntKind.i64.wrap ((IntKind.i64.wrap (40 * 3)) + 40)) ≤ (r_446.length : Int) ∧ (r_446.length : Int) ≤ (r_446.length : Int)) ∧ ((0 ≤ (IntKind.i64.wrap ((IntKind.i64.wrap (40 * 3)) + 40)) ∧ (IntKind.i64.wrap ((IntKind.i64.wrap (40 * 3)) + 40)) ≤ (r_456.length : Int) ∧ (r_456.length : Int) ≤ (r_456.length : Int)) ∧ (¬ (¬ ((strOfNums (prt r_446 (IntKind.i64.wrap ((IntKind.i64.wrap (40 * 3)) + 40)) (r_446.length : Int))).toList = (strOfNums (prt r_456 (IntKind.i64.wrap ((IntKind.i64.wrap (40 * 3)) + 40)) (r_456.length : Int))).toList)) ∧ ((0 ≤ (IntKind.i64.wrap (40 * 3)) ∧ (IntKind.i64.wrap (40 * 3)) ≤ (IntKind.i64.wrap ((IntKind.i64.wrap (40 * 3)) + 32)) ∧ (IntKind.i64.wrap ((IntKind.i64.wrap (40 * 3)) + 32)) ≤ (r_446.length : Int)) ∧ ((0 ≤ (IntKind.i64.wrap (40 * 3)) ∧ (IntKind.i64.wrap (40 * 3)) ≤ (IntKind.i64.wrap ((IntKind.i64.wrap (40 * 3)) + 32)) ∧ (IntKind.i64.wrap ((IntKind.i64.wrap (40 * 3)) + 32)) ≤ (r_456.length : Int)) ∧ (((strOfNums (prt r_446 (IntKind.i64.wrap (40 * 3)) (IntKind.i64.wrap ((IntKind.i64.wrap (40 * 3)) + 32)))).toList == (strOfNums (prt r_456 (IntKind.i64.wrap (40 * 3)) (IntKind.i64.wrap ((IntKind.i64.wrap (40 * 3)) + 32)))).toList) = (l0_6 == l2_0) ∧ ((0 ≤ (IntKind.i64.wrap ((IntKind.i64.wrap (40 * 3)) + 32)) ∧ (IntKind.i64.wrap ((IntKind.i64.wrap (40 * 3)) + 32)) ≤ (IntKind.i64.wrap ((IntKind.i64.wrap (40 * 3)) + 40)) ∧ (IntKind.i64.wrap ((IntKind.i64.wrap (40 * 3)) + 40)) ≤ (r_446.length : Int)) ∧ ((0 ≤ (IntKind.i64.wrap ((IntKind.i64.wrap (40 * 3)) + 32)) ∧ (IntKind.i64.wrap ((IntKind.i64.wrap (40 * 3)) + 32)) ≤ (IntKind.i64.wrap ((IntKind.i64.wrap (40 * 3)) + 40)) ∧ (IntKind.i64.wrap ((IntKind.i64.wrap (40 * 3)) + 40)) ≤ (r_456.length : Int)) ∧ ((strOfNums (prt r_446 (IntKind.i64.wrap ((IntKind.i64.wrap (40 * 3)) + 32)) (IntKind.i64.wrap ((IntKind.i64.wrap (40 * 3)) + 40)))).toList == (strOfNums (prt r_456 (IntKind.i64.wrap ((IntKind.i64.wrap (40 * 3)) + 32)) (IntKind.i64.wrap ((IntKind.i64.wrap (40 * 3)) + 40)))).toList) = (a0_7 == a2_1)))))))))))))))))))
set_option maxHeartbeats 4000000 in
set_option maxRecDepth 100000 in
theorem reliquarylaw10_TreeFields.calls (w : World) (l0_0 : List Int) (a0_1 : Int) (l0_2 : List Int) (a0_3 : Int) (l0_4 : List Int) (a0_5 : Int) (l0_6 : List Int) (a0_7 : Int) (a1 : Int) (l2_0 : List Int) (a2_1 : Int)   (hG0 : Src w (some ⟨0, 0, none⟩) (iv .u32 tab0)) (hl0_0 : l0_0.length = 32) (hl0_2 : l0_2.length = 32) (hl0_4 : l0_4.length = 32) (hl0_6 : l0_6.length = 32) (hl2_0 : l2_0.length = 32)  (H : reliquarylaw10_TreeFields.rel l0_0 a0_1 l0_2 a0_3 l0_4 a0_5 l0_6 a0_7 a1 l2_0 a2_1 ) :
    Calls Tryd.prog 7 #[.agg (iv .u8 l0_0 ++ (([.int .u64 a0_1] : List Value) ++ (iv .u8 l0_2 ++ (([.int .u64 a0_3] : List Value) ++ (iv .u8 l0_4 ++ (([.int .u64 a0_5] : List Value) ++ (iv .u8 l0_6 ++ ([.int .u64 a0_7] : List Value)))))))).toArray, .int .u8 a1, .agg (iv .u8 l2_0 ++ ([.int .u64 a2_1] : List Value)).toArray] w fun e w' => e = .returned (.bool true) ∧ Below w.heap.size w w' := by
  refine CW.enter Tryd.func7 rfl (n := 116) rfl [.agg (iv .u8 l0_0 ++ (([.int .u64 a0_1] : List Value) ++ (iv .u8 l0_2 ++ (([.int .u64 a0_3] : List Value) ++ (iv .u8 l0_4 ++ (([.int .u64 a0_5] : List Value) ++ (iv .u8 l0_6 ++ ([.int .u64 a0_7] : List Value)))))))).toArray, .int .u8 a1, .agg (iv .u8 l2_0 ++ ([.int .u64 a2_1] : List Value)).toArray] (Nat.le_of_ble_eq_true rfl) ?_
  refine CW.sub [(0, .agg (iv .u8 l0_0 ++ (([.int .u64 a0_1] : List Value) ++ (iv .u8 l0_2 ++ (([.int .u64 a0_3] : List Value) ++ (iv .u8 l0_4 ++ (([.int .u64 a0_5] : List Value) ++ (iv .u8 l0_6 ++ ([.int .u64 a0_7] : List Value)))))))).toArray), (1, .int .u8 a1), (2, .agg (iv .u8 l2_0 ++ ([.int .u64 a2_1] : List Value)).toArray)] ⟨rfl, rfl, rfl, trivial⟩ ?_
  have st0 : St w w [] := St.refl w
  refine CW.seq ?_
  refine CW.region ?_
  refine WL.box st0 rfl rfl ?_
  intro B_1 w_2 st_3
  replace st_3 : St w w_2 [.cells B_1 (iv .u8 l0_0 ++ (([.int .u64 a0_1] : List Value) ++ (iv .u8 l0_2 ++ (([.int .u64 a0_3] : List Value) ++ (iv .u8 l0_4 ++ (([.int .u64 a0_5] : List Value) ++ (iv .u8 l0_6 ++ ([.int .u64 a0_7] : List Value)))))))) 28] := st_3
  refine WL.box st_3 rfl rfl ?_
  intro B_5 w_6 st_7
  replace st_7 : St w w_6 [.cells B_5 (iv .u8 l2_0 ++ ([.int .u64 a2_1] : List Value)) 26, .cells B_1 (iv .u8 l0_0 ++ (([.int .u64 a0_1] : List Value) ++ (iv .u8 l0_2 ++ (([.int .u64 a0_3] : List Value) ++ (iv .u8 l0_4 ++ (([.int .u64 a0_5] : List Value) ++ (iv .u8 l0_6 ++ ([.int .u64 a0_7] : List Value)))))))) 28] := st_7
  refine WL.val Wanted.none (Runs.assign rfl) ?_
  refine WL.nil ?_
  refine QW.then_n ?_
  refine CW.seq ?_
  refine CW.region ?_
  obtain ⟨hr_9, H⟩ := H
  refine WL.call Wanted.none ent8 rfl (reliquarylaw10_awake.calls w_6 (hG0.ext st_7) hr_9) ?_
  rintro _ w_10 ⟨rfl, sc_12⟩
  have st_11 : St w w_10 [.cells B_5 (iv .u8 l2_0 ++ ([.int .u64 a2_1] : List Value)) 26, .cells B_1 (iv .u8 l0_0 ++ (([.int .u64 a0_1] : List Value) ++ (iv .u8 l0_2 ++ (([.int .u64 a0_3] : List Value) ++ (iv .u8 l0_4 ++ (([.int .u64 a0_5] : List Value) ++ (iv .u8 l0_6 ++ ([.int .u64 a0_7] : List Value)))))))) 28] := st_7.below sc_12
  refine ⟨_, rfl, ?_⟩
  refine WL.val Wanted.none (Runs.assign rfl) ?_
  refine WL.nil ?_
  refine QW.then_n ?_
  refine CW.seq ?_
  refine CW.seq ?_
  refine CW.region ?_
  refine WL.val Wanted.none (Runs.move rfl) ?_
  refine WL.val Wanted.none (Runs.not rfl rfl) ?_
  refine WL.nil ?_
  refine QW.then_n ?_
  refine CW.cf rfl rfl ?_
  refine CW.skip ?_
  refine QW.then_n ?_
  refine CW.sub [(1, .int .u8 a1), (3, .pointer (some ⟨B_1, 0, none⟩)), (5, .pointer (some ⟨B_5, 0, none⟩)), (6, .bool false)] ⟨rfl, rfl, rfl, rfl, trivial⟩ ?_
  refine CW.seq ?_
  refine CW.region ?_
  refine WL.val Wanted.none (Runs.move rfl) ?_
  refine WL.val Wanted.none (Runs.band rfl rfl rfl) ?_
  refine WL.val Wanted.none (Runs.conv Tryd.underlying3 ⟨_, Tryd.underlying5⟩ rfl rfl) ?_
  refine WL.val Wanted.none (Runs.assign rfl) ?_
  refine WL.nil ?_
  refine QW.then_n ?_
  refine CW.seq ?_
  refine CW.region ?_
  refine WL.val Wanted.none (Runs.load_mid row28 rfl st_11 (i := 1) rfl (part_mid (pre := (([] : List Value))) (mid := (iv .u8 l0_0 ++ (([.int .u64 a0_1] : List Value) ++ (iv .u8 l0_2 ++ (([.int .u64 a0_3] : List Value) ++ (iv .u8 l0_4 ++ (([.int .u64 a0_5] : List Value) ++ (iv .u8 l0_6 ++ ([.int .u64 a0_7] : List Value))))))))) (post := (([] : List Value))) (by first | rfl | simp only [List.append_assoc, List.append_nil, List.nil_append, List.cons_append]) (by first | rfl | simp only [List.length_append, List.length_cons, List.length_nil, iv_length]) (by first | rfl | simp only [List.length_append, List.length_cons, List.length_nil, iv_length, hl0_0, hl0_2, hl0_4, hl0_6])) (by first | rfl | simp only [List.length_append, List.length_cons, List.length_nil, iv_length, hl0_0, hl0_2, hl0_4, hl0_6])) ?_
  refine WL.alloc st_11 zero28 ?_
  intro B_13 w_14 st_15
  replace st_15 : St w w_14 [.cells B_13 (iv .u8 (List.replicate 32 (0 : Int)) ++ (([.int .u64 0] : List Value) ++ (iv .u8 (List.replicate 32 (0 : Int)) ++ (([.int .u64 0] : List Value) ++ (iv .u8 (List.replicate 32 (0 : Int)) ++ (([.int .u64 0] : List Value) ++ (iv .u8 (List.replicate 32 (0 : Int)) ++ ([.int .u64 0] : List Value)))))))) 28, .cells B_5 (iv .u8 l2_0 ++ ([.int .u64 a2_1] : List Value)) 26, .cells B_1 (iv .u8 l0_0 ++ (([.int .u64 a0_1] : List Value) ++ (iv .u8 l0_2 ++ (([.int .u64 a0_3] : List Value) ++ (iv .u8 l0_4 ++ (([.int .u64 a0_5] : List Value) ++ (iv .u8 l0_6 ++ ([.int .u64 a0_7] : List Value)))))))) 28] := st_15
  refine WL.store_mid (i := 0) (pre := (([] : List Value))) (mid := (iv .u8 (List.replicate 32 (0 : Int)) ++ (([.int .u64 0] : List Value) ++ (iv .u8 (List.replicate 32 (0 : Int)) ++ (([.int .u64 0] : List Value) ++ (iv .u8 (List.replicate 32 (0 : Int)) ++ (([.int .u64 0] : List Value) ++ (iv .u8 (List.replicate 32 (0 : Int)) ++ ([.int .u64 0] : List Value))))))))) (post := (([] : List Value))) (ms := (iv .u8 l0_0 ++ (([.int .u64 a0_1] : List Value) ++ (iv .u8 l0_2 ++ (([.int .u64 a0_3] : List Value) ++ (iv .u8 l0_4 ++ (([.int .u64 a0_5] : List Value) ++ (iv .u8 l0_6 ++ ([.int .u64 a0_7] : List Value))))))))) st_15 rfl row28 (by first | rfl | simp only [List.append_assoc, List.append_nil, List.nil_append, List.cons_append]) (by first | rfl | simp only [List.length_append, List.length_cons, List.length_nil, iv_length]) rfl rfl (by first | rfl | simp only [List.length_append, List.length_cons, List.length_nil, iv_length, hl0_0, hl0_2, hl0_4, hl0_6]) (by first | rfl | simp only [List.length_append, List.length_cons, List.length_nil, iv_length, List.length_replicate]) (by intro u hu; simp only [List.mem_append, List.mem_singleton] at hu; rcases hu with hu | hu | hu | hu | hu | hu | hu | hu <;> first | exact one_iv _ _ u hu | (subst hu; rfl)) ?_
  intro w_17 st_18
  replace st_18 : St w w_17 [.cells B_13 (iv .u8 l0_0 ++ (([.int .u64 a0_1] : List Value) ++ (iv .u8 l0_2 ++ (([.int .u64 a0_3] : List Value) ++ (iv .u8 l0_4 ++ (([.int .u64 a0_5] : List Value) ++ (iv .u8 l0_6 ++ ([.int .u64 a0_7] : List Value)))))))) 28, .cells B_5 (iv .u8 l2_0 ++ ([.int .u64 a2_1] : List Value)) 26, .cells B_1 (iv .u8 l0_0 ++ (([.int .u64 a0_1] : List Value) ++ (iv .u8 l0_2 ++ (([.int .u64 a0_3] : List Value) ++ (iv .u8 l0_4 ++ (([.int .u64 a0_5] : List Value) ++ (iv .u8 l0_6 ++ ([.int .u64 a0_7] : List Value)))))))) 28] := by have e_ : (iv .u8 l0_0 ++ (([.int .u64 a0_1] : List Value) ++ (iv .u8 l0_2 ++ (([.int .u64 a0_3] : List Value) ++ (iv .u8 l0_4 ++ (([.int .u64 a0_5] : List Value) ++ (iv .u8 l0_6 ++ ([.int .u64 a0_7] : List Value)))))))) = (([] : List Value)) ++ ((iv .u8 l0_0 ++ (([.int .u64 a0_1] : List Value) ++ (iv .u8 l0_2 ++ (([.int .u64 a0_3] : List Value) ++ (iv .u8 l0_4 ++ (([.int .u64 a0_5] : List Value) ++ (iv .u8 l0_6 ++ ([.int .u64 a0_7] : List Value)))))))) ++ (([] : List Value))) := (by first | rfl | simp only [List.append_assoc, List.append_nil, List.nil_append, List.cons_append]); have h_ : St w w_17 [.cells B_13 ((([] : List Value)) ++ ((iv .u8 l0_0 ++ (([.int .u64 a0_1] : List Value) ++ (iv .u8 l0_2 ++ (([.int .u64 a0_3] : List Value) ++ (iv .u8 l0_4 ++ (([.int .u64 a0_5] : List Value) ++ (iv .u8 l0_6 ++ ([.int .u64 a0_7] : List Value)))))))) ++ (([] : List Value)))) 28, .cells B_5 (iv .u8 l2_0 ++ ([.int .u64 a2_1] : List Value)) 26, .cells B_1 (iv .u8 l0_0 ++ (([.int .u64 a0_1] : List Value) ++ (iv .u8 l0_2 ++ (([.int .u64 a0_3] : List Value) ++ (iv .u8 l0_4 ++ (([.int .u64 a0_5] : List Value) ++ (iv .u8 l0_6 ++ ([.int .u64 a0_7] : List Value)))))))) 28] := st_18; rw [← e_] at h_; exact h_
  refine WL.nil ?_
  refine QW.then_n ?_
  refine CW.seq ?_
  refine CW.region ?_
  refine WL.val Wanted.none (Runs.move rfl) ?_
  refine WL.val Wanted.none (Runs.load_mid row26 rfl st_18 (i := 1) rfl (part_mid (pre := (([] : List Value))) (mid := (iv .u8 l2_0 ++ ([.int .u64 a2_1] : List Value))) (post := (([] : List Value))) (by first | rfl | simp only [List.append_assoc, List.append_nil, List.nil_append, List.cons_append]) (by first | rfl | simp only [List.length_append, List.length_cons, List.length_nil, iv_length]) (by first | rfl | simp only [List.length_append, List.length_cons, List.length_nil, iv_length, hl2_0])) (by first | rfl | simp only [List.length_append, List.length_cons, List.length_nil, iv_length, hl2_0])) ?_
  rcases H with ⟨c_19, H⟩ | ⟨c_19, H⟩ | ⟨c_19, H⟩ | ⟨c_19, H⟩
  · rw [c_19]
    refine WL.val Wanted.none (Runs.indexAddr_row (p := 0) Tryd.underlying28 siz26 rfl rfl (by decide) (by decide) rfl) ?_
    refine WL.store_mid (i := 0) (pre := (([] : List Value))) (mid := (iv .u8 l0_0 ++ ([.int .u64 a0_1] : List Value))) (post := (iv .u8 l0_2 ++ (([.int .u64 a0_3] : List Value) ++ (iv .u8 l0_4 ++ (([.int .u64 a0_5] : List Value) ++ (iv .u8 l0_6 ++ ([.int .u64 a0_7] : List Value))))))) (ms := (iv .u8 l2_0 ++ ([.int .u64 a2_1] : List Value))) st_18 rfl row26 (by first | rfl | simp only [List.append_assoc, List.append_nil, List.nil_append, List.cons_append]) (by first | rfl | simp only [List.length_append, List.length_cons, List.length_nil, iv_length]) rfl rfl (by first | rfl | simp only [List.length_append, List.length_cons, List.length_nil, iv_length, hl2_0]) (by first | rfl | simp only [List.length_append, List.length_cons, List.length_nil, iv_length, hl0_0]) (by intro u hu; simp only [List.mem_append, List.mem_singleton] at hu; rcases hu with hu | hu <;> first | exact one_iv _ _ u hu | (subst hu; rfl)) ?_
    intro w_20 st_21
    replace st_21 : St w w_20 [.cells B_13 (iv .u8 l2_0 ++ (([.int .u64 a2_1] : List Value) ++ (iv .u8 l0_2 ++ (([.int .u64 a0_3] : List Value) ++ (iv .u8 l0_4 ++ (([.int .u64 a0_5] : List Value) ++ (iv .u8 l0_6 ++ ([.int .u64 a0_7] : List Value)))))))) 28, .cells B_5 (iv .u8 l2_0 ++ ([.int .u64 a2_1] : List Value)) 26, .cells B_1 (iv .u8 l0_0 ++ (([.int .u64 a0_1] : List Value) ++ (iv .u8 l0_2 ++ (([.int .u64 a0_3] : List Value) ++ (iv .u8 l0_4 ++ (([.int .u64 a0_5] : List Value) ++ (iv .u8 l0_6 ++ ([.int .u64 a0_7] : List Value)))))))) 28] := by have e_ : (iv .u8 l2_0 ++ (([.int .u64 a2_1] : List Value) ++ (iv .u8 l0_2 ++ (([.int .u64 a0_3] : List Value) ++ (iv .u8 l0_4 ++ (([.int .u64 a0_5] : List Value) ++ (iv .u8 l0_6 ++ ([.int .u64 a0_7] : List Value)))))))) = (([] : List Value)) ++ ((iv .u8 l2_0 ++ ([.int .u64 a2_1] : List Value)) ++ (iv .u8 l0_2 ++ (([.int .u64 a0_3] : List Value) ++ (iv .u8 l0_4 ++ (([.int .u64 a0_5] : List Value) ++ (iv .u8 l0_6 ++ ([.int .u64 a0_7] : List Value))))))) := (by first | rfl | simp only [List.append_assoc, List.append_nil, List.nil_append, List.cons_append]); have h_ : St w w_20 [.cells B_13 ((([] : List Value)) ++ ((iv .u8 l2_0 ++ ([.int .u64 a2_1] : List Value)) ++ (iv .u8 l0_2 ++ (([.int .u64 a0_3] : List Value) ++ (iv .u8 l0_4 ++ (([.int .u64 a0_5] : List Value) ++ (iv .u8 l0_6 ++ ([.int .u64 a0_7] : List Value)))))))) 28, .cells B_5 (iv .u8 l2_0 ++ ([.int .u64 a2_1] : List Value)) 26, .cells B_1 (iv .u8 l0_0 ++ (([.int .u64 a0_1] : List Value) ++ (iv .u8 l0_2 ++ (([.int .u64 a0_3] : List Value) ++ (iv .u8 l0_4 ++ (([.int .u64 a0_5] : List Value) ++ (iv .u8 l0_6 ++ ([.int .u64 a0_7] : List Value)))))))) 28] := st_21; rw [← e_] at h_; exact h_
    refine WL.nil ?_
    refine QW.then_n ?_
    refine CW.sub [(3, .pointer (some ⟨B_1, 0, none⟩)), (5, .pointer (some ⟨B_5, 0, none⟩)), (6, .bool false), (8, .int .i64 0), (9, .pointer (some ⟨B_13, 0, none⟩))] ⟨rfl, rfl, rfl, rfl, rfl, trivial⟩ ?_
    refine CW.seq ?_
    refine CW.region ?_
    refine WL.val Wanted.none (Runs.load_mid row28 rfl st_21 (i := 2) rfl (part_mid (pre := (([] : List Value))) (mid := (iv .u8 l0_0 ++ (([.int .u64 a0_1] : List Value) ++ (iv .u8 l0_2 ++ (([.int .u64 a0_3] : List Value) ++ (iv .u8 l0_4 ++ (([.int .u64 a0_5] : List Value) ++ (iv .u8 l0_6 ++ ([.int .u64 a0_7] : List Value))))))))) (post := (([] : List Value))) (by first | rfl | simp only [List.append_assoc, List.append_nil, List.nil_append, List.cons_append]) (by first | rfl | simp only [List.length_append, List.length_cons, List.length_nil, iv_length]) (by first | rfl | simp only [List.length_append, List.length_cons, List.length_nil, iv_length, hl0_0, hl0_2, hl0_4, hl0_6])) (by first | rfl | simp only [List.length_append, List.length_cons, List.length_nil, iv_length, hl0_0, hl0_2, hl0_4, hl0_6])) ?_
    obtain ⟨r_26, hr_22, H⟩ := H
    refine WL.call Wanted.none ent9 rfl (tree_Put.calls w_20 l0_0 a0_1 l0_2 a0_3 l0_4 a0_5 l0_6 a0_7 hl0_0 hl0_2 hl0_4 hl0_6 r_26 hr_22) ?_
    rintro _ w_23 ⟨A_27, c_28, n_29, hn_30, rfl, sc_25⟩
    have st_24 : St w w_23 [.sl A_27 c_28 n_29 (iv .u8 r_26) 5 1, .cells B_13 (iv .u8 l2_0 ++ (([.int .u64 a2_1] : List Value) ++ (iv .u8 l0_2 ++ (([.int .u64 a0_3] : List Value) ++ (iv .u8 l0_4 ++ (([.int .u64 a0_5] : List Value) ++ (iv .u8 l0_6 ++ ([.int .u64 a0_7] : List Value)))))))) 28, .cells B_5 (iv .u8 l2_0 ++ ([.int .u64 a2_1] : List Value)) 26, .cells B_1 (iv .u8 l0_0 ++ (([.int .u64 a0_1] : List Value) ++ (iv .u8 l0_2 ++ (([.int .u64 a0_3] : List Value) ++ (iv .u8 l0_4 ++ (([.int .u64 a0_5] : List Value) ++ (iv .u8 l0_6 ++ ([.int .u64 a0_7] : List Value)))))))) 28] := st_21.call sc_25
    refine ⟨_, rfl, ?_⟩
    refine WL.val Wanted.none (Runs.assign rfl) ?_
    refine WL.nil ?_
    refine QW.then_n ?_
    refine CW.seq ?_
    refine CW.region ?_
    refine WL.val Wanted.none (Runs.load_mid row28 rfl st_24 (i := 1) rfl (part_mid (pre := (([] : List Value))) (mid := (iv .u8 l2_0 ++ (([.int .u64 a2_1] : List Value) ++ (iv .u8 l0_2 ++ (([.int .u64 a0_3] : List Value) ++ (iv .u8 l0_4 ++ (([.int .u64 a0_5] : List Value) ++ (iv .u8 l0_6 ++ ([.int .u64 a0_7] : List Value))))))))) (post := (([] : List Value))) (by first | rfl | simp only [List.append_assoc, List.append_nil, List.nil_append, List.cons_append]) (by first | rfl | simp only [List.length_append, List.length_cons, List.length_nil, iv_length]) (by first | rfl | simp only [List.length_append, List.length_cons, List.length_nil, iv_length, hl2_0, hl0_2, hl0_4, hl0_6])) (by first | rfl | simp only [List.length_append, List.length_cons, List.length_nil, iv_length, hl2_0, hl0_2, hl0_4, hl0_6])) ?_
    obtain ⟨r_36, hr_32, H⟩ := H
    refine WL.call Wanted.none ent9 rfl (tree_Put.calls w_23 l2_0 a2_1 l0_2 a0_3 l0_4 a0_5 l0_6 a0_7 hl2_0 hl0_2 hl0_4 hl0_6 r_36 hr_32) ?_
    rintro _ w_33 ⟨A_37, c_38, n_39, hn_40, rfl, sc_35⟩
    have st_34 : St w w_33 [.sl A_37 c_38 n_39 (iv .u8 r_36) 5 1, .sl A_27 c_28 n_29 (iv .u8 r_26) 5 1, .cells B_13 (iv .u8 l2_0 ++ (([.int .u64 a2_1] : List Value) ++ (iv .u8 l0_2 ++ (([.int .u64 a0_3] : List Value) ++ (iv .u8 l0_4 ++ (([.int .u64 a0_5] : List Value) ++ (iv .u8 l0_6 ++ ([.int .u64 a0_7] : List Value)))))))) 28, .cells B_5 (iv .u8 l2_0 ++ ([.int .u64 a2_1] : List Value)) 26, .cells B_1 (iv .u8 l0_0 ++ (([.int .u64 a0_1] : List Value) ++ (iv .u8 l0_2 ++ (([.int .u64 a0_3] : List Value) ++ (iv .u8 l0_4 ++ (([.int .u64 a0_5] : List Value) ++ (iv .u8 l0_6 ++ ([.int .u64 a0_7] : List Value)))))))) 28] := st_24.call sc_35
    refine ⟨_, rfl, ?_⟩
    refine WL.val Wanted.none (Runs.assign rfl) ?_
    refine WL.nil ?_
    refine QW.then_n ?_
    refine CW.seq ?_
    refine CW.seq ?_
    refine CW.region_qa wide (by kernel_rfl) st_34 ?_
    refine HL.val Wanted.none (fun wq sq => (Runs.move rfl)) ?_
    refine HL.val Wanted.none (fun wq sq => (Runs.len_sl Tryd.underlying29 rfl (by rw [hn_30]))) ?_
    refine HL.val Wanted.none (fun wq sq => (Runs.neq rfl rfl rfl)) ?_
    refine HL.val Wanted.none (fun wq sq => (Runs.move rfl)) ?_
    obtain ⟨c_42, H⟩ := H
    have h_43 : ((r_26.length : Int) != 160) = false := (bne_eq_false_iff_eq.mpr (Decidable.not_not.mp c_42))
    refine HL.on ?_ ?_; exact Wanted.guard (dj := 29) (by rfl) (evb (by rfl) h_43) (by rfl)
    refine HL.val Wanted.none (fun wq sq => (Runs.move rfl)) ?_
    refine HL.on ?_ ?_; exact Wanted.guard (dj := 29) (by rfl) (evb (by rfl) h_43) (by rfl)
    refine HL.val Wanted.none (fun wq sq => (Runs.len_sl Tryd.underlying29 rfl (by rw [hn_40]))) ?_
    refine HL.on ?_ ?_; exact Wanted.guard (dj := 29) (by rfl) (evb (by rfl) h_43) (by rfl)
    refine HL.val Wanted.none (fun wq sq => (Runs.neq rfl rfl rfl)) ?_
    refine HL.val Wanted.none (fun wq sq => (Runs.pick_f (evb rfl h_43) rfl)) ?_
    refine HL.val Wanted.none (fun wq sq => (Runs.move rfl)) ?_
    obtain ⟨c_46, H⟩ := H
    have h_47 : ((r_36.length : Int) != 160) = false := (bne_eq_false_iff_eq.mpr (Decidable.not_not.mp c_46))
    refine HL.on ?_ ?_; exact Wanted.guard (dj := 34) (by rfl) (evb (by rfl) h_47) (by rfl)
    refine HL.val Wanted.none (fun wq sq => (Runs.move rfl)) ?_
    refine HL.on ?_ ?_; exact Wanted.guard (dj := 34) (by rfl) (evb (by rfl) h_47) (by rfl)
    refine HL.val Wanted.none (fun wq sq => (Runs.move rfl)) ?_
    refine HL.on ?_ ?_; exact Wanted.guard (dj := 34) (by rfl) (evb (by rfl) h_47) (by rfl)
    refine HL.val Wanted.none (fun wq sq => (Runs.mul rfl rfl rfl)) ?_
    refine HL.on ?_ ?_; exact Wanted.guard (dj := 34) (by rfl) (evb (by rfl) h_47) (by rfl)
    obtain ⟨⟨p_50, q_51, r_52⟩, H⟩ := H
    have h_59 : n_29 ≤ c_28 := st_34.cap (i := 1) rfl
    have h_60 : (IntKind.i64.wrap (40 * 0)) ≤ (c_28 : Int) := by have := hn_30; omega
    obtain ⟨A_53, e_56⟩ : ∃ B_, B_ = subA A_27 ((0 : Int)).toNat c_28 := ⟨_, rfl⟩
    obtain ⟨n_55, e_58⟩ : ∃ n_ : Nat, n_ = (prt r_26 (0 : Int) (IntKind.i64.wrap (40 * 0))).length := ⟨_, rfl⟩
    have h_61 : n_55 ≤ c_28 := by rw [e_58, prt_length p_50 q_51 r_52]; omega
    refine HL.val Wanted.none (fun wq sq => (Runs.slice_h Tryd.underlying29 cells5 rfl rfl q_51 h_60 e_56 (N := n_55) (by rw [e_58, prt_length p_50 q_51 r_52]; rfl))) ?_
    refine HL.on ?_ ?_; exact Wanted.guard (dj := 34) (by rfl) (evb (by rfl) h_47) (by rfl)
    refine HL.val Wanted.none (fun wq sq => (Runs.bytes_str Tryd.underlying29 Tryd.underlying5 Tryd.underlying9 rfl ((sq.src_sl (k := 1) rfl).sub_iv p_50 q_51 h_60 e_56) e_58)) ?_
    refine HL.on ?_ ?_; exact Wanted.guard (dj := 34) (by rfl) (evb (by rfl) h_47) (by rfl)
    refine HL.val Wanted.none (fun wq sq => (Runs.move rfl)) ?_
    refine HL.on ?_ ?_; exact Wanted.guard (dj := 34) (by rfl) (evb (by rfl) h_47) (by rfl)
    refine HL.val Wanted.none (fun wq sq => (Runs.move rfl)) ?_
    refine HL.on ?_ ?_; exact Wanted.guard (dj := 34) (by rfl) (evb (by rfl) h_47) (by rfl)
    refine HL.val Wanted.none (fun wq sq => (Runs.mul rfl rfl rfl)) ?_
    refine HL.on ?_ ?_; exact Wanted.guard (dj := 34) (by rfl) (evb (by rfl) h_47) (by rfl)
    obtain ⟨⟨p_62, q_63, r_64⟩, H⟩ := H
    have h_71 : n_39 ≤ c_38 := st_34.cap (i := 0) rfl
    have h_72 : (IntKind.i64.wrap (40 * 0)) ≤ (c_38 : Int) := by have := hn_40; omega
    obtain ⟨A_65, e_68⟩ : ∃ B_, B_ = subA A_37 ((0 : Int)).toNat c_38 := ⟨_, rfl⟩
    obtain ⟨n_67, e_70⟩ : ∃ n_ : Nat, n_ = (prt r_36 (0 : Int) (IntKind.i64.wrap (40 * 0))).length := ⟨_, rfl⟩
    have h_73 : n_67 ≤ c_38 := by rw [e_70, prt_length p_62 q_63 r_64]; omega
    refine HL.val Wanted.none (fun wq sq => (Runs.slice_h Tryd.underlying29 cells5 rfl rfl q_63 h_72 e_68 (N := n_67) (by rw [e_70, prt_length p_62 q_63 r_64]; rfl))) ?_
    refine HL.on ?_ ?_; exact Wanted.guard (dj := 34) (by rfl) (evb (by rfl) h_47) (by rfl)
    refine HL.val Wanted.none (fun wq sq => (Runs.bytes_str Tryd.underlying29 Tryd.underlying5 Tryd.underlying9 rfl ((sq.src_sl (k := 0) rfl).sub_iv p_62 q_63 h_72 e_68) e_70)) ?_
    refine HL.on ?_ ?_; exact Wanted.guard (dj := 34) (by rfl) (evb (by rfl) h_47) (by rfl)
    refine HL.val Wanted.none (fun wq sq => (Runs.nes rfl rfl rfl)) ?_
    refine HL.val Wanted.none (fun wq sq => (Runs.pick_f (evb rfl h_47) rfl)) ?_
    refine HL.val Wanted.none (fun wq sq => (Runs.move rfl)) ?_
    obtain ⟨c_74, H⟩ := H
    have h_75 : (!((strOfNums (prt r_26 (0 : Int) (IntKind.i64.wrap (40 * 0)))).toList == (strOfNums (prt r_36 (0 : Int) (IntKind.i64.wrap (40 * 0)))).toList)) = false := (not_f (beq_iff_eq.mpr (Decidable.not_not.mp c_74)))
    refine HL.on ?_ ?_; exact Wanted.guard (dj := 47) (by rfl) (evb (by rfl) h_75) (by rfl)
    refine HL.val Wanted.none (fun wq sq => (Runs.move rfl)) ?_
    refine HL.on ?_ ?_; exact Wanted.guard (dj := 47) (by rfl) (evb (by rfl) h_75) (by rfl)
    refine HL.val Wanted.none (fun wq sq => (Runs.move rfl)) ?_
    refine HL.on ?_ ?_; exact Wanted.guard (dj := 47) (by rfl) (evb (by rfl) h_75) (by rfl)
    refine HL.val Wanted.none (fun wq sq => (Runs.mul rfl rfl rfl)) ?_
    refine HL.on ?_ ?_; exact Wanted.guard (dj := 47) (by rfl) (evb (by rfl) h_75) (by rfl)
    refine HL.val Wanted.none (fun wq sq => (Runs.add rfl rfl rfl)) ?_
    refine HL.on ?_ ?_; exact Wanted.guard (dj := 47) (by rfl) (evb (by rfl) h_75) (by rfl)
    obtain ⟨⟨p_78, q_79, r_80⟩, H⟩ := H
    have h_87 : n_29 ≤ c_28 := st_34.cap (i := 1) rfl
    have h_88 : (r_26.length : Int) ≤ (c_28 : Int) := by have := hn_30; omega
    obtain ⟨A_81, e_84⟩ : ∃ B_, B_ = subA A_27 (IntKind.i64.wrap ((IntKind.i64.wrap (40 * 0)) + 40)).toNat c_28 := ⟨_, rfl⟩
    obtain ⟨n_83, e_86⟩ : ∃ n_ : Nat, n_ = (prt r_26 (IntKind.i64.wrap ((IntKind.i64.wrap (40 * 0)) + 40)) (r_26.length : Int)).length := ⟨_, rfl⟩
    obtain ⟨c_82, e_85⟩ : ∃ c_ : Nat, c_ = c_28 - (IntKind.i64.wrap ((IntKind.i64.wrap (40 * 0)) + 40)).toNat := ⟨_, rfl⟩
    have h_89 : n_83 ≤ c_82 := by rw [e_86, prt_length p_78 q_79 r_80]; rw [e_85]; omega
    refine HL.val Wanted.none (fun wq sq => (Runs.slice_l Tryd.underlying29 cells5 rfl rfl p_78 (by have := hn_30; omega) e_84 (N := n_83) (by rw [e_86, prt_length p_78 q_79 r_80]; rw [hn_30]; rfl) e_85)) ?_
    refine HL.on ?_ ?_; exact Wanted.guard (dj := 47) (by rfl) (evb (by rfl) h_75) (by rfl)
    refine HL.val Wanted.none (fun wq sq => (Runs.bytes_str Tryd.underlying29 Tryd.underlying5 Tryd.underlying9 rfl ((sq.src_sl (k := 1) rfl).sub_iv p_78 q_79 h_88 e_84) e_86)) ?_
    refine HL.on ?_ ?_; exact Wanted.guard (dj := 47) (by rfl) (evb (by rfl) h_75) (by rfl)
    refine HL.val Wanted.none (fun wq sq => (Runs.move rfl)) ?_
    refine HL.on ?_ ?_; exact Wanted.guard (dj := 47) (by rfl) (evb (by rfl) h_75) (by rfl)
    refine HL.val Wanted.none (fun wq sq => (Runs.move rfl)) ?_
    refine HL.on ?_ ?_; exact Wanted.guard (dj := 47) (by rfl) (evb (by rfl) h_75) (by rfl)
    refine HL.val Wanted.none (fun wq sq => (Runs.mul rfl rfl rfl)) ?_
    refine HL.on ?_ ?_; exact Wanted.guard (dj := 47) (by rfl) (evb (by rfl) h_75) (by rfl)
    refine HL.val Wanted.none (fun wq sq => (Runs.add rfl rfl rfl)) ?_
    refine HL.on ?_ ?_; exact Wanted.guard (dj := 47) (by rfl) (evb (by rfl) h_75) (by rfl)
    obtain ⟨⟨p_90, q_91, r_92⟩, H⟩ := H
    have h_99 : n_39 ≤ c_38 := st_34.cap (i := 0) rfl
    have h_100 : (r_36.length : Int) ≤ (c_38 : Int) := by have := hn_40; omega
    obtain ⟨A_93, e_96⟩ : ∃ B_, B_ = subA A_37 (IntKind.i64.wrap ((IntKind.i64.wrap (40 * 0)) + 40)).toNat c_38 := ⟨_, rfl⟩
    obtain ⟨n_95, e_98⟩ : ∃ n_ : Nat, n_ = (prt r_36 (IntKind.i64.wrap ((IntKind.i64.wrap (40 * 0)) + 40)) (r_36.length : Int)).length := ⟨_, rfl⟩
    obtain ⟨c_94, e_97⟩ : ∃ c_ : Nat, c_ = c_38 - (IntKind.i64.wrap ((IntKind.i64.wrap (40 * 0)) + 40)).toNat := ⟨_, rfl⟩
    have h_101 : n_95 ≤ c_94 := by rw [e_98, prt_length p_90 q_91 r_92]; rw [e_97]; omega
    refine HL.val Wanted.none (fun wq sq => (Runs.slice_l Tryd.underlying29 cells5 rfl rfl p_90 (by have := hn_40; omega) e_96 (N := n_95) (by rw [e_98, prt_length p_90 q_91 r_92]; rw [hn_40]; rfl) e_97)) ?_
    refine HL.on ?_ ?_; exact Wanted.guard (dj := 47) (by rfl) (evb (by rfl) h_75) (by rfl)
    refine HL.val Wanted.none (fun wq sq => (Runs.bytes_str Tryd.underlying29 Tryd.underlying5 Tryd.underlying9 rfl ((sq.src_sl (k := 0) rfl).sub_iv p_90 q_91 h_100 e_96) e_98)) ?_
    refine HL.on ?_ ?_; exact Wanted.guard (dj := 47) (by rfl) (evb (by rfl) h_75) (by rfl)
    refine HL.val Wanted.none (fun wq sq => (Runs.nes rfl rfl rfl)) ?_
    refine HL.val Wanted.none (fun wq sq => (Runs.pick_f (evb rfl h_75) rfl)) ?_
    refine HL.nil (fun w_102 st_103 => ?_)
    refine WL.nil ?_
    refine QW.then_n ?_
    refine CW.sub [(3, .pointer (some ⟨B_1, 0, none⟩)), (5, .pointer (some ⟨B_5, 0, none⟩)), (6, .bool false), (8, .int .i64 0), (10, .slice A_27 n_29 c_28), (11, .slice A_37 n_39 c_38), (61, .bool (!((strOfNums (prt r_26 (IntKind.i64.wrap ((IntKind.i64.wrap (40 * 0)) + 40)) (r_26.length : Int))).toList == (strOfNums (prt r_36 (IntKind.i64.wrap ((IntKind.i64.wrap (40 * 0)) + 40)) (r_36.length : Int))).toList)))] ⟨rfl, rfl, rfl, rfl, rfl, rfl, rfl, trivial⟩ ?_
    obtain ⟨c_104, H⟩ := H
    have h_105 : (!((strOfNums (prt r_26 (IntKind.i64.wrap ((IntKind.i64.wrap (40 * 0)) + 40)) (r_26.length : Int))).toList == (strOfNums (prt r_36 (IntKind.i64.wrap ((IntKind.i64.wrap (40 * 0)) + 40)) (r_36.length : Int))).toList)) = false := (not_f (beq_iff_eq.mpr (Decidable.not_not.mp c_104)))
    refine CW.cf rfl h_105 ?_
    refine CW.skip ?_
    refine QW.then_n ?_
    refine CW.seq ?_
    refine CW.region_qa wide (by kernel_rfl) st_103 ?_
    refine HL.val Wanted.none (fun wq sq => (Runs.move rfl)) ?_
    refine HL.val Wanted.none (fun wq sq => (Runs.move rfl)) ?_
    refine HL.val Wanted.none (fun wq sq => (Runs.mul rfl rfl rfl)) ?_
    refine HL.val Wanted.none (fun wq sq => (Runs.move rfl)) ?_
    refine HL.val Wanted.none (fun wq sq => (Runs.mul rfl rfl rfl)) ?_
    refine HL.val Wanted.none (fun wq sq => (Runs.add rfl rfl rfl)) ?_
    obtain ⟨⟨p_106, q_107, r_108⟩, H⟩ := H
    have h_115 : n_29 ≤ c_28 := st_103.cap (i := 1) rfl
    have h_116 : (IntKind.i64.wrap ((IntKind.i64.wrap (40 * 0)) + 32)) ≤ (c_28 : Int) := by have := hn_30; omega
    obtain ⟨A_109, e_112⟩ : ∃ B_, B_ = subA A_27 (IntKind.i64.wrap (40 * 0)).toNat c_28 := ⟨_, rfl⟩
    obtain ⟨n_111, e_114⟩ : ∃ n_ : Nat, n_ = (prt r_26 (IntKind.i64.wrap (40 * 0)) (IntKind.i64.wrap ((IntKind.i64.wrap (40 * 0)) + 32))).length := ⟨_, rfl⟩
    obtain ⟨c_110, e_113⟩ : ∃ c_ : Nat, c_ = c_28 - (IntKind.i64.wrap (40 * 0)).toNat := ⟨_, rfl⟩
    have h_117 : n_111 ≤ c_110 := by rw [e_114, prt_length p_106 q_107 r_108]; rw [e_113]; omega
    refine HL.val Wanted.none (fun wq sq => (Runs.slice_lh Tryd.underlying29 cells5 rfl rfl rfl p_106 q_107 h_116 e_112 (N := n_111) (by rw [e_114, prt_length p_106 q_107 r_108]) e_113)) ?_
    refine HL.val Wanted.none (fun wq sq => (Runs.bytes_str Tryd.underlying29 Tryd.underlying5 Tryd.underlying9 rfl ((sq.src_sl (k := 1) rfl).sub_iv p_106 q_107 h_116 e_112) e_114)) ?_
    refine HL.val Wanted.none (fun wq sq => (Runs.move rfl)) ?_
    refine HL.val Wanted.none (fun wq sq => (Runs.move rfl)) ?_
    refine HL.val Wanted.none (fun wq sq => (Runs.mul rfl rfl rfl)) ?_
    refine HL.val Wanted.none (fun wq sq => (Runs.move rfl)) ?_
    refine HL.val Wanted.none (fun wq sq => (Runs.mul rfl rfl rfl)) ?_
    refine HL.val Wanted.none (fun wq sq => (Runs.add rfl rfl rfl)) ?_
    obtain ⟨⟨p_118, q_119, r_120⟩, H⟩ := H
    have h_127 : n_39 ≤ c_38 := st_103.cap (i := 0) rfl
    have h_128 : (IntKind.i64.wrap ((IntKind.i64.wrap (40 * 0)) + 32)) ≤ (c_38 : Int) := by have := hn_40; omega
    obtain ⟨A_121, e_124⟩ : ∃ B_, B_ = subA A_37 (IntKind.i64.wrap (40 * 0)).toNat c_38 := ⟨_, rfl⟩
    obtain ⟨n_123, e_126⟩ : ∃ n_ : Nat, n_ = (prt r_36 (IntKind.i64.wrap (40 * 0)) (IntKind.i64.wrap ((IntKind.i64.wrap (40 * 0)) + 32))).length := ⟨_, rfl⟩
    obtain ⟨c_122, e_125⟩ : ∃ c_ : Nat, c_ = c_38 - (IntKind.i64.wrap (40 * 0)).toNat := ⟨_, rfl⟩
    have h_129 : n_123 ≤ c_122 := by rw [e_126, prt_length p_118 q_119 r_120]; rw [e_125]; omega
    refine HL.val Wanted.none (fun wq sq => (Runs.slice_lh Tryd.underlying29 cells5 rfl rfl rfl p_118 q_119 h_128 e_124 (N := n_123) (by rw [e_126, prt_length p_118 q_119 r_120]) e_125)) ?_
    refine HL.val Wanted.none (fun wq sq => (Runs.bytes_str Tryd.underlying29 Tryd.underlying5 Tryd.underlying9 rfl ((sq.src_sl (k := 0) rfl).sub_iv p_118 q_119 h_128 e_124) e_126)) ?_
    refine HL.val Wanted.none (fun wq sq => (Runs.eqs rfl rfl rfl)) ?_
    refine HL.val Wanted.none (fun wq sq => (Runs.move rfl)) ?_
    refine HL.val Wanted.none (fun wq sq => (Runs.indexAddr_row (p := 0) Tryd.underlying28 siz26 rfl rfl (by decide) (by decide) rfl)) ?_
    refine HL.val Wanted.none (fun wq sq => (Runs.fieldAddr (off := 0) (p := 0) fld26_0 rfl rfl rfl)) ?_
    refine HL.val Wanted.none (fun wq sq => (Runs.load_mid row23 rfl sq (i := 4) rfl (part_mid (pre := (([] : List Value))) (mid := (iv .u8 l0_0)) (post := (([.int .u64 a0_1] : List Value) ++ (iv .u8 l0_2 ++ (([.int .u64 a0_3] : List Value) ++ (iv .u8 l0_4 ++ (([.int .u64 a0_5] : List Value) ++ (iv .u8 l0_6 ++ ([.int .u64 a0_7] : List Value)))))))) (by first | rfl | simp only [List.append_assoc, List.append_nil, List.nil_append, List.cons_append]) (by first | rfl | simp only [List.length_append, List.length_cons, List.length_nil, iv_length]) (by first | rfl | simp only [List.length_append, List.length_cons, List.length_nil, iv_length, hl0_0])) (by first | rfl | simp only [List.length_append, List.length_cons, List.length_nil, iv_length, hl0_0]))) ?_
    refine HL.val Wanted.none (fun wq sq => (Runs.fieldAddr (off := 0) (p := 0) fld26_0 rfl rfl rfl)) ?_
    refine HL.val Wanted.none (fun wq sq => (Runs.load_mid row23 rfl sq (i := 3) rfl (part_mid (pre := (([] : List Value))) (mid := (iv .u8 l2_0)) (post := (([.int .u64 a2_1] : List Value))) (by first | rfl | simp only [List.append_assoc, List.append_nil, List.nil_append, List.cons_append]) (by first | rfl | simp only [List.length_append, List.length_cons, List.length_nil, iv_length]) (by first | rfl | simp only [List.length_append, List.length_cons, List.length_nil, iv_length, hl2_0])) (by first | rfl | simp only [List.length_append, List.length_cons, List.length_nil, iv_length, hl2_0]))) ?_
    refine HL.val Wanted.none (fun wq sq => (Runs.eql_arr arr23 eqg23 rfl rfl hl0_0 hl2_0 rfl)) ?_
    refine HL.val Wanted.none (fun wq sq => (Runs.eqb Tryd.underlying4 rfl rfl rfl)) ?_
    refine HL.val Wanted.none (fun wq sq => (Runs.move rfl)) ?_
    obtain ⟨c_130, H⟩ := H
    have h_131 : (((strOfNums (prt r_26 (IntKind.i64.wrap (40 * 0)) (IntKind.i64.wrap ((IntKind.i64.wrap (40 * 0)) + 32)))).toList == (strOfNums (prt r_36 (IntKind.i64.wrap (40 * 0)) (IntKind.i64.wrap ((IntKind.i64.wrap (40 * 0)) + 32)))).toList) == (l0_0 == l2_0)) = true := (beq_iff_eq.mpr c_130)
    refine HL.on ?_ ?_; exact Wanted.guard (dj := 87) (by rfl) (evb (by rfl) h_131) (by rfl)
    refine HL.val Wanted.none (fun wq sq => (Runs.move rfl)) ?_
    refine HL.on ?_ ?_; exact Wanted.guard (dj := 87) (by rfl) (evb (by rfl) h_131) (by rfl)
    refine HL.val Wanted.none (fun wq sq => (Runs.move rfl)) ?_
    refine HL.on ?_ ?_; exact Wanted.guard (dj := 87) (by rfl) (evb (by rfl) h_131) (by rfl)
    refine HL.val Wanted.none (fun wq sq => (Runs.mul rfl rfl rfl)) ?_
    refine HL.on ?_ ?_; exact Wanted.guard (dj := 87) (by rfl) (evb (by rfl) h_131) (by rfl)
    refine HL.val Wanted.none (fun wq sq => (Runs.add rfl rfl rfl)) ?_
    refine HL.on ?_ ?_; exact Wanted.guard (dj := 87) (by rfl) (evb (by rfl) h_131) (by rfl)
    refine HL.val Wanted.none (fun wq sq => (Runs.move rfl)) ?_
    refine HL.on ?_ ?_; exact Wanted.guard (dj := 87) (by rfl) (evb (by rfl) h_131) (by rfl)
    refine HL.val Wanted.none (fun wq sq => (Runs.mul rfl rfl rfl)) ?_
    refine HL.on ?_ ?_; exact Wanted.guard (dj := 87) (by rfl) (evb (by rfl) h_131) (by rfl)
    refine HL.val Wanted.none (fun wq sq => (Runs.add rfl rfl rfl)) ?_
    refine HL.on ?_ ?_; exact Wanted.guard (dj := 87) (by rfl) (evb (by rfl) h_131) (by rfl)
    obtain ⟨⟨p_132, q_133, r_134⟩, H⟩ := H
    have h_141 : n_29 ≤ c_28 := st_103.cap (i := 1) rfl
    have h_142 : (IntKind.i64.wrap ((IntKind.i64.wrap (40 * 0)) + 40)) ≤ (c_28 : Int) := by have := hn_30; omega
    obtain ⟨A_135, e_138⟩ : ∃ B_, B_ = subA A_27 (IntKind.i64.wrap ((IntKind.i64.wrap (40 * 0)) + 32)).toNat c_28 := ⟨_, rfl⟩
    obtain ⟨n_137, e_140⟩ : ∃ n_ : Nat, n_ = (prt r_26 (IntKind.i64.wrap ((IntKind.i64.wrap (40 * 0)) + 32)) (IntKind.i64.wrap ((IntKind.i64.wrap (40 * 0)) + 40))).length := ⟨_, rfl⟩
    obtain ⟨c_136, e_139⟩ : ∃ c_ : Nat, c_ = c_28 - (IntKind.i64.wrap ((IntKind.i64.wrap (40 * 0)) + 32)).toNat := ⟨_, rfl⟩
    have h_143 : n_137 ≤ c_136 := by rw [e_140, prt_length p_132 q_133 r_134]; rw [e_139]; omega
    refine HL.val Wanted.none (fun wq sq => (Runs.slice_lh Tryd.underlying29 cells5 rfl rfl rfl p_132 q_133 h_142 e_138 (N := n_137) (by rw [e_140, prt_length p_132 q_133 r_134]) e_139)) ?_
    refine HL.on ?_ ?_; exact Wanted.guard (dj := 87) (by rfl) (evb (by rfl) h_131) (by rfl)
    refine HL.val Wanted.none (fun wq sq => (Runs.bytes_str Tryd.underlying29 Tryd.underlying5 Tryd.underlying9 rfl ((sq.src_sl (k := 1) rfl).sub_iv p_132 q_133 h_142 e_138) e_140)) ?_
    refine HL.on ?_ ?_; exact Wanted.guard (dj := 87) (by rfl) (evb (by rfl) h_131) (by rfl)
    refine HL.val Wanted.none (fun wq sq => (Runs.move rfl)) ?_
    refine HL.on ?_ ?_; exact Wanted.guard (dj := 87) (by rfl) (evb (by rfl) h_131) (by rfl)
    refine HL.val Wanted.none (fun wq sq => (Runs.move rfl)) ?_
    refine HL.on ?_ ?_; exact Wanted.guard (dj := 87) (by rfl) (evb (by rfl) h_131) (by rfl)
    refine HL.val Wanted.none (fun wq sq => (Runs.mul rfl rfl rfl)) ?_
    refine HL.on ?_ ?_; exact Wanted.guard (dj := 87) (by rfl) (evb (by rfl) h_131) (by rfl)
    refine HL.val Wanted.none (fun wq sq => (Runs.add rfl rfl rfl)) ?_
    refine HL.on ?_ ?_; exact Wanted.guard (dj := 87) (by rfl) (evb (by rfl) h_131) (by rfl)
    refine HL.val Wanted.none (fun wq sq => (Runs.move rfl)) ?_
    refine HL.on ?_ ?_; exact Wanted.guard (dj := 87) (by rfl) (evb (by rfl) h_131) (by rfl)
    refine HL.val Wanted.none (fun wq sq => (Runs.mul rfl rfl rfl)) ?_
    refine HL.on ?_ ?_; exact Wanted.guard (dj := 87) (by rfl) (evb (by rfl) h_131) (by rfl)
    refine HL.val Wanted.none (fun wq sq => (Runs.add rfl rfl rfl)) ?_
    refine HL.on ?_ ?_; exact Wanted.guard (dj := 87) (by rfl) (evb (by rfl) h_131) (by rfl)
    obtain ⟨⟨p_144, q_145, r_146⟩, H⟩ := H
    have h_153 : n_39 ≤ c_38 := st_103.cap (i := 0) rfl
    have h_154 : (IntKind.i64.wrap ((IntKind.i64.wrap (40 * 0)) + 40)) ≤ (c_38 : Int) := by have := hn_40; omega
    obtain ⟨A_147, e_150⟩ : ∃ B_, B_ = subA A_37 (IntKind.i64.wrap ((IntKind.i64.wrap (40 * 0)) + 32)).toNat c_38 := ⟨_, rfl⟩
    obtain ⟨n_149, e_152⟩ : ∃ n_ : Nat, n_ = (prt r_36 (IntKind.i64.wrap ((IntKind.i64.wrap (40 * 0)) + 32)) (IntKind.i64.wrap ((IntKind.i64.wrap (40 * 0)) + 40))).length := ⟨_, rfl⟩
    obtain ⟨c_148, e_151⟩ : ∃ c_ : Nat, c_ = c_38 - (IntKind.i64.wrap ((IntKind.i64.wrap (40 * 0)) + 32)).toNat := ⟨_, rfl⟩
    have h_155 : n_149 ≤ c_148 := by rw [e_152, prt_length p_144 q_145 r_146]; rw [e_151]; omega
    refine HL.val Wanted.none (fun wq sq => (Runs.slice_lh Tryd.underlying29 cells5 rfl rfl rfl p_144 q_145 h_154 e_150 (N := n_149) (by rw [e_152, prt_length p_144 q_145 r_146]) e_151)) ?_
    refine HL.on ?_ ?_; exact Wanted.guard (dj := 87) (by rfl) (evb (by rfl) h_131) (by rfl)
    refine HL.val Wanted.none (fun wq sq => (Runs.bytes_str Tryd.underlying29 Tryd.underlying5 Tryd.underlying9 rfl ((sq.src_sl (k := 0) rfl).sub_iv p_144 q_145 h_154 e_150) e_152)) ?_
    refine HL.on ?_ ?_; exact Wanted.guard (dj := 87) (by rfl) (evb (by rfl) h_131) (by rfl)
    refine HL.val Wanted.none (fun wq sq => (Runs.eqs rfl rfl rfl)) ?_
    refine HL.on ?_ ?_; exact Wanted.guard (dj := 87) (by rfl) (evb (by rfl) h_131) (by rfl)
    refine HL.val Wanted.none (fun wq sq => (Runs.move rfl)) ?_
    refine HL.on ?_ ?_; exact Wanted.guard (dj := 87) (by rfl) (evb (by rfl) h_131) (by rfl)
    refine HL.val Wanted.none (fun wq sq => (Runs.indexAddr_row (p := 0) Tryd.underlying28 siz26 rfl rfl (by decide) (by decide) rfl)) ?_
    refine HL.on ?_ ?_; exact Wanted.guard (dj := 87) (by rfl) (evb (by rfl) h_131) (by rfl)
    refine HL.val Wanted.none (fun wq sq => (Runs.fieldAddr (off := 32) (p := 32) fld26_1 rfl rfl rfl)) ?_
    refine HL.on ?_ ?_; exact Wanted.guard (dj := 87) (by rfl) (evb (by rfl) h_131) (by rfl)
    refine HL.val Wanted.none (fun wq sq => (Runs.load nagg24 rfl (sq.cell (k := 4) rfl (part_one (u := .int .u64 a0_1) (pre := (iv .u8 l0_0)) (post := (iv .u8 l0_2 ++ (([.int .u64 a0_3] : List Value) ++ (iv .u8 l0_4 ++ (([.int .u64 a0_5] : List Value) ++ (iv .u8 l0_6 ++ ([.int .u64 a0_7] : List Value))))))) (by first | rfl | simp only [List.append_assoc, List.append_nil, List.nil_append, List.cons_append]) (by first | rfl | simp only [List.length_append, List.length_cons, List.length_nil, iv_length, hl0_0]))))) ?_
    refine HL.on ?_ ?_; exact Wanted.guard (dj := 87) (by rfl) (evb (by rfl) h_131) (by rfl)
    refine HL.val Wanted.none (fun wq sq => (Runs.fieldAddr (off := 32) (p := 32) fld26_1 rfl rfl rfl)) ?_
    refine HL.on ?_ ?_; exact Wanted.guard (dj := 87) (by rfl) (evb (by rfl) h_131) (by rfl)
    refine HL.val Wanted.none (fun wq sq => (Runs.load nagg24 rfl (sq.cell (k := 3) rfl (part_one (u := .int .u64 a2_1) (pre := (iv .u8 l2_0)) (post := (([] : List Value))) (by first | rfl | simp only [List.append_assoc, List.append_nil, List.nil_append, List.cons_append]) (by first | rfl | simp only [List.length_append, List.length_cons, List.length_nil, iv_length, hl2_0]))))) ?_
    refine HL.on ?_ ?_; exact Wanted.guard (dj := 87) (by rfl) (evb (by rfl) h_131) (by rfl)
    refine HL.val Wanted.none (fun wq sq => (Runs.eql rfl rfl rfl)) ?_
    refine HL.on ?_ ?_; exact Wanted.guard (dj := 87) (by rfl) (evb (by rfl) h_131) (by rfl)
    refine HL.val Wanted.none (fun wq sq => (Runs.eqb Tryd.underlying4 rfl rfl rfl)) ?_
    refine HL.val Wanted.none (fun wq sq => (Runs.pick_t (evb rfl h_131) rfl)) ?_
    refine HL.val Wanted.none (fun wq sq => (Runs.assign rfl)) ?_
    refine HL.nil (fun w_156 st_157 => ?_)
    refine WL.nil ?_
    refine QW.then_n ?_
    refine CW.sub [(6, .bool (((strOfNums (prt r_26 (IntKind.i64.wrap ((IntKind.i64.wrap (40 * 0)) + 32)) (IntKind.i64.wrap ((IntKind.i64.wrap (40 * 0)) + 40)))).toList == (strOfNums (prt r_36 (IntKind.i64.wrap ((IntKind.i64.wrap (40 * 0)) + 32)) (IntKind.i64.wrap ((IntKind.i64.wrap (40 * 0)) + 40)))).toList) == (a0_1 == a2_1)))] ⟨rfl, trivial⟩ ?_
    refine CW.ret ?_
    have hz : (((strOfNums (prt r_26 (IntKind.i64.wrap ((IntKind.i64.wrap (40 * 0)) + 32)) (IntKind.i64.wrap ((IntKind.i64.wrap (40 * 0)) + 40)))).toList == (strOfNums (prt r_36 (IntKind.i64.wrap ((IntKind.i64.wrap (40 * 0)) + 32)) (IntKind.i64.wrap ((IntKind.i64.wrap (40 * 0)) + 40)))).toList) == (a0_1 == a2_1)) = true := (beq_iff_eq.mpr H)
    exact QW.ret1 rfl (evb rfl hz) ⟨rfl, st_157.ext⟩
  · rw [c_19]
    refine WL.val Wanted.none (Runs.indexAddr_row (p := 33) Tryd.underlying28 siz26 rfl rfl (by decide) (by decide) rfl) ?_
    refine WL.store_mid (i := 0) (pre := (iv .u8 l0_0 ++ ([.int .u64 a0_1] : List Value))) (mid := (iv .u8 l0_2 ++ ([.int .u64 a0_3] : List Value))) (post := (iv .u8 l0_4 ++ (([.int .u64 a0_5] : List Value) ++ (iv .u8 l0_6 ++ ([.int .u64 a0_7] : List Value))))) (ms := (iv .u8 l2_0 ++ ([.int .u64 a2_1] : List Value))) st_18 rfl row26 (by first | rfl | simp only [List.append_assoc, List.append_nil, List.nil_append, List.cons_append]) (by first | rfl | simp only [List.length_append, List.length_cons, List.length_nil, iv_length, hl0_0]) rfl rfl (by first | rfl | simp only [List.length_append, List.length_cons, List.length_nil, iv_length, hl2_0]) (by first | rfl | simp only [List.length_append, List.length_cons, List.length_nil, iv_length, hl0_2]) (by intro u hu; simp only [List.mem_append, List.mem_singleton] at hu; rcases hu with hu | hu <;> first | exact one_iv _ _ u hu | (subst hu; rfl)) ?_
    intro w_160 st_161
    replace st_161 : St w w_160 [.cells B_13 (iv .u8 l0_0 ++ (([.int .u64 a0_1] : List Value) ++ (iv .u8 l2_0 ++ (([.int .u64 a2_1] : List Value) ++ (iv .u8 l0_4 ++ (([.int .u64 a0_5] : List Value) ++ (iv .u8 l0_6 ++ ([.int .u64 a0_7] : List Value)))))))) 28, .cells B_5 (iv .u8 l2_0 ++ ([.int .u64 a2_1] : List Value)) 26, .cells B_1 (iv .u8 l0_0 ++ (([.int .u64 a0_1] : List Value) ++ (iv .u8 l0_2 ++ (([.int .u64 a0_3] : List Value) ++ (iv .u8 l0_4 ++ (([.int .u64 a0_5] : List Value) ++ (iv .u8 l0_6 ++ ([.int .u64 a0_7] : List Value)))))))) 28] := by have e_ : (iv .u8 l0_0 ++ (([.int .u64 a0_1] : List Value) ++ (iv .u8 l2_0 ++ (([.int .u64 a2_1] : List Value) ++ (iv .u8 l0_4 ++ (([.int .u64 a0_5] : List Value) ++ (iv .u8 l0_6 ++ ([.int .u64 a0_7] : List Value)))))))) = (iv .u8 l0_0 ++ ([.int .u64 a0_1] : List Value)) ++ ((iv .u8 l2_0 ++ ([.int .u64 a2_1] : List Value)) ++ (iv .u8 l0_4 ++ (([.int .u64 a0_5] : List Value) ++ (iv .u8 l0_6 ++ ([.int .u64 a0_7] : List Value))))) := (by first | rfl | simp only [List.append_assoc, List.append_nil, List.nil_append, List.cons_append]); have h_ : St w w_160 [.cells B_13 ((iv .u8 l0_0 ++ ([.int .u64 a0_1] : List Value)) ++ ((iv .u8 l2_0 ++ ([.int .u64 a2_1] : List Value)) ++ (iv .u8 l0_4 ++ (([.int .u64 a0_5] : List Value) ++ (iv .u8 l0_6 ++ ([.int .u64 a0_7] : List Value)))))) 28, .cells B_5 (iv .u8 l2_0 ++ ([.int .u64 a2_1] : List Value)) 26, .cells B_1 (iv .u8 l0_0 ++ (([.int .u64 a0_1] : List Value) ++ (iv .u8 l0_2 ++ (([.int .u64 a0_3] : List Value) ++ (iv .u8 l0_4 ++ (([.int .u64 a0_5] : List Value) ++ (iv .u8 l0_6 ++ ([.int .u64 a0_7] : List Value)))))))) 28] := st_161; rw [← e_] at h_; exact h_
    refine WL.nil ?_
    refine QW.then_n ?_
    refine CW.sub [(3, .pointer (some ⟨B_1, 0, none⟩)), (5, .pointer (some ⟨B_5, 0, none⟩)), (6, .bool false), (8, .int .i64 1), (9, .pointer (some ⟨B_13, 0, none⟩))] ⟨rfl, rfl, rfl, rfl, rfl, trivial⟩ ?_
    refine CW.seq ?_
    refine CW.region ?_
    refine WL.val Wanted.none (Runs.load_mid row28 rfl st_161 (i := 2) rfl (part_mid (pre := (([] : List Value))) (mid := (iv .u8 l0_0 ++ (([.int .u64 a0_1] : List Value) ++ (iv .u8 l0_2 ++ (([.int .u64 a0_3] : List Value) ++ (iv .u8 l0_4 ++ (([.int .u64 a0_5] : List Value) ++ (iv .u8 l0_6 ++ ([.int .u64 a0_7] : List Value))))))))) (post := (([] : List Value))) (by first | rfl | simp only [List.append_assoc, List.append_nil, List.nil_append, List.cons_append]) (by first | rfl | simp only [List.length_append, List.length_cons, List.length_nil, iv_length]) (by first | rfl | simp only [List.length_append, List.length_cons, List.length_nil, iv_length, hl0_0, hl0_2, hl0_4, hl0_6])) (by first | rfl | simp only [List.length_append, List.length_cons, List.length_nil, iv_length, hl0_0, hl0_2, hl0_4, hl0_6])) ?_
    obtain ⟨r_166, hr_162, H⟩ := H
    refine WL.call Wanted.none ent9 rfl (tree_Put.calls w_160 l0_0 a0_1 l0_2 a0_3 l0_4 a0_5 l0_6 a0_7 hl0_0 hl0_2 hl0_4 hl0_6 r_166 hr_162) ?_
    rintro _ w_163 ⟨A_167, c_168, n_169, hn_170, rfl, sc_165⟩
    have st_164 : St w w_163 [.sl A_167 c_168 n_169 (iv .u8 r_166) 5 1, .cells B_13 (iv .u8 l0_0 ++ (([.int .u64 a0_1] : List Value) ++ (iv .u8 l2_0 ++ (([.int .u64 a2_1] : List Value) ++ (iv .u8 l0_4 ++ (([.int .u64 a0_5] : List Value) ++ (iv .u8 l0_6 ++ ([.int .u64 a0_7] : List Value)))))))) 28, .cells B_5 (iv .u8 l2_0 ++ ([.int .u64 a2_1] : List Value)) 26, .cells B_1 (iv .u8 l0_0 ++ (([.int .u64 a0_1] : List Value) ++ (iv .u8 l0_2 ++ (([.int .u64 a0_3] : List Value) ++ (iv .u8 l0_4 ++ (([.int .u64 a0_5] : List Value) ++ (iv .u8 l0_6 ++ ([.int .u64 a0_7] : List Value)))))))) 28] := st_161.call sc_165
    refine ⟨_, rfl, ?_⟩
    refine WL.val Wanted.none (Runs.assign rfl) ?_
    refine WL.nil ?_
    refine QW.then_n ?_
    refine CW.seq ?_
    refine CW.region ?_
    refine WL.val Wanted.none (Runs.load_mid row28 rfl st_164 (i := 1) rfl (part_mid (pre := (([] : List Value))) (mid := (iv .u8 l0_0 ++ (([.int .u64 a0_1] : List Value) ++ (iv .u8 l2_0 ++ (([.int .u64 a2_1] : List Value) ++ (iv .u8 l0_4 ++ (([.int .u64 a0_5] : List Value) ++ (iv .u8 l0_6 ++ ([.int .u64 a0_7] : List Value))))))))) (post := (([] : List Value))) (by first | rfl | simp only [List.append_assoc, List.append_nil, List.nil_append, List.cons_append]) (by first | rfl | simp only [List.length_append, List.length_cons, List.length_nil, iv_length]) (by first | rfl | simp only [List.length_append, List.length_cons, List.length_nil, iv_length, hl0_0, hl2_0, hl0_4, hl0_6])) (by first | rfl | simp only [List.length_append, List.length_cons, List.length_nil, iv_length, hl0_0, hl2_0, hl0_4, hl0_6])) ?_
    obtain ⟨r_176, hr_172, H⟩ := H
    refine WL.call Wanted.none ent9 rfl (tree_Put.calls w_163 l0_0 a0_1 l2_0 a2_1 l0_4 a0_5 l0_6 a0_7 hl0_0 hl2_0 hl0_4 hl0_6 r_176 hr_172) ?_
    rintro _ w_173 ⟨A_177, c_178, n_179, hn_180, rfl, sc_175⟩
    have st_174 : St w w_173 [.sl A_177 c_178 n_179 (iv .u8 r_176) 5 1, .sl A_167 c_168 n_169 (iv .u8 r_166) 5 1, .cells B_13 (iv .u8 l0_0 ++ (([.int .u64 a0_1] : List Value) ++ (iv .u8 l2_0 ++ (([.int .u64 a2_1] : List Value) ++ (iv .u8 l0_4 ++ (([.int .u64 a0_5] : List Value) ++ (iv .u8 l0_6 ++ ([.int .u64 a0_7] : List Value)))))))) 28, .cells B_5 (iv .u8 l2_0 ++ ([.int .u64 a2_1] : List Value)) 26, .cells B_1 (iv .u8 l0_0 ++ (([.int .u64 a0_1] : List Value) ++ (iv .u8 l0_2 ++ (([.int .u64 a0_3] : List Value) ++ (iv .u8 l0_4 ++ (([.int .u64 a0_5] : List Value) ++ (iv .u8 l0_6 ++ ([.int .u64 a0_7] : List Value)))))))) 28] := st_164.call sc_175
    refine ⟨_, rfl, ?_⟩
    refine WL.val Wanted.none (Runs.assign rfl) ?_
    refine WL.nil ?_
    refine QW.then_n ?_
    refine CW.seq ?_
    refine CW.seq ?_
    refine CW.region_qa wide (by kernel_rfl) st_174 ?_
    refine HL.val Wanted.none (fun wq sq => (Runs.move rfl)) ?_
    refine HL.val Wanted.none (fun wq sq => (Runs.len_sl Tryd.underlying29 rfl (by rw [hn_170]))) ?_
    refine HL.val Wanted.none (fun wq sq => (Runs.neq rfl rfl rfl)) ?_
    refine HL.val Wanted.none (fun wq sq => (Runs.move rfl)) ?_
    obtain ⟨c_182, H⟩ := H
    have h_183 : ((r_166.length : Int) != 160) = false := (bne_eq_false_iff_eq.mpr (Decidable.not_not.mp c_182))
    refine HL.on ?_ ?_; exact Wanted.guard (dj := 29) (by rfl) (evb (by rfl) h_183) (by rfl)
    refine HL.val Wanted.none (fun wq sq => (Runs.move rfl)) ?_
    refine HL.on ?_ ?_; exact Wanted.guard (dj := 29) (by rfl) (evb (by rfl) h_183) (by rfl)
    refine HL.val Wanted.none (fun wq sq => (Runs.len_sl Tryd.underlying29 rfl (by rw [hn_180]))) ?_
    refine HL.on ?_ ?_; exact Wanted.guard (dj := 29) (by rfl) (evb (by rfl) h_183) (by rfl)
    refine HL.val Wanted.none (fun wq sq => (Runs.neq rfl rfl rfl)) ?_
    refine HL.val Wanted.none (fun wq sq => (Runs.pick_f (evb rfl h_183) rfl)) ?_
    refine HL.val Wanted.none (fun wq sq => (Runs.move rfl)) ?_
    obtain ⟨c_186, H⟩ := H
    have h_187 : ((r_176.length : Int) != 160) = false := (bne_eq_false_iff_eq.mpr (Decidable.not_not.mp c_186))
    refine HL.on ?_ ?_; exact Wanted.guard (dj := 34) (by rfl) (evb (by rfl) h_187) (by rfl)
    refine HL.val Wanted.none (fun wq sq => (Runs.move rfl)) ?_
    refine HL.on ?_ ?_; exact Wanted.guard (dj := 34) (by rfl) (evb (by rfl) h_187) (by rfl)
    refine HL.val Wanted.none (fun wq sq => (Runs.move rfl)) ?_
    refine HL.on ?_ ?_; exact Wanted.guard (dj := 34) (by rfl) (evb (by rfl) h_187) (by rfl)
    refine HL.val Wanted.none (fun wq sq => (Runs.mul rfl rfl rfl)) ?_
    refine HL.on ?_ ?_; exact Wanted.guard (dj := 34) (by rfl) (evb (by rfl) h_187) (by rfl)
    obtain ⟨⟨p_190, q_191, r_192⟩, H⟩ := H
    have h_199 : n_169 ≤ c_168 := st_174.cap (i := 1) rfl
    have h_200 : (IntKind.i64.wrap (40 * 1)) ≤ (c_168 : Int) := by have := hn_170; omega
    obtain ⟨A_193, e_196⟩ : ∃ B_, B_ = subA A_167 ((0 : Int)).toNat c_168 := ⟨_, rfl⟩
    obtain ⟨n_195, e_198⟩ : ∃ n_ : Nat, n_ = (prt r_166 (0 : Int) (IntKind.i64.wrap (40 * 1))).length := ⟨_, rfl⟩
    have h_201 : n_195 ≤ c_168 := by rw [e_198, prt_length p_190 q_191 r_192]; omega
    refine HL.val Wanted.none (fun wq sq => (Runs.slice_h Tryd.underlying29 cells5 rfl rfl q_191 h_200 e_196 (N := n_195) (by rw [e_198, prt_length p_190 q_191 r_192]; rfl))) ?_
    refine HL.on ?_ ?_; exact Wanted.guard (dj := 34) (by rfl) (evb (by rfl) h_187) (by rfl)
    refine HL.val Wanted.none (fun wq sq => (Runs.bytes_str Tryd.underlying29 Tryd.underlying5 Tryd.underlying9 rfl ((sq.src_sl (k := 1) rfl).sub_iv p_190 q_191 h_200 e_196) e_198)) ?_
    refine HL.on ?_ ?_; exact Wanted.guard (dj := 34) (by rfl) (evb (by rfl) h_187) (by rfl)
    refine HL.val Wanted.none (fun wq sq => (Runs.move rfl)) ?_
    refine HL.on ?_ ?_; exact Wanted.guard (dj := 34) (by rfl) (evb (by rfl) h_187) (by rfl)
    refine HL.val Wanted.none (fun wq sq => (Runs.move rfl)) ?_
    refine HL.on ?_ ?_; exact Wanted.guard (dj := 34) (by rfl) (evb (by rfl) h_187) (by rfl)
    refine HL.val Wanted.none (fun wq sq => (Runs.mul rfl rfl rfl)) ?_
    refine HL.on ?_ ?_; exact Wanted.guard (dj := 34) (by rfl) (evb (by rfl) h_187) (by rfl)
    obtain ⟨⟨p_202, q_203, r_204⟩, H⟩ := H
    have h_211 : n_179 ≤ c_178 := st_174.cap (i := 0) rfl
    have h_212 : (IntKind.i64.wrap (40 * 1)) ≤ (c_178 : Int) := by have := hn_180; omega
    obtain ⟨A_205, e_208⟩ : ∃ B_, B_ = subA A_177 ((0 : Int)).toNat c_178 := ⟨_, rfl⟩
    obtain ⟨n_207, e_210⟩ : ∃ n_ : Nat, n_ = (prt r_176 (0 : Int) (IntKind.i64.wrap (40 * 1))).length := ⟨_, rfl⟩
    have h_213 : n_207 ≤ c_178 := by rw [e_210, prt_length p_202 q_203 r_204]; omega
    refine HL.val Wanted.none (fun wq sq => (Runs.slice_h Tryd.underlying29 cells5 rfl rfl q_203 h_212 e_208 (N := n_207) (by rw [e_210, prt_length p_202 q_203 r_204]; rfl))) ?_
    refine HL.on ?_ ?_; exact Wanted.guard (dj := 34) (by rfl) (evb (by rfl) h_187) (by rfl)
    refine HL.val Wanted.none (fun wq sq => (Runs.bytes_str Tryd.underlying29 Tryd.underlying5 Tryd.underlying9 rfl ((sq.src_sl (k := 0) rfl).sub_iv p_202 q_203 h_212 e_208) e_210)) ?_
    refine HL.on ?_ ?_; exact Wanted.guard (dj := 34) (by rfl) (evb (by rfl) h_187) (by rfl)
    refine HL.val Wanted.none (fun wq sq => (Runs.nes rfl rfl rfl)) ?_
    refine HL.val Wanted.none (fun wq sq => (Runs.pick_f (evb rfl h_187) rfl)) ?_
    refine HL.val Wanted.none (fun wq sq => (Runs.move rfl)) ?_
    obtain ⟨c_214, H⟩ := H
    have h_215 : (!((strOfNums (prt r_166 (0 : Int) (IntKind.i64.wrap (40 * 1)))).toList == (strOfNums (prt r_176 (0 : Int) (IntKind.i64.wrap (40 * 1)))).toList)) = false := (not_f (beq_iff_eq.mpr (Decidable.not_not.mp c_214)))
    refine HL.on ?_ ?_; exact Wanted.guard (dj := 47) (by rfl) (evb (by rfl) h_215) (by rfl)
    refine HL.val Wanted.none (fun wq sq => (Runs.move rfl)) ?_
    refine HL.on ?_ ?_; exact Wanted.guard (dj := 47) (by rfl) (evb (by rfl) h_215) (by rfl)
    refine HL.val Wanted.none (fun wq sq => (Runs.move rfl)) ?_
    refine HL.on ?_ ?_; exact Wanted.guard (dj := 47) (by rfl) (evb (by rfl) h_215) (by rfl)
    refine HL.val Wanted.none (fun wq sq => (Runs.mul rfl rfl rfl)) ?_
    refine HL.on ?_ ?_; exact Wanted.guard (dj := 47) (by rfl) (evb (by rfl) h_215) (by rfl)
    refine HL.val Wanted.none (fun wq sq => (Runs.add rfl rfl rfl)) ?_
    refine HL.on ?_ ?_; exact Wanted.guard (dj := 47) (by rfl) (evb (by rfl) h_215) (by rfl)
    obtain ⟨⟨p_218, q_219, r_220⟩, H⟩ := H
    have h_227 : n_169 ≤ c_168 := st_174.cap (i := 1) rfl
    have h_228 : (r_166.length : Int) ≤ (c_168 : Int) := by have := hn_170; omega
    obtain ⟨A_221, e_224⟩ : ∃ B_, B_ = subA A_167 (IntKind.i64.wrap ((IntKind.i64.wrap (40 * 1)) + 40)).toNat c_168 := ⟨_, rfl⟩
    obtain ⟨n_223, e_226⟩ : ∃ n_ : Nat, n_ = (prt r_166 (IntKind.i64.wrap ((IntKind.i64.wrap (40 * 1)) + 40)) (r_166.length : Int)).length := ⟨_, rfl⟩
    obtain ⟨c_222, e_225⟩ : ∃ c_ : Nat, c_ = c_168 - (IntKind.i64.wrap ((IntKind.i64.wrap (40 * 1)) + 40)).toNat := ⟨_, rfl⟩
    have h_229 : n_223 ≤ c_222 := by rw [e_226, prt_length p_218 q_219 r_220]; rw [e_225]; omega
    refine HL.val Wanted.none (fun wq sq => (Runs.slice_l Tryd.underlying29 cells5 rfl rfl p_218 (by have := hn_170; omega) e_224 (N := n_223) (by rw [e_226, prt_length p_218 q_219 r_220]; rw [hn_170]; rfl) e_225)) ?_
    refine HL.on ?_ ?_; exact Wanted.guard (dj := 47) (by rfl) (evb (by rfl) h_215) (by rfl)
    refine HL.val Wanted.none (fun wq sq => (Runs.bytes_str Tryd.underlying29 Tryd.underlying5 Tryd.underlying9 rfl ((sq.src_sl (k := 1) rfl).sub_iv p_218 q_219 h_228 e_224) e_226)) ?_
    refine HL.on ?_ ?_; exact Wanted.guard (dj := 47) (by rfl) (evb (by rfl) h_215) (by rfl)
    refine HL.val Wanted.none (fun wq sq => (Runs.move rfl)) ?_
    refine HL.on ?_ ?_; exact Wanted.guard (dj := 47) (by rfl) (evb (by rfl) h_215) (by rfl)
    refine HL.val Wanted.none (fun wq sq => (Runs.move rfl)) ?_
    refine HL.on ?_ ?_; exact Wanted.guard (dj := 47) (by rfl) (evb (by rfl) h_215) (by rfl)
    refine HL.val Wanted.none (fun wq sq => (Runs.mul rfl rfl rfl)) ?_
    refine HL.on ?_ ?_; exact Wanted.guard (dj := 47) (by rfl) (evb (by rfl) h_215) (by rfl)
    refine HL.val Wanted.none (fun wq sq => (Runs.add rfl rfl rfl)) ?_
    refine HL.on ?_ ?_; exact Wanted.guard (dj := 47) (by rfl) (evb (by rfl) h_215) (by rfl)
    obtain ⟨⟨p_230, q_231, r_232⟩, H⟩ := H
    have h_239 : n_179 ≤ c_178 := st_174.cap (i := 0) rfl
    have h_240 : (r_176.length : Int) ≤ (c_178 : Int) := by have := hn_180; omega
    obtain ⟨A_233, e_236⟩ : ∃ B_, B_ = subA A_177 (IntKind.i64.wrap ((IntKind.i64.wrap (40 * 1)) + 40)).toNat c_178 := ⟨_, rfl⟩
    obtain ⟨n_235, e_238⟩ : ∃ n_ : Nat, n_ = (prt r_176 (IntKind.i64.wrap ((IntKind.i64.wrap (40 * 1)) + 40)) (r_176.length : Int)).length := ⟨_, rfl⟩
    obtain ⟨c_234, e_237⟩ : ∃ c_ : Nat, c_ = c_178 - (IntKind.i64.wrap ((IntKind.i64.wrap (40 * 1)) + 40)).toNat := ⟨_, rfl⟩
    have h_241 : n_235 ≤ c_234 := by rw [e_238, prt_length p_230 q_231 r_232]; rw [e_237]; omega
    refine HL.val Wanted.none (fun wq sq => (Runs.slice_l Tryd.underlying29 cells5 rfl rfl p_230 (by have := hn_180; omega) e_236 (N := n_235) (by rw [e_238, prt_length p_230 q_231 r_232]; rw [hn_180]; rfl) e_237)) ?_
    refine HL.on ?_ ?_; exact Wanted.guard (dj := 47) (by rfl) (evb (by rfl) h_215) (by rfl)
    refine HL.val Wanted.none (fun wq sq => (Runs.bytes_str Tryd.underlying29 Tryd.underlying5 Tryd.underlying9 rfl ((sq.src_sl (k := 0) rfl).sub_iv p_230 q_231 h_240 e_236) e_238)) ?_
    refine HL.on ?_ ?_; exact Wanted.guard (dj := 47) (by rfl) (evb (by rfl) h_215) (by rfl)
    refine HL.val Wanted.none (fun wq sq => (Runs.nes rfl rfl rfl)) ?_
    refine HL.val Wanted.none (fun wq sq => (Runs.pick_f (evb rfl h_215) rfl)) ?_
    refine HL.nil (fun w_242 st_243 => ?_)
    refine WL.nil ?_
    refine QW.then_n ?_
    refine CW.sub [(3, .pointer (some ⟨B_1, 0, none⟩)), (5, .pointer (some ⟨B_5, 0, none⟩)), (6, .bool false), (8, .int .i64 1), (10, .slice A_167 n_169 c_168), (11, .slice A_177 n_179 c_178), (61, .bool (!((strOfNums (prt r_166 (IntKind.i64.wrap ((IntKind.i64.wrap (40 * 1)) + 40)) (r_166.length : Int))).toList == (strOfNums (prt r_176 (IntKind.i64.wrap ((IntKind.i64.wrap (40 * 1)) + 40)) (r_176.length : Int))).toList)))] ⟨rfl, rfl, rfl, rfl, rfl, rfl, rfl, trivial⟩ ?_
    obtain ⟨c_244, H⟩ := H
    have h_245 : (!((strOfNums (prt r_166 (IntKind.i64.wrap ((IntKind.i64.wrap (40 * 1)) + 40)) (r_166.length : Int))).toList == (strOfNums (prt r_176 (IntKind.i64.wrap ((IntKind.i64.wrap (40 * 1)) + 40)) (r_176.length : Int))).toList)) = false := (not_f (beq_iff_eq.mpr (Decidable.not_not.mp c_244)))
    refine CW.cf rfl h_245 ?_
    refine CW.skip ?_
    refine QW.then_n ?_
    refine CW.seq ?_
    refine CW.region_qa wide (by kernel_rfl) st_243 ?_
    refine HL.val Wanted.none (fun wq sq => (Runs.move rfl)) ?_
    refine HL.val Wanted.none (fun wq sq => (Runs.move rfl)) ?_
    refine HL.val Wanted.none (fun wq sq => (Runs.mul rfl rfl rfl)) ?_
    refine HL.val Wanted.none (fun wq sq => (Runs.move rfl)) ?_
    refine HL.val Wanted.none (fun wq sq => (Runs.mul rfl rfl rfl)) ?_
    refine HL.val Wanted.none (fun wq sq => (Runs.add rfl rfl rfl)) ?_
    obtain ⟨⟨p_246, q_247, r_248⟩, H⟩ := H
    have h_255 : n_169 ≤ c_168 := st_243.cap (i := 1) rfl
    have h_256 : (IntKind.i64.wrap ((IntKind.i64.wrap (40 * 1)) + 32)) ≤ (c_168 : Int) := by have := hn_170; omega
    obtain ⟨A_249, e_252⟩ : ∃ B_, B_ = subA A_167 (IntKind.i64.wrap (40 * 1)).toNat c_168 := ⟨_, rfl⟩
    obtain ⟨n_251, e_254⟩ : ∃ n_ : Nat, n_ = (prt r_166 (IntKind.i64.wrap (40 * 1)) (IntKind.i64.wrap ((IntKind.i64.wrap (40 * 1)) + 32))).length := ⟨_, rfl⟩
    obtain ⟨c_250, e_253⟩ : ∃ c_ : Nat, c_ = c_168 - (IntKind.i64.wrap (40 * 1)).toNat := ⟨_, rfl⟩
    have h_257 : n_251 ≤ c_250 := by rw [e_254, prt_length p_246 q_247 r_248]; rw [e_253]; omega
    refine HL.val Wanted.none (fun wq sq => (Runs.slice_lh Tryd.underlying29 cells5 rfl rfl rfl p_246 q_247 h_256 e_252 (N := n_251) (by rw [e_254, prt_length p_246 q_247 r_248]) e_253)) ?_
    refine HL.val Wanted.none (fun wq sq => (Runs.bytes_str Tryd.underlying29 Tryd.underlying5 Tryd.underlying9 rfl ((sq.src_sl (k := 1) rfl).sub_iv p_246 q_247 h_256 e_252) e_254)) ?_
    refine HL.val Wanted.none (fun wq sq => (Runs.move rfl)) ?_
    refine HL.val Wanted.none (fun wq sq => (Runs.move rfl)) ?_
    refine HL.val Wanted.none (fun wq sq => (Runs.mul rfl rfl rfl)) ?_
    refine HL.val Wanted.none (fun wq sq => (Runs.move rfl)) ?_
    refine HL.val Wanted.none (fun wq sq => (Runs.mul rfl rfl rfl)) ?_
    refine HL.val Wanted.none (fun wq sq => (Runs.add rfl rfl rfl)) ?_
    obtain ⟨⟨p_258, q_259, r_260⟩, H⟩ := H
    have h_267 : n_179 ≤ c_178 := st_243.cap (i := 0) rfl
    have h_268 : (IntKind.i64.wrap ((IntKind.i64.wrap (40 * 1)) + 32)) ≤ (c_178 : Int) := by have := hn_180; omega
    obtain ⟨A_261, e_264⟩ : ∃ B_, B_ = subA A_177 (IntKind.i64.wrap (40 * 1)).toNat c_178 := ⟨_, rfl⟩
    obtain ⟨n_263, e_266⟩ : ∃ n_ : Nat, n_ = (prt r_176 (IntKind.i64.wrap (40 * 1)) (IntKind.i64.wrap ((IntKind.i64.wrap (40 * 1)) + 32))).length := ⟨_, rfl⟩
    obtain ⟨c_262, e_265⟩ : ∃ c_ : Nat, c_ = c_178 - (IntKind.i64.wrap (40 * 1)).toNat := ⟨_, rfl⟩
    have h_269 : n_263 ≤ c_262 := by rw [e_266, prt_length p_258 q_259 r_260]; rw [e_265]; omega
    refine HL.val Wanted.none (fun wq sq => (Runs.slice_lh Tryd.underlying29 cells5 rfl rfl rfl p_258 q_259 h_268 e_264 (N := n_263) (by rw [e_266, prt_length p_258 q_259 r_260]) e_265)) ?_
    refine HL.val Wanted.none (fun wq sq => (Runs.bytes_str Tryd.underlying29 Tryd.underlying5 Tryd.underlying9 rfl ((sq.src_sl (k := 0) rfl).sub_iv p_258 q_259 h_268 e_264) e_266)) ?_
    refine HL.val Wanted.none (fun wq sq => (Runs.eqs rfl rfl rfl)) ?_
    refine HL.val Wanted.none (fun wq sq => (Runs.move rfl)) ?_
    refine HL.val Wanted.none (fun wq sq => (Runs.indexAddr_row (p := 33) Tryd.underlying28 siz26 rfl rfl (by decide) (by decide) rfl)) ?_
    refine HL.val Wanted.none (fun wq sq => (Runs.fieldAddr (off := 0) (p := 33) fld26_0 rfl rfl rfl)) ?_
    refine HL.val Wanted.none (fun wq sq => (Runs.load_mid row23 rfl sq (i := 4) rfl (part_mid (pre := (iv .u8 l0_0 ++ ([.int .u64 a0_1] : List Value))) (mid := (iv .u8 l0_2)) (post := (([.int .u64 a0_3] : List Value) ++ (iv .u8 l0_4 ++ (([.int .u64 a0_5] : List Value) ++ (iv .u8 l0_6 ++ ([.int .u64 a0_7] : List Value)))))) (by first | rfl | simp only [List.append_assoc, List.append_nil, List.nil_append, List.cons_append]) (by first | rfl | simp only [List.length_append, List.length_cons, List.length_nil, iv_length, hl0_0]) (by first | rfl | simp only [List.length_append, List.length_cons, List.length_nil, iv_length, hl0_2])) (by first | rfl | simp only [List.length_append, List.length_cons, List.length_nil, iv_length, hl0_2]))) ?_
    refine HL.val Wanted.none (fun wq sq => (Runs.fieldAddr (off := 0) (p := 0) fld26_0 rfl rfl rfl)) ?_
    refine HL.val Wanted.none (fun wq sq => (Runs.load_mid row23 rfl sq (i := 3) rfl (part_mid (pre := (([] : List Value))) (mid := (iv .u8 l2_0)) (post := (([.int .u64 a2_1] : List Value))) (by first | rfl | simp only [List.append_assoc, List.append_nil, List.nil_append, List.cons_append]) (by first | rfl | simp only [List.length_append, List.length_cons, List.length_nil, iv_length]) (by first | rfl | simp only [List.length_append, List.length_cons, List.length_nil, iv_length, hl2_0])) (by first | rfl | simp only [List.length_append, List.length_cons, List.length_nil, iv_length, hl2_0]))) ?_
    refine HL.val Wanted.none (fun wq sq => (Runs.eql_arr arr23 eqg23 rfl rfl hl0_2 hl2_0 rfl)) ?_
    refine HL.val Wanted.none (fun wq sq => (Runs.eqb Tryd.underlying4 rfl rfl rfl)) ?_
    refine HL.val Wanted.none (fun wq sq => (Runs.move rfl)) ?_
    obtain ⟨c_270, H⟩ := H
    have h_271 : (((strOfNums (prt r_166 (IntKind.i64.wrap (40 * 1)) (IntKind.i64.wrap ((IntKind.i64.wrap (40 * 1)) + 32)))).toList == (strOfNums (prt r_176 (IntKind.i64.wrap (40 * 1)) (IntKind.i64.wrap ((IntKind.i64.wrap (40 * 1)) + 32)))).toList) == (l0_2 == l2_0)) = true := (beq_iff_eq.mpr c_270)
    refine HL.on ?_ ?_; exact Wanted.guard (dj := 87) (by rfl) (evb (by rfl) h_271) (by rfl)
    refine HL.val Wanted.none (fun wq sq => (Runs.move rfl)) ?_
    refine HL.on ?_ ?_; exact Wanted.guard (dj := 87) (by rfl) (evb (by rfl) h_271) (by rfl)
    refine HL.val Wanted.none (fun wq sq => (Runs.move rfl)) ?_
    refine HL.on ?_ ?_; exact Wanted.guard (dj := 87) (by rfl) (evb (by rfl) h_271) (by rfl)
    refine HL.val Wanted.none (fun wq sq => (Runs.mul rfl rfl rfl)) ?_
    refine HL.on ?_ ?_; exact Wanted.guard (dj := 87) (by rfl) (evb (by rfl) h_271) (by rfl)
    refine HL.val Wanted.none (fun wq sq => (Runs.add rfl rfl rfl)) ?_
    refine HL.on ?_ ?_; exact Wanted.guard (dj := 87) (by rfl) (evb (by rfl) h_271) (by rfl)
    refine HL.val Wanted.none (fun wq sq => (Runs.move rfl)) ?_
    refine HL.on ?_ ?_; exact Wanted.guard (dj := 87) (by rfl) (evb (by rfl) h_271) (by rfl)
    refine HL.val Wanted.none (fun wq sq => (Runs.mul rfl rfl rfl)) ?_
    refine HL.on ?_ ?_; exact Wanted.guard (dj := 87) (by rfl) (evb (by rfl) h_271) (by rfl)
    refine HL.val Wanted.none (fun wq sq => (Runs.add rfl rfl rfl)) ?_
    refine HL.on ?_ ?_; exact Wanted.guard (dj := 87) (by rfl) (evb (by rfl) h_271) (by rfl)
    obtain ⟨⟨p_272, q_273, r_274⟩, H⟩ := H
    have h_281 : n_169 ≤ c_168 := st_243.cap (i := 1) rfl
    have h_282 : (IntKind.i64.wrap ((IntKind.i64.wrap (40 * 1)) + 40)) ≤ (c_168 : Int) := by have := hn_170; omega
    obtain ⟨A_275, e_278⟩ : ∃ B_, B_ = subA A_167 (IntKind.i64.wrap ((IntKind.i64.wrap (40 * 1)) + 32)).toNat c_168 := ⟨_, rfl⟩
    obtain ⟨n_277, e_280⟩ : ∃ n_ : Nat, n_ = (prt r_166 (IntKind.i64.wrap ((IntKind.i64.wrap (40 * 1)) + 32)) (IntKind.i64.wrap ((IntKind.i64.wrap (40 * 1)) + 40))).length := ⟨_, rfl⟩
    obtain ⟨c_276, e_279⟩ : ∃ c_ : Nat, c_ = c_168 - (IntKind.i64.wrap ((IntKind.i64.wrap (40 * 1)) + 32)).toNat := ⟨_, rfl⟩
    have h_283 : n_277 ≤ c_276 := by rw [e_280, prt_length p_272 q_273 r_274]; rw [e_279]; omega
    refine HL.val Wanted.none (fun wq sq => (Runs.slice_lh Tryd.underlying29 cells5 rfl rfl rfl p_272 q_273 h_282 e_278 (N := n_277) (by rw [e_280, prt_length p_272 q_273 r_274]) e_279)) ?_
    refine HL.on ?_ ?_; exact Wanted.guard (dj := 87) (by rfl) (evb (by rfl) h_271) (by rfl)
    refine HL.val Wanted.none (fun wq sq => (Runs.bytes_str Tryd.underlying29 Tryd.underlying5 Tryd.underlying9 rfl ((sq.src_sl (k := 1) rfl).sub_iv p_272 q_273 h_282 e_278) e_280)) ?_
    refine HL.on ?_ ?_; exact Wanted.guard (dj := 87) (by rfl) (evb (by rfl) h_271) (by rfl)
    refine HL.val Wanted.none (fun wq sq => (Runs.move rfl)) ?_
    refine HL.on ?_ ?_; exact Wanted.guard (dj := 87) (by rfl) (evb (by rfl) h_271) (by rfl)
    refine HL.val Wanted.none (fun wq sq => (Runs.move rfl)) ?_
    refine HL.on ?_ ?_; exact Wanted.guard (dj := 87) (by rfl) (evb (by rfl) h_271) (by rfl)
    refine HL.val Wanted.none (fun wq sq => (Runs.mul rfl rfl rfl)) ?_
    refine HL.on ?_ ?_; exact Wanted.guard (dj := 87) (by rfl) (evb (by rfl) h_271) (by rfl)
    refine HL.val Wanted.none (fun wq sq => (Runs.add rfl rfl rfl)) ?_
    refine HL.on ?_ ?_; exact Wanted.guard (dj := 87) (by rfl) (evb (by rfl) h_271) (by rfl)
    refine HL.val Wanted.none (fun wq sq => (Runs.move rfl)) ?_
    refine HL.on ?_ ?_; exact Wanted.guard (dj := 87) (by rfl) (evb (by rfl) h_271) (by rfl)
    refine HL.val Wanted.none (fun wq sq => (Runs.mul rfl rfl rfl)) ?_
    refine HL.on ?_ ?_; exact Wanted.guard (dj := 87) (by rfl) (evb (by rfl) h_271) (by rfl)
    refine HL.val Wanted.none (fun wq sq => (Runs.add rfl rfl rfl)) ?_
    refine HL.on ?_ ?_; exact Wanted.guard (dj := 87) (by rfl) (evb (by rfl) h_271) (by rfl)
    obtain ⟨⟨p_284, q_285, r_286⟩, H⟩ := H
    have h_293 : n_179 ≤ c_178 := st_243.cap (i := 0) rfl
    have h_294 : (IntKind.i64.wrap ((IntKind.i64.wrap (40 * 1)) + 40)) ≤ (c_178 : Int) := by have := hn_180; omega
    obtain ⟨A_287, e_290⟩ : ∃ B_, B_ = subA A_177 (IntKind.i64.wrap ((IntKind.i64.wrap (40 * 1)) + 32)).toNat c_178 := ⟨_, rfl⟩
    obtain ⟨n_289, e_292⟩ : ∃ n_ : Nat, n_ = (prt r_176 (IntKind.i64.wrap ((IntKind.i64.wrap (40 * 1)) + 32)) (IntKind.i64.wrap ((IntKind.i64.wrap (40 * 1)) + 40))).length := ⟨_, rfl⟩
    obtain ⟨c_288, e_291⟩ : ∃ c_ : Nat, c_ = c_178 - (IntKind.i64.wrap ((IntKind.i64.wrap (40 * 1)) + 32)).toNat := ⟨_, rfl⟩
    have h_295 : n_289 ≤ c_288 := by rw [e_292, prt_length p_284 q_285 r_286]; rw [e_291]; omega
    refine HL.val Wanted.none (fun wq sq => (Runs.slice_lh Tryd.underlying29 cells5 rfl rfl rfl p_284 q_285 h_294 e_290 (N := n_289) (by rw [e_292, prt_length p_284 q_285 r_286]) e_291)) ?_
    refine HL.on ?_ ?_; exact Wanted.guard (dj := 87) (by rfl) (evb (by rfl) h_271) (by rfl)
    refine HL.val Wanted.none (fun wq sq => (Runs.bytes_str Tryd.underlying29 Tryd.underlying5 Tryd.underlying9 rfl ((sq.src_sl (k := 0) rfl).sub_iv p_284 q_285 h_294 e_290) e_292)) ?_
    refine HL.on ?_ ?_; exact Wanted.guard (dj := 87) (by rfl) (evb (by rfl) h_271) (by rfl)
    refine HL.val Wanted.none (fun wq sq => (Runs.eqs rfl rfl rfl)) ?_
    refine HL.on ?_ ?_; exact Wanted.guard (dj := 87) (by rfl) (evb (by rfl) h_271) (by rfl)
    refine HL.val Wanted.none (fun wq sq => (Runs.move rfl)) ?_
    refine HL.on ?_ ?_; exact Wanted.guard (dj := 87) (by rfl) (evb (by rfl) h_271) (by rfl)
    refine HL.val Wanted.none (fun wq sq => (Runs.indexAddr_row (p := 33) Tryd.underlying28 siz26 rfl rfl (by decide) (by decide) rfl)) ?_
    refine HL.on ?_ ?_; exact Wanted.guard (dj := 87) (by rfl) (evb (by rfl) h_271) (by rfl)
    refine HL.val Wanted.none (fun wq sq => (Runs.fieldAddr (off := 32) (p := 65) fld26_1 rfl rfl rfl)) ?_
    refine HL.on ?_ ?_; exact Wanted.guard (dj := 87) (by rfl) (evb (by rfl) h_271) (by rfl)
    refine HL.val Wanted.none (fun wq sq => (Runs.load nagg24 rfl (sq.cell (k := 4) rfl (part_one (u := .int .u64 a0_3) (pre := (iv .u8 l0_0 ++ (([.int .u64 a0_1] : List Value) ++ iv .u8 l0_2))) (post := (iv .u8 l0_4 ++ (([.int .u64 a0_5] : List Value) ++ (iv .u8 l0_6 ++ ([.int .u64 a0_7] : List Value))))) (by first | rfl | simp only [List.append_assoc, List.append_nil, List.nil_append, List.cons_append]) (by first | rfl | simp only [List.length_append, List.length_cons, List.length_nil, iv_length, hl0_0, hl0_2]))))) ?_
    refine HL.on ?_ ?_; exact Wanted.guard (dj := 87) (by rfl) (evb (by rfl) h_271) (by rfl)
    refine HL.val Wanted.none (fun wq sq => (Runs.fieldAddr (off := 32) (p := 32) fld26_1 rfl rfl rfl)) ?_
    refine HL.on ?_ ?_; exact Wanted.guard (dj := 87) (by rfl) (evb (by rfl) h_271) (by rfl)
    refine HL.val Wanted.none (fun wq sq => (Runs.load nagg24 rfl (sq.cell (k := 3) rfl (part_one (u := .int .u64 a2_1) (pre := (iv .u8 l2_0)) (post := (([] : List Value))) (by first | rfl | simp only [List.append_assoc, List.append_nil, List.nil_append, List.cons_append]) (by first | rfl | simp only [List.length_append, List.length_cons, List.length_nil, iv_length, hl2_0]))))) ?_
    refine HL.on ?_ ?_; exact Wanted.guard (dj := 87) (by rfl) (evb (by rfl) h_271) (by rfl)
    refine HL.val Wanted.none (fun wq sq => (Runs.eql rfl rfl rfl)) ?_
    refine HL.on ?_ ?_; exact Wanted.guard (dj := 87) (by rfl) (evb (by rfl) h_271) (by rfl)
    refine HL.val Wanted.none (fun wq sq => (Runs.eqb Tryd.underlying4 rfl rfl rfl)) ?_
    refine HL.val Wanted.none (fun wq sq => (Runs.pick_t (evb rfl h_271) rfl)) ?_
    refine HL.val Wanted.none (fun wq sq => (Runs.assign rfl)) ?_
    refine HL.nil (fun w_296 st_297 => ?_)
    refine WL.nil ?_
    refine QW.then_n ?_
    refine CW.sub [(6, .bool (((strOfNums (prt r_166 (IntKind.i64.wrap ((IntKind.i64.wrap (40 * 1)) + 32)) (IntKind.i64.wrap ((IntKind.i64.wrap (40 * 1)) + 40)))).toList == (strOfNums (prt r_176 (IntKind.i64.wrap ((IntKind.i64.wrap (40 * 1)) + 32)) (IntKind.i64.wrap ((IntKind.i64.wrap (40 * 1)) + 40)))).toList) == (a0_3 == a2_1)))] ⟨rfl, trivial⟩ ?_
    refine CW.ret ?_
    have hz : (((strOfNums (prt r_166 (IntKind.i64.wrap ((IntKind.i64.wrap (40 * 1)) + 32)) (IntKind.i64.wrap ((IntKind.i64.wrap (40 * 1)) + 40)))).toList == (strOfNums (prt r_176 (IntKind.i64.wrap ((IntKind.i64.wrap (40 * 1)) + 32)) (IntKind.i64.wrap ((IntKind.i64.wrap (40 * 1)) + 40)))).toList) == (a0_3 == a2_1)) = true := (beq_iff_eq.mpr H)
    exact QW.ret1 rfl (evb rfl hz) ⟨rfl, st_297.ext⟩
  · rw [c_19]
    refine WL.val Wanted.none (Runs.indexAddr_row (p := 66) Tryd.underlying28 siz26 rfl rfl (by decide) (by decide) rfl) ?_
    refine WL.store_mid (i := 0) (pre := (iv .u8 l0_0 ++ (([.int .u64 a0_1] : List Value) ++ (iv .u8 l0_2 ++ ([.int .u64 a0_3] : List Value))))) (mid := (iv .u8 l0_4 ++ ([.int .u64 a0_5] : List Value))) (post := (iv .u8 l0_6 ++ ([.int .u64 a0_7] : List Value))) (ms := (iv .u8 l2_0 ++ ([.int .u64 a2_1] : List Value))) st_18 rfl row26 (by first | rfl | simp only [List.append_assoc, List.append_nil, List.nil_append, List.cons_append]) (by first | rfl | simp only [List.length_append, List.length_cons, List.length_nil, iv_length, hl0_0, hl0_2]) rfl rfl (by first | rfl | simp only [List.length_append, List.length_cons, List.length_nil, iv_length, hl2_0]) (by first | rfl | simp only [List.length_append, List.length_cons, List.length_nil, iv_length, hl0_4]) (by intro u hu; simp only [List.mem_append, List.mem_singleton] at hu; rcases hu with hu | hu <;> first | exact one_iv _ _ u hu | (subst hu; rfl)) ?_
    intro w_300 st_301
    replace st_301 : St w w_300 [.cells B_13 (iv .u8 l0_0 ++ (([.int .u64 a0_1] : List Value) ++ (iv .u8 l0_2 ++ (([.int .u64 a0_3] : List Value) ++ (iv .u8 l2_0 ++ (([.int .u64 a2_1] : List Value) ++ (iv .u8 l0_6 ++ ([.int .u64 a0_7] : List Value)))))))) 28, .cells B_5 (iv .u8 l2_0 ++ ([.int .u64 a2_1] : List Value)) 26, .cells B_1 (iv .u8 l0_0 ++ (([.int .u64 a0_1] : List Value) ++ (iv .u8 l0_2 ++ (([.int .u64 a0_3] : List Value) ++ (iv .u8 l0_4 ++ (([.int .u64 a0_5] : List Value) ++ (iv .u8 l0_6 ++ ([.int .u64 a0_7] : List Value)))))))) 28] := by have e_ : (iv .u8 l0_0 ++ (([.int .u64 a0_1] : List Value) ++ (iv .u8 l0_2 ++ (([.int .u64 a0_3] : List Value) ++ (iv .u8 l2_0 ++ (([.int .u64 a2_1] : List Value) ++ (iv .u8 l0_6 ++ ([.int .u64 a0_7] : List Value)))))))) = (iv .u8 l0_0 ++ (([.int .u64 a0_1] : List Value) ++ (iv .u8 l0_2 ++ ([.int .u64 a0_3] : List Value)))) ++ ((iv .u8 l2_0 ++ ([.int .u64 a2_1] : List Value)) ++ (iv .u8 l0_6 ++ ([.int .u64 a0_7] : List Value))) := (by first | rfl | simp only [List.append_assoc, List.append_nil, List.nil_append, List.cons_append]); have h_ : St w w_300 [.cells B_13 ((iv .u8 l0_0 ++ (([.int .u64 a0_1] : List Value) ++ (iv .u8 l0_2 ++ ([.int .u64 a0_3] : List Value)))) ++ ((iv .u8 l2_0 ++ ([.int .u64 a2_1] : List Value)) ++ (iv .u8 l0_6 ++ ([.int .u64 a0_7] : List Value)))) 28, .cells B_5 (iv .u8 l2_0 ++ ([.int .u64 a2_1] : List Value)) 26, .cells B_1 (iv .u8 l0_0 ++ (([.int .u64 a0_1] : List Value) ++ (iv .u8 l0_2 ++ (([.int .u64 a0_3] : List Value) ++ (iv .u8 l0_4 ++ (([.int .u64 a0_5] : List Value) ++ (iv .u8 l0_6 ++ ([.int .u64 a0_7] : List Value)))))))) 28] := st_301; rw [← e_] at h_; exact h_
    refine WL.nil ?_
    refine QW.then_n ?_
    refine CW.sub [(3, .pointer (some ⟨B_1, 0, none⟩)), (5, .pointer (some ⟨B_5, 0, none⟩)), (6, .bool false), (8, .int .i64 2), (9, .pointer (some ⟨B_13, 0, none⟩))] ⟨rfl, rfl, rfl, rfl, rfl, trivial⟩ ?_
    refine CW.seq ?_
    refine CW.region ?_
    refine WL.val Wanted.none (Runs.load_mid row28 rfl st_301 (i := 2) rfl (part_mid (pre := (([] : List Value))) (mid := (iv .u8 l0_0 ++ (([.int .u64 a0_1] : List Value) ++ (iv .u8 l0_2 ++ (([.int .u64 a0_3] : List Value) ++ (iv .u8 l0_4 ++ (([.int .u64 a0_5] : List Value) ++ (iv .u8 l0_6 ++ ([.int .u64 a0_7] : List Value))))))))) (post := (([] : List Value))) (by first | rfl | simp only [List.append_assoc, List.append_nil, List.nil_append, List.cons_append]) (by first | rfl | simp only [List.length_append, List.length_cons, List.length_nil, iv_length]) (by first | rfl | simp only [List.length_append, List.length_cons, List.length_nil, iv_length, hl0_0, hl0_2, hl0_4, hl0_6])) (by first | rfl | simp only [List.length_append, List.length_cons, List.length_nil, iv_length, hl0_0, hl0_2, hl0_4, hl0_6])) ?_
    obtain ⟨r_306, hr_302, H⟩ := H
    refine WL.call Wanted.none ent9 rfl (tree_Put.calls w_300 l0_0 a0_1 l0_2 a0_3 l0_4 a0_5 l0_6 a0_7 hl0_0 hl0_2 hl0_4 hl0_6 r_306 hr_302) ?_
    rintro _ w_303 ⟨A_307, c_308, n_309, hn_310, rfl, sc_305⟩
    have st_304 : St w w_303 [.sl A_307 c_308 n_309 (iv .u8 r_306) 5 1, .cells B_13 (iv .u8 l0_0 ++ (([.int .u64 a0_1] : List Value) ++ (iv .u8 l0_2 ++ (([.int .u64 a0_3] : List Value) ++ (iv .u8 l2_0 ++ (([.int .u64 a2_1] : List Value) ++ (iv .u8 l0_6 ++ ([.int .u64 a0_7] : List Value)))))))) 28, .cells B_5 (iv .u8 l2_0 ++ ([.int .u64 a2_1] : List Value)) 26, .cells B_1 (iv .u8 l0_0 ++ (([.int .u64 a0_1] : List Value) ++ (iv .u8 l0_2 ++ (([.int .u64 a0_3] : List Value) ++ (iv .u8 l0_4 ++ (([.int .u64 a0_5] : List Value) ++ (iv .u8 l0_6 ++ ([.int .u64 a0_7] : List Value)))))))) 28] := st_301.call sc_305
    refine ⟨_, rfl, ?_⟩
    refine WL.val Wanted.none (Runs.assign rfl) ?_
    refine WL.nil ?_
    refine QW.then_n ?_
    refine CW.seq ?_
    refine CW.region ?_
    refine WL.val Wanted.none (Runs.load_mid row28 rfl st_304 (i := 1) rfl (part_mid (pre := (([] : List Value))) (mid := (iv .u8 l0_0 ++ (([.int .u64 a0_1] : List Value) ++ (iv .u8 l0_2 ++ (([.int .u64 a0_3] : List Value) ++ (iv .u8 l2_0 ++ (([.int .u64 a2_1] : List Value) ++ (iv .u8 l0_6 ++ ([.int .u64 a0_7] : List Value))))))))) (post := (([] : List Value))) (by first | rfl | simp only [List.append_assoc, List.append_nil, List.nil_append, List.cons_append]) (by first | rfl | simp only [List.length_append, List.length_cons, List.length_nil, iv_length]) (by first | rfl | simp only [List.length_append, List.length_cons, List.length_nil, iv_length, hl0_0, hl0_2, hl2_0, hl0_6])) (by first | rfl | simp only [List.length_append, List.length_cons, List.length_nil, iv_length, hl0_0, hl0_2, hl2_0, hl0_6])) ?_
    obtain ⟨r_316, hr_312, H⟩ := H
    refine WL.call Wanted.none ent9 rfl (tree_Put.calls w_303 l0_0 a0_1 l0_2 a0_3 l2_0 a2_1 l0_6 a0_7 hl0_0 hl0_2 hl2_0 hl0_6 r_316 hr_312) ?_
    rintro _ w_313 ⟨A_317, c_318, n_319, hn_320, rfl, sc_315⟩
    have st_314 : St w w_313 [.sl A_317 c_318 n_319 (iv .u8 r_316) 5 1, .sl A_307 c_308 n_309 (iv .u8 r_306) 5 1, .cells B_13 (iv .u8 l0_0 ++ (([.int .u64 a0_1] : List Value) ++ (iv .u8 l0_2 ++ (([.int .u64 a0_3] : List Value) ++ (iv .u8 l2_0 ++ (([.int .u64 a2_1] : List Value) ++ (iv .u8 l0_6 ++ ([.int .u64 a0_7] : List Value)))))))) 28, .cells B_5 (iv .u8 l2_0 ++ ([.int .u64 a2_1] : List Value)) 26, .cells B_1 (iv .u8 l0_0 ++ (([.int .u64 a0_1] : List Value) ++ (iv .u8 l0_2 ++ (([.int .u64 a0_3] : List Value) ++ (iv .u8 l0_4 ++ (([.int .u64 a0_5] : List Value) ++ (iv .u8 l0_6 ++ ([.int .u64 a0_7] : List Value)))))))) 28] := st_304.call sc_315
    refine ⟨_, rfl, ?_⟩
    refine WL.val Wanted.none (Runs.assign rfl) ?_
    refine WL.nil ?_
    refine QW.then_n ?_
    refine CW.seq ?_
    refine CW.seq ?_
    refine CW.region_qa wide (by kernel_rfl) st_314 ?_
    refine HL.val Wanted.none (fun wq sq => (Runs.move rfl)) ?_
    refine HL.val Wanted.none (fun wq sq => (Runs.len_sl Tryd.underlying29 rfl (by rw [hn_310]))) ?_
    refine HL.val Wanted.none (fun wq sq => (Runs.neq rfl rfl rfl)) ?_
    refine HL.val Wanted.none (fun wq sq => (Runs.move rfl)) ?_
    obtain ⟨c_322, H⟩ := H
    have h_323 : ((r_306.length : Int) != 160) = false := (bne_eq_false_iff_eq.mpr (Decidable.not_not.mp c_322))
    refine HL.on ?_ ?_; exact Wanted.guard (dj := 29) (by rfl) (evb (by rfl) h_323) (by rfl)
    refine HL.val Wanted.none (fun wq sq => (Runs.move rfl)) ?_
    refine HL.on ?_ ?_; exact Wanted.guard (dj := 29) (by rfl) (evb (by rfl) h_323) (by rfl)
    refine HL.val Wanted.none (fun wq sq => (Runs.len_sl Tryd.underlying29 rfl (by rw [hn_320]))) ?_
    refine HL.on ?_ ?_; exact Wanted.guard (dj := 29) (by rfl) (evb (by rfl) h_323) (by rfl)
    refine HL.val Wanted.none (fun wq sq => (Runs.neq rfl rfl rfl)) ?_
    refine HL.val Wanted.none (fun wq sq => (Runs.pick_f (evb rfl h_323) rfl)) ?_
    refine HL.val Wanted.none (fun wq sq => (Runs.move rfl)) ?_
    obtain ⟨c_326, H⟩ := H
    have h_327 : ((r_316.length : Int) != 160) = false := (bne_eq_false_iff_eq.mpr (Decidable.not_not.mp c_326))
    refine HL.on ?_ ?_; exact Wanted.guard (dj := 34) (by rfl) (evb (by rfl) h_327) (by rfl)
    refine HL.val Wanted.none (fun wq sq => (Runs.move rfl)) ?_
    refine HL.on ?_ ?_; exact Wanted.guard (dj := 34) (by rfl) (evb (by rfl) h_327) (by rfl)
    refine HL.val Wanted.none (fun wq sq => (Runs.move rfl)) ?_
    refine HL.on ?_ ?_; exact Wanted.guard (dj := 34) (by rfl) (evb (by rfl) h_327) (by rfl)
    refine HL.val Wanted.none (fun wq sq => (Runs.mul rfl rfl rfl)) ?_
    refine HL.on ?_ ?_; exact Wanted.guard (dj := 34) (by rfl) (evb (by rfl) h_327) (by rfl)
    obtain ⟨⟨p_330, q_331, r_332⟩, H⟩ := H
    have h_339 : n_309 ≤ c_308 := st_314.cap (i := 1) rfl
    have h_340 : (IntKind.i64.wrap (40 * 2)) ≤ (c_308 : Int) := by have := hn_310; omega
    obtain ⟨A_333, e_336⟩ : ∃ B_, B_ = subA A_307 ((0 : Int)).toNat c_308 := ⟨_, rfl⟩
    obtain ⟨n_335, e_338⟩ : ∃ n_ : Nat, n_ = (prt r_306 (0 : Int) (IntKind.i64.wrap (40 * 2))).length := ⟨_, rfl⟩
    have h_341 : n_335 ≤ c_308 := by rw [e_338, prt_length p_330 q_331 r_332]; omega
    refine HL.val Wanted.none (fun wq sq => (Runs.slice_h Tryd.underlying29 cells5 rfl rfl q_331 h_340 e_336 (N := n_335) (by rw [e_338, prt_length p_330 q_331 r_332]; rfl))) ?_
    refine HL.on ?_ ?_; exact Wanted.guard (dj := 34) (by rfl) (evb (by rfl) h_327) (by rfl)
    refine HL.val Wanted.none (fun wq sq => (Runs.bytes_str Tryd.underlying29 Tryd.underlying5 Tryd.underlying9 rfl ((sq.src_sl (k := 1) rfl).sub_iv p_330 q_331 h_340 e_336) e_338)) ?_
    refine HL.on ?_ ?_; exact Wanted.guard (dj := 34) (by rfl) (evb (by rfl) h_327) (by rfl)
    refine HL.val Wanted.none (fun wq sq => (Runs.move rfl)) ?_
    refine HL.on ?_ ?_; exact Wanted.guard (dj := 34) (by rfl) (evb (by rfl) h_327) (by rfl)
    refine HL.val Wanted.none (fun wq sq => (Runs.move rfl)) ?_
    refine HL.on ?_ ?_; exact Wanted.guard (dj := 34) (by rfl) (evb (by rfl) h_327) (by rfl)
    refine HL.val Wanted.none (fun wq sq => (Runs.mul rfl rfl rfl)) ?_
    refine HL.on ?_ ?_; exact Wanted.guard (dj := 34) (by rfl) (evb (by rfl) h_327) (by rfl)
    obtain ⟨⟨p_342, q_343, r_344⟩, H⟩ := H
    have h_351 : n_319 ≤ c_318 := st_314.cap (i := 0) rfl
    have h_352 : (IntKind.i64.wrap (40 * 2)) ≤ (c_318 : Int) := by have := hn_320; omega
    obtain ⟨A_345, e_348⟩ : ∃ B_, B_ = subA A_317 ((0 : Int)).toNat c_318 := ⟨_, rfl⟩
    obtain ⟨n_347, e_350⟩ : ∃ n_ : Nat, n_ = (prt r_316 (0 : Int) (IntKind.i64.wrap (40 * 2))).length := ⟨_, rfl⟩
    have h_353 : n_347 ≤ c_318 := by rw [e_350, prt_length p_342 q_343 r_344]; omega
    refine HL.val Wanted.none (fun wq sq => (Runs.slice_h Tryd.underlying29 cells5 rfl rfl q_343 h_352 e_348 (N := n_347) (by rw [e_350, prt_length p_342 q_343 r_344]; rfl))) ?_
    refine HL.on ?_ ?_; exact Wanted.guard (dj := 34) (by rfl) (evb (by rfl) h_327) (by rfl)
    refine HL.val Wanted.none (fun wq sq => (Runs.bytes_str Tryd.underlying29 Tryd.underlying5 Tryd.underlying9 rfl ((sq.src_sl (k := 0) rfl).sub_iv p_342 q_343 h_352 e_348) e_350)) ?_
    refine HL.on ?_ ?_; exact Wanted.guard (dj := 34) (by rfl) (evb (by rfl) h_327) (by rfl)
    refine HL.val Wanted.none (fun wq sq => (Runs.nes rfl rfl rfl)) ?_
    refine HL.val Wanted.none (fun wq sq => (Runs.pick_f (evb rfl h_327) rfl)) ?_
    refine HL.val Wanted.none (fun wq sq => (Runs.move rfl)) ?_
    obtain ⟨c_354, H⟩ := H
    have h_355 : (!((strOfNums (prt r_306 (0 : Int) (IntKind.i64.wrap (40 * 2)))).toList == (strOfNums (prt r_316 (0 : Int) (IntKind.i64.wrap (40 * 2)))).toList)) = false := (not_f (beq_iff_eq.mpr (Decidable.not_not.mp c_354)))
    refine HL.on ?_ ?_; exact Wanted.guard (dj := 47) (by rfl) (evb (by rfl) h_355) (by rfl)
    refine HL.val Wanted.none (fun wq sq => (Runs.move rfl)) ?_
    refine HL.on ?_ ?_; exact Wanted.guard (dj := 47) (by rfl) (evb (by rfl) h_355) (by rfl)
    refine HL.val Wanted.none (fun wq sq => (Runs.move rfl)) ?_
    refine HL.on ?_ ?_; exact Wanted.guard (dj := 47) (by rfl) (evb (by rfl) h_355) (by rfl)
    refine HL.val Wanted.none (fun wq sq => (Runs.mul rfl rfl rfl)) ?_
    refine HL.on ?_ ?_; exact Wanted.guard (dj := 47) (by rfl) (evb (by rfl) h_355) (by rfl)
    refine HL.val Wanted.none (fun wq sq => (Runs.add rfl rfl rfl)) ?_
    refine HL.on ?_ ?_; exact Wanted.guard (dj := 47) (by rfl) (evb (by rfl) h_355) (by rfl)
    obtain ⟨⟨p_358, q_359, r_360⟩, H⟩ := H
    have h_367 : n_309 ≤ c_308 := st_314.cap (i := 1) rfl
    have h_368 : (r_306.length : Int) ≤ (c_308 : Int) := by have := hn_310; omega
    obtain ⟨A_361, e_364⟩ : ∃ B_, B_ = subA A_307 (IntKind.i64.wrap ((IntKind.i64.wrap (40 * 2)) + 40)).toNat c_308 := ⟨_, rfl⟩
    obtain ⟨n_363, e_366⟩ : ∃ n_ : Nat, n_ = (prt r_306 (IntKind.i64.wrap ((IntKind.i64.wrap (40 * 2)) + 40)) (r_306.length : Int)).length := ⟨_, rfl⟩
    obtain ⟨c_362, e_365⟩ : ∃ c_ : Nat, c_ = c_308 - (IntKind.i64.wrap ((IntKind.i64.wrap (40 * 2)) + 40)).toNat := ⟨_, rfl⟩
    have h_369 : n_363 ≤ c_362 := by rw [e_366, prt_length p_358 q_359 r_360]; rw [e_365]; omega
    refine HL.val Wanted.none (fun wq sq => (Runs.slice_l Tryd.underlying29 cells5 rfl rfl p_358 (by have := hn_310; omega) e_364 (N := n_363) (by rw [e_366, prt_length p_358 q_359 r_360]; rw [hn_310]; rfl) e_365)) ?_
    refine HL.on ?_ ?_; exact Wanted.guard (dj := 47) (by rfl) (evb (by rfl) h_355) (by rfl)
    refine HL.val Wanted.none (fun wq sq => (Runs.bytes_str Tryd.underlying29 Tryd.underlying5 Tryd.underlying9 rfl ((sq.src_sl (k := 1) rfl).sub_iv p_358 q_359 h_368 e_364) e_366)) ?_
    refine HL.on ?_ ?_; exact Wanted.guard (dj := 47) (by rfl) (evb (by rfl) h_355) (by rfl)
    refine HL.val Wanted.none (fun wq sq => (Runs.move rfl)) ?_
    refine HL.on ?_ ?_; exact Wanted.guard (dj := 47) (by rfl) (evb (by rfl) h_355) (by rfl)
    refine HL.val Wanted.none (fun wq sq => (Runs.move rfl)) ?_
    refine HL.on ?_ ?_; exact Wanted.guard (dj := 47) (by rfl) (evb (by rfl) h_355) (by rfl)
    refine HL.val Wanted.none (fun wq sq => (Runs.mul rfl rfl rfl)) ?_
    refine HL.on ?_ ?_; exact Wanted.guard (dj := 47) (by rfl) (evb (by rfl) h_355) (by rfl)
    refine HL.val Wanted.none (fun wq sq => (Runs.add rfl rfl rfl)) ?_
    refine HL.on ?_ ?_; exact Wanted.guard (dj := 47) (by rfl) (evb (by rfl) h_355) (by rfl)
    obtain ⟨⟨p_370, q_371, r_372⟩, H⟩ := H
    have h_379 : n_319 ≤ c_318 := st_314.cap (i := 0) rfl
    have h_380 : (r_316.length : Int) ≤ (c_318 : Int) := by have := hn_320; omega
    obtain ⟨A_373, e_376⟩ : ∃ B_, B_ = subA A_317 (IntKind.i64.wrap ((IntKind.i64.wrap (40 * 2)) + 40)).toNat c_318 := ⟨_, rfl⟩
    obtain ⟨n_375, e_378⟩ : ∃ n_ : Nat, n_ = (prt r_316 (IntKind.i64.wrap ((IntKind.i64.wrap (40 * 2)) + 40)) (r_316.length : Int)).length := ⟨_, rfl⟩
    obtain ⟨c_374, e_377⟩ : ∃ c_ : Nat, c_ = c_318 - (IntKind.i64.wrap ((IntKind.i64.wrap (40 * 2)) + 40)).toNat := ⟨_, rfl⟩
    have h_381 : n_375 ≤ c_374 := by rw [e_378, prt_length p_370 q_371 r_372]; rw [e_377]; omega
    refine HL.val Wanted.none (fun wq sq => (Runs.slice_l Tryd.underlying29 cells5 rfl rfl p_370 (by have := hn_320; omega) e_376 (N := n_375) (by rw [e_378, prt_length p_370 q_371 r_372]; rw [hn_320]; rfl) e_377)) ?_
    refine HL.on ?_ ?_; exact Wanted.guard (dj := 47) (by rfl) (evb (by rfl) h_355) (by rfl)
    refine HL.val Wanted.none (fun wq sq => (Runs.bytes_str Tryd.underlying29 Tryd.underlying5 Tryd.underlying9 rfl ((sq.src_sl (k := 0) rfl).sub_iv p_370 q_371 h_380 e_376) e_378)) ?_
    refine HL.on ?_ ?_; exact Wanted.guard (dj := 47) (by rfl) (evb (by rfl) h_355) (by rfl)
    refine HL.val Wanted.none (fun wq sq => (Runs.nes rfl rfl rfl)) ?_
    refine HL.val Wanted.none (fun wq sq => (Runs.pick_f (evb rfl h_355) rfl)) ?_
    refine HL.nil (fun w_382 st_383 => ?_)
    refine WL.nil ?_
    refine QW.then_n ?_
    refine CW.sub [(3, .pointer (some ⟨B_1, 0, none⟩)), (5, .pointer (some ⟨B_5, 0, none⟩)), (6, .bool false), (8, .int .i64 2), (10, .slice A_307 n_309 c_308), (11, .slice A_317 n_319 c_318), (61, .bool (!((strOfNums (prt r_306 (IntKind.i64.wrap ((IntKind.i64.wrap (40 * 2)) + 40)) (r_306.length : Int))).toList == (strOfNums (prt r_316 (IntKind.i64.wrap ((IntKind.i64.wrap (40 * 2)) + 40)) (r_316.length : Int))).toList)))] ⟨rfl, rfl, rfl, rfl, rfl, rfl, rfl, trivial⟩ ?_
    obtain ⟨c_384, H⟩ := H
    have h_385 : (!((strOfNums (prt r_306 (IntKind.i64.wrap ((IntKind.i64.wrap (40 * 2)) + 40)) (r_306.length : Int))).toList == (strOfNums (prt r_316 (IntKind.i64.wrap ((IntKind.i64.wrap (40 * 2)) + 40)) (r_316.length : Int))).toList)) = false := (not_f (beq_iff_eq.mpr (Decidable.not_not.mp c_384)))
    refine CW.cf rfl h_385 ?_
    refine CW.skip ?_
    refine QW.then_n ?_
    refine CW.seq ?_
    refine CW.region_qa wide (by kernel_rfl) st_383 ?_
    refine HL.val Wanted.none (fun wq sq => (Runs.move rfl)) ?_
    refine HL.val Wanted.none (fun wq sq => (Runs.move rfl)) ?_
    refine HL.val Wanted.none (fun wq sq => (Runs.mul rfl rfl rfl)) ?_
    refine HL.val Wanted.none (fun wq sq => (Runs.move rfl)) ?_
    refine HL.val Wanted.none (fun wq sq => (Runs.mul rfl rfl rfl)) ?_
    refine HL.val Wanted.none (fun wq sq => (Runs.add rfl rfl rfl)) ?_
    obtain ⟨⟨p_386, q_387, r_388⟩, H⟩ := H
    have h_395 : n_309 ≤ c_308 := st_383.cap (i := 1) rfl
    have h_396 : (IntKind.i64.wrap ((IntKind.i64.wrap (40 * 2)) + 32)) ≤ (c_308 : Int) := by have := hn_310; omega
    obtain ⟨A_389, e_392⟩ : ∃ B_, B_ = subA A_307 (IntKind.i64.wrap (40 * 2)).toNat c_308 := ⟨_, rfl⟩
    obtain ⟨n_391, e_394⟩ : ∃ n_ : Nat, n_ = (prt r_306 (IntKind.i64.wrap (40 * 2)) (IntKind.i64.wrap ((IntKind.i64.wrap (40 * 2)) + 32))).length := ⟨_, rfl⟩
    obtain ⟨c_390, e_393⟩ : ∃ c_ : Nat, c_ = c_308 - (IntKind.i64.wrap (40 * 2)).toNat := ⟨_, rfl⟩
    have h_397 : n_391 ≤ c_390 := by rw [e_394, prt_length p_386 q_387 r_388]; rw [e_393]; omega
    refine HL.val Wanted.none (fun wq sq => (Runs.slice_lh Tryd.underlying29 cells5 rfl rfl rfl p_386 q_387 h_396 e_392 (N := n_391) (by rw [e_394, prt_length p_386 q_387 r_388]) e_393)) ?_
    refine HL.val Wanted.none (fun wq sq => (Runs.bytes_str Tryd.underlying29 Tryd.underlying5 Tryd.underlying9 rfl ((sq.src_sl (k := 1) rfl).sub_iv p_386 q_387 h_396 e_392) e_394)) ?_
    refine HL.val Wanted.none (fun wq sq => (Runs.move rfl)) ?_
    refine HL.val Wanted.none (fun wq sq => (Runs.move rfl)) ?_
    refine HL.val Wanted.none (fun wq sq => (Runs.mul rfl rfl rfl)) ?_
    refine HL.val Wanted.none (fun wq sq => (Runs.move rfl)) ?_
    refine HL.val Wanted.none (fun wq sq => (Runs.mul rfl rfl rfl)) ?_
    refine HL.val Wanted.none (fun wq sq => (Runs.add rfl rfl rfl)) ?_
    obtain ⟨⟨p_398, q_399, r_400⟩, H⟩ := H
    have h_407 : n_319 ≤ c_318 := st_383.cap (i := 0) rfl
    have h_408 : (IntKind.i64.wrap ((IntKind.i64.wrap (40 * 2)) + 32)) ≤ (c_318 : Int) := by have := hn_320; omega
    obtain ⟨A_401, e_404⟩ : ∃ B_, B_ = subA A_317 (IntKind.i64.wrap (40 * 2)).toNat c_318 := ⟨_, rfl⟩
    obtain ⟨n_403, e_406⟩ : ∃ n_ : Nat, n_ = (prt r_316 (IntKind.i64.wrap (40 * 2)) (IntKind.i64.wrap ((IntKind.i64.wrap (40 * 2)) + 32))).length := ⟨_, rfl⟩
    obtain ⟨c_402, e_405⟩ : ∃ c_ : Nat, c_ = c_318 - (IntKind.i64.wrap (40 * 2)).toNat := ⟨_, rfl⟩
    have h_409 : n_403 ≤ c_402 := by rw [e_406, prt_length p_398 q_399 r_400]; rw [e_405]; omega
    refine HL.val Wanted.none (fun wq sq => (Runs.slice_lh Tryd.underlying29 cells5 rfl rfl rfl p_398 q_399 h_408 e_404 (N := n_403) (by rw [e_406, prt_length p_398 q_399 r_400]) e_405)) ?_
    refine HL.val Wanted.none (fun wq sq => (Runs.bytes_str Tryd.underlying29 Tryd.underlying5 Tryd.underlying9 rfl ((sq.src_sl (k := 0) rfl).sub_iv p_398 q_399 h_408 e_404) e_406)) ?_
    refine HL.val Wanted.none (fun wq sq => (Runs.eqs rfl rfl rfl)) ?_
    refine HL.val Wanted.none (fun wq sq => (Runs.move rfl)) ?_
    refine HL.val Wanted.none (fun wq sq => (Runs.indexAddr_row (p := 66) Tryd.underlying28 siz26 rfl rfl (by decide) (by decide) rfl)) ?_
    refine HL.val Wanted.none (fun wq sq => (Runs.fieldAddr (off := 0) (p := 66) fld26_0 rfl rfl rfl)) ?_
    refine HL.val Wanted.none (fun wq sq => (Runs.load_mid row23 rfl sq (i := 4) rfl (part_mid (pre := (iv .u8 l0_0 ++ (([.int .u64 a0_1] : List Value) ++ (iv .u8 l0_2 ++ ([.int .u64 a0_3] : List Value))))) (mid := (iv .u8 l0_4)) (post := (([.int .u64 a0_5] : List Value) ++ (iv .u8 l0_6 ++ ([.int .u64 a0_7] : List Value)))) (by first | rfl | simp only [List.append_assoc, List.append_nil, List.nil_append, List.cons_append]) (by first | rfl | simp only [List.length_append, List.length_cons, List.length_nil, iv_length, hl0_0, hl0_2]) (by first | rfl | simp only [List.length_append, List.length_cons, List.length_nil, iv_length, hl0_4])) (by first | rfl | simp only [List.length_append, List.length_cons, List.length_nil, iv_length, hl0_4]))) ?_
    refine HL.val Wanted.none (fun wq sq => (Runs.fieldAddr (off := 0) (p := 0) fld26_0 rfl rfl rfl)) ?_
    refine HL.val Wanted.none (fun wq sq => (Runs.load_mid row23 rfl sq (i := 3) rfl (part_mid (pre := (([] : List Value))) (mid := (iv .u8 l2_0)) (post := (([.int .u64 a2_1] : List Value))) (by first | rfl | simp only [List.append_assoc, List.append_nil, List.nil_append, List.cons_append]) (by first | rfl | simp only [List.length_append, List.length_cons, List.length_nil, iv_length]) (by first | rfl | simp only [List.length_append, List.length_cons, List.length_nil, iv_length, hl2_0])) (by first | rfl | simp only [List.length_append, List.length_cons, List.length_nil, iv_length, hl2_0]))) ?_
    refine HL.val Wanted.none (fun wq sq => (Runs.eql_arr arr23 eqg23 rfl rfl hl0_4 hl2_0 rfl)) ?_
    refine HL.val Wanted.none (fun wq sq => (Runs.eqb Tryd.underlying4 rfl rfl rfl)) ?_
    refine HL.val Wanted.none (fun wq sq => (Runs.move rfl)) ?_
    obtain ⟨c_410, H⟩ := H
    have h_411 : (((strOfNums (prt r_306 (IntKind.i64.wrap (40 * 2)) (IntKind.i64.wrap ((IntKind.i64.wrap (40 * 2)) + 32)))).toList == (strOfNums (prt r_316 (IntKind.i64.wrap (40 * 2)) (IntKind.i64.wrap ((IntKind.i64.wrap (40 * 2)) + 32)))).toList) == (l0_4 == l2_0)) = true := (beq_iff_eq.mpr c_410)
    refine HL.on ?_ ?_; exact Wanted.guard (dj := 87) (by rfl) (evb (by rfl) h_411) (by rfl)
    refine HL.val Wanted.none (fun wq sq => (Runs.move rfl)) ?_
    refine HL.on ?_ ?_; exact Wanted.guard (dj := 87) (by rfl) (evb (by rfl) h_411) (by rfl)
    refine HL.val Wanted.none (fun wq sq => (Runs.move rfl)) ?_
    refine HL.on ?_ ?_; exact Wanted.guard (dj := 87) (by rfl) (evb (by rfl) h_411) (by rfl)
    refine HL.val Wanted.none (fun wq sq => (Runs.mul rfl rfl rfl)) ?_
    refine HL.on ?_ ?_; exact Wanted.guard (dj := 87) (by rfl) (evb (by rfl) h_411) (by rfl)
    refine HL.val Wanted.none (fun wq sq => (Runs.add rfl rfl rfl)) ?_
    refine HL.on ?_ ?_; exact Wanted.guard (dj := 87) (by rfl) (evb (by rfl) h_411) (by rfl)
    refine HL.val Wanted.none (fun wq sq => (Runs.move rfl)) ?_
    refine HL.on ?_ ?_; exact Wanted.guard (dj := 87) (by rfl) (evb (by rfl) h_411) (by rfl)
    refine HL.val Wanted.none (fun wq sq => (Runs.mul rfl rfl rfl)) ?_
    refine HL.on ?_ ?_; exact Wanted.guard (dj := 87) (by rfl) (evb (by rfl) h_411) (by rfl)
    refine HL.val Wanted.none (fun wq sq => (Runs.add rfl rfl rfl)) ?_
    refine HL.on ?_ ?_; exact Wanted.guard (dj := 87) (by rfl) (evb (by rfl) h_411) (by rfl)
    obtain ⟨⟨p_412, q_413, r_414⟩, H⟩ := H
    have h_421 : n_309 ≤ c_308 := st_383.cap (i := 1) rfl
    have h_422 : (IntKind.i64.wrap ((IntKind.i64.wrap (40 * 2)) + 40)) ≤ (c_308 : Int) := by have := hn_310; omega
    obtain ⟨A_415, e_418⟩ : ∃ B_, B_ = subA A_307 (IntKind.i64.wrap ((IntKind.i64.wrap (40 * 2)) + 32)).toNat c_308 := ⟨_, rfl⟩
    obtain ⟨n_417, e_420⟩ : ∃ n_ : Nat, n_ = (prt r_306 (IntKind.i64.wrap ((IntKind.i64.wrap (40 * 2)) + 32)) (IntKind.i64.wrap ((IntKind.i64.wrap (40 * 2)) + 40))).length := ⟨_, rfl⟩
    obtain ⟨c_416, e_419⟩ : ∃ c_ : Nat, c_ = c_308 - (IntKind.i64.wrap ((IntKind.i64.wrap (40 * 2)) + 32)).toNat := ⟨_, rfl⟩
    have h_423 : n_417 ≤ c_416 := by rw [e_420, prt_length p_412 q_413 r_414]; rw [e_419]; omega
    refine HL.val Wanted.none (fun wq sq => (Runs.slice_lh Tryd.underlying29 cells5 rfl rfl rfl p_412 q_413 h_422 e_418 (N := n_417) (by rw [e_420, prt_length p_412 q_413 r_414]) e_419)) ?_
    refine HL.on ?_ ?_; exact Wanted.guard (dj := 87) (by rfl) (evb (by rfl) h_411) (by rfl)
    refine HL.val Wanted.none (fun wq sq => (Runs.bytes_str Tryd.underlying29 Tryd.underlying5 Tryd.underlying9 rfl ((sq.src_sl (k := 1) rfl).sub_iv p_412 q_413 h_422 e_418) e_420)) ?_
    refine HL.on ?_ ?_; exact Wanted.guard (dj := 87) (by rfl) (evb (by rfl) h_411) (by rfl)
    refine HL.val Wanted.none (fun wq sq => (Runs.move rfl)) ?_
    refine HL.on ?_ ?_; exact Wanted.guard (dj := 87) (by rfl) (evb (by rfl) h_411) (by rfl)
    refine HL.val Wanted.none (fun wq sq => (Runs.move rfl)) ?_
    refine HL.on ?_ ?_; exact Wanted.guard (dj := 87) (by rfl) (evb (by rfl) h_411) (by rfl)
    refine HL.val Wanted.none (fun wq sq => (Runs.mul rfl rfl rfl)) ?_
    refine HL.on ?_ ?_; exact Wanted.guard (dj := 87) (by rfl) (evb (by rfl) h_411) (by rfl)
    refine HL.val Wanted.none (fun wq sq => (Runs.add rfl rfl rfl)) ?_
    refine HL.on ?_ ?_; exact Wanted.guard (dj := 87) (by rfl) (evb (by rfl) h_411) (by rfl)
    refine HL.val Wanted.none (fun wq sq => (Runs.move rfl)) ?_
    refine HL.on ?_ ?_; exact Wanted.guard (dj := 87) (by rfl) (evb (by rfl) h_411) (by rfl)
    refine HL.val Wanted.none (fun wq sq => (Runs.mul rfl rfl rfl)) ?_
    refine HL.on ?_ ?_; exact Wanted.guard (dj := 87) (by rfl) (evb (by rfl) h_411) (by rfl)
    refine HL.val Wanted.none (fun wq sq => (Runs.add rfl rfl rfl)) ?_
    refine HL.on ?_ ?_; exact Wanted.guard (dj := 87) (by rfl) (evb (by rfl) h_411) (by rfl)
    obtain ⟨⟨p_424, q_425, r_426⟩, H⟩ := H
    have h_433 : n_319 ≤ c_318 := st_383.cap (i := 0) rfl
    have h_434 : (IntKind.i64.wrap ((IntKind.i64.wrap (40 * 2)) + 40)) ≤ (c_318 : Int) := by have := hn_320; omega
    obtain ⟨A_427, e_430⟩ : ∃ B_, B_ = subA A_317 (IntKind.i64.wrap ((IntKind.i64.wrap (40 * 2)) + 32)).toNat c_318 := ⟨_, rfl⟩
    obtain ⟨n_429, e_432⟩ : ∃ n_ : Nat, n_ = (prt r_316 (IntKind.i64.wrap ((IntKind.i64.wrap (40 * 2)) + 32)) (IntKind.i64.wrap ((IntKind.i64.wrap (40 * 2)) + 40))).length := ⟨_, rfl⟩
    obtain ⟨c_428, e_431⟩ : ∃ c_ : Nat, c_ = c_318 - (IntKind.i64.wrap ((IntKind.i64.wrap (40 * 2)) + 32)).toNat := ⟨_, rfl⟩
    have h_435 : n_429 ≤ c_428 := by rw [e_432, prt_length p_424 q_425 r_426]; rw [e_431]; omega
    refine HL.val Wanted.none (fun wq sq => (Runs.slice_lh Tryd.underlying29 cells5 rfl rfl rfl p_424 q_425 h_434 e_430 (N := n_429) (by rw [e_432, prt_length p_424 q_425 r_426]) e_431)) ?_
    refine HL.on ?_ ?_; exact Wanted.guard (dj := 87) (by rfl) (evb (by rfl) h_411) (by rfl)
    refine HL.val Wanted.none (fun wq sq => (Runs.bytes_str Tryd.underlying29 Tryd.underlying5 Tryd.underlying9 rfl ((sq.src_sl (k := 0) rfl).sub_iv p_424 q_425 h_434 e_430) e_432)) ?_
    refine HL.on ?_ ?_; exact Wanted.guard (dj := 87) (by rfl) (evb (by rfl) h_411) (by rfl)
    refine HL.val Wanted.none (fun wq sq => (Runs.eqs rfl rfl rfl)) ?_
    refine HL.on ?_ ?_; exact Wanted.guard (dj := 87) (by rfl) (evb (by rfl) h_411) (by rfl)
    refine HL.val Wanted.none (fun wq sq => (Runs.move rfl)) ?_
    refine HL.on ?_ ?_; exact Wanted.guard (dj := 87) (by rfl) (evb (by rfl) h_411) (by rfl)
    refine HL.val Wanted.none (fun wq sq => (Runs.indexAddr_row (p := 66) Tryd.underlying28 siz26 rfl rfl (by decide) (by decide) rfl)) ?_
    refine HL.on ?_ ?_; exact Wanted.guard (dj := 87) (by rfl) (evb (by rfl) h_411) (by rfl)
    refine HL.val Wanted.none (fun wq sq => (Runs.fieldAddr (off := 32) (p := 98) fld26_1 rfl rfl rfl)) ?_
    refine HL.on ?_ ?_; exact Wanted.guard (dj := 87) (by rfl) (evb (by rfl) h_411) (by rfl)
    refine HL.val Wanted.none (fun wq sq => (Runs.load nagg24 rfl (sq.cell (k := 4) rfl (part_one (u := .int .u64 a0_5) (pre := (iv .u8 l0_0 ++ (([.int .u64 a0_1] : List Value) ++ (iv .u8 l0_2 ++ (([.int .u64 a0_3] : List Value) ++ iv .u8 l0_4))))) (post := (iv .u8 l0_6 ++ ([.int .u64 a0_7] : List Value))) (by first | rfl | simp only [List.append_assoc, List.append_nil, List.nil_append, List.cons_append]) (by first | rfl | simp only [List.length_append, List.length_cons, List.length_nil, iv_length, hl0_0, hl0_2, hl0_4]))))) ?_
    refine HL.on ?_ ?_; exact Wanted.guard (dj := 87) (by rfl) (evb (by rfl) h_411) (by rfl)
    refine HL.val Wanted.none (fun wq sq => (Runs.fieldAddr (off := 32) (p := 32) fld26_1 rfl rfl rfl)) ?_
    refine HL.on ?_ ?_; exact Wanted.guard (dj := 87) (by rfl) (evb (by rfl) h_411) (by rfl)
    refine HL.val Wanted.none (fun wq sq => (Runs.load nagg24 rfl (sq.cell (k := 3) rfl (part_one (u := .int .u64 a2_1) (pre := (iv .u8 l2_0)) (post := (([] : List Value))) (by first | rfl | simp only [List.append_assoc, List.append_nil, List.nil_append, List.cons_append]) (by first | rfl | simp only [List.length_append, List.length_cons, List.length_nil, iv_length, hl2_0]))))) ?_
    refine HL.on ?_ ?_; exact Wanted.guard (dj := 87) (by rfl) (evb (by rfl) h_411) (by rfl)
    refine HL.val Wanted.none (fun wq sq => (Runs.eql rfl rfl rfl)) ?_
    refine HL.on ?_ ?_; exact Wanted.guard (dj := 87) (by rfl) (evb (by rfl) h_411) (by rfl)
    refine HL.val Wanted.none (fun wq sq => (Runs.eqb Tryd.underlying4 rfl rfl rfl)) ?_
    refine HL.val Wanted.none (fun wq sq => (Runs.pick_t (evb rfl h_411) rfl)) ?_
    refine HL.val Wanted.none (fun wq sq => (Runs.assign rfl)) ?_
    refine HL.nil (fun w_436 st_437 => ?_)
    refine WL.nil ?_
    refine QW.then_n ?_
    refine CW.sub [(6, .bool (((strOfNums (prt r_306 (IntKind.i64.wrap ((IntKind.i64.wrap (40 * 2)) + 32)) (IntKind.i64.wrap ((IntKind.i64.wrap (40 * 2)) + 40)))).toList == (strOfNums (prt r_316 (IntKind.i64.wrap ((IntKind.i64.wrap (40 * 2)) + 32)) (IntKind.i64.wrap ((IntKind.i64.wrap (40 * 2)) + 40)))).toList) == (a0_5 == a2_1)))] ⟨rfl, trivial⟩ ?_
    refine CW.ret ?_
    have hz : (((strOfNums (prt r_306 (IntKind.i64.wrap ((IntKind.i64.wrap (40 * 2)) + 32)) (IntKind.i64.wrap ((IntKind.i64.wrap (40 * 2)) + 40)))).toList == (strOfNums (prt r_316 (IntKind.i64.wrap ((IntKind.i64.wrap (40 * 2)) + 32)) (IntKind.i64.wrap ((IntKind.i64.wrap (40 * 2)) + 40)))).toList) == (a0_5 == a2_1)) = true := (beq_iff_eq.mpr H)
    exact QW.ret1 rfl (evb rfl hz) ⟨rfl, st_437.ext⟩
  · rw [c_19]
    refine WL.val Wanted.none (Runs.indexAddr_row (p := 99) Tryd.underlying28 siz26 rfl rfl (by decide) (by decide) rfl) ?_
    refine WL.store_mid (i := 0) (pre := (iv .u8 l0_0 ++ (([.int .u64 a0_1] : List Value) ++ (iv .u8 l0_2 ++ (([.int .u64 a0_3] : List Value) ++ (iv .u8 l0_4 ++ ([.int .u64 a0_5] : List Value))))))) (mid := (iv .u8 l0_6 ++ ([.int .u64 a0_7] : List Value))) (post := (([] : List Value))) (ms := (iv .u8 l2_0 ++ ([.int .u64 a2_1] : List Value))) st_18 rfl row26 (by first | rfl | simp only [List.append_assoc, List.append_nil, List.nil_append, List.cons_append]) (by first | rfl | simp only [List.length_append, List.length_cons, List.length_nil, iv_length, hl0_0, hl0_2, hl0_4]) rfl rfl (by first | rfl | simp only [List.length_append, List.length_cons, List.length_nil, iv_length, hl2_0]) (by first | rfl | simp only [List.length_append, List.length_cons, List.length_nil, iv_length, hl0_6]) (by intro u hu; simp only [List.mem_append, List.mem_singleton] at hu; rcases hu with hu | hu <;> first | exact one_iv _ _ u hu | (subst hu; rfl)) ?_
    intro w_440 st_441
    replace st_441 : St w w_440 [.cells B_13 (iv .u8 l0_0 ++ (([.int .u64 a0_1] : List Value) ++ (iv .u8 l0_2 ++ (([.int .u64 a0_3] : List Value) ++ (iv .u8 l0_4 ++ (([.int .u64 a0_5] : List Value) ++ (iv .u8 l2_0 ++ ([.int .u64 a2_1] : List Value)))))))) 28, .cells B_5 (iv .u8 l2_0 ++ ([.int .u64 a2_1] : List Value)) 26, .cells B_1 (iv .u8 l0_0 ++ (([.int .u64 a0_1] : List Value) ++ (iv .u8 l0_2 ++ (([.int .u64 a0_3] : List Value) ++ (iv .u8 l0_4 ++ (([.int .u64 a0_5] : List Value) ++ (iv .u8 l0_6 ++ ([.int .u64 a0_7] : List Value)))))))) 28] := by have e_ : (iv .u8 l0_0 ++ (([.int .u64 a0_1] : List Value) ++ (iv .u8 l0_2 ++ (([.int .u64 a0_3] : List Value) ++ (iv .u8 l0_4 ++ (([.int .u64 a0_5] : List Value) ++ (iv .u8 l2_0 ++ ([.int .u64 a2_1] : List Value)))))))) = (iv .u8 l0_0 ++ (([.int .u64 a0_1] : List Value) ++ (iv .u8 l0_2 ++ (([.int .u64 a0_3] : List Value) ++ (iv .u8 l0_4 ++ ([.int .u64 a0_5] : List Value)))))) ++ ((iv .u8 l2_0 ++ ([.int .u64 a2_1] : List Value)) ++ (([] : List Value))) := (by first | rfl | simp only [List.append_assoc, List.append_nil, List.nil_append, List.cons_append]); have h_ : St w w_440 [.cells B_13 ((iv .u8 l0_0 ++ (([.int .u64 a0_1] : List Value) ++ (iv .u8 l0_2 ++ (([.int .u64 a0_3] : List Value) ++ (iv .u8 l0_4 ++ ([.int .u64 a0_5] : List Value)))))) ++ ((iv .u8 l2_0 ++ ([.int .u64 a2_1] : List Value)) ++ (([] : List Value)))) 28, .cells B_5 (iv .u8 l2_0 ++ ([.int .u64 a2_1] : List Value)) 26, .cells B_1 (iv .u8 l0_0 ++ (([.int .u64 a0_1] : List Value) ++ (iv .u8 l0_2 ++ (([.int .u64 a0_3] : List Value) ++ (iv .u8 l0_4 ++ (([.int .u64 a0_5] : List Value) ++ (iv .u8 l0_6 ++ ([.int .u64 a0_7] : List Value)))))))) 28] := st_441; rw [← e_] at h_; exact h_
    refine WL.nil ?_
    refine QW.then_n ?_
    refine CW.sub [(3, .pointer (some ⟨B_1, 0, none⟩)), (5, .pointer (some ⟨B_5, 0, none⟩)), (6, .bool false), (8, .int .i64 3), (9, .pointer (some ⟨B_13, 0, none⟩))] ⟨rfl, rfl, rfl, rfl, rfl, trivial⟩ ?_
    refine CW.seq ?_
    refine CW.region ?_
    refine WL.val Wanted.none (Runs.load_mid row28 rfl st_441 (i := 2) rfl (part_mid (pre := (([] : List Value))) (mid := (iv .u8 l0_0 ++ (([.int .u64 a0_1] : List Value) ++ (iv .u8 l0_2 ++ (([.int .u64 a0_3] : List Value) ++ (iv .u8 l0_4 ++ (([.int .u64 a0_5] : List Value) ++ (iv .u8 l0_6 ++ ([.int .u64 a0_7] : List Value))))))))) (post := (([] : List Value))) (by first | rfl | simp only [List.append_assoc, List.append_nil, List.nil_append, List.cons_append]) (by first | rfl | simp only [List.length_append, List.length_cons, List.length_nil, iv_length]) (by first | rfl | simp only [List.length_append, List.length_cons, List.length_nil, iv_length, hl0_0, hl0_2, hl0_4, hl0_6])) (by first | rfl | simp only [List.length_append, List.length_cons, List.length_nil, iv_length, hl0_0, hl0_2, hl0_4, hl0_6])) ?_
    obtain ⟨r_446, hr_442, H⟩ := H
    refine WL.call Wanted.none ent9 rfl (tree_Put.calls w_440 l0_0 a0_1 l0_2 a0_3 l0_4 a0_5 l0_6 a0_7 hl0_0 hl0_2 hl0_4 hl0_6 r_446 hr_442) ?_
    rintro _ w_443 ⟨A_447, c_448, n_449, hn_450, rfl, sc_445⟩
    have st_444 : St w w_443 [.sl A_447 c_448 n_449 (iv .u8 r_446) 5 1, .cells B_13 (iv .u8 l0_0 ++ (([.int .u64 a0_1] : List Value) ++ (iv .u8 l0_2 ++ (([.int .u64 a0_3] : List Value) ++ (iv .u8 l0_4 ++ (([.int .u64 a0_5] : List Value) ++ (iv .u8 l2_0 ++ ([.int .u64 a2_1] : List Value)))))))) 28, .cells B_5 (iv .u8 l2_0 ++ ([.int .u64 a2_1] : List Value)) 26, .cells B_1 (iv .u8 l0_0 ++ (([.int .u64 a0_1] : List Value) ++ (iv .u8 l0_2 ++ (([.int .u64 a0_3] : List Value) ++ (iv .u8 l0_4 ++ (([.int .u64 a0_5] : List Value) ++ (iv .u8 l0_6 ++ ([.int .u64 a0_7] : List Value)))))))) 28] := st_441.call sc_445
    refine ⟨_, rfl, ?_⟩
    refine WL.val Wanted.none (Runs.assign rfl) ?_
    refine WL.nil ?_
    refine QW.then_n ?_
    refine CW.seq ?_
    refine CW.region ?_
    refine WL.val Wanted.none (Runs.load_mid row28 rfl st_444 (i := 1) rfl (part_mid (pre := (([] : List Value))) (mid := (iv .u8 l0_0 ++ (([.int .u64 a0_1] : List Value) ++ (iv .u8 l0_2 ++ (([.int .u64 a0_3] : List Value) ++ (iv .u8 l0_4 ++ (([.int .u64 a0_5] : List Value) ++ (iv .u8 l2_0 ++ ([.int .u64 a2_1] : List Value))))))))) (post := (([] : List Value))) (by first | rfl | simp only [List.append_assoc, List.append_nil, List.nil_append, List.cons_append]) (by first | rfl | simp only [List.length_append, List.length_cons, List.length_nil, iv_length]) (by first | rfl | simp only [List.length_append, List.length_cons, List.length_nil, iv_length, hl0_0, hl0_2, hl0_4, hl2_0])) (by first | rfl | simp only [List.length_append, List.length_cons, List.length_nil, iv_length, hl0_0, hl0_2, hl0_4, hl2_0])) ?_
    obtain ⟨r_456, hr_452, H⟩ := H
    refine WL.call Wanted.none ent9 rfl (tree_Put.calls w_443 l0_0 a0_1 l0_2 a0_3 l0_4 a0_5 l2_0 a2_1 hl0_0 hl0_2 hl0_4 hl2_0 r_456 hr_452) ?_
    rintro _ w_453 ⟨A_457, c_458, n_459, hn_460, rfl, sc_455⟩
    have st_454 : St w w_453 [.sl A_457 c_458 n_459 (iv .u8 r_456) 5 1, .sl A_447 c_448 n_449 (iv .u8 r_446) 5 1, .cells B_13 (iv .u8 l0_0 ++ (([.int .u64 a0_1] : List Value) ++ (iv .u8 l0_2 ++ (([.int .u64 a0_3] : List Value) ++ (iv .u8 l0_4 ++ (([.int .u64 a0_5] : List Value) ++ (iv .u8 l2_0 ++ ([.int .u64 a2_1] : List Value)))))))) 28, .cells B_5 (iv .u8 l2_0 ++ ([.int .u64 a2_1] : List Value)) 26, .cells B_1 (iv .u8 l0_0 ++ (([.int .u64 a0_1] : List Value) ++ (iv .u8 l0_2 ++ (([.int .u64 a0_3] : List Value) ++ (iv .u8 l0_4 ++ (([.int .u64 a0_5] : List Value) ++ (iv .u8 l0_6 ++ ([.int .u64 a0_7] : List Value)))))))) 28] := st_444.call sc_455
    refine ⟨_, rfl, ?_⟩
    refine WL.val Wanted.none (Runs.assign rfl) ?_
    refine WL.nil ?_
    refine QW.then_n ?_
    refine CW.seq ?_
    refine CW.seq ?_
    refine CW.region_qa wide (by kernel_rfl) st_454 ?_
    refine HL.val Wanted.none (fun wq sq => (Runs.move rfl)) ?_
    refine HL.val Wanted.none (fun wq sq => (Runs.len_sl Tryd.underlying29 rfl (by rw [hn_450]))) ?_
    refine HL.val Wanted.none (fun wq sq => (Runs.neq rfl rfl rfl)) ?_
    refine HL.val Wanted.none (fun wq sq => (Runs.move rfl)) ?_
    obtain ⟨c_462, H⟩ := H
    have h_463 : ((r_446.length : Int) != 160) = false := (bne_eq_false_iff_eq.mpr (Decidable.not_not.mp c_462))
    refine HL.on ?_ ?_; exact Wanted.guard (dj := 29) (by rfl) (evb (by rfl) h_463) (by rfl)
    refine HL.val Wanted.none (fun wq sq => (Runs.move rfl)) ?_
    refine HL.on ?_ ?_; exact Wanted.guard (dj := 29) (by rfl) (evb (by rfl) h_463) (by rfl)
    refine HL.val Wanted.none (fun wq sq => (Runs.len_sl Tryd.underlying29 rfl (by rw [hn_460]))) ?_
    refine HL.on ?_ ?_; exact Wanted.guard (dj := 29) (by rfl) (evb (by rfl) h_463) (by rfl)
    refine HL.val Wanted.none (fun wq sq => (Runs.neq rfl rfl rfl)) ?_
    refine HL.val Wanted.none (fun wq sq => (Runs.pick_f (evb rfl h_463) rfl)) ?_
    refine HL.val Wanted.none (fun wq sq => (Runs.move rfl)) ?_
    obtain ⟨c_466, H⟩ := H
    have h_467 : ((r_456.length : Int) != 160) = false := (bne_eq_false_iff_eq.mpr (Decidable.not_not.mp c_466))
    refine HL.on ?_ ?_; exact Wanted.guard (dj := 34) (by rfl) (evb (by rfl) h_467) (by rfl)
    refine HL.val Wanted.none (fun wq sq => (Runs.move rfl)) ?_
    refine HL.on ?_ ?_; exact Wanted.guard (dj := 34) (by rfl) (evb (by rfl) h_467) (by rfl)
    refine HL.val Wanted.none (fun wq sq => (Runs.move rfl)) ?_
    refine HL.on ?_ ?_; exact Wanted.guard (dj := 34) (by rfl) (evb (by rfl) h_467) (by rfl)
    refine HL.val Wanted.none (fun wq sq => (Runs.mul rfl rfl rfl)) ?_
    refine HL.on ?_ ?_; exact Wanted.guard (dj := 34) (by rfl) (evb (by rfl) h_467) (by rfl)
    obtain ⟨⟨p_470, q_471, r_472⟩, H⟩ := H
    have h_479 : n_449 ≤ c_448 := st_454.cap (i := 1) rfl
    have h_480 : (IntKind.i64.wrap (40 * 3)) ≤ (c_448 : Int) := by have := hn_450; omega
    obtain ⟨A_473, e_476⟩ : ∃ B_, B_ = subA A_447 ((0 : Int)).toNat c_448 := ⟨_, rfl⟩
    obtain ⟨n_475, e_478⟩ : ∃ n_ : Nat, n_ = (prt r_446 (0 : Int) (IntKind.i64.wrap (40 * 3))).length := ⟨_, rfl⟩
    have h_481 : n_475 ≤ c_448 := by rw [e_478, prt_length p_470 q_471 r_472]; omega
    refine HL.val Wanted.none (fun wq sq => (Runs.slice_h Tryd.underlying29 cells5 rfl rfl q_471 h_480 e_476 (N := n_475) (by rw [e_478, prt_length p_470 q_471 r_472]; rfl))) ?_
    refine HL.on ?_ ?_; exact Wanted.guard (dj := 34) (by rfl) (evb (by rfl) h_467) (by rfl)
    refine HL.val Wanted.none (fun wq sq => (Runs.bytes_str Tryd.underlying29 Tryd.underlying5 Tryd.underlying9 rfl ((sq.src_sl (k := 1) rfl).sub_iv p_470 q_471 h_480 e_476) e_478)) ?_
    refine HL.on ?_ ?_; exact Wanted.guard (dj := 34) (by rfl) (evb (by rfl) h_467) (by rfl)
    refine HL.val Wanted.none (fun wq sq => (Runs.move rfl)) ?_
    refine HL.on ?_ ?_; exact Wanted.guard (dj := 34) (by rfl) (evb (by rfl) h_467) (by rfl)
    refine HL.val Wanted.none (fun wq sq => (Runs.move rfl)) ?_
    refine HL.on ?_ ?_; exact Wanted.guard (dj := 34) (by rfl) (evb (by rfl) h_467) (by rfl)
    refine HL.val Wanted.none (fun wq sq => (Runs.mul rfl rfl rfl)) ?_
    refine HL.on ?_ ?_; exact Wanted.guard (dj := 34) (by rfl) (evb (by rfl) h_467) (by rfl)
    obtain ⟨⟨p_482, q_483, r_484⟩, H⟩ := H
    have h_491 : n_459 ≤ c_458 := st_454.cap (i := 0) rfl
    have h_492 : (IntKind.i64.wrap (40 * 3)) ≤ (c_458 : Int) := by have := hn_460; omega
    obtain ⟨A_485, e_488⟩ : ∃ B_, B_ = subA A_457 ((0 : Int)).toNat c_458 := ⟨_, rfl⟩
    obtain ⟨n_487, e_490⟩ : ∃ n_ : Nat, n_ = (prt r_456 (0 : Int) (IntKind.i64.wrap (40 * 3))).length := ⟨_, rfl⟩
    have h_493 : n_487 ≤ c_458 := by rw [e_490, prt_length p_482 q_483 r_484]; omega
    refine HL.val Wanted.none (fun wq sq => (Runs.slice_h Tryd.underlying29 cells5 rfl rfl q_483 h_492 e_488 (N := n_487) (by rw [e_490, prt_length p_482 q_483 r_484]; rfl))) ?_
    refine HL.on ?_ ?_; exact Wanted.guard (dj := 34) (by rfl) (evb (by rfl) h_467) (by rfl)
    refine HL.val Wanted.none (fun wq sq => (Runs.bytes_str Tryd.underlying29 Tryd.underlying5 Tryd.underlying9 rfl ((sq.src_sl (k := 0) rfl).sub_iv p_482 q_483 h_492 e_488) e_490)) ?_
    refine HL.on ?_ ?_; exact Wanted.guard (dj := 34) (by rfl) (evb (by rfl) h_467) (by rfl)
    refine HL.val Wanted.none (fun wq sq => (Runs.nes rfl rfl rfl)) ?_
    refine HL.val Wanted.none (fun wq sq => (Runs.pick_f (evb rfl h_467) rfl)) ?_
    refine HL.val Wanted.none (fun wq sq => (Runs.move rfl)) ?_
    obtain ⟨c_494, H⟩ := H
    have h_495 : (!((strOfNums (prt r_446 (0 : Int) (IntKind.i64.wrap (40 * 3)))).toList == (strOfNums (prt r_456 (0 : Int) (IntKind.i64.wrap (40 * 3)))).toList)) = false := (not_f (beq_iff_eq.mpr (Decidable.not_not.mp c_494)))
    refine HL.on ?_ ?_; exact Wanted.guard (dj := 47) (by rfl) (evb (by rfl) h_495) (by rfl)
    refine HL.val Wanted.none (fun wq sq => (Runs.move rfl)) ?_
    refine HL.on ?_ ?_; exact Wanted.guard (dj := 47) (by rfl) (evb (by rfl) h_495) (by rfl)
    refine HL.val Wanted.none (fun wq sq => (Runs.move rfl)) ?_
    refine HL.on ?_ ?_; exact Wanted.guard (dj := 47) (by rfl) (evb (by rfl) h_495) (by rfl)
    refine HL.val Wanted.none (fun wq sq => (Runs.mul rfl rfl rfl)) ?_
    refine HL.on ?_ ?_; exact Wanted.guard (dj := 47) (by rfl) (evb (by rfl) h_495) (by rfl)
    refine HL.val Wanted.none (fun wq sq => (Runs.add rfl rfl rfl)) ?_
    refine HL.on ?_ ?_; exact Wanted.guard (dj := 47) (by rfl) (evb (by rfl) h_495) (by rfl)
    obtain ⟨⟨p_498, q_499, r_500⟩, H⟩ := H
    have h_507 : n_449 ≤ c_448 := st_454.cap (i := 1) rfl
    have h_508 : (r_446.length : Int) ≤ (c_448 : Int) := by have := hn_450; omega
    obtain ⟨A_501, e_504⟩ : ∃ B_, B_ = subA A_447 (IntKind.i64.wrap ((IntKind.i64.wrap (40 * 3)) + 40)).toNat c_448 := ⟨_, rfl⟩
    obtain ⟨n_503, e_506⟩ : ∃ n_ : Nat, n_ = (prt r_446 (IntKind.i64.wrap ((IntKind.i64.wrap (40 * 3)) + 40)) (r_446.length : Int)).length := ⟨_, rfl⟩
    obtain ⟨c_502, e_505⟩ : ∃ c_ : Nat, c_ = c_448 - (IntKind.i64.wrap ((IntKind.i64.wrap (40 * 3)) + 40)).toNat := ⟨_, rfl⟩
    have h_509 : n_503 ≤ c_502 := by rw [e_506, prt_length p_498 q_499 r_500]; rw [e_505]; omega
    refine HL.val Wanted.none (fun wq sq => (Runs.slice_l Tryd.underlying29 cells5 rfl rfl p_498 (by have := hn_450; omega) e_504 (N := n_503) (by rw [e_506, prt_length p_498 q_499 r_500]; rw [hn_450]; rfl) e_505)) ?_
    refine HL.on ?_ ?_; exact Wanted.guard (dj := 47) (by rfl) (evb (by rfl) h_495) (by rfl)
    refine HL.val Wanted.none (fun wq sq => (Runs.bytes_str Tryd.underlying29 Tryd.underlying5 Tryd.underlying9 rfl ((sq.src_sl (k := 1) rfl).sub_iv p_498 q_499 h_508 e_504) e_506)) ?_
    refine HL.on ?_ ?_; exact Wanted.guard (dj := 47) (by rfl) (evb (by rfl) h_495) (by rfl)
    refine HL.val Wanted.none (fun wq sq => (Runs.move rfl)) ?_
    refine HL.on ?_ ?_; exact Wanted.guard (dj := 47) (by rfl) (evb (by rfl) h_495) (by rfl)
    refine HL.val Wanted.none (fun wq sq => (Runs.move rfl)) ?_
    refine HL.on ?_ ?_; exact Wanted.guard (dj := 47) (by rfl) (evb (by rfl) h_495) (by rfl)
    refine HL.val Wanted.none (fun wq sq => (Runs.mul rfl rfl rfl)) ?_
    refine HL.on ?_ ?_; exact Wanted.guard (dj := 47) (by rfl) (evb (by rfl) h_495) (by rfl)
    refine HL.val Wanted.none (fun wq sq => (Runs.add rfl rfl rfl)) ?_
    refine HL.on ?_ ?_; exact Wanted.guard (dj := 47) (by rfl) (evb (by rfl) h_495) (by rfl)
    obtain ⟨⟨p_510, q_511, r_512⟩, H⟩ := H
    have h_519 : n_459 ≤ c_458 := st_454.cap (i := 0) rfl
    have h_520 : (r_456.length : Int) ≤ (c_458 : Int) := by have := hn_460; omega
    obtain ⟨A_513, e_516⟩ : ∃ B_, B_ = subA A_457 (IntKind.i64.wrap ((IntKind.i64.wrap (40 * 3)) + 40)).toNat c_458 := ⟨_, rfl⟩
    obtain ⟨n_515, e_518⟩ : ∃ n_ : Nat, n_ = (prt r_456 (IntKind.i64.wrap ((IntKind.i64.wrap (40 * 3)) + 40)) (r_456.length : Int)).length := ⟨_, rfl⟩
    obtain ⟨c_514, e_517⟩ : ∃ c_ : Nat, c_ = c_458 - (IntKind.i64.wrap ((IntKind.i64.wrap (40 * 3)) + 40)).toNat := ⟨_, rfl⟩
    have h_521 : n_515 ≤ c_514 := by rw [e_518, prt_length p_510 q_511 r_512]; rw [e_517]; omega
    refine HL.val Wanted.none (fun wq sq => (Runs.slice_l Tryd.underlying29 cells5 rfl rfl p_510 (by have := hn_460; omega) e_516 (N := n_515) (by rw [e_518, prt_length p_510 q_511 r_512]; rw [hn_460]; rfl) e_517)) ?_
    refine HL.on ?_ ?_; exact Wanted.guard (dj := 47) (by rfl) (evb (by rfl) h_495) (by rfl)
    refine HL.val Wanted.none (fun wq sq => (Runs.bytes_str Tryd.underlying29 Tryd.underlying5 Tryd.underlying9 rfl ((sq.src_sl (k := 0) rfl).sub_iv p_510 q_511 h_520 e_516) e_518)) ?_
    refine HL.on ?_ ?_; exact Wanted.guard (dj := 47) (by rfl) (evb (by rfl) h_495) (by rfl)
    refine HL.val Wanted.none (fun wq sq => (Runs.nes rfl rfl rfl)) ?_
    refine HL.val Wanted.none (fun wq sq => (Runs.pick_f (evb rfl h_495) rfl)) ?_
    refine HL.nil (fun w_522 st_523 => ?_)
    refine WL.nil ?_
    refine QW.then_n ?_
    refine CW.sub [(3, .pointer (some ⟨B_1, 0, none⟩)), (5, .pointer (some ⟨B_5, 0, none⟩)), (6, .bool false), (8, .int .i64 3), (10, .slice A_447 n_449 c_448), (11, .slice A_457 n_459 c_458), (61, .bool (!((strOfNums (prt r_446 (IntKind.i64.wrap ((IntKind.i64.wrap (40 * 3)) + 40)) (r_446.length : Int))).toList == (strOfNums (prt r_456 (IntKind.i64.wrap ((IntKind.i64.wrap (40 * 3)) + 40)) (r_456.length : Int))).toList)))] ⟨rfl, rfl, rfl, rfl, rfl, rfl, rfl, trivial⟩ ?_
    obtain ⟨c_524, H⟩ := H
    have h_525 : (!((strOfNums (prt r_446 (IntKind.i64.wrap ((IntKind.i64.wrap (40 * 3)) + 40)) (r_446.length : Int))).toList == (strOfNums (prt r_456 (IntKind.i64.wrap ((IntKind.i64.wrap (40 * 3)) + 40)) (r_456.length : Int))).toList)) = false := (not_f (beq_iff_eq.mpr (Decidable.not_not.mp c_524)))
    refine CW.cf rfl h_525 ?_
    refine CW.skip ?_
    refine QW.then_n ?_
    refine CW.seq ?_
    refine CW.region_qa wide (by kernel_rfl) st_523 ?_
    refine HL.val Wanted.none (fun wq sq => (Runs.move rfl)) ?_
    refine HL.val Wanted.none (fun wq sq => (Runs.move rfl)) ?_
    refine HL.val Wanted.none (fun wq sq => (Runs.mul rfl rfl rfl)) ?_
    refine HL.val Wanted.none (fun wq sq => (Runs.move rfl)) ?_
    refine HL.val Wanted.none (fun wq sq => (Runs.mul rfl rfl rfl)) ?_
    refine HL.val Wanted.none (fun wq sq => (Runs.add rfl rfl rfl)) ?_
    obtain ⟨⟨p_526, q_527, r_528⟩, H⟩ := H
    have h_535 : n_449 ≤ c_448 := st_523.cap (i := 1) rfl
    have h_536 : (IntKind.i64.wrap ((IntKind.i64.wrap (40 * 3)) + 32)) ≤ (c_448 : Int) := by have := hn_450; omega
    obtain ⟨A_529, e_532⟩ : ∃ B_, B_ = subA A_447 (IntKind.i64.wrap (40 * 3)).toNat c_448 := ⟨_, rfl⟩
    obtain ⟨n_531, e_534⟩ : ∃ n_ : Nat, n_ = (prt r_446 (IntKind.i64.wrap (40 * 3)) (IntKind.i64.wrap ((IntKind.i64.wrap (40 * 3)) + 32))).length := ⟨_, rfl⟩
    obtain ⟨c_530, e_533⟩ : ∃ c_ : Nat, c_ = c_448 - (IntKind.i64.wrap (40 * 3)).toNat := ⟨_, rfl⟩
    have h_537 : n_531 ≤ c_530 := by rw [e_534, prt_length p_526 q_527 r_528]; rw [e_533]; omega
    refine HL.val Wanted.none (fun wq sq => (Runs.slice_lh Tryd.underlying29 cells5 rfl rfl rfl p_526 q_527 h_536 e_532 (N := n_531) (by rw [e_534, prt_length p_526 q_527 r_528]) e_533)) ?_
    refine HL.val Wanted.none (fun wq sq => (Runs.bytes_str Tryd.underlying29 Tryd.underlying5 Tryd.underlying9 rfl ((sq.src_sl (k := 1) rfl).sub_iv p_526 q_527 h_536 e_532) e_534)) ?_
    refine HL.val Wanted.none (fun wq sq => (Runs.move rfl)) ?_
    refine HL.val Wanted.none (fun wq sq => (Runs.move rfl)) ?_
    refine HL.val Wanted.none (fun wq sq => (Runs.mul rfl rfl rfl)) ?_
    refine HL.val Wanted.none (fun wq sq => (Runs.move rfl)) ?_
    refine HL.val Wanted.none (fun wq sq => (Runs.mul rfl rfl rfl)) ?_
    refine HL.val Wanted.none (fun wq sq => (Runs.add rfl rfl rfl)) ?_
    obtain ⟨⟨p_538, q_539, r_540⟩, H⟩ := H
    have h_547 : n_459 ≤ c_458 := st_523.cap (i := 0) rfl
    have h_548 : (IntKind.i64.wrap ((IntKind.i64.wrap (40 * 3)) + 32)) ≤ (c_458 : Int) := by have := hn_460; omega
    obtain ⟨A_541, e_544⟩ : ∃ B_, B_ = subA A_457 (IntKind.i64.wrap (40 * 3)).toNat c_458 := ⟨_, rfl⟩
    obtain ⟨n_543, e_546⟩ : ∃ n_ : Nat, n_ = (prt r_456 (IntKind.i64.wrap (40 * 3)) (IntKind.i64.wrap ((IntKind.i64.wrap (40 * 3)) + 32))).length := ⟨_, rfl⟩
    obtain ⟨c_542, e_545⟩ : ∃ c_ : Nat, c_ = c_458 - (IntKind.i64.wrap (40 * 3)).toNat := ⟨_, rfl⟩
    have h_549 : n_543 ≤ c_542 := by rw [e_546, prt_length p_538 q_539 r_540]; rw [e_545]; omega
    refine HL.val Wanted.none (fun wq sq => (Runs.slice_lh Tryd.underlying29 cells5 rfl rfl rfl p_538 q_539 h_548 e_544 (N := n_543) (by rw [e_546, prt_length p_538 q_539 r_540]) e_545)) ?_
    refine HL.val Wanted.none (fun wq sq => (Runs.bytes_str Tryd.underlying29 Tryd.underlying5 Tryd.underlying9 rfl ((sq.src_sl (k := 0) rfl).sub_iv p_538 q_539 h_548 e_544) e_546)) ?_
    refine HL.val Wanted.none (fun wq sq => (Runs.eqs rfl rfl rfl)) ?_
    refine HL.val Wanted.none (fun wq sq => (Runs.move rfl)) ?_
    refine HL.val Wanted.none (fun wq sq => (Runs.indexAddr_row (p := 99) Tryd.underlying28 siz26 rfl rfl (by decide) (by decide) rfl)) ?_
    refine HL.val Wanted.none (fun wq sq => (Runs.fieldAddr (off := 0) (p := 99) fld26_0 rfl rfl rfl)) ?_
    refine HL.val Wanted.none (fun wq sq => (Runs.load_mid row23 rfl sq (i := 4) rfl (part_mid (pre := (iv .u8 l0_0 ++ (([.int .u64 a0_1] : List Value) ++ (iv .u8 l0_2 ++ (([.int .u64 a0_3] : List Value) ++ (iv .u8 l0_4 ++ ([.int .u64 a0_5] : List Value))))))) (mid := (iv .u8 l0_6)) (post := (([.int .u64 a0_7] : List Value))) (by first | rfl | simp only [List.append_assoc, List.append_nil, List.nil_append, List.cons_append]) (by first | rfl | simp only [List.length_append, List.length_cons, List.length_nil, iv_length, hl0_0, hl0_2, hl0_4]) (by first | rfl | simp only [List.length_append, List.length_cons, List.length_nil, iv_length, hl0_6])) (by first | rfl | simp only [List.length_append, List.length_cons, List.length_nil, iv_length, hl0_6]))) ?_
    refine HL.val Wanted.none (fun wq sq => (Runs.fieldAddr (off := 0) (p := 0) fld26_0 rfl rfl rfl)) ?_
    refine HL.val Wanted.none (fun wq sq => (Runs.load_mid row23 rfl sq (i := 3) rfl (part_mid (pre := (([] : List Value))) (mid := (iv .u8 l2_0)) (post := (([.int .u64 a2_1] : List Value))) (by first | rfl | simp only [List.append_assoc, List.append_nil, List.nil_append, List.cons_append]) (by first | rfl | simp only [List.length_append, List.length_cons, List.length_nil, iv_length]) (by first | rfl | simp only [List.length_append, List.length_cons, List.length_nil, iv_length, hl2_0])) (by first | rfl | simp only [List.length_append, List.length_cons, List.length_nil, iv_length, hl2_0]))) ?_
    refine HL.val Wanted.none (fun wq sq => (Runs.eql_arr arr23 eqg23 rfl rfl hl0_6 hl2_0 rfl)) ?_
    refine HL.val Wanted.none (fun wq sq => (Runs.eqb Tryd.underlying4 rfl rfl rfl)) ?_
    refine HL.val Wanted.none (fun wq sq => (Runs.move rfl)) ?_
    obtain ⟨c_550, H⟩ := H
    have h_551 : (((strOfNums (prt r_446 (IntKind.i64.wrap (40 * 3)) (IntKind.i64.wrap ((IntKind.i64.wrap (40 * 3)) + 32)))).toList == (strOfNums (prt r_456 (IntKind.i64.wrap (40 * 3)) (IntKind.i64.wrap ((IntKind.i64.wrap (40 * 3)) + 32)))).toList) == (l0_6 == l2_0)) = true := (beq_iff_eq.mpr c_550)
    refine HL.on ?_ ?_; exact Wanted.guard (dj := 87) (by rfl) (evb (by rfl) h_551) (by rfl)
    refine HL.val Wanted.none (fun wq sq => (Runs.move rfl)) ?_
    refine HL.on ?_ ?_; exact Wanted.guard (dj := 87) (by rfl) (evb (by rfl) h_551) (by rfl)
    refine HL.val Wanted.none (fun wq sq => (Runs.move rfl)) ?_
    refine HL.on ?_ ?_; exact Wanted.guard (dj := 87) (by rfl) (evb (by rfl) h_551) (by rfl)
    refine HL.val Wanted.none (fun wq sq => (Runs.mul rfl rfl rfl)) ?_
    refine HL.on ?_ ?_; exact Wanted.guard (dj := 87) (by rfl) (evb (by rfl) h_551) (by rfl)
    refine HL.val Wanted.none (fun wq sq => (Runs.add rfl rfl rfl)) ?_
    refine HL.on ?_ ?_; exact Wanted.guard (dj := 87) (by rfl) (evb (by rfl) h_551) (by rfl)
    refine HL.val Wanted.none (fun wq sq => (Runs.move rfl)) ?_
    refine HL.on ?_ ?_; exact Wanted.guard (dj := 87) (by rfl) (evb (by rfl) h_551) (by rfl)
    refine HL.val Wanted.none (fun wq sq => (Runs.mul rfl rfl rfl)) ?_
    refine HL.on ?_ ?_; exact Wanted.guard (dj := 87) (by rfl) (evb (by rfl) h_551) (by rfl)
    refine HL.val Wanted.none (fun wq sq => (Runs.add rfl rfl rfl)) ?_
    refine HL.on ?_ ?_; exact Wanted.guard (dj := 87) (by rfl) (evb (by rfl) h_551) (by rfl)
    obtain ⟨⟨p_552, q_553, r_554⟩, H⟩ := H
    have h_561 : n_449 ≤ c_448 := st_523.cap (i := 1) rfl
    have h_562 : (IntKind.i64.wrap ((IntKind.i64.wrap (40 * 3)) + 40)) ≤ (c_448 : Int) := by have := hn_450; omega
    obtain ⟨A_555, e_558⟩ : ∃ B_, B_ = subA A_447 (IntKind.i64.wrap ((IntKind.i64.wrap (40 * 3)) + 32)).toNat c_448 := ⟨_, rfl⟩
    obtain ⟨n_557, e_560⟩ : ∃ n_ : Nat, n_ = (prt r_446 (IntKind.i64.wrap ((IntKind.i64.wrap (40 * 3)) + 32)) (IntKind.i64.wrap ((IntKind.i64.wrap (40 * 3)) + 40))).length := ⟨_, rfl⟩
    obtain ⟨c_556, e_559⟩ : ∃ c_ : Nat, c_ = c_448 - (IntKind.i64.wrap ((IntKind.i64.wrap (40 * 3)) + 32)).toNat := ⟨_, rfl⟩
    have h_563 : n_557 ≤ c_556 := by rw [e_560, prt_length p_552 q_553 r_554]; rw [e_559]; omega
    refine HL.val Wanted.none (fun wq sq => (Runs.slice_lh Tryd.underlying29 cells5 rfl rfl rfl p_552 q_553 h_562 e_558 (N := n_557) (by rw [e_560, prt_length p_552 q_553 r_554]) e_559)) ?_
    refine HL.on ?_ ?_; exact Wanted.guard (dj := 87) (by rfl) (evb (by rfl) h_551) (by rfl)
    refine HL.val Wanted.none (fun wq sq => (Runs.bytes_str Tryd.underlying29 Tryd.underlying5 Tryd.underlying9 rfl ((sq.src_sl (k := 1) rfl).sub_iv p_552 q_553 h_562 e_558) e_560)) ?_
    refine HL.on ?_ ?_; exact Wanted.guard (dj := 87) (by rfl) (evb (by rfl) h_551) (by rfl)
    refine HL.val Wanted.none (fun wq sq => (Runs.move rfl)) ?_
    refine HL.on ?_ ?_; exact Wanted.guard (dj := 87) (by rfl) (evb (by rfl) h_551) (by rfl)
    refine HL.val Wanted.none (fun wq sq => (Runs.move rfl)) ?_
    refine HL.on ?_ ?_; exact Wanted.guard (dj := 87) (by rfl) (evb (by rfl) h_551) (by rfl)
    refine HL.val Wanted.none (fun wq sq => (Runs.mul rfl rfl rfl)) ?_
    refine HL.on ?_ ?_; exact Wanted.guard (dj := 87) (by rfl) (evb (by rfl) h_551) (by rfl)
    refine HL.val Wanted.none (fun wq sq => (Runs.add rfl rfl rfl)) ?_
    refine HL.on ?_ ?_; exact Wanted.guard (dj := 87) (by rfl) (evb (by rfl) h_551) (by rfl)
    refine HL.val Wanted.none (fun wq sq => (Runs.move rfl)) ?_
    refine HL.on ?_ ?_; exact Wanted.guard (dj := 87) (by rfl) (evb (by rfl) h_551) (by rfl)
    refine HL.val Wanted.none (fun wq sq => (Runs.mul rfl rfl rfl)) ?_
    refine HL.on ?_ ?_; exact Wanted.guard (dj := 87) (by rfl) (evb (by rfl) h_551) (by rfl)
    refine HL.val Wanted.none (fun wq sq => (Runs.add rfl rfl rfl)) ?_
    refine HL.on ?_ ?_; exact Wanted.guard (dj := 87) (by rfl) (evb (by rfl) h_551) (by rfl)
    obtain ⟨⟨p_564, q_565, r_566⟩, H⟩ := H
    have h_573 : n_459 ≤ c_458 := st_523.cap (i := 0) rfl
    have h_574 : (IntKind.i64.wrap ((IntKind.i64.wrap (40 * 3)) + 40)) ≤ (c_458 : Int) := by have := hn_460; omega
    obtain ⟨A_567, e_570⟩ : ∃ B_, B_ = subA A_457 (IntKind.i64.wrap ((IntKind.i64.wrap (40 * 3)) + 32)).toNat c_458 := ⟨_, rfl⟩
    obtain ⟨n_569, e_572⟩ : ∃ n_ : Nat, n_ = (prt r_456 (IntKind.i64.wrap ((IntKind.i64.wrap (40 * 3)) + 32)) (IntKind.i64.wrap ((IntKind.i64.wrap (40 * 3)) + 40))).length := ⟨_, rfl⟩
    obtain ⟨c_568, e_571⟩ : ∃ c_ : Nat, c_ = c_458 - (IntKind.i64.wrap ((IntKind.i64.wrap (40 * 3)) + 32)).toNat := ⟨_, rfl⟩
    have h_575 : n_569 ≤ c_568 := by rw [e_572, prt_length p_564 q_565 r_566]; rw [e_571]; omega
    refine HL.val Wanted.none (fun wq sq => (Runs.slice_lh Tryd.underlying29 cells5 rfl rfl rfl p_564 q_565 h_574 e_570 (N := n_569) (by rw [e_572, prt_length p_564 q_565 r_566]) e_571)) ?_
    refine HL.on ?_ ?_; exact Wanted.guard (dj := 87) (by rfl) (evb (by rfl) h_551) (by rfl)
    refine HL.val Wanted.none (fun wq sq => (Runs.bytes_str Tryd.underlying29 Tryd.underlying5 Tryd.underlying9 rfl ((sq.src_sl (k := 0) rfl).sub_iv p_564 q_565 h_574 e_570) e_572)) ?_
    refine HL.on ?_ ?_; exact Wanted.guard (dj := 87) (by rfl) (evb (by rfl) h_551) (by rfl)
    refine HL.val Wanted.none (fun wq sq => (Runs.eqs rfl rfl rfl)) ?_
    refine HL.on ?_ ?_; exact Wanted.guard (dj := 87) (by rfl) (evb (by rfl) h_551) (by rfl)
    refine HL.val Wanted.none (fun wq sq => (Runs.move rfl)) ?_
    refine HL.on ?_ ?_; exact Wanted.guard (dj := 87) (by rfl) (evb (by rfl) h_551) (by rfl)
    refine HL.val Wanted.none (fun wq sq => (Runs.indexAddr_row (p := 99) Tryd.underlying28 siz26 rfl rfl (by decide) (by decide) rfl)) ?_
    refine HL.on ?_ ?_; exact Wanted.guard (dj := 87) (by rfl) (evb (by rfl) h_551) (by rfl)
    refine HL.val Wanted.none (fun wq sq => (Runs.fieldAddr (off := 32) (p := 131) fld26_1 rfl rfl rfl)) ?_
    refine HL.on ?_ ?_; exact Wanted.guard (dj := 87) (by rfl) (evb (by rfl) h_551) (by rfl)
    refine HL.val Wanted.none (fun wq sq => (Runs.load nagg24 rfl (sq.cell (k := 4) rfl (part_one (u := .int .u64 a0_7) (pre := (iv .u8 l0_0 ++ (([.int .u64 a0_1] : List Value) ++ (iv .u8 l0_2 ++ (([.int .u64 a0_3] : List Value) ++ (iv .u8 l0_4 ++ (([.int .u64 a0_5] : List Value) ++ iv .u8 l0_6))))))) (post := (([] : List Value))) (by first | rfl | simp only [List.append_assoc, List.append_nil, List.nil_append, List.cons_append]) (by first | rfl | simp only [List.length_append, List.length_cons, List.length_nil, iv_length, hl0_0, hl0_2, hl0_4, hl0_6]))))) ?_
    refine HL.on ?_ ?_; exact Wanted.guard (dj := 87) (by rfl) (evb (by rfl) h_551) (by rfl)
    refine HL.val Wanted.none (fun wq sq => (Runs.fieldAddr (off := 32) (p := 32) fld26_1 rfl rfl rfl)) ?_
    refine HL.on ?_ ?_; exact Wanted.guard (dj := 87) (by rfl) (evb (by rfl) h_551) (by rfl)
    refine HL.val Wanted.none (fun wq sq => (Runs.load nagg24 rfl (sq.cell (k := 3) rfl (part_one (u := .int .u64 a2_1) (pre := (iv .u8 l2_0)) (post := (([] : List Value))) (by first | rfl | simp only [List.append_assoc, List.append_nil, List.nil_append, List.cons_append]) (by first | rfl | simp only [List.length_append, List.length_cons, List.length_nil, iv_length, hl2_0]))))) ?_
    refine HL.on ?_ ?_; exact Wanted.guard (dj := 87) (by rfl) (evb (by rfl) h_551) (by rfl)
    refine HL.val Wanted.none (fun wq sq => (Runs.eql rfl rfl rfl)) ?_
    refine HL.on ?_ ?_; exact Wanted.guard (dj := 87) (by rfl) (evb (by rfl) h_551) (by rfl)
    refine HL.val Wanted.none (fun wq sq => (Runs.eqb Tryd.underlying4 rfl rfl rfl)) ?_
    refine HL.val Wanted.none (fun wq sq => (Runs.pick_t (evb rfl h_551) rfl)) ?_
    refine HL.val Wanted.none (fun wq sq => (Runs.assign rfl)) ?_
    refine HL.nil (fun w_576 st_577 => ?_)
    refine WL.nil ?_
    refine QW.then_n ?_
    refine CW.sub [(6, .bool (((strOfNums (prt r_446 (IntKind.i64.wrap ((IntKind.i64.wrap (40 * 3)) + 32)) (IntKind.i64.wrap ((IntKind.i64.wrap (40 * 3)) + 40)))).toList == (strOfNums (prt r_456 (IntKind.i64.wrap ((IntKind.i64.wrap (40 * 3)) + 32)) (IntKind.i64.wrap ((IntKind.i64.wrap (40 * 3)) + 40)))).toList) == (a0_7 == a2_1)))] ⟨rfl, trivial⟩ ?_
    refine CW.ret ?_
    have hz : (((strOfNums (prt r_446 (IntKind.i64.wrap ((IntKind.i64.wrap (40 * 3)) + 32)) (IntKind.i64.wrap ((IntKind.i64.wrap (40 * 3)) + 40)))).toList == (strOfNums (prt r_456 (IntKind.i64.wrap ((IntKind.i64.wrap (40 * 3)) + 32)) (IntKind.i64.wrap ((IntKind.i64.wrap (40 * 3)) + 40)))).toList) == (a0_7 == a2_1)) = true := (beq_iff_eq.mpr H)
    exact QW.ret1 rfl (evb rfl hz) ⟨rfl, st_577.ext⟩

end Go.Proofs.YtekpnjhacnkgcaaDoor
