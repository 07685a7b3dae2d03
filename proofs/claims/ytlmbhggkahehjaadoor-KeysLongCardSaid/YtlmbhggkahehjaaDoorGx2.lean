/- Walks: each function computes what its relation says, and a call of it ends so. Printed by a program of this session (wip/gen). -/
import Derived.Test.YtlmbhggkahehjaaDoorGx1
namespace Go.Proofs.YtlmbhggkahehjaaDoor
open Go Go.Kr Go.RowKit
set_option linter.unusedVariables false
set_option linter.unusedSimpArgs false
/-! ### keys_Of: function 12 -/
def keys_Of.rel (l0 : List Int) (r0_0 : List Int) (r0_1 : List Int) (r0_2 : List Int) (r1 : Int) : Prop := (∃ (r_29 : List Int) (r_31 : Int), keys_Derive.rel l0 (⟨#[104, 111, 109, 101]⟩ : ByteArray) r_29 r_31 ∧ ((r_31 ≠ 0 ∧ r0_0 = List.replicate 32 (0 : Int) ∧ r0_1 = List.replicate 32 (0 : Int) ∧ r0_2 = List.replicate 32 (0 : Int) ∧ r1 = r_31) ∨ (¬ (r_31 ≠ 0) ∧ (∃ (r_55 : List Int) (r_57 : Int), keys_Derive.rel l0 (⟨#[106, 111, 117, 114, 110, 97, 108]⟩ : ByteArray) r_55 r_57 ∧ ((r_57 ≠ 0 ∧ r0_0 = List.replicate 32 (0 : Int) ∧ r0_1 = List.replicate 32 (0 : Int) ∧ r0_2 = List.replicate 32 (0 : Int) ∧ r1 = r_57) ∨ (¬ (r_57 ≠ 0) ∧ (∃ (r_81 : List Int) (r_83 : Int), keys_Derive.rel l0 (⟨#[99, 104, 101, 99, 107]⟩ : ByteArray) r_81 r_83 ∧ ((r_83 ≠ 0 ∧ r0_0 = List.replicate 32 (0 : Int) ∧ r0_1 = List.replicate 32 (0 : Int) ∧ r0_2 = List.replicate 32 (0 : Int) ∧ r1 = r_83) ∨ (¬ (r_83 ≠ 0) ∧ r0_0 = r_29 ∧ r0_1 = r_55 ∧ r0_2 = r_81 ∧ r1 = 0)))))))))
set_option maxHeartbeats 4000000 in
set_option maxRecDepth 100000 in
theorem keys_Of.calls (w : World) (l0 : List Int) (A0 : Option Addr) (n0 : Nat) (c0 : Nat)  (hG0 : Src w (some ⟨0, 0, none⟩) (iv .u32 tab0)) (hs0 : Src w A0 (iv .u8 l0)) (hn0 : n0 = l0.length) (hc0 : n0 ≤ c0) (r0_0 : List Int) (r0_1 : List Int) (r0_2 : List Int) (r1 : Int) (H : keys_Of.rel l0 r0_0 r0_1 r0_2 r1) :
    Calls Tryd.prog 12 #[.slice A0 n0 c0] w fun e w' => r0_0.length = 32 ∧ r0_1.length = 32 ∧ r0_2.length = 32 ∧ e = .returned (.tuple #[.agg (iv .u8 r0_0 ++ (iv .u8 r0_1 ++ iv .u8 r0_2)).toArray, .int .i64 r1]) ∧ St w w' [] := by
  refine CW.enter Tryd.func12 rfl (n := 38) rfl [.slice A0 n0 c0] (Nat.le_of_ble_eq_true rfl) ?_
  refine CW.sub [(0, .slice A0 n0 c0)] ⟨rfl, trivial⟩ ?_
  have st0 : St w w [] := St.refl w
  refine CW.seq ?_
  refine CW.region ?_
  refine WL.alloc st0 zero32 ?_
  intro B_1 w_2 st_3
  replace st_3 : St w w_2 [.cells B_1 (iv .u8 (List.replicate 32 (0 : Int)) ++ (iv .u8 (List.replicate 32 (0 : Int)) ++ iv .u8 (List.replicate 32 (0 : Int)))) 32] := st_3
  refine WL.val Wanted.none (Runs.assign rfl) ?_
  refine WL.nil ?_
  refine QW.then_n ?_
  refine CW.seq ?_
  refine CW.region ?_
  refine WL.alloc st_3 zero32 ?_
  intro B_5 w_6 st_7
  replace st_7 : St w w_6 [.cells B_5 (iv .u8 (List.replicate 32 (0 : Int)) ++ (iv .u8 (List.replicate 32 (0 : Int)) ++ iv .u8 (List.replicate 32 (0 : Int)))) 32, .cells B_1 (iv .u8 (List.replicate 32 (0 : Int)) ++ (iv .u8 (List.replicate 32 (0 : Int)) ++ iv .u8 (List.replicate 32 (0 : Int)))) 32] := st_7
  refine WL.nil ?_
  refine QW.then_n ?_
  refine CW.seq ?_
  refine CW.seq ?_
  refine CW.region ?_
  refine WL.val Wanted.none (Runs.fieldAddr (off := 0) fld32_0 rfl rfl rfl) ?_
  refine WL.val Wanted.none (Runs.build_struct (ps := [(0, 1), (1, 1)]) (cs := (([.string (⟨#[104, 111, 109, 101]⟩ : ByteArray)] : List Value) ++ ([.pointer (some ⟨B_5, 0, none⟩)] : List Value))) plc42 zero42 rfl (by refine Fills.cons (o := 0) (ms := (([.string (⟨#[104, 111, 109, 101]⟩ : ByteArray)] : List Value))) (show _ = some (0, (([.string (⟨#[104, 111, 109, 101]⟩ : ByteArray)] : List Value)).length) by rw [show (([.string (⟨#[104, 111, 109, 101]⟩ : ByteArray)] : List Value)).length = 1 from (by first | rfl | simp only [List.length_append, List.length_cons, List.length_nil, iv_length])] <;> rfl) rfl (by have h1_ : (([.string (⟨#[104, 111, 109, 101]⟩ : ByteArray)] : List Value)).length = 1 := (by first | rfl | simp only [List.length_append, List.length_cons, List.length_nil, iv_length]); have h2_ : (([.string ByteArray.empty] : List Value) ++ ([.pointer none] : List Value)).length = 2 := (by first | rfl | simp only [List.length_append, List.length_cons, List.length_nil, iv_length]); omega) ?_; rw [show layV (([.string ByteArray.empty] : List Value) ++ ([.pointer none] : List Value)) 0 (([.string (⟨#[104, 111, 109, 101]⟩ : ByteArray)] : List Value)) = (([.string (⟨#[104, 111, 109, 101]⟩ : ByteArray)] : List Value) ++ ([.pointer none] : List Value)) from (layV_mid (pre := (([] : List Value))) (mid := (([.string ByteArray.empty] : List Value))) (post := (([.pointer none] : List Value))) (by first | rfl | simp only [List.append_assoc, List.append_nil, List.nil_append, List.cons_append]) (by first | rfl | simp only [List.length_append, List.length_cons, List.length_nil, iv_length]) (Eq.trans (b := 1) (by first | rfl | simp only [List.length_append, List.length_cons, List.length_nil, iv_length]) (Eq.symm (by first | rfl | simp only [List.length_append, List.length_cons, List.length_nil, iv_length])))).trans (by first | rfl | simp only [List.append_assoc, List.append_nil, List.nil_append, List.cons_append])]; refine Fills.cons (o := 1) (ms := (([.pointer (some ⟨B_5, 0, none⟩)] : List Value))) (show _ = some (1, (([.pointer (some ⟨B_5, 0, none⟩)] : List Value)).length) by rw [show (([.pointer (some ⟨B_5, 0, none⟩)] : List Value)).length = 1 from (by first | rfl | simp only [List.length_append, List.length_cons, List.length_nil, iv_length])] <;> rfl) rfl (by have h1_ : (([.pointer (some ⟨B_5, 0, none⟩)] : List Value)).length = 1 := (by first | rfl | simp only [List.length_append, List.length_cons, List.length_nil, iv_length]); have h2_ : (([.string (⟨#[104, 111, 109, 101]⟩ : ByteArray)] : List Value) ++ ([.pointer none] : List Value)).length = 2 := (by first | rfl | simp only [List.length_append, List.length_cons, List.length_nil, iv_length]); omega) ?_; rw [show layV (([.string (⟨#[104, 111, 109, 101]⟩ : ByteArray)] : List Value) ++ ([.pointer none] : List Value)) 1 (([.pointer (some ⟨B_5, 0, none⟩)] : List Value)) = (([.string (⟨#[104, 111, 109, 101]⟩ : ByteArray)] : List Value) ++ ([.pointer (some ⟨B_5, 0, none⟩)] : List Value)) from (layV_mid (pre := (([.string (⟨#[104, 111, 109, 101]⟩ : ByteArray)] : List Value))) (mid := (([.pointer none] : List Value))) (post := (([] : List Value))) (by first | rfl | simp only [List.append_assoc, List.append_nil, List.nil_append, List.cons_append]) (by first | rfl | simp only [List.length_append, List.length_cons, List.length_nil, iv_length]) (Eq.trans (b := 1) (by first | rfl | simp only [List.length_append, List.length_cons, List.length_nil, iv_length]) (Eq.symm (by first | rfl | simp only [List.length_append, List.length_cons, List.length_nil, iv_length])))).trans (by first | rfl | simp only [List.append_assoc, List.append_nil, List.nil_append, List.cons_append])]; exact Fills.nil)) ?_
  refine WL.val Wanted.none (Runs.fieldAddr (off := 32) fld32_1 rfl rfl rfl) ?_
  refine WL.val Wanted.none (Runs.build_struct (ps := [(0, 1), (1, 1)]) (cs := (([.string (⟨#[106, 111, 117, 114, 110, 97, 108]⟩ : ByteArray)] : List Value) ++ ([.pointer (some ⟨B_5, 32, none⟩)] : List Value))) plc42 zero42 rfl (by refine Fills.cons (o := 0) (ms := (([.string (⟨#[106, 111, 117, 114, 110, 97, 108]⟩ : ByteArray)] : List Value))) (show _ = some (0, (([.string (⟨#[106, 111, 117, 114, 110, 97, 108]⟩ : ByteArray)] : List Value)).length) by rw [show (([.string (⟨#[106, 111, 117, 114, 110, 97, 108]⟩ : ByteArray)] : List Value)).length = 1 from (by first | rfl | simp only [List.length_append, List.length_cons, List.length_nil, iv_length])] <;> rfl) rfl (by have h1_ : (([.string (⟨#[106, 111, 117, 114, 110, 97, 108]⟩ : ByteArray)] : List Value)).length = 1 := (by first | rfl | simp only [List.length_append, List.length_cons, List.length_nil, iv_length]); have h2_ : (([.string ByteArray.empty] : List Value) ++ ([.pointer none] : List Value)).length = 2 := (by first | rfl | simp only [List.length_append, List.length_cons, List.length_nil, iv_length]); omega) ?_; rw [show layV (([.string ByteArray.empty] : List Value) ++ ([.pointer none] : List Value)) 0 (([.string (⟨#[106, 111, 117, 114, 110, 97, 108]⟩ : ByteArray)] : List Value)) = (([.string (⟨#[106, 111, 117, 114, 110, 97, 108]⟩ : ByteArray)] : List Value) ++ ([.pointer none] : List Value)) from (layV_mid (pre := (([] : List Value))) (mid := (([.string ByteArray.empty] : List Value))) (post := (([.pointer none] : List Value))) (by first | rfl | simp only [List.append_assoc, List.append_nil, List.nil_append, List.cons_append]) (by first | rfl | simp only [List.length_append, List.length_cons, List.length_nil, iv_length]) (Eq.trans (b := 1) (by first | rfl | simp only [List.length_append, List.length_cons, List.length_nil, iv_length]) (Eq.symm (by first | rfl | simp only [List.length_append, List.length_cons, List.length_nil, iv_length])))).trans (by first | rfl | simp only [List.append_assoc, List.append_nil, List.nil_append, List.cons_append])]; refine Fills.cons (o := 1) (ms := (([.pointer (some ⟨B_5, 32, none⟩)] : List Value))) (show _ = some (1, (([.pointer (some ⟨B_5, 32, none⟩)] : List Value)).length) by rw [show (([.pointer (some ⟨B_5, 32, none⟩)] : List Value)).length = 1 from (by first | rfl | simp only [List.length_append, List.length_cons, List.length_nil, iv_length])] <;> rfl) rfl (by have h1_ : (([.pointer (some ⟨B_5, 32, none⟩)] : List Value)).length = 1 := (by first | rfl | simp only [List.length_append, List.length_cons, List.length_nil, iv_length]); have h2_ : (([.string (⟨#[106, 111, 117, 114, 110, 97, 108]⟩ : ByteArray)] : List Value) ++ ([.pointer none] : List Value)).length = 2 := (by first | rfl | simp only [List.length_append, List.length_cons, List.length_nil, iv_length]); omega) ?_; rw [show layV (([.string (⟨#[106, 111, 117, 114, 110, 97, 108]⟩ : ByteArray)] : List Value) ++ ([.pointer none] : List Value)) 1 (([.pointer (some ⟨B_5, 32, none⟩)] : List Value)) = (([.string (⟨#[106, 111, 117, 114, 110, 97, 108]⟩ : ByteArray)] : List Value) ++ ([.pointer (some ⟨B_5, 32, none⟩)] : List Value)) from (layV_mid (pre := (([.string (⟨#[106, 111, 117, 114, 110, 97, 108]⟩ : ByteArray)] : List Value))) (mid := (([.pointer none] : List Value))) (post := (([] : List Value))) (by first | rfl | simp only [List.append_assoc, List.append_nil, List.nil_append, List.cons_append]) (by first | rfl | simp only [List.length_append, List.length_cons, List.length_nil, iv_length]) (Eq.trans (b := 1) (by first | rfl | simp only [List.length_append, List.length_cons, List.length_nil, iv_length]) (Eq.symm (by first | rfl | simp only [List.length_append, List.length_cons, List.length_nil, iv_length])))).trans (by first | rfl | simp only [List.append_assoc, List.append_nil, List.nil_append, List.cons_append])]; exact Fills.nil)) ?_
  refine WL.val Wanted.none (Runs.fieldAddr (off := 64) fld32_2 rfl rfl rfl) ?_
  refine WL.val Wanted.none (Runs.build_struct (ps := [(0, 1), (1, 1)]) (cs := (([.string (⟨#[99, 104, 101, 99, 107]⟩ : ByteArray)] : List Value) ++ ([.pointer (some ⟨B_5, 64, none⟩)] : List Value))) plc42 zero42 rfl (by refine Fills.cons (o := 0) (ms := (([.string (⟨#[99, 104, 101, 99, 107]⟩ : ByteArray)] : List Value))) (show _ = some (0, (([.string (⟨#[99, 104, 101, 99, 107]⟩ : ByteArray)] : List Value)).length) by rw [show (([.string (⟨#[99, 104, 101, 99, 107]⟩ : ByteArray)] : List Value)).length = 1 from (by first | rfl | simp only [List.length_append, List.length_cons, List.length_nil, iv_length])] <;> rfl) rfl (by have h1_ : (([.string (⟨#[99, 104, 101, 99, 107]⟩ : ByteArray)] : List Value)).length = 1 := (by first | rfl | simp only [List.length_append, List.length_cons, List.length_nil, iv_length]); have h2_ : (([.string ByteArray.empty] : List Value) ++ ([.pointer none] : List Value)).length = 2 := (by first | rfl | simp only [List.length_append, List.length_cons, List.length_nil, iv_length]); omega) ?_; rw [show layV (([.string ByteArray.empty] : List Value) ++ ([.pointer none] : List Value)) 0 (([.string (⟨#[99, 104, 101, 99, 107]⟩ : ByteArray)] : List Value)) = (([.string (⟨#[99, 104, 101, 99, 107]⟩ : ByteArray)] : List Value) ++ ([.pointer none] : List Value)) from (layV_mid (pre := (([] : List Value))) (mid := (([.string ByteArray.empty] : List Value))) (post := (([.pointer none] : List Value))) (by first | rfl | simp only [List.append_assoc, List.append_nil, List.nil_append, List.cons_append]) (by first | rfl | simp only [List.length_append, List.length_cons, List.length_nil, iv_length]) (Eq.trans (b := 1) (by first | rfl | simp only [List.length_append, List.length_cons, List.length_nil, iv_length]) (Eq.symm (by first | rfl | simp only [List.length_append, List.length_cons, List.length_nil, iv_length])))).trans (by first | rfl | simp only [List.append_assoc, List.append_nil, List.nil_append, List.cons_append])]; refine Fills.cons (o := 1) (ms := (([.pointer (some ⟨B_5, 64, none⟩)] : List Value))) (show _ = some (1, (([.pointer (some ⟨B_5, 64, none⟩)] : List Value)).length) by rw [show (([.pointer (some ⟨B_5, 64, none⟩)] : List Value)).length = 1 from (by first | rfl | simp only [List.length_append, List.length_cons, List.length_nil, iv_length])] <;> rfl) rfl (by have h1_ : (([.pointer (some ⟨B_5, 64, none⟩)] : List Value)).length = 1 := (by first | rfl | simp only [List.length_append, List.length_cons, List.length_nil, iv_length]); have h2_ : (([.string (⟨#[99, 104, 101, 99, 107]⟩ : ByteArray)] : List Value) ++ ([.pointer none] : List Value)).length = 2 := (by first | rfl | simp only [List.length_append, List.length_cons, List.length_nil, iv_length]); omega) ?_; rw [show layV (([.string (⟨#[99, 104, 101, 99, 107]⟩ : ByteArray)] : List Value) ++ ([.pointer none] : List Value)) 1 (([.pointer (some ⟨B_5, 64, none⟩)] : List Value)) = (([.string (⟨#[99, 104, 101, 99, 107]⟩ : ByteArray)] : List Value) ++ ([.pointer (some ⟨B_5, 64, none⟩)] : List Value)) from (layV_mid (pre := (([.string (⟨#[99, 104, 101, 99, 107]⟩ : ByteArray)] : List Value))) (mid := (([.pointer none] : List Value))) (post := (([] : List Value))) (by first | rfl | simp only [List.append_assoc, List.append_nil, List.nil_append, List.cons_append]) (by first | rfl | simp only [List.length_append, List.length_cons, List.length_nil, iv_length]) (Eq.trans (b := 1) (by first | rfl | simp only [List.length_append, List.length_cons, List.length_nil, iv_length]) (Eq.symm (by first | rfl | simp only [List.length_append, List.length_cons, List.length_nil, iv_length])))).trans (by first | rfl | simp only [List.append_assoc, List.append_nil, List.nil_append, List.cons_append])]; exact Fills.nil)) ?_
  obtain ⟨ii_9, z_10, h_11, h_12, h_13, h_14⟩ := slr42_3
  refine WL.buildSlRows (sz := 2) (cs := (([.string (⟨#[104, 111, 109, 101]⟩ : ByteArray)] : List Value) ++ (([.pointer (some ⟨B_5, 0, none⟩)] : List Value) ++ (([.string (⟨#[106, 111, 117, 114, 110, 97, 108]⟩ : ByteArray)] : List Value) ++ (([.pointer (some ⟨B_5, 32, none⟩)] : List Value) ++ (([.string (⟨#[99, 104, 101, 99, 107]⟩ : ByteArray)] : List Value) ++ ([.pointer (some ⟨B_5, 64, none⟩)] : List Value))))))) st_7 Tryd.underlying43 h_11 h_12 h_13 (by decide) (by decide) h_14 rfl (by refine Fills.cons (o := 0) (ms := (([.string (⟨#[104, 111, 109, 101]⟩ : ByteArray)] : List Value) ++ ([.pointer (some ⟨B_5, 0, none⟩)] : List Value))) (show _ = some (0, (([.string (⟨#[104, 111, 109, 101]⟩ : ByteArray)] : List Value) ++ ([.pointer (some ⟨B_5, 0, none⟩)] : List Value)).length) by rw [show (([.string (⟨#[104, 111, 109, 101]⟩ : ByteArray)] : List Value) ++ ([.pointer (some ⟨B_5, 0, none⟩)] : List Value)).length = 2 from (by first | rfl | simp only [List.length_append, List.length_cons, List.length_nil, iv_length])] <;> rfl) rfl (by have h1_ : (([.string (⟨#[104, 111, 109, 101]⟩ : ByteArray)] : List Value) ++ ([.pointer (some ⟨B_5, 0, none⟩)] : List Value)).length = 2 := (by first | rfl | simp only [List.length_append, List.length_cons, List.length_nil, iv_length]); have h2_ : (([.string ByteArray.empty] : List Value) ++ (([.pointer none] : List Value) ++ (([.string ByteArray.empty] : List Value) ++ (([.pointer none] : List Value) ++ (([.string ByteArray.empty] : List Value) ++ ([.pointer none] : List Value)))))).length = 6 := (by first | rfl | simp only [List.length_append, List.length_cons, List.length_nil, iv_length]); omega) ?_; rw [show layV (([.string ByteArray.empty] : List Value) ++ (([.pointer none] : List Value) ++ (([.string ByteArray.empty] : List Value) ++ (([.pointer none] : List Value) ++ (([.string ByteArray.empty] : List Value) ++ ([.pointer none] : List Value)))))) 0 (([.string (⟨#[104, 111, 109, 101]⟩ : ByteArray)] : List Value) ++ ([.pointer (some ⟨B_5, 0, none⟩)] : List Value)) = (([.string (⟨#[104, 111, 109, 101]⟩ : ByteArray)] : List Value) ++ (([.pointer (some ⟨B_5, 0, none⟩)] : List Value) ++ (([.string ByteArray.empty] : List Value) ++ (([.pointer none] : List Value) ++ (([.string ByteArray.empty] : List Value) ++ ([.pointer none] : List Value)))))) from (layV_mid (pre := (([] : List Value))) (mid := (([.string ByteArray.empty] : List Value) ++ ([.pointer none] : List Value))) (post := (([.string ByteArray.empty] : List Value) ++ (([.pointer none] : List Value) ++ (([.string ByteArray.empty] : List Value) ++ ([.pointer none] : List Value))))) (by first | rfl | simp only [List.append_assoc, List.append_nil, List.nil_append, List.cons_append]) (by first | rfl | simp only [List.length_append, List.length_cons, List.length_nil, iv_length]) (Eq.trans (b := 2) (by first | rfl | simp only [List.length_append, List.length_cons, List.length_nil, iv_length]) (Eq.symm (by first | rfl | simp only [List.length_append, List.length_cons, List.length_nil, iv_length])))).trans (by first | rfl | simp only [List.append_assoc, List.append_nil, List.nil_append, List.cons_append])]; refine Fills.cons (o := 2) (ms := (([.string (⟨#[106, 111, 117, 114, 110, 97, 108]⟩ : ByteArray)] : List Value) ++ ([.pointer (some ⟨B_5, 32, none⟩)] : List Value))) (show _ = some (2, (([.string (⟨#[106, 111, 117, 114, 110, 97, 108]⟩ : ByteArray)] : List Value) ++ ([.pointer (some ⟨B_5, 32, none⟩)] : List Value)).length) by rw [show (([.string (⟨#[106, 111, 117, 114, 110, 97, 108]⟩ : ByteArray)] : List Value) ++ ([.pointer (some ⟨B_5, 32, none⟩)] : List Value)).length = 2 from (by first | rfl | simp only [List.length_append, List.length_cons, List.length_nil, iv_length])] <;> rfl) rfl (by have h1_ : (([.string (⟨#[106, 111, 117, 114, 110, 97, 108]⟩ : ByteArray)] : List Value) ++ ([.pointer (some ⟨B_5, 32, none⟩)] : List Value)).length = 2 := (by first | rfl | simp only [List.length_append, List.length_cons, List.length_nil, iv_length]); have h2_ : (([.string (⟨#[104, 111, 109, 101]⟩ : ByteArray)] : List Value) ++ (([.pointer (some ⟨B_5, 0, none⟩)] : List Value) ++ (([.string ByteArray.empty] : List Value) ++ (([.pointer none] : List Value) ++ (([.string ByteArray.empty] : List Value) ++ ([.pointer none] : List Value)))))).length = 6 := (by first | rfl | simp only [List.length_append, List.length_cons, List.length_nil, iv_length]); omega) ?_; rw [show layV (([.string (⟨#[104, 111, 109, 101]⟩ : ByteArray)] : List Value) ++ (([.pointer (some ⟨B_5, 0, none⟩)] : List Value) ++ (([.string ByteArray.empty] : List Value) ++ (([.pointer none] : List Value) ++ (([.string ByteArray.empty] : List Value) ++ ([.pointer none] : List Value)))))) 2 (([.string (⟨#[106, 111, 117, 114, 110, 97, 108]⟩ : ByteArray)] : List Value) ++ ([.pointer (some ⟨B_5, 32, none⟩)] : List Value)) = (([.string (⟨#[104, 111, 109, 101]⟩ : ByteArray)] : List Value) ++ (([.pointer (some ⟨B_5, 0, none⟩)] : List Value) ++ (([.string (⟨#[106, 111, 117, 114, 110, 97, 108]⟩ : ByteArray)] : List Value) ++ (([.pointer (some ⟨B_5, 32, none⟩)] : List Value) ++ (([.string ByteArray.empty] : List Value) ++ ([.pointer none] : List Value)))))) from (layV_mid (pre := (([.string (⟨#[104, 111, 109, 101]⟩ : ByteArray)] : List Value) ++ ([.pointer (some ⟨B_5, 0, none⟩)] : List Value))) (mid := (([.string ByteArray.empty] : List Value) ++ ([.pointer none] : List Value))) (post := (([.string ByteArray.empty] : List Value) ++ ([.pointer none] : List Value))) (by first | rfl | simp only [List.append_assoc, List.append_nil, List.nil_append, List.cons_append]) (by first | rfl | simp only [List.length_append, List.length_cons, List.length_nil, iv_length]) (Eq.trans (b := 2) (by first | rfl | simp only [List.length_append, List.length_cons, List.length_nil, iv_length]) (Eq.symm (by first | rfl | simp only [List.length_append, List.length_cons, List.length_nil, iv_length])))).trans (by first | rfl | simp only [List.append_assoc, List.append_nil, List.nil_append, List.cons_append])]; refine Fills.cons (o := 4) (ms := (([.string (⟨#[99, 104, 101, 99, 107]⟩ : ByteArray)] : List Value) ++ ([.pointer (some ⟨B_5, 64, none⟩)] : List Value))) (show _ = some (4, (([.string (⟨#[99, 104, 101, 99, 107]⟩ : ByteArray)] : List Value) ++ ([.pointer (some ⟨B_5, 64, none⟩)] : List Value)).length) by rw [show (([.string (⟨#[99, 104, 101, 99, 107]⟩ : ByteArray)] : List Value) ++ ([.pointer (some ⟨B_5, 64, none⟩)] : List Value)).length = 2 from (by first | rfl | simp only [List.length_append, List.length_cons, List.length_nil, iv_length])] <;> rfl) rfl (by have h1_ : (([.string (⟨#[99, 104, 101, 99, 107]⟩ : ByteArray)] : List Value) ++ ([.pointer (some ⟨B_5, 64, none⟩)] : List Value)).length = 2 := (by first | rfl | simp only [List.length_append, List.length_cons, List.length_nil, iv_length]); have h2_ : (([.string (⟨#[104, 111, 109, 101]⟩ : ByteArray)] : List Value) ++ (([.pointer (some ⟨B_5, 0, none⟩)] : List Value) ++ (([.string (⟨#[106, 111, 117, 114, 110, 97, 108]⟩ : ByteArray)] : List Value) ++ (([.pointer (some ⟨B_5, 32, none⟩)] : List Value) ++ (([.string ByteArray.empty] : List Value) ++ ([.pointer none] : List Value)))))).length = 6 := (by first | rfl | simp only [List.length_append, List.length_cons, List.length_nil, iv_length]); omega) ?_; rw [show layV (([.string (⟨#[104, 111, 109, 101]⟩ : ByteArray)] : List Value) ++ (([.pointer (some ⟨B_5, 0, none⟩)] : List Value) ++ (([.string (⟨#[106, 111, 117, 114, 110, 97, 108]⟩ : ByteArray)] : List Value) ++ (([.pointer (some ⟨B_5, 32, none⟩)] : List Value) ++ (([.string ByteArray.empty] : List Value) ++ ([.pointer none] : List Value)))))) 4 (([.string (⟨#[99, 104, 101, 99, 107]⟩ : ByteArray)] : List Value) ++ ([.pointer (some ⟨B_5, 64, none⟩)] : List Value)) = (([.string (⟨#[104, 111, 109, 101]⟩ : ByteArray)] : List Value) ++ (([.pointer (some ⟨B_5, 0, none⟩)] : List Value) ++ (([.string (⟨#[106, 111, 117, 114, 110, 97, 108]⟩ : ByteArray)] : List Value) ++ (([.pointer (some ⟨B_5, 32, none⟩)] : List Value) ++ (([.string (⟨#[99, 104, 101, 99, 107]⟩ : ByteArray)] : List Value) ++ ([.pointer (some ⟨B_5, 64, none⟩)] : List Value)))))) from (layV_mid (pre := (([.string (⟨#[104, 111, 109, 101]⟩ : ByteArray)] : List Value) ++ (([.pointer (some ⟨B_5, 0, none⟩)] : List Value) ++ (([.string (⟨#[106, 111, 117, 114, 110, 97, 108]⟩ : ByteArray)] : List Value) ++ ([.pointer (some ⟨B_5, 32, none⟩)] : List Value))))) (mid := (([.string ByteArray.empty] : List Value) ++ ([.pointer none] : List Value))) (post := (([] : List Value))) (by first | rfl | simp only [List.append_assoc, List.append_nil, List.nil_append, List.cons_append]) (by first | rfl | simp only [List.length_append, List.length_cons, List.length_nil, iv_length]) (Eq.trans (b := 2) (by first | rfl | simp only [List.length_append, List.length_cons, List.length_nil, iv_length]) (Eq.symm (by first | rfl | simp only [List.length_append, List.length_cons, List.length_nil, iv_length])))).trans (by first | rfl | simp only [List.append_assoc, List.append_nil, List.nil_append, List.cons_append])]; exact Fills.nil) ?_
  intro B_15 w_16 st_17
  replace st_17 : St w w_16 [.cells B_15 (([.string (⟨#[104, 111, 109, 101]⟩ : ByteArray)] : List Value) ++ (([.pointer (some ⟨B_5, 0, none⟩)] : List Value) ++ (([.string (⟨#[106, 111, 117, 114, 110, 97, 108]⟩ : ByteArray)] : List Value) ++ (([.pointer (some ⟨B_5, 32, none⟩)] : List Value) ++ (([.string (⟨#[99, 104, 101, 99, 107]⟩ : ByteArray)] : List Value) ++ ([.pointer (some ⟨B_5, 64, none⟩)] : List Value)))))) 42, .cells B_5 (iv .u8 (List.replicate 32 (0 : Int)) ++ (iv .u8 (List.replicate 32 (0 : Int)) ++ iv .u8 (List.replicate 32 (0 : Int)))) 32, .cells B_1 (iv .u8 (List.replicate 32 (0 : Int)) ++ (iv .u8 (List.replicate 32 (0 : Int)) ++ iv .u8 (List.replicate 32 (0 : Int)))) 32] := st_17
  refine WL.val Wanted.none (Runs.len_sl Tryd.underlying43 rfl rfl) ?_
  refine WL.val Wanted.none (Runs.move rfl) ?_
  refine WL.nil ?_
  refine QW.then_n ?_
  refine CW.sub [(0, .slice A0 n0 c0), (2, .pointer (some ⟨B_1, 0, none⟩)), (3, .int .i64 0), (4, .pointer (some ⟨B_5, 0, none⟩)), (15, .slice (some ⟨B_15, 0, none⟩) 3 3), (16, .int .i64 3), (17, .int .i64 0)] ⟨rfl, rfl, rfl, rfl, rfl, rfl, rfl, trivial⟩ ?_
  refine CW.block ?_
  refine CW.rounds 39 ?_
  refine CW.seq ?_
  refine CW.region ?_
  refine WL.val Wanted.none (Runs.lss (b := true) rfl rfl (by decide)) ?_
  refine WL.nil ?_
  refine QW.then_n ?_
  refine CW.seq ?_
  refine CW.ct rfl rfl ?_
  refine CW.skip ?_
  refine QW.then_n ?_
  refine CW.seq ?_
  refine CW.block ?_
  refine CW.seq ?_
  refine CW.region ?_
  refine WL.val Wanted.none (Runs.indexAddr_slrow Tryd.underlying43 siz42 rfl rfl (by decide) (by decide) (by rfl)) ?_
  refine WL.val Wanted.none (Runs.load_mid row42 rfl st_17 (i := 0) rfl (part_mid (pre := (([] : List Value))) (mid := (([.string (⟨#[104, 111, 109, 101]⟩ : ByteArray)] : List Value) ++ ([.pointer (some ⟨B_5, 0, none⟩)] : List Value))) (post := (([.string (⟨#[106, 111, 117, 114, 110, 97, 108]⟩ : ByteArray)] : List Value) ++ (([.pointer (some ⟨B_5, 32, none⟩)] : List Value) ++ (([.string (⟨#[99, 104, 101, 99, 107]⟩ : ByteArray)] : List Value) ++ ([.pointer (some ⟨B_5, 64, none⟩)] : List Value))))) (by first | rfl | simp only [List.append_assoc, List.append_nil, List.nil_append, List.cons_append]) (by first | rfl | simp only [List.length_append, List.length_cons, List.length_nil, iv_length]) (by first | rfl | simp only [List.length_append, List.length_cons, List.length_nil, iv_length])) (by first | rfl | simp only [List.length_append, List.length_cons, List.length_nil, iv_length])) ?_
  refine WL.alloc st_17 zero42 ?_
  intro B_19 w_20 st_21
  replace st_21 : St w w_20 [.cells B_19 (([.string ByteArray.empty] : List Value) ++ ([.pointer none] : List Value)) 42, .cells B_15 (([.string (⟨#[104, 111, 109, 101]⟩ : ByteArray)] : List Value) ++ (([.pointer (some ⟨B_5, 0, none⟩)] : List Value) ++ (([.string (⟨#[106, 111, 117, 114, 110, 97, 108]⟩ : ByteArray)] : List Value) ++ (([.pointer (some ⟨B_5, 32, none⟩)] : List Value) ++ (([.string (⟨#[99, 104, 101, 99, 107]⟩ : ByteArray)] : List Value) ++ ([.pointer (some ⟨B_5, 64, none⟩)] : List Value)))))) 42, .cells B_5 (iv .u8 (List.replicate 32 (0 : Int)) ++ (iv .u8 (List.replicate 32 (0 : Int)) ++ iv .u8 (List.replicate 32 (0 : Int)))) 32, .cells B_1 (iv .u8 (List.replicate 32 (0 : Int)) ++ (iv .u8 (List.replicate 32 (0 : Int)) ++ iv .u8 (List.replicate 32 (0 : Int)))) 32] := st_21
  refine WL.store_mid (i := 0) (pre := (([] : List Value))) (mid := (([.string ByteArray.empty] : List Value) ++ ([.pointer none] : List Value))) (post := (([] : List Value))) (ms := (([.string (⟨#[104, 111, 109, 101]⟩ : ByteArray)] : List Value) ++ ([.pointer (some ⟨B_5, 0, none⟩)] : List Value))) st_21 rfl row42 (by first | rfl | simp only [List.append_assoc, List.append_nil, List.nil_append, List.cons_append]) (by first | rfl | simp only [List.length_append, List.length_cons, List.length_nil, iv_length]) rfl rfl (by first | rfl | simp only [List.length_append, List.length_cons, List.length_nil, iv_length]) (by first | rfl | simp only [List.length_append, List.length_cons, List.length_nil, iv_length]) (by intro u hu; simp only [List.mem_append, List.mem_singleton] at hu; rcases hu with hu | hu <;> first | exact one_iv _ _ u hu | (subst hu; rfl)) ?_
  intro w_23 st_24
  replace st_24 : St w w_23 [.cells B_19 (([.string (⟨#[104, 111, 109, 101]⟩ : ByteArray)] : List Value) ++ ([.pointer (some ⟨B_5, 0, none⟩)] : List Value)) 42, .cells B_15 (([.string (⟨#[104, 111, 109, 101]⟩ : ByteArray)] : List Value) ++ (([.pointer (some ⟨B_5, 0, none⟩)] : List Value) ++ (([.string (⟨#[106, 111, 117, 114, 110, 97, 108]⟩ : ByteArray)] : List Value) ++ (([.pointer (some ⟨B_5, 32, none⟩)] : List Value) ++ (([.string (⟨#[99, 104, 101, 99, 107]⟩ : ByteArray)] : List Value) ++ ([.pointer (some ⟨B_5, 64, none⟩)] : List Value)))))) 42, .cells B_5 (iv .u8 (List.replicate 32 (0 : Int)) ++ (iv .u8 (List.replicate 32 (0 : Int)) ++ iv .u8 (List.replicate 32 (0 : Int)))) 32, .cells B_1 (iv .u8 (List.replicate 32 (0 : Int)) ++ (iv .u8 (List.replicate 32 (0 : Int)) ++ iv .u8 (List.replicate 32 (0 : Int)))) 32] := by have e_ : (([.string (⟨#[104, 111, 109, 101]⟩ : ByteArray)] : List Value) ++ ([.pointer (some ⟨B_5, 0, none⟩)] : List Value)) = (([] : List Value)) ++ ((([.string (⟨#[104, 111, 109, 101]⟩ : ByteArray)] : List Value) ++ ([.pointer (some ⟨B_5, 0, none⟩)] : List Value)) ++ (([] : List Value))) := (by first | rfl | simp only [List.append_assoc, List.append_nil, List.nil_append, List.cons_append]); have h_ := st_24; rw [← e_] at h_; exact h_
  refine WL.nil ?_
  refine QW.then_n ?_
  refine CW.seq ?_
  refine CW.region ?_
  refine WL.val Wanted.none (Runs.move rfl) ?_
  refine WL.val Wanted.none (Runs.fieldAddr (off := 0) fld42_0 rfl rfl rfl) ?_
  refine WL.val Wanted.none (Runs.load nagg9 rfl (st_24.cell (k := 0) rfl (part_one (pre := (([] : List Value))) (post := (([.pointer (some ⟨B_5, 0, none⟩)] : List Value))) (by first | rfl | simp only [List.append_assoc, List.append_nil, List.nil_append, List.cons_append]) (by first | rfl | simp only [List.length_append, List.length_cons, List.length_nil, iv_length])))) ?_
  obtain ⟨r_29, r_31, hr_25, H⟩ := H
  refine WL.call Wanted.none ent10 rfl (keys_Derive.calls w_23 l0 (⟨#[104, 111, 109, 101]⟩ : ByteArray) A0 n0 c0 (hG0.ext st_24) (hs0.ext st_24) (hn0) (hc0) r_29 r_31 hr_25) ?_
  rintro _ w_26 ⟨hl_30, rfl, sc_28⟩
  have st_27 : St w w_26 [.cells B_19 (([.string (⟨#[104, 111, 109, 101]⟩ : ByteArray)] : List Value) ++ ([.pointer (some ⟨B_5, 0, none⟩)] : List Value)) 42, .cells B_15 (([.string (⟨#[104, 111, 109, 101]⟩ : ByteArray)] : List Value) ++ (([.pointer (some ⟨B_5, 0, none⟩)] : List Value) ++ (([.string (⟨#[106, 111, 117, 114, 110, 97, 108]⟩ : ByteArray)] : List Value) ++ (([.pointer (some ⟨B_5, 32, none⟩)] : List Value) ++ (([.string (⟨#[99, 104, 101, 99, 107]⟩ : ByteArray)] : List Value) ++ ([.pointer (some ⟨B_5, 64, none⟩)] : List Value)))))) 42, .cells B_5 (iv .u8 (List.replicate 32 (0 : Int)) ++ (iv .u8 (List.replicate 32 (0 : Int)) ++ iv .u8 (List.replicate 32 (0 : Int)))) 32, .cells B_1 (iv .u8 (List.replicate 32 (0 : Int)) ++ (iv .u8 (List.replicate 32 (0 : Int)) ++ iv .u8 (List.replicate 32 (0 : Int)))) 32] := st_24.call sc_28
  refine ⟨_, rfl, ?_⟩
  refine WL.val Wanted.none (Runs.move rfl) ?_
  refine WL.val Wanted.none (Runs.extract rfl rfl) ?_
  refine WL.val Wanted.none (Runs.extract rfl rfl) ?_
  refine WL.alloc st_27 arr25.zero ?_
  intro B_32 w_33 st_34
  replace st_34 : St w w_33 [.cells B_32 (iv .u8 (List.replicate 32 (0 : Int))) 25, .cells B_19 (([.string (⟨#[104, 111, 109, 101]⟩ : ByteArray)] : List Value) ++ ([.pointer (some ⟨B_5, 0, none⟩)] : List Value)) 42, .cells B_15 (([.string (⟨#[104, 111, 109, 101]⟩ : ByteArray)] : List Value) ++ (([.pointer (some ⟨B_5, 0, none⟩)] : List Value) ++ (([.string (⟨#[106, 111, 117, 114, 110, 97, 108]⟩ : ByteArray)] : List Value) ++ (([.pointer (some ⟨B_5, 32, none⟩)] : List Value) ++ (([.string (⟨#[99, 104, 101, 99, 107]⟩ : ByteArray)] : List Value) ++ ([.pointer (some ⟨B_5, 64, none⟩)] : List Value)))))) 42, .cells B_5 (iv .u8 (List.replicate 32 (0 : Int)) ++ (iv .u8 (List.replicate 32 (0 : Int)) ++ iv .u8 (List.replicate 32 (0 : Int)))) 32, .cells B_1 (iv .u8 (List.replicate 32 (0 : Int)) ++ (iv .u8 (List.replicate 32 (0 : Int)) ++ iv .u8 (List.replicate 32 (0 : Int)))) 32] := st_34
  refine WL.store_arr (i := 0) st_34 rfl arr25 rfl (by rw [iv_length]; exact (List.length_replicate ..)) hl_30 rfl ?_
  intro w_36 st_37
  replace st_37 : St w w_36 [.cells B_32 (iv .u8 r_29) 25, .cells B_19 (([.string (⟨#[104, 111, 109, 101]⟩ : ByteArray)] : List Value) ++ ([.pointer (some ⟨B_5, 0, none⟩)] : List Value)) 42, .cells B_15 (([.string (⟨#[104, 111, 109, 101]⟩ : ByteArray)] : List Value) ++ (([.pointer (some ⟨B_5, 0, none⟩)] : List Value) ++ (([.string (⟨#[106, 111, 117, 114, 110, 97, 108]⟩ : ByteArray)] : List Value) ++ (([.pointer (some ⟨B_5, 32, none⟩)] : List Value) ++ (([.string (⟨#[99, 104, 101, 99, 107]⟩ : ByteArray)] : List Value) ++ ([.pointer (some ⟨B_5, 64, none⟩)] : List Value)))))) 42, .cells B_5 (iv .u8 (List.replicate 32 (0 : Int)) ++ (iv .u8 (List.replicate 32 (0 : Int)) ++ iv .u8 (List.replicate 32 (0 : Int)))) 32, .cells B_1 (iv .u8 (List.replicate 32 (0 : Int)) ++ (iv .u8 (List.replicate 32 (0 : Int)) ++ iv .u8 (List.replicate 32 (0 : Int)))) 32] := st_37
  refine WL.val Wanted.none (Runs.assign rfl) ?_
  refine WL.nil ?_
  refine QW.then_n ?_
  refine CW.seq ?_
  refine CW.seq ?_
  refine CW.region ?_
  refine WL.val Wanted.none (Runs.move rfl) ?_
  refine WL.val Wanted.none (Runs.neq rfl rfl rfl) ?_
  refine WL.nil ?_
  refine QW.then_n ?_
  rcases H with ⟨c_39, H⟩ | ⟨c_39, H⟩
  · have h_40 : (r_31 != 0) = true := (bne_iff_ne.mpr c_39)
    refine CW.ct rfl h_40 ?_
    refine CW.seq ?_
    refine CW.region ?_
    refine WL.val Wanted.none (Runs.build_struct (ps := [(0, 32), (32, 32), (64, 32)]) (cs := (iv .u8 (List.replicate 32 (0 : Int)) ++ (iv .u8 (List.replicate 32 (0 : Int)) ++ iv .u8 (List.replicate 32 (0 : Int))))) plc32 zero32 rfl Fills.nil) ?_
    refine WL.val Wanted.none (Runs.move rfl) ?_
    refine WL.store_mid (i := 4) (pre := (([] : List Value))) (mid := (iv .u8 (List.replicate 32 (0 : Int)) ++ (iv .u8 (List.replicate 32 (0 : Int)) ++ iv .u8 (List.replicate 32 (0 : Int))))) (post := (([] : List Value))) (ms := (iv .u8 (List.replicate 32 (0 : Int)) ++ (iv .u8 (List.replicate 32 (0 : Int)) ++ iv .u8 (List.replicate 32 (0 : Int))))) st_37 rfl row32 (by first | rfl | simp only [List.append_assoc, List.append_nil, List.nil_append, List.cons_append]) (by first | rfl | simp only [List.length_append, List.length_cons, List.length_nil, iv_length]) rfl rfl (by first | rfl | simp only [List.length_append, List.length_cons, List.length_nil, iv_length, List.length_replicate]) (by first | rfl | simp only [List.length_append, List.length_cons, List.length_nil, iv_length, List.length_replicate]) (by intro u hu; simp only [List.mem_append, List.mem_singleton] at hu; rcases hu with hu | hu | hu <;> first | exact one_iv _ _ u hu | (subst hu; rfl)) ?_
    intro w_41 st_42
    replace st_42 : St w w_41 [.cells B_32 (iv .u8 r_29) 25, .cells B_19 (([.string (⟨#[104, 111, 109, 101]⟩ : ByteArray)] : List Value) ++ ([.pointer (some ⟨B_5, 0, none⟩)] : List Value)) 42, .cells B_15 (([.string (⟨#[104, 111, 109, 101]⟩ : ByteArray)] : List Value) ++ (([.pointer (some ⟨B_5, 0, none⟩)] : List Value) ++ (([.string (⟨#[106, 111, 117, 114, 110, 97, 108]⟩ : ByteArray)] : List Value) ++ (([.pointer (some ⟨B_5, 32, none⟩)] : List Value) ++ (([.string (⟨#[99, 104, 101, 99, 107]⟩ : ByteArray)] : List Value) ++ ([.pointer (some ⟨B_5, 64, none⟩)] : List Value)))))) 42, .cells B_5 (iv .u8 (List.replicate 32 (0 : Int)) ++ (iv .u8 (List.replicate 32 (0 : Int)) ++ iv .u8 (List.replicate 32 (0 : Int)))) 32, .cells B_1 (iv .u8 (List.replicate 32 (0 : Int)) ++ (iv .u8 (List.replicate 32 (0 : Int)) ++ iv .u8 (List.replicate 32 (0 : Int)))) 32] := by have e_ : (iv .u8 (List.replicate 32 (0 : Int)) ++ (iv .u8 (List.replicate 32 (0 : Int)) ++ iv .u8 (List.replicate 32 (0 : Int)))) = (([] : List Value)) ++ ((iv .u8 (List.replicate 32 (0 : Int)) ++ (iv .u8 (List.replicate 32 (0 : Int)) ++ iv .u8 (List.replicate 32 (0 : Int)))) ++ (([] : List Value))) := (by first | rfl | simp only [List.append_assoc, List.append_nil, List.nil_append, List.cons_append]); have h_ := st_42; rw [← e_] at h_; exact h_
    refine WL.val Wanted.none (Runs.assign rfl) ?_
    refine WL.nil ?_
    refine QW.then_n ?_
    refine CW.ret ?_
    refine QW.then_r ?_
    refine QW.blk_r ?_
    refine QW.then_r ?_
    refine QW.then_r ?_
    refine QW.blk_r ?_
    refine QW.then_r ?_
    obtain ⟨rfl, rfl, rfl, rfl⟩ := H
    exact QW.retr1 rfl row32 rfl st_42 (i := 4) rfl (by first | rfl | simp only [List.length_append, List.length_cons, List.length_nil, iv_length, List.length_replicate]) rfl ⟨(List.length_replicate ..), (List.length_replicate ..), (List.length_replicate ..), rfl, st_42.pick [] (by decide)⟩
  · have h_40 : (r_31 != 0) = false := (bne_eq_false_iff_eq.mpr (Decidable.not_not.mp c_39))
    refine CW.cf rfl h_40 ?_
    refine CW.skip ?_
    refine QW.then_n ?_
    refine CW.region ?_
    refine WL.val Wanted.none (Runs.fieldAddr (off := 1) fld42_1 rfl rfl rfl) ?_
    refine WL.val Wanted.none (Runs.load nagg41 rfl (st_37.cell (k := 1) rfl (part_one (pre := (([.string (⟨#[104, 111, 109, 101]⟩ : ByteArray)] : List Value))) (post := (([] : List Value))) (by first | rfl | simp only [List.append_assoc, List.append_nil, List.nil_append, List.cons_append]) (by first | rfl | simp only [List.length_append, List.length_cons, List.length_nil, iv_length])))) ?_
    refine WL.val Wanted.none (Runs.load_arr arr25 rfl (st_37.blk (i := 0) rfl) hl_30) ?_
    refine WL.val Wanted.none (Runs.nilCheck rfl) ?_
    refine WL.store_mid (i := 3) (pre := (([] : List Value))) (mid := (iv .u8 (List.replicate 32 (0 : Int)))) (post := (iv .u8 (List.replicate 32 (0 : Int)) ++ iv .u8 (List.replicate 32 (0 : Int)))) (ms := (iv .u8 r_29)) st_37 rfl row25 (by first | rfl | simp only [List.append_assoc, List.append_nil, List.nil_append, List.cons_append]) (by first | rfl | simp only [List.length_append, List.length_cons, List.length_nil, iv_length]) rfl rfl (by first | rfl | simp only [List.length_append, List.length_cons, List.length_nil, iv_length, hl_30]) (by first | rfl | simp only [List.length_append, List.length_cons, List.length_nil, iv_length, List.length_replicate]) (one_iv _ _) ?_
    intro w_43 st_44
    replace st_44 : St w w_43 [.cells B_32 (iv .u8 r_29) 25, .cells B_19 (([.string (⟨#[104, 111, 109, 101]⟩ : ByteArray)] : List Value) ++ ([.pointer (some ⟨B_5, 0, none⟩)] : List Value)) 42, .cells B_15 (([.string (⟨#[104, 111, 109, 101]⟩ : ByteArray)] : List Value) ++ (([.pointer (some ⟨B_5, 0, none⟩)] : List Value) ++ (([.string (⟨#[106, 111, 117, 114, 110, 97, 108]⟩ : ByteArray)] : List Value) ++ (([.pointer (some ⟨B_5, 32, none⟩)] : List Value) ++ (([.string (⟨#[99, 104, 101, 99, 107]⟩ : ByteArray)] : List Value) ++ ([.pointer (some ⟨B_5, 64, none⟩)] : List Value)))))) 42, .cells B_5 (iv .u8 r_29 ++ (iv .u8 (List.replicate 32 (0 : Int)) ++ iv .u8 (List.replicate 32 (0 : Int)))) 32, .cells B_1 (iv .u8 (List.replicate 32 (0 : Int)) ++ (iv .u8 (List.replicate 32 (0 : Int)) ++ iv .u8 (List.replicate 32 (0 : Int)))) 32] := by have e_ : (iv .u8 r_29 ++ (iv .u8 (List.replicate 32 (0 : Int)) ++ iv .u8 (List.replicate 32 (0 : Int)))) = (([] : List Value)) ++ ((iv .u8 r_29) ++ (iv .u8 (List.replicate 32 (0 : Int)) ++ iv .u8 (List.replicate 32 (0 : Int)))) := (by first | rfl | simp only [List.append_assoc, List.append_nil, List.nil_append, List.cons_append]); have h_ := st_44; rw [← e_] at h_; exact h_
    refine WL.nil ?_
    refine QW.blk_n ?_
    refine QW.then_n ?_
    refine CW.region ?_
    refine WL.val Wanted.none (Runs.add (z := 1) rfl rfl (by decide)) ?_
    refine WL.val Wanted.none (Runs.move rfl) ?_
    refine WL.nil ?_
    refine QW.round ?_
    refine CW.seq ?_
    refine CW.region ?_
    refine WL.val Wanted.none (Runs.lss (b := true) rfl rfl (by decide)) ?_
    refine WL.nil ?_
    refine QW.then_n ?_
    refine CW.seq ?_
    refine CW.ct rfl rfl ?_
    refine CW.skip ?_
    refine QW.then_n ?_
    refine CW.seq ?_
    refine CW.block ?_
    refine CW.seq ?_
    refine CW.region ?_
    refine WL.val Wanted.none (Runs.indexAddr_slrow Tryd.underlying43 siz42 rfl rfl (by decide) (by decide) (by rfl)) ?_
    refine WL.val Wanted.none (Runs.load_mid row42 rfl st_44 (i := 2) rfl (part_mid (pre := (([.string (⟨#[104, 111, 109, 101]⟩ : ByteArray)] : List Value) ++ ([.pointer (some ⟨B_5, 0, none⟩)] : List Value))) (mid := (([.string (⟨#[106, 111, 117, 114, 110, 97, 108]⟩ : ByteArray)] : List Value) ++ ([.pointer (some ⟨B_5, 32, none⟩)] : List Value))) (post := (([.string (⟨#[99, 104, 101, 99, 107]⟩ : ByteArray)] : List Value) ++ ([.pointer (some ⟨B_5, 64, none⟩)] : List Value))) (by first | rfl | simp only [List.append_assoc, List.append_nil, List.nil_append, List.cons_append]) (by first | rfl | simp only [List.length_append, List.length_cons, List.length_nil, iv_length]) (by first | rfl | simp only [List.length_append, List.length_cons, List.length_nil, iv_length])) (by first | rfl | simp only [List.length_append, List.length_cons, List.length_nil, iv_length])) ?_
    refine WL.alloc st_44 zero42 ?_
    intro B_45 w_46 st_47
    replace st_47 : St w w_46 [.cells B_45 (([.string ByteArray.empty] : List Value) ++ ([.pointer none] : List Value)) 42, .cells B_32 (iv .u8 r_29) 25, .cells B_19 (([.string (⟨#[104, 111, 109, 101]⟩ : ByteArray)] : List Value) ++ ([.pointer (some ⟨B_5, 0, none⟩)] : List Value)) 42, .cells B_15 (([.string (⟨#[104, 111, 109, 101]⟩ : ByteArray)] : List Value) ++ (([.pointer (some ⟨B_5, 0, none⟩)] : List Value) ++ (([.string (⟨#[106, 111, 117, 114, 110, 97, 108]⟩ : ByteArray)] : List Value) ++ (([.pointer (some ⟨B_5, 32, none⟩)] : List Value) ++ (([.string (⟨#[99, 104, 101, 99, 107]⟩ : ByteArray)] : List Value) ++ ([.pointer (some ⟨B_5, 64, none⟩)] : List Value)))))) 42, .cells B_5 (iv .u8 r_29 ++ (iv .u8 (List.replicate 32 (0 : Int)) ++ iv .u8 (List.replicate 32 (0 : Int)))) 32, .cells B_1 (iv .u8 (List.replicate 32 (0 : Int)) ++ (iv .u8 (List.replicate 32 (0 : Int)) ++ iv .u8 (List.replicate 32 (0 : Int)))) 32] := st_47
    refine WL.store_mid (i := 0) (pre := (([] : List Value))) (mid := (([.string ByteArray.empty] : List Value) ++ ([.pointer none] : List Value))) (post := (([] : List Value))) (ms := (([.string (⟨#[106, 111, 117, 114, 110, 97, 108]⟩ : ByteArray)] : List Value) ++ ([.pointer (some ⟨B_5, 32, none⟩)] : List Value))) st_47 rfl row42 (by first | rfl | simp only [List.append_assoc, List.append_nil, List.nil_append, List.cons_append]) (by first | rfl | simp only [List.length_append, List.length_cons, List.length_nil, iv_length]) rfl rfl (by first | rfl | simp only [List.length_append, List.length_cons, List.length_nil, iv_length]) (by first | rfl | simp only [List.length_append, List.length_cons, List.length_nil, iv_length]) (by intro u hu; simp only [List.mem_append, List.mem_singleton] at hu; rcases hu with hu | hu <;> first | exact one_iv _ _ u hu | (subst hu; rfl)) ?_
    intro w_49 st_50
    replace st_50 : St w w_49 [.cells B_45 (([.string (⟨#[106, 111, 117, 114, 110, 97, 108]⟩ : ByteArray)] : List Value) ++ ([.pointer (some ⟨B_5, 32, none⟩)] : List Value)) 42, .cells B_32 (iv .u8 r_29) 25, .cells B_19 (([.string (⟨#[104, 111, 109, 101]⟩ : ByteArray)] : List Value) ++ ([.pointer (some ⟨B_5, 0, none⟩)] : List Value)) 42, .cells B_15 (([.string (⟨#[104, 111, 109, 101]⟩ : ByteArray)] : List Value) ++ (([.pointer (some ⟨B_5, 0, none⟩)] : List Value) ++ (([.string (⟨#[106, 111, 117, 114, 110, 97, 108]⟩ : ByteArray)] : List Value) ++ (([.pointer (some ⟨B_5, 32, none⟩)] : List Value) ++ (([.string (⟨#[99, 104, 101, 99, 107]⟩ : ByteArray)] : List Value) ++ ([.pointer (some ⟨B_5, 64, none⟩)] : List Value)))))) 42, .cells B_5 (iv .u8 r_29 ++ (iv .u8 (List.replicate 32 (0 : Int)) ++ iv .u8 (List.replicate 32 (0 : Int)))) 32, .cells B_1 (iv .u8 (List.replicate 32 (0 : Int)) ++ (iv .u8 (List.replicate 32 (0 : Int)) ++ iv .u8 (List.replicate 32 (0 : Int)))) 32] := by have e_ : (([.string (⟨#[106, 111, 117, 114, 110, 97, 108]⟩ : ByteArray)] : List Value) ++ ([.pointer (some ⟨B_5, 32, none⟩)] : List Value)) = (([] : List Value)) ++ ((([.string (⟨#[106, 111, 117, 114, 110, 97, 108]⟩ : ByteArray)] : List Value) ++ ([.pointer (some ⟨B_5, 32, none⟩)] : List Value)) ++ (([] : List Value))) := (by first | rfl | simp only [List.append_assoc, List.append_nil, List.nil_append, List.cons_append]); have h_ := st_50; rw [← e_] at h_; exact h_
    refine WL.nil ?_
    refine QW.then_n ?_
    refine CW.seq ?_
    refine CW.region ?_
    refine WL.val Wanted.none (Runs.move rfl) ?_
    refine WL.val Wanted.none (Runs.fieldAddr (off := 0) fld42_0 rfl rfl rfl) ?_
    refine WL.val Wanted.none (Runs.load nagg9 rfl (st_50.cell (k := 0) rfl (part_one (pre := (([] : List Value))) (post := (([.pointer (some ⟨B_5, 32, none⟩)] : List Value))) (by first | rfl | simp only [List.append_assoc, List.append_nil, List.nil_append, List.cons_append]) (by first | rfl | simp only [List.length_append, List.length_cons, List.length_nil, iv_length])))) ?_
    obtain ⟨r_55, r_57, hr_51, H⟩ := H
    refine WL.call Wanted.none ent10 rfl (keys_Derive.calls w_49 l0 (⟨#[106, 111, 117, 114, 110, 97, 108]⟩ : ByteArray) A0 n0 c0 (hG0.ext st_50) (hs0.ext st_50) (hn0) (hc0) r_55 r_57 hr_51) ?_
    rintro _ w_52 ⟨hl_56, rfl, sc_54⟩
    have st_53 : St w w_52 [.cells B_45 (([.string (⟨#[106, 111, 117, 114, 110, 97, 108]⟩ : ByteArray)] : List Value) ++ ([.pointer (some ⟨B_5, 32, none⟩)] : List Value)) 42, .cells B_32 (iv .u8 r_29) 25, .cells B_19 (([.string (⟨#[104, 111, 109, 101]⟩ : ByteArray)] : List Value) ++ ([.pointer (some ⟨B_5, 0, none⟩)] : List Value)) 42, .cells B_15 (([.string (⟨#[104, 111, 109, 101]⟩ : ByteArray)] : List Value) ++ (([.pointer (some ⟨B_5, 0, none⟩)] : List Value) ++ (([.string (⟨#[106, 111, 117, 114, 110, 97, 108]⟩ : ByteArray)] : List Value) ++ (([.pointer (some ⟨B_5, 32, none⟩)] : List Value) ++ (([.string (⟨#[99, 104, 101, 99, 107]⟩ : ByteArray)] : List Value) ++ ([.pointer (some ⟨B_5, 64, none⟩)] : List Value)))))) 42, .cells B_5 (iv .u8 r_29 ++ (iv .u8 (List.replicate 32 (0 : Int)) ++ iv .u8 (List.replicate 32 (0 : Int)))) 32, .cells B_1 (iv .u8 (List.replicate 32 (0 : Int)) ++ (iv .u8 (List.replicate 32 (0 : Int)) ++ iv .u8 (List.replicate 32 (0 : Int)))) 32] := st_50.call sc_54
    refine ⟨_, rfl, ?_⟩
    refine WL.val Wanted.none (Runs.move rfl) ?_
    refine WL.val Wanted.none (Runs.extract rfl rfl) ?_
    refine WL.val Wanted.none (Runs.extract rfl rfl) ?_
    refine WL.alloc st_53 arr25.zero ?_
    intro B_58 w_59 st_60
    replace st_60 : St w w_59 [.cells B_58 (iv .u8 (List.replicate 32 (0 : Int))) 25, .cells B_45 (([.string (⟨#[106, 111, 117, 114, 110, 97, 108]⟩ : ByteArray)] : List Value) ++ ([.pointer (some ⟨B_5, 32, none⟩)] : List Value)) 42, .cells B_32 (iv .u8 r_29) 25, .cells B_19 (([.string (⟨#[104, 111, 109, 101]⟩ : ByteArray)] : List Value) ++ ([.pointer (some ⟨B_5, 0, none⟩)] : List Value)) 42, .cells B_15 (([.string (⟨#[104, 111, 109, 101]⟩ : ByteArray)] : List Value) ++ (([.pointer (some ⟨B_5, 0, none⟩)] : List Value) ++ (([.string (⟨#[106, 111, 117, 114, 110, 97, 108]⟩ : ByteArray)] : List Value) ++ (([.pointer (some ⟨B_5, 32, none⟩)] : List Value) ++ (([.string (⟨#[99, 104, 101, 99, 107]⟩ : ByteArray)] : List Value) ++ ([.pointer (some ⟨B_5, 64, none⟩)] : List Value)))))) 42, .cells B_5 (iv .u8 r_29 ++ (iv .u8 (List.replicate 32 (0 : Int)) ++ iv .u8 (List.replicate 32 (0 : Int)))) 32, .cells B_1 (iv .u8 (List.replicate 32 (0 : Int)) ++ (iv .u8 (List.replicate 32 (0 : Int)) ++ iv .u8 (List.replicate 32 (0 : Int)))) 32] := st_60
    refine WL.store_arr (i := 0) st_60 rfl arr25 rfl (by rw [iv_length]; exact (List.length_replicate ..)) hl_56 rfl ?_
    intro w_62 st_63
    replace st_63 : St w w_62 [.cells B_58 (iv .u8 r_55) 25, .cells B_45 (([.string (⟨#[106, 111, 117, 114, 110, 97, 108]⟩ : ByteArray)] : List Value) ++ ([.pointer (some ⟨B_5, 32, none⟩)] : List Value)) 42, .cells B_32 (iv .u8 r_29) 25, .cells B_19 (([.string (⟨#[104, 111, 109, 101]⟩ : ByteArray)] : List Value) ++ ([.pointer (some ⟨B_5, 0, none⟩)] : List Value)) 42, .cells B_15 (([.string (⟨#[104, 111, 109, 101]⟩ : ByteArray)] : List Value) ++ (([.pointer (some ⟨B_5, 0, none⟩)] : List Value) ++ (([.string (⟨#[106, 111, 117, 114, 110, 97, 108]⟩ : ByteArray)] : List Value) ++ (([.pointer (some ⟨B_5, 32, none⟩)] : List Value) ++ (([.string (⟨#[99, 104, 101, 99, 107]⟩ : ByteArray)] : List Value) ++ ([.pointer (some ⟨B_5, 64, none⟩)] : List Value)))))) 42, .cells B_5 (iv .u8 r_29 ++ (iv .u8 (List.replicate 32 (0 : Int)) ++ iv .u8 (List.replicate 32 (0 : Int)))) 32, .cells B_1 (iv .u8 (List.replicate 32 (0 : Int)) ++ (iv .u8 (List.replicate 32 (0 : Int)) ++ iv .u8 (List.replicate 32 (0 : Int)))) 32] := st_63
    refine WL.val Wanted.none (Runs.assign rfl) ?_
    refine WL.nil ?_
    refine QW.then_n ?_
    refine CW.seq ?_
    refine CW.seq ?_
    refine CW.region ?_
    refine WL.val Wanted.none (Runs.move rfl) ?_
    refine WL.val Wanted.none (Runs.neq rfl rfl rfl) ?_
    refine WL.nil ?_
    refine QW.then_n ?_
    rcases H with ⟨c_65, H⟩ | ⟨c_65, H⟩
    · have h_66 : (r_57 != 0) = true := (bne_iff_ne.mpr c_65)
      refine CW.ct rfl h_66 ?_
      refine CW.seq ?_
      refine CW.region ?_
      refine WL.val Wanted.none (Runs.build_struct (ps := [(0, 32), (32, 32), (64, 32)]) (cs := (iv .u8 (List.replicate 32 (0 : Int)) ++ (iv .u8 (List.replicate 32 (0 : Int)) ++ iv .u8 (List.replicate 32 (0 : Int))))) plc32 zero32 rfl Fills.nil) ?_
      refine WL.val Wanted.none (Runs.move rfl) ?_
      refine WL.store_mid (i := 6) (pre := (([] : List Value))) (mid := (iv .u8 (List.replicate 32 (0 : Int)) ++ (iv .u8 (List.replicate 32 (0 : Int)) ++ iv .u8 (List.replicate 32 (0 : Int))))) (post := (([] : List Value))) (ms := (iv .u8 (List.replicate 32 (0 : Int)) ++ (iv .u8 (List.replicate 32 (0 : Int)) ++ iv .u8 (List.replicate 32 (0 : Int))))) st_63 rfl row32 (by first | rfl | simp only [List.append_assoc, List.append_nil, List.nil_append, List.cons_append]) (by first | rfl | simp only [List.length_append, List.length_cons, List.length_nil, iv_length]) rfl rfl (by first | rfl | simp only [List.length_append, List.length_cons, List.length_nil, iv_length, List.length_replicate]) (by first | rfl | simp only [List.length_append, List.length_cons, List.length_nil, iv_length, List.length_replicate]) (by intro u hu; simp only [List.mem_append, List.mem_singleton] at hu; rcases hu with hu | hu | hu <;> first | exact one_iv _ _ u hu | (subst hu; rfl)) ?_
      intro w_67 st_68
      replace st_68 : St w w_67 [.cells B_58 (iv .u8 r_55) 25, .cells B_45 (([.string (⟨#[106, 111, 117, 114, 110, 97, 108]⟩ : ByteArray)] : List Value) ++ ([.pointer (some ⟨B_5, 32, none⟩)] : List Value)) 42, .cells B_32 (iv .u8 r_29) 25, .cells B_19 (([.string (⟨#[104, 111, 109, 101]⟩ : ByteArray)] : List Value) ++ ([.pointer (some ⟨B_5, 0, none⟩)] : List Value)) 42, .cells B_15 (([.string (⟨#[104, 111, 109, 101]⟩ : ByteArray)] : List Value) ++ (([.pointer (some ⟨B_5, 0, none⟩)] : List Value) ++ (([.string (⟨#[106, 111, 117, 114, 110, 97, 108]⟩ : ByteArray)] : List Value) ++ (([.pointer (some ⟨B_5, 32, none⟩)] : List Value) ++ (([.string (⟨#[99, 104, 101, 99, 107]⟩ : ByteArray)] : List Value) ++ ([.pointer (some ⟨B_5, 64, none⟩)] : List Value)))))) 42, .cells B_5 (iv .u8 r_29 ++ (iv .u8 (List.replicate 32 (0 : Int)) ++ iv .u8 (List.replicate 32 (0 : Int)))) 32, .cells B_1 (iv .u8 (List.replicate 32 (0 : Int)) ++ (iv .u8 (List.replicate 32 (0 : Int)) ++ iv .u8 (List.replicate 32 (0 : Int)))) 32] := by have e_ : (iv .u8 (List.replicate 32 (0 : Int)) ++ (iv .u8 (List.replicate 32 (0 : Int)) ++ iv .u8 (List.replicate 32 (0 : Int)))) = (([] : List Value)) ++ ((iv .u8 (List.replicate 32 (0 : Int)) ++ (iv .u8 (List.replicate 32 (0 : Int)) ++ iv .u8 (List.replicate 32 (0 : Int)))) ++ (([] : List Value))) := (by first | rfl | simp only [List.append_assoc, List.append_nil, List.nil_append, List.cons_append]); have h_ := st_68; rw [← e_] at h_; exact h_
      refine WL.val Wanted.none (Runs.assign rfl) ?_
      refine WL.nil ?_
      refine QW.then_n ?_
      refine CW.ret ?_
      refine QW.then_r ?_
      refine QW.blk_r ?_
      refine QW.then_r ?_
      refine QW.then_r ?_
      refine QW.blk_r ?_
      refine QW.then_r ?_
      obtain ⟨rfl, rfl, rfl, rfl⟩ := H
      exact QW.retr1 rfl row32 rfl st_68 (i := 6) rfl (by first | rfl | simp only [List.length_append, List.length_cons, List.length_nil, iv_length, List.length_replicate]) rfl ⟨(List.length_replicate ..), (List.length_replicate ..), (List.length_replicate ..), rfl, st_68.pick [] (by decide)⟩
    · have h_66 : (r_57 != 0) = false := (bne_eq_false_iff_eq.mpr (Decidable.not_not.mp c_65))
      refine CW.cf rfl h_66 ?_
      refine CW.skip ?_
      refine QW.then_n ?_
      refine CW.region ?_
      refine WL.val Wanted.none (Runs.fieldAddr (off := 1) fld42_1 rfl rfl rfl) ?_
      refine WL.val Wanted.none (Runs.load nagg41 rfl (st_63.cell (k := 1) rfl (part_one (pre := (([.string (⟨#[106, 111, 117, 114, 110, 97, 108]⟩ : ByteArray)] : List Value))) (post := (([] : List Value))) (by first | rfl | simp only [List.append_assoc, List.append_nil, List.nil_append, List.cons_append]) (by first | rfl | simp only [List.length_append, List.length_cons, List.length_nil, iv_length])))) ?_
      refine WL.val Wanted.none (Runs.load_arr arr25 rfl (st_63.blk (i := 0) rfl) hl_56) ?_
      refine WL.val Wanted.none (Runs.nilCheck rfl) ?_
      refine WL.store_mid (i := 5) (pre := (iv .u8 r_29)) (mid := (iv .u8 (List.replicate 32 (0 : Int)))) (post := (iv .u8 (List.replicate 32 (0 : Int)))) (ms := (iv .u8 r_55)) st_63 rfl row25 (by first | rfl | simp only [List.append_assoc, List.append_nil, List.nil_append, List.cons_append]) (by first | rfl | simp only [List.length_append, List.length_cons, List.length_nil, iv_length, hl_30]) rfl rfl (by first | rfl | simp only [List.length_append, List.length_cons, List.length_nil, iv_length, hl_56]) (by first | rfl | simp only [List.length_append, List.length_cons, List.length_nil, iv_length, List.length_replicate]) (one_iv _ _) ?_
      intro w_69 st_70
      replace st_70 : St w w_69 [.cells B_58 (iv .u8 r_55) 25, .cells B_45 (([.string (⟨#[106, 111, 117, 114, 110, 97, 108]⟩ : ByteArray)] : List Value) ++ ([.pointer (some ⟨B_5, 32, none⟩)] : List Value)) 42, .cells B_32 (iv .u8 r_29) 25, .cells B_19 (([.string (⟨#[104, 111, 109, 101]⟩ : ByteArray)] : List Value) ++ ([.pointer (some ⟨B_5, 0, none⟩)] : List Value)) 42, .cells B_15 (([.string (⟨#[104, 111, 109, 101]⟩ : ByteArray)] : List Value) ++ (([.pointer (some ⟨B_5, 0, none⟩)] : List Value) ++ (([.string (⟨#[106, 111, 117, 114, 110, 97, 108]⟩ : ByteArray)] : List Value) ++ (([.pointer (some ⟨B_5, 32, none⟩)] : List Value) ++ (([.string (⟨#[99, 104, 101, 99, 107]⟩ : ByteArray)] : List Value) ++ ([.pointer (some ⟨B_5, 64, none⟩)] : List Value)))))) 42, .cells B_5 (iv .u8 r_29 ++ (iv .u8 r_55 ++ iv .u8 (List.replicate 32 (0 : Int)))) 32, .cells B_1 (iv .u8 (List.replicate 32 (0 : Int)) ++ (iv .u8 (List.replicate 32 (0 : Int)) ++ iv .u8 (List.replicate 32 (0 : Int)))) 32] := by have e_ : (iv .u8 r_29 ++ (iv .u8 r_55 ++ iv .u8 (List.replicate 32 (0 : Int)))) = (iv .u8 r_29) ++ ((iv .u8 r_55) ++ (iv .u8 (List.replicate 32 (0 : Int)))) := (by first | rfl | simp only [List.append_assoc, List.append_nil, List.nil_append, List.cons_append]); have h_ := st_70; rw [← e_] at h_; exact h_
      refine WL.nil ?_
      refine QW.blk_n ?_
      refine QW.then_n ?_
      refine CW.region ?_
      refine WL.val Wanted.none (Runs.add (z := 2) rfl rfl (by decide)) ?_
      refine WL.val Wanted.none (Runs.move rfl) ?_
      refine WL.nil ?_
      refine QW.round ?_
      refine CW.seq ?_
      refine CW.region ?_
      refine WL.val Wanted.none (Runs.lss (b := true) rfl rfl (by decide)) ?_
      refine WL.nil ?_
      refine QW.then_n ?_
      refine CW.seq ?_
      refine CW.ct rfl rfl ?_
      refine CW.skip ?_
      refine QW.then_n ?_
      refine CW.seq ?_
      refine CW.block ?_
      refine CW.seq ?_
      refine CW.region ?_
      refine WL.val Wanted.none (Runs.indexAddr_slrow Tryd.underlying43 siz42 rfl rfl (by decide) (by decide) (by rfl)) ?_
      refine WL.val Wanted.none (Runs.load_mid row42 rfl st_70 (i := 4) rfl (part_mid (pre := (([.string (⟨#[104, 111, 109, 101]⟩ : ByteArray)] : List Value) ++ (([.pointer (some ⟨B_5, 0, none⟩)] : List Value) ++ (([.string (⟨#[106, 111, 117, 114, 110, 97, 108]⟩ : ByteArray)] : List Value) ++ ([.pointer (some ⟨B_5, 32, none⟩)] : List Value))))) (mid := (([.string (⟨#[99, 104, 101, 99, 107]⟩ : ByteArray)] : List Value) ++ ([.pointer (some ⟨B_5, 64, none⟩)] : List Value))) (post := (([] : List Value))) (by first | rfl | simp only [List.append_assoc, List.append_nil, List.nil_append, List.cons_append]) (by first | rfl | simp only [List.length_append, List.length_cons, List.length_nil, iv_length]) (by first | rfl | simp only [List.length_append, List.length_cons, List.length_nil, iv_length])) (by first | rfl | simp only [List.length_append, List.length_cons, List.length_nil, iv_length])) ?_
      refine WL.alloc st_70 zero42 ?_
      intro B_71 w_72 st_73
      replace st_73 : St w w_72 [.cells B_71 (([.string ByteArray.empty] : List Value) ++ ([.pointer none] : List Value)) 42, .cells B_58 (iv .u8 r_55) 25, .cells B_45 (([.string (⟨#[106, 111, 117, 114, 110, 97, 108]⟩ : ByteArray)] : List Value) ++ ([.pointer (some ⟨B_5, 32, none⟩)] : List Value)) 42, .cells B_32 (iv .u8 r_29) 25, .cells B_19 (([.string (⟨#[104, 111, 109, 101]⟩ : ByteArray)] : List Value) ++ ([.pointer (some ⟨B_5, 0, none⟩)] : List Value)) 42, .cells B_15 (([.string (⟨#[104, 111, 109, 101]⟩ : ByteArray)] : List Value) ++ (([.pointer (some ⟨B_5, 0, none⟩)] : List Value) ++ (([.string (⟨#[106, 111, 117, 114, 110, 97, 108]⟩ : ByteArray)] : List Value) ++ (([.pointer (some ⟨B_5, 32, none⟩)] : List Value) ++ (([.string (⟨#[99, 104, 101, 99, 107]⟩ : ByteArray)] : List Value) ++ ([.pointer (some ⟨B_5, 64, none⟩)] : List Value)))))) 42, .cells B_5 (iv .u8 r_29 ++ (iv .u8 r_55 ++ iv .u8 (List.replicate 32 (0 : Int)))) 32, .cells B_1 (iv .u8 (List.replicate 32 (0 : Int)) ++ (iv .u8 (List.replicate 32 (0 : Int)) ++ iv .u8 (List.replicate 32 (0 : Int)))) 32] := st_73
      refine WL.store_mid (i := 0) (pre := (([] : List Value))) (mid := (([.string ByteArray.empty] : List Value) ++ ([.pointer none] : List Value))) (post := (([] : List Value))) (ms := (([.string (⟨#[99, 104, 101, 99, 107]⟩ : ByteArray)] : List Value) ++ ([.pointer (some ⟨B_5, 64, none⟩)] : List Value))) st_73 rfl row42 (by first | rfl | simp only [List.append_assoc, List.append_nil, List.nil_append, List.cons_append]) (by first | rfl | simp only [List.length_append, List.length_cons, List.length_nil, iv_length]) rfl rfl (by first | rfl | simp only [List.length_append, List.length_cons, List.length_nil, iv_length]) (by first | rfl | simp only [List.length_append, List.length_cons, List.length_nil, iv_length]) (by intro u hu; simp only [List.mem_append, List.mem_singleton] at hu; rcases hu with hu | hu <;> first | exact one_iv _ _ u hu | (subst hu; rfl)) ?_
      intro w_75 st_76
      replace st_76 : St w w_75 [.cells B_71 (([.string (⟨#[99, 104, 101, 99, 107]⟩ : ByteArray)] : List Value) ++ ([.pointer (some ⟨B_5, 64, none⟩)] : List Value)) 42, .cells B_58 (iv .u8 r_55) 25, .cells B_45 (([.string (⟨#[106, 111, 117, 114, 110, 97, 108]⟩ : ByteArray)] : List Value) ++ ([.pointer (some ⟨B_5, 32, none⟩)] : List Value)) 42, .cells B_32 (iv .u8 r_29) 25, .cells B_19 (([.string (⟨#[104, 111, 109, 101]⟩ : ByteArray)] : List Value) ++ ([.pointer (some ⟨B_5, 0, none⟩)] : List Value)) 42, .cells B_15 (([.string (⟨#[104, 111, 109, 101]⟩ : ByteArray)] : List Value) ++ (([.pointer (some ⟨B_5, 0, none⟩)] : List Value) ++ (([.string (⟨#[106, 111, 117, 114, 110, 97, 108]⟩ : ByteArray)] : List Value) ++ (([.pointer (some ⟨B_5, 32, none⟩)] : List Value) ++ (([.string (⟨#[99, 104, 101, 99, 107]⟩ : ByteArray)] : List Value) ++ ([.pointer (some ⟨B_5, 64, none⟩)] : List Value)))))) 42, .cells B_5 (iv .u8 r_29 ++ (iv .u8 r_55 ++ iv .u8 (List.replicate 32 (0 : Int)))) 32, .cells B_1 (iv .u8 (List.replicate 32 (0 : Int)) ++ (iv .u8 (List.replicate 32 (0 : Int)) ++ iv .u8 (List.replicate 32 (0 : Int)))) 32] := by have e_ : (([.string (⟨#[99, 104, 101, 99, 107]⟩ : ByteArray)] : List Value) ++ ([.pointer (some ⟨B_5, 64, none⟩)] : List Value)) = (([] : List Value)) ++ ((([.string (⟨#[99, 104, 101, 99, 107]⟩ : ByteArray)] : List Value) ++ ([.pointer (some ⟨B_5, 64, none⟩)] : List Value)) ++ (([] : List Value))) := (by first | rfl | simp only [List.append_assoc, List.append_nil, List.nil_append, List.cons_append]); have h_ := st_76; rw [← e_] at h_; exact h_
      refine WL.nil ?_
      refine QW.then_n ?_
      refine CW.seq ?_
      refine CW.region ?_
      refine WL.val Wanted.none (Runs.move rfl) ?_
      refine WL.val Wanted.none (Runs.fieldAddr (off := 0) fld42_0 rfl rfl rfl) ?_
      refine WL.val Wanted.none (Runs.load nagg9 rfl (st_76.cell (k := 0) rfl (part_one (pre := (([] : List Value))) (post := (([.pointer (some ⟨B_5, 64, none⟩)] : List Value))) (by first | rfl | simp only [List.append_assoc, List.append_nil, List.nil_append, List.cons_append]) (by first | rfl | simp only [List.length_append, List.length_cons, List.length_nil, iv_length])))) ?_
      obtain ⟨r_81, r_83, hr_77, H⟩ := H
      refine WL.call Wanted.none ent10 rfl (keys_Derive.calls w_75 l0 (⟨#[99, 104, 101, 99, 107]⟩ : ByteArray) A0 n0 c0 (hG0.ext st_76) (hs0.ext st_76) (hn0) (hc0) r_81 r_83 hr_77) ?_
      rintro _ w_78 ⟨hl_82, rfl, sc_80⟩
      have st_79 : St w w_78 [.cells B_71 (([.string (⟨#[99, 104, 101, 99, 107]⟩ : ByteArray)] : List Value) ++ ([.pointer (some ⟨B_5, 64, none⟩)] : List Value)) 42, .cells B_58 (iv .u8 r_55) 25, .cells B_45 (([.string (⟨#[106, 111, 117, 114, 110, 97, 108]⟩ : ByteArray)] : List Value) ++ ([.pointer (some ⟨B_5, 32, none⟩)] : List Value)) 42, .cells B_32 (iv .u8 r_29) 25, .cells B_19 (([.string (⟨#[104, 111, 109, 101]⟩ : ByteArray)] : List Value) ++ ([.pointer (some ⟨B_5, 0, none⟩)] : List Value)) 42, .cells B_15 (([.string (⟨#[104, 111, 109, 101]⟩ : ByteArray)] : List Value) ++ (([.pointer (some ⟨B_5, 0, none⟩)] : List Value) ++ (([.string (⟨#[106, 111, 117, 114, 110, 97, 108]⟩ : ByteArray)] : List Value) ++ (([.pointer (some ⟨B_5, 32, none⟩)] : List Value) ++ (([.string (⟨#[99, 104, 101, 99, 107]⟩ : ByteArray)] : List Value) ++ ([.pointer (some ⟨B_5, 64, none⟩)] : List Value)))))) 42, .cells B_5 (iv .u8 r_29 ++ (iv .u8 r_55 ++ iv .u8 (List.replicate 32 (0 : Int)))) 32, .cells B_1 (iv .u8 (List.replicate 32 (0 : Int)) ++ (iv .u8 (List.replicate 32 (0 : Int)) ++ iv .u8 (List.replicate 32 (0 : Int)))) 32] := st_76.call sc_80
      refine ⟨_, rfl, ?_⟩
      refine WL.val Wanted.none (Runs.move rfl) ?_
      refine WL.val Wanted.none (Runs.extract rfl rfl) ?_
      refine WL.val Wanted.none (Runs.extract rfl rfl) ?_
      refine WL.alloc st_79 arr25.zero ?_
      intro B_84 w_85 st_86
      replace st_86 : St w w_85 [.cells B_84 (iv .u8 (List.replicate 32 (0 : Int))) 25, .cells B_71 (([.string (⟨#[99, 104, 101, 99, 107]⟩ : ByteArray)] : List Value) ++ ([.pointer (some ⟨B_5, 64, none⟩)] : List Value)) 42, .cells B_58 (iv .u8 r_55) 25, .cells B_45 (([.string (⟨#[106, 111, 117, 114, 110, 97, 108]⟩ : ByteArray)] : List Value) ++ ([.pointer (some ⟨B_5, 32, none⟩)] : List Value)) 42, .cells B_32 (iv .u8 r_29) 25, .cells B_19 (([.string (⟨#[104, 111, 109, 101]⟩ : ByteArray)] : List Value) ++ ([.pointer (some ⟨B_5, 0, none⟩)] : List Value)) 42, .cells B_15 (([.string (⟨#[104, 111, 109, 101]⟩ : ByteArray)] : List Value) ++ (([.pointer (some ⟨B_5, 0, none⟩)] : List Value) ++ (([.string (⟨#[106, 111, 117, 114, 110, 97, 108]⟩ : ByteArray)] : List Value) ++ (([.pointer (some ⟨B_5, 32, none⟩)] : List Value) ++ (([.string (⟨#[99, 104, 101, 99, 107]⟩ : ByteArray)] : List Value) ++ ([.pointer (some ⟨B_5, 64, none⟩)] : List Value)))))) 42, .cells B_5 (iv .u8 r_29 ++ (iv .u8 r_55 ++ iv .u8 (List.replicate 32 (0 : Int)))) 32, .cells B_1 (iv .u8 (List.replicate 32 (0 : Int)) ++ (iv .u8 (List.replicate 32 (0 : Int)) ++ iv .u8 (List.replicate 32 (0 : Int)))) 32] := st_86
      refine WL.store_arr (i := 0) st_86 rfl arr25 rfl (by rw [iv_length]; exact (List.length_replicate ..)) hl_82 rfl ?_
      intro w_88 st_89
      replace st_89 : St w w_88 [.cells B_84 (iv .u8 r_81) 25, .cells B_71 (([.string (⟨#[99, 104, 101, 99, 107]⟩ : ByteArray)] : List Value) ++ ([.pointer (some ⟨B_5, 64, none⟩)] : List Value)) 42, .cells B_58 (iv .u8 r_55) 25, .cells B_45 (([.string (⟨#[106, 111, 117, 114, 110, 97, 108]⟩ : ByteArray)] : List Value) ++ ([.pointer (some ⟨B_5, 32, none⟩)] : List Value)) 42, .cells B_32 (iv .u8 r_29) 25, .cells B_19 (([.string (⟨#[104, 111, 109, 101]⟩ : ByteArray)] : List Value) ++ ([.pointer (some ⟨B_5, 0, none⟩)] : List Value)) 42, .cells B_15 (([.string (⟨#[104, 111, 109, 101]⟩ : ByteArray)] : List Value) ++ (([.pointer (some ⟨B_5, 0, none⟩)] : List Value) ++ (([.string (⟨#[106, 111, 117, 114, 110, 97, 108]⟩ : ByteArray)] : List Value) ++ (([.pointer (some ⟨B_5, 32, none⟩)] : List Value) ++ (([.string (⟨#[99, 104, 101, 99, 107]⟩ : ByteArray)] : List Value) ++ ([.pointer (some ⟨B_5, 64, none⟩)] : List Value)))))) 42, .cells B_5 (iv .u8 r_29 ++ (iv .u8 r_55 ++ iv .u8 (List.replicate 32 (0 : Int)))) 32, .cells B_1 (iv .u8 (List.replicate 32 (0 : Int)) ++ (iv .u8 (List.replicate 32 (0 : Int)) ++ iv .u8 (List.replicate 32 (0 : Int)))) 32] := st_89
      refine WL.val Wanted.none (Runs.assign rfl) ?_
      refine WL.nil ?_
      refine QW.then_n ?_
      refine CW.seq ?_
      refine CW.seq ?_
      refine CW.region ?_
      refine WL.val Wanted.none (Runs.move rfl) ?_
      refine WL.val Wanted.none (Runs.neq rfl rfl rfl) ?_
      refine WL.nil ?_
      refine QW.then_n ?_
      rcases H with ⟨c_91, H⟩ | ⟨c_91, H⟩
      · have h_92 : (r_83 != 0) = true := (bne_iff_ne.mpr c_91)
        refine CW.ct rfl h_92 ?_
        refine CW.seq ?_
        refine CW.region ?_
        refine WL.val Wanted.none (Runs.build_struct (ps := [(0, 32), (32, 32), (64, 32)]) (cs := (iv .u8 (List.replicate 32 (0 : Int)) ++ (iv .u8 (List.replicate 32 (0 : Int)) ++ iv .u8 (List.replicate 32 (0 : Int))))) plc32 zero32 rfl Fills.nil) ?_
        refine WL.val Wanted.none (Runs.move rfl) ?_
        refine WL.store_mid (i := 8) (pre := (([] : List Value))) (mid := (iv .u8 (List.replicate 32 (0 : Int)) ++ (iv .u8 (List.replicate 32 (0 : Int)) ++ iv .u8 (List.replicate 32 (0 : Int))))) (post := (([] : List Value))) (ms := (iv .u8 (List.replicate 32 (0 : Int)) ++ (iv .u8 (List.replicate 32 (0 : Int)) ++ iv .u8 (List.replicate 32 (0 : Int))))) st_89 rfl row32 (by first | rfl | simp only [List.append_assoc, List.append_nil, List.nil_append, List.cons_append]) (by first | rfl | simp only [List.length_append, List.length_cons, List.length_nil, iv_length]) rfl rfl (by first | rfl | simp only [List.length_append, List.length_cons, List.length_nil, iv_length, List.length_replicate]) (by first | rfl | simp only [List.length_append, List.length_cons, List.length_nil, iv_length, List.length_replicate]) (by intro u hu; simp only [List.mem_append, List.mem_singleton] at hu; rcases hu with hu | hu | hu <;> first | exact one_iv _ _ u hu | (subst hu; rfl)) ?_
        intro w_93 st_94
        replace st_94 : St w w_93 [.cells B_84 (iv .u8 r_81) 25, .cells B_71 (([.string (⟨#[99, 104, 101, 99, 107]⟩ : ByteArray)] : List Value) ++ ([.pointer (some ⟨B_5, 64, none⟩)] : List Value)) 42, .cells B_58 (iv .u8 r_55) 25, .cells B_45 (([.string (⟨#[106, 111, 117, 114, 110, 97, 108]⟩ : ByteArray)] : List Value) ++ ([.pointer (some ⟨B_5, 32, none⟩)] : List Value)) 42, .cells B_32 (iv .u8 r_29) 25, .cells B_19 (([.string (⟨#[104, 111, 109, 101]⟩ : ByteArray)] : List Value) ++ ([.pointer (some ⟨B_5, 0, none⟩)] : List Value)) 42, .cells B_15 (([.string (⟨#[104, 111, 109, 101]⟩ : ByteArray)] : List Value) ++ (([.pointer (some ⟨B_5, 0, none⟩)] : List Value) ++ (([.string (⟨#[106, 111, 117, 114, 110, 97, 108]⟩ : ByteArray)] : List Value) ++ (([.pointer (some ⟨B_5, 32, none⟩)] : List Value) ++ (([.string (⟨#[99, 104, 101, 99, 107]⟩ : ByteArray)] : List Value) ++ ([.pointer (some ⟨B_5, 64, none⟩)] : List Value)))))) 42, .cells B_5 (iv .u8 r_29 ++ (iv .u8 r_55 ++ iv .u8 (List.replicate 32 (0 : Int)))) 32, .cells B_1 (iv .u8 (List.replicate 32 (0 : Int)) ++ (iv .u8 (List.replicate 32 (0 : Int)) ++ iv .u8 (List.replicate 32 (0 : Int)))) 32] := by have e_ : (iv .u8 (List.replicate 32 (0 : Int)) ++ (iv .u8 (List.replicate 32 (0 : Int)) ++ iv .u8 (List.replicate 32 (0 : Int)))) = (([] : List Value)) ++ ((iv .u8 (List.replicate 32 (0 : Int)) ++ (iv .u8 (List.replicate 32 (0 : Int)) ++ iv .u8 (List.replicate 32 (0 : Int)))) ++ (([] : List Value))) := (by first | rfl | simp only [List.append_assoc, List.append_nil, List.nil_append, List.cons_append]); have h_ := st_94; rw [← e_] at h_; exact h_
        refine WL.val Wanted.none (Runs.assign rfl) ?_
        refine WL.nil ?_
        refine QW.then_n ?_
        refine CW.ret ?_
        refine QW.then_r ?_
        refine QW.blk_r ?_
        refine QW.then_r ?_
        refine QW.then_r ?_
        refine QW.blk_r ?_
        refine QW.then_r ?_
        obtain ⟨rfl, rfl, rfl, rfl⟩ := H
        exact QW.retr1 rfl row32 rfl st_94 (i := 8) rfl (by first | rfl | simp only [List.length_append, List.length_cons, List.length_nil, iv_length, List.length_replicate]) rfl ⟨(List.length_replicate ..), (List.length_replicate ..), (List.length_replicate ..), rfl, st_94.pick [] (by decide)⟩
      · have h_92 : (r_83 != 0) = false := (bne_eq_false_iff_eq.mpr (Decidable.not_not.mp c_91))
        refine CW.cf rfl h_92 ?_
        refine CW.skip ?_
        refine QW.then_n ?_
        refine CW.region ?_
        refine WL.val Wanted.none (Runs.fieldAddr (off := 1) fld42_1 rfl rfl rfl) ?_
        refine WL.val Wanted.none (Runs.load nagg41 rfl (st_89.cell (k := 1) rfl (part_one (pre := (([.string (⟨#[99, 104, 101, 99, 107]⟩ : ByteArray)] : List Value))) (post := (([] : List Value))) (by first | rfl | simp only [List.append_assoc, List.append_nil, List.nil_append, List.cons_append]) (by first | rfl | simp only [List.length_append, List.length_cons, List.length_nil, iv_length])))) ?_
        refine WL.val Wanted.none (Runs.load_arr arr25 rfl (st_89.blk (i := 0) rfl) hl_82) ?_
        refine WL.val Wanted.none (Runs.nilCheck rfl) ?_
        refine WL.store_mid (i := 7) (pre := (iv .u8 r_29 ++ iv .u8 r_55)) (mid := (iv .u8 (List.replicate 32 (0 : Int)))) (post := (([] : List Value))) (ms := (iv .u8 r_81)) st_89 rfl row25 (by first | rfl | simp only [List.append_assoc, List.append_nil, List.nil_append, List.cons_append]) (by first | rfl | simp only [List.length_append, List.length_cons, List.length_nil, iv_length, hl_30, hl_56]) rfl rfl (by first | rfl | simp only [List.length_append, List.length_cons, List.length_nil, iv_length, hl_82]) (by first | rfl | simp only [List.length_append, List.length_cons, List.length_nil, iv_length, List.length_replicate]) (one_iv _ _) ?_
        intro w_95 st_96
        replace st_96 : St w w_95 [.cells B_84 (iv .u8 r_81) 25, .cells B_71 (([.string (⟨#[99, 104, 101, 99, 107]⟩ : ByteArray)] : List Value) ++ ([.pointer (some ⟨B_5, 64, none⟩)] : List Value)) 42, .cells B_58 (iv .u8 r_55) 25, .cells B_45 (([.string (⟨#[106, 111, 117, 114, 110, 97, 108]⟩ : ByteArray)] : List Value) ++ ([.pointer (some ⟨B_5, 32, none⟩)] : List Value)) 42, .cells B_32 (iv .u8 r_29) 25, .cells B_19 (([.string (⟨#[104, 111, 109, 101]⟩ : ByteArray)] : List Value) ++ ([.pointer (some ⟨B_5, 0, none⟩)] : List Value)) 42, .cells B_15 (([.string (⟨#[104, 111, 109, 101]⟩ : ByteArray)] : List Value) ++ (([.pointer (some ⟨B_5, 0, none⟩)] : List Value) ++ (([.string (⟨#[106, 111, 117, 114, 110, 97, 108]⟩ : ByteArray)] : List Value) ++ (([.pointer (some ⟨B_5, 32, none⟩)] : List Value) ++ (([.string (⟨#[99, 104, 101, 99, 107]⟩ : ByteArray)] : List Value) ++ ([.pointer (some ⟨B_5, 64, none⟩)] : List Value)))))) 42, .cells B_5 (iv .u8 r_29 ++ (iv .u8 r_55 ++ iv .u8 r_81)) 32, .cells B_1 (iv .u8 (List.replicate 32 (0 : Int)) ++ (iv .u8 (List.replicate 32 (0 : Int)) ++ iv .u8 (List.replicate 32 (0 : Int)))) 32] := by have e_ : (iv .u8 r_29 ++ (iv .u8 r_55 ++ iv .u8 r_81)) = (iv .u8 r_29 ++ iv .u8 r_55) ++ ((iv .u8 r_81) ++ (([] : List Value))) := (by first | rfl | simp only [List.append_assoc, List.append_nil, List.nil_append, List.cons_append]); have h_ := st_96; rw [← e_] at h_; exact h_
        refine WL.nil ?_
        refine QW.blk_n ?_
        refine QW.then_n ?_
        refine CW.region ?_
        refine WL.val Wanted.none (Runs.add (z := 3) rfl rfl (by decide)) ?_
        refine WL.val Wanted.none (Runs.move rfl) ?_
        refine WL.nil ?_
        refine QW.round ?_
        refine CW.seq ?_
        refine CW.region ?_
        refine WL.val Wanted.none (Runs.lss (b := false) rfl rfl (by decide)) ?_
        refine WL.nil ?_
        refine QW.then_n ?_
        refine CW.seq ?_
        refine CW.cf rfl rfl ?_
        refine CW.exit ?_
        refine QW.then_x ?_
        refine QW.then_x ?_
        refine QW.blk_x ?_
        refine QW.then_n ?_
        refine CW.sub [(2, .pointer (some ⟨B_1, 0, none⟩)), (3, .int .i64 0), (4, .pointer (some ⟨B_5, 0, none⟩))] ⟨rfl, rfl, rfl, trivial⟩ ?_
        refine CW.seq ?_
        refine CW.region ?_
        refine WL.val Wanted.none (Runs.load_mid row32 rfl st_96 (i := 7) rfl (part_mid (pre := (([] : List Value))) (mid := (iv .u8 r_29 ++ (iv .u8 r_55 ++ iv .u8 r_81))) (post := (([] : List Value))) (by first | rfl | simp only [List.append_assoc, List.append_nil, List.nil_append, List.cons_append]) (by first | rfl | simp only [List.length_append, List.length_cons, List.length_nil, iv_length]) (by first | rfl | simp only [List.length_append, List.length_cons, List.length_nil, iv_length, hl_30, hl_56, hl_82])) (by first | rfl | simp only [List.length_append, List.length_cons, List.length_nil, iv_length, hl_30, hl_56, hl_82])) ?_
        refine WL.store_mid (i := 8) (pre := (([] : List Value))) (mid := (iv .u8 (List.replicate 32 (0 : Int)) ++ (iv .u8 (List.replicate 32 (0 : Int)) ++ iv .u8 (List.replicate 32 (0 : Int))))) (post := (([] : List Value))) (ms := (iv .u8 r_29 ++ (iv .u8 r_55 ++ iv .u8 r_81))) st_96 rfl row32 (by first | rfl | simp only [List.append_assoc, List.append_nil, List.nil_append, List.cons_append]) (by first | rfl | simp only [List.length_append, List.length_cons, List.length_nil, iv_length]) rfl rfl (by first | rfl | simp only [List.length_append, List.length_cons, List.length_nil, iv_length, hl_30, hl_56, hl_82]) (by first | rfl | simp only [List.length_append, List.length_cons, List.length_nil, iv_length, List.length_replicate]) (by intro u hu; simp only [List.mem_append, List.mem_singleton] at hu; rcases hu with hu | hu | hu <;> first | exact one_iv _ _ u hu | (subst hu; rfl)) ?_
        intro w_97 st_98
        replace st_98 : St w w_97 [.cells B_84 (iv .u8 r_81) 25, .cells B_71 (([.string (⟨#[99, 104, 101, 99, 107]⟩ : ByteArray)] : List Value) ++ ([.pointer (some ⟨B_5, 64, none⟩)] : List Value)) 42, .cells B_58 (iv .u8 r_55) 25, .cells B_45 (([.string (⟨#[106, 111, 117, 114, 110, 97, 108]⟩ : ByteArray)] : List Value) ++ ([.pointer (some ⟨B_5, 32, none⟩)] : List Value)) 42, .cells B_32 (iv .u8 r_29) 25, .cells B_19 (([.string (⟨#[104, 111, 109, 101]⟩ : ByteArray)] : List Value) ++ ([.pointer (some ⟨B_5, 0, none⟩)] : List Value)) 42, .cells B_15 (([.string (⟨#[104, 111, 109, 101]⟩ : ByteArray)] : List Value) ++ (([.pointer (some ⟨B_5, 0, none⟩)] : List Value) ++ (([.string (⟨#[106, 111, 117, 114, 110, 97, 108]⟩ : ByteArray)] : List Value) ++ (([.pointer (some ⟨B_5, 32, none⟩)] : List Value) ++ (([.string (⟨#[99, 104, 101, 99, 107]⟩ : ByteArray)] : List Value) ++ ([.pointer (some ⟨B_5, 64, none⟩)] : List Value)))))) 42, .cells B_5 (iv .u8 r_29 ++ (iv .u8 r_55 ++ iv .u8 r_81)) 32, .cells B_1 (iv .u8 r_29 ++ (iv .u8 r_55 ++ iv .u8 r_81)) 32] := by have e_ : (iv .u8 r_29 ++ (iv .u8 r_55 ++ iv .u8 r_81)) = (([] : List Value)) ++ ((iv .u8 r_29 ++ (iv .u8 r_55 ++ iv .u8 r_81)) ++ (([] : List Value))) := (by first | rfl | simp only [List.append_assoc, List.append_nil, List.nil_append, List.cons_append]); have h_ := st_98; rw [← e_] at h_; exact h_
        refine WL.val Wanted.none (Runs.assign rfl) ?_
        refine WL.nil ?_
        refine QW.then_n ?_
        refine CW.ret ?_
        obtain ⟨rfl, rfl, rfl, rfl⟩ := H
        exact QW.retr1 rfl row32 rfl st_98 (i := 8) rfl (by first | rfl | simp only [List.length_append, List.length_cons, List.length_nil, iv_length, hl_30, hl_56, hl_82]) rfl ⟨hl_30, hl_56, hl_82, rfl, st_98.pick [] (by decide)⟩

/-! ### reliquarylaw03_awake: function 7 -/
def reliquarylaw03_awake.rel   : Prop := (∃ (r_10 : List Int) (r_12 : Int), keys_Derive.rel (List.replicate 31 (0 : Int)) (⟨#[97]⟩ : ByteArray) r_10 r_12 ∧ (∃ (r_29 : List Int) (r_31 : Int), keys_Derive.rel (List.replicate 32 (0 : Int)) (⟨#[97]⟩ : ByteArray) r_29 r_31 ∧ (∃ (r_48 : List Int) (r_50 : List Int) (r_52 : List Int) (r_54 : Int), keys_Of.rel (List.replicate 32 (0 : Int)) r_48 r_50 r_52 r_54 ∧ (r_12 = 1 ∧ (r_31 = 0 ∧ (∃ m_65 : List Int, m_65 = List.replicate 32 (0 : Int) ∧ (¬ (r_29 = m_65) ∧ (r_54 = 0 ∧ (¬ (r_48 = r_50) ∧ (∃ (r_77 : List Int), keys_Mac.rel ([] : List Int) ([] : List Int) r_77 ∧ (∃ m_79 : List Int, m_79 = List.replicate 32 (0 : Int) ∧ ¬ (r_77 = m_79))))))))))))
set_option maxHeartbeats 4000000 in
set_option maxRecDepth 100000 in
theorem reliquarylaw03_awake.calls (w : World)    (hG0 : Src w (some ⟨0, 0, none⟩) (iv .u32 tab0))  (H : reliquarylaw03_awake.rel  ) :
    Calls Tryd.prog 7 #[] w fun e w' => e = .returned (.bool true) ∧ Below w.heap.size w w' := by
  refine CW.enter Tryd.func7 rfl (n := 49) rfl [] (Nat.le_of_ble_eq_true rfl) ?_
  refine CW.sub [] trivial ?_
  have st0 : St w w [] := St.refl w
  refine CW.seq ?_
  refine CW.region ?_
  refine WL.val Wanted.none (Runs.assign rfl) ?_
  refine WL.nil ?_
  refine QW.then_n ?_
  refine CW.seq ?_
  refine CW.region ?_
  refine WL.make st0 Tryd.underlying22 elem5 rfl rfl (by decide) (by decide) (by decide) (N := 31) rfl ?_
  intro B_1 w_2 st_3
  replace st_3 : St w w_2 [.sl (some ⟨B_1, 0, none⟩) 31 31 (iv .u8 (List.replicate 31 (0 : Int))) 5 1] := by rw [iv_replicate] at st_3; exact st_3
  have hn_4 : 31 = (List.replicate 31 (0 : Int)).length := by simp
  obtain ⟨r_10, r_12, hr_6, H⟩ := H
  refine WL.call Wanted.none ent10 rfl (keys_Derive.calls w_2 (List.replicate 31 (0 : Int)) (⟨#[97]⟩ : ByteArray) (some ⟨B_1, 0, none⟩) 31 31 (hG0.ext st_3) (st_3.src_sl (k := 0) rfl) (hn_4) (st_3.cap (i := 0) rfl) r_10 r_12 hr_6) ?_
  rintro _ w_7 ⟨hl_11, rfl, sc_9⟩
  have st_8 : St w w_7 [.sl (some ⟨B_1, 0, none⟩) 31 31 (iv .u8 (List.replicate 31 (0 : Int))) 5 1] := st_3.call sc_9
  refine ⟨_, rfl, ?_⟩
  refine WL.val Wanted.none (Runs.move rfl) ?_
  refine WL.val Wanted.none (Runs.extract rfl rfl) ?_
  refine WL.val Wanted.none (Runs.extract rfl rfl) ?_
  refine WL.alloc st_8 arr25.zero ?_
  intro B_13 w_14 st_15
  replace st_15 : St w w_14 [.cells B_13 (iv .u8 (List.replicate 32 (0 : Int))) 25, .sl (some ⟨B_1, 0, none⟩) 31 31 (iv .u8 (List.replicate 31 (0 : Int))) 5 1] := st_15
  refine WL.store_arr (i := 0) st_15 rfl arr25 rfl (by rw [iv_length]; exact (List.length_replicate ..)) hl_11 rfl ?_
  intro w_17 st_18
  replace st_18 : St w w_17 [.cells B_13 (iv .u8 r_10) 25, .sl (some ⟨B_1, 0, none⟩) 31 31 (iv .u8 (List.replicate 31 (0 : Int))) 5 1] := st_18
  refine WL.val Wanted.none (Runs.assign rfl) ?_
  refine WL.nil ?_
  refine QW.then_n ?_
  refine CW.sub [(0, .bool false), (2, .int .i64 r_12)] ⟨rfl, rfl, trivial⟩ ?_
  refine CW.seq ?_
  refine CW.region ?_
  refine WL.make st_18 Tryd.underlying22 elem5 rfl rfl (by decide) (by decide) (by decide) (N := 32) rfl ?_
  intro B_20 w_21 st_22
  replace st_22 : St w w_21 [.sl (some ⟨B_20, 0, none⟩) 32 32 (iv .u8 (List.replicate 32 (0 : Int))) 5 1, .cells B_13 (iv .u8 r_10) 25, .sl (some ⟨B_1, 0, none⟩) 31 31 (iv .u8 (List.replicate 31 (0 : Int))) 5 1] := by rw [iv_replicate] at st_22; exact st_22
  have hn_23 : 32 = (List.replicate 32 (0 : Int)).length := by simp
  obtain ⟨r_29, r_31, hr_25, H⟩ := H
  refine WL.call Wanted.none ent10 rfl (keys_Derive.calls w_21 (List.replicate 32 (0 : Int)) (⟨#[97]⟩ : ByteArray) (some ⟨B_20, 0, none⟩) 32 32 (hG0.ext st_22) (st_22.src_sl (k := 0) rfl) (hn_23) (st_22.cap (i := 0) rfl) r_29 r_31 hr_25) ?_
  rintro _ w_26 ⟨hl_30, rfl, sc_28⟩
  have st_27 : St w w_26 [.sl (some ⟨B_20, 0, none⟩) 32 32 (iv .u8 (List.replicate 32 (0 : Int))) 5 1, .cells B_13 (iv .u8 r_10) 25, .sl (some ⟨B_1, 0, none⟩) 31 31 (iv .u8 (List.replicate 31 (0 : Int))) 5 1] := st_22.call sc_28
  refine ⟨_, rfl, ?_⟩
  refine WL.val Wanted.none (Runs.move rfl) ?_
  refine WL.val Wanted.none (Runs.extract rfl rfl) ?_
  refine WL.val Wanted.none (Runs.extract rfl rfl) ?_
  refine WL.alloc st_27 arr25.zero ?_
  intro B_32 w_33 st_34
  replace st_34 : St w w_33 [.cells B_32 (iv .u8 (List.replicate 32 (0 : Int))) 25, .sl (some ⟨B_20, 0, none⟩) 32 32 (iv .u8 (List.replicate 32 (0 : Int))) 5 1, .cells B_13 (iv .u8 r_10) 25, .sl (some ⟨B_1, 0, none⟩) 31 31 (iv .u8 (List.replicate 31 (0 : Int))) 5 1] := st_34
  refine WL.store_arr (i := 0) st_34 rfl arr25 rfl (by rw [iv_length]; exact (List.length_replicate ..)) hl_30 rfl ?_
  intro w_36 st_37
  replace st_37 : St w w_36 [.cells B_32 (iv .u8 r_29) 25, .sl (some ⟨B_20, 0, none⟩) 32 32 (iv .u8 (List.replicate 32 (0 : Int))) 5 1, .cells B_13 (iv .u8 r_10) 25, .sl (some ⟨B_1, 0, none⟩) 31 31 (iv .u8 (List.replicate 31 (0 : Int))) 5 1] := st_37
  refine WL.val Wanted.none (Runs.assign rfl) ?_
  refine WL.nil ?_
  refine QW.then_n ?_
  refine CW.seq ?_
  refine CW.region ?_
  refine WL.make st_37 Tryd.underlying22 elem5 rfl rfl (by decide) (by decide) (by decide) (N := 32) rfl ?_
  intro B_39 w_40 st_41
  replace st_41 : St w w_40 [.sl (some ⟨B_39, 0, none⟩) 32 32 (iv .u8 (List.replicate 32 (0 : Int))) 5 1, .cells B_32 (iv .u8 r_29) 25, .sl (some ⟨B_20, 0, none⟩) 32 32 (iv .u8 (List.replicate 32 (0 : Int))) 5 1, .cells B_13 (iv .u8 r_10) 25, .sl (some ⟨B_1, 0, none⟩) 31 31 (iv .u8 (List.replicate 31 (0 : Int))) 5 1] := by rw [iv_replicate] at st_41; exact st_41
  have hn_42 : 32 = (List.replicate 32 (0 : Int)).length := by simp
  obtain ⟨r_48, r_50, r_52, r_54, hr_44, H⟩ := H
  refine WL.call Wanted.none ent12 rfl (keys_Of.calls w_40 (List.replicate 32 (0 : Int)) (some ⟨B_39, 0, none⟩) 32 32 (hG0.ext st_41) (st_41.src_sl (k := 0) rfl) (hn_42) (st_41.cap (i := 0) rfl) r_48 r_50 r_52 r_54 hr_44) ?_
  rintro _ w_45 ⟨hl_49, hl_51, hl_53, rfl, sc_47⟩
  have st_46 : St w w_45 [.sl (some ⟨B_39, 0, none⟩) 32 32 (iv .u8 (List.replicate 32 (0 : Int))) 5 1, .cells B_32 (iv .u8 r_29) 25, .sl (some ⟨B_20, 0, none⟩) 32 32 (iv .u8 (List.replicate 32 (0 : Int))) 5 1, .cells B_13 (iv .u8 r_10) 25, .sl (some ⟨B_1, 0, none⟩) 31 31 (iv .u8 (List.replicate 31 (0 : Int))) 5 1] := st_41.call sc_47
  refine ⟨_, rfl, ?_⟩
  refine WL.val Wanted.none (Runs.move rfl) ?_
  refine WL.val Wanted.none (Runs.extract rfl rfl) ?_
  refine WL.val Wanted.none (Runs.extract rfl rfl) ?_
  refine WL.alloc st_46 zero32 ?_
  intro B_55 w_56 st_57
  replace st_57 : St w w_56 [.cells B_55 (iv .u8 (List.replicate 32 (0 : Int)) ++ (iv .u8 (List.replicate 32 (0 : Int)) ++ iv .u8 (List.replicate 32 (0 : Int)))) 32, .sl (some ⟨B_39, 0, none⟩) 32 32 (iv .u8 (List.replicate 32 (0 : Int))) 5 1, .cells B_32 (iv .u8 r_29) 25, .sl (some ⟨B_20, 0, none⟩) 32 32 (iv .u8 (List.replicate 32 (0 : Int))) 5 1, .cells B_13 (iv .u8 r_10) 25, .sl (some ⟨B_1, 0, none⟩) 31 31 (iv .u8 (List.replicate 31 (0 : Int))) 5 1] := st_57
  refine WL.store_mid (i := 0) (pre := (([] : List Value))) (mid := (iv .u8 (List.replicate 32 (0 : Int)) ++ (iv .u8 (List.replicate 32 (0 : Int)) ++ iv .u8 (List.replicate 32 (0 : Int))))) (post := (([] : List Value))) (ms := (iv .u8 r_48 ++ (iv .u8 r_50 ++ iv .u8 r_52))) st_57 rfl row32 (by first | rfl | simp only [List.append_assoc, List.append_nil, List.nil_append, List.cons_append]) (by first | rfl | simp only [List.length_append, List.length_cons, List.length_nil, iv_length]) rfl rfl (by first | rfl | simp only [List.length_append, List.length_cons, List.length_nil, iv_length, hl_49, hl_51, hl_53]) (by first | rfl | simp only [List.length_append, List.length_cons, List.length_nil, iv_length, List.length_replicate]) (by intro u hu; simp only [List.mem_append, List.mem_singleton] at hu; rcases hu with hu | hu | hu <;> first | exact one_iv _ _ u hu | (subst hu; rfl)) ?_
  intro w_59 st_60
  replace st_60 : St w w_59 [.cells B_55 (iv .u8 r_48 ++ (iv .u8 r_50 ++ iv .u8 r_52)) 32, .sl (some ⟨B_39, 0, none⟩) 32 32 (iv .u8 (List.replicate 32 (0 : Int))) 5 1, .cells B_32 (iv .u8 r_29) 25, .sl (some ⟨B_20, 0, none⟩) 32 32 (iv .u8 (List.replicate 32 (0 : Int))) 5 1, .cells B_13 (iv .u8 r_10) 25, .sl (some ⟨B_1, 0, none⟩) 31 31 (iv .u8 (List.replicate 31 (0 : Int))) 5 1] := by have e_ : (iv .u8 r_48 ++ (iv .u8 r_50 ++ iv .u8 r_52)) = (([] : List Value)) ++ ((iv .u8 r_48 ++ (iv .u8 r_50 ++ iv .u8 r_52)) ++ (([] : List Value))) := (by first | rfl | simp only [List.append_assoc, List.append_nil, List.nil_append, List.cons_append]); have h_ := st_60; rw [← e_] at h_; exact h_
  refine WL.val Wanted.none (Runs.assign rfl) ?_
  refine WL.nil ?_
  refine QW.then_n ?_
  refine CW.sub [(0, .bool false), (2, .int .i64 r_12), (3, .pointer (some ⟨B_32, 0, none⟩)), (4, .int .i64 r_31), (5, .pointer (some ⟨B_55, 0, none⟩)), (6, .int .i64 r_54)] ⟨rfl, rfl, rfl, rfl, rfl, rfl, trivial⟩ ?_
  refine CW.seq ?_
  refine CW.region ?_
  refine WL.val Wanted.none (Runs.move rfl) ?_
  refine WL.val Wanted.none (Runs.eql rfl rfl rfl) ?_
  refine WL.val Wanted.none (Runs.move rfl) ?_
  obtain ⟨c_61, H⟩ := H
  have h_62 : (r_12 == 1) = true := (beq_iff_eq.mpr c_61)
  refine WL.on ?_ ?_; exact Wanted.guard (dj := 24) (by rfl) (evb (by rfl) h_62) (by rfl)
  refine WL.val Wanted.none (Runs.move rfl) ?_
  refine WL.on ?_ ?_; exact Wanted.guard (dj := 24) (by rfl) (evb (by rfl) h_62) (by rfl)
  refine WL.val Wanted.none (Runs.eql rfl rfl rfl) ?_
  refine WL.val Wanted.none (Runs.pick_t (evb rfl h_62) rfl) ?_
  refine WL.val Wanted.none (Runs.move rfl) ?_
  obtain ⟨c_63, H⟩ := H
  have h_64 : (r_31 == 0) = true := (beq_iff_eq.mpr c_63)
  refine WL.on ?_ ?_; exact Wanted.guard (dj := 28) (by rfl) (evb (by rfl) h_64) (by rfl)
  refine WL.val Wanted.none (Runs.load_arr arr25 rfl (st_60.blk (i := 2) rfl) hl_30) ?_
  refine WL.on ?_ ?_; exact Wanted.guard (dj := 28) (by rfl) (evb (by rfl) h_64) (by rfl)
  obtain ⟨m_65, e_66, H⟩ := H
  refine WL.val Wanted.none (Runs.build_arr (xs := m_65) arr25 rfl rfl (by rw [e_66]; rfl)) ?_
  refine WL.on ?_ ?_; exact Wanted.guard (dj := 28) (by rfl) (evb (by rfl) h_64) (by rfl)
  refine WL.val Wanted.none (Runs.neq_arr arr25 eqg25 rfl rfl hl_30 (by rw [e_66]; rfl) rfl) ?_
  refine WL.val Wanted.none (Runs.pick_t (evb rfl h_64) rfl) ?_
  refine WL.val Wanted.none (Runs.move rfl) ?_
  obtain ⟨c_67, H⟩ := H
  have h_68 : (!(r_29 == m_65)) = true := (not_t (beq_eq_false_iff_ne.mpr c_67))
  refine WL.on ?_ ?_; exact Wanted.guard (dj := 33) (by rfl) (evb (by rfl) h_68) (by rfl)
  refine WL.val Wanted.none (Runs.move rfl) ?_
  refine WL.on ?_ ?_; exact Wanted.guard (dj := 33) (by rfl) (evb (by rfl) h_68) (by rfl)
  refine WL.val Wanted.none (Runs.eql rfl rfl rfl) ?_
  refine WL.val Wanted.none (Runs.pick_t (evb rfl h_68) rfl) ?_
  refine WL.val Wanted.none (Runs.move rfl) ?_
  obtain ⟨c_69, H⟩ := H
  have h_70 : (r_54 == 0) = true := (beq_iff_eq.mpr c_69)
  refine WL.on ?_ ?_; exact Wanted.guard (dj := 37) (by rfl) (evb (by rfl) h_70) (by rfl)
  refine WL.val Wanted.none (Runs.fieldAddr (off := 0) fld32_0 rfl rfl rfl) ?_
  refine WL.on ?_ ?_; exact Wanted.guard (dj := 37) (by rfl) (evb (by rfl) h_70) (by rfl)
  refine WL.val Wanted.none (Runs.load_mid row25 rfl st_60 (i := 0) rfl (part_mid (pre := (([] : List Value))) (mid := (iv .u8 r_48)) (post := (iv .u8 r_50 ++ iv .u8 r_52)) (by first | rfl | simp only [List.append_assoc, List.append_nil, List.nil_append, List.cons_append]) (by first | rfl | simp only [List.length_append, List.length_cons, List.length_nil, iv_length]) (by first | rfl | simp only [List.length_append, List.length_cons, List.length_nil, iv_length, hl_49])) (by first | rfl | simp only [List.length_append, List.length_cons, List.length_nil, iv_length, hl_49])) ?_
  refine WL.on ?_ ?_; exact Wanted.guard (dj := 37) (by rfl) (evb (by rfl) h_70) (by rfl)
  refine WL.val Wanted.none (Runs.fieldAddr (off := 32) fld32_1 rfl rfl rfl) ?_
  refine WL.on ?_ ?_; exact Wanted.guard (dj := 37) (by rfl) (evb (by rfl) h_70) (by rfl)
  refine WL.val Wanted.none (Runs.load_mid row25 rfl st_60 (i := 0) rfl (part_mid (pre := (iv .u8 r_48)) (mid := (iv .u8 r_50)) (post := (iv .u8 r_52)) (by first | rfl | simp only [List.append_assoc, List.append_nil, List.nil_append, List.cons_append]) (by first | rfl | simp only [List.length_append, List.length_cons, List.length_nil, iv_length, hl_49]) (by first | rfl | simp only [List.length_append, List.length_cons, List.length_nil, iv_length, hl_51])) (by first | rfl | simp only [List.length_append, List.length_cons, List.length_nil, iv_length, hl_51])) ?_
  refine WL.on ?_ ?_; exact Wanted.guard (dj := 37) (by rfl) (evb (by rfl) h_70) (by rfl)
  refine WL.val Wanted.none (Runs.neq_arr arr25 eqg25 rfl rfl hl_49 hl_51 rfl) ?_
  refine WL.val Wanted.none (Runs.pick_t (evb rfl h_70) rfl) ?_
  refine WL.val Wanted.none (Runs.move rfl) ?_
  obtain ⟨c_71, H⟩ := H
  have h_72 : (!(r_48 == r_50)) = true := (not_t (beq_eq_false_iff_ne.mpr c_71))
  refine WL.on ?_ ?_; exact Wanted.guard (dj := 44) (by rfl) (evb (by rfl) h_72) (by rfl)
  obtain ⟨r_77, hr_73, H⟩ := H
  refine WL.call Wanted.none ent8 rfl (keys_Mac.calls w_59 ([] : List Int) ([] : List Int) none 0 0 none 0 0 (hG0.ext st_60) (Src.nil _ _) (rfl) (Nat.le_refl _) (Src.nil _ _) (rfl) (Nat.le_refl _) r_77 hr_73) ?_
  rintro _ w_74 ⟨hl_78, rfl, sc_76⟩
  have st_75 : St w w_74 [.cells B_55 (iv .u8 r_48 ++ (iv .u8 r_50 ++ iv .u8 r_52)) 32, .sl (some ⟨B_39, 0, none⟩) 32 32 (iv .u8 (List.replicate 32 (0 : Int))) 5 1, .cells B_32 (iv .u8 r_29) 25, .sl (some ⟨B_20, 0, none⟩) 32 32 (iv .u8 (List.replicate 32 (0 : Int))) 5 1, .cells B_13 (iv .u8 r_10) 25, .sl (some ⟨B_1, 0, none⟩) 31 31 (iv .u8 (List.replicate 31 (0 : Int))) 5 1] := st_60.call sc_76
  refine ⟨_, rfl, ?_⟩
  refine WL.on ?_ ?_; exact Wanted.guard (dj := 44) (by rfl) (evb (by rfl) h_72) (by rfl)
  obtain ⟨m_79, e_80, H⟩ := H
  refine WL.val Wanted.none (Runs.build_arr (xs := m_79) arr25 rfl rfl (by rw [e_80]; rfl)) ?_
  refine WL.on ?_ ?_; exact Wanted.guard (dj := 44) (by rfl) (evb (by rfl) h_72) (by rfl)
  refine WL.val Wanted.none (Runs.neq_arr arr25 eqg25 rfl rfl hl_78 (by rw [e_80]; rfl) rfl) ?_
  refine WL.val Wanted.none (Runs.pick_t (evb rfl h_72) rfl) ?_
  refine WL.val Wanted.none (Runs.assign rfl) ?_
  refine WL.nil ?_
  refine QW.then_n ?_
  refine CW.sub [(0, .bool (!(r_77 == m_79)))] ⟨rfl, trivial⟩ ?_
  refine CW.ret ?_
  have hz : (!(r_77 == m_79)) = true := (not_t (beq_eq_false_iff_ne.mpr H))
  exact QW.ret1 rfl (evb rfl hz) ⟨rfl, st_75.ext⟩

/-! ### reliquaryref02_right: function 24 -/
def reliquaryref02_right.rel (a0 : Int) (a1 : Int) (r0 : Int) : Prop := (0 ≤ a1 ∧ (0 ≤ (IntKind.u64.wrap (32 - a1)) ∧ (∃ x_3 : Int, x_3 = bits .or .u32 (shrI .u32 a0 a1) (shlI .u32 a0 (IntKind.u64.wrap (32 - a1))) ∧ r0 = x_3)))
set_option maxHeartbeats 4000000 in
set_option maxRecDepth 100000 in
theorem reliquaryref02_right.calls (w : World) (a0 : Int) (a1 : Int)    (r0 : Int) (H : reliquaryref02_right.rel a0 a1 r0) :
    Calls Tryd.prog 24 #[.int .u32 a0, .int .u64 a1] w fun e w' => e = .returned (.int .u32 r0) ∧ St w w' [] := by
  refine CW.enter Tryd.func24 rfl (n := 13) rfl [.int .u32 a0, .int .u64 a1] (Nat.le_of_ble_eq_true rfl) ?_
  refine CW.sub [(0, .int .u32 a0), (1, .int .u64 a1)] ⟨rfl, rfl, trivial⟩ ?_
  have st0 : St w w [] := St.refl w
  refine CW.seq ?_
  refine CW.region ?_
  refine WL.val Wanted.none (Runs.assign rfl) ?_
  refine WL.nil ?_
  refine QW.then_n ?_
  refine CW.seq ?_
  refine CW.region ?_
  refine WL.val Wanted.none (Runs.move rfl) ?_
  refine WL.val Wanted.none (Runs.move rfl) ?_
  obtain ⟨z_1, H⟩ := H
  refine WL.val Wanted.none (Runs.shr rfl rfl z_1 rfl) ?_
  refine WL.val Wanted.none (Runs.move rfl) ?_
  refine WL.val Wanted.none (Runs.move rfl) ?_
  refine WL.val Wanted.none (Runs.sub rfl rfl rfl) ?_
  obtain ⟨z_2, H⟩ := H
  refine WL.val Wanted.none (Runs.shl rfl rfl z_2 rfl) ?_
  obtain ⟨x_3, e_4, H⟩ := H
  refine WL.val Wanted.none (Runs.bor rfl rfl e_4) ?_
  refine WL.val Wanted.none (Runs.assign rfl) ?_
  refine WL.nil ?_
  refine QW.then_n ?_
  refine CW.sub [(4, .int .u32 x_3)] ⟨rfl, trivial⟩ ?_
  refine CW.ret ?_
  obtain rfl := H
  exact QW.ret1 rfl rfl ⟨rfl, st0.pick [] (by decide)⟩

/-! ### reliquaryref02_Rounds: function 25 -/
def reliquaryref02_Rounds.rel  (r0 : List Int) : Prop := (∃ m_5 : List Int, m_5 = [1116352408, 1899447441, 3049323471, 3921009573, 961987163, 1508970993, 2453635748, 2870763221, 3624381080, 310598401, 607225278, 1426881987, 1925078388, 2162078206, 2614888103, 3248222580, 3835390401, 4022224774, 264347078, 604807628, 770255983, 1249150122, 1555081692, 1996064986, 2554220882, 2821834349, 2952996808, 3210313671, 3336571891, 3584528711, 113926993, 338241895, 666307205, 773529912, 1294757372, 1396182291, 1695183700, 1986661051, 2177026350, 2456956037, 2730485921, 2820302411, 3259730800, 3345764771, 3516065817, 3600352804, 4094571909, 275423344, 430227734, 506948616, 659060556, 883997877, 958139571, 1322822218, 1537002063, 1747873779, 1955562222, 2024104815, 2227730452, 2361852424, 2428436474, 2756734187, 3204031479, 3329325298] ∧ r0 = m_5)
set_option maxHeartbeats 4000000 in
set_option maxRecDepth 100000 in
theorem reliquaryref02_Rounds.calls (w : World)     (r0 : List Int) (H : reliquaryref02_Rounds.rel  r0) :
    Calls Tryd.prog 25 #[] w fun e w' => r0.length = 64 ∧ e = .returned (.agg (iv .u32 r0).toArray) ∧ St w w' [] := by
  refine CW.enter Tryd.func25 rfl (n := 2) rfl [] (Nat.le_of_ble_eq_true rfl) ?_
  refine CW.sub [] trivial ?_
  have st0 : St w w [] := St.refl w
  refine CW.seq ?_
  refine CW.region ?_
  refine WL.alloc st0 arr58.zero ?_
  intro B_1 w_2 st_3
  replace st_3 : St w w_2 [.cells B_1 (iv .u32 (List.replicate 64 (0 : Int))) 58] := st_3
  refine WL.nil ?_
  refine QW.then_n ?_
  refine CW.seq ?_
  refine CW.region ?_
  obtain ⟨m_5, e_6, H⟩ := H
  refine WL.val Wanted.none (Runs.build_arr (xs := m_5) arr58 rfl rfl (by rw [e_6]; rfl)) ?_
  refine WL.store_arr (i := 0) st_3 rfl arr58 rfl (by rw [iv_length]; exact (List.length_replicate ..)) (by rw [e_6]; rfl) rfl ?_
  intro w_7 st_8
  replace st_8 : St w w_7 [.cells B_1 (iv .u32 m_5) 58] := st_8
  refine WL.nil ?_
  refine QW.then_n ?_
  refine CW.ret ?_
  obtain rfl := H
  exact QW.retc rfl arr58 rfl (st_8.blk (i := 0) rfl) (by rw [e_6]; rfl) ⟨(by rw [e_6]; rfl), rfl, st_8.pick [] (by decide)⟩

/-! ### reliquaryref02_block: function 18 -/
def reliquaryref02_block.L4 (m_62 : List Int) (x_150 : Int) (x_177 : Int) (r_187 : Int) (r_192 : Int) (r_197 : Int) (x_200 : Int) (K_L3 : (List Int) → Int → Prop) : Nat → (List Int) → Int → Prop
  | 0, _, _ => False
  | kL4 + 1, m_203, x_205 => ((x_205 > 0 ∧ ((0 ≤ (IntKind.i64.wrap (x_205 - 1)) ∧ (IntKind.i64.wrap (x_205 - 1)) < (8 : Int)) ∧ ((0 ≤ x_205 ∧ x_205 < (8 : Int)) ∧ (∃ m_215 : List Int, m_215 = List.set m_203 ((x_205).toNat) (gn m_203 ((IntKind.i64.wrap (x_205 - 1)).toNat)) ∧ reliquaryref02_block.L4 m_62 x_150 x_177 r_187 r_192 r_197 x_200 K_L3 kL4 m_215 (IntKind.i64.wrap (x_205 - 1)))))) ∨ (¬ (x_205 > 0) ∧ (∃ x_220 : Int, x_220 = IntKind.u32.wrap ((gn m_203 4) + (IntKind.u32.wrap (x_177 + (gn m_62 ((x_150).toNat))))) ∧ (∃ m_222 : List Int, m_222 = List.set m_203 4 x_220 ∧ (∃ x_227 : Int, x_227 = IntKind.u32.wrap ((IntKind.u32.wrap (x_177 + (gn m_62 ((x_150).toNat)))) + (bits .xor .u32 (bits .xor .u32 r_187 r_192) r_197)) ∧ (∃ m_229 : List Int, m_229 = List.set m_222 0 (IntKind.u32.wrap (x_227 + x_200)) ∧ K_L3 m_229 (IntKind.i64.wrap (x_150 + 1))))))))
def reliquaryref02_block.L5 (l0 : List Int) (r0 : List Int) : Nat → (List Int) → Int → Prop
  | 0, _, _ => False
  | kL5 + 1, m_235, x_237 => ((x_237 < 8 ∧ ((0 ≤ x_237 ∧ x_237 < (8 : Int)) ∧ ((0 ≤ x_237 ∧ x_237 < (8 : Int)) ∧ (∃ x_247 : Int, x_247 = IntKind.u32.wrap ((gn m_235 ((x_237).toNat)) + (gn l0 ((x_237).toNat))) ∧ ((0 ≤ x_237 ∧ x_237 < (8 : Int)) ∧ (∃ m_253 : List Int, m_253 = List.set m_235 ((x_237).toNat) x_247 ∧ reliquaryref02_block.L5 l0 r0 kL5 m_253 (IntKind.i64.wrap (x_237 + 1)))))))) ∨ (¬ (x_237 < 8) ∧ r0 = m_235))
def reliquaryref02_block.L3 (l0 : List Int) (r0 : List Int) (m_62 : List Int) (r_131 : List Int) : Nat → (List Int) → Int → Prop
  | 0, _, _ => False
  | kL3 + 1, m_148, x_150 => ((x_150 < 64 ∧ (∃ (r_160 : Int), reliquaryref02_right.rel (gn m_148 4) 6 r_160 ∧ (∃ (r_165 : Int), reliquaryref02_right.rel (gn m_148 4) 11 r_165 ∧ (∃ (r_170 : Int), reliquaryref02_right.rel (gn m_148 4) 25 r_170 ∧ (∃ x_171 : Int, x_171 = bits .xor .u32 (bits .and .u32 (gn m_148 4) (gn m_148 5)) (bits .and .u32 (notI .u32 (gn m_148 4)) (gn m_148 6)) ∧ (∃ x_173 : Int, x_173 = IntKind.u32.wrap ((gn m_148 7) + (bits .xor .u32 (bits .xor .u32 r_160 r_165) r_170)) ∧ ((0 ≤ x_150 ∧ x_150 < (64 : Int)) ∧ (∃ x_177 : Int, x_177 = IntKind.u32.wrap ((IntKind.u32.wrap (x_173 + x_171)) + (gn r_131 ((x_150).toNat))) ∧ ((0 ≤ x_150 ∧ x_150 < (64 : Int)) ∧ (∃ (r_187 : Int), reliquaryref02_right.rel (gn m_148 0) 2 r_187 ∧ (∃ (r_192 : Int), reliquaryref02_right.rel (gn m_148 0) 13 r_192 ∧ (∃ (r_197 : Int), reliquaryref02_right.rel (gn m_148 0) 22 r_197 ∧ (∃ x_198 : Int, x_198 = bits .xor .u32 (bits .and .u32 (gn m_148 0) (gn m_148 1)) (bits .and .u32 (gn m_148 0) (gn m_148 2)) ∧ (∃ x_200 : Int, x_200 = bits .xor .u32 x_198 (bits .and .u32 (gn m_148 1) (gn m_148 2)) ∧ (∃ k_ : Nat, reliquaryref02_block.L4 m_62 x_150 x_177 r_187 r_192 r_197 x_200 (reliquaryref02_block.L3 l0 r0 m_62 r_131 kL3) k_ m_148 7))))))))))))))) ∨ (¬ (x_150 < 64) ∧ (∃ k_ : Nat, reliquaryref02_block.L5 l0 r0 k_ m_148 0)))
def reliquaryref02_block.L2 (l0 : List Int) (r0 : List Int) : Nat → (List Int) → Int → Prop
  | 0, _, _ => False
  | kL2 + 1, m_62, x_64 => ((x_64 < 64 ∧ ((0 ≤ (IntKind.i64.wrap (x_64 - 15)) ∧ (IntKind.i64.wrap (x_64 - 15)) < (64 : Int)) ∧ (∃ (r_76 : Int), reliquaryref02_right.rel (gn m_62 ((IntKind.i64.wrap (x_64 - 15)).toNat)) 7 r_76 ∧ ((0 ≤ (IntKind.i64.wrap (x_64 - 15)) ∧ (IntKind.i64.wrap (x_64 - 15)) < (64 : Int)) ∧ (∃ (r_83 : Int), reliquaryref02_right.rel (gn m_62 ((IntKind.i64.wrap (x_64 - 15)).toNat)) 18 r_83 ∧ ((0 ≤ (IntKind.i64.wrap (x_64 - 15)) ∧ (IntKind.i64.wrap (x_64 - 15)) < (64 : Int)) ∧ (∃ x_86 : Int, x_86 = bits .xor .u32 (bits .xor .u32 r_76 r_83) (shrI .u32 (gn m_62 ((IntKind.i64.wrap (x_64 - 15)).toNat)) 3) ∧ ((0 ≤ (IntKind.i64.wrap (x_64 - 2)) ∧ (IntKind.i64.wrap (x_64 - 2)) < (64 : Int)) ∧ (∃ (r_96 : Int), reliquaryref02_right.rel (gn m_62 ((IntKind.i64.wrap (x_64 - 2)).toNat)) 17 r_96 ∧ ((0 ≤ (IntKind.i64.wrap (x_64 - 2)) ∧ (IntKind.i64.wrap (x_64 - 2)) < (64 : Int)) ∧ (∃ (r_103 : Int), reliquaryref02_right.rel (gn m_62 ((IntKind.i64.wrap (x_64 - 2)).toNat)) 19 r_103 ∧ ((0 ≤ (IntKind.i64.wrap (x_64 - 2)) ∧ (IntKind.i64.wrap (x_64 - 2)) < (64 : Int)) ∧ (∃ x_106 : Int, x_106 = bits .xor .u32 (bits .xor .u32 r_96 r_103) (shrI .u32 (gn m_62 ((IntKind.i64.wrap (x_64 - 2)).toNat)) 10) ∧ ((0 ≤ (IntKind.i64.wrap (x_64 - 16)) ∧ (IntKind.i64.wrap (x_64 - 16)) < (64 : Int)) ∧ (∃ x_112 : Int, x_112 = IntKind.u32.wrap ((gn m_62 ((IntKind.i64.wrap (x_64 - 16)).toNat)) + x_86) ∧ ((0 ≤ (IntKind.i64.wrap (x_64 - 7)) ∧ (IntKind.i64.wrap (x_64 - 7)) < (64 : Int)) ∧ (∃ x_116 : Int, x_116 = IntKind.u32.wrap (x_112 + (gn m_62 ((IntKind.i64.wrap (x_64 - 7)).toNat))) ∧ ((0 ≤ x_64 ∧ x_64 < (64 : Int)) ∧ (∃ m_122 : List Int, m_122 = List.set m_62 ((x_64).toNat) (IntKind.u32.wrap (x_116 + x_106)) ∧ reliquaryref02_block.L2 l0 r0 kL2 m_122 (IntKind.i64.wrap (x_64 + 1))))))))))))))))))))) ∨ (¬ (x_64 < 64) ∧ (∃ (r_131 : List Int), reliquaryref02_Rounds.rel  r_131 ∧ (∃ k_ : Nat, reliquaryref02_block.L3 l0 r0 m_62 r_131 k_ l0 0))))
def reliquaryref02_block.L1 (l0 : List Int) (l1 : List Int) (a2 : Int) (r0 : List Int) : Nat → (List Int) → Int → Prop
  | 0, _, _ => False
  | kL1 + 1, m_14, x_16 => ((x_16 < 16 ∧ ((0 ≤ (IntKind.i64.wrap (a2 + (IntKind.i64.wrap (4 * x_16)))) ∧ (IntKind.i64.wrap (a2 + (IntKind.i64.wrap (4 * x_16)))) < (l1.length : Int)) ∧ (∃ x_26 : Int, x_26 = IntKind.u32.wrap (gn l1 ((IntKind.i64.wrap (a2 + (IntKind.i64.wrap (4 * x_16)))).toNat)) ∧ (∃ x_28 : Int, x_28 = IntKind.i64.wrap ((IntKind.i64.wrap (a2 + (IntKind.i64.wrap (4 * x_16)))) + 1) ∧ ((0 ≤ x_28 ∧ x_28 < (l1.length : Int)) ∧ (∃ x_34 : Int, x_34 = IntKind.u32.wrap ((shlI .u32 x_26 24) + (shlI .u32 (IntKind.u32.wrap (gn l1 ((x_28).toNat))) 16)) ∧ (∃ x_36 : Int, x_36 = IntKind.i64.wrap ((IntKind.i64.wrap (a2 + (IntKind.i64.wrap (4 * x_16)))) + 2) ∧ ((0 ≤ x_36 ∧ x_36 < (l1.length : Int)) ∧ (∃ x_42 : Int, x_42 = IntKind.u32.wrap (x_34 + (shlI .u32 (IntKind.u32.wrap (gn l1 ((x_36).toNat))) 8)) ∧ (∃ x_44 : Int, x_44 = IntKind.i64.wrap ((IntKind.i64.wrap (a2 + (IntKind.i64.wrap (4 * x_16)))) + 3) ∧ ((0 ≤ x_44 ∧ x_44 < (l1.length : Int)) ∧ (∃ x_50 : Int, x_50 = IntKind.u32.wrap (x_42 + (IntKind.u32.wrap (gn l1 ((x_44).toNat)))) ∧ ((0 ≤ x_16 ∧ x_16 < (64 : Int)) ∧ (∃ m_56 : List Int, m_56 = List.set m_14 ((x_16).toNat) x_50 ∧ reliquaryref02_block.L1 l0 l1 a2 r0 kL1 m_56 (IntKind.i64.wrap (x_16 + 1)))))))))))))))) ∨ (¬ (x_16 < 16) ∧ (∃ k_ : Nat, reliquaryref02_block.L2 l0 r0 k_ m_14 16)))
def reliquaryref02_block.rel (l0 : List Int) (l1 : List Int) (a2 : Int) (r0 : List Int) : Prop := (∃ k_ : Nat, reliquaryref02_block.L1 l0 l1 a2 r0 k_ (List.replicate 64 (0 : Int)) 0)
set_option maxHeartbeats 4000000 in
set_option maxRecDepth 100000 in
theorem reliquaryref02_block.calls (w : World) (l0 : List Int) (l1 : List Int) (a2 : Int) (A1 : Option Addr) (n1 : Nat) (c1 : Nat)  (hl0 : l0.length = 8) (hs1 : Src w A1 (iv .u8 l1)) (hn1 : n1 = l1.length) (hc1 : n1 ≤ c1) (r0 : List Int) (H : reliquaryref02_block.rel l0 l1 a2 r0) :
    Calls Tryd.prog 18 #[.agg (iv .u32 l0).toArray, .slice A1 n1 c1, .int .i64 a2] w fun e w' => r0.length = 8 ∧ e = .returned (.agg (iv .u32 r0).toArray) ∧ St w w' [] := by
  refine CW.enter Tryd.func18 rfl (n := 223) rfl [.agg (iv .u32 l0).toArray, .slice A1 n1 c1, .int .i64 a2] (Nat.le_of_ble_eq_true rfl) ?_
  refine CW.sub [(0, .agg (iv .u32 l0).toArray), (1, .slice A1 n1 c1), (2, .int .i64 a2)] ⟨rfl, rfl, rfl, trivial⟩ ?_
  have st0 : St w w [] := St.refl w
  refine CW.seq ?_
  refine CW.region ?_
  refine WL.box st0 rfl rfl ?_
  intro B_1 w_2 st_3
  replace st_3 : St w w_2 [.cells B_1 (iv .u32 l0) 47] := st_3
  refine WL.alloc st_3 arr47.zero ?_
  intro B_5 w_6 st_7
  replace st_7 : St w w_6 [.cells B_5 (iv .u32 (List.replicate 8 (0 : Int))) 47, .cells B_1 (iv .u32 l0) 47] := st_7
  refine WL.nil ?_
  refine QW.then_n ?_
  refine CW.seq ?_
  refine CW.region ?_
  refine WL.alloc st_7 arr58.zero ?_
  intro B_9 w_10 st_11
  replace st_11 : St w w_10 [.cells B_9 (iv .u32 (List.replicate 64 (0 : Int))) 58, .cells B_5 (iv .u32 (List.replicate 8 (0 : Int))) 47, .cells B_1 (iv .u32 l0) 47] := st_11
  refine WL.nil ?_
  refine QW.then_n ?_
  refine CW.seq ?_
  refine CW.seq ?_
  refine CW.region ?_
  refine WL.val Wanted.none (Runs.assign rfl) ?_
  refine WL.nil ?_
  refine QW.then_n ?_
  refine CW.block ?_
  obtain ⟨k_13, H⟩ := H
  refine CW.sub [(1, .slice A1 n1 c1), (2, .int .i64 a2), (3, .pointer (some ⟨B_1, 0, none⟩)), (6, .pointer (some ⟨B_5, 0, none⟩)), (7, .pointer (some ⟨B_9, 0, none⟩)), (8, .int .i64 0)] ⟨rfl, rfl, rfl, rfl, rfl, rfl, trivial⟩ ?_
  refine CW.loop (fun kL1 l_ w_ => ∃ (m_14 : List Int) (x_16 : Int), l_ = [(1, .slice A1 n1 c1), (2, .int .i64 a2), (3, .pointer (some ⟨B_1, 0, none⟩)), (6, .pointer (some ⟨B_5, 0, none⟩)), (7, .pointer (some ⟨B_9, 0, none⟩)), (8, .int .i64 x_16)] ∧ reliquaryref02_block.L1 l0 l1 a2 r0 kL1 m_14 x_16 ∧ (m_14.length = 64) ∧ St w w_ [.cells B_9 (iv .u32 m_14) 58, .cells B_5 (iv .u32 (List.replicate 8 (0 : Int))) 47, .cells B_1 (iv .u32 l0) 47]) (k := k_13) ⟨List.replicate 64 (0 : Int), 0, rfl, H, (List.length_replicate ..), st_11⟩ (fun _ _ h => by obtain ⟨_, _, _, h, _⟩ := h; exact h.elim) ?_
  rintro kL1 l_19 w_17 ⟨m_14, x_16, rfl, H, hl_15, st_18⟩
  refine CW.seq ?_
  refine CW.seq ?_
  refine CW.region ?_
  refine WL.val Wanted.none (Runs.move rfl) ?_
  refine WL.val Wanted.none (Runs.lss rfl rfl rfl) ?_
  refine WL.nil ?_
  refine QW.then_n ?_
  rcases H with ⟨c_20, H⟩ | ⟨c_20, H⟩
  · have h_21 : (decide (x_16 < 16)) = true := (decide_eq_true c_20)
    refine CW.ct rfl h_21 ?_
    refine CW.skip ?_
    refine QW.then_n ?_
    refine CW.seq ?_
    refine CW.block ?_
    refine CW.region_qt 43 wide (by kernel_rfl) st_18 ?_
    refine HL.val Wanted.none (fun wq sq => (Runs.move rfl)) ?_
    refine HL.val Wanted.none (fun wq sq => (Runs.move rfl)) ?_
    refine HL.val Wanted.none (fun wq sq => (Runs.move rfl)) ?_
    refine HL.val Wanted.none (fun wq sq => (Runs.move rfl)) ?_
    refine HL.val Wanted.none (fun wq sq => (Runs.mul rfl rfl rfl)) ?_
    refine HL.val Wanted.none (fun wq sq => (Runs.add rfl rfl rfl)) ?_
    obtain ⟨⟨p_22, q_23⟩, H⟩ := H
    obtain ⟨a_24, e_25⟩ := (hs1.ext st_18).addr_iv ((IntKind.i64.wrap (a2 + (IntKind.i64.wrap (4 * x_16)))).toNat) (by omega)
    refine HL.val Wanted.none (fun wq sq => (Runs.indexAddr Tryd.underlying22 cells5 (by decide) rfl e_25 rfl p_22 (by rw [hn1]; exact q_23) (o := (IntKind.i64.wrap (a2 + (IntKind.i64.wrap (4 * x_16)))).toNat) (by first | rfl | omega))) ?_
    refine HL.val Wanted.none (fun wq sq => (Runs.load nagg5 rfl ((hs1.ext sq).cell_iv e_25 (by omega)))) ?_
    obtain ⟨x_26, e_27, H⟩ := H
    refine HL.val Wanted.none (fun wq sq => (Runs.conv Tryd.underlying46 ⟨_, Tryd.underlying5⟩ rfl e_27)) ?_
    refine HL.val Wanted.none (fun wq sq => (Runs.shl rfl rfl (by decide) rfl)) ?_
    refine HL.val Wanted.none (fun wq sq => (Runs.move rfl)) ?_
    refine HL.val Wanted.none (fun wq sq => (Runs.move rfl)) ?_
    refine HL.val Wanted.none (fun wq sq => (Runs.move rfl)) ?_
    refine HL.val Wanted.none (fun wq sq => (Runs.mul rfl rfl rfl)) ?_
    refine HL.val Wanted.none (fun wq sq => (Runs.add rfl rfl rfl)) ?_
    obtain ⟨x_28, e_29, H⟩ := H
    refine HL.val Wanted.none (fun wq sq => (Runs.add rfl rfl e_29)) ?_
    obtain ⟨⟨p_30, q_31⟩, H⟩ := H
    obtain ⟨a_32, e_33⟩ := (hs1.ext st_18).addr_iv ((x_28).toNat) (by omega)
    refine HL.val Wanted.none (fun wq sq => (Runs.indexAddr Tryd.underlying22 cells5 (by decide) rfl e_33 rfl p_30 (by rw [hn1]; exact q_31) (o := (x_28).toNat) (by first | rfl | omega))) ?_
    refine HL.val Wanted.none (fun wq sq => (Runs.load nagg5 rfl ((hs1.ext sq).cell_iv e_33 (by omega)))) ?_
    refine HL.val Wanted.none (fun wq sq => (Runs.conv Tryd.underlying46 ⟨_, Tryd.underlying5⟩ rfl rfl)) ?_
    refine HL.val Wanted.none (fun wq sq => (Runs.shl rfl rfl (by decide) rfl)) ?_
    obtain ⟨x_34, e_35, H⟩ := H
    refine HL.val Wanted.none (fun wq sq => (Runs.add rfl rfl e_35)) ?_
    refine HL.val Wanted.none (fun wq sq => (Runs.move rfl)) ?_
    refine HL.val Wanted.none (fun wq sq => (Runs.move rfl)) ?_
    refine HL.val Wanted.none (fun wq sq => (Runs.move rfl)) ?_
    refine HL.val Wanted.none (fun wq sq => (Runs.mul rfl rfl rfl)) ?_
    refine HL.val Wanted.none (fun wq sq => (Runs.add rfl rfl rfl)) ?_
    obtain ⟨x_36, e_37, H⟩ := H
    refine HL.val Wanted.none (fun wq sq => (Runs.add rfl rfl e_37)) ?_
    obtain ⟨⟨p_38, q_39⟩, H⟩ := H
    obtain ⟨a_40, e_41⟩ := (hs1.ext st_18).addr_iv ((x_36).toNat) (by omega)
    refine HL.val Wanted.none (fun wq sq => (Runs.indexAddr Tryd.underlying22 cells5 (by decide) rfl e_41 rfl p_38 (by rw [hn1]; exact q_39) (o := (x_36).toNat) (by first | rfl | omega))) ?_
    refine HL.val Wanted.none (fun wq sq => (Runs.load nagg5 rfl ((hs1.ext sq).cell_iv e_41 (by omega)))) ?_
    refine HL.val Wanted.none (fun wq sq => (Runs.conv Tryd.underlying46 ⟨_, Tryd.underlying5⟩ rfl rfl)) ?_
    refine HL.val Wanted.none (fun wq sq => (Runs.shl rfl rfl (by decide) rfl)) ?_
    obtain ⟨x_42, e_43, H⟩ := H
    refine HL.val Wanted.none (fun wq sq => (Runs.add rfl rfl e_43)) ?_
    refine HL.val Wanted.none (fun wq sq => (Runs.move rfl)) ?_
    refine HL.val Wanted.none (fun wq sq => (Runs.move rfl)) ?_
    refine HL.val Wanted.none (fun wq sq => (Runs.move rfl)) ?_
    refine HL.val Wanted.none (fun wq sq => (Runs.mul rfl rfl rfl)) ?_
    refine HL.val Wanted.none (fun wq sq => (Runs.add rfl rfl rfl)) ?_
    obtain ⟨x_44, e_45, H⟩ := H
    refine HL.val Wanted.none (fun wq sq => (Runs.add rfl rfl e_45)) ?_
    obtain ⟨⟨p_46, q_47⟩, H⟩ := H
    obtain ⟨a_48, e_49⟩ := (hs1.ext st_18).addr_iv ((x_44).toNat) (by omega)
    refine HL.val Wanted.none (fun wq sq => (Runs.indexAddr Tryd.underlying22 cells5 (by decide) rfl e_49 rfl p_46 (by rw [hn1]; exact q_47) (o := (x_44).toNat) (by first | rfl | omega))) ?_
    refine HL.val Wanted.none (fun wq sq => (Runs.load nagg5 rfl ((hs1.ext sq).cell_iv e_49 (by omega)))) ?_
    refine HL.val Wanted.none (fun wq sq => (Runs.conv Tryd.underlying46 ⟨_, Tryd.underlying5⟩ rfl rfl)) ?_
    obtain ⟨x_50, e_51, H⟩ := H
    refine HL.val Wanted.none (fun wq sq => (Runs.add rfl rfl e_51)) ?_
    obtain ⟨⟨p_52, q_53⟩, H⟩ := H
    refine HL.val Wanted.none (fun wq sq => (Runs.indexAddr_blk arr58 rfl rfl p_52 q_53 (o := (x_16).toNat) (by first | rfl | omega))) ?_
    refine HL.nil (fun w_54 st_55 => ?_)
    obtain ⟨m_56, e_57, H⟩ := H
    have hl_60 : m_56.length = 64 := by rw [e_57, List.length_set]; exact hl_15
    refine WL.store_cells (i := 0) st_55 rfl cells46 rfl (by rw [iv_length]; have := hl_15; omega) rfl rfl ?_
    intro w_58 st_59
    have st_59' : St w w_58 [.cells B_9 (iv .u32 m_56) 58, .cells B_5 (iv .u32 (List.replicate 8 (0 : Int))) 47, .cells B_1 (iv .u32 l0) 47] := by rw [e_57, ← iv_set .u32 m_14 ((x_16).toNat) x_50]; exact st_59
    refine WL.nil ?_
    refine QW.blk_n ?_
    refine QW.then_n ?_
    refine CW.region ?_
    refine WL.val Wanted.none (Runs.move rfl) ?_
    refine WL.val Wanted.none (Runs.add rfl rfl rfl) ?_
    refine WL.val Wanted.none (Runs.assign rfl) ?_
    refine WL.nil ?_
    exact QW.at [(1, .slice A1 n1 c1), (2, .int .i64 a2), (3, .pointer (some ⟨B_1, 0, none⟩)), (6, .pointer (some ⟨B_5, 0, none⟩)), (7, .pointer (some ⟨B_9, 0, none⟩)), (8, .int .i64 (IntKind.i64.wrap (x_16 + 1)))] ⟨rfl, rfl, rfl, rfl, rfl, rfl, trivial⟩ ⟨m_56, IntKind.i64.wrap (x_16 + 1), rfl, H, hl_60, st_59'⟩
  · have h_21 : (decide (x_16 < 16)) = false := (decide_eq_false c_20)
    refine CW.cf rfl h_21 ?_
    refine CW.exit ?_
    refine QW.then_x ?_
    refine QW.then_x ?_
    refine QW.blk_x ?_
    refine QW.then_n ?_
    refine CW.seq ?_
    refine CW.seq ?_
    refine CW.region ?_
    refine WL.val Wanted.none (Runs.assign rfl) ?_
    refine WL.nil ?_
    refine QW.then_n ?_
    refine CW.block ?_
    obtain ⟨k_61, H⟩ := H
    refine CW.sub [(3, .pointer (some ⟨B_1, 0, none⟩)), (6, .pointer (some ⟨B_5, 0, none⟩)), (7, .pointer (some ⟨B_9, 0, none⟩)), (9, .int .i64 16)] ⟨rfl, rfl, rfl, rfl, trivial⟩ ?_
    refine CW.loop (fun kL2 l_ w_ => ∃ (m_62 : List Int) (x_64 : Int), l_ = [(3, .pointer (some ⟨B_1, 0, none⟩)), (6, .pointer (some ⟨B_5, 0, none⟩)), (7, .pointer (some ⟨B_9, 0, none⟩)), (9, .int .i64 x_64)] ∧ reliquaryref02_block.L2 l0 r0 kL2 m_62 x_64 ∧ (m_62.length = 64) ∧ St w w_ [.cells B_9 (iv .u32 m_62) 58, .cells B_5 (iv .u32 (List.replicate 8 (0 : Int))) 47, .cells B_1 (iv .u32 l0) 47]) (k := k_61) ⟨m_14, 16, rfl, H, hl_15, st_18⟩ (fun _ _ h => by obtain ⟨_, _, _, h, _⟩ := h; exact h.elim) ?_
    rintro kL2 l_67 w_65 ⟨m_62, x_64, rfl, H, hl_63, st_66⟩
    refine CW.seq ?_
    refine CW.seq ?_
    refine CW.region ?_
    refine WL.val Wanted.none (Runs.move rfl) ?_
    refine WL.val Wanted.none (Runs.lss rfl rfl rfl) ?_
    refine WL.nil ?_
    refine QW.then_n ?_
    rcases H with ⟨c_68, H⟩ | ⟨c_68, H⟩
    · have h_69 : (decide (x_64 < 64)) = true := (decide_eq_true c_68)
      refine CW.ct rfl h_69 ?_
      refine CW.skip ?_
      refine QW.then_n ?_
      refine CW.seq ?_
      refine CW.block ?_
      refine CW.seq ?_
      refine CW.region_qa wide (by kernel_rfl) st_66 ?_
      refine HL.val Wanted.none (fun wq sq => (Runs.move rfl)) ?_
      refine HL.val Wanted.none (fun wq sq => (Runs.sub rfl rfl rfl)) ?_
      obtain ⟨⟨p_70, q_71⟩, H⟩ := H
      refine HL.val Wanted.none (fun wq sq => (Runs.indexAddr_blk arr58 rfl rfl p_70 q_71 (o := (IntKind.i64.wrap (x_64 - 15)).toNat) (by first | rfl | omega))) ?_
      refine HL.val Wanted.none (fun wq sq => (Runs.load nagg46 rfl (sq.cell_iv (i := 0) rfl (by have := hl_63; omega)))) ?_
      obtain ⟨r_76, hr_72, H⟩ := H
      refine HL.call Wanted.none ent24 rfl (fun wq sq => (reliquaryref02_right.calls wq (gn m_62 ((IntKind.i64.wrap (x_64 - 15)).toNat)) 7 r_76 hr_72).mono (by rintro _ _ ⟨rfl, sc⟩; exact ⟨rfl, sq.call sc⟩)) ?_
      refine HL.val Wanted.none (fun wq sq => (Runs.move rfl)) ?_
      refine HL.val Wanted.none (fun wq sq => (Runs.sub rfl rfl rfl)) ?_
      obtain ⟨⟨p_77, q_78⟩, H⟩ := H
      refine HL.val Wanted.none (fun wq sq => (Runs.indexAddr_blk arr58 rfl rfl p_77 q_78 (o := (IntKind.i64.wrap (x_64 - 15)).toNat) (by first | rfl | omega))) ?_
      refine HL.val Wanted.none (fun wq sq => (Runs.load nagg46 rfl (sq.cell_iv (i := 0) rfl (by have := hl_63; omega)))) ?_
      obtain ⟨r_83, hr_79, H⟩ := H
      refine HL.call Wanted.none ent24 rfl (fun wq sq => (reliquaryref02_right.calls wq (gn m_62 ((IntKind.i64.wrap (x_64 - 15)).toNat)) 18 r_83 hr_79).mono (by rintro _ _ ⟨rfl, sc⟩; exact ⟨rfl, sq.call sc⟩)) ?_
      refine HL.val Wanted.none (fun wq sq => (Runs.bxor rfl rfl rfl)) ?_
      refine HL.val Wanted.none (fun wq sq => (Runs.move rfl)) ?_
      refine HL.val Wanted.none (fun wq sq => (Runs.sub rfl rfl rfl)) ?_
      obtain ⟨⟨p_84, q_85⟩, H⟩ := H
      refine HL.val Wanted.none (fun wq sq => (Runs.indexAddr_blk arr58 rfl rfl p_84 q_85 (o := (IntKind.i64.wrap (x_64 - 15)).toNat) (by first | rfl | omega))) ?_
      refine HL.val Wanted.none (fun wq sq => (Runs.load nagg46 rfl (sq.cell_iv (i := 0) rfl (by have := hl_63; omega)))) ?_
      refine HL.val Wanted.none (fun wq sq => (Runs.shr rfl rfl (by decide) rfl)) ?_
      obtain ⟨x_86, e_87, H⟩ := H
      refine HL.val Wanted.none (fun wq sq => (Runs.bxor rfl rfl e_87)) ?_
      refine HL.val Wanted.none (fun wq sq => (Runs.assign rfl)) ?_
      refine HL.nil (fun w_88 st_89 => ?_)
      refine WL.nil ?_
      refine QW.then_n ?_
      refine CW.seq ?_
      refine CW.region_qa wide (by kernel_rfl) st_89 ?_
      refine HL.val Wanted.none (fun wq sq => (Runs.move rfl)) ?_
      refine HL.val Wanted.none (fun wq sq => (Runs.sub rfl rfl rfl)) ?_
      obtain ⟨⟨p_90, q_91⟩, H⟩ := H
      refine HL.val Wanted.none (fun wq sq => (Runs.indexAddr_blk arr58 rfl rfl p_90 q_91 (o := (IntKind.i64.wrap (x_64 - 2)).toNat) (by first | rfl | omega))) ?_
      refine HL.val Wanted.none (fun wq sq => (Runs.load nagg46 rfl (sq.cell_iv (i := 0) rfl (by have := hl_63; omega)))) ?_
      obtain ⟨r_96, hr_92, H⟩ := H
      refine HL.call Wanted.none ent24 rfl (fun wq sq => (reliquaryref02_right.calls wq (gn m_62 ((IntKind.i64.wrap (x_64 - 2)).toNat)) 17 r_96 hr_92).mono (by rintro _ _ ⟨rfl, sc⟩; exact ⟨rfl, sq.call sc⟩)) ?_
      refine HL.val Wanted.none (fun wq sq => (Runs.move rfl)) ?_
      refine HL.val Wanted.none (fun wq sq => (Runs.sub rfl rfl rfl)) ?_
      obtain ⟨⟨p_97, q_98⟩, H⟩ := H
      refine HL.val Wanted.none (fun wq sq => (Runs.indexAddr_blk arr58 rfl rfl p_97 q_98 (o := (IntKind.i64.wrap (x_64 - 2)).toNat) (by first | rfl | omega))) ?_
      refine HL.val Wanted.none (fun wq sq => (Runs.load nagg46 rfl (sq.cell_iv (i := 0) rfl (by have := hl_63; omega)))) ?_
      obtain ⟨r_103, hr_99, H⟩ := H
      refine HL.call Wanted.none ent24 rfl (fun wq sq => (reliquaryref02_right.calls wq (gn m_62 ((IntKind.i64.wrap (x_64 - 2)).toNat)) 19 r_103 hr_99).mono (by rintro _ _ ⟨rfl, sc⟩; exact ⟨rfl, sq.call sc⟩)) ?_
      refine HL.val Wanted.none (fun wq sq => (Runs.bxor rfl rfl rfl)) ?_
      refine HL.val Wanted.none (fun wq sq => (Runs.move rfl)) ?_
      refine HL.val Wanted.none (fun wq sq => (Runs.sub rfl rfl rfl)) ?_
      obtain ⟨⟨p_104, q_105⟩, H⟩ := H
      refine HL.val Wanted.none (fun wq sq => (Runs.indexAddr_blk arr58 rfl rfl p_104 q_105 (o := (IntKind.i64.wrap (x_64 - 2)).toNat) (by first | rfl | omega))) ?_
      refine HL.val Wanted.none (fun wq sq => (Runs.load nagg46 rfl (sq.cell_iv (i := 0) rfl (by have := hl_63; omega)))) ?_
      refine HL.val Wanted.none (fun wq sq => (Runs.shr rfl rfl (by decide) rfl)) ?_
      obtain ⟨x_106, e_107, H⟩ := H
      refine HL.val Wanted.none (fun wq sq => (Runs.bxor rfl rfl e_107)) ?_
      refine HL.val Wanted.none (fun wq sq => (Runs.assign rfl)) ?_
      refine HL.nil (fun w_108 st_109 => ?_)
      refine WL.nil ?_
      refine QW.then_n ?_
      refine CW.region_qt 15 wide (by kernel_rfl) st_109 ?_
      refine HL.val Wanted.none (fun wq sq => (Runs.move rfl)) ?_
      refine HL.val Wanted.none (fun wq sq => (Runs.move rfl)) ?_
      refine HL.val Wanted.none (fun wq sq => (Runs.sub rfl rfl rfl)) ?_
      obtain ⟨⟨p_110, q_111⟩, H⟩ := H
      refine HL.val Wanted.none (fun wq sq => (Runs.indexAddr_blk arr58 rfl rfl p_110 q_111 (o := (IntKind.i64.wrap (x_64 - 16)).toNat) (by first | rfl | omega))) ?_
      refine HL.val Wanted.none (fun wq sq => (Runs.load nagg46 rfl (sq.cell_iv (i := 0) rfl (by have := hl_63; omega)))) ?_
      refine HL.val Wanted.none (fun wq sq => (Runs.move rfl)) ?_
      obtain ⟨x_112, e_113, H⟩ := H
      refine HL.val Wanted.none (fun wq sq => (Runs.add rfl rfl e_113)) ?_
      refine HL.val Wanted.none (fun wq sq => (Runs.move rfl)) ?_
      refine HL.val Wanted.none (fun wq sq => (Runs.sub rfl rfl rfl)) ?_
      obtain ⟨⟨p_114, q_115⟩, H⟩ := H
      refine HL.val Wanted.none (fun wq sq => (Runs.indexAddr_blk arr58 rfl rfl p_114 q_115 (o := (IntKind.i64.wrap (x_64 - 7)).toNat) (by first | rfl | omega))) ?_
      refine HL.val Wanted.none (fun wq sq => (Runs.load nagg46 rfl (sq.cell_iv (i := 0) rfl (by have := hl_63; omega)))) ?_
      obtain ⟨x_116, e_117, H⟩ := H
      refine HL.val Wanted.none (fun wq sq => (Runs.add rfl rfl e_117)) ?_
      refine HL.val Wanted.none (fun wq sq => (Runs.move rfl)) ?_
      refine HL.val Wanted.none (fun wq sq => (Runs.add rfl rfl rfl)) ?_
      obtain ⟨⟨p_118, q_119⟩, H⟩ := H
      refine HL.val Wanted.none (fun wq sq => (Runs.indexAddr_blk arr58 rfl rfl p_118 q_119 (o := (x_64).toNat) (by first | rfl | omega))) ?_
      refine HL.nil (fun w_120 st_121 => ?_)
      obtain ⟨m_122, e_123, H⟩ := H
      have hl_126 : m_122.length = 64 := by rw [e_123, List.length_set]; exact hl_63
      refine WL.store_cells (i := 0) st_121 rfl cells46 rfl (by rw [iv_length]; have := hl_63; omega) rfl rfl ?_
      intro w_124 st_125
      have st_125' : St w w_124 [.cells B_9 (iv .u32 m_122) 58, .cells B_5 (iv .u32 (List.replicate 8 (0 : Int))) 47, .cells B_1 (iv .u32 l0) 47] := by rw [e_123, ← iv_set .u32 m_62 ((x_64).toNat) (IntKind.u32.wrap (x_116 + x_106))]; exact st_125
      refine WL.nil ?_
      refine QW.blk_n ?_
      refine QW.then_n ?_
      refine CW.region ?_
      refine WL.val Wanted.none (Runs.move rfl) ?_
      refine WL.val Wanted.none (Runs.add rfl rfl rfl) ?_
      refine WL.val Wanted.none (Runs.assign rfl) ?_
      refine WL.nil ?_
      exact QW.at [(3, .pointer (some ⟨B_1, 0, none⟩)), (6, .pointer (some ⟨B_5, 0, none⟩)), (7, .pointer (some ⟨B_9, 0, none⟩)), (9, .int .i64 (IntKind.i64.wrap (x_64 + 1)))] ⟨rfl, rfl, rfl, rfl, trivial⟩ ⟨m_122, IntKind.i64.wrap (x_64 + 1), rfl, H, hl_126, st_125'⟩
    · have h_69 : (decide (x_64 < 64)) = false := (decide_eq_false c_68)
      refine CW.cf rfl h_69 ?_
      refine CW.exit ?_
      refine QW.then_x ?_
      refine QW.then_x ?_
      refine QW.blk_x ?_
      refine QW.then_n ?_
      refine CW.seq ?_
      refine CW.region ?_
      obtain ⟨r_131, hr_127, H⟩ := H
      refine WL.call Wanted.none ent25 rfl (reliquaryref02_Rounds.calls w_65 r_131 hr_127) ?_
      rintro _ w_128 ⟨hl_132, rfl, sc_130⟩
      have st_129 : St w w_128 [.cells B_9 (iv .u32 m_62) 58, .cells B_5 (iv .u32 (List.replicate 8 (0 : Int))) 47, .cells B_1 (iv .u32 l0) 47] := st_66.call sc_130
      refine ⟨_, rfl, ?_⟩
      refine WL.alloc st_129 arr58.zero ?_
      intro B_133 w_134 st_135
      replace st_135 : St w w_134 [.cells B_133 (iv .u32 (List.replicate 64 (0 : Int))) 58, .cells B_9 (iv .u32 m_62) 58, .cells B_5 (iv .u32 (List.replicate 8 (0 : Int))) 47, .cells B_1 (iv .u32 l0) 47] := st_135
      refine WL.store_arr (i := 0) st_135 rfl arr58 rfl (by rw [iv_length]; exact (List.length_replicate ..)) hl_132 rfl ?_
      intro w_137 st_138
      replace st_138 : St w w_137 [.cells B_133 (iv .u32 r_131) 58, .cells B_9 (iv .u32 m_62) 58, .cells B_5 (iv .u32 (List.replicate 8 (0 : Int))) 47, .cells B_1 (iv .u32 l0) 47] := st_138
      refine WL.nil ?_
      refine QW.then_n ?_
      refine CW.seq ?_
      refine CW.region ?_
      refine WL.val Wanted.none (Runs.load_arr arr47 rfl (st_138.blk (i := 3) rfl) hl0) ?_
      refine WL.alloc st_138 arr47.zero ?_
      intro B_140 w_141 st_142
      replace st_142 : St w w_141 [.cells B_140 (iv .u32 (List.replicate 8 (0 : Int))) 47, .cells B_133 (iv .u32 r_131) 58, .cells B_9 (iv .u32 m_62) 58, .cells B_5 (iv .u32 (List.replicate 8 (0 : Int))) 47, .cells B_1 (iv .u32 l0) 47] := st_142
      refine WL.store_arr (i := 0) st_142 rfl arr47 rfl (by rw [iv_length]; exact (List.length_replicate ..)) hl0 rfl ?_
      intro w_144 st_145
      replace st_145 : St w w_144 [.cells B_140 (iv .u32 l0) 47, .cells B_133 (iv .u32 r_131) 58, .cells B_9 (iv .u32 m_62) 58, .cells B_5 (iv .u32 (List.replicate 8 (0 : Int))) 47, .cells B_1 (iv .u32 l0) 47] := st_145
      refine WL.nil ?_
      refine QW.then_n ?_
      refine CW.seq ?_
      refine CW.seq ?_
      refine CW.region ?_
      refine WL.val Wanted.none (Runs.assign rfl) ?_
      refine WL.nil ?_
      refine QW.then_n ?_
      refine CW.block ?_
      obtain ⟨k_147, H⟩ := H
      refine CW.sub [(3, .pointer (some ⟨B_1, 0, none⟩)), (6, .pointer (some ⟨B_5, 0, none⟩)), (7, .pointer (some ⟨B_9, 0, none⟩)), (12, .pointer (some ⟨B_133, 0, none⟩)), (13, .pointer (some ⟨B_140, 0, none⟩)), (14, .int .i64 0)] ⟨rfl, rfl, rfl, rfl, rfl, rfl, trivial⟩ ?_
      refine CW.loop (fun kL3 l_ w_ => ∃ (m_148 : List Int) (x_150 : Int), l_ = [(3, .pointer (some ⟨B_1, 0, none⟩)), (6, .pointer (some ⟨B_5, 0, none⟩)), (7, .pointer (some ⟨B_9, 0, none⟩)), (12, .pointer (some ⟨B_133, 0, none⟩)), (13, .pointer (some ⟨B_140, 0, none⟩)), (14, .int .i64 x_150)] ∧ reliquaryref02_block.L3 l0 r0 m_62 r_131 kL3 m_148 x_150 ∧ (m_148.length = 8) ∧ St w w_ [.cells B_140 (iv .u32 m_148) 47, .cells B_133 (iv .u32 r_131) 58, .cells B_9 (iv .u32 m_62) 58, .cells B_5 (iv .u32 (List.replicate 8 (0 : Int))) 47, .cells B_1 (iv .u32 l0) 47]) (k := k_147) ⟨l0, 0, rfl, H, hl0, st_145⟩ (fun _ _ h => by obtain ⟨_, _, _, h, _⟩ := h; exact h.elim) ?_
      rintro kL3 l_153 w_151 ⟨m_148, x_150, rfl, H, hl_149, st_152⟩
      refine CW.seq ?_
      refine CW.seq ?_
      refine CW.region ?_
      refine WL.val Wanted.none (Runs.move rfl) ?_
      refine WL.val Wanted.none (Runs.lss rfl rfl rfl) ?_
      refine WL.nil ?_
      refine QW.then_n ?_
      rcases H with ⟨c_154, H⟩ | ⟨c_154, H⟩
      · have h_155 : (decide (x_150 < 64)) = true := (decide_eq_true c_154)
        refine CW.ct rfl h_155 ?_
        refine CW.skip ?_
        refine QW.then_n ?_
        refine CW.seq ?_
        refine CW.block ?_
        refine CW.seq ?_
        refine CW.region ?_
        refine WL.val Wanted.none (Runs.indexAddr_blk arr47 rfl rfl (by decide) (by decide) (o := 4) (by first | rfl | omega)) ?_
        refine WL.val Wanted.none (Runs.load nagg46 rfl (st_152.cell_iv (i := 0) rfl (by have := hl_149; omega))) ?_
        refine WL.val Wanted.none (Runs.assign rfl) ?_
        refine WL.nil ?_
        refine QW.then_n ?_
        refine CW.seq ?_
        refine CW.region ?_
        refine WL.val Wanted.none (Runs.indexAddr_blk arr47 rfl rfl (by decide) (by decide) (o := 0) (by first | rfl | omega)) ?_
        refine WL.val Wanted.none (Runs.load nagg46 rfl (st_152.cell_iv (i := 0) rfl (by have := hl_149; omega))) ?_
        refine WL.val Wanted.none (Runs.assign rfl) ?_
        refine WL.nil ?_
        refine QW.then_n ?_
        refine CW.seq ?_
        refine CW.region ?_
        refine WL.val Wanted.none (Runs.move rfl) ?_
        obtain ⟨r_160, hr_156, H⟩ := H
        refine WL.call Wanted.none ent24 rfl (reliquaryref02_right.calls w_151 (gn m_148 4) 6 r_160 hr_156) ?_
        rintro _ w_157 ⟨rfl, sc_159⟩
        have st_158 : St w w_157 [.cells B_140 (iv .u32 m_148) 47, .cells B_133 (iv .u32 r_131) 58, .cells B_9 (iv .u32 m_62) 58, .cells B_5 (iv .u32 (List.replicate 8 (0 : Int))) 47, .cells B_1 (iv .u32 l0) 47] := st_152.call sc_159
        refine ⟨_, rfl, ?_⟩
        refine WL.val Wanted.none (Runs.move rfl) ?_
        obtain ⟨r_165, hr_161, H⟩ := H
        refine WL.call Wanted.none ent24 rfl (reliquaryref02_right.calls w_157 (gn m_148 4) 11 r_165 hr_161) ?_
        rintro _ w_162 ⟨rfl, sc_164⟩
        have st_163 : St w w_162 [.cells B_140 (iv .u32 m_148) 47, .cells B_133 (iv .u32 r_131) 58, .cells B_9 (iv .u32 m_62) 58, .cells B_5 (iv .u32 (List.replicate 8 (0 : Int))) 47, .cells B_1 (iv .u32 l0) 47] := st_158.call sc_164
        refine ⟨_, rfl, ?_⟩
        refine WL.val Wanted.none (Runs.bxor rfl rfl rfl) ?_
        refine WL.val Wanted.none (Runs.move rfl) ?_
        obtain ⟨r_170, hr_166, H⟩ := H
        refine WL.call Wanted.none ent24 rfl (reliquaryref02_right.calls w_162 (gn m_148 4) 25 r_170 hr_166) ?_
        rintro _ w_167 ⟨rfl, sc_169⟩
        have st_168 : St w w_167 [.cells B_140 (iv .u32 m_148) 47, .cells B_133 (iv .u32 r_131) 58, .cells B_9 (iv .u32 m_62) 58, .cells B_5 (iv .u32 (List.replicate 8 (0 : Int))) 47, .cells B_1 (iv .u32 l0) 47] := st_163.call sc_169
        refine ⟨_, rfl, ?_⟩
        refine WL.val Wanted.none (Runs.bxor rfl rfl rfl) ?_
        refine WL.val Wanted.none (Runs.assign rfl) ?_
        refine WL.nil ?_
        refine QW.then_n ?_
        refine CW.seq ?_
        refine CW.region ?_
        refine WL.val Wanted.none (Runs.move rfl) ?_
        refine WL.val Wanted.none (Runs.indexAddr_blk arr47 rfl rfl (by decide) (by decide) (o := 5) (by first | rfl | omega)) ?_
        refine WL.val Wanted.none (Runs.load nagg46 rfl (st_168.cell_iv (i := 0) rfl (by have := hl_149; omega))) ?_
        refine WL.val Wanted.none (Runs.band rfl rfl rfl) ?_
        refine WL.val Wanted.none (Runs.move rfl) ?_
        refine WL.val Wanted.none (Runs.compl rfl rfl) ?_
        refine WL.val Wanted.none (Runs.indexAddr_blk arr47 rfl rfl (by decide) (by decide) (o := 6) (by first | rfl | omega)) ?_
        refine WL.val Wanted.none (Runs.load nagg46 rfl (st_168.cell_iv (i := 0) rfl (by have := hl_149; omega))) ?_
        refine WL.val Wanted.none (Runs.band rfl rfl rfl) ?_
        obtain ⟨x_171, e_172, H⟩ := H
        refine WL.val Wanted.none (Runs.bxor rfl rfl e_172) ?_
        refine WL.val Wanted.none (Runs.assign rfl) ?_
        refine WL.nil ?_
        refine QW.then_n ?_
        refine CW.seq ?_
        refine CW.region_qa wide (by kernel_rfl) st_168 ?_
        refine HL.val Wanted.none (fun wq sq => (Runs.indexAddr_blk arr47 rfl rfl (by decide) (by decide) (o := 7) (by first | rfl | omega))) ?_
        refine HL.val Wanted.none (fun wq sq => (Runs.load nagg46 rfl (sq.cell_iv (i := 0) rfl (by have := hl_149; omega)))) ?_
        refine HL.val Wanted.none (fun wq sq => (Runs.move rfl)) ?_
        obtain ⟨x_173, e_174, H⟩ := H
        refine HL.val Wanted.none (fun wq sq => (Runs.add rfl rfl e_174)) ?_
        refine HL.val Wanted.none (fun wq sq => (Runs.move rfl)) ?_
        refine HL.val Wanted.none (fun wq sq => (Runs.add rfl rfl rfl)) ?_
        refine HL.val Wanted.none (fun wq sq => (Runs.move rfl)) ?_
        obtain ⟨⟨p_175, q_176⟩, H⟩ := H
        refine HL.val Wanted.none (fun wq sq => (Runs.indexAddr_blk arr58 rfl rfl p_175 q_176 (o := (x_150).toNat) (by first | rfl | omega))) ?_
        refine HL.val Wanted.none (fun wq sq => (Runs.load nagg46 rfl (sq.cell_iv (i := 1) rfl (by have := hl_132; omega)))) ?_
        obtain ⟨x_177, e_178, H⟩ := H
        refine HL.val Wanted.none (fun wq sq => (Runs.add rfl rfl e_178)) ?_
        refine HL.val Wanted.none (fun wq sq => (Runs.move rfl)) ?_
        obtain ⟨⟨p_179, q_180⟩, H⟩ := H
        refine HL.val Wanted.none (fun wq sq => (Runs.indexAddr_blk arr58 rfl rfl p_179 q_180 (o := (x_150).toNat) (by first | rfl | omega))) ?_
        refine HL.val Wanted.none (fun wq sq => (Runs.load nagg46 rfl (sq.cell_iv (i := 2) rfl (by have := hl_63; omega)))) ?_
        refine HL.val Wanted.none (fun wq sq => (Runs.add rfl rfl rfl)) ?_
        refine HL.val Wanted.none (fun wq sq => (Runs.assign rfl)) ?_
        refine HL.nil (fun w_181 st_182 => ?_)
        refine WL.nil ?_
        refine QW.then_n ?_
        refine CW.seq ?_
        refine CW.region ?_
        refine WL.val Wanted.none (Runs.move rfl) ?_
        obtain ⟨r_187, hr_183, H⟩ := H
        refine WL.call Wanted.none ent24 rfl (reliquaryref02_right.calls w_181 (gn m_148 0) 2 r_187 hr_183) ?_
        rintro _ w_184 ⟨rfl, sc_186⟩
        have st_185 : St w w_184 [.cells B_140 (iv .u32 m_148) 47, .cells B_133 (iv .u32 r_131) 58, .cells B_9 (iv .u32 m_62) 58, .cells B_5 (iv .u32 (List.replicate 8 (0 : Int))) 47, .cells B_1 (iv .u32 l0) 47] := st_182.call sc_186
        refine ⟨_, rfl, ?_⟩
        refine WL.val Wanted.none (Runs.move rfl) ?_
        obtain ⟨r_192, hr_188, H⟩ := H
        refine WL.call Wanted.none ent24 rfl (reliquaryref02_right.calls w_184 (gn m_148 0) 13 r_192 hr_188) ?_
        rintro _ w_189 ⟨rfl, sc_191⟩
        have st_190 : St w w_189 [.cells B_140 (iv .u32 m_148) 47, .cells B_133 (iv .u32 r_131) 58, .cells B_9 (iv .u32 m_62) 58, .cells B_5 (iv .u32 (List.replicate 8 (0 : Int))) 47, .cells B_1 (iv .u32 l0) 47] := st_185.call sc_191
        refine ⟨_, rfl, ?_⟩
        refine WL.val Wanted.none (Runs.bxor rfl rfl rfl) ?_
        refine WL.val Wanted.none (Runs.move rfl) ?_
        obtain ⟨r_197, hr_193, H⟩ := H
        refine WL.call Wanted.none ent24 rfl (reliquaryref02_right.calls w_189 (gn m_148 0) 22 r_197 hr_193) ?_
        rintro _ w_194 ⟨rfl, sc_196⟩
        have st_195 : St w w_194 [.cells B_140 (iv .u32 m_148) 47, .cells B_133 (iv .u32 r_131) 58, .cells B_9 (iv .u32 m_62) 58, .cells B_5 (iv .u32 (List.replicate 8 (0 : Int))) 47, .cells B_1 (iv .u32 l0) 47] := st_190.call sc_196
        refine ⟨_, rfl, ?_⟩
        refine WL.val Wanted.none (Runs.bxor rfl rfl rfl) ?_
        refine WL.val Wanted.none (Runs.assign rfl) ?_
        refine WL.nil ?_
        refine QW.then_n ?_
        refine CW.seq ?_
        refine CW.region ?_
        refine WL.val Wanted.none (Runs.move rfl) ?_
        refine WL.val Wanted.none (Runs.indexAddr_blk arr47 rfl rfl (by decide) (by decide) (o := 1) (by first | rfl | omega)) ?_
        refine WL.val Wanted.none (Runs.load nagg46 rfl (st_195.cell_iv (i := 0) rfl (by have := hl_149; omega))) ?_
        refine WL.val Wanted.none (Runs.band rfl rfl rfl) ?_
        refine WL.val Wanted.none (Runs.move rfl) ?_
        refine WL.val Wanted.none (Runs.indexAddr_blk arr47 rfl rfl (by decide) (by decide) (o := 2) (by first | rfl | omega)) ?_
        refine WL.val Wanted.none (Runs.load nagg46 rfl (st_195.cell_iv (i := 0) rfl (by have := hl_149; omega))) ?_
        refine WL.val Wanted.none (Runs.band rfl rfl rfl) ?_
        obtain ⟨x_198, e_199, H⟩ := H
        refine WL.val Wanted.none (Runs.bxor rfl rfl e_199) ?_
        refine WL.val Wanted.none (Runs.indexAddr_blk arr47 rfl rfl (by decide) (by decide) (o := 1) (by first | rfl | omega)) ?_
        refine WL.val Wanted.none (Runs.load nagg46 rfl (st_195.cell_iv (i := 0) rfl (by have := hl_149; omega))) ?_
        refine WL.val Wanted.none (Runs.indexAddr_blk arr47 rfl rfl (by decide) (by decide) (o := 2) (by first | rfl | omega)) ?_
        refine WL.val Wanted.none (Runs.load nagg46 rfl (st_195.cell_iv (i := 0) rfl (by have := hl_149; omega))) ?_
        refine WL.val Wanted.none (Runs.band rfl rfl rfl) ?_
        obtain ⟨x_200, e_201, H⟩ := H
        refine WL.val Wanted.none (Runs.bxor rfl rfl e_201) ?_
        refine WL.val Wanted.none (Runs.assign rfl) ?_
        refine WL.nil ?_
        refine QW.then_n ?_
        refine CW.seq ?_
        refine CW.seq ?_
        refine CW.region ?_
        refine WL.val Wanted.none (Runs.assign rfl) ?_
        refine WL.nil ?_
        refine QW.then_n ?_
        refine CW.block ?_
        obtain ⟨k_202, H⟩ := H
        refine CW.sub [(3, .pointer (some ⟨B_1, 0, none⟩)), (6, .pointer (some ⟨B_5, 0, none⟩)), (7, .pointer (some ⟨B_9, 0, none⟩)), (12, .pointer (some ⟨B_133, 0, none⟩)), (13, .pointer (some ⟨B_140, 0, none⟩)), (14, .int .i64 x_150), (126, .int .i64 x_150), (127, .bool (decide (x_150 < 64))), (130, .pointer (some ⟨B_140, 4, none⟩)), (131, .int .u32 (gn m_148 4)), (15, .int .u32 (gn m_148 4)), (132, .pointer (some ⟨B_140, 0, none⟩)), (133, .int .u32 (gn m_148 0)), (16, .int .u32 (gn m_148 0)), (134, .int .u32 (gn m_148 4)), (135, .int .u32 r_160), (136, .int .u32 (gn m_148 4)), (137, .int .u32 r_165), (138, .int .u32 (bits .xor .u32 r_160 r_165)), (139, .int .u32 (gn m_148 4)), (140, .int .u32 r_170), (141, .int .u32 (bits .xor .u32 (bits .xor .u32 r_160 r_165) r_170)), (17, .int .u32 (bits .xor .u32 (bits .xor .u32 r_160 r_165) r_170)), (142, .int .u32 (gn m_148 4)), (143, .pointer (some ⟨B_140, 5, none⟩)), (144, .int .u32 (gn m_148 5)), (145, .int .u32 (bits .and .u32 (gn m_148 4) (gn m_148 5))), (146, .int .u32 (gn m_148 4)), (147, .int .u32 (notI .u32 (gn m_148 4))), (148, .pointer (some ⟨B_140, 6, none⟩)), (149, .int .u32 (gn m_148 6)), (150, .int .u32 (bits .and .u32 (notI .u32 (gn m_148 4)) (gn m_148 6))), (151, .int .u32 x_171), (18, .int .u32 x_171), (152, .pointer (some ⟨B_140, 7, none⟩)), (153, .int .u32 (gn m_148 7)), (154, .int .u32 (bits .xor .u32 (bits .xor .u32 r_160 r_165) r_170)), (155, .int .u32 x_173), (156, .int .u32 x_171), (157, .int .u32 (IntKind.u32.wrap (x_173 + x_171))), (158, .int .i64 x_150), (159, .pointer (some ⟨B_133, (x_150).toNat, none⟩)), (160, .int .u32 (gn r_131 ((x_150).toNat))), (161, .int .u32 x_177), (162, .int .i64 x_150), (163, .pointer (some ⟨B_9, (x_150).toNat, none⟩)), (164, .int .u32 (gn m_62 ((x_150).toNat))), (165, .int .u32 (IntKind.u32.wrap (x_177 + (gn m_62 ((x_150).toNat))))), (19, .int .u32 (IntKind.u32.wrap (x_177 + (gn m_62 ((x_150).toNat))))), (166, .int .u32 (gn m_148 0)), (167, .int .u32 r_187), (168, .int .u32 (gn m_148 0)), (169, .int .u32 r_192), (170, .int .u32 (bits .xor .u32 r_187 r_192)), (171, .int .u32 (gn m_148 0)), (172, .int .u32 r_197), (173, .int .u32 (bits .xor .u32 (bits .xor .u32 r_187 r_192) r_197)), (20, .int .u32 (bits .xor .u32 (bits .xor .u32 r_187 r_192) r_197)), (174, .int .u32 (gn m_148 0)), (175, .pointer (some ⟨B_140, 1, none⟩)), (176, .int .u32 (gn m_148 1)), (177, .int .u32 (bits .and .u32 (gn m_148 0) (gn m_148 1))), (178, .int .u32 (gn m_148 0)), (179, .pointer (some ⟨B_140, 2, none⟩)), (180, .int .u32 (gn m_148 2)), (181, .int .u32 (bits .and .u32 (gn m_148 0) (gn m_148 2))), (182, .int .u32 x_198), (183, .pointer (some ⟨B_140, 1, none⟩)), (184, .int .u32 (gn m_148 1)), (185, .pointer (some ⟨B_140, 2, none⟩)), (186, .int .u32 (gn m_148 2)), (187, .int .u32 (bits .and .u32 (gn m_148 1) (gn m_148 2))), (188, .int .u32 x_200), (21, .int .u32 x_200), (22, .int .i64 7)] ⟨rfl, rfl, rfl, rfl, rfl, rfl, rfl, rfl, rfl, rfl, rfl, rfl, rfl, rfl, rfl, rfl, rfl, rfl, rfl, rfl, rfl, rfl, rfl, rfl, rfl, rfl, rfl, rfl, rfl, rfl, rfl, rfl, rfl, rfl, rfl, rfl, rfl, rfl, rfl, rfl, rfl, rfl, rfl, rfl, rfl, rfl, rfl, rfl, rfl, rfl, rfl, rfl, rfl, rfl, rfl, rfl, rfl, rfl, rfl, rfl, rfl, rfl, rfl, rfl, rfl, rfl, rfl, rfl, rfl, rfl, rfl, rfl, rfl, rfl, rfl, trivial⟩ ?_
        refine CW.loop (fun kL4 l_ w_ => ∃ (m_203 : List Int) (x_205 : Int), l_ = [(3, .pointer (some ⟨B_1, 0, none⟩)), (6, .pointer (some ⟨B_5, 0, none⟩)), (7, .pointer (some ⟨B_9, 0, none⟩)), (12, .pointer (some ⟨B_133, 0, none⟩)), (13, .pointer (some ⟨B_140, 0, none⟩)), (14, .int .i64 x_150), (126, .int .i64 x_150), (127, .bool (decide (x_150 < 64))), (130, .pointer (some ⟨B_140, 4, none⟩)), (131, .int .u32 (gn m_148 4)), (15, .int .u32 (gn m_148 4)), (132, .pointer (some ⟨B_140, 0, none⟩)), (133, .int .u32 (gn m_148 0)), (16, .int .u32 (gn m_148 0)), (134, .int .u32 (gn m_148 4)), (135, .int .u32 r_160), (136, .int .u32 (gn m_148 4)), (137, .int .u32 r_165), (138, .int .u32 (bits .xor .u32 r_160 r_165)), (139, .int .u32 (gn m_148 4)), (140, .int .u32 r_170), (141, .int .u32 (bits .xor .u32 (bits .xor .u32 r_160 r_165) r_170)), (17, .int .u32 (bits .xor .u32 (bits .xor .u32 r_160 r_165) r_170)), (142, .int .u32 (gn m_148 4)), (143, .pointer (some ⟨B_140, 5, none⟩)), (144, .int .u32 (gn m_148 5)), (145, .int .u32 (bits .and .u32 (gn m_148 4) (gn m_148 5))), (146, .int .u32 (gn m_148 4)), (147, .int .u32 (notI .u32 (gn m_148 4))), (148, .pointer (some ⟨B_140, 6, none⟩)), (149, .int .u32 (gn m_148 6)), (150, .int .u32 (bits .and .u32 (notI .u32 (gn m_148 4)) (gn m_148 6))), (151, .int .u32 x_171), (18, .int .u32 x_171), (152, .pointer (some ⟨B_140, 7, none⟩)), (153, .int .u32 (gn m_148 7)), (154, .int .u32 (bits .xor .u32 (bits .xor .u32 r_160 r_165) r_170)), (155, .int .u32 x_173), (156, .int .u32 x_171), (157, .int .u32 (IntKind.u32.wrap (x_173 + x_171))), (158, .int .i64 x_150), (159, .pointer (some ⟨B_133, (x_150).toNat, none⟩)), (160, .int .u32 (gn r_131 ((x_150).toNat))), (161, .int .u32 x_177), (162, .int .i64 x_150), (163, .pointer (some ⟨B_9, (x_150).toNat, none⟩)), (164, .int .u32 (gn m_62 ((x_150).toNat))), (165, .int .u32 (IntKind.u32.wrap (x_177 + (gn m_62 ((x_150).toNat))))), (19, .int .u32 (IntKind.u32.wrap (x_177 + (gn m_62 ((x_150).toNat))))), (166, .int .u32 (gn m_148 0)), (167, .int .u32 r_187), (168, .int .u32 (gn m_148 0)), (169, .int .u32 r_192), (170, .int .u32 (bits .xor .u32 r_187 r_192)), (171, .int .u32 (gn m_148 0)), (172, .int .u32 r_197), (173, .int .u32 (bits .xor .u32 (bits .xor .u32 r_187 r_192) r_197)), (20, .int .u32 (bits .xor .u32 (bits .xor .u32 r_187 r_192) r_197)), (174, .int .u32 (gn m_148 0)), (175, .pointer (some ⟨B_140, 1, none⟩)), (176, .int .u32 (gn m_148 1)), (177, .int .u32 (bits .and .u32 (gn m_148 0) (gn m_148 1))), (178, .int .u32 (gn m_148 0)), (179, .pointer (some ⟨B_140, 2, none⟩)), (180, .int .u32 (gn m_148 2)), (181, .int .u32 (bits .and .u32 (gn m_148 0) (gn m_148 2))), (182, .int .u32 x_198), (183, .pointer (some ⟨B_140, 1, none⟩)), (184, .int .u32 (gn m_148 1)), (185, .pointer (some ⟨B_140, 2, none⟩)), (186, .int .u32 (gn m_148 2)), (187, .int .u32 (bits .and .u32 (gn m_148 1) (gn m_148 2))), (188, .int .u32 x_200), (21, .int .u32 x_200), (22, .int .i64 x_205)] ∧ reliquaryref02_block.L4 m_62 x_150 x_177 r_187 r_192 r_197 x_200 (reliquaryref02_block.L3 l0 r0 m_62 r_131 kL3) kL4 m_203 x_205 ∧ (m_203.length = 8) ∧ St w w_ [.cells B_140 (iv .u32 m_203) 47, .cells B_133 (iv .u32 r_131) 58, .cells B_9 (iv .u32 m_62) 58, .cells B_5 (iv .u32 (List.replicate 8 (0 : Int))) 47, .cells B_1 (iv .u32 l0) 47]) (k := k_202) ⟨m_148, 7, rfl, H, hl_149, st_195⟩ (fun _ _ h => by obtain ⟨_, _, _, h, _⟩ := h; exact h.elim) ?_
        rintro kL4 l_208 w_206 ⟨m_203, x_205, rfl, H, hl_204, st_207⟩
        refine CW.seq ?_
        refine CW.seq ?_
        refine CW.region ?_
        refine WL.val Wanted.none (Runs.move rfl) ?_
        refine WL.val Wanted.none (Runs.gtr rfl rfl rfl) ?_
        refine WL.nil ?_
        refine QW.then_n ?_
        rcases H with ⟨c_209, H⟩ | ⟨c_209, H⟩
        · have h_210 : (decide (x_205 > 0)) = true := (decide_eq_true c_209)
          refine CW.ct rfl h_210 ?_
          refine CW.skip ?_
          refine QW.then_n ?_
          refine CW.seq ?_
          refine CW.block ?_
          refine CW.region ?_
          refine WL.val Wanted.none (Runs.move rfl) ?_
          refine WL.val Wanted.none (Runs.move rfl) ?_
          refine WL.val Wanted.none (Runs.sub rfl rfl rfl) ?_
          obtain ⟨⟨p_211, q_212⟩, H⟩ := H
          refine WL.val Wanted.none (Runs.indexAddr_blk arr47 rfl rfl p_211 q_212 (o := (IntKind.i64.wrap (x_205 - 1)).toNat) (by first | rfl | omega)) ?_
          refine WL.val Wanted.none (Runs.load nagg46 rfl (st_207.cell_iv (i := 0) rfl (by have := hl_204; omega))) ?_
          obtain ⟨⟨p_213, q_214⟩, H⟩ := H
          refine WL.val Wanted.none (Runs.indexAddr_blk arr47 rfl rfl p_213 q_214 (o := (x_205).toNat) (by first | rfl | omega)) ?_
          obtain ⟨m_215, e_216, H⟩ := H
          have hl_219 : m_215.length = 8 := by rw [e_216, List.length_set]; exact hl_204
          refine WL.store_cells (i := 0) st_207 rfl cells46 rfl (by rw [iv_length]; have := hl_204; omega) rfl rfl ?_
          intro w_217 st_218
          have st_218' : St w w_217 [.cells B_140 (iv .u32 m_215) 47, .cells B_133 (iv .u32 r_131) 58, .cells B_9 (iv .u32 m_62) 58, .cells B_5 (iv .u32 (List.replicate 8 (0 : Int))) 47, .cells B_1 (iv .u32 l0) 47] := by rw [e_216, ← iv_set .u32 m_203 ((x_205).toNat) (gn m_203 ((IntKind.i64.wrap (x_205 - 1)).toNat))]; exact st_218
          refine WL.nil ?_
          refine QW.blk_n ?_
          refine QW.then_n ?_
          refine CW.region ?_
          refine WL.val Wanted.none (Runs.move rfl) ?_
          refine WL.val Wanted.none (Runs.sub rfl rfl rfl) ?_
          refine WL.val Wanted.none (Runs.assign rfl) ?_
          refine WL.nil ?_
          exact QW.at [(3, .pointer (some ⟨B_1, 0, none⟩)), (6, .pointer (some ⟨B_5, 0, none⟩)), (7, .pointer (some ⟨B_9, 0, none⟩)), (12, .pointer (some ⟨B_133, 0, none⟩)), (13, .pointer (some ⟨B_140, 0, none⟩)), (14, .int .i64 x_150), (126, .int .i64 x_150), (127, .bool (decide (x_150 < 64))), (130, .pointer (some ⟨B_140, 4, none⟩)), (131, .int .u32 (gn m_148 4)), (15, .int .u32 (gn m_148 4)), (132, .pointer (some ⟨B_140, 0, none⟩)), (133, .int .u32 (gn m_148 0)), (16, .int .u32 (gn m_148 0)), (134, .int .u32 (gn m_148 4)), (135, .int .u32 r_160), (136, .int .u32 (gn m_148 4)), (137, .int .u32 r_165), (138, .int .u32 (bits .xor .u32 r_160 r_165)), (139, .int .u32 (gn m_148 4)), (140, .int .u32 r_170), (141, .int .u32 (bits .xor .u32 (bits .xor .u32 r_160 r_165) r_170)), (17, .int .u32 (bits .xor .u32 (bits .xor .u32 r_160 r_165) r_170)), (142, .int .u32 (gn m_148 4)), (143, .pointer (some ⟨B_140, 5, none⟩)), (144, .int .u32 (gn m_148 5)), (145, .int .u32 (bits .and .u32 (gn m_148 4) (gn m_148 5))), (146, .int .u32 (gn m_148 4)), (147, .int .u32 (notI .u32 (gn m_148 4))), (148, .pointer (some ⟨B_140, 6, none⟩)), (149, .int .u32 (gn m_148 6)), (150, .int .u32 (bits .and .u32 (notI .u32 (gn m_148 4)) (gn m_148 6))), (151, .int .u32 x_171), (18, .int .u32 x_171), (152, .pointer (some ⟨B_140, 7, none⟩)), (153, .int .u32 (gn m_148 7)), (154, .int .u32 (bits .xor .u32 (bits .xor .u32 r_160 r_165) r_170)), (155, .int .u32 x_173), (156, .int .u32 x_171), (157, .int .u32 (IntKind.u32.wrap (x_173 + x_171))), (158, .int .i64 x_150), (159, .pointer (some ⟨B_133, (x_150).toNat, none⟩)), (160, .int .u32 (gn r_131 ((x_150).toNat))), (161, .int .u32 x_177), (162, .int .i64 x_150), (163, .pointer (some ⟨B_9, (x_150).toNat, none⟩)), (164, .int .u32 (gn m_62 ((x_150).toNat))), (165, .int .u32 (IntKind.u32.wrap (x_177 + (gn m_62 ((x_150).toNat))))), (19, .int .u32 (IntKind.u32.wrap (x_177 + (gn m_62 ((x_150).toNat))))), (166, .int .u32 (gn m_148 0)), (167, .int .u32 r_187), (168, .int .u32 (gn m_148 0)), (169, .int .u32 r_192), (170, .int .u32 (bits .xor .u32 r_187 r_192)), (171, .int .u32 (gn m_148 0)), (172, .int .u32 r_197), (173, .int .u32 (bits .xor .u32 (bits .xor .u32 r_187 r_192) r_197)), (20, .int .u32 (bits .xor .u32 (bits .xor .u32 r_187 r_192) r_197)), (174, .int .u32 (gn m_148 0)), (175, .pointer (some ⟨B_140, 1, none⟩)), (176, .int .u32 (gn m_148 1)), (177, .int .u32 (bits .and .u32 (gn m_148 0) (gn m_148 1))), (178, .int .u32 (gn m_148 0)), (179, .pointer (some ⟨B_140, 2, none⟩)), (180, .int .u32 (gn m_148 2)), (181, .int .u32 (bits .and .u32 (gn m_148 0) (gn m_148 2))), (182, .int .u32 x_198), (183, .pointer (some ⟨B_140, 1, none⟩)), (184, .int .u32 (gn m_148 1)), (185, .pointer (some ⟨B_140, 2, none⟩)), (186, .int .u32 (gn m_148 2)), (187, .int .u32 (bits .and .u32 (gn m_148 1) (gn m_148 2))), (188, .int .u32 x_200), (21, .int .u32 x_200), (22, .int .i64 (IntKind.i64.wrap (x_205 - 1)))] ⟨rfl, rfl, rfl, rfl, rfl, rfl, rfl, rfl, rfl, rfl, rfl, rfl, rfl, rfl, rfl, rfl, rfl, rfl, rfl, rfl, rfl, rfl, rfl, rfl, rfl, rfl, rfl, rfl, rfl, rfl, rfl, rfl, rfl, rfl, rfl, rfl, rfl, rfl, rfl, rfl, rfl, rfl, rfl, rfl, rfl, rfl, rfl, rfl, rfl, rfl, rfl, rfl, rfl, rfl, rfl, rfl, rfl, rfl, rfl, rfl, rfl, rfl, rfl, rfl, rfl, rfl, rfl, rfl, rfl, rfl, rfl, rfl, rfl, rfl, rfl, trivial⟩ ⟨m_215, IntKind.i64.wrap (x_205 - 1), rfl, H, hl_219, st_218'⟩
        · have h_210 : (decide (x_205 > 0)) = false := (decide_eq_false c_209)
          refine CW.cf rfl h_210 ?_
          refine CW.exit ?_
          refine QW.then_x ?_
          refine QW.then_x ?_
          refine QW.blk_x ?_
          refine QW.then_n ?_
          refine CW.seq ?_
          refine CW.region ?_
          refine WL.val Wanted.none (Runs.indexAddr_blk arr47 rfl rfl (by decide) (by decide) (o := 4) (by first | rfl | omega)) ?_
          refine WL.val Wanted.none (Runs.load nagg46 rfl (st_207.cell_iv (i := 0) rfl (by have := hl_204; omega))) ?_
          refine WL.val Wanted.none (Runs.move rfl) ?_
          obtain ⟨x_220, e_221, H⟩ := H
          refine WL.val Wanted.none (Runs.add rfl rfl e_221) ?_
          refine WL.val Wanted.none (Runs.indexAddr_blk arr47 rfl rfl (by decide) (by decide) (o := 4) (by first | rfl | omega)) ?_
          obtain ⟨m_222, e_223, H⟩ := H
          have hl_226 : m_222.length = 8 := by rw [e_223, List.length_set]; exact hl_204
          refine WL.store_cells (i := 0) st_207 rfl cells46 rfl (by rw [iv_length]; have := hl_204; omega) rfl rfl ?_
          intro w_224 st_225
          have st_225' : St w w_224 [.cells B_140 (iv .u32 m_222) 47, .cells B_133 (iv .u32 r_131) 58, .cells B_9 (iv .u32 m_62) 58, .cells B_5 (iv .u32 (List.replicate 8 (0 : Int))) 47, .cells B_1 (iv .u32 l0) 47] := by rw [e_223, ← iv_set .u32 m_203 4 x_220]; exact st_225
          refine WL.nil ?_
          refine QW.then_n ?_
          refine CW.region ?_
          refine WL.val Wanted.none (Runs.move rfl) ?_
          refine WL.val Wanted.none (Runs.move rfl) ?_
          obtain ⟨x_227, e_228, H⟩ := H
          refine WL.val Wanted.none (Runs.add rfl rfl e_228) ?_
          refine WL.val Wanted.none (Runs.move rfl) ?_
          refine WL.val Wanted.none (Runs.add rfl rfl rfl) ?_
          refine WL.val Wanted.none (Runs.indexAddr_blk arr47 rfl rfl (by decide) (by decide) (o := 0) (by first | rfl | omega)) ?_
          obtain ⟨m_229, e_230, H⟩ := H
          have hl_233 : m_229.length = 8 := by rw [e_230, List.length_set]; exact hl_226
          refine WL.store_cells (i := 0) st_225' rfl cells46 rfl (by rw [iv_length]; have := hl_226; omega) rfl rfl ?_
          intro w_231 st_232
          have st_232' : St w w_231 [.cells B_140 (iv .u32 m_229) 47, .cells B_133 (iv .u32 r_131) 58, .cells B_9 (iv .u32 m_62) 58, .cells B_5 (iv .u32 (List.replicate 8 (0 : Int))) 47, .cells B_1 (iv .u32 l0) 47] := by rw [e_230, ← iv_set .u32 m_222 0 (IntKind.u32.wrap (x_227 + x_200))]; exact st_232
          refine WL.nil ?_
          refine QW.blk_n ?_
          refine QW.then_n ?_
          refine CW.region ?_
          refine WL.val Wanted.none (Runs.move rfl) ?_
          refine WL.val Wanted.none (Runs.add rfl rfl rfl) ?_
          refine WL.val Wanted.none (Runs.assign rfl) ?_
          refine WL.nil ?_
          exact QW.at [(3, .pointer (some ⟨B_1, 0, none⟩)), (6, .pointer (some ⟨B_5, 0, none⟩)), (7, .pointer (some ⟨B_9, 0, none⟩)), (12, .pointer (some ⟨B_133, 0, none⟩)), (13, .pointer (some ⟨B_140, 0, none⟩)), (14, .int .i64 (IntKind.i64.wrap (x_150 + 1)))] ⟨rfl, rfl, rfl, rfl, rfl, rfl, trivial⟩ ⟨m_229, IntKind.i64.wrap (x_150 + 1), rfl, H, hl_233, st_232'⟩
      · have h_155 : (decide (x_150 < 64)) = false := (decide_eq_false c_154)
        refine CW.cf rfl h_155 ?_
        refine CW.exit ?_
        refine QW.then_x ?_
        refine QW.then_x ?_
        refine QW.blk_x ?_
        refine QW.then_n ?_
        refine CW.seq ?_
        refine CW.seq ?_
        refine CW.region ?_
        refine WL.val Wanted.none (Runs.assign rfl) ?_
        refine WL.nil ?_
        refine QW.then_n ?_
        refine CW.block ?_
        obtain ⟨k_234, H⟩ := H
        refine CW.sub [(3, .pointer (some ⟨B_1, 0, none⟩)), (6, .pointer (some ⟨B_5, 0, none⟩)), (13, .pointer (some ⟨B_140, 0, none⟩)), (23, .int .i64 0)] ⟨rfl, rfl, rfl, rfl, trivial⟩ ?_
        refine CW.loop (fun kL5 l_ w_ => ∃ (m_235 : List Int) (x_237 : Int), l_ = [(3, .pointer (some ⟨B_1, 0, none⟩)), (6, .pointer (some ⟨B_5, 0, none⟩)), (13, .pointer (some ⟨B_140, 0, none⟩)), (23, .int .i64 x_237)] ∧ reliquaryref02_block.L5 l0 r0 kL5 m_235 x_237 ∧ (m_235.length = 8) ∧ St w w_ [.cells B_140 (iv .u32 m_235) 47, .cells B_133 (iv .u32 r_131) 58, .cells B_9 (iv .u32 m_62) 58, .cells B_5 (iv .u32 (List.replicate 8 (0 : Int))) 47, .cells B_1 (iv .u32 l0) 47]) (k := k_234) ⟨m_148, 0, rfl, H, hl_149, st_152⟩ (fun _ _ h => by obtain ⟨_, _, _, h, _⟩ := h; exact h.elim) ?_
        rintro kL5 l_240 w_238 ⟨m_235, x_237, rfl, H, hl_236, st_239⟩
        refine CW.seq ?_
        refine CW.seq ?_
        refine CW.region ?_
        refine WL.val Wanted.none (Runs.move rfl) ?_
        refine WL.val Wanted.none (Runs.lss rfl rfl rfl) ?_
        refine WL.nil ?_
        refine QW.then_n ?_
        rcases H with ⟨c_241, H⟩ | ⟨c_241, H⟩
        · have h_242 : (decide (x_237 < 8)) = true := (decide_eq_true c_241)
          refine CW.ct rfl h_242 ?_
          refine CW.skip ?_
          refine QW.then_n ?_
          refine CW.seq ?_
          refine CW.block ?_
          refine CW.region_qt 8 wide (by kernel_rfl) st_239 ?_
          refine HL.val Wanted.none (fun wq sq => (Runs.move rfl)) ?_
          obtain ⟨⟨p_243, q_244⟩, H⟩ := H
          refine HL.val Wanted.none (fun wq sq => (Runs.indexAddr_blk arr47 rfl rfl p_243 q_244 (o := (x_237).toNat) (by first | rfl | omega))) ?_
          refine HL.val Wanted.none (fun wq sq => (Runs.load nagg46 rfl (sq.cell_iv (i := 0) rfl (by have := hl_236; omega)))) ?_
          refine HL.val Wanted.none (fun wq sq => (Runs.move rfl)) ?_
          obtain ⟨⟨p_245, q_246⟩, H⟩ := H
          refine HL.val Wanted.none (fun wq sq => (Runs.indexAddr_blk arr47 rfl rfl p_245 q_246 (o := (x_237).toNat) (by first | rfl | omega))) ?_
          refine HL.val Wanted.none (fun wq sq => (Runs.load nagg46 rfl (sq.cell_iv (i := 4) rfl (by have := hl0; omega)))) ?_
          obtain ⟨x_247, e_248, H⟩ := H
          refine HL.val Wanted.none (fun wq sq => (Runs.add rfl rfl e_248)) ?_
          obtain ⟨⟨p_249, q_250⟩, H⟩ := H
          refine HL.val Wanted.none (fun wq sq => (Runs.indexAddr_blk arr47 rfl rfl p_249 q_250 (o := (x_237).toNat) (by first | rfl | omega))) ?_
          refine HL.nil (fun w_251 st_252 => ?_)
          obtain ⟨m_253, e_254, H⟩ := H
          have hl_257 : m_253.length = 8 := by rw [e_254, List.length_set]; exact hl_236
          refine WL.store_cells (i := 0) st_252 rfl cells46 rfl (by rw [iv_length]; have := hl_236; omega) rfl rfl ?_
          intro w_255 st_256
          have st_256' : St w w_255 [.cells B_140 (iv .u32 m_253) 47, .cells B_133 (iv .u32 r_131) 58, .cells B_9 (iv .u32 m_62) 58, .cells B_5 (iv .u32 (List.replicate 8 (0 : Int))) 47, .cells B_1 (iv .u32 l0) 47] := by rw [e_254, ← iv_set .u32 m_235 ((x_237).toNat) x_247]; exact st_256
          refine WL.nil ?_
          refine QW.blk_n ?_
          refine QW.then_n ?_
          refine CW.region ?_
          refine WL.val Wanted.none (Runs.move rfl) ?_
          refine WL.val Wanted.none (Runs.add rfl rfl rfl) ?_
          refine WL.val Wanted.none (Runs.assign rfl) ?_
          refine WL.nil ?_
          exact QW.at [(3, .pointer (some ⟨B_1, 0, none⟩)), (6, .pointer (some ⟨B_5, 0, none⟩)), (13, .pointer (some ⟨B_140, 0, none⟩)), (23, .int .i64 (IntKind.i64.wrap (x_237 + 1)))] ⟨rfl, rfl, rfl, rfl, trivial⟩ ⟨m_253, IntKind.i64.wrap (x_237 + 1), rfl, H, hl_257, st_256'⟩
        · have h_242 : (decide (x_237 < 8)) = false := (decide_eq_false c_241)
          refine CW.cf rfl h_242 ?_
          refine CW.exit ?_
          refine QW.then_x ?_
          refine QW.then_x ?_
          refine QW.blk_x ?_
          refine QW.then_n ?_
          refine CW.seq ?_
          refine CW.region ?_
          refine WL.val Wanted.none (Runs.load_arr arr47 rfl (st_239.blk (i := 0) rfl) hl_236) ?_
          refine WL.store_arr (i := 3) st_239 rfl arr47 rfl (by rw [iv_length]; exact (List.length_replicate ..)) hl_236 rfl ?_
          intro w_258 st_259
          replace st_259 : St w w_258 [.cells B_140 (iv .u32 m_235) 47, .cells B_133 (iv .u32 r_131) 58, .cells B_9 (iv .u32 m_62) 58, .cells B_5 (iv .u32 m_235) 47, .cells B_1 (iv .u32 l0) 47] := st_259
          refine WL.nil ?_
          refine QW.then_n ?_
          refine CW.sub [(6, .pointer (some ⟨B_5, 0, none⟩))] ⟨rfl, trivial⟩ ?_
          refine CW.ret ?_
          obtain rfl := H
          exact QW.retc rfl arr47 rfl (st_259.blk (i := 3) rfl) hl_236 ⟨hl_236, rfl, st_259.pick [] (by decide)⟩

/-! ### reliquaryref02_Of: function 13 -/
def reliquaryref02_Of.L4 (r0 : List Int) (m_93 : List Int) : Nat → (List Int) → Int → Prop
  | 0, _, _ => False
  | kL4 + 1, m_115, x_117 => ((x_117 < 32 ∧ ((0 ≤ (IntKind.i64.wrap (Int.tdiv x_117 4)) ∧ (IntKind.i64.wrap (Int.tdiv x_117 4)) < (8 : Int)) ∧ (∃ x_125 : Int, x_125 = IntKind.i64.wrap (24 - (IntKind.i64.wrap (8 * (Int.tmod x_117 4)))) ∧ (0 ≤ (IntKind.u64.wrap x_125) ∧ (∃ x_128 : Int, x_128 = shrI .u32 (gn m_93 ((IntKind.i64.wrap (Int.tdiv x_117 4)).toNat)) (IntKind.u64.wrap x_125) ∧ ((0 ≤ x_117 ∧ x_117 < (32 : Int)) ∧ (∃ m_132 : List Int, m_132 = List.set m_115 ((x_117).toNat) (IntKind.u8.wrap x_128) ∧ reliquaryref02_Of.L4 r0 m_93 kL4 m_132 (IntKind.i64.wrap (x_117 + 1))))))))) ∨ (¬ (x_117 < 32) ∧ r0 = m_115))
def reliquaryref02_Of.L3 (r0 : List Int) (l_56 : List Int) : Nat → (List Int) → Int → Prop
  | 0, _, _ => False
  | kL3 + 1, m_93, x_95 => ((x_95 < (l_56.length : Int) ∧ (∃ (r_105 : List Int), reliquaryref02_block.rel m_93 l_56 x_95 r_105 ∧ reliquaryref02_Of.L3 r0 l_56 kL3 r_105 (IntKind.i64.wrap (x_95 + 64)))) ∨ (¬ (x_95 < (l_56.length : Int)) ∧ (∃ k_ : Nat, reliquaryref02_Of.L4 r0 m_93 k_ (List.replicate 32 (0 : Int)) 0)))
def reliquaryref02_Of.L2 (l0 : List Int) (r0 : List Int) : Nat → (List Int) → Int → Prop
  | 0, _, _ => False
  | kL2 + 1, l_56, x_59 => ((x_59 < 8 ∧ (∃ x_65 : Int, x_65 = IntKind.u64.wrap (IntKind.i64.wrap (56 - (IntKind.i64.wrap (8 * x_59)))) ∧ (0 ≤ x_65 ∧ (∃ x_68 : Int, x_68 = shrI .u64 (IntKind.u64.wrap ((IntKind.u64.wrap (l0.length : Int)) * 8)) x_65 ∧ (∃ m_74 : List Int, m_74 = l_56 ++ [IntKind.u8.wrap x_68] ∧ (m_74.length ≤ 1099511627776 ∧ reliquaryref02_Of.L2 l0 r0 kL2 m_74 (IntKind.i64.wrap (x_59 + 1)))))))) ∨ (¬ (x_59 < 8) ∧ (∃ m_83 : List Int, m_83 = [1779033703, 3144134277, 1013904242, 2773480762, 1359893119, 2600822924, 528734635, 1541459225] ∧ (∃ k_ : Nat, reliquaryref02_Of.L3 r0 l_56 k_ m_83 0))))
def reliquaryref02_Of.L1 (l0 : List Int) (r0 : List Int) : Nat → (List Int) → Prop
  | 0, _ => False
  | kL1 + 1, l_32 => (((Int.tmod (l_32.length : Int) 64) ≠ 56 ∧ (∃ m_44 : List Int, m_44 = l_32 ++ [0] ∧ (m_44.length ≤ 1099511627776 ∧ reliquaryref02_Of.L1 l0 r0 kL1 m_44))) ∨ (¬ ((Int.tmod (l_32.length : Int) 64) ≠ 56) ∧ (∃ k_ : Nat, reliquaryref02_Of.L2 l0 r0 k_ l_32 0)))
def reliquaryref02_Of.rel (l0 : List Int) (r0 : List Int) : Prop := (∃ m_7 : List Int, m_7 = ([] : List Int) ++ l0 ∧ (m_7.length ≤ 1099511627776 ∧ (∃ m_20 : List Int, m_20 = m_7 ++ [128] ∧ (m_20.length ≤ 1099511627776 ∧ (∃ k_ : Nat, reliquaryref02_Of.L1 l0 r0 k_ m_20)))))
set_option maxHeartbeats 4000000 in
set_option maxRecDepth 100000 in
theorem reliquaryref02_Of.calls (w : World) (l0 : List Int) (A0 : Option Addr) (n0 : Nat) (c0 : Nat)  (hs0 : Src w A0 (iv .u8 l0)) (hn0 : n0 = l0.length) (hc0 : n0 ≤ c0) (r0 : List Int) (H : reliquaryref02_Of.rel l0 r0) :
    Calls Tryd.prog 13 #[.slice A0 n0 c0] w fun e w' => r0.length = 32 ∧ e = .returned (.agg (iv .u8 r0).toArray) ∧ St w w' [] := by
  refine CW.enter Tryd.func13 rfl (n := 70) rfl [.slice A0 n0 c0] (Nat.le_of_ble_eq_true rfl) ?_
  refine CW.sub [(0, .slice A0 n0 c0)] ⟨rfl, trivial⟩ ?_
  have st0 : St w w [] := St.refl w
  refine CW.seq ?_
  refine CW.region ?_
  refine WL.alloc st0 arr25.zero ?_
  intro B_1 w_2 st_3
  replace st_3 : St w w_2 [.cells B_1 (iv .u8 (List.replicate 32 (0 : Int))) 25] := st_3
  refine WL.nil ?_
  refine QW.then_n ?_
  refine CW.seq ?_
  refine CW.region ?_
  refine WL.val Wanted.none (Runs.assign rfl) ?_
  refine WL.nil ?_
  refine QW.then_n ?_
  refine CW.seq ?_
  refine CW.region ?_
  refine WL.val Wanted.none (Runs.move rfl) ?_
  refine WL.val Wanted.none (Runs.move rfl) ?_
  have st_6 := st_3.nil_sl 5 1
  have st_6 : St w w_2 [.sl none 0 0 (iv .u8 ([] : List Int)) 5 1, .cells B_1 (iv .u8 (List.replicate 32 (0 : Int))) 25] := st_6
  obtain ⟨m_7, e_8, H⟩ := H
  obtain ⟨z_9, H⟩ := H
  obtain ⟨n_12, hn_15⟩ : ∃ n_ : Nat, n_ = m_7.length := ⟨_, rfl⟩
  refine WL.append (i := 0) Wanted.none st_6 rfl Tryd.underlying22 elem5 rfl rfl (hs0.ext st_6) (by rw [iv_length]; exact (hn0).symm) (one_iv .u8 _) (by decide) (N := n_12) (by rw [hn_15, e_8, List.length_append]; exact congr (congrArg HAdd.hAdd (rfl)) (hn0)) (by rw [hn_15]; exact z_9) ?_
  intro A_10 c_11 w_13 st_14
  have st_14' : St w w_13 [.sl A_10 c_11 n_12 (iv .u8 m_7) 5 1, .cells B_1 (iv .u8 (List.replicate 32 (0 : Int))) 25] := by rw [e_8, ← iv_append .u8 ([] : List Int) l0]; exact st_14
  refine WL.val Wanted.none (Runs.assign rfl) ?_
  refine WL.nil ?_
  refine QW.then_n ?_
  refine CW.seq ?_
  refine CW.region ?_
  refine WL.val Wanted.none (Runs.move rfl) ?_
  refine WL.buildSl [.int .u8 128] st_14' Tryd.underlying22 elem5 rfl rfl (by decide) (by decide) (by simp [Value.cells]) ?_
  intro B_16 w_17 st_18
  replace st_18 : St w w_17 [.sl (some ⟨B_16, 0, none⟩) 1 1 (iv .u8 [128]) 5 1, .sl A_10 c_11 n_12 (iv .u8 m_7) 5 1, .cells B_1 (iv .u8 (List.replicate 32 (0 : Int))) 25] := st_18
  obtain ⟨m_20, e_21, H⟩ := H
  obtain ⟨z_22, H⟩ := H
  obtain ⟨n_25, hn_28⟩ : ∃ n_ : Nat, n_ = m_20.length := ⟨_, rfl⟩
  refine WL.append (i := 1) Wanted.none st_18 rfl Tryd.underlying22 elem5 rfl rfl (st_18.src_sl (k := 0) rfl) (by rw [iv_length]; exact (Eq.refl _).symm) (one_iv .u8 _) (by decide) (N := n_25) (by rw [hn_28, e_21, List.length_append]; exact congr (congrArg HAdd.hAdd (hn_15)) (rfl)) (by rw [hn_28]; exact z_22) ?_
  intro A_23 c_24 w_26 st_27
  have st_27' : St w w_26 [.sl (some ⟨B_16, 0, none⟩) 1 1 (iv .u8 [128]) 5 1, .sl A_23 c_24 n_25 (iv .u8 m_20) 5 1, .cells B_1 (iv .u8 (List.replicate 32 (0 : Int))) 25] := by rw [e_21, ← iv_append .u8 m_7 [128]]; exact st_27
  refine WL.val Wanted.none (Runs.assign rfl) ?_
  refine WL.nil ?_
  refine QW.then_n ?_
  refine CW.sub [(0, .slice A0 n0 c0), (2, .pointer (some ⟨B_1, 0, none⟩)), (3, .slice A_23 n_25 c_24)] ⟨rfl, rfl, rfl, trivial⟩ ?_
  refine CW.seq ?_
  refine CW.block ?_
  obtain ⟨k_29, H⟩ := H
  refine CW.sub [(0, .slice A0 n0 c0), (2, .pointer (some ⟨B_1, 0, none⟩)), (3, .slice A_23 n_25 c_24)] ⟨rfl, rfl, rfl, trivial⟩ ?_
  refine CW.loop (fun kL1 l_ w_ => ∃ (A_30 : Option Addr) (c_31 : Nat) (n_33 : Nat) (l_32 : List Int), l_ = [(0, .slice A0 n0 c0), (2, .pointer (some ⟨B_1, 0, none⟩)), (3, .slice A_30 n_33 c_31)] ∧ reliquaryref02_Of.L1 l0 r0 kL1 l_32 ∧ (n_33 = l_32.length) ∧ St w w_ [.sl (some ⟨B_16, 0, none⟩) 1 1 (iv .u8 [128]) 5 1, .sl A_30 c_31 n_33 (iv .u8 l_32) 5 1, .cells B_1 (iv .u8 (List.replicate 32 (0 : Int))) 25]) (k := k_29) ⟨A_23, c_24, n_25, m_20, rfl, H, hn_28, st_27'⟩ (fun _ _ h => by obtain ⟨_, _, _, _, _, h, _⟩ := h; exact h.elim) ?_
  rintro kL1 l_37 w_35 ⟨A_30, c_31, n_33, l_32, rfl, H, hn_34, st_36⟩
  refine CW.seq ?_
  refine CW.seq ?_
  refine CW.region ?_
  refine WL.val Wanted.none (Runs.move rfl) ?_
  refine WL.val Wanted.none (Runs.len_sl Tryd.underlying22 rfl (by rw [hn_34])) ?_
  refine WL.val Wanted.none (Runs.rem rfl rfl (by decide) rfl) ?_
  refine WL.val Wanted.none (Runs.neq rfl rfl rfl) ?_
  refine WL.nil ?_
  refine QW.then_n ?_
  rcases H with ⟨c_38, H⟩ | ⟨c_38, H⟩
  · have h_39 : ((Int.tmod (l_32.length : Int) 64) != 56) = true := (bne_iff_ne.mpr c_38)
    refine CW.ct rfl h_39 ?_
    refine CW.skip ?_
    refine QW.then_n ?_
    refine CW.block ?_
    refine CW.region ?_
    refine WL.val Wanted.none (Runs.move rfl) ?_
    refine WL.buildSl [.int .u8 0] st_36 Tryd.underlying22 elem5 rfl rfl (by decide) (by decide) (by simp [Value.cells]) ?_
    intro B_40 w_41 st_42
    replace st_42 : St w w_41 [.sl (some ⟨B_40, 0, none⟩) 1 1 (iv .u8 [0]) 5 1, .sl (some ⟨B_16, 0, none⟩) 1 1 (iv .u8 [128]) 5 1, .sl A_30 c_31 n_33 (iv .u8 l_32) 5 1, .cells B_1 (iv .u8 (List.replicate 32 (0 : Int))) 25] := st_42
    obtain ⟨m_44, e_45, H⟩ := H
    obtain ⟨z_46, H⟩ := H
    obtain ⟨n_49, hn_52⟩ : ∃ n_ : Nat, n_ = m_44.length := ⟨_, rfl⟩
    refine WL.append (i := 2) Wanted.none st_42 rfl Tryd.underlying22 elem5 rfl rfl (st_42.src_sl (k := 0) rfl) (by rw [iv_length]; exact (Eq.refl _).symm) (one_iv .u8 _) (by decide) (N := n_49) (by rw [hn_52, e_45, List.length_append]; exact congr (congrArg HAdd.hAdd (hn_34)) (rfl)) (by rw [hn_52]; exact z_46) ?_
    intro A_47 c_48 w_50 st_51
    have st_51' : St w w_50 [.sl (some ⟨B_40, 0, none⟩) 1 1 (iv .u8 [0]) 5 1, .sl (some ⟨B_16, 0, none⟩) 1 1 (iv .u8 [128]) 5 1, .sl A_47 c_48 n_49 (iv .u8 m_44) 5 1, .cells B_1 (iv .u8 (List.replicate 32 (0 : Int))) 25] := by rw [e_45, ← iv_append .u8 l_32 [0]]; exact st_51
    refine WL.val Wanted.none (Runs.assign rfl) ?_
    refine WL.nil ?_
    refine QW.blk_n ?_
    have st_51'' := st_51'.pick [1, 2, 3] (by decide)
    exact QW.at [(0, .slice A0 n0 c0), (2, .pointer (some ⟨B_1, 0, none⟩)), (3, .slice A_47 n_49 c_48)] ⟨rfl, rfl, rfl, trivial⟩ ⟨A_47, c_48, n_49, m_44, rfl, H, hn_52, st_51''⟩
  · have h_39 : ((Int.tmod (l_32.length : Int) 64) != 56) = false := (bne_eq_false_iff_eq.mpr (Decidable.not_not.mp c_38))
    refine CW.cf rfl h_39 ?_
    refine CW.exit ?_
    refine QW.then_x ?_
    refine QW.then_x ?_
    refine QW.blk_x ?_
    refine QW.then_n ?_
    refine CW.seq ?_
    refine CW.region ?_
    refine WL.val Wanted.none (Runs.move rfl) ?_
    refine WL.val Wanted.none (Runs.len_sl Tryd.underlying22 rfl (by rw [hn0])) ?_
    refine WL.val Wanted.none (Runs.conv Tryd.underlying44 ⟨_, Tryd.underlying3⟩ rfl rfl) ?_
    refine WL.val Wanted.none (Runs.mul rfl rfl rfl) ?_
    refine WL.val Wanted.none (Runs.assign rfl) ?_
    refine WL.nil ?_
    refine QW.then_n ?_
    refine CW.sub [(2, .pointer (some ⟨B_1, 0, none⟩)), (3, .slice A_30 n_33 c_31), (4, .int .u64 (IntKind.u64.wrap ((IntKind.u64.wrap (l0.length : Int)) * 8)))] ⟨rfl, rfl, rfl, trivial⟩ ?_
    refine CW.seq ?_
    refine CW.seq ?_
    refine CW.region ?_
    refine WL.val Wanted.none (Runs.assign rfl) ?_
    refine WL.nil ?_
    refine QW.then_n ?_
    refine CW.block ?_
    obtain ⟨k_53, H⟩ := H
    refine CW.sub [(2, .pointer (some ⟨B_1, 0, none⟩)), (3, .slice A_30 n_33 c_31), (4, .int .u64 (IntKind.u64.wrap ((IntKind.u64.wrap (l0.length : Int)) * 8))), (5, .int .i64 0)] ⟨rfl, rfl, rfl, rfl, trivial⟩ ?_
    refine CW.loop (fun kL2 l_ w_ => ∃ (A_54 : Option Addr) (c_55 : Nat) (n_57 : Nat) (l_56 : List Int) (x_59 : Int), l_ = [(2, .pointer (some ⟨B_1, 0, none⟩)), (3, .slice A_54 n_57 c_55), (4, .int .u64 (IntKind.u64.wrap ((IntKind.u64.wrap (l0.length : Int)) * 8))), (5, .int .i64 x_59)] ∧ reliquaryref02_Of.L2 l0 r0 kL2 l_56 x_59 ∧ (n_57 = l_56.length) ∧ St w w_ [.sl (some ⟨B_16, 0, none⟩) 1 1 (iv .u8 [128]) 5 1, .sl A_54 c_55 n_57 (iv .u8 l_56) 5 1, .cells B_1 (iv .u8 (List.replicate 32 (0 : Int))) 25]) (k := k_53) ⟨A_30, c_31, n_33, l_32, 0, rfl, H, hn_34, st_36⟩ (fun _ _ h => by obtain ⟨_, _, _, _, _, _, h, _⟩ := h; exact h.elim) ?_
    rintro kL2 l_62 w_60 ⟨A_54, c_55, n_57, l_56, x_59, rfl, H, hn_58, st_61⟩
    refine CW.seq ?_
    refine CW.seq ?_
    refine CW.region ?_
    refine WL.val Wanted.none (Runs.move rfl) ?_
    refine WL.val Wanted.none (Runs.lss rfl rfl rfl) ?_
    refine WL.nil ?_
    refine QW.then_n ?_
    rcases H with ⟨c_63, H⟩ | ⟨c_63, H⟩
    · have h_64 : (decide (x_59 < 8)) = true := (decide_eq_true c_63)
      refine CW.ct rfl h_64 ?_
      refine CW.skip ?_
      refine QW.then_n ?_
      refine CW.seq ?_
      refine CW.block ?_
      refine CW.region ?_
      refine WL.val Wanted.none (Runs.move rfl) ?_
      refine WL.val Wanted.none (Runs.move rfl) ?_
      refine WL.val Wanted.none (Runs.move rfl) ?_
      refine WL.val Wanted.none (Runs.mul rfl rfl rfl) ?_
      refine WL.val Wanted.none (Runs.sub rfl rfl rfl) ?_
      obtain ⟨x_65, e_66, H⟩ := H
      refine WL.val Wanted.none (Runs.conv Tryd.underlying45 ⟨_, Tryd.underlying3⟩ rfl e_66) ?_
      obtain ⟨z_67, H⟩ := H
      obtain ⟨x_68, e_69, H⟩ := H
      refine WL.val Wanted.none (Runs.shr rfl rfl z_67 e_69) ?_
      refine WL.val Wanted.none (Runs.conv Tryd.underlying5 ⟨_, Tryd.underlying44⟩ rfl rfl) ?_
      refine WL.buildSl [.int .u8 (IntKind.u8.wrap x_68)] st_61 Tryd.underlying22 elem5 rfl rfl (by decide) (by decide) (by simp [Value.cells]) ?_
      intro B_70 w_71 st_72
      replace st_72 : St w w_71 [.sl (some ⟨B_70, 0, none⟩) 1 1 (iv .u8 [IntKind.u8.wrap x_68]) 5 1, .sl (some ⟨B_16, 0, none⟩) 1 1 (iv .u8 [128]) 5 1, .sl A_54 c_55 n_57 (iv .u8 l_56) 5 1, .cells B_1 (iv .u8 (List.replicate 32 (0 : Int))) 25] := st_72
      obtain ⟨m_74, e_75, H⟩ := H
      obtain ⟨z_76, H⟩ := H
      obtain ⟨n_79, hn_82⟩ : ∃ n_ : Nat, n_ = m_74.length := ⟨_, rfl⟩
      refine WL.append (i := 2) Wanted.none st_72 rfl Tryd.underlying22 elem5 rfl rfl (st_72.src_sl (k := 0) rfl) (by rw [iv_length]; exact (Eq.refl _).symm) (one_iv .u8 _) (by decide) (N := n_79) (by rw [hn_82, e_75, List.length_append]; exact congr (congrArg HAdd.hAdd (hn_58)) (rfl)) (by rw [hn_82]; exact z_76) ?_
      intro A_77 c_78 w_80 st_81
      have st_81' : St w w_80 [.sl (some ⟨B_70, 0, none⟩) 1 1 (iv .u8 [IntKind.u8.wrap x_68]) 5 1, .sl (some ⟨B_16, 0, none⟩) 1 1 (iv .u8 [128]) 5 1, .sl A_77 c_78 n_79 (iv .u8 m_74) 5 1, .cells B_1 (iv .u8 (List.replicate 32 (0 : Int))) 25] := by rw [e_75, ← iv_append .u8 l_56 [IntKind.u8.wrap x_68]]; exact st_81
      refine WL.val Wanted.none (Runs.assign rfl) ?_
      refine WL.nil ?_
      refine QW.blk_n ?_
      refine QW.then_n ?_
      refine CW.region ?_
      refine WL.val Wanted.none (Runs.move rfl) ?_
      refine WL.val Wanted.none (Runs.add rfl rfl rfl) ?_
      refine WL.val Wanted.none (Runs.assign rfl) ?_
      refine WL.nil ?_
      have st_81'' := st_81'.pick [1, 2, 3] (by decide)
      exact QW.at [(2, .pointer (some ⟨B_1, 0, none⟩)), (3, .slice A_77 n_79 c_78), (4, .int .u64 (IntKind.u64.wrap ((IntKind.u64.wrap (l0.length : Int)) * 8))), (5, .int .i64 (IntKind.i64.wrap (x_59 + 1)))] ⟨rfl, rfl, rfl, rfl, trivial⟩ ⟨A_77, c_78, n_79, m_74, IntKind.i64.wrap (x_59 + 1), rfl, H, hn_82, st_81''⟩
    · have h_64 : (decide (x_59 < 8)) = false := (decide_eq_false c_63)
      refine CW.cf rfl h_64 ?_
      refine CW.exit ?_
      refine QW.then_x ?_
      refine QW.then_x ?_
      refine QW.blk_x ?_
      refine QW.then_n ?_
      refine CW.seq ?_
      refine CW.region ?_
      obtain ⟨m_83, e_84, H⟩ := H
      refine WL.val Wanted.none (Runs.build_arr (xs := m_83) arr47 rfl rfl (by rw [e_84]; rfl)) ?_
      refine WL.alloc st_61 arr47.zero ?_
      intro B_85 w_86 st_87
      replace st_87 : St w w_86 [.cells B_85 (iv .u32 (List.replicate 8 (0 : Int))) 47, .sl (some ⟨B_16, 0, none⟩) 1 1 (iv .u8 [128]) 5 1, .sl A_54 c_55 n_57 (iv .u8 l_56) 5 1, .cells B_1 (iv .u8 (List.replicate 32 (0 : Int))) 25] := st_87
      refine WL.store_arr (i := 0) st_87 rfl arr47 rfl (by rw [iv_length]; exact (List.length_replicate ..)) (by rw [e_84]; rfl) rfl ?_
      intro w_89 st_90
      replace st_90 : St w w_89 [.cells B_85 (iv .u32 m_83) 47, .sl (some ⟨B_16, 0, none⟩) 1 1 (iv .u8 [128]) 5 1, .sl A_54 c_55 n_57 (iv .u8 l_56) 5 1, .cells B_1 (iv .u8 (List.replicate 32 (0 : Int))) 25] := st_90
      refine WL.nil ?_
      refine QW.then_n ?_
      refine CW.seq ?_
      refine CW.seq ?_
      refine CW.region ?_
      refine WL.val Wanted.none (Runs.assign rfl) ?_
      refine WL.nil ?_
      refine QW.then_n ?_
      refine CW.block ?_
      obtain ⟨k_92, H⟩ := H
      refine CW.sub [(2, .pointer (some ⟨B_1, 0, none⟩)), (3, .slice A_54 n_57 c_55), (6, .pointer (some ⟨B_85, 0, none⟩)), (7, .int .i64 0)] ⟨rfl, rfl, rfl, rfl, trivial⟩ ?_
      refine CW.loop (fun kL3 l_ w_ => ∃ (m_93 : List Int) (x_95 : Int), l_ = [(2, .pointer (some ⟨B_1, 0, none⟩)), (3, .slice A_54 n_57 c_55), (6, .pointer (some ⟨B_85, 0, none⟩)), (7, .int .i64 x_95)] ∧ reliquaryref02_Of.L3 r0 l_56 kL3 m_93 x_95 ∧ (m_93.length = 8) ∧ St w w_ [.cells B_85 (iv .u32 m_93) 47, .sl (some ⟨B_16, 0, none⟩) 1 1 (iv .u8 [128]) 5 1, .sl A_54 c_55 n_57 (iv .u8 l_56) 5 1, .cells B_1 (iv .u8 (List.replicate 32 (0 : Int))) 25]) (k := k_92) ⟨m_83, 0, rfl, H, (by rw [e_84]; rfl), st_90⟩ (fun _ _ h => by obtain ⟨_, _, _, h, _⟩ := h; exact h.elim) ?_
      rintro kL3 l_98 w_96 ⟨m_93, x_95, rfl, H, hl_94, st_97⟩
      refine CW.seq ?_
      refine CW.seq ?_
      refine CW.region ?_
      refine WL.val Wanted.none (Runs.move rfl) ?_
      refine WL.val Wanted.none (Runs.move rfl) ?_
      refine WL.val Wanted.none (Runs.len_sl Tryd.underlying22 rfl (by rw [hn_58])) ?_
      refine WL.val Wanted.none (Runs.lss rfl rfl rfl) ?_
      refine WL.nil ?_
      refine QW.then_n ?_
      rcases H with ⟨c_99, H⟩ | ⟨c_99, H⟩
      · have h_100 : (decide (x_95 < (l_56.length : Int))) = true := (decide_eq_true c_99)
        refine CW.ct rfl h_100 ?_
        refine CW.skip ?_
        refine QW.then_n ?_
        refine CW.seq ?_
        refine CW.block ?_
        refine CW.region ?_
        refine WL.val Wanted.none (Runs.load_arr arr47 rfl (st_97.blk (i := 0) rfl) hl_94) ?_
        refine WL.val Wanted.none (Runs.move rfl) ?_
        refine WL.val Wanted.none (Runs.move rfl) ?_
        obtain ⟨r_105, hr_101, H⟩ := H
        refine WL.call Wanted.none ent18 rfl (reliquaryref02_block.calls w_96 m_93 l_56 x_95 A_54 n_57 c_55 hl_94 (st_97.src_sl (k := 2) rfl) (hn_58) (st_97.cap (i := 2) rfl) r_105 hr_101) ?_
        rintro _ w_102 ⟨hl_106, rfl, sc_104⟩
        have st_103 : St w w_102 [.cells B_85 (iv .u32 m_93) 47, .sl (some ⟨B_16, 0, none⟩) 1 1 (iv .u8 [128]) 5 1, .sl A_54 c_55 n_57 (iv .u8 l_56) 5 1, .cells B_1 (iv .u8 (List.replicate 32 (0 : Int))) 25] := st_97.call sc_104
        refine ⟨_, rfl, ?_⟩
        refine WL.store_arr (i := 0) st_103 rfl arr47 rfl (by rw [iv_length]; exact hl_94) hl_106 rfl ?_
        intro w_107 st_108
        replace st_108 : St w w_107 [.cells B_85 (iv .u32 r_105) 47, .sl (some ⟨B_16, 0, none⟩) 1 1 (iv .u8 [128]) 5 1, .sl A_54 c_55 n_57 (iv .u8 l_56) 5 1, .cells B_1 (iv .u8 (List.replicate 32 (0 : Int))) 25] := st_108
        refine WL.nil ?_
        refine QW.blk_n ?_
        refine QW.then_n ?_
        refine CW.region ?_
        refine WL.val Wanted.none (Runs.move rfl) ?_
        refine WL.val Wanted.none (Runs.add rfl rfl rfl) ?_
        refine WL.val Wanted.none (Runs.assign rfl) ?_
        refine WL.nil ?_
        exact QW.at [(2, .pointer (some ⟨B_1, 0, none⟩)), (3, .slice A_54 n_57 c_55), (6, .pointer (some ⟨B_85, 0, none⟩)), (7, .int .i64 (IntKind.i64.wrap (x_95 + 64)))] ⟨rfl, rfl, rfl, rfl, trivial⟩ ⟨r_105, IntKind.i64.wrap (x_95 + 64), rfl, H, hl_106, st_108⟩
      · have h_100 : (decide (x_95 < (l_56.length : Int))) = false := (decide_eq_false c_99)
        refine CW.cf rfl h_100 ?_
        refine CW.exit ?_
        refine QW.then_x ?_
        refine QW.then_x ?_
        refine QW.blk_x ?_
        refine QW.then_n ?_
        refine CW.sub [(2, .pointer (some ⟨B_1, 0, none⟩)), (6, .pointer (some ⟨B_85, 0, none⟩))] ⟨rfl, rfl, trivial⟩ ?_
        refine CW.seq ?_
        refine CW.region ?_
        refine WL.alloc st_97 arr25.zero ?_
        intro B_110 w_111 st_112
        replace st_112 : St w w_111 [.cells B_110 (iv .u8 (List.replicate 32 (0 : Int))) 25, .cells B_85 (iv .u32 m_93) 47, .sl (some ⟨B_16, 0, none⟩) 1 1 (iv .u8 [128]) 5 1, .sl A_54 c_55 n_57 (iv .u8 l_56) 5 1, .cells B_1 (iv .u8 (List.replicate 32 (0 : Int))) 25] := st_112
        refine WL.nil ?_
        refine QW.then_n ?_
        refine CW.seq ?_
        refine CW.seq ?_
        refine CW.region ?_
        refine WL.val Wanted.none (Runs.assign rfl) ?_
        refine WL.nil ?_
        refine QW.then_n ?_
        refine CW.block ?_
        obtain ⟨k_114, H⟩ := H
        refine CW.sub [(2, .pointer (some ⟨B_1, 0, none⟩)), (6, .pointer (some ⟨B_85, 0, none⟩)), (8, .pointer (some ⟨B_110, 0, none⟩)), (9, .int .i64 0)] ⟨rfl, rfl, rfl, rfl, trivial⟩ ?_
        refine CW.loop (fun kL4 l_ w_ => ∃ (m_115 : List Int) (x_117 : Int), l_ = [(2, .pointer (some ⟨B_1, 0, none⟩)), (6, .pointer (some ⟨B_85, 0, none⟩)), (8, .pointer (some ⟨B_110, 0, none⟩)), (9, .int .i64 x_117)] ∧ reliquaryref02_Of.L4 r0 m_93 kL4 m_115 x_117 ∧ (m_115.length = 32) ∧ St w w_ [.cells B_110 (iv .u8 m_115) 25, .cells B_85 (iv .u32 m_93) 47, .sl (some ⟨B_16, 0, none⟩) 1 1 (iv .u8 [128]) 5 1, .sl A_54 c_55 n_57 (iv .u8 l_56) 5 1, .cells B_1 (iv .u8 (List.replicate 32 (0 : Int))) 25]) (k := k_114) ⟨List.replicate 32 (0 : Int), 0, rfl, H, (List.length_replicate ..), st_112⟩ (fun _ _ h => by obtain ⟨_, _, _, h, _⟩ := h; exact h.elim) ?_
        rintro kL4 l_120 w_118 ⟨m_115, x_117, rfl, H, hl_116, st_119⟩
        refine CW.seq ?_
        refine CW.seq ?_
        refine CW.region ?_
        refine WL.val Wanted.none (Runs.move rfl) ?_
        refine WL.val Wanted.none (Runs.lss rfl rfl rfl) ?_
        refine WL.nil ?_
        refine QW.then_n ?_
        rcases H with ⟨c_121, H⟩ | ⟨c_121, H⟩
        · have h_122 : (decide (x_117 < 32)) = true := (decide_eq_true c_121)
          refine CW.ct rfl h_122 ?_
          refine CW.skip ?_
          refine QW.then_n ?_
          refine CW.seq ?_
          refine CW.block ?_
          refine CW.region ?_
          refine WL.val Wanted.none (Runs.move rfl) ?_
          refine WL.val Wanted.none (Runs.move rfl) ?_
          refine WL.val Wanted.none (Runs.quo rfl rfl (by decide) rfl) ?_
          obtain ⟨⟨p_123, q_124⟩, H⟩ := H
          refine WL.val Wanted.none (Runs.indexAddr_blk arr47 rfl rfl p_123 q_124 (o := (IntKind.i64.wrap (Int.tdiv x_117 4)).toNat) (by first | rfl | omega)) ?_
          refine WL.val Wanted.none (Runs.load nagg46 rfl (st_119.cell_iv (i := 1) rfl (by have := hl_94; omega))) ?_
          refine WL.val Wanted.none (Runs.move rfl) ?_
          refine WL.val Wanted.none (Runs.rem rfl rfl (by decide) rfl) ?_
          refine WL.val Wanted.none (Runs.mul rfl rfl rfl) ?_
          obtain ⟨x_125, e_126, H⟩ := H
          refine WL.val Wanted.none (Runs.sub rfl rfl e_126) ?_
          refine WL.val Wanted.none (Runs.conv Tryd.underlying45 ⟨_, Tryd.underlying3⟩ rfl rfl) ?_
          obtain ⟨z_127, H⟩ := H
          obtain ⟨x_128, e_129, H⟩ := H
          refine WL.val Wanted.none (Runs.shr rfl rfl z_127 e_129) ?_
          refine WL.val Wanted.none (Runs.conv Tryd.underlying5 ⟨_, Tryd.underlying46⟩ rfl rfl) ?_
          obtain ⟨⟨p_130, q_131⟩, H⟩ := H
          refine WL.val Wanted.none (Runs.indexAddr_blk arr25 rfl rfl p_130 q_131 (o := (x_117).toNat) (by first | rfl | omega)) ?_
          obtain ⟨m_132, e_133, H⟩ := H
          have hl_136 : m_132.length = 32 := by rw [e_133, List.length_set]; exact hl_116
          refine WL.store_cells (i := 0) st_119 rfl cells5 rfl (by rw [iv_length]; have := hl_116; omega) rfl rfl ?_
          intro w_134 st_135
          have st_135' : St w w_134 [.cells B_110 (iv .u8 m_132) 25, .cells B_85 (iv .u32 m_93) 47, .sl (some ⟨B_16, 0, none⟩) 1 1 (iv .u8 [128]) 5 1, .sl A_54 c_55 n_57 (iv .u8 l_56) 5 1, .cells B_1 (iv .u8 (List.replicate 32 (0 : Int))) 25] := by rw [e_133, ← iv_set .u8 m_115 ((x_117).toNat) (IntKind.u8.wrap x_128)]; exact st_135
          refine WL.nil ?_
          refine QW.blk_n ?_
          refine QW.then_n ?_
          refine CW.region ?_
          refine WL.val Wanted.none (Runs.move rfl) ?_
          refine WL.val Wanted.none (Runs.add rfl rfl rfl) ?_
          refine WL.val Wanted.none (Runs.assign rfl) ?_
          refine WL.nil ?_
          exact QW.at [(2, .pointer (some ⟨B_1, 0, none⟩)), (6, .pointer (some ⟨B_85, 0, none⟩)), (8, .pointer (some ⟨B_110, 0, none⟩)), (9, .int .i64 (IntKind.i64.wrap (x_117 + 1)))] ⟨rfl, rfl, rfl, rfl, trivial⟩ ⟨m_132, IntKind.i64.wrap (x_117 + 1), rfl, H, hl_136, st_135'⟩
        · have h_122 : (decide (x_117 < 32)) = false := (decide_eq_false c_121)
          refine CW.cf rfl h_122 ?_
          refine CW.exit ?_
          refine QW.then_x ?_
          refine QW.then_x ?_
          refine QW.blk_x ?_
          refine QW.then_n ?_
          refine CW.seq ?_
          refine CW.region ?_
          refine WL.val Wanted.none (Runs.load_arr arr25 rfl (st_119.blk (i := 0) rfl) hl_116) ?_
          refine WL.store_arr (i := 4) st_119 rfl arr25 rfl (by rw [iv_length]; exact (List.length_replicate ..)) hl_116 rfl ?_
          intro w_137 st_138
          replace st_138 : St w w_137 [.cells B_110 (iv .u8 m_115) 25, .cells B_85 (iv .u32 m_93) 47, .sl (some ⟨B_16, 0, none⟩) 1 1 (iv .u8 [128]) 5 1, .sl A_54 c_55 n_57 (iv .u8 l_56) 5 1, .cells B_1 (iv .u8 m_115) 25] := st_138
          refine WL.nil ?_
          refine QW.then_n ?_
          refine CW.sub [(2, .pointer (some ⟨B_1, 0, none⟩))] ⟨rfl, trivial⟩ ?_
          refine CW.ret ?_
          obtain rfl := H
          exact QW.retc rfl arr25 rfl (st_138.blk (i := 4) rfl) hl_116 ⟨hl_116, rfl, st_138.pick [] (by decide)⟩

/-! ### reliquaryref03_over: function 17 -/
def reliquaryref03_over.L1 (l0 : List Int) (a1 : Int) (r0 : List Int) : Nat → (List Int) → Int → Prop
  | 0, _, _ => False
  | kL1 + 1, l_6, x_9 => ((x_9 < 64 ∧ ((x_9 < (l0.length : Int) ∧ ((0 ≤ x_9 ∧ x_9 < (l0.length : Int)) ∧ (∃ m_25 : List Int, m_25 = l_6 ++ [bits .xor .u8 (gn l0 ((x_9).toNat)) a1] ∧ (m_25.length ≤ 1099511627776 ∧ reliquaryref03_over.L1 l0 a1 r0 kL1 m_25 (IntKind.i64.wrap (x_9 + 1)))))) ∨ (¬ (x_9 < (l0.length : Int)) ∧ (∃ m_38 : List Int, m_38 = l_6 ++ [bits .xor .u8 0 a1] ∧ (m_38.length ≤ 1099511627776 ∧ reliquaryref03_over.L1 l0 a1 r0 kL1 m_38 (IntKind.i64.wrap (x_9 + 1))))))) ∨ (¬ (x_9 < 64) ∧ r0 = l_6))
def reliquaryref03_over.rel (l0 : List Int) (a1 : Int) (r0 : List Int) : Prop := (∃ k_ : Nat, reliquaryref03_over.L1 l0 a1 r0 k_ ([] : List Int) 0)
set_option maxHeartbeats 4000000 in
set_option maxRecDepth 100000 in
theorem reliquaryref03_over.calls (w : World) (l0 : List Int) (a1 : Int) (A0 : Option Addr) (n0 : Nat) (c0 : Nat)  (hs0 : Src w A0 (iv .u8 l0)) (hn0 : n0 = l0.length) (hc0 : n0 ≤ c0) (r0 : List Int) (H : reliquaryref03_over.rel l0 a1 r0) :
    Calls Tryd.prog 17 #[.slice A0 n0 c0, .int .u8 a1] w fun e w' => ∃ B0 q0 z0, z0 = r0.length ∧ e = .returned (.slice B0 z0 q0) ∧ St w w' [.sl B0 q0 z0 (iv .u8 r0) 5 1] := by
  refine CW.enter Tryd.func17 rfl (n := 27) rfl [.slice A0 n0 c0, .int .u8 a1] (Nat.le_of_ble_eq_true rfl) ?_
  refine CW.sub [(0, .slice A0 n0 c0), (1, .int .u8 a1)] ⟨rfl, rfl, trivial⟩ ?_
  have st0 : St w w [] := St.refl w
  refine CW.seq ?_
  refine CW.region ?_
  refine WL.val Wanted.none (Runs.assign rfl) ?_
  refine WL.nil ?_
  refine QW.then_n ?_
  refine CW.seq ?_
  refine CW.region ?_
  refine WL.val Wanted.none (Runs.assign rfl) ?_
  refine WL.nil ?_
  refine QW.then_n ?_
  refine CW.seq ?_
  refine CW.seq ?_
  refine CW.region ?_
  refine WL.val Wanted.none (Runs.assign rfl) ?_
  refine WL.nil ?_
  refine QW.then_n ?_
  refine CW.block ?_
  have st_2 := st0.nil_sl 5 1
  have st_2 : St w w [.sl none 0 0 (iv .u8 ([] : List Int)) 5 1] := st_2
  obtain ⟨k_3, H⟩ := H
  refine CW.sub [(0, .slice A0 n0 c0), (1, .int .u8 a1), (4, .slice none 0 0), (5, .slice none 0 0), (6, .int .i64 0)] ⟨rfl, rfl, rfl, rfl, rfl, trivial⟩ ?_
  refine CW.loop (fun kL1 l_ w_ => ∃ (A_4 : Option Addr) (c_5 : Nat) (n_7 : Nat) (l_6 : List Int) (x_9 : Int), l_ = [(0, .slice A0 n0 c0), (1, .int .u8 a1), (4, .slice none 0 0), (5, .slice A_4 n_7 c_5), (6, .int .i64 x_9)] ∧ reliquaryref03_over.L1 l0 a1 r0 kL1 l_6 x_9 ∧ (n_7 = l_6.length) ∧ St w w_ [.sl A_4 c_5 n_7 (iv .u8 l_6) 5 1]) (k := k_3) ⟨none, 0, 0, ([] : List Int), 0, rfl, H, rfl, st_2⟩ (fun _ _ h => by obtain ⟨_, _, _, _, _, _, h, _⟩ := h; exact h.elim) ?_
  rintro kL1 l_12 w_10 ⟨A_4, c_5, n_7, l_6, x_9, rfl, H, hn_8, st_11⟩
  refine CW.seq ?_
  refine CW.seq ?_
  refine CW.region ?_
  refine WL.val Wanted.none (Runs.move rfl) ?_
  refine WL.val Wanted.none (Runs.lss rfl rfl rfl) ?_
  refine WL.nil ?_
  refine QW.then_n ?_
  rcases H with ⟨c_13, H⟩ | ⟨c_13, H⟩
  · have h_14 : (decide (x_9 < 64)) = true := (decide_eq_true c_13)
    refine CW.ct rfl h_14 ?_
    refine CW.skip ?_
    refine QW.then_n ?_
    refine CW.seq ?_
    refine CW.block ?_
    refine CW.seq ?_
    refine CW.region ?_
    refine WL.val Wanted.none (Runs.assign rfl) ?_
    refine WL.nil ?_
    refine QW.then_n ?_
    refine CW.seq ?_
    refine CW.seq ?_
    refine CW.region ?_
    refine WL.val Wanted.none (Runs.move rfl) ?_
    refine WL.val Wanted.none (Runs.move rfl) ?_
    refine WL.val Wanted.none (Runs.len_sl Tryd.underlying22 rfl (by rw [hn0])) ?_
    refine WL.val Wanted.none (Runs.lss rfl rfl rfl) ?_
    refine WL.nil ?_
    refine QW.then_n ?_
    rcases H with ⟨c_15, H⟩ | ⟨c_15, H⟩
    · have h_16 : (decide (x_9 < (l0.length : Int))) = true := (decide_eq_true c_15)
      refine CW.ct rfl h_16 ?_
      refine CW.region ?_
      refine WL.val Wanted.none (Runs.move rfl) ?_
      refine WL.val Wanted.none (Runs.move rfl) ?_
      obtain ⟨⟨p_17, q_18⟩, H⟩ := H
      obtain ⟨a_19, e_20⟩ := (hs0.ext st_11).addr_iv ((x_9).toNat) (by omega)
      refine WL.val Wanted.none (Runs.indexAddr Tryd.underlying22 cells5 (by decide) rfl e_20 rfl p_17 (by rw [hn0]; exact q_18) (o := (x_9).toNat) (by first | rfl | omega)) ?_
      refine WL.val Wanted.none (Runs.load nagg5 rfl ((hs0.ext st_11).cell_iv e_20 (by omega))) ?_
      refine WL.val Wanted.none (Runs.assign rfl) ?_
      refine WL.nil ?_
      refine QW.then_n ?_
      refine CW.region ?_
      refine WL.val Wanted.none (Runs.move rfl) ?_
      refine WL.val Wanted.none (Runs.move rfl) ?_
      refine WL.val Wanted.none (Runs.move rfl) ?_
      refine WL.val Wanted.none (Runs.bxor rfl rfl rfl) ?_
      refine WL.buildSl [.int .u8 (bits .xor .u8 (gn l0 ((x_9).toNat)) a1)] st_11 Tryd.underlying22 elem5 rfl rfl (by decide) (by decide) (by simp [Value.cells]) ?_
      intro B_21 w_22 st_23
      replace st_23 : St w w_22 [.sl (some ⟨B_21, 0, none⟩) 1 1 (iv .u8 [bits .xor .u8 (gn l0 ((x_9).toNat)) a1]) 5 1, .sl A_4 c_5 n_7 (iv .u8 l_6) 5 1] := st_23
      obtain ⟨m_25, e_26, H⟩ := H
      obtain ⟨z_27, H⟩ := H
      obtain ⟨n_30, hn_33⟩ : ∃ n_ : Nat, n_ = m_25.length := ⟨_, rfl⟩
      refine WL.append (i := 1) Wanted.none st_23 rfl Tryd.underlying22 elem5 rfl rfl (st_23.src_sl (k := 0) rfl) (by rw [iv_length]; exact (Eq.refl _).symm) (one_iv .u8 _) (by decide) (N := n_30) (by rw [hn_33, e_26, List.length_append]; exact congr (congrArg HAdd.hAdd (hn_8)) (rfl)) (by rw [hn_33]; exact z_27) ?_
      intro A_28 c_29 w_31 st_32
      have st_32' : St w w_31 [.sl (some ⟨B_21, 0, none⟩) 1 1 (iv .u8 [bits .xor .u8 (gn l0 ((x_9).toNat)) a1]) 5 1, .sl A_28 c_29 n_30 (iv .u8 m_25) 5 1] := by rw [e_26, ← iv_append .u8 l_6 [bits .xor .u8 (gn l0 ((x_9).toNat)) a1]]; exact st_32
      refine WL.val Wanted.none (Runs.assign rfl) ?_
      refine WL.nil ?_
      refine QW.blk_n ?_
      refine QW.then_n ?_
      refine CW.region ?_
      refine WL.val Wanted.none (Runs.move rfl) ?_
      refine WL.val Wanted.none (Runs.add rfl rfl rfl) ?_
      refine WL.val Wanted.none (Runs.assign rfl) ?_
      refine WL.nil ?_
      have st_32'' := st_32'.pick [1] (by decide)
      exact QW.at [(0, .slice A0 n0 c0), (1, .int .u8 a1), (4, .slice none 0 0), (5, .slice A_28 n_30 c_29), (6, .int .i64 (IntKind.i64.wrap (x_9 + 1)))] ⟨rfl, rfl, rfl, rfl, rfl, trivial⟩ ⟨A_28, c_29, n_30, m_25, IntKind.i64.wrap (x_9 + 1), rfl, H, hn_33, st_32''⟩
    · have h_16 : (decide (x_9 < (l0.length : Int))) = false := (decide_eq_false c_15)
      refine CW.cf rfl h_16 ?_
      refine CW.skip ?_
      refine QW.then_n ?_
      refine CW.region ?_
      refine WL.val Wanted.none (Runs.move rfl) ?_
      refine WL.val Wanted.none (Runs.move rfl) ?_
      refine WL.val Wanted.none (Runs.move rfl) ?_
      refine WL.val Wanted.none (Runs.bxor rfl rfl rfl) ?_
      refine WL.buildSl [.int .u8 (bits .xor .u8 0 a1)] st_11 Tryd.underlying22 elem5 rfl rfl (by decide) (by decide) (by simp [Value.cells]) ?_
      intro B_34 w_35 st_36
      replace st_36 : St w w_35 [.sl (some ⟨B_34, 0, none⟩) 1 1 (iv .u8 [bits .xor .u8 0 a1]) 5 1, .sl A_4 c_5 n_7 (iv .u8 l_6) 5 1] := st_36
      obtain ⟨m_38, e_39, H⟩ := H
      obtain ⟨z_40, H⟩ := H
      obtain ⟨n_43, hn_46⟩ : ∃ n_ : Nat, n_ = m_38.length := ⟨_, rfl⟩
      refine WL.append (i := 1) Wanted.none st_36 rfl Tryd.underlying22 elem5 rfl rfl (st_36.src_sl (k := 0) rfl) (by rw [iv_length]; exact (Eq.refl _).symm) (one_iv .u8 _) (by decide) (N := n_43) (by rw [hn_46, e_39, List.length_append]; exact congr (congrArg HAdd.hAdd (hn_8)) (rfl)) (by rw [hn_46]; exact z_40) ?_
      intro A_41 c_42 w_44 st_45
      have st_45' : St w w_44 [.sl (some ⟨B_34, 0, none⟩) 1 1 (iv .u8 [bits .xor .u8 0 a1]) 5 1, .sl A_41 c_42 n_43 (iv .u8 m_38) 5 1] := by rw [e_39, ← iv_append .u8 l_6 [bits .xor .u8 0 a1]]; exact st_45
      refine WL.val Wanted.none (Runs.assign rfl) ?_
      refine WL.nil ?_
      refine QW.blk_n ?_
      refine QW.then_n ?_
      refine CW.region ?_
      refine WL.val Wanted.none (Runs.move rfl) ?_
      refine WL.val Wanted.none (Runs.add rfl rfl rfl) ?_
      refine WL.val Wanted.none (Runs.assign rfl) ?_
      refine WL.nil ?_
      have st_45'' := st_45'.pick [1] (by decide)
      exact QW.at [(0, .slice A0 n0 c0), (1, .int .u8 a1), (4, .slice none 0 0), (5, .slice A_41 n_43 c_42), (6, .int .i64 (IntKind.i64.wrap (x_9 + 1)))] ⟨rfl, rfl, rfl, rfl, rfl, trivial⟩ ⟨A_41, c_42, n_43, m_38, IntKind.i64.wrap (x_9 + 1), rfl, H, hn_46, st_45''⟩
  · have h_14 : (decide (x_9 < 64)) = false := (decide_eq_false c_13)
    refine CW.cf rfl h_14 ?_
    refine CW.exit ?_
    refine QW.then_x ?_
    refine QW.then_x ?_
    refine QW.blk_x ?_
    refine QW.then_n ?_
    refine CW.seq ?_
    refine CW.region ?_
    refine WL.val Wanted.none (Runs.move rfl) ?_
    refine WL.val Wanted.none (Runs.assign rfl) ?_
    refine WL.nil ?_
    refine QW.then_n ?_
    refine CW.sub [(4, .slice A_4 n_7 c_5)] ⟨rfl, trivial⟩ ?_
    refine CW.ret ?_
    obtain rfl := H
    exact QW.ret1 rfl rfl ⟨A_4, c_5, n_7, hn_8, rfl, st_11.pick [0] (by decide)⟩

end Go.Proofs.YtlmbhggkahehjaaDoor
