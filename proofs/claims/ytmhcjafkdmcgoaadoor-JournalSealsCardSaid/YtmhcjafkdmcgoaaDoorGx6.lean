/- Walks: each function computes what its relation says, and a call of it ends so. Printed by a program of this session (wip/gen). -/
import Derived.Test.YtmhcjafkdmcgoaaDoorGx5
namespace Go.Proofs.YtmhcjafkdmcgoaaDoor
open Go Go.Kr Go.RowKit
set_option linter.unusedVariables false
set_option linter.unusedSimpArgs false
set_option maxRecDepth 100000
/-! ### reliquaryref06_At: function 70 -/
def reliquaryref06_At.rel (a0_0 : Int) (l0_1 : List R145) (l0_2 : List R145) (a0_3 : Int) (a0_4 : Bool) (l0_5 : List R160) (a1 : Int) (ar0 : ByteArray) : Prop := (∃ (a2 : ByteArray) (a0 : Bool), reliquaryref06_last.rel l0_1 a1 a2 a0 ∧ ((a0 = true ∧ ar0 = a2) ∨ (¬ (a0 = true) ∧ ar0 = strOfNums (List.replicate 192 (0 : Int)))))
set_option maxHeartbeats 1000000 in
theorem reliquaryref06_At.calls (w w1 : World) (T R : Pool) (a0_0 : Int) (l0_1 : List R145) (l0_2 : List R145) (a0_3 : Int) (a0_4 : Bool) (l0_5 : List R160) (a1 : Int) (A0_1 : Option Addr) (n0_1 : Nat) (c0_1 : Nat) (A0_2 : Option Addr) (n0_2 : Nat) (c0_2 : Nat) (A0_5 : Option Addr) (n0_5 : Nat) (c0_5 : Nat) (st0 : St w w1 ((T ++ R))) (hb0_1 : HS w T T A0_1 n0_1 c0_1 (f145 w) l0_1) (hb0_2 : HS w T T A0_2 n0_2 c0_2 (f145 w) l0_2) (hb0_5 : HS w T T A0_5 n0_5 c0_5 (f160 w) l0_5) (ar0 : ByteArray) (H : reliquaryref06_At.rel a0_0 l0_1 l0_2 a0_3 a0_4 l0_5 a1 ar0) :
  Calls Tryd.prog 70 #[.agg ((ci a0_0) ++ ((cl A0_1 n0_1 c0_1) ++ ((cl A0_2 n0_2 c0_2) ++ ((ci a0_3) ++ ((cb a0_4) ++ (cl A0_5 n0_5 c0_5)))))).toArray, .int .i64 a1] w1 fun e w' => ∃ T' , Pl T T' ∧ e = .returned (.string ar0) ∧ St w w' ((T' ++ R)) := by
 refine CW.enter Tryd.func70 rfl (n := 18) rfl [.agg ((ci a0_0) ++ ((cl A0_1 n0_1 c0_1) ++ ((cl A0_2 n0_2 c0_2) ++ ((ci a0_3) ++ ((cb a0_4) ++ (cl A0_5 n0_5 c0_5)))))).toArray, .int .i64 a1] (Nat.le_of_ble_eq_true rfl) ?_
 refine CW.sub [(0, .agg ((ci a0_0) ++ ((cl A0_1 n0_1 c0_1) ++ ((cl A0_2 n0_2 c0_2) ++ ((ci a0_3) ++ ((cb a0_4) ++ (cl A0_5 n0_5 c0_5)))))).toArray), (1, .int .i64 a1)] ⟨rfl, rfl, trivial⟩ ?_
 refine cr ?_
 refine WL.box st0 rfl rfl ?_
 intro a3 a7 a8
 refine WL.as rfl (WL.nx ?_)
 refine WL.v (Runs.fieldAddr (off := 1) (p := 1) fld57_1 rfl rfl rfl) ?_
 refine WL.v (Runs.load nagg54 rfl (a8.cell (k := 0) rfl (pa (.slice A0_1 n0_1 c0_1) (ci a0_0) ((cl A0_2 n0_2 c0_2) ++ ((ci a0_3) ++ ((cb a0_4) ++ (cl A0_5 n0_5 c0_5))))))) ?_
 refine WL.mv rfl ?_
 have b2 := St.hide (A := []) (B := [_]) (T := T) (R := R) a8
 obtain ⟨a9, a4, b3, H⟩ := H
 refine WL.call Wanted.none ent80 rfl (reliquaryref06_last.calls w a7 T (oM a3 a0_0 A0_1 n0_1 c0_1 A0_2 n0_2 c0_2 a0_3 a0_4 A0_5 n0_5 c0_5 57 :: R) l0_1 a1 A0_1 n0_1 c0_1  b2 (hb0_1.mono (memo_T (B := [_]) (fun _ h_ => h_)) (fun _ h_ => h_)) a9 a4 b3) ?_
 rintro _ b4 ⟨a0, b0, rfl, b5⟩
 have b1 : St w b4 (oM a3 a0_0 A0_1 n0_1 c0_1 A0_2 n0_2 c0_2 a0_3 a0_4 A0_5 n0_5 c0_5 57 :: (a0 ++ R)) := St.unhide (A := []) (B := [_]) (T := a0) (R := R) b5
 refine ⟨_, rfl, ?_⟩
 refine WL.mv rfl ?_
 refine WL.v (Runs.extract rfl rfl) ?_
 refine WL.v (Runs.extract rfl rfl) ?_
 refine WL.as rfl (WL.as rfl (wn ?_))
 refine CW.sub [(4, .string (⟨#[]⟩ : ByteArray)), (5, .string a9), (6, .bool a4)] ⟨rfl, rfl, rfl, trivial⟩ ?_
 refine CW.seq (cr (WL.mv rfl (wn ?_)))
 rcases H with ⟨a5, H⟩ | ⟨a5, H⟩
 ·have a6 : a4 = true := a5
  refine CW.ct rfl a6 ?_
  refine cr (WL.mv rfl (WL.as rfl (wn (CW.ret (QW.then_r ?_)))))
  obtain rfl := H
  exact QW.ret1 rfl rfl ⟨a0, b0, rfl, (St.pickT (L := [_]) b1 [] (by decide))⟩
 have a6 : a4 = false := (Bool.eq_false_iff.mpr a5)
 refine CW.cf rfl a6 ?_
 refine CW.skip (QW.then_n (cr ?_))
 refine WL.make b1 Tryd.underlying25 elem5 rfl rfl (by decide) (by decide) (by decide) (N := 192) rfl ?_
 intro b6 b7 a2
 replace a2 : St w b7 (.sl (sp b6) 192 192 (iv .u8 (List.replicate 192 (0 : Int))) 5 1 :: oM a3 a0_0 A0_1 n0_1 c0_1 A0_2 n0_2 c0_2 a0_3 a0_4 A0_5 n0_5 c0_5 57 :: (a0 ++ R)) := by rw [iv_replicate] at a2; exact a2
 have b8 : 192 = (List.replicate 192 (0 : Int)).length := by simp
 refine WL.v (Runs.bytes_str Tryd.underlying25 Tryd.underlying5 Tryd.underlying9 rfl (a2.src_sl (k := 0) rfl) b8) ?_
 refine WL.as rfl (wn (CW.ret ?_))
 obtain rfl := H
 exact QW.ret1 rfl rfl ⟨a0, b0, rfl, (St.pickT (L := [_, _]) a2 [] (by decide))⟩
/-! ### reliquaryref06_Image: function 47 -/
def reliquaryref06_Image.L1 (a0_0 : Int) (l0_1 : List R145) (l0_2 : List R145) (a0_3 : Int) (a0_4 : Bool) (l0_5 : List R160) (lr0 : List R9) : Nat → (List R9) → Int → Prop
 | 0, _, _ => False
 | kL1 + 1, a2, a0 => ((a0 < a0_0 ∧ (∃ (a3 : ByteArray), reliquaryref06_At.rel a0_0 l0_1 l0_2 a0_3 a0_4 l0_5 a0 a3 ∧ (∃ a1 : List R9, a1 = a2 ++ ([a3] : List R9) ∧ (a1.length ≤ 1099511627776 ∧ reliquaryref06_Image.L1 a0_0 l0_1 l0_2 a0_3 a0_4 l0_5 lr0 kL1 a1 (IntKind.i64.wrap (a0 + 1)))))) ∨ (¬ (a0 < a0_0) ∧ lr0 = a2))
def reliquaryref06_Image.rel (a0_0 : Int) (l0_1 : List R145) (l0_2 : List R145) (a0_3 : Int) (a0_4 : Bool) (l0_5 : List R160) (lr0 : List R9) : Prop := (∃ k_ : Nat, reliquaryref06_Image.L1 a0_0 l0_1 l0_2 a0_3 a0_4 l0_5 lr0 k_ ([] : List R9) 0)
set_option maxHeartbeats 1000000 in
theorem reliquaryref06_Image.calls (w w1 : World) (T R : Pool) (a0_0 : Int) (l0_1 : List R145) (l0_2 : List R145) (a0_3 : Int) (a0_4 : Bool) (l0_5 : List R160) (A0_1 : Option Addr) (n0_1 : Nat) (c0_1 : Nat) (A0_2 : Option Addr) (n0_2 : Nat) (c0_2 : Nat) (A0_5 : Option Addr) (n0_5 : Nat) (c0_5 : Nat) (st0 : St w w1 ((T ++ R))) (hb0_1 : HS w T T A0_1 n0_1 c0_1 (f145 w) l0_1) (hb0_2 : HS w T T A0_2 n0_2 c0_2 (f145 w) l0_2) (hb0_5 : HS w T T A0_5 n0_5 c0_5 (f160 w) l0_5) (lr0 : List R9) (H : reliquaryref06_Image.rel a0_0 l0_1 l0_2 a0_3 a0_4 l0_5 lr0) :
  Calls Tryd.prog 47 #[.agg ((ci a0_0) ++ ((cl A0_1 n0_1 c0_1) ++ ((cl A0_2 n0_2 c0_2) ++ ((ci a0_3) ++ ((cb a0_4) ++ (cl A0_5 n0_5 c0_5)))))).toArray] w1 fun e w' => ∃ T' Ar0 nr0 cr0 xr0, Pl T T' ∧ nr0 = lr0.length ∧ HRs T' (f9 w) xr0 lr0 ∧ e = .returned (.slice Ar0 nr0 cr0) ∧ St w w' (.sl Ar0 cr0 nr0 xr0 9 1 :: (T' ++ R)) := by
 refine CW.enter Tryd.func47 rfl (n := 18) rfl [.agg ((ci a0_0) ++ ((cl A0_1 n0_1 c0_1) ++ ((cl A0_2 n0_2 c0_2) ++ ((ci a0_3) ++ ((cb a0_4) ++ (cl A0_5 n0_5 c0_5)))))).toArray] (Nat.le_of_ble_eq_true rfl) ?_
 refine CW.sub [(0, .agg ((ci a0_0) ++ ((cl A0_1 n0_1 c0_1) ++ ((cl A0_2 n0_2 c0_2) ++ ((ci a0_3) ++ ((cb a0_4) ++ (cl A0_5 n0_5 c0_5)))))).toArray)] ⟨rfl, trivial⟩ ?_
 refine cr ?_
 refine WL.box st0 rfl rfl ?_
 intro a1 d4 d5
 refine WL.as rfl (WL.nx (WL.as rfl (wn (CW.seq (cr (WL.as rfl (wn (CW.block ?_))))))))
 have b5 := d5.nil_sl 9 1
 have b5 : St w d4 (.sl none 0 0 ([] : Cs) 9 1 :: oM a1 a0_0 A0_1 n0_1 c0_1 A0_2 n0_2 c0_2 a0_3 a0_4 A0_5 n0_5 c0_5 57 :: (T ++ R)) := b5
 obtain ⟨d6, H⟩ := H
 refine CW.sub [(1, .pointer (sp a1)), (2, .slice none 0 0), (3, .slice none 0 0), (4, .int .i64 0)] ⟨rfl, rfl, rfl, rfl, trivial⟩ ?_
 refine CW.loop (fun kL1 l_ w_ => ∃ (a5 : Pool) (a2 : Option Addr) (a3 : Nat) (a0 : Nat) (a4 : Cs) (b1 : List R9) (a8 : Int), l_ = [(1, .pointer (sp a1)), (2, .slice none 0 0), (3, .slice a2 a0 a3), (4, .int .i64 a8)] ∧ reliquaryref06_Image.L1 a0_0 l0_1 l0_2 a0_3 a0_4 l0_5 lr0 kL1 b1 a8 ∧ (Pl T a5) ∧ (a0 = b1.length) ∧ (HRs a5 (f9 w) a4 b1) ∧ St w w_ (.sl a2 a3 a0 a4 9 1 :: oM a1 a0_0 A0_1 n0_1 c0_1 A0_2 n0_2 c0_2 a0_3 a0_4 A0_5 n0_5 c0_5 57 :: (a5 ++ R))) (k := d6) ⟨T, none, 0, 0, ([] : Cs), ([] : List R9), 0, rfl, H, Pl.refl, rfl, (HRs.nil : HRs T (f9 w) [] []), b5⟩ (fun _ _ h => by obtain ⟨_, _, _, _, _, _, _, _, h, _⟩ := h; exact h.elim) ?_
 rintro kL1 e5 c4 ⟨a5, a2, a3, a0, a4, b1, a8, rfl, H, a6, c5, c6, b4⟩
 refine CW.seq (cr (WL.mv rfl ?_))
 refine WL.v (Runs.fieldAddr (off := 0) (p := 0) fld57_0 rfl rfl rfl) ?_
 refine WL.v (Runs.load nagg3 rfl (b4.cell (k := 1) rfl (pa (.int .i64 a0_0) [] ((cl A0_1 n0_1 c0_1) ++ ((cl A0_2 n0_2 c0_2) ++ ((ci a0_3) ++ ((cb a0_4) ++ (cl A0_5 n0_5 c0_5)))))))) ?_
 refine WL.v (Runs.lss rfl rfl rfl) ?_
 refine wn ?_
 rcases H with ⟨b6, H⟩ | ⟨b6, H⟩
 ·have b7 : (decide (a8 < a0_0)) = true := (decide_eq_true b6)
  refine CW.ct rfl b7 ?_
  refine CW.skip (QW.then_n (CW.seq (CW.block (CW.region (WL.mv rfl ?_)))))
  refine WL.v (Runs.load_mid row57 rfl b4 (i := 1) rfl (pm [] ((ci a0_0) ++ ((cl A0_1 n0_1 c0_1) ++ ((cl A0_2 n0_2 c0_2) ++ ((ci a0_3) ++ ((cb a0_4) ++ (cl A0_5 n0_5 c0_5)))))) []) rfl) ?_
  refine WL.mv rfl ?_
  have d7 := St.hide (A := []) (B := [_, _]) (T := a5) (R := R) b4
  obtain ⟨a9, d8, H⟩ := H
  refine WL.call Wanted.none ent70 rfl (reliquaryref06_At.calls w c4 a5 (.sl a2 a3 a0 a4 9 1 :: oM a1 a0_0 A0_1 n0_1 c0_1 A0_2 n0_2 c0_2 a0_3 a0_4 A0_5 n0_5 c0_5 57 :: R) a0_0 l0_1 l0_2 a0_3 a0_4 l0_5 a8 A0_1 n0_1 c0_1 A0_2 n0_2 c0_2 A0_5 n0_5 c0_5  d7 (hb0_1.mono (fun _ h_ => a6.1 _ h_) (fun _ h_ => a6.1 _ h_)) (hb0_2.mono (fun _ h_ => a6.1 _ h_) (fun _ h_ => a6.1 _ h_)) (hb0_5.mono (fun _ h_ => a6.1 _ h_) (fun _ h_ => a6.1 _ h_)) a9 d8) ?_
  rintro _ d9 ⟨a7, c7, rfl, e0⟩
  have e1 : St w d9 (.sl a2 a3 a0 a4 9 1 :: oM a1 a0_0 A0_1 n0_1 c0_1 A0_2 n0_2 c0_2 a0_3 a0_4 A0_5 n0_5 c0_5 57 :: (a7 ++ R)) := St.unhide (A := []) (B := [_, _]) (T := a7) (R := R) e0
  refine ⟨_, rfl, ?_⟩
  refine WL.buildSl [.string a9] e1 Tryd.underlying121 elem9 rfl rfl (by decide) (by decide) (by simp [Value.cells]) ?_
  intro b8 c8 b0
  replace b0 : St w c8 (.sl (sp b8) 1 1 [.string a9] 9 1 :: .sl a2 a3 a0 a4 9 1 :: oM a1 a0_0 A0_1 n0_1 c0_1 A0_2 n0_2 c0_2 a0_3 a0_4 A0_5 n0_5 c0_5 57 :: (a7 ++ R)) := b0
  obtain ⟨b2, c9⟩ : ∃ x_ : Cs, x_ = [.string a9] := ⟨_, rfl⟩
  have b9 : HRs a7 (f9 w) b2 ([a9] : List R9) := by rw [c9]; exact (HRs.one (.cons rfl .nil))
  replace b0 : St w c8 (.sl (sp b8) 1 1 b2 9 1 :: .sl a2 a3 a0 a4 9 1 :: oM a1 a0_0 A0_1 n0_1 c0_1 A0_2 n0_2 c0_2 a0_3 a0_4 A0_5 n0_5 c0_5 57 :: (a7 ++ R)) := by rw [c9]; exact b0
  obtain ⟨c0, d0, H⟩ := H
  obtain ⟨e2, H⟩ := H
  obtain ⟨c1, c2⟩ : ∃ n_ : Nat, n_ = c0.length := ⟨_, rfl⟩
  refine WL.appendR (i := 1) (N := c1) (news := b2) Wanted.none b0 rfl Tryd.underlying121 elemS9 rfl rfl (b0.src_sl (k := 0) rfl) (by have h1_ := (b9).length (fz9 w); have h2_ : 1 = ([a9] : List R9).length := rfl; rw [h1_, h2_]) (HLs.one b9) (by decide) (by have h1_ : a0 = b1.length := c5; have h2_ : 1 = ([a9] : List R9).length := rfl; rw [c2, d0, List.length_append]; omega) (by rw [c2]; exact e2) ?_
  intro d1 d2 e3 b3
  obtain ⟨c3, d3⟩ : ∃ x_ : Cs, x_ = a4 ++ b2 := ⟨_, rfl⟩
  have e4 : HRs a7 (f9 w) c3 c0 := by rw [d3, d0]; exact HRs.append (c6.mono (fun _ h_ => c7.1 _ h_)) b9
  replace b3 : St w e3 (.sl (sp b8) 1 1 b2 9 1 :: .sl d1 d2 c1 c3 9 1 :: oM a1 a0_0 A0_1 n0_1 c0_1 A0_2 n0_2 c0_2 a0_3 a0_4 A0_5 n0_5 c0_5 57 :: (a7 ++ R)) := by rw [d3]; exact b3
  refine WL.as rfl (WL.nil (QW.blk_n (QW.then_n (CW.region (WL.mv rfl ?_)))))
  refine WL.v (Runs.add rfl rfl rfl) ?_
  refine WL.as rfl (WL.nil ?_)
  have b3' := (St.pickT (L := [_, _, _]) b3 [1, 2] (by decide))
  exact QW.at _ (by repeat' constructor) ⟨a7, d1, d2, c1, c3, c0, IntKind.i64.wrap (a8 + 1), rfl, H, (a6.trans c7), c2, e4, b3'⟩
 have b7 : (decide (a8 < a0_0)) = false := (decide_eq_false b6)
 refine CW.cf rfl b7 ?_
 refine CW.exit (QW.then_x (QW.then_x (QW.blk_x (QW.then_n ?_))))
 refine CW.sub [(2, .slice none 0 0), (3, .slice a2 a0 a3)] ⟨rfl, rfl, trivial⟩ ?_
 refine cr (WL.mv rfl (WL.as rfl (wn (CW.ret ?_))))
 obtain rfl := H
 exact QW.ret1 rfl rfl ⟨a5, a2, a0, a3, a4, a6, c5, c6, rfl, (St.pickT (L := [_, _]) b4 [0] (by decide))⟩
/-! ### slices_Clone_s_disk_Op_disk_Op: function 37 -/
def slices_Clone_s_disk_Op_disk_Op.rel (l0 : List R48) (lr0 : List R48) : Prop := (l0 = [] → lr0 = ([] : List R48)) ∧ (∃ a0 : List R48, a0 = ([] : List R48) ++ l0 ∧ (a0.length ≤ 1099511627776 ∧ lr0 = a0))
set_option maxHeartbeats 1000000 in
theorem slices_Clone_s_disk_Op_disk_Op.calls (w w1 : World) (T R : Pool) (l0 : List R48) (A0 : Option Addr) (n0 : Nat) (c0 : Nat) (st0 : St w w1 ((T ++ R))) (hb0 : HS w (T ++ R) T A0 n0 c0 (f48 w) l0) (lr0 : List R48) (H : slices_Clone_s_disk_Op_disk_Op.rel l0 lr0) :
  Calls Tryd.prog 37 #[.slice A0 n0 c0] w1 fun e w' => ∃ T' Ar0 nr0 cr0 xr0, Pl T T' ∧ nr0 = lr0.length ∧ HRs T' (f48 w) xr0 lr0 ∧ e = .returned (.slice Ar0 nr0 cr0) ∧ St w w' (.sl Ar0 cr0 nr0 xr0 48 2 :: (T' ++ R)) := by
 rcases A0 with _ | A_
 ·replace H := H.1 (hb0.nil_of (fz48 w) (by decide) st0 (mem_TR (A := []) (fun _ h_ => h_)))
  refine CW.enter Tryd.func37 rfl (n := 8) rfl [.slice none n0 c0] (Nat.le_of_ble_eq_true rfl) ?_
  refine CW.sub [(0, .slice none n0 c0)] ⟨rfl, trivial⟩ ?_
  refine cr (WL.as rfl (wn (CW.seq (cr (WL.mv rfl ?_)))))
  refine WL.v (Runs.eql_nil Tryd.underlying43 rfl rfl rfl) ?_
  refine wn ?_
  refine CW.ct rfl rfl ?_
  refine cr (WL.as rfl (wn (CW.ret (QW.then_r ?_))))
  have a2 := st0.nil_sl 48 2
  have a2 : St w w1 (.sl none 0 0 ([] : Cs) 48 2 :: (T ++ R)) := a2
  obtain rfl := H
  exact QW.ret1 rfl rfl ⟨T, none, 0, 0, ([] : Cs), Pl.refl, rfl, (HRs.nil : HRs T (f48 w) [] []), rfl, (St.pickT (L := [_]) a2 [0] (by decide))⟩
 replace H := H.2
 refine CW.enter Tryd.func37 rfl (n := 8) rfl [.slice (some A_) n0 c0] (Nat.le_of_ble_eq_true rfl) ?_
 refine CW.sub [(0, .slice (some A_) n0 c0)] ⟨rfl, trivial⟩ ?_
 refine cr (WL.as rfl (wn (CW.seq (cr (WL.mv rfl ?_)))))
 refine WL.v (Runs.eql_nil Tryd.underlying43 rfl rfl rfl) ?_
 refine wn ?_
 refine CW.cf rfl rfl ?_
 refine CW.skip (QW.then_n (cr ?_))
 refine WL.buildSlS0 st0 Tryd.underlying43 elemS48 ?_
 intro b3 b4 a0
 replace a0 : St w b4 (.sl (sp b3) 0 0 ([] : Cs) 48 2 :: (T ++ R)) := a0
 refine WL.mv rfl ?_
 obtain ⟨a9, b5, a3⟩ := hb0.2.2
 obtain ⟨b0, b1, H⟩ := H
 obtain ⟨b6, H⟩ := H
 obtain ⟨a1, a4⟩ : ∃ n_ : Nat, n_ = b0.length := ⟨_, rfl⟩
 refine WL.appendR (i := 0) (N := a1) (news := a9) Wanted.none a0 rfl Tryd.underlying43 elemS48 rfl rfl ((b5.at a0 (mem_TR (A := [_]) (fun _ h_ => h_)))) (by have h1_ := (a3).length (fz48 w); have h2_ : n0 = l0.length := hb0.1; rw [h1_, h2_]) (HLs.one a3) (by decide) (by have h1_ : 0 = ([] : List R48).length := rfl; have h2_ : n0 = l0.length := hb0.1; rw [a4, b1, List.length_append]; omega) (by rw [a4]; exact b6) ?_
 intro a5 a6 b7 a7
 obtain ⟨a8, b2⟩ : ∃ x_ : Cs, x_ = ([] : Cs) ++ a9 := ⟨_, rfl⟩
 have b8 : HRs T (f48 w) a8 b0 := by rw [b2, b1]; exact HRs.append (HRs.nil : HRs T (f48 w) [] []) a3
 replace a7 : St w b7 (.sl a5 a6 a1 a8 48 2 :: (T ++ R)) := by rw [b2]; exact a7
 refine WL.as rfl (wn (CW.ret ?_))
 obtain rfl := H
 exact QW.ret1 rfl rfl ⟨T, a5, a1, a6, a8, Pl.refl, a4, b8, rfl, (St.pickT (L := [_]) a7 [0] (by decide))⟩
/-! ### disk_Disk_Ops: function 13 -/
def disk_Disk_Ops.rel (l0_0 : List R25) (l0_1 : List R124) (a0_2 : Int) (a0_3 : Bool) (l0_4 : List R48) (ls0_0 : List R25) (ls0_1 : List R124) (as0_2 : Int) (as0_3 : Bool) (ls0_4 : List R48) (lr0 : List R48) : Prop := (∃ (a0 : List R48), slices_Clone_s_disk_Op_disk_Op.rel l0_4 a0 ∧ ls0_0 = l0_0 ∧ ls0_1 = l0_1 ∧ as0_2 = a0_2 ∧ as0_3 = a0_3 ∧ ls0_4 = l0_4 ∧ lr0 = a0)
set_option maxHeartbeats 1000000 in
theorem disk_Disk_Ops.calls (w w1 : World) (T R : Pool) (l0_0 : List R25) (l0_1 : List R124) (a0_2 : Int) (a0_3 : Bool) (l0_4 : List R48) (b0 : Nat) (A0_0 : Option Addr) (n0_0 : Nat) (c0_0 : Nat) (x0_0 : Cs) (A0_1 : Option Addr) (n0_1 : Nat) (c0_1 : Nat) (x0_1 : Cs) (A0_4 : Option Addr) (n0_4 : Nat) (c0_4 : Nat) (x0_4 : Cs) (st0 : St w w1 (oD b0 A0_0 n0_0 c0_0 A0_1 n0_1 c0_1 a0_2 a0_3 A0_4 n0_4 c0_4 95 :: .sl A0_0 c0_0 n0_0 x0_0 25 1 :: .sl A0_1 c0_1 n0_1 x0_1 124 2 :: .sl A0_4 c0_4 n0_4 x0_4 48 2 :: (T ++ R))) (hn0_0 : n0_0 = l0_0.length) (hx0_0 : HRs T (f25 w) x0_0 l0_0) (hn0_1 : n0_1 = l0_1.length) (hx0_1 : HRs T (f124 w) x0_1 l0_1) (hn0_4 : n0_4 = l0_4.length) (hx0_4 : HRs T (f48 w) x0_4 l0_4) (ls0_0 : List R25) (ls0_1 : List R124) (as0_2 : Int) (as0_3 : Bool) (ls0_4 : List R48) (lr0 : List R48) (H : disk_Disk_Ops.rel l0_0 l0_1 a0_2 a0_3 l0_4 ls0_0 ls0_1 as0_2 as0_3 ls0_4 lr0) :
  Calls Tryd.prog 13 #[.pointer (sp b0)] w1 fun e w' => ∃ T' As0_0 ns0_0 cs0_0 xs0_0 As0_1 ns0_1 cs0_1 xs0_1 As0_4 ns0_4 cs0_4 xs0_4 Ar0 nr0 cr0 xr0, Pl T T' ∧ ns0_0 = ls0_0.length ∧ HRs T' (f25 w) xs0_0 ls0_0 ∧ ns0_1 = ls0_1.length ∧ HRs T' (f124 w) xs0_1 ls0_1 ∧ ns0_4 = ls0_4.length ∧ HRs T' (f48 w) xs0_4 ls0_4 ∧ nr0 = lr0.length ∧ HRs T' (f48 w) xr0 lr0 ∧ e = .returned (.slice Ar0 nr0 cr0) ∧ St w w' (oD b0 As0_0 ns0_0 cs0_0 As0_1 ns0_1 cs0_1 as0_2 as0_3 As0_4 ns0_4 cs0_4 95 :: .sl As0_0 cs0_0 ns0_0 xs0_0 25 1 :: .sl As0_1 cs0_1 ns0_1 xs0_1 124 2 :: .sl As0_4 cs0_4 ns0_4 xs0_4 48 2 :: .sl Ar0 cr0 nr0 xr0 48 2 :: (T' ++ R)) := by
 refine CW.enter Tryd.func13 rfl (n := 10) rfl [.pointer (sp b0)] (Nat.le_of_ble_eq_true rfl) ?_
 refine CW.sub [(0, .pointer (sp b0))] ⟨rfl, trivial⟩ ?_
 refine cr (WL.as rfl (wn (CW.seq (cr (WL.mv rfl ?_)))))
 refine WL.v (Runs.eql_ptr Tryd.underlying30 rfl rfl rfl) ?_
 refine wn ?_
 refine CW.cf rfl rfl ?_
 refine CW.skip (QW.then_n (cr (WL.mv rfl ?_)))
 refine WL.v (Runs.nilCheck rfl) ?_
 refine WL.v (Runs.fieldAddr (off := 4) (p := 4) fld95_4 rfl rfl rfl) ?_
 refine WL.v (Runs.load nagg43 rfl (st0.cell (k := 0) rfl (pa (.slice A0_4 n0_4 c0_4) ((cl A0_0 n0_0 c0_0) ++ ((cl A0_1 n0_1 c0_1) ++ ((ci a0_2) ++ (cb a0_3)))) []))) ?_
 have a6 := St.hide (A := []) (B := [_, _, _, _]) (T := T) (R := R) st0
 obtain ⟨a7, a8, H⟩ := H
 refine WL.call Wanted.none ent37 rfl (slices_Clone_s_disk_Op_disk_Op.calls w w1 T (oD b0 A0_0 n0_0 c0_0 A0_1 n0_1 c0_1 a0_2 a0_3 A0_4 n0_4 c0_4 95 :: .sl A0_0 c0_0 n0_0 x0_0 25 1 :: .sl A0_1 c0_1 n0_1 x0_1 124 2 :: .sl A0_4 c0_4 n0_4 x0_4 48 2 :: R) l0_4 A0_4 n0_4 c0_4  a6 (HS.mk hn0_4 (st0.cap (i := 3) rfl) (fun W_ L_ st hT => st.src_mem (hT _ (List.mem_append_right _ (List.mem_of_getElem? (i := 3) rfl)))) hx0_4) a7 a8) ?_
 rintro _ a9 ⟨a1, a2, a3, a4, a5, a0, b1, b2, rfl, b3⟩
 have b4 : St w a9 (.sl a2 a4 a3 a5 48 2 :: oD b0 A0_0 n0_0 c0_0 A0_1 n0_1 c0_1 a0_2 a0_3 A0_4 n0_4 c0_4 95 :: .sl A0_0 c0_0 n0_0 x0_0 25 1 :: .sl A0_1 c0_1 n0_1 x0_1 124 2 :: .sl A0_4 c0_4 n0_4 x0_4 48 2 :: (a1 ++ R)) := St.unhide (A := [_]) (B := [_, _, _, _]) (T := a1) (R := R) b3
 refine ⟨_, rfl, ?_⟩
 refine WL.as rfl (wn (CW.ret ?_))
 obtain ⟨rfl, rfl, rfl, rfl, rfl, rfl⟩ := H
 exact QW.ret1 rfl rfl ⟨a1, A0_0, n0_0, c0_0, x0_0, A0_1, n0_1, c0_1, x0_1, A0_4, n0_4, c0_4, x0_4, a2, a3, a4, a5, a0, hn0_0, (hx0_0.mono (fun _ h_ => a0.1 _ h_)), hn0_1, (hx0_1.mono (fun _ h_ => a0.1 _ h_)), hn0_4, (hx0_4.mono (fun _ h_ => a0.1 _ h_)), b1, b2, rfl, (St.pickT (L := [_, _, _, _, _]) b4 [1, 2, 3, 4, 0] (by decide))⟩
/-! ### reliquarylaw13_sameDisk: function 24 -/
def reliquarylaw13_sameDisk.L1 (ls0_0 : List R25) (ls0_1 : List R124) (as0_2 : Int) (as0_3 : Bool) (ls0_4 : List R48) (ar0 : Bool) (a1 : List R25) (a2 : List R9) (a3 : List R25) (a4 : List R124) (a5 : Int) (a6 : Bool) (a7 : List R48) : Nat → Bool → Int → Prop
 | 0, _, _ => False
 | kL1 + 1, a8, a0 => ((a0 < (a1.length : Int) ∧ ((0 ≤ a0 ∧ a0 < (a1.length : Int)) ∧ ((0 ≤ a0 ∧ a0 < (a2.length : Int)) ∧ ((¬ ((strOfNums (gx a1 (a0.toNat))).toList = (gx a2 (a0.toNat)).toList) ∧ ls0_0 = a3 ∧ ls0_1 = a4 ∧ as0_2 = a5 ∧ as0_3 = a6 ∧ ls0_4 = a7 ∧ ar0 = false) ∨ (¬ (¬ ((strOfNums (gx a1 (a0.toNat))).toList = (gx a2 (a0.toNat)).toList)) ∧ reliquarylaw13_sameDisk.L1 ls0_0 ls0_1 as0_2 as0_3 ls0_4 ar0 a1 a2 a3 a4 a5 a6 a7 kL1 a8 (IntKind.i64.wrap (a0 + 1))))))) ∨ (¬ (a0 < (a1.length : Int)) ∧ ls0_0 = a3 ∧ ls0_1 = a4 ∧ as0_2 = a5 ∧ as0_3 = a6 ∧ ls0_4 = a7 ∧ ar0 = true))
def reliquarylaw13_sameDisk.rel (l0_0 : List R25) (l0_1 : List R124) (a0_2 : Int) (a0_3 : Bool) (l0_4 : List R48) (a1_0 : Int) (l1_1 : List R145) (l1_2 : List R145) (a1_3 : Int) (a1_4 : Bool) (l1_5 : List R160) (ls0_0 : List R25) (ls0_1 : List R124) (as0_2 : Int) (as0_3 : Bool) (ls0_4 : List R48) (ar0 : Bool) : Prop := (∃ (a2 : List R25) (a3 : List R124) (a4 : Int) (a5 : Bool) (a6 : List R48) (a0 : List R25), disk_Disk_Image.rel l0_0 l0_1 a0_2 a0_3 l0_4 a2 a3 a4 a5 a6 a0 ∧ (∃ (a1 : List R9), reliquaryref06_Image.rel a1_0 l1_1 l1_2 a1_3 a1_4 l1_5 a1 ∧ (((a0.length : Int) ≠ (a1.length : Int) ∧ ls0_0 = a2 ∧ ls0_1 = a3 ∧ as0_2 = a4 ∧ as0_3 = a5 ∧ ls0_4 = a6 ∧ ar0 = false) ∨ (¬ ((a0.length : Int) ≠ (a1.length : Int)) ∧ (∃ (a7 : List R25) (a8 : List R124) (a9 : Int) (b0 : Bool) (b1 : List R48) (b2 : Int), disk_Disk_Pending.rel a2 a3 a4 a5 a6 a7 a8 a9 b0 b1 b2 ∧ ((b2 ≠ (l1_2.length : Int) ∧ ls0_0 = a7 ∧ ls0_1 = a8 ∧ as0_2 = a9 ∧ as0_3 = b0 ∧ ls0_4 = b1 ∧ ar0 = false) ∨ (¬ (b2 ≠ (l1_2.length : Int)) ∧ (∃ (b3 : List R25) (b4 : List R124) (b5 : Int) (b6 : Bool) (b7 : List R48) (b8 : List R48), disk_Disk_Ops.rel a7 a8 a9 b0 b1 b3 b4 b5 b6 b7 b8 ∧ (((b8.length : Int) ≠ (l1_5.length : Int) ∧ ls0_0 = b3 ∧ ls0_1 = b4 ∧ as0_2 = b5 ∧ as0_3 = b6 ∧ ls0_4 = b7 ∧ ar0 = false) ∨ (¬ ((b8.length : Int) ≠ (l1_5.length : Int)) ∧ (∃ k_ : Nat, reliquarylaw13_sameDisk.L1 ls0_0 ls0_1 as0_2 as0_3 ls0_4 ar0 a0 a1 b3 b4 b5 b6 b7 k_ false 0)))))))))))
set_option maxHeartbeats 1000000 in
theorem reliquarylaw13_sameDisk.calls (w w1 : World) (T R : Pool) (l0_0 : List R25) (l0_1 : List R124) (a0_2 : Int) (a0_3 : Bool) (l0_4 : List R48) (a1_0 : Int) (l1_1 : List R145) (l1_2 : List R145) (a1_3 : Int) (a1_4 : Bool) (l1_5 : List R160) (b0 : Nat) (A0_0 : Option Addr) (n0_0 : Nat) (c0_0 : Nat) (x0_0 : Cs) (A0_1 : Option Addr) (n0_1 : Nat) (c0_1 : Nat) (x0_1 : Cs) (A0_4 : Option Addr) (n0_4 : Nat) (c0_4 : Nat) (x0_4 : Cs) (A1_1 : Option Addr) (n1_1 : Nat) (c1_1 : Nat) (A1_2 : Option Addr) (n1_2 : Nat) (c1_2 : Nat) (A1_5 : Option Addr) (n1_5 : Nat) (c1_5 : Nat) (st0 : St w w1 (oD b0 A0_0 n0_0 c0_0 A0_1 n0_1 c0_1 a0_2 a0_3 A0_4 n0_4 c0_4 95 :: .sl A0_0 c0_0 n0_0 x0_0 25 1 :: .sl A0_1 c0_1 n0_1 x0_1 124 2 :: .sl A0_4 c0_4 n0_4 x0_4 48 2 :: (T ++ R))) (hn0_0 : n0_0 = l0_0.length) (hx0_0 : HRs T (f25 w) x0_0 l0_0) (hn0_1 : n0_1 = l0_1.length) (hx0_1 : HRs T (f124 w) x0_1 l0_1) (hn0_4 : n0_4 = l0_4.length) (hx0_4 : HRs T (f48 w) x0_4 l0_4) (hb1_1 : HS w T T A1_1 n1_1 c1_1 (f145 w) l1_1) (hb1_2 : HS w T T A1_2 n1_2 c1_2 (f145 w) l1_2) (hb1_5 : HS w T T A1_5 n1_5 c1_5 (f160 w) l1_5) (ls0_0 : List R25) (ls0_1 : List R124) (as0_2 : Int) (as0_3 : Bool) (ls0_4 : List R48) (ar0 : Bool) (H : reliquarylaw13_sameDisk.rel l0_0 l0_1 a0_2 a0_3 l0_4 a1_0 l1_1 l1_2 a1_3 a1_4 l1_5 ls0_0 ls0_1 as0_2 as0_3 ls0_4 ar0) :
  Calls Tryd.prog 24 #[.pointer (sp b0), .agg ((ci a1_0) ++ ((cl A1_1 n1_1 c1_1) ++ ((cl A1_2 n1_2 c1_2) ++ ((ci a1_3) ++ ((cb a1_4) ++ (cl A1_5 n1_5 c1_5)))))).toArray] w1 fun e w' => ∃ T' As0_0 ns0_0 cs0_0 xs0_0 As0_1 ns0_1 cs0_1 xs0_1 As0_4 ns0_4 cs0_4 xs0_4, Pl T T' ∧ ns0_0 = ls0_0.length ∧ HRs T' (f25 w) xs0_0 ls0_0 ∧ ns0_1 = ls0_1.length ∧ HRs T' (f124 w) xs0_1 ls0_1 ∧ ns0_4 = ls0_4.length ∧ HRs T' (f48 w) xs0_4 ls0_4 ∧ e = .returned (.bool ar0) ∧ St w w' (oD b0 As0_0 ns0_0 cs0_0 As0_1 ns0_1 cs0_1 as0_2 as0_3 As0_4 ns0_4 cs0_4 95 :: .sl As0_0 cs0_0 ns0_0 xs0_0 25 1 :: .sl As0_1 cs0_1 ns0_1 xs0_1 124 2 :: .sl As0_4 cs0_4 ns0_4 xs0_4 48 2 :: (T' ++ R)) := by
 refine CW.enter Tryd.func24 rfl (n := 50) rfl [.pointer (sp b0), .agg ((ci a1_0) ++ ((cl A1_1 n1_1 c1_1) ++ ((cl A1_2 n1_2 c1_2) ++ ((ci a1_3) ++ ((cb a1_4) ++ (cl A1_5 n1_5 c1_5)))))).toArray] (Nat.le_of_ble_eq_true rfl) ?_
 refine CW.sub [(0, .pointer (sp b0)), (1, .agg ((ci a1_0) ++ ((cl A1_1 n1_1 c1_1) ++ ((cl A1_2 n1_2 c1_2) ++ ((ci a1_3) ++ ((cb a1_4) ++ (cl A1_5 n1_5 c1_5)))))).toArray)] ⟨rfl, rfl, trivial⟩ ?_
 refine cr ?_
 refine WL.box st0 rfl rfl ?_
 intro a6 h5 m9
 refine WL.as rfl (WL.nx (WL.mv rfl ?_))
 have h6 := (St.pickT (L := [_, _, _, _, _]) m9 [1, 2, 3, 4, 0] (by decide))
 have n0 := St.hide (A := [_, _, _, _]) (B := [_]) (T := T) (R := R) h6
 obtain ⟨j8, j9, d1, d2, k0, c9, n1, H⟩ := H
 refine WL.call Wanted.none ent27 rfl (disk_Disk_Image.calls w h5 T (oM a6 a1_0 A1_1 n1_1 c1_1 A1_2 n1_2 c1_2 a1_3 a1_4 A1_5 n1_5 c1_5 57 :: R) l0_0 l0_1 a0_2 a0_3 l0_4 b0 A0_0 n0_0 c0_0 x0_0 A0_1 n0_1 c0_1 x0_1 A0_4 n0_4 c0_4 x0_4  n0 (hn0_0) hx0_0 (hn0_1) hx0_1 (hn0_4) hx0_4 j8 j9 d1 d2 k0 c9 n1) ?_
 rintro _ h7 ⟨f8, b5, b6, b7, d3, b8, b9, c0, d4, c1, c2, c3, d5, a4, a3, a5, c4, c6, k1, k2, k3, k4, k5, k6, h8, n2, rfl, n3⟩
 have k7 : St w h7 (oD b0 b5 b6 b7 b8 b9 c0 d1 d2 c1 c2 c3 95 :: .sl b5 b7 b6 d3 25 1 :: .sl b8 c0 b9 d4 124 2 :: .sl c1 c3 c2 d5 48 2 :: .sl a4 a5 a3 c4 25 1 :: oM a6 a1_0 A1_1 n1_1 c1_1 A1_2 n1_2 c1_2 a1_3 a1_4 A1_5 n1_5 c1_5 57 :: (f8 ++ R)) := St.unhide (A := [_, _, _, _, _]) (B := [_]) (T := f8) (R := R) n3
 refine ⟨_, rfl, ?_⟩
 refine WL.as rfl (WL.nx ?_)
 refine WL.v (Runs.load_mid row57 rfl k7 (i := 5) rfl (pm [] ((ci a1_0) ++ ((cl A1_1 n1_1 c1_1) ++ ((cl A1_2 n1_2 c1_2) ++ ((ci a1_3) ++ ((cb a1_4) ++ (cl A1_5 n1_5 c1_5)))))) []) rfl) ?_
 have n4 := St.hide (A := []) (B := [_, _, _, _, _, _]) (T := f8) (R := R) k7
 obtain ⟨d6, n5, H⟩ := H
 refine WL.call Wanted.none ent47 rfl (reliquaryref06_Image.calls w h7 f8 (oD b0 b5 b6 b7 b8 b9 c0 d1 d2 c1 c2 c3 95 :: .sl b5 b7 b6 d3 25 1 :: .sl b8 c0 b9 d4 124 2 :: .sl c1 c3 c2 d5 48 2 :: .sl a4 a5 a3 c4 25 1 :: oM a6 a1_0 A1_1 n1_1 c1_1 A1_2 n1_2 c1_2 a1_3 a1_4 A1_5 n1_5 c1_5 57 :: R) a1_0 l1_1 l1_2 a1_3 a1_4 l1_5 A1_1 n1_1 c1_1 A1_2 n1_2 c1_2 A1_5 n1_5 c1_5  n4 (hb1_1.mono (fun _ h_ => c6.1 _ h_) (fun _ h_ => c6.1 _ h_)) (hb1_2.mono (fun _ h_ => c6.1 _ h_) (fun _ h_ => c6.1 _ h_)) (hb1_5.mono (fun _ h_ => c6.1 _ h_) (fun _ h_ => c6.1 _ h_)) d6 n5) ?_
 rintro _ n6 ⟨d0, a9, a7, b1, c7, c5, k8, n7, rfl, n8⟩
 have n9 : St w n6 (.sl a9 b1 a7 c7 9 1 :: oD b0 b5 b6 b7 b8 b9 c0 d1 d2 c1 c2 c3 95 :: .sl b5 b7 b6 d3 25 1 :: .sl b8 c0 b9 d4 124 2 :: .sl c1 c3 c2 d5 48 2 :: .sl a4 a5 a3 c4 25 1 :: oM a6 a1_0 A1_1 n1_1 c1_1 A1_2 n1_2 c1_2 a1_3 a1_4 A1_5 n1_5 c1_5 57 :: (d0 ++ R)) := St.unhide (A := [_]) (B := [_, _, _, _, _, _]) (T := d0) (R := R) n8
 refine ⟨_, rfl, ?_⟩
 refine WL.as rfl (wn (CW.seq (CW.seq ?_)))
 refine CW.region_awh (C := fun w_ => St w w_ (.sl a9 b1 a7 c7 9 1 :: .sl a4 a5 a3 c4 25 1 :: oM a6 a1_0 A1_1 n1_1 c1_1 A1_2 n1_2 c1_2 a1_3 a1_4 A1_5 n1_5 c1_5 57 :: (d0 ++ R))) 20 wide (by kernel_rfl) n9 (fun g4 a1 => ?_)
 have a0 : St w g4 (.sl a9 b1 a7 c7 9 1 :: .sl a4 a5 a3 c4 25 1 :: oM a6 a1_0 A1_1 n1_1 c1_1 A1_2 n1_2 c1_2 a1_3 a1_4 A1_5 n1_5 c1_5 57 :: (d0 ++ R)) := (St.pickT (L := [_, _, _, _, _, _, _]) a1 [0, 5, 6] (by decide))
 refine AWH.kn (St.subset a0 a1 (mc 0 rfl (mc 5 rfl (mc 6 rfl (mem_TR (A := [_, _, _, _, _, _, _]) (fun _ h_ => h_)))))) fun zC1 => ?_
 refine AWH.tk 0 rfl zC1 (fun wq sq => (Runs.move rfl)) ?_
 refine AWH.tk 1 rfl zC1 (fun wq sq => (Runs.len_sl Tryd.underlying76 rfl (by rw [h8]))) ?_
 refine AWH.tk 2 rfl zC1 (fun wq sq => (Runs.move rfl)) ?_
 refine AWH.tk 3 rfl zC1 (fun wq sq => (Runs.len_sl Tryd.underlying121 rfl (by rw [k8]))) ?_
 refine AWH.tk 4 rfl zC1 (fun wq sq => (Runs.neq rfl rfl rfl)) ?_
 refine AWH.tk 5 rfl zC1 (fun wq sq => (Runs.move rfl)) ?_
 rcases H with ⟨h9, H⟩ | ⟨h9, H⟩
 ·have b3 : ((c9.length : Int) != (d6.length : Int)) = true := (bne_iff_ne.mpr h9)
  refine AWH.takeoff 6 rfl (by decide) (by kernel_rfl) (by kernel_rfl) (St.subset a0 a1 (mc 0 rfl (mc 5 rfl (mc 6 rfl (mem_TR (A := [_, _, _, _, _, _, _]) (fun _ h_ => h_)))))) ?_ ?_; exact Wanted.guard (dj := 17) (by rfl) (evb (by rfl) b3) (by rfl)
  refine AWH.takeoff 7 rfl (by decide) (by kernel_rfl) (by kernel_rfl) (St.subset a0 a1 (mc 0 rfl (mc 5 rfl (mc 6 rfl (mem_TR (A := [_, _, _, _, _, _, _]) (fun _ h_ => h_)))))) ?_ ?_; exact Wanted.guard (dj := 17) (by rfl) (evb (by rfl) b3) (by rfl)
  refine AWH.takeoff 8 rfl (by decide) (by kernel_rfl) (by kernel_rfl) (St.subset a0 a1 (mc 0 rfl (mc 5 rfl (mc 6 rfl (mem_TR (A := [_, _, _, _, _, _, _]) (fun _ h_ => h_)))))) ?_ ?_; exact Wanted.guard (dj := 17) (by rfl) (evb (by rfl) b3) (by rfl)
  refine AWH.takeoff 9 rfl (by decide) (by kernel_rfl) (by kernel_rfl) (St.subset a0 a1 (mc 0 rfl (mc 5 rfl (mc 6 rfl (mem_TR (A := [_, _, _, _, _, _, _]) (fun _ h_ => h_)))))) ?_ ?_; exact Wanted.guard (dj := 17) (by rfl) (evb (by rfl) b3) (by rfl)
  refine AWH.takeoff 10 rfl (by decide) (by kernel_rfl) (by kernel_rfl) (St.subset a0 a1 (mc 0 rfl (mc 5 rfl (mc 6 rfl (mem_TR (A := [_, _, _, _, _, _, _]) (fun _ h_ => h_)))))) ?_ ?_; exact Wanted.guard (dj := 17) (by rfl) (evb (by rfl) b3) (by rfl)
  refine AWH.takeoff 11 rfl (by decide) (by kernel_rfl) (by kernel_rfl) (St.subset a0 a1 (mc 0 rfl (mc 5 rfl (mc 6 rfl (mem_TR (A := [_, _, _, _, _, _, _]) (fun _ h_ => h_)))))) ?_ ?_; exact Wanted.guard (dj := 17) (by rfl) (evb (by rfl) b3) (by rfl)
  refine AWH.tk 12 rfl zC1 (fun wq sq => (Runs.pick_t (evb rfl b3) rfl)) ?_
  refine AWH.tk 13 rfl zC1 (fun wq sq => (Runs.move rfl)) ?_
  refine AWH.takeoff 14 rfl (by decide) (by kernel_rfl) (by kernel_rfl) (St.subset a0 a1 (mc 0 rfl (mc 5 rfl (mc 6 rfl (mem_TR (A := [_, _, _, _, _, _, _]) (fun _ h_ => h_)))))) ?_ ?_; exact Wanted.guard (dj := 25) (by rfl) (by rfl) (by rfl)
  refine AWH.takeoff 15 rfl (by decide) (by kernel_rfl) (by kernel_rfl) (St.subset a0 a1 (mc 0 rfl (mc 5 rfl (mc 6 rfl (mem_TR (A := [_, _, _, _, _, _, _]) (fun _ h_ => h_)))))) ?_ ?_; exact Wanted.guard (dj := 25) (by rfl) (by rfl) (by rfl)
  refine AWH.takeoff 16 rfl (by decide) (by kernel_rfl) (by kernel_rfl) (St.subset a0 a1 (mc 0 rfl (mc 5 rfl (mc 6 rfl (mem_TR (A := [_, _, _, _, _, _, _]) (fun _ h_ => h_)))))) ?_ ?_; exact Wanted.guard (dj := 25) (by rfl) (by rfl) (by rfl)
  refine AWH.takeoff 17 rfl (by decide) (by kernel_rfl) (by kernel_rfl) (St.subset a0 a1 (mc 0 rfl (mc 5 rfl (mc 6 rfl (mem_TR (A := [_, _, _, _, _, _, _]) (fun _ h_ => h_)))))) ?_ ?_; exact Wanted.guard (dj := 25) (by rfl) (by rfl) (by rfl)
  refine AWH.takeoff 18 rfl (by decide) (by kernel_rfl) (by kernel_rfl) (St.subset a0 a1 (mc 0 rfl (mc 5 rfl (mc 6 rfl (mem_TR (A := [_, _, _, _, _, _, _]) (fun _ h_ => h_)))))) ?_ ?_; exact Wanted.guard (dj := 25) (by rfl) (by rfl) (by rfl)
  refine AWH.takeoff 19 rfl (by decide) (by kernel_rfl) (by kernel_rfl) (St.subset a0 a1 (mc 0 rfl (mc 5 rfl (mc 6 rfl (mem_TR (A := [_, _, _, _, _, _, _]) (fun _ h_ => h_)))))) ?_ ?_; exact Wanted.guard (dj := 25) (by rfl) (by rfl) (by rfl)
  refine AWH.tail (by kernel_rfl) ?_
  refine AW.takeoff 20 rfl (by kernel_rfl) (by kernel_rfl) (by kernel_rfl)  ?_ ?_; exact Wanted.guard (dj := 25) (by rfl) (by rfl) (by rfl)
  refine AW.tk 21 rfl (fun _ => (Runs.pick_t rfl rfl)) ?_
  refine AW.done (by kernel_rfl) ?_
  refine QW.then_n ?_
  refine CW.sub [(4, .bool false), (5, .slice a4 a3 a5), (6, .slice a9 a7 b1), (33, .bool true)] ⟨rfl, rfl, rfl, rfl, trivial⟩ ?_
  refine CW.ct rfl rfl ?_
  refine cr (WL.as rfl (wn (CW.ret (QW.then_r ?_))))
  obtain ⟨rfl, rfl, rfl, rfl, rfl, rfl⟩ := H
  exact QW.ret1 rfl rfl ⟨d0, b5, b6, b7, d3, b8, b9, c0, d4, c1, c2, c3, d5, (c6.trans c5), k1, (k2.mono (fun _ h_ => c5.1 _ h_)), k3, (k4.mono (fun _ h_ => c5.1 _ h_)), k5, (k6.mono (fun _ h_ => c5.1 _ h_)), rfl, (St.pickT (L := [_, _, _, _, _, _, _]) a1 [1, 2, 3, 4] (by decide))⟩
 have b3 : ((c9.length : Int) != (d6.length : Int)) = false := (bne_eq_false_iff_eq.mpr (Decidable.not_not.mp h9))
 refine AWH.take 6 rfl (by decide) (by kernel_rfl) (by kernel_rfl) (St.subset a0 a1 (mc 0 rfl (mc 5 rfl (mc 6 rfl (mem_TR (A := [_, _, _, _, _, _, _]) (fun _ h_ => h_)))))) ?_ (fun wq sq => (Runs.move rfl)) ?_; exact Wanted.guard (dj := 17) (by rfl) (evb (by rfl) b3) (by rfl)
 refine AWH.take 8 rfl (by decide) (by kernel_rfl) (by kernel_rfl) (St.subset a0 a1 (mc 0 rfl (mc 5 rfl (mc 6 rfl (mem_TR (A := [_, _, _, _, _, _, _]) (fun _ h_ => h_)))))) ?_ (fun wq sq => (Runs.fieldAddr (off := 2) (p := 2) fld57_2 rfl rfl rfl)) ?_; exact Wanted.guard (dj := 17) (by rfl) (evb (by rfl) b3) (by rfl)
 refine AWH.take 9 rfl (by decide) (by kernel_rfl) (by kernel_rfl) (St.subset a0 a1 (mc 0 rfl (mc 5 rfl (mc 6 rfl (mem_TR (A := [_, _, _, _, _, _, _]) (fun _ h_ => h_)))))) ?_ (fun wq sq => (Runs.load nagg54 rfl (sq.cell (k := 2) rfl (pa (.slice A1_2 n1_2 c1_2) ((ci a1_0) ++ (cl A1_1 n1_1 c1_1)) ((ci a1_3) ++ ((cb a1_4) ++ (cl A1_5 n1_5 c1_5))))))) ?_; exact Wanted.guard (dj := 17) (by rfl) (evb (by rfl) b3) (by rfl)
 refine AWH.take 10 rfl (by decide) (by kernel_rfl) (by kernel_rfl) (St.subset a0 a1 (mc 0 rfl (mc 5 rfl (mc 6 rfl (mem_TR (A := [_, _, _, _, _, _, _]) (fun _ h_ => h_)))))) ?_ (fun wq sq => (Runs.len_sl Tryd.underlying54 rfl (by rw [hb1_2.1]))) ?_; exact Wanted.guard (dj := 17) (by rfl) (evb (by rfl) b3) (by rfl)
 refine AWH.step 7 rfl (by decide) (by kernel_rfl) (fun inv_ hs_ hk_ hc_ hn_ => ?_); refine WL.on ?_ ?_; exact Wg 17 b3
 have i0 := (St.pickT (L := [_, _, _, _, _, _, _]) a1 [1, 2, 3, 4, 0, 5, 6] (by decide))
 have o0 := St.hide (A := [_, _, _, _]) (B := [_, _, _]) (T := d0) (R := R) i0
 obtain ⟨k9, l0, g5, g6, l1, i1, o1, H⟩ := H
 refine WL.call Wanted.none ent30 rfl (disk_Disk_Pending.calls w g4 d0 (.sl a9 b1 a7 c7 9 1 :: .sl a4 a5 a3 c4 25 1 :: oM a6 a1_0 A1_1 n1_1 c1_1 A1_2 n1_2 c1_2 a1_3 a1_4 A1_5 n1_5 c1_5 57 :: R) j8 j9 d1 d2 k0 b0 b5 b6 b7 d3 b8 b9 c0 d4 c1 c2 c3 d5  o0 (k1) (k2.mono (fun _ h_ => c5.1 _ h_)) (k3) (k4.mono (fun _ h_ => c5.1 _ h_)) (k5) (k6.mono (fun _ h_ => c5.1 _ h_)) k9 l0 g5 g6 l1 i1 o1) ?_
 rintro _ i2 ⟨e7, e8, e9, f0, g7, f1, f2, f3, g8, f4, f5, f6, g9, a2, l2, l3, l4, l5, l6, l7, rfl, o2⟩
 have b2 : St w i2 (oD b0 e8 e9 f0 f1 f2 f3 g5 g6 f4 f5 f6 95 :: .sl e8 f0 e9 g7 25 1 :: .sl f1 f3 f2 g8 124 2 :: .sl f4 f6 f5 g9 48 2 :: .sl a9 b1 a7 c7 9 1 :: .sl a4 a5 a3 c4 25 1 :: oM a6 a1_0 A1_1 n1_1 c1_1 A1_2 n1_2 c1_2 a1_3 a1_4 A1_5 n1_5 c1_5 57 :: (e7 ++ R)) := St.unhide (A := [_, _, _, _]) (B := [_, _, _]) (T := e7) (R := R) o2
 refine ⟨_, rfl, ?_⟩
 refine WL.nil ?_
 refine AWH.back (St.subset a0 b2 (mc 4 rfl (mc 5 rfl (mc 6 rfl (mem_TR (A := [_, _, _, _, _, _, _]) (fun _ h_ => a2.1 _ h_)))))) inv_ hs_ hk_ hc_ hn_ ?_
 refine AWH.take 11 rfl (by decide) (by kernel_rfl) (by kernel_rfl) (St.subset a0 b2 (mc 4 rfl (mc 5 rfl (mc 6 rfl (mem_TR (A := [_, _, _, _, _, _, _]) (fun _ h_ => a2.1 _ h_)))))) ?_ (fun wq sq => (Runs.neq rfl rfl rfl)) ?_; exact Wanted.guard (dj := 17) (by rfl) (evb (by rfl) b3) (by rfl)
 refine AWH.kn (St.subset a0 b2 (mc 4 rfl (mc 5 rfl (mc 6 rfl (mem_TR (A := [_, _, _, _, _, _, _]) (fun _ h_ => a2.1 _ h_)))))) fun zC2 => ?_
 refine AWH.tk 12 rfl zC2 (fun wq sq => (Runs.pick_f (evb rfl b3) rfl)) ?_
 refine AWH.tk 13 rfl zC2 (fun wq sq => (Runs.move rfl)) ?_
 rcases H with ⟨i3, H⟩ | ⟨i3, H⟩
 ·have a8 : (i1 != (l1_2.length : Int)) = true := (bne_iff_ne.mpr i3)
  refine AWH.takeoff 14 rfl (by decide) (by kernel_rfl) (by kernel_rfl) (St.subset a0 b2 (mc 4 rfl (mc 5 rfl (mc 6 rfl (mem_TR (A := [_, _, _, _, _, _, _]) (fun _ h_ => a2.1 _ h_)))))) ?_ ?_; exact Wanted.guard (dj := 25) (by rfl) (evb (by rfl) a8) (by rfl)
  refine AWH.takeoff 15 rfl (by decide) (by kernel_rfl) (by kernel_rfl) (St.subset a0 b2 (mc 4 rfl (mc 5 rfl (mc 6 rfl (mem_TR (A := [_, _, _, _, _, _, _]) (fun _ h_ => a2.1 _ h_)))))) ?_ ?_; exact Wanted.guard (dj := 25) (by rfl) (evb (by rfl) a8) (by rfl)
  refine AWH.takeoff 16 rfl (by decide) (by kernel_rfl) (by kernel_rfl) (St.subset a0 b2 (mc 4 rfl (mc 5 rfl (mc 6 rfl (mem_TR (A := [_, _, _, _, _, _, _]) (fun _ h_ => a2.1 _ h_)))))) ?_ ?_; exact Wanted.guard (dj := 25) (by rfl) (evb (by rfl) a8) (by rfl)
  refine AWH.takeoff 17 rfl (by decide) (by kernel_rfl) (by kernel_rfl) (St.subset a0 b2 (mc 4 rfl (mc 5 rfl (mc 6 rfl (mem_TR (A := [_, _, _, _, _, _, _]) (fun _ h_ => a2.1 _ h_)))))) ?_ ?_; exact Wanted.guard (dj := 25) (by rfl) (evb (by rfl) a8) (by rfl)
  refine AWH.takeoff 18 rfl (by decide) (by kernel_rfl) (by kernel_rfl) (St.subset a0 b2 (mc 4 rfl (mc 5 rfl (mc 6 rfl (mem_TR (A := [_, _, _, _, _, _, _]) (fun _ h_ => a2.1 _ h_)))))) ?_ ?_; exact Wanted.guard (dj := 25) (by rfl) (evb (by rfl) a8) (by rfl)
  refine AWH.takeoff 19 rfl (by decide) (by kernel_rfl) (by kernel_rfl) (St.subset a0 b2 (mc 4 rfl (mc 5 rfl (mc 6 rfl (mem_TR (A := [_, _, _, _, _, _, _]) (fun _ h_ => a2.1 _ h_)))))) ?_ ?_; exact Wanted.guard (dj := 25) (by rfl) (evb (by rfl) a8) (by rfl)
  refine AWH.tail (by kernel_rfl) ?_
  refine AW.takeoff 20 rfl (by kernel_rfl) (by kernel_rfl) (by kernel_rfl)  ?_ ?_; exact Wanted.guard (dj := 25) (by rfl) (evb (by rfl) a8) (by rfl)
  refine AW.tk 21 rfl (fun _ => (Runs.pick_t (evb rfl a8) rfl)) ?_
  refine AW.done (by kernel_rfl) ?_
  refine QW.then_n ?_
  refine CW.sub [(4, .bool false), (5, .slice a4 a3 a5), (6, .slice a9 a7 b1), (33, .bool true)] ⟨rfl, rfl, rfl, rfl, trivial⟩ ?_
  refine CW.ct rfl rfl ?_
  refine cr (WL.as rfl (wn (CW.ret (QW.then_r ?_))))
  obtain ⟨rfl, rfl, rfl, rfl, rfl, rfl⟩ := H
  exact QW.ret1 rfl rfl ⟨e7, e8, e9, f0, g7, f1, f2, f3, g8, f4, f5, f6, g9, ((c6.trans c5).trans a2), l2, l3, l4, l5, l6, l7, rfl, (St.pickT (L := [_, _, _, _, _, _, _]) b2 [0, 1, 2, 3] (by decide))⟩
 have a8 : (i1 != (l1_2.length : Int)) = false := (bne_eq_false_iff_eq.mpr (Decidable.not_not.mp i3))
 refine AWH.take 14 rfl (by decide) (by kernel_rfl) (by kernel_rfl) (St.subset a0 b2 (mc 4 rfl (mc 5 rfl (mc 6 rfl (mem_TR (A := [_, _, _, _, _, _, _]) (fun _ h_ => a2.1 _ h_)))))) ?_ (fun wq sq => (Runs.move rfl)) ?_; exact Wanted.guard (dj := 25) (by rfl) (evb (by rfl) a8) (by rfl)
 refine AWH.take 17 rfl (by decide) (by kernel_rfl) (by kernel_rfl) (St.subset a0 b2 (mc 4 rfl (mc 5 rfl (mc 6 rfl (mem_TR (A := [_, _, _, _, _, _, _]) (fun _ h_ => a2.1 _ h_)))))) ?_ (fun wq sq => (Runs.fieldAddr (off := 5) (p := 5) fld57_5 rfl rfl rfl)) ?_; exact Wanted.guard (dj := 25) (by rfl) (evb (by rfl) a8) (by rfl)
 refine AWH.take 18 rfl (by decide) (by kernel_rfl) (by kernel_rfl) (St.subset a0 b2 (mc 4 rfl (mc 5 rfl (mc 6 rfl (mem_TR (A := [_, _, _, _, _, _, _]) (fun _ h_ => a2.1 _ h_)))))) ?_ (fun wq sq => (Runs.load nagg55 rfl (sq.cell (k := 2) rfl (pa (.slice A1_5 n1_5 c1_5) ((ci a1_0) ++ ((cl A1_1 n1_1 c1_1) ++ ((cl A1_2 n1_2 c1_2) ++ ((ci a1_3) ++ (cb a1_4))))) [])))) ?_; exact Wanted.guard (dj := 25) (by rfl) (evb (by rfl) a8) (by rfl)
 refine AWH.take 19 rfl (by decide) (by kernel_rfl) (by kernel_rfl) (St.subset a0 b2 (mc 4 rfl (mc 5 rfl (mc 6 rfl (mem_TR (A := [_, _, _, _, _, _, _]) (fun _ h_ => a2.1 _ h_)))))) ?_ (fun wq sq => (Runs.len_sl Tryd.underlying55 rfl (by rw [hb1_5.1]))) ?_; exact Wanted.guard (dj := 25) (by rfl) (evb (by rfl) a8) (by rfl)
 refine AWH.step 15 rfl (by decide) (by kernel_rfl) (fun inv_ hs_ hk_ hc_ hn_ => ?_); refine WL.on ?_ ?_; exact Wg 25 a8
 have o3 := St.hide (A := [_, _, _, _]) (B := [_, _, _]) (T := e7) (R := R) b2
 obtain ⟨l8, l9, h0, h1, m0, h2, o4, H⟩ := H
 refine WL.call Wanted.none ent13 rfl (disk_Disk_Ops.calls w i2 e7 (.sl a9 b1 a7 c7 9 1 :: .sl a4 a5 a3 c4 25 1 :: oM a6 a1_0 A1_1 n1_1 c1_1 A1_2 n1_2 c1_2 a1_3 a1_4 A1_5 n1_5 c1_5 57 :: R) k9 l0 g5 g6 l1 b0 e8 e9 f0 g7 f1 f2 f3 g8 f4 f5 f6 g9  o3 (l2) l3 (l4) l5 (l6) l7 l8 l9 h0 h1 m0 h2 o4) ?_
 rintro _ o5 ⟨f9, d7, d8, d9, g0, e0, e1, e2, g1, e3, e4, e5, g2, m1, m2, m3, m4, e6, i4, i5, i6, i7, i8, i9, o6, q2, rfl, o7⟩
 have h3 : St w o5 (oD b0 d7 d8 d9 e0 e1 e2 h0 h1 e3 e4 e5 95 :: .sl d7 d9 d8 g0 25 1 :: .sl e0 e2 e1 g1 124 2 :: .sl e3 e5 e4 g2 48 2 :: .sl m1 m3 m2 m4 48 2 :: .sl a9 b1 a7 c7 9 1 :: .sl a4 a5 a3 c4 25 1 :: oM a6 a1_0 A1_1 n1_1 c1_1 A1_2 n1_2 c1_2 a1_3 a1_4 A1_5 n1_5 c1_5 57 :: (f9 ++ R)) := St.unhide (A := [_, _, _, _, _]) (B := [_, _, _]) (T := f9) (R := R) o7
 refine ⟨_, rfl, ?_⟩
 refine WL.nil ?_
 refine AWH.back (St.subset a0 h3 (mc 5 rfl (mc 6 rfl (mc 7 rfl (mem_TR (A := [_, _, _, _, _, _, _, _]) (fun _ h_ => e6.1 _ (a2.1 _ h_))))))) inv_ hs_ hk_ hc_ hn_ ?_
 refine AWH.step 16 rfl (by decide) (by kernel_rfl) (fun inv_ hs_ hk_ hc_ hn_ => ?_); refine WL.on ?_ ?_; exact Wg 25 a8
 refine WL.v (Runs.len_sl Tryd.underlying43 rfl (by rw [o6])) ?_
 refine WL.nil ?_
 refine AWH.back (St.subset a0 h3 (mc 5 rfl (mc 6 rfl (mc 7 rfl (mem_TR (A := [_, _, _, _, _, _, _, _]) (fun _ h_ => e6.1 _ (a2.1 _ h_))))))) inv_ hs_ hk_ hc_ hn_ ?_
 refine AWH.tail (by kernel_rfl) ?_
 refine AW.take 20 rfl (by kernel_rfl) (by kernel_rfl) (by kernel_rfl) ?_ (fun _ => (Runs.neq rfl rfl rfl)) ?_; exact Wanted.guard (dj := 25) (by rfl) (evb (by rfl) a8) (by rfl)
 refine AW.tk 21 rfl (fun _ => (Runs.pick_f (evb rfl a8) rfl)) ?_
 refine AW.done (by kernel_rfl) ?_
 refine QW.then_n ?_
 refine CW.sub [(4, .bool false), (5, .slice a4 a3 a5), (6, .slice a9 a7 b1), (33, .bool ((h2.length : Int) != (l1_5.length : Int)))] ⟨rfl, rfl, rfl, rfl, trivial⟩ ?_
 rcases H with ⟨j0, H⟩ | ⟨j0, H⟩
 ·have j1 : ((h2.length : Int) != (l1_5.length : Int)) = true := (bne_iff_ne.mpr j0)
  refine CW.ct rfl j1 ?_
  refine cr (WL.as rfl (wn (CW.ret (QW.then_r ?_))))
  obtain ⟨rfl, rfl, rfl, rfl, rfl, rfl⟩ := H
  exact QW.ret1 rfl rfl ⟨f9, d7, d8, d9, g0, e0, e1, e2, g1, e3, e4, e5, g2, (((c6.trans c5).trans a2).trans e6), i4, i5, i6, i7, i8, i9, rfl, (St.pickT (L := [_, _, _, _, _, _, _, _]) h3 [0, 1, 2, 3] (by decide))⟩
 have j1 : ((h2.length : Int) != (l1_5.length : Int)) = false := (bne_eq_false_iff_eq.mpr (Decidable.not_not.mp j0))
 refine CW.cf rfl j1 ?_
 refine CW.skip (QW.then_n (CW.seq (cr (WL.as rfl (wn (CW.block ?_))))))
 obtain ⟨o8, H⟩ := H
 refine CW.sub [(4, .bool false), (5, .slice a4 a3 a5), (6, .slice a9 a7 b1), (7, .int .i64 0)] ⟨rfl, rfl, rfl, rfl, trivial⟩ ?_
 refine CW.loop (fun kL1 l_ w_ => ∃ (f7 : Pool) (g3 : Bool) (b4 : Int), l_ = [(4, .bool g3), (5, .slice a4 a3 a5), (6, .slice a9 a7 b1), (7, .int .i64 b4)] ∧ reliquarylaw13_sameDisk.L1 ls0_0 ls0_1 as0_2 as0_3 ls0_4 ar0 c9 d6 l8 l9 h0 h1 m0 kL1 g3 b4 ∧ (Pl f9 f7) ∧ St w w_ (oD b0 d7 d8 d9 e0 e1 e2 h0 h1 e3 e4 e5 95 :: .sl d7 d9 d8 g0 25 1 :: .sl e0 e2 e1 g1 124 2 :: .sl e3 e5 e4 g2 48 2 :: .sl m1 m3 m2 m4 48 2 :: .sl a9 b1 a7 c7 9 1 :: .sl a4 a5 a3 c4 25 1 :: oM a6 a1_0 A1_1 n1_1 c1_1 A1_2 n1_2 c1_2 a1_3 a1_4 A1_5 n1_5 c1_5 57 :: (f7 ++ R))) (k := o8) ⟨f9, false, 0, rfl, H, Pl.refl, h3⟩ (fun _ _ h => by obtain ⟨_, _, _, _, h, _⟩ := h; exact h.elim) ?_
 rintro kL1 q3 q4 ⟨f7, g3, b4, rfl, H, c8, h4⟩
 refine CW.seq (cr (WL.mv rfl (WL.mv rfl ?_)))
 refine WL.v (Runs.len_sl Tryd.underlying76 rfl (by rw [h8])) ?_
 refine WL.v (Runs.lss rfl rfl rfl) ?_
 refine wn ?_
 rcases H with ⟨j2, H⟩ | ⟨j2, H⟩
 ·have j3 : (decide (b4 < (c9.length : Int))) = true := (decide_eq_true j2)
  refine CW.ct rfl j3 ?_
  refine CW.skip (QW.then_n (CW.seq (CW.block (CW.seq ?_))))
  refine CW.region_qa wide (by kernel_rfl) h4 ?_
  refine HL.mv rfl (HL.mv rfl ?_)
  obtain ⟨⟨o9, p0⟩, H⟩ := H
  obtain ⟨q5, m5, p1, p2, p3⟩ := el_get (i := (b4).toNat) (h4.src_sl (k := 6) rfl) (n2.mono (fun _ h_ => c8.1 _ (e6.1 _ (a2.1 _ (c5.1 _ h_))))) (fz25 w) (by decide) (by omega)
  obtain ⟨p4, p5, p6, j4, m6⟩ := inv25 p3
  replace j4 : p1 = (cl p4 p5 p6) := j4
  subst j4
  refine HL.v (fun wq sq => (Runs.indexAddr Tryd.underlying76 cells25 (by decide) rfl m5 rfl o9 (by rw [show a3 = c9.length from h8]; exact p0) (o := (b4.toNat) * 1) (by first | rfl | omega))) ?_
  refine HL.v (fun wq sq => (Runs.load nagg25 rfl (Src.cellAt (j := 0) (Src.cut (sq.src_sl (k := 6) rfl) m5 p2) rfl))) ?_
  refine HL.v (fun wq sq => (Runs.bytes_str Tryd.underlying25 Tryd.underlying5 Tryd.underlying9 rfl ((m6.2.2.at sq (mem_T (A := [_, _, _, _, _, _, _, _]) (fun _ h_ => h_)))) m6.1)) ?_
  refine HL.mv rfl (HL.mv rfl ?_)
  obtain ⟨⟨p7, p8⟩, H⟩ := H
  obtain ⟨q6, m7, p9, q0, q1⟩ := el_get (i := (b4).toNat) (h4.src_sl (k := 5) rfl) (n7.mono (fun _ h_ => c8.1 _ (e6.1 _ (a2.1 _ h_)))) (fz9 w) (by decide) (by omega)
  obtain j5 := inv9 q1
  replace j5 : p9 = (ct (gx d6 (b4.toNat))) := j5
  subst j5
  refine HL.v (fun wq sq => (Runs.indexAddr Tryd.underlying121 cells9 (by decide) rfl m7 rfl p7 (by rw [show a7 = d6.length from k8]; exact p8) (o := (b4.toNat) * 1) (by first | rfl | omega))) ?_
  refine HL.v (fun wq sq => (Runs.load nagg9 rfl (Src.cellAt (j := 0) (Src.cut (sq.src_sl (k := 5) rfl) m7 q0) rfl))) ?_
  refine HL.v (fun wq sq => (Runs.nes rfl rfl rfl)) ?_
  refine HL.nil (fun q7 m8 => ?_)
  refine wn ?_
  rcases H with ⟨j6, H⟩ | ⟨j6, H⟩
  ·have j7 : (!((strOfNums (gx c9 (b4.toNat))).toList == (gx d6 (b4.toNat)).toList)) = true := (not_t (beq_eq_false_iff_ne.mpr j6))
   refine CW.ct rfl j7 ?_
   refine cr (WL.as rfl (wn (CW.ret (QW.blk_r (QW.then_r (QW.then_r (QW.blk_r (QW.then_r ?_))))))))
   obtain ⟨rfl, rfl, rfl, rfl, rfl, rfl⟩ := H
   exact QW.ret1 rfl rfl ⟨f7, d7, d8, d9, g0, e0, e1, e2, g1, e3, e4, e5, g2, ((((c6.trans c5).trans a2).trans e6).trans c8), i4, (i5.mono (fun _ h_ => c8.1 _ h_)), i6, (i7.mono (fun _ h_ => c8.1 _ h_)), i8, (i9.mono (fun _ h_ => c8.1 _ h_)), rfl, (St.pickT (L := [_, _, _, _, _, _, _, _]) m8 [0, 1, 2, 3] (by decide))⟩
  have j7 : (!((strOfNums (gx c9 (b4.toNat))).toList == (gx d6 (b4.toNat)).toList)) = false := (not_f (beq_iff_eq.mpr (Decidable.not_not.mp j6)))
  refine CW.cf rfl j7 ?_
  refine CW.skip (QW.blk_n (QW.then_n (CW.region (WL.mv rfl ?_))))
  refine WL.v (Runs.add rfl rfl rfl) ?_
  refine WL.as rfl (WL.nil ?_)
  exact QW.at _ (by repeat' constructor) ⟨f7, g3, IntKind.i64.wrap (b4 + 1), rfl, H, c8, m8⟩
 have j3 : (decide (b4 < (c9.length : Int))) = false := (decide_eq_false j2)
 refine CW.cf rfl j3 ?_
 refine CW.exit (QW.then_x (QW.then_x (QW.blk_x (QW.then_n ?_))))
 refine CW.sub [(4, .bool g3)] ⟨rfl, trivial⟩ ?_
 refine cr (WL.as rfl (wn (CW.ret ?_)))
 obtain ⟨rfl, rfl, rfl, rfl, rfl, rfl⟩ := H
 exact QW.ret1 rfl rfl ⟨f7, d7, d8, d9, g0, e0, e1, e2, g1, e3, e4, e5, g2, ((((c6.trans c5).trans a2).trans e6).trans c8), i4, (i5.mono (fun _ h_ => c8.1 _ h_)), i6, (i7.mono (fun _ h_ => c8.1 _ h_)), i8, (i9.mono (fun _ h_ => c8.1 _ h_)), rfl, (St.pickT (L := [_, _, _, _, _, _, _, _]) h4 [0, 1, 2, 3] (by decide))⟩
/-! ### reliquarylaw13_JournalSeals: function 5 -/
def reliquarylaw13_JournalSeals.rel (l0 : List Int) (l1 : List R42) (a2 : Int) (a3 : Int)  : Prop := (reliquarylaw13_awake.rel  ∧ (((l1.length : Int) = 0 ∧ True) ∨ (¬ ((l1.length : Int) = 0) ∧ (((l1.length : Int) > 6 ∧ True) ∨ (¬ ((l1.length : Int) > 6) ∧ (∃ (a4 : List R25) (a5 : List R124) (a6 : Int) (a7 : Bool) (a8 : List R48) (g0 : Int), disk_New.rel 8 (some (a4, a5, a6, a7, a8)) g0 ∧ (∃ (a9 : Int) (b0 : List R145) (b1 : List R145) (b2 : Int) (b3 : Bool) (b4 : List R160) (g1 : Int), reliquaryref06_New.rel 8 a9 b0 b1 b2 b3 b4 g1 ∧ (∃ (b5 : List Int) (b6 : Int) (b7 : Int) (b8 : Int) (b9 : Int) (c0 : List Int) (c1 : Int) (c2 : Int) (c3 : List R25) (c4 : List R124) (c5 : Int) (c6 : Bool) (c7 : List R48) (g2 : Int), journal_New.rel a4 a5 a6 a7 a8 l0 1 7 (IntKind.u64.wrap (Int.tmod a2 7)) 0 (z32) (IntKind.u64.wrap ((IntKind.u64.wrap a3) + 1)) 1099511627776 c3 c4 c5 c6 c7 (some (b5, b6, b7, b8, b9, c0, c1, c2)) g2 ∧ (∃ (c8 : List Int) (c9 : Int) (d0 : Int) (d1 : Int) (d2 : Int) (d3 : List Int) (d4 : Int) (d5 : Int) (d6 : Int), reliquaryref13_New.rel 8 l0 1 7 (IntKind.u64.wrap (Int.tmod a2 7)) 0 (z32) (IntKind.u64.wrap ((IntKind.u64.wrap a3) + 1)) 1099511627776 c8 c9 d0 d1 d2 d3 d4 d5 d6 ∧ (∃ (a0 : List R42), reliquarylaw13_images.rel l1 false a0 ∧ (∃ (d7 : List R25) (d8 : List R124) (d9 : Int) (e0 : Bool) (e1 : List R48) (g3 : List Int) (g4 : Int) (g5 : Int) (g6 : Int) (g7 : Int) (g8 : List Int) (g9 : Int) (h0 : Int) (e2 : Int) (e3 : Int) (e4 : List Int) (e5 : Int), journal_Journal_Append.rel c3 c4 c5 c6 c7 b5 b6 b7 b8 b9 c0 c1 c2 a0 d7 d8 d9 e0 e1 g3 g4 g5 g6 g7 g8 g9 h0 e2 e3 e4 e5 ∧ (∃ (e6 : List R116), reliquarylaw13_modelOf.rel a0 e6 ∧ (∃ (e7 : Int) (e8 : List R145) (e9 : List R145) (f0 : Int) (f1 : Bool) (f2 : List R160) (h1 : List Int) (h2 : Int) (h3 : Int) (h4 : Int) (h5 : Int) (h6 : List Int) (h7 : Int) (h8 : Int) (f3 : Int) (f4 : Int) (f5 : List Int) (f6 : Int), reliquaryref13_Append.rel a9 b0 b1 b2 b3 b4 c8 c9 d0 d1 d2 d3 d4 d5 e6 e7 e8 e9 f0 f1 f2 h1 h2 h3 h4 h5 h6 h7 h8 f3 f4 f5 f6 ∧ (d6 = 0 ∧ (e5 = 0 ∧ (f6 = 0 ∧ (∃ (f7 : Int) (f8 : Int) (a1 : List Int), reliquarylaw13_stateOf.rel e2 e3 e4 f7 f8 a1 ∧ (a1.length = 32 ∧ (((f7 == f3) && ((f8 == f4) && ((a1 == f5) && true))) = true ∧ (∃ (h9 : List R25) (i0 : List R124) (i1 : Int) (i2 : Bool) (i3 : List R48) (f9 : Bool), reliquarylaw13_sameDisk.rel d7 d8 d9 e0 e1 e7 e8 e9 f0 f1 f2 h9 i0 i1 i2 i3 f9 ∧ f9 = true))))))))))))))))))))
set_option maxHeartbeats 4000000 in
theorem reliquarylaw13_JournalSeals.calls (w : World) (l0 : List Int) (l1 : List R42) (a2 : Int) (a3 : Int) (A1 : Option Addr) (n1 : Nat) (c1 : Nat)  (hG0 : Src w (sp 0) (iv .u32 tab0)) (hG1 : Src w (sp 1) (iv .i64 tab1)) (hl0 : l0.length = 32) (hb1 : HS w [] [] A1 n1 c1 (f42 w) l1)  (H : reliquarylaw13_JournalSeals.rel l0 l1 a2 a3 ) :
  Calls Tryd.prog 5 #[.agg (iv .u8 l0).toArray, .slice A1 n1 c1, .int .u8 a2, .int .u16 a3] w fun e w' => e = .returned (.bool true) ∧ Below w.heap.size w w' := by
 refine CW.enter Tryd.func5 rfl (n := 111) rfl [.agg (iv .u8 l0).toArray, .slice A1 n1 c1, .int .u8 a2, .int .u16 a3] (Nat.le_of_ble_eq_true rfl) ?_
 refine CW.sub [(0, .agg (iv .u8 l0).toArray), (1, .slice A1 n1 c1), (2, .int .u8 a2), (3, .int .u16 a3)] ⟨rfl, rfl, rfl, rfl, trivial⟩ ?_
 obtain ⟨T, R, hT, hR, st0⟩ := St.start w
 have hT0 : Pl [] T := ⟨fun _ h_ => (by cases h_), fun _ => hT⟩
 refine cr ?_
 refine WL.box st0 rfl rfl ?_
 intro e9 A2 s2
 refine WL.as rfl (WL.nx ?_)
 obtain ⟨A3, H⟩ := H
 refine WL.call Wanted.none ent8 rfl (reliquarylaw13_awake.calls A2 (hG0.ext s2) (hG1.ext s2) A3) ?_
 rintro _ s3 ⟨rfl, A4⟩
 have s4 : St w s3 (.cells e9 (iv .u8 l0) 23 :: (T ++ R)) := s2.below A4
 refine ⟨_, rfl, ?_⟩
 refine WL.as rfl (wn (CW.seq (cr (WL.mv rfl ?_))))
 refine WL.v (Runs.not rfl rfl) ?_
 refine wn ?_
 refine CW.cf rfl rfl ?_
 refine CW.skip (QW.then_n (CW.seq (cr (WL.mv rfl ?_))))
 refine WL.v (Runs.len_sl Tryd.underlying40 rfl (by rw [hb1.1])) ?_
 refine WL.v (Runs.eql rfl rfl rfl) ?_
 refine WL.mv rfl ?_
 rcases H with ⟨s5, H⟩ | ⟨s5, H⟩
 ·have o3 : ((l1.length : Int) == 0) = true := (beq_iff_eq.mpr s5)
  refine WL.off ?_ ?_; exact Wg 32 o3
  refine WL.off ?_ ?_; exact Wg 32 o3
  refine WL.off ?_ ?_; exact Wg 32 o3
  refine WL.v (Runs.pick_t (evb rfl o3) rfl) ?_
  refine wn ?_
  refine CW.sub [(1, .slice A1 n1 c1), (2, .int .u8 a2), (3, .int .u16 a3), (4, .pointer (sp e9)), (8, .bool false), (36, .bool true)] (by repeat' constructor) ?_
  refine CW.ct rfl rfl ?_
  refine cr (WL.as rfl (wn (CW.ret (QW.then_r ?_))))
  exact QW.ret1 rfl rfl ⟨rfl, s4.ext⟩
 have o3 : ((l1.length : Int) == 0) = false := (beq_eq_false_iff_ne.mpr s5)
 refine WL.on ?_ ?_; exact Wg 32 o3
 refine WL.mv rfl ?_
 refine WL.on ?_ ?_; exact Wg 32 o3
 refine WL.v (Runs.len_sl Tryd.underlying40 rfl (by rw [hb1.1])) ?_
 refine WL.on ?_ ?_; exact Wg 32 o3
 refine WL.v (Runs.gtr rfl rfl rfl) ?_
 refine WL.v (Runs.pick_f (evb rfl o3) rfl) ?_
 refine wn ?_
 refine CW.sub [(1, .slice A1 n1 c1), (2, .int .u8 a2), (3, .int .u16 a3), (4, .pointer (sp e9)), (8, .bool false), (36, .bool (decide ((l1.length : Int) > 6)))] (by repeat' constructor) ?_
 rcases H with ⟨s6, H⟩ | ⟨s6, H⟩
 ·have s7 : (decide ((l1.length : Int) > 6)) = true := (decide_eq_true s6)
  refine CW.ct rfl s7 ?_
  refine cr (WL.as rfl (wn (CW.ret (QW.then_r ?_))))
  exact QW.ret1 rfl rfl ⟨rfl, s4.ext⟩
 have s7 : (decide ((l1.length : Int) > 6)) = false := (decide_eq_false s6)
 refine CW.cf rfl s7 ?_
 refine CW.skip (QW.then_n (cr ?_))
 have A5 := St.hide (A := []) (B := [_]) (T := T) (R := R) s4
 obtain ⟨s8, s9, n9, o0, t0, A6, A7, H⟩ := H
 refine WL.call Wanted.none ent11 rfl (disk_New.calls_obj w s3 T (.cells e9 (iv .u8 l0) 23 :: R) 8  A5 s8 s9 n9 o0 t0 A6 (some (s8, s9, n9, o0, t0)) rfl A7) ?_
 rintro _ t1 ⟨p9, a1, k6, k7, k8, p0, k9, l2, l3, p1, l4, l5, l6, p2, v1, A8, A9, B0, B1, B2, B3, rfl, B4⟩
 have B5 : St w t1 (oD a1 k6 k7 k8 k9 l2 l3 n9 o0 l4 l5 l6 95 :: .sl k6 k8 k7 p0 25 1 :: .sl k9 l3 l2 p1 124 2 :: .sl l4 l6 l5 p2 48 2 :: .cells e9 (iv .u8 l0) 23 :: (p9 ++ R)) := St.unhide (A := [_, _, _, _]) (B := [_]) (T := p9) (R := R) B4
 refine ⟨_, rfl, ?_⟩
 refine WL.mv rfl ?_
 refine WL.v (Runs.extract rfl rfl) ?_
 refine WL.v (Runs.extract rfl rfl) ?_
 refine WL.as rfl (WL.as rfl (wn ?_))
 refine CW.sub [(1, .slice A1 n1 c1), (2, .int .u8 a2), (3, .int .u16 a3), (4, .pointer (sp e9)), (8, .bool false), (10, .pointer (sp a1))] (by repeat' constructor) ?_
 refine cr ?_
 have B6 := St.hide (A := []) (B := [_, _, _, _, _]) (T := p9) (R := R) B5
 obtain ⟨b8, q0, q1, b9, c0, q2, B7, B8, H⟩ := H
 refine WL.call Wanted.none ent18 rfl (reliquaryref06_New.calls w t1 p9 (oD a1 k6 k7 k8 k9 l2 l3 n9 o0 l4 l5 l6 95 :: .sl k6 k8 k7 p0 25 1 :: .sl k9 l3 l2 p1 124 2 :: .sl l4 l6 l5 p2 48 2 :: .cells e9 (iv .u8 l0) 23 :: R) 8  B6 b8 q0 q1 b9 c0 q2 B7 B8) ?_
 rintro _ B9 ⟨p3, d9, e0, e1, e2, e3, e4, e5, e6, e7, q3, r0, r1, r2, rfl, C0⟩
 have C1 : St w B9 (oD a1 k6 k7 k8 k9 l2 l3 n9 o0 l4 l5 l6 95 :: .sl k6 k8 k7 p0 25 1 :: .sl k9 l3 l2 p1 124 2 :: .sl l4 l6 l5 p2 48 2 :: .cells e9 (iv .u8 l0) 23 :: (p3 ++ R)) := St.unhide (A := []) (B := [_, _, _, _, _]) (T := p3) (R := R) C0
 refine ⟨_, rfl, ?_⟩
 refine WL.mv rfl ?_
 refine WL.v (Runs.extract rfl rfl) ?_
 refine WL.v (Runs.extract rfl rfl) ?_
 refine WL.alloc C1 zero57 ?_
 intro b5 L0 C2
 refine WL.sm (new := ((ci b8) ++ ((cl d9 e0 e1) ++ ((cl e2 e3 e4) ++ ((ci b9) ++ ((cb c0) ++ (cl e5 e6 e7))))))) (i := 0) (pre := (([] : Cs))) (mid := ((ci 0) ++ ((cl none 0 0) ++ ((cl none 0 0) ++ ((ci 0) ++ ((cb false) ++ (cl none 0 0))))))) (post := (([] : Cs))) (ms := ((ci b8) ++ ((cl d9 e0 e1) ++ ((cl e2 e3 e4) ++ ((ci b9) ++ ((cb c0) ++ (cl e5 e6 e7))))))) C2 rfl row57 (by first | rfl | simp only [aa, an, na, ca]) rfl rfl rfl rfl rfl (one_cat oneU (one_cat oneU (one_cat oneU (one_cat oneU (one_cat oneU oneU))))) rfl ?_
 intro r3 r4
 try dsimp only [List.set] at r4
 refine WL.as rfl (WL.nx (WL.mv rfl ?_))
 refine WL.v (Runs.conv Tryd.underlying37 ⟨_, Tryd.underlying53⟩ rfl rfl) ?_
 refine WL.v (Runs.add rfl rfl rfl) ?_
 refine WL.as rfl (wn ?_)
 refine CW.sub [(1, .slice A1 n1 c1), (2, .int .u8 a2), (4, .pointer (sp e9)), (8, .bool false), (10, .pointer (sp a1)), (12, .pointer (sp b5)), (14, .int .u64 (IntKind.u64.wrap ((IntKind.u64.wrap a3) + 1)))] (by repeat' constructor) ?_
 refine cr (WL.mv rfl ?_)
 refine WL.v (Runs.rem rfl rfl (by decide) rfl) ?_
 refine WL.v (Runs.conv Tryd.underlying37 ⟨_, Tryd.underlying5⟩ rfl rfl) ?_
 refine WL.as rfl (WL.nx (WL.mv rfl ?_))
 refine WL.v (Runs.load_arr arr23 rfl (r4.blk (i := 5) rfl) hl0) ?_
 refine WL.mv rfl ?_
 refine WL.v (Runs.build_struct (ps := [(0, 1), (1, 1), (2, 32)]) (cs := ((cu (IntKind.u64.wrap (Int.tmod a2 7))) ++ ((cu 0) ++ iv .u8 (z32)))) plc39 zero39 rfl (by refine Fills.cons (o := 0) (ms := ((cu (IntKind.u64.wrap (Int.tmod a2 7))))) (show _ = some (0, ((cu (IntKind.u64.wrap (Int.tmod a2 7)))).length) by rw [show ((cu (IntKind.u64.wrap (Int.tmod a2 7)))).length = 1 from rfl] <;> rfl) rfl (leL (m := 1) (n := 34) rfl (by first | rfl | simp only [la, lc, ln, lv, List.length_replicate])) ?_; rw [show layV ((cu 0) ++ ((cu 0) ++ iv .u8 (z32))) 0 ((cu (IntKind.u64.wrap (Int.tmod a2 7)))) = ((cu (IntKind.u64.wrap (Int.tmod a2 7))) ++ ((cu 0) ++ iv .u8 (z32))) from (layV_mid (pre := (([] : Cs))) (mid := ((cu 0))) (post := ((cu 0) ++ iv .u8 (z32))) (by first | rfl | simp only [aa, an, na, ca]) rfl (Eq.trans (b := 1) rfl (Eq.symm rfl))).trans (by first | rfl | simp only [aa, an, na, ca])]; exact Fills.nil)) ?_
 refine WL.mv rfl ?_
 have t2 := (St.pickT (L := [_, _, _, _, _, _]) r4 [1, 2, 3, 4, 0, 5] (by decide))
 have C3 := St.hide (A := [_, _, _, _]) (B := [_, _]) (T := p3) (R := R) t2
 obtain ⟨m7, m8, m9, n0, n2, n3, n4, n5, v2, v3, o1, o2, v4, C4, C5, H⟩ := H
 refine WL.call Wanted.none ent12 rfl (journal_New.calls_obj w r3 p3 (oM b5 b8 d9 e0 e1 e2 e3 e4 b9 c0 e5 e6 e7 57 :: .cells e9 (iv .u8 l0) 23 :: R) s8 s9 n9 o0 t0 l0 1 7 (IntKind.u64.wrap (Int.tmod a2 7)) 0 (z32) (IntKind.u64.wrap ((IntKind.u64.wrap a3) + 1)) 1099511627776 a1 k6 k7 k8 p0 k9 l2 l3 p1 l4 l5 l6 p2  C3 (A8) (A9.mono (fun _ h_ => q3.1 _ h_)) (B0) (B1.mono (fun _ h_ => q3.1 _ h_)) (B2) (B3.mono (fun _ h_ => q3.1 _ h_)) hl0 (List.length_replicate ..) v2 v3 o1 o2 v4 m7 m8 m9 n0 n2 n3 n4 n5 C4 (some (m7, m8, m9, n0, n2, n3, n4, n5)) rfl C5) ?_
 rintro _ v5 ⟨p4, i8, i9, j0, o4, j1, j2, j3, o5, j4, j5, j6, o6, h4, g6, C6, C7, C8, C9, D0, D1, D2, D3, rfl, D4⟩
 have v6 : St w v5 (oD a1 i8 i9 j0 j1 j2 j3 o1 o2 j4 j5 j6 95 :: .sl i8 j0 i9 o4 25 1 :: .sl j1 j3 j2 o5 124 2 :: .sl j4 j6 j5 o6 48 2 :: oJ h4 a1 m7 m8 m9 n0 n2 n3 n4 n5 98 :: oM b5 b8 d9 e0 e1 e2 e3 e4 b9 c0 e5 e6 e7 57 :: .cells e9 (iv .u8 l0) 23 :: (p4 ++ R)) := St.unhide (A := [_, _, _, _, _]) (B := [_, _]) (T := p4) (R := R) D4
 refine ⟨_, rfl, ?_⟩
 refine WL.mv rfl ?_
 refine WL.v (Runs.extract rfl rfl) ?_
 refine WL.v (Runs.extract rfl rfl) ?_
 refine WL.as rfl (WL.as rfl (wn ?_))
 refine CW.sub [(1, .slice A1 n1 c1), (4, .pointer (sp e9)), (8, .bool false), (10, .pointer (sp a1)), (12, .pointer (sp b5)), (14, .int .u64 (IntKind.u64.wrap ((IntKind.u64.wrap a3) + 1))), (15, .int .u64 (IntKind.u64.wrap (Int.tmod a2 7))), (16, .pointer (sp h4)), (17, .int .i64 0)] (by repeat' constructor) ?_
 refine cr ?_
 refine WL.v (Runs.load_arr arr23 rfl (v6.blk (i := 6) rfl) hl0) ?_
 refine WL.mv rfl ?_
 refine WL.v (Runs.build_struct (ps := [(0, 1), (1, 1), (2, 32)]) (cs := ((cu (IntKind.u64.wrap (Int.tmod a2 7))) ++ ((cu 0) ++ iv .u8 (z32)))) plc60 zero60 rfl (by refine Fills.cons (o := 0) (ms := ((cu (IntKind.u64.wrap (Int.tmod a2 7))))) (show _ = some (0, ((cu (IntKind.u64.wrap (Int.tmod a2 7)))).length) by rw [show ((cu (IntKind.u64.wrap (Int.tmod a2 7)))).length = 1 from rfl] <;> rfl) rfl (leL (m := 1) (n := 34) rfl (by first | rfl | simp only [la, lc, ln, lv, List.length_replicate])) ?_; rw [show layV ((cu 0) ++ ((cu 0) ++ iv .u8 (z32))) 0 ((cu (IntKind.u64.wrap (Int.tmod a2 7)))) = ((cu (IntKind.u64.wrap (Int.tmod a2 7))) ++ ((cu 0) ++ iv .u8 (z32))) from (layV_mid (pre := (([] : Cs))) (mid := ((cu 0))) (post := ((cu 0) ++ iv .u8 (z32))) (by first | rfl | simp only [aa, an, na, ca]) rfl (Eq.trans (b := 1) rfl (Eq.symm rfl))).trans (by first | rfl | simp only [aa, an, na, ca])]; exact Fills.nil)) ?_
 refine WL.mv rfl ?_
 obtain ⟨c2, c3, c4, c5, c6, c7, c8, c9, f0, D5, H⟩ := H
 refine WL.call Wanted.none ent19 rfl (reliquaryref13_New.calls v5 8 l0 1 7 (IntKind.u64.wrap (Int.tmod a2 7)) 0 (z32) (IntKind.u64.wrap ((IntKind.u64.wrap a3) + 1)) 1099511627776 hl0 (List.length_replicate ..) c2 c3 c4 c5 c6 c7 c8 c9 f0 D5) ?_
 rintro _ D6 ⟨p5, p6, rfl, D7⟩
 have D8 := v6.call D7
 refine ⟨_, rfl, ?_⟩
 refine WL.mv rfl ?_
 refine WL.v (Runs.extract rfl rfl) ?_
 refine WL.v (Runs.extract rfl rfl) ?_
 refine WL.alloc D8 zero62 ?_
 intro h7 L1 D9
 refine WL.sm (new := (iv .u8 c2 ++ ((ci c3) ++ ((cu c4) ++ ((cu c5) ++ ((cu c6) ++ (iv .u8 c7 ++ ((cu c8) ++ (cu c9))))))))) (i := 0) (pre := (([] : Cs))) (mid := (iv .u8 (z32) ++ ((ci 0) ++ ((cu 0) ++ ((cu 0) ++ ((cu 0) ++ (iv .u8 (z32) ++ ((cu 0) ++ (cu 0))))))))) (post := (([] : Cs))) (ms := (iv .u8 c2 ++ ((ci c3) ++ ((cu c4) ++ ((cu c5) ++ ((cu c6) ++ (iv .u8 c7 ++ ((cu c8) ++ (cu c9))))))))) D9 rfl row62 (by first | rfl | simp only [aa, an, na, ca]) rfl rfl rfl (by first | rfl | simp only [la, lc, ln, lv, p5, p6]) (by first | rfl | simp only [la, lc, ln, lv, List.length_replicate]) (one_cat (one_iv _ _) (one_cat oneU (one_cat oneU (one_cat oneU (one_cat oneU (one_cat (one_iv _ _) (one_cat oneU oneU))))))) (by first | rfl | simp only [aa, an, na, ca]) ?_
 intro t3 t4
 try dsimp only [List.set] at t4
 refine WL.as rfl (wn ?_)
 refine CW.sub [(1, .slice A1 n1 c1), (8, .bool false), (10, .pointer (sp a1)), (12, .pointer (sp b5)), (16, .pointer (sp h4)), (17, .int .i64 0), (18, .pointer (sp h7)), (19, .int .i64 f0)] (by repeat' constructor) ?_
 refine cr (WL.mv rfl ?_)
 have E0 := St.hide (A := []) (B := [_, _, _, _, _, _, _, _]) (T := p4) (R := R) t4
 obtain ⟨p7, E1, H⟩ := H
 refine WL.call Wanted.none ent20 rfl (reliquarylaw13_images.calls w t3 p4 (oK h7 c2 c3 c4 c5 c6 c7 c8 c9 62 :: oD a1 i8 i9 j0 j1 j2 j3 o1 o2 j4 j5 j6 95 :: .sl i8 j0 i9 o4 25 1 :: .sl j1 j3 j2 o5 124 2 :: .sl j4 j6 j5 o6 48 2 :: oJ h4 a1 m7 m8 m9 n0 n2 n3 n4 n5 98 :: oM b5 b8 d9 e0 e1 e2 e3 e4 b9 c0 e5 e6 e7 57 :: .cells e9 (iv .u8 l0) 23 :: R) l1 false A1 n1 c1  E0 (hb1.mono (memo_T (B := [_, _, _, _, _, _, _, _]) (fun _ h_ => g6.1 _ (q3.1 _ (v1.1 _ (hT0.1 _ h_))))) (fun _ h_ => g6.1 _ (q3.1 _ (v1.1 _ (hT0.1 _ h_))))) p7 E1) ?_
 rintro _ r5 ⟨p8, b1, b2, b3, b7, g2, q4, q5, rfl, E2⟩
 have E3 : St w r5 (.sl b1 b3 b2 b7 42 2 :: oK h7 c2 c3 c4 c5 c6 c7 c8 c9 62 :: oD a1 i8 i9 j0 j1 j2 j3 o1 o2 j4 j5 j6 95 :: .sl i8 j0 i9 o4 25 1 :: .sl j1 j3 j2 o5 124 2 :: .sl j4 j6 j5 o6 48 2 :: oJ h4 a1 m7 m8 m9 n0 n2 n3 n4 n5 98 :: oM b5 b8 d9 e0 e1 e2 e3 e4 b9 c0 e5 e6 e7 57 :: .cells e9 (iv .u8 l0) 23 :: (p8 ++ R)) := St.unhide (A := [_]) (B := [_, _, _, _, _, _, _, _]) (T := p8) (R := R) E2
 refine ⟨_, rfl, ?_⟩
 refine WL.as rfl (WL.nx (WL.mv rfl (WL.mv rfl ?_)))
 have r6 := (St.pickT (L := [_, _, _, _, _, _, _, _, _]) E3 [6, 2, 3, 4, 5, 0, 1, 7, 8] (by decide))
 have E4 := St.hide (A := [_, _, _, _, _]) (B := [_, _, _, _]) (T := p8) (R := R) r6
 obtain ⟨v7, v8, m5, m6, v9, l7, l8, l9, m0, m1, m2, m3, m4, j8, j9, k0, f1, E5, H⟩ := H
 refine WL.call Wanted.none ent14 rfl (journal_Journal_Append.calls w r5 p8 (.sl b1 b3 b2 b7 42 2 :: oK h7 c2 c3 c4 c5 c6 c7 c8 c9 62 :: oM b5 b8 d9 e0 e1 e2 e3 e4 b9 c0 e5 e6 e7 57 :: .cells e9 (iv .u8 l0) 23 :: R) v2 v3 o1 o2 v4 m7 m8 m9 n0 n2 n3 n4 n5 p7 h4 a1 i8 i9 j0 o4 j1 j2 j3 o5 j4 j5 j6 o6 b1 b2 b3  E4 hG0 hG1 (C6) (C7.mono (fun _ h_ => g2.1 _ h_)) (C8) (C9.mono (fun _ h_ => g2.1 _ h_)) (D0) (D1.mono (fun _ h_ => g2.1 _ h_)) D2 D3 (HS.mk q4 (r6.cap (i := 5) rfl) (fun W_ L_ st hT => st.src_mem (hT _ (List.mem_append_right _ (List.mem_of_getElem? (i := 0) rfl)))) q5) v7 v8 m5 m6 v9 l7 l8 l9 m0 m1 m2 m3 m4 j8 j9 k0 f1 E5) ?_
 rintro _ E6 ⟨f3, h8, h9, i0, n6, i1, i2, i3, n7, i4, i5, i6, n8, f7, E7, E8, E9, F0, F1, F2, L2, L3, r7, rfl, F3⟩
 have F4 : St w E6 (oJ h4 a1 l7 l8 l9 m0 m1 m2 m3 m4 98 :: oD a1 h8 h9 i0 i1 i2 i3 m5 m6 i4 i5 i6 95 :: .sl h8 i0 h9 n6 25 1 :: .sl i1 i3 i2 n7 124 2 :: .sl i4 i6 i5 n8 48 2 :: .sl b1 b3 b2 b7 42 2 :: oK h7 c2 c3 c4 c5 c6 c7 c8 c9 62 :: oM b5 b8 d9 e0 e1 e2 e3 e4 b9 c0 e5 e6 e7 57 :: .cells e9 (iv .u8 l0) 23 :: (f3 ++ R)) := St.unhide (A := [_, _, _, _, _]) (B := [_, _, _, _]) (T := f3) (R := R) F3
 refine ⟨_, rfl, ?_⟩
 refine WL.mv rfl ?_
 refine WL.v (Runs.extract rfl rfl) ?_
 refine WL.v (Runs.extract rfl rfl) ?_
 refine WL.alloc F4 zero39 ?_
 intro e8 L4 F5
 refine WL.sm (new := ((cu j8) ++ ((cu j9) ++ iv .u8 k0))) (i := 0) (pre := (([] : Cs))) (mid := ((cu 0) ++ ((cu 0) ++ iv .u8 (z32)))) (post := (([] : Cs))) (ms := ((cu j8) ++ ((cu j9) ++ iv .u8 k0))) F5 rfl row39 (by first | rfl | simp only [aa, an, na, ca]) rfl rfl rfl (by first | rfl | simp only [la, lc, ln, lv, r7]) (by first | rfl | simp only [la, lc, ln, lv, List.length_replicate]) (one_cat oneU (one_cat oneU (one_iv _ _))) (by first | rfl | simp only [aa, an, na, ca]) ?_
 intro F6 t5
 try dsimp only [List.set] at t5
 refine WL.as rfl (wn ?_)
 refine CW.sub [(8, .bool false), (10, .pointer (sp a1)), (12, .pointer (sp b5)), (17, .int .i64 0), (18, .pointer (sp h7)), (19, .int .i64 f0), (20, .slice b1 b2 b3), (21, .pointer (sp e8)), (22, .int .i64 f1)] (by repeat' constructor) ?_
 refine CW.seq ?_
 refine CW.region_aw wide t5 (fun t6 F7 => ?_)
 obtain ⟨b6, t7⟩ : ∃ r_ : Pool, r_ = (oS e8 j8 j9 k0 39 :: oJ h4 a1 l7 l8 l9 m0 m1 m2 m3 m4 98 :: oD a1 h8 h9 i0 i1 i2 i3 m5 m6 i4 i5 i6 95 :: .sl h8 i0 h9 n6 25 1 :: .sl i1 i3 i2 n7 124 2 :: .sl i4 i6 i5 n8 48 2 :: oK h7 c2 c3 c4 c5 c6 c7 c8 c9 62 :: oM b5 b8 d9 e0 e1 e2 e3 e4 b9 c0 e5 e6 e7 57 :: .cells e9 (iv .u8 l0) 23 :: R) := ⟨_, rfl⟩
 have h5 : St w t6 (.sl b1 b3 b2 b7 42 2 :: (f3 ++ b6)) := by rw [t7]; exact St.hide (A := [_]) (B := [_, _, _, _, _, _, _, _, _]) (T := f3) (R := R) ((St.pickT (L := [_, _, _, _, _, _, _, _, _, _]) F7 [6, 0, 1, 2, 3, 4, 5, 7, 8, 9] (by decide)))
 have w0 : ∀ w_, St w w_ (.sl b1 b3 b2 b7 42 2 :: (f3 ++ b6)) → St w w_ (oS e8 j8 j9 k0 39 :: oJ h4 a1 l7 l8 l9 m0 m1 m2 m3 m4 98 :: oD a1 h8 h9 i0 i1 i2 i3 m5 m6 i4 i5 i6 95 :: .sl h8 i0 h9 n6 25 1 :: .sl i1 i3 i2 n7 124 2 :: .sl i4 i6 i5 n8 48 2 :: .sl b1 b3 b2 b7 42 2 :: oK h7 c2 c3 c4 c5 c6 c7 c8 c9 62 :: oM b5 b8 d9 e0 e1 e2 e3 e4 b9 c0 e5 e6 e7 57 :: .cells e9 (iv .u8 l0) 23 :: (f3 ++ R)) := fun w_ h_ => by rw [t7] at h_; exact St.pickT (L := [_, _, _, _, _, _, _, _, _, _]) (St.unhide (A := [_]) (B := [_, _, _, _, _, _, _, _, _]) (T := f3) (R := R) h_) [1, 2, 3, 4, 5, 6, 0, 7, 8, 9] (by decide)
 refine AWX.enter (C := fun w_ => St w w_ (.sl b1 b3 b2 b7 42 2 :: (f3 ++ b6))) (F := [0, 1, 3, 10, 11]) ?_
 refine AWX.takeP 2 rfl (by kernel_rfl) Wanted.none (fun _ => (Runs.move rfl)) ?_
 refine AWX.take 0 [4, 5, 6, 7, 8, 9, 12, 13, 14, 15] rfl (by kernel_rfl) h5 Wanted.none (fun wq sq => (Runs.load_mid row57 rfl (w0 _ sq) (i := 8) rfl (pm [] ((ci b8) ++ ((cl d9 e0 e1) ++ ((cl e2 e3 e4) ++ ((ci b9) ++ ((cb c0) ++ (cl e5 e6 e7)))))) []) rfl)) ?_
 refine AWX.take 1 [4, 5, 6, 7, 8, 9, 12, 13, 14, 15] rfl (by kernel_rfl) h5 Wanted.none (fun wq sq => (Runs.load_mid row62 rfl (w0 _ sq) (i := 7) rfl (pm [] (iv .u8 c2 ++ ((ci c3) ++ ((cu c4) ++ ((cu c5) ++ ((cu c6) ++ (iv .u8 c7 ++ ((cu c8) ++ (cu c9)))))))) [] (hm := by first | rfl | simp only [la, lc, ln, lv, p5, p6])) (by first | rfl | simp only [la, lc, ln, lv, p5, p6]))) ?_
 obtain ⟨g7, r8, H⟩ := H
 obtain ⟨g3, o7, o8, g4, g5, o9, f8, g8, g9, h0, h1, f9, h2, h3, g0, g1, f4, j7, r9, H⟩ := H
 refine AWX.join (f2 := 4) (listed2 := #[true, true, true, true, true, true, true, true, true, true, true, true, false, false, false, false]) (fun l_ w_ => ∃ (a6 : Pool) (a4 : Option Addr) (a0 : Nat) (a5 : Nat) (a7 : Cs) (b0 : Pool) (d0 : Option Addr) (d1 : Nat) (d2 : Nat) (d3 : Option Addr) (d4 : Nat) (d5 : Nat) (d6 : Option Addr) (d7 : Nat) (d8 : Nat) (a8 : Nat) (a9 : Nat), l_ = [(8, .bool false), (10, .pointer (sp a1)), (12, .pointer (sp b5)), (17, .int .i64 0), (19, .int .i64 f0), (21, .pointer (sp e8)), (22, .int .i64 f1), (23, .pointer (sp a8)), (24, .pointer (sp a9)), (82, .agg ((ci g3) ++ ((cl d0 d1 d2) ++ ((cl d3 d4 d5) ++ ((ci g4) ++ ((cb g5) ++ (cl d6 d7 d8)))))).toArray), (83, .agg (iv .u8 f8 ++ ((ci g8) ++ ((cu g9) ++ ((cu h0) ++ ((cu h1) ++ (iv .u8 f9 ++ ((cu h2) ++ (cu h3)))))))).toArray), (84, .agg ((cu g0) ++ ((cu g1) ++ iv .u8 f4)).toArray), (85, .int .i64 j7)] ∧ (Pl f3 a6) ∧ (a0 = g7.length) ∧ (HRs a6 (f116 w) a7 g7) ∧ (Pl a6 b0) ∧ (HS w b0 b0 d0 d1 d2 (f145 w) o7) ∧ (HS w b0 b0 d3 d4 d5 (f145 w) o8) ∧ (HS w b0 b0 d6 d7 d8 (f160 w) o9) ∧ (f8.length = 32) ∧ (f9.length = 32) ∧ (f4.length = 32) ∧ St w w_ (oS a9 0 0 (z32) 60 :: oK a8 (z32) 0 0 0 0 (z32) 0 0 62 :: .sl a4 a5 a0 a7 116 2 :: .sl b1 b3 b2 b7 42 2 :: (b0 ++ b6))) ?_ (fun cont_3_4_10_11_d_209 => ?_)
 ·rintro _ F8 ⟨a6, a4, a0, a5, a7, b0, d0, d1, d2, d3, d4, d5, d6, d7, d8, a8, a9, rfl, b4, f5, f6, h6, k1, k2, k3, k4, k5, i7, w1⟩
  rw [t7] at w1
  have F9 : St w F8 (oS a9 0 0 (z32) 60 :: oK a8 (z32) 0 0 0 0 (z32) 0 0 62 :: .sl a4 a5 a0 a7 116 2 :: .sl b1 b3 b2 b7 42 2 :: oS e8 j8 j9 k0 39 :: oJ h4 a1 l7 l8 l9 m0 m1 m2 m3 m4 98 :: oD a1 h8 h9 i0 i1 i2 i3 m5 m6 i4 i5 i6 95 :: .sl h8 i0 h9 n6 25 1 :: .sl i1 i3 i2 n7 124 2 :: .sl i4 i6 i5 n8 48 2 :: oK h7 c2 c3 c4 c5 c6 c7 c8 c9 62 :: oM b5 b8 d9 e0 e1 e2 e3 e4 b9 c0 e5 e6 e7 57 :: .cells e9 (iv .u8 l0) 23 :: (b0 ++ R)) := St.unhide (A := [_, _, _, _]) (B := [_, _, _, _, _, _, _, _, _]) (T := b0) (R := R) w1
  refine AWX.steps [12] (by kernel_rfl) (by decide) (List.forall_mem_cons.2 ⟨⟨_, rfl, ?_⟩, fun _ h_ => by cases h_⟩)
  refine WL.sm (new := ((ci g3) ++ ((cl d0 d1 d2) ++ ((cl d3 d4 d5) ++ ((ci g4) ++ ((cb g5) ++ (cl d6 d7 d8))))))) (i := 11) (pre := (([] : Cs))) (mid := ((ci b8) ++ ((cl d9 e0 e1) ++ ((cl e2 e3 e4) ++ ((ci b9) ++ ((cb c0) ++ (cl e5 e6 e7))))))) (post := (([] : Cs))) (ms := ((ci g3) ++ ((cl d0 d1 d2) ++ ((cl d3 d4 d5) ++ ((ci g4) ++ ((cb g5) ++ (cl d6 d7 d8))))))) F9 rfl row57 (by first | rfl | simp only [aa, an, na, ca]) rfl rfl rfl rfl rfl (one_cat oneU (one_cat oneU (one_cat oneU (one_cat oneU (one_cat oneU oneU))))) rfl ?_
  intro G0 t8
  try dsimp only [List.set] at t8
  refine WL.nil ?_
  refine AWX.back (fun h_ => absurd h_ (by decide)) ?_
  refine AWX.steps [13] (by kernel_rfl) (by decide) (List.forall_mem_cons.2 ⟨⟨_, rfl, ?_⟩, fun _ h_ => by cases h_⟩)
  refine WL.sm (new := (iv .u8 f8 ++ ((ci g8) ++ ((cu g9) ++ ((cu h0) ++ ((cu h1) ++ (iv .u8 f9 ++ ((cu h2) ++ (cu h3))))))))) (i := 1) (pre := (([] : Cs))) (mid := (iv .u8 (z32) ++ ((ci 0) ++ ((cu 0) ++ ((cu 0) ++ ((cu 0) ++ (iv .u8 (z32) ++ ((cu 0) ++ (cu 0))))))))) (post := (([] : Cs))) (ms := (iv .u8 f8 ++ ((ci g8) ++ ((cu g9) ++ ((cu h0) ++ ((cu h1) ++ (iv .u8 f9 ++ ((cu h2) ++ (cu h3))))))))) t8 rfl row62 (by first | rfl | simp only [aa, an, na, ca]) rfl rfl rfl (by first | rfl | simp only [la, lc, ln, lv, k4, k5]) (by first | rfl | simp only [la, lc, ln, lv, List.length_replicate]) (one_cat (one_iv _ _) (one_cat oneU (one_cat oneU (one_cat oneU (one_cat oneU (one_cat (one_iv _ _) (one_cat oneU oneU))))))) (by first | rfl | simp only [aa, an, na, ca]) ?_
  intro G1 t9
  try dsimp only [List.set] at t9
  refine WL.nil ?_
  refine AWX.back (fun h_ => absurd h_ (by decide)) ?_
  refine AWX.steps [14] (by kernel_rfl) (by decide) (List.forall_mem_cons.2 ⟨⟨_, rfl, ?_⟩, fun _ h_ => by cases h_⟩)
  refine WL.sm (new := ((cu g0) ++ ((cu g1) ++ iv .u8 f4))) (i := 0) (pre := (([] : Cs))) (mid := ((cu 0) ++ ((cu 0) ++ iv .u8 (z32)))) (post := (([] : Cs))) (ms := ((cu g0) ++ ((cu g1) ++ iv .u8 f4))) t9 rfl row60 (by first | rfl | simp only [aa, an, na, ca]) rfl rfl rfl (by first | rfl | simp only [la, lc, ln, lv, i7]) (by first | rfl | simp only [la, lc, ln, lv, List.length_replicate]) (one_cat oneU (one_cat oneU (one_iv _ _))) (by first | rfl | simp only [aa, an, na, ca]) ?_
  intro G2 u0
  try dsimp only [List.set] at u0
  refine WL.nil ?_
  refine AWX.back (fun h_ => absurd h_ (by decide)) ?_
  refine AWX.takeP 15 rfl (by kernel_rfl) Wanted.none (fun _ => (Runs.assign rfl)) ?_
  refine AWX.done (by kernel_rfl) ?_
  refine QW.then_n (CW.seq ?_)
  refine CW.region_qt 23 wide (by kernel_rfl) u0 ?_
  refine HL.mv rfl ?_
  refine HL.v (fun wq sq => (Runs.eql (b := true) rfl rfl (by decide))) ?_
  refine HL.mv rfl ?_
  refine HL.on ?_ ?_; exact Wanted.guard (dj := 88) (by rfl) (by rfl) (by rfl)
  refine HL.mv rfl ?_
  refine HL.on ?_ ?_; exact Wanted.guard (dj := 88) (by rfl) (by rfl) (by rfl)
  refine HL.v (fun wq sq => (Runs.eql rfl rfl rfl)) ?_
  refine HL.v (fun wq sq => (Runs.pick_t rfl rfl)) ?_
  refine HL.mv rfl ?_
  obtain ⟨G3, H⟩ := H
  have u1 : (f0 == 0) = true := (beq_iff_eq.mpr G3)
  refine HL.on ?_ ?_; exact Wanted.guard (dj := 92) (by rfl) (evb (by rfl) u1) (by rfl)
  refine HL.mv rfl ?_
  refine HL.on ?_ ?_; exact Wanted.guard (dj := 92) (by rfl) (evb (by rfl) u1) (by rfl)
  refine HL.v (fun wq sq => (Runs.eql rfl rfl rfl)) ?_
  refine HL.v (fun wq sq => (Runs.pick_t (evb rfl u1) rfl)) ?_
  refine HL.mv rfl ?_
  obtain ⟨G4, H⟩ := H
  have u2 : (f1 == 0) = true := (beq_iff_eq.mpr G4)
  refine HL.on ?_ ?_; exact Wanted.guard (dj := 96) (by rfl) (evb (by rfl) u2) (by rfl)
  refine HL.mv rfl ?_
  refine HL.on ?_ ?_; exact Wanted.guard (dj := 96) (by rfl) (evb (by rfl) u2) (by rfl)
  refine HL.v (fun wq sq => (Runs.eql rfl rfl rfl)) ?_
  refine HL.v (fun wq sq => (Runs.pick_t (evb rfl u2) rfl)) ?_
  refine HL.mv rfl ?_
  obtain ⟨G5, H⟩ := H
  have q6 : (j7 == 0) = true := (beq_iff_eq.mpr G5)
  refine HL.on ?_ ?_; exact Wanted.guard (dj := 100) (by rfl) (evb (by rfl) q6) (by rfl)
  refine HL.v (fun wq sq => (Runs.load_mid row39 rfl sq (i := 4) rfl (pm [] ((cu j8) ++ ((cu j9) ++ iv .u8 k0)) [] (hm := by first | rfl | simp only [la, lc, ln, lv, r7])) (by first | rfl | simp only [la, lc, ln, lv, r7]))) ?_
  refine HL.on ?_ ?_; exact Wanted.guard (dj := 100) (by rfl) (evb (by rfl) q6) (by rfl)
  obtain ⟨q7, q8, q9, G6, H⟩ := H
  obtain ⟨w2, H⟩ := H
  refine HL.call Wanted.none ent23 rfl (fun wq sq => (reliquarylaw13_stateOf.calls wq j8 j9 k0 r7 q7 q8 q9 G6).mono (by rintro _ _ ⟨_, rfl, sc⟩; exact ⟨rfl, sq.call sc⟩)) ?_
  refine HL.on ?_ ?_; exact Wanted.guard (dj := 100) (by rfl) (evb (by rfl) q6) (by rfl)
  refine HL.v (fun wq sq => (Runs.load_mid row60 rfl sq (i := 0) rfl (pm [] ((cu g0) ++ ((cu g1) ++ iv .u8 f4)) [] (hm := by first | rfl | simp only [la, lc, ln, lv, i7])) (by first | rfl | simp only [la, lc, ln, lv, i7]))) ?_
  refine HL.on ?_ ?_; exact Wanted.guard (dj := 100) (by rfl) (evb (by rfl) q6) (by rfl)
  refine HL.v (fun wq sq => (Runs.eql_top (EqTop.struct eqs60 (EqFs.cons (part_mid' (pre := (([] : Cs))) (mid := ((cu q7))) (post := ((cu q8) ++ iv .u8 q9)) (by first | rfl | simp only [aa, an, na, ca]) rfl) (part_mid' (pre := (([] : Cs))) (mid := ((cu g0))) (post := ((cu g1) ++ iv .u8 f4)) (by first | rfl | simp only [aa, an, na, ca]) rfl) (EqPl.int Tryd.underlying37) (EqFs.cons (part_mid' (pre := ((cu q7))) (mid := ((cu q8))) (post := (iv .u8 q9)) (by first | rfl | simp only [aa, an, na, ca]) rfl) (part_mid' (pre := ((cu g0))) (mid := ((cu g1))) (post := (iv .u8 f4)) (by first | rfl | simp only [aa, an, na, ca]) rfl) (EqPl.int Tryd.underlying37) (EqFs.cons (part_mid' (pre := ((cu q7) ++ (cu q8))) (mid := (iv .u8 q9)) (post := (([] : Cs))) (by first | rfl | simp only [aa, an, na, ca]) rfl) (part_mid' (pre := ((cu g0) ++ (cu g1))) (mid := (iv .u8 f4)) (post := (([] : Cs))) (by first | rfl | simp only [aa, an, na, ca]) rfl) (EqTop.place (EqTop.arr arr23 w2 i7) row23 (by first | rfl | simp only [la, lc, ln, lv, w2]) (by first | rfl | simp only [la, lc, ln, lv, i7])) EqFs.nil)))) eqg60 rfl rfl)) ?_
  refine HL.v (fun wq sq => (Runs.pick_t (evb rfl q6) rfl)) ?_
  refine HL.mv rfl ?_
  obtain ⟨G7, H⟩ := H
  have s0 : ((q7 == g0) && ((q8 == g1) && ((q9 == f4) && true))) = true := G7
  refine HL.on ?_ ?_; exact Wanted.guard (dj := 106) (by rfl) (evb (by rfl) s0) (by rfl)
  refine HL.mv rfl ?_
  refine HL.on ?_ ?_; exact Wanted.guard (dj := 106) (by rfl) (evb (by rfl) s0) (by rfl)
  refine HL.v (fun wq sq => (Runs.load_mid row57 rfl sq (i := 11) rfl (pm [] ((ci g3) ++ ((cl d0 d1 d2) ++ ((cl d3 d4 d5) ++ ((ci g4) ++ ((cb g5) ++ (cl d6 d7 d8)))))) []) rfl)) ?_
  refine HL.nil ?_
  generalize e_ : List.drop 23 _ = z_
  intro u3 G8
  subst e_
  refine WL.on ?_ ?_; exact Wg 106 s0
  have u4 := (St.pickT (L := [_, _, _, _, _, _, _, _, _, _, _, _, _]) G8 [6, 7, 8, 9, 0, 1, 2, 3, 4, 5, 10, 11, 12] (by decide))
  have G9 := St.hide (A := [_, _, _, _]) (B := [_, _, _, _, _, _, _, _, _]) (T := b0) (R := R) u4
  obtain ⟨H0, H1, w3, w4, H2, u5, H3, H⟩ := H
  refine WL.call Wanted.none ent24 rfl (reliquarylaw13_sameDisk.calls w u3 b0 (oS a9 g0 g1 f4 60 :: oK a8 f8 g8 g9 h0 h1 f9 h2 h3 62 :: .sl a4 a5 a0 a7 116 2 :: .sl b1 b3 b2 b7 42 2 :: oS e8 j8 j9 k0 39 :: oJ h4 a1 l7 l8 l9 m0 m1 m2 m3 m4 98 :: oK h7 c2 c3 c4 c5 c6 c7 c8 c9 62 :: oM b5 g3 d0 d1 d2 d3 d4 d5 g4 g5 d6 d7 d8 57 :: .cells e9 (iv .u8 l0) 23 :: R) v7 v8 m5 m6 v9 g3 o7 o8 g4 g5 o9 a1 h8 h9 i0 n6 i1 i2 i3 n7 i4 i5 i6 n8 d0 d1 d2 d3 d4 d5 d6 d7 d8  G9 (E7) (E8.mono (fun _ h_ => h6.1 _ (b4.1 _ h_))) (E9) (F0.mono (fun _ h_ => h6.1 _ (b4.1 _ h_))) (F1) (F2.mono (fun _ h_ => h6.1 _ (b4.1 _ h_))) k1 k2 k3 H0 H1 w3 w4 H2 u5 H3) ?_
  rintro _ H4 ⟨w5, w6, w7, w8, H5, w9, x0, x1, H6, x2, x3, x4, H7, L5, L6, L7, L8, L9, M0, M1, rfl, H8⟩
  have H9 : St w H4 (oD a1 w6 w7 w8 w9 x0 x1 w3 w4 x2 x3 x4 95 :: .sl w6 w8 w7 H5 25 1 :: .sl w9 x1 x0 H6 124 2 :: .sl x2 x4 x3 H7 48 2 :: oS a9 g0 g1 f4 60 :: oK a8 f8 g8 g9 h0 h1 f9 h2 h3 62 :: .sl a4 a5 a0 a7 116 2 :: .sl b1 b3 b2 b7 42 2 :: oS e8 j8 j9 k0 39 :: oJ h4 a1 l7 l8 l9 m0 m1 m2 m3 m4 98 :: oK h7 c2 c3 c4 c5 c6 c7 c8 c9 62 :: oM b5 g3 d0 d1 d2 d3 d4 d5 g4 g5 d6 d7 d8 57 :: .cells e9 (iv .u8 l0) 23 :: (w5 ++ R)) := St.unhide (A := [_, _, _, _]) (B := [_, _, _, _, _, _, _, _, _]) (T := w5) (R := R) H8
  refine ⟨_, rfl, ?_⟩
  refine WL.v (Runs.pick_t (evb rfl s0) rfl) ?_
  refine WL.as rfl (wn (CW.ret ?_))
  have hz : u5 = true := H
  exact QW.ret1 rfl (evb rfl hz) ⟨rfl, H9.ext⟩
 refine AWX.join (f2 := 5) (listed2 := #[true, true, true, true, true, true, true, true, true, true, true, false, false, false, false, false]) (fun l_ w_ => ∃ (a6 : Pool) (a4 : Option Addr) (a0 : Nat) (a5 : Nat) (a7 : Cs) (b0 : Pool) (d0 : Option Addr) (d1 : Nat) (d2 : Nat) (d3 : Option Addr) (d4 : Nat) (d5 : Nat) (d6 : Option Addr) (d7 : Nat) (d8 : Nat) (a8 : Nat), l_ = [(8, .bool false), (10, .pointer (sp a1)), (12, .pointer (sp b5)), (17, .int .i64 0), (19, .int .i64 f0), (21, .pointer (sp e8)), (22, .int .i64 f1), (23, .pointer (sp a8)), (82, .agg ((ci g3) ++ ((cl d0 d1 d2) ++ ((cl d3 d4 d5) ++ ((ci g4) ++ ((cb g5) ++ (cl d6 d7 d8)))))).toArray), (83, .agg (iv .u8 f8 ++ ((ci g8) ++ ((cu g9) ++ ((cu h0) ++ ((cu h1) ++ (iv .u8 f9 ++ ((cu h2) ++ (cu h3)))))))).toArray), (84, .agg ((cu g0) ++ ((cu g1) ++ iv .u8 f4)).toArray), (85, .int .i64 j7)] ∧ (Pl f3 a6) ∧ (a0 = g7.length) ∧ (HRs a6 (f116 w) a7 g7) ∧ (Pl a6 b0) ∧ (HS w b0 b0 d0 d1 d2 (f145 w) o7) ∧ (HS w b0 b0 d3 d4 d5 (f145 w) o8) ∧ (HS w b0 b0 d6 d7 d8 (f160 w) o9) ∧ (f8.length = 32) ∧ (f9.length = 32) ∧ (f4.length = 32) ∧ St w w_ (oK a8 (z32) 0 0 0 0 (z32) 0 0 62 :: .sl a4 a5 a0 a7 116 2 :: .sl b1 b3 b2 b7 42 2 :: (b0 ++ b6))) ?_ (fun cont_3_4_10_d_209 => ?_)
 ·rintro _ M2 ⟨a6, a4, a0, a5, a7, b0, d0, d1, d2, d3, d4, d5, d6, d7, d8, a8, rfl, b4, f5, f6, h6, k1, k2, k3, k4, k5, i7, I0⟩
  refine AWX.steps [11] (by kernel_rfl) (by decide) (List.forall_mem_cons.2 ⟨⟨_, rfl, ?_⟩, fun _ h_ => by cases h_⟩)
  refine WL.alloc I0 zero60 ?_
  intro a9 M3 x5
  refine WL.nil ?_
  refine AWX.back (fun _ => (St.subset h5 x5 (mc 3 rfl (mem_TR (A := [_, _, _, _]) (fun _ h_ => h6.1 _ (b4.1 _ h_)))))) ?_
  refine AWX.sub [(8, .bool false), (10, .pointer (sp a1)), (12, .pointer (sp b5)), (17, .int .i64 0), (19, .int .i64 f0), (21, .pointer (sp e8)), (22, .int .i64 f1), (23, .pointer (sp a8)), (24, .pointer (sp a9)), (82, .agg ((ci g3) ++ ((cl d0 d1 d2) ++ ((cl d3 d4 d5) ++ ((ci g4) ++ ((cb g5) ++ (cl d6 d7 d8)))))).toArray), (83, .agg (iv .u8 f8 ++ ((ci g8) ++ ((cu g9) ++ ((cu h0) ++ ((cu h1) ++ (iv .u8 f9 ++ ((cu h2) ++ (cu h3)))))))).toArray), (84, .agg ((cu g0) ++ ((cu g1) ++ iv .u8 f4)).toArray), (85, .int .i64 j7)] (by repeat' constructor) ?_
  exact AWX.cast (by kernel_rfl) (by kernel_rfl) (cont_3_4_10_11_d_209 _ _ ⟨a6, a4, a0, a5, a7, b0, d0, d1, d2, d3, d4, d5, d6, d7, d8, a8, a9, rfl, b4, f5, f6, h6, k1, k2, k3, k4, k5, i7, x5⟩)
 refine AWX.join (f2 := 5) (listed2 := #[true, true, true, true, true, true, true, true, true, true, false, true, false, false, false, false]) (fun l_ w_ => ∃ (a6 : Pool) (a4 : Option Addr) (a0 : Nat) (a5 : Nat) (a7 : Cs) (b0 : Pool) (d0 : Option Addr) (d1 : Nat) (d2 : Nat) (d3 : Option Addr) (d4 : Nat) (d5 : Nat) (d6 : Option Addr) (d7 : Nat) (d8 : Nat) (a9 : Nat), l_ = [(8, .bool false), (10, .pointer (sp a1)), (12, .pointer (sp b5)), (17, .int .i64 0), (19, .int .i64 f0), (21, .pointer (sp e8)), (22, .int .i64 f1), (24, .pointer (sp a9)), (82, .agg ((ci g3) ++ ((cl d0 d1 d2) ++ ((cl d3 d4 d5) ++ ((ci g4) ++ ((cb g5) ++ (cl d6 d7 d8)))))).toArray), (83, .agg (iv .u8 f8 ++ ((ci g8) ++ ((cu g9) ++ ((cu h0) ++ ((cu h1) ++ (iv .u8 f9 ++ ((cu h2) ++ (cu h3)))))))).toArray), (84, .agg ((cu g0) ++ ((cu g1) ++ iv .u8 f4)).toArray), (85, .int .i64 j7)] ∧ (Pl f3 a6) ∧ (a0 = g7.length) ∧ (HRs a6 (f116 w) a7 g7) ∧ (Pl a6 b0) ∧ (HS w b0 b0 d0 d1 d2 (f145 w) o7) ∧ (HS w b0 b0 d3 d4 d5 (f145 w) o8) ∧ (HS w b0 b0 d6 d7 d8 (f160 w) o9) ∧ (f8.length = 32) ∧ (f9.length = 32) ∧ (f4.length = 32) ∧ St w w_ (oS a9 0 0 (z32) 60 :: .sl a4 a5 a0 a7 116 2 :: .sl b1 b3 b2 b7 42 2 :: (b0 ++ b6))) ?_ (fun cont_3_4_11_d_209 => ?_)
 ·rintro _ M4 ⟨a6, a4, a0, a5, a7, b0, d0, d1, d2, d3, d4, d5, d6, d7, d8, a9, rfl, b4, f5, f6, h6, k1, k2, k3, k4, k5, i7, I1⟩
  refine AWX.steps [10] (by kernel_rfl) (by decide) (List.forall_mem_cons.2 ⟨⟨_, rfl, ?_⟩, fun _ h_ => by cases h_⟩)
  refine WL.alloc I1 zero62 ?_
  intro a8 M5 x6
  refine WL.nil ?_
  refine AWX.back (fun _ => (St.subset h5 x6 (mc 3 rfl (mem_TR (A := [_, _, _, _]) (fun _ h_ => h6.1 _ (b4.1 _ h_)))))) ?_
  refine AWX.sub [(8, .bool false), (10, .pointer (sp a1)), (12, .pointer (sp b5)), (17, .int .i64 0), (19, .int .i64 f0), (21, .pointer (sp e8)), (22, .int .i64 f1), (23, .pointer (sp a8)), (24, .pointer (sp a9)), (82, .agg ((ci g3) ++ ((cl d0 d1 d2) ++ ((cl d3 d4 d5) ++ ((ci g4) ++ ((cb g5) ++ (cl d6 d7 d8)))))).toArray), (83, .agg (iv .u8 f8 ++ ((ci g8) ++ ((cu g9) ++ ((cu h0) ++ ((cu h1) ++ (iv .u8 f9 ++ ((cu h2) ++ (cu h3)))))))).toArray), (84, .agg ((cu g0) ++ ((cu g1) ++ iv .u8 f4)).toArray), (85, .int .i64 j7)] (by repeat' constructor) ?_
  exact AWX.cast (by kernel_rfl) (by kernel_rfl) (cont_3_4_10_11_d_209 _ _ ⟨a6, a4, a0, a5, a7, b0, d0, d1, d2, d3, d4, d5, d6, d7, d8, a8, a9, rfl, b4, f5, f6, h6, k1, k2, k3, k4, k5, i7, ((St.pickT (L := [_, _, _, _]) x6 [1, 0, 2, 3] (by decide)))⟩)
 refine AWX.join (f2 := 10) (listed2 := #[true, true, true, true, false, false, false, false, false, false, true, true, false, false, false, false]) (fun l_ w_ => ∃ (a6 : Pool) (a4 : Option Addr) (a0 : Nat) (a5 : Nat) (a7 : Cs) (a8 : Nat) (a9 : Nat), l_ = [(8, .bool false), (10, .pointer (sp a1)), (12, .pointer (sp b5)), (17, .int .i64 0), (19, .int .i64 f0), (21, .pointer (sp e8)), (22, .int .i64 f1), (23, .pointer (sp a8)), (24, .pointer (sp a9)), (77, .agg ((ci b8) ++ ((cl d9 e0 e1) ++ ((cl e2 e3 e4) ++ ((ci b9) ++ ((cb c0) ++ (cl e5 e6 e7)))))).toArray), (78, .agg (iv .u8 c2 ++ ((ci c3) ++ ((cu c4) ++ ((cu c5) ++ ((cu c6) ++ (iv .u8 c7 ++ ((cu c8) ++ (cu c9)))))))).toArray), (80, .slice a4 a0 a5)] ∧ (Pl f3 a6) ∧ (a0 = g7.length) ∧ (HRs a6 (f116 w) a7 g7) ∧ St w w_ (oS a9 0 0 (z32) 60 :: oK a8 (z32) 0 0 0 0 (z32) 0 0 62 :: .sl a4 a5 a0 a7 116 2 :: .sl b1 b3 b2 b7 42 2 :: (a6 ++ b6))) ?_ (fun cont_3_10_11_d_209 => ?_)
 ·rintro _ x7 ⟨a6, a4, a0, a5, a7, a8, a9, rfl, b4, f5, f6, x8⟩
  refine AWX.steps [4] (by kernel_rfl) (by decide) (List.forall_mem_cons.2 ⟨⟨_, rfl, ?_⟩, fun _ h_ => by cases h_⟩)
  have I2 := St.hide (A := []) (B := [_, _, _, _]) (T := a6) (R := b6) x8
  refine WL.call Wanted.none ent21 rfl (reliquaryref13_Append.calls w x7 a6 (oS a9 0 0 (z32) 60 :: oK a8 (z32) 0 0 0 0 (z32) 0 0 62 :: .sl a4 a5 a0 a7 116 2 :: .sl b1 b3 b2 b7 42 2 :: b6) b8 q0 q1 b9 c0 q2 c2 c3 c4 c5 c6 c7 c8 c9 g7 d9 e0 e1 e2 e3 e4 e5 e6 e7 a4 a0 a5  I2 (r0.mono (fun _ h_ => b4.1 _ (f7.1 _ (g2.1 _ (g6.1 _ h_)))) (fun _ h_ => b4.1 _ (f7.1 _ (g2.1 _ (g6.1 _ h_))))) (r1.mono (fun _ h_ => b4.1 _ (f7.1 _ (g2.1 _ (g6.1 _ h_)))) (fun _ h_ => b4.1 _ (f7.1 _ (g2.1 _ (g6.1 _ h_))))) (r2.mono (fun _ h_ => b4.1 _ (f7.1 _ (g2.1 _ (g6.1 _ h_)))) (fun _ h_ => b4.1 _ (f7.1 _ (g2.1 _ (g6.1 _ h_))))) p5 p6 (HS.mk f5 (x8.cap (i := 2) rfl) (fun W_ L_ st hT => st.src_mem (hT _ (List.mem_append_right _ (List.mem_of_getElem? (i := 2) rfl)))) f6) g3 o7 o8 g4 g5 o9 f8 g8 g9 h0 h1 f9 h2 h3 g0 g1 f4 j7 r9) ?_
  rintro _ I3 ⟨b0, d0, d1, d2, d3, d4, d5, d6, d7, d8, h6, k1, k2, k3, k4, k5, i7, rfl, I4⟩
  have I5 : St w I3 (oS a9 0 0 (z32) 60 :: oK a8 (z32) 0 0 0 0 (z32) 0 0 62 :: .sl a4 a5 a0 a7 116 2 :: .sl b1 b3 b2 b7 42 2 :: (b0 ++ b6)) := St.unhide (A := []) (B := [_, _, _, _]) (T := b0) (R := b6) I4
  refine ⟨_, rfl, ?_⟩
  refine WL.nil ?_
  refine AWX.back (fun h_ => absurd h_ (by decide)) ?_
  refine AWX.takeP 5 rfl (by kernel_rfl) Wanted.none (fun _ => (Runs.move rfl)) ?_
  refine AWX.takeP 6 rfl (by kernel_rfl) Wanted.none (fun _ => (Runs.extract rfl rfl)) ?_
  refine AWX.takeP 7 rfl (by kernel_rfl) Wanted.none (fun _ => (Runs.extract rfl rfl)) ?_
  refine AWX.takeP 8 rfl (by kernel_rfl) Wanted.none (fun _ => (Runs.extract rfl rfl)) ?_
  refine AWX.takeP 9 rfl (by kernel_rfl) Wanted.none (fun _ => (Runs.extract rfl rfl)) ?_
  refine AWX.sub [(8, .bool false), (10, .pointer (sp a1)), (12, .pointer (sp b5)), (17, .int .i64 0), (19, .int .i64 f0), (21, .pointer (sp e8)), (22, .int .i64 f1), (23, .pointer (sp a8)), (24, .pointer (sp a9)), (82, .agg ((ci g3) ++ ((cl d0 d1 d2) ++ ((cl d3 d4 d5) ++ ((ci g4) ++ ((cb g5) ++ (cl d6 d7 d8)))))).toArray), (83, .agg (iv .u8 f8 ++ ((ci g8) ++ ((cu g9) ++ ((cu h0) ++ ((cu h1) ++ (iv .u8 f9 ++ ((cu h2) ++ (cu h3)))))))).toArray), (84, .agg ((cu g0) ++ ((cu g1) ++ iv .u8 f4)).toArray), (85, .int .i64 j7)] (by repeat' constructor) ?_
  exact AWX.cast (by kernel_rfl) (by kernel_rfl) (cont_3_4_10_11_d_209 _ _ ⟨a6, a4, a0, a5, a7, b0, d0, d1, d2, d3, d4, d5, d6, d7, d8, a8, a9, rfl, b4, f5, f6, h6, k1, k2, k3, k4, k5, i7, I5⟩)
 refine AWX.join (f2 := 6) (listed2 := #[true, true, true, true, true, true, true, true, true, true, false, false, false, false, false, false]) (fun l_ w_ => ∃ (a6 : Pool) (a4 : Option Addr) (a0 : Nat) (a5 : Nat) (a7 : Cs) (b0 : Pool) (d0 : Option Addr) (d1 : Nat) (d2 : Nat) (d3 : Option Addr) (d4 : Nat) (d5 : Nat) (d6 : Option Addr) (d7 : Nat) (d8 : Nat), l_ = [(8, .bool false), (10, .pointer (sp a1)), (12, .pointer (sp b5)), (17, .int .i64 0), (19, .int .i64 f0), (21, .pointer (sp e8)), (22, .int .i64 f1), (82, .agg ((ci g3) ++ ((cl d0 d1 d2) ++ ((cl d3 d4 d5) ++ ((ci g4) ++ ((cb g5) ++ (cl d6 d7 d8)))))).toArray), (83, .agg (iv .u8 f8 ++ ((ci g8) ++ ((cu g9) ++ ((cu h0) ++ ((cu h1) ++ (iv .u8 f9 ++ ((cu h2) ++ (cu h3)))))))).toArray), (84, .agg ((cu g0) ++ ((cu g1) ++ iv .u8 f4)).toArray), (85, .int .i64 j7)] ∧ (Pl f3 a6) ∧ (a0 = g7.length) ∧ (HRs a6 (f116 w) a7 g7) ∧ (Pl a6 b0) ∧ (HS w b0 b0 d0 d1 d2 (f145 w) o7) ∧ (HS w b0 b0 d3 d4 d5 (f145 w) o8) ∧ (HS w b0 b0 d6 d7 d8 (f160 w) o9) ∧ (f8.length = 32) ∧ (f9.length = 32) ∧ (f4.length = 32) ∧ St w w_ (.sl a4 a5 a0 a7 116 2 :: .sl b1 b3 b2 b7 42 2 :: (b0 ++ b6))) ?_ (fun cont_3_4_d_209 => ?_)
 ·rintro _ M6 ⟨a6, a4, a0, a5, a7, b0, d0, d1, d2, d3, d4, d5, d6, d7, d8, rfl, b4, f5, f6, h6, k1, k2, k3, k4, k5, i7, x9⟩
  refine AWX.steps [10, 11] (by kernel_rfl) (by decide) (List.forall_mem_cons.2 ⟨⟨_, rfl, ?_⟩, List.forall_mem_cons.2 ⟨⟨_, rfl, ?_⟩, fun _ h_ => by cases h_⟩⟩)
  ·refine WL.alloc x9 zero62 ?_
   intro a8 M7 y0
   refine WL.nil ?_
   refine AWX.back (fun _ => (St.subset h5 y0 (mc 2 rfl (mem_TR (A := [_, _, _]) (fun _ h_ => h6.1 _ (b4.1 _ h_)))))) ?_
   refine AWX.sub [(8, .bool false), (10, .pointer (sp a1)), (12, .pointer (sp b5)), (17, .int .i64 0), (19, .int .i64 f0), (21, .pointer (sp e8)), (22, .int .i64 f1), (23, .pointer (sp a8)), (82, .agg ((ci g3) ++ ((cl d0 d1 d2) ++ ((cl d3 d4 d5) ++ ((ci g4) ++ ((cb g5) ++ (cl d6 d7 d8)))))).toArray), (83, .agg (iv .u8 f8 ++ ((ci g8) ++ ((cu g9) ++ ((cu h0) ++ ((cu h1) ++ (iv .u8 f9 ++ ((cu h2) ++ (cu h3)))))))).toArray), (84, .agg ((cu g0) ++ ((cu g1) ++ iv .u8 f4)).toArray), (85, .int .i64 j7)] (by repeat' constructor) ?_
   exact AWX.cast (by kernel_rfl) (by kernel_rfl) (cont_3_4_10_d_209 _ _ ⟨a6, a4, a0, a5, a7, b0, d0, d1, d2, d3, d4, d5, d6, d7, d8, a8, rfl, b4, f5, f6, h6, k1, k2, k3, k4, k5, i7, y0⟩)
  refine WL.alloc x9 zero60 ?_
  intro a9 M8 y1
  refine WL.nil ?_
  refine AWX.back (fun _ => (St.subset h5 y1 (mc 2 rfl (mem_TR (A := [_, _, _]) (fun _ h_ => h6.1 _ (b4.1 _ h_)))))) ?_
  refine AWX.sub [(8, .bool false), (10, .pointer (sp a1)), (12, .pointer (sp b5)), (17, .int .i64 0), (19, .int .i64 f0), (21, .pointer (sp e8)), (22, .int .i64 f1), (24, .pointer (sp a9)), (82, .agg ((ci g3) ++ ((cl d0 d1 d2) ++ ((cl d3 d4 d5) ++ ((ci g4) ++ ((cb g5) ++ (cl d6 d7 d8)))))).toArray), (83, .agg (iv .u8 f8 ++ ((ci g8) ++ ((cu g9) ++ ((cu h0) ++ ((cu h1) ++ (iv .u8 f9 ++ ((cu h2) ++ (cu h3)))))))).toArray), (84, .agg ((cu g0) ++ ((cu g1) ++ iv .u8 f4)).toArray), (85, .int .i64 j7)] (by repeat' constructor) ?_
  exact AWX.cast (by kernel_rfl) (by kernel_rfl) (cont_3_4_11_d_209 _ _ ⟨a6, a4, a0, a5, a7, b0, d0, d1, d2, d3, d4, d5, d6, d7, d8, a9, rfl, b4, f5, f6, h6, k1, k2, k3, k4, k5, i7, y1⟩)
 refine AWX.join (f2 := 11) (listed2 := #[true, true, true, true, false, false, false, false, false, false, true, false, false, false, false, false]) (fun l_ w_ => ∃ (a6 : Pool) (a4 : Option Addr) (a0 : Nat) (a5 : Nat) (a7 : Cs) (a8 : Nat), l_ = [(8, .bool false), (10, .pointer (sp a1)), (12, .pointer (sp b5)), (17, .int .i64 0), (19, .int .i64 f0), (21, .pointer (sp e8)), (22, .int .i64 f1), (23, .pointer (sp a8)), (77, .agg ((ci b8) ++ ((cl d9 e0 e1) ++ ((cl e2 e3 e4) ++ ((ci b9) ++ ((cb c0) ++ (cl e5 e6 e7)))))).toArray), (78, .agg (iv .u8 c2 ++ ((ci c3) ++ ((cu c4) ++ ((cu c5) ++ ((cu c6) ++ (iv .u8 c7 ++ ((cu c8) ++ (cu c9)))))))).toArray), (80, .slice a4 a0 a5)] ∧ (Pl f3 a6) ∧ (a0 = g7.length) ∧ (HRs a6 (f116 w) a7 g7) ∧ St w w_ (oK a8 (z32) 0 0 0 0 (z32) 0 0 62 :: .sl a4 a5 a0 a7 116 2 :: .sl b1 b3 b2 b7 42 2 :: (a6 ++ b6))) ?_ (fun cont_3_10_d_209 => ?_)
 ·rintro _ y2 ⟨a6, a4, a0, a5, a7, a8, rfl, b4, f5, f6, u6⟩
  refine AWX.steps [4, 11] (by kernel_rfl) (by decide) (List.forall_mem_cons.2 ⟨⟨_, rfl, ?_⟩, List.forall_mem_cons.2 ⟨⟨_, rfl, ?_⟩, fun _ h_ => by cases h_⟩⟩)
  ·have I6 := St.hide (A := []) (B := [_, _, _]) (T := a6) (R := b6) u6
   refine WL.call Wanted.none ent21 rfl (reliquaryref13_Append.calls w y2 a6 (oK a8 (z32) 0 0 0 0 (z32) 0 0 62 :: .sl a4 a5 a0 a7 116 2 :: .sl b1 b3 b2 b7 42 2 :: b6) b8 q0 q1 b9 c0 q2 c2 c3 c4 c5 c6 c7 c8 c9 g7 d9 e0 e1 e2 e3 e4 e5 e6 e7 a4 a0 a5  I6 (r0.mono (fun _ h_ => b4.1 _ (f7.1 _ (g2.1 _ (g6.1 _ h_)))) (fun _ h_ => b4.1 _ (f7.1 _ (g2.1 _ (g6.1 _ h_))))) (r1.mono (fun _ h_ => b4.1 _ (f7.1 _ (g2.1 _ (g6.1 _ h_)))) (fun _ h_ => b4.1 _ (f7.1 _ (g2.1 _ (g6.1 _ h_))))) (r2.mono (fun _ h_ => b4.1 _ (f7.1 _ (g2.1 _ (g6.1 _ h_)))) (fun _ h_ => b4.1 _ (f7.1 _ (g2.1 _ (g6.1 _ h_))))) p5 p6 (HS.mk f5 (u6.cap (i := 1) rfl) (fun W_ L_ st hT => st.src_mem (hT _ (List.mem_append_right _ (List.mem_of_getElem? (i := 1) rfl)))) f6) g3 o7 o8 g4 g5 o9 f8 g8 g9 h0 h1 f9 h2 h3 g0 g1 f4 j7 r9) ?_
   rintro _ I7 ⟨b0, d0, d1, d2, d3, d4, d5, d6, d7, d8, h6, k1, k2, k3, k4, k5, i7, rfl, I8⟩
   have I9 : St w I7 (oK a8 (z32) 0 0 0 0 (z32) 0 0 62 :: .sl a4 a5 a0 a7 116 2 :: .sl b1 b3 b2 b7 42 2 :: (b0 ++ b6)) := St.unhide (A := []) (B := [_, _, _]) (T := b0) (R := b6) I8
   refine ⟨_, rfl, ?_⟩
   refine WL.nil ?_
   refine AWX.back (fun h_ => absurd h_ (by decide)) ?_
   refine AWX.takeP 5 rfl (by kernel_rfl) Wanted.none (fun _ => (Runs.move rfl)) ?_
   refine AWX.takeP 6 rfl (by kernel_rfl) Wanted.none (fun _ => (Runs.extract rfl rfl)) ?_
   refine AWX.takeP 7 rfl (by kernel_rfl) Wanted.none (fun _ => (Runs.extract rfl rfl)) ?_
   refine AWX.takeP 8 rfl (by kernel_rfl) Wanted.none (fun _ => (Runs.extract rfl rfl)) ?_
   refine AWX.takeP 9 rfl (by kernel_rfl) Wanted.none (fun _ => (Runs.extract rfl rfl)) ?_
   refine AWX.sub [(8, .bool false), (10, .pointer (sp a1)), (12, .pointer (sp b5)), (17, .int .i64 0), (19, .int .i64 f0), (21, .pointer (sp e8)), (22, .int .i64 f1), (23, .pointer (sp a8)), (82, .agg ((ci g3) ++ ((cl d0 d1 d2) ++ ((cl d3 d4 d5) ++ ((ci g4) ++ ((cb g5) ++ (cl d6 d7 d8)))))).toArray), (83, .agg (iv .u8 f8 ++ ((ci g8) ++ ((cu g9) ++ ((cu h0) ++ ((cu h1) ++ (iv .u8 f9 ++ ((cu h2) ++ (cu h3)))))))).toArray), (84, .agg ((cu g0) ++ ((cu g1) ++ iv .u8 f4)).toArray), (85, .int .i64 j7)] (by repeat' constructor) ?_
   exact AWX.cast (by kernel_rfl) (by kernel_rfl) (cont_3_4_10_d_209 _ _ ⟨a6, a4, a0, a5, a7, b0, d0, d1, d2, d3, d4, d5, d6, d7, d8, a8, rfl, b4, f5, f6, h6, k1, k2, k3, k4, k5, i7, I9⟩)
  refine WL.alloc u6 zero60 ?_
  intro a9 M9 y3
  refine WL.nil ?_
  refine AWX.back (fun _ => (St.subset h5 y3 (mc 3 rfl (mem_TR (A := [_, _, _, _]) (fun _ h_ => b4.1 _ h_))))) ?_
  refine AWX.sub [(8, .bool false), (10, .pointer (sp a1)), (12, .pointer (sp b5)), (17, .int .i64 0), (19, .int .i64 f0), (21, .pointer (sp e8)), (22, .int .i64 f1), (23, .pointer (sp a8)), (24, .pointer (sp a9)), (77, .agg ((ci b8) ++ ((cl d9 e0 e1) ++ ((cl e2 e3 e4) ++ ((ci b9) ++ ((cb c0) ++ (cl e5 e6 e7)))))).toArray), (78, .agg (iv .u8 c2 ++ ((ci c3) ++ ((cu c4) ++ ((cu c5) ++ ((cu c6) ++ (iv .u8 c7 ++ ((cu c8) ++ (cu c9)))))))).toArray), (80, .slice a4 a0 a5)] (by repeat' constructor) ?_
  exact AWX.cast (by kernel_rfl) (by kernel_rfl) (cont_3_10_11_d_209 _ _ ⟨a6, a4, a0, a5, a7, a8, a9, rfl, b4, f5, f6, y3⟩)
 refine AWX.join (f2 := 11) (listed2 := #[true, true, true, true, false, false, false, false, false, false, false, true, false, false, false, false]) (fun l_ w_ => ∃ (a6 : Pool) (a4 : Option Addr) (a0 : Nat) (a5 : Nat) (a7 : Cs) (a9 : Nat), l_ = [(8, .bool false), (10, .pointer (sp a1)), (12, .pointer (sp b5)), (17, .int .i64 0), (19, .int .i64 f0), (21, .pointer (sp e8)), (22, .int .i64 f1), (24, .pointer (sp a9)), (77, .agg ((ci b8) ++ ((cl d9 e0 e1) ++ ((cl e2 e3 e4) ++ ((ci b9) ++ ((cb c0) ++ (cl e5 e6 e7)))))).toArray), (78, .agg (iv .u8 c2 ++ ((ci c3) ++ ((cu c4) ++ ((cu c5) ++ ((cu c6) ++ (iv .u8 c7 ++ ((cu c8) ++ (cu c9)))))))).toArray), (80, .slice a4 a0 a5)] ∧ (Pl f3 a6) ∧ (a0 = g7.length) ∧ (HRs a6 (f116 w) a7 g7) ∧ St w w_ (oS a9 0 0 (z32) 60 :: .sl a4 a5 a0 a7 116 2 :: .sl b1 b3 b2 b7 42 2 :: (a6 ++ b6))) ?_ (fun cont_3_11_d_209 => ?_)
 ·rintro _ y4 ⟨a6, a4, a0, a5, a7, a9, rfl, b4, f5, f6, u7⟩
  refine AWX.steps [4, 10] (by kernel_rfl) (by decide) (List.forall_mem_cons.2 ⟨⟨_, rfl, ?_⟩, List.forall_mem_cons.2 ⟨⟨_, rfl, ?_⟩, fun _ h_ => by cases h_⟩⟩)
  ·have J0 := St.hide (A := []) (B := [_, _, _]) (T := a6) (R := b6) u7
   refine WL.call Wanted.none ent21 rfl (reliquaryref13_Append.calls w y4 a6 (oS a9 0 0 (z32) 60 :: .sl a4 a5 a0 a7 116 2 :: .sl b1 b3 b2 b7 42 2 :: b6) b8 q0 q1 b9 c0 q2 c2 c3 c4 c5 c6 c7 c8 c9 g7 d9 e0 e1 e2 e3 e4 e5 e6 e7 a4 a0 a5  J0 (r0.mono (fun _ h_ => b4.1 _ (f7.1 _ (g2.1 _ (g6.1 _ h_)))) (fun _ h_ => b4.1 _ (f7.1 _ (g2.1 _ (g6.1 _ h_))))) (r1.mono (fun _ h_ => b4.1 _ (f7.1 _ (g2.1 _ (g6.1 _ h_)))) (fun _ h_ => b4.1 _ (f7.1 _ (g2.1 _ (g6.1 _ h_))))) (r2.mono (fun _ h_ => b4.1 _ (f7.1 _ (g2.1 _ (g6.1 _ h_)))) (fun _ h_ => b4.1 _ (f7.1 _ (g2.1 _ (g6.1 _ h_))))) p5 p6 (HS.mk f5 (u7.cap (i := 1) rfl) (fun W_ L_ st hT => st.src_mem (hT _ (List.mem_append_right _ (List.mem_of_getElem? (i := 1) rfl)))) f6) g3 o7 o8 g4 g5 o9 f8 g8 g9 h0 h1 f9 h2 h3 g0 g1 f4 j7 r9) ?_
   rintro _ J1 ⟨b0, d0, d1, d2, d3, d4, d5, d6, d7, d8, h6, k1, k2, k3, k4, k5, i7, rfl, J2⟩
   have J3 : St w J1 (oS a9 0 0 (z32) 60 :: .sl a4 a5 a0 a7 116 2 :: .sl b1 b3 b2 b7 42 2 :: (b0 ++ b6)) := St.unhide (A := []) (B := [_, _, _]) (T := b0) (R := b6) J2
   refine ⟨_, rfl, ?_⟩
   refine WL.nil ?_
   refine AWX.back (fun h_ => absurd h_ (by decide)) ?_
   refine AWX.takeP 5 rfl (by kernel_rfl) Wanted.none (fun _ => (Runs.move rfl)) ?_
   refine AWX.takeP 6 rfl (by kernel_rfl) Wanted.none (fun _ => (Runs.extract rfl rfl)) ?_
   refine AWX.takeP 7 rfl (by kernel_rfl) Wanted.none (fun _ => (Runs.extract rfl rfl)) ?_
   refine AWX.takeP 8 rfl (by kernel_rfl) Wanted.none (fun _ => (Runs.extract rfl rfl)) ?_
   refine AWX.takeP 9 rfl (by kernel_rfl) Wanted.none (fun _ => (Runs.extract rfl rfl)) ?_
   refine AWX.sub [(8, .bool false), (10, .pointer (sp a1)), (12, .pointer (sp b5)), (17, .int .i64 0), (19, .int .i64 f0), (21, .pointer (sp e8)), (22, .int .i64 f1), (24, .pointer (sp a9)), (82, .agg ((ci g3) ++ ((cl d0 d1 d2) ++ ((cl d3 d4 d5) ++ ((ci g4) ++ ((cb g5) ++ (cl d6 d7 d8)))))).toArray), (83, .agg (iv .u8 f8 ++ ((ci g8) ++ ((cu g9) ++ ((cu h0) ++ ((cu h1) ++ (iv .u8 f9 ++ ((cu h2) ++ (cu h3)))))))).toArray), (84, .agg ((cu g0) ++ ((cu g1) ++ iv .u8 f4)).toArray), (85, .int .i64 j7)] (by repeat' constructor) ?_
   exact AWX.cast (by kernel_rfl) (by kernel_rfl) (cont_3_4_11_d_209 _ _ ⟨a6, a4, a0, a5, a7, b0, d0, d1, d2, d3, d4, d5, d6, d7, d8, a9, rfl, b4, f5, f6, h6, k1, k2, k3, k4, k5, i7, J3⟩)
  refine WL.alloc u7 zero62 ?_
  intro a8 N0 y5
  refine WL.nil ?_
  refine AWX.back (fun _ => (St.subset h5 y5 (mc 3 rfl (mem_TR (A := [_, _, _, _]) (fun _ h_ => b4.1 _ h_))))) ?_
  refine AWX.sub [(8, .bool false), (10, .pointer (sp a1)), (12, .pointer (sp b5)), (17, .int .i64 0), (19, .int .i64 f0), (21, .pointer (sp e8)), (22, .int .i64 f1), (23, .pointer (sp a8)), (24, .pointer (sp a9)), (77, .agg ((ci b8) ++ ((cl d9 e0 e1) ++ ((cl e2 e3 e4) ++ ((ci b9) ++ ((cb c0) ++ (cl e5 e6 e7)))))).toArray), (78, .agg (iv .u8 c2 ++ ((ci c3) ++ ((cu c4) ++ ((cu c5) ++ ((cu c6) ++ (iv .u8 c7 ++ ((cu c8) ++ (cu c9)))))))).toArray), (80, .slice a4 a0 a5)] (by repeat' constructor) ?_
  exact AWX.cast (by kernel_rfl) (by kernel_rfl) (cont_3_10_11_d_209 _ _ ⟨a6, a4, a0, a5, a7, a8, a9, rfl, b4, f5, f6, ((St.pickT (L := [_, _, _, _]) y5 [1, 0, 2, 3] (by decide)))⟩)
 refine AWX.join (f2 := 11) (listed2 := #[true, true, true, false, false, false, false, false, false, false, true, true, false, false, false, false]) (fun l_ w_ => ∃ (a8 : Nat) (a9 : Nat), l_ = [(8, .bool false), (10, .pointer (sp a1)), (12, .pointer (sp b5)), (17, .int .i64 0), (19, .int .i64 f0), (21, .pointer (sp e8)), (22, .int .i64 f1), (23, .pointer (sp a8)), (24, .pointer (sp a9)), (77, .agg ((ci b8) ++ ((cl d9 e0 e1) ++ ((cl e2 e3 e4) ++ ((ci b9) ++ ((cb c0) ++ (cl e5 e6 e7)))))).toArray), (78, .agg (iv .u8 c2 ++ ((ci c3) ++ ((cu c4) ++ ((cu c5) ++ ((cu c6) ++ (iv .u8 c7 ++ ((cu c8) ++ (cu c9)))))))).toArray), (79, .slice b1 b2 b3)] ∧ St w w_ (oS a9 0 0 (z32) 60 :: oK a8 (z32) 0 0 0 0 (z32) 0 0 62 :: .sl b1 b3 b2 b7 42 2 :: (f3 ++ b6))) ?_ (fun cont_10_11_d_209 => ?_)
 ·rintro _ y6 ⟨a8, a9, rfl, y7⟩
  refine AWX.steps [3] (by kernel_rfl) (by decide) (List.forall_mem_cons.2 ⟨⟨_, rfl, ?_⟩, fun _ h_ => by cases h_⟩)
  have J4 := St.hide (A := []) (B := [_, _, _]) (T := f3) (R := b6) y7
  refine WL.call Wanted.none ent22 rfl (reliquarylaw13_modelOf.calls w y6 f3 (oS a9 0 0 (z32) 60 :: oK a8 (z32) 0 0 0 0 (z32) 0 0 62 :: .sl b1 b3 b2 b7 42 2 :: b6) p7 b1 b2 b3  J4 (HS.mk q4 (y7.cap (i := 2) rfl) (fun W_ L_ st hT => st.src_mem (hT _ (List.mem_append_right _ (List.mem_of_getElem? (i := 2) rfl)))) (q5.mono (fun _ h_ => f7.1 _ h_))) g7 r8) ?_
  rintro _ J5 ⟨a6, a4, a0, a5, a7, b4, f5, f6, rfl, J6⟩
  have y8 : St w J5 (.sl a4 a5 a0 a7 116 2 :: oS a9 0 0 (z32) 60 :: oK a8 (z32) 0 0 0 0 (z32) 0 0 62 :: .sl b1 b3 b2 b7 42 2 :: (a6 ++ b6)) := St.unhide (A := [_]) (B := [_, _, _]) (T := a6) (R := b6) J6
  refine ⟨_, rfl, ?_⟩
  refine WL.nil ?_
  refine AWX.back (fun _ => (St.subset h5 y8 (mc 3 rfl (mem_TR (A := [_, _, _, _]) (fun _ h_ => b4.1 _ h_))))) ?_
  refine AWX.sub [(8, .bool false), (10, .pointer (sp a1)), (12, .pointer (sp b5)), (17, .int .i64 0), (19, .int .i64 f0), (21, .pointer (sp e8)), (22, .int .i64 f1), (23, .pointer (sp a8)), (24, .pointer (sp a9)), (77, .agg ((ci b8) ++ ((cl d9 e0 e1) ++ ((cl e2 e3 e4) ++ ((ci b9) ++ ((cb c0) ++ (cl e5 e6 e7)))))).toArray), (78, .agg (iv .u8 c2 ++ ((ci c3) ++ ((cu c4) ++ ((cu c5) ++ ((cu c6) ++ (iv .u8 c7 ++ ((cu c8) ++ (cu c9)))))))).toArray), (80, .slice a4 a0 a5)] (by repeat' constructor) ?_
  exact AWX.cast (by kernel_rfl) (by kernel_rfl) (cont_3_10_11_d_209 _ _ ⟨a6, a4, a0, a5, a7, a8, a9, rfl, b4, f5, f6, ((St.pickT (L := [_, _, _, _]) y8 [1, 2, 0, 3] (by decide)))⟩)
 refine AWX.join (f2 := 12) (listed2 := #[true, true, true, true, false, false, false, false, false, false, false, false, false, false, false, false]) (fun l_ w_ => ∃ (a6 : Pool) (a4 : Option Addr) (a0 : Nat) (a5 : Nat) (a7 : Cs), l_ = [(8, .bool false), (10, .pointer (sp a1)), (12, .pointer (sp b5)), (17, .int .i64 0), (19, .int .i64 f0), (21, .pointer (sp e8)), (22, .int .i64 f1), (77, .agg ((ci b8) ++ ((cl d9 e0 e1) ++ ((cl e2 e3 e4) ++ ((ci b9) ++ ((cb c0) ++ (cl e5 e6 e7)))))).toArray), (78, .agg (iv .u8 c2 ++ ((ci c3) ++ ((cu c4) ++ ((cu c5) ++ ((cu c6) ++ (iv .u8 c7 ++ ((cu c8) ++ (cu c9)))))))).toArray), (80, .slice a4 a0 a5)] ∧ (Pl f3 a6) ∧ (a0 = g7.length) ∧ (HRs a6 (f116 w) a7 g7) ∧ St w w_ (.sl a4 a5 a0 a7 116 2 :: .sl b1 b3 b2 b7 42 2 :: (a6 ++ b6))) ?_ (fun cont_3_d_209 => ?_)
 ·rintro _ y9 ⟨a6, a4, a0, a5, a7, rfl, b4, f5, f6, s1⟩
  refine AWX.steps [4, 10, 11] (by kernel_rfl) (by decide) (List.forall_mem_cons.2 ⟨⟨_, rfl, ?_⟩, List.forall_mem_cons.2 ⟨⟨_, rfl, ?_⟩, List.forall_mem_cons.2 ⟨⟨_, rfl, ?_⟩, fun _ h_ => by cases h_⟩⟩⟩)
  ·have J7 := St.hide (A := []) (B := [_, _]) (T := a6) (R := b6) s1
   refine WL.call Wanted.none ent21 rfl (reliquaryref13_Append.calls w y9 a6 (.sl a4 a5 a0 a7 116 2 :: .sl b1 b3 b2 b7 42 2 :: b6) b8 q0 q1 b9 c0 q2 c2 c3 c4 c5 c6 c7 c8 c9 g7 d9 e0 e1 e2 e3 e4 e5 e6 e7 a4 a0 a5  J7 (r0.mono (fun _ h_ => b4.1 _ (f7.1 _ (g2.1 _ (g6.1 _ h_)))) (fun _ h_ => b4.1 _ (f7.1 _ (g2.1 _ (g6.1 _ h_))))) (r1.mono (fun _ h_ => b4.1 _ (f7.1 _ (g2.1 _ (g6.1 _ h_)))) (fun _ h_ => b4.1 _ (f7.1 _ (g2.1 _ (g6.1 _ h_))))) (r2.mono (fun _ h_ => b4.1 _ (f7.1 _ (g2.1 _ (g6.1 _ h_)))) (fun _ h_ => b4.1 _ (f7.1 _ (g2.1 _ (g6.1 _ h_))))) p5 p6 (HS.mk f5 (s1.cap (i := 0) rfl) (fun W_ L_ st hT => st.src_mem (hT _ (List.mem_append_right _ (List.mem_of_getElem? (i := 0) rfl)))) f6) g3 o7 o8 g4 g5 o9 f8 g8 g9 h0 h1 f9 h2 h3 g0 g1 f4 j7 r9) ?_
   rintro _ J8 ⟨b0, d0, d1, d2, d3, d4, d5, d6, d7, d8, h6, k1, k2, k3, k4, k5, i7, rfl, J9⟩
   have K0 : St w J8 (.sl a4 a5 a0 a7 116 2 :: .sl b1 b3 b2 b7 42 2 :: (b0 ++ b6)) := St.unhide (A := []) (B := [_, _]) (T := b0) (R := b6) J9
   refine ⟨_, rfl, ?_⟩
   refine WL.nil ?_
   refine AWX.back (fun h_ => absurd h_ (by decide)) ?_
   refine AWX.takeP 5 rfl (by kernel_rfl) Wanted.none (fun _ => (Runs.move rfl)) ?_
   refine AWX.takeP 6 rfl (by kernel_rfl) Wanted.none (fun _ => (Runs.extract rfl rfl)) ?_
   refine AWX.takeP 7 rfl (by kernel_rfl) Wanted.none (fun _ => (Runs.extract rfl rfl)) ?_
   refine AWX.takeP 8 rfl (by kernel_rfl) Wanted.none (fun _ => (Runs.extract rfl rfl)) ?_
   refine AWX.takeP 9 rfl (by kernel_rfl) Wanted.none (fun _ => (Runs.extract rfl rfl)) ?_
   refine AWX.sub [(8, .bool false), (10, .pointer (sp a1)), (12, .pointer (sp b5)), (17, .int .i64 0), (19, .int .i64 f0), (21, .pointer (sp e8)), (22, .int .i64 f1), (82, .agg ((ci g3) ++ ((cl d0 d1 d2) ++ ((cl d3 d4 d5) ++ ((ci g4) ++ ((cb g5) ++ (cl d6 d7 d8)))))).toArray), (83, .agg (iv .u8 f8 ++ ((ci g8) ++ ((cu g9) ++ ((cu h0) ++ ((cu h1) ++ (iv .u8 f9 ++ ((cu h2) ++ (cu h3)))))))).toArray), (84, .agg ((cu g0) ++ ((cu g1) ++ iv .u8 f4)).toArray), (85, .int .i64 j7)] (by repeat' constructor) ?_
   exact AWX.cast (by kernel_rfl) (by kernel_rfl) (cont_3_4_d_209 _ _ ⟨a6, a4, a0, a5, a7, b0, d0, d1, d2, d3, d4, d5, d6, d7, d8, rfl, b4, f5, f6, h6, k1, k2, k3, k4, k5, i7, K0⟩)
  ·refine WL.alloc s1 zero62 ?_
   intro a8 N1 z0
   refine WL.nil ?_
   refine AWX.back (fun _ => (St.subset h5 z0 (mc 2 rfl (mem_TR (A := [_, _, _]) (fun _ h_ => b4.1 _ h_))))) ?_
   refine AWX.sub [(8, .bool false), (10, .pointer (sp a1)), (12, .pointer (sp b5)), (17, .int .i64 0), (19, .int .i64 f0), (21, .pointer (sp e8)), (22, .int .i64 f1), (23, .pointer (sp a8)), (77, .agg ((ci b8) ++ ((cl d9 e0 e1) ++ ((cl e2 e3 e4) ++ ((ci b9) ++ ((cb c0) ++ (cl e5 e6 e7)))))).toArray), (78, .agg (iv .u8 c2 ++ ((ci c3) ++ ((cu c4) ++ ((cu c5) ++ ((cu c6) ++ (iv .u8 c7 ++ ((cu c8) ++ (cu c9)))))))).toArray), (80, .slice a4 a0 a5)] (by repeat' constructor) ?_
   exact AWX.cast (by kernel_rfl) (by kernel_rfl) (cont_3_10_d_209 _ _ ⟨a6, a4, a0, a5, a7, a8, rfl, b4, f5, f6, z0⟩)
  refine WL.alloc s1 zero60 ?_
  intro a9 N2 z1
  refine WL.nil ?_
  refine AWX.back (fun _ => (St.subset h5 z1 (mc 2 rfl (mem_TR (A := [_, _, _]) (fun _ h_ => b4.1 _ h_))))) ?_
  refine AWX.sub [(8, .bool false), (10, .pointer (sp a1)), (12, .pointer (sp b5)), (17, .int .i64 0), (19, .int .i64 f0), (21, .pointer (sp e8)), (22, .int .i64 f1), (24, .pointer (sp a9)), (77, .agg ((ci b8) ++ ((cl d9 e0 e1) ++ ((cl e2 e3 e4) ++ ((ci b9) ++ ((cb c0) ++ (cl e5 e6 e7)))))).toArray), (78, .agg (iv .u8 c2 ++ ((ci c3) ++ ((cu c4) ++ ((cu c5) ++ ((cu c6) ++ (iv .u8 c7 ++ ((cu c8) ++ (cu c9)))))))).toArray), (80, .slice a4 a0 a5)] (by repeat' constructor) ?_
  exact AWX.cast (by kernel_rfl) (by kernel_rfl) (cont_3_11_d_209 _ _ ⟨a6, a4, a0, a5, a7, a9, rfl, b4, f5, f6, z1⟩)
 refine AWX.join (f2 := 12) (listed2 := #[true, true, true, false, false, false, false, false, false, false, true, false, false, false, false, false]) (fun l_ w_ => ∃ (a8 : Nat), l_ = [(8, .bool false), (10, .pointer (sp a1)), (12, .pointer (sp b5)), (17, .int .i64 0), (19, .int .i64 f0), (21, .pointer (sp e8)), (22, .int .i64 f1), (23, .pointer (sp a8)), (77, .agg ((ci b8) ++ ((cl d9 e0 e1) ++ ((cl e2 e3 e4) ++ ((ci b9) ++ ((cb c0) ++ (cl e5 e6 e7)))))).toArray), (78, .agg (iv .u8 c2 ++ ((ci c3) ++ ((cu c4) ++ ((cu c5) ++ ((cu c6) ++ (iv .u8 c7 ++ ((cu c8) ++ (cu c9)))))))).toArray), (79, .slice b1 b2 b3)] ∧ St w w_ (oK a8 (z32) 0 0 0 0 (z32) 0 0 62 :: .sl b1 b3 b2 b7 42 2 :: (f3 ++ b6))) ?_ (fun cont_10_d_209 => ?_)
 ·rintro _ z2 ⟨a8, rfl, u9⟩
  refine AWX.steps [3, 11] (by kernel_rfl) (by decide) (List.forall_mem_cons.2 ⟨⟨_, rfl, ?_⟩, List.forall_mem_cons.2 ⟨⟨_, rfl, ?_⟩, fun _ h_ => by cases h_⟩⟩)
  ·have K1 := St.hide (A := []) (B := [_, _]) (T := f3) (R := b6) u9
   refine WL.call Wanted.none ent22 rfl (reliquarylaw13_modelOf.calls w z2 f3 (oK a8 (z32) 0 0 0 0 (z32) 0 0 62 :: .sl b1 b3 b2 b7 42 2 :: b6) p7 b1 b2 b3  K1 (HS.mk q4 (u9.cap (i := 1) rfl) (fun W_ L_ st hT => st.src_mem (hT _ (List.mem_append_right _ (List.mem_of_getElem? (i := 1) rfl)))) (q5.mono (fun _ h_ => f7.1 _ h_))) g7 r8) ?_
   rintro _ K2 ⟨a6, a4, a0, a5, a7, b4, f5, f6, rfl, K3⟩
   have z3 : St w K2 (.sl a4 a5 a0 a7 116 2 :: oK a8 (z32) 0 0 0 0 (z32) 0 0 62 :: .sl b1 b3 b2 b7 42 2 :: (a6 ++ b6)) := St.unhide (A := [_]) (B := [_, _]) (T := a6) (R := b6) K3
   refine ⟨_, rfl, ?_⟩
   refine WL.nil ?_
   refine AWX.back (fun _ => (St.subset h5 z3 (mc 2 rfl (mem_TR (A := [_, _, _]) (fun _ h_ => b4.1 _ h_))))) ?_
   refine AWX.sub [(8, .bool false), (10, .pointer (sp a1)), (12, .pointer (sp b5)), (17, .int .i64 0), (19, .int .i64 f0), (21, .pointer (sp e8)), (22, .int .i64 f1), (23, .pointer (sp a8)), (77, .agg ((ci b8) ++ ((cl d9 e0 e1) ++ ((cl e2 e3 e4) ++ ((ci b9) ++ ((cb c0) ++ (cl e5 e6 e7)))))).toArray), (78, .agg (iv .u8 c2 ++ ((ci c3) ++ ((cu c4) ++ ((cu c5) ++ ((cu c6) ++ (iv .u8 c7 ++ ((cu c8) ++ (cu c9)))))))).toArray), (80, .slice a4 a0 a5)] (by repeat' constructor) ?_
   exact AWX.cast (by kernel_rfl) (by kernel_rfl) (cont_3_10_d_209 _ _ ⟨a6, a4, a0, a5, a7, a8, rfl, b4, f5, f6, ((St.pickT (L := [_, _, _]) z3 [1, 0, 2] (by decide)))⟩)
  refine WL.alloc u9 zero60 ?_
  intro a9 N3 z4
  refine WL.nil ?_
  refine AWX.back (fun _ => (St.subset h5 z4 (mc 2 rfl (mem_TR (A := [_, _, _]) (fun _ h_ => h_))))) ?_
  refine AWX.sub [(8, .bool false), (10, .pointer (sp a1)), (12, .pointer (sp b5)), (17, .int .i64 0), (19, .int .i64 f0), (21, .pointer (sp e8)), (22, .int .i64 f1), (23, .pointer (sp a8)), (24, .pointer (sp a9)), (77, .agg ((ci b8) ++ ((cl d9 e0 e1) ++ ((cl e2 e3 e4) ++ ((ci b9) ++ ((cb c0) ++ (cl e5 e6 e7)))))).toArray), (78, .agg (iv .u8 c2 ++ ((ci c3) ++ ((cu c4) ++ ((cu c5) ++ ((cu c6) ++ (iv .u8 c7 ++ ((cu c8) ++ (cu c9)))))))).toArray), (79, .slice b1 b2 b3)] (by repeat' constructor) ?_
  exact AWX.cast (by kernel_rfl) (by kernel_rfl) (cont_10_11_d_209 _ _ ⟨a8, a9, rfl, z4⟩)
 refine AWX.join (f2 := 12) (listed2 := #[true, true, true, false, false, false, false, false, false, false, false, true, false, false, false, false]) (fun l_ w_ => ∃ (a9 : Nat), l_ = [(8, .bool false), (10, .pointer (sp a1)), (12, .pointer (sp b5)), (17, .int .i64 0), (19, .int .i64 f0), (21, .pointer (sp e8)), (22, .int .i64 f1), (24, .pointer (sp a9)), (77, .agg ((ci b8) ++ ((cl d9 e0 e1) ++ ((cl e2 e3 e4) ++ ((ci b9) ++ ((cb c0) ++ (cl e5 e6 e7)))))).toArray), (78, .agg (iv .u8 c2 ++ ((ci c3) ++ ((cu c4) ++ ((cu c5) ++ ((cu c6) ++ (iv .u8 c7 ++ ((cu c8) ++ (cu c9)))))))).toArray), (79, .slice b1 b2 b3)] ∧ St w w_ (oS a9 0 0 (z32) 60 :: .sl b1 b3 b2 b7 42 2 :: (f3 ++ b6))) ?_ (fun cont_11_d_209 => ?_)
 ·rintro _ z5 ⟨a9, rfl, v0⟩
  refine AWX.steps [3, 10] (by kernel_rfl) (by decide) (List.forall_mem_cons.2 ⟨⟨_, rfl, ?_⟩, List.forall_mem_cons.2 ⟨⟨_, rfl, ?_⟩, fun _ h_ => by cases h_⟩⟩)
  ·have K4 := St.hide (A := []) (B := [_, _]) (T := f3) (R := b6) v0
   refine WL.call Wanted.none ent22 rfl (reliquarylaw13_modelOf.calls w z5 f3 (oS a9 0 0 (z32) 60 :: .sl b1 b3 b2 b7 42 2 :: b6) p7 b1 b2 b3  K4 (HS.mk q4 (v0.cap (i := 1) rfl) (fun W_ L_ st hT => st.src_mem (hT _ (List.mem_append_right _ (List.mem_of_getElem? (i := 1) rfl)))) (q5.mono (fun _ h_ => f7.1 _ h_))) g7 r8) ?_
   rintro _ K5 ⟨a6, a4, a0, a5, a7, b4, f5, f6, rfl, K6⟩
   have z6 : St w K5 (.sl a4 a5 a0 a7 116 2 :: oS a9 0 0 (z32) 60 :: .sl b1 b3 b2 b7 42 2 :: (a6 ++ b6)) := St.unhide (A := [_]) (B := [_, _]) (T := a6) (R := b6) K6
   refine ⟨_, rfl, ?_⟩
   refine WL.nil ?_
   refine AWX.back (fun _ => (St.subset h5 z6 (mc 2 rfl (mem_TR (A := [_, _, _]) (fun _ h_ => b4.1 _ h_))))) ?_
   refine AWX.sub [(8, .bool false), (10, .pointer (sp a1)), (12, .pointer (sp b5)), (17, .int .i64 0), (19, .int .i64 f0), (21, .pointer (sp e8)), (22, .int .i64 f1), (24, .pointer (sp a9)), (77, .agg ((ci b8) ++ ((cl d9 e0 e1) ++ ((cl e2 e3 e4) ++ ((ci b9) ++ ((cb c0) ++ (cl e5 e6 e7)))))).toArray), (78, .agg (iv .u8 c2 ++ ((ci c3) ++ ((cu c4) ++ ((cu c5) ++ ((cu c6) ++ (iv .u8 c7 ++ ((cu c8) ++ (cu c9)))))))).toArray), (80, .slice a4 a0 a5)] (by repeat' constructor) ?_
   exact AWX.cast (by kernel_rfl) (by kernel_rfl) (cont_3_11_d_209 _ _ ⟨a6, a4, a0, a5, a7, a9, rfl, b4, f5, f6, ((St.pickT (L := [_, _, _]) z6 [1, 0, 2] (by decide)))⟩)
  refine WL.alloc v0 zero62 ?_
  intro a8 N4 z7
  refine WL.nil ?_
  refine AWX.back (fun _ => (St.subset h5 z7 (mc 2 rfl (mem_TR (A := [_, _, _]) (fun _ h_ => h_))))) ?_
  refine AWX.sub [(8, .bool false), (10, .pointer (sp a1)), (12, .pointer (sp b5)), (17, .int .i64 0), (19, .int .i64 f0), (21, .pointer (sp e8)), (22, .int .i64 f1), (23, .pointer (sp a8)), (24, .pointer (sp a9)), (77, .agg ((ci b8) ++ ((cl d9 e0 e1) ++ ((cl e2 e3 e4) ++ ((ci b9) ++ ((cb c0) ++ (cl e5 e6 e7)))))).toArray), (78, .agg (iv .u8 c2 ++ ((ci c3) ++ ((cu c4) ++ ((cu c5) ++ ((cu c6) ++ (iv .u8 c7 ++ ((cu c8) ++ (cu c9)))))))).toArray), (79, .slice b1 b2 b3)] (by repeat' constructor) ?_
  exact AWX.cast (by kernel_rfl) (by kernel_rfl) (cont_10_11_d_209 _ _ ⟨a8, a9, rfl, ((St.pickT (L := [_, _, _]) z7 [1, 0, 2] (by decide)))⟩)
 refine AWX.steps [3, 10, 11] (by kernel_rfl) (by decide) (List.forall_mem_cons.2 ⟨⟨_, rfl, ?_⟩, List.forall_mem_cons.2 ⟨⟨_, rfl, ?_⟩, List.forall_mem_cons.2 ⟨⟨_, rfl, ?_⟩, fun _ h_ => by cases h_⟩⟩⟩)
 ·have K7 := St.hide (A := []) (B := [_]) (T := f3) (R := b6) h5
  refine WL.call Wanted.none ent22 rfl (reliquarylaw13_modelOf.calls w t6 f3 (.sl b1 b3 b2 b7 42 2 :: b6) p7 b1 b2 b3  K7 (HS.mk q4 (h5.cap (i := 0) rfl) (fun W_ L_ st hT => st.src_mem (hT _ (List.mem_append_right _ (List.mem_of_getElem? (i := 0) rfl)))) (q5.mono (fun _ h_ => f7.1 _ h_))) g7 r8) ?_
  rintro _ K8 ⟨a6, a4, a0, a5, a7, b4, f5, f6, rfl, K9⟩
  have z8 : St w K8 (.sl a4 a5 a0 a7 116 2 :: .sl b1 b3 b2 b7 42 2 :: (a6 ++ b6)) := St.unhide (A := [_]) (B := [_]) (T := a6) (R := b6) K9
  refine ⟨_, rfl, ?_⟩
  refine WL.nil ?_
  refine AWX.back (fun _ => (St.subset h5 z8 (mc 1 rfl (mem_TR (A := [_, _]) (fun _ h_ => b4.1 _ h_))))) ?_
  refine AWX.sub [(8, .bool false), (10, .pointer (sp a1)), (12, .pointer (sp b5)), (17, .int .i64 0), (19, .int .i64 f0), (21, .pointer (sp e8)), (22, .int .i64 f1), (77, .agg ((ci b8) ++ ((cl d9 e0 e1) ++ ((cl e2 e3 e4) ++ ((ci b9) ++ ((cb c0) ++ (cl e5 e6 e7)))))).toArray), (78, .agg (iv .u8 c2 ++ ((ci c3) ++ ((cu c4) ++ ((cu c5) ++ ((cu c6) ++ (iv .u8 c7 ++ ((cu c8) ++ (cu c9)))))))).toArray), (80, .slice a4 a0 a5)] (by repeat' constructor) ?_
  exact AWX.cast (by kernel_rfl) (by kernel_rfl) (cont_3_d_209 _ _ ⟨a6, a4, a0, a5, a7, rfl, b4, f5, f6, z8⟩)
 ·refine WL.alloc h5 zero62 ?_
  intro a8 N5 z9
  refine WL.nil ?_
  refine AWX.back (fun _ => (St.subset h5 z9 (mc 1 rfl (mem_TR (A := [_, _]) (fun _ h_ => h_))))) ?_
  refine AWX.sub [(8, .bool false), (10, .pointer (sp a1)), (12, .pointer (sp b5)), (17, .int .i64 0), (19, .int .i64 f0), (21, .pointer (sp e8)), (22, .int .i64 f1), (23, .pointer (sp a8)), (77, .agg ((ci b8) ++ ((cl d9 e0 e1) ++ ((cl e2 e3 e4) ++ ((ci b9) ++ ((cb c0) ++ (cl e5 e6 e7)))))).toArray), (78, .agg (iv .u8 c2 ++ ((ci c3) ++ ((cu c4) ++ ((cu c5) ++ ((cu c6) ++ (iv .u8 c7 ++ ((cu c8) ++ (cu c9)))))))).toArray), (79, .slice b1 b2 b3)] (by repeat' constructor) ?_
  exact AWX.cast (by kernel_rfl) (by kernel_rfl) (cont_10_d_209 _ _ ⟨a8, rfl, z9⟩)
 refine WL.alloc h5 zero60 ?_
 intro a9 N6 A0
 refine WL.nil ?_
 refine AWX.back (fun _ => (St.subset h5 A0 (mc 1 rfl (mem_TR (A := [_, _]) (fun _ h_ => h_))))) ?_
 refine AWX.sub [(8, .bool false), (10, .pointer (sp a1)), (12, .pointer (sp b5)), (17, .int .i64 0), (19, .int .i64 f0), (21, .pointer (sp e8)), (22, .int .i64 f1), (24, .pointer (sp a9)), (77, .agg ((ci b8) ++ ((cl d9 e0 e1) ++ ((cl e2 e3 e4) ++ ((ci b9) ++ ((cb c0) ++ (cl e5 e6 e7)))))).toArray), (78, .agg (iv .u8 c2 ++ ((ci c3) ++ ((cu c4) ++ ((cu c5) ++ ((cu c6) ++ (iv .u8 c7 ++ ((cu c8) ++ (cu c9)))))))).toArray), (79, .slice b1 b2 b3)] (by repeat' constructor) ?_
 exact AWX.cast (by kernel_rfl) (by kernel_rfl) (cont_11_d_209 _ _ ⟨a9, rfl, A0⟩)
end Go.Proofs.YtmhcjafkdmcgoaaDoor
