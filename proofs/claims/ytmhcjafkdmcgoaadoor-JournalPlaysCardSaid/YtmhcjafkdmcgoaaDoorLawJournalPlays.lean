/- JournalPlays: for every input that its types allow, the law reliquarylaw13.JournalPlays returns true and each argument reads behind the call as it read before. No condition beyond the given row. -/
import Derived.Test.YtmhcjafkdmcgoaaDoorCards
import Derived.Test.YtmhcjafkdmcgoaaDoorTie
import Derived.Test.YtmhcjafkdmcgoaaDoorPlKq
import Derived.Test.YtmhcjafkdmcgoaaDoorPlKt
import Derived.LaidMore
import Derived.LaidSub
import Derived.Stop.Joined
import Derived.SevenTiedAt
import Derived.Test.YtmhcjafkdmcgoaaDoorRows
import Derived.Test.YtmhcjafkdmcgoaaDoorPlJp
import Derived.Test.YtmhcjafkdmcgoaaDoorPlAg
import Derived.WalkKit
import Derived.ProofKit
import Derived.OpenShut
import Derived.ShutString
import Derived.ChangeOld
import Derived.Below
import Derived.SizedLaws
namespace Go.Proofs.YtmhcjafkdmcgoaaDoor.journalPlays
open Go.ChangeShapes Go.WideShapes Go.ChangeAt Go.RowKit Go.Kr
open Go.ChangeMaps (open_string shut_string)
set_option linter.unusedVariables false
theorem own : ownKnob Tryd.prog.godebug = none := by kernel_rfl
theorem laidOut : laidOutB Tryd.prog = true := by kernel_rfl
theorem each42 {H : Type} {enc : TypeId × Value → H} {W : World} (xs : List Value) (hz : xs.length = 2) (h : Tr enc Tryd.prog W 42 xs 0) : ∃ x : R42, HLs [] xs (f42 W x) ∧ ok42 x := by
 have h_0 := Tr.field (ft := 37) (i := 0) (off := 0) (sz := 1) (p := 0) h (by kernel_rfl) (by kernel_rfl) rfl
 obtain ⟨a0, e0, g0⟩ := Tr.int h_0 Tryd.underlying37 (by kernel_rfl)
 have h_1 := Tr.field (ft := 25) (i := 1) (off := 1) (sz := 1) (p := 1) h (by kernel_rfl) (by kernel_rfl) rfl
 obtain ⟨A1, n1, c1, a1, e1, k1, m1, g1⟩ := Tr.nums h_1 Tryd.underlying25 (by kernel_rfl) Tryd.underlying5 (by kernel_rfl)
 have E : xs.drop 0 = ([.int .u64 a0] : List Value) ++ (([.slice A1 n1 c1] : List Value)) := by rw [cut_at (xs := xs) 0 1 (p := 1) rfl, e0, cut_at (xs := xs) 1 1 (p := 2) rfl, e1, List.drop_eq_nil_of_le (by rw [hz]; exact Nat.le_of_ble_eq_true (by kernel_rfl)), List.append_nil]
 rw [List.drop_zero] at E
 exact ⟨(a0, a1), by rw [E]; exact (HLs.cons rfl (HLs.cons ⟨A1, n1, c1, rfl, k1⟩ HLs.nil)), ⟨u64_of_wf g0, ⟨m1, Byt.of_wf g1⟩⟩⟩
theorem each84 {H : Type} {enc : TypeId × Value → H} {W : World} (xs : List Value) (hz : xs.length = 40) (h : Tr enc Tryd.prog W 84 xs 0) : ∃ x : R84, HLs [] xs (f84 W x) ∧ ok84 x := by
 have h_0 := Tr.field (ft := 3) (i := 0) (off := 0) (sz := 1) (p := 0) h (by kernel_rfl) (by kernel_rfl) rfl
 obtain ⟨a0, e0, g0⟩ := Tr.int h_0 Tryd.underlying3 (by kernel_rfl)
 have h_1 := Tr.field (ft := 40) (i := 1) (off := 1) (sz := 1) (p := 1) h (by kernel_rfl) (by kernel_rfl) rfl
 obtain ⟨A1, n1, c1, a1, e1, k1, m1, g1⟩ := Tr.recs (fun w => f42 w) ok42 h_1 Tryd.underlying40 (by kernel_rfl) cells42 each42
 have h_2 := Tr.field (ft := 4) (i := 2) (off := 2) (sz := 1) (p := 2) h (by kernel_rfl) (by kernel_rfl) rfl
 obtain ⟨a2, e2⟩ := Tr.bool h_2 Tryd.underlying4 (by kernel_rfl)
 have h_3 := Tr.field (ft := 39) (i := 3) (off := 3) (sz := 34) (p := 3) h (by kernel_rfl) (by kernel_rfl) rfl
 have h_3_0 := Tr.field (ft := 37) (i := 0) (off := 0) (sz := 1) (p := 3) h_3 (by kernel_rfl) (by kernel_rfl) rfl
 obtain ⟨a3, e3, g3⟩ := Tr.int h_3_0 Tryd.underlying37 (by kernel_rfl)
 have h_3_1 := Tr.field (ft := 37) (i := 1) (off := 1) (sz := 1) (p := 4) h_3 (by kernel_rfl) (by kernel_rfl) rfl
 obtain ⟨a4, e4, g4⟩ := Tr.int h_3_1 Tryd.underlying37 (by kernel_rfl)
 have h_3_2 := Tr.field (ft := 23) (i := 2) (off := 2) (sz := 32) (p := 5) h_3 (by kernel_rfl) (by kernel_rfl) rfl
 obtain ⟨a5, e5, hl5, g5⟩ := Tr.arr h_3_2 Tryd.underlying23 Tryd.underlying5 (by kernel_rfl) (by kernel_rfl)
 have h_4 := Tr.field (ft := 37) (i := 4) (off := 37) (sz := 1) (p := 37) h (by kernel_rfl) (by kernel_rfl) rfl
 obtain ⟨a6, e6, g6⟩ := Tr.int h_4 Tryd.underlying37 (by kernel_rfl)
 have h_5 := Tr.field (ft := 3) (i := 5) (off := 38) (sz := 1) (p := 38) h (by kernel_rfl) (by kernel_rfl) rfl
 obtain ⟨a7, e7, g7⟩ := Tr.int h_5 Tryd.underlying3 (by kernel_rfl)
 have h_6 := Tr.field (ft := 82) (i := 6) (off := 39) (sz := 1) (p := 39) h (by kernel_rfl) (by kernel_rfl) rfl
 obtain ⟨A8, n8, c8, a8, e8, k8, m8⟩ := Tr.bls h_6 Tryd.underlying82 (by kernel_rfl) Tryd.underlying4 (by kernel_rfl)
 have E : xs.drop 0 = ([.int .i64 a0] : List Value) ++ (([.slice A1 n1 c1] : List Value) ++ (([.bool a2] : List Value) ++ (([.int .u64 a3] : List Value) ++ (([.int .u64 a4] : List Value) ++ (iv .u8 a5 ++ (([.int .u64 a6] : List Value) ++ (([.int .i64 a7] : List Value) ++ (([.slice A8 n8 c8] : List Value))))))))) := by rw [cut_at (xs := xs) 0 1 (p := 1) rfl, e0, cut_at (xs := xs) 1 1 (p := 2) rfl, e1, cut_at (xs := xs) 2 1 (p := 3) rfl, e2, cut_at (xs := xs) 3 1 (p := 4) rfl, e3, cut_at (xs := xs) 4 1 (p := 5) rfl, e4, cut_at (xs := xs) 5 32 (p := 37) rfl, e5, cut_at (xs := xs) 37 1 (p := 38) rfl, e6, cut_at (xs := xs) 38 1 (p := 39) rfl, e7, cut_at (xs := xs) 39 1 (p := 40) rfl, e8, List.drop_eq_nil_of_le (by rw [hz]; exact Nat.le_of_ble_eq_true (by kernel_rfl)), List.append_nil]
 rw [List.drop_zero] at E
 exact ⟨(a0, a1, a2, a3, a4, a5, a6, a7, a8), by rw [E]; exact (HLs.cons rfl (HLs.cons ⟨A1, n1, c1, rfl, k1⟩ (HLs.cons rfl (HLs.cons rfl (HLs.cons rfl (HLs.arr (HLs.cons rfl (HLs.cons rfl (HLs.cons ⟨A8, n8, c8, rfl, k8⟩ HLs.nil))) hl5)))))), ⟨i64_of_wf g0, ⟨m1, g1⟩, trivial, u64_of_wf g3, u64_of_wf g4, ⟨Byt.of_wf g5, hl5⟩, u64_of_wf g6, i64_of_wf g7, m8⟩⟩
theorem door_met (os : Os) (args : Array Value) : laidMetH Tryd.prog [("reliquary/cipher.quarters", Rows.laid_reliquary_cipher_quarters), ("reliquary/digest.k", Rows.laid_reliquary_digest_k)] ((World.doorLaid Tryd.prog 400 os).forCall (fun _ _ => 0) ⟨#[], args, []⟩).memory :=
 laidMetH_of_parts3 (fuel := 8) (laidMet_of_run' 8 (by kernel_rfl) (by kernel_rfl)) (by kernel_rfl) (by kernel_rfl)
set_option maxRecDepth 100000 in
theorem lifted (os : Os) (started : os.Started) (H : Type) (enc : TypeId × Value → H) :
  ReturnsInHanded {} Tryd.checked os 7 .any (fun w args => (Rows.journalPlaysSpec.pre enc Tryd.prog Tryd.f7 [] false w args ∧ laidMetH Tryd.prog [("reliquary/cipher.quarters", Rows.laid_reliquary_cipher_quarters), ("reliquary/digest.k", Rows.laid_reliquary_digest_k)] w) ∧ sizedMet enc Tryd.prog Tryd.f7 (OpenSpec.ofChange Rows.journalPlaysSpec) false w args)
   (Rows.journalPlaysSpec.post enc Tryd.prog Tryd.f7 false true false false) := by
 refine returnsInHanded_of_change_and (C := Tryd.checked) (X := fun w _ => laidMetH Tryd.prog [("reliquary/cipher.quarters", Rows.laid_reliquary_cipher_quarters), ("reliquary/digest.k", Rows.laid_reliquary_digest_k)] w) (fun _ _ _ hh h => h.of_heap hh) own started (by kernel_rfl) Tryd.func7
  (ChangeSpec.witness_shaped (enc := enc) (C := Tryd.checked) (os := os) (X := fun w _ => laidMetH Tryd.prog [("reliquary/cipher.quarters", Rows.laid_reliquary_cipher_quarters), ("reliquary/digest.k", Rows.laid_reliquary_digest_k)] w) false (World.doorLaid Tryd.prog 400 os) #[.int .i64 0, .agg (iv .u8 (List.replicate 32 0)).toArray, .int .i64 0, .int .i64 0, .agg (([.int .u64 0] : List Value) ++ (([.int .u64 0] : List Value) ++ iv .u8 (List.replicate 32 (0 : Int)))).toArray, .int .u64 0, .int .u64 0, .slice none 0 0] 8 rfl (World.shaped_of_RefB (by kernel_rfl) (by kernel_rfl)) (by kernel_rfl) (by kernel_rfl) (by kernel_rfl) (door_met os _)) ?_
 intro W base args ds gs before hval0 hW hcnd hsz0 hL _
 have hk1 := laidMetH.filter (fun x => x.1 == "reliquary/cipher.quarters") hL
 rw [show List.filter (fun x => x.1 == "reliquary/cipher.quarters") ([("reliquary/cipher.quarters", Rows.laid_reliquary_cipher_quarters), ("reliquary/digest.k", Rows.laid_reliquary_digest_k)] : List (String × DataW Unit)) = [("reliquary/cipher.quarters", Rows.laid_reliquary_cipher_quarters)] from by kernel_rfl] at hk1
 have hG1 := of_laid_q hk1
 have hk0 := laidMetH.filter (fun x => x.1 == "reliquary/digest.k") hL
 rw [show List.filter (fun x => x.1 == "reliquary/digest.k") ([("reliquary/cipher.quarters", Rows.laid_reliquary_cipher_quarters), ("reliquary/digest.k", Rows.laid_reliquary_digest_k)] : List (String × DataW Unit)) = [("reliquary/digest.k", Rows.laid_reliquary_digest_k)] from by kernel_rfl] at hk0
 have hG0 := of_laid hk0
 have hval : ∀ (j : Nat) t v, Tryd.f7.params[j]? = some t → args[j]? = some v → Value.okWide Tryd.prog W .any base t v := hval0
 have hW' := hW
 obtain ⟨p, q, hA0, hV, rfl, hfz, hnd⟩ := hW
 have hA : DataW.TrodAll enc Tryd.prog W 0 (fun _ => true) true Tryd.f7.params.toList args.toList ds p := hA0
 rw [Tryd.params7] at hA hval
 obtain ⟨v0, vs0, d0, ds0, p0, q0, hargs, rfl, rfl, h0, r0⟩ := trodAll_cons hA
 obtain ⟨v1, vs1, d1, ds1, p1, q1, rfl, rfl, rfl, h1, r1⟩ := trodAll_cons r0
 obtain ⟨v2, vs2, d2, ds2, p2, q2, rfl, rfl, rfl, h2, r2⟩ := trodAll_cons r1
 obtain ⟨v3, vs3, d3, ds3, p3, q3, rfl, rfl, rfl, h3, r3⟩ := trodAll_cons r2
 obtain ⟨v4, vs4, d4, ds4, p4, q4, rfl, rfl, rfl, h4, r4⟩ := trodAll_cons r3
 obtain ⟨v5, vs5, d5, ds5, p5, q5, rfl, rfl, rfl, h5, r5⟩ := trodAll_cons r4
 obtain ⟨v6, vs6, d6, ds6, p6, q6, rfl, rfl, rfl, h6, r6⟩ := trodAll_cons r5
 obtain ⟨v7, vs7, d7, ds7, p7, q7, rfl, rfl, rfl, h7, r7⟩ := trodAll_cons r6
 obtain ⟨rfl, rfl, rfl⟩ := trodAll_nil r7
 obtain rfl : args = #[v0, v1, v2, v3, v4, v5, v6, v7] := by cases args; simp_all
 obtain ⟨rfl, rfl⟩ := trodVars_none hV
 obtain ⟨a0, rfl, rfl, rfl, f0⟩ := open_int Tryd.underlying3 (hval 0 3 v0 rfl rfl) h0
 have k1 := h1
 have lt1 : ∀ x ∈ p1, x.block < W.heap.size := by obtain ⟨m, hm⟩ := k1; exact DataW.trod_lt m _ _ _ hm
 obtain ⟨l1, rfl, hl1, f1⟩ := open_arr Tryd.underlying23 Tryd.underlying5 (by kernel_rfl) (by kernel_rfl) (hval 1 23 v1 rfl rfl) h1
 obtain ⟨a2, rfl, rfl, rfl, f2⟩ := open_int Tryd.underlying3 (hval 2 3 v2 rfl rfl) h2
 obtain ⟨a3, rfl, rfl, rfl, f3⟩ := open_int Tryd.underlying3 (hval 3 3 v3 rfl rfl) h3
 have k4 := h4
 have lt4 : ∀ x ∈ p4, x.block < W.heap.size := by obtain ⟨m, hm⟩ := k4; exact DataW.trod_lt m _ _ _ hm
 obtain ⟨cs4, rfl, hz4, t4⟩ := Tr.start Tryd.underlying39 rfl (hval 4 39 v4 rfl rfl) h4
 have t4_0 := Tr.field (ft := 37) (i := 0) (off := 0) (sz := 1) (p := 0) t4 (by kernel_rfl) (by kernel_rfl) rfl
 obtain ⟨a4_0, e4_0, f4_0⟩ := Tr.int t4_0 Tryd.underlying37 (by kernel_rfl)
 have t4_1 := Tr.field (ft := 37) (i := 1) (off := 1) (sz := 1) (p := 1) t4 (by kernel_rfl) (by kernel_rfl) rfl
 obtain ⟨a4_1, e4_1, f4_1⟩ := Tr.int t4_1 Tryd.underlying37 (by kernel_rfl)
 have t4_2 := Tr.field (ft := 23) (i := 2) (off := 2) (sz := 32) (p := 2) t4 (by kernel_rfl) (by kernel_rfl) rfl
 obtain ⟨l4_2, e4_2, hl4_2, f4_2⟩ := Tr.arr t4_2 Tryd.underlying23 Tryd.underlying5 (by kernel_rfl) (by kernel_rfl)
 have E4 : cs4.toList.drop 0 = ([.int .u64 a4_0] : List Value) ++ (([.int .u64 a4_1] : List Value) ++ iv .u8 l4_2) := by rw [cut_at (xs := cs4.toList) 0 1 (p := 1) rfl, e4_0, cut_at (xs := cs4.toList) 1 1 (p := 2) rfl, e4_1, cut_at (xs := cs4.toList) 2 32 (p := 34) rfl, e4_2, List.drop_eq_nil_of_le (by rw [hz4]; exact Nat.le_of_ble_eq_true (by kernel_rfl)), List.append_nil]
 obtain rfl : cs4 = (([.int .u64 a4_0] : List Value) ++ (([.int .u64 a4_1] : List Value) ++ iv .u8 l4_2)).toArray := by rw [List.drop_zero] at E4; rw [← E4]
 obtain ⟨a5, rfl, rfl, rfl, f5⟩ := open_int Tryd.underlying37 (hval 5 37 v5 rfl rfl) h5
 obtain ⟨a6, rfl, rfl, rfl, f6⟩ := open_int Tryd.underlying37 (hval 6 37 v6 rfl rfl) h6
 have k7 := h7
 have lt7 : ∀ x ∈ p7, x.block < W.heap.size := by obtain ⟨m, hm⟩ := k7; exact DataW.trod_lt m _ _ _ hm
 obtain ⟨A7, n7, c7, l7, rfl, hb7, m7, f7⟩ := open_recs (fun w => f84 w) ok84 Tryd.underlying79 cells84 each84 h7 (okWide_slice Tryd.underlying79 (hval 7 79 v7 rfl rfl))
 clear hA0 hval0 hsz0
 refine (reliquarylaw13_JournalPlays.calls W a0 l1 a2 a3 a4_0 a4_1 l4_2 a5 a6 l7 A7 n7 c7 hG0 hG1 hl1 hl4_2 hb7 (journalPlays_pure a0 l1 a2 a3 a4_0 a4_1 l4_2 a5 a6 l7 (i64_of_wf f0) (Byt.of_wf f1) hl1 (i64_of_wf f2) (i64_of_wf f3) (u64_of_wf f4_0) (u64_of_wf f4_1) (Byt.of_wf f4_2) hl4_2 (u64_of_wf f5) (u64_of_wf f6) m7 f7)).mono fun e W' ⟨he, bel⟩ => ?_
 subst he
 exact ⟨_, rfl, _, _, _, [], _, [], hW', trodAll_mk1 (shut_bool Tryd.underlying4 _), (trodAll_cons_mk (shut_int Tryd.underlying3 f0) (trodAll_cons_mk (Below.trod laidOut (by kernel_rfl) (of_decide_eq_true (by kernel_rfl)) k1 bel lt1) (trodAll_cons_mk (shut_int Tryd.underlying3 f2) (trodAll_cons_mk (shut_int Tryd.underlying3 f3) (trodAll_cons_mk (Below.trod laidOut (by kernel_rfl) (of_decide_eq_true (by kernel_rfl)) k4 bel lt4) (trodAll_cons_mk (shut_int Tryd.underlying37 f5) (trodAll_cons_mk (shut_int Tryd.underlying37 f6) (trodAll_cons_mk (Below.trod laidOut (by kernel_rfl) (of_decide_eq_true (by kernel_rfl)) k7 bel lt7) trodAll_mk0)))))))), rfl, bel.frame _, fun h => by cases h⟩
theorem over : Rows.journalPlaysRow.holds Tryd.pinned (OpenSpec.ofChange Rows.journalPlaysSpec) :=
 OpenClaim.holds_of_wide 7 Tryd.f7 rfl rfl rfl rfl rfl rfl rfl ⟨rfl, rfl, rfl, rfl, rfl⟩ rfl rfl rfl rfl rfl (by kernel_rfl) Tryd.func7 (by kernel_rfl)
  (of_decide_eq_true (by kernel_rfl)) (by unfold Func.isWrapper; first | (rw [if_pos (by decide +kernel)]; kernel_rfl) | (rw [if_neg (by decide +kernel)]; exact ⟨rfl, rfl⟩))
  (fun os started H enc _ => lifted os started H enc)
theorem card : Rows.JournalPlaysCardSaid :=
 Claim7.holds_tied_plain_at .later [] [.data, .data] true (true, "35dc5f97c09c288b4750b03c3ae6d2ea128d36da6c1b377b55642797c9a3f201") false
  over (fun _ h => by cases h) (by kernel_rfl) (fun _ h => by cases h) journalPlays_row_tie rfl ⟨rfl, rfl⟩ (by kernel_rfl) rfl
  (fun f fn hf hfn => by
   obtain rfl : f = 7 := Option.some.inj ((show Tryd.prog.funcNamed "reliquary/reliquarylaw13.JournalPlays" = some 7 by kernel_rfl).symm.trans hf) |>.symm
   obtain rfl : fn = Tryd.f7 := (Option.some.inj (Tryd.func7.symm.trans hfn)).symm
   exact ⟨by kernel_rfl, fun j t ht => by
    rw [Tryd.params7] at ht
    have hm : t ∈ [3, 23, 3, 3, 39, 37, 37, 79] := by simpa using Array.mem_of_getElem? ht
    have hall : ([3, 23, 3, 3, 39, 37, 37, 79].all fun u => !Tryd.prog.wantsStandIn u) = true := by kernel_rfl
    exact (show Tryd.prog.wantsStandIn t = false by simpa using List.all_eq_true.1 hall t hm)⟩)
  (by kernel_rfl)
end Go.Proofs.YtmhcjafkdmcgoaaDoor.journalPlays
namespace Go.Proofs.YtmhcjafkdmcgoaaDoor
/-- The row JournalPlays. -/
theorem journalPlays_holds : Rows.JournalPlaysCardSaid := journalPlays.card
end Go.Proofs.YtmhcjafkdmcgoaaDoor
