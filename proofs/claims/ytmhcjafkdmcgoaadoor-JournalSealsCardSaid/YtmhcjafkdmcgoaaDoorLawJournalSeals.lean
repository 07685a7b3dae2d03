/- JournalSeals: for every input that its types allow, the law reliquarylaw13.JournalSeals returns true and each argument reads behind the call as it read before. No condition beyond the given row. -/
import Derived.Test.YtmhcjafkdmcgoaaDoorCards
import Derived.Test.YtmhcjafkdmcgoaaDoorTie
import Derived.Test.YtmhcjafkdmcgoaaDoorPlKq
import Derived.Test.YtmhcjafkdmcgoaaDoorPlKt
import Derived.LaidMore
import Derived.LaidSub
import Derived.Stop.Joined
import Derived.SevenTiedAt
import Derived.Test.YtmhcjafkdmcgoaaDoorRows
import Derived.Test.YtmhcjafkdmcgoaaDoorPlJz
import Derived.Test.YtmhcjafkdmcgoaaDoorPlAg
import Derived.WalkKit
import Derived.ProofKit
import Derived.OpenShut
import Derived.ShutString
import Derived.ChangeOld
import Derived.Below
import Derived.SizedLaws
namespace Go.Proofs.YtmhcjafkdmcgoaaDoor.journalSeals
open Go.ChangeShapes Go.WideShapes Go.ChangeAt Go.RowKit Go.Kr
open Go.ChangeMaps (open_string shut_string)
set_option linter.unusedVariables false
theorem own : ownKnob Tryd.prog.godebug = none := by kernel_rfl
theorem laidOut : laidOutB Tryd.prog = true := by kernel_rfl
theorem each42 {H : Type} {enc : TypeId × Value → H} {W : World} (xs : List Value) (hz : xs.length = 2) (h : Tr enc Tryd.prog W 42 xs 0) : ∃ x : R42, HLs [] xs (f42 W x) ∧ ok42 x := by
  have h_0 := Tr.field (ft := 37) (i := 0) (off := 0) (sz := 1) (p := 0) h (by kernel_rfl) (by kernel_rfl) rfl
  obtain ⟨a0, e0, g0⟩ := Tr.int h_0 Tryd.underlying37 (by kernel_rfl)
  have h_1 := Tr.field (ft := 25) (i := 1) (off := 1) (sz := 1) (p := 1) h (by kernel_rfl) (by kernel_rfl) rfl
  obtain ⟨A1, n1, c1, a1, e1, k1, m1, g1⟩ := Tr.nums h_1 Tryd.underlying25 (by kernel_rfl) Tryd.underlying5 (by kernel_rfl)
  have E : xs.drop 0 = ([.int .u64 a0] : List Value) ++ (([.slice A1 n1 c1] : List Value)) := by rw [cut_at (xs := xs) 0 1 (p := 1) rfl, e0, cut_at (xs := xs) 1 1 (p := 2) rfl, e1, List.drop_eq_nil_of_le (by rw [hz]; exact Nat.le_of_ble_eq_true (by kernel_rfl)), List.append_nil]
  rw [List.drop_zero] at E
  exact ⟨(a0, a1), by rw [E]; exact (HLs.cons rfl (HLs.cons ⟨A1, n1, c1, rfl, k1⟩ HLs.nil)), ⟨u64_of_wf g0, ⟨m1, Byt.of_wf g1⟩⟩⟩
theorem door_met (os : Os) (args : Array Value) : laidMetH Tryd.prog [("reliquary/cipher.quarters", Rows.laid_reliquary_cipher_quarters), ("reliquary/digest.k", Rows.laid_reliquary_digest_k)] ((World.doorLaid Tryd.prog 400 os).forCall (fun _ _ => 0) ⟨#[], args, []⟩).memory :=
  laidMetH_of_parts3 (fuel := 8) (laidMet_of_run' 8 (by kernel_rfl) (by kernel_rfl)) (by kernel_rfl) (by kernel_rfl)
set_option maxRecDepth 100000 in
theorem lifted (os : Os) (started : os.Started) (H : Type) (enc : TypeId × Value → H) :
    ReturnsInHanded {} Tryd.checked os 5 .any (fun w args => (Rows.journalSealsSpec.pre enc Tryd.prog Tryd.f5 [] false w args ∧ laidMetH Tryd.prog [("reliquary/cipher.quarters", Rows.laid_reliquary_cipher_quarters), ("reliquary/digest.k", Rows.laid_reliquary_digest_k)] w) ∧ sizedMet enc Tryd.prog Tryd.f5 (OpenSpec.ofChange Rows.journalSealsSpec) false w args)
      (Rows.journalSealsSpec.post enc Tryd.prog Tryd.f5 false true false false) := by
  refine returnsInHanded_of_change_and (C := Tryd.checked) (X := fun w _ => laidMetH Tryd.prog [("reliquary/cipher.quarters", Rows.laid_reliquary_cipher_quarters), ("reliquary/digest.k", Rows.laid_reliquary_digest_k)] w) (fun _ _ _ hh h => h.of_heap hh) own started (by kernel_rfl) Tryd.func5
    (ChangeSpec.witness_shaped (enc := enc) (C := Tryd.checked) (os := os) (X := fun w _ => laidMetH Tryd.prog [("reliquary/cipher.quarters", Rows.laid_reliquary_cipher_quarters), ("reliquary/digest.k", Rows.laid_reliquary_digest_k)] w) false (World.doorLaid Tryd.prog 400 os) #[.agg (iv .u8 (List.replicate 32 0)).toArray, .slice none 0 0, .int .u8 0, .int .u16 0] 8 rfl (World.shaped_of_RefB (by kernel_rfl) (by kernel_rfl)) (by kernel_rfl) (by kernel_rfl) (by kernel_rfl) (door_met os _)) ?_
  intro W base args ds gs before hval0 hW hcnd hsz0 hL _
  have hk1 := laidMetH.filter (fun x => x.1 == "reliquary/cipher.quarters") hL
  rw [show List.filter (fun x => x.1 == "reliquary/cipher.quarters") ([("reliquary/cipher.quarters", Rows.laid_reliquary_cipher_quarters), ("reliquary/digest.k", Rows.laid_reliquary_digest_k)] : List (String × DataW Unit)) = [("reliquary/cipher.quarters", Rows.laid_reliquary_cipher_quarters)] from by kernel_rfl] at hk1
  have hG1 := of_laid_q hk1
  have hk0 := laidMetH.filter (fun x => x.1 == "reliquary/digest.k") hL
  rw [show List.filter (fun x => x.1 == "reliquary/digest.k") ([("reliquary/cipher.quarters", Rows.laid_reliquary_cipher_quarters), ("reliquary/digest.k", Rows.laid_reliquary_digest_k)] : List (String × DataW Unit)) = [("reliquary/digest.k", Rows.laid_reliquary_digest_k)] from by kernel_rfl] at hk0
  have hG0 := of_laid hk0
  have hval : ∀ (j : Nat) t v, Tryd.f5.params[j]? = some t → args[j]? = some v → Value.okWide Tryd.prog W .any base t v := hval0
  have hW' := hW
  obtain ⟨p, q, hA0, hV, rfl, hfz, hnd⟩ := hW
  have hA : DataW.TrodAll enc Tryd.prog W 0 (fun _ => true) true Tryd.f5.params.toList args.toList ds p := hA0
  rw [Tryd.params5] at hA hval
  obtain ⟨v0, vs0, d0, ds0, p0, q0, hargs, rfl, rfl, h0, r0⟩ := trodAll_cons hA
  obtain ⟨v1, vs1, d1, ds1, p1, q1, rfl, rfl, rfl, h1, r1⟩ := trodAll_cons r0
  obtain ⟨v2, vs2, d2, ds2, p2, q2, rfl, rfl, rfl, h2, r2⟩ := trodAll_cons r1
  obtain ⟨v3, vs3, d3, ds3, p3, q3, rfl, rfl, rfl, h3, r3⟩ := trodAll_cons r2
  obtain ⟨rfl, rfl, rfl⟩ := trodAll_nil r3
  obtain rfl : args = #[v0, v1, v2, v3] := by cases args; simp_all
  obtain ⟨rfl, rfl⟩ := trodVars_none hV
  have k0 := h0
  have lt0 : ∀ x ∈ p0, x.block < W.heap.size := by obtain ⟨m, hm⟩ := k0; exact DataW.trod_lt m _ _ _ hm
  obtain ⟨l0, rfl, hl0, f0⟩ := open_arr Tryd.underlying23 Tryd.underlying5 (by kernel_rfl) (by kernel_rfl) (hval 0 23 v0 rfl rfl) h0
  have k1 := h1
  have lt1 : ∀ x ∈ p1, x.block < W.heap.size := by obtain ⟨m, hm⟩ := k1; exact DataW.trod_lt m _ _ _ hm
  obtain ⟨A1, n1, c1, l1, rfl, hb1, m1, f1⟩ := open_recs (fun w => f42 w) ok42 Tryd.underlying40 cells42 each42 h1 (okWide_slice Tryd.underlying40 (hval 1 40 v1 rfl rfl))
  obtain ⟨a2, rfl, rfl, rfl, f2⟩ := open_int Tryd.underlying5 (hval 2 5 v2 rfl rfl) h2
  obtain ⟨a3, rfl, rfl, rfl, f3⟩ := open_int Tryd.underlying53 (hval 3 53 v3 rfl rfl) h3
  clear hA0 hval0 hsz0
  refine (reliquarylaw13_JournalSeals.calls W l0 l1 a2 a3 A1 n1 c1 hG0 hG1 hl0 hb1 (journalSeals_pure l0 l1 a2 a3 (Byt.of_wf f0) hl0 m1 f1 (u8_of_wf f2) (u16_of_wf f3))).mono fun e W' ⟨he, bel⟩ => ?_
  subst he
  exact ⟨_, rfl, _, _, _, [], _, [], hW', trodAll_mk1 (shut_bool Tryd.underlying4 _), (trodAll_cons_mk (Below.trod laidOut (by kernel_rfl) (of_decide_eq_true (by kernel_rfl)) k0 bel lt0) (trodAll_cons_mk (Below.trod laidOut (by kernel_rfl) (of_decide_eq_true (by kernel_rfl)) k1 bel lt1) (trodAll_cons_mk (shut_int Tryd.underlying5 f2) (trodAll_cons_mk (shut_int Tryd.underlying53 f3) trodAll_mk0)))), rfl, bel.frame _, fun h => by cases h⟩
theorem over : Rows.journalSealsRow.holds Tryd.pinned (OpenSpec.ofChange Rows.journalSealsSpec) :=
  OpenClaim.holds_of_wide 5 Tryd.f5 rfl rfl rfl rfl rfl rfl rfl ⟨rfl, rfl, rfl, rfl, rfl⟩ rfl rfl rfl rfl rfl (by kernel_rfl) Tryd.func5 (by kernel_rfl)
    (of_decide_eq_true (by kernel_rfl)) (by unfold Func.isWrapper; first | (rw [if_pos (by decide +kernel)]; kernel_rfl) | (rw [if_neg (by decide +kernel)]; exact ⟨rfl, rfl⟩))
    (fun os started H enc _ => lifted os started H enc)
theorem card : Rows.JournalSealsCardSaid :=
  Claim7.holds_tied_plain_at .later [] [.data, .data] true (true, "35dc5f97c09c288b4750b03c3ae6d2ea128d36da6c1b377b55642797c9a3f201") false
    over (fun _ h => by cases h) (by kernel_rfl) (fun _ h => by cases h) journalSeals_row_tie rfl ⟨rfl, rfl⟩ (by kernel_rfl) rfl
    (fun f fn hf hfn => by
      obtain rfl : f = 5 := Option.some.inj ((show Tryd.prog.funcNamed "reliquary/reliquarylaw13.JournalSeals" = some 5 by kernel_rfl).symm.trans hf) |>.symm
      obtain rfl : fn = Tryd.f5 := (Option.some.inj (Tryd.func5.symm.trans hfn)).symm
      exact ⟨by kernel_rfl, fun j t ht => by
        rw [Tryd.params5] at ht
        have hm : t ∈ [23, 40, 5, 53] := by simpa using Array.mem_of_getElem? ht
        have hall : ([23, 40, 5, 53].all fun u => !Tryd.prog.wantsStandIn u) = true := by kernel_rfl
        exact (show Tryd.prog.wantsStandIn t = false by simpa using List.all_eq_true.1 hall t hm)⟩)
    (by kernel_rfl)
end Go.Proofs.YtmhcjafkdmcgoaaDoor.journalSeals
namespace Go.Proofs.YtmhcjafkdmcgoaaDoor
/-- The row JournalSeals. -/
theorem journalSeals_holds : Rows.JournalSealsCardSaid := journalSeals.card
end Go.Proofs.YtmhcjafkdmcgoaaDoor
