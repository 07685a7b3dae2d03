/- CipherNonces: for every input that its types allow, the law reliquarylaw04.CipherNonces returns true and each argument reads behind the call as it read before. No condition beyond the given row. -/
import Derived.Test.YtfbcokceambghaaDoorCards
import Derived.Test.YtfbcokceambghaaDoorTie
import Derived.Test.YtfbcokceambghaaDoorPlKq
import Derived.LaidMore
import Derived.Stop.Joined
import Derived.SevenTiedAt
import Derived.Test.YtfbcokceambghaaDoorRows
import Derived.Test.YtfbcokceambghaaDoorPlC4
import Derived.Test.YtfbcokceambghaaDoorPlB
import Derived.WalkKit
import Derived.ProofKit
import Derived.OpenShut
import Derived.ShutString
import Derived.ChangeOld
import Derived.Below
import Derived.SizedLaws
namespace Go.Proofs.YtfbcokceambghaaDoor.cipherNonces
open Go.ChangeShapes Go.WideShapes Go.ChangeAt Go.RowKit Go.Kr
open Go.ChangeMaps (open_string shut_string)
set_option linter.unusedVariables false
theorem own : ownKnob Tryd.prog.godebug = none := by kernel_rfl
theorem laidOut : laidOutB Tryd.prog = true := by kernel_rfl
theorem door_met (os : Os) (args : Array Value) : laidMetH Tryd.prog [("reliquary/cipher.quarters", Rows.laid_reliquary_cipher_quarters)] ((World.doorLaid Tryd.prog 400 os).forCall (fun _ _ => 0) ⟨#[], args, []⟩).memory :=
  laidMetH_of_parts3 (fuel := 8) (laidMet_of_run' 8 (by kernel_rfl) (by kernel_rfl)) (by kernel_rfl) (by kernel_rfl)
set_option maxRecDepth 100000 in
theorem lifted (os : Os) (started : os.Started) (H : Type) (enc : TypeId × Value → H) :
    ReturnsInHanded {} Tryd.checked os 6 .any (fun w args => (Rows.cipherNoncesSpec.pre enc Tryd.prog Tryd.f6 [] false w args ∧ laidMetH Tryd.prog [("reliquary/cipher.quarters", Rows.laid_reliquary_cipher_quarters)] w) ∧ sizedMet enc Tryd.prog Tryd.f6 (OpenSpec.ofChange Rows.cipherNoncesSpec) false w args)
      (Rows.cipherNoncesSpec.post enc Tryd.prog Tryd.f6 false true false false) := by
  refine returnsInHanded_of_change_and (C := Tryd.checked) (X := fun w _ => laidMetH Tryd.prog [("reliquary/cipher.quarters", Rows.laid_reliquary_cipher_quarters)] w) (fun _ _ _ hh h => h.of_heap hh) own started (by kernel_rfl) Tryd.func6
    (ChangeSpec.witness_shaped (enc := enc) (C := Tryd.checked) (os := os) (X := fun w _ => laidMetH Tryd.prog [("reliquary/cipher.quarters", Rows.laid_reliquary_cipher_quarters)] w) false (World.doorLaid Tryd.prog 400 os) #[.int .u32 0, .int .u64 0, .int .u32 0, .int .u64 0] 8 rfl (World.shaped_of_RefB (by kernel_rfl) (by kernel_rfl)) (by kernel_rfl) (by kernel_rfl) (by kernel_rfl) (door_met os _)) ?_
  intro W base args ds gs before hval0 hW hcnd hsz0 hL _
  have hG0 := of_laid_q hL
  have hval : ∀ (j : Nat) t v, Tryd.f6.params[j]? = some t → args[j]? = some v → Value.okWide Tryd.prog W .any base t v := hval0
  have hW' := hW
  obtain ⟨p, q, hA0, hV, rfl, hfz, hnd⟩ := hW
  have hA : DataW.TrodAll enc Tryd.prog W 0 (fun _ => true) true Tryd.f6.params.toList args.toList ds p := hA0
  rw [Tryd.params6] at hA hval
  obtain ⟨v0, vs0, d0, ds0, p0, q0, hargs, rfl, rfl, h0, r0⟩ := trodAll_cons hA
  obtain ⟨v1, vs1, d1, ds1, p1, q1, rfl, rfl, rfl, h1, r1⟩ := trodAll_cons r0
  obtain ⟨v2, vs2, d2, ds2, p2, q2, rfl, rfl, rfl, h2, r2⟩ := trodAll_cons r1
  obtain ⟨v3, vs3, d3, ds3, p3, q3, rfl, rfl, rfl, h3, r3⟩ := trodAll_cons r2
  obtain ⟨rfl, rfl, rfl⟩ := trodAll_nil r3
  obtain rfl : args = #[v0, v1, v2, v3] := by cases args; simp_all
  obtain ⟨rfl, rfl⟩ := trodVars_none hV
  obtain ⟨a0, rfl, rfl, rfl, f0⟩ := open_int Tryd.underlying24 (hval 0 24 v0 rfl rfl) h0
  obtain ⟨a1, rfl, rfl, rfl, f1⟩ := open_int Tryd.underlying30 (hval 1 30 v1 rfl rfl) h1
  obtain ⟨a2, rfl, rfl, rfl, f2⟩ := open_int Tryd.underlying24 (hval 2 24 v2 rfl rfl) h2
  obtain ⟨a3, rfl, rfl, rfl, f3⟩ := open_int Tryd.underlying30 (hval 3 30 v3 rfl rfl) h3
  clear hA0 hval0 hsz0
  refine (reliquarylaw04_CipherNonces.calls W a0 a1 a2 a3 hG0 (cipherNonces_pure a0 a1 a2 a3 (u32_of_wf f0) (u64_of_wf f1) (u32_of_wf f2) (u64_of_wf f3))).mono fun e W' ⟨he, bel⟩ => ?_
  subst he
  exact ⟨_, rfl, _, _, _, [], _, [], hW', trodAll_mk1 (shut_bool Tryd.underlying4 _), (trodAll_cons_mk (shut_int Tryd.underlying24 f0) (trodAll_cons_mk (shut_int Tryd.underlying30 f1) (trodAll_cons_mk (shut_int Tryd.underlying24 f2) (trodAll_cons_mk (shut_int Tryd.underlying30 f3) trodAll_mk0)))), rfl, bel.frame _, fun h => by cases h⟩
theorem over : Rows.cipherNoncesRow.holds Tryd.pinned (OpenSpec.ofChange Rows.cipherNoncesSpec) :=
  OpenClaim.holds_of_wide 6 Tryd.f6 rfl rfl rfl rfl rfl rfl rfl ⟨rfl, rfl, rfl, rfl, rfl⟩ rfl rfl rfl rfl rfl (by kernel_rfl) Tryd.func6 (by kernel_rfl)
    (of_decide_eq_true (by kernel_rfl)) (by unfold Func.isWrapper; first | (rw [if_pos (by decide +kernel)]; kernel_rfl) | (rw [if_neg (by decide +kernel)]; exact ⟨rfl, rfl⟩))
    (fun os started H enc _ => lifted os started H enc)
theorem card : Rows.CipherNoncesCardSaid :=
  Claim7.holds_tied_plain_at .later [] [.data] true (true, "64e732376096591a6ccf05a81ac7460f5325322a26fecd85507cb900ee1d36b9") false
    over (fun _ h => by cases h) (by kernel_rfl) (fun _ h => by cases h) cipherNonces_row_tie rfl ⟨rfl, rfl⟩ (by kernel_rfl) rfl
    (fun f fn hf hfn => by
      obtain rfl : f = 6 := Option.some.inj ((show Tryd.prog.funcNamed "reliquary/reliquarylaw04.CipherNonces" = some 6 by kernel_rfl).symm.trans hf) |>.symm
      obtain rfl : fn = Tryd.f6 := (Option.some.inj (Tryd.func6.symm.trans hfn)).symm
      exact ⟨by kernel_rfl, fun j t ht => by
        rw [Tryd.params6] at ht
        have hm : t ∈ [24, 30, 24, 30] := by simpa using Array.mem_of_getElem? ht
        have hall : ([24, 30, 24, 30].all fun u => !Tryd.prog.wantsStandIn u) = true := by kernel_rfl
        exact (show Tryd.prog.wantsStandIn t = false by simpa using List.all_eq_true.1 hall t hm)⟩)
    (by kernel_rfl)
end Go.Proofs.YtfbcokceambghaaDoor.cipherNonces
namespace Go.Proofs.YtfbcokceambghaaDoor
/-- The row CipherNonces. -/
theorem cipherNonces_holds : Rows.CipherNoncesCardSaid := cipherNonces.card
end Go.Proofs.YtfbcokceambghaaDoor
