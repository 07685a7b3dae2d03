/- TreeNodes: for every input that its types allow, the law reliquarylaw10.TreeNodes returns true and each argument reads behind the call as it read before. No condition beyond the given row. -/
import Derived.Test.YtekpnjhacnkgcaaDoorCards
import Derived.Test.YtekpnjhacnkgcaaDoorTie
import Derived.Test.YtekpnjhacnkgcaaDoorPlKt
import Derived.LaidMore
import Derived.Stop.Joined
import Derived.SevenTiedAt
import Derived.Test.YtekpnjhacnkgcaaDoorRows
import Derived.Test.YtekpnjhacnkgcaaDoorPlTn
import Derived.Test.YtekpnjhacnkgcaaDoorPlS
import Derived.WalkKit
import Derived.ProofKit
import Derived.OpenShut
import Derived.ShutString
import Derived.ChangeOld
import Derived.Below
import Derived.SizedLaws
namespace Go.Proofs.YtekpnjhacnkgcaaDoor.treeNodes
open Go.ChangeShapes Go.WideShapes Go.ChangeAt Go.RowKit Go.Kr
open Go.ChangeMaps (open_string shut_string)
set_option linter.unusedVariables false
theorem own : ownKnob Tryd.prog.godebug = none := by kernel_rfl
theorem laidOut : laidOutB Tryd.prog = true := by kernel_rfl
theorem door_met (os : Os) (args : Array Value) : laidMetH Tryd.prog [("reliquary/digest.k", Rows.laid_reliquary_digest_k)] ((World.doorLaid Tryd.prog 400 os).forCall (fun _ _ => 0) ⟨#[], args, []⟩).memory :=
  laidMetH_of_parts3 (fuel := 8) (laidMet_of_run' 8 (by kernel_rfl) (by kernel_rfl)) (by kernel_rfl) (by kernel_rfl)
set_option maxRecDepth 100000 in
theorem lifted (os : Os) (started : os.Started) (H : Type) (enc : TypeId × Value → H) :
    ReturnsInHanded {} Tryd.checked os 3 .any (fun w args => (Rows.treeNodesSpec.pre enc Tryd.prog Tryd.f3 [] false w args ∧ laidMetH Tryd.prog [("reliquary/digest.k", Rows.laid_reliquary_digest_k)] w) ∧ sizedMet enc Tryd.prog Tryd.f3 (OpenSpec.ofChange Rows.treeNodesSpec) false w args)
      (Rows.treeNodesSpec.post enc Tryd.prog Tryd.f3 false true false false) := by
  refine returnsInHanded_of_change_and (C := Tryd.checked) (X := fun w _ => laidMetH Tryd.prog [("reliquary/digest.k", Rows.laid_reliquary_digest_k)] w) (fun _ _ _ hh h => h.of_heap hh) own started (by kernel_rfl) Tryd.func3
    (ChangeSpec.witness_shaped (enc := enc) (C := Tryd.checked) (os := os) (X := fun w _ => laidMetH Tryd.prog [("reliquary/digest.k", Rows.laid_reliquary_digest_k)] w) false (World.doorLaid Tryd.prog 400 os) #[.agg (iv .u8 (List.replicate 32 (0 : Int)) ++ (([.int .u64 0] : List Value) ++ (iv .u8 (List.replicate 32 (0 : Int)) ++ (([.int .u64 0] : List Value) ++ (iv .u8 (List.replicate 32 (0 : Int)) ++ (([.int .u64 0] : List Value) ++ (iv .u8 (List.replicate 32 (0 : Int)) ++ ([.int .u64 0] : List Value)))))))).toArray, .slice none 0 0] 8 rfl (World.shaped_of_RefB (by kernel_rfl) (by kernel_rfl)) (by kernel_rfl) (by kernel_rfl) (by kernel_rfl) (door_met os _)) ?_
  intro W base args ds gs before hval0 hW hcnd hsz0 hL _
  have hG0 := of_laid hL
  have hval : ∀ (j : Nat) t v, Tryd.f3.params[j]? = some t → args[j]? = some v → Value.okWide Tryd.prog W .any base t v := hval0
  have hW' := hW
  obtain ⟨p, q, hA0, hV, rfl, hfz, hnd⟩ := hW
  have hA : DataW.TrodAll enc Tryd.prog W 0 (fun _ => true) true Tryd.f3.params.toList args.toList ds p := hA0
  rw [Tryd.params3] at hA hval
  obtain ⟨v0, vs0, d0, ds0, p0, q0, hargs, rfl, rfl, h0, r0⟩ := trodAll_cons hA
  obtain ⟨v1, vs1, d1, ds1, p1, q1, rfl, rfl, rfl, h1, r1⟩ := trodAll_cons r0
  obtain ⟨rfl, rfl, rfl⟩ := trodAll_nil r1
  obtain rfl : args = #[v0, v1] := by cases args; simp_all
  obtain ⟨rfl, rfl⟩ := trodVars_none hV
  have k0 := h0
  have lt0 : ∀ x ∈ p0, x.block < W.heap.size := by obtain ⟨m, hm⟩ := k0; exact DataW.trod_lt m _ _ _ hm
  obtain ⟨cs0, rfl, hz0, t0⟩ := Tr.start Tryd.underlying28 rfl (hval 0 28 v0 rfl rfl) h0
  have t0_0 := Tr.elem (e := 26) (i := 0) (n := 4) (c := 33) (p := 0) t0 Tryd.underlying28 (by kernel_rfl) rfl (by kernel_rfl) rfl
  have t0_0_0 := Tr.field (ft := 23) (i := 0) (off := 0) (sz := 32) (p := 0) t0_0 (by kernel_rfl) (by kernel_rfl) rfl
  obtain ⟨l0_0, e0_0, hl0_0, f0_0⟩ := Tr.arr t0_0_0 Tryd.underlying23 Tryd.underlying5 (by kernel_rfl) (by kernel_rfl)
  have t0_0_1 := Tr.field (ft := 24) (i := 1) (off := 32) (sz := 1) (p := 32) t0_0 (by kernel_rfl) (by kernel_rfl) rfl
  obtain ⟨a0_1, e0_1, f0_1⟩ := Tr.int t0_0_1 Tryd.underlying24 (by kernel_rfl)
  have t0_1 := Tr.elem (e := 26) (i := 1) (n := 4) (c := 33) (p := 33) t0 Tryd.underlying28 (by kernel_rfl) rfl (by kernel_rfl) rfl
  have t0_1_0 := Tr.field (ft := 23) (i := 0) (off := 0) (sz := 32) (p := 33) t0_1 (by kernel_rfl) (by kernel_rfl) rfl
  obtain ⟨l0_2, e0_2, hl0_2, f0_2⟩ := Tr.arr t0_1_0 Tryd.underlying23 Tryd.underlying5 (by kernel_rfl) (by kernel_rfl)
  have t0_1_1 := Tr.field (ft := 24) (i := 1) (off := 32) (sz := 1) (p := 65) t0_1 (by kernel_rfl) (by kernel_rfl) rfl
  obtain ⟨a0_3, e0_3, f0_3⟩ := Tr.int t0_1_1 Tryd.underlying24 (by kernel_rfl)
  have t0_2 := Tr.elem (e := 26) (i := 2) (n := 4) (c := 33) (p := 66) t0 Tryd.underlying28 (by kernel_rfl) rfl (by kernel_rfl) rfl
  have t0_2_0 := Tr.field (ft := 23) (i := 0) (off := 0) (sz := 32) (p := 66) t0_2 (by kernel_rfl) (by kernel_rfl) rfl
  obtain ⟨l0_4, e0_4, hl0_4, f0_4⟩ := Tr.arr t0_2_0 Tryd.underlying23 Tryd.underlying5 (by kernel_rfl) (by kernel_rfl)
  have t0_2_1 := Tr.field (ft := 24) (i := 1) (off := 32) (sz := 1) (p := 98) t0_2 (by kernel_rfl) (by kernel_rfl) rfl
  obtain ⟨a0_5, e0_5, f0_5⟩ := Tr.int t0_2_1 Tryd.underlying24 (by kernel_rfl)
  have t0_3 := Tr.elem (e := 26) (i := 3) (n := 4) (c := 33) (p := 99) t0 Tryd.underlying28 (by kernel_rfl) rfl (by kernel_rfl) rfl
  have t0_3_0 := Tr.field (ft := 23) (i := 0) (off := 0) (sz := 32) (p := 99) t0_3 (by kernel_rfl) (by kernel_rfl) rfl
  obtain ⟨l0_6, e0_6, hl0_6, f0_6⟩ := Tr.arr t0_3_0 Tryd.underlying23 Tryd.underlying5 (by kernel_rfl) (by kernel_rfl)
  have t0_3_1 := Tr.field (ft := 24) (i := 1) (off := 32) (sz := 1) (p := 131) t0_3 (by kernel_rfl) (by kernel_rfl) rfl
  obtain ⟨a0_7, e0_7, f0_7⟩ := Tr.int t0_3_1 Tryd.underlying24 (by kernel_rfl)
  have E0 : cs0.toList.drop 0 = iv .u8 l0_0 ++ (([.int .u64 a0_1] : List Value) ++ (iv .u8 l0_2 ++ (([.int .u64 a0_3] : List Value) ++ (iv .u8 l0_4 ++ (([.int .u64 a0_5] : List Value) ++ (iv .u8 l0_6 ++ ([.int .u64 a0_7] : List Value))))))) := by rw [cut_at (xs := cs0.toList) 0 32 (p := 32) rfl, e0_0, cut_at (xs := cs0.toList) 32 1 (p := 33) rfl, e0_1, cut_at (xs := cs0.toList) 33 32 (p := 65) rfl, e0_2, cut_at (xs := cs0.toList) 65 1 (p := 66) rfl, e0_3, cut_at (xs := cs0.toList) 66 32 (p := 98) rfl, e0_4, cut_at (xs := cs0.toList) 98 1 (p := 99) rfl, e0_5, cut_at (xs := cs0.toList) 99 32 (p := 131) rfl, e0_6, cut_at (xs := cs0.toList) 131 1 (p := 132) rfl, e0_7, List.drop_eq_nil_of_le (by rw [hz0]; exact Nat.le_of_ble_eq_true (by kernel_rfl)), List.append_nil]
  obtain rfl : cs0 = (iv .u8 l0_0 ++ (([.int .u64 a0_1] : List Value) ++ (iv .u8 l0_2 ++ (([.int .u64 a0_3] : List Value) ++ (iv .u8 l0_4 ++ (([.int .u64 a0_5] : List Value) ++ (iv .u8 l0_6 ++ ([.int .u64 a0_7] : List Value)))))))).toArray := by rw [List.drop_zero] at E0; rw [← E0]
  have k1 := h1
  have lt1 : ∀ x ∈ p1, x.block < W.heap.size := by obtain ⟨m, hm⟩ := k1; exact DataW.trod_lt m _ _ _ hm
  obtain ⟨A1, n1, c1, l1, rfl, hs1, hn1, hc1, m1, f1⟩ := open_nums Tryd.underlying29 Tryd.underlying5 (by kernel_rfl) h1 (okWide_slice Tryd.underlying29 (hval 1 29 v1 rfl rfl))
  clear hA0 hval0 hsz0
  refine (reliquarylaw10_TreeNodes.calls W l0_0 a0_1 l0_2 a0_3 l0_4 a0_5 l0_6 a0_7 l1 A1 n1 c1 hG0 hl0_0 hl0_2 hl0_4 hl0_6 hs1 hn1 hc1 (treeNodes_pure l0_0 a0_1 l0_2 a0_3 l0_4 a0_5 l0_6 a0_7 l1 (Byt.of_wf f0_0) hl0_0 (u64_of_wf f0_1) (Byt.of_wf f0_2) hl0_2 (u64_of_wf f0_3) (Byt.of_wf f0_4) hl0_4 (u64_of_wf f0_5) (Byt.of_wf f0_6) hl0_6 (u64_of_wf f0_7) (Byt.of_wf f1))).mono fun e W' ⟨he, bel⟩ => ?_
  subst he
  exact ⟨_, rfl, _, _, _, [], _, [], hW', trodAll_mk1 (shut_bool Tryd.underlying4 _), (trodAll_cons_mk (Below.trod laidOut (by kernel_rfl) (of_decide_eq_true (by kernel_rfl)) k0 bel lt0) (trodAll_cons_mk (Below.trod laidOut (by kernel_rfl) (of_decide_eq_true (by kernel_rfl)) k1 bel lt1) trodAll_mk0)), rfl, bel.frame _, fun h => by cases h⟩
theorem over : Rows.treeNodesRow.holds Tryd.pinned (OpenSpec.ofChange Rows.treeNodesSpec) :=
  OpenClaim.holds_of_wide 3 Tryd.f3 rfl rfl rfl rfl rfl rfl rfl ⟨rfl, rfl, rfl, rfl, rfl⟩ rfl rfl rfl rfl rfl (by kernel_rfl) Tryd.func3 (by kernel_rfl)
    (of_decide_eq_true (by kernel_rfl)) (by unfold Func.isWrapper; first | (rw [if_pos (by decide +kernel)]; kernel_rfl) | (rw [if_neg (by decide +kernel)]; exact ⟨rfl, rfl⟩))
    (fun os started H enc _ => lifted os started H enc)
theorem card : Rows.TreeNodesCardSaid :=
  Claim7.holds_tied_plain_at .later [] [.data] true (true, "1365f6d779ce963836325cd02f1bc313c9ef605522c0c50edcf74189e24302da") false
    over (fun _ h => by cases h) (by kernel_rfl) (fun _ h => by cases h) treeNodes_row_tie rfl ⟨rfl, rfl⟩ (by kernel_rfl) rfl
    (fun f fn hf hfn => by
      obtain rfl : f = 3 := Option.some.inj ((show Tryd.prog.funcNamed "reliquary/reliquarylaw10.TreeNodes" = some 3 by kernel_rfl).symm.trans hf) |>.symm
      obtain rfl : fn = Tryd.f3 := (Option.some.inj (Tryd.func3.symm.trans hfn)).symm
      exact ⟨by kernel_rfl, fun j t ht => by
        rw [Tryd.params3] at ht
        have hm : t ∈ [28, 29] := by simpa using Array.mem_of_getElem? ht
        have hall : ([28, 29].all fun u => !Tryd.prog.wantsStandIn u) = true := by kernel_rfl
        exact (show Tryd.prog.wantsStandIn t = false by simpa using List.all_eq_true.1 hall t hm)⟩)
    (by kernel_rfl)
end Go.Proofs.YtekpnjhacnkgcaaDoor.treeNodes
namespace Go.Proofs.YtekpnjhacnkgcaaDoor
/-- The row TreeNodes. -/
theorem treeNodes_holds : Rows.TreeNodesCardSaid := treeNodes.card
end Go.Proofs.YtekpnjhacnkgcaaDoor
