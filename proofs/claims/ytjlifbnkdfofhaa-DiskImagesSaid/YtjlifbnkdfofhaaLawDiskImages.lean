/- DiskImages: for every input that its types allow, the law reliquarylaw06.DiskImages returns true and each argument reads behind the call as it read before. No condition beyond the given row. -/
import Derived.Test.YtjlifbnkdfofhaaRows
import Derived.Test.YtjlifbnkdfofhaaPlDi
import Derived.Test.YtjlifbnkdfofhaaPlAg
import Derived.WalkKit
import Derived.ProofKit
import Derived.OpenShut
import Derived.ShutString
import Derived.ChangeOld
import Derived.Below
import Derived.SizedLaws
namespace Go.Proofs.Ytjlifbnkdfofhaa.diskImages
open Go.ChangeShapes Go.WideShapes Go.ChangeAt Go.RowKit Go.Kr
open Go.ChangeMaps (open_string shut_string)
set_option linter.unusedVariables false
theorem own : ownKnob Try.prog.godebug = none := by kernel_rfl
theorem laidOut : laidOutB Try.prog = true := by kernel_rfl
theorem each33 {H : Type} {enc : TypeId × Value → H} {W : World} (xs : List Value) (hz : xs.length = 5) (h : Tr enc Try.prog W 33 xs 0) : ∃ x : R33, HLs [] xs (f33 W x) ∧ ok33 x := by
  have h_0 := Tr.field (ft := 3) (i := 0) (off := 0) (sz := 1) (p := 0) h (by kernel_rfl) (by kernel_rfl) rfl
  obtain ⟨a0, e0, g0⟩ := Tr.int h_0 Try.underlying3 (by kernel_rfl)
  have h_1 := Tr.field (ft := 3) (i := 1) (off := 1) (sz := 1) (p := 1) h (by kernel_rfl) (by kernel_rfl) rfl
  obtain ⟨a1, e1, g1⟩ := Tr.int h_1 Try.underlying3 (by kernel_rfl)
  have h_2 := Tr.field (ft := 22) (i := 2) (off := 2) (sz := 1) (p := 2) h (by kernel_rfl) (by kernel_rfl) rfl
  obtain ⟨A2, n2, c2, a2, e2, k2, m2, g2⟩ := Tr.nums h_2 Try.underlying22 (by kernel_rfl) Try.underlying5 (by kernel_rfl)
  have h_3 := Tr.field (ft := 23) (i := 3) (off := 3) (sz := 1) (p := 3) h (by kernel_rfl) (by kernel_rfl) rfl
  obtain ⟨A3, n3, c3, a3, e3, k3, m3⟩ := Tr.bls h_3 Try.underlying23 (by kernel_rfl) Try.underlying4 (by kernel_rfl)
  have h_4 := Tr.field (ft := 4) (i := 4) (off := 4) (sz := 1) (p := 4) h (by kernel_rfl) (by kernel_rfl) rfl
  obtain ⟨a4, e4⟩ := Tr.bool h_4 Try.underlying4 (by kernel_rfl)
  have E : xs.drop 0 = ([.int .i64 a0] : List Value) ++ (([.int .i64 a1] : List Value) ++ (([.slice A2 n2 c2] : List Value) ++ (([.slice A3 n3 c3] : List Value) ++ (([.bool a4] : List Value))))) := by rw [cut_at (xs := xs) 0 1 (p := 1) rfl, e0, cut_at (xs := xs) 1 1 (p := 2) rfl, e1, cut_at (xs := xs) 2 1 (p := 3) rfl, e2, cut_at (xs := xs) 3 1 (p := 4) rfl, e3, cut_at (xs := xs) 4 1 (p := 5) rfl, e4, List.drop_eq_nil_of_le (by rw [hz]; exact Nat.le_of_ble_eq_true (by kernel_rfl)), List.append_nil]
  rw [List.drop_zero] at E
  exact ⟨(a0, a1, a2, a3, a4), by rw [E]; exact (HLs.cons rfl (HLs.cons rfl (HLs.cons ⟨A2, n2, c2, rfl, k2⟩ (HLs.cons ⟨A3, n3, c3, rfl, k3⟩ (HLs.cons rfl HLs.nil))))), ⟨i64_of_wf g0, i64_of_wf g1, ⟨m2, Byt.of_wf g2⟩, m3, trivial⟩⟩
set_option maxRecDepth 100000 in
theorem lifted (os : Os) (started : os.Started) (H : Type) (enc : TypeId × Value → H) :
    ReturnsInHanded {} Try.checked os 7 .any (Rows.diskImagesSpec.pre6 enc Try.prog Try.f7 Rows.diskImagesRow.domain false) (Rows.diskImagesSpec.post enc Try.prog Try.f7 false true false false) := by
  refine returnsInHanded_of_change_sized (C := Try.checked) own started (by kernel_rfl) Try.func7
    (ChangeSpec.witness6 (enc := enc) (C := Try.checked) false ⟨#[], #[.int .u8 0, .slice none 0 0, .slice none 0 0, .bool false], []⟩ 8 (by kernel_rfl) (by kernel_rfl) (by kernel_rfl) (by kernel_rfl)) ?_
  intro W base args ds gs before hval0 hW hcnd hsz0 _
  have hval : ∀ (j : Nat) t v, Try.f7.params[j]? = some t → args[j]? = some v → Value.okWide Try.prog W .any base t v := hval0
  have hW' := hW
  obtain ⟨p, q, hA0, hV, rfl, hfz, hnd⟩ := hW
  have hA : DataW.TrodAll enc Try.prog W 0 (fun _ => true) true Try.f7.params.toList args.toList ds p := hA0
  rw [Try.params7] at hA hval
  obtain ⟨v0, vs0, d0, ds0, p0, q0, hargs, rfl, rfl, h0, r0⟩ := trodAll_cons hA
  obtain ⟨v1, vs1, d1, ds1, p1, q1, rfl, rfl, rfl, h1, r1⟩ := trodAll_cons r0
  obtain ⟨v2, vs2, d2, ds2, p2, q2, rfl, rfl, rfl, h2, r2⟩ := trodAll_cons r1
  obtain ⟨v3, vs3, d3, ds3, p3, q3, rfl, rfl, rfl, h3, r3⟩ := trodAll_cons r2
  obtain ⟨rfl, rfl, rfl⟩ := trodAll_nil r3
  obtain rfl : args = #[v0, v1, v2, v3] := by cases args; simp_all
  obtain ⟨rfl, rfl⟩ := trodVars_none hV
  obtain ⟨a0, rfl, rfl, rfl, f0⟩ := open_int Try.underlying5 (hval 0 5 v0 rfl rfl) h0
  have k1 := h1
  have lt1 : ∀ x ∈ p1, x.block < W.heap.size := by obtain ⟨m, hm⟩ := k1; exact DataW.trod_lt m _ _ _ hm
  obtain ⟨A1, n1, c1, l1, rfl, hb1, m1, f1⟩ := open_recs (fun w => f33 w) ok33 Try.underlying44 cells33 each33 h1 (okWide_slice Try.underlying44 (hval 1 44 v1 rfl rfl))
  have k2 := h2
  have lt2 : ∀ x ∈ p2, x.block < W.heap.size := by obtain ⟨m, hm⟩ := k2; exact DataW.trod_lt m _ _ _ hm
  obtain ⟨A2, n2, c2, l2, rfl, hb2, m2, f2⟩ := open_recs (fun w => f33 w) ok33 Try.underlying44 cells33 each33 h2 (okWide_slice Try.underlying44 (hval 2 44 v2 rfl rfl))
  obtain ⟨a3, rfl, rfl, rfl⟩ := open_bool Try.underlying4 (hval 3 4 v3 rfl rfl) h3
  clear hA0 hval0 hsz0
  refine (reliquarylaw06_DiskImages.calls W a0 l1 l2 a3 A1 n1 c1 A2 n2 c2 hb1 hb2 (diskImages_pure a0 l1 l2 a3 (u8_of_wf f0) m1 f1 m2 f2)).mono fun e W' ⟨he, bel⟩ => ?_
  subst he
  exact ⟨_, rfl, _, _, _, [], _, [], hW', trodAll_mk1 (shut_bool Try.underlying4 _), (trodAll_cons_mk (shut_int Try.underlying5 f0) (trodAll_cons_mk (Below.trod laidOut (by kernel_rfl) (of_decide_eq_true (by kernel_rfl)) k1 bel lt1) (trodAll_cons_mk (Below.trod laidOut (by kernel_rfl) (of_decide_eq_true (by kernel_rfl)) k2 bel lt2) (trodAll_cons_mk (shut_bool Try.underlying4 _) trodAll_mk0)))), rfl, bel.frame _, fun h => by cases h⟩
theorem over : Rows.diskImagesRow.holds Try.pinned (OpenSpec.ofChange Rows.diskImagesSpec) :=
  OpenClaim.holds_of_wide 7 Try.f7 rfl rfl rfl rfl rfl rfl rfl ⟨rfl, rfl, rfl, rfl, rfl⟩ rfl rfl rfl rfl rfl (by kernel_rfl) Try.func7 (by kernel_rfl)
    (of_decide_eq_true (by kernel_rfl)) (by unfold Func.isWrapper; first | (rw [if_pos (by decide +kernel)]; kernel_rfl) | (rw [if_neg (by decide +kernel)]; exact ⟨rfl, rfl⟩))
    (fun os started H enc _ => lifted os started H enc)
end Go.Proofs.Ytjlifbnkdfofhaa.diskImages
namespace Go.Proofs.Ytjlifbnkdfofhaa
/-- The row DiskImages. -/
theorem diskImages_holds : Rows.DiskImagesSaid := diskImages.over
end Go.Proofs.Ytjlifbnkdfofhaa
