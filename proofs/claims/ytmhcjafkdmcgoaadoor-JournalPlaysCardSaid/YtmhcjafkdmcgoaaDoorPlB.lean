/- Arguments of the laws, opened: rows of numbers and rows of such rows as the walks want them. No program in sight. -/
import Derived.Test.YtmhcjafkdmcgoaaDoorPlA
import Derived.ChangeSlices
import Derived.Deep.Matrix
import Derived.RowKit
import Derived.OpenShut
import Derived.Test.YtmhcjafkdmcgoaaDoorKrE
namespace Go.Kr
open Go Go.RowKit Go.ChangeShapes Go.WideShapes
set_option linter.unusedVariables false
set_option linter.unusedSimpArgs false
variable {H : Type} {enc : TypeId × Value → H} {P : Program} {W : World}
theorem Src.of_cells {a : Addr} {k : IntKind} {zs : List Int} {n : Nat} (h : ∀ i, i < zs.length → W.cell? (a.add i) = some (.int k (zs.getD i 0))) : Src W (some a) (iv k (zs.take n)) := fun j v hv => by
 refine ⟨a, rfl, ?_⟩
 unfold iv at hv
 rw [List.getElem?_map] at hv
 by_cases hj : j < (zs.take n).length
 ·have hj2 : j < zs.length := by rw [List.length_take] at hj; omega
  rw [List.getElem?_eq_getElem hj] at hv
  simp only [Option.map_some, Option.some.injEq] at hv
  rw [h j hj2, ← hv, List.getElem_take]
  simp [List.getD_eq_getElem?_getD, List.getElem?_eq_getElem hj2]
 rw [List.getElem?_eq_none (by omega)] at hv
 cases hv
theorem open_nums {t e : TypeId} {k : IntKind} {v : Value} {d : DataW H} {ps : List MemPlace} (ht : P.underlying t = some (.slice e)) (he : P.underlying e = some (.int k)) (hc : P.cellsOf e = 1)
  (h : DataW.Trod enc P W 0 (fun _ => true) true t v d ps) (hv : ∃ a len cap, v = .slice a len cap) :
  ∃ A n c l, v = .slice A n c ∧ Src W A (iv k l) ∧ n = l.length ∧ n ≤ c ∧ l.length ≤ 9223372036854775807 ∧ ∀ x ∈ l, (Lit.int k x).wf = true := by
 obtain ⟨a, len, cap, rfl⟩ := hv
 obtain ⟨fuel, hf⟩ := h
 rcases open_ints ht he hc hf with ⟨hcs, _⟩ | ⟨x, l, c, zs, hcs, _, hl, hm, hz, _, hcell, hwz⟩
 ·simp [Value.cells] at hcs
  obtain ⟨rfl, rfl, rfl⟩ := hcs
  exact ⟨none, 0, 0, [], rfl, Src.nil _ _, rfl, Nat.le_refl _, by simp, by simp⟩
 simp [Value.cells] at hcs
 obtain ⟨rfl, rfl, rfl⟩ := hcs
 simp at hz
 have hlen : (zs.take len).length = len := by rw [List.length_take]; omega
 unfold maxLen at hm
 exact ⟨some x, len, cap, zs.take len, rfl, Src.of_cells hcell, hlen.symm, hl, by omega, fun y hy => hwz y (List.mem_of_mem_take hy)⟩
theorem Bytl.of_wf {l : List (List Int)} (h : ∀ z ∈ l, ∀ x ∈ z, (Lit.int .u8 x).wf = true) : Bytl l := fun z hz => Byt.of_wf (h z hz)
theorem u64_of_wf {x : Int} (h : (Lit.int .u64 x).wf = true) : 0 ≤ x ∧ x < 18446744073709551616 := by
 simp [Lit.wf, IntKind.min, IntKind.max, IntKind.signed, IntKind.bits] at h; omega
theorem i64_of_wf {x : Int} (h : (Lit.int .i64 x).wf = true) : -9223372036854775808 ≤ x ∧ x ≤ 9223372036854775807 := by
 simp [Lit.wf, IntKind.min, IntKind.max, IntKind.signed, IntKind.bits] at h; omega
theorem open_arr {t e : TypeId} {k : IntKind} {m : Nat} {v : Value} {d : DataW H} {ps : List MemPlace} {r : Reach} {b0 : Nat} (ht : P.underlying t = some (.array m e)) (he : P.underlying e = some (.int k)) (hc : P.cellsOf e = 1) (hct : P.cellsOf t = m)
  (hval : Value.okWide P W r b0 t v) (h : DataW.Trod enc P W 0 (fun _ => true) true t v d ps) :
  ∃ l, v = .agg (iv k l).toArray ∧ l.length = m ∧ ∀ x ∈ l, (Lit.int k x).wf = true := by
 obtain ⟨cs, rfl, hsz, _⟩ : ∃ cs, v = .agg cs ∧ cs.size = P.cellsOf t ∧ Row.okWide P W r b0 t cs := by
  unfold Value.okWide at hval
  rw [ht] at hval
  exact hval
 obtain ⟨fuel, hf⟩ := h
 obtain ⟨xs, m1, rfl, _, hlen, hn, hel⟩ := DataW.trod_array ht hf
 have hcs : cs.size = m := by rw [hsz, hct]
 have each : ∀ j, j < m → ∃ n, cs[j]? = some (.int k n) ∧ (Lit.int k n).wf = true := fun j hj => by
  have h0 := hel j hj
  rw [hc, Nat.mul_one, List.getElem?_eq_getElem (by omega)] at h0
  obtain ⟨n, e1, e2, e3⟩ := DataW.trod_int he h0
  have := congrArg (·[0]?) e1
  simp only [Value.cells, List.getElem?_take, List.getElem?_drop] at this
  exact ⟨n, by simpa using this, e3⟩
 obtain ⟨f, hf2⟩ := Go.Deep.choose_lt each
 refine ⟨(List.range m).map f, ?_, by simp, fun x hx => ?_⟩
 ·congr 1
  apply Array.ext_getElem?
  intro j
  by_cases hj : j < m
  ·rw [(hf2 j hj).1]
   simp [iv, hj]
  rw [Array.getElem?_eq_none (by omega)]
  simp [iv, hj]
 obtain ⟨j, hj, rfl⟩ := List.mem_map.1 hx
 exact (hf2 j (List.mem_range.1 hj)).2
end Go.Kr
