/- Structs, and arrays of them, handed over by value: opened. No program in sight. -/
import Derived.Test.YtmhcjafkdmcgoaaDoorPlB
import Derived.Test.YtmhcjafkdmcgoaaDoorKrI
namespace Go.Kr
open Go Go.RowKit Go.ChangeShapes Go.WideShapes
set_option linter.unusedVariables false
set_option linter.unusedSimpArgs false
variable {H : Type} {enc : TypeId × Value → H} {P : Program} {W : World}
def Tr (enc : TypeId × Value → H) (P : Program) (W : World) (t : TypeId) (xs : List Value) (o : Nat) : Prop := ∃ fuel x, DataW.trod enc P W 0 (fun _ => true) true fuel t ((xs.drop o).take (P.cellsOf t)) = some x
theorem Tr.start {t : TypeId} {v : Value} {d : DataW H} {ps : List MemPlace} {r : Reach} {b0 : Nat} {fs : TypeDesc} (ht : P.underlying t = some fs) (hr : fs.isRow = true) (hval : Value.okWide P W r b0 t v) (h : DataW.Trod enc P W 0 (fun _ => true) true t v d ps) :
  ∃ cs : Array Value, v = .agg cs ∧ cs.toList.length = P.cellsOf t ∧ Tr enc P W t cs.toList 0 := by
 obtain ⟨cs, rfl, hsz, _⟩ : ∃ cs, v = .agg cs ∧ cs.size = P.cellsOf t ∧ Row.okWide P W r b0 t cs := by
  unfold Value.okWide at hval
  rw [ht] at hval
  cases fs <;> simp_all [TypeDesc.isRow]
 obtain ⟨fuel, hf⟩ := h
 refine ⟨cs, rfl, by simpa using hsz, fuel, (d, ps), ?_⟩
 rw [List.drop_zero, List.take_of_length_le (by simp [hsz])]
 exact hf
theorem drop_take_part {α : Type} {xs : List α} {o n b m p : Nat} (h : b + m ≤ n) (hp : o + b = p) : (((xs.drop o).take n).drop b).take m = (xs.drop p).take m := by
 subst hp
 rw [List.drop_take, List.take_take, List.drop_drop, Nat.min_eq_left (by omega)]
theorem cellsOf_info {t : TypeId} {j : TypeInfo} (h : P.info? t = some j) : P.cellsOf t = j.size := by simp [Program.cellsOf, h]
theorem Tr.field {t ft : TypeId} {xs : List Value} {o i off sz p : Nat} (h : Tr enc P W t xs o) (hf : fieldB P t i ft off sz = true) (hn : Nat.ble (off + sz) (P.cellsOf t) = true) (hp : o + off = p) : Tr enc P W ft xs p := by
 obtain ⟨fs, f, j, hu, hfi, rfl, rfl, hj, hjs⟩ := fieldB_spec hf
 obtain ⟨fuel, x, hx⟩ := h
 obtain ⟨ys, m, rfl, _, _, _, hel⟩ := DataW.trod_struct hu hx
 have h1 := hel i f hfi
 have hsz : P.cellsOf f.type = sz := by rw [cellsOf_info hj, hjs]
 rw [hsz, drop_take_part (Nat.le_of_ble_eq_true hn) hp, ← hsz] at h1
 have hlt : i < fs.size := (Array.getElem?_eq_some_iff.1 hfi).1
 rw [List.getElem?_eq_getElem (by omega)] at h1
 exact ⟨m, _, h1⟩
theorem Tr.elem {t e : TypeId} {xs : List Value} {o i n c p : Nat} (h : Tr enc P W t xs o) (hu : P.underlying t = some (.array n e)) (hc : (P.info? e).map (·.size) = some c) (hi : Nat.blt i n = true) (hn : Nat.ble (i * c + c) (P.cellsOf t) = true) (hp : o + i * c = p) : Tr enc P W e xs p := by
 obtain ⟨j, hj, hjs⟩ := Option.map_eq_some_iff.1 hc
 obtain ⟨fuel, x, hx⟩ := h
 obtain ⟨ys, m, rfl, _, _, hl, hel⟩ := DataW.trod_array hu hx
 have hlt : i < n := by simpa using hi
 have h1 := hel i hlt
 have hsz : P.cellsOf e = c := by rw [cellsOf_info hj, hjs]
 rw [hsz, drop_take_part (Nat.le_of_ble_eq_true hn) hp, ← hsz, List.getElem?_eq_getElem (by omega)] at h1
 exact ⟨m, _, h1⟩
theorem Tr.int {t : TypeId} {k : IntKind} {xs : List Value} {o : Nat} (h : Tr enc P W t xs o) (hu : P.underlying t = some (.int k)) (hc : P.cellsOf t = 1) : ∃ a, (xs.drop o).take 1 = [.int k a] ∧ (Lit.int k a).wf = true := by
 obtain ⟨fuel, x, hx⟩ := h
 obtain ⟨n, e1, _, e3⟩ := DataW.trod_int hu hx
 rw [hc] at e1
 exact ⟨n, e1, e3⟩
theorem Tr.arr {t e : TypeId} {k : IntKind} {m : Nat} {xs : List Value} {o : Nat} (h : Tr enc P W t xs o) (ht : P.underlying t = some (.array m e)) (he : P.underlying e = some (.int k)) (hc : P.cellsOf e = 1) (hct : P.cellsOf t = m) :
  ∃ l, (xs.drop o).take m = iv k l ∧ l.length = m ∧ ∀ x ∈ l, (Lit.int k x).wf = true := by
 obtain ⟨fuel, x, hx⟩ := h
 obtain ⟨ys, m1, rfl, _, hlen, hn, hel⟩ := DataW.trod_array ht hx
 rw [hct] at hlen hel
 have each : ∀ j, j < m → ∃ n, ((xs.drop o).take m)[j]? = some (.int k n) ∧ (Lit.int k n).wf = true := fun j hj => by
  have h0 := hel j hj
  rw [hc, Nat.mul_one, List.getElem?_eq_getElem (by omega)] at h0
  obtain ⟨n, e1, e2, e3⟩ := DataW.trod_int he h0
  refine ⟨n, ?_, e3⟩
  have := congrArg (·[0]?) e1
  rw [List.getElem?_take, if_pos (by omega), List.getElem?_drop, Nat.add_zero] at this
  simpa using this
 obtain ⟨f, hf2⟩ := Go.Deep.choose_lt each
 refine ⟨(List.range m).map f, ?_, by simp, fun x hx => ?_⟩
 ·apply List.ext_getElem?
  intro j
  by_cases hj : j < m
  ·rw [(hf2 j hj).1]
   simp [iv, hj]
  rw [List.getElem?_eq_none (by omega)]
  simp [iv, hj]
 obtain ⟨j, hj, rfl⟩ := List.mem_map.1 hx
 exact (hf2 j (List.mem_range.1 hj)).2
theorem cut_at {α : Type} {xs : List α} (o n : Nat) {p : Nat} (h : o + n = p) : xs.drop o = (xs.drop o).take n ++ xs.drop p := by
 subst h
 rw [← List.drop_drop, List.take_append_drop]
end Go.Kr
