/- Structs, and arrays of them, handed over by value: opened. No program in sight. -/
import Derived.Test.YtjlifbnkdfofhaaPlB
import Derived.Test.YtjlifbnkdfofhaaKrI
namespace Go.Kr
open Go Go.RowKit Go.ChangeShapes Go.WideShapes
set_option linter.unusedVariables false
set_option linter.unusedSimpArgs false
variable {H : Type} {enc : TypeId × Value → H} {P : Program} {W : World}

def Tr (enc : TypeId × Value → H) (P : Program) (W : World) (t : TypeId) (xs : List Value) (o : Nat) : Prop := ∃ fuel x, DataW.trod enc P W 0 (fun _ => true) true fuel t ((xs.drop o).take (P.cellsOf t)) = some x
theorem Tr.start {t : TypeId} {v : Value} {d : DataW H} {ps : List MemPlace} {r : Reach} {b0 : Nat} {fs : TypeDesc} (ht : P.underlying t = some fs) (hr : fs.isRow = true) (hval : Value.okWide P W r b0 t v) (h : DataW.Trod enc P W 0 (fun _ => true) true t v d ps) :
    ∃ cs : Array Value, v = .agg cs ∧ cs.toList.length = P.cellsOf t ∧ Tr enc P W t cs.toList 0 := by
  obtain ⟨cs, rfl, hsz, _⟩ : ∃ cs, v = .agg cs ∧ cs.size = P.cellsOf t ∧ Row.okWide P W r b0 t cs := by
    unfold Value.okWide at hval
    rw [ht] at hval
    cases fs <;> simp_all [TypeDesc.isRow]
  obtain ⟨fuel, hf⟩ := h
  refine ⟨cs, rfl, by simpa using hsz, fuel, (d, ps), ?_⟩
  rw [List.drop_zero, List.take_of_length_le (by simp [hsz])]
  exact hf
theorem drop_take_part {α : Type} {xs : List α} {o n b m p : Nat} (h : b + m ≤ n) (hp : o + b = p) : (((xs.drop o).take n).drop b).take m = (xs.drop p).take m := by
  subst hp
  rw [List.drop_take, List.take_take, List.drop_drop, Nat.min_eq_left (by omega)]
theorem cellsOf_info {t : TypeId} {j : TypeInfo} (h : P.info? t = some j) : P.cellsOf t = j.size := by simp [Program.cellsOf, h]
theorem Tr.field {t ft : TypeId} {xs : List Value} {o i off sz p : Nat} (h : Tr enc P W t xs o) (hf : fieldB P t i ft off sz = true) (hn : Nat.ble (off + sz) (P.cellsOf t) = true) (hp : o + off = p) : Tr enc P W ft xs p := by
  obtain ⟨fs, f, j, hu, hfi, rfl, rfl, hj, hjs⟩ := fieldB_spec hf
  obtain ⟨fuel, x, hx⟩ := h
  obtain ⟨ys, m, rfl, _, _, _, hel⟩ := DataW.trod_struct hu hx
  have h1 := hel i f hfi
  have hsz : P.cellsOf f.type = sz := by rw [cellsOf_info hj, hjs]
  rw [hsz, drop_take_part (Nat.le_of_ble_eq_true hn) hp, ← hsz] at h1
  have hlt : i < fs.size := (Array.getElem?_eq_some_iff.1 hfi).1
  rw [List.getElem?_eq_getElem (by omega)] at h1
  exact ⟨m, _, h1⟩
theorem Tr.elem {t e : TypeId} {xs : List Value} {o i n c p : Nat} (h : Tr enc P W t xs o) (hu : P.underlying t = some (.array n e)) (hc : (P.info? e).map (·.size) = some c) (hi : Nat.blt i n = true) (hn : Nat.ble (i * c + c) (P.cellsOf t) = true) (hp : o + i * c = p) : Tr enc P W e xs p := by
  obtain ⟨j, hj, hjs⟩ := Option.map_eq_some_iff.1 hc
  obtain ⟨fuel, x, hx⟩ := h
  obtain ⟨ys, m, rfl, _, _, hl, hel⟩ := DataW.trod_array hu hx
  have hlt : i < n := by simpa using hi
  have h1 := hel i hlt
  have hsz : P.cellsOf e = c := by rw [cellsOf_info hj, hjs]
  rw [hsz, drop_take_part (Nat.le_of_ble_eq_true hn) hp, ← hsz, List.getElem?_eq_getElem (by omega)] at h1
  exact ⟨m, _, h1⟩
theorem Tr.int {t : TypeId} {k : IntKind} {xs : List Value} {o : Nat} (h : Tr enc P W t xs o) (hu : P.underlying t = some (.int k)) (hc : P.cellsOf t = 1) : ∃ a, (xs.drop o).take 1 = [.int k a] ∧ (Lit.int k a).wf = true := by
  obtain ⟨fuel, x, hx⟩ := h
  obtain ⟨n, e1, _, e3⟩ := DataW.trod_int hu hx
  rw [hc] at e1
  exact ⟨n, e1, e3⟩
theorem cut_at {α : Type} {xs : List α} (o n : Nat) {p : Nat} (h : o + n = p) : xs.drop o = (xs.drop o).take n ++ xs.drop p := by
  subst h
  rw [← List.drop_drop, List.take_append_drop]
end Go.Kr
