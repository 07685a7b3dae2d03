/- Arguments of the laws that are rows of things (structs with slices in them), opened as the walks want them. No program in sight. -/
import Derived.Test.YtmhcjafkdmcgoaaDoorPlS
import Derived.Test.YtmhcjafkdmcgoaaDoorKrO
import Derived.Deep.Grids
namespace Go.Kr
open Go Go.RowKit Go.ChangeShapes Go.WideShapes
set_option linter.unusedVariables false
set_option linter.unusedSimpArgs false
variable {H : Type} {enc : TypeId × Value → H} {P : Program} {W : World}
theorem Src.of_bools {a : Addr} {B : Nat → Bool} {n : Nat} (h : ∀ i, i < n → W.cell? (a.add i) = some (.bool (B i))) : Src W (some a) (bv ((List.range n).map B)) := fun j v hv => by
 refine ⟨a, rfl, ?_⟩
 unfold bv at hv
 rw [List.getElem?_map, List.getElem?_map] at hv
 by_cases hj : j < n
 ·rw [List.getElem?_eq_getElem (by simpa using hj)] at hv
  simp only [Option.map_some, Option.some.injEq, List.getElem_range] at hv
  rw [h j hj, ← hv]
 rw [List.getElem?_eq_none (by simpa using hj)] at hv
 cases hv
theorem open_bls {t e : TypeId} {v : Value} {d : DataW H} {ps : List MemPlace} (ht : P.underlying t = some (.slice e)) (he : P.underlying e = some .bool) (hc : P.cellsOf e = 1)
  (h : DataW.Trod enc P W 0 (fun _ => true) true t v d ps) (hv : ∃ a len cap, v = .slice a len cap) :
  ∃ A n c l, v = .slice A n c ∧ Src W A (bv l) ∧ n = l.length ∧ n ≤ c ∧ l.length ≤ 9223372036854775807 := by
 obtain ⟨a, len, cap, rfl⟩ := hv
 obtain ⟨fuel, hf⟩ := h
 rcases Go.Deep.open_bools ht he hc hf with ⟨hcs, _⟩ | ⟨x, l, c, B, hcs, _, hl, hm, _, hcell⟩
 ·simp [Value.cells] at hcs
  obtain ⟨rfl, rfl, rfl⟩ := hcs
  exact ⟨none, 0, 0, [], rfl, Src.nil _ _, rfl, Nat.le_refl _, by simp⟩
 simp [Value.cells] at hcs
 obtain ⟨rfl, rfl, rfl⟩ := hcs
 unfold maxLen at hm
 exact ⟨some x, len, cap, (List.range len).map B, rfl, Src.of_bools fun i hi => hcell i (by omega), by simp, hl, by simp; omega⟩
theorem Tr.bool {t : TypeId} {xs : List Value} {o : Nat} (h : Tr enc P W t xs o) (hu : P.underlying t = some .bool) (hc : P.cellsOf t = 1) : ∃ a, (xs.drop o).take 1 = [.bool a] := by
 obtain ⟨fuel, x, hx⟩ := h
 obtain ⟨n, e1, _⟩ := DataW.trod_bool hu hx
 rw [hc] at e1
 exact ⟨n, e1⟩
theorem Tr.sl {t e : TypeId} {xs : List Value} {o : Nat} (h : Tr enc P W t xs o) (ht : P.underlying t = some (.slice e)) (hc : P.cellsOf t = 1) :
  ∃ A n c d ps, (xs.drop o).take 1 = [.slice A n c] ∧ DataW.Trod enc P W 0 (fun _ => true) true t (.slice A n c) d ps := by
 obtain ⟨fuel, x, hx⟩ := h
 rw [hc] at hx
 rcases DataW.trod_slice ht hx with ⟨h1, _⟩ | ⟨a, len, cap, _, _, n, _, h1, _⟩
 ·exact ⟨none, 0, 0, x.1, x.2, h1, fuel, by rw [h1] at hx; exact hx⟩
 exact ⟨some a, len, cap, x.1, x.2, h1, fuel, by rw [h1] at hx; exact hx⟩
theorem Tr.nums {t e : TypeId} {k : IntKind} {xs : List Value} {o : Nat} (h : Tr enc P W t xs o) (ht : P.underlying t = some (.slice e)) (hct : P.cellsOf t = 1) (he : P.underlying e = some (.int k)) (hc : P.cellsOf e = 1) :
  ∃ A n c l, (xs.drop o).take 1 = [.slice A n c] ∧ HB W [] A n c (iv k l) l.length ∧ l.length ≤ 9223372036854775807 ∧ ∀ x ∈ l, (Lit.int k x).wf = true := by
 obtain ⟨A, n, c, d, ps, h1, h2⟩ := h.sl ht hct
 obtain ⟨A', n', c', l, e1, e2, e3, e4, e5, e6⟩ := open_nums ht he hc h2 ⟨_, _, _, rfl⟩
 cases e1
 exact ⟨A, n, c, l, h1, ⟨e3, e4, Hd.old e2⟩, e5, e6⟩
theorem Tr.bls {t e : TypeId} {xs : List Value} {o : Nat} (h : Tr enc P W t xs o) (ht : P.underlying t = some (.slice e)) (hct : P.cellsOf t = 1) (he : P.underlying e = some .bool) (hc : P.cellsOf e = 1) :
  ∃ A n c l, (xs.drop o).take 1 = [.slice A n c] ∧ HB W [] A n c (bv l) l.length ∧ l.length ≤ 9223372036854775807 := by
 obtain ⟨A, n, c, d, ps, h1, h2⟩ := h.sl ht hct
 obtain ⟨A', n', c', l, e1, e2, e3, e4, e5⟩ := open_bls ht he hc h2 ⟨_, _, _, rfl⟩
 cases e1
 exact ⟨A, n, c, l, h1, ⟨e3, e4, Hd.old e2⟩, e5⟩
theorem Src.cat {a : Addr} {xs ys : List Value} (h : Src W (some a) xs) (k : Src W (some (a.add xs.length)) ys) : Src W (some a) (xs ++ ys) := fun j v hv => by
 refine ⟨a, rfl, ?_⟩
 by_cases hj : j < xs.length
 ·rw [List.getElem?_append_left hj] at hv
  obtain ⟨_, e, h2⟩ := h j v hv
  cases e
  exact h2
 rw [List.getElem?_append_right (by omega)] at hv
 obtain ⟨_, e, h2⟩ := k _ v hv
 cases e
 rw [Go.Deep.add_add, show xs.length + (j - xs.length) = j by omega] at h2
 exact h2
theorem rows_of {α : Type} {f : α → List (Lf W)} {φ : α → Prop} {a : Addr} {sz : Nat} : ∀ len : Nat, (∀ i, i < len → ∃ cs, cs.length = sz ∧ Src W (some (a.add (i * sz))) cs ∧ ∃ x : α, HLs [] cs (f x) ∧ φ x) →
    ∃ xs rows, Src W (some a) xs ∧ xs.length = len * sz ∧ rows.length = len ∧ HRs [] f xs rows ∧ ∀ x ∈ rows, φ x
  | 0, _ => ⟨[], [], Src.nil _ _, by simp, rfl, HRs.nil, by simp⟩
  | len + 1, h => by
    obtain ⟨xs, rows, h1, h2, h3, h4, h5⟩ := rows_of len fun i hi => h i (by omega)
    obtain ⟨cs, k1, k2, x, k3, k4⟩ := h len (by omega)
    refine ⟨xs ++ cs, rows ++ [x], h1.cat (by rw [h2]; exact k2), by rw [List.length_append, h2, k1, Nat.add_mul, Nat.one_mul], by simp [h3], h4.append (HRs.one k3), fun y hy => ?_⟩
    rcases List.mem_append.1 hy with h | h
    · exact h5 y h
    · rw [List.mem_singleton.1 h]; exact k4
theorem open_recs {t e : TypeId} {α : Type} {sz : Nat} {v : Value} {d : DataW H} {ps : List MemPlace} (f : (w : World) → α → List (Lf w)) (φ : α → Prop) (ht : P.underlying t = some (.slice e)) (hc : P.cellsOf e = sz)
  (each : ∀ xs : List Value, xs.length = sz → Tr enc P W e xs 0 → ∃ x : α, HLs [] xs (f W x) ∧ φ x)
  (h : DataW.Trod enc P W 0 (fun _ => true) true t v d ps) (hv : ∃ a len cap, v = .slice a len cap) :
  ∃ A n c l, v = .slice A n c ∧ HS W [] [] A n c (f W) l ∧ l.length ≤ 9223372036854775807 ∧ ∀ x ∈ l, φ x := by
 obtain ⟨a, len, cap, rfl⟩ := hv
 obtain ⟨fuel, hf⟩ := h
 rcases Go.Deep.open_slice ht hf with ⟨hcs, _⟩ | ⟨a, len, cap, m, n, D, Pl, hcs, _, hl, hm, hmm, _, hx⟩
 ·simp [Value.cells] at hcs
  obtain ⟨rfl, rfl, rfl⟩ := hcs
  exact ⟨none, 0, 0, [], rfl, HS.nil, by simp, by simp⟩
 simp [Value.cells] at hcs
 obtain ⟨rfl, rfl, rfl⟩ := hcs
 simp only [if_true] at hmm
 subst hmm
 unfold maxLen at hm
 rw [hc] at hx
 obtain ⟨xs, rows, h1, h2, h3, h4, h5⟩ := rows_of (W := W) (f := f W) (φ := φ) (a := a) (sz := sz) len fun i hi => by
  obtain ⟨cs, k1, k2⟩ := hx i (by omega)
  obtain ⟨_, k3, k4⟩ := World.cells?_some k1
  refine ⟨cs, k3, fun j v hv => ⟨_, rfl, ?_⟩, each cs k3 ⟨n, _, by rw [List.drop_zero, List.take_of_length_le (by omega)]; exact k2⟩⟩
  have hj : j < cs.length := (List.getElem?_eq_some_iff.1 hv).1
  rw [k4 j (by omega), hv]
 exact ⟨some a, len, m, rows, rfl, HS.mk h3.symm hl (Hd.old h1) h4, by omega, h5⟩
theorem Tr.recs {t e : TypeId} {α : Type} {sz : Nat} {xs : List Value} {o : Nat} (f : (w : World) → α → List (Lf w)) (φ : α → Prop) (h : Tr enc P W t xs o) (ht : P.underlying t = some (.slice e)) (hct : P.cellsOf t = 1) (hc : P.cellsOf e = sz)
  (each : ∀ xs : List Value, xs.length = sz → Tr enc P W e xs 0 → ∃ x : α, HLs [] xs (f W x) ∧ φ x) :
  ∃ A n c l, (xs.drop o).take 1 = [.slice A n c] ∧ HS W [] [] A n c (f W) l ∧ l.length ≤ 9223372036854775807 ∧ ∀ x ∈ l, φ x := by
 obtain ⟨A, n, c, d, ps, h1, h2⟩ := h.sl ht hct
 obtain ⟨A', n', c', l, e1, e2, e3, e4⟩ := open_recs f φ ht hc each h2 ⟨_, _, _, rfl⟩
 cases e1
 exact ⟨A, n, c, l, h1, e2, e3, e4⟩
end Go.Kr
