/- An owned row of things is cut short, and what stood behind is cleared. No program in sight. -/
import Derived.Test.YtjlifbnkdfofhaaKrO
namespace Go.Kr
open Go Go.RowKit
set_option linter.unusedVariables false
set_option linter.unusedSimpArgs false
variable {P : Program} {dl : List Deferred} {ops : Array Oper} {Q : Exit → Act → World → Prop} {rest : List Oper} {n d : Nat} {l : Ov} {w w0 W : World} {L : List En} {t e : TypeId} {X Y : Operand} {ty : TypeId} {pos : String} {af : Array Edge}
abbrev Cs := List Value
theorem subS_zero (A : Option Addr) (c sz : Nat) : A = subS A 0 c sz := by
  unfold subS
  split
  · rfl
  · cases A <;> simp [Addr.add]
theorem St.truncS (st : St w0 w L) {i c m j size : Nat} {A : Option Addr} {xs : List Value} (hk : L[i]? = some (.sl A c m xs e size)) (hm : 0 < m) (hj : j ≤ m) : St w0 w (L.set i (.sl A c j (xs.take (j * size)) e size)) := by
  obtain ⟨b, rfl⟩ := st.sl_some hk hm
  have ho := own_trunc (st.row hk) hj
  exact st.turn hk (row := some b) rfl ⟨rfl, rfl, rfl, Nat.le_refl _, fun _ _ _ => rfl⟩ ho (fun x hx => .inl hx)
theorem WL.clearR {z : Value} {bytes size q j c m N M : Nat} {A B : Option Addr} {xs : List Value} (st : St w0 w L) (hk : L[q]? = some (.sl A c m xs e size)) (hu : P.underlying t = some (.slice e)) (he : ElemS P e z size bytes) (hz1 : ∀ u ∈ z.cells, u.oneCell' = true)
    (hx : ev n l X = some (.slice B N M)) (hB : B = subS A j c size) (hN : N = m - j) (hj : j ≤ m) (hm : 0 < m) (h : ∀ w', St w0 w' (L.set q (.sl A c j (xs.take (j * size)) e size)) → WL dl P ops Q rest n l w') :
    WL dl P ops Q (⟨none, .call { callee := .builtin .clear, args := #[X], argTypes := #[t] }, ty, pos, af, none⟩ :: rest) n l w := by
  obtain ⟨b, rfl⟩ := st.sl_some hk hm
  have hcap := st.cap hk
  have hkl : q < L.length := (List.getElem?_eq_some_iff.1 hk).1
  refine WL.clearS (q := q) (p := j * size) (st.truncS hk hm hj) (by rw [List.getElem?_set_self hkl]) hu he hz1 hx (fun h0 => ?_) (Nat.le_refl _) ?_ (fun w' st' => h w' (by first | exact st' | (rw [List.set_set] at st'; exact st')))
  · rw [hB]
    unfold subS
    rw [if_neg (by omega)]
    simp [add_plain]
  · rw [hN, ← Nat.add_mul]
    exact Nat.mul_le_mul_right _ (by omega)
end Go.Kr
