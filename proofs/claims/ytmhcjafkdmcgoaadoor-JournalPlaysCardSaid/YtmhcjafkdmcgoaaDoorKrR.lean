/- Rows of things whose rows are owned too, each by an entry beside the pool: one of them may be turned. No program in sight. -/
import Derived.Test.YtmhcjafkdmcgoaaDoorKrP
namespace Go.Kr
open Go Go.RowKit
set_option linter.unusedVariables false
set_option linter.unusedSimpArgs false
variable {w0 W : World} {L L' T R N A B : List En}
def OwnR (e : TypeId) (N : List En) (xs : List Value) (rows : List (List Int)) : Prop :=
 xs.length = rows.length ∧ ∀ j, j < rows.length → ∃ A c, xs[j]? = some (.slice A (gx rows j).length c) ∧ En.sl A c (gx rows j).length (iv .u8 (gx rows j)) e 1 ∈ N
theorem OwnR.nil (e : TypeId) : OwnR e N [] [] := ⟨rfl, fun j h => by simp at h⟩
theorem St.freezeC {b : Nat} {cs : List Value} {t : TypeId} (h : St w0 W (A ++ (En.cells b cs t :: (B ++ (T ++ R))))) : ∃ T', Pl T T' ∧ En.cells b cs t ∈ T' ∧ St w0 W (A ++ (B ++ (T' ++ R))) :=
 ⟨En.cells b cs t :: T, ⟨fun _ hy => List.mem_cons_of_mem _ hy, fun h => h⟩, List.mem_cons_self .., h.pool⟩
theorem Hd.of_cells {b : Nat} {cs : List Value} {t : TypeId} (hx : En.cells b cs t ∈ T) : Hd w0 T fun W => Src W (some ⟨b, 0, none⟩) cs := fun W L st hs j v hv =>
 ⟨_, rfl, by rw [add_plain, Nat.zero_add]; exact st.cell_mem (hs _ hx) hv⟩
end Go.Kr
