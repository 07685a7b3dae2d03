/- Rows of things whose rows are owned too, each by an entry beside the pool: one of them may be turned. No program in sight. -/
import Derived.Test.YtjlifbnkdfofhaaKrP
namespace Go.Kr
open Go Go.RowKit
set_option linter.unusedVariables false
set_option linter.unusedSimpArgs false
variable {w0 W : World} {L L' T R N A B : List En}
def OwnR (e : TypeId) (N : List En) (xs : List Value) (rows : List (List Int)) : Prop :=
  xs.length = rows.length ∧ ∀ j, j < rows.length → ∃ A c, xs[j]? = some (.slice A (gx rows j).length c) ∧ En.sl A c (gx rows j).length (iv .u8 (gx rows j)) e 1 ∈ N
theorem OwnR.nil (e : TypeId) : OwnR e N [] [] := ⟨rfl, fun j h => by simp at h⟩
theorem OwnR.snoc {e : TypeId} {xs : List Value} {rows : List (List Int)} {r : List Int} {A1 : Option Addr} {n c : Nat} (h : OwnR e N xs rows) (hn : n = r.length) :
    OwnR e (.sl A1 c n (iv .u8 r) e 1 :: N) (xs ++ [.slice A1 n c]) (rows ++ [r]) := by
  subst hn
  refine ⟨by simp [h.1], fun j hj => ?_⟩
  by_cases hlt : j < rows.length
  · obtain ⟨A2, c2, h1, h2⟩ := h.2 j hlt
    have hg : gx (rows ++ [r]) j = gx rows j := by
      unfold gx
      rw [List.getD_eq_getElem?_getD, List.getD_eq_getElem?_getD, List.getElem?_append_left hlt]
    rw [hg]
    exact ⟨A2, c2, by rw [List.getElem?_append_left (by rw [h.1]; exact hlt)]; exact h1, List.mem_cons_of_mem _ h2⟩
  · have hj2 : j = rows.length := by simp at hj; omega
    have hg : gx (rows ++ [r]) j = r := by
      unfold gx
      rw [List.getD_eq_getElem?_getD, hj2, List.getElem?_append_right (Nat.le_refl _), Nat.sub_self]
      rfl
    rw [hg]
    refine ⟨A1, c, ?_, List.mem_cons_self ..⟩
    rw [hj2, ← h.1, List.getElem?_append_right (Nat.le_refl _), Nat.sub_self]
    rfl
theorem celly_of : ∀ {L : List En}, (∀ e ∈ L, ∀ b o, e ≠ .obj b o) → celly L = true
  | [], _ => rfl
  | .cells _ _ _ :: L, h => celly_of (L := L) fun e he => h e (List.mem_cons_of_mem _ he)
  | .sl _ _ _ _ _ _ :: L, h => celly_of (L := L) fun e he => h e (List.mem_cons_of_mem _ he)
  | .obj b o :: L, h => absurd rfl (h _ (List.mem_cons_self ..) b o)
/-- What stands ahead of the pool goes to the rest. -/
theorem St.bring (h : St w0 W (A ++ (N ++ (T ++ (B ++ R))))) (hN : celly N = true) (hR : celly R = true) : ∃ R', (∀ x ∈ N, x ∈ R') ∧ celly R' = true ∧ St w0 W (A ++ (B ++ (T ++ R'))) :=
  ⟨N ++ R, fun x hx => List.mem_append_left _ hx, celly_append hN hR, h.perm (by
    refine List.Perm.append_left A ?_
    have e1 : (N ++ (T ++ (B ++ R))).Perm (B ++ (N ++ (T ++ R))) := by
      have a1 : (N ++ (T ++ (B ++ R))) = (N ++ T) ++ (B ++ R) := by rw [List.append_assoc]
      have a2 : B ++ (N ++ (T ++ R)) = B ++ ((N ++ T) ++ R) := by rw [List.append_assoc]
      rw [a1, a2]
      exact List.perm_append_comm_assoc ..
    have e2 : (N ++ (T ++ R)).Perm (T ++ (N ++ R)) := List.perm_append_comm_assoc ..
    exact e1.trans (List.Perm.append_left B e2))⟩
/-- One entry of the rest comes forward. -/
theorem St.unpack {x : En} (h : St w0 W (L ++ (T ++ R))) (hR : celly R = true) (hx : x ∈ R) : ∃ R', celly R' = true ∧ St w0 W (x :: (L ++ (T ++ R'))) := by
  obtain ⟨R1, R2, rfl⟩ := List.append_of_mem hx
  refine ⟨R1 ++ R2, celly_of fun e he b o => ?_, h.perm ?_⟩
  · refine celly_mem hR e ?_ b o
    rcases List.mem_append.1 he with h | h
    · exact List.mem_append_left _ h
    · exact List.mem_append_right _ (List.mem_cons_of_mem _ h)
  · have e1 : L ++ (T ++ (R1 ++ x :: R2)) = (L ++ (T ++ R1)) ++ x :: R2 := by simp [List.append_assoc]
    have e2 : x :: (L ++ (T ++ (R1 ++ R2))) = x :: ((L ++ (T ++ R1)) ++ R2) := by simp [List.append_assoc]
    rw [e1, e2]
    exact List.perm_middle
end Go.Kr
