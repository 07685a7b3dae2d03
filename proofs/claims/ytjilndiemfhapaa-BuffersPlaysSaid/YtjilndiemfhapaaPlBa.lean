/- Buffers: what all laws of them want. -/
import Derived.Test.YtjilndiemfhapaaPlBu
namespace Go.Proofs.Ytjilndiemfhapaa
open Go Go.Kr Go.RowKit
set_option linter.unusedVariables false
set_option linter.unusedSimpArgs false
def Z : List Int := fullF [] 160
theorem Z_length : Z.length = 160 := fullF_length _ _
theorem Z_eq : List.replicate 160 (0 : Int) = Z := rfl
theorem fix_cons {α : Type} (p : α → Bool) (x : α) (l : List α) : fix p (x :: l) = if p x then 0 else if fix p l < 0 then -1 else fix p l + 1 := by
  unfold fix
  rw [List.findIdx_cons]
  cases p x
  · simp only [cond_false, List.length_cons, Bool.false_eq_true, if_false]
    by_cases h : l.findIdx p < l.length
    · rw [if_pos (by omega), if_pos h, if_neg (by omega)]; omega
    · rw [if_neg (by omega), if_neg h, if_pos (by decide)]
  · simp
theorem fix_nil {α : Type} (p : α → Bool) : fix p ([] : List α) = -1 := rfl
theorem one_get (k : Int) (b : List Int) (h : Int) : getF [(k, b, h)] k = ([(k, b, h)], b, true) := by
  have : fix (keyB k) [(k, b, h)] = 0 := by rw [fix_cons]; simp [keyB]
  unfold getF
  rw [this]
  rfl
theorem put_new {most : Int} {l : List R60} {k : Int} {b : List Int} (hb : b.length = 160) (hl : (l.length : Int) < most) (hk : ∀ x ∈ l, x.1 ≠ k) : putF most l k b = ((k, b, 0) :: l, 0) := by
  unfold putF
  rw [if_neg (by omega), if_pos (fix_neg.2 fun x hx => by simpa [keyB] using hk x hx)]
  unfold roomF
  rw [if_neg (by omega)]
theorem put_full {most : Int} {l : List R60} {k : Int} {b : List Int} (hb : b.length = 160) (hl : (l.length : Int) = most) (hk : ∀ x ∈ l, x.1 ≠ k) (hh : ∀ x ∈ l, x.2.2 ≠ 0) : putF most l k b = (l, 17) := by
  unfold putF
  rw [if_neg (by omega), if_pos (fix_neg.2 fun x hx => by simpa [keyB] using hk x hx)]
  unfold roomF
  rw [if_pos (by omega), lastFree_none.2 hh]
  rfl
theorem put_evict {most : Int} {l : List R60} {k : Int} {b : List Int} {q : Nat} (hb : b.length = 160) (hl : (l.length : Int) = most) (hk : ∀ x ∈ l, x.1 ≠ k) (hq : lastFree l = some q) : putF most l k b = ((k, b, 0) :: without l q, 0) := by
  unfold putF
  rw [if_neg (by omega), if_pos (fix_neg.2 fun x hx => by simpa [keyB] using hk x hx)]
  unfold roomF
  rw [if_pos (by omega), hq]
  rfl
theorem put_len (most : Int) (l : List R60) (k : Int) (b : List Int) (h : (l.length : Int) ≤ most) (h0 : 0 < most) : ((putF most l k b).1.length : Int) ≤ most := by
  unfold putF
  split
  · exact h
  · split
    · cases hr : roomF most l with
      | none => exact h
      | some l' =>
        have := (roomF_length hr).2 h
        simp only [List.length_cons]
        omega
    · rename_i hf
      obtain ⟨i, e, hi, _, _⟩ := fix_pos hf
      rw [e, Int.toNat_natCast, List.length_cons, without_length hi]
      omega
/-- Bytes of all that is kept are bytes of a block. -/
def Blk (l : List R60) : Prop := ∀ x ∈ l, x.2.1.length = 160
theorem Blk.le {l : List R60} (h : Blk l) : ∀ x ∈ l, x.2.1.length ≤ 1000000 := fun x hx => by rw [h x hx]; omega
theorem mem_without {l : List R60} {q : Nat} {x : R60} (h : x ∈ without l q) : x ∈ l := by
  rcases List.mem_append.1 h with h | h
  · exact List.mem_of_mem_take h
  · exact List.mem_of_mem_drop h

/-! ### 1. awake, and what is put in is in memory of its own -/
theorem bu_awake : reliquarylaw15_awake.rel := by
  have p1 : buffers_Cache_Put.rel 1 [] 1 Z 1 [(1, Z, 0)] 0 := by
    have := bu_put 1 [] 1 Z (by decide) (by decide)
    rwa [put_new Z_length (by decide) (by simp)] at this
  have p2 : buffers_Cache_Put.rel 1 [(1, Z, 0)] 2 Z 1 [(2, Z, 0)] 0 := by
    have := bu_put 1 [(1, Z, 0)] 2 Z (by decide) (by decide)
    rwa [put_evict Z_length (by decide) (by simp) (q := 0) (by rfl)] at this
  have p3 : buffers_Cache_Get.rel 1 [(2, Z, 0)] 1 1 [(2, Z, 0)] [] false := by
    have := bu_get 1 [(2, Z, 0)] 1 (by decide) (by simp [Z_length])
    have e : getF [(2, Z, 0)] 1 = ([(2, Z, 0)], [], false) := by
      unfold getF
      rw [if_pos (by rw [fix_cons, fix_nil]; decide)]
    rwa [e] at this
  have p4 : buffers_Cache_Get.rel 1 [(2, Z, 0)] 2 1 [(2, Z, 0)] Z true := by
    have := bu_get 1 [(2, Z, 0)] 2 (by decide) (by simp [Z_length])
    rwa [one_get] at this
  have f2 : ∀ h : Int, fix (keyB 2) [(2, Z, h)] = 0 := fun h => by rw [fix_cons]; rfl
  have p5 : buffers_Cache_Pin.rel 1 [(2, Z, 0)] 2 1 [(2, Z, 1)] true := by
    have := bu_pin 1 [(2, Z, 0)] 2 (by decide) (by simp)
    have e : pinF [(2, Z, 0)] 2 = ([(2, Z, 1)], true) := by
      unfold pinF; rw [f2]; rfl
    rwa [e] at this
  have p6 : buffers_Cache_Put.rel 1 [(2, Z, 1)] 3 Z 1 [(2, Z, 1)] 17 := by
    have := bu_put 1 [(2, Z, 1)] 3 Z (by decide) (by decide)
    rwa [put_full Z_length (by decide) (by simp) (by simp)] at this
  have p7 : buffers_Cache_Unpin.rel 1 [(2, Z, 1)] 2 1 [(2, Z, 0)] true := by
    have := bu_unpin 1 [(2, Z, 1)] 2 (by decide) (by simp)
    have e : unpinF [(2, Z, 1)] 2 = ([(2, Z, 0)], true) := by
      unfold unpinF; rw [f2]; rfl
    rwa [e] at this
  have p8 : buffers_Cache_Unpin.rel 1 [(2, Z, 0)] 2 1 [(2, Z, 0)] false := by
    have := bu_unpin 1 [(2, Z, 0)] 2 (by decide) (by simp)
    have e : unpinF [(2, Z, 0)] 2 = ([(2, Z, 0)], false) := by
      unfold unpinF; rw [f2]; rfl
    rwa [e] at this
  have p9 := bu_blocks 1 [(2, Z, 0)] (by decide)
  unfold reliquarylaw15_awake.rel
  rw [Z_eq]
  exact ⟨1, [], bu_new 1 (by decide), 1, _, _, p1, 1, _, _, p2, 1, _, _, _, p3, 1, _, _, _, p4, 1, _, _, p5, 1, _, _, p6, rfl, rfl, by decide, rfl, by rw [Z_length]; rfl, rfl, rfl, 1, _, _, p7, rfl, 1, _, _, p8, by decide, 1, _, _, p9, rfl⟩
end Go.Proofs.Ytjilndiemfhapaa
