/- Buffers: the laws without a reference, plainly. -/
import Derived.Test.YtjilndiemfhapaaPlBu
namespace Go.Proofs.Ytjilndiemfhapaa
open Go Go.Kr Go.RowKit
set_option linter.unusedVariables false
set_option linter.unusedSimpArgs false
def Z : List Int := fullF [] 160
theorem Z_length : Z.length = 160 := fullF_length _ _
theorem Z_eq : List.replicate 160 (0 : Int) = Z := rfl
theorem fix_cons {α : Type} (p : α → Bool) (x : α) (l : List α) : fix p (x :: l) = if p x then 0 else if fix p l < 0 then -1 else fix p l + 1 := by
  unfold fix
  rw [List.findIdx_cons]
  cases p x
  · simp only [cond_false, List.length_cons, Bool.false_eq_true, if_false]
    by_cases h : l.findIdx p < l.length
    · rw [if_pos (by omega), if_pos h, if_neg (by omega)]; omega
    · rw [if_neg (by omega), if_neg h, if_pos (by decide)]
  · simp
theorem fix_nil {α : Type} (p : α → Bool) : fix p ([] : List α) = -1 := rfl
theorem one_get (k : Int) (b : List Int) (h : Int) : getF [(k, b, h)] k = ([(k, b, h)], b, true) := by
  have : fix (keyB k) [(k, b, h)] = 0 := by rw [fix_cons]; simp [keyB]
  unfold getF
  rw [this]
  rfl
theorem put_new {most : Int} {l : List R60} {k : Int} {b : List Int} (hb : b.length = 160) (hl : (l.length : Int) < most) (hk : ∀ x ∈ l, x.1 ≠ k) : putF most l k b = ((k, b, 0) :: l, 0) := by
  unfold putF
  rw [if_neg (by omega), if_pos (fix_neg.2 fun x hx => by simpa [keyB] using hk x hx)]
  unfold roomF
  rw [if_neg (by omega)]
theorem put_full {most : Int} {l : List R60} {k : Int} {b : List Int} (hb : b.length = 160) (hl : (l.length : Int) = most) (hk : ∀ x ∈ l, x.1 ≠ k) (hh : ∀ x ∈ l, x.2.2 ≠ 0) : putF most l k b = (l, 17) := by
  unfold putF
  rw [if_neg (by omega), if_pos (fix_neg.2 fun x hx => by simpa [keyB] using hk x hx)]
  unfold roomF
  rw [if_pos (by omega), lastFree_none.2 hh]
  rfl
theorem put_evict {most : Int} {l : List R60} {k : Int} {b : List Int} {q : Nat} (hb : b.length = 160) (hl : (l.length : Int) = most) (hk : ∀ x ∈ l, x.1 ≠ k) (hq : lastFree l = some q) : putF most l k b = ((k, b, 0) :: without l q, 0) := by
  unfold putF
  rw [if_neg (by omega), if_pos (fix_neg.2 fun x hx => by simpa [keyB] using hk x hx)]
  unfold roomF
  rw [if_pos (by omega), hq]
  rfl
theorem put_len (most : Int) (l : List R60) (k : Int) (b : List Int) (h : (l.length : Int) ≤ most) (h0 : 0 < most) : ((putF most l k b).1.length : Int) ≤ most := by
  unfold putF
  split
  · exact h
  · split
    · cases hr : roomF most l with
      | none => exact h
      | some l' =>
        have := (roomF_length hr).2 h
        simp only [List.length_cons]
        omega
    · rename_i hf
      obtain ⟨i, e, hi, _, _⟩ := fix_pos hf
      rw [e, Int.toNat_natCast, List.length_cons, without_length hi]
      omega
/-- Bytes of all that is kept are bytes of a block. -/
def Blk (l : List R60) : Prop := ∀ x ∈ l, x.2.1.length = 160
theorem Blk.le {l : List R60} (h : Blk l) : ∀ x ∈ l, x.2.1.length ≤ 1000000 := fun x hx => by rw [h x hx]; omega
theorem mem_without {l : List R60} {q : Nat} {x : R60} (h : x ∈ without l q) : x ∈ l := by
  rcases List.mem_append.1 h with h | h
  · exact List.mem_of_mem_take h
  · exact List.mem_of_mem_drop h

/-! ### 1. awake, and what is put in is in memory of its own -/
theorem bu_awake : reliquarylaw15_awake.rel := by
  have p1 : buffers_Cache_Put.rel 1 [] 1 Z 1 [(1, Z, 0)] 0 := by
    have := bu_put 1 [] 1 Z (by decide) (by decide)
    rwa [put_new Z_length (by decide) (by simp)] at this
  have p2 : buffers_Cache_Put.rel 1 [(1, Z, 0)] 2 Z 1 [(2, Z, 0)] 0 := by
    have := bu_put 1 [(1, Z, 0)] 2 Z (by decide) (by decide)
    rwa [put_evict Z_length (by decide) (by simp) (q := 0) (by rfl)] at this
  have p3 : buffers_Cache_Get.rel 1 [(2, Z, 0)] 1 1 [(2, Z, 0)] [] false := by
    have := bu_get 1 [(2, Z, 0)] 1 (by decide) (by simp [Z_length])
    have e : getF [(2, Z, 0)] 1 = ([(2, Z, 0)], [], false) := by
      unfold getF
      rw [if_pos (by rw [fix_cons, fix_nil]; decide)]
    rwa [e] at this
  have p4 : buffers_Cache_Get.rel 1 [(2, Z, 0)] 2 1 [(2, Z, 0)] Z true := by
    have := bu_get 1 [(2, Z, 0)] 2 (by decide) (by simp [Z_length])
    rwa [one_get] at this
  have f2 : ∀ h : Int, fix (keyB 2) [(2, Z, h)] = 0 := fun h => by rw [fix_cons]; rfl
  have p5 : buffers_Cache_Pin.rel 1 [(2, Z, 0)] 2 1 [(2, Z, 1)] true := by
    have := bu_pin 1 [(2, Z, 0)] 2 (by decide) (by simp)
    have e : pinF [(2, Z, 0)] 2 = ([(2, Z, 1)], true) := by
      unfold pinF; rw [f2]; rfl
    rwa [e] at this
  have p6 : buffers_Cache_Put.rel 1 [(2, Z, 1)] 3 Z 1 [(2, Z, 1)] 17 := by
    have := bu_put 1 [(2, Z, 1)] 3 Z (by decide) (by decide)
    rwa [put_full Z_length (by decide) (by simp) (by simp)] at this
  have p7 : buffers_Cache_Unpin.rel 1 [(2, Z, 1)] 2 1 [(2, Z, 0)] true := by
    have := bu_unpin 1 [(2, Z, 1)] 2 (by decide) (by simp)
    have e : unpinF [(2, Z, 1)] 2 = ([(2, Z, 0)], true) := by
      unfold unpinF; rw [f2]; rfl
    rwa [e] at this
  have p8 : buffers_Cache_Unpin.rel 1 [(2, Z, 0)] 2 1 [(2, Z, 0)] false := by
    have := bu_unpin 1 [(2, Z, 0)] 2 (by decide) (by simp)
    have e : unpinF [(2, Z, 0)] 2 = ([(2, Z, 0)], false) := by
      unfold unpinF; rw [f2]; rfl
    rwa [e] at this
  have p9 := bu_blocks 1 [(2, Z, 0)] (by decide)
  unfold reliquarylaw15_awake.rel
  rw [Z_eq]
  exact ⟨1, [], bu_new 1 (by decide), 1, _, _, p1, 1, _, _, p2, 1, _, _, _, p3, 1, _, _, _, p4, 1, _, _, p5, 1, _, _, p6, rfl, rfl, by decide, rfl, by rw [Z_length]; rfl, rfl, rfl, 1, _, _, p7, rfl, 1, _, _, p8, by decide, 1, _, _, p9, rfl⟩
theorem buffersOwn_pure (l0 : List Int) (a1 : Int) (hb : Byt l0) (h1 : 0 ≤ a1 ∧ a1 < 256) : reliquarylaw15_BuffersOwn.rel l0 a1 := by
  have p1 : buffers_Cache_Put.rel 3 [] 9 (fullF l0 160) 3 [(9, fullF l0 160, 0)] 0 := by
    have := bu_put 3 [] 9 (fullF l0 160) (by decide) (by decide)
    rwa [put_new (fullF_length _ _) (by decide) (by simp)] at this
  have p2 : buffers_Cache_Get.rel 3 [(9, fullF l0 160, 0)] 9 3 [(9, fullF l0 160, 0)] (fullF l0 160) true := by
    have := bu_get 3 [(9, fullF l0 160, 0)] 9 (by simp) (by simp [fullF_length])
    rwa [one_get] at this
  have hl := fullF_length l0 160
  exact ⟨bu_awake, _, bu_full l0, 3, [], bu_new 3 (by decide), 3, _, _, p1, ⟨by decide, by rw [hl]; decide⟩, ⟨by decide, by rw [hl]; decide⟩, _, rfl, 3, _, _, _, p2, by decide, by simp, ⟨by decide, by rw [hl]; decide⟩, ⟨by decide, by rw [hl]; decide⟩, _, rfl, 3, _, _, _, p2, rfl, rfl⟩

/-! ### 2. Pins -/
/-- Blocks m, .., 1, each held once, and 0, held h times. -/
def Lh : Nat → Int → List R60
  | 0, h => [(0, Z, h)]
  | m + 1, h => (((m + 1 : Nat) : Int), Z, 1) :: Lh m h
theorem Lh_length : ∀ (m : Nat) (h : Int), (Lh m h).length = m + 1
  | 0, _ => rfl
  | m + 1, h => by rw [Lh, List.length_cons, Lh_length m h]
theorem Lh_keys : ∀ (m : Nat) (h : Int), ∀ x ∈ Lh m h, 0 ≤ x.1 ∧ x.1 ≤ (m : Int)
  | 0, h, x, hx => by simp [Lh] at hx; subst hx; simp
  | m + 1, h, x, hx => by
    rcases List.mem_cons.1 hx with rfl | hx
    · simp; omega
    · have := Lh_keys m h x hx; omega
theorem Lh_held : ∀ (m : Nat) (h : Int), ∀ x ∈ Lh m h, x.2.2 = 1 ∨ x.2.2 = h
  | 0, h, x, hx => by simp [Lh] at hx; subst hx; simp
  | m + 1, h, x, hx => by
    rcases List.mem_cons.1 hx with rfl | hx
    · simp
    · exact Lh_held m h x hx
theorem Lh_fix : ∀ (m : Nat) (h : Int), fix (keyB 0) (Lh m h) = (m : Int)
  | 0, h => by rw [Lh, fix_cons]; rfl
  | m + 1, h => by
    rw [Lh, fix_cons, Lh_fix m h]
    rw [if_neg (by simp [keyB]; omega), if_neg (by omega)]
    omega
theorem Lh_gx : ∀ (m : Nat) (h : Int), gx (Lh m h) m = (0, Z, h)
  | 0, h => rfl
  | m + 1, h => by rw [Lh, gx_cons_succ, Lh_gx m h]
theorem Lh_set : ∀ (m : Nat) (h h' : Int), (Lh m h).set m (0, Z, h') = Lh m h'
  | 0, h, h' => rfl
  | m + 1, h, h' => by rw [Lh, List.set_cons_succ, Lh_set m h h']; rfl
theorem Lh_pin (m : Nat) (h : Int) : pinF (Lh m h) 0 = (Lh m (h + 1), true) := by
  unfold pinF
  rw [Lh_fix, if_neg (by omega), Int.toNat_natCast]
  unfold holdF
  rw [Lh_gx, Lh_set]
theorem Lh_unpin (m : Nat) (h : Int) (h0 : h ≠ 0) : unpinF (Lh m h) 0 = (Lh m (h - 1), true) := by
  unfold unpinF
  rw [Lh_fix, Int.toNat_natCast, Lh_gx, if_neg (by rintro (h | h) <;> simp_all; omega)]
  unfold holdF
  rw [Lh_gx, Lh_set]
theorem Lh_unpin0 (m : Nat) : unpinF (Lh m 0) 0 = (Lh m 0, false) := by
  unfold unpinF
  rw [Lh_fix, Int.toNat_natCast, Lh_gx, if_pos (.inr rfl)]
theorem Lh_drop (m : Nat) (h : Int) (h0 : 0 < h) : dropF (Lh m h) 0 = (Lh m h, false) := by
  unfold dropF
  rw [Lh_fix, Int.toNat_natCast, Lh_gx, if_pos (.inr h0)]
/-- Without the last one. -/
theorem Lh_last (m : Nat) : lastFree (Lh m 0) = some m := lastFree_eq (by rw [Lh_length]; omega) (by rw [Lh_gx]) fun p h1 h2 => by rw [Lh_length] at h2; omega
theorem Lh_gone : ∀ (m : Nat) (h : Int), ∀ x ∈ without (Lh m h) m, 1 ≤ x.1
  | 0, h, x, hx => by simp [without, Lh] at hx
  | m + 1, h, x, hx => by
    have e : without (Lh (m + 1) h) (m + 1) = (((m + 1 : Nat) : Int), Z, 1) :: without (Lh m h) m := rfl
    rw [e] at hx
    rcases List.mem_cons.1 hx with rfl | hx
    · simp; omega
    · exact Lh_gone m h x hx
def Lp : Nat → List R60
  | 0 => []
  | m + 1 => Lh m 1
theorem Lp_length (m : Nat) : (Lp m).length = m := by cases m with | zero => rfl | succ m => exact Lh_length m 1
theorem Lp_keys (m : Nat) : ∀ x ∈ Lp m, x.1 < (m : Int) := fun x hx => by
  cases m with
  | zero => simp [Lp] at hx
  | succ m => have := Lh_keys m 1 x hx; omega
theorem Lp_succ (m : Nat) : Lp (m + 1) = ((m : Int), Z, 1) :: Lp m := by
  cases m with
  | zero => rfl
  | succ m => rfl
theorem pins_L3 (a1 : Int) (m t : Nat) (ht : a1.tmod 5 = (t : Int)) (htt : t < 5) (hm : m < 6) : ∀ (d f i : Nat), i + d = t → d < f → reliquarylaw15_BuffersPins.L3 a1 17 f (Lh m (1 + (d : Int))) ((m + 1 : Nat) : Int) false i := by
  have hw : IntKind.i64.wrap (Int.tmod a1 5) = (t : Int) := by rw [ht]; exact w64 (by omega) (by omega)
  intro d
  induction d with
  | zero =>
    intro f i h1 h2
    obtain ⟨f, rfl⟩ : ∃ m, f = m + 1 := ⟨f - 1, by omega⟩
    have hl : (Lh m (1 + ((0 : Nat) : Int))).length = m + 1 := Lh_length _ _
    have hput : ∀ h : Int, 0 < h → buffers_Cache_Put.rel ((m + 1 : Nat) : Int) (Lh m h) 99 Z ((m + 1 : Nat) : Int) (Lh m h) 17 := fun h hh => by
      have := bu_put ((m + 1 : Nat) : Int) (Lh m h) 99 Z (by rw [Lh_length]; omega) (by rw [Lh_length]; omega)
      rwa [put_full Z_length (by rw [Lh_length]) (fun x hx => by have := Lh_keys m h x hx; omega) (fun x hx => by rcases Lh_held m h x hx with h | h <;> omega)] at this
    have hsm : ∀ h : Int, 0 ≤ h → h ≤ 10 → ∀ x ∈ Lh m h, 0 ≤ x.2.2 ∧ x.2.2 ≤ 1000000 := fun h h0 h1 x hx => by rcases Lh_held m h x hx with h | h <;> omega
    have q1 := hput (1 + ((0 : Nat) : Int)) (by omega)
    have q2 : buffers_Cache_Unpin.rel ((m + 1 : Nat) : Int) (Lh m (1 + ((0 : Nat) : Int))) 0 ((m + 1 : Nat) : Int) (Lh m 0) true := by
      have := bu_unpin ((m + 1 : Nat) : Int) (Lh m (1 + ((0 : Nat) : Int))) 0 (by rw [Lh_length]; omega) (hsm _ (by omega) (by omega))
      rwa [Lh_unpin _ _ (by omega)] at this
    have q3 : buffers_Cache_Unpin.rel ((m + 1 : Nat) : Int) (Lh m 0) 0 ((m + 1 : Nat) : Int) (Lh m 0) false := by
      have := bu_unpin ((m + 1 : Nat) : Int) (Lh m 0) 0 (by rw [Lh_length]; omega) (hsm _ (by omega) (by omega))
      rwa [Lh_unpin0] at this
    have q4 : buffers_Cache_Put.rel ((m + 1 : Nat) : Int) (Lh m 0) 99 Z ((m + 1 : Nat) : Int) ((99, Z, 0) :: without (Lh m 0) m) 0 := by
      have := bu_put ((m + 1 : Nat) : Int) (Lh m 0) 99 Z (by rw [Lh_length]; omega) (by rw [Lh_length]; omega)
      rwa [put_evict Z_length (by rw [Lh_length]) (fun x hx => by have := Lh_keys m 0 x hx; omega) (Lh_last m)] at this
    have hgone : fix (keyB 0) ((99, Z, 0) :: without (Lh m 0) m) < 0 := fix_neg.2 fun x hx => by
      rcases List.mem_cons.1 hx with rfl | hx
      · rfl
      · have := Lh_gone m 0 x hx
        simp [keyB]; omega
    have hlen2 : ((99, Z, 0) :: without (Lh m 0) m : List R60).length = m + 1 := by
      rw [List.length_cons, without_length (by rw [Lh_length]; omega), Lh_length]; omega
    have hbk : ∀ x ∈ ((99, Z, 0) :: without (Lh m 0) m : List R60), x.2.1.length ≤ 1000000 := fun x hx => by
      have hZ : ∀ (m : Nat) (h : Int), ∀ x ∈ Lh m h, x.2.1 = Z := by
        intro m h
        induction m with
        | zero => intro x hx; simp [Lh] at hx; subst hx; rfl
        | succ m ih =>
          intro x hx
          rcases List.mem_cons.1 hx with rfl | hx
          · rfl
          · exact ih x hx
      rcases List.mem_cons.1 hx with rfl | hx
      · rw [Z_length]; omega
      · rw [hZ m 0 x (mem_without hx), Z_length]; omega
    have q5 : buffers_Cache_Get.rel ((m + 1 : Nat) : Int) ((99, Z, 0) :: without (Lh m 0) m) 0 ((m + 1 : Nat) : Int) ((99, Z, 0) :: without (Lh m 0) m) [] false := by
      have := bu_get ((m + 1 : Nat) : Int) ((99, Z, 0) :: without (Lh m 0) m) 0 (by rw [hlen2]; omega) hbk
      unfold getF at this
      rwa [if_pos hgone] at this
    refine .inr ⟨by rw [hw]; omega, Z, bu_full [], _, _, _, q1, _, _, _, q2, _, _, _, q3, Z, bu_full [], _, _, _, q4, _, _, _, _, q5, _, _, bu_clear _ _, rfl, rfl, rfl, by decide, rfl, by decide, _, _, _, bu_blocks _ [] (by decide), rfl⟩
  | succ d ih =>
    intro f i h1 h2
    obtain ⟨f, rfl⟩ : ∃ m, f = m + 1 := ⟨f - 1, by omega⟩
    have hsm : ∀ x ∈ Lh m (1 + ((d + 1 : Nat) : Int)), 0 ≤ x.2.2 ∧ x.2.2 ≤ 1000000 := fun x hx => by rcases Lh_held m _ x hx with h | h <;> omega
    have q2 : buffers_Cache_Unpin.rel ((m + 1 : Nat) : Int) (Lh m (1 + ((d + 1 : Nat) : Int))) 0 ((m + 1 : Nat) : Int) (Lh m (1 + (d : Int))) true := by
      have := bu_unpin ((m + 1 : Nat) : Int) (Lh m (1 + ((d + 1 : Nat) : Int))) 0 (by rw [Lh_length]; omega) hsm
      rwa [Lh_unpin _ _ (by omega), show 1 + ((d + 1 : Nat) : Int) - 1 = 1 + (d : Int) by omega] at this
    have q3 : buffers_Cache_Drop.rel ((m + 1 : Nat) : Int) (Lh m (1 + (d : Int))) 0 ((m + 1 : Nat) : Int) (Lh m (1 + (d : Int))) false := by
      have := bu_drop ((m + 1 : Nat) : Int) (Lh m (1 + (d : Int))) 0 (by rw [Lh_length]; omega)
      rwa [Lh_drop _ _ (by omega)] at this
    refine .inl ⟨by rw [hw]; omega, _, _, _, q2, by decide, _, _, _, q3, by decide, ?_⟩
    rw [show IntKind.i64.wrap ((i : Int) + 1) = ((i + 1 : Nat) : Int) by rw [w64 (by omega) (by omega)]; omega]
    exact ih f (i + 1) (by omega) (by omega)
theorem pins_L2 (a1 : Int) (m t : Nat) (ht : a1.tmod 5 = (t : Int)) (htt : t < 5) (hm : m < 6) : ∀ (d f i : Nat), i + d = t → d < f → reliquarylaw15_BuffersPins.L2 a1 false f (Lh m (1 + (i : Int))) ((m + 1 : Nat) : Int) i := by
  have hw : IntKind.i64.wrap (Int.tmod a1 5) = (t : Int) := by rw [ht]; exact w64 (by omega) (by omega)
  intro d
  induction d with
  | zero =>
    intro f i h1 h2
    obtain ⟨f, rfl⟩ : ∃ m, f = m + 1 := ⟨f - 1, by omega⟩
    obtain rfl : i = t := by omega
    have q1 : buffers_Cache_Put.rel ((m + 1 : Nat) : Int) (Lh m (1 + (i : Int))) 99 Z ((m + 1 : Nat) : Int) (Lh m (1 + (i : Int))) 17 := by
      have := bu_put ((m + 1 : Nat) : Int) (Lh m (1 + (i : Int))) 99 Z (by rw [Lh_length]; omega) (by rw [Lh_length]; omega)
      rwa [put_full Z_length (by rw [Lh_length]) (fun x hx => by have := Lh_keys m _ x hx; omega) (fun x hx => by rcases Lh_held m _ x hx with h | h <;> omega)] at this
    exact .inr ⟨by rw [hw]; omega, Z, bu_full [], _, _, _, q1, i + 1, pins_L3 a1 m i ht htt hm i (i + 1) 0 (by omega) (by omega)⟩
  | succ d ih =>
    intro f i h1 h2
    obtain ⟨f, rfl⟩ : ∃ m, f = m + 1 := ⟨f - 1, by omega⟩
    have q2 : buffers_Cache_Pin.rel ((m + 1 : Nat) : Int) (Lh m (1 + (i : Int))) 0 ((m + 1 : Nat) : Int) (Lh m (1 + ((i + 1 : Nat) : Int))) true := by
      have := bu_pin ((m + 1 : Nat) : Int) (Lh m (1 + (i : Int))) 0 (by rw [Lh_length]; omega) (fun x hx => by rcases Lh_held m _ x hx with h | h <;> omega)
      rwa [Lh_pin, show 1 + (i : Int) + 1 = 1 + ((i + 1 : Nat) : Int) by omega] at this
    refine .inl ⟨by rw [hw]; omega, _, _, _, q2, ?_⟩
    rw [show IntKind.i64.wrap ((i : Int) + 1) = ((i + 1 : Nat) : Int) by rw [w64 (by omega) (by omega)]; omega]
    exact ih f (i + 1) (by omega) (by omega)
theorem pins_L1 (a0 a1 : Int) (m t : Nat) (hk : IntKind.i64.wrap ((IntKind.i64.wrap (Int.tmod a0 6)) + 1) = ((m + 1 : Nat) : Int)) (ht : a1.tmod 5 = (t : Int)) (htt : t < 5) (hm : m < 6) : ∀ (d f i : Nat), i + d = m + 1 → d < f → reliquarylaw15_BuffersPins.L1 a0 a1 f (Lp i) ((m + 1 : Nat) : Int) false i := by
  intro d
  induction d with
  | zero =>
    intro f i h1 h2
    obtain ⟨f, rfl⟩ : ∃ m, f = m + 1 := ⟨f - 1, by omega⟩
    obtain rfl : i = m + 1 := by omega
    refine .inr ⟨by rw [hk]; omega, t + 1, ?_⟩
    exact pins_L2 a1 m t ht htt hm t (t + 1) 0 (by omega) (by omega)
  | succ d ih =>
    intro f i h1 h2
    obtain ⟨f, rfl⟩ : ∃ m, f = m + 1 := ⟨f - 1, by omega⟩
    have e0 : IntKind.u64.wrap (i : Int) = (i : Int) := wu64 (by omega) (by omega)
    have q1 : buffers_Cache_Put.rel ((m + 1 : Nat) : Int) (Lp i) (IntKind.u64.wrap (i : Int)) Z ((m + 1 : Nat) : Int) (((i : Int), Z, 0) :: Lp i) 0 := by
      rw [e0]
      have := bu_put ((m + 1 : Nat) : Int) (Lp i) i Z (by rw [Lp_length]; omega) (by rw [Lp_length]; omega)
      rwa [put_new Z_length (by rw [Lp_length]; omega) (fun x hx => by have := Lp_keys i x hx; omega)] at this
    have q2 : buffers_Cache_Pin.rel ((m + 1 : Nat) : Int) (((i : Int), Z, 0) :: Lp i) (IntKind.u64.wrap (i : Int)) ((m + 1 : Nat) : Int) (Lp (i + 1)) true := by
      rw [e0]
      have := bu_pin ((m + 1 : Nat) : Int) (((i : Int), Z, 0) :: Lp i) i (by rw [List.length_cons, Lp_length]; omega) (fun x hx => by
        rcases List.mem_cons.1 hx with rfl | hx
        · simp
        · cases i with
          | zero => simp [Lp] at hx
          | succ i => rcases Lh_held i 1 x hx with h | h <;> omega)
      have e1 : fix (keyB (i : Int)) (((i : Int), Z, 0) :: Lp i) = 0 := by rw [fix_cons]; simp [keyB]
      unfold pinF at this
      rw [e1] at this
      rw [Lp_succ]
      exact this
    refine .inl ⟨by rw [hk]; omega, Z, bu_full [], _, _, _, q1, by decide, _, _, _, q2, by decide, ?_⟩
    rw [show IntKind.i64.wrap ((i : Int) + 1) = ((i + 1 : Nat) : Int) by rw [w64 (by omega) (by omega)]; omega]
    exact ih f (i + 1) (by omega) (by omega)
theorem tmod_nat {a : Int} (h : 0 ≤ a) (m : Nat) (hm : 0 < m) : ∃ t : Nat, Int.tmod a m = (t : Int) ∧ t < m := by
  refine ⟨a.toNat % m, ?_, Nat.mod_lt _ hm⟩
  obtain ⟨n, rfl⟩ := Int.eq_ofNat_of_zero_le h
  rw [Int.tmod_eq_emod_of_nonneg h, Int.toNat_natCast]
  rfl
theorem buffersPins_pure (a0 a1 : Int) (h0 : 0 ≤ a0 ∧ a0 < 256) (h1 : 0 ≤ a1 ∧ a1 < 256) : reliquarylaw15_BuffersPins.rel a0 a1 := by
  obtain ⟨m, e1, hm⟩ := tmod_nat h0.1 6 (by decide)
  obtain ⟨t, e2, ht⟩ := tmod_nat h1.1 5 (by decide)
  have hk : IntKind.i64.wrap ((IntKind.i64.wrap (Int.tmod a0 6)) + 1) = ((m + 1 : Nat) : Int) := by
    rw [show Int.tmod a0 6 = (m : Int) from e1, w64 (x := (m : Int)) (by omega) (by omega), w64 (by omega) (by omega)]; omega
  refine ⟨bu_awake, ((m + 1 : Nat) : Int), [], by rw [hk]; exact bu_new _ (by omega), m + 2, ?_⟩
  exact pins_L1 a0 a1 m t hk e2 ht hm (m + 1) (m + 2) 0 (by omega) (by omega)
end Go.Proofs.Ytjilndiemfhapaa
