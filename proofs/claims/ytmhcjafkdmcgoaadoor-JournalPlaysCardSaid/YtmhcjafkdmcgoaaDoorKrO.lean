/- A search: a range over slices.Backward whose rounds turn nothing until one of them leaves it. No program in sight. -/
import Derived.Test.YtmhcjafkdmcgoaaDoorKrN
namespace Go.Kr
open Go Go.RowKit
set_option linter.unusedVariables false
set_option linter.unusedSimpArgs false
variable {P : Program} {dl : List Deferred} {ops : Array Oper} {Q : Exit → Act → World → Prop} {rest : List Oper} {n d m : Nat} {l : Ov} {w w0 W W' : World} {L L' A T R O N : List En} {t t' e : TypeId} {X Y : Operand} {ty : TypeId} {v : Value}
theorem St.grow {B : Nat} (hB : w0.heap.size ≤ B) (hc : celly L = true) {row : Option Nat} (st : St w0 W L) (hg : W.grownBy W' row) (hr : ∀ r, row = some r → B ≤ r ∧ ∃ o : Obj, W.heap[r]? = some o ∧ o.isCells = false) : St w0 W' L := by
 refine st.other hg fun r e => ⟨Nat.le_trans hB (hr r e).1, fun en hen hb => ?_⟩
 obtain ⟨cs, t, fr, hx⟩ := en_cells (st.ok en hen) (celly_mem hc en hen) hb
 obtain ⟨_, o, ho, hcell⟩ := hr r e
 rw [hx] at ho
 cases ho
 simp [Obj.isCells] at hcell
theorem HS.nil_of {α : Type} {f : α → List (Lf w0)} {sz nn c : Nat} {rows : List α} {X' : List En} (h : HS w0 X' T none nn c f rows) (hf : SizedF f sz) (hz : 0 < sz) (st : St w0 W L) (hm : ∀ x ∈ X', x ∈ L) : rows = [] := by
 obtain ⟨_, _, xs, h1, h2⟩ := h
 have hs := h1 W L st hm
 have hl := h2.length hf
 cases xs with
 | nil =>
  cases rows with
  | nil => rfl
  | cons a r =>
   simp only [List.length_nil, List.length_cons, Nat.add_mul, Nat.one_mul] at hl
   omega
 | cons a r => obtain ⟨a', ha, _⟩ := hs 0 a rfl; cases ha
theorem WL.buildSlS0 {z : Value} {size bytes : Nat} {pos : String} {af : Array Edge} (st : St w0 w L) (hu : P.underlying t = some (.slice e)) (he : ElemS P e z size bytes)
  (h : ∀ B w', St w0 w' (.sl (some ⟨B, 0, none⟩) 0 0 [] e size :: L) → WL dl P ops Q rest n ((d, .slice (some ⟨B, 0, none⟩) 0 0) :: l) w') :
  WL dl P ops Q (⟨some d, .buildSlice t 0 #[], ty, pos, af, none⟩ :: rest) n l w := by
 refine WL.go .none fun b hb' hd K hK => ?_
 obtain ⟨ii, hi, hz, hsz, hby, hzc, hpos⟩ := he
 have hr : (Instr.buildSlice t 0 #[]).run P w = .ok (.slice (some ⟨w.heap.size, 0, none⟩) 0 0) (w.alloc (.cells #[] e)) := by
  simp [Instr.buildSlice, run_underlying hu, sizeOf, typeInfo, hi, Instr.fill, newRow, Array.range_zero']
 unfold Oper.wp execOp
 simp only [Sem.run_bind, Array.map_empty, hr, Result.andThen_ok, Sem.run_pure, Oper.upon_value]
 exact hK _ _ (h _ _ (St.rows_sl (i := 0) (m := 0) (size := size) (st.alloc [] e) rfl (by simp) (by decide)) b hb' hd)
def srPost (w0 : World) (N A T R O : List En) (Kp : World → World → Prop) (W : World) (go : Prop) (φ : List En → Prop) (code : Code) : Exit → Act → World → Prop
 | .normal, _, W' => go ∧ (∃ N', N'.map En.blk = N.map En.blk ∧ St w0 W' (N' ++ (A ++ (T ++ (R ++ O))))) ∧ Kp W W'
 | .ret, _, W' => code = .ret ∧ (∃ A', A'.map En.blk = (N ++ A).map En.blk ∧ St w0 W' (A' ++ (T ++ (R ++ O)))) ∧ ∃ s, φ s ∧ celly s = true ∧ St w0 W' s
 | .exit id, _, W' => code = .exit id ∧ (∃ A', A'.map En.blk = (N ++ A).map En.blk ∧ St w0 W' (A' ++ (T ++ (R ++ O)))) ∧ ∃ s, φ s ∧ celly s = true ∧ St w0 W' s
 | _, _, _ => False
theorem keepsA {L2 : List En} (st : St w0 W (N ++ (A ++ (T ++ R)))) (hc : celly (N ++ (A ++ (T ++ R))) = true) (hO : O = others w0 W (N ++ (A ++ (T ++ R)))) (st' : St w0 W' (L2 ++ (T ++ (R ++ O)))) (hb : L2.map En.blk = (N ++ A).map En.blk) : KeepsOthers W W' := by
 subst hO
 refine keeps_of_others st hc (L2 := L2 ++ (T ++ R)) (by rw [List.append_assoc, List.append_assoc]; exact st') fun b hx => blk_of_map ?_ hx
 rw [← List.append_assoc N A]
 simp only [List.map_append] at hb ⊢
 rw [hb]
theorem CW.search {gf M : Nat} {lb : Array Value} {assign body : Code} {ps : List Tmp} {encs : Fin M → List Value} {Kp : World → World → Prop}
  (st : St w0 w (A ++ (T ++ R))) (hc : celly (A ++ (T ++ R)) = true) (hx : ev n l X = some (.func (.func gf) #[] lb)) (he : Ent P gf)
  (hseq : SeqStopsK Fence.wide 2 P gf lb (fun x => (encs x).toArray) Kp (fun ys => ys = List.finRange M) (fun ys => ∃ k, ys = (List.finRange M).take k) M w)
  (hKt : ∀ {A B C : World}, Kp A B → Kp B C → Kp A C) (hKb : ∀ (W : World) (j : Nat) (o o' : Obj), w.heap.size ≤ j → W.heap[j]? = some o → o.isCells = false → Kp W (W.putObj j o'))
  (hlen : ∀ x, (encs x).length = ps.length) (go : Fin M → Prop) (φ : Fin M → List En → Prop) (code : Code) (Bx : Fin M → Ov → List En → Prop)
  (hassign : ∀ (j : Nat) (x : Fin M) (W : World) (O : Pool), St w0 W (A ++ (T ++ (R ++ O))) →
   CF (Fence.wide.inRound j) 1 [] P assign (Exit.then (At [] n fun l' W' => ∃ N, Bx x l' N ∧ celly N = true ∧ St w0 W' (N ++ (A ++ (T ++ (R ++ O)))) ∧ Kp W W') (fun _ _ _ => False)) n ((ps.zip (encs x)).reverse ++ l) W)
  (hbody : ∀ (j : Nat) (x : Fin M) (W : World) (l' : Ov) (N O : Pool), Bx x l' N → St w0 W (N ++ (A ++ (T ++ (R ++ O)))) →
   CF (Fence.wide.inRound j) 1 [] P body (srPost w0 N A T R O Kp W (go x) (φ x) code) n l' W)
  (hdone : ∀ (D : Nat) (W : World), (∀ x, go x) → St w0 W (.obj D (.deferred (some [])) :: (A ++ (T ++ R))) → QW ({ target := .collected D, args := #[] } :: dl) Q .normal n l W)
  (hstop : ∀ (D : Nat) (W : World) (x : Fin M) (s : List En), (∀ y : Fin M, y.val < x.val → go y) → φ x s → St w0 W (.obj D (.deferred (some [])) :: s) → CW ({ target := .collected D, args := #[] } :: dl) P code Q n l W) :
  CW dl P (.rangeFunc X ps.toArray assign body) Q n l w := fun b hb hd => by
 have marked : ∀ {D : Nat} {s : List En} {W : World}, w.heap.size ≤ D → celly s = true → St w0 W s → W.heap[D]? = some (.deferred (some [])) → St w0 W (.obj D (.deferred (some [])) :: s) := fun {D s W} hD hcs hst hobj => by
  refine ⟨hst.ext, ?_, ?_⟩
  ·intro e he
   rcases List.mem_cons.1 he with rfl | he
   ·exact ⟨Nat.le_trans st.ext.size hD, hobj⟩
   exact hst.ok e he
  refine List.pairwise_cons.2 ⟨?_, hst.apart⟩
  intro y hy b' hb' hb''
  simp only [En.blk, Option.some.injEq] at hb'
  subst hb'
  obtain ⟨cs, t, fr, hx⟩ := en_cells (hst.ok y hy) (celly_mem hcs y hy) hb''
  rw [hx] at hobj
  cases hobj
 have hB := st.ext.size
 refine wpIn_wide.1 (wpIn_rangeFunc_ownH (n := 3) (w0 := w) rfl (by omega) (ev_sound hb hx) trivial (fun args w => he.run args w) hseq hKt (fun W j o o' h1 h2 h3 _ => hKb W j o o' h1 h2 h3) (Below.refl _ _) (fun x => by simp [hlen])
  (fun pre W => (∀ y ∈ pre, go y) ∧ St w0 W (A ++ (T ++ R)))
  (fun c pre W => c = code ∧ ∃ pre0 x s, pre = pre0 ++ [x] ∧ (∀ y ∈ pre0, go y) ∧ φ x s ∧ celly s = true ∧ St w0 W s)
  (fun pre W W' row ⟨h1, h2⟩ hg hr => ⟨h1, h2.grow hB hc hg hr⟩)
  (fun c pre W W' row ⟨h1, p, x, s, h2, h3, h4, h5, h6⟩ hg hr => ⟨h1, p, x, s, h2, h3, h4, h5, h6.grow hB h5 hg hr⟩)
  ⟨fun y hy => (by cases hy), st⟩
  (fun x a' W => ∃ b' l' N, b'.tmps.size = n ∧ b'.defers = [] ∧ a' = ov b' l' ∧ Bx x l' N ∧ celly N = true ∧ St w0 W (N ++ (A ++ (T ++ R))))
  (fun x a' _ W W' row ⟨b', l', N, h1, h2, h3, h4, h5, h6⟩ hg hr => ⟨b', l', N, h1, h2, h3, h4, h5, h6.grow hB (celly_append h5 hc) hg hr⟩) ?_ ?_ ?_ ?_)
 ·intro j pre x W K ⟨h1, h2⟩ hK
  have hact : ({ tmps := (ps.toArray.zip (encs x).toArray).foldl (fun t (p, v) => t.setIfInBounds p v) (ov b l).tmps, defers := [] } : Act) = ov { b with defers := [] } ((ps.zip (encs x)).reverse ++ l) := by
   refine act_eq ?_ ?_
   ·have h := zip_fold { b with defers := [] } (ps.zip (encs x)) l
    rw [ov_tmps_defers] at h
    rw [← h]
    simp
   rw [ov_defers]
  rw [hact]
  obtain ⟨O, hO⟩ : ∃ O, O = others w0 W ([] ++ (A ++ (T ++ R))) := ⟨_, rfl⟩
  have h3 : St w0 W (A ++ (T ++ (R ++ O))) := by
   have := h2.with_others
   rw [List.append_assoc, List.append_assoc] at this
   rw [hO]
   exact this
  refine wpIn_mono (hassign j x W O h3 { b with defers := [] } hb rfl) ?_
  intro e a' W2 hq
  cases e <;> try exact hq.elim
  obtain ⟨b', l', k1, k2, rfl, N, k3, k4, k5, k6⟩ := hq
  have k5' : St w0 W2 (N ++ (A ++ (T ++ R))) := by
   have := k5
   rw [← List.append_assoc T R O, ← List.append_assoc A _ O, ← List.append_assoc N _ O] at this
   exact this.front
  have hk : KeepsOthers W W2 := by
   subst hO
   refine keeps_of_others h2 hc (L2 := N ++ (A ++ (T ++ R))) (by rw [List.append_assoc, List.append_assoc, List.append_assoc]; exact k5) fun b hx => ?_
   obtain ⟨e, he, hb⟩ := hx
   exact ⟨e, List.mem_append_right _ he, hb⟩
  exact hK _ _ (hk.from _) k6 ⟨h1, k5'.right⟩ ⟨b', l', N, k1, k2, rfl, k3, k4, k5'⟩
 ·rintro j pre x _ W _ _ ⟨h1, h2⟩ ⟨b', l', N, k1, k2, rfl, k3, k4, k5⟩ _
  obtain ⟨O, hO⟩ : ∃ O, O = others w0 W (N ++ (A ++ (T ++ R))) := ⟨_, rfl⟩
  have h3 : St w0 W (N ++ (A ++ (T ++ (R ++ O)))) := by
   have := k5.with_others
   rw [List.append_assoc, List.append_assoc, List.append_assoc] at this
   rw [hO]
   exact this
  have hcN := celly_append k4 hc
  refine wpIn_mono (hbody j x W l' N O k3 h3 b' k1 k2) ?_
  intro e a' W2 hq
  cases e with
  | normal =>
   obtain ⟨q1, ⟨N', q2, q3⟩, q4⟩ := hq
   have hk := keepsA (L2 := N' ++ A) k5 hcN hO (by rw [List.append_assoc]; exact q3) (by rw [List.map_append, List.map_append, q2])
   have q3' : St w0 W2 (A ++ (T ++ R)) := by
    have := q3.right
    rw [← List.append_assoc T R O, ← List.append_assoc A _ O] at this
    exact this.front
   refine ⟨hk.from _, q4, fun y hy => ?_, q3'⟩
   rcases List.mem_append.1 hy with hy | hy
   ·exact h1 y hy
   rw [List.mem_singleton] at hy; subst hy; exact q1
  | ret =>
   obtain ⟨q1, ⟨A', q2, q3⟩, s, q4, q5, q6⟩ := hq
   exact ⟨(keepsA k5 hcN hO q3 q2).from _, q1.symm, pre, x, s, rfl, h1, q4, q5, q6⟩
  | exit id =>
   obtain ⟨q1, ⟨A', q2, q3⟩, s, q4, q5, q6⟩ := hq
   exact ⟨(keepsA k5 hcN hO q3 q2).from _, q1.symm, pre, x, s, rfl, h1, q4, q5, q6⟩
  | goto t => exact hq.elim
  | panic c => exact hq.elim
  | outgrown => exact hq.elim
 ·rintro D xs W hD rfl ⟨h1, h2⟩ hobj
  have := hdone D W (fun x => h1 x (List.mem_finRange x)) (marked hD hc h2 hobj) { b with defers := { target := .collected D, args := #[] } :: b.defers } hb (by rw [← hd])
  rw [← ov_defers_with b _ l] at this
  rw [ov_defers]
  exact this
 rintro D c pre W hD ⟨k, hk⟩ ⟨rfl, pre0, x, s, rfl, h2, h3, h4, h5⟩ hobj
 have hgo : ∀ y : Fin M, y.val < x.val → go y := fun y hy => by
  refine h2 y ?_
  have hl : (pre0 ++ [x]).length ≤ k := by rw [hk]; exact List.length_take_le ..
  have e1 : (pre0 ++ [x])[pre0.length]? = some x := by simp
  have e2 : (pre0 ++ [x])[pre0.length]? = (List.finRange M)[pre0.length]? := by
   rw [hk, List.getElem?_take]
   rw [if_pos (by rw [List.length_append] at hl; simp at hl; omega)]
  rw [e1] at e2
  have hxl : x.val = pre0.length := by
   have := e2.symm
   rw [List.getElem?_eq_some_iff] at this
   obtain ⟨h6, h7⟩ := this
   rw [List.getElem_finRange] at h7
   rw [← h7]
   simp
  have e3 : pre0[y.val]? = some y := by
   have : (pre0 ++ [x])[y.val]? = (List.finRange M)[y.val]? := by
    rw [hk, List.getElem?_take]
    rw [if_pos (by rw [List.length_append] at hl; simp at hl; omega)]
   rw [List.getElem?_append_left (by omega)] at this
   rw [this, List.getElem?_eq_some_iff]
   exact ⟨by simp, by rw [List.getElem_finRange]; simp⟩
  exact List.mem_of_getElem? e3
 have := hstop D W x s hgo h3 (marked hD h4 h5 hobj) { b with defers := { target := .collected D, args := #[] } :: b.defers } hb (by rw [← hd])
 rw [← ov_defers_with b _ l] at this
 rw [ov_defers]
 exact wpIn_wide.2 this
end Go.Kr
