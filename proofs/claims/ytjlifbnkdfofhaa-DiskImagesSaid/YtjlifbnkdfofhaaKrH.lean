/- More words: what is owned ahead of a rest that one does not name; closures; copies; bytes of strings; cap. No program in sight. -/
import Derived.Test.YtjlifbnkdfofhaaKrG
import Derived.Lib.ConvBytes
import Derived.Lib.AppendZeros
namespace Go.Kr
open Go Go.RowKit
set_option linter.unusedVariables false
set_option linter.unusedSimpArgs false
variable {dl : List Deferred} {P : Program} {ops : Array Oper} {Q : Exit → Act → World → Prop} {rest : List Oper} {n : Nat} {l l' : Ov} {w0 w W W' : World} {L L2 T : List En}
variable {d : Nat} {ty : TypeId} {pos : String} {af : Array Edge} {g : Option (Nat × Bool)} {v : Value} {X Y : Operand} {t t' e : TypeId} {k k' : IntKind} {x y z : Int}

theorem St.left (h : St w0 W (L ++ T)) : St w0 W L := ⟨h.ext, fun e he => h.ok e (List.mem_append_left _ he), (List.pairwise_append.1 h.apart).1⟩
theorem St.right (h : St w0 W (L ++ T)) : St w0 W T := ⟨h.ext, fun e he => h.ok e (List.mem_append_right _ he), (List.pairwise_append.1 h.apart).2.1⟩
theorem St.pickT (h : St w0 W (L ++ T)) (is : List Nat) (hn : is.Nodup) : St w0 W (is.filterMap (L[·]?) ++ T) := by
  have h1 := h.left.pick is hn
  refine ⟨h.ext, fun e he => ?_, List.pairwise_append.2 ⟨h1.apart, h.right.apart, ?_⟩⟩
  · rcases List.mem_append.1 he with he | he
    · exact h1.ok e he
    · exact h.ok e (List.mem_append_right _ he)
  · intro x hx y hy
    obtain ⟨i, _, hi⟩ := List.mem_filterMap.1 hx
    exact (List.pairwise_append.1 h.apart).2.2 x (List.mem_of_getElem? hi) y hy
theorem St.src_mem {A : Option Addr} {c m : Nat} {xs : List Value} {size : Nat} (h : St w0 W L) (hk : En.sl A c m xs e size ∈ L) : Src W A xs := by
  obtain ⟨i, hi⟩ := List.mem_iff_getElem?.1 hk
  exact h.src_sl hi

theorem WL.callv {f : FuncId} {xs : List Operand} {vs cs : List Value} {ats : Array TypeId} {R : Ending → World → Prop} (hw : Wanted ops g n l true) (he : Ent P f) (hX : ev n l X = some (.func (.func f) #[] cs.toArray)) (ha : evs n l xs = some vs) (hc : Calls P f (vs ++ cs).toArray w R)
    (h : ∀ e w', R e w' → ∃ v, e = .returned v ∧ WL dl P ops Q rest n ((d, v) :: l) w') : WL dl P ops Q (⟨some d, .call { callee := .value X, args := xs.toArray, argTypes := ats }, ty, pos, af, g⟩ :: rest) n l w :=
  WL.go hw fun b hb hd K hK => by
    have e1 := ev_sound (b := b) hb hX
    have hm := evs_sound (ρ := (ov b l).eval) (fun x u hx => ev_sound hb hx) ha
    have hr : (execOp (ov b l).eval ⟨some d, .call { callee := .value X, args := xs.toArray, argTypes := ats }, ty, pos, af, g⟩).run P w = .ok (.enter f (vs ++ cs).toArray) w := by
      have := Ent.run he (vs ++ cs).toArray w
      simp [execOp, resolve, e1, Deferred.ofValue, invoke, hm]
      simpa using this
    unfold Oper.wp
    rw [hr, Oper.upon_enter]
    refine hc.mono fun e w' hR => ?_
    obtain ⟨v, rfl, hv⟩ := h e w' hR
    exact hK _ _ (hv b hb hd)
def Acts (P : Program) (op : Op) (ty : TypeId) (n : Nat) (l : Ov) (w : World) (v : Value) (w' : World) : Prop :=
  ∀ (ρ : Operand → Value) (d : Option Nat) (pos : String) (af : Array Edge) (g : Option (Nat × Bool)), (∀ x u, ev n l x = some u → ρ x = u) → (execOp ρ ⟨d, op, ty, pos, af, g⟩).run P w = .ok (.value v) w'
theorem WL.act {op : Op} {w' : World} (hw : Wanted ops g n l true) (hr : Acts P op ty n l w v w') (h : WL dl P ops Q rest n ((d, v) :: l) w') : WL dl P ops Q (⟨some d, op, ty, pos, af, g⟩ :: rest) n l w :=
  WL.go hw fun b hb hd K hK => by
    unfold Oper.wp
    rw [hr _ _ _ _ _ (fun x u hx => ev_sound hb hx)]
    exact hK _ _ (h b hb hd)
def bl (s : ByteArray) : List Int := s.data.toList.map fun b => (b.toNat : Int)
theorem St.obj (h : St w0 W L) (o : Obj) {W' : World} {b : Nat} (hb : b = W.heap.size) (hg : W.grownBy W' none) (ho : W'.heap[b]? = some o) : St w0 W' (.obj b o :: L) := by
  have h' := h.other hg (fun r hr => by cases hr)
  refine ⟨h'.ext, ?_, ?_⟩
  · intro e he
    rcases List.mem_cons.1 he with rfl | he
    · exact ⟨by rw [hb]; exact h.ext.size, ho⟩
    · exact h'.ok e he
  · refine List.pairwise_cons.2 ⟨?_, h'.apart⟩
    intro y hy b' hb' hy'
    simp only [En.blk, Option.some.injEq] at hb'
    have := (en_lt (h.ok y hy) hy').2
    omega
theorem act_bytes {s : ByteArray} (st : St w0 w L) (hs : P.underlying t = some .string) (hd : P.underlying t' = some (.slice e)) (he : P.underlying e = some (.int .u8)) (hx : ev n l X = some (.string s)) :
    ∃ (w' : World) (B c : Nat) (cs : List Value), Acts P (.convert t t' X) ty n l w (.slice (some ⟨B, 0, none⟩) s.size c) w' ∧ s.size ≤ c ∧ cs.length = c ∧ cs.take s.size = iv .u8 (bl s) ∧ St w0 w' (.obj B (.cells cs.toArray e (c, c + 1)) :: L) := by
  refine ⟨Lib.bytesWorld w e s, w.heap.size, grownCap w s.size 0 e, (Lib.bytesCells w e s).toList, fun ρ d pos af g hρ => ?_, ?_, ?_, ?_, ?_⟩
  · have e1 := hρ _ _ hx
    have := Lib.run_convert_string_bytes (P := P) w t t' e s hs hd he
    simp [execOp, e1, this]
  · exact grownCap_ge w s.size 0 e
  · have := grownCap_ge w s.size 0 e
    have hz : s.data.size = s.size := rfl
    simp [Lib.bytesCells]; omega
  · have hz : s.data.size = s.size := rfl
    simp only [Lib.bytesCells, Array.toList_append, Array.toList_map]
    rw [List.take_left' (by simp)]
    simp [iv, bl]
  · have hsz : (Lib.bytesCells w e s).size = grownCap w s.size 0 e := by
      have h1 := grownCap_ge w s.size 0 e
      have hz : s.data.size = s.size := rfl
      simp [Lib.bytesCells]; omega
    refine st.obj _ rfl ⟨?_, ?_, ?_, ?_, fun k hk _ => Lib.bytesWorld_at_old w e s k hk⟩ ?_
    · simp [Lib.bytesWorld, World.freeze]; rfl
    · simp [Lib.bytesWorld, World.freeze]
    · simp [Lib.bytesWorld, World.freeze]; rfl
    · rw [Lib.bytesWorld_size]; omega
    · rw [Lib.bytesWorld_at_new, hsz]
theorem setCells_row (bk : Nat) (T : TypeId) (fr : Nat × Nat) : ∀ (vs : List Value) (o : Nat) (w : World) (cs : List Value), w.heap[bk]? = some (.cells cs.toArray T fr) → o + vs.length ≤ cs.length →
    (w.setCells bk o vs).heap[bk]? = some (.cells (cs.take o ++ vs ++ cs.drop (o + vs.length)).toArray T fr) ∧ w.grownBy (w.setCells bk o vs) (some bk)
  | [], o, w, cs, h, _ => ⟨by simp [World.setCells, h], ⟨rfl, rfl, rfl, Nat.le_refl _, fun _ _ _ => rfl⟩⟩
  | v :: r, o, w, cs, h, hl => by
    simp only [List.length_cons] at hl
    have hlt : bk < w.heap.size := (Array.getElem?_eq_some_iff.1 h).1
    have h1 : (w.setCell ⟨bk, o, none⟩ v).heap[bk]? = some (.cells (cs.set o v).toArray T fr) := by
      simp [World.setCell, Array.getElem?_modify, h]
    have hsz : (w.setCell ⟨bk, o, none⟩ v).heap.size = w.heap.size := by simp [World.setCell]
    obtain ⟨i1, i2⟩ := setCells_row bk T fr r (o + 1) _ _ h1 (by simp; omega)
    refine ⟨?_, ⟨i2.os, i2.tape, i2.output, by have := i2.size; rw [hsz] at this; exact this, fun k hk hne => ?_⟩⟩
    · rw [World.setCells, i1]
      have e := list_seg_step cs o v r (by omega)
      congr 3
    · rw [World.setCells, i2.block k (by rw [hsz]; exact hk) hne]
      exact heap_setCell_other w _ k v (fun e => hne (by simp [e]))
theorem add_add (a : Addr) (o p : Nat) : (a.add o).add p = a.add (o + p) := by
  unfold Addr.add
  by_cases e1 : o = 0 <;> by_cases e2 : p = 0 <;> simp [e1, e2, Nat.add_assoc]
section
variable {i o N M c m m2 c2 bk : Nat} {A B S : Option Addr} {xs ys : List Value} {t2 t3 T' : TypeId}
end
theorem St.cell_mem {bk i : Nat} {T' : TypeId} {cs : List Value} (st : St w0 w L) (hk : En.cells bk cs T' ∈ L) {v : Value} (hi : cs[i]? = some v) : w.cell? ⟨bk, i, none⟩ = some v := by
  obtain ⟨j, hj⟩ := List.mem_iff_getElem?.1 hk
  exact st.cell hj hi
theorem AW.steps {fuel : Nat} {listed : Array Bool} (hne : Region.ready .any ops listed ≠ []) (h : ∀ j ∈ Region.ready .any ops listed, ∃ o, ops[j]? = some o ∧ WL dl P ops (AQ P ops Q fuel (listed.setIfInBounds j true)) [o] n l w) : AW dl P ops Q (fuel + 1) listed n l w := fun b hb hd => by
  refine ⟨fun h0 => absurd h0 hne, fun j hj => ?_⟩
  obtain ⟨o, hi, h0⟩ := h j hj
  have h1 := h0 b hb hd
  unfold wpOp
  simp only [hi]
  unfold wpList at h1
  split at h1
  · rename_i hw
    rw [if_pos hw]
    rcases h1 with h1 | ⟨h1, h2⟩
    · exact .inl (upon_post (fun c a w h => h) (fun a w h => h) h1)
    · refine .inr ⟨h1, ?_⟩
      obtain ⟨a, w, q⟩ := h2
      exact ⟨a, w, q⟩
  · rename_i hw
    rw [if_neg hw]
    exact h1
theorem AW.step2 {fuel : Nat} {listed : Array Bool} {o p : Oper} (i j : Nat) (hi : ops[i]? = some o) (hj : ops[j]? = some p) (hr : Region.ready .any ops listed = [i, j])
    (h1 : WL dl P ops (AQ P ops Q fuel (listed.setIfInBounds i true)) [o] n l w) (h2 : WL dl P ops (AQ P ops Q fuel (listed.setIfInBounds j true)) [p] n l w) : AW dl P ops Q (fuel + 1) listed n l w := by
  refine AW.steps (by rw [hr]; exact List.cons_ne_nil _ _) fun k hk => ?_
  rw [hr] at hk
  simp only [List.mem_cons, List.not_mem_nil, or_false] at hk
  rcases hk with rfl | rfl
  · exact ⟨_, hi, h1⟩
  · exact ⟨_, hj, h2⟩
theorem WL.bytes {s : ByteArray} (st : St w0 w L) (hs : P.underlying t = some .string) (hd : P.underlying t' = some (.slice e)) (he : P.underlying e = some (.int .u8)) (hx : ev n l X = some (.string s))
    (h : ∀ (B c : Nat) (cs : List Value) (w' : World), s.size ≤ c → cs.length = c → cs.take s.size = iv .u8 (bl s) → St w0 w' (.obj B (.cells cs.toArray e (c, c + 1)) :: L) → WL dl P ops Q rest n ((d, .slice (some ⟨B, 0, none⟩) s.size c) :: l) w') :
    WL dl P ops Q (⟨some d, .convert t t' X, ty, pos, af, none⟩ :: rest) n l w := by
  obtain ⟨w', B, c, cs, ha, h1, h2, h3, h4⟩ := act_bytes (ty := ty) st hs hd he hx
  exact WL.act .none ha (h B c cs w' h1 h2 h3 h4)
end Go.Kr
