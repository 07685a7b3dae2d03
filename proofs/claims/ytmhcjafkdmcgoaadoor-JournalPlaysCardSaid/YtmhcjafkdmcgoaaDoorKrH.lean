/- More words: what is owned ahead of a rest that one does not name; closures; copies; bytes of strings; cap. No program in sight. -/
import Derived.Test.YtmhcjafkdmcgoaaDoorKrG
import Derived.Lib.ConvBytes
import Derived.Lib.AppendZeros
namespace Go.Kr
open Go Go.RowKit
set_option linter.unusedVariables false
set_option linter.unusedSimpArgs false
variable {dl : List Deferred} {P : Program} {ops : Array Oper} {Q : Exit → Act → World → Prop} {rest : List Oper} {n : Nat} {l l' : Ov} {w0 w W W' : World} {L L2 T : List En}
variable {d : Nat} {ty : TypeId} {pos : String} {af : Array Edge} {g : Option (Nat × Bool)} {v : Value} {X Y : Operand} {t t' e : TypeId} {k k' : IntKind} {x y z : Int}
theorem St.left (h : St w0 W (L ++ T)) : St w0 W L := ⟨h.ext, fun e he => h.ok e (List.mem_append_left _ he), (List.pairwise_append.1 h.apart).1⟩
theorem St.right (h : St w0 W (L ++ T)) : St w0 W T := ⟨h.ext, fun e he => h.ok e (List.mem_append_right _ he), (List.pairwise_append.1 h.apart).2.1⟩
theorem St.pickT (h : St w0 W (L ++ T)) (is : List Nat) (hn : is.Nodup) : St w0 W (is.filterMap (L[·]?) ++ T) := by
 have h1 := h.left.pick is hn
 refine ⟨h.ext, fun e he => ?_, List.pairwise_append.2 ⟨h1.apart, h.right.apart, ?_⟩⟩
 ·rcases List.mem_append.1 he with he | he
  ·exact h1.ok e he
  exact h.ok e (List.mem_append_right _ he)
 intro x hx y hy
 obtain ⟨i, _, hi⟩ := List.mem_filterMap.1 hx
 exact (List.pairwise_append.1 h.apart).2.2 x (List.mem_of_getElem? hi) y hy
theorem St.src_mem {A : Option Addr} {c m : Nat} {xs : List Value} {size : Nat} (h : St w0 W L) (hk : En.sl A c m xs e size ∈ L) : Src W A xs := by
 obtain ⟨i, hi⟩ := List.mem_iff_getElem?.1 hk
 exact h.src_sl hi
theorem WL.callv {f : FuncId} {xs : List Operand} {vs cs : List Value} {ats : Array TypeId} {R : Ending → World → Prop} (hw : Wanted ops g n l true) (he : Ent P f) (hX : ev n l X = some (.func (.func f) #[] cs.toArray)) (ha : evs n l xs = some vs) (hc : Calls P f (vs ++ cs).toArray w R)
  (h : ∀ e w', R e w' → ∃ v, e = .returned v ∧ WL dl P ops Q rest n ((d, v) :: l) w') : WL dl P ops Q (⟨some d, .call { callee := .value X, args := xs.toArray, argTypes := ats }, ty, pos, af, g⟩ :: rest) n l w :=
 WL.go hw fun b hb hd K hK => by
  have e1 := ev_sound (b := b) hb hX
  have hm := evs_sound (ρ := (ov b l).eval) (fun x u hx => ev_sound hb hx) ha
  have hr : (execOp (ov b l).eval ⟨some d, .call { callee := .value X, args := xs.toArray, argTypes := ats }, ty, pos, af, g⟩).run P w = .ok (.enter f (vs ++ cs).toArray) w := by
   have := Ent.run he (vs ++ cs).toArray w
   simp [execOp, resolve, e1, Deferred.ofValue, invoke, hm]
   simpa using this
  unfold Oper.wp
  rw [hr, Oper.upon_enter]
  refine hc.mono fun e w' hR => ?_
  obtain ⟨v, rfl, hv⟩ := h e w' hR
  exact hK _ _ (hv b hb hd)
theorem Runs.cap_sl {A : Option Addr} {m c : Nat} {t2 e : TypeId} (hu : P.underlying t2 = some (.slice e)) (hx : ev n l X = some (.slice A m c)) (hz : z = (c : Int)) : Runs P (.call { callee := .builtin .cap, args := #[X], argTypes := #[t2] }) ty n l w (.int .i64 z) := fun ρ _ _ _ _ hρ => by
 have e1 := hρ _ _ hx
 subst hz
 simp [execOp, resolve, invoke, builtin, e1, Builtin.cap_, run_underlying hu, goInt]
theorem St.trunc (st : St w0 w L) {i : Nat} {A : Option Addr} {c m : Nat} {xs : List Value} (hk : L[i]? = some (.sl A c m xs e 1)) (N : Nat) (hN : N ≤ m) : St w0 w (L.set i (.sl A c N (xs.take N) e 1)) := by
 have ho := st.row hk
 refine st.turn hk (row := (En.sl A c m xs e 1).blk) (e' := .sl A c N (xs.take N) e 1) rfl ⟨rfl, rfl, rfl, Nat.le_refl _, fun _ _ _ => rfl⟩ ?_ (fun b hb => .inl hb)
 have hl := ho.1
 refine ⟨by simp; omega, ?_⟩
 rcases ho.2 with ⟨h1, h2⟩ | ⟨g, cap, cur, hv, hb, hg, h3, h4, h5, h6⟩
 ·simp only [Value.slice.injEq] at h1
  obtain ⟨rfl, rfl, rfl⟩ := h1
  exact .inl ⟨by simp; omega, by omega⟩
 simp only [Value.slice.injEq] at hv
 obtain ⟨rfl, _, rfl⟩ := hv
 refine .inr ⟨g, c, cur, rfl, hb, hg, by omega, h4, h5, ?_⟩
 rw [← h6, List.take_take]
 congr 1
 omega
def cpy {α : Type} (xs : List α) (o N : Nat) (ys : List α) : List α := xs.take o ++ ys.take (min ys.length N) ++ xs.drop (o + min ys.length N)
theorem cpy_length {α : Type} {xs ys : List α} {o N : Nat} (h : o + N ≤ xs.length) : (cpy xs o N ys).length = xs.length := by
 simp [cpy]; omega
theorem cpy_iv (k : IntKind) (xs ys : List Int) (o N : Nat) : cpy (iv k xs) o N (iv k ys) = iv k (cpy xs o N ys) := by
 simp [cpy, iv, List.map_take, List.map_drop]
theorem take_cpy {α : Type} (cur cs : List α) (m o : Nat) (h : o + cs.length ≤ m) (hm : m ≤ cur.length) : (cur.take o ++ cs ++ cur.drop (o + cs.length)).take m = (cur.take m).take o ++ cs ++ (cur.take m).drop (o + cs.length) := by
 have e1 : (cur.take o ++ cs).length = o + cs.length := by simp; omega
 rw [List.take_append, List.take_of_length_le (l := cur.take o ++ cs) (by omega), e1, List.take_take, List.drop_take, Nat.min_eq_left (by omega)]
theorem run_copy_go {bk o N M m2 c2 : Nat} {B S : Option Addr} {cur : List Value} {T : TypeId} {ys : List Value} {dT sT : TypeId} (hu : P.underlying dT = some (.slice e)) (hs : P.cellsOf e = 1) (hg : w.heap[bk]? = some (.cells cur.toArray T (0, 0)))
  (hB : N ≠ 0 → B = some ⟨bk, o, none⟩) (hfit : o + N ≤ cur.length) (hsrc : Src w S ys) (hm : m2 = ys.length) (h1 : ∀ v ∈ ys, v.oneCell' = true) :
  (Builtin.copy_ #[dT, sT] ty #[.slice B N M, .slice S m2 c2]).run P w = .ok (goInt (min ys.length N : Nat)) (if min ys.length N = 0 then w else w.setRow bk (cur.take o ++ ys.take (min ys.length N) ++ cur.drop (o + min ys.length N)).toArray) := by
 have hs' : (P.info? e).map (·.size) = some 1 := by
  obtain ⟨i, hi, hz⟩ := info_of_cells hs (by decide)
  simp [hi, hz]
 subst hm
 by_cases h0 : min ys.length N = 0
 ·rw [if_pos h0, h0]
  exact run_copy_none w dT sT ty e B S N M ys.length c2 hu hs' h0
 rw [if_neg h0]
 have hB' := hB (by omega)
 subst hB'
 obtain ⟨v0, hv0⟩ : ∃ v0, ys[0]? = some v0 := ⟨ys[0]'(by omega), List.getElem?_eq_getElem (by omega)⟩
 obtain ⟨a, rfl, _⟩ := hsrc 0 v0 hv0
 have hlen : (ys.take (min ys.length N)).length = Nat.min ys.length N := by simp [List.length_take]
 have := run_copy_row (P := P) w dT sT ty e bk o N M a ys.length c2 cur.toArray T (ys.take (min ys.length N)) hu hs' hg hlen (fun j v hv => by
  rw [List.getElem?_take] at hv
  split at hv
  ·obtain ⟨a', ha', hc⟩ := hsrc j v hv
   simp only [Option.some.injEq] at ha'
   subst ha'
   exact hc
  cases hv) (by rw [hlen]; simp; show o + min _ _ ≤ _; omega) (fun v hv => h1 v (List.mem_of_mem_take hv))
 rw [this, hlen]
theorem grown_setRow {bk : Nat} {cs : Array Value} : w.grownBy (w.setRow bk cs) (some bk) :=
 ⟨rfl, rfl, rfl, by simp [World.setRow], fun k _ hk => setRow_other w bk k _ (fun e => hk (by simp [e]))⟩
def Acts (P : Program) (op : Op) (ty : TypeId) (n : Nat) (l : Ov) (w : World) (v : Value) (w' : World) : Prop :=
 ∀ (ρ : Operand → Value) (d : Option Nat) (pos : String) (af : Array Edge) (g : Option (Nat × Bool)), (∀ x u, ev n l x = some u → ρ x = u) → (execOp ρ ⟨d, op, ty, pos, af, g⟩).run P w = .ok (.value v) w'
theorem WL.act {op : Op} {w' : World} (hw : Wanted ops g n l true) (hr : Acts P op ty n l w v w') (h : WL dl P ops Q rest n ((d, v) :: l) w') : WL dl P ops Q (⟨some d, op, ty, pos, af, g⟩ :: rest) n l w :=
 WL.go hw fun b hb hd K hK => by
  unfold Oper.wp
  rw [hr _ _ _ _ _ (fun x u hx => ev_sound hb hx)]
  exact hK _ _ (h b hb hd)
theorem act_copy {bk o N M m2 c2 : Nat} {B S : Option Addr} {cur : List Value} {T : TypeId} {ys : List Value} {dT sT : TypeId} (hu : P.underlying dT = some (.slice e)) (hs : P.cellsOf e = 1) (hg : w.heap[bk]? = some (.cells cur.toArray T (0, 0)))
  (hx : ev n l X = some (.slice B N M)) (hy : ev n l Y = some (.slice S m2 c2)) (hB : N ≠ 0 → B = some ⟨bk, o, none⟩) (hfit : o + N ≤ cur.length) (hsrc : Src w S ys) (hm : m2 = ys.length) (h1 : ∀ v ∈ ys, v.oneCell' = true) :
  ∃ w', Acts P (.call { callee := .builtin .copy, args := #[X, Y], argTypes := #[dT, sT] }) ty n l w (.int .i64 (min ys.length N : Nat)) w' ∧ w.grownBy w' (some bk) ∧ w'.heap[bk]? = some (.cells (cpy cur o N ys).toArray T (0, 0)) := by
 refine ⟨if min ys.length N = 0 then w else w.setRow bk (cur.take o ++ ys.take (min ys.length N) ++ cur.drop (o + min ys.length N)).toArray, fun ρ d pos af g hρ => ?_, ?_, ?_⟩
 ·have e1 := hρ _ _ hx; have e2 := hρ _ _ hy
  have := run_copy_go (P := P) (ty := ty) (sT := sT) (M := M) (c2 := c2) hu hs hg hB hfit hsrc hm h1
  simp only [execOp, resolve, e1, e2, Deferred.ofValue, invoke, builtin, goInt] at this ⊢
  simp [e1, e2, this]
 ·split
  ·exact ⟨rfl, rfl, rfl, Nat.le_refl _, fun _ _ _ => rfl⟩
  exact grown_setRow
 split
 ·rename_i h0
  rw [hg, cpy, h0]
  simp
 exact setRow_heap w bk _ _ T _ hg
theorem act_copy_sl {i bk o N M c m m2 c2 : Nat} {B S : Option Addr} {xs ys : List Value} {t2 t3 : TypeId} (st : St w0 w L) (hk : L[i]? = some (.sl (some ⟨bk, 0, none⟩) c m xs e 1)) (hu : P.underlying t2 = some (.slice e)) (hs : P.cellsOf e = 1)
  (hx : ev n l X = some (.slice B N M)) (hy : ev n l Y = some (.slice S m2 c2)) (hB : N ≠ 0 → B = some ⟨bk, o, none⟩) (hfit : o + N ≤ m) (hsrc : Src w S ys) (hm : m2 = ys.length) (h1 : ∀ v ∈ ys, v.oneCell' = true) :
  ∃ w', Acts P (.call { callee := .builtin .copy, args := #[X, Y], argTypes := #[t2, t3] }) ty n l w (.int .i64 (min ys.length N : Nat)) w' ∧ St w0 w' (L.set i (.sl (some ⟨bk, 0, none⟩) c m (cpy xs o N ys) e 1)) := by
 have ho := st.row hk
 rcases ho.2 with ⟨h', _⟩ | ⟨g, cap, cur, hv, hb, hg, h3, h4, h5, h6⟩
 ·simp at h'
 simp only [Value.slice.injEq, Option.some.injEq, Addr.mk.injEq] at hv
 obtain ⟨⟨rfl, _, _⟩, _, rfl⟩ := hv
 have hl : cur.toList.length = c := by simp [h5]
 obtain ⟨w', ha, hg', hh⟩ := act_copy (ty := ty) (dT := t2) (sT := t3) (cur := cur.toList) hu hs (by simpa using hg) hx hy hB (by omega) hsrc hm h1
 refine ⟨w', ha, st.turn hk (row := some bk) rfl hg' ?_ (fun b hb => .inl hb)⟩
 refine ⟨?_, .inr ⟨bk, c, _, rfl, hb, hh, h3, h4, ?_, ?_⟩⟩
 ·have := ho.1
  rw [cpy_length (by omega)]; exact ho.1
 ·rw [List.size_toArray, cpy_length (by omega)]; omega
 rw [List.toList_toArray, ← h6]
 simp only [Nat.mul_one]
 have := take_cpy cur.toList (ys.take (min ys.length N)) m o (by simp; omega) (by omega)
 have e1 : (ys.take (min ys.length N)).length = min ys.length N := by simp
 rw [e1] at this
 exact this
theorem act_copy_cells {i bk o N M m2 c2 : Nat} {B S : Option Addr} {T : TypeId} {xs ys : List Value} {t2 t3 : TypeId} (st : St w0 w L) (hk : L[i]? = some (.cells bk xs T)) (hu : P.underlying t2 = some (.slice e)) (hs : P.cellsOf e = 1)
  (hx : ev n l X = some (.slice B N M)) (hy : ev n l Y = some (.slice S m2 c2)) (hB : N ≠ 0 → B = some ⟨bk, o, none⟩) (hfit : o + N ≤ xs.length) (hsrc : Src w S ys) (hm : m2 = ys.length) (h1 : ∀ v ∈ ys, v.oneCell' = true) :
  ∃ w', Acts P (.call { callee := .builtin .copy, args := #[X, Y], argTypes := #[t2, t3] }) ty n l w (.int .i64 (min ys.length N : Nat)) w' ∧ St w0 w' (L.set i (.cells bk (cpy xs o N ys) T)) := by
 have ho := st.ok _ (List.mem_of_getElem? hk)
 obtain ⟨w', ha, hg', hh⟩ := act_copy (ty := ty) (dT := t2) (sT := t3) hu hs ho.2 hx hy hB hfit hsrc hm h1
 exact ⟨w', ha, st.turn hk (row := some bk) rfl hg' ⟨ho.1, hh⟩ (fun b hb => .inl hb)⟩
def bl (s : ByteArray) : List Int := s.data.toList.map fun b => (b.toNat : Int)
theorem St.obj (h : St w0 W L) (o : Obj) {W' : World} {b : Nat} (hb : b = W.heap.size) (hg : W.grownBy W' none) (ho : W'.heap[b]? = some o) : St w0 W' (.obj b o :: L) := by
 have h' := h.other hg (fun r hr => by cases hr)
 refine ⟨h'.ext, ?_, ?_⟩
 ·intro e he
  rcases List.mem_cons.1 he with rfl | he
  ·exact ⟨by rw [hb]; exact h.ext.size, ho⟩
  exact h'.ok e he
 refine List.pairwise_cons.2 ⟨?_, h'.apart⟩
 intro y hy b' hb' hy'
 simp only [En.blk, Option.some.injEq] at hb'
 have := (en_lt (h.ok y hy) hy').2
 omega
theorem act_bytes {s : ByteArray} (st : St w0 w L) (hs : P.underlying t = some .string) (hd : P.underlying t' = some (.slice e)) (he : P.underlying e = some (.int .u8)) (hx : ev n l X = some (.string s)) :
  ∃ (w' : World) (B c : Nat) (cs : List Value), Acts P (.convert t t' X) ty n l w (.slice (some ⟨B, 0, none⟩) s.size c) w' ∧ s.size ≤ c ∧ cs.length = c ∧ cs.take s.size = iv .u8 (bl s) ∧ St w0 w' (.obj B (.cells cs.toArray e (c, c + 1)) :: L) := by
 refine ⟨Lib.bytesWorld w e s, w.heap.size, grownCap w s.size 0 e, (Lib.bytesCells w e s).toList, fun ρ d pos af g hρ => ?_, ?_, ?_, ?_, ?_⟩
 ·have e1 := hρ _ _ hx
  have := Lib.run_convert_string_bytes (P := P) w t t' e s hs hd he
  simp [execOp, e1, this]
 ·exact grownCap_ge w s.size 0 e
 ·have := grownCap_ge w s.size 0 e
  have hz : s.data.size = s.size := rfl
  simp [Lib.bytesCells]; omega
 ·have hz : s.data.size = s.size := rfl
  simp only [Lib.bytesCells, Array.toList_append, Array.toList_map]
  rw [List.take_left' (by simp)]
  simp [iv, bl]
 have hsz : (Lib.bytesCells w e s).size = grownCap w s.size 0 e := by
  have h1 := grownCap_ge w s.size 0 e
  have hz : s.data.size = s.size := rfl
  simp [Lib.bytesCells]; omega
 refine st.obj _ rfl ⟨?_, ?_, ?_, ?_, fun k hk _ => Lib.bytesWorld_at_old w e s k hk⟩ ?_
 ·simp [Lib.bytesWorld, World.freeze]; rfl
 ·simp [Lib.bytesWorld, World.freeze]
 ·simp [Lib.bytesWorld, World.freeze]; rfl
 ·rw [Lib.bytesWorld_size]; omega
 rw [Lib.bytesWorld_at_new, hsz]
theorem St.src_obj {i bk m : Nat} {T : TypeId} {fr : Nat × Nat} {cs : Array Value} {xs : List Value} (st : St w0 w L) (hk : L[i]? = some (.obj bk (.cells cs T fr))) (hx : cs.toList.take m = xs) : Src w (some ⟨bk, 0, none⟩) xs := fun j v hv => by
 refine ⟨_, rfl, ?_⟩
 rw [add_blk, cell_of_row w bk j cs T fr (st.ok _ (List.mem_of_getElem? hk)).2]
 rw [← hx, List.getElem?_take] at hv
 split at hv
 ·simpa using hv
 cases hv
theorem setCells_row (bk : Nat) (T : TypeId) (fr : Nat × Nat) : ∀ (vs : List Value) (o : Nat) (w : World) (cs : List Value), w.heap[bk]? = some (.cells cs.toArray T fr) → o + vs.length ≤ cs.length →
    (w.setCells bk o vs).heap[bk]? = some (.cells (cs.take o ++ vs ++ cs.drop (o + vs.length)).toArray T fr) ∧ w.grownBy (w.setCells bk o vs) (some bk)
  | [], o, w, cs, h, _ => ⟨by simp [World.setCells, h], ⟨rfl, rfl, rfl, Nat.le_refl _, fun _ _ _ => rfl⟩⟩
  | v :: r, o, w, cs, h, hl => by
    simp only [List.length_cons] at hl
    have hlt : bk < w.heap.size := (Array.getElem?_eq_some_iff.1 h).1
    have h1 : (w.setCell ⟨bk, o, none⟩ v).heap[bk]? = some (.cells (cs.set o v).toArray T fr) := by
      simp [World.setCell, Array.getElem?_modify, h]
    have hsz : (w.setCell ⟨bk, o, none⟩ v).heap.size = w.heap.size := by simp [World.setCell]
    obtain ⟨i1, i2⟩ := setCells_row bk T fr r (o + 1) _ _ h1 (by simp; omega)
    refine ⟨?_, ⟨i2.os, i2.tape, i2.output, by have := i2.size; rw [hsz] at this; exact this, fun k hk hne => ?_⟩⟩
    · rw [World.setCells, i1]
      have e := list_seg_step cs o v r (by omega)
      congr 3
    · rw [World.setCells, i2.block k (by rw [hsz]; exact hk) hne]
      exact heap_setCell_other w _ k v (fun e => hne (by simp [e]))
theorem replicate_cells {z : Value} (hz : z.cells = #[z]) (m : Nat) : (Builtin.zeroCells z.cells m).toList = List.replicate m z := by
 rw [hz]
 simp only [Builtin.zeroCells, List.size_toArray, List.length_cons, List.length_nil, Nat.zero_add, Nat.mul_one, Array.toList_map, Array.toList_range, Nat.mod_one]
 apply List.ext_getElem?
 intro j
 by_cases h : j < m
 ·simp [h]
 simp [h]
theorem act_append_make {z : Value} {bytes N : Nat} {t2 : TypeId} {k2 : IntKind} (st : St w0 w L) (hu : P.underlying t = some (.slice e)) (ht : P.underlying t2 = some (.int k2)) (he : ElemT P e z bytes) (hx : ev n l X = some (.slice none 0 0)) (hy : ev n l Y = some (.int k x)) (h0 : 0 < x) (hlim : x ≤ 1099511627776) (hb : bytes ≤ 128) (hN : N = x.toNat) :
  ∃ w' B c, Acts P (.call { callee := .builtin .append, args := #[X, Y], argTypes := #[t, t2] }) ty n l w (.slice (some ⟨B, 0, none⟩) N c) w' ∧ St w0 w' (.sl (some ⟨B, 0, none⟩) c N (List.replicate N z) e 1 :: L) := by
 obtain ⟨ii, hi, hz, hsz, hby, hzc, hpos⟩ := he
 have hxN : x = (N : Int) := by omega
 subst hxN
 have hr := Lib.run_append_nil_zeros (P := P) w t t2 ty e ii z k k2 hu ht hi hz N (by omega) (by omega) (by omega) (by
  calc N * ii.bytes ≤ 1099511627776 * 128 := Nat.mul_le_mul (by omega) (by omega)
   _ ≤ 281474976710656 := by omega)
 have hge := grownCap_ge w N 0 e
 refine ⟨w.drew.alloc (.cells (Builtin.zeroCells z.cells N ++ Builtin.zeroCells z.cells (grownCap w N 0 e - N)) e), w.heap.size, grownCap w N 0 e, fun ρ d pos af g hρ => ?_, ?_⟩
 ·have e1 := hρ _ _ hx; have e2 := hρ _ _ hy
  simp [execOp, resolve, e1, e2, Deferred.ofValue, invoke, builtin, hr]
 have h1 := (st.drew).alloc (List.replicate N z ++ List.replicate (grownCap w N 0 e - N) z) e
 have hcs : (Builtin.zeroCells z.cells N ++ Builtin.zeroCells z.cells (grownCap w N 0 e - N)) = (List.replicate N z ++ List.replicate (grownCap w N 0 e - N) z).toArray := by
  apply Array.ext'
  rw [Array.toList_append, replicate_cells hzc, replicate_cells hzc]
 have hW : w.drew.alloc (.cells (Builtin.zeroCells z.cells N ++ Builtin.zeroCells z.cells (grownCap w N 0 e - N)) e) = ({ w with drawn := w.drawn + 1 } : World).alloc (.cells (List.replicate N z ++ List.replicate (grownCap w N 0 e - N) z).toArray e) := by rw [hcs]; rfl
 rw [hW]
 have hcm := grownCap_le_maxLen w N 0 e (by unfold maxLen; omega)
 refine ⟨h1.ext, ?_, ?_⟩
 ·intro x hx
  rcases List.mem_cons.1 hx with rfl | hx
  ·refine ⟨by simp, .inr ⟨w.heap.size, _, _, rfl, st.ext.size, heap_alloc_new _ _, hge, hcm, ?_, ?_⟩⟩
   ·simp; omega
   rw [List.toList_toArray, Nat.mul_one, List.take_left' (by simp)]
  exact h1.ok x (List.mem_cons_of_mem _ hx)
 exact List.pairwise_cons.2 ⟨fun y hy b hb => (List.pairwise_cons.1 h1.apart).1 y hy b (by simpa [En.blk] using hb), (List.pairwise_cons.1 h1.apart).2⟩
theorem WL.append_make {z : Value} {bytes N : Nat} {t2 : TypeId} {k2 : IntKind} (st : St w0 w L) (hu : P.underlying t = some (.slice e)) (ht : P.underlying t2 = some (.int k2)) (he : ElemT P e z bytes) (hx : ev n l X = some (.slice none 0 0)) (hy : ev n l Y = some (.int k x)) (h0 : 0 < x) (hlim : x ≤ 1099511627776) (hb : bytes ≤ 128) (hN : N = x.toNat)
  (h : ∀ B c w', St w0 w' (.sl (some ⟨B, 0, none⟩) c N (List.replicate N z) e 1 :: L) → WL dl P ops Q rest n ((d, .slice (some ⟨B, 0, none⟩) N c) :: l) w') :
  WL dl P ops Q (⟨some d, .call { callee := .builtin .append, args := #[X, Y], argTypes := #[t, t2] }, ty, pos, af, none⟩ :: rest) n l w := by
 obtain ⟨w', B, c, ha, hs⟩ := act_append_make (ty := ty) st hu ht he hx hy h0 hlim hb hN
 exact WL.act .none ha (h B c w' hs)
theorem map_add_zero {A : Option Addr} : A = A.map (·.add 0) := by cases A <;> simp [Addr.add]
theorem add_add (a : Addr) (o p : Nat) : (a.add o).add p = a.add (o + p) := by
 unfold Addr.add
 by_cases e1 : o = 0 <;> by_cases e2 : p = 0 <;> simp [e1, e2, Nat.add_assoc]
theorem subA_map {A A' B : Option Addr} {o lo c N N' : Nat} (h : N' ≠ 0 → A' = A.map (·.add o)) (eB : B = subA A' lo c) (hne : N ≠ 0 → c ≠ lo ∧ N' ≠ 0) : N ≠ 0 → B = A.map (·.add (o + lo)) := fun hN => by
 obtain ⟨h1, h2⟩ := hne hN
 rw [eB, subA, if_neg h1, h h2]
 cases A <;> simp [add_add]
theorem Runs.slice_hp {A : Option Addr} {m c N : Nat} {hi : Operand} (hu : P.underlying t = some (.slice e)) (hs : P.cellsOf e = 1) (hx : ev n l X = some (.slice A m c)) (hh : ev n l hi = some (.int k' y)) (h0 : 0 ≤ y) (h2 : y ≤ c) (hN : y.toNat = N) : Runs P (.slice t X none (some hi) none) ty n l w (.slice A N c) :=
 Runs.slice_h hu hs hx hh h0 h2 (by
  unfold subA
  split
  ·rfl
  exact map_add_zero) hN.symm
theorem set_self {i : Nat} {x : En} (h : L[i]? = some x) : L.set i x = L := by
 apply List.ext_getElem?
 intro j
 rw [List.getElem?_set]
 split
 ·rename_i e; subst e
  split
  ·exact h.symm
  rw [List.getElem?_eq_none (by omega)]
 rfl
theorem act_copy_own {i o N M c m m2 c2 : Nat} {A B S : Option Addr} {xs ys : List Value} {t2 t3 : TypeId} (st : St w0 w L) (hk : L[i]? = some (.sl A c m xs e 1)) (hu : P.underlying t2 = some (.slice e)) (hs : P.cellsOf e = 1)
  (hx : ev n l X = some (.slice B N M)) (hy : ev n l Y = some (.slice S m2 c2)) (hB : N ≠ 0 → B = A.map (·.add o)) (hfit : o + N ≤ m) (hsrc : Src w S ys) (hm : m2 = ys.length) (h1 : ∀ v ∈ ys, v.oneCell' = true) :
  ∃ w', Acts P (.call { callee := .builtin .copy, args := #[X, Y], argTypes := #[t2, t3] }) ty n l w (.int .i64 (min ys.length N : Nat)) w' ∧ St w0 w' (L.set i (.sl A c m (cpy xs o N ys) e 1)) := by
 have ho := st.row hk
 rcases ho.2 with ⟨h', h0⟩ | ⟨g, cap, cur, hv, hb, hg, h3, h4, h5, h6⟩
 ·have hN : N = 0 := by omega
  subst hN
  have hc : cpy xs o 0 ys = xs := by simp [cpy]
  refine ⟨w, fun ρ d pos af g hρ => ?_, by rw [hc, set_self hk]; exact st⟩
  have e1 := hρ _ _ hx; have e2 := hρ _ _ hy
  have hs' : (P.info? e).map (·.size) = some 1 := by
   obtain ⟨i, hi, hz⟩ := info_of_cells hs (by decide)
   simp [hi, hz]
  have := run_copy_none (P := P) w t2 t3 ty e B S 0 M m2 c2 hu hs' (by simp)
  simp only [execOp, resolve, e1, e2, Deferred.ofValue, invoke, builtin, goInt] at this ⊢
  simp [e1, e2, this]
 simp only [Value.slice.injEq] at hv
 obtain ⟨rfl, _, rfl⟩ := hv
 exact act_copy_sl (ty := ty) st hk hu hs hx hy (fun h => by rw [hB h]; simp [add_blk]) hfit hsrc hm h1
section
variable {i o N M c m m2 c2 bk : Nat} {A B S : Option Addr} {xs ys : List Value} {t2 t3 T' : TypeId}
theorem WL.copy_sl (st : St w0 w L) (hk : L[i]? = some (.sl A c m xs e 1)) (hu : P.underlying t2 = some (.slice e)) (hs : P.cellsOf e = 1)
  (hx : ev n l X = some (.slice B N M)) (hy : ev n l Y = some (.slice S m2 c2)) (hB : N ≠ 0 → B = A.map (·.add o)) (hfit : o + N ≤ m) (hsrc : Src w S ys) (hm : m2 = ys.length) (h1 : ∀ v ∈ ys, v.oneCell' = true)
  (h : ∀ w', St w0 w' (L.set i (.sl A c m (cpy xs o N ys) e 1)) → WL dl P ops Q rest n ((d, .int .i64 (min ys.length N : Nat)) :: l) w') : WL dl P ops Q (⟨some d, .call { callee := .builtin .copy, args := #[X, Y], argTypes := #[t2, t3] }, ty, pos, af, none⟩ :: rest) n l w := by
 obtain ⟨w', ha, hst⟩ := act_copy_own (ty := ty) (t3 := t3) st hk hu hs hx hy hB hfit hsrc hm h1
 exact WL.act .none ha (h w' hst)
theorem WL.copy_cells (st : St w0 w L) (hk : L[i]? = some (.cells bk xs T')) (hu : P.underlying t2 = some (.slice e)) (hs : P.cellsOf e = 1)
  (hx : ev n l X = some (.slice B N M)) (hy : ev n l Y = some (.slice S m2 c2)) (hB : N ≠ 0 → B = (some ⟨bk, 0, none⟩ : Option Addr).map (·.add o)) (hfit : o + N ≤ xs.length) (hsrc : Src w S ys) (hm : m2 = ys.length) (h1 : ∀ v ∈ ys, v.oneCell' = true)
  (h : ∀ w', St w0 w' (L.set i (.cells bk (cpy xs o N ys) T')) → WL dl P ops Q rest n ((d, .int .i64 (min ys.length N : Nat)) :: l) w') : WL dl P ops Q (⟨some d, .call { callee := .builtin .copy, args := #[X, Y], argTypes := #[t2, t3] }, ty, pos, af, none⟩ :: rest) n l w := by
 obtain ⟨w', ha, hst⟩ := act_copy_cells (ty := ty) (t3 := t3) st hk hu hs hx hy (fun h => by rw [hB h]; simp [add_blk]) hfit hsrc hm h1
 exact WL.act .none ha (h w' hst)
end
theorem St.cell_mem {bk i : Nat} {T' : TypeId} {cs : List Value} (st : St w0 w L) (hk : En.cells bk cs T' ∈ L) {v : Value} (hi : cs[i]? = some v) : w.cell? ⟨bk, i, none⟩ = some v := by
 obtain ⟨j, hj⟩ := List.mem_iff_getElem?.1 hk
 exact st.cell hj hi
theorem iv_take (k : IntKind) (xs : List Int) (m : Nat) : (iv k xs).take m = iv k (xs.take m) := by simp [iv, List.map_take]
theorem AW.steps {fuel : Nat} {listed : Array Bool} (hne : Region.ready .any ops listed ≠ []) (h : ∀ j ∈ Region.ready .any ops listed, ∃ o, ops[j]? = some o ∧ WL dl P ops (AQ P ops Q fuel (listed.setIfInBounds j true)) [o] n l w) : AW dl P ops Q (fuel + 1) listed n l w := fun b hb hd => by
 refine ⟨fun h0 => absurd h0 hne, fun j hj => ?_⟩
 obtain ⟨o, hi, h0⟩ := h j hj
 have h1 := h0 b hb hd
 unfold wpOp
 simp only [hi]
 unfold wpList at h1
 split at h1
 ·rename_i hw
  rw [if_pos hw]
  rcases h1 with h1 | ⟨h1, h2⟩
  ·exact .inl (upon_post (fun c a w h => h) (fun a w h => h) h1)
  refine .inr ⟨h1, ?_⟩
  obtain ⟨a, w, q⟩ := h2
  exact ⟨a, w, q⟩
 rename_i hw
 rw [if_neg hw]
 exact h1
theorem AW.step2 {fuel : Nat} {listed : Array Bool} {o p : Oper} (i j : Nat) (hi : ops[i]? = some o) (hj : ops[j]? = some p) (hr : Region.ready .any ops listed = [i, j])
  (h1 : WL dl P ops (AQ P ops Q fuel (listed.setIfInBounds i true)) [o] n l w) (h2 : WL dl P ops (AQ P ops Q fuel (listed.setIfInBounds j true)) [p] n l w) : AW dl P ops Q (fuel + 1) listed n l w := by
 refine AW.steps (by rw [hr]; exact List.cons_ne_nil _ _) fun k hk => ?_
 rw [hr] at hk
 simp only [List.mem_cons, List.not_mem_nil, or_false] at hk
 rcases hk with rfl | rfl
 ·exact ⟨_, hi, h1⟩
 exact ⟨_, hj, h2⟩
theorem AW.step3 {fuel : Nat} {listed : Array Bool} {o p q : Oper} (i j k : Nat) (hi : ops[i]? = some o) (hj : ops[j]? = some p) (hk : ops[k]? = some q) (hr : Region.ready .any ops listed = [i, j, k])
  (h1 : WL dl P ops (AQ P ops Q fuel (listed.setIfInBounds i true)) [o] n l w) (h2 : WL dl P ops (AQ P ops Q fuel (listed.setIfInBounds j true)) [p] n l w) (h3 : WL dl P ops (AQ P ops Q fuel (listed.setIfInBounds k true)) [q] n l w) : AW dl P ops Q (fuel + 1) listed n l w := by
 refine AW.steps (by rw [hr]; exact List.cons_ne_nil _ _) fun m hm => ?_
 rw [hr] at hm
 simp only [List.mem_cons, List.not_mem_nil, or_false] at hm
 rcases hm with rfl | rfl | rfl
 ·exact ⟨_, hi, h1⟩
 ·exact ⟨_, hj, h2⟩
 exact ⟨_, hk, h3⟩
theorem bl_length (s : ByteArray) : s.size = (bl s).length := by simp [bl]
theorem WL.bytes {s : ByteArray} (st : St w0 w L) (hs : P.underlying t = some .string) (hd : P.underlying t' = some (.slice e)) (he : P.underlying e = some (.int .u8)) (hx : ev n l X = some (.string s))
  (h : ∀ (B c : Nat) (cs : List Value) (w' : World), s.size ≤ c → cs.length = c → cs.take s.size = iv .u8 (bl s) → St w0 w' (.obj B (.cells cs.toArray e (c, c + 1)) :: L) → WL dl P ops Q rest n ((d, .slice (some ⟨B, 0, none⟩) s.size c) :: l) w') :
  WL dl P ops Q (⟨some d, .convert t t' X, ty, pos, af, none⟩ :: rest) n l w := by
 obtain ⟨w', B, c, cs, ha, h1, h2, h3, h4⟩ := act_bytes (ty := ty) st hs hd he hx
 exact WL.act .none ha (h B c cs w' h1 h2 h3 h4)
end Go.Kr
