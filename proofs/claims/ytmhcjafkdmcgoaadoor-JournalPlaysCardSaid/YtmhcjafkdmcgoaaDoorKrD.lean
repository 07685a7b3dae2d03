/- Rules for operations that make memory, or write it. No program in sight. -/
import Derived.Test.YtmhcjafkdmcgoaaDoorKrC
import Derived.Great.BuildSlice
import Derived.Lib.AppendStr
import Derived.Laws.OwnMore
import Derived.Maps.AppendAt
namespace Go.Kr
open Go Go.RowKit
set_option linter.unusedVariables false
set_option linter.unusedSimpArgs false
variable {dl : List Deferred} {P : Program} {ops : Array Oper} {Q : Exit → Act → World → Prop} {rest : List Oper} {n : Nat} {l l' : Ov} {w w0 W : World}
variable {d : Nat} {ty t t' e : TypeId} {pos : String} {af : Array Edge} {g : Option (Nat × Bool)} {v : Value} {X Y Z : Operand} {k k' : IntKind} {x y z : Int} {L : List En}
def ElemT (P : Program) (e : TypeId) (z : Value) (bytes : Nat) : Prop := ∃ i, P.info? e = some i ∧ i.zero = some z ∧ i.size = 1 ∧ i.bytes = bytes ∧ z.cells = #[z] ∧ 0 < bytes
theorem ElemT.of {z : Value} {bytes : Nat} (h : (P.info? e).map (fun i => (i.zero, i.size, i.bytes)) = some (some z, 1, bytes)) (hz : z.cells = #[z]) (hb : 0 < bytes) : ElemT P e z bytes := by
 obtain ⟨i, hi, he⟩ := Option.map_eq_some_iff.1 h
 simp only [Prod.mk.injEq] at he
 exact ⟨i, hi, he.1, he.2.1, he.2.2, hz, hb⟩
theorem one_iv (k : IntKind) (xs : List Int) : ∀ u ∈ iv k xs, u.oneCell' = true := by
 intro u hu
 obtain ⟨x, _, rfl⟩ := List.mem_map.1 hu
 rfl
theorem iv_length (k : IntKind) (xs : List Int) : (iv k xs).length = xs.length := by simp [iv]
theorem iv_append (k : IntKind) (xs ys : List Int) : iv k xs ++ iv k ys = iv k (xs ++ ys) := by simp [iv]
theorem iv_replicate (k : IntKind) (m : Nat) : List.replicate m (Value.int k 0) = iv k (List.replicate m 0) := by simp [iv]
theorem iv_set (k : IntKind) (xs : List Int) (j : Nat) (x : Int) : (iv k xs).set j (.int k x) = iv k (xs.set j x) := by simp [iv, List.map_set]
theorem St.row (h : St w0 W L) {i : Nat} {A : Option Addr} {c m : Nat} {xs : List Value} {size : Nat} (hk : L[i]? = some (.sl A c m xs e size)) : W.ownsRow w0.heap.size e size (.slice A m c) m xs := h.ok _ (List.mem_of_getElem? hk)
theorem St.cap (h : St w0 W L) {i : Nat} {A : Option Addr} {c m : Nat} {xs : List Value} {size : Nat} (hk : L[i]? = some (.sl A c m xs e size)) : m ≤ c := by
 rcases (h.row hk).2 with ⟨h1, h2⟩ | ⟨g, cap, cur, hv, _, _, h3, _⟩
 ·omega
 cases hv; exact h3
theorem blk_sl {A : Option Addr} {c m : Nat} {xs : List Value} {size : Nat} : (En.sl A c m xs e size).blk = (Value.slice A m c).ownBlock := by cases A <;> rfl
theorem St.appended (h : St w0 W L) {i : Nat} {A : Option Addr} {c m : Nat} {xs : List Value} {size : Nat} (hk : L[i]? = some (.sl A c m xs e size)) {v' : Value} {W' : World} {m' : Nat} {ys : List Value}
  (ho : W'.ownsRow w0.heap.size e size v' m' ys) (hg : W.grownBy W' (Value.slice A m c).ownBlock) (hat : v'.ownBlock = (Value.slice A m c).ownBlock ∨ v'.ownBlock = some W.heap.size) :
  ∃ A' c', v' = .slice A' m' c' ∧ St w0 W' (L.set i (.sl A' c' m' ys e size)) := by
 obtain ⟨A', c', rfl⟩ : ∃ A' c', v' = .slice A' m' c' := by
  rcases ho.2 with ⟨rfl, h2⟩ | ⟨g, cap, cur, rfl, _⟩
  ·exact ⟨none, 0, by rw [h2]⟩
  exact ⟨_, cap, rfl⟩
 refine ⟨A', c', rfl, h.turn hk blk_sl hg ho ?_⟩
 intro b hb
 rw [blk_sl] at hb ⊢
 rcases hat with h1 | h1
 ·left; rw [← h1]; exact hb
 right; rw [hb] at h1; cases h1; exact Nat.le_refl _
theorem run_append_nilsrc (base : Nat) (t ty e : TypeId) (size : Nat) {z : Value} {bytes : Nat} (ht : P.underlying t = some (.slice e)) (he : ElemT P e z bytes) (A : Option Addr) (m c c2 : Nat) (hmc : m ≤ c) (w : World) :
  (Builtin.append_ #[t, t] ty #[.slice A m c, .slice none 0 c2]).run P w = .ok (.slice A m c) w := by
 obtain ⟨i, hi, _⟩ := he
 cases A <;> simp [Builtin.append_, run_underlying ht, sizeOf, typeInfo, hi, Builtin.lenOf, hmc, Builtin.firstCells, storeCells]
theorem WL.append {z : Value} {bytes i : Nat} {A B : Option Addr} {c m m' c2 N : Nat} {xs news : List Value} (hw : Wanted ops g n l true) (st : St w0 w L) (hk : L[i]? = some (.sl A c m xs e 1)) (hu : P.underlying t = some (.slice e)) (he : ElemT P e z bytes)
  (hx : ev n l X = some (.slice A m c)) (hy : ev n l Y = some (.slice B m' c2)) (hs : Src w B news) (hl : news.length = m') (h1 : ∀ u ∈ news, u.oneCell' = true) (hb : bytes ≤ 128) (hN : m + m' = N) (hlim : N ≤ 1099511627776)
  (h : ∀ A' c' w', St w0 w' (L.set i (.sl A' c' N (xs ++ news) e 1)) → WL dl P ops Q rest n ((d, .slice A' N c') :: l) w') :
  WL dl P ops Q (⟨some d, .call { callee := .builtin .append, args := #[X, Y], argTypes := #[t, t] }, ty, pos, af, g⟩ :: rest) n l w := by
 subst hN
 refine WL.go hw fun b hb' hd K hK => ?_
 have e1 := ev_sound (b := b) hb' hx; have e2 := ev_sound (b := b) hb' hy
 have ho := st.row hk
 obtain ⟨ii, hi, hz, hsz, hby, hzc, hpos⟩ := he
 cases B with
 | none =>
  have hn : news = [] := by
   cases news with
   | nil => rfl
   | cons a r => obtain ⟨a, ha, _⟩ := hs 0 _ (by simp; rfl); cases ha
  subst hn
  obtain rfl : m' = 0 := by simpa using hl.symm
  have hr := run_append_nilsrc (P := P) 0 t ty e 1 hu ⟨ii, hi, hz, hsz, hby, hzc, hpos⟩ A m c c2 (st.cap hk) w
  unfold Oper.wp execOp
  simp only [resolve, invoke, builtin, Sem.run_bind, Sem.run_pure, Result.andThen_ok, List.map_toArray, List.map_cons, List.map_nil, e1, e2, hr, Oper.upon_value]
  obtain ⟨A', c', hv, hst⟩ := st.appended hk (v' := .slice A m c) (W' := w) (m' := m) (ys := xs ++ []) (by simpa using ho) ⟨rfl, rfl, rfl, Nat.le_refl _, fun _ _ _ => rfl⟩ (.inl rfl)
  cases hv
  exact hK _ _ (h A c w (by simpa using hst) b hb' hd)
 | some a =>
  obtain ⟨v', w', hr, ho', hg, _, hat⟩ := run_append_own_at (P := P) w w0.heap.size t ty e ii z 1 bytes hu hi hz hsz hby (by rw [hzc]; rfl) (by omega) (.slice A m c) m xs ho a m' c2 news (by omega)
   (fun j u hu' => by obtain ⟨a', ha', hc'⟩ := hs j u hu'; cases ha'; exact hc') h1 (by simp only [maxLen]; omega) (Nat.le_trans (Nat.mul_le_mul_left _ hb) (by omega)) st.ext.size
  unfold Oper.wp execOp
  simp only [resolve, invoke, builtin, Sem.run_bind, Sem.run_pure, Result.andThen_ok, List.map_toArray, List.map_cons, List.map_nil, e1, e2, hr, Oper.upon_value]
  obtain ⟨A', c', rfl, hst⟩ := st.appended hk ho' hg hat
  exact hK _ _ (h A' c' w' hst b hb' hd)
def pev (n : Nat) (l : Ov) : List (Nat × Operand) → Option (List (Nat × Value))
  | [] => some []
  | (i, x) :: xs => match ev n l x, pev n l xs with
    | some v, some vs => some ((i, v) :: vs)
    | _, _ => none
theorem pev_sound {ρ : Operand → Value} (hρ : ∀ x u, ev n l x = some u → ρ x = u) : ∀ {xs : List (Nat × Operand)} {vs : List (Nat × Value)}, pev n l xs = some vs → xs.map (fun (i, x) => (i, ρ x)) = vs
  | [], vs, h => by simp [pev] at h; subst h; rfl
  | (i, x) :: xs, vs, h => by
    simp only [pev] at h
    cases h1 : ev n l x with
    | none => simp [h1] at h
    | some v =>
      cases h2 : pev n l xs with
      | none => simp [h1, h2] at h
      | some vs' =>
        simp [h1, h2] at h
        subst h
        show (i, ρ x) :: _ = _
        rw [hρ x v h1, pev_sound hρ h2]
theorem St.new_sl (st : St w0 w L) (cs : List Value) (e : TypeId) (h : cs.length ≤ 1099511627776) : St w0 (w.alloc (.cells cs.toArray e)) (.sl (some ⟨w.heap.size, 0, none⟩) cs.length cs.length cs e 1 :: L) := by
 have h1 := st.alloc cs e
 refine ⟨h1.ext, ?_, ?_⟩
 ·intro x hx
  rcases List.mem_cons.1 hx with rfl | hx
  ·have := World.ownsRow_lit (base := w0.heap.size) (e := e) (size := 1) w cs.toArray cs.length st.ext.size (by simp only [maxLen]; omega) (by simp)
   simpa [En.ok] using this
  exact h1.ok x (List.mem_cons_of_mem _ hx)
 exact List.pairwise_cons.2 ⟨fun y hy b hb => (List.pairwise_cons.1 h1.apart).1 y hy b (by simpa [En.blk] using hb), (List.pairwise_cons.1 h1.apart).2⟩
theorem WL.buildSl {m : Nat} {z : Value} {bytes : Nat} {parts : List (Nat × Operand)} (vs : List Value) (st : St w0 w L) (hu : P.underlying t = some (.slice e)) (he : ElemT P e z bytes)
  (hp : pev n l parts = some ((vs.zipIdx 0).map fun x => (x.2, x.1))) (hm : vs.length = m) (hm0 : m ≠ 0) (hlim : m ≤ 65536) (h1 : ∀ v ∈ vs, v.cells = #[v])
  (h : ∀ B w', St w0 w' (.sl (some ⟨B, 0, none⟩) m m vs e 1 :: L) → WL dl P ops Q rest n ((d, .slice (some ⟨B, 0, none⟩) m m) :: l) w') :
  WL dl P ops Q (⟨some d, .buildSlice t m parts.toArray, ty, pos, af, none⟩ :: rest) n l w := by
 refine WL.go .none fun b hb' hd K hK => ?_
 obtain ⟨ii, hi, hz, hsz, hby, hzc, hpos⟩ := he
 have hps := pev_sound (ρ := (ov b l).eval) (fun x u hx => ev_sound hb' hx) hp
 have hr := run_buildSlice (P := P) w t e m (parts.toArray.map fun (i, x) => (i, (ov b l).eval x)) vs.toArray ii z hu hi hz (by rw [hsz]; omega) (by rw [hsz]; omega) (by
  rw [Array.toList_map, List.toList_toArray]
  rw [show List.map (fun x => match x with | (i, x) => (i, (ov b l).eval x)) parts = List.map (fun x => (x.2, x.1)) (vs.zipIdx 0) from hps]
  rw [hsz]
  exact Great.fill_flat _ _ h1 (by simp [hm]))
 unfold Oper.wp execOp
 simp only [Sem.run_bind, hr, Result.andThen_ok, Sem.run_pure, Oper.upon_value]
 have := st.new_sl vs e (by omega)
 rw [hm] at this
 exact hK _ _ (h _ _ this b hb' hd)
theorem WL.buildSl0 {z : Value} {bytes : Nat} (st : St w0 w L) (hu : P.underlying t = some (.slice e)) (he : ElemT P e z bytes)
  (h : ∀ B w', St w0 w' (.sl (some ⟨B, 0, none⟩) 0 0 [] e 1 :: L) → WL dl P ops Q rest n ((d, .slice (some ⟨B, 0, none⟩) 0 0) :: l) w') :
  WL dl P ops Q (⟨some d, .buildSlice t 0 #[], ty, pos, af, none⟩ :: rest) n l w := by
 refine WL.go .none fun b hb' hd K hK => ?_
 obtain ⟨ii, hi, hz, hsz, hby, hzc, hpos⟩ := he
 have hr : (Instr.buildSlice t 0 #[]).run P w = .ok (.slice (some ⟨w.heap.size, 0, none⟩) 0 0) (w.alloc (.cells #[] e)) := by
  simp [Instr.buildSlice, run_underlying hu, sizeOf, typeInfo, hi, Instr.fill, newRow, Array.range_zero']
 unfold Oper.wp execOp
 simp only [Sem.run_bind, Array.map_empty, hr, Result.andThen_ok, Sem.run_pure, Oper.upon_value]
 exact hK _ _ (h _ _ (st.new_sl [] e (by simp)) b hb' hd)
theorem WL.make {z : Value} {bytes N : Nat} {k k' : IntKind} (st : St w0 w L) (hu : P.underlying t = some (.slice e)) (he : ElemT P e z bytes) (hx : ev n l X = some (.int k x)) (hy : ev n l Y = some (.int k' x)) (h0 : 0 ≤ x) (hlim : x ≤ 1099511627776) (hb : bytes ≤ 128) (hN : N = x.toNat)
  (h : ∀ B w', St w0 w' (.sl (some ⟨B, 0, none⟩) N N (List.replicate N z) e 1 :: L) → WL dl P ops Q rest n ((d, .slice (some ⟨B, 0, none⟩) N N) :: l) w') :
  WL dl P ops Q (⟨some d, .makeSlice t X Y, ty, pos, af, none⟩ :: rest) n l w := by
 subst hN
 refine WL.go .none fun b hb' hd K hK => ?_
 have e1 := ev_sound (b := b) hb' hx; have e2 := ev_sound (b := b) hb' hy
 obtain ⟨ii, hi, hz, hsz, hby, hzc, hpos⟩ := he
 have hbb : (ii.bytes : Int) * x ≤ 281474976710656 := by
  have : (ii.bytes : Int) ≤ 128 := by rw [hby]; exact_mod_cast hb
  calc (ii.bytes : Int) * x ≤ 128 * x := Int.mul_le_mul_of_nonneg_right this h0
   _ ≤ 281474976710656 := by omega
 have hr := run_make (P := P) w t e ii z hu hi hz k k' x x h0 (Int.le_refl _) hbb (by omega)
 rw [hsz, hzc, Nat.mul_one] at hr
 unfold Oper.wp execOp
 simp only [Sem.run_bind, e1, e2, hr, Result.andThen_ok, Sem.run_pure, Oper.upon_value]
 have := st.new_sl (List.replicate x.toNat z) e (by simp; omega)
 rw [List.length_replicate, ← toList_madeCells_one, Array.toArray_toList] at this
 rw [← toList_madeCells_one] at h
 exact hK _ _ (h _ _ this b hb' hd)
def ZeroT (P : Program) (e : TypeId) (cs : List Value) : Prop := ∃ i z, P.info? e = some i ∧ i.zero = some z ∧ z.cells = cs.toArray
theorem ZeroT.of {cs : List Value} (h : ((P.info? e).bind (·.zero)).map (·.cells) = some cs.toArray) : ZeroT P e cs := by
 obtain ⟨z, hz, hc⟩ := Option.map_eq_some_iff.1 h
 obtain ⟨i, hi, hzz⟩ := Option.bind_eq_some_iff.1 hz
 exact ⟨i, z, hi, hzz, hc⟩
theorem WL.alloc {cs : List Value} (st : St w0 w L) (hz : ZeroT P e cs)
  (h : ∀ B w', St w0 w' (.cells B cs e :: L) → WL dl P ops Q rest n ((d, .pointer (some ⟨B, 0, none⟩)) :: l) w') :
  WL dl P ops Q (⟨some d, .alloc e, ty, pos, af, none⟩ :: rest) n l w := by
 refine WL.go .none fun b hb' hd K hK => ?_
 obtain ⟨i, z, hi, hzz, hc⟩ := hz
 have hr : (Instr.alloc e true (.tuple #[])).run P w = .ok (.pointer (some ⟨w.heap.size, 0, none⟩)) (w.alloc (.cells cs.toArray e)) := by
  simp [Instr.alloc, zeroValue, typeInfo, hi, hzz, newVar, newRow, hc]
 unfold Oper.wp execOp
 simp only [Sem.run_bind, hr, Result.andThen_ok, Sem.run_pure, Oper.upon_value]
 exact hK _ _ (h _ _ (st.alloc cs e) b hb' hd)
theorem WL.box {v : Value} {cs : List Value} (st : St w0 w L) (hx : ev n l X = some v) (hc : v.cells = cs.toArray)
  (h : ∀ B w', St w0 w' (.cells B cs e :: L) → WL dl P ops Q rest n ((d, .pointer (some ⟨B, 0, none⟩)) :: l) w') :
  WL dl P ops Q (⟨some d, .box e X, ty, pos, af, none⟩ :: rest) n l w := by
 refine WL.go .none fun b hb' hd K hK => ?_
 have e1 := ev_sound (b := b) hb' hx
 have hr : (Instr.box e v).run P w = .ok (.pointer (some ⟨w.heap.size, 0, none⟩)) (w.alloc (.cells cs.toArray e)) := by
  simp [Instr.box, newVar, newRow, hc]
 unfold Oper.wp execOp
 simp only [Sem.run_bind, e1, hr, Result.andThen_ok, Sem.run_pure, Oper.upon_value]
 exact hK _ _ (h _ _ (st.alloc cs e) b hb' hd)
theorem run_store_one {b j : Nat} {v : Value} (hsz : P.cellsOf t = 1) (h1 : v.oneCell' = true) {c : Value} (hc : w.cell? ⟨b, j, none⟩ = some c) (hf : w.frozen? ⟨b, j, none⟩ = false) :
  (Instr.storeAt t (.pointer (some ⟨b, j, none⟩)) v).run P w = .ok () (w.setCell ⟨b, j, none⟩ v) := by
 obtain ⟨i, hi, hz⟩ := info_of_cells hsz (by decide)
 have hcs : v.cells = #[v] := by cases v <;> first | rfl | (simp [Value.oneCell'] at h1)
 have h2 : (store ⟨b, j, none⟩ v).run P w = .ok () (w.setCell ⟨b, j, none⟩ v) := by
  cases v <;> simp [Value.oneCell'] at h1 <;> simp [store, Sem.run, hc, hf]
 simp [Instr.storeAt, Instr.sureAddr, storeVar, hcs, sizeOf, typeInfo, hi, hz, storeCells, Addr.add, h2]
theorem WL.store_sl {i j c m : Nat} {A : Option Addr} {a : Addr} {xs : List Value} {v : Value} (st : St w0 w L) (hk : L[i]? = some (.sl A c m xs e 1)) (hsz : P.cellsOf t = 1) (hx : ev n l X = some (.pointer (some (a.add j)))) (hA : A = some a) (hj : j < xs.length) (hy : ev n l Y = some v) (h1 : v.oneCell' = true)
  (h : ∀ w', St w0 w' (L.set i (.sl A c m (xs.set j v) e 1)) → WL dl P ops Q rest n l w') : WL dl P ops Q (⟨none, .store t X Y, ty, pos, af, none⟩ :: rest) n l w := by
 refine WL.go .none fun b hb' hd K hK => ?_
 have e1 := ev_sound (b := b) hb' hx; have e2 := ev_sound (b := b) hb' hy
 have ho := st.row hk
 subst hA
 obtain ⟨g, rfl⟩ : ∃ g, a = ⟨g, 0, none⟩ := by
  rcases ho.2 with ⟨h', _⟩ | ⟨g, cap, cur, h', _⟩
  ·simp at h'
  simp only [Value.slice.injEq, Option.some.injEq] at h'; exact ⟨g, h'.1⟩
 rw [add_plain, Nat.zero_add] at e1
 have hl := ho.1
 have hc := ho.cellAt j (by omega)
 rw [List.getElem?_eq_getElem hj] at hc
 have hr := run_store_one (P := P) hsz h1 hc (ho.frozenAt j)
 obtain ⟨hs1, hs2⟩ := ho.stored j v
 unfold Oper.wp execOp
 simp only [Sem.run_bind, e1, e2, hr, Result.andThen_ok, Sem.run_pure, Oper.upon_skip]
 exact hK _ _ (h _ (st.turn hk (row := some g) rfl hs2 hs1 (fun b hb => .inl hb)) b hb' hd)
theorem WL.store_cells {i j bk : Nat} {T : TypeId} {cs : List Value} {v : Value} (st : St w0 w L) (hk : L[i]? = some (.cells bk cs T)) (hsz : P.cellsOf t = 1) (hx : ev n l X = some (.pointer (some ⟨bk, j, none⟩))) (hj : j < cs.length) (hy : ev n l Y = some v) (h1 : v.oneCell' = true)
  (h : ∀ w', St w0 w' (L.set i (.cells bk (cs.set j v) T)) → WL dl P ops Q rest n l w') : WL dl P ops Q (⟨none, .store t X Y, ty, pos, af, none⟩ :: rest) n l w := by
 refine WL.go .none fun b hb' hd K hK => ?_
 have e1 := ev_sound (b := b) hb' hx; have e2 := ev_sound (b := b) hb' hy
 have ho := st.ok _ (List.mem_of_getElem? hk)
 have hc := st.cell hk (List.getElem?_eq_getElem hj)
 have hr := run_store_one (P := P) hsz h1 hc (frozen_of_row w bk j _ T ho.2)
 unfold Oper.wp execOp
 simp only [Sem.run_bind, e1, e2, hr, Result.andThen_ok, Sem.run_pure, Oper.upon_skip]
 have hh := heap_setCell_same w bk j cs.toArray T v ho.2
 refine hK _ _ (h _ (st.turn (W' := w.setCell ⟨bk, j, none⟩ v) hk (row := some bk) rfl ⟨rfl, rfl, rfl, by simp [World.setCell], fun k _ hk => heap_setCell_other w ⟨bk, j, none⟩ k v (fun e => hk (by simp [e]))⟩ ⟨ho.1, ?_⟩ (fun b hb => .inl hb)) b hb' hd)
 rw [hh]
 simp
def subA (A : Option Addr) (l c : Nat) : Option Addr := if c = l then A else A.map (·.add l)
def prt {α : Type} (xs : List α) (lo hi : Int) : List α := (xs.drop lo.toNat).take (hi.toNat - lo.toNat)
theorem prt_length {α : Type} {xs : List α} {lo hi : Int} (h0 : 0 ≤ lo) (h1 : lo ≤ hi) (h2 : hi ≤ xs.length) : (prt xs lo hi).length = hi.toNat - lo.toNat := by
 simp [prt]; omega
theorem prt_iv (k : IntKind) (xs : List Int) (lo hi : Int) : prt (iv k xs) lo hi = iv k (prt xs lo hi) := by simp [prt, iv, List.map_drop, List.map_take]
theorem Src.sub {A : Option Addr} {vs : List Value} (h : Src W A vs) {lo hi : Int} {c : Nat} (h0 : 0 ≤ lo) (h1 : lo ≤ hi) (h2 : hi ≤ c) : Src W (subA A lo.toNat c) (prt vs lo hi) := fun j v hv => by
 unfold prt at hv
 rw [List.getElem?_take] at hv
 split at hv
 ·rename_i hj
  rw [List.getElem?_drop] at hv
  obtain ⟨a, ha, hc⟩ := h _ v hv
  have hne : ¬ c = lo.toNat := by omega
  refine ⟨a.add lo.toNat, by simp [subA, hne, ha], ?_⟩
  have : (a.add lo.toNat).add j = a.add (lo.toNat + j) := by
   unfold Addr.add
   by_cases e1 : lo.toNat = 0 <;> by_cases e2 : j = 0 <;> simp [e1, e2, Nat.add_assoc]
  rw [this]; exact hc
 cases hv
theorem Src.sub_iv {A : Option Addr} {xs : List Int} (h : Src W A (iv k xs)) {lo hi : Int} {c : Nat} (h0 : 0 ≤ lo) (h1 : lo ≤ hi) (h2 : hi ≤ c) {B : Option Addr} (hB : B = subA A lo.toNat c) : Src W B (iv k (prt xs lo hi)) := by
 rw [hB, ← prt_iv]; exact h.sub h0 h1 h2
theorem nil_of_src {xs : List Int} {k : IntKind} (h : Src W none (iv k xs)) : xs = [] := by
 cases xs with
 | nil => rfl
 | cons x xs =>
  obtain ⟨a, ha, _⟩ := h 0 (.int k x) rfl
  cases ha
theorem cellsOf_elem (hu : P.underlying t = some (.slice e)) : P.elem t = e := by simp [Program.elem, hu]
section
variable {A B : Option Addr} {m c N M : Nat} (hu : P.underlying t = some (.slice e)) (hs : P.cellsOf e = 1) (hx : ev n l X = some (.slice A m c))
include hu hs hx
theorem Runs.slice_lh {lo hi : Operand} (hl : ev n l lo = some (.int k x)) (hh : ev n l hi = some (.int k' y)) (h0 : 0 ≤ x) (h1 : x ≤ y) (h2 : y ≤ c) (hB : B = subA A x.toNat c) (hN : N = y.toNat - x.toNat) (hM : M = c - x.toNat) : Runs P (.slice t X (some lo) (some hi) none) ty n l w (.slice B N M) := fun ρ _ _ _ _ hρ => by
 have e1 := hρ _ _ hx; have e2 := hρ _ _ hl; have e3 := hρ _ _ hh
 obtain ⟨i, hi', hz⟩ := info_of_cells hs (by decide)
 have ht : P.underlying t = some (.slice (P.elem t)) := by rw [cellsOf_elem hu]; exact hu
 subst hB; subst hN; subst hM
 simp only [execOp, e1, e2, e3, Option.map_some, Option.map_none, Sem.run_bind, run_sliceAt_slice w t _ _ _ _ ht, run_slice_lh w t A m c ht k k' x y h0 h1 h2, sizeOf, typeInfo, cellsOf_elem hu]
 simp [hi', hz, sliced, subA]
theorem Runs.slice_h {hi : Operand} (hh : ev n l hi = some (.int k' y)) (h0 : 0 ≤ y) (h2 : y ≤ c) (hB : B = subA A 0 c) (hN : N = y.toNat) : Runs P (.slice t X none (some hi) none) ty n l w (.slice B N c) := fun ρ _ _ _ _ hρ => by
 have e1 := hρ _ _ hx; have e3 := hρ _ _ hh
 obtain ⟨i, hi', hz⟩ := info_of_cells hs (by decide)
 have ht : P.underlying t = some (.slice (P.elem t)) := by rw [cellsOf_elem hu]; exact hu
 subst hB; subst hN
 simp only [execOp, e1, e3, Option.map_some, Option.map_none, Sem.run_bind, run_sliceAt_slice w t _ _ _ _ ht, run_slice_h w t A m c ht k' y h0 h2, sizeOf, typeInfo, cellsOf_elem hu]
 simp [hi', hz, sliced, subA]
theorem Runs.slice_l {lo : Operand} (hl : ev n l lo = some (.int k x)) (h0 : 0 ≤ x) (h1 : x ≤ m) (hB : B = subA A x.toNat c) (hN : N = m - x.toNat) (hM : M = c - x.toNat) : Runs P (.slice t X (some lo) none none) ty n l w (.slice B N M) := fun ρ _ _ _ _ hρ => by
 have e1 := hρ _ _ hx; have e2 := hρ _ _ hl
 obtain ⟨i, hi', hz⟩ := info_of_cells hs (by decide)
 have ht : P.underlying t = some (.slice (P.elem t)) := by rw [cellsOf_elem hu]; exact hu
 subst hB; subst hN; subst hM
 simp only [execOp, e1, e2, Option.map_some, Option.map_none, Sem.run_bind, run_sliceAt_slice w t _ _ _ _ ht, run_slice_l w t A m c ht k x h0 h1, sizeOf, typeInfo, cellsOf_elem hu]
 simp [hi', hz, sliced, subA]
end
end Go.Kr
