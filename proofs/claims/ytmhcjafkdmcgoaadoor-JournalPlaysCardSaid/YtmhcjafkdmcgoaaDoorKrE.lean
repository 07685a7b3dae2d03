/- Arrays of numbers: in memory and as values. No program in sight. -/
import Derived.Test.YtmhcjafkdmcgoaaDoorKrD
import Derived.Laws.Tables
import Derived.Laws.Rows
import Derived.Laws.StructEq
import Derived.Laws.Slices
namespace Go.Kr
open Go Go.RowKit
set_option linter.unusedVariables false
set_option linter.unusedSimpArgs false
variable {dl : List Deferred} {P : Program} {ops : Array Oper} {Q : Exit → Act → World → Prop} {rest : List Oper} {n : Nat} {l l' : Ov} {w w0 : World}
variable {d : Nat} {ty t t' e : TypeId} {pos : String} {af : Array Edge} {g : Option (Nat × Bool)} {v : Value} {X Y Z : Operand} {k k' : IntKind} {x y z : Int} {L : List En}
def ArrT (P : Program) (t : TypeId) (m : Nat) (e : TypeId) (k : IntKind) : Prop :=
 P.underlying t = some (.array m e) ∧ P.underlying e = some (.int k) ∧ P.cellsOf e = 1 ∧ (P.info? t).map (·.size) = some m ∧ ∃ i z, P.info? t = some i ∧ i.zero = some z ∧ z.cells = (iv k (List.replicate m 0)).toArray
theorem iv_zero (k : IntKind) (m : Nat) : (iv k (List.replicate m 0)).toArray = Array.replicate m (.int k 0) := by simp [iv]
theorem ArrT.of {m : Nat} (hu : P.underlying t = some (.array m e)) (he : P.underlying e = some (.int k)) (hc : P.cellsOf e = 1) (hs : (P.info? t).map (·.size) = some m)
  (hz : ((P.info? t).bind (·.zero)).map (·.cells) = some (Array.replicate m (.int k 0))) : ArrT P t m e k := by
 obtain ⟨z, hz, hc2⟩ := Option.map_eq_some_iff.1 hz
 obtain ⟨i, hi, hzz⟩ := Option.bind_eq_some_iff.1 hz
 exact ⟨hu, he, hc, hs, i, z, hi, hzz, by rw [hc2, iv_zero]⟩
theorem ArrT.zero {m : Nat} (h : ArrT P t m e k) : ZeroT P t (iv k (List.replicate m 0)) := by
 obtain ⟨_, _, _, _, i, z, h1, h2, h3⟩ := h
 exact ⟨i, z, h1, h2, h3⟩
theorem ArrT.size {m : Nat} (h : ArrT P t m e k) {xs : List Int} (hl : xs.length = m) : (P.info? t).map (·.size) = some (iv k xs).toArray.size := by
 rw [h.2.2.2.1]; simp [iv, hl]
theorem St.blk (st : St w0 w L) {i bk : Nat} {T : TypeId} {cs : List Value} (hk : L[i]? = some (.cells bk cs T)) : w.heap[bk]? = some (.cells cs.toArray T (0, 0)) := (st.ok _ (List.mem_of_getElem? hk)).2
theorem Runs.indexAddr_arr {a : Addr} {m : Nat} (ht : ArrT P t m e k) (hx : ev n l X = some (.pointer (some a))) (hy : ev n l Y = some (.int k' y)) (h0 : 0 ≤ y) (h1 : y < m) {o : Nat} (ho : o = y.toNat) :
  Runs P (.indexAddr t X Y) ty n l w (.pointer (some (a.add o))) := fun ρ _ _ _ _ hρ => by
 have e1 := hρ _ _ hx; have e2 := hρ _ _ hy; subst ho
 obtain ⟨hu, he, hc, hs, _⟩ := ht
 obtain ⟨i, hi, hz⟩ := info_of_cells hc (by decide)
 simp [execOp, e1, e2, Instr.indexAt, Instr.sureAddr, asIntOf, run_underlying hu, h0, h1, sizeOf, typeInfo, hi, hz]
theorem add_blk (bk o : Nat) : (⟨bk, 0, none⟩ : Addr).add o = ⟨bk, o, none⟩ := by rw [add_plain, Nat.zero_add]
theorem Runs.indexAddr_blk {bk m : Nat} (ht : ArrT P t m e k) (hx : ev n l X = some (.pointer (some ⟨bk, 0, none⟩))) (hy : ev n l Y = some (.int k' y)) (h0 : 0 ≤ y) (h1 : y < m) {o : Nat} (ho : o = y.toNat) :
  Runs P (.indexAddr t X Y) ty n l w (.pointer (some ⟨bk, o, none⟩)) := by
 rw [← add_blk bk o]; exact Runs.indexAddr_arr ht hx hy h0 h1 ho
theorem Runs.indexAddr_glob {bk m : Nat} (ht : ArrT P t m e k) (hy : ev n l Y = some (.int k' y)) (h0 : 0 ≤ y) (h1 : y < m) {o : Nat} (ho : o = y.toNat) :
 Runs P (.indexAddr t (.global bk) Y) ty n l w (.pointer (some ((⟨bk, 0, none⟩ : Addr).add o))) := Runs.indexAddr_arr ht rfl hy h0 h1 ho
theorem St.cell_iv (st : St w0 w L) {i bk j : Nat} {T : TypeId} {xs : List Int} (hk : L[i]? = some (.cells bk (iv k xs) T)) (hj : j < xs.length) : w.cell? ⟨bk, j, none⟩ = some (.int k (gn xs j)) :=
 st.cell hk (iv_get hj)
theorem Runs.load_arr {bk m : Nat} {T : TypeId} {xs : List Int} (ht : ArrT P t m e k) (hx : ev n l X = some (.pointer (some ⟨bk, 0, none⟩))) (hc : w.heap[bk]? = some (.cells (iv k xs).toArray T (0, 0))) (hl : xs.length = m) :
  Runs P (.load t X) ty n l w (.agg (iv k xs).toArray) := fun ρ _ _ _ _ hρ => by
 have e1 := hρ _ _ hx
 have := run_loadVar_row (P := P) w bk T t _ (0, 0) _ hc ht.1 rfl (ht.size hl)
 simp [execOp, e1, Instr.loadAt, Instr.sureAddr, this]
theorem all_one_iv (k : IntKind) (xs : List Int) : ((iv k xs).toArray).all (·.oneCell') = true := by
 rw [Array.all_eq_true_iff_forall_mem]
 intro u hu
 exact one_iv k xs u (by simpa using hu)
theorem WL.store_arr {i bk m : Nat} {T : TypeId} {cs : List Value} {xs : List Int} (st : St w0 w L) (hk : L[i]? = some (.cells bk cs T)) (ht : ArrT P t m e k) (hx : ev n l X = some (.pointer (some ⟨bk, 0, none⟩))) (hcs : cs.length = m) (hl : xs.length = m)
  (hy : ev n l Y = some (.agg (iv k xs).toArray))
  (h : ∀ w', St w0 w' (L.set i (.cells bk (iv k xs) T)) → WL dl P ops Q rest n l w') : WL dl P ops Q (⟨none, .store t X Y, ty, pos, af, none⟩ :: rest) n l w := by
 refine WL.go .none fun b hb' hd K hK => ?_
 have e1 := ev_sound (b := b) hb' hx; have e2 := ev_sound (b := b) hb' hy
 have ho := st.ok _ (List.mem_of_getElem? hk)
 have hr := run_storeVar_row (P := P) w bk T t cs.toArray (iv k xs).toArray ho.2 (ht.size hl) (by simp [iv, hcs, hl]) (all_one_iv k xs)
 unfold Oper.wp execOp
 simp only [Sem.run_bind, e1, e2, Instr.storeAt, Instr.sureAddr, Sem.run_pure, Result.andThen_ok, hr, Oper.upon_skip]
 refine hK _ _ (h _ (st.turn (W' := w.setRow bk (iv k xs).toArray) hk (row := some bk) rfl ⟨rfl, rfl, rfl, by simp, fun j _ hj => setRow_other w bk j _ (fun e => hj (by simp [e]))⟩ ⟨ho.1, ?_⟩ (fun b hb => .inl hb)) b hb' hd)
 exact setRow_heap w bk _ _ T _ ho.2
theorem run_part_iv {xs : List Int} {j : Nat} (he : P.underlying e = some (.int k')) (hj : j < xs.length) (w : World) : (part e (iv k xs).toArray j).run P w = .ok (.int k (gn xs j)) w := by
 simp [part, isAgg, run_underlying he, iv_get hj]
theorem Runs.index_arr {m : Nat} {xs : List Int} (ht : ArrT P t m e k) (hx : ev n l X = some (.agg (iv k xs).toArray)) (hl : xs.length = m) (hy : ev n l Y = some (.int k' y)) (h0 : 0 ≤ y) (h1 : y < m) {j : Nat} (hj : j = y.toNat) :
  Runs P (.index t X Y) ty n l w (.int k (gn xs j)) := fun ρ _ _ _ _ hρ => by
 have e1 := hρ _ _ hx; have e2 := hρ _ _ hy; subst hj
 obtain ⟨hu, he, hc, hs, _⟩ := ht
 obtain ⟨i, hi, hz⟩ := info_of_cells hc (by decide)
 have hp := run_part_iv (P := P) (k := k) (xs := xs) (j := y.toNat) he (by omega) w
 simp [execOp, e1, e2, Instr.index, asIntOf, run_underlying hu, h0, h1, sizeOf, typeInfo, hi, hz, hp]
def fillL : List Value → List (Nat × Value) → List Value
 | cs, [] => cs
 | cs, (i, v) :: ps => fillL (cs.set i v) ps
def okParts (m : Nat) : List (Nat × Value) → Bool
 | [] => true
 | (i, v) :: ps => decide (i < m) && v.oneCell' && okParts m ps
theorem fill_ok : ∀ (ps : List (Nat × Value)) (cs : List Value) (m : Nat), cs.length = m → okParts m ps = true → Instr.fill (fun i => some (i * 1, 1)) cs.toArray ps = some (fillL cs ps).toArray
  | [], cs, m, _, _ => rfl
  | (i, v) :: ps, cs, m, hl, ho => by
    simp only [okParts, Bool.and_eq_true, decide_eq_true_eq] at ho
    have hcs : v.cells = #[v] := by have h1 := ho.1.2; cases v <;> first | rfl | (simp [Value.oneCell'] at h1)
    have h1 : ¬ (i * 1 + 1 > cs.toArray.size) := by simp; omega
    have ih := fill_ok ps (cs.set i v) m (by simpa using hl) ho.2
    unfold Instr.fill
    simp only [hcs]
    rw [if_neg (by simp; omega)]
    have : (#[v].zipIdx.foldl (fun cs (c, j) => cs.setIfInBounds (i * 1 + j) c) cs.toArray) = (cs.set i v).toArray := by simp
    rw [this, ih]
    rfl
theorem Runs.build_arr {m : Nat} {parts : List (Nat × Operand)} {vs : List (Nat × Value)} {xs : List Int} (ht : ArrT P t m e k) (hp : pev n l parts = some vs) (ho : okParts m vs = true) (hf : fillL (iv k (List.replicate m 0)) vs = iv k xs) :
  Runs P (.build t parts.toArray) ty n l w (.agg (iv k xs).toArray) := fun ρ _ _ _ _ hρ => by
 have e1 := pev_sound hρ hp
 obtain ⟨hu, he, hc, hs, i, z, hi, hz, hzc⟩ := ht
 obtain ⟨ie, hie, hze⟩ := info_of_cells hc (by decide)
 have hb : P.built t vs = some (iv k xs).toArray := by
  unfold Program.built
  simp only [hi, hu, hz, hie, hze, hzc]
  rw [fill_ok vs _ m (by simp [iv]) ho, hf]
 have hmap : (parts.toArray.map fun (i, x) => (i, ρ x)) = vs.toArray := by
  rw [← e1]; simp
 have hr := run_build (P := P) w t vs.toArray _ (by simpa using hb)
 simp only [execOp, hmap, Sem.run_bind, hr, Result.andThen_ok, Sem.run_pure]
theorem all_range_eq_i : ∀ (xs ys : List Int), xs.length = ys.length → ((List.range xs.length).all fun i => gn xs i == gn ys i) = (xs == ys)
  | [], [], _ => rfl
  | x :: xs, y :: ys, h => by
    have ih := all_range_eq_i xs ys (by simpa using h)
    rw [List.length_cons, List.range_succ_eq_map, List.all_cons, List.all_map]
    have h0 : gn (x :: xs) 0 = x := rfl
    have h1 : gn (y :: ys) 0 = y := rfl
    have h2 : ((fun i => gn (x :: xs) i == gn (y :: ys) i) ∘ Nat.succ) = fun i => gn xs i == gn ys i := by funext i; rfl
    rw [h0, h1, h2, ih]
    simp [List.cons_beq_cons]
  | [], _ :: _, h => by simp at h
  | _ :: _, [], h => by simp at h
theorem run_equalIn_iv (d : Nat) {m : Nat} (ht : ArrT P t m e k) (xs ys : List Int) (hx : xs.length = m) (hy : ys.length = m) (w : World) :
  (Op.equalIn (d + 2) t (.agg (iv k xs).toArray) (.agg (iv k ys).toArray)).run P w = .ok (xs == ys) w := by
 obtain ⟨hu, he, hc, hs, _⟩ := ht
 obtain ⟨i, hi, hz⟩ := info_of_cells hc (by decide)
 have hsz : (sizeOf e).run P w = .ok 1 w := by simp [sizeOf, typeInfo, hi, hz]
 rw [← all_range_eq_i xs ys (hx.trans hy.symm), hx, List.range_eq_range', Op.equalIn]
 simp only [Sem.run_bind, run_underlying hu, Result.andThen_ok, hsz, Std.Legacy.Range.forIn_eq_forIn_range', Std.Legacy.Range.size, Nat.sub_zero, Nat.add_sub_cancel, Nat.div_one]
 have hl : ∀ i ∈ List.range' 0 m 1, i < m := fun i hi => by simpa using (List.mem_range'_1.1 hi).2
 generalize List.range' 0 m 1 = ls at hl ⊢
 induction ls with
 | nil => simp
 | cons i ls ih =>
  have hi : i < m := hl i (by simp)
  have px : (part e (iv k xs).toArray (i * 1)).run P w = .ok (.int k (gn xs i)) w := by rw [Nat.mul_one]; exact run_part_iv he (by omega) w
  have py : (part e (iv k ys).toArray (i * 1)).run P w = .ok (.int k (gn ys i)) w := by rw [Nat.mul_one]; exact run_part_iv he (by omega) w
  have pe : (Op.equalIn (d + 1) e (.int k (gn xs i)) (.int k (gn ys i))).run P w = .ok (gn xs i == gn ys i) w := run_equalIn_int w d e k k _ _ he
  simp only [List.forIn_cons, Sem.run_bind, px, py, pe, Result.andThen_ok, List.all_cons]
  cases hb : (gn xs i == gn ys i)
  ·simp
  simp only [Bool.not_true, Bool.false_eq_true, if_false, Sem.run_pure, Result.andThen_ok, Bool.true_and]
  exact ih fun j hj => hl j (by simp [hj])
theorem Runs.neq_arr {m : Nat} {xs ys : List Int} {b : Bool} (ht : ArrT P t m e k) (hgd : P.eqGuardType P.depth t = false) (hx : ev n l X = some (.agg (iv k xs).toArray)) (hy : ev n l Y = some (.agg (iv k ys).toArray)) (h1 : xs.length = m) (h2 : ys.length = m) (hb : (!(xs == ys)) = b) :
  Runs P (.binOp .neq t X Y t') ty n l w (.bool b) := fun ρ _ _ _ _ hρ => by
 have e1 := hρ _ _ hx; have e2 := hρ _ _ hy; subst hb
 have hr := run_equalIn_iv (P := P) 9998 ht xs ys h1 h2 w
 simp only [execOp, e1, e2, Sem.run_bind, run_eqGuard_agg (P := P) w .neq t X Y _ _ hgd, run_neq_struct, hr, Result.andThen_ok, Sem.run_pure]
theorem run_results_cell {fn : Func} {p : Tmp} {T : TypeId} {xs : List Int} {m bk : Nat} (hr : fn.results = #[.cell p t]) (ht : ArrT P t m e k) (tmps : Array Value) (hp : tmps.getD p undef = .pointer (some ⟨bk, 0, none⟩)) (hc : w.heap[bk]? = some (.cells (iv k xs).toArray T (0, 0))) (hl : xs.length = m) :
 (results fn tmps).run P w = .ok (.agg (iv k xs).toArray) w := results_cell_row hr tmps w bk T _ (0, 0) _ hp hc ht.1 rfl (ht.size hl)
theorem QW.retc {fn : Func} {R : Ending → World → Prop} {p : Tmp} {T : TypeId} {xs : List Int} {m bk : Nat} (hr : fn.results = #[.cell p t]) (ht : ArrT P t m e k) (hv : ev n l (.tmp p) = some (.pointer (some ⟨bk, 0, none⟩))) (hc : w.heap[bk]? = some (.cells (iv k xs).toArray T (0, 0))) (hl : xs.length = m)
  (h : R (.returned (.agg (iv k xs).toArray)) w) : QW [] (bodyPost P fn R) .ret n l w := fun b hb hd => by
 have := ev_sound (b := b) hb hv
 exact ⟨by rw [ov_defers, hd], _, run_results_cell hr ht _ (by simpa [Act.eval, Array.getD_eq_getD_getElem?] using this) hc hl, h⟩
theorem Runs.slice_arr {bk m : Nat} (ht : ArrT P t m e k) (hx : ev n l X = some (.pointer (some ⟨bk, 0, none⟩))) (hm : m ≠ 0) : Runs P (.slice t X none none none) ty n l w (.slice (some ⟨bk, 0, none⟩) m m) := fun ρ _ _ _ _ hρ => by
 have e1 := hρ _ _ hx
 obtain ⟨hu, he, hc, hs, _⟩ := ht
 have ha : P.arrayLen t = m := by simp [Program.arrayLen, hu]
 have hu' : P.underlying t = some (.array (P.arrayLen t) (P.elem t)) := by simp [Program.arrayLen, Program.elem, hu]
 have hr := run_sliceAt_array_all (P := P) w t ⟨bk, 0, none⟩ hu'
 obtain ⟨i, hi, hz⟩ := info_of_cells hc (by decide)
 have he2 : P.elem t = e := by simp [Program.elem, hu]
 simp only [execOp, e1, Option.map_none, Sem.run_bind, hr, ha]
 simp [slicedAt, hm, sizeOf, typeInfo, he2, hi, hz, add_blk]
theorem St.src_blk (st : St w0 w L) {i bk : Nat} {T : TypeId} {cs : List Value} (hk : L[i]? = some (.cells bk cs T)) : Src w (some ⟨bk, 0, none⟩) cs := fun j v hv => ⟨_, rfl, by rw [add_blk]; exact st.cell hk hv⟩
end Go.Kr
