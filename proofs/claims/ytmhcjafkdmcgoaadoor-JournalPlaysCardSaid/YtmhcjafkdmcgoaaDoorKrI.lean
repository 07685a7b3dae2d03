/- More words: structs, and arrays of them: their parts in memory and as values; loops of few rounds, walked round by round. No program in sight. -/
import Derived.Test.YtmhcjafkdmcgoaaDoorKrH
import Derived.Deep.MidRow
import Derived.LoopN
import Derived.DeepKeys
namespace Go.Kr
open Go Go.RowKit
set_option linter.unusedVariables false
set_option linter.unusedSimpArgs false
variable {dl : List Deferred} {P : Program} {ops : Array Oper} {Q : Exit → Act → World → Prop} {rest : List Oper} {n : Nat} {l l' : Ov} {w0 w W W' : World} {L L2 T : List En}
variable {d : Nat} {ty : TypeId} {pos : String} {af : Array Edge} {g : Option (Nat × Bool)} {v : Value} {X Y : Operand} {t t' e : TypeId} {k k' : IntKind} {x y z : Int}
def RowT (P : Program) (t : TypeId) (m : Nat) : Prop := ∃ d, P.underlying t = some d ∧ d.isRow = true ∧ (P.info? t).map (·.size) = some m
theorem RowT.of {dd : TypeDesc} {m : Nat} (h : P.underlying t = some dd) (hr : dd.isRow = true) (hs : (P.info? t).map (·.size) = some m) : RowT P t m := ⟨dd, h, hr, hs⟩
theorem RowT.agg {m : Nat} (h : RowT P t m) (w : World) : (isAgg t).run P w = .ok true w := by
 obtain ⟨d, hu, hr, _⟩ := h
 unfold isAgg
 rw [Sem.run_bind, run_underlying hu w]
 cases d <;> simp_all
theorem rangeAt_of {bk o m : Nat} {Tt : TypeId} {cs ms : List Value} {i : Nat} (st : St w0 w L) (hk : L[i]? = some (.cells bk cs Tt)) (hp : (cs.drop o).take m = ms) : w.rangeAt bk o ms := fun j u hj => by
 rw [← hp, List.getElem?_take] at hj
 split at hj
 ·rw [List.getElem?_drop] at hj; exact st.cell hk hj
 cases hj
theorem Runs.load_mid {bk o m i : Nat} {Tt : TypeId} {cs ms : List Value} (ht : RowT P t m) (hx : ev n l X = some (.pointer (some ⟨bk, o, none⟩))) (st : St w0 w L) (hk : L[i]? = some (.cells bk cs Tt)) (hp : (cs.drop o).take m = ms) (hm : ms.length = m) :
  Runs P (.load t X) ty n l w (.agg ms.toArray) := fun ρ _ _ _ _ hρ => by
 have e1 := hρ _ _ hx
 obtain ⟨dd, hu, hr, hs⟩ := ht
 have := run_loadAt_mid (P := P) w bk o t ms dd (rangeAt_of st hk hp) hu hr (by rw [hs, hm])
 simp only [execOp, e1, Sem.run_bind, this, Result.andThen_ok, Sem.run_pure]
theorem WL.store_mid {bk m i : Nat} {Tt : TypeId} {cs pre mid post ms : List Value} (st : St w0 w L) (hk : L[i]? = some (.cells bk cs Tt)) (ht : RowT P t m) (hcs : cs = pre ++ (mid ++ post)) {o : Nat} (ho : pre.length = o) (hx : ev n l X = some (.pointer (some ⟨bk, o, none⟩)))
  (hy : ev n l Y = some (.agg ms.toArray)) (hm : ms.length = m) (hmid : mid.length = m) (h1 : ∀ u ∈ ms, u.oneCell' = true)
  (h : ∀ w', St w0 w' (L.set i (.cells bk (pre ++ (ms ++ post)) Tt)) → WL dl P ops Q rest n l w') : WL dl P ops Q (⟨none, .store t X Y, ty, pos, af, none⟩ :: rest) n l w := by
 subst hcs
 refine WL.go .none fun b hb' hd K hK => ?_
 have e1 := ev_sound (b := b) hb' hx; have e2 := ev_sound (b := b) hb' hy
 have hok := st.ok _ (List.mem_of_getElem? hk)
 obtain ⟨dd, hu, hr, hs⟩ := ht
 have hr := run_storeAt_mid (P := P) w bk o t ms.toArray (fun j hj => by
  have hc : j < ms.length := by simpa using hj
  rw [cell_of_row w bk (o + j) _ Tt (0, 0) hok.2, frozen_of_row w bk (o + j) _ Tt hok.2]
  refine ⟨?_, rfl⟩
  simp only [List.getElem?_toArray]
  rw [List.getElem?_eq_getElem (by simp; omega)]
  rfl) (by rw [hs]; simp [hm]) (by
   rw [Array.all_eq_true_iff_forall_mem]
   intro u hu
   exact h1 u (by simpa using hu))
 rw [List.toList_toArray] at hr
 obtain ⟨g1, g2⟩ := setCells_row bk Tt (0, 0) ms o w _ hok.2 (by simp; omega)
 unfold Oper.wp execOp
 simp only [Sem.run_bind, e1, e2, hr, Result.andThen_ok, Sem.run_pure, Oper.upon_skip]
 refine hK _ _ (h _ (st.turn hk (row := some bk) rfl g2 ⟨hok.1, ?_⟩ (fun b hb => .inl hb)) b hb' hd)
 rw [g1]
 congr 2
 have a1 : (pre ++ (mid ++ post)).take o = pre := by rw [List.take_left' ho]
 have a2 : (pre ++ (mid ++ post)).drop (o + ms.length) = post := by
  rw [← List.append_assoc, List.drop_left' (by simp; omega)]
 rw [a1, a2, List.append_assoc]
theorem WL.store_one {bk i : Nat} {Tt : TypeId} {cs pre post : List Value} {u0 : Value} (st : St w0 w L) (hk : L[i]? = some (.cells bk cs Tt)) (hsz : P.cellsOf t = 1) (hcs : cs = pre ++ ([u0] ++ post)) {o : Nat} (ho : pre.length = o) (hx : ev n l X = some (.pointer (some ⟨bk, o, none⟩)))
  (hy : ev n l Y = some v) (h1 : v.oneCell' = true)
  (h : ∀ w', St w0 w' (L.set i (.cells bk (pre ++ ([v] ++ post)) Tt)) → WL dl P ops Q rest n l w') : WL dl P ops Q (⟨none, .store t X Y, ty, pos, af, none⟩ :: rest) n l w := by
 subst hcs
 refine WL.store_cells st hk hsz hx (by simp; omega) hy h1 fun w' hw' => h w' ?_
 have : (pre ++ ([u0] ++ post)).set o v = pre ++ ([v] ++ post) := by
  rw [List.set_append_right _ _ (by omega), ho, Nat.sub_self]; rfl
 rwa [this] at hw'
def fieldB (P : Program) (t : TypeId) (i : Nat) (ft : TypeId) (off sz : Nat) : Bool :=
  match P.underlying t with
  | some (.struct fs) => match fs[i]? with
    | some f => Nat.beq f.type ft && Nat.beq f.offset off && (match P.info? f.type with | some j => Nat.beq j.size sz | none => false)
    | none => false
  | _ => false
theorem fieldB_spec {i off sz : Nat} {ft : TypeId} (h : fieldB P t i ft off sz = true) : ∃ fs f j, P.underlying t = some (.struct fs) ∧ fs[i]? = some f ∧ f.type = ft ∧ f.offset = off ∧ P.info? ft = some j ∧ j.size = sz := by
 unfold fieldB at h
 split at h
 ·rename_i fs hu
  split at h
  ·rename_i f hf
   simp only [Bool.and_eq_true] at h
   obtain ⟨⟨h1, h2⟩, h3⟩ := h
   have e1 := Nat.eq_of_beq_eq_true h1
   split at h3
   ·rename_i j hj
    exact ⟨fs, f, j, hu, hf, e1, Nat.eq_of_beq_eq_true h2, by rw [← e1]; exact hj, Nat.eq_of_beq_eq_true h3⟩
   cases h3
  cases h
 cases h
theorem Runs.fieldAddr {bk o i off sz p : Nat} {ft : TypeId} (hf : fieldB P t i ft off sz = true) (hsz : Nat.blt 0 sz = true) (hx : ev n l X = some (.pointer (some ⟨bk, o, none⟩))) (hp : o + off = p) :
  Runs P (.fieldAddr t X i) ty n l w (.pointer (some ⟨bk, p, none⟩)) := fun ρ _ _ _ _ hρ => by
 have e1 := hρ _ _ hx
 obtain ⟨fs, f, j, hu, hfi, rfl, rfl, hj, hjs⟩ := fieldB_spec hf
 subst hp
 have hne : ¬ j.size = 0 := by
  have := blt_of hsz
  omega
 simp [execOp, e1, Instr.fieldAt, run_underlying hu, hfi, Instr.sureAddr, fieldPlace, sizeOf, typeInfo, hj, hne, Addr.add_mid]
theorem Runs.field_one {i off sz : Nat} {ft : TypeId} {cs : List Value} (hf : fieldB P t i ft off sz = true) (hr : OneCell P ft) (hx : ev n l X = some (.agg cs.toArray)) (hp : cs[off]? = some v) :
  Runs P (.field t X i) ty n l w v := fun ρ _ _ _ _ hρ => by
 have e1 := hρ _ _ hx
 obtain ⟨fs, f, j, hu, hfi, rfl, rfl, hj, hjs⟩ := fieldB_spec hf
 obtain ⟨dd, hdu, hdf⟩ := hr
 have ha : (isAgg f.type).run P w = .ok false w := by
  unfold isAgg
  rw [Sem.run_bind, run_underlying hdu w]
  cases dd <;> simp_all [flatT]
 simp [execOp, e1, Instr.field, run_underlying hu, hfi, asAgg, part, ha, hp]
theorem Runs.index_row {m sz o : Nat} {cs ms : List Value} (hu : P.underlying t = some (.array m e)) (hr : RowT P e sz) (hx : ev n l X = some (.agg cs.toArray)) (hy : ev n l Y = some (.int k' y)) (h0 : 0 ≤ y) (h1 : y < m) (ho : y.toNat * sz = o) (hp : (cs.drop o).take sz = ms) :
  Runs P (.index t X Y) ty n l w (.agg ms.toArray) := fun ρ _ _ _ _ hρ => by
 have e1 := hρ _ _ hx; have e2 := hρ _ _ hy; subst ho
 have ha := hr.agg w
 obtain ⟨dd, _, _, hs⟩ := hr
 obtain ⟨i, hi, hz⟩ := Option.map_eq_some_iff.1 hs
 simp [execOp, e1, e2, Instr.index, asIntOf, run_underlying hu, h0, h1, sizeOf, typeInfo, hi, hz, part, ha, ← hp, List.extract_eq_take_drop]
theorem part_mid {α : Type} {pre mid post cs : List α} {o m : Nat} (hcs : cs = pre ++ (mid ++ post)) (ho : pre.length = o) (hm : mid.length = m) : (cs.drop o).take m = mid := by
 subst hcs
 rw [List.drop_left' ho, List.take_left' hm]
theorem part_one {α : Type} {pre post cs : List α} {u : α} {o : Nat} (hcs : cs = pre ++ ([u] ++ post)) (ho : pre.length = o) : cs[o]? = some u := by
 subst hcs
 rw [List.getElem?_append_right (by omega), ho, Nat.sub_self]
 rfl
def layV (cs : List Value) (o : Nat) (ms : List Value) : List Value := cs.take o ++ ms ++ cs.drop (o + ms.length)
theorem fold_lay : ∀ (ms : List Value) (j o : Nat) (cs : List Value), o + j + ms.length ≤ cs.length →
    (ms.zipIdx j).foldl (fun (c : Array Value) (p : Value × Nat) => c.setIfInBounds (o + p.2) p.1) cs.toArray = (cs.take (o + j) ++ ms ++ cs.drop (o + j + ms.length)).toArray
  | [], j, o, cs, h => by simp
  | m :: ms, j, o, cs, h => by
    simp only [List.length_cons] at h
    rw [List.zipIdx_cons, List.foldl_cons]
    simp only [List.setIfInBounds_toArray]
    rw [fold_lay ms (j + 1) o (cs.set (o + j) m) (by simp; omega)]
    have e := list_seg_step cs (o + j) m ms (by omega)
    congr 1
theorem layV_mid {pre mid post cs ms : List Value} {o : Nat} (hcs : cs = pre ++ (mid ++ post)) (ho : pre.length = o) (hm : mid.length = ms.length) : layV cs o ms = pre ++ (ms ++ post) := by
 subst hcs
 unfold layV
 rw [List.take_left' ho, ← List.append_assoc pre mid post, List.drop_left' (by simp; omega), List.append_assoc]
inductive Fills (place : Nat → Option (Nat × Nat)) : List Value → List (Nat × Value) → List Value → Prop
 | nil {cs : List Value} : Fills place cs [] cs
 | cons {cs cs' : List Value} {ps : List (Nat × Value)} {i o : Nat} {u : Value} {ms : List Value} (hp : place i = some (o, ms.length)) (hu : u.cells = ms.toArray) (hf : o + ms.length ≤ cs.length) (h : Fills place (layV cs o ms) ps cs') : Fills place cs ((i, u) :: ps) cs'
theorem Fills.run {place : Nat → Option (Nat × Nat)} {cs cs' : List Value} {ps : List (Nat × Value)} (h : Fills place cs ps cs') : Instr.fill place cs.toArray ps = some cs'.toArray := by
 induction h with
 | nil => rfl
 | @cons cs cs' ps i o u ms hp hu hf h ih =>
  have hfl := fold_lay ms 0 o cs (by omega)
  simp only [Nat.add_zero] at hfl
  unfold Instr.fill
  rw [hp]
  simp only [hu, List.size_toArray]
  rw [if_neg (by simp; omega)]
  have h2 : (Array.foldl (fun (cs : Array Value) (x : Value × Nat) => match x with | (c, j) => cs.setIfInBounds (o + j) c) cs.toArray ms.toArray.zipIdx) = (layV cs o ms).toArray := by
   rw [← Array.foldl_toList, Array.toList_zipIdx, List.toList_toArray]
   exact hfl
  rw [h2]
  exact ih
def placesB (P : Program) (t : TypeId) (ps : List (Nat × Nat)) : Bool :=
 match P.underlying t with
 | some (.struct fs) => (fs.toList.map fun f => (f.offset, (P.info? f.type).map (·.size))) == ps.map (fun p => (p.1, some p.2))
 | _ => false
theorem mapM_run {α β : Type} (gg : α → Sem β) (w : World) : ∀ (xs : List α) (ys : List β), xs.length = ys.length → (∀ (i : Nat) x y, xs[i]? = some x → ys[i]? = some y → (gg x).run P w = .ok y w) → (xs.mapM gg).run P w = .ok ys w
  | [], [], _, _ => by simp
  | [], _ :: _, h, _ => by simp at h
  | _ :: _, [], h, _ => by simp at h
  | x :: xs, y :: ys, h, hr => by
    have ih := mapM_run gg w xs ys (by simpa using h) (fun i a b ha hb => hr (i + 1) a b (by simpa using ha) (by simpa using hb))
    have h0 := hr 0 x y rfl rfl
    rw [List.mapM_cons]
    simp only [Sem.run_bind, h0, ih, Result.andThen_ok, Sem.run_pure]
theorem arr_mapM_run {α β : Type} (gg : α → Sem β) (w : World) (xs : Array α) (ys : List β) (h : xs.size = ys.length) (hr : ∀ (i : Nat) x y, xs[i]? = some x → ys[i]? = some y → (gg x).run P w = .ok y w) : (xs.mapM gg).run P w = .ok ys.toArray w := by
 rw [Array.mapM_eq_mapM_toList]
 have := mapM_run (P := P) gg w xs.toList ys (by simpa using h) (fun i a b ha hb => hr i a b (by simpa using ha) hb)
 simp [this]
theorem Runs.build_struct {parts : List (Nat × Operand)} {vs : List (Nat × Value)} {zs cs : List Value} {ps : List (Nat × Nat)} (hpl : placesB P t ps = true) (hz : ZeroT P t zs) (hp : pev n l parts = some vs) (hf : Fills (fun i => ps.toArray[i]?) zs vs cs) :
  Runs P (.build t parts.toArray) ty n l w (.agg cs.toArray) := fun ρ _ _ _ _ hρ => by
 have hps := pev_sound (ρ := ρ) hρ hp
 obtain ⟨i, z, hi, hzz, hc⟩ := hz
 have hr := hf.run
 rw [← hc] at hr
 have hzv : (zeroValue t).run P w = .ok z w := by simp [zeroValue, typeInfo, hi, hzz]
 unfold placesB at hpl
 split at hpl
 ·rename_i fs hu
  have hpl' : (fs.toList.map fun f => (f.offset, (P.info? f.type).map (·.size))) = ps.map (fun p => (p.1, some p.2)) := by simpa using hpl
  have hm2 : (fs.mapM (m := Sem) fun f => do pure (f.offset, ← sizeOf f.type)).run P w = .ok ps.toArray w := by
   refine arr_mapM_run _ w fs ps ?_ ?_
   ·have := congrArg List.length hpl'
    simpa using this
   intro i f p hfi hpi
   have := congrArg (·[i]?) hpl'
   simp only [List.getElem?_map, Array.getElem?_toList, hfi, hpi, Option.map_some, Option.some.injEq, Prod.mk.injEq] at this
   obtain ⟨h1, h2⟩ := this
   obtain ⟨j, hj, hjs⟩ := Option.map_eq_some_iff.1 h2
   have hsz : (sizeOf f.type).run P w = .ok p.2 w := by simp [sizeOf, typeInfo, hj, hjs]
   simp only [Sem.run_bind, hsz, Result.andThen_ok, Sem.run_pure, h1]
  have hmap : (parts.toArray.map fun (i, x) => (i, ρ x)).toList = vs := by simpa using hps
  unfold execOp
  simp only [Instr.build, Sem.run_bind, hzv, run_underlying hu, Result.andThen_ok, hm2, hmap, hr, Sem.run_pure]
 cases hpl
theorem CW.rounds {c : Code} (m : Nat) (h : CW dl P c (Exit.then (Code.rounds P c Q m) Q) n l w) : CW dl P (.loop c) Q n l w := fun b hb hd => wp_loop_rounds (m + 1) (h b hb hd)
theorem QW.round {c : Code} {m : Nat} (h : CW dl P c (Exit.then (Code.rounds P c Q m) Q) n l w) : QW dl (Exit.then (Code.rounds P c Q (m + 1)) Q) .normal n l w := fun b hb hd => h b hb hd
theorem Runs.toArray {A : Option Addr} {m m' c : Nat} (hu : P.underlying t = some (.array m e)) (hx : ev n l X = some (.slice A m' c)) (hm : m ≤ m') : Runs P (.sliceToArrayPointer t X) ty n l w (.pointer A) := fun ρ _ _ _ _ hρ => by
 have e1 := hρ _ _ hx
 have : ¬ m' < m := by omega
 simp [execOp, e1, Instr.arrayAt, run_underlying hu, this]
theorem Runs.load_src {A : Option Addr} {m : Nat} {xs : List Int} (ht : ArrT P t m e k) (h0 : m ≠ 0) (hx : ev n l X = some (.pointer A)) (hs : Src w A (iv k xs)) (hm : m ≤ xs.length) : Runs P (.load t X) ty n l w (.agg (iv k (xs.take m)).toArray) := fun ρ _ _ _ _ hρ => by
 have e1 := hρ _ _ hx
 obtain ⟨a, rfl, _⟩ := hs 0 _ (iv_get (k := k) (by omega))
 have hl : (loadCells a m).run P w = .ok (iv k (xs.take m)).toArray w := by
  have := run_loadCells_list (P := P) w a (iv k (xs.take m)) (fun j u hj => by
   have hjl := (List.getElem?_eq_some_iff.1 hj).1
   rw [iv_length, List.length_take] at hjl
   rw [← iv_take, List.getElem?_take, if_pos (by omega)] at hj
   obtain ⟨a', ha', hc⟩ := hs j u hj
   cases ha'
   exact hc)
  rw [iv_length, List.length_take, Nat.min_eq_left hm] at this
  exact this
 obtain ⟨hu, he, hc, hsz, _⟩ := ht
 obtain ⟨i, hi, hz⟩ := Option.map_eq_some_iff.1 hsz
 have ha : (isAgg t).run P w = .ok true w := by
  unfold isAgg
  rw [Sem.run_bind, run_underlying hu w]
  simp
 simp [execOp, e1, Instr.loadAt, Instr.sureAddr, loadVar, ha, sizeOf, typeInfo, hi, hz, hl]
theorem Runs.nilCheck {a : Addr} (hx : ev n l X = some (.pointer (some a))) : Runs P (.nilCheck X) ty n l w (.pointer (some a)) := fun ρ _ _ _ _ hρ => by
 have e1 := hρ _ _ hx
 simp [execOp, e1]
theorem QW.retr {fn : Func} {R : Ending → World → Prop} {p : Tmp} {m i bk : Nat} {Tt : TypeId} {cs : List Value} (hr : fn.results = #[.cell p t]) (ht : RowT P t m) (hv : ev n l (.tmp p) = some (.pointer (some ⟨bk, 0, none⟩))) (st : St w0 w L) (hk : L[i]? = some (.cells bk cs Tt)) (hm : cs.length = m)
  (h : R (.returned (.agg cs.toArray)) w) : QW [] (bodyPost P fn R) .ret n l w := fun b hb hd => by
 have h1 := ev_sound (b := b) hb hv
 obtain ⟨dd, hu, hrow, hs⟩ := ht
 have h3 := run_loadVar_mid (P := P) w bk 0 t cs dd (rangeAt_of (o := 0) (m := cs.length) st hk (by simp)) hu hrow (by rw [hs, hm])
 refine ⟨by rw [ov_defers, hd], _, ?_, h⟩
 simp only [Act.eval] at h1
 have h1' : ((ov b l).tmps[p]?.getD undef) = .pointer (some ⟨bk, 0, none⟩) := by simpa using h1
 simp [results, hr, h1', asAddr, h3]
theorem QW.retr1 {fn : Func} {R : Ending → World → Prop} {p u : Tmp} {m i bk : Nat} {Tt : TypeId} {cs : List Value} (hr : fn.results = #[.cell p t, .tmp u]) (ht : RowT P t m) (hv : ev n l (.tmp p) = some (.pointer (some ⟨bk, 0, none⟩))) (st : St w0 w L) (hk : L[i]? = some (.cells bk cs Tt)) (hm : cs.length = m)
  (hu : ev n l (.tmp u) = some v) (h : R (.returned (.tuple #[.agg cs.toArray, v])) w) : QW [] (bodyPost P fn R) .ret n l w := fun b hb hd => by
 have h1 := ev_sound (b := b) hb hv
 have h2 := ev_sound (b := b) hb hu
 obtain ⟨dd, hu, hrow, hs⟩ := ht
 have h3 := run_loadVar_mid (P := P) w bk 0 t cs dd (rangeAt_of (o := 0) (m := cs.length) st hk (by simp)) hu hrow (by rw [hs, hm])
 refine ⟨by rw [ov_defers, hd], _, ?_, h⟩
 simp only [Act.eval] at h1 h2
 have h1' : ((ov b l).tmps[p]?.getD undef) = .pointer (some ⟨bk, 0, none⟩) := by simpa using h1
 have h2' : ((ov b l).tmps[u]?.getD undef) = v := by simpa using h2
 simp [results, hr, h1', h2', asAddr, h3]
theorem WL.buildSlRows {m sz : Nat} {parts : List (Nat × Operand)} {vs : List (Nat × Value)} {z : Value} {ii : TypeInfo} {zs cs : List Value} (st : St w0 w L) (hu : P.underlying t = some (.slice e)) (hi : P.info? e = some ii) (hz : ii.zero = some z) (hsz : ii.size = sz) (hm0 : m * sz ≠ 0) (hlim : m * sz ≤ 65536)
  (hzs : (Array.range (m * sz)).map (fun i => z.cells[i % z.cells.size]!) = zs.toArray) (hp : pev n l parts = some vs) (hf : Fills (fun i => some (i * sz, sz)) zs vs cs)
  (h : ∀ B w', St w0 w' (.cells B cs e :: L) → WL dl P ops Q rest n ((d, .slice (some ⟨B, 0, none⟩) m m) :: l) w') :
  WL dl P ops Q (⟨some d, .buildSlice t m parts.toArray, ty, pos, af, none⟩ :: rest) n l w := by
 refine WL.go .none fun b hb' hd K hK => ?_
 have hps := pev_sound (ρ := (ov b l).eval) (fun x u hx => ev_sound hb' hx) hp
 subst hsz
 have hr := run_buildSlice (P := P) w t e m (parts.toArray.map fun (i, x) => (i, (ov b l).eval x)) cs.toArray ii z hu hi hz (by omega) (by omega) (by
  rw [Array.toList_map, List.toList_toArray]
  rw [show List.map (fun x => match x with | (i, x) => (i, (ov b l).eval x)) parts = vs from hps, hzs]
  exact hf.run)
 unfold Oper.wp execOp
 simp only [Sem.run_bind, hr, Result.andThen_ok, Sem.run_pure, Oper.upon_value]
 exact hK _ _ (h _ _ (st.alloc cs e) b hb' hd)
end Go.Kr
