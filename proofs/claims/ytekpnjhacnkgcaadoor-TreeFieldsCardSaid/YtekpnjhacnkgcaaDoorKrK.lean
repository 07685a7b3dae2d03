/- Structs, and arrays of them: equality, part by part. -/
import Derived.Test.YtekpnjhacnkgcaaDoorKrJ
import Derived.ChangeKeysEq
import Derived.Laws.StructEq
import Derived.Lib.AppendStr
namespace Go.Kr
open Go Go.RowKit
set_option linter.unusedVariables false
set_option linter.unusedSimpArgs false
variable {P : Program} {dl : List Deferred} {ops : Array Oper} {Q : Exit → Act → World → Prop} {rest : List Oper} {n d : Nat} {l : Ov} {w w0 : World} {L : List En} {t t' e : TypeId} {X Y : Operand} {ty : TypeId} {pos : String} {af : Array Edge} {g : Option (Nat × Bool)} {k k' : IntKind} {y : Int}

/-- Two rows of a type are the same, or not. -/
def EqTop (P : Program) (d : Nat) (t : TypeId) (cs ds : List Value) (b : Bool) : Prop := ∀ w : World, (Op.equalIn d t (.agg cs.toArray) (.agg ds.toArray)).run P w = .ok b w
/-- What stands at a place in two rows is the same, or not. -/
def EqPl (P : Program) (d : Nat) (t : TypeId) (cs ds : List Value) (b : Bool) : Prop :=
  ∀ (w : World) (X Y : Array Value) (o : Nat), (X.toList.drop o).take cs.length = cs → (Y.toList.drop o).take ds.length = ds →
    ∃ x y, (part t X o).run P w = .ok x w ∧ (part t Y o).run P w = .ok y w ∧ (Op.equalIn d t x y).run P w = .ok b w
theorem part_row {m o : Nat} {cs : List Value} {X : Array Value} (hr : RowT P t m) (h : (X.toList.drop o).take m = cs) (w : World) : (part t X o).run P w = .ok (.agg cs.toArray) w := by
  have ha := hr.agg w
  obtain ⟨dd, _, _, hs⟩ := hr
  obtain ⟨i, hi, hz⟩ := Option.map_eq_some_iff.1 hs
  have hX : X = X.toList.toArray := by simp
  rw [hX]
  generalize X.toList = xs at h
  simp [part, ha, sizeOf, typeInfo, hi, hz, ← h, List.extract_eq_take_drop]
theorem EqTop.place {d m : Nat} {cs ds : List Value} {b : Bool} (h : EqTop P d t cs ds b) (hr : RowT P t m) (h1 : cs.length = m) (h2 : ds.length = m) : EqPl P d t cs ds b := fun w X Y o hX hY =>
  ⟨_, _, part_row hr (by rw [h1] at hX; exact hX) w, part_row hr (by rw [h2] at hY; exact hY) w, h w⟩
theorem EqPl.int {d : Nat} {k k' : IntKind} {x y : Int} (he : P.underlying t = some (.int k')) : EqPl P (d + 1) t [.int k x] [.int k y] (x == y) := fun w X Y o hX hY => by
  have f : ∀ (X : Array Value) (x : Int), (X.toList.drop o).take 1 = [.int k x] → (part t X o).run P w = .ok (.int k x) w := fun X x hX => by
    have h0 : X[o]? = some (.int k x) := by
      have := congrArg (·[0]?) hX
      simp only [List.getElem?_take, List.getElem?_drop] at this
      simpa using this
    simp [part, isAgg, run_underlying he, h0]
  exact ⟨_, _, f X x hX, f Y y hY, run_equalIn_int w d t k k' _ _ he⟩
theorem EqTop.arr {d m : Nat} {k : IntKind} {xs ys : List Int} (ht : ArrT P t m e k) (h1 : xs.length = m) (h2 : ys.length = m) : EqTop P (d + 2) t (iv k xs) (iv k ys) (xs == ys) := fun w => run_equalIn_iv d ht xs ys h1 h2 w
theorem part_mid' {pre mid post cs : List Value} {o : Nat} (hcs : cs = pre ++ (mid ++ post)) (ho : pre.length = o) : (cs.drop o).take mid.length = mid := part_mid hcs ho rfl
/-- Parts at places, one behind the other. -/
inductive EqFs (P : Program) (d : Nat) (cs ds : List Value) : List (TypeId × Nat) → Bool → Prop
  | nil : EqFs P d cs ds [] true
  | cons {ft : TypeId} {off : Nat} {as bs : List Value} {b b' : Bool} {rest : List (TypeId × Nat)} (h1 : (cs.drop off).take as.length = as) (h2 : (ds.drop off).take bs.length = bs) (h : EqPl P d ft as bs b) (hr : EqFs P d cs ds rest b') : EqFs P d cs ds ((ft, off) :: rest) (b && b')
def eqsB (P : Program) (t : TypeId) (fl : List (TypeId × Nat)) : Bool :=
  match P.underlying t with
  | some (.struct fs) => (fs.toList.all fun f => f.name != "_") && decide ((fs.toList.map fun f => (f.type, f.offset)) = fl) && !P.stoodInHeld t
  | _ => false
theorem eqFields_of {d : Nat} {cs ds : List Value} (w : World) : ∀ (fs : List Field) (b : Bool), (∀ f ∈ fs, f.name ≠ "_") → EqFs P d cs ds (fs.map fun f => (f.type, f.offset)) b → (Op.eqFields d cs.toArray ds.toArray fs).run P w = .ok b w
  | [], b, _, h => by cases h; simp [Op.eqFields]
  | f :: fs, b, hn, h => by
    rw [List.map_cons] at h
    cases h with
    | cons h1 h2 hp hr =>
      rename_i as bs b1 b2
      obtain ⟨x, y, p1, p2, p3⟩ := hp w cs.toArray ds.toArray f.offset h1 h2
      have ih := eqFields_of w fs b2 (fun g hg => hn g (by simp [hg])) hr
      have hf : f.name ≠ "_" := hn f (by simp)
      simp only [Op.eqFields, hf, ne_eq, not_false_eq_true, if_true, Sem.run_bind, p1, p2, p3, Result.andThen_ok]
      cases b1
      · simp
      · simpa using ih
theorem EqTop.struct {d : Nat} {cs ds : List Value} {fl : List (TypeId × Nat)} {b : Bool} (h : eqsB P t fl = true) (hf : EqFs P d cs ds fl b) : EqTop P (d + 1) t cs ds b := fun w => by
  unfold eqsB at h
  split at h
  · rename_i fs hu
    simp only [Bool.and_eq_true, List.all_eq_true, bne_iff_ne, decide_eq_true_eq, Bool.not_eq_true'] at h
    obtain ⟨⟨hn, hm⟩, hs⟩ := h
    have hfs : P.fieldsOf t = fs := by simp [Program.fieldsOf, hu]
    rw [run_equalIn_struct w d t cs.toArray ds.toArray (by rw [hfs]; exact hu) hs, hfs]
    exact eqFields_of w fs.toList b (fun f hf => hn f hf) (by rw [hm]; exact hf)
  · cases h
theorem eqItems_of {d c : Nat} {cs ds : List Value} (w : World) : ∀ (is : List Nat) (b : Bool), EqFs P d cs ds (is.map fun i => (e, i * c)) b → (Op.eqItems d e c cs.toArray ds.toArray is).run P w = .ok b w
  | [], b, h => by cases h; simp [Op.eqItems]
  | i :: is, b, h => by
    rw [List.map_cons] at h
    cases h with
    | cons h1 h2 hp hr =>
      rename_i as bs b1 b2
      obtain ⟨x, y, p1, p2, p3⟩ := hp w cs.toArray ds.toArray (i * c) h1 h2
      have ih := eqItems_of w is b2 hr
      simp only [Op.eqItems, Sem.run_bind, p1, p2, p3, Result.andThen_ok]
      cases b1
      · simp
      · simpa using ih
theorem EqTop.rows {d m c : Nat} {cs ds : List Value} {fl : List (TypeId × Nat)} {b : Bool} (hu : P.underlying t = some (.array m e)) (hs : (P.info? e).map (·.size) = some c) (hfl : (List.range m).map (fun i => (e, i * c)) = fl) (hf : EqFs P d cs ds fl b) : EqTop P (d + 1) t cs ds b := fun w => by
  obtain ⟨i, hi, hz⟩ := Option.map_eq_some_iff.1 hs
  subst hfl
  have hc : P.cellsOf e = c := by simp [Program.cellsOf, hi, hz]
  rw [run_equalIn_array w d cs.toArray ds.toArray hu hi, hc]
  exact eqItems_of w _ b hf
theorem Runs.eql_top {cs ds : List Value} {b : Bool} (h : EqTop P 10000 t cs ds b) (hgd : P.eqGuardType P.depth t = false) (hx : ev n l X = some (.agg cs.toArray)) (hy : ev n l Y = some (.agg ds.toArray)) :
    Runs P (.binOp .eql t X Y t') ty n l w (.bool b) := fun ρ _ _ _ _ hρ => by
  have e1 := hρ _ _ hx; have e2 := hρ _ _ hy
  have hr := h w
  simp only [execOp, e1, e2, Sem.run_bind, run_eqGuard_agg (P := P) w .eql t X Y _ _ hgd, run_eql_struct, hr, Result.andThen_ok, Sem.run_pure]
theorem Runs.neq_top {cs ds : List Value} {b : Bool} (h : EqTop P 10000 t cs ds b) (hgd : P.eqGuardType P.depth t = false) (hx : ev n l X = some (.agg cs.toArray)) (hy : ev n l Y = some (.agg ds.toArray)) :
    Runs P (.binOp .neq t X Y t') ty n l w (.bool (!b)) := fun ρ _ _ _ _ hρ => by
  have e1 := hρ _ _ hx; have e2 := hρ _ _ hy
  have hr := h w
  simp only [execOp, e1, e2, Sem.run_bind, run_eqGuard_agg (P := P) w .neq t X Y _ _ hgd, run_neq_struct, hr, Result.andThen_ok, Sem.run_pure]
/-! ### Regions that draw: an operation whose guard says no -/
theorem AW.takeoff {op : Op} {fuel : Nat} {listed : Array Bool} (i : Nat) (hi : ops[i]? = some ⟨some d, op, ty, pos, af, g⟩) (hs : Region.noSelect ops = true) (hf : Region.free .any ops listed i = true) (hr : (Region.ready .any ops listed).contains i = true)
    (hw : Wanted ops g n l false) (h : AW dl P ops Q fuel (listed.setIfInBounds i true) n ((d, undef) :: l) w) : AW dl P ops Q (fuel + 1) listed n l w := fun b hb hd =>
  wpAny_take hi hs hf hr (fun c a w h => h.elim) (.inr ⟨hw b hb, rfl⟩) (h b hb hd)

/-! ### A cell of an array inside a block -/
theorem Runs.indexAddr_mid {bk o m : Nat} (ht : ArrT P t m e k) (hx : ev n l X = some (.pointer (some ⟨bk, o, none⟩))) (hy : ev n l Y = some (.int k' y)) (h0 : 0 ≤ y) (h1 : y < m) {j : Nat} (hj : j = y.toNat) :
    Runs P (.indexAddr t X Y) ty n l w (.pointer (some ⟨bk, o + j, none⟩)) := by
  rw [← add_plain bk o j]; exact Runs.indexAddr_arr ht hx hy h0 h1 hj
theorem mid_cell {xs : List Int} {cs pre post : List Value} {o j : Nat} (hcs : cs = pre ++ (iv k xs ++ post)) (ho : pre.length = o) (hj : j < xs.length) : cs[o + j]? = some (.int k (gn xs j)) := by
  subst hcs ho
  rw [List.getElem?_append_right (by omega), Nat.add_sub_cancel_left, List.getElem?_append_left (by rw [iv_length]; exact hj), iv_get hj]
theorem WL.store_cellM {bk i o j : Nat} {Tt : TypeId} {cs pre post : List Value} {xs : List Int} (st : St w0 w L) (hk : L[i]? = some (.cells bk cs Tt)) (hsz : P.cellsOf t = 1) (hcs : cs = pre ++ (iv k xs ++ post)) (ho : pre.length = o) (hj : j < xs.length)
    (hx : ev n l X = some (.pointer (some ⟨bk, o + j, none⟩))) (hy : ev n l Y = some (.int k y))
    (h : ∀ w', St w0 w' (L.set i (.cells bk (pre ++ (iv k (xs.set j y) ++ post)) Tt)) → WL dl P ops Q rest n l w') : WL dl P ops Q (⟨none, .store t X Y, ty, pos, af, none⟩ :: rest) n l w := by
  subst hcs ho
  refine WL.store_cells st hk hsz hx (by simp [iv_length]; omega) hy rfl fun w' hw' => h w' ?_
  have : (pre ++ (iv k xs ++ post)).set (pre.length + j) (.int k y) = pre ++ (iv k (xs.set j y) ++ post) := by
    rw [List.set_append_right _ _ (by omega), Nat.add_sub_cancel_left, List.set_append_left _ _ (by rw [iv_length]; exact hj), iv_set]
  rwa [this] at hw'

/-! ### Bytes of a string, put behind others -/
theorem strCells_bl (s : ByteArray) : Lib.strCells s = iv .u8 (bl s) := by simp [Lib.strCells, iv, bl]
theorem append_str_at {W : World} {base : Nat} {t u e : TypeId} {i : TypeInfo} {v : Value} {m : Nat} {xs : List Value} {s : ByteArray} (ht : P.underlying t = some (.slice e)) (hu : P.underlying u = some .string) (hi : P.info? e = some i) (hz : i.zero = some (.int .u8 0))
    (hsize : i.size = 1) (hby : i.bytes = 1) (hown : W.ownsRow base e 1 v m xs) (hlim : m + s.size ≤ 1099511627776) (hbase : base ≤ W.heap.size) :
    ∃ v' w', (Builtin.append_ #[t, u] ty #[v, .string s]).run P W = .ok v' w' ∧ w'.ownsRow base e 1 v' (m + s.size) (xs ++ iv .u8 (bl s)) ∧ W.grownBy w' v.ownBlock ∧ (v'.ownBlock = v.ownBlock ∨ v'.ownBlock = some W.heap.size) := by
  obtain ⟨v', w', hr, ho, hg, _⟩ := Lib.run_append_own_string (P := P) W base t u ty e i ht hu hi hz hsize hby v m xs hown s (by simp only [maxLen]; omega) (by omega) hbase
  rw [strCells_bl] at ho
  refine ⟨v', w', hr, ho, hg, ?_⟩
  have key : ∀ (a : Value) (b : World), (Builtin.append_ #[t, u] ty #[v, .string s]).run P W = .ok a b → v' = a := fun a b h => by
    rw [hr] at h; cases h; rfl
  have hxl : xs.length = m := by simpa using hown.1
  rcases hown.2 with ⟨rfl, rfl⟩ | ⟨g, cap, cur, rfl, hbg, hgb, hnc, hcm, hcs, htake⟩
  · by_cases hm : s.size = 0
    · have hf := Lib.run_firstCells_string (P := P) W 1 s
      rw [hm] at hf
      exact .inl (by rw [key (.slice none 0 0) W (by simp [Builtin.append_, run_underlying ht, run_underlying hu, sizeOf, typeInfo, hi, hsize, Builtin.lenOf, hm, hf])])
    · exact .inr (by rw [key _ _ (run_append_nil_string (P := P) W t u ty e i (.int .u8 0) ht hu hi hz s (by omega) (by omega) (by rw [hby]; omega))]; rfl)
  · by_cases hroom : m + s.size ≤ cap
    · have hcs' : cur.size = cap := by simpa using hcs
      exact .inl (by rw [key _ _ (Lib.run_append_room_string (P := P) W t u ty e i ht hu hi hsize g m cap cur hgb s hroom (by omega))]; rfl)
    · have holds : ∀ j v, xs[j]? = some v → W.cell? ((⟨g, 0, none⟩ : Addr).add j) = some v := hown.cells (g := g) rfl
      exact .inr (by rw [key _ _ (Lib.run_append_grow_string (P := P) W t u ty e i (.int .u8 0) ht hu hi hz ⟨g, 0, none⟩ m cap xs (by rw [hsize]; simpa using hxl) holds s (by omega) (by omega) (by rw [hby]; exact growslice_fits (by omega) (by omega)))]; rfl)
theorem WL.append_str {i : Nat} {A : Option Addr} {c m N : Nat} {xs : List Value} {s : ByteArray} {u : TypeId} (hw : Wanted ops g n l true) (st : St w0 w L) (hk : L[i]? = some (.sl A c m xs e 1)) (ht : P.underlying t = some (.slice e)) (hu : P.underlying u = some .string) (he : ElemT P e (.int .u8 0) 1)
    (hx : ev n l X = some (.slice A m c)) (hy : ev n l Y = some (.string s)) (hN : m + s.size = N) (hlim : N ≤ 1099511627776)
    (h : ∀ A' c' w', St w0 w' (L.set i (.sl A' c' N (xs ++ iv .u8 (bl s)) e 1)) → WL dl P ops Q rest n ((d, .slice A' N c') :: l) w') :
    WL dl P ops Q (⟨some d, .call { callee := .builtin .append, args := #[X, Y], argTypes := #[t, u] }, ty, pos, af, g⟩ :: rest) n l w := by
  subst hN
  refine WL.go hw fun b hb' hd K hK => ?_
  have e1 := ev_sound (b := b) hb' hx; have e2 := ev_sound (b := b) hb' hy
  obtain ⟨ii, hi, hz, hsz, hby, hzc, hpos⟩ := he
  obtain ⟨v', w', hr, ho', hg, hat⟩ := append_str_at (P := P) (ty := ty) (s := s) ht hu hi hz hsz hby (st.row hk) hlim st.ext.size
  unfold Oper.wp execOp
  simp only [resolve, invoke, builtin, Sem.run_bind, Sem.run_pure, Result.andThen_ok, List.map_toArray, List.map_cons, List.map_nil, e1, e2, hr, Oper.upon_value]
  obtain ⟨A', c', rfl, hst⟩ := st.appended hk ho' hg hat
  exact hK _ _ (h A' c' w' hst b hb' hd)
end Go.Kr
