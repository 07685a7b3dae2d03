/- Structs, and arrays of them: equality, part by part. -/
import Derived.Test.YtmhcjafkdmcgoaaDoorKrJ
import Derived.ChangeKeysEq
import Derived.Laws.StructEq
import Derived.Lib.AppendStr
namespace Go.Kr
open Go Go.RowKit
set_option linter.unusedVariables false
set_option linter.unusedSimpArgs false
variable {P : Program} {dl : List Deferred} {ops : Array Oper} {Q : Exit → Act → World → Prop} {rest : List Oper} {n d : Nat} {l : Ov} {w w0 : World} {L : List En} {t t' e : TypeId} {X Y : Operand} {ty : TypeId} {pos : String} {af : Array Edge} {g : Option (Nat × Bool)} {k k' : IntKind} {y : Int}
def EqTop (P : Program) (d : Nat) (t : TypeId) (cs ds : List Value) (b : Bool) : Prop := ∀ w : World, (Op.equalIn d t (.agg cs.toArray) (.agg ds.toArray)).run P w = .ok b w
def EqPl (P : Program) (d : Nat) (t : TypeId) (cs ds : List Value) (b : Bool) : Prop :=
 ∀ (w : World) (X Y : Array Value) (o : Nat), (X.toList.drop o).take cs.length = cs → (Y.toList.drop o).take ds.length = ds →
  ∃ x y, (part t X o).run P w = .ok x w ∧ (part t Y o).run P w = .ok y w ∧ (Op.equalIn d t x y).run P w = .ok b w
theorem part_row {m o : Nat} {cs : List Value} {X : Array Value} (hr : RowT P t m) (h : (X.toList.drop o).take m = cs) (w : World) : (part t X o).run P w = .ok (.agg cs.toArray) w := by
 have ha := hr.agg w
 obtain ⟨dd, _, _, hs⟩ := hr
 obtain ⟨i, hi, hz⟩ := Option.map_eq_some_iff.1 hs
 have hX : X = X.toList.toArray := by simp
 rw [hX]
 generalize X.toList = xs at h
 simp [part, ha, sizeOf, typeInfo, hi, hz, ← h, List.extract_eq_take_drop]
theorem EqTop.place {d m : Nat} {cs ds : List Value} {b : Bool} (h : EqTop P d t cs ds b) (hr : RowT P t m) (h1 : cs.length = m) (h2 : ds.length = m) : EqPl P d t cs ds b := fun w X Y o hX hY =>
 ⟨_, _, part_row hr (by rw [h1] at hX; exact hX) w, part_row hr (by rw [h2] at hY; exact hY) w, h w⟩
theorem EqPl.int {d : Nat} {k k' : IntKind} {x y : Int} (he : P.underlying t = some (.int k')) : EqPl P (d + 1) t [.int k x] [.int k y] (x == y) := fun w X Y o hX hY => by
 have f : ∀ (X : Array Value) (x : Int), (X.toList.drop o).take 1 = [.int k x] → (part t X o).run P w = .ok (.int k x) w := fun X x hX => by
  have h0 : X[o]? = some (.int k x) := by
   have := congrArg (·[0]?) hX
   simp only [List.getElem?_take, List.getElem?_drop] at this
   simpa using this
  simp [part, isAgg, run_underlying he, h0]
 exact ⟨_, _, f X x hX, f Y y hY, run_equalIn_int w d t k k' _ _ he⟩
theorem EqTop.arr {d m : Nat} {k : IntKind} {xs ys : List Int} (ht : ArrT P t m e k) (h1 : xs.length = m) (h2 : ys.length = m) : EqTop P (d + 2) t (iv k xs) (iv k ys) (xs == ys) := fun w => run_equalIn_iv d ht xs ys h1 h2 w
theorem part_mid' {pre mid post cs : List Value} {o : Nat} (hcs : cs = pre ++ (mid ++ post)) (ho : pre.length = o) : (cs.drop o).take mid.length = mid := part_mid hcs ho rfl
inductive EqFs (P : Program) (d : Nat) (cs ds : List Value) : List (TypeId × Nat) → Bool → Prop
 | nil : EqFs P d cs ds [] true
 | cons {ft : TypeId} {off : Nat} {as bs : List Value} {b b' : Bool} {rest : List (TypeId × Nat)} (h1 : (cs.drop off).take as.length = as) (h2 : (ds.drop off).take bs.length = bs) (h : EqPl P d ft as bs b) (hr : EqFs P d cs ds rest b') : EqFs P d cs ds ((ft, off) :: rest) (b && b')
def eqsB (P : Program) (t : TypeId) (fl : List (TypeId × Nat)) : Bool :=
 match P.underlying t with
 | some (.struct fs) => (fs.toList.all fun f => f.name != "_") && decide ((fs.toList.map fun f => (f.type, f.offset)) = fl) && !P.stoodInHeld t
 | _ => false
theorem eqFields_of {d : Nat} {cs ds : List Value} (w : World) : ∀ (fs : List Field) (b : Bool), (∀ f ∈ fs, f.name ≠ "_") → EqFs P d cs ds (fs.map fun f => (f.type, f.offset)) b → (Op.eqFields d cs.toArray ds.toArray fs).run P w = .ok b w
  | [], b, _, h => by cases h; simp [Op.eqFields]
  | f :: fs, b, hn, h => by
    rw [List.map_cons] at h
    cases h with
    | cons h1 h2 hp hr =>
      rename_i as bs b1 b2
      obtain ⟨x, y, p1, p2, p3⟩ := hp w cs.toArray ds.toArray f.offset h1 h2
      have ih := eqFields_of w fs b2 (fun g hg => hn g (by simp [hg])) hr
      have hf : f.name ≠ "_" := hn f (by simp)
      simp only [Op.eqFields, hf, ne_eq, not_false_eq_true, if_true, Sem.run_bind, p1, p2, p3, Result.andThen_ok]
      cases b1
      · simp
      · simpa using ih
theorem EqTop.struct {d : Nat} {cs ds : List Value} {fl : List (TypeId × Nat)} {b : Bool} (h : eqsB P t fl = true) (hf : EqFs P d cs ds fl b) : EqTop P (d + 1) t cs ds b := fun w => by
 unfold eqsB at h
 split at h
 ·rename_i fs hu
  simp only [Bool.and_eq_true, List.all_eq_true, bne_iff_ne, decide_eq_true_eq, Bool.not_eq_true'] at h
  obtain ⟨⟨hn, hm⟩, hs⟩ := h
  have hfs : P.fieldsOf t = fs := by simp [Program.fieldsOf, hu]
  rw [run_equalIn_struct w d t cs.toArray ds.toArray (by rw [hfs]; exact hu) hs, hfs]
  exact eqFields_of w fs.toList b (fun f hf => hn f hf) (by rw [hm]; exact hf)
 cases h
theorem eqItems_of {d c : Nat} {cs ds : List Value} (w : World) : ∀ (is : List Nat) (b : Bool), EqFs P d cs ds (is.map fun i => (e, i * c)) b → (Op.eqItems d e c cs.toArray ds.toArray is).run P w = .ok b w
  | [], b, h => by cases h; simp [Op.eqItems]
  | i :: is, b, h => by
    rw [List.map_cons] at h
    cases h with
    | cons h1 h2 hp hr =>
      rename_i as bs b1 b2
      obtain ⟨x, y, p1, p2, p3⟩ := hp w cs.toArray ds.toArray (i * c) h1 h2
      have ih := eqItems_of w is b2 hr
      simp only [Op.eqItems, Sem.run_bind, p1, p2, p3, Result.andThen_ok]
      cases b1
      · simp
      · simpa using ih
theorem EqTop.rows {d m c : Nat} {cs ds : List Value} {fl : List (TypeId × Nat)} {b : Bool} (hu : P.underlying t = some (.array m e)) (hs : (P.info? e).map (·.size) = some c) (hfl : (List.range m).map (fun i => (e, i * c)) = fl) (hf : EqFs P d cs ds fl b) : EqTop P (d + 1) t cs ds b := fun w => by
 obtain ⟨i, hi, hz⟩ := Option.map_eq_some_iff.1 hs
 subst hfl
 have hc : P.cellsOf e = c := by simp [Program.cellsOf, hi, hz]
 rw [run_equalIn_array w d cs.toArray ds.toArray hu hi, hc]
 exact eqItems_of w _ b hf
theorem Runs.eql_top {cs ds : List Value} {b : Bool} (h : EqTop P 10000 t cs ds b) (hgd : P.eqGuardType P.depth t = false) (hx : ev n l X = some (.agg cs.toArray)) (hy : ev n l Y = some (.agg ds.toArray)) :
  Runs P (.binOp .eql t X Y t') ty n l w (.bool b) := fun ρ _ _ _ _ hρ => by
 have e1 := hρ _ _ hx; have e2 := hρ _ _ hy
 have hr := h w
 simp only [execOp, e1, e2, Sem.run_bind, run_eqGuard_agg (P := P) w .eql t X Y _ _ hgd, run_eql_struct, hr, Result.andThen_ok, Sem.run_pure]
theorem Runs.neq_top {cs ds : List Value} {b : Bool} (h : EqTop P 10000 t cs ds b) (hgd : P.eqGuardType P.depth t = false) (hx : ev n l X = some (.agg cs.toArray)) (hy : ev n l Y = some (.agg ds.toArray)) :
  Runs P (.binOp .neq t X Y t') ty n l w (.bool (!b)) := fun ρ _ _ _ _ hρ => by
 have e1 := hρ _ _ hx; have e2 := hρ _ _ hy
 have hr := h w
 simp only [execOp, e1, e2, Sem.run_bind, run_eqGuard_agg (P := P) w .neq t X Y _ _ hgd, run_neq_struct, hr, Result.andThen_ok, Sem.run_pure]
theorem AW.takeoff {op : Op} {fuel : Nat} {listed : Array Bool} (i : Nat) (hi : ops[i]? = some ⟨some d, op, ty, pos, af, g⟩) (hs : Region.noSelect ops = true) (hf : Region.free .any ops listed i = true) (hr : (Region.ready .any ops listed).contains i = true)
  (hw : Wanted ops g n l false) (h : AW dl P ops Q fuel (listed.setIfInBounds i true) n ((d, undef) :: l) w) : AW dl P ops Q (fuel + 1) listed n l w := fun b hb hd =>
 wpAny_take hi hs hf hr (fun c a w h => h.elim) (.inr ⟨hw b hb, rfl⟩) (h b hb hd)
section
variable {C : World → Prop} {fuel : Nat} {listed : Array Bool} {v : Value}
def wpAnyC (P : Program) (ops : Array Oper) (Q : Exit → Act → World → Prop) (C : World → Prop) : Nat → Array Bool → Act → World → Prop
 | 0, listed, a, w => wpAny P .any ops Q 0 listed a w
 | fuel + 1, listed, a, w => (Region.ready .any ops listed = [] → Q .normal a w) ∧ ∀ i ∈ Region.ready .any ops listed, wpOp P ops Q i (fun a' w' => C w' ∧ wpAnyC P ops Q C fuel (listed.setIfInBounds i true) a' w') a w
theorem wpAnyC_drop : ∀ (fuel : Nat) (listed : Array Bool) (a : Act) (w : World), wpAnyC P ops Q C fuel listed a w → wpAny P .any ops Q fuel listed a w
 | 0, _, _, _, h => h
 | fuel + 1, listed, a, w, h => ⟨h.1, fun i hi => wpOp_mono (fun a' w' h' => wpAnyC_drop fuel _ _ _ h'.2) (h.2 i hi)⟩
theorem wpOp_keep {j : Nat} {oj : Oper} (hj : ops[j]? = some oj) {Y : Act → Prop} (h1 : ∀ a u, Y a → Y (a.put oj.dst u)) (h2 : ∀ (a : Act) d, Y a → Y { a with defers := d :: a.defers }) {K : Act → World → Prop} {a : Act} {w : World} (hy : Y a)
    (h : wpOp P ops Q j K a w) : wpOp P ops Q j (fun a' w' => Y a' ∧ K a' w') a w := by
  unfold wpOp at *
  simp only [hj] at *
  split
  · rename_i hw
    rw [if_pos hw] at h
    rcases h with h | h
    · refine .inl ?_
      unfold Oper.wp at *
      revert h
      cases (execOp a.eval oj).run P w with
      | ok n w' =>
        cases n <;> simp only [Oper.upon] <;> intro h
        all_goals first
          | exact h
          | exact ⟨h1 _ _ hy, h⟩
          | exact ⟨h1 _ _ (h2 _ _ hy), h⟩
          | exact Rows.mono h fun u w'' he => ⟨h1 _ _ hy, he⟩
          | exact Calls.mono h fun e w'' he => by
              cases e with
              | returned u => exact ⟨h1 _ _ hy, he⟩
              | panicked c => exact he
              | outgrown => exact he
      | halt x w' => cases x <;> simp only [Oper.upon] <;> intro h <;> exact h
    · exact .inr h
  · rename_i hw
    rw [if_neg hw] at h
    exact ⟨h1 _ _ hy, h⟩
def YieldsC (P : Program) (ops : Array Oper) (C : World → Prop) (o : Oper) (v : Value) (a : Act) : Prop :=
 (Region.wanted o (yielded ops a.tmps) = true ∧ ∀ w, C w → (execOp a.eval o).run P w = .ok (.value v) w) ∨ (Region.wanted o (yielded ops a.tmps) = false ∧ v = undef)
def still (d : Nat) (v : Value) : Oper := { dst := some d, op := .move (.const v), type := 0, pos := "", after := #[], guard := none }
theorem still_yields (d : Nat) (v : Value) (a : Act) : Yields P ops (still d v) v a := .inl ⟨rfl, fun w => by simp [still, execOp, Act.eval]⟩
theorem still_apart {d : Nat} {o oj : Oper} (hd : o.dst = some d) (h : o.apart ops oj = true) : (still d v).apart ops oj = true := by
 have hl : (still d v).looksAt ops = [] := by simp [still, Oper.looksAt, Op.operands]
 unfold Oper.apart at *
 rw [hl]
 rw [hd] at h
 simp only [still, Bool.and_eq_true] at h ⊢
 refine ⟨h.1, ?_⟩
 cases oj.dst <;> simp
theorem wpAnyC_first {i d : Nat} {o : Oper} (hi : ops[i]? = some o) (hd : o.dst = some d) (hs : Region.noSelect ops = true) (hQ : ∀ c a w, ¬ Q (.panic c) a w) :
  ∀ (fuel : Nat) (listed : Array Bool) (a : Act) (w : World),
   (∀ j oj, ops[j]? = some oj → j ≠ i → listed.getD j true = false → (∀ e ∈ oj.after, Region.binds .any e = true → e.on ≠ i) → o.apart ops oj = true) →
   i ∈ Region.ready .any ops listed → C w → YieldsC P ops C o v a →
   wpAnyC P ops Q C fuel (listed.setIfInBounds i true) (a.put (some d) v) w → wpAnyC P ops Q C (fuel + 1) listed a w := by
 have own : ∀ {K : Act → World → Prop} {a : Act} {w : World}, C w → YieldsC P ops C o v a → K (a.put (some d) v) w → wpOp P ops Q i K a w := fun hC hy hK => by
  unfold wpOp
  simp only [hi]
  rcases hy with ⟨hw, hv⟩ | ⟨hw, rfl⟩
  ·rw [if_pos hw]
   refine .inl ?_
   unfold Oper.wp
   rw [hv _ hC]
   simp only [Oper.upon, hd]
   exact hK
  rw [if_neg (by simp [hw]), hd]
  exact hK
 intro fuel
 induction fuel with
 | zero =>
  intro listed a w _ hr hC hy H
  refine ⟨fun h => (by rw [h] at hr; cases hr), fun j hj => ?_⟩
  by_cases hji : j = i
  ·subst hji; exact own hC hy ⟨hC, H⟩
  have := ready_mono hj hji
  rw [H.1] at this
  cases this
 | succ fuel ih =>
  intro listed a w hfree hr hC hy H
  refine ⟨fun h => (by rw [h] at hr; cases hr), fun j hj => ?_⟩
  by_cases hji : j = i
  ·subst hji; exact own hC hy ⟨hC, H⟩
  have h1 := H.2 j (ready_mono hj hji)
  obtain ⟨hjun, oj, hoj, hall⟩ := mem_ready.1 hj
  have hnot : ∀ e ∈ oj.after, Region.binds .any e = true → e.on ≠ i := fun e he hb heq => by
   have h1 := hall e he hb
   have h0 := (mem_ready.1 hr).1
   rw [heq] at h1
   by_cases h' : i < listed.size
   ·simp [h'] at h0 h1; rw [h0] at h1; cases h1
   simp [Array.getElem?_eq_none (Nat.le_of_not_lt h')] at h1
  have hap := hfree j oj hoj hji hjun hnot
  have hseli := Region.noSelect_spec hs i o
  have hselj := Region.noSelect_spec hs j oj
  obtain ⟨_, _, p3⟩ := Oper.apart_spec hap
  have h2 := wpOp_put (v := v) hoj (still_apart hd hap) (fun cs b => by simp [still]) (fun cs b => hselj cs b hoj) (fun c a w h => absurd h (hQ _ _ _)) (still_yields d v a) h1
  have h3 := wpOp_keep (Y := YieldsC P ops C o v) hoj (fun a u hY => by
   unfold YieldsC at *
   rw [execOp_put o (fun cs b => hseli cs b hi) a oj.dst u p3, wanted_put o a oj.dst u p3]
   exact hY) (fun a d hY => hY) hy h2
  refine wpOp_mono (fun a' w' h4 => ⟨h4.2.2.1, ih (listed.setIfInBounds j true) a' w' (fun k ok hk hki hun hno => ?_) (ready_mono hr (Ne.symm hji)) h4.2.2.1 h4.1 ?_⟩) h3
  ·refine hfree k ok hk hki ?_ hno
   by_cases hjk : j = k
   ·subst hjk; exact hjun
   rw [getD_set_ne true hjk] at hun; exact hun
  rw [Array.setIfInBounds_comm _ _ hji]
  exact h4.2.2.2
def AWC (C : World → Prop) (dl : List Deferred) (P : Program) (ops : Array Oper) (Q : Exit → Act → World → Prop) (fuel : Nat) (listed : Array Bool) (n : Nat) (l : Ov) (w : World) : Prop :=
 ∀ b : Act, b.tmps.size = n → b.defers = dl → wpAnyC P ops (noP Q) C fuel listed (ov b l) w
def AQC (C : World → Prop) (P : Program) (ops : Array Oper) (Q : Exit → Act → World → Prop) (fuel : Nat) (listed : Array Bool) : Exit → Act → World → Prop
 | .normal, a, w => C w ∧ wpAnyC P ops (noP Q) C fuel listed a w
 | .panic _, _, _ => False
 | e, a, w => Q e a w
theorem AWC.enter (h : AWC C dl P ops Q fuel listed n l w) : AW dl P ops Q fuel listed n l w := fun b hb hd => wpAnyC_drop _ _ _ _ (h b hb hd)
theorem AWC.take {op : Op} (i : Nat) (hi : ops[i]? = some ⟨some d, op, ty, pos, af, g⟩) (hs : Region.noSelect ops = true) (hf : Region.free .any ops listed i = true) (hr : (Region.ready .any ops listed).contains i = true)
  (hC : C w) (hw : Wanted ops g n l true) (hy : ∀ w, C w → Runs P op ty n l w v) (h : AWC C dl P ops Q fuel (listed.setIfInBounds i true) n ((d, v) :: l) w) : AWC C dl P ops Q (fuel + 1) listed n l w := fun b hb hd =>
 wpAnyC_first hi rfl hs (fun c a w h => h) fuel listed _ w (Region.free_spec hi hf) (by simpa using hr) hC (.inl ⟨hw b hb, fun w' hC' => hy w' hC' _ _ _ _ _ (fun x u hx => ev_sound hb hx)⟩) (h b hb hd)
theorem AWC.takeoff {op : Op} (i : Nat) (hi : ops[i]? = some ⟨some d, op, ty, pos, af, g⟩) (hs : Region.noSelect ops = true) (hf : Region.free .any ops listed i = true) (hr : (Region.ready .any ops listed).contains i = true)
  (hC : C w) (hw : Wanted ops g n l false) (h : AWC C dl P ops Q fuel (listed.setIfInBounds i true) n ((d, undef) :: l) w) : AWC C dl P ops Q (fuel + 1) listed n l w := fun b hb hd =>
 wpAnyC_first hi rfl hs (fun c a w h => h) fuel listed _ w (Region.free_spec hi hf) (by simpa using hr) hC (.inr ⟨hw b hb, rfl⟩) (h b hb hd)
theorem AWC.step {o : Oper} (i : Nat) (hi : ops[i]? = some o) (hr : Region.ready .any ops listed = [i]) (h : WL dl P ops (AQC C P ops Q fuel (listed.setIfInBounds i true)) [o] n l w) : AWC C dl P ops Q (fuel + 1) listed n l w := fun b hb hd => by
 refine ⟨fun h0 => (by rw [hr] at h0; cases h0), fun j hj => ?_⟩
 rw [hr] at hj
 obtain rfl : j = i := by simpa using hj
 have h1 := h b hb hd
 unfold wpOp
 simp only [hi]
 unfold wpList at h1
 split at h1
 ·rename_i hw
  rw [if_pos hw]
  rcases h1 with h1 | ⟨h1, h2⟩
  ·exact .inl (upon_post (fun c a w h => h) (fun a w h => h) h1)
  refine .inr ⟨h1, ?_⟩
  obtain ⟨a, w, q⟩ := h2
  exact ⟨a, w, q⟩
 rename_i hw
 rw [if_neg hw]
 exact h1
theorem AWC.back (hC : C w) (h : AWC C dl P ops Q fuel listed n l w) : QW dl (AQC C P ops Q fuel listed) .normal n l w := fun b hb hd => ⟨hC, h b hb hd⟩
theorem AWC.done (hr : Region.ready .any ops listed = []) (h : QW dl Q .normal n l w) : AWC C dl P ops Q fuel listed n l w := fun b hb hd => by
 cases fuel with
 | zero => exact ⟨hr, h b hb hd⟩
 | succ fuel => exact ⟨fun _ => h b hb hd, fun i hi => by rw [hr] at hi; cases hi⟩
end
theorem strCells_bl (s : ByteArray) : Lib.strCells s = iv .u8 (bl s) := by simp [Lib.strCells, iv, bl]
theorem append_str_at {W : World} {base : Nat} {t u e : TypeId} {i : TypeInfo} {v : Value} {m : Nat} {xs : List Value} {s : ByteArray} (ht : P.underlying t = some (.slice e)) (hu : P.underlying u = some .string) (hi : P.info? e = some i) (hz : i.zero = some (.int .u8 0))
  (hsize : i.size = 1) (hby : i.bytes = 1) (hown : W.ownsRow base e 1 v m xs) (hlim : m + s.size ≤ 1099511627776) (hbase : base ≤ W.heap.size) :
  ∃ v' w', (Builtin.append_ #[t, u] ty #[v, .string s]).run P W = .ok v' w' ∧ w'.ownsRow base e 1 v' (m + s.size) (xs ++ iv .u8 (bl s)) ∧ W.grownBy w' v.ownBlock ∧ (v'.ownBlock = v.ownBlock ∨ v'.ownBlock = some W.heap.size) := by
 obtain ⟨v', w', hr, ho, hg, _⟩ := Lib.run_append_own_string (P := P) W base t u ty e i ht hu hi hz hsize hby v m xs hown s (by simp only [maxLen]; omega) (by omega) hbase
 rw [strCells_bl] at ho
 refine ⟨v', w', hr, ho, hg, ?_⟩
 have key : ∀ (a : Value) (b : World), (Builtin.append_ #[t, u] ty #[v, .string s]).run P W = .ok a b → v' = a := fun a b h => by
  rw [hr] at h; cases h; rfl
 have hxl : xs.length = m := by simpa using hown.1
 rcases hown.2 with ⟨rfl, rfl⟩ | ⟨g, cap, cur, rfl, hbg, hgb, hnc, hcm, hcs, htake⟩
 ·by_cases hm : s.size = 0
  ·have hf := Lib.run_firstCells_string (P := P) W 1 s
   rw [hm] at hf
   exact .inl (by rw [key (.slice none 0 0) W (by simp [Builtin.append_, run_underlying ht, run_underlying hu, sizeOf, typeInfo, hi, hsize, Builtin.lenOf, hm, hf])])
  exact .inr (by rw [key _ _ (run_append_nil_string (P := P) W t u ty e i (.int .u8 0) ht hu hi hz s (by omega) (by omega) (by rw [hby]; omega))]; rfl)
 by_cases hroom : m + s.size ≤ cap
 ·have hcs' : cur.size = cap := by simpa using hcs
  exact .inl (by rw [key _ _ (Lib.run_append_room_string (P := P) W t u ty e i ht hu hi hsize g m cap cur hgb s hroom (by omega))]; rfl)
 have holds : ∀ j v, xs[j]? = some v → W.cell? ((⟨g, 0, none⟩ : Addr).add j) = some v := hown.cells (g := g) rfl
 exact .inr (by rw [key _ _ (Lib.run_append_grow_string (P := P) W t u ty e i (.int .u8 0) ht hu hi hz ⟨g, 0, none⟩ m cap xs (by rw [hsize]; simpa using hxl) holds s (by omega) (by omega) (by rw [hby]; exact growslice_fits (by omega) (by omega)))]; rfl)
theorem WL.append_str {i : Nat} {A : Option Addr} {c m N : Nat} {xs : List Value} {s : ByteArray} {u : TypeId} (hw : Wanted ops g n l true) (st : St w0 w L) (hk : L[i]? = some (.sl A c m xs e 1)) (ht : P.underlying t = some (.slice e)) (hu : P.underlying u = some .string) (he : ElemT P e (.int .u8 0) 1)
  (hx : ev n l X = some (.slice A m c)) (hy : ev n l Y = some (.string s)) (hN : m + s.size = N) (hlim : N ≤ 1099511627776)
  (h : ∀ A' c' w', St w0 w' (L.set i (.sl A' c' N (xs ++ iv .u8 (bl s)) e 1)) → WL dl P ops Q rest n ((d, .slice A' N c') :: l) w') :
  WL dl P ops Q (⟨some d, .call { callee := .builtin .append, args := #[X, Y], argTypes := #[t, u] }, ty, pos, af, g⟩ :: rest) n l w := by
 subst hN
 refine WL.go hw fun b hb' hd K hK => ?_
 have e1 := ev_sound (b := b) hb' hx; have e2 := ev_sound (b := b) hb' hy
 obtain ⟨ii, hi, hz, hsz, hby, hzc, hpos⟩ := he
 obtain ⟨v', w', hr, ho', hg, hat⟩ := append_str_at (P := P) (ty := ty) (s := s) ht hu hi hz hsz hby (st.row hk) hlim st.ext.size
 unfold Oper.wp execOp
 simp only [resolve, invoke, builtin, Sem.run_bind, Sem.run_pure, Result.andThen_ok, List.map_toArray, List.map_cons, List.map_nil, e1, e2, hr, Oper.upon_value]
 obtain ⟨A', c', rfl, hst⟩ := st.appended hk ho' hg hat
 exact hK _ _ (h A' c' w' hst b hb' hd)
end Go.Kr
