/- Regions that draw, in a class of worlds, up to a tail in one order that may leave the class; results out of memory. No program in sight. -/
import Derived.Test.YtmhcjafkdmcgoaaDoorKrM
namespace Go.Kr
open Go Go.RowKit
set_option linter.unusedVariables false
set_option linter.unusedSimpArgs false
variable {P : Program} {dl : List Deferred} {ops : Array Oper} {Q : Exit → Act → World → Prop} {rest : List Oper} {n d m gg : Nat} {l : Ov} {w w0 W : World} {L L' T T' R : List En} {t t' e : TypeId} {X Y : Operand} {ty : TypeId} {pos : String} {af : Array Edge} {g : Option (Nat × Bool)} {k k' : IntKind} {y : Int} {v : Value}
variable {C : World → Prop} {fuel : Nat} {listed : Array Bool}
theorem St.subset (st : St w0 W L) {W' : World} (st' : St w0 W' L') (h : ∀ x ∈ L, x ∈ L') : St w0 W' L := ⟨st'.ext, fun x hx => st'.ok x (h x hx), st.apart⟩
def wpAnyH (P : Program) (ops : Array Oper) (Q : Exit → Act → World → Prop) (C : World → Prop) (m gg : Nat) : Nat → Array Bool → Act → World → Prop
 | 0, listed, a, w => (∀ j ∈ Region.ready .any ops listed, m ≤ j) ∧ wpAny P .any ops Q gg listed a w
 | f + 1, listed, a, w => Region.ready .any ops listed ≠ [] ∧ ∀ i ∈ Region.ready .any ops listed, i < m ∧ wpOp P ops Q i (fun a' w' => C w' ∧ wpAnyH P ops Q C m gg f (listed.setIfInBounds i true) a' w') a w
theorem wpAnyH_drop : ∀ (f : Nat) (listed : Array Bool) (a : Act) (w : World), wpAnyH P ops Q C m gg f listed a w → wpAny P .any ops Q (f + gg) listed a w
  | 0, listed, a, w, h => by rw [Nat.zero_add]; exact h.2
  | f + 1, listed, a, w, h => by
    rw [show f + 1 + gg = (f + gg) + 1 by omega]
    exact ⟨fun h0 => absurd h0 h.1, fun i hi => wpOp_mono (fun a' w' h' => wpAnyH_drop f _ _ _ h'.2) (h.2 i hi).2⟩
theorem wpAnyH_first {i d : Nat} {o : Oper} (hi : ops[i]? = some o) (hd : o.dst = some d) (hs : Region.noSelect ops = true) (hQ : ∀ c a w, ¬ Q (.panic c) a w)
  (hsk : Region.sinkB .any ops m = true) (hch : Region.chainB .any ops m = true) (hn : m < ops.size) (hin : i < m) :
  ∀ (fuel : Nat) (listed : Array Bool) (a : Act) (w : World), HeadInv .any ops m listed →
   (∀ j oj, ops[j]? = some oj → j ≠ i → listed.getD j true = false → (∀ e ∈ oj.after, Region.binds .any e = true → e.on ≠ i) → o.apart ops oj = true) →
   i ∈ Region.ready .any ops listed → C w → YieldsC P ops C o v a →
   wpAnyH P ops Q C m gg fuel (listed.setIfInBounds i true) (a.put (some d) v) w → wpAnyH P ops Q C m gg (fuel + 1) listed a w := by
 have own : ∀ {K : Act → World → Prop} {a : Act} {w : World}, C w → YieldsC P ops C o v a → K (a.put (some d) v) w → wpOp P ops Q i K a w := fun hC hy hK => by
  unfold wpOp
  simp only [hi]
  rcases hy with ⟨hw, hv⟩ | ⟨hw, rfl⟩
  ·rw [if_pos hw]
   refine .inl ?_
   unfold Oper.wp
   rw [hv _ hC]
   simp only [Oper.upon, hd]
   exact hK
  rw [if_neg (by simp [hw]), hd]
  exact hK
 have head : ∀ {listed : Array Bool} {j : Nat}, HeadInv .any ops m listed → i ∈ Region.ready .any ops listed → j ∈ Region.ready .any ops listed → j < m := fun {listed j} inv hr hj => by
  rcases Nat.lt_or_ge j m with h | h
  ·exact h
  exact absurd hj (tail_waits hsk hch hn inv _ i rfl hin (mem_ready.1 hr).1 j h)
 intro fuel
 induction fuel with
 | zero =>
  intro listed a w inv _ hr hC hy H
  refine ⟨fun h => (by rw [h] at hr; cases hr), fun j hj => ?_⟩
  refine ⟨head inv hr hj, ?_⟩
  by_cases hji : j = i
  ·subst hji; exact own hC hy ⟨hC, H⟩
  have h1 := H.1 j (ready_mono hj hji)
  have h2 := head inv hr hj
  omega
 | succ fuel ih =>
  intro listed a w inv hfree hr hC hy H
  refine ⟨fun h => (by rw [h] at hr; cases hr), fun j hj => ?_⟩
  refine ⟨head inv hr hj, ?_⟩
  by_cases hji : j = i
  ·subst hji; exact own hC hy ⟨hC, H⟩
  have h1 := (H.2 j (ready_mono hj hji)).2
  have hjm := head inv hr hj
  obtain ⟨hjun, oj, hoj, hall⟩ := mem_ready.1 hj
  have hnot : ∀ e ∈ oj.after, Region.binds .any e = true → e.on ≠ i := fun e he hb heq => by
   have h1 := hall e he hb
   have h0 := (mem_ready.1 hr).1
   rw [heq] at h1
   by_cases h' : i < listed.size
   ·simp [h'] at h0 h1; rw [h0] at h1; cases h1
   simp [Array.getElem?_eq_none (Nat.le_of_not_lt h')] at h1
  have hap := hfree j oj hoj hji hjun hnot
  have hseli := Region.noSelect_spec hs i o
  have hselj := Region.noSelect_spec hs j oj
  obtain ⟨_, _, p3⟩ := Oper.apart_spec hap
  have h2 := wpOp_put (v := v) hoj (still_apart hd hap) (fun cs b => by simp [still]) (fun cs b => hselj cs b hoj) (fun c a w h => absurd h (hQ _ _ _)) (still_yields d v a) h1
  have h3 := wpOp_keep (Y := YieldsC P ops C o v) hoj (fun a u hY => by
   unfold YieldsC at *
   rw [execOp_put o (fun cs b => hseli cs b hi) a oj.dst u p3, wanted_put o a oj.dst u p3]
   exact hY) (fun a d hY => hY) hy h2
  refine wpOp_mono (fun a' w' h4 => ⟨h4.2.2.1, ih (listed.setIfInBounds j true) a' w' (inv.set hj hjm) (fun k ok hk hki hun hno => ?_) (ready_mono hr (Ne.symm hji)) h4.2.2.1 h4.1 ?_⟩) h3
  ·refine hfree k ok hk hki ?_ hno
   by_cases hjk : j = k
   ·subst hjk; exact hjun
   rw [getD_set_ne true hjk] at hun; exact hun
  rw [Array.setIfInBounds_comm _ _ hji]
  exact h4.2.2.2
def AWH (C : World → Prop) (m gg : Nat) (dl : List Deferred) (P : Program) (ops : Array Oper) (Q : Exit → Act → World → Prop) (fuel : Nat) (listed : Array Bool) (n : Nat) (l : Ov) (w : World) : Prop :=
 Region.noSelect ops = true → Region.sinkB .any ops m = true → Region.chainB .any ops m = true → m < ops.size → HeadInv .any ops m listed → ∀ b : Act, b.tmps.size = n → b.defers = dl → wpAnyH P ops (noP Q) C m gg fuel listed (ov b l) w
def AQH (C : World → Prop) (m gg : Nat) (P : Program) (ops : Array Oper) (Q : Exit → Act → World → Prop) (fuel : Nat) (listed : Array Bool) : Exit → Act → World → Prop
 | .normal, a, w => C w ∧ wpAnyH P ops (noP Q) C m gg fuel listed a w
 | .panic _, _, _ => False
 | e, a, w => Q e a w
theorem CW.region_awh {id : Nat} {os : List Oper} (m : Nat) (hm : P.follows .mixedOrders = true) (hB : (Region.noSelect os.toArray && Region.sinkB .any os.toArray m && Region.chainB .any os.toArray m && decide (m < os.toArray.size)) = true) (st : St w0 w L)
  (h : ∀ w', St w0 w' L → AWH C m (os.toArray.size - m) dl P os.toArray Q m (Array.replicate os.length false) n l w') : CW dl P (.region id os.toArray true) Q n l w := fun b hb hd => by
 simp only [Bool.and_eq_true, decide_eq_true_eq] at hB
 obtain ⟨⟨⟨h1, h2⟩, h3⟩, h4⟩ := hB
 refine wp_mono (Q := noP Q) ?_ fun e a w h => noP_imp h
 refine wp_region_any hm ?_
 have inv0 : HeadInv .any os.toArray m (Array.replicate os.length false) :=
  ⟨by simp, fun j oj _ hl => (by rw [getD_replicate_false] at hl; cases hl), fun t _ ht => getD_in (by simpa using ht) (getD_replicate_false _ _)⟩
 have := wpAnyH_drop _ _ _ _ (h _ st.drew h1 h2 h3 h4 inv0 b hb hd)
 rw [show m + (os.toArray.size - m) = os.toArray.size by omega] at this
 simpa using this
theorem AWH.take {op : Op} (i : Nat) (hi : ops[i]? = some ⟨some d, op, ty, pos, af, g⟩) (hin : i < m) (hf : Region.free .any ops listed i = true) (hr : (Region.ready .any ops listed).contains i = true)
  (hC : C w) (hw : Wanted ops g n l true) (hy : ∀ w, C w → Runs P op ty n l w v) (h : AWH C m gg dl P ops Q fuel (listed.setIfInBounds i true) n ((d, v) :: l) w) : AWH C m gg dl P ops Q (fuel + 1) listed n l w := fun hs hsk hch hn inv b hb hd =>
 wpAnyH_first hi rfl hs (fun c a w h => h) hsk hch hn hin fuel listed _ w inv (Region.free_spec hi hf) (by simpa using hr) hC (.inl ⟨hw b hb, fun w' hC' => hy w' hC' _ _ _ _ _ (fun x u hx => ev_sound hb hx)⟩) (h hs hsk hch hn (inv.set (by simpa using hr) hin) b hb hd)
theorem AWH.takeoff {op : Op} (i : Nat) (hi : ops[i]? = some ⟨some d, op, ty, pos, af, g⟩) (hin : i < m) (hf : Region.free .any ops listed i = true) (hr : (Region.ready .any ops listed).contains i = true)
  (hC : C w) (hw : Wanted ops g n l false) (h : AWH C m gg dl P ops Q fuel (listed.setIfInBounds i true) n ((d, undef) :: l) w) : AWH C m gg dl P ops Q (fuel + 1) listed n l w := fun hs hsk hch hn inv b hb hd =>
 wpAnyH_first hi rfl hs (fun c a w h => h) hsk hch hn hin fuel listed _ w inv (Region.free_spec hi hf) (by simpa using hr) hC (.inr ⟨hw b hb, rfl⟩) (h hs hsk hch hn (inv.set (by simpa using hr) hin) b hb hd)
theorem AWH.step {o : Oper} (i : Nat) (hi : ops[i]? = some o) (hin : i < m) (hr : Region.ready .any ops listed = [i]) (h : HeadInv .any ops m (listed.setIfInBounds i true) → Region.noSelect ops = true → Region.sinkB .any ops m = true → Region.chainB .any ops m = true → m < ops.size → WL dl P ops (AQH C m gg P ops Q fuel (listed.setIfInBounds i true)) [o] n l w) : AWH C m gg dl P ops Q (fuel + 1) listed n l w := fun hs hsk hch hn inv b hb hd => by
 refine ⟨fun h0 => (by rw [hr] at h0; cases h0), fun j hj => ?_⟩
 have inv' := inv.set (i := i) (by rw [hr]; simp) hin
 rw [hr] at hj
 obtain rfl : j = i := by simpa using hj
 refine ⟨hin, ?_⟩
 have h1 := h inv' hs hsk hch hn b hb hd
 unfold wpOp
 simp only [hi]
 unfold wpList at h1
 split at h1
 ·rename_i hw
  rw [if_pos hw]
  rcases h1 with h1 | ⟨h1, h2⟩
  ·exact .inl (upon_post (fun c a w h => h) (fun a w h => h) h1)
  refine .inr ⟨h1, ?_⟩
  obtain ⟨a, w, q⟩ := h2
  exact ⟨a, w, q⟩
 rename_i hw
 rw [if_neg hw]
 exact h1
theorem AWH.back (hC : C w) (inv : HeadInv .any ops m listed) (hs : Region.noSelect ops = true) (hsk : Region.sinkB .any ops m = true) (hch : Region.chainB .any ops m = true) (hn : m < ops.size) (h : AWH C m gg dl P ops Q fuel listed n l w) : QW dl (AQH C m gg P ops Q fuel listed) .normal n l w := fun b hb hd => ⟨hC, h hs hsk hch hn inv b hb hd⟩
theorem AWH.tail (hr : ((Region.ready .any ops listed).all fun j => decide (m ≤ j)) = true) (h : AW dl P ops Q gg listed n l w) : AWH C m gg dl P ops Q 0 listed n l w := fun hs hsk hch hn inv b hb hd =>
 ⟨fun j hj => of_decide_eq_true (List.all_eq_true.1 hr j hj), h b hb hd⟩
def Res (P : Program) (n : Nat) (l : Ov) (w : World) (r : ResultVar) (v : Value) : Prop := ∀ b : Act, b.tmps.size = n → match r with
 | .tmp x => (ov b l).tmps[x]?.getD undef = v
 | .cell a t => ∃ p, (ov b l).tmps[a]?.getD undef = .pointer (some p) ∧ (loadVar t p).run P w = .ok v w
theorem Res.tmp {x : Tmp} (hv : ev n l (.tmp x) = some v) : Res P n l w (.tmp x) v := fun b hb => by
 have := ev_sound (b := b) hb hv
 simpa [Act.eval] using this
theorem Res.row {p : Tmp} {m i bk : Nat} {Tt : TypeId} {cs : List Value} (hv : ev n l (.tmp p) = some (.pointer (some ⟨bk, 0, none⟩))) (ht : RowT P t m) (st : St w0 w L) (hk : L[i]? = some (.cells bk cs Tt)) (hm : cs.length = m) : Res P n l w (.cell p t) (.agg cs.toArray) := fun b hb => by
 have h1 := ev_sound (b := b) hb hv
 obtain ⟨dd, hu, hrow, hs⟩ := ht
 have h3 := run_loadVar_mid (P := P) w bk 0 t cs dd (rangeAt_of (o := 0) (m := cs.length) st hk (by simp)) hu hrow (by rw [hs, hm])
 exact ⟨⟨bk, 0, none⟩, by simpa [Act.eval] using h1, h3⟩
theorem Res.cell {p : Tmp} {i bk : Nat} {Tt : TypeId} (hv : ev n l (.tmp p) = some (.pointer (some ⟨bk, 0, none⟩))) (ht : OneCell P t) (st : St w0 w L) (hk : L[i]? = some (.cells bk [v] Tt)) : Res P n l w (.cell p t) v := fun b hb => by
 have h1 := ev_sound (b := b) hb hv
 have hc := st.cell (i := 0) hk (v := v) rfl
 refine ⟨⟨bk, 0, none⟩, by simpa [Act.eval] using h1, ?_⟩
 obtain ⟨dd, hu, hf⟩ := ht
 have : (isAgg t).run P w = .ok false w := by
  cases dd <;> simp_all [isAgg, run_underlying hu, flatT]
 simp [loadVar, this, load, Sem.run, hc]
def resOf (tmps : Array Value) (r : ResultVar) : Sem Value := match r with
 | .tmp t => pure (tmps.getD t undef)
 | .cell a t => do loadVar t (← asAddr (tmps.getD a undef))
theorem results_of (fn : Func) (tmps : Array Value) : results fn tmps = (do
  let vs ← fn.results.mapM (resOf tmps)
  pure (if h : vs.size = 1 then vs[0] else .tuple vs)) := by
 unfold results
 congr 1
theorem Res.run {r : ResultVar} (h : Res P n l w r v) (b : Act) (hb : b.tmps.size = n) : (resOf (ov b l).tmps r).run P w = .ok v w := by
 have h1 := h b hb
 cases r with
 | tmp x =>
  simp only at h1
  simp [resOf, h1]
 | cell a t =>
  obtain ⟨p, e1, e2⟩ := h1
  simp [resOf, e1, asAddr, e2]
theorem QW.retN1 {fn : Func} {R : Ending → World → Prop} {r1 : ResultVar} (hr : fn.results = #[r1]) (h1 : Res P n l w r1 v) (h : R (.returned v) w) : QW [] (bodyPost P fn R) .ret n l w := fun b hb hd => by
 refine ⟨by rw [ov_defers, hd], _, ?_, h⟩
 have e1 := h1.run b hb
 simp [results_of, hr, e1]
theorem QW.retN2 {fn : Func} {R : Ending → World → Prop} {r1 r2 : ResultVar} {v2 : Value} (hr : fn.results = #[r1, r2]) (h1 : Res P n l w r1 v) (h2 : Res P n l w r2 v2) (h : R (.returned (.tuple #[v, v2])) w) : QW [] (bodyPost P fn R) .ret n l w := fun b hb hd => by
 refine ⟨by rw [ov_defers, hd], _, ?_, h⟩
 have e1 := h1.run b hb
 have e2 := h2.run b hb
 simp [results_of, hr, e1, e2]
end Go.Kr
