/- A range over a function: rounds of the loop's body, and the loop. No program in sight. -/
import Derived.Test.YtmhcjafkdmcgoaaDoorKrF
import Derived.RangeFuncFrom
import Derived.RangeFuncCalls
import Derived.RangeFuncLeaves
import Derived.RangeFuncBox
import Derived.TacticsIn
import Derived.RangeFuncRecord
import Derived.DataElems
import Derived.Laws.Externs
namespace Go.Kr
open Go Go.RowKit
set_option linter.unusedVariables false
set_option linter.unusedSimpArgs false
variable {dl : List Deferred} {P : Program} {ops : Array Oper} {Q : Exit → Act → World → Prop} {rest : List Oper} {n m : Nat} {l l' : Ov} {w w0 W W' : World}
variable {d : Nat} {ty t t' e : TypeId} {pos : String} {af : Array Edge} {g : Option (Nat × Bool)} {v : Value} {L : List En}
def noDefer (o : Oper) : Bool := match o.op with | .defer _ => false | _ => true
theorem noDefer_spec {o : Oper} (h : noDefer o = true) (c : Call) : o.op ≠ .defer c := fun e => by simp [noDefer, e] at h
def AllF (F : Fence) : Prop := F = Fence.wide ∨ ∃ j, F = Fence.wide.inRound j
theorem AllF.depth {F : Fence} (h : AllF F) : F.depth = none := by rcases h with rfl | ⟨j, rfl⟩ <;> rfl
theorem AllF.fn {F : Fence} (h : AllF F) (f : FuncId) : F.fn f := by rcases h with rfl | ⟨j, rfl⟩ <;> exact trivial
theorem AllF.calls {F : Fence} (h : AllF F) {f : FuncId} {args : Array Value} {w : World} {R : Ending → World → Prop} (hc : Calls P f args w R) : CallsIn F m P f args w R := by
 have h1 : CallsIn Fence.wide m P f args w R := callsIn_wide.2 hc
 rcases h with rfl | ⟨j, rfl⟩
 ·exact h1
 exact h1.inRound j
theorem AllF.rows {F : Fence} (h : AllF F) {row : String} {args : Array Value} {w : World} {R : Value → World → Prop} (hc : Rows P row args w R) : RowsIn F m P row args w R := by
 have h1 : RowsIn Fence.wide m P row args w R := fun c cs _ => let ⟨v, w', r, s⟩ := hc c cs; ⟨v, w', r, stepsIn_wide.2 s⟩
 rcases h with rfl | ⟨j, rfl⟩
 ·exact h1
 exact h1
theorem uponIn_of_upon {o : Oper} {a : Act} {K K' : Act → World → Prop} {r : Result Next} {F : Fence} (hF : AllF F) (hK : ∀ a w, K a w → K' a w) (h : o.upon P a K Q r) : o.uponIn F m P a K' Q r := by
  have hd : F.depth = none := hF.depth
  cases r with
  | ok nx w' =>
    cases nx <;> simp only [Oper.upon, Oper.uponIn] at h ⊢ <;> first
      | exact hK _ _ h
      | (refine ⟨by simp [hd], hF.calls (Calls.mono h ?_)⟩
         intro e w'' he
         cases e <;> first | exact hK _ _ he | exact he)
      | exact ⟨by simp [hd], hF.rows (Rows.mono h fun _ _ he => hK _ _ he)⟩
  | halt x w' => cases x <;> simp only [Oper.upon, Oper.uponIn] at h ⊢ <;> exact h
theorem wpIn_of_wp {o : Oper} {a : Act} {w : World} {K K' : Act → World → Prop} {F : Fence} (hF : AllF F) (hn : noDefer o = true) (hK : ∀ a w, K a w → K' a w) (h : o.wp P a w K Q) : o.wpIn F m P a w K' Q := by
 refine ⟨fun f _ => hF.fn f, ?_⟩
 rw [Oper.semAt_eq _ _ _ (noDefer_spec hn)]
 exact uponIn_of_upon hF hK h
theorem wpListIn_of {F : Fence} (hF : AllF F) (hQ : ¬ LetsOut Q) : ∀ (rest : List Oper) (a : Act) (w : World), rest.all noDefer = true → wpList P ops Q rest a w → wpListIn F m P ops Q rest a w
  | [], a, w, _, h => h
  | o :: rest, a, w, hn, h => by
    simp only [List.all_cons, Bool.and_eq_true] at hn
    have ih := wpListIn_of hF hQ rest
    unfold wpList at h
    unfold wpListIn
    split at h
    · rename_i hw
      rw [if_pos hw]
      rcases h with h | ⟨_, h⟩
      · exact wpIn_of_wp hF hn.1 (fun a w h => ih a w hn.2 h) h
      · exact absurd h hQ
    · rename_i hw
      rw [if_neg hw]
      exact ⟨fun f _ => hF.fn f, ih _ _ hn.2 h⟩
theorem WL.round {F : Fence} (hF : AllF F) (hQ : ¬ LetsOut Q) {id : Nat} {os : List Oper} (hn : os.all noDefer = true) (h : WL dl P os.toArray Q os n l w) {b : Act} (hb : b.tmps.size = n) (hd : b.defers = dl) : (Code.region id os.toArray false).wpIn F m P Q (ov b l) w :=
 wpIn_region_lit (wpListIn_of hF hQ os _ _ hn (h b hb hd))
def WY (dl : List Deferred) (m : Nat) (P : Program) (ops : Array Oper) (Q : Exit → Act → World → Prop) (rest : List Oper) (n : Nat) (l : Ov) (w : World) : Prop :=
 ∀ b : Act, b.tmps.size = n → b.defers = dl → wpListIn Fence.wide m P ops Q rest (ov b l) w
theorem CW.region_y {id : Nat} {os : List Oper} (m : Nat) (h : WY dl m P os.toArray Q os n l w) : CW dl P (.region id os.toArray false) Q n l w := fun b hb hd =>
 wpIn_wide.1 (wpIn_region_lit (h b hb hd))
theorem WY.nil (h : QW dl Q .normal n l w) : WY dl m P ops Q [] n l w := fun b hb hd => h b hb hd
theorem WY.val {op : Op} (hr : Runs P op ty n l w v) (hn : noDefer ⟨some d, op, ty, pos, af, none⟩ = true) (h : WY dl m P ops Q rest n ((d, v) :: l) w) : WY dl m P ops Q (⟨some d, op, ty, pos, af, none⟩ :: rest) n l w := fun b hb hd => by
 unfold wpListIn
 rw [if_pos (show Region.wanted _ _ = true from rfl)]
 refine wpIn_of_wp (.inl rfl) hn (K := fun a w => wpListIn Fence.wide m P ops Q rest a w) (fun _ _ h => h) ?_
 unfold Oper.wp
 rw [hr _ _ _ _ _ (fun x u hx => ev_sound hb hx)]
 exact h b hb hd
theorem WY.yield {j : Nat} {xs : List Operand} {vs : List Value} {ats : Array TypeId} {R : Ending → World → Prop} {X : Operand} (hx : ev n l X = some (.func (.yield j) #[] #[])) (ha : evs n l xs = some vs)
  (hy : YieldAt Fence.wide (m - 1) P j vs.toArray w R)
  (h : ∀ e w', R e w' → ∃ v, e = .returned v ∧ WY dl m P ops Q rest n ((d, v) :: l) w') :
  WY dl m P ops Q (⟨some d, .call { callee := .value X, args := xs.toArray, argTypes := ats }, ty, pos, af, none⟩ :: rest) n l w := fun b hb hd => by
 obtain ⟨fn, tmps, assign, body, hrun, hround⟩ := hy
 have e1 := ev_sound (b := b) hb hx
 have e2 : xs.toArray.map (ov b l).eval = vs.toArray := by
  rw [← evs_sound (ρ := (ov b l).eval) (fun x u hx => ev_sound hb hx) ha]; simp
 unfold wpListIn
 rw [if_pos (show Region.wanted _ _ = true from rfl)]
 refine ⟨fun f _ => trivial, ?_⟩
 have hr : (execOp (ov b l).eval ⟨some d, .call { callee := .value X, args := xs.toArray, argTypes := ats }, ty, pos, af, none⟩).run P w = .ok (.round j fn tmps assign body) w := by
  simp [execOp, resolve, e1, Deferred.ofValue, invoke, e2, hrun]
 rw [show Fence.wide.round = none from rfl, Oper.semAt_none, hr, Oper.uponIn_round]
 refine ⟨by simp [Fence.wide], hround.mono fun e w' hR => ?_⟩
 obtain ⟨v, rfl, hv⟩ := h e w' hR
 exact hv b hb hd
theorem own_st {α σ : Type} {B : Nat} (hB : w0.heap.size ≤ B) (p : List α → σ → Prop) (Lf : σ → List En) (hc : ∀ s, celly (Lf s) = true) : OwnFrom B (fun pre W => ∃ s, p pre s ∧ St w0 W (Lf s)) := by
 rintro pre W W' row ⟨s, hp, st⟩ hg hr
 refine ⟨s, hp, st.other hg fun r e => ⟨Nat.le_trans hB (hr r e).1, fun en hen hb => ?_⟩⟩
 obtain ⟨cs, t, fr, hx⟩ := en_cells (st.ok en hen) (celly_mem (hc s) en hen) hb
 obtain ⟨_, o, ho, hcell⟩ := hr r e
 rw [hx] at ho
 cases ho
 simp [Obj.isCells] at hcell
theorem ov_tmps_defers (b : Act) (ds : List Deferred) : ∀ l, (ov { b with defers := ds } l).tmps = (ov b l).tmps
 | [] => rfl
 | p :: l => by simp [ov, Act.put, ov_tmps_defers b ds l]
theorem act_eq {a b : Act} (h1 : a.tmps = b.tmps) (h2 : a.defers = b.defers) : a = b := by cases a; cases b; simp_all
theorem ov_defers_with (b : Act) (ds : List Deferred) (l : Ov) : ({ tmps := (ov b l).tmps, defers := ds } : Act) = ov { b with defers := ds } l :=
 act_eq (ov_tmps_defers b ds l).symm (by rw [ov_defers])
theorem keeps_of_below (h : Below W.heap.size W W') : KeepsOthers W W' := ⟨h.size, fun k o hk _ => by
 rw [h.block k (Array.getElem?_eq_some_iff.1 hk).1]; exact hk⟩
theorem CW.range {α σ : Type} {gf p q id : Nat} {lb : Array Value} {X : Operand} {body : Code} {enc : α → Value} {Kp : World → World → Prop} {Sp : List α → Prop} {N : Nat} {xs0 : List α} {pos2 : String} {ty2 : TypeId} {af2 : Array Edge}
  (st : St w0 w L) (hx : ev n l X = some (.func (.func gf) #[] lb)) (he : Ent P gf) (hseq : SeqStopsK Fence.wide 2 P gf lb (fun x => #[enc x]) Kp (fun xs => xs = xs0) Sp N w)
  (hKt : ∀ {A B C : World}, Kp A B → Kp B C → Kp A C) (hKb : ∀ (W : World) (j : Nat) (o o' : Obj), w.heap.size ≤ j → W.heap[j]? = some o → o.isCells = false → Kp W (W.putObj j o'))
  (rel : List α → σ → Prop) (Lf : σ → List En) (hc : ∀ s, celly (Lf s) = true) (s0 : σ) (h0 : rel [] s0) (hL : L = Lf s0)
  (hbody : ∀ (j : Nat) (pre : List α) (x : α) (s : σ) (W : World), rel pre s → St w0 W (Lf s) → pre.length < N → ∀ b : Act, b.tmps.size = n → b.defers = [] →
   body.wpIn (Fence.wide.inRound j) 1 P (ownPostK Kp (fun pre W => ∃ s, rel pre s ∧ St w0 W (Lf s)) (fun _ _ _ => False) (pre ++ [x]) W) (ov b ((q, enc x) :: (p, enc x) :: l)) W)
  (hpn : Nat.blt p n = true)
  (hdone : ∀ (D : Nat) (s : σ) (W : World), rel xs0 s → St w0 W (.obj D (.deferred (some [])) :: Lf s) → QW ({ target := .collected D, args := #[] } :: dl) Q .normal n l W) :
  CW dl P (.rangeFunc X #[p] (.region id #[⟨some q, .assign (.tmp p), ty2, pos2, af2, none⟩] false) body) Q n l w := fun b hb hd => by
 refine wpIn_wide.1 (wpIn_rangeFunc_ownF (n := 3) (w0 := w) rfl (by omega) (ev_sound hb hx) trivial (fun args w => he.run args w) hseq hKt (fun W j o o' h1 h2 h3 _ => hKb W j o o' h1 h2 h3) (Below.refl _ _) (fun _ => rfl)
  (fun pre W => ∃ s, rel pre s ∧ St w0 W (Lf s)) (fun _ _ _ => False) (own_st st.ext.size rel Lf hc) (fun c s W W' row h _ _ => h) ⟨s0, h0, hL ▸ st⟩
  (fun x => ov { b with defers := [] } ((q, enc x) :: (p, enc x) :: l)) ?_ ?_ ?_ ?_)
 ·intro j x W K hK
  have hact : ({ tmps := (#[p].zip #[enc x]).foldl (fun t (p, v) => t.setIfInBounds p v) (ov b l).tmps, defers := [] } : Act) = ov { b with defers := [] } ((p, enc x) :: l) := by
   refine act_eq ?_ ?_
   ·show _ = (ov { b with defers := [] } l |>.put (some p) (enc x)).tmps
    simp [Act.put, ov_tmps_defers]
   rw [ov_defers]
  rw [hact]
  have hev : ev n ((p, enc x) :: l) (.tmp p) = some (enc x) := by simp [ev, lk, hpn]
  have hb' : ({ b with defers := [] } : Act).tmps.size = n := hb
  refine wpIn_region_lit (wpListIn_of (.inr ⟨j, rfl⟩) (fun ⟨a, w, h⟩ => h) _ _ _ rfl ?_)
  unfold wpList
  rw [if_pos (show Region.wanted _ _ = true from rfl)]
  refine .inl ?_
  unfold Oper.wp
  rw [(Runs.assign (P := P) (n := n) (l := (p, enc x) :: l) (w := W) (v := enc x) hev) _ (some q) pos2 af2 none (fun x u hx => ev_sound hb' hx)]
  exact hK
 ·intro j pre x W ⟨s, hr, hst⟩ hlt
  exact hbody j pre x s W hr hst hlt _ hb rfl
 ·rintro D xs W hD rfl ⟨s, hr, hst⟩ hobj
  have hb2 : w0.heap.size ≤ D := Nat.le_trans st.ext.size hD
  have hst2 : St w0 W (.obj D (.deferred (some [])) :: Lf s) := by
   refine ⟨hst.ext, ?_, ?_⟩
   ·intro e he
    rcases List.mem_cons.1 he with rfl | he
    ·exact ⟨hb2, hobj⟩
    exact hst.ok e he
   refine List.pairwise_cons.2 ⟨?_, hst.apart⟩
   intro y hy b' hb' hb''
   simp only [En.blk, Option.some.injEq] at hb'
   subst hb'
   obtain ⟨cs, t, fr, hx⟩ := en_cells (hst.ok y hy) (celly_mem (hc s) y hy) hb''
   rw [hx] at hobj
   cases hobj
  have := hdone D s W hr hst2 { b with defers := { target := .collected D, args := #[] } :: b.defers } hb (by rw [← hd])
  rw [← ov_defers_with b _ l] at this
  rw [ov_defers]
  exact this
 intro D c pre W _ _ h
 exact h.elim
theorem CW.enterM {f : FuncId} {fn : Func} {c : Code} {R : Ending → World → Prop} (hf : P.funcs[f]? = some fn) (hb : fn.body = some c) (hn : fn.ntmps = n) (args : List Value)
  (hs : args.length ≤ n) (h : CW [] P c (bodyPostM Fence.wide 0 P fn R) n (argO 0 args) w) : Calls P f args.toArray w R := by
 subst hn
 refine callsIn_wide.1 (callsIn_of_wp_marks (n := 0) hf hb trivial (wpIn_wide.2 ?_) rfl)
 have := h { tmps := args.toArray ++ Array.replicate (fn.ntmps - args.toArray.size) undef, defers := [] } (by simp; omega) rfl
 rwa [ov_self (fun p hp => by
  obtain ⟨_, h2⟩ := argO_mem args 0 p hp
  have hlt : p.1 < args.length := by
   have := List.getElem?_eq_some_iff.1 h2
   obtain ⟨h3, _⟩ := this
   omega
  simp only [Nat.sub_zero] at h2
  rw [Array.getElem?_append_left (by simpa using hlt)]
  simpa using h2)] at this
theorem St.shut (st : St w0 w L) {i D : Nat} (hk : L[i]? = some (.obj D (.deferred (some [])))) : St w0 (w.putObj D (.deferred none)) (L.set i (.obj D (.deferred none))) := by
 have ho := st.ok _ (List.mem_of_getElem? hk)
 refine st.turn hk (row := some D) rfl (grownBy_putObj' w D _) ⟨ho.1, ?_⟩ (fun b hb => .inl hb)
 exact World.putObj_heap_same ((Array.getElem?_eq_some_iff.1 ho.2).1)
theorem QW.retMc {fn : Func} {R : Ending → World → Prop} {p D i j : Nat} {T : TypeId} {k : IntKind} {xs : List Int} {mm bk : Nat} (st : St w0 w L) (hD : L[i]? = some (.obj D (.deferred (some [])))) (hr : fn.results = #[.cell p t]) (ht : ArrT P t mm e k)
  (hv : ev n l (.tmp p) = some (.pointer (some ⟨bk, 0, none⟩))) (hj : j ≠ i) (hc : L[j]? = some (.cells bk (iv k xs) T)) (hl : xs.length = mm)
  (h : ∀ w', St w0 w' (L.set i (.obj D (.deferred none))) → R (.returned (.agg (iv k xs).toArray)) w') : QW [{ target := .collected D, args := #[] }] (bodyPostM Fence.wide m P fn R) .ret n l w := fun b hb hd => by
 have ho := st.ok _ (List.mem_of_getElem? hD)
 have st2 := st.shut hD
 have hc2 : (L.set i (.obj D (.deferred none)))[j]? = some (.cells bk (iv k xs) T) := by rw [List.getElem?_set_ne (Ne.symm hj)]; exact hc
 show LeavesInM Fence.wide m P fn (ov b l).tmps R (ov b l).defers .returning w
 rw [ov_defers, hd]
 refine ⟨by simp, .inl ⟨D, _, rfl, run_takeDeferred ho.2, ?_⟩⟩
 have hev := ev_sound (b := b) hb hv
 exact ⟨_, run_results_cell hr ht _ (by simpa [Act.eval, Array.getD_eq_getD_getElem?] using hev) (st2.blk hc2) hl, h _ st2⟩
theorem CW.region_qC {C : World → Prop} {id : Nat} {os : List Oper} (hm : P.follows .mixedOrders = true) (hB : Region.lexB .any os.toArray = true) (hC : C { w with drawn := w.drawn + 1 })
  (h : HL dl P os.toArray C Q [] os n l) : CW dl P (.region id os.toArray true) Q n l w := fun b hb hd =>
 wp_region_quiet (C := C) hm hB hC (h b hb hd)
theorem QW.end0 {fn : Func} {R : Ending → World → Prop} (hr : fn.results = #[]) (h : R (.returned (.tuple #[])) w) : QW [] (bodyPost P fn R) .normal n l w := fun b hb hd =>
 ⟨by rw [ov_defers, hd], _, results_none hr _ _ _, h⟩
theorem QW.ret0 {fn : Func} {R : Ending → World → Prop} (hr : fn.results = #[]) (h : R (.returned (.tuple #[])) w) : QW [] (bodyPost P fn R) .ret n l w := fun b hb hd =>
 ⟨by rw [ov_defers, hd], _, results_none hr _ _ _, h⟩
theorem Runs.slice_3 {A B : Option Addr} {mm c N M : Nat} {x y z : Int} {k k' k'' : IntKind} {X lo hi mx : Operand} (hu : P.underlying t = some (.slice e)) (hs : P.cellsOf e = 1) (hx : ev n l X = some (.slice A mm c))
  (hl : ev n l lo = some (.int k x)) (hh : ev n l hi = some (.int k' y)) (hm : ev n l mx = some (.int k'' z)) (h0 : 0 ≤ x) (h1 : x ≤ y) (h2 : y ≤ z) (h3 : z ≤ c) (hB : B = if z.toNat = x.toNat then A else A.map (·.add x.toNat)) (hN : N = y.toNat - x.toNat) (hM : M = z.toNat - x.toNat) :
  Runs P (.slice t X (some lo) (some hi) (some mx)) ty n l w (.slice B N M) := fun ρ _ _ _ _ hρ => by
 have e1 := hρ _ _ hx; have e2 := hρ _ _ hl; have e3 := hρ _ _ hh; have e4 := hρ _ _ hm
 obtain ⟨i, hi', hz⟩ := info_of_cells hs (by decide)
 have ht : P.underlying t = some (.slice (P.elem t)) := by rw [cellsOf_elem hu]; exact hu
 subst hB; subst hN; subst hM
 simp only [execOp, e1, e2, e3, e4, Option.map_some, Sem.run_bind, run_sliceAt_slice w t _ _ _ _ ht, run_slice_lhm w t A mm c ht k k' k'' x y z h0 h1 h2 h3, sizeOf, typeInfo, cellsOf_elem hu]
 simp [hi', hz, sliced]
theorem Runs.makeFunc {f : Fn} {xs : List Operand} {vs : List Value} (ha : evs n l xs = some vs) : Runs P (.makeFunc f #[] xs.toArray) ty n l w (.func f #[] vs.toArray) := fun ρ _ _ _ _ hρ => by
 have h := evs_sound hρ ha
 have h2 : xs.toArray.map ρ = vs.toArray := by rw [← h]; simp
 simp [execOp, h2, Instr.makeFunc]
def chl {α : Type} (xs : List α) (c j : Nat) : List α := (xs.drop (c * j)).take c
theorem chl_length {α : Type} (xs : List α) (c j : Nat) : min c (xs.length - c * j) = (chl xs c j).length := by simp [chl]
theorem Src.chunk {A : Option Addr} {k : IntKind} {xs : List Int} (h : Src w A (iv k xs)) (c j : Nat) : Src w (A.map (·.add (c * j))) (iv k (chl xs c j)) := fun i v hv => by
 have hv' : ((iv k xs).drop (c * j)).take c = iv k (chl xs c j) := by simp [iv, chl, List.map_drop, List.map_take]
 rw [← hv', List.getElem?_take] at hv
 split at hv
 ·rw [List.getElem?_drop] at hv
  obtain ⟨a, ha, hcell⟩ := h _ _ hv
  refine ⟨a.add (c * j), by rw [ha]; rfl, ?_⟩
  rw [Addr.add_add]; exact hcell
 cases hv
theorem foldl_fin {α : Type} (g : Nat → α → α) (s : α) (q : Nat) : (List.finRange q).foldl (fun s x => g x.val s) s = (List.range q).foldl (fun s x => g x s) s := by
 have : List.range q = (List.finRange q).map (·.val) := by
  apply List.ext_getElem
  ·simp
  intro i h1 h2; simp
 rw [this, List.foldl_map]
theorem keeps_of_grown {bk : Nat} {cs : Array Value} {T : TypeId} {fr : Nat × Nat} (hg : w.grownBy W (some bk)) (hc : w.heap[bk]? = some (.cells cs T fr)) : KeepsOthers w W :=
 KeepsOthers.of_grownBy hg fun j o e ho => by cases e; rw [hc] at ho; cases ho; rfl
theorem WL.store_arrK {i bk m : Nat} {T : TypeId} {k : IntKind} {cs : List Value} {xs : List Int} {X Y : Operand} (st : St w0 w L) (hk : L[i]? = some (.cells bk cs T)) (ht : ArrT P t m e k) (hx : ev n l X = some (.pointer (some ⟨bk, 0, none⟩))) (hcs : cs.length = m) (hl : xs.length = m)
  (hy : ev n l Y = some (.agg (iv k xs).toArray))
  (h : ∀ w', St w0 w' (L.set i (.cells bk (iv k xs) T)) → KeepsOthers w w' → WL dl P ops Q rest n l w') : WL dl P ops Q (⟨none, .store t X Y, ty, pos, af, none⟩ :: rest) n l w := by
 refine WL.go .none fun b hb' hd K hK => ?_
 have e1 := ev_sound (b := b) hb' hx; have e2 := ev_sound (b := b) hb' hy
 have ho := st.ok _ (List.mem_of_getElem? hk)
 have hr := run_storeVar_row (P := P) w bk T t cs.toArray (iv k xs).toArray ho.2 (ht.size hl) (by simp [iv, hcs, hl]) (all_one_iv k xs)
 unfold Oper.wp execOp
 simp only [Sem.run_bind, e1, e2, Instr.storeAt, Instr.sureAddr, Sem.run_pure, Result.andThen_ok, hr, Oper.upon_skip]
 have hg : w.grownBy (w.setRow bk (iv k xs).toArray) (some bk) := ⟨rfl, rfl, rfl, by simp, fun j _ hj => setRow_other w bk j _ (fun e => hj (by simp [e]))⟩
 refine hK _ _ (h _ (st.turn (W' := w.setRow bk (iv k xs).toArray) hk (row := some bk) rfl hg ⟨ho.1, ?_⟩ (fun b hb => .inl hb)) (keeps_of_grown hg ho.2) b hb' hd)
 exact setRow_heap w bk _ _ T _ ho.2
def ExtIB (P : Program) (f : FuncId) : Prop := ∀ (args : Array Value) (w : World), (callFunc f args).run P w = ((Extern.BytealgIndexByte.indexByte args).run P w).andThen fun v w' => .ok (.value v) w'
theorem ExtIB.of {f : FuncId} {fn : Func} (hf : P.funcs[f]? = some fn) (hname : (fn.name == "runtime.NumGoroutine") = false) (hb : fn.body.isNone = true) (hn : Extern.findNext fn = none) (he : Extern.find fn = some Extern.BytealgIndexByte.indexByte) : ExtIB P f :=
 fun args w => run_callFunc_extern hf hname hb hn he args w
end Go.Kr
