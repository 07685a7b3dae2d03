/- Words for walks: frames as lists of what is known of their slots; one rule an operation. No program in sight. -/
import Derived.WalkKit
import Derived.Still
import Derived.StillTail
import Derived.Deep.Quiet
import Derived.RowKit3
import Derived.Scope
namespace Go.Kr
open Go Go.RowKit
set_option linter.unusedVariables false
set_option linter.unusedSimpArgs false
abbrev Ov := List (Nat × Value)
def ov (b : Act) : Ov → Act
 | [] => b
 | p :: l => (ov b l).put (some p.1) p.2
def lk : Ov → Nat → Option Value
 | [], _ => none
 | (d, v) :: l, s => bif Nat.beq d s then some v else lk l s
def ev (n : Nat) (l : Ov) : Operand → Option Value
 | .tmp t => bif Nat.blt t n then lk l t else none
 | .const v => some v
 | .global g => some (.pointer (some ⟨g, 0, none⟩))
 | .func f => some (.func (.func f) #[] #[])
theorem put_size (a : Act) (d : Option Nat) (v : Value) : (a.put d v).tmps.size = a.tmps.size := by cases d <;> simp [Act.put]
theorem put_defers (a : Act) (d : Option Nat) (v : Value) : (a.put d v).defers = a.defers := by cases d <;> simp [Act.put]
theorem ov_size (b : Act) : ∀ l, (ov b l).tmps.size = b.tmps.size
 | [] => rfl
 | p :: l => by rw [ov, put_size, ov_size b l]
theorem ov_defers (b : Act) : ∀ l, (ov b l).defers = b.defers
 | [] => rfl
 | p :: l => by rw [ov, put_defers, ov_defers b l]
theorem ov_get (b : Act) {n : Nat} (hb : b.tmps.size = n) {s : Nat} (hs : s < n) : ∀ (l : Ov) (v : Value), lk l s = some v → (ov b l).tmps[s]? = some v
  | [], _, h => by simp [lk] at h
  | p :: l, v, h => by
    have hz : (ov b l).tmps.size = n := by rw [ov_size, hb]
    simp only [lk] at h
    by_cases e : p.1 = s
    · subst e
      simp only [Nat.beq_refl, cond_true, Option.some.injEq] at h
      simp [ov, Act.put, Array.getElem?_setIfInBounds, hz, hs, h]
    · have : Nat.beq p.1 s = false := by
        cases hq : Nat.beq p.1 s
        · rfl
        · exact absurd (Nat.eq_of_beq_eq_true hq) e
      simp only [this, cond_false] at h
      have := ov_get b hb hs l v h
      simp only [ov, Act.put]
      rw [Array.getElem?_setIfInBounds_ne e]
      exact this
theorem blt_of {t n : Nat} (h : Nat.blt t n = true) : t < n := by
 have : t + 1 ≤ n := by simpa [Nat.blt] using h
 omega
theorem ev_sound {b : Act} {n : Nat} (hb : b.tmps.size = n) {l : Ov} {x : Operand} {v : Value} (h : ev n l x = some v) : (ov b l).eval x = v := by
 cases x with
 | tmp t =>
  simp only [ev] at h
  cases hq : Nat.blt t n
  ·simp [hq] at h
  simp only [hq, cond_true] at h
  have := ov_get b hb (blt_of hq) l v h
  simp [Act.eval, this]
 | const v' => simpa [ev, Act.eval] using h
 | global g => simpa [ev, Act.eval] using h
 | func f => simpa [ev, Act.eval] using h
theorem put_self {a : Act} {s : Nat} {v : Value} (h : a.tmps[s]? = some v) : a.put (some s) v = a := by
 cases a with
 | mk t d =>
  simp only [Act.put, Act.mk.injEq, and_true]
  apply Array.ext_getElem?
  intro i
  rw [Array.getElem?_setIfInBounds]
  by_cases e : s = i
  ·subst e
   have hs : s < t.size := (Array.getElem?_eq_some_iff.1 h).1
   simp [hs]
   simpa [Array.getElem?_eq_getElem hs] using h.symm
  simp [e]
theorem ov_self {a : Act} : ∀ {l : Ov}, (∀ p ∈ l, a.tmps[p.1]? = some p.2) → ov a l = a
  | [], _ => rfl
  | p :: l, h => by
    rw [ov, ov_self (l := l) (fun q hq => h q (List.mem_cons_of_mem _ hq))]
    exact put_self (h p (List.mem_cons_self ..))
def subO (n : Nat) (l : Ov) : Ov → Prop
 | [] => True
 | p :: l' => ev n l (.tmp p.1) = some p.2 ∧ subO n l l'
theorem subO_spec {b : Act} {n : Nat} (hb : b.tmps.size = n) {l : Ov} : ∀ {l' : Ov}, subO n l l' → ov (ov b l) l' = ov b l
  | [], _ => rfl
  | p :: l', h => by
    rw [ov, subO_spec hb h.2]
    have h1 := h.1
    simp only [ev] at h1
    cases hq : Nat.blt p.1 n
    · simp [hq] at h1
    · simp only [hq, cond_true] at h1
      exact put_self (ov_get b hb (blt_of hq) l p.2 h1)
variable {dl : List Deferred} {P : Program} {ops : Array Oper} {Q : Exit → Act → World → Prop} {rest : List Oper} {n : Nat} {l l' : Ov} {w : World}
def WL (dl : List Deferred) (P : Program) (ops : Array Oper) (Q : Exit → Act → World → Prop) (rest : List Oper) (n : Nat) (l : Ov) (w : World) : Prop :=
 ∀ b : Act, b.tmps.size = n → b.defers = dl → wpList P ops Q rest (ov b l) w
def CW (dl : List Deferred) (P : Program) (c : Code) (Q : Exit → Act → World → Prop) (n : Nat) (l : Ov) (w : World) : Prop :=
 ∀ b : Act, b.tmps.size = n → b.defers = dl → c.wp P Q (ov b l) w
def QW (dl : List Deferred) (Q : Exit → Act → World → Prop) (e : Exit) (n : Nat) (l : Ov) (w : World) : Prop :=
 ∀ b : Act, b.tmps.size = n → b.defers = dl → Q e (ov b l) w
theorem WL.sub (l' : Ov) (h : subO n l l') (k : WL dl P ops Q rest n l' w) : WL dl P ops Q rest n l w := fun b hb hd => by
 have := k (ov b l) (by rw [ov_size, hb]) (by rw [ov_defers, hd])
 rwa [subO_spec hb h] at this
theorem CW.sub {c : Code} (l' : Ov) (h : subO n l l') (k : CW dl P c Q n l' w) : CW dl P c Q n l w := fun b hb hd => by
 have := k (ov b l) (by rw [ov_size, hb]) (by rw [ov_defers, hd])
 rwa [subO_spec hb h] at this
theorem QW.sub {e : Exit} (l' : Ov) (h : subO n l l') (k : QW dl Q e n l' w) : QW dl Q e n l w := fun b hb hd => by
 have := k (ov b l) (by rw [ov_size, hb]) (by rw [ov_defers, hd])
 rwa [subO_spec hb h] at this
theorem CW.seq {x y : Code} (h : CW dl P x (Exit.then (y.wp P Q) Q) n l w) : CW dl P (.seq x y) Q n l w := fun b hb hd => wp_seq (h b hb hd)
theorem CW.region {id : Nat} {os : List Oper} (h : WL dl P os.toArray Q os n l w) : CW dl P (.region id os.toArray false) Q n l w := fun b hb hd => wp_region_lit (h b hb hd)
theorem CW.cond {c : Operand} {x y : Code} {t : Bool} (hc : ev n l c = some (.bool t)) (ht : t = true → CW dl P x Q n l w) (hf : t = false → CW dl P y Q n l w) : CW dl P (.cond c x y) Q n l w :=
 fun b hb hd => wp_cond_split (ev_sound hb hc) (fun e => ht e b hb hd) (fun e => hf e b hb hd)
theorem evb {x : Operand} {t c : Bool} (h : ev n l x = some (.bool t)) (ht : t = c) : ev n l x = some (.bool c) := by subst ht; exact h
theorem CW.ct {c : Operand} {x y : Code} {t : Bool} (hc : ev n l c = some (.bool t)) (ht : t = true) (h : CW dl P x Q n l w) : CW dl P (.cond c x y) Q n l w := CW.cond hc (fun _ => h) (fun e => by rw [ht] at e; cases e)
theorem CW.cf {c : Operand} {x y : Code} {t : Bool} (hc : ev n l c = some (.bool t)) (ht : t = false) (h : CW dl P y Q n l w) : CW dl P (.cond c x y) Q n l w := CW.cond hc (fun e => by rw [ht] at e; cases e) (fun _ => h)
theorem CW.block {id : Nat} {c : Code} (h : CW dl P c (Exit.inBlock id Q) n l w) : CW dl P (.block id c) Q n l w := fun b hb hd => wp_block (h b hb hd)
theorem CW.skip (h : QW dl Q .normal n l w) : CW dl P .skip Q n l w := fun b hb hd => wp_skip (h b hb hd)
theorem CW.exit {id : Nat} (h : QW dl Q (.exit id) n l w) : CW dl P (.exit id) Q n l w := fun b hb hd => wp_exit (h b hb hd)
theorem CW.ret (h : QW dl Q .ret n l w) : CW dl P .ret Q n l w := fun b hb hd => wp_ret (h b hb hd)
theorem QW.then_n {y : Code} (h : CW dl P y Q n l w) : QW dl (Exit.then (y.wp P Q) Q) .normal n l w := h
theorem QW.then_x {K : Act → World → Prop} {id : Nat} (h : QW dl Q (.exit id) n l w) : QW dl (Exit.then K Q) (.exit id) n l w := h
theorem QW.then_r {K : Act → World → Prop} (h : QW dl Q .ret n l w) : QW dl (Exit.then K Q) .ret n l w := h
theorem QW.blk_n {id : Nat} (h : QW dl Q .normal n l w) : QW dl (Exit.inBlock id Q) .normal n l w := h
theorem QW.blk_r {id : Nat} (h : QW dl Q .ret n l w) : QW dl (Exit.inBlock id Q) .ret n l w := h
theorem QW.blk_x {id : Nat} (h : QW dl Q .normal n l w) : QW dl (Exit.inBlock id Q) (.exit id) n l w := fun b hb hd => by
 simp only [Exit.inBlock, if_true]; exact h b hb hd
def At (dl : List Deferred) (n : Nat) (I : Ov → World → Prop) (a : Act) (w : World) : Prop := ∃ b l, b.tmps.size = n ∧ b.defers = dl ∧ a = ov b l ∧ I l w
theorem QW.at {I : Ov → World → Prop} (l' : Ov) (h : subO n l l') (k : I l' w) : QW dl (Exit.then (At dl n I) Q) .normal n l w := fun b hb hd =>
 ⟨ov b l, l', by rw [ov_size, hb], by rw [ov_defers, hd], (subO_spec hb h).symm, k⟩
theorem CW.cut {x y : Code} (I : Ov → World → Prop) (h : CW dl P x (Exit.then (At dl n I) Q) n l w) (k : ∀ l' w', I l' w' → CW dl P y Q n l' w') : CW dl P (.seq x y) Q n l w := fun b hb hd =>
 wp_seq (wp_mono (h b hb hd) (by
  intro e a w' hq
  cases e <;> try exact hq
  obtain ⟨b', l', h1, h2, rfl, h3⟩ := hq
  exact k l' w' h3 b' h1 h2))
open Classical in
theorem wp_loop_fuel {c : Code} {a : Act} {w : World} (I : Nat → Act → World → Prop) {k : Nat} (h₀ : I k a w)
  (round : ∀ k a w, I k a w → c.wp P (Exit.then (fun a' w' => ∃ k', k' < k ∧ I k' a' w') Q) a w) : (Code.loop c).wp P Q a w := by
 have hex : ∀ {a w}, (∃ k, I k a w) → ∃ m, I m a w ∧ ∀ j, I j a w → m ≤ j := by
  intro a w h
  obtain ⟨k, hk⟩ := h
  induction k using Nat.strongRecOn with
  | _ k ih =>
   by_cases hj : ∃ j, j < k ∧ I j a w
   ·obtain ⟨j, h1, h2⟩ := hj
    exact ih j h1 h2
   exact ⟨k, hk, fun j hj' => Nat.le_of_not_lt fun hlt => hj ⟨j, hlt, hj'⟩⟩
 refine wp_loop (fun a w => ∃ k, I k a w) (fun a w => if h : ∃ k, I k a w then (hex h).choose else 0) ⟨k, h₀⟩ ?_
 intro a w h
 have hm := (hex h).choose_spec
 refine wp_mono (round _ a w hm.1) ?_
 intro e a' w' hq
 cases e <;> try exact hq
 obtain ⟨k', hlt, hk'⟩ := hq
 refine ⟨⟨k', hk'⟩, ?_⟩
 have h' : ∃ k, I k a' w' := ⟨k', hk'⟩
 simp only [h, h', dif_pos]
 exact Nat.lt_of_le_of_lt ((hex h').choose_spec.2 k' hk') hlt
theorem CW.loop {c : Code} (I : Nat → Ov → World → Prop) {k : Nat} (h₀ : I k l w) (zero : ∀ l w, ¬ I 0 l w)
  (round : ∀ k l w, I (k + 1) l w → CW dl P c (Exit.then (At dl n (I k)) Q) n l w) : CW dl P (.loop c) Q n l w := fun b hb hd => by
 refine wp_loop_fuel (fun k a w => At dl n (I k) a w) (k := k) ⟨b, l, hb, hd, rfl, h₀⟩ ?_
 rintro k a w ⟨b', l', h1, h2, rfl, h3⟩
 cases k with
 | zero => exact absurd h3 (zero _ _)
 | succ k =>
  refine wp_mono (round k l' w h3 b' h1 h2) ?_
  intro e a' w' hq
  cases e <;> try exact hq
  exact ⟨k, Nat.lt_succ_self _, hq⟩
def argO : Nat → List Value → Ov
 | _, [] => []
 | k, v :: vs => (k, v) :: argO (k + 1) vs
theorem argO_mem : ∀ (vs : List Value) (k : Nat) (p : Nat × Value), p ∈ argO k vs → k ≤ p.1 ∧ vs[p.1 - k]? = some p.2
  | [], _, _, h => by simp [argO] at h
  | v :: vs, k, p, h => by
    simp only [argO, List.mem_cons] at h
    rcases h with rfl | h
    · simp
    · obtain ⟨h1, h2⟩ := argO_mem vs (k + 1) p h
      refine ⟨by omega, ?_⟩
      rw [show p.1 - k = (p.1 - (k + 1)) + 1 by omega]
      simpa using h2
theorem CW.enter {f : FuncId} {fn : Func} {c : Code} {R : Ending → World → Prop} (hf : P.funcs[f]? = some fn) (hb : fn.body = some c) (hn : fn.ntmps = n) (args : List Value)
  (hs : args.length ≤ n) (h : CW [] P c (bodyPost P fn R) n (argO 0 args) w) : Calls P f args.toArray w R := by
 subst hn
 refine calls_of_wp hf hb ?_
 have := h { tmps := args.toArray ++ Array.replicate (fn.ntmps - args.toArray.size) undef, defers := [] } (by simp; omega) rfl
 rwa [ov_self (fun p hp => by
  obtain ⟨_, h2⟩ := argO_mem args 0 p hp
  have hlt : p.1 < args.length := by
   have := List.getElem?_eq_some_iff.1 h2
   obtain ⟨h3, _⟩ := this
   omega
  simp only [Nat.sub_zero] at h2
  rw [Array.getElem?_append_left (by simpa using hlt)]
  simpa using h2)] at this
theorem QW.ret1 {fn : Func} {R : Ending → World → Prop} {t : Tmp} (hr : fn.results = #[.tmp t]) {v : Value} (hv : ev n l (.tmp t) = some v) (h : R (.returned v) w) : QW [] (bodyPost P fn R) .ret n l w := fun b hb hd => by
 have := ev_sound (b := b) hb hv
 refine ⟨by rw [ov_defers, hd], v, ?_, h⟩
 rw [results_tmp hr]
 simp only [Act.eval] at this
 rw [this]
theorem QW.ret2 {fn : Func} {R : Ending → World → Prop} {t u : Tmp} (hr : fn.results = #[.tmp t, .tmp u]) {v v' : Value} (hv : ev n l (.tmp t) = some v) (hv' : ev n l (.tmp u) = some v') (h : R (.returned (.tuple #[v, v'])) w) : QW [] (bodyPost P fn R) .ret n l w := fun b hb hd => by
 have h1 := ev_sound (b := b) hb hv
 have h2 := ev_sound (b := b) hb hv'
 refine ⟨by rw [ov_defers, hd], _, results_tmp2 hr _ _ _, ?_⟩
 simp only [Act.eval] at h1 h2
 rw [h1, h2]
 exact h
section
variable {md : Region.Mode} {C : World → Prop}
def wpAnyLQ (P : Program) (md : Region.Mode) (ops : Array Oper) (C : World → Prop) (m : Nat) (L' : Array Bool → Act → Prop) : Nat → Array Bool → Act → Prop
 | 0, listed, a => L' listed a
 | f + 1, listed, a => Region.ready md ops listed ≠ [] ∧ ∀ i ∈ Region.ready md ops listed, i < m ∧ qOp P ops C i (wpAnyLQ P md ops C m L' f (listed.setIfInBounds i true)) a
theorem wpAny_of_headQ {m g : Nat} {L' : Array Bool → Act → Prop} {Q' : Exit → Act → World → Prop} (hL : ∀ listed a w, C w → L' listed a → wpAny P md ops Q' g listed a w) :
    ∀ (f : Nat) (listed : Array Bool) (a : Act) (w : World), C w → wpAnyLQ P md ops C m L' f listed a → wpAny P md ops Q' (f + g) listed a w
  | 0, listed, a, w, hw, h => by rw [Nat.zero_add]; exact hL _ _ _ hw h
  | f + 1, listed, a, w, hw, h => by
    rw [show f + 1 + g = (f + g) + 1 by omega]
    exact ⟨fun h0 => absurd h0 h.1, fun i hi => wpOp_of_qOp hw (fun a' w' hw' h' => wpAny_of_headQ hL f _ a' w' hw' h') (h.2 i hi).2⟩
theorem wpAnyLQ_first {m i : Nat} {oi : Oper} {v : Value} {L' : Array Bool → Act → Prop} (hi : ops[i]? = some oi) (hsel : ∀ (j : Nat) (o : Oper) cs b, ops[j]? = some o → o.op ≠ .select cs b)
  (hs : Region.sinkB md ops m = true) (hc : Region.chainB md ops m = true) (hn : m < ops.size) (hin : i < m)
  (hdone : ∀ listed a, L' listed a → ∀ j ∈ Region.ready md ops listed, m ≤ j) :
  ∀ (f : Nat) (listed : Array Bool) (a : Act), HeadInv md ops m listed →
   (∀ j oj, ops[j]? = some oj → j ≠ i → listed.getD j true = false → (∀ e ∈ oj.after, Region.binds md e = true → e.on ≠ i) → oi.apart ops oj = true) →
   i ∈ Region.ready md ops listed → YieldsIn P ops C oi v a →
   wpAnyLQ P md ops C m L' f (listed.setIfInBounds i true) (a.put oi.dst v) → wpAnyLQ P md ops C m L' (f + 1) listed a := by
 intro f
 induction f with
 | zero =>
  intro listed a inv _ hr hy H
  have hun := (mem_ready.1 hr).1
  refine ⟨fun h => (by rw [h] at hr; cases hr), fun j hj => ?_⟩
  have hjn : j < m := by
   rcases Nat.lt_or_ge j m with h | h
   ·exact h
   exact absurd hj (tail_waits hs hc hn inv _ i rfl hin hun j h)
  refine ⟨hjn, ?_⟩
  by_cases hji : j = i
  ·subst hji; exact hy.qOp hi H
  have := hdone _ _ H j (ready_mono hj hji)
  omega
 | succ f ih =>
  intro listed a inv hfree hr hy H
  have hun := (mem_ready.1 hr).1
  refine ⟨fun h => (by rw [h] at hr; cases hr), fun j hj => ?_⟩
  have hjn : j < m := by
   rcases Nat.lt_or_ge j m with h | h
   ·exact h
   exact absurd hj (tail_waits hs hc hn inv _ i rfl hin hun j h)
  refine ⟨hjn, ?_⟩
  by_cases hji : j = i
  ·subst hji; exact hy.qOp hi H
  have h1 := (H.2 j (ready_mono hj hji)).2
  obtain ⟨hjun, oj, hoj, hall⟩ := mem_ready.1 hj
  have hnot : ∀ e ∈ oj.after, Region.binds md e = true → e.on ≠ i := fun e he hb heq => by
   have h1 := hall e he hb
   rw [heq, getD_both hun] at h1
   cases h1
  have h2 := qOp_put hoj (hfree j oj hoj hji hjun hnot) (fun cs b => hsel i oi cs b hi) (fun cs b => hsel j oj cs b hoj) hy h1
  have hfree' : ∀ k ok, ops[k]? = some ok → k ≠ i → (listed.setIfInBounds j true).getD k true = false →
    (∀ e ∈ ok.after, Region.binds md e = true → e.on ≠ i) → oi.apart ops ok = true := fun k ok hk hki hun hno => by
   refine hfree k ok hk hki ?_ hno
   by_cases hjk : j = k
   ·subst hjk; exact hjun
   rw [getD_set_ne true hjk] at hun; exact hun
  refine qOp_mono (fun a' h3 => ih (listed.setIfInBounds j true) a' (inv.set hj hjn) hfree' (ready_mono hr (Ne.symm hji)) h3.1 ?_) h2
  rw [Array.setIfInBounds_comm _ _ hji]
  exact h3.2
theorem wpAnyLQ_lex {m g : Nat} {Lq : Act → Prop} (hsel : Region.noSelect ops = true) (hs : Region.sinkB md ops m = true) (hc : Region.chainB md ops m = true) (hn : m < ops.size) :
    ∀ (l : List Oper) (k : Nat) (listed : Array Bool) (a : Act), (∀ j, j < l.length → l[j]? = ops[k + j]?) → k + l.length = m → HeadInv md ops m listed →
    Region.lexHead md ops g l.length k listed = true → wpQuiet P ops C Lq l a →
    wpAnyLQ P md ops C m (fun listed' a' => Region.seqB md ops g m listed' = true ∧ Lq a') l.length listed a
  | [], k, listed, a, _, hk, _, hB, h => by
    have : k = m := by simpa using hk
    subst this
    exact ⟨by simpa [Region.lexHead] using hB, h⟩
  | o :: l, k, listed, a, hl, hk, inv, hB, h => by
    have h0 : ops[k]? = some o := by simpa using (hl 0 (by simp)).symm
    simp only [List.length_cons, Region.lexHead, Bool.and_eq_true] at hB
    obtain ⟨⟨hr, hf⟩, hB'⟩ := hB
    have hkn : k < m := by simp only [List.length_cons] at hk; omega
    have hr' : k ∈ Region.ready md ops listed := by simpa using hr
    have hst : qOp P ops C k (wpQuiet P ops C Lq l) a := by unfold qOp; simp only [h0]; exact h
    obtain ⟨v, hy, hK⟩ := yieldsIn_of_qOp h0 hst
    exact wpAnyLQ_first h0 (Region.noSelect_spec hsel) hs hc hn hkn (fun listed' a' hL => seqB_ready hL.1) l.length listed a inv (Region.free_spec h0 hf) hr' hy
      (wpAnyLQ_lex hsel hs hc hn l (k + 1) _ _ (fun j hj => by have := hl (j + 1) (by simp; omega); simpa [Nat.add_assoc, Nat.add_comm 1 j] using this) (by simp only [List.length_cons] at hk; omega) (inv.set hr' hkn) hB' hK)
theorem wp_region_quiet_tail {id : Nat} {a : Act} {w : World} {os : List Oper} (m : Nat) (hm : P.follows .mixedOrders = true) (hB : Region.lexTailB .any os.toArray m = true) (hC : C { w with drawn := w.drawn + 1 })
  (h : wpQuiet P os.toArray C (fun a' => ∀ w', C w' → wpList P os.toArray Q (os.drop m) a' w') (os.take m) a) : (Code.region id os.toArray true).wp P Q a w := by
 simp only [Region.lexTailB, Bool.and_eq_true, decide_eq_true_eq] at hB
 obtain ⟨⟨⟨⟨hsel, hn⟩, hs⟩, hc⟩, hlex⟩ := hB
 have hn' : m < os.length := by simpa using hn
 have htl : (os.take m).length = m := by simp; omega
 have hdl : (os.drop m).length = os.toArray.size - m := by simp
 have inv0 : HeadInv .any os.toArray m (Array.replicate os.toArray.size false) :=
  ⟨by simp, fun j oj _ hl => (by rw [getD_replicate_false] at hl; cases hl), fun t _ ht => getD_in (by simpa using ht) (getD_replicate_false _ _)⟩
 have H := wpAnyLQ_lex (C := C) (md := .any) (g := os.toArray.size - m) hsel hs hc hn (os.take m) 0 _ a (fun j hj => by
  have hj' : j < m := by rw [htl] at hj; exact hj
  simp [hj']) (by simpa using htl) inv0 (by rw [htl]; exact hlex) h
 refine wp_region_any hm ?_
 have := wpAny_of_headQ (Q' := Q) (g := os.toArray.size - m) (fun listed a' w' hw' hL => by
  have := wpAny_of_seq (md := .any) (Q' := Q) (os.drop m) m listed a' w' (fun j => by simp [List.getElem?_drop]) (by rw [hdl]; exact hL.1) (hL.2 w' hw')
  rwa [hdl] at this) _ _ _ _ hC H
 rw [htl, show m + (os.toArray.size - m) = os.toArray.size by omega] at this
 exact this
end
theorem WL.nil (h : QW dl Q .normal n l w) : WL dl P ops Q [] n l w := fun b hb hd => wpList_nil (h b hb hd)
end Go.Kr
