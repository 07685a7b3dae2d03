/- Words for the rounds of a range over a function: code within a fence, as everywhere; what is not owned stays. No program in sight. -/
import Derived.Test.YtmhcjafkdmcgoaaDoorKrI
import Derived.OrdersIn
namespace Go.Kr
open Go Go.RowKit
set_option linter.unusedVariables false
set_option linter.unusedSimpArgs false
variable {dl : List Deferred} {P : Program} {ops : Array Oper} {Q : Exit → Act → World → Prop} {rest : List Oper} {n m : Nat} {l l' : Ov} {w0 w W W' : World} {L L2 T : List En} {F : Fence}
variable {d : Nat} {ty : TypeId} {pos : String} {af : Array Edge} {g : Option (Nat × Bool)} {v : Value} {X Y : Operand} {t t' e : TypeId} {k k' : IntKind} {x y z : Int}
def CF (F : Fence) (m : Nat) (dl : List Deferred) (P : Program) (c : Code) (Q : Exit → Act → World → Prop) (n : Nat) (l : Ov) (w : World) : Prop :=
 ∀ b : Act, b.tmps.size = n → b.defers = dl → c.wpIn F m P Q (ov b l) w
theorem CF.sub {c : Code} (l' : Ov) (h : subO n l l') (k : CF F m dl P c Q n l' w) : CF F m dl P c Q n l w := fun b hb hd => by
 have := k (ov b l) (by rw [ov_size, hb]) (by rw [ov_defers, hd])
 rwa [subO_spec hb h] at this
theorem CF.seq {x y : Code} (h : CF F m dl P x (Exit.then (y.wpIn F m P Q) Q) n l w) : CF F m dl P (.seq x y) Q n l w := fun b hb hd => wpIn_seq (h b hb hd)
theorem CF.region {id : Nat} {os : List Oper} (hF : AllF F) (hQ : ¬ LetsOut Q) (hn : os.all noDefer = true) (h : WL dl P os.toArray Q os n l w) : CF F m dl P (.region id os.toArray false) Q n l w := fun b hb hd =>
 wpIn_region_lit (wpListIn_of hF hQ os _ _ hn (h b hb hd))
theorem CF.cond {c : Operand} {x y : Code} {t : Bool} (hc : ev n l c = some (.bool t)) (ht : t = true → CF F m dl P x Q n l w) (hf : t = false → CF F m dl P y Q n l w) : CF F m dl P (.cond c x y) Q n l w :=
 fun b hb hd => wpIn_cond_split (ev_sound hb hc) (fun e => ht e b hb hd) (fun e => hf e b hb hd)
theorem CF.ct {c : Operand} {x y : Code} {t : Bool} (hc : ev n l c = some (.bool t)) (ht : t = true) (h : CF F m dl P x Q n l w) : CF F m dl P (.cond c x y) Q n l w := CF.cond hc (fun _ => h) (fun e => by rw [ht] at e; cases e)
theorem CF.cf {c : Operand} {x y : Code} {t : Bool} (hc : ev n l c = some (.bool t)) (ht : t = false) (h : CF F m dl P y Q n l w) : CF F m dl P (.cond c x y) Q n l w := CF.cond hc (fun e => by rw [ht] at e; cases e) (fun _ => h)
theorem CF.block {id : Nat} {c : Code} (h : CF F m dl P c (Exit.inBlock id Q) n l w) : CF F m dl P (.block id c) Q n l w := fun b hb hd => wpIn_block (h b hb hd)
theorem CF.skip (h : QW dl Q .normal n l w) : CF F m dl P .skip Q n l w := fun b hb hd => wpIn_skip (h b hb hd)
theorem CF.exit {id : Nat} (h : QW dl Q (.exit id) n l w) : CF F m dl P (.exit id) Q n l w := fun b hb hd => wpIn_exit (h b hb hd)
theorem CF.ret (h : QW dl Q .ret n l w) : CF F m dl P .ret Q n l w := fun b hb hd => wpIn_ret (h b hb hd)
theorem QW.fthen_n {y : Code} (h : CF F m dl P y Q n l w) : QW dl (Exit.then (y.wpIn F m P Q) Q) .normal n l w := h
open Classical in
theorem wpIn_loop_fuel {c : Code} {a : Act} {w : World} (I : Nat → Act → World → Prop) {k : Nat} (h₀ : I k a w)
  (round : ∀ k a w, I k a w → c.wpIn F m P (Exit.then (fun a' w' => ∃ k', k' < k ∧ I k' a' w') Q) a w) : (Code.loop c).wpIn F m P Q a w := by
 have hex : ∀ {a w}, (∃ k, I k a w) → ∃ m, I m a w ∧ ∀ j, I j a w → m ≤ j := by
  intro a w h
  obtain ⟨k, hk⟩ := h
  induction k using Nat.strongRecOn with
  | _ k ih =>
   by_cases hj : ∃ j, j < k ∧ I j a w
   ·obtain ⟨j, h1, h2⟩ := hj
    exact ih j h1 h2
   exact ⟨k, hk, fun j hj' => Nat.le_of_not_lt fun hlt => hj ⟨j, hlt, hj'⟩⟩
 refine wpIn_loop (fun a w => ∃ k, I k a w) (fun a w => if h : ∃ k, I k a w then (hex h).choose else 0) ⟨k, h₀⟩ ?_
 intro a w h
 have hm := (hex h).choose_spec
 refine wpIn_mono (round _ a w hm.1) ?_
 intro e a' w' hq
 cases e <;> try exact hq
 obtain ⟨k', hlt, hk'⟩ := hq
 refine ⟨⟨k', hk'⟩, ?_⟩
 have h' : ∃ k, I k a' w' := ⟨k', hk'⟩
 simp only [h, h', dif_pos]
 exact Nat.lt_of_le_of_lt ((hex h').choose_spec.2 k' hk') hlt
theorem CF.loop {c : Code} (I : Nat → Ov → World → Prop) {k : Nat} (h₀ : I k l w) (zero : ∀ l w, ¬ I 0 l w)
  (round : ∀ k l w, I (k + 1) l w → CF F m dl P c (Exit.then (At dl n (I k)) Q) n l w) : CF F m dl P (.loop c) Q n l w := fun b hb hd => by
 refine wpIn_loop_fuel (fun k a w => At dl n (I k) a w) (k := k) ⟨b, l, hb, hd, rfl, h₀⟩ ?_
 rintro k a w ⟨b', l', h1, h2, rfl, h3⟩
 cases k with
 | zero => exact absurd h3 (zero _ _)
 | succ k =>
  refine wpIn_mono (round k l' w h3 b' h1 h2) ?_
  intro e a' w' hq
  cases e <;> try exact hq
  exact ⟨k, Nat.lt_succ_self _, hq⟩
theorem wpAnyIn_of {md : Region.Mode} (hF : AllF F) (hQ : ¬ LetsOut Q) (hn : ops.toList.all noDefer = true) : ∀ (fuel : Nat) (listed : Array Bool) (a : Act) (w : World), wpAny P md ops Q fuel listed a w → wpAnyIn F m P md ops Q fuel listed a w
  | 0, listed, a, w, h => h
  | fuel + 1, listed, a, w, h => by
    refine ⟨h.1, fun i hi => ?_⟩
    have h2 := h.2 i hi
    have ih := wpAnyIn_of (md := md) hF hQ hn fuel (listed.setIfInBounds i true)
    unfold wpOp at h2
    unfold wpOpIn
    split
    · rename_i ho
      rw [ho] at h2
      exact ih _ _ h2
    · rename_i o ho
      rw [ho] at h2
      simp only at h2
      split
      · rename_i hw
        rw [if_pos hw] at h2
        rcases h2 with h2 | ⟨_, h2⟩
        · have hno : noDefer o = true := by
            have := List.all_eq_true.1 hn o (by
              obtain ⟨hl, he⟩ := Array.getElem?_eq_some_iff.1 ho
              rw [← he]; exact Array.getElem_mem_toList _)
            exact this
          exact wpIn_of_wp hF hno ih h2
        · exact absurd h2 hQ
      · rename_i hw
        rw [if_neg hw] at h2
        exact ⟨fun f _ => hF.fn f, ih _ _ h2⟩
theorem CF.region_aw {id : Nat} {os : List Oper} (hF : AllF F) (hQ : ¬ LetsOut Q) (hn : os.all noDefer = true) (hm : P.follows .mixedOrders = true) (st : St w0 w L) (h : ∀ w', St w0 w' L → AW dl P os.toArray Q os.length (Array.replicate os.length false) n l w') : CF F m dl P (.region id os.toArray true) Q n l w := fun b hb hd => by
 refine wpIn_mono (Q := noP Q) ?_ fun e a w h => noP_imp h
 refine wpIn_region_any hm (wpAnyIn_of (Q := noP Q) hF (fun ⟨a, w, h⟩ => hQ ⟨a, w, h⟩) (show os.toArray.toList.all noDefer = true from hn) _ _ _ _ ?_)
 have := h _ st.drew b hb hd
 simpa using this
theorem wpAny_quiet_tail {C : World → Prop} {a : Act} {os : List Oper} (k : Nat) (hB : Region.lexTailB .any os.toArray k = true) (hC : C { w with drawn := w.drawn + 1 })
  (h : wpQuiet P os.toArray C (fun a' => ∀ w', C w' → wpList P os.toArray Q (os.drop k) a' w') (os.take k) a) : wpAny P .any os.toArray Q os.toArray.size (Array.replicate os.toArray.size false) a { w with drawn := w.drawn + 1 } := by
 simp only [Region.lexTailB, Bool.and_eq_true, decide_eq_true_eq] at hB
 obtain ⟨⟨⟨⟨hsel, hn⟩, hs⟩, hc⟩, hlex⟩ := hB
 have hn' : k < os.length := by simpa using hn
 have htl : (os.take k).length = k := by simp; omega
 have hdl : (os.drop k).length = os.toArray.size - k := by simp
 have inv0 : HeadInv .any os.toArray k (Array.replicate os.toArray.size false) :=
  ⟨by simp, fun j oj _ hl => (by rw [getD_replicate_false] at hl; cases hl), fun t _ ht => getD_in (by simpa using ht) (getD_replicate_false _ _)⟩
 have H := wpAnyLQ_lex (C := C) (md := .any) (g := os.toArray.size - k) hsel hs hc hn (os.take k) 0 _ a (fun j hj => by
  have hj' : j < k := by rw [htl] at hj; exact hj
  simp [hj']) (by simpa using htl) inv0 (by rw [htl]; exact hlex) h
 have := wpAny_of_headQ (Q' := Q) (g := os.toArray.size - k) (fun listed a' w' hw' hL => by
  have := wpAny_of_seq (md := .any) (Q' := Q) (os.drop k) k listed a' w' (fun j => by simp [List.getElem?_drop]) (by rw [hdl]; exact hL.1) (hL.2 w' hw')
  rwa [hdl] at this) _ _ _ _ hC H
 rw [htl, show k + (os.toArray.size - k) = os.toArray.size by omega] at this
 exact this
theorem CF.region_qt {id : Nat} {os : List Oper} (k : Nat) (hF : AllF F) (hQ : ¬ LetsOut Q) (hn : os.all noDefer = true) (hm : P.follows .mixedOrders = true) (hB : Region.lexTailB .any os.toArray k = true) (st : St w0 w L) (h : HL dl P os.toArray (fun w' => St w0 w' L) Q (os.drop k) (os.take k) n l) : CF F m dl P (.region id os.toArray true) Q n l w := fun b hb hd =>
 wpIn_region_any hm (wpAnyIn_of hF hQ (show os.toArray.toList.all noDefer = true from hn) _ _ _ _ (wpAny_quiet_tail k hB st.drew (h b hb hd)))
def others (w0 W : World) (L : List En) : List En := (List.range W.heap.size).filterMap fun k => if w0.heap.size ≤ k ∧ ∀ e ∈ L, e.blk ≠ some k then (W.heap[k]?).map (En.obj k) else none
theorem mem_others {e : En} : e ∈ others w0 W L ↔ ∃ k o, e = .obj k o ∧ w0.heap.size ≤ k ∧ (∀ e ∈ L, e.blk ≠ some k) ∧ W.heap[k]? = some o := by
 unfold others
 rw [List.mem_filterMap]
 constructor
 ·rintro ⟨k, _, hk⟩
  split at hk
  ·rename_i h
   obtain ⟨o, ho, rfl⟩ := Option.map_eq_some_iff.1 hk
   exact ⟨k, o, rfl, h.1, h.2, ho⟩
  cases hk
 rintro ⟨k, o, rfl, h1, h2, h3⟩
 exact ⟨k, List.mem_range.2 (Array.getElem?_eq_some_iff.1 h3).1, by rw [if_pos ⟨h1, h2⟩, h3]; rfl⟩
theorem St.with_others (h : St w0 W L) : St w0 W (L ++ others w0 W L) := by
 refine ⟨h.ext, ?_, List.pairwise_append.2 ⟨h.apart, ?_, ?_⟩⟩
 ·intro e he
  rcases List.mem_append.1 he with he | he
  ·exact h.ok e he
  obtain ⟨k, o, rfl, h1, _, h3⟩ := mem_others.1 he
  exact ⟨h1, h3⟩
 ·unfold others
  refine List.Pairwise.filterMap _ ?_ List.nodup_range
  intro i j hij x hx y hy b hb hb'
  split at hx
  ·split at hy
   ·obtain ⟨o, _, rfl⟩ := Option.map_eq_some_iff.1 hx
    obtain ⟨o', _, rfl⟩ := Option.map_eq_some_iff.1 hy
    simp only [En.blk, Option.some.injEq] at hb hb'
    omega
   cases hy
  cases hx
 intro x hx y hy b hb hb'
 obtain ⟨k, o, rfl, _, h2, _⟩ := mem_others.1 hy
 simp only [En.blk, Option.some.injEq] at hb'
 subst hb'
 exact h2 x hx hb
theorem keeps_of_others (st : St w0 W L) (hc : celly L = true) (st' : St w0 W' (L2 ++ others w0 W L)) (hb : ∀ b, (∃ e ∈ L, e.blk = some b) → ∃ e ∈ L2, e.blk = some b) : KeepsOthers W W' := by
 have stays : ∀ k, k < W.heap.size → (W'.heap[k]?).isSome = true ∧ ((∀ e ∈ L, e.blk ≠ some k) → W'.heap[k]? = W.heap[k]?) := by
  intro k hk
  by_cases h1 : k < w0.heap.size
  ·have e1 := st.ext.block k h1
   have e2 := st'.ext.block k h1
   rw [e2, ← e1]
   exact ⟨by rw [Array.getElem?_eq_getElem hk]; rfl, fun _ => rfl⟩
  by_cases h2 : ∀ e ∈ L, e.blk ≠ some k
  ·have hm : En.obj k W.heap[k] ∈ others w0 W L := mem_others.2 ⟨k, _, rfl, by omega, h2, Array.getElem?_eq_getElem hk⟩
   have := (st'.ok _ (List.mem_append_right _ hm)).2
   rw [this]
   exact ⟨rfl, fun _ => (Array.getElem?_eq_getElem hk).symm⟩
  have : ∃ e ∈ L, e.blk = some k := by
   false_or_by_contra
   rename_i hne
   exact h2 fun e he hk => hne ⟨e, he, hk⟩
  obtain ⟨e, he, hek⟩ := hb k this
  have := (en_lt (st'.ok e (List.mem_append_left _ he)) hek).2
  exact ⟨by rw [Array.getElem?_eq_getElem this]; rfl, fun h => absurd h h2⟩
 refine ⟨?_, fun k o hk ho => ?_⟩
 ·rcases Nat.eq_zero_or_pos W.heap.size with h0 | h0
  ·omega
  have := (stays (W.heap.size - 1) (by omega)).1
  rw [Option.isSome_iff_exists] at this
  obtain ⟨o, ho⟩ := this
  have := (Array.getElem?_eq_some_iff.1 ho).1
  omega
 have hlt := (Array.getElem?_eq_some_iff.1 hk).1
 rw [(stays k hlt).2 fun e he hb' => ?_]
 ·exact hk
 obtain ⟨cs, t, fr, hx⟩ := en_cells (st.ok e he) (celly_mem hc e he) hb'
 rw [hx] at hk
 cases hk
 simp [Obj.isCells] at ho
def RP {σ : Type} (w0 : World) (T : List En) (Lf : σ → List En) (p : σ → Prop) : Exit → Act → World → Prop
 | .normal, _, W' => ∃ s', p s' ∧ St w0 W' (Lf s' ++ T)
 | _, _, _ => False
theorem CW.range2 {α σ : Type} {gf p q id : Nat} {lb : Array Value} {X : Operand} {body : Code} {enc : α → Value} {Kp : World → World → Prop} {Sp : List α → Prop} {N : Nat} {xs0 : List α} {pos2 : String} {ty2 : TypeId} {af2 : Array Edge}
  (st : St w0 w L) (hx : ev n l X = some (.func (.func gf) #[] lb)) (he : Ent P gf) (hseq : SeqStopsK Fence.wide 2 P gf lb (fun x => #[enc x]) Kp (fun xs => xs = xs0) Sp N w)
  (hKt : ∀ {A B C : World}, Kp A B → Kp B C → Kp A C) (hKb : ∀ (W : World) (j : Nat) (o o' : Obj), w.heap.size ≤ j → W.heap[j]? = some o → o.isCells = false → Kp W (W.putObj j o'))
  (rel : List α → σ → Prop) (Lf : σ → List En) (hc : ∀ s, celly (Lf s) = true) (hbl : ∀ s s' b, (∃ e ∈ Lf s, e.blk = some b) → ∃ e ∈ Lf s', e.blk = some b) (hKp : ∀ (A B : World) (s s' : σ), St w0 A (Lf s) → St w0 B (Lf s') → Kp A B)
  (s0 : σ) (h0 : rel [] s0) (hL : L = Lf s0)
  (hbody : ∀ (j : Nat) (pre : List α) (x : α) (s : σ) (W : World) (T : List En), rel pre s → St w0 W (Lf s ++ T) → CF (Fence.wide.inRound j) 1 [] P body (RP w0 T Lf (rel (pre ++ [x]))) n ((q, enc x) :: (p, enc x) :: l) W)
  (hpn : Nat.blt p n = true)
  (hdone : ∀ (D : Nat) (s : σ) (W : World), rel xs0 s → St w0 W (.obj D (.deferred (some [])) :: Lf s) → QW ({ target := .collected D, args := #[] } :: dl) Q .normal n l W) :
  CW dl P (.rangeFunc X #[p] (.region id #[⟨some q, .assign (.tmp p), ty2, pos2, af2, none⟩] false) body) Q n l w := by
 refine CW.range st hx he hseq hKt hKb rel Lf hc s0 h0 hL ?_ hpn hdone
 intro j pre x s W hr hst _ b hb hd
 refine wpIn_mono (hbody j pre x s W _ hr hst.with_others b hb hd) ?_
 intro e a W' hq
 cases e <;> try exact hq.elim
 obtain ⟨s', hr', hs'⟩ := hq
 exact ⟨keeps_of_others hst (hc s) hs' (hbl s s'), hKp _ _ s s' hst hs'.left, ⟨s', hr', hs'.left⟩⟩
theorem WL.store_sub {i o j c q N : Nat} {A A' : Option Addr} {a : Addr} {xs : List Value} (st : St w0 w L) (hk : L[i]? = some (.sl A c q xs e 1)) (hsz : P.cellsOf t = 1) (hx : ev n l X = some (.pointer (some (a.add j)))) (hA : A' = some a) (hB : N ≠ 0 → A' = A.map (·.add o)) (hj : j < N) (hfit : o + N ≤ xs.length) (hy : ev n l Y = some v) (h1 : v.oneCell' = true)
  (h : ∀ w', St w0 w' (L.set i (.sl A c q (xs.set (o + j) v) e 1)) → WL dl P ops Q rest n l w') : WL dl P ops Q (⟨none, .store t X Y, ty, pos, af, none⟩ :: rest) n l w := by
 have h2 := hB (by omega)
 rw [hA] at h2
 cases A with
 | none => cases h2
 | some a0 =>
  simp only [Option.map_some, Option.some.injEq] at h2
  subst h2
  rw [add_add] at hx
  exact WL.store_sl st hk hsz hx rfl (by omega) hy h1 h
theorem blk_of_map {L1 L2 : List En} (h : L1.map En.blk = L2.map En.blk) {b : Nat} (hx : ∃ e ∈ L1, e.blk = some b) : ∃ e ∈ L2, e.blk = some b := by
 obtain ⟨e, he, hb⟩ := hx
 have : some b ∈ L2.map En.blk := by rw [← h]; exact List.mem_map.2 ⟨e, he, hb⟩
 obtain ⟨e', he', hb'⟩ := List.mem_map.1 this
 exact ⟨e', he', hb'⟩
theorem Runs.load_srcR {a : Addr} {q : Nat} {vs : List Value} (ht : RowT P t q) (hx : ev n l X = some (.pointer (some a))) (hs : Src w (some a) vs) (hm : vs.length = q) : Runs P (.load t X) ty n l w (.agg vs.toArray) := fun ρ _ _ _ _ hρ => by
 have e1 := hρ _ _ hx
 have hl := run_loadCells_list (P := P) w a vs (fun j u hj => by
  obtain ⟨a', ha', hc⟩ := hs j u hj
  cases ha'
  exact hc)
 rw [hm] at hl
 have ha := ht.agg w
 obtain ⟨dd, _, _, hsz⟩ := ht
 obtain ⟨i, hi, hz⟩ := Option.map_eq_some_iff.1 hsz
 simp [execOp, e1, Instr.loadAt, Instr.sureAddr, loadVar, ha, sizeOf, typeInfo, hi, hz, hl]
theorem iv_part (k : IntKind) (xs : List Int) (o c : Nat) : ((iv k xs).drop o).take c = iv k ((xs.drop o).take c) := by simp [iv, List.map_drop, List.map_take]
section
variable {bk q N M : Nat} {B : Option Addr} {lo hi : Operand} (ht : ArrT P t q e k) (hx : ev n l X = some (.pointer (some ⟨bk, 0, none⟩)))
include ht hx
theorem Runs.slice_arr_l (hl : ev n l lo = some (.int k' x)) (h0 : 0 ≤ x) (h1 : x ≤ q) (hB : B = subA (some ⟨bk, 0, none⟩) x.toNat q) (hN : N = q - x.toNat) (hM : M = q - x.toNat) :
  Runs P (.slice t X (some lo) none none) ty n l w (.slice B N M) := fun ρ _ _ _ _ hρ => by
 have e1 := hρ _ _ hx; have e2 := hρ _ _ hl
 obtain ⟨hu, he, hc, hs, _⟩ := ht
 have ha : P.arrayLen t = q := by simp [Program.arrayLen, hu]
 have hu' : P.underlying t = some (.array (P.arrayLen t) (P.elem t)) := by simp [Program.arrayLen, Program.elem, hu]
 have hr := run_sliceAt_array_l (P := P) w t ⟨bk, 0, none⟩ hu' k' x h0 (by rw [ha]; exact h1)
 obtain ⟨i, hi', hz⟩ := info_of_cells hc (by decide)
 have he2 : P.elem t = e := by simp [Program.elem, hu]
 subst hB; subst hN; subst hM
 simp only [execOp, e1, e2, Option.map_none, Option.map_some, Sem.run_bind, hr, ha]
 simp only [slicedAt, sizeOf, typeInfo, he2, Sem.run_bind]
 simp [hi', hz, subA]
 split <;> simp
end
theorem QW.retM2 {fn : Func} {R : Ending → World → Prop} {p u D i : Nat} {v v' : Value} (st : St w0 w L) (hD : L[i]? = some (.obj D (.deferred (some [])))) (hr : fn.results = #[.tmp p, .tmp u]) (hv : ev n l (.tmp p) = some v) (hv' : ev n l (.tmp u) = some v')
  (h : ∀ w', St w0 w' (L.set i (.obj D (.deferred none))) → R (.returned (.tuple #[v, v'])) w') : QW [{ target := .collected D, args := #[] }] (bodyPostM Fence.wide m P fn R) .ret n l w := fun b hb hd => by
 have ho := st.ok _ (List.mem_of_getElem? hD)
 have st2 := st.shut hD
 show LeavesInM Fence.wide m P fn (ov b l).tmps R (ov b l).defers .returning w
 rw [ov_defers, hd]
 refine ⟨by simp, .inl ⟨D, _, rfl, run_takeDeferred ho.2, ?_⟩⟩
 have h1 := ev_sound (b := b) hb hv
 have h2 := ev_sound (b := b) hb hv'
 refine ⟨_, results_tmp2 hr _ _ _, ?_⟩
 simp only [Act.eval] at h1 h2
 rw [h1, h2]
 exact h _ st2
theorem QW.ret2m {fn : Func} {R : Ending → World → Prop} {p u : Nat} {v v' : Value} (hr : fn.results = #[.tmp p, .tmp u]) (hv : ev n l (.tmp p) = some v) (hv' : ev n l (.tmp u) = some v')
  (h : R (.returned (.tuple #[v, v'])) w) : QW [] (bodyPostM Fence.wide m P fn R) .ret n l w := fun b hb hd => by
 show LeavesInM Fence.wide m P fn (ov b l).tmps R (ov b l).defers .returning w
 rw [ov_defers, hd]
 have h1 := ev_sound (b := b) hb hv
 have h2 := ev_sound (b := b) hb hv'
 refine ⟨_, results_tmp2 hr _ _ _, ?_⟩
 simp only [Act.eval] at h1 h2
 rw [h1, h2]
 exact h
theorem WL.mark {i c q bk : Nat} {xs : List Value} (st : St w0 w L) (hk : L[i]? = some (.sl (some ⟨bk, 0, none⟩) c q xs e 1)) (hs : P.underlying t = some (.slice e)) (he : P.underlying e = some (.int .u8)) (hx : ev n l X = some (.slice (some ⟨bk, 0, none⟩) q c))
  (h : ∀ (cs : List Value) (w' : World), q ≤ c → cs.length = c → cs.take q = xs → St w0 w' (L.set i (.obj bk (.cells cs.toArray e (c, c + 1)))) → WL dl P ops Q rest n ((d, .slice (some ⟨bk, 0, none⟩) q c) :: l) w') :
  WL dl P ops Q (⟨some d, .convert t t X, ty, pos, af, none⟩ :: rest) n l w := by
 have ho := st.row hk
 rcases ho.2 with ⟨h', _⟩ | ⟨gg, cap, cur, hv, hb, hg, h3, h4, h5, h6⟩
 ·simp at h'
 simp only [Value.slice.injEq, Option.some.injEq, Addr.mk.injEq] at hv
 obtain ⟨⟨rfl, _, _⟩, _, rfl⟩ := hv
 have hsz : cur.size = c := by omega
 have hh : (w.freeze ⟨bk, c, none⟩ 1).heap[bk]? = some (.cells cur e (c, c + 1)) := by
  unfold World.freeze
  rw [if_neg (by decide)]
  simp [Array.getElem?_modify, hg]
 have hgr : w.grownBy (w.freeze ⟨bk, c, none⟩ 1) (some bk) := by
  unfold World.freeze
  rw [if_neg (by decide)]
  refine ⟨rfl, rfl, rfl, by simp, fun k _ hk => ?_⟩
  have : ¬ bk = k := fun e => hk (by rw [e])
  simp [Array.getElem?_modify, this]
 have hsh : w.shape? bk = some (e, c) := by simp [World.shape?, hg, hsz]
 have ha : Acts P (.convert t t X) ty n l w (.slice (some ⟨bk, 0, none⟩) q c) (w.freeze ⟨bk, c, none⟩ 1) := fun ρ _ _ _ _ hρ => by
  have e1 := hρ _ _ hx
  have hc : (convert t t (.slice (some ⟨bk, 0, none⟩) q c)).run P w = .ok (.slice (some ⟨bk, 0, none⟩) q c) (w.freeze ⟨bk, c, none⟩ 1) := by
   unfold convert
   simp only [Sem.run_bind, run_underlying hs, Result.andThen_ok]
   simp [run_underlying he, markStringish, hsh]
  simp [execOp, e1, hc]
 refine WL.act .none ha (h cur.toList _ h3 (by simp [hsz]) (by rw [← h6, Nat.mul_one]) ?_)
 refine st.turn hk (row := some bk) rfl hgr (e' := .obj bk (.cells cur.toList.toArray e (c, c + 1))) ⟨hb, by simpa using hh⟩ (fun b hb => .inl hb)
end Go.Kr
