/- Things with arrays in them; regions that draw, of which several act in any order: loads first, then every order, joined. No program in sight. -/
import Derived.Test.YtmhcjafkdmcgoaaDoorKrR
namespace Go.Kr
open Go Go.RowKit
set_option linter.unusedVariables false
set_option linter.unusedSimpArgs false
variable {P : Program} {dl : List Deferred} {ops : Array Oper} {Q : Exit → Act → World → Prop} {rest : List Oper} {n d m gg : Nat} {l : Ov} {w w0 W : World} {L L' T T' R : List En} {t t' e : TypeId} {X Y : Operand} {ty : TypeId} {pos : String} {af : Array Edge} {g : Option (Nat × Bool)} {k k' : IntKind} {y : Int} {v : Value}
variable {C : World → Prop} {fuel : Nat} {listed : Array Bool}
def pad (m : Nat) (l : List Int) : List Int := (List.range m).map (gn l)
theorem pad_length (m : Nat) (l : List Int) : (pad m l).length = m := by simp [pad]
theorem pad_self {m : Nat} {l : List Int} (h : l.length = m) : pad m l = l := by
 subst h
 apply List.ext_getElem (by rw [pad_length])
 intro i h1 h2
 simp [pad, gn, List.getD_eq_getElem?_getD, h2]
def arrL (k : IntKind) (m : Nat) (l : List Int) : List (Lf w0) := (pad m l).map (Lf.int k)
theorem arrL_length (k : IntKind) (m : Nat) (l : List Int) : (arrL k m l : List (Lf w0)).length = m := by rw [arrL, List.length_map, pad_length]
theorem HLs.inv_app {vs : List Value} {xs : List (Lf w0)} : ∀ {A : List (Lf w0)} {vs : List Value}, HLs T vs (A ++ xs) → ∃ v1 v2, vs = v1 ++ v2 ∧ HLs T v1 A ∧ HLs T v2 xs
  | [], vs, h => ⟨[], vs, rfl, .nil, h⟩
  | a :: A, _, h => by
    obtain ⟨v, vs', rfl, h1, h2⟩ := HLs.inv h
    obtain ⟨v1, v2, rfl, h3, h4⟩ := HLs.inv_app (vs := vs') h2
    exact ⟨v :: v1, v2, rfl, .cons h1 h3, h4⟩
theorem HLs.ints_inv : ∀ {xs : List Int} {vs : List Value}, HLs T vs (xs.map (Lf.int (w0 := w0) k)) → vs = iv k xs
  | [], _, h => h.inv0
  | x :: xs, _, h => by
    obtain ⟨v, vs, rfl, h1, h2⟩ := HLs.inv h
    obtain rfl : v = .int k x := h1
    rw [HLs.ints_inv h2]; rfl
theorem HLs.ints : ∀ (xs : List Int), HLs T (iv k xs) (xs.map (Lf.int (w0 := w0) k))
 | [] => .nil
 | x :: xs => .cons rfl (HLs.ints xs)
theorem HLs.inv_arr {m : Nat} {l : List Int} {vs : List Value} {xs : List (Lf w0)} (h : HLs T vs (arrL k m l ++ xs)) : ∃ vs', vs = iv k (pad m l) ++ vs' ∧ HLs T vs' xs := by
 obtain ⟨v1, v2, rfl, h1, h2⟩ := HLs.inv_app (vs := vs) h
 exact ⟨v2, by rw [HLs.ints_inv h1], h2⟩
theorem HLs.arr {m : Nat} {l : List Int} {vs : List Value} {xs : List (Lf w0)} (h : HLs T vs xs) (hl : l.length = m) : HLs T (iv k l ++ vs) (arrL k m l ++ xs) := by
 have := HLs.ints (T := T) (w0 := w0) (k := k) l
 unfold arrL
 rw [pad_self hl]
 exact this.append h
def wpAnyX (P : Program) (ops : Array Oper) (Q : Exit → Act → World → Prop) (C : World → Prop) (F : List Nat) : Nat → Array Bool → Act → World → Prop
 | 0, listed, a, w => wpAny P .any ops Q 0 listed a w
 | fuel + 1, listed, a, w => (Region.ready .any ops listed = [] → Q .normal a w) ∧ ∀ i ∈ Region.ready .any ops listed, wpOp P ops Q i (fun a' w' => (i ∈ F → C w') ∧ wpAnyX P ops Q C F fuel (listed.setIfInBounds i true) a' w') a w
theorem wpAnyX_drop {F : List Nat} : ∀ (fuel : Nat) (listed : Array Bool) (a : Act) (w : World), wpAnyX P ops Q C F fuel listed a w → wpAny P .any ops Q fuel listed a w
 | 0, _, _, _, h => h
 | fuel + 1, listed, a, w, h => ⟨h.1, fun i hi => wpOp_mono (fun a' w' h' => wpAnyX_drop fuel _ _ _ h'.2) (h.2 i hi)⟩
def waitsB (ops : Array Oper) (Z : List Nat) (i : Nat) : Bool := Z.all fun j => match ops[j]? with
 | some o => o.after.any fun e => Region.binds .any e && (e.on == i || Z.contains e.on)
 | none => true
def InvX (Z : List Nat) (i : Nat) (listed : Array Bool) : Prop := listed.getD i true = false → ∀ j ∈ Z, listed.getD j true = false
def invXB (Z : List Nat) (listed : Array Bool) : Bool := Z.all fun j => !listed.getD j true
theorem invXB_spec {Z : List Nat} {i : Nat} (h : invXB Z listed = true) : InvX Z i listed := fun _ j hj => by
 simpa using List.all_eq_true.1 h j hj
def coverB (ops : Array Oper) (F Z : List Nat) (listed : Array Bool) : Bool := (List.range ops.size).all fun j => F.contains j || Z.contains j || listed.getD j true
def CovX (ops : Array Oper) (F Z : List Nat) (listed : Array Bool) : Prop := ∀ j, j < ops.size → listed.getD j true = false → j ∈ F ∨ j ∈ Z
theorem coverB_spec {F Z : List Nat} (h : coverB ops F Z listed = true) : CovX ops F Z listed := fun j hj hl => by
 have := List.all_eq_true.1 h j (by simpa using hj)
 simpa [hl] using this
theorem getD_set_self (listed : Array Bool) (j : Nat) : (listed.setIfInBounds j true).getD j true = true := by
 rw [Array.getD_eq_getD_getElem?, Array.getElem?_setIfInBounds]
 by_cases h : j < listed.size <;> simp [h]
theorem getD_tt {listed : Array Bool} {j : Nat} (h1 : listed.getD j false = true) (h2 : listed.getD j true = false) : False := by
 rw [Array.getD_eq_getD_getElem?] at h1 h2
 cases h : listed[j]? with
 | none => rw [h] at h1; cases h1
 | some b => rw [h] at h1 h2; simp at h1 h2; rw [h1] at h2; cases h2
theorem CovX.set {F Z : List Nat} (h : CovX ops F Z listed) (j : Nat) : CovX ops F Z (listed.setIfInBounds j true) := fun q hq hl => by
 by_cases c : j = q
 ·subst c
  rw [getD_set_self] at hl; cases hl
 rw [getD_set_ne true c] at hl
 exact h q hq hl
theorem ready_Z {Z : List Nat} {i j : Nat} (hw : waitsB ops Z i = true) (inv : InvX Z i listed) (hi : listed.getD i true = false) (hj : j ∈ Region.ready .any ops listed) : j ∉ Z := fun hZ => by
 obtain ⟨hjun, oj, hoj, hall⟩ := mem_ready.1 hj
 have h1 := List.all_eq_true.1 hw j hZ
 rw [hoj] at h1
 obtain ⟨e, he, hb⟩ := Array.any_eq_true'.1 h1
 simp only [Bool.and_eq_true, Bool.or_eq_true, beq_iff_eq, List.contains_iff_mem] at hb
 obtain ⟨hbind, hon⟩ := hb
 have h2 := hall e he hbind
 rcases hon with hon | hon
 ·rw [hon] at h2
  exact getD_tt h2 hi
 exact getD_tt h2 (inv hi e.on hon)
theorem InvX.set {Z : List Nat} {i j : Nat} (inv : InvX Z i listed) (hj : j ∉ Z) : InvX Z i (listed.setIfInBounds j true) := fun hi q hq => by
 have hi' : listed.getD i true = false := by
  by_cases c : j = i
  ·subst c
   rw [getD_set_self] at hi; cases hi
  rwa [getD_set_ne true c] at hi
 have hjq : j ≠ q := fun h => hj (h ▸ hq)
 rw [getD_set_ne true hjq]
 exact inv hi' q hq
theorem wpAnyX_first {F Z : List Nat} {i d : Nat} {o : Oper} (hi : ops[i]? = some o) (hd : o.dst = some d) (hs : Region.noSelect ops = true) (hQ : ∀ c a w, ¬ Q (.panic c) a w) (hwt : waitsB ops Z i = true) :
  ∀ (fuel : Nat) (listed : Array Bool) (a : Act) (w : World), InvX Z i listed → CovX ops F Z listed →
   (∀ j oj, ops[j]? = some oj → j ≠ i → listed.getD j true = false → (∀ e ∈ oj.after, Region.binds .any e = true → e.on ≠ i) → o.apart ops oj = true) →
   i ∈ Region.ready .any ops listed → C w → YieldsC P ops C o v a →
   wpAnyX P ops Q C F fuel (listed.setIfInBounds i true) (a.put (some d) v) w → wpAnyX P ops Q C F (fuel + 1) listed a w := by
 have own : ∀ {K : Act → World → Prop} {a : Act} {w : World}, C w → YieldsC P ops C o v a → K (a.put (some d) v) w → wpOp P ops Q i K a w := fun hC hy hK => by
  unfold wpOp
  simp only [hi]
  rcases hy with ⟨hw, hv⟩ | ⟨hw, rfl⟩
  ·rw [if_pos hw]
   refine .inl ?_
   unfold Oper.wp
   rw [hv _ hC]
   simp only [Oper.upon, hd]
   exact hK
  rw [if_neg (by simp [hw]), hd]
  exact hK
 intro fuel
 induction fuel with
 | zero =>
  intro listed a w _ _ _ hr hC hy H
  refine ⟨fun h => (by rw [h] at hr; cases hr), fun j hj => ?_⟩
  by_cases hji : j = i
  ·subst hji; exact own hC hy ⟨fun _ => hC, H⟩
  have := ready_mono hj hji
  rw [H.1] at this
  cases this
 | succ fuel ih =>
  intro listed a w inv cov hfree hr hC hy H
  refine ⟨fun h => (by rw [h] at hr; cases hr), fun j hj => ?_⟩
  by_cases hji : j = i
  ·subst hji; exact own hC hy ⟨fun _ => hC, H⟩
  have h1 := H.2 j (ready_mono hj hji)
  obtain ⟨hjun, oj, hoj, hall⟩ := mem_ready.1 hj
  have h0i := (mem_ready.1 hr).1
  have hiu : listed.getD i true = false := by
   simpa using h0i
  have hjZ := ready_Z hwt inv hiu hj
  have hjs : j < ops.size := (Array.getElem?_eq_some_iff.1 hoj).1
  have hjF : j ∈ F := (cov j hjs (by simpa using hjun)).resolve_right hjZ
  have hnot : ∀ e ∈ oj.after, Region.binds .any e = true → e.on ≠ i := fun e he hb heq => by
   have h1 := hall e he hb
   have h0 := (mem_ready.1 hr).1
   rw [heq] at h1
   by_cases h' : i < listed.size
   ·simp [h'] at h0 h1; rw [h0] at h1; cases h1
   simp [Array.getElem?_eq_none (Nat.le_of_not_lt h')] at h1
  have hap := hfree j oj hoj hji hjun hnot
  have hseli := Region.noSelect_spec hs i o
  have hselj := Region.noSelect_spec hs j oj
  obtain ⟨_, _, p3⟩ := Oper.apart_spec hap
  have h2 := wpOp_put (v := v) hoj (still_apart hd hap) (fun cs b => by simp [still]) (fun cs b => hselj cs b hoj) (fun c a w h => absurd h (hQ _ _ _)) (still_yields d v a) h1
  have h3 := wpOp_keep (Y := YieldsC P ops C o v) hoj (fun a u hY => by
   unfold YieldsC at *
   rw [execOp_put o (fun cs b => hseli cs b hi) a oj.dst u p3, wanted_put o a oj.dst u p3]
   exact hY) (fun a d hY => hY) hy h2
  refine wpOp_mono (fun a' w' h4 => ⟨fun _ => h4.2.2.1 hjF, ih (listed.setIfInBounds j true) a' w' (inv.set hjZ) (cov.set j) (fun k ok hk hki hun hno => ?_) (ready_mono hr (Ne.symm hji)) (h4.2.2.1 hjF) h4.1 ?_⟩) h3
  ·refine hfree k ok hk hki ?_ hno
   by_cases hjk : j = k
   ·subst hjk; exact hjun
   rw [getD_set_ne true hjk] at hun; exact hun
  rw [Array.setIfInBounds_comm _ _ hji]
  exact h4.2.2.2
theorem wpAnyX_pure {F : List Nat} {i d : Nat} {o : Oper} (hi : ops[i]? = some o) (hd : o.dst = some d) (hs : Region.noSelect ops = true) (hQ : ∀ c a w, ¬ Q (.panic c) a w) (hF : i ∉ F) :
  ∀ (fuel : Nat) (listed : Array Bool) (a : Act) (w : World),
   (∀ j oj, ops[j]? = some oj → j ≠ i → listed.getD j true = false → (∀ e ∈ oj.after, Region.binds .any e = true → e.on ≠ i) → o.apart ops oj = true) →
   i ∈ Region.ready .any ops listed → YieldsC P ops (fun _ => True) o v a →
   wpAnyX P ops Q C F fuel (listed.setIfInBounds i true) (a.put (some d) v) w → wpAnyX P ops Q C F (fuel + 1) listed a w := by
 have own : ∀ {K : Act → World → Prop} {a : Act} {w : World}, YieldsC P ops (fun _ => True) o v a → K (a.put (some d) v) w → wpOp P ops Q i K a w := fun hy hK => by
  unfold wpOp
  simp only [hi]
  rcases hy with ⟨hw, hv⟩ | ⟨hw, rfl⟩
  ·rw [if_pos hw]
   refine .inl ?_
   unfold Oper.wp
   rw [hv _ trivial]
   simp only [Oper.upon, hd]
   exact hK
  rw [if_neg (by simp [hw]), hd]
  exact hK
 intro fuel
 induction fuel with
 | zero =>
  intro listed a w _ hr hy H
  refine ⟨fun h => (by rw [h] at hr; cases hr), fun j hj => ?_⟩
  by_cases hji : j = i
  ·subst hji; exact own hy ⟨fun h => absurd h hF, H⟩
  have := ready_mono hj hji
  rw [H.1] at this
  cases this
 | succ fuel ih =>
  intro listed a w hfree hr hy H
  refine ⟨fun h => (by rw [h] at hr; cases hr), fun j hj => ?_⟩
  by_cases hji : j = i
  ·subst hji; exact own hy ⟨fun h => absurd h hF, H⟩
  have h1 := H.2 j (ready_mono hj hji)
  obtain ⟨hjun, oj, hoj, hall⟩ := mem_ready.1 hj
  have hnot : ∀ e ∈ oj.after, Region.binds .any e = true → e.on ≠ i := fun e he hb heq => by
   have h1 := hall e he hb
   have h0 := (mem_ready.1 hr).1
   rw [heq] at h1
   by_cases h' : i < listed.size
   ·simp [h'] at h0 h1; rw [h0] at h1; cases h1
   simp [Array.getElem?_eq_none (Nat.le_of_not_lt h')] at h1
  have hap := hfree j oj hoj hji hjun hnot
  have hseli := Region.noSelect_spec hs i o
  have hselj := Region.noSelect_spec hs j oj
  obtain ⟨_, _, p3⟩ := Oper.apart_spec hap
  have h2 := wpOp_put (v := v) hoj (still_apart hd hap) (fun cs b => by simp [still]) (fun cs b => hselj cs b hoj) (fun c a w h => absurd h (hQ _ _ _)) (still_yields d v a) h1
  have h3 := wpOp_keep (Y := YieldsC P ops (fun _ => True) o v) hoj (fun a u hY => by
   unfold YieldsC at *
   rw [execOp_put o (fun cs b => hseli cs b hi) a oj.dst u p3, wanted_put o a oj.dst u p3]
   exact hY) (fun a d hY => hY) hy h2
  refine wpOp_mono (fun a' w' h4 => ⟨h4.2.2.1, ih (listed.setIfInBounds j true) a' w' (fun k ok hk hki hun hno => ?_) (ready_mono hr (Ne.symm hji)) h4.1 ?_⟩) h3
  ·refine hfree k ok hk hki ?_ hno
   by_cases hjk : j = k
   ·subst hjk; exact hjun
   rw [getD_set_ne true hjk] at hun; exact hun
  rw [Array.setIfInBounds_comm _ _ hji]
  exact h4.2.2.2
def AWX (C : World → Prop) (F : List Nat) (dl : List Deferred) (P : Program) (ops : Array Oper) (Q : Exit → Act → World → Prop) (fuel : Nat) (listed : Array Bool) (n : Nat) (l : Ov) (w : World) : Prop :=
 ∀ b : Act, b.tmps.size = n → b.defers = dl → wpAnyX P ops (noP Q) C F fuel listed (ov b l) w
def AQX (C : World → Prop) (F : List Nat) (P : Program) (ops : Array Oper) (Q : Exit → Act → World → Prop) (i fuel : Nat) (listed : Array Bool) : Exit → Act → World → Prop
 | .normal, a, w => (i ∈ F → C w) ∧ wpAnyX P ops (noP Q) C F fuel listed a w
 | .panic _, _, _ => False
 | e, a, w => Q e a w
theorem AWX.enter {F : List Nat} (h : AWX C F dl P ops Q fuel listed n l w) : AW dl P ops Q fuel listed n l w := fun b hb hd => wpAnyX_drop _ _ _ _ (h b hb hd)
theorem AWX.take {F : List Nat} {op : Op} (i : Nat) (Z : List Nat) (hi : ops[i]? = some ⟨some d, op, ty, pos, af, g⟩) (hk : (Region.noSelect ops && waitsB ops Z i && invXB Z listed && coverB ops F Z listed && Region.free .any ops listed i && (Region.ready .any ops listed).contains i) = true)
  (hC : C w) (hw : Wanted ops g n l true) (hy : ∀ w, C w → Runs P op ty n l w v) (h : AWX C F dl P ops Q fuel (listed.setIfInBounds i true) n ((d, v) :: l) w) : AWX C F dl P ops Q (fuel + 1) listed n l w := fun b hb hd => by
 simp only [Bool.and_eq_true] at hk
 obtain ⟨⟨⟨⟨⟨hs, hwt⟩, hinv⟩, hcov⟩, hf⟩, hr⟩ := hk
 exact wpAnyX_first hi rfl hs (fun c a w h => h) hwt fuel listed _ w (invXB_spec hinv) (coverB_spec hcov) (Region.free_spec hi hf) (by simpa using hr) hC (.inl ⟨hw b hb, fun w' hC' => hy w' hC' _ _ _ _ _ (fun x u hx => ev_sound hb hx)⟩) (h b hb hd)
theorem AWX.takeP {F : List Nat} {op : Op} (i : Nat) (hi : ops[i]? = some ⟨some d, op, ty, pos, af, g⟩) (hk : (Region.noSelect ops && !F.contains i && Region.free .any ops listed i && (Region.ready .any ops listed).contains i) = true)
  (hw : Wanted ops g n l true) (hy : ∀ w, Runs P op ty n l w v) (h : AWX C F dl P ops Q fuel (listed.setIfInBounds i true) n ((d, v) :: l) w) : AWX C F dl P ops Q (fuel + 1) listed n l w := fun b hb hd => by
 simp only [Bool.and_eq_true, Bool.not_eq_true'] at hk
 obtain ⟨⟨⟨hs, hF⟩, hf⟩, hr⟩ := hk
 exact wpAnyX_pure hi rfl hs (fun c a w h => h) (fun hm => by rw [List.contains_iff_mem.2 hm] at hF; cases hF) fuel listed _ w (Region.free_spec hi hf) (by simpa using hr) (.inl ⟨hw b hb, fun w' _ => hy w' _ _ _ _ _ (fun x u hx => ev_sound hb hx)⟩) (h b hb hd)
theorem AWX.steps {F : List Nat} (Rs : List Nat) (hr : Region.ready .any ops listed = Rs) (hne : Rs ≠ []) (h : ∀ i ∈ Rs, ∃ o, ops[i]? = some o ∧ WL dl P ops (AQX C F P ops Q i fuel (listed.setIfInBounds i true)) [o] n l w) : AWX C F dl P ops Q (fuel + 1) listed n l w := fun b hb hd => by
 refine ⟨fun h0 => absurd (hr.symm.trans h0) hne, fun j hj => ?_⟩
 rw [hr] at hj
 obtain ⟨o, hi, h⟩ := h j hj
 have h1 := h b hb hd
 unfold wpOp
 simp only [hi]
 unfold wpList at h1
 split at h1
 ·rename_i hw
  rw [if_pos hw]
  rcases h1 with h1 | ⟨h1, h2⟩
  ·exact .inl (upon_post (fun c a w h => h) (fun a w h => h) h1)
  refine .inr ⟨h1, ?_⟩
  obtain ⟨a, w, q⟩ := h2
  exact ⟨a, w, q⟩
 rename_i hw
 rw [if_neg hw]
 exact h1
theorem AWX.back {F : List Nat} {i : Nat} (hC : F.contains i = true → C w) (h : AWX C F dl P ops Q fuel listed n l w) : QW dl (AQX C F P ops Q i fuel listed) .normal n l w := fun b hb hd => ⟨fun hi => hC (by simpa using hi), h b hb hd⟩
theorem AWX.sub {F : List Nat} (l' : Ov) (h : subO n l l') (k : AWX C F dl P ops Q fuel listed n l' w) : AWX C F dl P ops Q fuel listed n l w := fun b hb hd => by
 have := k (ov b l) (by rw [ov_size, hb]) (by rw [ov_defers, hd])
 rwa [subO_spec hb h] at this
theorem AWX.join {F : List Nat} {f2 : Nat} {listed2 : Array Bool} (I : Ov → World → Prop) (cont : ∀ l w, I l w → AWX C F dl P ops Q f2 listed2 n l w) (h : (∀ l w, I l w → AWX C F dl P ops Q f2 listed2 n l w) → AWX C F dl P ops Q fuel listed n l w) : AWX C F dl P ops Q fuel listed n l w := h cont
theorem AWX.cast {F : List Nat} {f2 : Nat} {listed2 : Array Bool} (hf : fuel = f2) (hl : listed = listed2) (h : AWX C F dl P ops Q f2 listed2 n l w) : AWX C F dl P ops Q fuel listed n l w := by subst hf hl; exact h
theorem AWX.done {F : List Nat} (hr : Region.ready .any ops listed = []) (h : QW dl Q .normal n l w) : AWX C F dl P ops Q fuel listed n l w := fun b hb hd => by
 cases fuel with
 | zero => exact ⟨hr, h b hb hd⟩
 | succ fuel => exact ⟨fun _ => h b hb hd, fun i hi => by rw [hr] at hi; cases hi⟩
end Go.Kr
