/- Yet shorter words for printed walks. No program in sight. -/
import Derived.Test.YtmhcjafkdmcgoaaDoorKrZ
namespace Go.Kr
open Go Go.RowKit
set_option linter.unusedVariables false
variable {P : Program} {dl : List Deferred} {ops : Array Oper} {Q : Exit → Act → World → Prop} {rest : List Oper} {n d m : Nat} {l : Ov} {w w0 : World} {L : List En} {op : Op} {ty : TypeId} {pos : String} {af : Array Edge} {vv : Value} {g : Option (Nat × Bool)} {t e : TypeId} {X Y : Operand} {C : World → Prop} {tail : List Oper}
theorem ec {x : En} {a b : List En} : (x :: a) ++ b = x :: (a ++ b) := rfl
theorem en {a : List En} : [] ++ a = a := rfl
theorem wC {f : FuncId} {xs : List Operand} {vs : List Value} {ats : Array TypeId} {R : Ending → World → Prop} (he : Ent P f) (ha : evs n l xs = some vs) (hc : Calls P f vs.toArray w R)
 (h : ∀ e w', R e w' → ∃ v, e = .returned v ∧ WL dl P ops Q rest n ((d, v) :: l) w') : WL dl P ops Q (⟨some d, .call { callee := .value (.func f), args := xs.toArray, argTypes := ats }, ty, pos, af, none⟩ :: rest) n l w := WL.call Wanted.none he ha hc h
theorem CW.en {f : FuncId} {fn : Func} {c : Code} {R : Ending → World → Prop} (hf : P.funcs[f]? = some fn) (hb : fn.body = some c) (m : Nat) (args : List Value) (h : CW [] P c (bodyPost P fn R) m (argO 0 args) w) (hn : fn.ntmps = m := by rfl)
 (hs : args.length ≤ m := by exact Nat.le_of_ble_eq_true rfl) : Calls P f args.toArray w R := CW.enter hf hb hn args hs h
theorem WL.sw (i : Nat) {bk m : Nat} {Tt : TypeId} {cs ms : List Value} (st : St w0 w L) (ht : RowT P t m) (hk : L[i]? = some (.cells bk cs Tt)) (hx : ev n l X = some (.pointer (some ⟨bk, 0, none⟩))) (hy : ev n l Y = some (.agg ms.toArray))
 (h : ∀ w', St w0 w' (L.set i (.cells bk ms Tt)) → WL dl P ops Q rest n l w') (hm : ms.length = m := by first | rfl | simp only [la, lc, ln, lv, List.length_replicate]) (hc : cs.length = m := by first | rfl | simp only [la, lc, ln, lv, List.length_replicate])
 (h1 : ∀ u ∈ ms, u.oneCell' = true := by repeat' first | exact oneU | exact one_iv _ _ | refine one_cat ?_ ?_) : WL dl P ops Q (⟨none, .store t X Y, ty, pos, af, none⟩ :: rest) n l w :=
 WL.sm (pre := []) (mid := cs) (post := []) (new := ms) st hk ht (by simp) rfl hx hy hm hc h1 (by simp) h
theorem CW.lp {c : Code} (I : Nat → Ov → World → Prop) {k : Nat} (h₀ : I k l w) (round : ∀ k l w, I (k + 1) l w → CW dl P c (Exit.then (At dl n (I k)) Q) n l w)
 (zero : ∀ l w, ¬ I 0 l w := by intro _ _ h; repeat (first | exact False.elim h.1 | obtain ⟨_, h⟩ := h)) : CW dl P (.loop c) Q n l w := CW.loop I h₀ zero round
theorem WL.fn {j dj : Nat} {dd : Option Nat} {want s c : Bool} (ht : s = c) (h : WL dl P ops Q (⟨dd, op, ty, pos, af, none⟩ :: rest) n l w) (hj : (ops[j]?).bind (·.dst) = some dj := by rfl) (hv : ev n l (.tmp dj) = some (.bool s) := by rfl) (hb : (c == want) = true := by rfl) :
 WL dl P ops Q (⟨dd, op, ty, pos, af, some (j, want)⟩ :: rest) n l w := WL.on (Wanted.guard hj (evb hv ht) hb) h
theorem HL.fn {j dj : Nat} {dd : Option Nat} {want s c : Bool} (ht : s = c) (h : HL dl P ops C Q tail (⟨dd, op, ty, pos, af, none⟩ :: rest) n l) (hj : (ops[j]?).bind (·.dst) = some dj := by rfl) (hv : ev n l (.tmp dj) = some (.bool s) := by rfl) (hb : (c == want) = true := by rfl) :
 HL dl P ops C Q tail (⟨dd, op, ty, pos, af, some (j, want)⟩ :: rest) n l := HL.on (Wanted.guard hj (evb hv ht) hb) h
theorem HL.p (hr : ∀ {W : World}, Runs P op ty n l W vv) (h : HL dl P ops C Q tail rest n ((d, vv) :: l)) : HL dl P ops C Q tail (⟨some d, op, ty, pos, af, none⟩ :: rest) n l := HL.v (fun _ _ => hr) h
theorem HL.ld (k : Nat) {b i : Nat} {cs : List Value} {t' : TypeId} (ht : OneCell P t) (hx : ev n l X = some (.pointer (some ⟨b, i, none⟩))) (hk : L[k]? = some (.cells b cs t')) (hi : cs[i]? = some vv) (h : HL dl P ops (fun w' => St w0 w' L) Q tail rest n ((d, vv) :: l)) :
 HL dl P ops (fun w' => St w0 w' L) Q tail (⟨some d, .load t X, ty, pos, af, none⟩ :: rest) n l := HL.v (fun _ sq => Runs.load ht hx (sq.cell hk hi)) h
theorem WL.ld (k : Nat) {b i : Nat} {cs : List Value} {t' : TypeId} (ht : OneCell P t) (st : St w0 w L) (hx : ev n l X = some (.pointer (some ⟨b, i, none⟩))) (hk : L[k]? = some (.cells b cs t')) (hi : cs[i]? = some vv) (h : WL dl P ops Q rest n ((d, vv) :: l) w) :
 WL dl P ops Q (⟨some d, .load t X, ty, pos, af, none⟩ :: rest) n l w := WL.v (Runs.load ht hx (st.cell hk hi)) h
theorem mcB {α : Type} {a b : α} {s L : List α} (i j : Nat) (t : ∀ x ∈ s, x ∈ L) (h : L[i]? = some a := by rfl) (k : L[j]? = some b := by rfl) : ∀ x ∈ a :: b :: s, x ∈ L := mc i h (mc j k t)
theorem mcD {α : Type} {a b c d : α} {s L : List α} (i j k l : Nat) (t : ∀ x ∈ s, x ∈ L) (h1 : L[i]? = some a := by rfl) (h2 : L[j]? = some b := by rfl) (h3 : L[k]? = some c := by rfl) (h4 : L[l]? = some d := by rfl) : ∀ x ∈ a :: b :: c :: d :: s, x ∈ L := mc i h1 (mc j h2 (mc k h3 (mc l h4 t)))
theorem ii {α : Type} {T : List α} : ∀ x ∈ T, x ∈ T := fun _ h => h
theorem St.pk {W : World} {L T : List En} (h : St w0 W (L ++ T)) (is : List Nat) (hn : is.Nodup := by decide) : St w0 W (is.filterMap (L[·]?) ++ T) := St.pickT h is hn
theorem CW.su {c : Code} (l' : Ov) (k : CW dl P c Q n l' w) (h : subO n l l' := by repeat' constructor) : CW dl P c Q n l w := CW.sub l' h k
theorem QW.a {I : Ov → World → Prop} {l' : Ov} (k : I l' w) (h : subO n l l' := by repeat' constructor) : QW dl (Exit.then (At dl n I) Q) .normal n l w := QW.at l' h k
section
variable {F : List Nat} {fuel f2 gg : Nat} {listed listed2 : Array Bool}
theorem AWX.to {I : Ov → World → Prop} {l' : Ov} (cont : ∀ l w, I l w → AWX C F dl P ops Q f2 listed2 n l w) (hI : I l' w) (h : subO n l l' := by repeat' constructor) (hf : fuel = f2 := by kernel_rfl) (hl : listed = listed2 := by kernel_rfl) : AWX C F dl P ops Q fuel listed n l w :=
 AWX.sub l' h (AWX.cast hf hl (cont _ _ hI))
theorem AWX.tp (i : Nat) (hi : ops[i]? = some ⟨some d, op, ty, pos, af, none⟩) (hy : ∀ {W : World}, Runs P op ty n l W vv) (h : AWX C F dl P ops Q fuel (listed.setIfInBounds i true) n ((d, vv) :: l) w)
 (hk : (Region.noSelect ops && !F.contains i && Region.free .any ops listed i && (Region.ready .any ops listed).contains i) = true := by kernel_rfl) : AWX C F dl P ops Q (fuel + 1) listed n l w := AWX.takeP i hi hk Wanted.none (fun _ => hy) h
theorem AWX.s1 {o : Oper} (i : Nat) (ho : ops[i]? = some o) (h : WL dl P ops (AQX C F P ops Q i fuel (listed.setIfInBounds i true)) [o] n l w) (hr : Region.ready .any ops listed = [i] := by kernel_rfl) : AWX C F dl P ops Q (fuel + 1) listed n l w :=
 AWX.steps [i] hr (by simp) (fun x hx => by rw [List.mem_singleton.1 hx]; exact ⟨o, ho, h⟩)
theorem AWH.tw {m : Nat} (i : Nat) (hi : ops[i]? = some ⟨some d, op, ty, pos, af, g⟩) (hC : C w) (hw : Wanted ops g n l true) (hy : ∀ w, C w → Runs P op ty n l w vv) (h : AWH C m gg dl P ops Q fuel (listed.setIfInBounds i true) n ((d, vv) :: l) w)
 (hin : i < m := by decide) (hf : Region.free .any ops listed i = true := by kernel_rfl) (hr : (Region.ready .any ops listed).contains i = true := by kernel_rfl) : AWH C m gg dl P ops Q (fuel + 1) listed n l w := AWH.take i hi hin hf hr hC hw hy h
end
end Go.Kr
