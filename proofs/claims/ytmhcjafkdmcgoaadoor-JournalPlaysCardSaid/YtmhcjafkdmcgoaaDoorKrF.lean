/- Regions that draw their order, walked by a schedule: pure operations are taken first, wherever they stand; one that is alone is met as it comes. No program in sight. -/
import Derived.Test.YtmhcjafkdmcgoaaDoorKrE
import Derived.Orders
namespace Go.Kr
open Go Go.RowKit
set_option linter.unusedVariables false
set_option linter.unusedSimpArgs false
variable {dl : List Deferred} {P : Program} {ops : Array Oper} {Q : Exit → Act → World → Prop} {rest : List Oper} {n : Nat} {l l' : Ov} {w w0 : World}
variable {d : Nat} {ty t t' e : TypeId} {pos : String} {af : Array Edge} {g : Option (Nat × Bool)} {v : Value} {L : List En} {fuel i : Nat} {listed : Array Bool}
def noP (Q : Exit → Act → World → Prop) : Exit → Act → World → Prop
 | .panic _, _, _ => False
 | e, a, w => Q e a w
def AQ (P : Program) (ops : Array Oper) (Q : Exit → Act → World → Prop) (fuel : Nat) (listed : Array Bool) : Exit → Act → World → Prop
 | .normal, a, w => wpAny P .any ops (noP Q) fuel listed a w
 | .panic _, _, _ => False
 | e, a, w => Q e a w
def AW (dl : List Deferred) (P : Program) (ops : Array Oper) (Q : Exit → Act → World → Prop) (fuel : Nat) (listed : Array Bool) (n : Nat) (l : Ov) (w : World) : Prop :=
 ∀ b : Act, b.tmps.size = n → b.defers = dl → wpAny P .any ops (noP Q) fuel listed (ov b l) w
theorem noP_imp {e : Exit} {a : Act} {w : World} (h : noP Q e a w) : Q e a w := by cases e <;> first | exact h | exact h.elim
theorem CW.region_aw {id : Nat} {os : List Oper} (hm : P.follows .mixedOrders = true) (st : St w0 w L) (h : ∀ w', St w0 w' L → AW dl P os.toArray Q os.length (Array.replicate os.length false) n l w') : CW dl P (.region id os.toArray true) Q n l w := fun b hb hd => by
 refine wp_mono (Q := noP Q) ?_ fun e a w h => noP_imp h
 refine wp_region_any hm ?_
 have := h _ st.drew b hb hd
 simpa using this
theorem AW.take {op : Op} (i : Nat) (hi : ops[i]? = some ⟨some d, op, ty, pos, af, g⟩) (hs : Region.noSelect ops = true) (hf : Region.free .any ops listed i = true) (hr : (Region.ready .any ops listed).contains i = true)
  (hw : Wanted ops g n l true) (hy : ∀ w, Runs P op ty n l w v) (h : AW dl P ops Q fuel (listed.setIfInBounds i true) n ((d, v) :: l) w) : AW dl P ops Q (fuel + 1) listed n l w := fun b hb hd => by
 refine wpAny_take hi hs hf hr (fun c a w h => h.elim) (.inl ⟨hw b hb, fun w => ?_⟩) (h b hb hd)
 exact hy w _ _ _ _ _ (fun x u hx => ev_sound hb hx)
theorem upon_post {o : Oper} {a : Act} {K : Act → World → Prop} {Q Q' : Exit → Act → World → Prop} {r : Result Next} (h1 : ∀ c a w, Q (.panic c) a w → Q' (.panic c) a w) (h2 : ∀ a w, Q .outgrown a w → Q' .outgrown a w)
    (hh : o.upon P a K Q r) : o.upon P a K Q' r := by
  cases r with
  | ok n w' =>
    cases n <;> simp only [Oper.upon] at hh ⊢ <;>
      first
        | exact hh
        | exact Calls.mono hh (fun e w'' he => by
            cases e with
            | returned v => exact he
            | panicked c => exact h1 _ _ _ he
            | outgrown => obtain ⟨a, w, q⟩ := he; exact ⟨a, w, h2 _ _ q⟩)
  | halt x w' => cases x <;> simp only [Oper.upon] at hh ⊢ <;> first | exact hh | exact h1 _ _ _ hh
theorem AW.step {o : Oper} (i : Nat) (hi : ops[i]? = some o) (hr : Region.ready .any ops listed = [i]) (h : WL dl P ops (AQ P ops Q fuel (listed.setIfInBounds i true)) [o] n l w) : AW dl P ops Q (fuel + 1) listed n l w := fun b hb hd => by
 refine ⟨fun h0 => (by rw [hr] at h0; cases h0), fun j hj => ?_⟩
 rw [hr] at hj
 obtain rfl : j = i := by simpa using hj
 have h1 := h b hb hd
 unfold wpOp
 simp only [hi]
 unfold wpList at h1
 split at h1
 ·rename_i hw
  rw [if_pos hw]
  rcases h1 with h1 | ⟨h1, h2⟩
  ·exact .inl (upon_post (fun c a w h => h) (fun a w h => h) h1)
  refine .inr ⟨h1, ?_⟩
  obtain ⟨a, w, q⟩ := h2
  exact ⟨a, w, q⟩
 rename_i hw
 rw [if_neg hw]
 exact h1
theorem AW.back (h : AW dl P ops Q fuel listed n l w) : QW dl (AQ P ops Q fuel listed) .normal n l w := h
theorem AW.done (hr : Region.ready .any ops listed = []) (h : QW dl Q .normal n l w) : AW dl P ops Q fuel listed n l w := fun b hb hd => wpAny_done (Q := noP Q) hr (h b hb hd) _
end Go.Kr
