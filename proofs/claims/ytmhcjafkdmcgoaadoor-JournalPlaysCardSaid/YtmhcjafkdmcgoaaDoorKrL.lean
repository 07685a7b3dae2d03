/- Words for objects: rows of structs that are owned, rows of bytes that hang in them and are never written again (a pool), what is owned in another order. No program in sight. -/
import Derived.Test.YtmhcjafkdmcgoaaDoorKrK
import Derived.RangeFuncNested
import Derived.Laws.Pointers
namespace Go.Kr
open Go Go.RowKit
set_option linter.unusedVariables false
set_option linter.unusedSimpArgs false
variable {P : Program} {dl : List Deferred} {ops : Array Oper} {Q : Exit → Act → World → Prop} {rest : List Oper} {n d : Nat} {l : Ov} {w w0 W : World} {L L' T T' R : List En} {t t' e : TypeId} {X Y : Operand} {ty : TypeId} {pos : String} {af : Array Edge} {g : Option (Nat × Bool)} {k k' : IntKind} {y : Int}
theorem St.perm (h : St w0 W L) (hp : L.Perm L') : St w0 W L' :=
 ⟨h.ext, fun e he => h.ok e (hp.mem_iff.2 he), (List.Perm.pairwise_iff (fun {x y} hxy b hb hb' => hxy b hb' hb) hp).1 h.apart⟩
theorem St.pool {A B : List En} {x : En} (h : St w0 W (A ++ (x :: (B ++ (T ++ R))))) : St w0 W (A ++ (B ++ ((x :: T) ++ R))) := h.perm (by
 refine List.Perm.append_left A ?_
 show (x :: (B ++ (T ++ R))).Perm (B ++ (x :: (T ++ R)))
 exact (List.perm_middle (l₁ := B) (l₂ := T ++ R)).symm)
theorem St.hide {A B : List En} (h : St w0 W (A ++ (B ++ (T ++ R)))) : St w0 W (A ++ (T ++ (B ++ R))) := h.perm (by
 refine List.Perm.append_left A ?_
 rw [← List.append_assoc, ← List.append_assoc]
 exact List.Perm.append_right R List.perm_append_comm)
theorem St.unhide {A B : List En} (h : St w0 W (A ++ (T ++ (B ++ R)))) : St w0 W (A ++ (B ++ (T ++ R))) := h.perm (by
 refine List.Perm.append_left A ?_
 rw [← List.append_assoc, ← List.append_assoc]
 exact List.Perm.append_right R List.perm_append_comm)
def AllOk (T : List En) (base : Nat) (W : World) : Prop := ∀ x ∈ T, x.ok base W
theorem AllOk.mono {base : Nat} (h : AllOk T' base W) (hs : ∀ x ∈ T, x ∈ T') : AllOk T base W := fun x hx => h x (hs x hx)
inductive Leaf where
 | int (k : IntKind) (x : Int)
 | bool (b : Bool)
 | str (s : ByteArray)
 | row (l : List Int)
def HeldRow (T : List En) (v : Value) (l : List Int) : Prop := ∃ A n c, v = .slice A n c ∧ n = l.length ∧ n ≤ c ∧ ∀ base W, AllOk T base W → Src W A (iv .u8 l)
def HeldLeaf (T : List En) (v : Value) : Leaf → Prop
 | .int k x => v = .int k x
 | .bool b => v = .bool b
 | .str s => v = .string s
 | .row l => HeldRow T v l
theorem HeldRow.mono {v : Value} {r : List Int} (h : HeldRow T v r) (hs : ∀ x ∈ T, x ∈ T') : HeldRow T' v r := by
 obtain ⟨A, n, c, h1, h2, h3, h4⟩ := h
 exact ⟨A, n, c, h1, h2, h3, fun base W hW => h4 base W (hW.mono hs)⟩
theorem HeldLeaf.mono {v : Value} {x : Leaf} (h : HeldLeaf T v x) (hs : ∀ x ∈ T, x ∈ T') : HeldLeaf T' v x := by
 cases x <;> first | exact h | exact HeldRow.mono h hs
theorem HeldLeaf.one {v : Value} {x : Leaf} (h : HeldLeaf T v x) : v.oneCell' = true := by
 cases x
 case row l => obtain ⟨A, n, c, rfl, _⟩ := h; rfl
 all_goals (cases h; rfl)
theorem HeldRow.of_sl {A : Option Addr} {n c : Nat} {r : List Int} {size : Nat} (hx : En.sl A c n (iv .u8 r) e size ∈ T) (hn : n = r.length) (hc : n ≤ c) : HeldRow T (.slice A n c) r :=
 ⟨A, n, c, rfl, hn, hc, fun base W hW j v hv => by
  have ho : W.ownsRow base e size (.slice A n c) n (iv .u8 r) := hW _ hx
  rcases ho.2 with ⟨h1, h2⟩ | ⟨b, cap, cur, hv', _, hg, _, _, _, htake⟩
  ·have : (iv .u8 r).length = 0 := by rw [ho.1, h2]; simp
   have := (List.getElem?_eq_some_iff.1 hv).1
   omega
  cases hv'
  exact ⟨_, rfl, ho.cells rfl j v hv⟩⟩
inductive HeldL (T : List En) : List Value → List Leaf → Prop
 | nil : HeldL T [] []
 | cons {v : Value} {x : Leaf} {vs : List Value} {xs : List Leaf} (h : HeldLeaf T v x) (hs : HeldL T vs xs) : HeldL T (v :: vs) (x :: xs)
theorem HeldL.mono {vs : List Value} {xs : List Leaf} (h : HeldL T vs xs) (hs : ∀ x ∈ T, x ∈ T') : HeldL T' vs xs := by
 induction h with
 | nil => exact .nil
 | cons h _ ih => exact .cons (h.mono hs) ih
theorem HeldL.length {vs : List Value} {xs : List Leaf} (h : HeldL T vs xs) : vs.length = xs.length := by
 induction h with
 | nil => rfl
 | cons _ _ ih => simp [ih]
theorem HeldL.one {vs : List Value} {xs : List Leaf} (h : HeldL T vs xs) : ∀ u ∈ vs, u.oneCell' = true := by
 induction h with
 | nil => intro u hu; cases hu
 | cons h _ ih =>
  intro u hu
  rcases List.mem_cons.1 hu with rfl | hu
  ·exact h.one
  exact ih u hu
theorem HeldL.append {vs vs' : List Value} {xs xs' : List Leaf} (h : HeldL T vs xs) (h' : HeldL T vs' xs') : HeldL T (vs ++ vs') (xs ++ xs') := by
 induction h with
 | nil => exact h'
 | cons h _ ih => exact .cons h ih
theorem HeldL.take : ∀ {vs : List Value} {xs : List Leaf} (m : Nat), HeldL T vs xs → HeldL T (vs.take m) (xs.take m)
 | _, _, 0, _ => by simp; exact .nil
 | _, _, m + 1, .nil => by simp; exact .nil
 | _, _, m + 1, .cons h hs => .cons h (hs.take m)
theorem HeldL.drop : ∀ {vs : List Value} {xs : List Leaf} (m : Nat), HeldL T vs xs → HeldL T (vs.drop m) (xs.drop m)
 | _, _, 0, h => h
 | _, _, m + 1, .nil => .nil
 | _, _, m + 1, .cons h hs => hs.drop m
theorem HeldL.lay {vs ms : List Value} {xs zs : List Leaf} (o : Nat) (h : HeldL T vs xs) (hm : HeldL T ms zs) : HeldL T (vs.take o ++ ms ++ vs.drop (o + ms.length)) (xs.take o ++ zs ++ xs.drop (o + zs.length)) := by
 rw [hm.length]
 exact ((h.take o).append hm).append (h.drop _)
section
variable {α : Type} {f : α → List Leaf} {sz : Nat}
def Sized (f : α → List Leaf) (sz : Nat) : Prop := ∀ a, (f a).length = sz
theorem flat_length (hf : Sized f sz) : ∀ rows : List α, (rows.flatMap f).length = rows.length * sz
 | [] => by simp
 | a :: rows => by rw [List.flatMap_cons, List.length_append, hf, flat_length hf rows, List.length_cons, Nat.add_mul, Nat.one_mul, Nat.add_comm]
theorem flat_take (hf : Sized f sz) : ∀ (rows : List α) (m : Nat), (rows.flatMap f).take (m * sz) = (rows.take m).flatMap f
  | _, 0 => by simp
  | [], m + 1 => by simp
  | a :: rows, m + 1 => by
    rw [List.flatMap_cons, List.take_succ_cons, List.flatMap_cons, Nat.add_mul, Nat.one_mul, Nat.add_comm, ← flat_take hf rows m]
    rw [List.take_append, hf, Nat.add_sub_cancel_left, List.take_of_length_le (by rw [hf]; omega)]
theorem flat_drop (hf : Sized f sz) : ∀ (rows : List α) (m : Nat), (rows.flatMap f).drop (m * sz) = (rows.drop m).flatMap f
  | _, 0 => by simp
  | [], m + 1 => by simp
  | a :: rows, m + 1 => by
    rw [List.flatMap_cons, List.drop_succ_cons, Nat.add_mul, Nat.one_mul, Nat.add_comm, ← flat_drop hf rows m]
    rw [List.drop_append, hf, Nat.add_sub_cancel_left, List.drop_eq_nil_of_le (by rw [hf]; omega), List.nil_append]
def HeldR (T : List En) (f : α → List Leaf) (xs : List Value) (rows : List α) : Prop := HeldL T xs (rows.flatMap f)
theorem HeldR.length {xs : List Value} {rows : List α} (h : HeldR T f xs rows) (hf : Sized f sz) : xs.length = rows.length * sz := by rw [HeldL.length h, flat_length hf]
theorem HeldR.append {xs ys : List Value} {rows rs : List α} (h : HeldR T f xs rows) (h' : HeldR T f ys rs) : HeldR T f (xs ++ ys) (rows ++ rs) := by
 unfold HeldR; rw [List.flatMap_append]; exact HeldL.append h h'
theorem HeldR.get {xs : List Value} {rows : List α} {i : Nat} {a : α} (h : HeldR T f xs rows) (hf : Sized f sz) (hi : rows[i]? = some a) : HeldL T ((xs.drop (i * sz)).take sz) (f a) := by
 have h1 := (HeldL.drop (i * sz) h).take sz
 rw [flat_drop hf] at h1
 have hlt := (List.getElem?_eq_some_iff.1 hi).1
 have e1 : rows.drop i = a :: rows.drop (i + 1) := by
  rw [List.drop_eq_getElem_cons hlt]
  congr 1
  exact Option.some.inj ((List.getElem?_eq_getElem hlt).symm.trans hi)
 rw [e1, List.flatMap_cons, List.take_left' (hf a)] at h1
 exact h1
theorem HeldR.set {xs ms : List Value} {rows : List α} {i : Nat} {a : α} (h : HeldR T f xs rows) (hf : Sized f sz) (hi : i < rows.length) (hm : HeldL T ms (f a)) : HeldR T f (xs.take (i * sz) ++ ms ++ xs.drop (i * sz + ms.length)) (rows.set i a) := by
 have h1 := HeldL.lay (i * sz) h hm
 unfold HeldR
 rw [List.set_eq_take_append_cons_drop, if_pos hi, List.flatMap_append, List.flatMap_cons, ← List.append_assoc]
 rw [flat_take hf, hf a, show i * sz + sz = (i + 1) * sz by rw [Nat.add_mul, Nat.one_mul], flat_drop hf] at h1
 exact h1
end
def ElemS (P : Program) (e : TypeId) (z : Value) (size bytes : Nat) : Prop := ∃ i, P.info? e = some i ∧ i.zero = some z ∧ i.size = size ∧ i.bytes = bytes ∧ z.cells.size = size ∧ 0 < size
theorem ElemS.of {z : Value} {size bytes : Nat} (h : (P.info? e).map (fun i => (i.zero, i.size, i.bytes)) = some (some z, size, bytes)) (hz : z.cells.size = size) (hb : 0 < size) : ElemS P e z size bytes := by
 obtain ⟨i, hi, he⟩ := Option.map_eq_some_iff.1 h
 simp only [Prod.mk.injEq] at he
 exact ⟨i, hi, he.1, he.2.1, he.2.2, hz, hb⟩
theorem WL.appendS {z : Value} {bytes size i : Nat} {A : Option Addr} {a : Addr} {c m m' c2 N : Nat} {xs news : List Value} (hw : Wanted ops g n l true) (st : St w0 w L) (hk : L[i]? = some (.sl A c m xs e size)) (hu : P.underlying t = some (.slice e)) (he : ElemS P e z size bytes)
  (hx : ev n l X = some (.slice A m c)) (hy : ev n l Y = some (.slice (some a) m' c2)) (hs : Src w (some a) news) (hl : news.length = m' * size) (h1 : ∀ u ∈ news, u.oneCell' = true) (hb : bytes ≤ 128) (hN : m + m' = N) (hlim : N ≤ 1099511627776)
  (h : ∀ A' c' w', St w0 w' (L.set i (.sl A' c' N (xs ++ news) e size)) → WL dl P ops Q rest n ((d, .slice A' N c') :: l) w') :
  WL dl P ops Q (⟨some d, .call { callee := .builtin .append, args := #[X, Y], argTypes := #[t, t] }, ty, pos, af, g⟩ :: rest) n l w := by
 subst hN
 refine WL.go hw fun b hb' hd K hK => ?_
 have e1 := ev_sound (b := b) hb' hx; have e2 := ev_sound (b := b) hb' hy
 have ho := st.row hk
 obtain ⟨ii, hi, hz, hsz, hby, hzc, hpos⟩ := he
 obtain ⟨v', w', hr, ho', hg, _, hat⟩ := run_append_own_at (P := P) w w0.heap.size t ty e ii z size bytes hu hi hz hsz hby hzc hpos (.slice A m c) m xs ho a m' c2 news hl
  (fun j u hu' => by obtain ⟨a', ha', hc'⟩ := hs j u hu'; cases ha'; exact hc') h1 (by simp only [maxLen]; omega) (Nat.le_trans (Nat.mul_le_mul_left _ hb) (by omega)) st.ext.size
 unfold Oper.wp execOp
 simp only [resolve, invoke, builtin, Sem.run_bind, Sem.run_pure, Result.andThen_ok, List.map_toArray, List.map_cons, List.map_nil, e1, e2, hr, Oper.upon_value]
 obtain ⟨A', c', rfl, hst⟩ := st.appended hk ho' hg hat
 exact hK _ _ (h A' c' w' hst b hb' hd)
theorem St.cell_sl (st : St w0 w L) {i c m size b p : Nat} {xs : List Value} {v : Value} (hk : L[i]? = some (.sl (some ⟨b, 0, none⟩) c m xs e size)) (hv : xs[p]? = some v) : w.cell? ⟨b, p, none⟩ = some v := by
 obtain ⟨a, ha, hc⟩ := st.src_sl hk p v hv
 cases ha
 rw [add_plain, Nat.zero_add] at hc
 exact hc
theorem zip_fold (b : Act) : ∀ (qs : List (Tmp × Value)) (l : Ov), qs.foldl (fun t p => t.setIfInBounds p.1 p.2) (ov b l).tmps = (ov b (qs.reverse ++ l)).tmps
  | [], l => rfl
  | q :: qs, l => by
    have h := zip_fold b qs (q :: l)
    rw [List.reverse_cons, List.append_assoc, List.foldl_cons]
    exact h
def subS (A : Option Addr) (l c sz : Nat) : Option Addr := if c = l then A else A.map (·.add (l * sz))
section
variable {A B : Option Addr} {m c N M sz : Nat} {x z : Int} {k'' : IntKind} (hu : P.underlying t = some (.slice e)) (hs : P.cellsOf e = sz) (hsz : sz ≠ 0) (hx : ev n l X = some (.slice A m c))
include hu hs hsz hx
end
theorem set_same {α : Type} {L : List α} {q : Nat} {x : α} (hk : L[q]? = some x) : L.set q x = L := by
 apply List.ext_getElem?
 intro j
 rw [List.getElem?_set]
 split
 ·rename_i h
  subst h
  have := (List.getElem?_eq_some_iff.1 hk).1
  rw [if_pos this, hk]
 rfl
theorem Runs.eql_ptr {p : Option Addr} {b : Bool} (hu : P.underlying t = some (.pointer e)) (hx : ev n l X = some (.pointer p)) (hy : ev n l Y = some (.pointer none)) (hb : p.isNone = b) : Runs P (.binOp .eql t X Y t') ty n l w (.bool b) := fun ρ _ _ _ _ hρ => by
 have h1 := hρ _ _ hx; have h2 := hρ _ _ hy; subst hb
 have hu' : P.underlying t = some (.pointer (P.pointee t)) := by simp [Program.pointee, hu]
 have h3 := run_eql_pointer_nil (P := P) w t p hu'
 show (do let v ← (do eqGuard .eql t X Y (ρ X) (ρ Y); binOp .eql t (ρ X) (ρ Y)); pure (Next.value v) : Sem Next).run P w = _
 rw [h1, h2]
 have h4 : (eqGuard .eql t X Y (.pointer p) (.pointer none)).run P w = .ok () w := by simp [eqGuard]
 simp only [Sem.run_bind, h4, Result.andThen_ok, h3, Sem.run_pure]
theorem Runs.neq_ptr {p : Option Addr} {b : Bool} (hu : P.underlying t = some (.pointer e)) (hx : ev n l X = some (.pointer p)) (hy : ev n l Y = some (.pointer none)) (hb : (!p.isNone) = b) : Runs P (.binOp .neq t X Y t') ty n l w (.bool b) := fun ρ _ _ _ _ hρ => by
 have h1 := hρ _ _ hx; have h2 := hρ _ _ hy; subst hb
 have hu' : P.underlying t = some (.pointer (P.pointee t)) := by simp [Program.pointee, hu]
 have h3 := run_neq_pointer_nil (P := P) w t p hu'
 show (do let v ← (do eqGuard .neq t X Y (ρ X) (ρ Y); binOp .neq t (ρ X) (ρ Y)); pure (Next.value v) : Sem Next).run P w = _
 rw [h1, h2]
 have h4 : (eqGuard .neq t X Y (.pointer p) (.pointer none)).run P w = .ok () w := by simp [eqGuard]
 simp only [Sem.run_bind, h4, Result.andThen_ok, h3, Sem.run_pure]
end Go.Kr
