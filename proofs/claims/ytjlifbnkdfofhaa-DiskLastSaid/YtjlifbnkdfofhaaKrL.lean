/- Words for objects: rows of structs that are owned, rows of bytes that hang in them and are never written again (a pool), what is owned in another order. No program in sight. -/
import Derived.Test.YtjlifbnkdfofhaaKrK
import Derived.RangeFuncNested
import Derived.Laws.Pointers
namespace Go.Kr
open Go Go.RowKit
set_option linter.unusedVariables false
set_option linter.unusedSimpArgs false
variable {P : Program} {dl : List Deferred} {ops : Array Oper} {Q : Exit → Act → World → Prop} {rest : List Oper} {n d : Nat} {l : Ov} {w w0 W : World} {L L' T T' R : List En} {t t' e : TypeId} {X Y : Operand} {ty : TypeId} {pos : String} {af : Array Edge} {g : Option (Nat × Bool)} {k k' : IntKind} {y : Int}

/-! ### 1. What is owned, in another order -/
theorem St.perm (h : St w0 W L) (hp : L.Perm L') : St w0 W L' :=
  ⟨h.ext, fun e he => h.ok e (hp.mem_iff.2 he), (List.Perm.pairwise_iff (fun {x y} hxy b hb hb' => hxy b hb' hb) hp).1 h.apart⟩
/-- One entry goes into the pool, which stands ahead of a rest that one does not name. -/
theorem St.pool {A B : List En} {x : En} (h : St w0 W (A ++ (x :: (B ++ (T ++ R))))) : St w0 W (A ++ (B ++ ((x :: T) ++ R))) := h.perm (by
  refine List.Perm.append_left A ?_
  show (x :: (B ++ (T ++ R))).Perm (B ++ (x :: (T ++ R)))
  exact (List.perm_middle (l₁ := B) (l₂ := T ++ R)).symm)
/-- What is owned besides goes behind the pool, and comes back. -/
theorem St.hide {A B : List En} (h : St w0 W (A ++ (B ++ (T ++ R)))) : St w0 W (A ++ (T ++ (B ++ R))) := h.perm (by
  refine List.Perm.append_left A ?_
  rw [← List.append_assoc, ← List.append_assoc]
  exact List.Perm.append_right R List.perm_append_comm)
theorem St.unhide {A B : List En} (h : St w0 W (A ++ (T ++ (B ++ R)))) : St w0 W (A ++ (B ++ (T ++ R))) := h.perm (by
  refine List.Perm.append_left A ?_
  rw [← List.append_assoc, ← List.append_assoc]
  exact List.Perm.append_right R List.perm_append_comm)

/-! ### 2. What is held -/
def AllOk (T : List En) (base : Nat) (W : World) : Prop := ∀ x ∈ T, x.ok base W
theorem St.allok (st : St w0 W L) (h : ∀ x ∈ T, x ∈ L) : AllOk T w0.heap.size W := fun x hx => st.ok x (h x hx)
theorem AllOk.mono {base : Nat} (h : AllOk T' base W) (hs : ∀ x ∈ T, x ∈ T') : AllOk T base W := fun x hx => h x (hs x hx)
/-- A part of a struct that is kept in a row. -/
inductive Leaf where
  | int (k : IntKind) (x : Int)
  | bool (b : Bool)
  | str (s : ByteArray)
  | row (l : List Int)
/-- A slice of bytes, that reads so wherever the pool is whole. -/
def HeldRow (T : List En) (v : Value) (l : List Int) : Prop := ∃ A n c, v = .slice A n c ∧ n = l.length ∧ n ≤ c ∧ ∀ base W, AllOk T base W → Src W A (iv .u8 l)
def HeldLeaf (T : List En) (v : Value) : Leaf → Prop
  | .int k x => v = .int k x
  | .bool b => v = .bool b
  | .str s => v = .string s
  | .row l => HeldRow T v l
theorem HeldRow.mono {v : Value} {r : List Int} (h : HeldRow T v r) (hs : ∀ x ∈ T, x ∈ T') : HeldRow T' v r := by
  obtain ⟨A, n, c, h1, h2, h3, h4⟩ := h
  exact ⟨A, n, c, h1, h2, h3, fun base W hW => h4 base W (hW.mono hs)⟩
theorem HeldLeaf.mono {v : Value} {x : Leaf} (h : HeldLeaf T v x) (hs : ∀ x ∈ T, x ∈ T') : HeldLeaf T' v x := by
  cases x <;> first | exact h | exact HeldRow.mono h hs
theorem HeldLeaf.one {v : Value} {x : Leaf} (h : HeldLeaf T v x) : v.oneCell' = true := by
  cases x
  case row l => obtain ⟨A, n, c, rfl, _⟩ := h; rfl
  all_goals (cases h; rfl)
/-- An owned row of bytes that goes into the pool is held there. -/
theorem HeldRow.of_sl {A : Option Addr} {n c : Nat} {r : List Int} {size : Nat} (hx : En.sl A c n (iv .u8 r) e size ∈ T) (hn : n = r.length) (hc : n ≤ c) : HeldRow T (.slice A n c) r :=
  ⟨A, n, c, rfl, hn, hc, fun base W hW j v hv => by
    have ho : W.ownsRow base e size (.slice A n c) n (iv .u8 r) := hW _ hx
    rcases ho.2 with ⟨h1, h2⟩ | ⟨b, cap, cur, hv', _, hg, _, _, _, htake⟩
    · have : (iv .u8 r).length = 0 := by rw [ho.1, h2]; simp
      have := (List.getElem?_eq_some_iff.1 hv).1
      omega
    · cases hv'
      exact ⟨_, rfl, ho.cells rfl j v hv⟩⟩
/-- All parts are held. -/
inductive HeldL (T : List En) : List Value → List Leaf → Prop
  | nil : HeldL T [] []
  | cons {v : Value} {x : Leaf} {vs : List Value} {xs : List Leaf} (h : HeldLeaf T v x) (hs : HeldL T vs xs) : HeldL T (v :: vs) (x :: xs)
theorem HeldL.mono {vs : List Value} {xs : List Leaf} (h : HeldL T vs xs) (hs : ∀ x ∈ T, x ∈ T') : HeldL T' vs xs := by
  induction h with
  | nil => exact .nil
  | cons h _ ih => exact .cons (h.mono hs) ih
theorem HeldL.length {vs : List Value} {xs : List Leaf} (h : HeldL T vs xs) : vs.length = xs.length := by
  induction h with
  | nil => rfl
  | cons _ _ ih => simp [ih]
theorem HeldL.one {vs : List Value} {xs : List Leaf} (h : HeldL T vs xs) : ∀ u ∈ vs, u.oneCell' = true := by
  induction h with
  | nil => intro u hu; cases hu
  | cons h _ ih =>
    intro u hu
    rcases List.mem_cons.1 hu with rfl | hu
    · exact h.one
    · exact ih u hu
theorem HeldL.append {vs vs' : List Value} {xs xs' : List Leaf} (h : HeldL T vs xs) (h' : HeldL T vs' xs') : HeldL T (vs ++ vs') (xs ++ xs') := by
  induction h with
  | nil => exact h'
  | cons h _ ih => exact .cons h ih
theorem HeldL.take : ∀ {vs : List Value} {xs : List Leaf} (m : Nat), HeldL T vs xs → HeldL T (vs.take m) (xs.take m)
  | _, _, 0, _ => by simp; exact .nil
  | _, _, m + 1, .nil => by simp; exact .nil
  | _, _, m + 1, .cons h hs => .cons h (hs.take m)
theorem HeldL.drop : ∀ {vs : List Value} {xs : List Leaf} (m : Nat), HeldL T vs xs → HeldL T (vs.drop m) (xs.drop m)
  | _, _, 0, h => h
  | _, _, m + 1, .nil => .nil
  | _, _, m + 1, .cons h hs => hs.drop m
/-- Values laid over others. -/
theorem HeldL.lay {vs ms : List Value} {xs zs : List Leaf} (o : Nat) (h : HeldL T vs xs) (hm : HeldL T ms zs) : HeldL T (vs.take o ++ ms ++ vs.drop (o + ms.length)) (xs.take o ++ zs ++ xs.drop (o + zs.length)) := by
  rw [hm.length]
  exact ((h.take o).append hm).append (h.drop _)

/-! ### 3. Rows of things: each told by its parts -/
section
variable {α : Type} {f : α → List Leaf} {sz : Nat}
/-- Each thing has so many parts. -/
def Sized (f : α → List Leaf) (sz : Nat) : Prop := ∀ a, (f a).length = sz
theorem flat_length (hf : Sized f sz) : ∀ rows : List α, (rows.flatMap f).length = rows.length * sz
  | [] => by simp
  | a :: rows => by rw [List.flatMap_cons, List.length_append, hf, flat_length hf rows, List.length_cons, Nat.add_mul, Nat.one_mul, Nat.add_comm]
theorem flat_take (hf : Sized f sz) : ∀ (rows : List α) (m : Nat), (rows.flatMap f).take (m * sz) = (rows.take m).flatMap f
  | _, 0 => by simp
  | [], m + 1 => by simp
  | a :: rows, m + 1 => by
    rw [List.flatMap_cons, List.take_succ_cons, List.flatMap_cons, Nat.add_mul, Nat.one_mul, Nat.add_comm, ← flat_take hf rows m]
    rw [List.take_append, hf, Nat.add_sub_cancel_left, List.take_of_length_le (by rw [hf]; omega)]
theorem flat_drop (hf : Sized f sz) : ∀ (rows : List α) (m : Nat), (rows.flatMap f).drop (m * sz) = (rows.drop m).flatMap f
  | _, 0 => by simp
  | [], m + 1 => by simp
  | a :: rows, m + 1 => by
    rw [List.flatMap_cons, List.drop_succ_cons, Nat.add_mul, Nat.one_mul, Nat.add_comm, ← flat_drop hf rows m]
    rw [List.drop_append, hf, Nat.add_sub_cancel_left, List.drop_eq_nil_of_le (by rw [hf]; omega), List.nil_append]
/-- The cells of a row of things. -/
def HeldR (T : List En) (f : α → List Leaf) (xs : List Value) (rows : List α) : Prop := HeldL T xs (rows.flatMap f)
theorem HeldR.length {xs : List Value} {rows : List α} (h : HeldR T f xs rows) (hf : Sized f sz) : xs.length = rows.length * sz := by rw [HeldL.length h, flat_length hf]
theorem HeldR.append {xs ys : List Value} {rows rs : List α} (h : HeldR T f xs rows) (h' : HeldR T f ys rs) : HeldR T f (xs ++ ys) (rows ++ rs) := by
  unfold HeldR; rw [List.flatMap_append]; exact HeldL.append h h'
theorem HeldR.get {xs : List Value} {rows : List α} {i : Nat} {a : α} (h : HeldR T f xs rows) (hf : Sized f sz) (hi : rows[i]? = some a) : HeldL T ((xs.drop (i * sz)).take sz) (f a) := by
  have h1 := (HeldL.drop (i * sz) h).take sz
  rw [flat_drop hf] at h1
  have hlt := (List.getElem?_eq_some_iff.1 hi).1
  have e1 : rows.drop i = a :: rows.drop (i + 1) := by
    rw [List.drop_eq_getElem_cons hlt]
    congr 1
    exact Option.some.inj ((List.getElem?_eq_getElem hlt).symm.trans hi)
  rw [e1, List.flatMap_cons, List.take_left' (hf a)] at h1
  exact h1
theorem HeldR.set {xs ms : List Value} {rows : List α} {i : Nat} {a : α} (h : HeldR T f xs rows) (hf : Sized f sz) (hi : i < rows.length) (hm : HeldL T ms (f a)) : HeldR T f (xs.take (i * sz) ++ ms ++ xs.drop (i * sz + ms.length)) (rows.set i a) := by
  have h1 := HeldL.lay (i * sz) h hm
  unfold HeldR
  rw [List.set_eq_take_append_cons_drop, if_pos hi, List.flatMap_append, List.flatMap_cons, ← List.append_assoc]
  rw [flat_take hf, hf a, show i * sz + sz = (i + 1) * sz by rw [Nat.add_mul, Nat.one_mul], flat_drop hf] at h1
  exact h1
end

/-! ### 4. Rows of structs that are owned -/
def ElemS (P : Program) (e : TypeId) (z : Value) (size bytes : Nat) : Prop := ∃ i, P.info? e = some i ∧ i.zero = some z ∧ i.size = size ∧ i.bytes = bytes ∧ z.cells.size = size ∧ 0 < size
theorem ElemS.of {z : Value} {size bytes : Nat} (h : (P.info? e).map (fun i => (i.zero, i.size, i.bytes)) = some (some z, size, bytes)) (hz : z.cells.size = size) (hb : 0 < size) : ElemS P e z size bytes := by
  obtain ⟨i, hi, he⟩ := Option.map_eq_some_iff.1 h
  simp only [Prod.mk.injEq] at he
  exact ⟨i, hi, he.1, he.2.1, he.2.2, hz, hb⟩
theorem WL.appendS {z : Value} {bytes size i : Nat} {A : Option Addr} {a : Addr} {c m m' c2 N : Nat} {xs news : List Value} (hw : Wanted ops g n l true) (st : St w0 w L) (hk : L[i]? = some (.sl A c m xs e size)) (hu : P.underlying t = some (.slice e)) (he : ElemS P e z size bytes)
    (hx : ev n l X = some (.slice A m c)) (hy : ev n l Y = some (.slice (some a) m' c2)) (hs : Src w (some a) news) (hl : news.length = m' * size) (h1 : ∀ u ∈ news, u.oneCell' = true) (hb : bytes ≤ 128) (hN : m + m' = N) (hlim : N ≤ 1099511627776)
    (h : ∀ A' c' w', St w0 w' (L.set i (.sl A' c' N (xs ++ news) e size)) → WL dl P ops Q rest n ((d, .slice A' N c') :: l) w') :
    WL dl P ops Q (⟨some d, .call { callee := .builtin .append, args := #[X, Y], argTypes := #[t, t] }, ty, pos, af, g⟩ :: rest) n l w := by
  subst hN
  refine WL.go hw fun b hb' hd K hK => ?_
  have e1 := ev_sound (b := b) hb' hx; have e2 := ev_sound (b := b) hb' hy
  have ho := st.row hk
  obtain ⟨ii, hi, hz, hsz, hby, hzc, hpos⟩ := he
  obtain ⟨v', w', hr, ho', hg, _, hat⟩ := run_append_own_at (P := P) w w0.heap.size t ty e ii z size bytes hu hi hz hsz hby hzc hpos (.slice A m c) m xs ho a m' c2 news hl
    (fun j u hu' => by obtain ⟨a', ha', hc'⟩ := hs j u hu'; cases ha'; exact hc') h1 (by simp only [maxLen]; omega) (Nat.le_trans (Nat.mul_le_mul_left _ hb) (by omega)) st.ext.size
  unfold Oper.wp execOp
  simp only [resolve, invoke, builtin, Sem.run_bind, Sem.run_pure, Result.andThen_ok, List.map_toArray, List.map_cons, List.map_nil, e1, e2, hr, Oper.upon_value]
  obtain ⟨A', c', rfl, hst⟩ := st.appended hk ho' hg hat
  exact hK _ _ (h A' c' w' hst b hb' hd)
theorem St.sl_some (st : St w0 w L) {i c m size : Nat} {A : Option Addr} {xs : List Value} (hk : L[i]? = some (.sl A c m xs e size)) (hm : 0 < m) : ∃ g, A = some ⟨g, 0, none⟩ := by
  rcases (st.row hk).2 with ⟨h1, h2⟩ | ⟨g, cap, cur, hv, _⟩
  · omega
  · cases hv; exact ⟨g, rfl⟩
theorem St.sl_len (st : St w0 w L) {i c m size : Nat} {A : Option Addr} {xs : List Value} (hk : L[i]? = some (.sl A c m xs e size)) : xs.length = m * size := (st.row hk).1
theorem St.cell_sl (st : St w0 w L) {i c m size b p : Nat} {xs : List Value} {v : Value} (hk : L[i]? = some (.sl (some ⟨b, 0, none⟩) c m xs e size)) (hv : xs[p]? = some v) : w.cell? ⟨b, p, none⟩ = some v := by
  obtain ⟨a, ha, hc⟩ := st.src_sl hk p v hv
  cases ha
  rw [add_plain, Nat.zero_add] at hc
  exact hc
theorem Runs.load_slR {b p m i c q size : Nat} {xs ms : List Value} (ht : RowT P t m) (hx : ev n l X = some (.pointer (some ⟨b, p, none⟩))) (st : St w0 w L) (hk : L[i]? = some (.sl (some ⟨b, 0, none⟩) c q xs e size)) (hp : (xs.drop p).take m = ms) (hm : ms.length = m) :
    Runs P (.load t X) ty n l w (.agg ms.toArray) := fun ρ _ _ _ _ hρ => by
  have e1 := hρ _ _ hx
  obtain ⟨dd, hu, hr, hs⟩ := ht
  have hra : w.rangeAt b p ms := fun j u hj => by
    rw [← hp, List.getElem?_take] at hj
    split at hj
    · rw [List.getElem?_drop] at hj; exact st.cell_sl hk hj
    · cases hj
  have := run_loadAt_mid (P := P) w b p t ms dd hra hu hr (by rw [hs, hm])
  simp only [execOp, e1, Sem.run_bind, this, Result.andThen_ok, Sem.run_pure]
/-- Cells of an owned row, laid anew. -/
theorem own_lay {W : World} {base size b m c p : Nat} {xs ms : List Value} (ho : W.ownsRow base e size (.slice (some ⟨b, 0, none⟩) m c) m xs) (hp : p + ms.length ≤ xs.length) :
    (W.setCells b p ms).ownsRow base e size (.slice (some ⟨b, 0, none⟩) m c) m (xs.take p ++ ms ++ xs.drop (p + ms.length)) ∧ W.grownBy (W.setCells b p ms) (some b) := by
  have hl := ho.1
  rcases ho.2 with ⟨h1, _⟩ | ⟨b', cap, cur, hv, hbase, hg, hnc, hcm, hcs, htake⟩
  · simp at h1
  · cases hv
    have hcl : xs.length ≤ cur.size := by
      rw [hl, hcs]; exact Nat.mul_le_mul_right _ hnc
    obtain ⟨g1, g2⟩ := setCells_row b e (0, 0) ms p W cur.toList (by simpa using hg) (by simp; omega)
    obtain ⟨r, hsplit⟩ : ∃ r, cur.toList = xs ++ r := ⟨cur.toList.drop (m * size), by
      have := List.take_append_drop (m * size) cur.toList
      rw [htake] at this; exact this.symm⟩
    refine ⟨⟨by simp; omega, .inr ⟨b, c, _, rfl, hbase, g1, hnc, hcm, by rw [List.size_toArray]; simp only [List.length_append, List.length_take, List.length_drop, Array.length_toList]; rw [← hcs]; omega, ?_⟩⟩, g2⟩
    simp only [List.toList_toArray]
    have e2 : cur.toList.take p ++ ms ++ cur.toList.drop (p + ms.length) = (xs.take p ++ ms ++ xs.drop (p + ms.length)) ++ r := by
      rw [hsplit, List.take_append_of_le_length (by omega), List.drop_append_of_le_length (by omega)]
      simp [List.append_assoc]
    rw [e2]
    exact List.take_left' (by simp; omega)
theorem WL.store_slR {b p m i c q size : Nat} {xs ms : List Value} (st : St w0 w L) (hk : L[i]? = some (.sl (some ⟨b, 0, none⟩) c q xs e size)) (ht : RowT P t m) (hx : ev n l X = some (.pointer (some ⟨b, p, none⟩)))
    (hy : ev n l Y = some (.agg ms.toArray)) (hm : ms.length = m) (hp : p + m ≤ xs.length) (h1 : ∀ u ∈ ms, u.oneCell' = true)
    (h : ∀ w', St w0 w' (L.set i (.sl (some ⟨b, 0, none⟩) c q (xs.take p ++ ms ++ xs.drop (p + ms.length)) e size)) → WL dl P ops Q rest n l w') : WL dl P ops Q (⟨none, .store t X Y, ty, pos, af, none⟩ :: rest) n l w := by
  refine WL.go .none fun b' hb' hd K hK => ?_
  have e1 := ev_sound (b := b') hb' hx; have e2 := ev_sound (b := b') hb' hy
  have ho := st.row hk
  obtain ⟨dd, hu, hr, hs⟩ := ht
  have hfr : ∀ j, j < xs.length → w.frozen? ⟨b, j, none⟩ = false := fun j hj => by
    rcases ho.2 with ⟨h1, _⟩ | ⟨b2, cap, cur, hv, hbase, hg, _⟩
    · simp at h1
    · cases hv
      simp [World.frozen?, hg]
  have hr := run_storeAt_mid (P := P) w b p t ms.toArray (fun j hj => by
    have hc : j < ms.length := by simpa using hj
    have h2 : xs[p + j]? = some xs[p + j] := List.getElem?_eq_getElem (by omega)
    exact ⟨by rw [st.cell_sl hk h2]; rfl, hfr _ (by omega)⟩) (by rw [hs]; simp [hm]) (by
      rw [Array.all_eq_true_iff_forall_mem]
      intro u hu
      exact h1 u (by simpa using hu))
  rw [List.toList_toArray] at hr
  obtain ⟨g1, g2⟩ := own_lay ho (ms := ms) (p := p) (by omega)
  unfold Oper.wp execOp
  simp only [Sem.run_bind, e1, e2, hr, Result.andThen_ok, Sem.run_pure, Oper.upon_skip]
  exact hK _ _ (h _ (st.turn hk (row := some b) rfl g2 g1 (fun b hb => .inl hb)) b' hb' hd)

/-! ### 5. A range over a function, of any number of variables, whose body may leave it -/
theorem zip_fold (b : Act) : ∀ (qs : List (Tmp × Value)) (l : Ov), qs.foldl (fun t p => t.setIfInBounds p.1 p.2) (ov b l).tmps = (ov b (qs.reverse ++ l)).tmps
  | [], l => rfl
  | q :: qs, l => by
    have h := zip_fold b qs (q :: l)
    rw [List.reverse_cons, List.append_assoc, List.foldl_cons]
    exact h
/-- What stands between two rounds, and behind the way out by c. -/
def ownSt {α σ : Type} (w0 : World) (p : List α → σ → Prop) (Lf : σ → List En) (pre : List α) (W : World) : Prop := ∃ s, p pre s ∧ St w0 W (Lf s)
theorem CW.rangeX {α σ : Type} {gf : Nat} {lb : Array Value} {X : Operand} {assign body : Code} {ps : List Tmp} {encs : α → List Value} {Kp : World → World → Prop} {Sp : List α → Prop} {N : Nat} {xs0 : List α}
    (st : St w0 w L) (hx : ev n l X = some (.func (.func gf) #[] lb)) (he : Ent P gf) (hseq : SeqStopsK Fence.wide 2 P gf lb (fun x => (encs x).toArray) Kp (fun xs => xs = xs0) Sp N w)
    (hKt : ∀ {A B C : World}, Kp A B → Kp B C → Kp A C) (hKb : ∀ (W : World) (j : Nat) (o o' : Obj), w.heap.size ≤ j → W.heap[j]? = some o → o.isCells = false → Kp W (W.putObj j o'))
    (rel : List α → σ → Prop) (relx : Code → List α → σ → Prop) (Lf : σ → List En) (hc : ∀ s, celly (Lf s) = true) (s0 : σ) (h0 : rel [] s0) (hL : L = Lf s0)
    (hlen : ∀ x, (encs x).length = ps.length) (fr : α → Ov)
    (hassign : ∀ (j : Nat) (x : α) (W : World) (K : Act → World → Prop) (b : Act), b.tmps.size = n → b.defers = [] → K (ov b (fr x ++ l)) W → assign.wpIn (Fence.wide.inRound j) 1 P (Exit.then K (fun _ _ _ => False)) (ov b ((ps.zip (encs x)).reverse ++ l)) W)
    (hbody : ∀ (j : Nat) (pre : List α) (x : α) (s : σ) (W : World), rel pre s → St w0 W (Lf s) → pre.length < N → ∀ b : Act, b.tmps.size = n → b.defers = [] →
      body.wpIn (Fence.wide.inRound j) 1 P (ownPostK Kp (ownSt w0 rel Lf) (fun c => ownSt w0 (relx c) Lf) (pre ++ [x]) W) (ov b (fr x ++ l)) W)
    (hdone : ∀ (D : Nat) (s : σ) (W : World), rel xs0 s → St w0 W (.obj D (.deferred (some [])) :: Lf s) → QW ({ target := .collected D, args := #[] } :: dl) Q .normal n l W)
    (hstop : ∀ (D : Nat) (c : Code) (pre : List α) (s : σ) (W : World), Sp pre → relx c pre s → St w0 W (.obj D (.deferred (some [])) :: Lf s) → CW ({ target := .collected D, args := #[] } :: dl) P c Q n l W) :
    CW dl P (.rangeFunc X ps.toArray assign body) Q n l w := fun b hb hd => by
  have marked : ∀ {D : Nat} {s : σ} {W : World}, w.heap.size ≤ D → St w0 W (Lf s) → W.heap[D]? = some (.deferred (some [])) → St w0 W (.obj D (.deferred (some [])) :: Lf s) := fun {D s W} hD hst hobj => by
    refine ⟨hst.ext, ?_, ?_⟩
    · intro e he
      rcases List.mem_cons.1 he with rfl | he
      · exact ⟨Nat.le_trans st.ext.size hD, hobj⟩
      · exact hst.ok e he
    · refine List.pairwise_cons.2 ⟨?_, hst.apart⟩
      intro y hy b' hb' hb''
      simp only [En.blk, Option.some.injEq] at hb'
      subst hb'
      obtain ⟨cs, t, fr, hx⟩ := en_cells (hst.ok y hy) (celly_mem (hc s) y hy) hb''
      rw [hx] at hobj
      cases hobj
  refine wpIn_wide.1 (wpIn_rangeFunc_ownF (n := 3) (w0 := w) rfl (by omega) (ev_sound hb hx) trivial (fun args w => he.run args w) hseq hKt (fun W j o o' h1 h2 h3 _ => hKb W j o o' h1 h2 h3) (Below.refl _ _) (fun x => by simp [hlen])
    (ownSt w0 rel Lf) (fun c => ownSt w0 (relx c) Lf) (own_st st.ext.size rel Lf hc) (fun c => own_st st.ext.size (relx c) Lf hc) ⟨s0, h0, hL ▸ st⟩
    (fun x => ov { b with defers := [] } (fr x ++ l)) ?_ ?_ ?_ ?_)
  · intro j x W K hK
    have hact : ({ tmps := (ps.toArray.zip (encs x).toArray).foldl (fun t (p, v) => t.setIfInBounds p v) (ov b l).tmps, defers := [] } : Act) = ov { b with defers := [] } ((ps.zip (encs x)).reverse ++ l) := by
      refine act_eq ?_ ?_
      · have h := zip_fold { b with defers := [] } (ps.zip (encs x)) l
        rw [ov_tmps_defers] at h
        rw [← h]
        simp
      · rw [ov_defers]
    rw [hact]
    exact hassign j x W K { b with defers := [] } hb rfl hK
  · intro j pre x W ⟨s, hr, hst⟩ hlt
    exact hbody j pre x s W hr hst hlt _ hb rfl
  · rintro D xs W hD rfl ⟨s, hr, hst⟩ hobj
    have := hdone D s W hr (marked hD hst hobj) { b with defers := { target := .collected D, args := #[] } :: b.defers } hb (by rw [← hd])
    rw [← ov_defers_with b _ l] at this
    rw [ov_defers]
    exact this
  · rintro D c pre W hD hSp ⟨s, hr, hst⟩ hobj
    have := hstop D c pre s W hSp hr (marked hD hst hobj) { b with defers := { target := .collected D, args := #[] } :: b.defers } hb (by rw [← hd])
    rw [← ov_defers_with b _ l] at this
    rw [ov_defers]
    exact wpIn_wide.2 this

/-! ### 6. Parts of a row of structs -/
def subS (A : Option Addr) (l c sz : Nat) : Option Addr := if c = l then A else A.map (·.add (l * sz))
section
variable {A B : Option Addr} {m c N M sz : Nat} {x z : Int} {k'' : IntKind} (hu : P.underlying t = some (.slice e)) (hs : P.cellsOf e = sz) (hsz : sz ≠ 0) (hx : ev n l X = some (.slice A m c))
include hu hs hsz hx
theorem Runs.sliceS_lh {lo hi : Operand} (hl : ev n l lo = some (.int k x)) (hh : ev n l hi = some (.int k' y)) (h0 : 0 ≤ x) (h1 : x ≤ y) (h2 : y ≤ c) (hB : B = subS A x.toNat c sz) (hN : N = y.toNat - x.toNat) (hM : M = c - x.toNat) : Runs P (.slice t X (some lo) (some hi) none) ty n l w (.slice B N M) := fun ρ _ _ _ _ hρ => by
  have e1 := hρ _ _ hx; have e2 := hρ _ _ hl; have e3 := hρ _ _ hh
  obtain ⟨i, hi', hz⟩ := info_of_cells hs hsz
  have ht : P.underlying t = some (.slice (P.elem t)) := by rw [cellsOf_elem hu]; exact hu
  subst hB; subst hN; subst hM
  simp only [execOp, e1, e2, e3, Option.map_some, Option.map_none, Sem.run_bind, run_sliceAt_slice w t _ _ _ _ ht, run_slice_lh w t A m c ht k k' x y h0 h1 h2, sizeOf, typeInfo, cellsOf_elem hu]
  simp [hi', hz, sliced, subS]
theorem Runs.sliceS_h {hi : Operand} (hh : ev n l hi = some (.int k' y)) (h0 : 0 ≤ y) (h2 : y ≤ c) (hB : B = subS A 0 c sz) (hN : N = y.toNat) : Runs P (.slice t X none (some hi) none) ty n l w (.slice B N c) := fun ρ _ _ _ _ hρ => by
  have e1 := hρ _ _ hx; have e3 := hρ _ _ hh
  obtain ⟨i, hi', hz⟩ := info_of_cells hs hsz
  have ht : P.underlying t = some (.slice (P.elem t)) := by rw [cellsOf_elem hu]; exact hu
  subst hB; subst hN
  simp only [execOp, e1, e3, Option.map_some, Option.map_none, Sem.run_bind, run_sliceAt_slice w t _ _ _ _ ht, run_slice_h w t A m c ht k' y h0 h2, sizeOf, typeInfo, cellsOf_elem hu]
  simp [hi', hz, sliced, subS]
theorem Runs.sliceS_l {lo : Operand} (hl : ev n l lo = some (.int k x)) (h0 : 0 ≤ x) (h1 : x ≤ m) (hB : B = subS A x.toNat c sz) (hN : N = m - x.toNat) (hM : M = c - x.toNat) : Runs P (.slice t X (some lo) none none) ty n l w (.slice B N M) := fun ρ _ _ _ _ hρ => by
  have e1 := hρ _ _ hx; have e2 := hρ _ _ hl
  obtain ⟨i, hi', hz⟩ := info_of_cells hs hsz
  have ht : P.underlying t = some (.slice (P.elem t)) := by rw [cellsOf_elem hu]; exact hu
  subst hB; subst hN; subst hM
  simp only [execOp, e1, e2, Option.map_some, Option.map_none, Sem.run_bind, run_sliceAt_slice w t _ _ _ _ ht, run_slice_l w t A m c ht k x h0 h1, sizeOf, typeInfo, cellsOf_elem hu]
  simp [hi', hz, sliced, subS]
theorem Runs.sliceS_3 {lo hi mx : Operand} (hl : ev n l lo = some (.int k x)) (hh : ev n l hi = some (.int k' y)) (hm : ev n l mx = some (.int k'' z)) (h0 : 0 ≤ x) (h1 : x ≤ y) (h2 : y ≤ z) (h3 : z ≤ c) (hB : B = subS A x.toNat z.toNat sz) (hN : N = y.toNat - x.toNat) (hM : M = z.toNat - x.toNat) :
    Runs P (.slice t X (some lo) (some hi) (some mx)) ty n l w (.slice B N M) := fun ρ _ _ _ _ hρ => by
  have e1 := hρ _ _ hx; have e2 := hρ _ _ hl; have e3 := hρ _ _ hh; have e4 := hρ _ _ hm
  obtain ⟨i, hi', hz⟩ := info_of_cells hs hsz
  have ht : P.underlying t = some (.slice (P.elem t)) := by rw [cellsOf_elem hu]; exact hu
  subst hB; subst hN; subst hM
  simp only [execOp, e1, e2, e3, e4, Option.map_some, Sem.run_bind, run_sliceAt_slice w t _ _ _ _ ht, run_slice_lhm w t A m c ht k k' k'' x y z h0 h1 h2 h3, sizeOf, typeInfo, cellsOf_elem hu]
  simp [hi', hz, sliced, subS]
end

/-! ### 7. Append behind a first part, where there is room -/
theorem own_trunc {W : World} {base size b m c i : Nat} {xs : List Value} (ho : W.ownsRow base e size (.slice (some ⟨b, 0, none⟩) m c) m xs) (hi : i ≤ m) : W.ownsRow base e size (.slice (some ⟨b, 0, none⟩) i c) i (xs.take (i * size)) := by
  have hl := ho.1
  have hle : i * size ≤ m * size := Nat.mul_le_mul_right _ hi
  rcases ho.2 with ⟨h1, _⟩ | ⟨b', cap, cur, hv, hbase, hg, hnc, hcm, hcs, htake⟩
  · simp at h1
  · cases hv
    refine ⟨by rw [List.length_take]; omega, .inr ⟨b, c, cur, rfl, hbase, hg, by omega, hcm, hcs, ?_⟩⟩
    rw [← htake, List.take_take, Nat.min_eq_left hle]
theorem WL.append_cutS {z : Value} {bytes size q b : Nat} {a : Addr} {c m i m' c2 N : Nat} {xs news : List Value} (hw : Wanted ops g n l true) (st : St w0 w L) (hk : L[q]? = some (.sl (some ⟨b, 0, none⟩) c m xs e size)) (hu : P.underlying t = some (.slice e)) (he : ElemS P e z size bytes)
    (hx : ev n l X = some (.slice (some ⟨b, 0, none⟩) i c)) (hi : i ≤ m) (hy : ev n l Y = some (.slice (some a) m' c2)) (hs : Src w (some a) news) (hl : news.length = m' * size) (h1 : ∀ u ∈ news, u.oneCell' = true) (hb : bytes ≤ 128) (hN : i + m' = N) (hroom : N ≤ c) (hlim : N ≤ 1099511627776)
    (h : ∀ w', St w0 w' (L.set q (.sl (some ⟨b, 0, none⟩) c N (xs.take (i * size) ++ news) e size)) → WL dl P ops Q rest n ((d, .slice (some ⟨b, 0, none⟩) N c) :: l) w') :
    WL dl P ops Q (⟨some d, .call { callee := .builtin .append, args := #[X, Y], argTypes := #[t, t] }, ty, pos, af, g⟩ :: rest) n l w := by
  subst hN
  refine WL.go hw fun b' hb' hd K hK => ?_
  have e1 := ev_sound (b := b') hb' hx; have e2 := ev_sound (b := b') hb' hy
  have ho := own_trunc (st.row hk) hi
  have hn : ∀ j u, news[j]? = some u → w.cell? (a.add j) = some u := fun j u hu' => by obtain ⟨a', ha', hc'⟩ := hs j u hu'; cases ha'; exact hc'
  obtain ⟨ii, hii, hz, hsz, hby, hzc, hpos⟩ := he
  obtain ⟨v', w', hr, ho', hg, _, hat⟩ := run_append_own_at (P := P) w w0.heap.size t ty e ii z size bytes hu hii hz hsz hby hzc hpos _ i _ ho a m' c2 news hl
    hn h1 (by simp only [maxLen]; omega) (Nat.le_trans (Nat.mul_le_mul_left _ hb) (by omega)) st.ext.size
  have hv : v' = .slice (some ⟨b, 0, none⟩) (i + m') c := by
    rcases ho.2 with ⟨h2, _⟩ | ⟨b2, cap, cur, hv2, hbase, hgb, hnc, hcm, hcs, htake⟩
    · simp at h2
    · cases hv2
      have hr2 := run_append_room (P := P) w t ty e ii hu hii b i c cur hgb a m' c2 news (by rw [hsz]; exact hl) hn h1 hroom (by rw [hsz, hl, hcs, ← Nat.add_mul]; exact Nat.mul_le_mul_right _ hroom)
      rw [hr] at hr2
      cases hr2
      rfl
  subst hv
  unfold Oper.wp execOp
  simp only [resolve, invoke, builtin, Sem.run_bind, Sem.run_pure, Result.andThen_ok, List.map_toArray, List.map_cons, List.map_nil, e1, e2, hr, Oper.upon_value]
  exact hK _ _ (h w' (st.turn hk (row := some b) rfl hg ho' (fun x hx => .inl hx)) b' hb' hd)

/-! ### 8. clear behind the end of a row -/
theorem own_beyond {W : World} {base size b m c p : Nat} {xs ms : List Value} (ho : W.ownsRow base e size (.slice (some ⟨b, 0, none⟩) m c) m xs) (hp : m * size ≤ p) (hfit : p + ms.length ≤ c * size) :
    (W.setCells b p ms).ownsRow base e size (.slice (some ⟨b, 0, none⟩) m c) m xs ∧ W.grownBy (W.setCells b p ms) (some b) := by
  have hl := ho.1
  rcases ho.2 with ⟨h1, _⟩ | ⟨b', cap, cur, hv, hbase, hg, hnc, hcm, hcs, htake⟩
  · simp at h1
  · cases hv
    obtain ⟨g1, g2⟩ := setCells_row b e (0, 0) ms p W cur.toList (by simpa using hg) (by simp; omega)
    refine ⟨⟨hl, .inr ⟨b, c, _, rfl, hbase, g1, hnc, hcm, by rw [List.size_toArray]; simp only [List.length_append, List.length_take, List.length_drop, Array.length_toList]; rw [← hcs]; omega, ?_⟩⟩, g2⟩
    rw [← htake, List.append_assoc, List.take_append_of_le_length (by rw [List.length_take, Array.length_toList]; omega), List.take_take, Nat.min_eq_left hp]
theorem set_same {α : Type} {L : List α} {q : Nat} {x : α} (hk : L[q]? = some x) : L.set q x = L := by
  apply List.ext_getElem?
  intro j
  rw [List.getElem?_set]
  split
  · rename_i h
    subst h
    have := (List.getElem?_eq_some_iff.1 hk).1
    rw [if_pos this, hk]
  · rfl
theorem WL.clearS {z : Value} {bytes size q b c m p N M : Nat} {B : Option Addr} {xs : List Value} (st : St w0 w L) (hk : L[q]? = some (.sl (some ⟨b, 0, none⟩) c m xs e size)) (hu : P.underlying t = some (.slice e)) (he : ElemS P e z size bytes) (hz1 : ∀ u ∈ z.cells, u.oneCell' = true)
    (hx : ev n l X = some (.slice B N M)) (hB : N ≠ 0 → B = some ⟨b, p, none⟩) (hp : m * size ≤ p) (hfit : p + N * size ≤ c * size) (h : ∀ w', St w0 w' L → WL dl P ops Q rest n l w') :
    WL dl P ops Q (⟨none, .call { callee := .builtin .clear, args := #[X], argTypes := #[t] }, ty, pos, af, none⟩ :: rest) n l w := by
  refine WL.go .none fun b' hb' hd K hK => ?_
  have e1 := ev_sound (b := b') hb' hx
  obtain ⟨ii, hi, hz, hsz, hby, hzc, hpos⟩ := he
  by_cases hN : N = 0
  · subst hN
    have hr : (Builtin.clear_ #[t] ty #[.slice B 0 M]).run P w = .ok (.tuple #[]) w := by
      cases B <;> simp [Builtin.clear_, run_underlying hu]
    unfold Oper.wp execOp
    simp only [resolve, invoke, builtin, Sem.run_bind, Sem.run_pure, Result.andThen_ok, List.map_toArray, List.map_cons, List.map_nil, e1, hr, Oper.upon_value]
    exact hK _ _ (h w st b' hb' hd)
  · have hB' := hB hN
    subst hB'
    have ho := st.row hk
    have hlen : (Builtin.zeroCells z.cells N).toList.length = N * size := by simp [Builtin.zeroCells, hzc]
    have hcell : ∀ j, j < N * size → (w.cell? ⟨b, p + j, none⟩).isSome = true ∧ w.frozen? ⟨b, p + j, none⟩ = false := fun j hj => by
      rcases ho.2 with ⟨h2, _⟩ | ⟨b2, cap, cur, hv2, hbase, hgb, hnc, hcm, hcs, htake⟩
      · simp at h2
      · cases hv2
        rw [cell_of_row w b (p + j) cur e (0, 0) hgb, frozen_of_row w b (p + j) cur e hgb]
        refine ⟨?_, rfl⟩
        rw [Array.getElem?_eq_getElem (by omega)]
        rfl
    have hst := run_storeCells_cells (P := P) b p (Builtin.zeroCells z.cells N).toList 0 w (fun j hj => by rw [hlen] at hj; simpa using (hcell j hj).1) (fun j hj => by rw [hlen] at hj; simpa using (hcell j hj).2) (fun v hv => by
      simp only [Builtin.zeroCells, Array.toList_map, List.mem_map] at hv
      obtain ⟨i, _, rfl⟩ := hv
      rw [getElem!_pos z.cells (i % z.cells.size) (Nat.mod_lt _ (by omega))]
      exact hz1 _ (Array.getElem_mem _))
    simp only [Nat.add_zero] at hst
    have hr : (Builtin.clear_ #[t] ty #[.slice (some ⟨b, p, none⟩) N M]).run P w = .ok (.tuple #[]) (w.setCells b p (Builtin.zeroCells z.cells N).toList) := by
      obtain ⟨k, rfl⟩ : ∃ k, N = k + 1 := ⟨N - 1, by omega⟩
      simp [Builtin.clear_, run_underlying hu, zeroValue, typeInfo, hi, hz, hst]
    obtain ⟨o1, o2⟩ := own_beyond ho (ms := (Builtin.zeroCells z.cells N).toList) hp (by rw [hlen]; exact hfit)
    have st2 := st.turn (e' := .sl (some ⟨b, 0, none⟩) c m xs e size) hk (row := some b) rfl o2 o1 (fun x hx => .inl hx)
    rw [set_same hk] at st2
    unfold Oper.wp execOp
    simp only [resolve, invoke, builtin, Sem.run_bind, Sem.run_pure, Result.andThen_ok, List.map_toArray, List.map_cons, List.map_nil, e1, hr, Oper.upon_value]
    exact hK _ _ (h _ st2 b' hb' hd)

/-! ### 9. A range over a function whose assignment lays its variables in memory -/
theorem CW.rangeB {α σ : Type} {gf : Nat} {lb : Array Value} {X : Operand} {assign body : Code} {ps : List Tmp} {encs : α → List Value} {Kp : World → World → Prop} {Sp : List α → Prop} {N : Nat} {xs0 : List α}
    (st : St w0 w L) (hx : ev n l X = some (.func (.func gf) #[] lb)) (he : Ent P gf) (hseq : SeqStopsK Fence.wide 2 P gf lb (fun x => (encs x).toArray) Kp (fun xs => xs = xs0) Sp N w)
    (hKt : ∀ {A B C : World}, Kp A B → Kp B C → Kp A C) (hKb : ∀ (W : World) (j : Nat) (o o' : Obj), w.heap.size ≤ j → W.heap[j]? = some o → o.isCells = false → Kp W (W.putObj j o'))
    (rel : List α → σ → Prop) (relx : Code → List α → σ → Prop) (Lf : σ → List En) (hc : ∀ s, celly (Lf s) = true) (s0 : σ) (h0 : rel [] s0) (hL : L = Lf s0)
    (hlen : ∀ x, (encs x).length = ps.length) (Bx : α → Ov → World → Prop) (hBx : ∀ x l', OwnFrom w.heap.size (fun (_ : Unit) W => Bx x l' W))
    (hassign : ∀ (j : Nat) (pre : List α) (x : α) (s : σ) (W : World) (K : Act → World → Prop) (b : Act), rel pre s → St w0 W (Lf s) → b.tmps.size = n → b.defers = [] →
      (∀ l' W' s', KeepsFrom w.heap.size W W' → Kp W W' → rel pre s' → St w0 W' (Lf s') → Bx x l' W' → K (ov b l') W') → assign.wpIn (Fence.wide.inRound j) 1 P (Exit.then K (fun _ _ _ => False)) (ov b ((ps.zip (encs x)).reverse ++ l)) W)
    (hbody : ∀ (j : Nat) (pre : List α) (x : α) (s : σ) (W : World) (l' : Ov), rel pre s → St w0 W (Lf s) → Bx x l' W → pre.length < N → ∀ b : Act, b.tmps.size = n → b.defers = [] →
      body.wpIn (Fence.wide.inRound j) 1 P (ownPostG w.heap.size Kp (ownSt w0 rel Lf) (fun c => ownSt w0 (relx c) Lf) (pre ++ [x]) W) (ov b l') W)
    (hdone : ∀ (D : Nat) (s : σ) (W : World), rel xs0 s → St w0 W (.obj D (.deferred (some [])) :: Lf s) → QW ({ target := .collected D, args := #[] } :: dl) Q .normal n l W)
    (hstop : ∀ (D : Nat) (c : Code) (pre : List α) (s : σ) (W : World), Sp pre → relx c pre s → St w0 W (.obj D (.deferred (some [])) :: Lf s) → CW ({ target := .collected D, args := #[] } :: dl) P c Q n l W) :
    CW dl P (.rangeFunc X ps.toArray assign body) Q n l w := fun b hb hd => by
  have marked : ∀ {D : Nat} {s : σ} {W : World}, w.heap.size ≤ D → St w0 W (Lf s) → W.heap[D]? = some (.deferred (some [])) → St w0 W (.obj D (.deferred (some [])) :: Lf s) := fun {D s W} hD hst hobj => by
    refine ⟨hst.ext, ?_, ?_⟩
    · intro e he
      rcases List.mem_cons.1 he with rfl | he
      · exact ⟨Nat.le_trans st.ext.size hD, hobj⟩
      · exact hst.ok e he
    · refine List.pairwise_cons.2 ⟨?_, hst.apart⟩
      intro y hy b' hb' hb''
      simp only [En.blk, Option.some.injEq] at hb'
      subst hb'
      obtain ⟨cs, t, fr, hx⟩ := en_cells (hst.ok y hy) (celly_mem (hc s) y hy) hb''
      rw [hx] at hobj
      cases hobj
  refine wpIn_wide.1 (wpIn_rangeFunc_ownH (n := 3) (w0 := w) rfl (by omega) (ev_sound hb hx) trivial (fun args w => he.run args w) hseq hKt (fun W j o o' h1 h2 h3 _ => hKb W j o o' h1 h2 h3) (Below.refl _ _) (fun x => by simp [hlen])
    (ownSt w0 rel Lf) (fun c => ownSt w0 (relx c) Lf) (own_st st.ext.size rel Lf hc) (fun c => own_st st.ext.size (relx c) Lf hc) ⟨s0, h0, hL ▸ st⟩
    (fun x a' W => ∃ l', a' = ov { b with defers := [] } l' ∧ Bx x l' W) (fun x a' _ W W' row ⟨l', e, hB⟩ hg hr => ⟨l', e, hBx x l' () W W' row hB hg hr⟩) ?_ ?_ ?_ ?_)
  · intro j pre x W K ⟨s, hr, hst⟩ hK
    have hact : ({ tmps := (ps.toArray.zip (encs x).toArray).foldl (fun t (p, v) => t.setIfInBounds p v) (ov b l).tmps, defers := [] } : Act) = ov { b with defers := [] } ((ps.zip (encs x)).reverse ++ l) := by
      refine act_eq ?_ ?_
      · have h := zip_fold { b with defers := [] } (ps.zip (encs x)) l
        rw [ov_tmps_defers] at h
        rw [← h]
        simp
      · rw [ov_defers]
    rw [hact]
    exact hassign j pre x s W K { b with defers := [] } hr hst hb rfl fun l' W' s' h1 h2 h3 h4 h5 => hK _ _ h1 h2 ⟨s', h3, h4⟩ ⟨l', rfl, h5⟩
  · rintro j pre x _ W _ _ ⟨s, hr, hst⟩ ⟨l', rfl, hB⟩ hlt
    exact hbody j pre x s W l' hr hst hB hlt _ hb rfl
  · rintro D xs W hD rfl ⟨s, hr, hst⟩ hobj
    have := hdone D s W hr (marked hD hst hobj) { b with defers := { target := .collected D, args := #[] } :: b.defers } hb (by rw [← hd])
    rw [← ov_defers_with b _ l] at this
    rw [ov_defers]
    exact this
  · rintro D c pre W hD hSp ⟨s, hr, hst⟩ hobj
    have := hstop D c pre s W hSp hr (marked hD hst hobj) { b with defers := { target := .collected D, args := #[] } :: b.defers } hb (by rw [← hd])
    rw [← ov_defers_with b _ l] at this
    rw [ov_defers]
    exact wpIn_wide.2 this

/-! ### 10. A pointer against nil -/
theorem Runs.eql_ptr {p : Option Addr} {b : Bool} (hu : P.underlying t = some (.pointer e)) (hx : ev n l X = some (.pointer p)) (hy : ev n l Y = some (.pointer none)) (hb : p.isNone = b) : Runs P (.binOp .eql t X Y t') ty n l w (.bool b) := fun ρ _ _ _ _ hρ => by
  have h1 := hρ _ _ hx; have h2 := hρ _ _ hy; subst hb
  have hu' : P.underlying t = some (.pointer (P.pointee t)) := by simp [Program.pointee, hu]
  have h3 := run_eql_pointer_nil (P := P) w t p hu'
  show (do let v ← (do eqGuard .eql t X Y (ρ X) (ρ Y); binOp .eql t (ρ X) (ρ Y)); pure (Next.value v) : Sem Next).run P w = _
  rw [h1, h2]
  have h4 : (eqGuard .eql t X Y (.pointer p) (.pointer none)).run P w = .ok () w := by simp [eqGuard]
  simp only [Sem.run_bind, h4, Result.andThen_ok, h3, Sem.run_pure]
theorem Runs.neq_ptr {p : Option Addr} {b : Bool} (hu : P.underlying t = some (.pointer e)) (hx : ev n l X = some (.pointer p)) (hy : ev n l Y = some (.pointer none)) (hb : (!p.isNone) = b) : Runs P (.binOp .neq t X Y t') ty n l w (.bool b) := fun ρ _ _ _ _ hρ => by
  have h1 := hρ _ _ hx; have h2 := hρ _ _ hy; subst hb
  have hu' : P.underlying t = some (.pointer (P.pointee t)) := by simp [Program.pointee, hu]
  have h3 := run_neq_pointer_nil (P := P) w t p hu'
  show (do let v ← (do eqGuard .neq t X Y (ρ X) (ρ Y); binOp .neq t (ρ X) (ρ Y)); pure (Next.value v) : Sem Next).run P w = _
  rw [h1, h2]
  have h4 : (eqGuard .neq t X Y (.pointer p) (.pointer none)).run P w = .ok () w := by simp [eqGuard]
  simp only [Sem.run_bind, h4, Result.andThen_ok, h3, Sem.run_pure]

/-! ### 11. A copy of structs within owned rows, overlapping or not -/
theorem run_copyS (w : World) (dT sT ty elem : TypeId) (b o dLen dCap : Nat) (a : Addr) (sLen sCap size : Nat) (cs : List Value)
    (hu : P.underlying dT = some (.slice elem)) (hs : (P.info? elem).map (·.size) = some size) (hn : cs.length = Nat.min sLen dLen * size)
    (hsrc : ∀ j v, cs[j]? = some v → w.cell? (a.add j) = some v) (hc : ∀ j, j < cs.length → (w.cell? ⟨b, o + j, none⟩).isSome = true) (hf : ∀ j, j < cs.length → w.frozen? ⟨b, o + j, none⟩ = false) (h1 : ∀ v ∈ cs, v.oneCell' = true) :
    (Builtin.copy_ #[dT, sT] ty #[.slice (some ⟨b, o, none⟩) dLen dCap, .slice (some a) sLen sCap]).run P w = .ok (goInt (Nat.min sLen dLen : Nat)) (w.setCells b o cs) := by
  have hl := run_loadCells_list (P := P) w a cs hsrc
  have hst := run_storeCells_cells (P := P) b o cs 0 w (by simpa using hc) (by simpa using hf) h1
  rw [hn] at hl
  cases hq : P.info? elem with
  | none => simp [hq] at hs
  | some i =>
    have hz : i.size = size := by simpa [hq] using hs
    simp [Builtin.copy_, run_underlying hu, Builtin.lenOf, Builtin.firstCells, sizeOf, typeInfo, hq, hz, hl] at hst ⊢
    simp [hst]
theorem WL.copyS {q b p N M m c m2 c2 size : Nat} {a : Addr} {xs ys : List Value} {t2 t3 : TypeId} (hw : Wanted ops g n l true) (st : St w0 w L) (hk : L[q]? = some (.sl (some ⟨b, 0, none⟩) c m xs e size)) (hu : P.underlying t2 = some (.slice e)) (hs : (P.info? e).map (·.size) = some size)
    (hx : ev n l X = some (.slice (some ⟨b, p, none⟩) N M)) (hy : ev n l Y = some (.slice (some a) m2 c2)) (hsrc : Src w (some a) ys) (hl : ys.length = Nat.min m2 N * size) (hfit : p + ys.length ≤ xs.length) (h1 : ∀ v ∈ ys, v.oneCell' = true)
    (h : ∀ w', St w0 w' (L.set q (.sl (some ⟨b, 0, none⟩) c m (xs.take p ++ ys ++ xs.drop (p + ys.length)) e size)) → WL dl P ops Q rest n ((d, goInt (Nat.min m2 N : Nat)) :: l) w') :
    WL dl P ops Q (⟨some d, .call { callee := .builtin .copy, args := #[X, Y], argTypes := #[t2, t3] }, ty, pos, af, g⟩ :: rest) n l w := by
  refine WL.go hw fun b' hb' hd K hK => ?_
  have e1 := ev_sound (b := b') hb' hx; have e2 := ev_sound (b := b') hb' hy
  have ho := st.row hk
  have hcell : ∀ j, j < ys.length → (w.cell? ⟨b, p + j, none⟩).isSome = true := fun j hj => by
    rw [st.cell_sl hk (List.getElem?_eq_getElem (show p + j < xs.length by omega))]; rfl
  have hfr : ∀ j, j < ys.length → w.frozen? ⟨b, p + j, none⟩ = false := fun j hj => ho.frozenAt _
  have hr := run_copyS (P := P) w t2 t3 ty e b p N M a m2 c2 size ys hu hs hl (fun j v hv => by obtain ⟨a', ha', hc'⟩ := hsrc j v hv; cases ha'; exact hc') hcell hfr h1
  obtain ⟨o1, o2⟩ := own_lay ho (ms := ys) hfit
  unfold Oper.wp execOp
  simp only [resolve, invoke, builtin, Sem.run_bind, Sem.run_pure, Result.andThen_ok, List.map_toArray, List.map_cons, List.map_nil, e1, e2, hr, Oper.upon_value]
  exact hK _ _ (h _ (st.turn hk (row := some b) rfl o2 o1 (fun x hx => .inl hx)) b' hb' hd)
end Go.Kr
