/- Words for objects, once more: what is held (told by the base world and a pool), rows of things, stores into them, freezing. No program in sight. -/
import Derived.Test.YtmhcjafkdmcgoaaDoorKrL
namespace Go.Kr
open Go Go.RowKit
set_option linter.unusedVariables false
set_option linter.unusedSimpArgs false
variable {P : Program} {dl : List Deferred} {ops : Array Oper} {Q : Exit → Act → World → Prop} {rest : List Oper} {n d : Nat} {l : Ov} {w w0 W : World} {L L' T T' R X' : List En} {t t' e : TypeId} {X Y : Operand} {ty : TypeId} {pos : String} {af : Array Edge} {g : Option (Nat × Bool)} {k k' : IntKind} {y : Int}
def Hd (w0 : World) (T : List En) (Φ : World → Prop) : Prop := ∀ W L, St w0 W L → (∀ x ∈ T, x ∈ L) → Φ W
theorem Hd.mono {Φ : World → Prop} (h : Hd w0 T Φ) (hs : ∀ x ∈ T, x ∈ T') : Hd w0 T' Φ := fun W L st h' => h W L st fun x hx => h' x (hs x hx)
theorem Hd.at {Φ : World → Prop} (h : Hd w0 T Φ) (st : St w0 W L) (hs : ∀ x ∈ T, x ∈ L) : Φ W := h W L st hs
theorem Hd.of_sl {A : Option Addr} {c m size : Nat} {xs : List Value} (hx : En.sl A c m xs e size ∈ T) : Hd w0 T fun W => Src W A xs := fun W L st hs => st.src_mem (hs _ hx)
theorem Hd.old {A : Option Addr} {xs : List Value} (h : Src w0 A xs) : Hd w0 T fun W => Src W A xs := fun W L st _ => h.ext st
theorem mem_T {A : List En} (h : ∀ x ∈ T, x ∈ T') : ∀ x ∈ T, x ∈ A ++ (T' ++ R) := fun x hx => List.mem_append_right A (List.mem_append_left R (h x hx))
theorem mem_TR {A : List En} (h : ∀ x ∈ T, x ∈ T') : ∀ x ∈ T ++ R, x ∈ A ++ (T' ++ R) := fun x hx =>
 List.mem_append_right A ((List.mem_append.1 hx).elim (fun h1 => List.mem_append_left R (h x h1)) (fun h1 => List.mem_append_right T' h1))
theorem memo_T {B : List En} (h : ∀ x ∈ T, x ∈ T') : ∀ x ∈ T, x ∈ T' ++ (B ++ R) := fun x hx => List.mem_append_left _ (h x hx)
theorem memo_TR {B : List En} (h : ∀ x ∈ T, x ∈ T') : ∀ x ∈ T ++ R, x ∈ T' ++ (B ++ R) := fun x hx =>
 (List.mem_append.1 hx).elim (fun h1 => List.mem_append_left _ (h x h1)) (fun h1 => List.mem_append_right T' (List.mem_append_right B h1))
def HB (w0 : World) (T : List En) (A : Option Addr) (n c : Nat) (vs : List Value) (m : Nat) : Prop := n = m ∧ n ≤ c ∧ Hd w0 T fun W => Src W A vs
theorem HB.mono {A : Option Addr} {n c m : Nat} {vs : List Value} (h : HB w0 T A n c vs m) (hs : ∀ x ∈ T, x ∈ T') : HB w0 T' A n c vs m := ⟨h.1, h.2.1, h.2.2.mono hs⟩
theorem HB.nil : HB w0 T none 0 0 [] 0 := ⟨rfl, Nat.le_refl _, fun _ _ _ _ => Src.nil _ _⟩
theorem HB.left {A : Option Addr} {n c m : Nat} {vs : List Value} (h : HB w0 T A n c vs m) : HB w0 (T ++ R) A n c vs m := h.mono fun x hx => List.mem_append_left R hx
structure Lf (w0 : World) where
 p : List En → Value → Prop
 mono : ∀ {T T' : List En} {v : Value}, (∀ x ∈ T, x ∈ T') → p T v → p T' v
 one : ∀ {T : List En} {v : Value}, p T v → v.oneCell' = true
def Lf.int (k : IntKind) (x : Int) : Lf w0 := ⟨fun _ v => v = .int k x, fun _ h => h, by rintro _ _ rfl; rfl⟩
def Lf.bool (b : Bool) : Lf w0 := ⟨fun _ v => v = .bool b, fun _ h => h, by rintro _ _ rfl; rfl⟩
def Lf.str (s : ByteArray) : Lf w0 := ⟨fun _ v => v = .string s, fun _ h => h, by rintro _ _ rfl; rfl⟩
def Lf.row (k : IntKind) (l : List Int) : Lf w0 := ⟨fun T v => ∃ A n c, v = .slice A n c ∧ HB w0 T A n c (iv k l) l.length, fun hs ⟨A, n, c, h1, h2⟩ => ⟨A, n, c, h1, h2.mono hs⟩, by rintro _ _ ⟨A, n, c, rfl, _⟩; rfl⟩
def Lf.bools (l : List Bool) : Lf w0 := ⟨fun T v => ∃ A n c, v = .slice A n c ∧ HB w0 T A n c (bv l) l.length, fun hs ⟨A, n, c, h1, h2⟩ => ⟨A, n, c, h1, h2.mono hs⟩, by rintro _ _ ⟨A, n, c, rfl, _⟩; rfl⟩
inductive HLs {w0 : World} (T : List En) : List Value → List (Lf w0) → Prop
 | nil : HLs T [] []
 | cons {v : Value} {x : Lf w0} {vs : List Value} {xs : List (Lf w0)} (h : x.p T v) (hs : HLs T vs xs) : HLs T (v :: vs) (x :: xs)
section
variable {vs vs' ms : List Value} {xs xs' zs : List (Lf w0)}
theorem HLs.inv {x : Lf w0} (h : HLs T vs (x :: xs)) : ∃ v vs', vs = v :: vs' ∧ x.p T v ∧ HLs T vs' xs := by
 cases h with
 | cons h hs => exact ⟨_, _, rfl, h, hs⟩
theorem HLs.inv0 (h : HLs T vs ([] : List (Lf w0))) : vs = [] := by cases h; rfl
theorem HLs.mono (h : HLs T vs xs) (hs : ∀ x ∈ T, x ∈ T') : HLs T' vs xs := by
 induction h with
 | nil => exact .nil
 | cons h _ ih => exact .cons (Lf.mono _ hs h) ih
theorem HLs.length (h : HLs T vs xs) : vs.length = xs.length := by
 induction h with
 | nil => rfl
 | cons _ _ ih => simp [ih]
theorem HLs.one (h : HLs T vs xs) : ∀ u ∈ vs, u.oneCell' = true := by
 induction h with
 | nil => intro u hu; cases hu
 | cons h _ ih =>
  intro u hu
  rcases List.mem_cons.1 hu with rfl | hu
  ·exact Lf.one _ h
  exact ih u hu
theorem HLs.append (h : HLs T vs xs) (h' : HLs T vs' xs') : HLs T (vs ++ vs') (xs ++ xs') := by
 induction h with
 | nil => exact h'
 | cons h _ ih => exact .cons h ih
theorem HLs.take : ∀ {vs : List Value} {xs : List (Lf w0)} (m : Nat), HLs T vs xs → HLs T (vs.take m) (xs.take m)
 | _, _, 0, _ => by simp; exact .nil
 | _, _, m + 1, .nil => by simp; exact .nil
 | _, _, m + 1, .cons h hs => .cons h (hs.take m)
theorem HLs.drop : ∀ {vs : List Value} {xs : List (Lf w0)} (m : Nat), HLs T vs xs → HLs T (vs.drop m) (xs.drop m)
 | _, _, 0, h => h
 | _, _, m + 1, .nil => .nil
 | _, _, m + 1, .cons h hs => hs.drop m
end
section
variable {α : Type} {f : α → List (Lf w0)} {sz : Nat} {xs ys ms : List Value} {rows rs : List α} {i : Nat}
def SizedF (f : α → List (Lf w0)) (sz : Nat) : Prop := ∀ a, (f a).length = sz
theorem fl_length (hf : SizedF f sz) : ∀ rows : List α, (rows.flatMap f).length = rows.length * sz
 | [] => by simp
 | a :: rows => by rw [List.flatMap_cons, List.length_append, hf, fl_length hf rows, List.length_cons, Nat.add_mul, Nat.one_mul, Nat.add_comm]
theorem fl_take (hf : SizedF f sz) : ∀ (rows : List α) (m : Nat), (rows.flatMap f).take (m * sz) = (rows.take m).flatMap f
  | _, 0 => by simp
  | [], m + 1 => by simp
  | a :: rows, m + 1 => by
    rw [List.flatMap_cons, List.take_succ_cons, List.flatMap_cons, Nat.add_mul, Nat.one_mul, Nat.add_comm, ← fl_take hf rows m]
    rw [List.take_append, hf, Nat.add_sub_cancel_left, List.take_of_length_le (by rw [hf]; omega)]
theorem fl_drop (hf : SizedF f sz) : ∀ (rows : List α) (m : Nat), (rows.flatMap f).drop (m * sz) = (rows.drop m).flatMap f
  | _, 0 => by simp
  | [], m + 1 => by simp
  | a :: rows, m + 1 => by
    rw [List.flatMap_cons, List.drop_succ_cons, Nat.add_mul, Nat.one_mul, Nat.add_comm, ← fl_drop hf rows m]
    rw [List.drop_append, hf, Nat.add_sub_cancel_left, List.drop_eq_nil_of_le (by rw [hf]; omega), List.nil_append]
def gx {α : Type} [Inhabited α] (l : List α) (i : Nat) : α := l.getD i default
theorem gx_get [Inhabited α] (h : i < rows.length) : rows[i]? = some (gx rows i) := by
 unfold gx
 rw [List.getD_eq_getElem?_getD, List.getElem?_eq_getElem h]
 rfl
def HRs (T : List En) (f : α → List (Lf w0)) (xs : List Value) (rows : List α) : Prop := HLs T xs (rows.flatMap f)
theorem HRs.nil : HRs T f [] [] := HLs.nil
theorem HRs.mono (h : HRs T f xs rows) (hs : ∀ x ∈ T, x ∈ T') : HRs T' f xs rows := HLs.mono h hs
theorem HRs.length (h : HRs T f xs rows) (hf : SizedF f sz) : xs.length = rows.length * sz := by rw [HLs.length h, fl_length hf]
theorem HRs.append (h : HRs T f xs rows) (h' : HRs T f ys rs) : HRs T f (xs ++ ys) (rows ++ rs) := by
 unfold HRs; rw [List.flatMap_append]; exact HLs.append h h'
theorem HRs.one {a : α} (h : HLs T ms (f a)) : HRs T f ms [a] := by
 unfold HRs; rw [List.flatMap_cons, List.flatMap_nil, List.append_nil]; exact h
theorem HRs.cons {a : α} (h : HLs T ms (f a)) (h' : HRs T f xs rows) : HRs T f (ms ++ xs) (a :: rows) := by
 unfold HRs; rw [List.flatMap_cons]; exact HLs.append h h'
theorem HRs.cut (h : HRs T f xs rows) (hf : SizedF f sz) (lo m : Nat) : HRs T f ((xs.drop (lo * sz)).take (m * sz)) ((rows.drop lo).take m) := by
 unfold HRs
 rw [← fl_take hf, ← fl_drop hf]
 exact (HLs.drop _ h).take _
theorem HRs.get [Inhabited α] (h : HRs T f xs rows) (hf : SizedF f sz) (hi : i < rows.length) : HLs T ((xs.drop (i * sz)).take sz) (f (gx rows i)) := by
 have h1 := h.cut hf i 1
 rw [Nat.one_mul] at h1
 have h2 := gx_get hi
 have e1 : (rows.drop i).take 1 = [gx rows i] := by
  rw [List.drop_eq_getElem_cons hi, List.take_succ_cons, List.take_zero]
  congr 1
  exact Option.some.inj ((List.getElem?_eq_getElem hi).symm.trans h2)
 rw [e1] at h1
 unfold HRs at h1
 rwa [List.flatMap_cons, List.flatMap_nil, List.append_nil] at h1
theorem HRs.set {a : α} (h : HRs T f xs rows) (hf : SizedF f sz) (hi : i < rows.length) (hm : HLs T ms (f a)) : HRs T f (xs.take (i * sz) ++ ms ++ xs.drop (i * sz + ms.length)) (rows.set i a) := by
 have hl : ms.length = sz := by rw [hm.length, hf]
 have h1 := ((HLs.take (i * sz) h).append hm).append (HLs.drop (i * sz + ms.length) h)
 unfold HRs
 rw [List.set_eq_take_append_cons_drop, if_pos hi, List.flatMap_append, List.flatMap_cons, ← List.append_assoc]
 rw [fl_take hf, hl, show i * sz + sz = (i + 1) * sz by rw [Nat.add_mul, Nat.one_mul], fl_drop hf] at h1
 rw [hl, show i * sz + sz = (i + 1) * sz by rw [Nat.add_mul, Nat.one_mul]]
 exact h1
theorem HRs.setF [Inhabited α] {a : α} {j : Nat} {u : Value} (h : HRs T f xs rows) (hf : SizedF f sz) (hi : i < rows.length) (hj : j < sz) (hms : (xs.drop (i * sz)).take sz = ms) (hm : HLs T (ms.set j u) (f a)) : HRs T f (xs.set (i * sz + j) u) (rows.set i a) := by
 have h1 := h.set hf hi hm
 have hle : (i + 1) * sz ≤ rows.length * sz := Nat.mul_le_mul_right _ hi
 rw [Nat.add_mul, Nat.one_mul] at hle
 have hx := h.length hf
 have hl : ms.length = sz := by rw [← hms, List.length_take, List.length_drop]; omega
 have e1 : xs.take (i * sz) ++ ms.set j u ++ xs.drop (i * sz + (ms.set j u).length) = xs.set (i * sz + j) u := by
  rw [List.length_set, hl]
  have e2 : xs = xs.take (i * sz) ++ (ms ++ xs.drop (i * sz + sz)) := by
   conv => lhs; rw [← List.take_append_drop (i * sz) xs, ← List.take_append_drop sz (xs.drop (i * sz)), hms, List.drop_drop]
  conv => rhs; rw [e2]
  rw [List.set_append_right _ _ (by rw [List.length_take]; omega), List.length_take, Nat.min_eq_left (by omega), Nat.add_sub_cancel_left, List.set_append_left _ _ (by rw [hl]; exact hj), List.append_assoc]
 rwa [e1] at h1
def HS (w0 : World) (X' T : List En) (A : Option Addr) (n c : Nat) (f : α → List (Lf w0)) (rows : List α) : Prop := n = rows.length ∧ n ≤ c ∧ ∃ xs, (Hd w0 X' fun W => Src W A xs) ∧ HRs T f xs rows
theorem HS.mono {A : Option Addr} {n c : Nat} {X2 T2 : List En} (h : HS w0 X' T A n c f rows) (hx : ∀ x ∈ X', x ∈ X2) (ht : ∀ x ∈ T, x ∈ T2) : HS w0 X2 T2 A n c f rows := by
 obtain ⟨h1, h2, xs, h3, h4⟩ := h
 exact ⟨h1, h2, xs, h3.mono hx, h4.mono ht⟩
theorem HS.nil : HS w0 X' T none 0 0 f [] := ⟨rfl, Nat.le_refl _, [], fun _ _ _ _ => Src.nil _ _, HRs.nil⟩
theorem HS.mk {A : Option Addr} {n c : Nat} (hn : n = rows.length) (hc : n ≤ c) (hs : Hd w0 X' fun W => Src W A xs) (hr : HRs T f xs rows) : HS w0 X' T A n c f rows := ⟨hn, hc, xs, hs, hr⟩
theorem Src.cut {A : Option Addr} {a : Addr} {o m : Nat} (h : Src W A xs) (hA : A = some a) (hc : (xs.drop o).take m = ms) : Src W (some (a.add o)) ms := fun j v hv => by
 rw [← hc, List.getElem?_take] at hv
 split at hv
 ·rw [List.getElem?_drop] at hv
  obtain ⟨a', ha', hc'⟩ := h _ _ hv
  rw [hA] at ha'; cases ha'
  exact ⟨_, rfl, by rw [add_add]; exact hc'⟩
 cases hv
theorem Src.cellAt {a : Addr} {j : Nat} {v : Value} (h : Src W (some a) ms) (hj : ms[j]? = some v) : W.cell? (a.add j) = some v := by
 obtain ⟨a', ha', hc⟩ := h j v hj
 cases ha'
 exact hc
theorem el_get [Inhabited α] {A : Option Addr} (h : Src W A xs) (hr : HRs T f xs rows) (hf : SizedF f sz) (hz : 0 < sz) (hi : i < rows.length) : ∃ a, A = some a ∧ ∃ ms, (xs.drop (i * sz)).take sz = ms ∧ HLs T ms (f (gx rows i)) := by
 have hx := hr.length hf
 have hle : (i + 1) * sz ≤ rows.length * sz := Nat.mul_le_mul_right _ hi
 rw [Nat.add_mul, Nat.one_mul] at hle
 obtain ⟨a, ha, _⟩ := h (i * sz) xs[i * sz] (List.getElem?_eq_getElem (by omega))
 exact ⟨a, ha, _, rfl, hr.get hf hi⟩
theorem HS.sub {A : Option Addr} {n c : Nat} (h : HS w0 X' T A n c f rows) (hf : SizedF f sz) (hz : 0 < sz) {lo hi c' m : Nat} {B : Option Addr} (h1 : lo ≤ hi) (h2 : hi ≤ rows.length) (hB : B = subS A lo c sz) (hm : m = hi - lo) (hc : c' = c - lo) : HS w0 X' T B m c' f ((rows.drop lo).take (hi - lo)) := by
 obtain ⟨e1, e2, xs, h3, h4⟩ := h
 refine ⟨by rw [List.length_take, List.length_drop]; omega, by omega, (xs.drop (lo * sz)).take ((hi - lo) * sz), ?_, h4.cut hf lo (hi - lo)⟩
 intro W L st hs j v hv
 rw [List.getElem?_take] at hv
 split at hv
 ·rename_i hlt
  rw [List.getElem?_drop] at hv
  obtain ⟨a, ha, hcell⟩ := h3 W L st hs _ _ hv
  subst ha
  have hne : c ≠ lo := by
   intro e
   have : hi - lo = 0 := by omega
   rw [this, Nat.zero_mul] at hlt
   omega
  subst hB
  unfold subS
  rw [if_neg hne]
  exact ⟨_, rfl, by rw [add_add]; exact hcell⟩
 cases hv
end
def Lf.recs {α : Type} (f : α → List (Lf w0)) (rows : List α) : Lf w0 := ⟨fun T v => ∃ A n c, v = .slice A n c ∧ HS w0 T T A n c f rows, fun hs ⟨A, n, c, h1, h2⟩ => ⟨A, n, c, h1, h2.mono hs hs⟩, by rintro _ _ ⟨A, n, c, rfl, _⟩; rfl⟩
theorem St.rows_sl {i bk m size : Nat} {cs : List Value} (st : St w0 W L) (hk : L[i]? = some (.cells bk cs e)) (hl : cs.length = m * size) (hm : m ≤ 65536) : St w0 W (L.set i (.sl (some ⟨bk, 0, none⟩) m m cs e size)) := by
 have ho : (En.cells bk cs e).ok w0.heap.size W := st.ok _ (List.mem_of_getElem? hk)
 refine st.turn hk (row := some bk) rfl ⟨rfl, rfl, rfl, Nat.le_refl _, fun _ _ _ => rfl⟩ ?_ (fun b hb => .inl hb)
 refine ⟨hl, .inr ⟨bk, m, cs.toArray, rfl, ho.1, ho.2, Nat.le_refl _, by simp only [maxLen]; omega, by simpa using hl, ?_⟩⟩
 rw [List.toList_toArray, ← hl, List.take_length]
abbrev Pool := List En
def Pl (T T' : List En) : Prop := (∀ x ∈ T, x ∈ T') ∧ (celly T = true → celly T' = true)
theorem Pl.refl : Pl T T := ⟨fun _ h => h, fun h => h⟩
theorem Pl.trans {T2 : List En} (h : Pl T T') (k : Pl T' T2) : Pl T T2 := ⟨fun x hx => k.1 x (h.1 x hx), fun x => k.2 (h.2 x)⟩
theorem celly_append : ∀ {A B : List En}, celly A = true → celly B = true → celly (A ++ B) = true
 | [], _, _, h => h
 | .obj _ _ :: _, _, h, _ => by cases h
 | .cells _ _ _ :: A, _, h, k => celly_append (A := A) h k
 | .sl _ _ _ _ _ _ :: A, _, h, k => celly_append (A := A) h k
theorem St.freeze {A B : List En} {Ad : Option Addr} {c m size : Nat} {xs : List Value} (h : St w0 W (A ++ (En.sl Ad c m xs e size :: (B ++ (T ++ R))))) : ∃ T', Pl T T' ∧ En.sl Ad c m xs e size ∈ T' ∧ St w0 W (A ++ (B ++ (T' ++ R))) :=
 ⟨En.sl Ad c m xs e size :: T, ⟨fun _ hy => List.mem_cons_of_mem _ hy, fun h => h⟩, List.mem_cons_self .., h.pool⟩
theorem St.front {A : List En} (h : St w0 W (A ++ R)) : St w0 W A := ⟨h.ext, fun x hx => h.ok x (List.mem_append_left _ hx), (List.pairwise_append.1 h.apart).1⟩
theorem St.start (w : World) : ∃ T R : Pool, celly T = true ∧ celly R = true ∧ St w w (T ++ R) := ⟨[], [], rfl, rfl, St.refl w⟩
theorem run_append_nilsrcS {z : Value} {size bytes : Nat} (ht : P.underlying t = some (.slice e)) (he : ElemS P e z size bytes) (A : Option Addr) (m c c2 : Nat) (hmc : m ≤ c) (w : World) :
  (Builtin.append_ #[t, t] ty #[.slice A m c, .slice none 0 c2]).run P w = .ok (.slice A m c) w := by
 obtain ⟨i, hi, _⟩ := he
 cases A <;> simp [Builtin.append_, run_underlying ht, sizeOf, typeInfo, hi, Builtin.lenOf, hmc, Builtin.firstCells, storeCells]
theorem WL.appendR {z : Value} {bytes size i : Nat} {A B : Option Addr} {c m m' c2 N : Nat} {xs news : List Value} (hw : Wanted ops g n l true) (st : St w0 w L) (hk : L[i]? = some (.sl A c m xs e size)) (hu : P.underlying t = some (.slice e)) (he : ElemS P e z size bytes)
  (hx : ev n l X = some (.slice A m c)) (hy : ev n l Y = some (.slice B m' c2)) (hs : Src w B news) (hl : news.length = m' * size) (h1 : ∀ u ∈ news, u.oneCell' = true) (hb : bytes ≤ 128) (hN : N = m + m') (hlim : N ≤ 1099511627776)
  (h : ∀ A' c' w', St w0 w' (L.set i (.sl A' c' N (xs ++ news) e size)) → WL dl P ops Q rest n ((d, .slice A' N c') :: l) w') :
  WL dl P ops Q (⟨some d, .call { callee := .builtin .append, args := #[X, Y], argTypes := #[t, t] }, ty, pos, af, g⟩ :: rest) n l w := by
 cases B with
 | some a => exact WL.appendS hw st hk hu he hx hy hs hl h1 hb hN.symm hlim h
 | none =>
  have hn : news = [] := by
   cases news with
   | nil => rfl
   | cons a r => obtain ⟨a, ha, _⟩ := hs 0 _ (by simp; rfl); cases ha
  subst hn
  have hpos : 0 < size := by obtain ⟨_, _, _, _, _, _, hp⟩ := he; exact hp
  have hm' : m' = 0 := by
   rcases Nat.eq_zero_or_pos m' with h0 | h0
   ·exact h0
   have h2 := Nat.mul_pos h0 hpos
   rw [← hl] at h2
   simp at h2
  subst hm'
  obtain rfl : m = N := by rw [hN, Nat.add_zero]
  refine WL.go hw fun b hb' hd K hK => ?_
  have e1 := ev_sound (b := b) hb' hx; have e2 := ev_sound (b := b) hb' hy
  have hr := run_append_nilsrcS (P := P) (ty := ty) hu he A m c c2 (st.cap hk) w
  unfold Oper.wp execOp
  simp only [resolve, invoke, builtin, Sem.run_bind, Sem.run_pure, Result.andThen_ok, List.map_toArray, List.map_cons, List.map_nil, e1, e2, hr, Oper.upon_value]
  have st2 : St w0 w (L.set i (.sl A c m (xs ++ []) e size)) := by rw [List.append_nil, set_same hk]; exact st
  exact hK _ _ (h A c w st2 b hb' hd)
theorem own_block {A : Option Addr} {a : Addr} {i c q size : Nat} {xs : List Value} (st : St w0 w L) (hk : L[i]? = some (.sl A c q xs e size)) (hA : A = some a) : a = ⟨a.block, 0, none⟩ := by
 subst hA
 rcases (st.row hk).2 with ⟨h1, _⟩ | ⟨b, cap, cur, hv, _⟩
 ·simp at h1
 cases hv; rfl
theorem WL.storeF {A : Option Addr} {a : Addr} {o f i c q size : Nat} {xs : List Value} {v : Value} (st : St w0 w L) (hk : L[i]? = some (.sl A c q xs e size)) (hA : A = some a) (hsz : P.cellsOf t = 1) (hx : ev n l X = some (.pointer (some ((a.add o).add f))))
  (hy : ev n l Y = some v) (hp : o + f < xs.length) (h1 : v.oneCell' = true)
  (h : ∀ w', St w0 w' (L.set i (.sl A c q (xs.set (o + f) v) e size)) → WL dl P ops Q rest n l w') : WL dl P ops Q (⟨none, .store t X Y, ty, pos, af, none⟩ :: rest) n l w := by
 have hb := own_block st hk hA
 subst hA
 rw [hb, add_plain, add_plain, Nat.zero_add] at hx
 rw [hb] at hk h
 refine WL.go .none fun b' hb' hd K hK => ?_
 have e1 := ev_sound (b := b') hb' hx; have e2 := ev_sound (b := b') hb' hy
 have ho := st.row hk
 have hc := st.cell_sl hk (List.getElem?_eq_getElem hp)
 have hr := run_store_one (P := P) hsz h1 hc (ho.frozenAt (o + f))
 obtain ⟨hs1, hs2⟩ := ho.stored (o + f) v
 unfold Oper.wp execOp
 simp only [Sem.run_bind, e1, e2, hr, Result.andThen_ok, Sem.run_pure, Oper.upon_skip]
 exact hK _ _ (h _ (st.turn hk (row := some a.block) rfl hs2 hs1 (fun b hb => .inl hb)) b' hb' hd)
theorem Runs.fieldAddrB {a b : Addr} {i off sz : Nat} {ft : TypeId} (hf : fieldB P t i ft off sz = true) (hsz : Nat.blt 0 sz = true) (hx : ev n l X = some (.pointer (some a))) (hb : a.add off = b) :
  Runs P (.fieldAddr t X i) ty n l w (.pointer (some b)) := fun ρ _ _ _ _ hρ => by
 subst hb
 have e1 := hρ _ _ hx
 obtain ⟨fs, f, j, hu, hfi, rfl, rfl, hj, hjs⟩ := fieldB_spec hf
 have hne : ¬ j.size = 0 := by
  have := blt_of hsz
  omega
 simp [execOp, e1, Instr.fieldAt, run_underlying hu, hfi, Instr.sureAddr, fieldPlace, sizeOf, typeInfo, hj, hne]
def cpyC (xs : List Value) (lo lo2 k sz : Nat) : List Value := xs.take (lo * sz) ++ (xs.drop (lo2 * sz)).take (k * sz) ++ xs.drop ((lo + k) * sz)
def cpyR {α : Type} (l : List α) (lo lo2 k : Nat) : List α := l.take lo ++ (l.drop lo2).take k ++ l.drop (lo + k)
theorem HRs.cpy {α : Type} {f : α → List (Lf w0)} {sz : Nat} {xs : List Value} {rows : List α} (h : HRs T f xs rows) (hf : SizedF f sz) (lo lo2 k : Nat) : HRs T f (cpyC xs lo lo2 k sz) (cpyR rows lo lo2 k) := by
 have h1 : HRs T f (xs.take (lo * sz)) (rows.take lo) := by unfold HRs; rw [← fl_take hf]; exact HLs.take _ h
 have h2 : HRs T f (xs.drop ((lo + k) * sz)) (rows.drop (lo + k)) := by unfold HRs; rw [← fl_drop hf]; exact HLs.drop _ h
 exact (h1.append (h.cut hf lo2 k)).append h2
end Go.Kr
