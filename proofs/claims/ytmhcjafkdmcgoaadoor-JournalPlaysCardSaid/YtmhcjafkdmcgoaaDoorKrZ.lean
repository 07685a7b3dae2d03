/- Short words for printed walks: what often stands there. No program in sight. -/
import Derived.Test.YtmhcjafkdmcgoaaDoorKrS
import Derived.KernelRfl
namespace Go.Kr
open Go Go.RowKit
set_option linter.unusedVariables false
variable {P : Program} {dl : List Deferred} {ops : Array Oper} {Q : Exit → Act → World → Prop} {rest : List Oper} {n d m : Nat} {l : Ov} {w w0 : World} {L : List En} {op : Op} {ty : TypeId} {pos : String} {af : Array Edge} {vv : Value} {g : Option (Nat × Bool)} {t e : TypeId} {X Y : Operand} {C : World → Prop} {tail : List Oper}
abbrev cu (x : Int) : List Value := [.int .u64 x]
abbrev ci (x : Int) : List Value := [.int .i64 x]
abbrev cb (b : Bool) : List Value := [.bool b]
abbrev ct (s : ByteArray) : List Value := [.string s]
abbrev cl (A : Option Addr) (n c : Nat) : List Value := [.slice A n c]
abbrev sp (b : Nat) : Option Addr := some ⟨b, 0, none⟩
abbrev cp (b : Nat) : List Value := [.pointer (some ⟨b, 0, none⟩)]
abbrev z32 : List Int := List.replicate 32 0
abbrev oD (b : Nat) (A : Option Addr) (n c : Nat) (A' : Option Addr) (n' c' : Nat) (x : Int) (y : Bool) (B : Option Addr) (k q : Nat) (t : TypeId) : En := .cells b (cl A n c ++ (cl A' n' c' ++ (ci x ++ (cb y ++ cl B k q)))) t
abbrev oM (b : Nat) (x : Int) (A : Option Addr) (n c : Nat) (A' : Option Addr) (n' c' : Nat) (x' : Int) (y : Bool) (B : Option Addr) (k q : Nat) (t : TypeId) : En := .cells b (ci x ++ (cl A n c ++ (cl A' n' c' ++ (ci x' ++ (cb y ++ cl B k q))))) t
abbrev oJ (b p : Nat) (l : List Int) (x y z u : Int) (l' : List Int) (x' y' : Int) (t : TypeId) : En := .cells b (cp p ++ (iv .u8 l ++ (ci x ++ (cu y ++ (cu z ++ (cu u ++ (iv .u8 l' ++ (cu x' ++ cu y')))))))) t
abbrev oK (b : Nat) (l : List Int) (x y z u : Int) (l' : List Int) (x' y' : Int) (t : TypeId) : En := .cells b (iv .u8 l ++ (ci x ++ (cu y ++ (cu z ++ (cu u ++ (iv .u8 l' ++ (cu x' ++ cu y'))))))) t
abbrev oS (b : Nat) (x y : Int) (l : List Int) (t : TypeId) : En := .cells b (cu x ++ (cu y ++ iv .u8 l)) t
theorem la {a b : List Value} : (a ++ b).length = a.length + b.length := List.length_append
theorem lc {x : Value} {a : List Value} : (x :: a).length = a.length + 1 := rfl
theorem ln : ([] : List Value).length = 0 := rfl
theorem lv {k : IntKind} {a : List Int} : (iv k a).length = a.length := iv_length ..
theorem aa {a b c : List Value} : a ++ b ++ c = a ++ (b ++ c) := List.append_assoc ..
theorem an {a : List Value} : a ++ [] = a := List.append_nil _
theorem na {a : List Value} : [] ++ a = a := rfl
theorem ca {x : Value} {a b : List Value} : (x :: a) ++ b = x :: (a ++ b) := rfl
theorem WL.v (hy : Runs P op ty n l w vv) (h : WL dl P ops Q rest n ((d, vv) :: l) w) : WL dl P ops Q (⟨some d, op, ty, pos, af, none⟩ :: rest) n l w := WL.val Wanted.none hy h
theorem WL.mv {x : Operand} (hx : ev n l x = some vv) (h : WL dl P ops Q rest n ((d, vv) :: l) w) : WL dl P ops Q (⟨some d, .move x, ty, pos, af, none⟩ :: rest) n l w := WL.val Wanted.none (Runs.move hx) h
theorem WL.as {x : Operand} (hx : ev n l x = some vv) (h : WL dl P ops Q rest n ((d, vv) :: l) w) : WL dl P ops Q (⟨some d, .assign x, ty, pos, af, none⟩ :: rest) n l w := WL.val Wanted.none (Runs.assign hx) h
theorem WL.nx {y : Code} {Q' : Exit → Act → World → Prop} {id : Nat} {os : List Oper} (h : WL dl P os.toArray (Exit.then (y.wp P Q') Q') os n l w) : WL dl P ops (Exit.then ((Code.seq (.region id os.toArray false) y).wp P Q') Q) [] n l w := WL.nil (QW.then_n (CW.seq (CW.region h)))
theorem Wg (dj : Nat) {j : Nat} {want s c b : Bool} (ht : s = c) (hv : ev n l (.tmp dj) = some (.bool s) := by rfl) (hj : (ops[j]?).bind (·.dst) = some dj := by rfl) (hb : (c == want) = b := by rfl) : Wanted ops (some (j, want)) n l b := Wanted.guard hj (evb hv ht) hb
theorem QW.retN4 {fn : Func} {R : Ending → World → Prop} {r1 r2 r3 r4 : ResultVar} {v1 v2 v3 v4 : Value} (hr : fn.results = #[r1, r2, r3, r4]) (h1 : Res P n l w r1 v1) (h2 : Res P n l w r2 v2) (h3 : Res P n l w r3 v3) (h4 : Res P n l w r4 v4) (h : R (.returned (.tuple #[v1, v2, v3, v4])) w) : QW [] (bodyPost P fn R) .ret n l w := fun b hb hd => by
 refine ⟨by rw [ov_defers, hd], _, ?_, h⟩
 have e1 := h1.run b hb
 have e2 := h2.run b hb
 have e3 := h3.run b hb
 have e4 := h4.run b hb
 simp [results_of, hr, e1, e2, e3, e4]
inductive Seg (place : Nat → Option (Nat × Nat)) : Nat → Nat → List (Nat × Value) → List Value → Prop
 | one {k o : Nat} {u : Value} {ms : List Value} (hp : place k = some (o, ms.length)) (hu : u.cells = ms.toArray) : Seg place k o [(k, u)] ms
 | cons {k o m : Nat} {u : Value} {ms cs : List Value} {vs : List (Nat × Value)} (hp : place k = some (o, m)) (hl : ms.length = m) (hu : u.cells = ms.toArray) (h : Seg place (k + 1) (o + m) vs cs) : Seg place k o ((k, u) :: vs) (ms ++ cs)
theorem Seg.fills {place : Nat → Option (Nat × Nat)} {k o : Nat} {vs : List (Nat × Value)} {cs : List Value} (h : Seg place k o vs cs) : ∀ {dn zs : List Value}, dn.length = o → zs.length = cs.length → Fills place (dn ++ zs) vs (dn ++ cs) := by
 induction h with
 | @one k o u ms hp hu =>
  intro dn zs hd hz
  refine .cons (o := o) (ms := ms) hp hu (by rw [List.length_append]; omega) ?_
  have : layV (dn ++ zs) o ms = dn ++ ms := by
   unfold layV
   rw [List.take_left' hd, List.drop_eq_nil_of_le (by rw [List.length_append]; omega), List.append_nil]
  rw [this]; exact .nil
 | @cons k o m u ms cs vs hp hl hu h ih =>
  intro dn zs hd hz
  rw [List.length_append] at hz
  refine .cons (o := o) (ms := ms) (by rw [hl]; exact hp) hu (by rw [List.length_append]; omega) ?_
  have : layV (dn ++ zs) o ms = (dn ++ ms) ++ zs.drop ms.length := by
   unfold layV
   rw [List.take_left' hd, ← hd, List.drop_append]
   simp
  rw [this, ← List.append_assoc]
  exact ih (by rw [List.length_append]; omega) (by rw [List.length_drop]; omega)
theorem Runs.build_seg {parts : List (Nat × Operand)} {vs : List (Nat × Value)} {zs cs cs0 : List Value} {ps : List (Nat × Nat)} (hpl : placesB P t ps = true) (hz : ZeroT P t zs) (hp : pev n l parts = some vs) (hs : Seg (fun i => ps.toArray[i]?) 0 0 vs cs0) (hl : zs.length = cs0.length) (he : cs0 = cs) :
  Runs P (.build t parts.toArray) ty n l w (.agg cs.toArray) := by
 subst he
 exact Runs.build_struct hpl hz hp (hs.fills (dn := []) rfl hl)
theorem WL.sm {bk m i : Nat} {Tt : TypeId} {cs pre mid post ms new : List Value} (st : St w0 w L) (hk : L[i]? = some (.cells bk cs Tt)) (ht : RowT P t m) (hcs : cs = pre ++ (mid ++ post)) {o : Nat} (ho : pre.length = o) (hx : ev n l X = some (.pointer (some ⟨bk, o, none⟩)))
  (hy : ev n l Y = some (.agg ms.toArray)) (hm : ms.length = m) (hmid : mid.length = m) (h1 : ∀ u ∈ ms, u.oneCell' = true) (hn : pre ++ (ms ++ post) = new)
  (h : ∀ w', St w0 w' (L.set i (.cells bk new Tt)) → WL dl P ops Q rest n l w') : WL dl P ops Q (⟨none, .store t X Y, ty, pos, af, none⟩ :: rest) n l w := by
 subst hn
 exact WL.store_mid st hk ht hcs ho hx hy hm hmid h1 h
theorem WL.so {bk i : Nat} {Tt : TypeId} {cs pre post new : List Value} {u0 : Value} (st : St w0 w L) (hk : L[i]? = some (.cells bk cs Tt)) (hsz : P.cellsOf t = 1) (hcs : cs = pre ++ ([u0] ++ post)) {o : Nat} (ho : pre.length = o) (hx : ev n l X = some (.pointer (some ⟨bk, o, none⟩)))
  (hy : ev n l Y = some vv) (h1 : vv.oneCell' = true) (hn : pre ++ ([vv] ++ post) = new)
  (h : ∀ w', St w0 w' (L.set i (.cells bk new Tt)) → WL dl P ops Q rest n l w') : WL dl P ops Q (⟨none, .store t X Y, ty, pos, af, none⟩ :: rest) n l w := by
 subst hn
 exact WL.store_one st hk hsz hcs ho hx hy h1 h
theorem WL.buildSlSg {m sz : Nat} {parts : List (Nat × Operand)} {vs : List (Nat × Value)} {z : Value} {ii : TypeInfo} {zs cs cs0 : List Value} (st : St w0 w L) (hu : P.underlying t = some (.slice e)) (hi : P.info? e = some ii) (hz : ii.zero = some z) (hsz : ii.size = sz) (hm0 : m * sz ≠ 0) (hlim : m * sz ≤ 65536)
  (hzs : (Array.range (m * sz)).map (fun i => z.cells[i % z.cells.size]!) = zs.toArray) (hp : pev n l parts = some vs) (hf : Seg (fun i => some (i * sz, sz)) 0 0 vs cs0) (hl : zs.length = cs0.length) (he : cs0 = cs)
  (h : ∀ B w', St w0 w' (.cells B cs e :: L) → WL dl P ops Q rest n ((d, .slice (some ⟨B, 0, none⟩) m m) :: l) w') :
  WL dl P ops Q (⟨some d, .buildSlice t m parts.toArray, ty, pos, af, none⟩ :: rest) n l w := by
 subst he
 exact WL.buildSlRows st hu hi hz hsz hm0 hlim hzs hp (hf.fills (dn := []) rfl hl) h
theorem leL {o a b m n : Nat} (h1 : a = m) (h2 : b = n) (h : (o + m).ble n = true := by rfl) : o + a ≤ b := by rw [h1, h2]; exact Nat.le_of_ble_eq_true h
theorem oneU {x : Value} (h : x.oneCell' = true := by rfl) : ∀ u ∈ [x], u.oneCell' = true := fun u hu => by rw [List.mem_singleton.1 hu]; exact h
theorem one_cat {a b : List Value} (ha : ∀ u ∈ a, u.oneCell' = true) (hb : ∀ u ∈ b, u.oneCell' = true) : ∀ u ∈ a ++ b, u.oneCell' = true := fun u hu => (List.mem_append.1 hu).elim (ha u) (hb u)
theorem mc {α : Type} {a : α} {s L : List α} (i : Nat) (h : L[i]? = some a) (t : ∀ x ∈ s, x ∈ L) : ∀ x ∈ a :: s, x ∈ L := List.forall_mem_cons.2 ⟨List.mem_of_getElem? h, t⟩
theorem wn {y : Code} (h : CW dl P y Q n l w) : WL dl P ops (Exit.then (y.wp P Q) Q) [] n l w := WL.nil (QW.then_n h)
theorem cr {y : Code} {id : Nat} {os : List Oper} (h : WL dl P os.toArray (Exit.then (y.wp P Q) Q) os n l w) : CW dl P (.seq (.region id os.toArray false) y) Q n l w := CW.seq (CW.region h)
theorem HL.v (hr : ∀ w', C w' → Runs P op ty n l w' vv) (h : HL dl P ops C Q tail rest n ((d, vv) :: l)) : HL dl P ops C Q tail (⟨some d, op, ty, pos, af, none⟩ :: rest) n l := HL.val Wanted.none hr h
theorem HL.mv {x : Operand} (hx : ev n l x = some vv) (h : HL dl P ops C Q tail rest n ((d, vv) :: l)) : HL dl P ops C Q tail (⟨some d, .move x, ty, pos, af, none⟩ :: rest) n l := HL.val Wanted.none (fun _ _ => Runs.move hx) h
theorem HL.as {x : Operand} (hx : ev n l x = some vv) (h : HL dl P ops C Q tail rest n ((d, vv) :: l)) : HL dl P ops C Q tail (⟨some d, .assign x, ty, pos, af, none⟩ :: rest) n l := HL.val Wanted.none (fun _ _ => Runs.assign hx) h
theorem AW.tk {fuel : Nat} {listed : Array Bool} (i : Nat) (hi : ops[i]? = some ⟨some d, op, ty, pos, af, none⟩) (hy : ∀ w, Runs P op ty n l w vv) (h : AW dl P ops Q fuel (listed.setIfInBounds i true) n ((d, vv) :: l) w)
 (hs : Region.noSelect ops = true := by kernel_rfl) (hf : Region.free .any ops listed i = true := by kernel_rfl) (hr : (Region.ready .any ops listed).contains i = true := by kernel_rfl) : AW dl P ops Q (fuel + 1) listed n l w := AW.take i hi hs hf hr Wanted.none hy h
theorem AWH.tk {fuel gg m : Nat} {listed : Array Bool} (i : Nat) (hi : ops[i]? = some ⟨some d, op, ty, pos, af, none⟩) (hC : C w) (hy : ∀ w, C w → Runs P op ty n l w vv) (h : AWH C m gg dl P ops Q fuel (listed.setIfInBounds i true) n ((d, vv) :: l) w)
 (hin : i < m := by decide) (hf : Region.free .any ops listed i = true := by kernel_rfl) (hr : (Region.ready .any ops listed).contains i = true := by kernel_rfl) : AWH C m gg dl P ops Q (fuel + 1) listed n l w := AWH.take i hi hin hf hr hC Wanted.none hy h
theorem AWH.kn {fuel gg m : Nat} {listed : Array Bool} (hC : C w) (h : C w → AWH C m gg dl P ops Q fuel listed n l w) : AWH C m gg dl P ops Q fuel listed n l w := h hC
theorem pa {cs : List Value} {o : Nat} (u : Value) (pre post : List Value) (hcs : cs = pre ++ ([u] ++ post) := by first | rfl | simp only [aa, an, na, ca]) (ho : pre.length = o := by rfl) : cs[o]? = some u := part_one hcs ho
theorem pm {cs : List Value} {o m : Nat} (pre mid post : List Value) (hcs : cs = pre ++ (mid ++ post) := by first | rfl | simp only [aa, an, na, ca]) (ho : pre.length = o := by rfl) (hm : mid.length = m := by rfl) : (cs.drop o).take m = mid := part_mid hcs ho hm
end Go.Kr
